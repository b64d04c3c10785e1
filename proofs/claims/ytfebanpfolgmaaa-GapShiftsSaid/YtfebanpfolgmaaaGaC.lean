/- What is said of each function of the gap laws; the evaluator computes just that. -/
import Derived.Test.YtfebanpfolgmaaaGaP
namespace Go.Vs.Ga
set_option linter.unusedVariables false
set_option maxRecDepth 100000
open Go.Proofs

noncomputable def envG (s18 : Xp → List Int → List Int → Option (Int × Unit)) (s21 : Cd → List Int → List Int → Option (Bool × Unit)) : EnvT Γ
  | 9 => [⟨[], .dats [.bool], fun _ => S9⟩]
  | 10 => [⟨[.dat (.rc 3)], .mat 22 3 i64, fun x => S10 x.1⟩]
  | 11 => [⟨[.dat gaps, .dat (.sl i32)], .arr 3 i64, fun x => S11 x.1 x.2.1⟩]
  | 12 => [⟨[.dat gaps, .dat ints, .dat (.sl u8)], .mat 22 3 i64, fun x => S12 x.1 x.2.1 x.2.2.1⟩]
  | 13 => [⟨[.dat (.rc 5), .dat i64], .dats [(.rc 5)], fun x => S13 x.1 x.2.1⟩]
  | 14 => [⟨[.dat gaps, .dat ints], .dats [.bool], fun x => S14 x.1 x.2.1⟩]
  | 15 => [⟨[.dat u8, .dat i64, .dat i64], .dats [exprT], fun x => S15 x.1 x.2.1 x.2.2.1⟩]
  | 16 => [⟨[.dat gaps, .dat i64, .dat exprT, .dat .bool], .mat 22 3 i64, fun x => S16 x.1 x.2.1 x.2.2.1 x.2.2.2.1⟩]
  | 17 => [⟨[.dat exprT, .dat ints], .dats [.bool], fun x => S17 x.1 x.2.1⟩]
  | 18 => [⟨[.dat exprT, .dat ints, .dat ints], .dats [i64], fun x => s18 x.1 x.2.1 x.2.2.1⟩]
  | 19 => [⟨[.dat gaps, .dat i64, .dat i64], .dats [i64], fun x => S19 x.1 x.2.1 x.2.2.1⟩]
  | 20 => [⟨[.dat gaps, .dat i64, .dat .bool, .dat exprT, .dat exprT, .dat (.rc 2)], .mat 22 3 i64, fun x => S20 x.1 x.2.1 x.2.2.1 x.2.2.2.1 x.2.2.2.2.1 x.2.2.2.2.2.1⟩]
  | 21 => [⟨[.dat condT, .dat ints, .dat ints], .dats [.bool], fun x => s21 x.1 x.2.1 x.2.2.1⟩]
  | 22 => [⟨[.dat gaps, .dat gaps], .dats [.bool], fun x => S22 x.1 x.2.1⟩]
  | 23 => [⟨[.dat i64, .dat i64], .mat 22 3 i64, fun x => S23 x.1 x.2.1⟩]
  | 24 => [⟨[.dat i64, .dat i64], .dats [exprT], fun x => S24 x.1 x.2.1⟩]
  | 25 => [⟨[.dat i64, .dat i64], .dats [exprT], fun x => S25 x.1 x.2.1⟩]
  | 26 => [⟨[], .dats [i64], fun _ => S26⟩]
  | 27 => [⟨[.dat gaps, .dat gaps], .dats [.bool], fun x => S27 x.1 x.2.1⟩]
  | 28 => [⟨[.dat gaps, .dat i64, .dat i64], .dats [.bool], fun x => S28 x.1 x.2.1 x.2.2.1⟩]
  | 29 => [⟨[.dat gaps, .dat gaps], .mat 22 3 i64, fun x => S29 x.1 x.2.1⟩]
  | 30 => [⟨[.dat gaps, .dat gaps], .mat 22 3 i64, fun x => S30 x.1 x.2.1⟩]
  | 31 => [⟨[.dat i64, .dat i64], .mat 22 3 i64, fun x => S31 x.1 x.2.1⟩]
  | 32 => [⟨[.dat gaps, .dat i64, .dat exprT, .dat .bool], .mat 22 3 i64, fun x => S32 x.1 x.2.1 x.2.2.1 x.2.2.2.1⟩]
  | 33 => [⟨[.dat gaps, .dat i64, .dat .bool, .dat exprT, .dat exprT, .dat (.rc 2)], .mat 22 3 i64, fun x => S33 x.1 x.2.1 x.2.2.1 x.2.2.2.1 x.2.2.2.2.1 x.2.2.2.2.2.1⟩]
  | 34 => [⟨[.dat gaps, .dat gaps], .mat 22 3 i64, fun x => S34 x.1 x.2.1⟩]
  | 35 => [⟨[.dat gaps, .dat gaps], .mat 22 3 i64, fun x => S35 x.1 x.2.1⟩]
  | 36 => [⟨[.dat gaps, .dat gaps], .dats [.bool], fun x => S36 x.1 x.2.1⟩]
  | 37 => [⟨[.dat gaps, .dat i64, .dat i64], .dats [i64], fun x => S37 x.1 x.2.1 x.2.2.1⟩]
  | 38 => [⟨[.dat gaps], .mat 22 3 i64, fun x => S38 x.1⟩]
  | 39 => [⟨[.dat gaps, .dat i64, .dat i64], .dats [.bool], fun x => S39 x.1 x.2.1 x.2.2.1⟩]
  | 40 => [⟨[], .dats [(.rc 2)], fun _ => S40⟩]
  | 41 => [⟨[.dat i64], .dats [exprT], fun x => S41 x.1⟩]
  | 42 => [⟨[.dat i64], .dats [.bool], fun x => S42 x.1⟩]
  | 43 => [⟨[.dat i64], .dats [i64], fun x => S43 x.1⟩]
  | 44 => [⟨[.dat i64, .dat exprT, .dat exprT], .dats [exprT], fun x => S44 x.1 x.2.1 x.2.2.1⟩]
  | 45 => [⟨[.dat i64], .dats [exprT], fun x => S45 x.1⟩]
  | 46 => [⟨[.dat gaps], .mat 22 3 i64, fun x => S46 x.1⟩]
  | 47 => [⟨[.dat exprT, .dat i64], .dats [shiftT, .bool], fun x => S47 x.1 x.2.1⟩]
  | 48 => [⟨[.dat i64, .dat i64], .dats [i64], fun x => S48 x.1 x.2.1⟩]
  | 49 => [⟨[.dat exprT, .dat i64], .dats [i64, i64, .bool], fun x => S49 x.1 x.2.1⟩]
  | 50 => [⟨[.dat ints, .dat i64], .dats [i64], fun x => S50 x.1 x.2.1⟩]
  | 51 => [⟨[.dat i64], .dats [.bool], fun x => S51 x.1⟩]
  | 52 => [⟨[.dat i64, .dat i64, .dat i64], .dats [i64], fun x => S52 x.1 x.2.1 x.2.2.1⟩]
  | 53 => [⟨[.dat (.sl exprT), .dat i64], .dats [exprT], fun x => S53 x.1 x.2.1⟩]
  | 54 => [⟨[.dat shiftT, .dat shiftT, .dat i64, .ioM 34 22 3 i64, .ptr gaps], .io 34 22 3 i64, fun x => S54 x.1 x.2.1 x.2.2.1 x.2.2.2.1 x.2.2.2.2.1⟩]
  | 55 => [⟨[.dat (.sl condT), .dat i64], .dats [condT], fun x => S55 x.1 x.2.1⟩]
  | 56 => [⟨[.dat ints, .dat i64], .arr 3 i64, fun x => S56 x.1 x.2.1⟩]
  | 57 => [⟨[.dat gaps, .clo 58 [i64]], .dats [.bool], fun x => S57 x.1 x.2.1⟩]
  | 58 => [⟨[.dat ints, .ptr i64], .dats [.bool], fun x => S58 x.1 x.2.1⟩]
  | 59 => [⟨[.dat ints, .clo 60 []], .dats [.bool], fun x => S59 x.1 x.2.1⟩]
  | 60 => [⟨[.dat i64], .dats [.bool], fun x => S60 x.1⟩]
  | 61 => [⟨[.dat i64], .dats [.bool], fun x => S61 x.1⟩]
  | 62 => [⟨[.dat gaps, .dat gaps, .clo 63 []], .mat 22 3 i64, fun x => S62 x.1 x.2.1 x.2.2.1⟩, ⟨[.dat gaps, .dat gaps, .clo 64 []], .mat 22 3 i64, fun x => S162 x.1 x.2.1 x.2.2.1⟩]
  | 63 => [⟨[.dat i64, .dat i64], .dats [i64], fun x => S63 x.1 x.2.1⟩]
  | 64 => [⟨[.dat i64, .dat i64], .dats [i64], fun x => S64 x.1 x.2.1⟩]
  | 65 => [⟨[.dat i64, .dat i64], .dats [i64], fun x => S65 x.1 x.2.1⟩]
  | 66 => [⟨[.dat gaps, .dat gaps, .dat i64, .dat i64, .dat i64], .mat 22 3 i64, fun x => S66 x.1 x.2.1 x.2.2.1 x.2.2.2.1 x.2.2.2.2.1⟩]
  | 67 => [⟨[.dat gaps], .arr 22 ints, fun x => S67 x.1⟩]
  | 68 => [⟨[.dat ints], .arr 3 i64, fun x => S68 x.1⟩]
  | 69 => [⟨[.dat exprT, .ptr i64], .dats [.bool], fun x => S69 x.1 x.2.1⟩]
  | 70 => [⟨[.dat exprT], .dats [.bool], fun x => S70 x.1⟩]
  | 71 => [⟨[.dat exprT, .dat i64], .dats [.bool], fun x => S71 x.1 x.2.1⟩]
  | 72 => [⟨[.dat exprT], .dats [.bool], fun x => S72 x.1⟩]
  | 73 => [⟨[.dat (.int .u64), .dat (.int .u64)], .dats [.int .u64, .int .u64], fun x => S73 x.1 x.2.1⟩]
  | 74 => [⟨[.dat gaps, .clo 58 [i64]], .dats [i64], fun x => S74 x.1 x.2.1⟩]
  | 75 => [⟨[.dat ints, .clo 60 []], .dats [i64], fun x => S75 x.1 x.2.1⟩]
  | 77 => [⟨[.dat (.int .u64), .dat (.int .u64)], .dats [.int .u64, .int .u64], fun x => S77 x.1 x.2.1⟩]
  | _ => []
noncomputable def envR (l : List Nat) (s18 : Xp → List Int → List Int → Option (Int × Unit)) (s21 : Cd → List Int → List Int → Option (Bool × Unit)) : EnvT Γ := fun f => cond (l.elem f) (envG s18 s21 f) []

def ann3 : Ann := ⟨[(20, [(3, .varD 32 (.rc 5)), (5, .dat .bool), (6, .mat 22 3 i64), (8, .dat i64), (10, .mat 22 3 i64), (12, .dat i64)]),
  (23, [(3, .varD 32 (.rc 5)), (5, .dat .bool), (6, .mat 22 3 i64), (8, .dat i64), (10, .mat 22 3 i64), (12, .dat i64), (13, .dat i64)])], []⟩
def ann5 : Ann := ⟨[(10, [(1, .dat (.sl i32)), (2, .dat (.sl u8)), (7, .dat .bool), (8, .dat i64), (9, .mat 22 3 i64), (10, .dat i64), (11, .dat i64), (12, .dat .bool), (13, .dat i64)]),
  (29, [(7, .dat .bool), (8, .dat i64), (9, .mat 22 3 i64), (10, .dat i64), (16, .dat i64), (17, .dat i64)])], []⟩
def ann7 : Ann := ⟨[(15, [(7, .dat .bool), (8, .mat 22 3 i64), (10, .mat 22 3 i64), (11, .mat 22 3 i64), (12, .dat i64)]),
  (18, [(7, .dat .bool), (8, .mat 22 3 i64), (10, .mat 22 3 i64), (11, .mat 22 3 i64), (12, .dat i64), (13, .dat i64)])], []⟩
def ann10 : Ann := ⟨[(6, [(1, .varD 24 (.rc 3)), (3, .dat i64), (4, .dat i64), (5, .mat 22 3 i64), (6, .dat i64), (7, .dat i64)]),
  (9, [(1, .varD 24 (.rc 3)), (3, .dat i64), (4, .dat i64), (5, .mat 22 3 i64), (6, .dat i64), (7, .dat i64), (8, .dat i64)])], []⟩
def ann11 : Ann := ⟨[(3, [(0, .dat gaps), (1, .dat (.sl i32)), (5, .arr 3 i64), (6, .dat i64)])], []⟩
def ann12 : Ann := ⟨[(4, [(0, .dat gaps), (1, .dat ints), (2, .dat (.sl u8)), (7, .mat 22 3 i64), (8, .dat i64), (9, .dat i64)]),
  (7, [(0, .dat gaps), (1, .dat ints), (2, .dat (.sl u8)), (7, .mat 22 3 i64), (8, .dat i64), (9, .dat i64), (10, .dat i64)])], [(12, [(0, .dat gaps), (1, .dat ints), (2, .dat (.sl u8)), (7, .mat 22 3 i64), (8, .dat i64), (9, .dat i64), (10, .dat i64), (11, .dat i64)]), (8, [(0, .dat gaps), (1, .dat ints), (2, .dat (.sl u8)), (7, .mat 22 3 i64), (8, .dat i64), (9, .dat i64), (10, .dat i64)])]⟩
def ann14 : Ann := ⟨[(2, [(1, .dat ints), (9, .dat gaps), (10, .dat i64), (11, .dat i64)]),
  (5, [(1, .dat ints), (5, .dat i64), (9, .dat gaps), (10, .dat i64), (11, .dat i64), (16, .dat ints), (17, .dat i64), (18, .dat i64)])], []⟩
def ann16 : Ann := ⟨[(6, [(0, .dat gaps), (1, .dat i64), (3, .dat .bool), (9, .mat 22 3 i64), (10, .varD 71 shiftT), (11, .dat .bool), (35, .dat i64), (36, .dat i64)])], []⟩
def ann22 : Ann := ⟨[(2, [(0, .dat gaps), (1, .dat gaps), (8, .dat i64), (9, .dat i64)]),
  (5, [(0, .dat gaps), (1, .dat gaps), (5, .dat i64), (8, .dat i64), (9, .dat i64), (16, .dat i64), (17, .dat i64)])], []⟩
def ann23 : Ann := ⟨[(3, [(1, .dat i64), (5, .mat 22 3 i64), (10, .dat i64), (11, .dat i64)])], []⟩
def ann27 : Ann := ⟨[(4, [(0, .dat gaps), (1, .dat gaps), (5, .dat i64)]),
  (9, [(0, .dat gaps), (1, .dat gaps), (5, .dat i64), (6, .dat i64)])], []⟩
def ann31 : Ann := ⟨[(3, [(0, .dat i64), (1, .dat i64), (5, .mat 22 3 i64), (6, .dat i64)]),
  (7, [(0, .dat i64), (1, .dat i64), (5, .mat 22 3 i64), (6, .dat i64), (7, .arr 3 i64), (8, .dat i64)])], []⟩
def ann32 : Ann := ⟨[(6, [(0, .dat gaps), (1, .dat i64), (3, .dat .bool), (9, .mat 22 3 i64), (10, .dat i64), (11, .dat i64), (12, .dat .bool), (13, .dat i64)])], []⟩
def ann34 : Ann := ⟨[(3, [(0, .dat gaps), (1, .dat gaps), (5, .mat 22 3 i64), (6, .dat i64)]),
  (6, [(0, .dat gaps), (1, .dat gaps), (5, .mat 22 3 i64), (6, .dat i64), (7, .dat i64)])], []⟩
def ann35 : Ann := ⟨[(3, [(0, .dat gaps), (1, .dat gaps), (5, .mat 22 3 i64), (6, .dat i64)]),
  (6, [(0, .dat gaps), (1, .dat gaps), (5, .mat 22 3 i64), (6, .dat i64), (7, .dat i64)])], []⟩
def ann36 : Ann := ⟨[(2, [(0, .dat gaps), (1, .dat gaps), (5, .dat i64)]),
  (5, [(0, .dat gaps), (1, .dat gaps), (5, .dat i64), (6, .dat i64)])], []⟩
def ann38 : Ann := ⟨[(3, [(0, .dat gaps), (3, .mat 22 3 i64), (4, .dat i64)])], []⟩
def ann39 : Ann := ⟨[(4, [(0, .dat gaps), (1, .dat i64), (2, .dat i64), (7, .dat i64)]),
  (9, [(0, .dat gaps), (1, .dat i64), (2, .dat i64), (7, .dat i64), (8, .dat i64)])], []⟩
def ann46 : Ann := ⟨[(3, [(0, .dat gaps), (3, .mix 22 3 i64), (8, .dat i64), (9, .dat i64)])], []⟩
def ann54 : Ann := ⟨[(2, [(2, .dat i64), (5, .varD 71 shiftT), (6, .varD 71 shiftT), (14, .dat i64), (15, .dat i64), (3, .varL 34 22 3 i64), (4, .fzp gaps)])], []⟩
def ann56 : Ann := ⟨[(8, [(7, .arr 3 i64), (8, .dat i64)])], []⟩
def ann62 : Ann := ⟨[(3, [(0, .dat gaps), (1, .dat gaps), (7, .mat 22 3 i64), (13, .dat i64), (14, .dat i64), (2, .clofz 63 [])]),
  (6, [(0, .dat gaps), (1, .dat gaps), (7, .mat 22 3 i64), (8, .dat i64), (13, .dat i64), (14, .dat i64), (21, .dat i64), (22, .dat i64), (2, .clofz 63 [])])], []⟩
def ann162 : Ann := ⟨[(3, [(0, .dat gaps), (1, .dat gaps), (7, .mat 22 3 i64), (13, .dat i64), (14, .dat i64), (2, .clofz 64 [])]),
  (6, [(0, .dat gaps), (1, .dat gaps), (7, .mat 22 3 i64), (8, .dat i64), (13, .dat i64), (14, .dat i64), (21, .dat i64), (22, .dat i64), (2, .clofz 64 [])])], []⟩
def ann66 : Ann := ⟨[(3, [(0, .mat 22 3 i64), (1, .dat gaps), (2, .dat i64), (3, .dat i64), (4, .dat i64), (11, .dat i64)])], []⟩
def ann74 : Ann := ⟨[(2, [(0, .dat gaps), (1, .clofz 58 [i64]), (7, .dat i64), (8, .dat i64)])], []⟩
def ann75 : Ann := ⟨[(2, [(0, .dat ints), (1, .clofz 60 []), (7, .dat i64), (8, .dat i64)])], []⟩

theorem e14 (fuel : Nat) (a : List (List Int)) (b : List Int) : vFun ti (envR [] S18 S21) ann14 fuel Try.f14 [.dat gaps, .dat ints] (.dats [.bool]) (a, b, ()) = p14 fuel a b := by kernel_rfl
theorem e67 (fuel : Nat) (a : List (List Int)) : vFun ti (envR [] S18 S21) Ann.none fuel Try.f67 [.dat gaps] (.arr 22 ints) (a, ()) = p67 fuel a := by kernel_rfl
theorem e68 (fuel : Nat) (a : List Int) : vFun ti (envR [] S18 S21) Ann.none fuel Try.f68 [.dat ints] (.arr 3 i64) (a, ()) = p68 fuel a := by kernel_rfl
theorem e46 (fuel : Nat) (a : List (List Int)) : vFun ti (envR [67, 68] S18 S21) ann46 fuel Try.f46 [.dat gaps] (.mat 22 3 i64) (a, ()) = p46 fuel a := by kernel_rfl
theorem e69 (fuel : Nat) (a : Xp) (b : Int) : vFun ti (envR [] S18 S21) Ann.none fuel Try.f69 [.dat exprT, .ptr i64] (.dats [.bool]) (a, b, ()) = p69 fuel a b := by kernel_rfl
theorem e70 (fuel : Nat) (a : Xp) : vFun ti (envR [] S18 S21) Ann.none fuel Try.f70 [.dat exprT] (.dats [.bool]) (a, ()) = p70 fuel a := by kernel_rfl
theorem e47 (fuel : Nat) (a : Xp) (b : Int) : vFun ti (envR [69, 70] S18 S21) Ann.none fuel Try.f47 [.dat exprT, .dat i64] (.dats [shiftT, .bool]) (a, b, ()) = p47 fuel a b := by kernel_rfl
theorem e61 (fuel : Nat) (a : Int) : vFun ti (envR [] S18 S21) Ann.none fuel Try.f61 [.dat i64] (.dats [.bool]) (a, ()) = p61 fuel a := by kernel_rfl
theorem e48 (fuel : Nat) (a : Int) (b : Int) : vFun ti (envR [61] S18 S21) Ann.none fuel Try.f48 [.dat i64, .dat i64] (.dats [i64]) (a, b, ()) = p48 fuel a b := by kernel_rfl
theorem e16 (fuel : Nat) (a : List (List Int)) (b : Int) (c : Xp) (d : Bool) : vFun ti (envR [46, 47, 48] S18 S21) ann16 fuel Try.f16 [.dat gaps, .dat i64, .dat exprT, .dat .bool] (.mat 22 3 i64) (a, b, c, d, ()) = p16 fuel a b c d := by kernel_rfl
theorem e19 (fuel : Nat) (a : List (List Int)) (b : Int) (c : Int) : vFun ti (envR [] S18 S21) Ann.none fuel Try.f19 [.dat gaps, .dat i64, .dat i64] (.dats [i64]) (a, b, c, ()) = p19 fuel a b c := by kernel_rfl
theorem e54 (fuel : Nat) (a : Shift) (b : Shift) (c : Int) (d : List (List Int)) (e : List (List Int)) : vFun ti (envR [48] S18 S21) ann54 fuel Try.f54 [.dat shiftT, .dat shiftT, .dat i64, .ioM 34 22 3 i64, .ptr gaps] (.io 34 22 3 i64) (a, b, c, d, e, ()) = p54 fuel a b c d e := by kernel_rfl
theorem e20 (fuel : Nat) (a : List (List Int)) (b : Int) (c : Bool) (d : Xp) (e : Xp) (f : Pair Bool) : vFun ti (envR [46, 47, 54] S18 S21) Ann.none fuel Try.f20 [.dat gaps, .dat i64, .dat .bool, .dat exprT, .dat exprT, .dat (.rc 2)] (.mat 22 3 i64) (a, b, c, d, e, f, ()) = p20 fuel a b c d e f := by kernel_rfl
theorem e22 (fuel : Nat) (a : List (List Int)) (b : List (List Int)) : vFun ti (envR [] S18 S21) ann22 fuel Try.f22 [.dat gaps, .dat gaps] (.dats [.bool]) (a, b, ()) = p22 fuel a b := by kernel_rfl
theorem e77 (fuel : Nat) (a : Int) (b : Int) : vFun ti (envR [] S18 S21) Ann.none fuel Try.f77 [.dat (.int .u64), .dat (.int .u64)] (.dats [.int .u64, .int .u64]) (a, b, ()) = p77 fuel a b := by kernel_rfl
theorem e73 (fuel : Nat) (a : Int) (b : Int) : vFun ti (envR [77] S18 S21) Ann.none fuel Try.f73 [.dat (.int .u64), .dat (.int .u64)] (.dats [.int .u64, .int .u64]) (a, b, ()) = p73 fuel a b := by kernel_rfl
theorem e56 (fuel : Nat) (a : List Int) (b : Int) : vFun ti (envR [73] S18 S21) ann56 fuel Try.f56 [.dat ints, .dat i64] (.arr 3 i64) (a, b, ()) = p56 fuel a b := by kernel_rfl
theorem e23 (fuel : Nat) (a : Int) (b : Int) : vFun ti (envR [56] S18 S21) ann23 fuel Try.f23 [.dat i64, .dat i64] (.mat 22 3 i64) (a, b, ()) = p23 fuel a b := by kernel_rfl
theorem e41 (fuel : Nat) (a : Int) : vFun ti (envR [] S18 S21) Ann.none fuel Try.f41 [.dat i64] (.dats [exprT]) (a, ()) = p41 fuel a := by kernel_rfl
theorem e44 (fuel : Nat) (a : Int) (b : Xp) (c : Xp) : vFun ti (envR [] S18 S21) Ann.none fuel Try.f44 [.dat i64, .dat exprT, .dat exprT] (.dats [exprT]) (a, b, c, ()) = p44 fuel a b c := by kernel_rfl
theorem e45 (fuel : Nat) (a : Int) : vFun ti (envR [] S18 S21) Ann.none fuel Try.f45 [.dat i64] (.dats [exprT]) (a, ()) = p45 fuel a := by kernel_rfl
theorem e24 (fuel : Nat) (a : Int) (b : Int) : vFun ti (envR [41, 44, 45] S18 S21) Ann.none fuel Try.f24 [.dat i64, .dat i64] (.dats [exprT]) (a, b, ()) = p24 fuel a b := by kernel_rfl
theorem e25 (fuel : Nat) (a : Int) (b : Int) : vFun ti (envR [41, 44, 45] S18 S21) Ann.none fuel Try.f25 [.dat i64, .dat i64] (.dats [exprT]) (a, b, ()) = p25 fuel a b := by kernel_rfl
theorem e60 (fuel : Nat) (a : Int) : vFun ti (envR [61] S18 S21) Ann.none fuel Try.f60 [.dat i64] (.dats [.bool]) (a, ()) = p60 fuel a := by kernel_rfl
theorem e75 (fuel : Nat) (a : List Int) (b : Unit) : vFun ti (envR [60] S18 S21) ann75 fuel Try.f75 [.dat ints, .clo 60 []] (.dats [i64]) (a, b, ()) = p75 fuel a b := by kernel_rfl
theorem e59 (fuel : Nat) (a : List Int) (b : Unit) : vFun ti (envR [75] S18 S21) Ann.none fuel Try.f59 [.dat ints, .clo 60 []] (.dats [.bool]) (a, b, ()) = p59 fuel a b := by kernel_rfl
theorem e58 (fuel : Nat) (a : List Int) (b : Int) : vFun ti (envR [59] S18 S21) Ann.none fuel Try.f58 [.dat ints, .ptr i64] (.dats [.bool]) (a, b, ()) = p58 fuel a b := by kernel_rfl
theorem e74 (fuel : Nat) (a : List (List Int)) (b : Int × Unit) : vFun ti (envR [58] S18 S21) ann74 fuel Try.f74 [.dat gaps, .clo 58 [i64]] (.dats [i64]) (a, b, ()) = p74 fuel a b := by kernel_rfl
theorem e57 (fuel : Nat) (a : List (List Int)) (b : Int × Unit) : vFun ti (envR [74] S18 S21) Ann.none fuel Try.f57 [.dat gaps, .clo 58 [i64]] (.dats [.bool]) (a, b, ()) = p57 fuel a b := by kernel_rfl
theorem e28 (fuel : Nat) (a : List (List Int)) (b : Int) (c : Int) : vFun ti (envR [57] S18 S21) Ann.none fuel Try.f28 [.dat gaps, .dat i64, .dat i64] (.dats [.bool]) (a, b, c, ()) = p28 fuel a b c := by kernel_rfl
theorem e40 (fuel : Nat)  : vFun ti (envR [] S18 S21) Ann.none fuel Try.f40 [] (.dats [(.rc 2)]) () = p40 fuel  := by kernel_rfl
theorem e9 (fuel : Nat)  : vFun ti (envR [14, 16, 19, 20, 22, 23, 24, 25, 28, 40, 41] S18 S21) Ann.none fuel Try.f9 [] (.dats [.bool]) () = p9 fuel  := by kernel_rfl
theorem e31 (fuel : Nat) (a : Int) (b : Int) : vFun ti (envR [] S18 S21) ann31 fuel Try.f31 [.dat i64, .dat i64] (.mat 22 3 i64) (a, b, ()) = p31 fuel a b := by kernel_rfl
theorem e26 (fuel : Nat)  : vFun ti (envR [] S18 S21) Ann.none fuel Try.f26 [] (.dats [i64]) () = p26 fuel  := by kernel_rfl
theorem e42 (fuel : Nat) (a : Int) : vFun ti (envR [26] S18 S21) Ann.none fuel Try.f42 [.dat i64] (.dats [.bool]) (a, ()) = p42 fuel a := by kernel_rfl
theorem e10 (fuel : Nat) (a : Raw) : vFun ti (envR [31, 42] S18 S21) ann10 fuel Try.f10 [.dat (.rc 3)] (.mat 22 3 i64) (a, ()) = p10 fuel a := by kernel_rfl
theorem e11 (fuel : Nat) (a : List (List Int)) (b : List Int) : vFun ti (envR [] S18 S21) ann11 fuel Try.f11 [.dat gaps, .dat (.sl i32)] (.arr 3 i64) (a, b, ()) = p11 fuel a b := by kernel_rfl
theorem e38 (fuel : Nat) (a : List (List Int)) : vFun ti (envR [] S18 S21) ann38 fuel Try.f38 [.dat gaps] (.mat 22 3 i64) (a, ()) = p38 fuel a := by kernel_rfl
theorem e12 (fuel : Nat) (a : List (List Int)) (b : List Int) (c : List Int) : vFun ti (envR [38] S18 S21) ann12 fuel Try.f12 [.dat gaps, .dat ints, .dat (.sl u8)] (.mat 22 3 i64) (a, b, c, ()) = p12 fuel a b c := by kernel_rfl
theorem e43 (fuel : Nat) (a : Int) : vFun ti (envR [] S18 S21) Ann.none fuel Try.f43 [.dat i64] (.dats [i64]) (a, ()) = p43 fuel a := by kernel_rfl
theorem e13 (fuel : Nat) (a : Step) (b : Int) : vFun ti (envR [43] S18 S21) Ann.none fuel Try.f13 [.dat (.rc 5), .dat i64] (.dats [(.rc 5)]) (a, b, ()) = p13 fuel a b := by kernel_rfl
theorem e15 (fuel : Nat) (a : Int) (b : Int) (c : Int) : vFun ti (envR [24, 25, 41, 44, 45] S18 S21) Ann.none fuel Try.f15 [.dat u8, .dat i64, .dat i64] (.dats [exprT]) (a, b, c, ()) = p15 fuel a b c := by kernel_rfl
theorem e50 (fuel : Nat) (a : List Int) (b : Int) : vFun ti (envR [43] S18 S21) Ann.none fuel Try.f50 [.dat ints, .dat i64] (.dats [i64]) (a, b, ()) = p50 fuel a b := by kernel_rfl
theorem e51 (fuel : Nat) (a : Int) : vFun ti (envR [] S18 S21) Ann.none fuel Try.f51 [.dat i64] (.dats [.bool]) (a, ()) = p51 fuel a := by kernel_rfl
theorem e52 (fuel : Nat) (a : Int) (b : Int) (c : Int) : vFun ti (envR [43] S18 S21) Ann.none fuel Try.f52 [.dat i64, .dat i64, .dat i64] (.dats [i64]) (a, b, c, ()) = p52 fuel a b c := by kernel_rfl
theorem e53 (fuel : Nat) (a : List Xp) (b : Int) : vFun ti (envR [] S18 S21) Ann.none fuel Try.f53 [.dat (.sl exprT), .dat i64] (.dats [exprT]) (a, b, ()) = p53 fuel a b := by kernel_rfl
theorem e18 (self : Xp → List Int → List Int → Option (Int × Unit)) (fuel : Nat) (a : Xp) (b : List Int) (c : List Int) : vFun ti (envR [18, 43, 50, 51, 52, 53] self S21) Ann.none fuel Try.f18 [.dat exprT, .dat ints, .dat ints] (.dats [i64]) (a, b, c, ()) = p18 self fuel a b c := by kernel_rfl
theorem e71 (fuel : Nat) (a : Xp) (b : Int) : vFun ti (envR [] S18 S21) Ann.none fuel Try.f71 [.dat exprT, .dat i64] (.dats [.bool]) (a, b, ()) = p71 fuel a b := by kernel_rfl
theorem e72 (fuel : Nat) (a : Xp) : vFun ti (envR [] S18 S21) Ann.none fuel Try.f72 [.dat exprT] (.dats [.bool]) (a, ()) = p72 fuel a := by kernel_rfl
theorem e49 (fuel : Nat) (a : Xp) (b : Int) : vFun ti (envR [71, 72] S18 S21) Ann.none fuel Try.f49 [.dat exprT, .dat i64] (.dats [i64, i64, .bool]) (a, b, ()) = p49 fuel a b := by kernel_rfl
theorem e17 (fuel : Nat) (a : Xp) (b : List Int) : vFun ti (envR [18, 49] S18 S21) Ann.none fuel Try.f17 [.dat exprT, .dat ints] (.dats [.bool]) (a, b, ()) = p17 fuel a b := by kernel_rfl
theorem e55 (fuel : Nat) (a : List Cd) (b : Int) : vFun ti (envR [] S18 S21) Ann.none fuel Try.f55 [.dat (.sl condT), .dat i64] (.dats [condT]) (a, b, ()) = p55 fuel a b := by kernel_rfl
theorem e21 (self : Cd → List Int → List Int → Option (Bool × Unit)) (fuel : Nat) (a : Cd) (b : List Int) (c : List Int) : vFun ti (envR [18, 21, 53, 55] S18 self) Ann.none fuel Try.f21 [.dat condT, .dat ints, .dat ints] (.dats [.bool]) (a, b, c, ()) = p21 self fuel a b c := by kernel_rfl
theorem e27 (fuel : Nat) (a : List (List Int)) (b : List (List Int)) : vFun ti (envR [] S18 S21) ann27 fuel Try.f27 [.dat gaps, .dat gaps] (.dats [.bool]) (a, b, ()) = p27 fuel a b := by kernel_rfl
theorem e63 (fuel : Nat) (a : Int) (b : Int) : vFun ti (envR [] S18 S21) Ann.none fuel Try.f63 [.dat i64, .dat i64] (.dats [i64]) (a, b, ()) = p63 fuel a b := by kernel_rfl
theorem e62 (fuel : Nat) (a : List (List Int)) (b : List (List Int)) (c : Unit) : vFun ti (envR [46, 63] S18 S21) ann62 fuel Try.f62 [.dat gaps, .dat gaps, .clo 63 []] (.mat 22 3 i64) (a, b, c, ()) = p62 fuel a b c := by kernel_rfl
theorem e29 (fuel : Nat) (a : List (List Int)) (b : List (List Int)) : vFun ti (envR [62] S18 S21) Ann.none fuel Try.f29 [.dat gaps, .dat gaps] (.mat 22 3 i64) (a, b, ()) = p29 fuel a b := by kernel_rfl
theorem e64 (fuel : Nat) (a : Int) (b : Int) : vFun ti (envR [] S18 S21) Ann.none fuel Try.f64 [.dat i64, .dat i64] (.dats [i64]) (a, b, ()) = p64 fuel a b := by kernel_rfl
theorem e162 (fuel : Nat) (a : List (List Int)) (b : List (List Int)) (c : Unit) : vFun ti (envR [46, 64] S18 S21) ann162 fuel Try.f62 [.dat gaps, .dat gaps, .clo 64 []] (.mat 22 3 i64) (a, b, c, ()) = p162 fuel a b c := by kernel_rfl
theorem e30 (fuel : Nat) (a : List (List Int)) (b : List (List Int)) : vFun ti (envR [62] S18 S21) Ann.none fuel Try.f30 [.dat gaps, .dat gaps] (.mat 22 3 i64) (a, b, ()) = p30 fuel a b := by kernel_rfl
theorem e65 (fuel : Nat) (a : Int) (b : Int) : vFun ti (envR [42] S18 S21) Ann.none fuel Try.f65 [.dat i64, .dat i64] (.dats [i64]) (a, b, ()) = p65 fuel a b := by kernel_rfl
theorem e32 (fuel : Nat) (a : List (List Int)) (b : Int) (c : Xp) (d : Bool) : vFun ti (envR [38, 49, 65] S18 S21) ann32 fuel Try.f32 [.dat gaps, .dat i64, .dat exprT, .dat .bool] (.mat 22 3 i64) (a, b, c, d, ()) = p32 fuel a b c d := by kernel_rfl
theorem e66 (fuel : Nat) (a : List (List Int)) (b : List (List Int)) (c : Int) (d : Int) (e : Int) : vFun ti (envR [38, 65] S18 S21) ann66 fuel Try.f66 [.dat gaps, .dat gaps, .dat i64, .dat i64, .dat i64] (.mat 22 3 i64) (a, b, c, d, e, ()) = p66 fuel a b c d e := by kernel_rfl
theorem e33 (fuel : Nat) (a : List (List Int)) (b : Int) (c : Bool) (d : Xp) (e : Xp) (f : Pair Bool) : vFun ti (envR [38, 49, 66] S18 S21) Ann.none fuel Try.f33 [.dat gaps, .dat i64, .dat .bool, .dat exprT, .dat exprT, .dat (.rc 2)] (.mat 22 3 i64) (a, b, c, d, e, f, ()) = p33 fuel a b c d e f := by kernel_rfl
theorem e34 (fuel : Nat) (a : List (List Int)) (b : List (List Int)) : vFun ti (envR [38] S18 S21) ann34 fuel Try.f34 [.dat gaps, .dat gaps] (.mat 22 3 i64) (a, b, ()) = p34 fuel a b := by kernel_rfl
theorem e35 (fuel : Nat) (a : List (List Int)) (b : List (List Int)) : vFun ti (envR [38] S18 S21) ann35 fuel Try.f35 [.dat gaps, .dat gaps] (.mat 22 3 i64) (a, b, ()) = p35 fuel a b := by kernel_rfl
theorem e36 (fuel : Nat) (a : List (List Int)) (b : List (List Int)) : vFun ti (envR [] S18 S21) ann36 fuel Try.f36 [.dat gaps, .dat gaps] (.dats [.bool]) (a, b, ()) = p36 fuel a b := by kernel_rfl
theorem e37 (fuel : Nat) (a : List (List Int)) (b : Int) (c : Int) : vFun ti (envR [] S18 S21) Ann.none fuel Try.f37 [.dat gaps, .dat i64, .dat i64] (.dats [i64]) (a, b, c, ()) = p37 fuel a b c := by kernel_rfl
theorem e39 (fuel : Nat) (a : List (List Int)) (b : Int) (c : Int) : vFun ti (envR [42] S18 S21) ann39 fuel Try.f39 [.dat gaps, .dat i64, .dat i64] (.dats [.bool]) (a, b, c, ()) = p39 fuel a b c := by kernel_rfl
theorem e3 (fuel : Nat) (a : Ga.Input) (b : Step) : vFun ti (envR [9, 10, 11, 12, 13, 14, 15, 16, 17, 18, 19] S18 S21) ann3 fuel Try.f3 [.dat (.rc 4), .dat (.rc 5)] (.dats [.bool]) (a, b, ()) = p3 fuel a b := by kernel_rfl
theorem e4 (fuel : Nat) (a : Ga.Input) (b : Step) : vFun ti (envR [9, 10, 11, 12, 13, 14, 15, 17, 20, 21, 22] S18 S21) Ann.none fuel Try.f4 [.dat (.rc 4), .dat (.rc 5)] (.dats [.bool]) (a, b, ()) = p4 fuel a b := by kernel_rfl
theorem e5 (fuel : Nat) (a : Int) (b : List Int) (c : List Int) : vFun ti (envR [9, 16, 19, 23, 24, 25, 26, 27, 28] S18 S21) ann5 fuel Try.f5 [.dat u8, .dat (.sl i32), .dat (.sl u8)] (.dats [.bool]) (a, b, c, ()) = p5 fuel a b c := by kernel_rfl
theorem e6 (fuel : Nat) (a : Ga.Input) (b : Raw) (c : List Int) : vFun ti (envR [9, 10, 11, 12, 14, 22, 27, 29] S18 S21) Ann.none fuel Try.f6 [.dat (.rc 4), .dat (.rc 3), .dat (.sl u8)] (.dats [.bool]) (a, b, c, ()) = p6 fuel a b c := by kernel_rfl
theorem e7 (fuel : Nat) (a : Raw) (b : Raw) (c : Raw) : vFun ti (envR [9, 10, 19, 22, 27, 30] S18 S21) ann7 fuel Try.f7 [.dat (.rc 3), .dat (.rc 3), .dat (.rc 3)] (.dats [.bool]) (a, b, c, ()) = p7 fuel a b c := by kernel_rfl
theorem e8 (fuel : Nat) (a : Raw) (b : Raw) (c : Step) : vFun ti (envR [9, 10, 15, 16, 19, 20, 22, 23, 27, 28, 29, 30, 31, 32, 33, 34, 35, 36, 37, 38, 39, 40] S18 S21) Ann.none fuel Try.f8 [.dat (.rc 3), .dat (.rc 3), .dat (.rc 5)] (.dats [.bool]) (a, b, c, ()) = p8 fuel a b c := by kernel_rfl
end Go.Vs.Ga
