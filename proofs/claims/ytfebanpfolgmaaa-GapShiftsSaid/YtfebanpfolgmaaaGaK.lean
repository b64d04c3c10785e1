/- The contracts of the functions of the gap laws. -/
import Derived.Test.YtfebanpfolgmaaaGaC
namespace Go.Vs.Ga
set_option linter.unusedVariables false
set_option maxRecDepth 100000
open Go.Proofs

def OkG (s18 : Xp → List Int → List Int → Option (Int × Unit)) (s21 : Cd → List Int → List Int → Option (Bool × Unit)) (n : Nat) : Prop := ∀ sp ∈ envG s18 s21 n, Contract Try.prog n sp ∧ Callable Try.prog n
abbrev Ok (n : Nat) : Prop := OkG S18 S21 n
theorem envR_ok (s18 : Xp → List Int → List Int → Option (Int × Unit)) (s21 : Cd → List Int → List Int → Option (Bool × Unit)) (l : List Nat) (h : ∀ n ∈ l, OkG s18 s21 n) : EnvOk Try.prog (envR l s18 s21) := by
  intro f sp hsp
  unfold envR at hsp
  cases hl : l.elem f with
  | true =>
    rw [hl] at hsp
    exact h f (List.elem_iff.1 hl) sp hsp
  | false => rw [hl] at hsp; cases hsp
theorem ok1 {s18 : Xp → List Int → List Int → Option (Int × Unit)} {s21 : Cd → List Int → List Int → Option (Bool × Unit)} {n : Nat} {sp : FSpec Γ} (h : envG s18 s21 n = [sp]) (k : Contract Try.prog n sp) (c : Callable Try.prog n) : OkG s18 s21 n := by
  intro sp' hsp
  rw [h] at hsp
  rw [List.mem_singleton.1 hsp]
  exact ⟨k, c⟩
theorem ok2 {s18 : Xp → List Int → List Int → Option (Int × Unit)} {s21 : Cd → List Int → List Int → Option (Bool × Unit)} {n : Nat} {sp sp2 : FSpec Γ} (h : envG s18 s21 n = [sp, sp2]) (k : Contract Try.prog n sp) (k2 : Contract Try.prog n sp2) (c : Callable Try.prog n) : OkG s18 s21 n := by
  intro sp' hsp
  rw [h] at hsp
  rcases List.mem_cons.1 hsp with e | e
  · rw [e]; exact ⟨k, c⟩
  · rw [List.mem_singleton.1 e]; exact ⟨k2, c⟩
theorem okN : ∀ n ∈ ([] : List Nat), Ok n := fun n h => by cases h
theorem okC {s18 : Xp → List Int → List Int → Option (Int × Unit)} {s21 : Cd → List Int → List Int → Option (Bool × Unit)} {n : Nat} {l : List Nat} (h : OkG s18 s21 n) (k : ∀ m ∈ l, OkG s18 s21 m) : ∀ m ∈ n :: l, OkG s18 s21 m := fun m hm => by
  rcases List.mem_cons.1 hm with e | e
  · rw [e]; exact h
  · exact k m e
theorem okSame {s18 : Xp → List Int → List Int → Option (Int × Unit)} {s21 : Cd → List Int → List Int → Option (Bool × Unit)} {n : Nat} (h : envG s18 s21 n = envG S18 S21 n) (k : Ok n) : OkG s18 s21 n := fun sp hsp => k sp (by rw [← h]; exact hsp)

theorem ca3 : Callable Try.prog 3 := ⟨Try.f3, Try.func3, rfl, by kernel_rfl⟩
theorem ca4 : Callable Try.prog 4 := ⟨Try.f4, Try.func4, rfl, by kernel_rfl⟩
theorem ca5 : Callable Try.prog 5 := ⟨Try.f5, Try.func5, rfl, by kernel_rfl⟩
theorem ca6 : Callable Try.prog 6 := ⟨Try.f6, Try.func6, rfl, by kernel_rfl⟩
theorem ca7 : Callable Try.prog 7 := ⟨Try.f7, Try.func7, rfl, by kernel_rfl⟩
theorem ca8 : Callable Try.prog 8 := ⟨Try.f8, Try.func8, rfl, by kernel_rfl⟩
theorem ca9 : Callable Try.prog 9 := ⟨Try.f9, Try.func9, rfl, by kernel_rfl⟩
theorem ca10 : Callable Try.prog 10 := ⟨Try.f10, Try.func10, rfl, by kernel_rfl⟩
theorem ca11 : Callable Try.prog 11 := ⟨Try.f11, Try.func11, rfl, by kernel_rfl⟩
theorem ca12 : Callable Try.prog 12 := ⟨Try.f12, Try.func12, rfl, by kernel_rfl⟩
theorem ca13 : Callable Try.prog 13 := ⟨Try.f13, Try.func13, rfl, by kernel_rfl⟩
theorem ca14 : Callable Try.prog 14 := ⟨Try.f14, Try.func14, rfl, by kernel_rfl⟩
theorem ca15 : Callable Try.prog 15 := ⟨Try.f15, Try.func15, rfl, by kernel_rfl⟩
theorem ca16 : Callable Try.prog 16 := ⟨Try.f16, Try.func16, rfl, by kernel_rfl⟩
theorem ca17 : Callable Try.prog 17 := ⟨Try.f17, Try.func17, rfl, by kernel_rfl⟩
theorem ca18 : Callable Try.prog 18 := ⟨Try.f18, Try.func18, rfl, by kernel_rfl⟩
theorem ca19 : Callable Try.prog 19 := ⟨Try.f19, Try.func19, rfl, by kernel_rfl⟩
theorem ca20 : Callable Try.prog 20 := ⟨Try.f20, Try.func20, rfl, by kernel_rfl⟩
theorem ca21 : Callable Try.prog 21 := ⟨Try.f21, Try.func21, rfl, by kernel_rfl⟩
theorem ca22 : Callable Try.prog 22 := ⟨Try.f22, Try.func22, rfl, by kernel_rfl⟩
theorem ca23 : Callable Try.prog 23 := ⟨Try.f23, Try.func23, rfl, by kernel_rfl⟩
theorem ca24 : Callable Try.prog 24 := ⟨Try.f24, Try.func24, rfl, by kernel_rfl⟩
theorem ca25 : Callable Try.prog 25 := ⟨Try.f25, Try.func25, rfl, by kernel_rfl⟩
theorem ca26 : Callable Try.prog 26 := ⟨Try.f26, Try.func26, rfl, by kernel_rfl⟩
theorem ca27 : Callable Try.prog 27 := ⟨Try.f27, Try.func27, rfl, by kernel_rfl⟩
theorem ca28 : Callable Try.prog 28 := ⟨Try.f28, Try.func28, rfl, by kernel_rfl⟩
theorem ca29 : Callable Try.prog 29 := ⟨Try.f29, Try.func29, rfl, by kernel_rfl⟩
theorem ca30 : Callable Try.prog 30 := ⟨Try.f30, Try.func30, rfl, by kernel_rfl⟩
theorem ca31 : Callable Try.prog 31 := ⟨Try.f31, Try.func31, rfl, by kernel_rfl⟩
theorem ca32 : Callable Try.prog 32 := ⟨Try.f32, Try.func32, rfl, by kernel_rfl⟩
theorem ca33 : Callable Try.prog 33 := ⟨Try.f33, Try.func33, rfl, by kernel_rfl⟩
theorem ca34 : Callable Try.prog 34 := ⟨Try.f34, Try.func34, rfl, by kernel_rfl⟩
theorem ca35 : Callable Try.prog 35 := ⟨Try.f35, Try.func35, rfl, by kernel_rfl⟩
theorem ca36 : Callable Try.prog 36 := ⟨Try.f36, Try.func36, rfl, by kernel_rfl⟩
theorem ca37 : Callable Try.prog 37 := ⟨Try.f37, Try.func37, rfl, by kernel_rfl⟩
theorem ca38 : Callable Try.prog 38 := ⟨Try.f38, Try.func38, rfl, by kernel_rfl⟩
theorem ca39 : Callable Try.prog 39 := ⟨Try.f39, Try.func39, rfl, by kernel_rfl⟩
theorem ca40 : Callable Try.prog 40 := ⟨Try.f40, Try.func40, rfl, by kernel_rfl⟩
theorem ca41 : Callable Try.prog 41 := ⟨Try.f41, Try.func41, rfl, by kernel_rfl⟩
theorem ca42 : Callable Try.prog 42 := ⟨Try.f42, Try.func42, rfl, by kernel_rfl⟩
theorem ca43 : Callable Try.prog 43 := ⟨Try.f43, Try.func43, rfl, by kernel_rfl⟩
theorem ca44 : Callable Try.prog 44 := ⟨Try.f44, Try.func44, rfl, by kernel_rfl⟩
theorem ca45 : Callable Try.prog 45 := ⟨Try.f45, Try.func45, rfl, by kernel_rfl⟩
theorem ca46 : Callable Try.prog 46 := ⟨Try.f46, Try.func46, rfl, by kernel_rfl⟩
theorem ca47 : Callable Try.prog 47 := ⟨Try.f47, Try.func47, rfl, by kernel_rfl⟩
theorem ca48 : Callable Try.prog 48 := ⟨Try.f48, Try.func48, rfl, by kernel_rfl⟩
theorem ca49 : Callable Try.prog 49 := ⟨Try.f49, Try.func49, rfl, by kernel_rfl⟩
theorem ca50 : Callable Try.prog 50 := ⟨Try.f50, Try.func50, rfl, by kernel_rfl⟩
theorem ca51 : Callable Try.prog 51 := ⟨Try.f51, Try.func51, rfl, by kernel_rfl⟩
theorem ca52 : Callable Try.prog 52 := ⟨Try.f52, Try.func52, rfl, by kernel_rfl⟩
theorem ca53 : Callable Try.prog 53 := ⟨Try.f53, Try.func53, rfl, by kernel_rfl⟩
theorem ca54 : Callable Try.prog 54 := ⟨Try.f54, Try.func54, rfl, by kernel_rfl⟩
theorem ca55 : Callable Try.prog 55 := ⟨Try.f55, Try.func55, rfl, by kernel_rfl⟩
theorem ca56 : Callable Try.prog 56 := ⟨Try.f56, Try.func56, rfl, by kernel_rfl⟩
theorem ca57 : Callable Try.prog 57 := ⟨Try.f57, Try.func57, rfl, by kernel_rfl⟩
theorem ca58 : Callable Try.prog 58 := ⟨Try.f58, Try.func58, rfl, by kernel_rfl⟩
theorem ca59 : Callable Try.prog 59 := ⟨Try.f59, Try.func59, rfl, by kernel_rfl⟩
theorem ca60 : Callable Try.prog 60 := ⟨Try.f60, Try.func60, rfl, by kernel_rfl⟩
theorem ca61 : Callable Try.prog 61 := ⟨Try.f61, Try.func61, rfl, by kernel_rfl⟩
theorem ca62 : Callable Try.prog 62 := ⟨Try.f62, Try.func62, rfl, by kernel_rfl⟩
theorem ca63 : Callable Try.prog 63 := ⟨Try.f63, Try.func63, rfl, by kernel_rfl⟩
theorem ca64 : Callable Try.prog 64 := ⟨Try.f64, Try.func64, rfl, by kernel_rfl⟩
theorem ca65 : Callable Try.prog 65 := ⟨Try.f65, Try.func65, rfl, by kernel_rfl⟩
theorem ca66 : Callable Try.prog 66 := ⟨Try.f66, Try.func66, rfl, by kernel_rfl⟩
theorem ca67 : Callable Try.prog 67 := ⟨Try.f67, Try.func67, rfl, by kernel_rfl⟩
theorem ca68 : Callable Try.prog 68 := ⟨Try.f68, Try.func68, rfl, by kernel_rfl⟩
theorem ca69 : Callable Try.prog 69 := ⟨Try.f69, Try.func69, rfl, by kernel_rfl⟩
theorem ca70 : Callable Try.prog 70 := ⟨Try.f70, Try.func70, rfl, by kernel_rfl⟩
theorem ca71 : Callable Try.prog 71 := ⟨Try.f71, Try.func71, rfl, by kernel_rfl⟩
theorem ca72 : Callable Try.prog 72 := ⟨Try.f72, Try.func72, rfl, by kernel_rfl⟩
theorem ca73 : Callable Try.prog 73 := ⟨Try.f73, Try.func73, rfl, by kernel_rfl⟩
theorem ca74 : Callable Try.prog 74 := ⟨Try.f74, Try.func74, rfl, by kernel_rfl⟩
theorem ca75 : Callable Try.prog 75 := ⟨Try.f75, Try.func75, rfl, by kernel_rfl⟩
theorem ca77 : Callable Try.prog 77 := ⟨Try.f77, Try.func77, rfl, by kernel_rfl⟩
theorem k14 : Ok 14 := ok1 (sp := ⟨[.dat gaps, .dat ints], .dats [.bool], fun x => S14 x.1 x.2.1⟩) (by kernel_rfl) (vFun_contract (ann := Ann.none) (fuel := 0) ok ti_ok ti_full (envR_ok S18 S21 _ okN) mixed Try.func14 (fun x r h => ⟨ann14, F, (e14 F x.1 x.2.1).trans h⟩)) ca14
theorem k67 : Ok 67 := ok1 (sp := ⟨[.dat gaps], .arr 22 ints, fun x => S67 x.1⟩) (by kernel_rfl) (vFun_contract (ann := Ann.none) (fuel := 0) ok ti_ok ti_full (envR_ok S18 S21 _ okN) mixed Try.func67 (fun x r h => ⟨Ann.none, F, (e67 F x.1).trans h⟩)) ca67
theorem k68 : Ok 68 := ok1 (sp := ⟨[.dat ints], .arr 3 i64, fun x => S68 x.1⟩) (by kernel_rfl) (vFun_contract (ann := Ann.none) (fuel := 0) ok ti_ok ti_full (envR_ok S18 S21 _ okN) mixed Try.func68 (fun x r h => ⟨Ann.none, F, (e68 F x.1).trans h⟩)) ca68
theorem k46 : Ok 46 := ok1 (sp := ⟨[.dat gaps], .mat 22 3 i64, fun x => S46 x.1⟩) (by kernel_rfl) (vFun_contract (ann := Ann.none) (fuel := 0) ok ti_ok ti_full (envR_ok S18 S21 _ (okC k67 (okC k68 okN))) mixed Try.func46 (fun x r h => ⟨ann46, F, (e46 F x.1).trans h⟩)) ca46
theorem k69 : Ok 69 := ok1 (sp := ⟨[.dat exprT, .ptr i64], .dats [.bool], fun x => S69 x.1 x.2.1⟩) (by kernel_rfl) (vFun_contract (ann := Ann.none) (fuel := 0) ok ti_ok ti_full (envR_ok S18 S21 _ okN) mixed Try.func69 (fun x r h => ⟨Ann.none, F, (e69 F x.1 x.2.1).trans h⟩)) ca69
theorem k70 : Ok 70 := ok1 (sp := ⟨[.dat exprT], .dats [.bool], fun x => S70 x.1⟩) (by kernel_rfl) (vFun_contract (ann := Ann.none) (fuel := 0) ok ti_ok ti_full (envR_ok S18 S21 _ okN) mixed Try.func70 (fun x r h => ⟨Ann.none, F, (e70 F x.1).trans h⟩)) ca70
theorem k47 : Ok 47 := ok1 (sp := ⟨[.dat exprT, .dat i64], .dats [shiftT, .bool], fun x => S47 x.1 x.2.1⟩) (by kernel_rfl) (vFun_contract (ann := Ann.none) (fuel := 0) ok ti_ok ti_full (envR_ok S18 S21 _ (okC k69 (okC k70 okN))) mixed Try.func47 (fun x r h => ⟨Ann.none, F, (e47 F x.1 x.2.1).trans h⟩)) ca47
theorem k61 : Ok 61 := ok1 (sp := ⟨[.dat i64], .dats [.bool], fun x => S61 x.1⟩) (by kernel_rfl) (vFun_contract (ann := Ann.none) (fuel := 0) ok ti_ok ti_full (envR_ok S18 S21 _ okN) mixed Try.func61 (fun x r h => ⟨Ann.none, F, (e61 F x.1).trans h⟩)) ca61
theorem k48 : Ok 48 := ok1 (sp := ⟨[.dat i64, .dat i64], .dats [i64], fun x => S48 x.1 x.2.1⟩) (by kernel_rfl) (vFun_contract (ann := Ann.none) (fuel := 0) ok ti_ok ti_full (envR_ok S18 S21 _ (okC k61 okN)) mixed Try.func48 (fun x r h => ⟨Ann.none, F, (e48 F x.1 x.2.1).trans h⟩)) ca48
theorem k16 : Ok 16 := ok1 (sp := ⟨[.dat gaps, .dat i64, .dat exprT, .dat .bool], .mat 22 3 i64, fun x => S16 x.1 x.2.1 x.2.2.1 x.2.2.2.1⟩) (by kernel_rfl) (vFun_contract (ann := Ann.none) (fuel := 0) ok ti_ok ti_full (envR_ok S18 S21 _ (okC k46 (okC k47 (okC k48 okN)))) mixed Try.func16 (fun x r h => ⟨ann16, F, (e16 F x.1 x.2.1 x.2.2.1 x.2.2.2.1).trans h⟩)) ca16
theorem k19 : Ok 19 := ok1 (sp := ⟨[.dat gaps, .dat i64, .dat i64], .dats [i64], fun x => S19 x.1 x.2.1 x.2.2.1⟩) (by kernel_rfl) (vFun_contract (ann := Ann.none) (fuel := 0) ok ti_ok ti_full (envR_ok S18 S21 _ okN) mixed Try.func19 (fun x r h => ⟨Ann.none, F, (e19 F x.1 x.2.1 x.2.2.1).trans h⟩)) ca19
theorem k54 : Ok 54 := ok1 (sp := ⟨[.dat shiftT, .dat shiftT, .dat i64, .ioM 34 22 3 i64, .ptr gaps], .io 34 22 3 i64, fun x => S54 x.1 x.2.1 x.2.2.1 x.2.2.2.1 x.2.2.2.2.1⟩) (by kernel_rfl) (vFun_contract (ann := Ann.none) (fuel := 0) ok ti_ok ti_full (envR_ok S18 S21 _ (okC k48 okN)) mixed Try.func54 (fun x r h => ⟨ann54, F, (e54 F x.1 x.2.1 x.2.2.1 x.2.2.2.1 x.2.2.2.2.1).trans h⟩)) ca54
theorem k20 : Ok 20 := ok1 (sp := ⟨[.dat gaps, .dat i64, .dat .bool, .dat exprT, .dat exprT, .dat (.rc 2)], .mat 22 3 i64, fun x => S20 x.1 x.2.1 x.2.2.1 x.2.2.2.1 x.2.2.2.2.1 x.2.2.2.2.2.1⟩) (by kernel_rfl) (vFun_contract (ann := Ann.none) (fuel := 0) ok ti_ok ti_full (envR_ok S18 S21 _ (okC k46 (okC k47 (okC k54 okN)))) mixed Try.func20 (fun x r h => ⟨Ann.none, F, (e20 F x.1 x.2.1 x.2.2.1 x.2.2.2.1 x.2.2.2.2.1 x.2.2.2.2.2.1).trans h⟩)) ca20
theorem k22 : Ok 22 := ok1 (sp := ⟨[.dat gaps, .dat gaps], .dats [.bool], fun x => S22 x.1 x.2.1⟩) (by kernel_rfl) (vFun_contract (ann := Ann.none) (fuel := 0) ok ti_ok ti_full (envR_ok S18 S21 _ okN) mixed Try.func22 (fun x r h => ⟨ann22, F, (e22 F x.1 x.2.1).trans h⟩)) ca22
theorem k77 : Ok 77 := ok1 (sp := ⟨[.dat (.int .u64), .dat (.int .u64)], .dats [.int .u64, .int .u64], fun x => S77 x.1 x.2.1⟩) (by kernel_rfl) (vFun_contract (ann := Ann.none) (fuel := 0) ok ti_ok ti_full (envR_ok S18 S21 _ okN) mixed Try.func77 (fun x r h => ⟨Ann.none, F, (e77 F x.1 x.2.1).trans h⟩)) ca77
theorem k73 : Ok 73 := ok1 (sp := ⟨[.dat (.int .u64), .dat (.int .u64)], .dats [.int .u64, .int .u64], fun x => S73 x.1 x.2.1⟩) (by kernel_rfl) (vFun_contract (ann := Ann.none) (fuel := 0) ok ti_ok ti_full (envR_ok S18 S21 _ (okC k77 okN)) mixed Try.func73 (fun x r h => ⟨Ann.none, F, (e73 F x.1 x.2.1).trans h⟩)) ca73
theorem k56 : Ok 56 := ok1 (sp := ⟨[.dat ints, .dat i64], .arr 3 i64, fun x => S56 x.1 x.2.1⟩) (by kernel_rfl) (vFun_contract (ann := Ann.none) (fuel := 0) ok ti_ok ti_full (envR_ok S18 S21 _ (okC k73 okN)) mixed Try.func56 (fun x r h => ⟨ann56, F, (e56 F x.1 x.2.1).trans h⟩)) ca56
theorem k23 : Ok 23 := ok1 (sp := ⟨[.dat i64, .dat i64], .mat 22 3 i64, fun x => S23 x.1 x.2.1⟩) (by kernel_rfl) (vFun_contract (ann := Ann.none) (fuel := 0) ok ti_ok ti_full (envR_ok S18 S21 _ (okC k56 okN)) mixed Try.func23 (fun x r h => ⟨ann23, F, (e23 F x.1 x.2.1).trans h⟩)) ca23
theorem k41 : Ok 41 := ok1 (sp := ⟨[.dat i64], .dats [exprT], fun x => S41 x.1⟩) (by kernel_rfl) (vFun_contract (ann := Ann.none) (fuel := 0) ok ti_ok ti_full (envR_ok S18 S21 _ okN) mixed Try.func41 (fun x r h => ⟨Ann.none, F, (e41 F x.1).trans h⟩)) ca41
theorem k44 : Ok 44 := ok1 (sp := ⟨[.dat i64, .dat exprT, .dat exprT], .dats [exprT], fun x => S44 x.1 x.2.1 x.2.2.1⟩) (by kernel_rfl) (vFun_contract (ann := Ann.none) (fuel := 0) ok ti_ok ti_full (envR_ok S18 S21 _ okN) mixed Try.func44 (fun x r h => ⟨Ann.none, F, (e44 F x.1 x.2.1 x.2.2.1).trans h⟩)) ca44
theorem k45 : Ok 45 := ok1 (sp := ⟨[.dat i64], .dats [exprT], fun x => S45 x.1⟩) (by kernel_rfl) (vFun_contract (ann := Ann.none) (fuel := 0) ok ti_ok ti_full (envR_ok S18 S21 _ okN) mixed Try.func45 (fun x r h => ⟨Ann.none, F, (e45 F x.1).trans h⟩)) ca45
theorem k24 : Ok 24 := ok1 (sp := ⟨[.dat i64, .dat i64], .dats [exprT], fun x => S24 x.1 x.2.1⟩) (by kernel_rfl) (vFun_contract (ann := Ann.none) (fuel := 0) ok ti_ok ti_full (envR_ok S18 S21 _ (okC k41 (okC k44 (okC k45 okN)))) mixed Try.func24 (fun x r h => ⟨Ann.none, F, (e24 F x.1 x.2.1).trans h⟩)) ca24
theorem k25 : Ok 25 := ok1 (sp := ⟨[.dat i64, .dat i64], .dats [exprT], fun x => S25 x.1 x.2.1⟩) (by kernel_rfl) (vFun_contract (ann := Ann.none) (fuel := 0) ok ti_ok ti_full (envR_ok S18 S21 _ (okC k41 (okC k44 (okC k45 okN)))) mixed Try.func25 (fun x r h => ⟨Ann.none, F, (e25 F x.1 x.2.1).trans h⟩)) ca25
theorem k60 : Ok 60 := ok1 (sp := ⟨[.dat i64], .dats [.bool], fun x => S60 x.1⟩) (by kernel_rfl) (vFun_contract (ann := Ann.none) (fuel := 0) ok ti_ok ti_full (envR_ok S18 S21 _ (okC k61 okN)) mixed Try.func60 (fun x r h => ⟨Ann.none, F, (e60 F x.1).trans h⟩)) ca60
theorem k75 : Ok 75 := ok1 (sp := ⟨[.dat ints, .clo 60 []], .dats [i64], fun x => S75 x.1 x.2.1⟩) (by kernel_rfl) (vFun_contract (ann := Ann.none) (fuel := 0) ok ti_ok ti_full (envR_ok S18 S21 _ (okC k60 okN)) mixed Try.func75 (fun x r h => ⟨ann75, F, (e75 F x.1 x.2.1).trans h⟩)) ca75
theorem k59 : Ok 59 := ok1 (sp := ⟨[.dat ints, .clo 60 []], .dats [.bool], fun x => S59 x.1 x.2.1⟩) (by kernel_rfl) (vFun_contract (ann := Ann.none) (fuel := 0) ok ti_ok ti_full (envR_ok S18 S21 _ (okC k75 okN)) mixed Try.func59 (fun x r h => ⟨Ann.none, F, (e59 F x.1 x.2.1).trans h⟩)) ca59
theorem k58 : Ok 58 := ok1 (sp := ⟨[.dat ints, .ptr i64], .dats [.bool], fun x => S58 x.1 x.2.1⟩) (by kernel_rfl) (vFun_contract (ann := Ann.none) (fuel := 0) ok ti_ok ti_full (envR_ok S18 S21 _ (okC k59 okN)) mixed Try.func58 (fun x r h => ⟨Ann.none, F, (e58 F x.1 x.2.1).trans h⟩)) ca58
theorem k74 : Ok 74 := ok1 (sp := ⟨[.dat gaps, .clo 58 [i64]], .dats [i64], fun x => S74 x.1 x.2.1⟩) (by kernel_rfl) (vFun_contract (ann := Ann.none) (fuel := 0) ok ti_ok ti_full (envR_ok S18 S21 _ (okC k58 okN)) mixed Try.func74 (fun x r h => ⟨ann74, F, (e74 F x.1 x.2.1).trans h⟩)) ca74
theorem k57 : Ok 57 := ok1 (sp := ⟨[.dat gaps, .clo 58 [i64]], .dats [.bool], fun x => S57 x.1 x.2.1⟩) (by kernel_rfl) (vFun_contract (ann := Ann.none) (fuel := 0) ok ti_ok ti_full (envR_ok S18 S21 _ (okC k74 okN)) mixed Try.func57 (fun x r h => ⟨Ann.none, F, (e57 F x.1 x.2.1).trans h⟩)) ca57
theorem k28 : Ok 28 := ok1 (sp := ⟨[.dat gaps, .dat i64, .dat i64], .dats [.bool], fun x => S28 x.1 x.2.1 x.2.2.1⟩) (by kernel_rfl) (vFun_contract (ann := Ann.none) (fuel := 0) ok ti_ok ti_full (envR_ok S18 S21 _ (okC k57 okN)) mixed Try.func28 (fun x r h => ⟨Ann.none, F, (e28 F x.1 x.2.1 x.2.2.1).trans h⟩)) ca28
theorem k40 : Ok 40 := ok1 (sp := ⟨[], .dats [(.rc 2)], fun _ => S40⟩) (by kernel_rfl) (vFun_contract (ann := Ann.none) (fuel := 0) ok ti_ok ti_full (envR_ok S18 S21 _ okN) mixed Try.func40 (fun x r h => ⟨Ann.none, F, (e40 F ).trans h⟩)) ca40
theorem k9 : Ok 9 := ok1 (sp := ⟨[], .dats [.bool], fun _ => S9⟩) (by kernel_rfl) (vFun_contract (ann := Ann.none) (fuel := 0) ok ti_ok ti_full (envR_ok S18 S21 _ (okC k14 (okC k16 (okC k19 (okC k20 (okC k22 (okC k23 (okC k24 (okC k25 (okC k28 (okC k40 (okC k41 okN)))))))))))) mixed Try.func9 (fun x r h => ⟨Ann.none, F, (e9 F ).trans h⟩)) ca9
theorem k31 : Ok 31 := ok1 (sp := ⟨[.dat i64, .dat i64], .mat 22 3 i64, fun x => S31 x.1 x.2.1⟩) (by kernel_rfl) (vFun_contract (ann := Ann.none) (fuel := 0) ok ti_ok ti_full (envR_ok S18 S21 _ okN) mixed Try.func31 (fun x r h => ⟨ann31, F, (e31 F x.1 x.2.1).trans h⟩)) ca31
theorem k26 : Ok 26 := ok1 (sp := ⟨[], .dats [i64], fun _ => S26⟩) (by kernel_rfl) (vFun_contract (ann := Ann.none) (fuel := 0) ok ti_ok ti_full (envR_ok S18 S21 _ okN) mixed Try.func26 (fun x r h => ⟨Ann.none, F, (e26 F ).trans h⟩)) ca26
theorem k42 : Ok 42 := ok1 (sp := ⟨[.dat i64], .dats [.bool], fun x => S42 x.1⟩) (by kernel_rfl) (vFun_contract (ann := Ann.none) (fuel := 0) ok ti_ok ti_full (envR_ok S18 S21 _ (okC k26 okN)) mixed Try.func42 (fun x r h => ⟨Ann.none, F, (e42 F x.1).trans h⟩)) ca42
theorem k10 : Ok 10 := ok1 (sp := ⟨[.dat (.rc 3)], .mat 22 3 i64, fun x => S10 x.1⟩) (by kernel_rfl) (vFun_contract (ann := Ann.none) (fuel := 0) ok ti_ok ti_full (envR_ok S18 S21 _ (okC k31 (okC k42 okN))) mixed Try.func10 (fun x r h => ⟨ann10, F, (e10 F x.1).trans h⟩)) ca10
theorem k11 : Ok 11 := ok1 (sp := ⟨[.dat gaps, .dat (.sl i32)], .arr 3 i64, fun x => S11 x.1 x.2.1⟩) (by kernel_rfl) (vFun_contract (ann := Ann.none) (fuel := 0) ok ti_ok ti_full (envR_ok S18 S21 _ okN) mixed Try.func11 (fun x r h => ⟨ann11, F, (e11 F x.1 x.2.1).trans h⟩)) ca11
theorem k38 : Ok 38 := ok1 (sp := ⟨[.dat gaps], .mat 22 3 i64, fun x => S38 x.1⟩) (by kernel_rfl) (vFun_contract (ann := Ann.none) (fuel := 0) ok ti_ok ti_full (envR_ok S18 S21 _ okN) mixed Try.func38 (fun x r h => ⟨ann38, F, (e38 F x.1).trans h⟩)) ca38
theorem k12 : Ok 12 := ok1 (sp := ⟨[.dat gaps, .dat ints, .dat (.sl u8)], .mat 22 3 i64, fun x => S12 x.1 x.2.1 x.2.2.1⟩) (by kernel_rfl) (vFun_contract (ann := Ann.none) (fuel := 0) ok ti_ok ti_full (envR_ok S18 S21 _ (okC k38 okN)) mixed Try.func12 (fun x r h => ⟨ann12, F, (e12 F x.1 x.2.1 x.2.2.1).trans h⟩)) ca12
theorem k43 : Ok 43 := ok1 (sp := ⟨[.dat i64], .dats [i64], fun x => S43 x.1⟩) (by kernel_rfl) (vFun_contract (ann := Ann.none) (fuel := 0) ok ti_ok ti_full (envR_ok S18 S21 _ okN) mixed Try.func43 (fun x r h => ⟨Ann.none, F, (e43 F x.1).trans h⟩)) ca43
theorem k13 : Ok 13 := ok1 (sp := ⟨[.dat (.rc 5), .dat i64], .dats [(.rc 5)], fun x => S13 x.1 x.2.1⟩) (by kernel_rfl) (vFun_contract (ann := Ann.none) (fuel := 0) ok ti_ok ti_full (envR_ok S18 S21 _ (okC k43 okN)) mixed Try.func13 (fun x r h => ⟨Ann.none, F, (e13 F x.1 x.2.1).trans h⟩)) ca13
theorem k15 : Ok 15 := ok1 (sp := ⟨[.dat u8, .dat i64, .dat i64], .dats [exprT], fun x => S15 x.1 x.2.1 x.2.2.1⟩) (by kernel_rfl) (vFun_contract (ann := Ann.none) (fuel := 0) ok ti_ok ti_full (envR_ok S18 S21 _ (okC k24 (okC k25 (okC k41 (okC k44 (okC k45 okN)))))) mixed Try.func15 (fun x r h => ⟨Ann.none, F, (e15 F x.1 x.2.1 x.2.2.1).trans h⟩)) ca15
theorem k50 : Ok 50 := ok1 (sp := ⟨[.dat ints, .dat i64], .dats [i64], fun x => S50 x.1 x.2.1⟩) (by kernel_rfl) (vFun_contract (ann := Ann.none) (fuel := 0) ok ti_ok ti_full (envR_ok S18 S21 _ (okC k43 okN)) mixed Try.func50 (fun x r h => ⟨Ann.none, F, (e50 F x.1 x.2.1).trans h⟩)) ca50
theorem k51 : Ok 51 := ok1 (sp := ⟨[.dat i64], .dats [.bool], fun x => S51 x.1⟩) (by kernel_rfl) (vFun_contract (ann := Ann.none) (fuel := 0) ok ti_ok ti_full (envR_ok S18 S21 _ okN) mixed Try.func51 (fun x r h => ⟨Ann.none, F, (e51 F x.1).trans h⟩)) ca51
theorem k52 : Ok 52 := ok1 (sp := ⟨[.dat i64, .dat i64, .dat i64], .dats [i64], fun x => S52 x.1 x.2.1 x.2.2.1⟩) (by kernel_rfl) (vFun_contract (ann := Ann.none) (fuel := 0) ok ti_ok ti_full (envR_ok S18 S21 _ (okC k43 okN)) mixed Try.func52 (fun x r h => ⟨Ann.none, F, (e52 F x.1 x.2.1 x.2.2.1).trans h⟩)) ca52
theorem k53 : Ok 53 := ok1 (sp := ⟨[.dat (.sl exprT), .dat i64], .dats [exprT], fun x => S53 x.1 x.2.1⟩) (by kernel_rfl) (vFun_contract (ann := Ann.none) (fuel := 0) ok ti_ok ti_full (envR_ok S18 S21 _ okN) mixed Try.func53 (fun x r h => ⟨Ann.none, F, (e53 F x.1 x.2.1).trans h⟩)) ca53
theorem c18 : ∀ d, Contract Try.prog 18 (⟨[.dat exprT, .dat ints, .dat ints], .dats [i64], fun x => E18 d x.1 x.2.1 x.2.2.1⟩ : FSpec Γ)
  | 0 => fun x r h => by cases h
  | d + 1 => vFun_contract (ann := Ann.none) (fuel := 0) ok ti_ok ti_full (envR_ok (E18 d) S21 _ (okC (ok1 (by kernel_rfl) (c18 d) ca18) (okC (okSame (by kernel_rfl) k43) (okC (okSame (by kernel_rfl) k50) (okC (okSame (by kernel_rfl) k51) (okC (okSame (by kernel_rfl) k52) (okC (okSame (by kernel_rfl) k53) (fun n h => by cases h)))))))) mixed Try.func18 (fun x r h => ⟨Ann.none, F, (e18 (E18 d) F x.1 x.2.1 x.2.2.1).trans h⟩)
theorem k18 : Ok 18 := ok1 (by kernel_rfl) (c18 8) ca18
theorem k71 : Ok 71 := ok1 (sp := ⟨[.dat exprT, .dat i64], .dats [.bool], fun x => S71 x.1 x.2.1⟩) (by kernel_rfl) (vFun_contract (ann := Ann.none) (fuel := 0) ok ti_ok ti_full (envR_ok S18 S21 _ okN) mixed Try.func71 (fun x r h => ⟨Ann.none, F, (e71 F x.1 x.2.1).trans h⟩)) ca71
theorem k72 : Ok 72 := ok1 (sp := ⟨[.dat exprT], .dats [.bool], fun x => S72 x.1⟩) (by kernel_rfl) (vFun_contract (ann := Ann.none) (fuel := 0) ok ti_ok ti_full (envR_ok S18 S21 _ okN) mixed Try.func72 (fun x r h => ⟨Ann.none, F, (e72 F x.1).trans h⟩)) ca72
theorem k49 : Ok 49 := ok1 (sp := ⟨[.dat exprT, .dat i64], .dats [i64, i64, .bool], fun x => S49 x.1 x.2.1⟩) (by kernel_rfl) (vFun_contract (ann := Ann.none) (fuel := 0) ok ti_ok ti_full (envR_ok S18 S21 _ (okC k71 (okC k72 okN))) mixed Try.func49 (fun x r h => ⟨Ann.none, F, (e49 F x.1 x.2.1).trans h⟩)) ca49
theorem k17 : Ok 17 := ok1 (sp := ⟨[.dat exprT, .dat ints], .dats [.bool], fun x => S17 x.1 x.2.1⟩) (by kernel_rfl) (vFun_contract (ann := Ann.none) (fuel := 0) ok ti_ok ti_full (envR_ok S18 S21 _ (okC k18 (okC k49 okN))) mixed Try.func17 (fun x r h => ⟨Ann.none, F, (e17 F x.1 x.2.1).trans h⟩)) ca17
theorem k55 : Ok 55 := ok1 (sp := ⟨[.dat (.sl condT), .dat i64], .dats [condT], fun x => S55 x.1 x.2.1⟩) (by kernel_rfl) (vFun_contract (ann := Ann.none) (fuel := 0) ok ti_ok ti_full (envR_ok S18 S21 _ okN) mixed Try.func55 (fun x r h => ⟨Ann.none, F, (e55 F x.1 x.2.1).trans h⟩)) ca55
theorem c21 : ∀ d, Contract Try.prog 21 (⟨[.dat condT, .dat ints, .dat ints], .dats [.bool], fun x => E21 d x.1 x.2.1 x.2.2.1⟩ : FSpec Γ)
  | 0 => fun x r h => by cases h
  | d + 1 => vFun_contract (ann := Ann.none) (fuel := 0) ok ti_ok ti_full (envR_ok S18 (E21 d) _ (okC (okSame (by kernel_rfl) k18) (okC (ok1 (by kernel_rfl) (c21 d) ca21) (okC (okSame (by kernel_rfl) k53) (okC (okSame (by kernel_rfl) k55) (fun n h => by cases h)))))) mixed Try.func21 (fun x r h => ⟨Ann.none, F, (e21 (E21 d) F x.1 x.2.1 x.2.2.1).trans h⟩)
theorem k21 : Ok 21 := ok1 (by kernel_rfl) (c21 8) ca21
theorem k27 : Ok 27 := ok1 (sp := ⟨[.dat gaps, .dat gaps], .dats [.bool], fun x => S27 x.1 x.2.1⟩) (by kernel_rfl) (vFun_contract (ann := Ann.none) (fuel := 0) ok ti_ok ti_full (envR_ok S18 S21 _ okN) mixed Try.func27 (fun x r h => ⟨ann27, F, (e27 F x.1 x.2.1).trans h⟩)) ca27
theorem k63 : Ok 63 := ok1 (sp := ⟨[.dat i64, .dat i64], .dats [i64], fun x => S63 x.1 x.2.1⟩) (by kernel_rfl) (vFun_contract (ann := Ann.none) (fuel := 0) ok ti_ok ti_full (envR_ok S18 S21 _ okN) mixed Try.func63 (fun x r h => ⟨Ann.none, F, (e63 F x.1 x.2.1).trans h⟩)) ca63
theorem c62 : Contract Try.prog 62 (⟨[.dat gaps, .dat gaps, .clo 63 []], .mat 22 3 i64, fun x => S62 x.1 x.2.1 x.2.2.1⟩ : FSpec Γ) := vFun_contract (ann := Ann.none) (fuel := 0) ok ti_ok ti_full (envR_ok S18 S21 _ (okC k46 (okC k63 okN))) mixed Try.func62 (fun x r h => ⟨ann62, F, (e62 F x.1 x.2.1 x.2.2.1).trans h⟩)
theorem k64 : Ok 64 := ok1 (sp := ⟨[.dat i64, .dat i64], .dats [i64], fun x => S64 x.1 x.2.1⟩) (by kernel_rfl) (vFun_contract (ann := Ann.none) (fuel := 0) ok ti_ok ti_full (envR_ok S18 S21 _ okN) mixed Try.func64 (fun x r h => ⟨Ann.none, F, (e64 F x.1 x.2.1).trans h⟩)) ca64
theorem c162 : Contract Try.prog 62 (⟨[.dat gaps, .dat gaps, .clo 64 []], .mat 22 3 i64, fun x => S162 x.1 x.2.1 x.2.2.1⟩ : FSpec Γ) := vFun_contract (ann := Ann.none) (fuel := 0) ok ti_ok ti_full (envR_ok S18 S21 _ (okC k46 (okC k64 okN))) mixed Try.func62 (fun x r h => ⟨ann162, F, (e162 F x.1 x.2.1 x.2.2.1).trans h⟩)
theorem k62 : Ok 62 := ok2 (by kernel_rfl) c62 c162 ca62
theorem k29 : Ok 29 := ok1 (sp := ⟨[.dat gaps, .dat gaps], .mat 22 3 i64, fun x => S29 x.1 x.2.1⟩) (by kernel_rfl) (vFun_contract (ann := Ann.none) (fuel := 0) ok ti_ok ti_full (envR_ok S18 S21 _ (okC k62 okN)) mixed Try.func29 (fun x r h => ⟨Ann.none, F, (e29 F x.1 x.2.1).trans h⟩)) ca29
theorem k30 : Ok 30 := ok1 (sp := ⟨[.dat gaps, .dat gaps], .mat 22 3 i64, fun x => S30 x.1 x.2.1⟩) (by kernel_rfl) (vFun_contract (ann := Ann.none) (fuel := 0) ok ti_ok ti_full (envR_ok S18 S21 _ (okC k62 okN)) mixed Try.func30 (fun x r h => ⟨Ann.none, F, (e30 F x.1 x.2.1).trans h⟩)) ca30
theorem k65 : Ok 65 := ok1 (sp := ⟨[.dat i64, .dat i64], .dats [i64], fun x => S65 x.1 x.2.1⟩) (by kernel_rfl) (vFun_contract (ann := Ann.none) (fuel := 0) ok ti_ok ti_full (envR_ok S18 S21 _ (okC k42 okN)) mixed Try.func65 (fun x r h => ⟨Ann.none, F, (e65 F x.1 x.2.1).trans h⟩)) ca65
theorem k32 : Ok 32 := ok1 (sp := ⟨[.dat gaps, .dat i64, .dat exprT, .dat .bool], .mat 22 3 i64, fun x => S32 x.1 x.2.1 x.2.2.1 x.2.2.2.1⟩) (by kernel_rfl) (vFun_contract (ann := Ann.none) (fuel := 0) ok ti_ok ti_full (envR_ok S18 S21 _ (okC k38 (okC k49 (okC k65 okN)))) mixed Try.func32 (fun x r h => ⟨ann32, F, (e32 F x.1 x.2.1 x.2.2.1 x.2.2.2.1).trans h⟩)) ca32
theorem k66 : Ok 66 := ok1 (sp := ⟨[.dat gaps, .dat gaps, .dat i64, .dat i64, .dat i64], .mat 22 3 i64, fun x => S66 x.1 x.2.1 x.2.2.1 x.2.2.2.1 x.2.2.2.2.1⟩) (by kernel_rfl) (vFun_contract (ann := Ann.none) (fuel := 0) ok ti_ok ti_full (envR_ok S18 S21 _ (okC k38 (okC k65 okN))) mixed Try.func66 (fun x r h => ⟨ann66, F, (e66 F x.1 x.2.1 x.2.2.1 x.2.2.2.1 x.2.2.2.2.1).trans h⟩)) ca66
theorem k33 : Ok 33 := ok1 (sp := ⟨[.dat gaps, .dat i64, .dat .bool, .dat exprT, .dat exprT, .dat (.rc 2)], .mat 22 3 i64, fun x => S33 x.1 x.2.1 x.2.2.1 x.2.2.2.1 x.2.2.2.2.1 x.2.2.2.2.2.1⟩) (by kernel_rfl) (vFun_contract (ann := Ann.none) (fuel := 0) ok ti_ok ti_full (envR_ok S18 S21 _ (okC k38 (okC k49 (okC k66 okN)))) mixed Try.func33 (fun x r h => ⟨Ann.none, F, (e33 F x.1 x.2.1 x.2.2.1 x.2.2.2.1 x.2.2.2.2.1 x.2.2.2.2.2.1).trans h⟩)) ca33
theorem k34 : Ok 34 := ok1 (sp := ⟨[.dat gaps, .dat gaps], .mat 22 3 i64, fun x => S34 x.1 x.2.1⟩) (by kernel_rfl) (vFun_contract (ann := Ann.none) (fuel := 0) ok ti_ok ti_full (envR_ok S18 S21 _ (okC k38 okN)) mixed Try.func34 (fun x r h => ⟨ann34, F, (e34 F x.1 x.2.1).trans h⟩)) ca34
theorem k35 : Ok 35 := ok1 (sp := ⟨[.dat gaps, .dat gaps], .mat 22 3 i64, fun x => S35 x.1 x.2.1⟩) (by kernel_rfl) (vFun_contract (ann := Ann.none) (fuel := 0) ok ti_ok ti_full (envR_ok S18 S21 _ (okC k38 okN)) mixed Try.func35 (fun x r h => ⟨ann35, F, (e35 F x.1 x.2.1).trans h⟩)) ca35
theorem k36 : Ok 36 := ok1 (sp := ⟨[.dat gaps, .dat gaps], .dats [.bool], fun x => S36 x.1 x.2.1⟩) (by kernel_rfl) (vFun_contract (ann := Ann.none) (fuel := 0) ok ti_ok ti_full (envR_ok S18 S21 _ okN) mixed Try.func36 (fun x r h => ⟨ann36, F, (e36 F x.1 x.2.1).trans h⟩)) ca36
theorem k37 : Ok 37 := ok1 (sp := ⟨[.dat gaps, .dat i64, .dat i64], .dats [i64], fun x => S37 x.1 x.2.1 x.2.2.1⟩) (by kernel_rfl) (vFun_contract (ann := Ann.none) (fuel := 0) ok ti_ok ti_full (envR_ok S18 S21 _ okN) mixed Try.func37 (fun x r h => ⟨Ann.none, F, (e37 F x.1 x.2.1 x.2.2.1).trans h⟩)) ca37
theorem k39 : Ok 39 := ok1 (sp := ⟨[.dat gaps, .dat i64, .dat i64], .dats [.bool], fun x => S39 x.1 x.2.1 x.2.2.1⟩) (by kernel_rfl) (vFun_contract (ann := Ann.none) (fuel := 0) ok ti_ok ti_full (envR_ok S18 S21 _ (okC k42 okN)) mixed Try.func39 (fun x r h => ⟨ann39, F, (e39 F x.1 x.2.1 x.2.2.1).trans h⟩)) ca39
theorem c3 : Contract Try.prog 3 (⟨[.dat (.rc 4), .dat (.rc 5)], .dats [.bool], fun x => S3 x.1 x.2.1⟩ : FSpec Γ) := vFun_contract (ann := Ann.none) (fuel := 0) ok ti_ok ti_full (envR_ok S18 S21 _ (okC k9 (okC k10 (okC k11 (okC k12 (okC k13 (okC k14 (okC k15 (okC k16 (okC k17 (okC k18 (okC k19 okN)))))))))))) mixed Try.func3 (fun x r h => ⟨ann3, F, (e3 F x.1 x.2.1).trans h⟩)
theorem c4 : Contract Try.prog 4 (⟨[.dat (.rc 4), .dat (.rc 5)], .dats [.bool], fun x => S4 x.1 x.2.1⟩ : FSpec Γ) := vFun_contract (ann := Ann.none) (fuel := 0) ok ti_ok ti_full (envR_ok S18 S21 _ (okC k9 (okC k10 (okC k11 (okC k12 (okC k13 (okC k14 (okC k15 (okC k17 (okC k20 (okC k21 (okC k22 okN)))))))))))) mixed Try.func4 (fun x r h => ⟨Ann.none, F, (e4 F x.1 x.2.1).trans h⟩)
theorem c5 : Contract Try.prog 5 (⟨[.dat u8, .dat (.sl i32), .dat (.sl u8)], .dats [.bool], fun x => S5 x.1 x.2.1 x.2.2.1⟩ : FSpec Γ) := vFun_contract (ann := Ann.none) (fuel := 0) ok ti_ok ti_full (envR_ok S18 S21 _ (okC k9 (okC k16 (okC k19 (okC k23 (okC k24 (okC k25 (okC k26 (okC k27 (okC k28 okN)))))))))) mixed Try.func5 (fun x r h => ⟨ann5, F, (e5 F x.1 x.2.1 x.2.2.1).trans h⟩)
theorem c6 : Contract Try.prog 6 (⟨[.dat (.rc 4), .dat (.rc 3), .dat (.sl u8)], .dats [.bool], fun x => S6 x.1 x.2.1 x.2.2.1⟩ : FSpec Γ) := vFun_contract (ann := Ann.none) (fuel := 0) ok ti_ok ti_full (envR_ok S18 S21 _ (okC k9 (okC k10 (okC k11 (okC k12 (okC k14 (okC k22 (okC k27 (okC k29 okN))))))))) mixed Try.func6 (fun x r h => ⟨Ann.none, F, (e6 F x.1 x.2.1 x.2.2.1).trans h⟩)
theorem c7 : Contract Try.prog 7 (⟨[.dat (.rc 3), .dat (.rc 3), .dat (.rc 3)], .dats [.bool], fun x => S7 x.1 x.2.1 x.2.2.1⟩ : FSpec Γ) := vFun_contract (ann := Ann.none) (fuel := 0) ok ti_ok ti_full (envR_ok S18 S21 _ (okC k9 (okC k10 (okC k19 (okC k22 (okC k27 (okC k30 okN))))))) mixed Try.func7 (fun x r h => ⟨ann7, F, (e7 F x.1 x.2.1 x.2.2.1).trans h⟩)
theorem c8 : Contract Try.prog 8 (⟨[.dat (.rc 3), .dat (.rc 3), .dat (.rc 5)], .dats [.bool], fun x => S8 x.1 x.2.1 x.2.2.1⟩ : FSpec Γ) := vFun_contract (ann := Ann.none) (fuel := 0) ok ti_ok ti_full (envR_ok S18 S21 _ (okC k9 (okC k10 (okC k15 (okC k16 (okC k19 (okC k20 (okC k22 (okC k23 (okC k27 (okC k28 (okC k29 (okC k30 (okC k31 (okC k32 (okC k33 (okC k34 (okC k35 (okC k36 (okC k37 (okC k38 (okC k39 (okC k40 okN))))))))))))))))))))))) mixed Try.func8 (fun x r h => ⟨Ann.none, F, (e8 F x.1 x.2.1 x.2.2.1).trans h⟩)
end Go.Vs.Ga
