/- The data of the gap laws, for the evaluator: records, types, and what the program says of its types. -/
import Derived.Test.YtfebanpfolgmaaaVsV
import Derived.Test.YtfebanpfolgmaaaProg
import Derived.KernelRfl
namespace Go.Vs.Ga
set_option linter.unusedVariables false
open Go.RowKit

structure Xp where
  op : Int
  n : Int
  v : Int
  a : List Xp

structure Cd where
  op : Int
  a : List Xp
  c : List Cd

structure Shift where
  w : Int
  c : Int

structure Pair (α : Type) where
  x : α
  y : α

structure Raw where
  vars : Int
  params : Int
  n : List Int

structure Input where
  vars : Int
  params : Int
  n : List Int
  l : List Int
  more : List Int

structure Step where
  op : Int
  v : Int
  w : Int
  u : Int
  c : Int
  d : Int
  f0 : Int
  f1 : Int
  holds : Bool
  w0 : Bool
  w1 : Bool

def T : Nat → Type
  | 0 => Shift
  | 1 => Pair Int
  | 2 => Pair Bool
  | 3 => Raw
  | 4 => Input
  | 5 => Step
  | 6 => Xp
  | _ => Cd

abbrev C := Sigma (Ty.den T)
abbrev i64 : Ty := .int .i64
abbrev u8 : Ty := .int .u8
abbrev i32 : Ty := .int .i32
abbrev ints : Ty := .sl i64
abbrev gaps : Ty := .sl (.sl i64)
abbrev exprT : Ty := .rc 6
abbrev condT : Ty := .rc 7
abbrev shiftT : Ty := .rc 0

def cell (t : Ty) (x : Ty.den T t) : C := ⟨t, x⟩

def asC (t : Ty) (c : C) : Option (Ty.den T t) := if h : c.1 = t then some (h ▸ c.2) else none

theorem asC_some {c : C} {t : Ty} {x : Ty.den T t} (h : asC t c = some x) : c = ⟨t, x⟩ := by
  unfold asC at h
  split at h
  · rename_i e
    obtain ⟨a, y⟩ := c
    simp only at e
    subst e
    simp at h
    rw [h]
  · simp at h

/-! ### cells -/

def cells0 (x : Shift) : List C := [⟨i64, x.w⟩, ⟨i64, x.c⟩]
def cells1 (x : Pair Int) : List C := [⟨u8, x.x⟩, ⟨u8, x.y⟩]
def cells2 (x : Pair Bool) : List C := [⟨.bool, x.x⟩, ⟨.bool, x.y⟩]
def cells3 (x : Raw) : List C := [⟨u8, x.vars⟩, ⟨u8, x.params⟩, ⟨ints, x.n⟩]
def cells4 (x : Input) : List C := [⟨u8, x.vars⟩, ⟨u8, x.params⟩, ⟨ints, x.n⟩, ⟨.sl i32, x.l⟩, ⟨.sl u8, x.more⟩]
def cells5 (x : Step) : List C := [⟨i64, x.op⟩, ⟨i64, x.v⟩, ⟨i64, x.w⟩, ⟨i64, x.u⟩, ⟨i64, x.c⟩, ⟨i64, x.d⟩, ⟨u8, x.f0⟩, ⟨u8, x.f1⟩, ⟨.bool, x.holds⟩, ⟨.bool, x.w0⟩, ⟨.bool, x.w1⟩]
def cells6 (x : Xp) : List C := [⟨i64, x.op⟩, ⟨i64, x.n⟩, ⟨i64, x.v⟩, ⟨.sl exprT, x.a⟩]
def cells7 (x : Cd) : List C := [⟨i64, x.op⟩, ⟨.sl exprT, x.a⟩, ⟨.sl condT, x.c⟩]

def cells : (n : Nat) → T n → List C
  | 0, x => cells0 x
  | 1, x => cells1 x
  | 2, x => cells2 x
  | 3, x => cells3 x
  | 4, x => cells4 x
  | 5, x => cells5 x
  | 6, x => cells6 x
  | _ + 7, x => cells7 x

def fold0 : List C → Option Shift
  | [a, b] => (asC i64 a).bind fun a => (asC i64 b).bind fun b => some ⟨a, b⟩
  | _ => none
def fold1 : List C → Option (Pair Int)
  | [a, b] => (asC u8 a).bind fun a => (asC u8 b).bind fun b => some ⟨a, b⟩
  | _ => none
def fold2 : List C → Option (Pair Bool)
  | [a, b] => (asC .bool a).bind fun a => (asC .bool b).bind fun b => some ⟨a, b⟩
  | _ => none
def fold3 : List C → Option Raw
  | [a, b, c] => (asC u8 a).bind fun a => (asC u8 b).bind fun b => (asC ints c).bind fun c => some ⟨a, b, c⟩
  | _ => none
def fold4 : List C → Option Input
  | [a, b, c, d, e] => (asC u8 a).bind fun a => (asC u8 b).bind fun b => (asC ints c).bind fun c => (asC (.sl i32) d).bind fun d => (asC (.sl u8) e).bind fun e => some ⟨a, b, c, d, e⟩
  | _ => none
def fold5 : List C → Option Step
  | [a, b, c, d, e, f, g, h, i, j, k] => (asC i64 a).bind fun a => (asC i64 b).bind fun b => (asC i64 c).bind fun c => (asC i64 d).bind fun d => (asC i64 e).bind fun e => (asC i64 f).bind fun f => (asC u8 g).bind fun g => (asC u8 h).bind fun h => (asC .bool i).bind fun i => (asC .bool j).bind fun j => (asC .bool k).bind fun k => some ⟨a, b, c, d, e, f, g, h, i, j, k⟩
  | _ => none
def fold6 : List C → Option Xp
  | [a, b, c, d] => (asC i64 a).bind fun a => (asC i64 b).bind fun b => (asC i64 c).bind fun c => (asC (.sl exprT) d).bind fun d => some ⟨a, b, c, d⟩
  | _ => none
def fold7 : List C → Option Cd
  | [a, b, c] => (asC i64 a).bind fun a => (asC (.sl exprT) b).bind fun b => (asC (.sl condT) c).bind fun c => some ⟨a, b, c⟩
  | _ => none

def fold : (n : Nat) → List C → Option (T n)
  | 0, l => fold0 l
  | 1, l => fold1 l
  | 2, l => fold2 l
  | 3, l => fold3 l
  | 4, l => fold4 l
  | 5, l => fold5 l
  | 6, l => fold6 l
  | _ + 7, l => fold7 l

def sz : Nat → Nat
  | 0 => 2
  | 1 => 2
  | 2 => 2
  | 3 => 3
  | 4 => 5
  | 5 => 11
  | 6 => 4
  | _ => 3

def scal : Nat → Bool
  | 0 => true
  | 1 => true
  | 2 => true
  | 5 => true
  | _ => false

def dI (k : IntKind) (x : Int) : D := .v (.int k x)
def dB (x : Bool) : D := .v (.bool x)
def dL (k : IntKind) (l : List Int) : D := .sl 1 (l.map fun x => [dI k x])

mutual
def encE : Xp → List D
  | ⟨o, n, v, a⟩ => [dI .i64 o, dI .i64 n, dI .i64 v, .sl 4 (encEs a)]
def encEs : List Xp → List (List D)
  | [] => []
  | e :: l => encE e :: encEs l
end

mutual
def encC : Cd → List D
  | ⟨o, a, c⟩ => [dI .i64 o, .sl 4 (a.map encE), .sl 3 (encCs c)]
def encCs : List Cd → List (List D)
  | [] => []
  | e :: l => encC e :: encCs l
end

theorem encEs_eq : ∀ l, encEs l = l.map encE
  | [] => rfl
  | e :: l => by rw [encEs, encEs_eq l]; rfl
theorem encCs_eq : ∀ l, encCs l = l.map encC
  | [] => rfl
  | e :: l => by rw [encCs, encCs_eq l]; rfl

def enc : (n : Nat) → T n → List D
  | 0, x => let x : Shift := x; [dI .i64 x.w, dI .i64 x.c]
  | 1, x => let x : Pair Int := x; [dI .u8 x.x, dI .u8 x.y]
  | 2, x => let x : Pair Bool := x; [dB x.x, dB x.y]
  | 3, x => let x : Raw := x; [dI .u8 x.vars, dI .u8 x.params, dL .i64 x.n]
  | 4, x => let x : Input := x; [dI .u8 x.vars, dI .u8 x.params, dL .i64 x.n, dL .i32 x.l, dL .u8 x.more]
  | 5, x => let x : Step := x; [dI .i64 x.op, dI .i64 x.v, dI .i64 x.w, dI .i64 x.u, dI .i64 x.c, dI .i64 x.d, dI .u8 x.f0, dI .u8 x.f1, dB x.holds, dB x.w0, dB x.w1]
  | 6, x => encE x
  | _ + 7, x => encC x

def dflt : (n : Nat) → T n
  | 0 => (⟨0, 0⟩ : Shift)
  | 1 => (⟨0, 0⟩ : Pair Int)
  | 2 => (⟨false, false⟩ : Pair Bool)
  | 3 => (⟨0, 0, []⟩ : Raw)
  | 4 => (⟨0, 0, [], [], []⟩ : Input)
  | 5 => (⟨0, 0, 0, 0, 0, 0, 0, 0, false, false, false⟩ : Step)
  | 6 => (⟨0, 0, 0, []⟩ : Xp)
  | _ + 7 => (⟨0, [], []⟩ : Cd)

def Γ : Env := ⟨T, dflt, sz, enc, cells, fold, scal⟩

theorem bind_some {α β : Type} {x : Option α} {f : α → Option β} {r : β} (h : x.bind f = some r) : ∃ a, x = some a ∧ f a = some r := by
  cases x with
  | none => cases h
  | some a => exact ⟨a, rfl, h⟩

theorem fold0_ok {cs : List C} {x : Shift} (h : fold0 cs = some x) : cells0 x = cs := by
  unfold fold0 at h
  split at h
  · obtain ⟨a0, h0, h⟩ := bind_some h; obtain ⟨a1, h1, h⟩ := bind_some h; cases h
    rw [asC_some h0, asC_some h1]; rfl
  · cases h
theorem fold1_ok {cs : List C} {x : Pair Int} (h : fold1 cs = some x) : cells1 x = cs := by
  unfold fold1 at h
  split at h
  · obtain ⟨a0, h0, h⟩ := bind_some h; obtain ⟨a1, h1, h⟩ := bind_some h; cases h
    rw [asC_some h0, asC_some h1]; rfl
  · cases h
theorem fold2_ok {cs : List C} {x : Pair Bool} (h : fold2 cs = some x) : cells2 x = cs := by
  unfold fold2 at h
  split at h
  · obtain ⟨a0, h0, h⟩ := bind_some h; obtain ⟨a1, h1, h⟩ := bind_some h; cases h
    rw [asC_some h0, asC_some h1]; rfl
  · cases h
theorem fold3_ok {cs : List C} {x : Raw} (h : fold3 cs = some x) : cells3 x = cs := by
  unfold fold3 at h
  split at h
  · obtain ⟨a0, h0, h⟩ := bind_some h; obtain ⟨a1, h1, h⟩ := bind_some h; obtain ⟨a2, h2, h⟩ := bind_some h; cases h
    rw [asC_some h0, asC_some h1, asC_some h2]; rfl
  · cases h
theorem fold4_ok {cs : List C} {x : Input} (h : fold4 cs = some x) : cells4 x = cs := by
  unfold fold4 at h
  split at h
  · obtain ⟨a0, h0, h⟩ := bind_some h; obtain ⟨a1, h1, h⟩ := bind_some h; obtain ⟨a2, h2, h⟩ := bind_some h; obtain ⟨a3, h3, h⟩ := bind_some h; obtain ⟨a4, h4, h⟩ := bind_some h; cases h
    rw [asC_some h0, asC_some h1, asC_some h2, asC_some h3, asC_some h4]; rfl
  · cases h
theorem fold5_ok {cs : List C} {x : Step} (h : fold5 cs = some x) : cells5 x = cs := by
  unfold fold5 at h
  split at h
  · obtain ⟨a0, h0, h⟩ := bind_some h; obtain ⟨a1, h1, h⟩ := bind_some h; obtain ⟨a2, h2, h⟩ := bind_some h; obtain ⟨a3, h3, h⟩ := bind_some h; obtain ⟨a4, h4, h⟩ := bind_some h; obtain ⟨a5, h5, h⟩ := bind_some h; obtain ⟨a6, h6, h⟩ := bind_some h; obtain ⟨a7, h7, h⟩ := bind_some h; obtain ⟨a8, h8, h⟩ := bind_some h; obtain ⟨a9, h9, h⟩ := bind_some h; obtain ⟨a10, h10, h⟩ := bind_some h; cases h
    rw [asC_some h0, asC_some h1, asC_some h2, asC_some h3, asC_some h4, asC_some h5, asC_some h6, asC_some h7, asC_some h8, asC_some h9, asC_some h10]; rfl
  · cases h
theorem fold6_ok {cs : List C} {x : Xp} (h : fold6 cs = some x) : cells6 x = cs := by
  unfold fold6 at h
  split at h
  · obtain ⟨a0, h0, h⟩ := bind_some h; obtain ⟨a1, h1, h⟩ := bind_some h; obtain ⟨a2, h2, h⟩ := bind_some h; obtain ⟨a3, h3, h⟩ := bind_some h; cases h
    rw [asC_some h0, asC_some h1, asC_some h2, asC_some h3]; rfl
  · cases h
theorem fold7_ok {cs : List C} {x : Cd} (h : fold7 cs = some x) : cells7 x = cs := by
  unfold fold7 at h
  split at h
  · obtain ⟨a0, h0, h⟩ := bind_some h; obtain ⟨a1, h1, h⟩ := bind_some h; obtain ⟨a2, h2, h⟩ := bind_some h; cases h
    rw [asC_some h0, asC_some h1, asC_some h2]; rfl
  · cases h

theorem allC {α : Type} (p : α → Bool) (l : List α) (h : l.all p = true) : ∀ c ∈ l, p c = true := List.all_eq_true.1 h

theorem ok : Env.Ok Γ where
  enc := by
    intro n x
    match n, x with
    | 0, x => rfl
    | 1, x => rfl
    | 2, x => rfl
    | 3, x => rfl
    | 4, x => rfl
    | 5, x => rfl
    | 6, ⟨o, n, v, a⟩ =>
      show encE ⟨o, n, v, a⟩ = _
      rw [encE, encEs_eq]
      rfl
    | _ + 7, ⟨o, a, c⟩ =>
      show encC ⟨o, a, c⟩ = _
      rw [encC, encCs_eq]
      rfl
  size := by
    intro n x
    match n, x with
    | 0, x => rfl
    | 1, x => rfl
    | 2, x => rfl
    | 3, x => rfl
    | 4, x => rfl
    | 5, x => rfl
    | 6, x => rfl
    | _ + 7, x => rfl
  fold := by
    intro n cs x h
    match n, x, h with
    | 0, x, h => exact fold0_ok h
    | 1, x, h => exact fold1_ok h
    | 2, x, h => exact fold2_ok h
    | 3, x, h => exact fold3_ok h
    | 4, x, h => exact fold4_ok h
    | 5, x, h => exact fold5_ok h
    | 6, x, h => exact fold6_ok h
    | _ + 7, x, h => exact fold7_ok h
  flat := by
    intro n x
    match n, x with
    | 0, x => exact allC (fun c : C => c.1.flat) (cells0 x) rfl
    | 1, x => exact allC (fun c : C => c.1.flat) (cells1 x) rfl
    | 2, x => exact allC (fun c : C => c.1.flat) (cells2 x) rfl
    | 3, x => exact allC (fun c : C => c.1.flat) (cells3 x) rfl
    | 4, x => exact allC (fun c : C => c.1.flat) (cells4 x) rfl
    | 5, x => exact allC (fun c : C => c.1.flat) (cells5 x) rfl
    | 6, x => exact allC (fun c : C => c.1.flat) (cells6 x) rfl
    | _ + 7, x => exact allC (fun c : C => c.1.flat) (cells7 x) rfl
  scal := by
    intro n x h
    match n, x, h with
    | 0, x, _ => exact allC (fun c : C => c.1.scal0) (cells0 x) rfl
    | 1, x, _ => exact allC (fun c : C => c.1.scal0) (cells1 x) rfl
    | 2, x, _ => exact allC (fun c : C => c.1.scal0) (cells2 x) rfl
    | 5, x, _ => exact allC (fun c : C => c.1.scal0) (cells5 x) rfl
    | 3, x, h => exact absurd h (by decide)
    | 4, x, h => exact absurd h (by decide)
    | 6, x, h => exact absurd h (by decide)
    | _ + 7, x, h => cases h

/-! ### the program's types -/

def ti : TypeId → Option (TI Γ)
  | 3 => some ⟨.int .i64, 1, 8, some i64, some [⟨i64, (0 : Int)⟩]⟩
  | 4 => some ⟨.bool, 1, 1, some .bool, some [⟨.bool, false⟩]⟩
  | 5 => some ⟨.int .u8, 1, 1, some u8, some [⟨u8, (0 : Int)⟩]⟩
  | 21 => some ⟨.int .i32, 1, 4, some i32, some [⟨i32, (0 : Int)⟩]⟩
  | 22 => some ⟨.slice 3, 1, 24, some ints, some [⟨ints, ([] : List Int)⟩]⟩
  | 24 => some ⟨.struct [(0, 5), (1, 5), (2, 22)], 3, 32, some (.rc 3), some (cells3 ⟨0, 0, []⟩)⟩
  | 25 => some ⟨.slice 21, 1, 24, some (.sl i32), some [⟨.sl i32, ([] : List Int)⟩]⟩
  | 26 => some ⟨.slice 5, 1, 24, some (.sl u8), some [⟨.sl u8, ([] : List Int)⟩]⟩
  | 28 => some ⟨.struct [(0, 24), (3, 25), (4, 26)], 5, 80, some (.rc 4), some (cells4 ⟨0, 0, [], [], []⟩)⟩
  | 29 => some ⟨.array 2 5, 2, 2, some (.rc 1), some (cells1 ⟨0, 0⟩)⟩
  | 30 => some ⟨.array 2 4, 2, 2, some (.rc 2), some (cells2 ⟨false, false⟩)⟩
  | 32 => some ⟨.struct [(0, 3), (1, 3), (2, 3), (3, 3), (4, 3), (5, 3), (6, 29), (8, 4), (9, 30)], 11, 56, some (.rc 5), some (cells5 ⟨0, 0, 0, 0, 0, 0, 0, 0, false, false, false⟩)⟩
  | 34 => some ⟨.slice 22, 1, 24, some gaps, some [⟨gaps, ([] : List (List Int))⟩]⟩
  | 40 => some ⟨.slice 42, 1, 24, some (.sl exprT), some [⟨.sl exprT, ([] : List Xp)⟩]⟩
  | 42 => some ⟨.struct [(0, 3), (1, 3), (2, 3), (3, 40)], 4, 48, some exprT, some (cells6 ⟨0, 0, 0, []⟩)⟩
  | 49 => some ⟨.slice 51, 1, 24, some (.sl condT), some [⟨.sl condT, ([] : List Cd)⟩]⟩
  | 51 => some ⟨.struct [(0, 3), (1, 40), (2, 49)], 3, 56, some condT, some (cells7 ⟨0, [], []⟩)⟩
  | 71 => some ⟨.struct [(0, 3), (1, 3)], 2, 16, some shiftT, some (cells0 ⟨0, 0⟩)⟩
  | 91 => some ⟨.int .u64, 1, 8, some (.int .u64), some [⟨.int .u64, (0 : Int)⟩]⟩
  | _ => none

def zv (i : TI Γ) : Option Value := i.zero.map fun zs => if i.und.agg then .agg (zs.map fun c => zval (Cell.enc c)).toArray else (zs.map fun c => zval (Cell.enc c)).headD undef

theorem tiOk1 {P : Program} {T : TypeId} {i : TI Γ} (d : TypeDesc) (h0 : P.underlying T = some d) (hd : i.und.Is d) (h1 : (P.info? T).map (fun f => (f.size, f.bytes, f.zero)) = some (i.size, i.bytes, zv i))
    (h2 : (zv i).map (fun z => z.cells.toList) = i.zero.map (fun zs => zs.map fun c => zval (Cell.enc c))) (h3 : i.zero.all (fun zs => zs.all fun c => (Cell.enc c).zeroB) = true) : TIOk1 P T i := by
  refine ⟨⟨d, h0, hd⟩, ?_⟩
  cases hf : P.info? T with
  | none => rw [hf] at h1; cases h1
  | some f =>
    rw [hf] at h1
    simp only [Option.map_some, Option.some.injEq, Prod.mk.injEq] at h1
    obtain ⟨e1, e2, e3⟩ := h1
    refine ⟨f, rfl, e1, e2, fun zs hz => ?_⟩
    rw [hz] at h2 h3
    rw [e3]
    cases hv : zv i with
    | none => rw [hv] at h2; cases h2
    | some z =>
      rw [hv] at h2
      exact ⟨List.all_eq_true.1 h3, z, rfl, Option.some.inj h2⟩

end Go.Vs.Ga
