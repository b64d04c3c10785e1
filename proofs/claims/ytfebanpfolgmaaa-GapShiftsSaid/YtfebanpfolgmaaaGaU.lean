/- What the functions of the gap laws compute: shifts, assignments, conditions. -/
import Derived.Test.YtfebanpfolgmaaaGaX
namespace Go.Vs.Ga
set_option linter.unusedVariables false
set_option linter.unusedSimpArgs false

theorem wrap_range (x : Int) : -9223372036854775808 ≤ IntKind.i64.wrap x ∧ IntKind.i64.wrap x ≤ 9223372036854775807 := by
  rw [IntKind.wrap_i64]; omega

theorem wrap_wrap0 (x : Int) : IntKind.i64.wrap (IntKind.i64.wrap x - 0) = IntKind.i64.wrap x := by
  obtain ⟨a, b⟩ := wrap_range x
  rw [wrap_id (by omega) (by omega)]
  omega

/-! ### expressions -/

def vOk (w n : Int) : Prop := 0 ≤ w ∧ w < n
instance (w n : Int) : Decidable (vOk w n) := by unfold vOk; infer_instance
def nOk (c : Int) : Prop := -2147483648 ≤ c ∧ c ≤ 2147483648
instance (c : Int) : Decidable (nOk c) := by unfold nOk; infer_instance

theorem s69 (x : Xp) (n : Int) : S69 x n = some (decide (x.op = 2 ∧ vOk x.n n), ()) := by
  unfold S69 p69 ieq ile ilt vOk
  by_cases h1 : x.op = 2
  · by_cases h2 : 0 ≤ x.n <;> simp [h1, h2]
  · simp [h1]
theorem s71 (x : Xp) (n : Int) : S71 x n = some (decide (x.op = 2 ∧ vOk x.n n), ()) := s69 x n
theorem s70 (x : Xp) : S70 x = some (decide (x.op = 1 ∧ nOk x.v), ()) := by
  unfold S70 p70 ieq ile nOk
  by_cases h1 : x.op = 1
  · by_cases h2 : -2147483648 ≤ x.v <;> simp [h1, h2]
  · simp [h1]
theorem s72 (x : Xp) : S72 x = some (decide (x.op = 1 ∧ nOk x.v), ()) := s70 x

def eVar (w : Int) : Xp := ⟨2, w, 0, []⟩
def eNum (c : Int) : Xp := ⟨1, 0, c, []⟩
def eTwo (o : Int) (a b : Xp) : Xp := ⟨o, 0, 0, [a, b]⟩

/-- The six forms of an expression. -/
def side (k : Nat) (w c : Int) : Xp :=
  match k with
  | 0 => eVar w
  | 1 => eTwo 4 (eVar w) (eNum c)
  | 2 => eTwo 4 (eNum c) (eVar w)
  | 3 => eTwo 5 (eVar w) (eNum c)
  | 4 => eNum c
  | _ => eTwo 6 (eVar w) (eNum c)

theorem xeta (x : Xp) : Xp.mk x.op x.n x.v x.a = x := by cases x; rfl
theorem ceta (x : Cd) : Cd.mk x.op x.a x.c = x := by cases x; rfl

theorem s41 (a : Int) : S41 a = some (eVar a, ()) := rfl
theorem s45 (a : Int) : S45 a = some (eNum a, ()) := rfl
theorem s44 (o : Int) (a b : Xp) : S44 o a b = some (eTwo o a b, ()) := by
  unfold S44 p44 eTwo
  simp only [xeta]
theorem s24 (a b : Int) : S24 a b = some (eTwo 4 (eVar a) (eNum b), ()) := by
  unfold S24 p24
  simp only [s41, s45, s44, Option.bind_some, xeta]
theorem s25 (a b : Int) : S25 a b = some (eTwo 5 (eVar a) (eNum b), ()) := by
  unfold S25 p25
  simp only [s41, s45, s44, Option.bind_some, xeta]

theorem s15 {f : Int} (hf : 0 ≤ f) (w c : Int) : S15 f w c = some (side (f.toNat % 6) w c, ()) := by
  unfold S15 p15
  rw [Int.tmod_eq_emod_of_nonneg hf]
  have h6 : f.toNat % 6 < 6 := Nat.mod_lt _ (by omega)
  have e : f % 6 = ((f.toNat % 6 : Nat) : Int) := by omega
  rw [e]
  generalize f.toNat % 6 = k at h6
  simp only [s41, s45, s44, s24, s25, Option.bind_some, xeta, ieq]
  match k, h6 with
  | 0, _ => simp [side]
  | 1, _ => simp [side]
  | 2, _ => simp [side]
  | 3, _ => simp [side]
  | 4, _ => simp [side]
  | 5, _ => simp [side]

/-- An expression as a shift of one of n variables. -/
def shM (k : Nat) (w c n : Int) : Option (Int × Int) :=
  match k with
  | 0 => if vOk w n then some (w, 0) else none
  | 1 => if vOk w n ∧ nOk c then some (w, c) else none
  | 2 => if vOk w n ∧ nOk c then some (w, c) else none
  | 3 => if vOk w n ∧ nOk c then some (w, -c) else none
  | _ => none

theorem shM_ok {k : Nat} {w c n u d : Int} (h : shM k w c n = some (u, d)) : vOk u n := by
  unfold shM at h
  split at h <;> (try split at h) <;> simp_all <;> (rename_i hh; obtain ⟨rfl, _⟩ := h; exact hh) 

def sh47 (s : Option (Int × Int)) : Shift × Bool × Unit :=
  match s with
  | some (w, c) => (⟨w, c⟩, true, ())
  | none => (⟨0, 0⟩, false, ())

def sh49 (s : Option (Int × Int)) : Int × Int × Bool × Unit :=
  match s with
  | some (w, c) => (w, c, true, ())
  | none => (0, 0, false, ())

theorem neg_wrap {c : Int} (h : nOk c) : IntKind.i64.wrap (0 - c) = -c := by
  unfold nOk at h
  rw [wrap_id (by omega) (by omega)]; omega

theorem s47 (k : Nat) (w c n : Int) : S47 (side k w c) n = some (sh47 (shM k w c n)) := by
  unfold S47 p47
  simp only [s69, s70, Option.bind_some]
  by_cases h1 : vOk w n <;> by_cases h2 : nOk c
  all_goals
    match k with
    | 0 => simp [side, shM, eVar, eNum, eTwo, ieq, inB, chk, sh47, h1, h2]
    | 1 => simp [side, shM, eVar, eNum, eTwo, ieq, inB, chk, sh47, h1, h2]
    | 2 => simp [side, shM, eVar, eNum, eTwo, ieq, inB, chk, sh47, h1, h2]
    | 3 => first | (have h3 := neg_wrap h2; simp [side, shM, eVar, eNum, eTwo, ieq, inB, chk, sh47, h1, h2] <;> (try simpa using h3)) | simp [side, shM, eVar, eNum, eTwo, ieq, inB, chk, sh47, h1, h2]
    | 4 => simp [side, shM, eVar, eNum, eTwo, ieq, inB, chk, sh47, h1, h2]
    | _ + 5 => simp [side, shM, eVar, eNum, eTwo, ieq, inB, chk, sh47, h1, h2]

theorem s49 (k : Nat) (w c n : Int) : S49 (side k w c) n = some (sh49 (shM k w c n)) := by
  unfold S49 p49
  simp only [s71, s72, Option.bind_some]
  by_cases h1 : vOk w n <;> by_cases h2 : nOk c
  all_goals
    match k with
    | 0 => simp [side, shM, eVar, eNum, eTwo, ieq, inB, chk, sh49, h1, h2]
    | 1 => simp [side, shM, eVar, eNum, eTwo, ieq, inB, chk, sh49, h1, h2]
    | 2 => simp [side, shM, eVar, eNum, eTwo, ieq, inB, chk, sh49, h1, h2]
    | 3 => first | (have h3 := neg_wrap h2; simp [side, shM, eVar, eNum, eTwo, ieq, inB, chk, sh49, h1, h2] <;> (try simpa using h3)) | simp [side, shM, eVar, eNum, eTwo, ieq, inB, chk, sh49, h1, h2]
    | 4 => simp [side, shM, eVar, eNum, eTwo, ieq, inB, chk, sh49, h1, h2]
    | _ + 5 => simp [side, shM, eVar, eNum, eTwo, ieq, inB, chk, sh49, h1, h2]

end Go.Vs.Ga
