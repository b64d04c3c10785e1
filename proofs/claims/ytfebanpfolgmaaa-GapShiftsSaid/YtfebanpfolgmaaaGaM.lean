/- Matrices of numbers, and loops: the plain words of the gap laws. -/
import Derived.Test.YtfebanpfolgmaaaGaP
namespace Go.Vs.Ga
set_option linter.unusedVariables false
set_option linter.unusedSimpArgs false

theorem s9 : S9 = some (true, ()) := by kernel_rfl

/-! ### loops -/

theorem iter_run {σ R : Type} {f : (σ → Option R) → σ → Option R} {done : Option R} (n : Nat) (st : Nat → σ) (h1 : ∀ rec i, i < n → f rec (st i) = rec (st (i + 1))) (h2 : ∀ rec, f rec (st n) = done) :
    ∀ (fuel i : Nat), i ≤ n → n < fuel + i → iter f fuel (st i) = done
  | 0, i, h, h' => by omega
  | fuel + 1, i, h, h' => by
    show f (iter f fuel) (st i) = done
    by_cases e : i = n
    · rw [e]; exact h2 _
    · rw [h1 _ i (by omega)]
      exact iter_run n st h1 h2 fuel (i + 1) (by omega) (by omega)

open Classical in
theorem iter_all {σ R : Type} {f : (σ → Option R) → σ → Option R} {done bad : Option R} (n : Nat) (st : Nat → σ) (P : Nat → Prop) (h1 : ∀ rec i, i < n → P i → f rec (st i) = rec (st (i + 1))) (h2 : ∀ rec i, i < n → ¬ P i → f rec (st i) = bad) (h3 : ∀ rec, f rec (st n) = done) :
    ∀ (fuel i : Nat), i ≤ n → n < fuel + i → iter f fuel (st i) = if ∀ j, i ≤ j → j < n → P j then done else bad
  | 0, i, h, h' => by omega
  | fuel + 1, i, h, h' => by
    show f (iter f fuel) (st i) = _
    by_cases e : i = n
    · rw [e, h3, if_pos (fun j a b => by omega)]
    · by_cases hp : P i
      · rw [h1 _ i (by omega) hp, iter_all n st P h1 h2 h3 fuel (i + 1) (by omega) (by omega)]
        congr 1
        apply propext
        constructor
        · intro h j a b
          by_cases ej : j = i
          · rw [ej]; exact hp
          · exact h j (by omega) b
        · intro h j a b; exact h j (by omega) b
      · rw [h2 _ i (by omega) hp, if_neg (fun h => hp (h i (Nat.le_refl _) (by omega)))]

/-! ### matrices -/

def mk (n m : Nat) (f : Nat → Nat → Int) : List (List Int) := (List.range n).map fun i => (List.range m).map fun j => f i j

theorem mk_len (n m : Nat) (f : Nat → Nat → Int) : (mk n m f).length = n := by simp [mk]

theorem mk_row {n m : Nat} {f : Nat → Nat → Int} {i : Nat} (h : i < n) : (mk n m f).getD i [] = (List.range m).map fun j => f i j := by
  simp [mk, List.getD_eq_getElem?_getD, h]

theorem mk_row_len {n m : Nat} {f : Nat → Nat → Int} {i : Nat} (h : i < n) : ((mk n m f).getD i []).length = m := by
  rw [mk_row h]; simp

theorem mk_at {n m : Nat} {f : Nat → Nat → Int} {i j : Nat} (h : i < n) (h' : j < m) : ((mk n m f).getD i []).getD j 0 = f i j := by
  rw [mk_row h]; simp [List.getD_eq_getElem?_getD, h']

theorem mk_congr {n m : Nat} {f g : Nat → Nat → Int} (h : ∀ i j, i < n → j < m → f i j = g i j) : mk n m f = mk n m g := by
  unfold mk
  apply List.map_congr_left
  intro i hi
  apply List.map_congr_left
  intro j hj
  exact h i j (List.mem_range.1 hi) (List.mem_range.1 hj)

def upd (f : Nat → Nat → Int) (i j : Nat) (x : Int) : Nat → Nat → Int := fun a b => if a = i ∧ b = j then x else f a b

theorem mk_set {n m : Nat} {f : Nat → Nat → Int} {i j : Nat} {x : Int} (h : i < n) (h' : j < m) : (mk n m f).set i (((mk n m f).getD i []).set j x) = mk n m (upd f i j x) := by
  rw [mk_row h]
  apply List.ext_getElem
  · simp [mk]
  · intro a h1 h2
    have ha : a < n := by simpa [mk] using h2
    rw [List.getElem_set]
    by_cases e : i = a
    · subst e
      simp only [if_true, mk, List.getElem_map, List.getElem_range]
      apply List.ext_getElem
      · simp
      · intro b h3 h4
        rw [List.getElem_set]
        by_cases e' : j = b
        · subst e'; simp [upd]
        · simp [e', upd, Ne.symm e']
    · simp only [e, if_false, mk, List.getElem_map, List.getElem_range]
      apply List.map_congr_left
      intro b _
      simp [upd, Ne.symm e]

/-- Where a loop over rows and columns stands. -/
def past (i j a b : Nat) : Prop := a < i ∨ a = i ∧ b < j
instance (i j a b : Nat) : Decidable (past i j a b) := by unfold past; infer_instance
def part (new old : Nat → Nat → Int) (i j : Nat) : Nat → Nat → Int := fun a b => if past i j a b then new a b else old a b

theorem part_zero (new old : Nat → Nat → Int) : part new old 0 0 = old := by
  funext a b; simp [part, past]

theorem part_at (new old : Nat → Nat → Int) (i j : Nat) : part new old i j i j = old i j := by simp [part, past]

theorem part_step {n m : Nat} (new old : Nat → Nat → Int) (i j : Nat) : mk n m (upd (part new old i j) i j (new i j)) = mk n m (part new old i (j + 1)) := by
  apply mk_congr
  intro a b ha hb
  unfold upd part past
  by_cases e : a = i ∧ b = j
  · obtain ⟨rfl, rfl⟩ := e; simp
  · simp only [e, if_false]
    congr 1
    apply propext
    omega

theorem part_row {n m : Nat} (new old : Nat → Nat → Int) (i : Nat) : mk n m (part new old i m) = mk n m (part new old (i + 1) 0) := by
  apply mk_congr
  intro a b ha hb
  unfold part past
  congr 1
  apply propext
  omega

theorem part_all {n m : Nat} (new old : Nat → Nat → Int) : mk n m (part new old n 0) = mk n m new := by
  apply mk_congr
  intro a b ha hb
  simp [part, past, ha]

/-! ### words of the printed functions -/

theorem ilt_nat (a b : Nat) : ilt (a : Int) (b : Int) = decide (a < b) := by simp [ilt]
theorem ile_nat (a b : Nat) : ile (a : Int) (b : Int) = decide (a ≤ b) := by simp [ile]
theorem ieq_nat (a b : Nat) : ieq (a : Int) (b : Int) = decide (a = b) := by unfold ieq; congr 1; apply propext; omega
theorem inB_nat (a b : Nat) : inB (a : Int) b = decide (a < b) := by simp [inB]
theorem inB_zero (b : Nat) : inB (0 : Int) b = decide (0 < b) := by simp [inB]
theorem chk_true {R : Type} (x : Option R) : chk true x = x := by unfold chk; simp

theorem cndT {α : Type} (a b : α) : cond true a b = a := by simp
theorem cndF {α : Type} (a b : α) : cond false a b = b := by simp

theorem wrap_id {x : Int} (h : -9223372036854775808 ≤ x) (h' : x ≤ 9223372036854775807) : IntKind.i64.wrap x = x := IntWalk.i64_in _ ⟨by simpa using h, by simpa using h'⟩

theorem wrap_succ {i : Nat} (h : i < 1000000) : IntKind.i64.wrap ((i : Int) + 1) = ((i + 1 : Nat) : Int) := by
  rw [wrap_id (by omega) (by omega)]; rfl

end Go.Vs.Ga
