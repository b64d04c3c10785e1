/- The law GapOrder over plain functions. -/
import Derived.Test.YtfebanpfolgmaaaGaS
namespace Go.Vs.Ga
set_option linter.unusedVariables false
set_option linter.unusedSimpArgs false

theorem imax_le {a b c : Int} : imax a b ≤ c ↔ a ≤ c ∧ b ≤ c := by unfold imax; split <;> omega
theorem le_imax_left (a b : Int) : a ≤ imax a b := by unfold imax; split <;> omega
theorem le_imax_right (a b : Int) : b ≤ imax a b := by unfold imax; split <;> omega
theorem imax_comm (a b : Int) : imax a b = imax b a := by unfold imax; split <;> split <;> omega
theorem imax_self (a : Int) : imax a a = a := by unfold imax; split <;> rfl
theorem imax_eq_right {a b : Int} : imax a b = b ↔ a ≤ b := by unfold imax; split <;> omega

noncomputable def tr (p : Prop) : Bool := @decide p (Classical.propDecidable p)
theorem tr_eq (p : Prop) [h : Decidable p] : decide p = tr p := by
  unfold tr
  by_cases c : p
  · rw [decide_eq_true c]; exact (@decide_eq_true p (Classical.propDecidable p) c).symm
  · rw [decide_eq_false c]; exact (@decide_eq_false p (Classical.propDecidable p) c).symm
theorem tr_true {p : Prop} (h : p) : tr p = true := @decide_eq_true p (Classical.propDecidable p) h
theorem tr_false {p : Prop} (h : ¬ p) : tr p = false := @decide_eq_false p (Classical.propDecidable p) h

theorem law6 {x : Input} {y : Raw} {more : List Int} (h1 : 0 ≤ x.vars) (h2 : x.vars ≤ 255) (h3 : 0 ≤ x.params) (h4 : x.params ≤ 255) (hl : ∀ n ∈ x.l, is32 n) (hmo : ∀ n ∈ more, 0 ≤ n ∧ n ≤ 255) : S6 x y more = some (true, ()) := by
  unfold S6 p6
  rw [s10 (x := ⟨x.vars, x.params, x.n⟩) h1 h2 h3 h4, s10 (x := ⟨x.vars, x.params, y.n⟩) h1 h2 h3 h4]
  have hn := gn_le x.vars
  have hm := gm_le x.vars x.params
  have hmn := gm_gn x.vars x.params
  simp only
  generalize madeF x.n (gm x.vars x.params) = f
  generalize madeF y.n (gm x.vars x.params) = g
  generalize gn x.vars = n at hn hmn
  generalize gm x.vars x.params = m at hm hmn
  simp only [s9, Option.bind_some, Bool.not_true, cond_false, s11 x.l (show n ≤ 20 by omega), s12 (show n ≤ 20 by omega) hmn hmo]
  have hu := valF_32 hl
  have hk := tightF_cases (m := m) hu hmo
  generalize valF x.l = u at hu hk
  generalize tightF u more m = k at hk
  simp only [Option.bind_some, s29 (show n ≤ 20 by omega) (show m ≤ 20 by omega), s22 (show n ≤ 20 by omega) (show m ≤ 20 by omega), s27 (show n ≤ 20 by omega) (show m ≤ 20 by omega), s14 (show n ≤ 20 by omega) hmn]
  have w32 : ∀ i j, IntKind.i64.wrap (u i - u j) = u i - u j := fun i j => by
    obtain ⟨a, b⟩ := hu i
    obtain ⟨c, d⟩ := hu j
    exact wrap_id (by omega) (by omega)
  have kv : ∀ i j, u i - u j ≤ k i j := fun i j => by
    obtain ⟨a, b⟩ := hu i
    obtain ⟨c, d⟩ := hu j
    rcases hk i j with h | h <;> omega
  simp only [tr_eq]
  simp only [w32, joinF]
  have tR1 : ∀ i, i < n → ∀ j, j < m → f i j ≤ f i j := fun i _ j _ => Int.le_refl _
  have tR2 : ∀ i, i < n → ∀ j, j < m → f i j ≤ imax (f i j) (g i j) := fun i _ j _ => le_imax_left _ _
  have tR3 : ∀ i, i < n → ∀ j, j < m → g i j ≤ imax (f i j) (g i j) := fun i _ j _ => le_imax_right _ _
  have tR4 : ∀ i, i < n → ∀ j, j < m → imax (f i j) (g i j) = imax (g i j) (f i j) := fun i _ j _ => imax_comm _ _
  have tR5 : ∀ i, i < n → ∀ j, j < m → imax (f i j) (f i j) = f i j := fun i _ j _ => imax_self _
  have tHk : ∀ i, i < n → ∀ j, j < m → u i - u j ≤ k i j := fun i _ j _ => kv i j
  have tHm : ∀ i, i < n → ∀ j, j < m → u i - u j ≤ imax (k i j) (f i j) := fun i _ j _ => Int.le_trans (kv i j) (le_imax_left _ _)
  have tJ : (∀ i, i < n → ∀ j, j < m → imax (f i j) (g i j) = g i j) ↔ (∀ i, i < n → ∀ j, j < m → f i j ≤ g i j) := ⟨fun h i hi j hj => imax_eq_right.1 (h i hi j hj), fun h i hi j hj => imax_eq_right.2 (h i hi j hj)⟩
  have tE : (∀ i, i < n → ∀ j, j < m → imax (f i j) (g i j) ≤ k i j) ↔ (∀ i, i < n → ∀ j, j < m → f i j ≤ k i j) ∧ (∀ i, i < n → ∀ j, j < m → g i j ≤ k i j) := ⟨fun h => ⟨fun i hi j hj => (imax_le.1 (h i hi j hj)).1, fun i hi j hj => (imax_le.1 (h i hi j hj)).2⟩, fun h i hi j hj => imax_le.2 ⟨h.1 i hi j hj, h.2 i hi j hj⟩⟩
  have tS : (∀ i, i < n → ∀ j, j < m → f i j ≤ g i j) → (∀ i, i < n → ∀ j, j < m → g i j ≤ f i j) → (∀ i, i < n → ∀ j, j < m → f i j = g i j) := fun a b i hi j hj => Int.le_antisymm (a i hi j hj) (b i hi j hj)
  have tC : (∀ i, i < n → ∀ j, j < m → f i j ≤ g i j) → (∀ i, i < n → ∀ j, j < m → g i j ≤ k i j) → (∀ i, i < n → ∀ j, j < m → f i j ≤ k i j) := fun a b i hi j hj => Int.le_trans (a i hi j hj) (b i hi j hj)
  have tH : (∀ i, i < n → ∀ j, j < m → u i - u j ≤ f i j) → (∀ i, i < n → ∀ j, j < m → u i - u j ≤ imax (f i j) (g i j)) := fun a i hi j hj => Int.le_trans (a i hi j hj) (le_imax_left _ _)
  have tP : (∀ i, i < n → ∀ j, j < m → k i j ≤ f i j) → (∀ i, i < n → ∀ j, j < m → u i - u j ≤ f i j) := fun a i hi j hj => Int.le_trans (kv i j) (a i hi j hj)
  clear hk hu w32
  generalize (∀ i, i < n → ∀ j, j < m → f i j ≤ g i j) = A at *
  generalize (∀ i, i < n → ∀ j, j < m → g i j ≤ f i j) = B at *
  generalize (∀ i, i < n → ∀ j, j < m → f i j = g i j) = S at *
  generalize (∀ i, i < n → ∀ j, j < m → f i j ≤ k i j) = C at *
  generalize (∀ i, i < n → ∀ j, j < m → g i j ≤ k i j) = D at *
  generalize (∀ i, i < n → ∀ j, j < m → imax (f i j) (g i j) ≤ k i j) = E at *
  generalize (∀ i, i < n → ∀ j, j < m → u i - u j ≤ f i j) = Hf at *
  generalize (∀ i, i < n → ∀ j, j < m → u i - u j ≤ imax (f i j) (g i j)) = Hj at *
  generalize (∀ i, i < n → ∀ j, j < m → u i - u j ≤ k i j) = Hk at *
  generalize (∀ i, i < n → ∀ j, j < m → u i - u j ≤ imax (k i j) (f i j)) = Hm at *
  generalize (∀ i, i < n → ∀ j, j < m → k i j ≤ f i j) = P at *
  generalize (∀ i, i < n → ∀ j, j < m → f i j ≤ f i j) = R1 at *
  generalize (∀ i, i < n → ∀ j, j < m → f i j ≤ imax (f i j) (g i j)) = R2 at *
  generalize (∀ i, i < n → ∀ j, j < m → g i j ≤ imax (f i j) (g i j)) = R3 at *
  generalize (∀ i, i < n → ∀ j, j < m → imax (f i j) (g i j) = imax (g i j) (f i j)) = R4 at *
  generalize (∀ i, i < n → ∀ j, j < m → imax (f i j) (f i j) = f i j) = R5 at *
  generalize (∀ i, i < n → ∀ j, j < m → imax (f i j) (g i j) = g i j) = J at *
  by_cases a : A <;> by_cases b : B <;> by_cases c : C <;> by_cases d : D <;> by_cases h : Hf <;> by_cases p : P <;> simp_all [beq2, tr_true, tr_false]

end Go.Vs.Ga
