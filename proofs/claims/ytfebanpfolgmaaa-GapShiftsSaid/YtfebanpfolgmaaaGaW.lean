/- The law GapWidens over plain functions. -/
import Derived.Test.YtfebanpfolgmaaaGaO
namespace Go.Vs.Ga
set_option linter.unusedVariables false
set_option linter.unusedSimpArgs false

theorem inR_le {a : Int} (h : inR a) : a ≤ 1099511627776 := by unfold inR at h; omega
theorem inR_ng : inR 1099511627776 := .inl rfl
theorem widF_ok {f g : Nat → Nat → Int} {i j : Nat} (h : inR (f i j)) : inR (widF f g i j) := by
  unfold widF wid; split
  · exact inR_ng
  · exact h

theorem boundF_at {n m : Nat} {f : Nat → Nat → Int} {i j : Nat} (hi : i < n) (hj : j < m) : boundF n m f (i : Int) (j : Int) = f i j := by
  unfold boundF
  rw [if_pos (by omega)]
  simp

theorem law7 {x y z : Raw} (h1 : 0 ≤ x.vars) (h2 : x.vars ≤ 255) (h3 : 0 ≤ x.params) (h4 : x.params ≤ 255) : S7 x y z = some (true, ()) := by
  unfold S7 p7
  rw [s10 h1 h2 h3 h4, s10 (x := ⟨x.vars, x.params, y.n⟩) h1 h2 h3 h4, s10 (x := ⟨x.vars, x.params, z.n⟩) h1 h2 h3 h4]
  have hn := gn_le x.vars
  have hm := gm_le x.vars x.params
  have okf := madeF_ok x.n (gm x.vars x.params)
  have okg := madeF_ok y.n (gm x.vars x.params)
  have okh := madeF_ok z.n (gm x.vars x.params)
  generalize madeF x.n (gm x.vars x.params) = f at okf
  generalize madeF y.n (gm x.vars x.params) = g at okg
  generalize madeF z.n (gm x.vars x.params) = h at okh
  generalize gn x.vars = n at hn
  generalize gm x.vars x.params = m at hm
  simp only [s9, Option.bind_some, Bool.not_true, cond_false, s30 (show n ≤ 20 by omega) (show m ≤ 20 by omega), s22 (show n ≤ 20 by omega) (show m ≤ 20 by omega), s27 (show n ≤ 20 by omega) (show m ≤ 20 by omega), mk_len]
  have c1 : ∀ i, i < n → ∀ j, j < m → f i j ≤ widF f g i j := fun i _ j _ => by
    have := inR_le (okf i j); unfold widF wid; split <;> omega
  have c2 : ∀ i, i < n → ∀ j, j < m → g i j ≤ widF f g i j := fun i _ j _ => by
    have := inR_le (okg i j); unfold widF wid; split <;> omega
  have c3 : ∀ i, i < n → ∀ j, j < m → widF f g i j ≤ widF (widF f g) h i j := fun i _ j _ => by
    have := inR_le (widF_ok (g := g) (okf i j)); unfold widF wid at *; split <;> omega
  have c4 : ∀ i, i < n → ∀ j, j < m → widF f f i j = f i j := fun i _ j _ => by
    unfold widF wid; rw [if_neg (by omega)]
  have key : iter (l7_2 F) F (true, mk n m f, mk n m (widF f g), mk n m (widF (widF f g) h), (0 : Int), ()) = some (true, ()) := by
    refine iter_run n (fun i => (true, mk n m f, mk n m (widF f g), mk n m (widF (widF f g) h), (i : Int), ())) (fun rec i hi => ?_) (fun rec => ?_) F 0 (Nat.zero_le _) (by unfold F; omega)
    · have inner : iter (l7_1 rec) F (true, mk n m f, mk n m (widF f g), mk n m (widF (widF f g) h), (i : Int), (0 : Int), ()) = rec (true, mk n m f, mk n m (widF f g), mk n m (widF (widF f g) h), ((i + 1 : Nat) : Int), ()) := by
        refine iter_run m (fun j => (true, mk n m f, mk n m (widF f g), mk n m (widF (widF f g) h), (i : Int), (j : Int), ())) (fun rec2 j hj => ?_) (fun rec2 => ?_) F 0 (Nat.zero_le _) (by unfold F; omega)
        · have w1 : widF f g i j = f i j ∨ widF f g i j = 1099511627776 := by unfold widF wid; split <;> simp
          have w2 : widF (widF f g) h i j = widF f g i j ∨ widF (widF f g) h i j = 1099511627776 := by
            show wid (widF f g i j) (h i j) = _ ∨ wid (widF f g i j) (h i j) = _
            unfold wid; split <;> simp
          simp only [l7_1, ilt_nat, inB_nat, mk_len, mk_row_len hi, mk_at hi hj, s19, boundF_at hi hj, Option.bind_some, hi, hj, Int.toNat_natCast, decide_true, cond_true, chk_true, ieq, wrap_succ (show j < 1000000 by omega)]
          rcases w1 with w1 | w1 <;> rcases w2 with w2 | w2 <;> simp only [w1, w2, decide_true, Bool.not_true, cond_false]
          all_goals (repeat (first | rfl | split))
          all_goals (simp_all)
        · simp only [l7_1, ilt_nat, inB_nat, hi, mk_len, mk_row_len hi, Int.toNat_natCast, decide_true, chk_true, Nat.lt_irrefl, decide_false, cond_false, wrap_succ (show i < 1000000 by omega)]
      simp only [l7_2, ilt_nat, mk_len, hi, decide_true, cond_true, inner]
    · simp only [l7_2, ilt_nat, mk_len, Nat.lt_irrefl, decide_false, cond_false]
  rw [decide_eq_true c1, decide_eq_true c2, decide_eq_true c3, decide_eq_true c4, ieq_nat, decide_eq_true rfl]
  simp only [Bool.not_true, cond_false]
  exact key

end Go.Vs.Ga
