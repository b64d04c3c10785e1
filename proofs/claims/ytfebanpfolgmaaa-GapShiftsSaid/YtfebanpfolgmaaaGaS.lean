/- What the functions of the gap laws compute: gaps that are just wide enough; steps. -/
import Derived.Test.YtfebanpfolgmaaaGaW
namespace Go.Vs.Ga
set_option linter.unusedVariables false
set_option linter.unusedSimpArgs false

theorem tmod_nat (a b : Nat) : Int.tmod (a : Int) (b : Int) = ((a % b : Nat) : Int) := by
  rw [Int.tmod_eq_emod_of_nonneg (by omega)]
  exact (Int.natCast_emod a b).symm

theorem upd_upd (f : Nat → Nat → Int) (i j : Nat) (a b : Int) : upd (upd f i j a) i j b = upd f i j b := by
  funext x y
  unfold upd
  split <;> rfl

def kF (more : List Int) (q : Nat) : Int := if 0 < more.length then more.getD (q % more.length) 0 else 0

def tightF (u : Nat → Int) (more : List Int) (m : Nat) : Nat → Nat → Int := fun i j =>
  if Int.tmod (kF more (i * m + j)) 4 = 3 then 1099511627776 else IntKind.i64.wrap (IntKind.i64.wrap (u i - u j) + IntKind.i64.wrap (Int.tdiv (kF more (i * m + j)) 4))

theorem kF_u8 {more : List Int} (h : ∀ x ∈ more, 0 ≤ x ∧ x ≤ 255) (q : Nat) : 0 ≤ kF more q ∧ kF more q ≤ 255 := by
  unfold kF
  split
  · rename_i hl
    refine h _ ?_
    have := Nat.mod_lt q hl
    rw [List.getD_eq_getElem?_getD, List.getElem?_eq_getElem this]
    exact List.getElem_mem this
  · omega

theorem s12 {n m : Nat} {f : Nat → Nat → Int} {u : Nat → Int} {more : List Int} (hn : n ≤ 20) (hm : m ≤ n) (hu : ∀ x ∈ more, 0 ≤ x ∧ x ≤ 255) : S12 (mk n m f) (vec n u) more = some (mk n m (tightF u more m)) := by
  unfold S12 p12
  rw [s38 hn (by omega)]
  simp only [Option.bind_some]
  have inner : ∀ i, i < n → ∀ rec0, iter (l12_1 rec0) F (mk n m f, vec n u, more, mk n m (part (tightF u more m) f i 0), ((i * m : Nat) : Int), (i : Int), (0 : Int), ()) = rec0 (mk n m f, vec n u, more, mk n m (part (tightF u more m) f (i + 1) 0), (((i + 1) * m : Nat) : Int), ((i + 1 : Nat) : Int), ()) := by
    intro i hi rec0
    refine iter_run m (fun j => (mk n m f, vec n u, more, mk n m (part (tightF u more m) f i j), ((i * m + j : Nat) : Int), (i : Int), (j : Int), ())) (fun rec j hj => ?_) (fun rec => ?_) F 0 (Nat.zero_le _) (by unfold F; omega)
    · have hk := idx_small (i := i) (j := j) (m := m) (by omega) (by omega) (by omega)
      have hjn : j < n := by omega
      have hk8 := kF_u8 hu (i * m + j)
      have key : ∀ (r : Int → Option (List (List Int))), (bif decide (0 < more.length) then chk (!ieq (more.length : Int) 0) (chk (inB (Int.tmod ((i * m + j : Nat) : Int) (more.length : Int)) more.length) (r (IntKind.i64.wrap (more.getD (Int.tmod ((i * m + j : Nat) : Int) (more.length : Int)).toNat 0)))) else r 0) = r (kF more (i * m + j)) := by
        intro r
        by_cases c : 0 < more.length
        · have h1 : (ieq (more.length : Int) 0) = false := decide_eq_false (by omega)
          have h2 : kF more (i * m + j) = more.getD ((i * m + j) % more.length) 0 := by unfold kF; rw [if_pos c]
          rw [decide_eq_true c, cndT, h1, tmod_nat, inB_nat, decide_eq_true (Nat.mod_lt _ c), Int.toNat_natCast, ← h2, wrap_id (by omega) (by omega)]
          simp only [Bool.not_false, chk_true]
        · have h2 : kF more (i * m + j) = 0 := by unfold kF; rw [if_neg c]
          rw [decide_eq_false c, cndF, h2]
      have h00 : ilt (0 : Int) (more.length : Int) = decide (0 < more.length) := by
        have := ilt_nat 0 more.length
        simpa using this
      have fin : ∀ (x : Int) (rr : (List (List Int)) × (List Int) × (List Int) × (List (List Int)) × Int × Int × Int × Unit → Option (List (List Int))), x = kF more (i * m + j) →
          (bif ieq (Int.tmod x 4) 3 then rr (mk n m f, vec n u, more, mk n m (upd (part (tightF u more m) f i j) i j 1099511627776), ((i * m + j + 1 : Nat) : Int), (i : Int), (j : Int), ()) else rr (mk n m f, vec n u, more, mk n m (upd (part (tightF u more m) f i j) i j (IntKind.i64.wrap (IntKind.i64.wrap (u i - u j) + IntKind.i64.wrap (Int.tdiv x 4)))), ((i * m + j + 1 : Nat) : Int), (i : Int), (j : Int), ())) = rr (mk n m f, vec n u, more, mk n m (part (tightF u more m) f i (j + 1)), ((i * m + (j + 1) : Nat) : Int), (i : Int), (j : Int), ()) := by
        intro x rr hx
        have hstep := part_step (n := n) (m := m) (tightF u more m) f i j
        subst hx
        by_cases c : Int.tmod (kF more (i * m + j)) 4 = 3
        · have ht : tightF u more m i j = 1099511627776 := by unfold tightF; rw [if_pos c]
          rw [ieq, decide_eq_true c, cndT, ← ht, hstep]; rfl
        · have ht : tightF u more m i j = IntKind.i64.wrap (IntKind.i64.wrap (u i - u j) + IntKind.i64.wrap (Int.tdiv (kF more (i * m + j)) 4)) := by unfold tightF; rw [if_neg c]
          rw [ieq, decide_eq_false c, cndF, ← ht, hstep]; rfl
      by_cases c : 0 < more.length
      · have h1 : (ieq (more.length : Int) 0) = false := decide_eq_false (by omega)
        have h2 : kF more (i * m + j) = more.getD ((i * m + j) % more.length) 0 := by unfold kF; rw [if_pos c]
        simp only [l12_1, ilt_nat, inB_nat, mk_len, vec_len, mk_row_len hi, vec_at hi, vec_at hjn, hi, hj, hjn, h00, c, h1, tmod_nat, Nat.mod_lt _ c, Int.toNat_natCast, decide_true, cndT, Bool.not_false, chk_true, Option.bind_some, Sum.elim_inl, mk_set hi hj, upd_upd, wrap_succ hk, ← h2]
        rw [wrap_id (x := kF more (i * m + j)) (by omega) (by omega)]
        have hf := fin (kF more (i * m + j)) (fun z9 => rec (z9.1, z9.2.1, z9.2.2.1, z9.2.2.2.1, z9.2.2.2.2.1, z9.2.2.2.2.2.1, IntKind.i64.wrap (z9.2.2.2.2.2.2.1 + 1), ())) rfl
        simp only [wrap_succ (show j < 1000000 by omega)] at hf
        rw [← hf]
        cases ieq (Int.tmod (kF more (i * m + j)) 4) 3 <;> simp only [cndT, cndF, Option.bind_some, Sum.elim_inl, wrap_succ (show j < 1000000 by omega)]
      · have h2 : kF more (i * m + j) = 0 := by unfold kF; rw [if_neg c]
        simp only [l12_1, ilt_nat, inB_nat, mk_len, vec_len, mk_row_len hi, vec_at hi, vec_at hjn, hi, hj, hjn, h00, c, decide_false, Int.toNat_natCast, decide_true, cndT, cndF, Bool.not_false, chk_true, Option.bind_some, Sum.elim_inl, mk_set hi hj, upd_upd, wrap_succ hk]
        have hf := fin 0 (fun z9 => rec (z9.1, z9.2.1, z9.2.2.1, z9.2.2.2.1, z9.2.2.2.2.1, z9.2.2.2.2.2.1, IntKind.i64.wrap (z9.2.2.2.2.2.2.1 + 1), ())) h2.symm
        simp only [wrap_succ (show j < 1000000 by omega)] at hf
        rw [← hf]
        cases ieq (Int.tmod 0 4) 3 <;> simp only [cndT, cndF, Option.bind_some, Sum.elim_inl, wrap_succ (show j < 1000000 by omega)]
    · simp only [l12_1, ilt_nat, inB_nat, mk_len, mk_row_len hi, hi, Int.toNat_natCast, decide_true, chk_true, Nat.lt_irrefl, decide_false, cndF, part_row, wrap_succ (show i < 1000000 by omega), Nat.add_mul, Nat.one_mul]
  have outer := iter_run (f := l12_2 F) (done := some (mk n m (tightF u more m))) n (fun i => (mk n m f, vec n u, more, mk n m (part (tightF u more m) f i 0), ((i * m : Nat) : Int), (i : Int), ())) (fun rec i hi => by
      simp only [l12_2, ilt_nat, mk_len, hi, decide_true, cond_true, inner i hi]) (fun rec => by
      simp only [l12_2, ilt_nat, mk_len, Nat.lt_irrefl, decide_false, cond_false, part_all]) F 0 (Nat.zero_le _) (by unfold F; omega)
  rw [part_zero, Nat.zero_mul] at outer
  exact outer

theorem tightF_cases {u : Nat → Int} {more : List Int} {m : Nat} (hu : ∀ i, is32 (u i)) (hm : ∀ x ∈ more, 0 ≤ x ∧ x ≤ 255) (i j : Nat) : tightF u more m i j = 1099511627776 ∨ (u i - u j ≤ tightF u more m i j ∧ tightF u more m i j ≤ u i - u j + 63) := by
  have hk := kF_u8 hm (i * m + j)
  obtain ⟨a, b⟩ := hu i
  obtain ⟨c, d⟩ := hu j
  unfold tightF
  split
  · exact .inl rfl
  · right
    rw [Int.tdiv_eq_ediv_of_nonneg hk.1, wrap_id (x := u i - u j) (by omega) (by omega), wrap_id (x := kF more (i * m + j) / 4) (by omega) (by omega), wrap_id (by omega) (by omega)]
    omega

end Go.Vs.Ga
