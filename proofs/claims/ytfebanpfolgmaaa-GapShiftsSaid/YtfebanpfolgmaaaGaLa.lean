/- The law GapSets over plain functions. -/
import Derived.Test.YtfebanpfolgmaaaGaZ
namespace Go.Vs.Ga
set_option linter.unusedVariables false
set_option linter.unusedSimpArgs false

theorem le_sumG {x a k : Int} (ha : a = 1099511627776 ∨ (-68719476736 ≤ a ∧ a ≤ 68719476736)) (hk : -68719476736 ≤ k ∧ k ≤ 68719476736) (hx : x ≤ 1099511627776) (h : x ≤ a + k) : x ≤ sumG a k := by
  unfold sumG
  split
  · exact hx
  · rename_i hc
    rw [wrap_id (by omega) (by omega)]
    exact h

theorem tight_small {u : Nat → Int} {k : Nat → Nat → Int} (hu : ∀ i, is32 (u i)) (hk : ∀ i j, k i j = 1099511627776 ∨ (u i - u j ≤ k i j ∧ k i j ≤ u i - u j + 63)) (i j : Nat) : k i j = 1099511627776 ∨ (-68719476736 ≤ k i j ∧ k i j ≤ 68719476736) := by
  obtain ⟨a, b⟩ := hu i
  obtain ⟨c, d⟩ := hu j
  rcases hk i j with h | h
  · exact .inl h
  · right; omega

theorem tight_has {u : Nat → Int} {k : Nat → Nat → Int} (hu : ∀ i, is32 (u i)) (hk : ∀ i j, k i j = 1099511627776 ∨ (u i - u j ≤ k i j ∧ k i j ≤ u i - u j + 63)) (i j : Nat) : u i - u j ≤ k i j := by
  obtain ⟨a, b⟩ := hu i
  obtain ⟨c, d⟩ := hu j
  rcases hk i j with h | h <;> omega

theorem wrap_sub32 {x y : Int} (hx : is32 x) (hy : is32 y) : IntKind.i64.wrap (x - y) = x - y := by
  obtain ⟨a, b⟩ := hx
  obtain ⟨c, d⟩ := hy
  exact wrap_id (by omega) (by omega)

theorem law3 {x : Input} {z : Step} (h1 : 0 ≤ x.vars) (h2 : x.vars ≤ 255) (h3 : 0 ≤ x.params) (h4 : x.params ≤ 255) (hl : ∀ n ∈ x.l, is32 n) (hmo : ∀ n ∈ x.more, 0 ≤ n ∧ n ≤ 255) (hf : 0 ≤ z.f0) : S3 x z = some (true, ()) := by
  unfold S3 p3
  rw [s10 (x := ⟨x.vars, x.params, x.n⟩) h1 h2 h3 h4]
  have hn0 := gn_pos x.vars
  have hn := gn_le x.vars
  have hm := gm_le x.vars x.params
  have hmn := gm_gn x.vars x.params
  simp only
  generalize madeF x.n (gm x.vars x.params) = f
  generalize gn x.vars = n at hn hmn hn0
  generalize gm x.vars x.params = m at hm hmn
  simp only [s9, Option.bind_some, Bool.not_true, cond_false, s11 x.l (show n ≤ 20 by omega), s12 (show n ≤ 20 by omega) hmn hmo]
  have hu := valF_32 hl
  have hk := tightF_cases (m := m) hu hmo
  generalize valF x.l = u at hu hk
  generalize tightF u x.more m = k at hk
  have hsm := tight_small hu hk
  have hhas := tight_has hu hk
  obtain ⟨z', hz, ⟨v1, v2⟩, hw, hzu, hc, hd, hf0, hf1⟩ := s13 (z := z) hn0 hn
  have w32' : ∀ i j, IntKind.i64.wrap (u i - u j) = u i - u j := fun i j => wrap_sub32 (hu i) (hu j)
  have hin0 : inB 0 n = true := by rw [inB_zero]; exact decide_eq_true hn0
  have hrow : ((mk n m k).getD 0 []).length = m := mk_row_len hn0
  simp only [mk_len, hz, Option.bind_some, hin0, chk_true, s14 (show n ≤ 20 by omega) hmn, hrow]
  rw [decide_eq_true (fun i _ j _ => by rw [w32']; exact hhas i j)]
  simp only [Bool.not_true, cond_false]
  by_cases hv : z'.v < (m : Int)
  · rw [ilt, decide_eq_true hv, cndT]
  rw [ilt, decide_eq_false hv, cndF]
  have hk6 : z'.f0.toNat % 6 < 6 := Nat.mod_lt _ (by omega)
  obtain ⟨b, hb, hbt⟩ := s17 (n := n) (u := u) (c := z'.c) hk6 hw hu hc
  have hev : is32 (evM (z'.f0.toNat % 6) (u z'.w.toNat) z'.c) := evM_32 (hu _) hc
  have hsh : ∀ w' c', shM (z'.f0.toNat % 6) z'.w z'.c n = some (w', c') → vOk w' n ∧ nOk c' := by
    intro w' c' he
    refine ⟨shM_ok he, ?_⟩
    unfold is32 at hc
    unfold shM at he
    split at he <;> (try split at he) <;> simp at he <;> obtain ⟨_, rfl⟩ := he <;> unfold nOk <;> omega
  obtain ⟨i0, hi0⟩ : ∃ i : Nat, z'.v = i := ⟨z'.v.toNat, by omega⟩
  have hi0n : i0 < n := by omega
  simp only [s15 (show 0 ≤ z'.f0 by omega), Option.bind_some, xeta, hb, s16 (show n ≤ 20 by omega) (show m ≤ 20 by omega), s18 hk6 hw (hu _) hc, vec_len]
  rw [ile_big (by omega), room_ok 8 (by omega) (by omega), hi0]
  simp only [Bool.and_true, chk_true, inB_nat, hi0n, decide_true, Int.toNat_natCast, vec_set hi0n, s14 (show n ≤ 20 by omega) hmn, Option.bind_some]
  generalize hE : evM (z'.f0.toNat % 6) (u z'.w.toNat) z'.c = ev at hev hbt
  generalize shM (z'.f0.toNat % 6) z'.w z'.c n = s at hbt hsh
  have key : ∀ i, i < n → ∀ j, j < m → IntKind.i64.wrap ((if i = i0 then ev else u i) - (if j = i0 then ev else u j)) ≤ setF k i0 s b i j := by
    intro i hi j hj
    have hj0 : j ≠ i0 := by omega
    rw [if_neg hj0]
    by_cases e : i = i0
    · subst e
      rw [if_pos rfl, wrap_sub32 hev (hu j)]
      unfold setF
      rw [if_pos rfl]
      obtain ⟨e1, e2⟩ := hev
      obtain ⟨q1, q2⟩ := hu j
      match s, hbt, hsh with
      | none, _, _ => show ev - u j ≤ 1099511627776; omega
      | some (w', c'), hbt, hsh =>
        show ev - u j ≤ (if b = true then sumG (k w'.toNat j) c' else 1099511627776)
        by_cases hbb : b = true
        · rw [if_pos hbb]
          have he := hbt hbb w' c' rfl
          obtain ⟨_, o1, o2⟩ := hsh w' c' rfl
          have hh := hhas w'.toNat j
          exact le_sumG (hsm _ _) (by omega) (by omega) (by omega)
        · rw [if_neg hbb]; omega
    · rw [if_neg e, w32']
      unfold setF
      rw [if_neg (by omega)]
      exact hhas i j
  rw [decide_eq_true key]
  simp only [Bool.not_true, cond_false]
  have hsame : ∀ i j, (i : Nat) ≠ i0 → setF k i0 s b i j = k i j := fun i j h => by unfold setF; rw [if_neg (by omega)]
  generalize setF k i0 s b = h at hsame
  refine iter_run (f := l3_2 F) n (fun i => (z', true, mk n m k, (m : Int), mk n m h, (i : Int), ())) (fun rec i hi => ?_) (fun rec => ?_) F 0 (Nat.zero_le _) (by unfold F; omega)
  · have inner : iter (l3_1 rec) F (z', true, mk n m k, (m : Int), mk n m h, (i : Int), (0 : Int), ()) = rec (z', true, mk n m k, (m : Int), mk n m h, ((i + 1 : Nat) : Int), ()) := by
      refine iter_run m (fun j => (z', true, mk n m k, (m : Int), mk n m h, (i : Int), (j : Int), ())) (fun rec2 j hj => ?_) (fun rec2 => ?_) F 0 (Nat.zero_le _) (by unfold F; omega)
      · simp only [l3_1, ilt_nat, hj, decide_true, cndT, s19, boundF_at hi hj, Option.bind_some, hi0, ieq_nat, wrap_succ (show j < 1000000 by omega)]
        by_cases e : i = i0
        · rw [decide_eq_true e]; rfl
        · rw [decide_eq_false e, hsame i j e, ieq, decide_eq_true rfl]; rfl
      · simp only [l3_1, ilt_nat, Nat.lt_irrefl, decide_false, cndF, wrap_succ (show i < 1000000 by omega)]
    simp only [l3_2, ilt_nat, mk_len, hi, decide_true, cndT, inner]
  · simp only [l3_2, ilt_nat, mk_len, Nat.lt_irrefl, decide_false, cndF]

end Go.Vs.Ga
