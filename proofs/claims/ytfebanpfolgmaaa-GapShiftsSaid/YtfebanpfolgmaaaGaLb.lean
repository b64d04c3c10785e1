/- The law GapAssumes over plain functions. -/
import Derived.Test.YtfebanpfolgmaaaGaLa
namespace Go.Vs.Ga
set_option linter.unusedVariables false
set_option linter.unusedSimpArgs false

theorem iand255 (x : Int) : 0 ≤ iand .i64 x 255 ∧ iand .i64 x 255 ≤ 255 := by
  have h255 : ((255 : Int) % 2 ^ IntKind.i64.bits).toNat = 255 := by decide
  have hle : ((x % 2 ^ IntKind.i64.bits).toNat &&& 255) ≤ 255 := Nat.and_le_right
  have e : iand .i64 x 255 = (((x % 2 ^ IntKind.i64.bits).toNat &&& 255 : Nat) : Int) := by
    unfold iand
    rw [h255, wrap_id (by omega) (by omega)]
  rw [e]
  omega

theorem lessF_le (o g : Nat → Nat → Int) (x y K : Int) (i j : Nat) : lessF o g x y K i j ≤ o i j := by
  unfold lessF imin
  split
  · split <;> omega
  · omega

theorem lessF_has {n m : Nat} {u : Nat → Int} {o g : Nat → Nat → Int} {x y K : Int} (ho : ∀ i, i < n → ∀ j, j < m → u i - u j ≤ o i j) (hx : ∀ j, j < m → u x.toNat - u j ≤ sumG (g y.toNat j) K) : ∀ i, i < n → ∀ j, j < m → u i - u j ≤ lessF o g x y K i j := by
  intro i hi j hj
  unfold lessF imin
  split
  · rename_i e
    have e' : x.toNat = i := by omega
    have h2 := hx j hj
    rw [e'] at h2
    have h1 := ho i hi j hj
    split <;> omega
  · exact ho i hi j hj

theorem assF_le {f : Nat → Nat → Int} {op : Int} {holds p q : Bool} {a b : Option (Int × Int)} (i j : Nat) : assF f op holds a b p q i j ≤ f i j := by
  unfold assF
  split
  · split
    · split
      · split
        · exact lessF_le _ _ _ _ _ _ _
        · exact lessF_le _ _ _ _ _ _ _
      · split
        · split
          · exact lessF_le _ _ _ _ _ _ _
          · exact lessF_le _ _ _ _ _ _ _
        · split
          · exact Int.le_trans (lessF_le _ _ _ _ _ _ _) (lessF_le _ _ _ _ _ _ _)
          · exact Int.le_refl _
    · exact Int.le_refl _
  · exact Int.le_refl _

theorem assF_has {n m : Nat} {u : Nat → Int} {k : Nat → Nat → Int} {op ea eb : Int} {p q : Bool} {a b : Option (Int × Int)} (ho : op = 2 ∨ op = 3 ∨ op = 4) (hu : ∀ i, is32 (u i)) (hk : ∀ i j, k i j = 1099511627776 ∨ (u i - u j ≤ k i j ∧ k i j ≤ u i - u j + 63))
    (ha : p = true → ∀ w c, a = some (w, c) → ea = u w.toNat + c) (hb : q = true → ∀ w c, b = some (w, c) → eb = u w.toNat + c) (na : ∀ w c, a = some (w, c) → nOk c) (nb : ∀ w c, b = some (w, c) → nOk c) :
    ∀ i, i < n → ∀ j, j < m → u i - u j ≤ assF k op (cmpM op ea eb) a b p q i j := by
  have hsm := tight_small hu hk
  have hhas := tight_has hu hk
  have base : ∀ i, i < n → ∀ j, j < m → u i - u j ≤ k i j := fun i _ j _ => hhas i j
  have step : ∀ (X Y : Int) (K : Int), (-68719476736 ≤ K ∧ K ≤ 68719476736) → u X.toNat - u Y.toNat ≤ K → ∀ j, j < m → u X.toNat - u j ≤ sumG (k Y.toNat j) K := by
    intro X Y K hK h j _
    obtain ⟨a1, a2⟩ := hu X.toNat
    obtain ⟨b1, b2⟩ := hu j
    have h2 := hhas Y.toNat j
    exact le_sumG (hsm _ _) hK (by omega) (by omega)
  match a, b, ha, hb, na, nb with
  | none, _, _, _, _, _ => exact base
  | some (w, c), none, _, _, _, _ => exact base
  | some (w, c), some (v, d), ha, hb, na, nb =>
    obtain ⟨c1, c2⟩ := na w c rfl
    obtain ⟨d1, d2⟩ := nb v d rfl
    unfold assF
    by_cases hpq : p = true ∧ q = true
    · simp only [hpq, and_self, if_true]
      have e1 := ha hpq.1 w c rfl
      have e2 := hb hpq.2 v d rfl
      have k1 : IntKind.i64.wrap (d - c) = d - c := wrap_id (by omega) (by omega)
      have k2 : IntKind.i64.wrap (c - d) = c - d := wrap_id (by omega) (by omega)
      have k3 : IntKind.i64.wrap (d - c - 1) = d - c - 1 := wrap_id (by omega) (by omega)
      have k4 : IntKind.i64.wrap (c - d - 1) = c - d - 1 := wrap_id (by omega) (by omega)
      rw [k1, k2, k3, k4]
      rcases ho with rfl | rfl | rfl
      · simp only [if_true, cmpM]
        by_cases hlt : ea < eb
        · simp only [hlt, decide_true, if_true]
          exact lessF_has base (step w v _ (by omega) (by omega))
        · simp only [hlt, decide_false]
          exact lessF_has base (step v w _ (by omega) (by omega))
      · have n2 : ¬ (3 : Int) = 2 := by omega
        simp only [n2, if_true, if_false, cmpM]
        by_cases hlt : ea ≤ eb
        · simp only [hlt, decide_true, if_true]
          exact lessF_has base (step w v _ (by omega) (by omega))
        · simp only [hlt, decide_false]
          exact lessF_has base (step v w _ (by omega) (by omega))
      · have n2 : ¬ (4 : Int) = 2 := by omega
        have n3 : ¬ (4 : Int) = 3 := by omega
        simp only [n2, n3, if_false, cmpM, true_and]
        by_cases hlt : ea = eb
        · simp only [hlt, decide_true, if_true]
          exact lessF_has (lessF_has base (step w v _ (by omega) (by omega))) (step v w _ (by omega) (by omega))
        · simp only [hlt, decide_false]
          exact base
    · simp only [hpq, if_false]
      exact base

theorem law4 {x : Input} {z : Step} (h1 : 0 ≤ x.vars) (h2 : x.vars ≤ 255) (h3 : 0 ≤ x.params) (h4 : x.params ≤ 255) (hl : ∀ n ∈ x.l, is32 n) (hmo : ∀ n ∈ x.more, 0 ≤ n ∧ n ≤ 255) (hf : 0 ≤ z.f0) (hf' : 0 ≤ z.f1) : S4 x z = some (true, ()) := by
  unfold S4 p4
  rw [s10 (x := ⟨x.vars, x.params, x.n⟩) h1 h2 h3 h4]
  have hn0 := gn_pos x.vars
  have hn := gn_le x.vars
  have hm := gm_le x.vars x.params
  have hmn := gm_gn x.vars x.params
  simp only
  generalize madeF x.n (gm x.vars x.params) = f
  generalize gn x.vars = n at hn hmn hn0
  generalize gm x.vars x.params = m at hm hmn
  simp only [s9, Option.bind_some, Bool.not_true, cond_false, s11 x.l (show n ≤ 20 by omega), s12 (show n ≤ 20 by omega) hmn hmo]
  have hu := valF_32 hl
  have hk := tightF_cases (m := m) hu hmo
  generalize valF x.l = u at hu hk
  generalize tightF u x.more m = k at hk
  obtain ⟨z', hz, hv, hw, hzu, hc, hd, hf0, hf1⟩ := s13 (z := z) hn0 hn
  have w32' : ∀ i j, IntKind.i64.wrap (u i - u j) = u i - u j := fun i j => wrap_sub32 (hu i) (hu j)
  obtain ⟨a1, a2⟩ := iand255 z'.op
  simp only [mk_len, hz, Option.bind_some]
  have hop : IntKind.i64.wrap (2 + Int.tmod (iand .i64 z'.op 255) 3) = 2 ∨ IntKind.i64.wrap (2 + Int.tmod (iand .i64 z'.op 255) 3) = 3 ∨ IntKind.i64.wrap (2 + Int.tmod (iand .i64 z'.op 255) 3) = 4 := by
    rw [Int.tmod_eq_emod_of_nonneg a1, wrap_id (by omega) (by omega)]
    omega
  generalize IntKind.i64.wrap (2 + Int.tmod (iand .i64 z'.op 255) 3) = op at hop
  have hk6 : z'.f0.toNat % 6 < 6 := Nat.mod_lt _ (by omega)
  have hk6' : z'.f1.toNat % 6 < 6 := Nat.mod_lt _ (by omega)
  obtain ⟨b, hb, hbt⟩ := s17 (n := n) (u := u) (c := z'.c) hk6 hw hu hc
  obtain ⟨b', hb', hbt'⟩ := s17 (n := n) (u := u) (c := z'.d) hk6' hzu hu hd
  have hsh : ∀ (k : Nat) (w c : Int), is32 c → ∀ w' c', shM k w c n = some (w', c') → nOk c' := by
    intro k w c hc w' c' he
    unfold is32 at hc
    unfold shM at he
    split at he <;> (try split at he) <;> simp at he <;> obtain ⟨_, rfl⟩ := he <;> unfold nOk <;> omega
  have e18a := s18 hk6 hw (hu z'.w.toNat) hc
  have e18b := s18 hk6' hzu (hu z'.u.toNat) hd
  have e21 := s21 hop e18a e18b
  have hna := hsh (z'.f0.toNat % 6) z'.w z'.c hc
  have hnb := hsh (z'.f1.toNat % 6) z'.u z'.d hd
  have has := assF_has (n := n) (m := m) (op := op) (p := b) (q := b') (a := shM (z'.f0.toNat % 6) z'.w z'.c n) (b := shM (z'.f1.toNat % 6) z'.u z'.d n) hop hu hk (fun hp w c h => hbt hp w c h) (fun hp w c h => hbt' hp w c h) hna hnb
  simp only [Option.bind_some, s15 (show 0 ≤ z'.f0 by omega), s15 (show 0 ≤ z'.f1 by omega), xeta, hb, hb', e21, s20 (show n ≤ 20 by omega) (show m ≤ 20 by omega), cond_true, s14 (show n ≤ 20 by omega) hmn, s22 (show n ≤ 20 by omega) (show m ≤ 20 by omega)]
  rw [decide_eq_true (fun i hi j hj => by rw [w32']; exact has i hi j hj), cndT, decide_eq_true (fun i _ j _ => assF_le i j)]

end Go.Vs.Ga
