/- The law GapMatchesReference over plain functions. -/
import Derived.Test.YtfebanpfolgmaaaGaLb
namespace Go.Vs.Ga
set_option linter.unusedVariables false
set_option linter.unusedSimpArgs false

theorem iter_find {σ R : Type} {f : (σ → Option R) → σ → Option R} {done : Option R} {bad : Nat → Option R} (n : Nat) (st : Nat → σ) (P : Nat → Prop) (h1 : ∀ rec i, i < n → P i → f rec (st i) = rec (st (i + 1))) (h2 : ∀ rec i, i < n → ¬ P i → f rec (st i) = bad i) (h3 : ∀ rec, f rec (st n) = done) :
    ∀ (fuel i : Nat), i ≤ n → n < fuel + i → (iter f fuel (st i) = done ∧ ∀ j, i ≤ j → j < n → P j) ∨ ∃ j, i ≤ j ∧ j < n ∧ ¬ P j ∧ iter f fuel (st i) = bad j
  | 0, i, h, h' => by omega
  | fuel + 1, i, h, h' => by
    have hs : iter f (fuel + 1) (st i) = f (iter f fuel) (st i) := rfl
    by_cases e : i = n
    · left
      rw [hs, e]
      exact ⟨h3 _, fun j a b => by omega⟩
    · by_cases hp : P i
      · rw [hs, h1 _ i (by omega) hp]
        rcases iter_find n st P h1 h2 h3 fuel (i + 1) (by omega) (by omega) with ⟨a, b⟩ | ⟨j, a, b, c, d⟩
        · left
          refine ⟨a, fun j q r => ?_⟩
          by_cases ej : j = i
          · rw [ej]; exact hp
          · exact b j (by omega) r
        · exact .inr ⟨j, by omega, b, c, d⟩
      · exact .inr ⟨i, Nat.le_refl _, by omega, hp, by rw [hs, h2 _ i (by omega) hp]⟩

theorem mk_row_vec {n m : Nat} {f : Nat → Nat → Int} {i : Nat} (h : i < n) : (mk n m f).getD i [] = vec m (f i) := mk_row h

theorem s60 (a : Int) : S60 a = some (!decide (inR a), ()) := by
  unfold S60 p60
  rw [s61]; rfl

theorem s59 {m : Nat} {u : Nat → Int} (hm : m ≤ 20) : S59 (vec m u) () = some (tr (∃ j, j < m ∧ ¬ inR (u j)), ()) := by
  unfold S59 p59 S75 p75
  rw [vec_len]
  have h := iter_find (f := l75_1) (done := some (-1, ())) (bad := fun j => some ((j : Int), ())) m (fun j => (vec m u, (), (m : Int), (j : Int), ())) (fun j => inR (u j)) (fun rec j hj hp => by
      simp only [l75_1, ilt_nat, inB_nat, vec_len, vec_at hj, hj, Int.toNat_natCast, decide_true, cndT, chk_true, s60, Option.bind_some, hp, Bool.not_true, cndF, wrap_succ (show j < 1000000 by omega)]) (fun rec j hj hp => by
      simp only [l75_1, ilt_nat, inB_nat, vec_len, vec_at hj, hj, Int.toNat_natCast, decide_true, cndT, chk_true, s60, Option.bind_some, hp, decide_false, Bool.not_false]) (fun rec => by
      simp only [l75_1, ilt_nat, Nat.lt_irrefl, decide_false, cndF]) F 0 (Nat.zero_le _) (by unfold F; omega)
  rcases h with ⟨a, b⟩ | ⟨j, _, b, c, d⟩
  · rw [show iter l75_1 F (vec m u, (), (m : Int), (0 : Int), ()) = some (-1, ()) from a, tr_false (fun ⟨j, hj, hn⟩ => hn (b j (Nat.zero_le _) hj))]
    rfl
  · rw [show iter l75_1 F (vec m u, (), (m : Int), (0 : Int), ()) = some ((j : Int), ()) from d, tr_true ⟨j, b, c⟩]
    simp only [Option.bind_some, ile]
    rw [decide_eq_true (by omega)]

theorem s58 {m : Nat} {u : Nat → Int} {c : Int} (hm : m ≤ 20) : S58 (vec m u) c = some (tr ((m : Int) ≠ c ∨ ∃ j, j < m ∧ ¬ inR (u j)), ()) := by
  unfold S58 p58 ieq
  rw [vec_len]
  by_cases h : (m : Int) = c
  · rw [decide_eq_true h, Bool.not_true, cndF, s59 hm, Option.bind_some]
    congr 2
    congr 1
    simp [h]
  · rw [decide_eq_false h, Bool.not_false, cndT, tr_true (.inl h)]

/-- What makes gaps invalid. -/
def badG (n m : Nat) (f : Nat → Nat → Int) (c : Int) : Prop := ∃ i, i < n ∧ ((m : Int) ≠ c ∨ ∃ j, j < m ∧ ¬ inR (f i j))

theorem s57 {n m : Nat} {f : Nat → Nat → Int} {c : Int} (hn : n ≤ 20) (hm : m ≤ 20) : S57 (mk n m f) (c, ()) = some (tr (badG n m f c), ()) := by
  unfold S57 p57 S74 p74
  rw [mk_len]
  have h := iter_find (f := l74_1) (done := some (-1, ())) (bad := fun j => some ((j : Int), ())) n (fun i => (mk n m f, (c, ()), (n : Int), (i : Int), ())) (fun i => ¬ ((m : Int) ≠ c ∨ ∃ j, j < m ∧ ¬ inR (f i j))) (fun rec i hi hp => by
      simp only [l74_1, ilt_nat, inB_nat, mk_len, mk_row_vec hi, hi, Int.toNat_natCast, decide_true, cndT, chk_true, s58 hm, Option.bind_some, tr_false hp, cndF, wrap_succ (show i < 1000000 by omega)]) (fun rec i hi hp => by
      simp only [l74_1, ilt_nat, inB_nat, mk_len, mk_row_vec hi, hi, Int.toNat_natCast, decide_true, cndT, chk_true, s58 hm, Option.bind_some, tr_true (Classical.not_not.1 hp)]) (fun rec => by
      simp only [l74_1, ilt_nat, Nat.lt_irrefl, decide_false, cndF]) F 0 (Nat.zero_le _) (by unfold F; omega)
  rcases h with ⟨a, b⟩ | ⟨j, _, b, d, e⟩
  · rw [show iter l74_1 F (mk n m f, ((c, ()).1, ()), (n : Int), (0 : Int), ()) = some (-1, ()) from a, tr_false (fun ⟨i, hi, hb⟩ => b i (Nat.zero_le _) hi hb)]
    rfl
  · rw [show iter l74_1 F (mk n m f, ((c, ()).1, ()), (n : Int), (0 : Int), ()) = some ((j : Int), ()) from e, tr_true ⟨j, b, Classical.not_not.1 d⟩]
    simp only [Option.bind_some, ile]
    rw [decide_eq_true (by omega)]

noncomputable def validM (n m : Nat) (f : Nat → Nat → Int) (b c : Int) : Bool := tr ((n : Int) = b ∧ ¬ badG n m f c)

theorem s28 {n m : Nat} {f : Nat → Nat → Int} {b c : Int} (hn : n ≤ 20) (hm : m ≤ 20) : S28 (mk n m f) b c = some (validM n m f b c, ()) := by
  unfold S28 p28 ieq validM
  rw [mk_len]
  by_cases h : (n : Int) = b
  · rw [decide_eq_true h, cndT, s57 hn hm, Option.bind_some]
    by_cases hb : badG n m f c
    · rw [tr_true hb, tr_false (fun h' => h'.2 hb)]; rfl
    · rw [tr_false hb, tr_true ⟨h, hb⟩]; rfl
  · rw [decide_eq_false h, cndF, tr_false (fun h' => h h'.1)]

open Classical in
theorem s39 {n m : Nat} {f : Nat → Nat → Int} {b c : Int} (hn : n ≤ 20) (hm : m ≤ 20) : S39 (mk n m f) b c = some (validM n m f b c, ()) := by
  unfold S39 p39 validM
  rw [mk_len]
  by_cases h : (n : Int) = b
  · subst h
    rw [ieq_nat, decide_eq_true rfl, Bool.not_true, cndF]
    have inner : ∀ i, i < n → (m : Int) = c → ∀ rec0, iter (l39_1 rec0) F (mk n m f, (n : Int), c, (i : Int), (0 : Int), ()) = if ∀ j, 0 ≤ j → j < m → inR (f i j) then rec0 (mk n m f, (n : Int), c, ((i + 1 : Nat) : Int), ()) else some (false, ()) := by
      intro i hi hc rec0
      subst hc
      have := iter_all (f := l39_1 rec0) (done := rec0 (mk n m f, (n : Int), (m : Int), ((i + 1 : Nat) : Int), ())) (bad := some (false, ())) m (fun j => (mk n m f, (n : Int), (m : Int), (i : Int), (j : Int), ())) (fun j => inR (f i j)) (fun rec j hj hp => by
        simp only [l39_1, ilt_nat, inB_nat, mk_len, mk_row_len hi, mk_at hi hj, hi, hj, Int.toNat_natCast, decide_true, cndT, chk_true, s42, Option.bind_some, hp, Bool.not_true, cndF, wrap_succ (show j < 1000000 by omega)]) (fun rec j hj hp => by
        simp only [l39_1, ilt_nat, inB_nat, mk_len, mk_row_len hi, mk_at hi hj, hi, hj, Int.toNat_natCast, decide_true, cndT, chk_true, s42, Option.bind_some, hp, decide_false, Bool.not_false]) (fun rec => by
        simp only [l39_1, ilt_nat, Nat.lt_irrefl, decide_false, cndF, wrap_succ (show i < 1000000 by omega)]) F 0 (Nat.zero_le _) (by unfold F; omega)
      exact this
    have outer := iter_all (f := l39_2 F) (done := some (true, ())) (bad := some (false, ())) n (fun i => (mk n m f, (n : Int), c, (i : Int), ())) (fun i => (m : Int) = c ∧ ∀ j, 0 ≤ j → j < m → inR (f i j)) (fun rec i hi hp => by
        simp only [l39_2, ilt_nat, inB_nat, mk_len, mk_row_len hi, hi, Int.toNat_natCast, decide_true, cndT, chk_true, ieq, hp.1, Bool.not_true, cndF]
        rw [inner i hi hp.1, if_pos hp.2]) (fun rec i hi hp => by
        by_cases hc : (m : Int) = c
        · simp only [l39_2, ilt_nat, inB_nat, mk_len, mk_row_len hi, hi, Int.toNat_natCast, decide_true, cndT, chk_true, ieq, hc, Bool.not_true, cndF]
          rw [inner i hi hc, if_neg (fun h' => hp ⟨hc, h'⟩)]
        · simp only [l39_2, ilt_nat, inB_nat, mk_len, mk_row_len hi, hi, Int.toNat_natCast, decide_true, cndT, chk_true, ieq, hc, decide_false, Bool.not_false]) (fun rec => by
        simp only [l39_2, ilt_nat, Nat.lt_irrefl, decide_false, cndF]) F 0 (Nat.zero_le _) (by unfold F; omega)
    refine outer.trans ?_
    by_cases hb : badG n m f c
    · rw [tr_false (fun h' => h'.2 hb), if_neg]
      intro h'
      obtain ⟨i, hi, hb⟩ := hb
      obtain ⟨q1, q2⟩ := h' i (Nat.zero_le _) hi
      rcases hb with hb | ⟨j, hj, hb⟩
      · exact hb q1
      · exact hb (q2 j (Nat.zero_le _) hj)
    · rw [tr_true ⟨rfl, hb⟩, if_pos]
      intro i _ hi
      refine ⟨Classical.not_not.1 fun hc => hb ⟨i, hi, .inl hc⟩, fun j _ hj => Classical.not_not.1 fun hc => hb ⟨i, hi, .inr ⟨j, hj, hc⟩⟩⟩
  · rw [ieq, decide_eq_false h, Bool.not_false, cndT, tr_false (fun h' => h h'.1)]

theorem valid_true {n m : Nat} {f : Nat → Nat → Int} (h : ∀ i j, inR (f i j)) : validM n m f n m = true := by
  unfold validM
  refine tr_true ⟨rfl, ?_⟩
  rintro ⟨i, _, hb | ⟨j, _, hb⟩⟩
  · exact hb rfl
  · exact hb (h i j)

theorem inR_sumG (a k : Int) : inR (sumG a k) := by
  unfold sumG
  split
  · exact inR_ng
  · rename_i h
    exact Classical.not_not.1 fun hc => h (.inr hc)

theorem inR_imin {a b : Int} (ha : inR a) (hb : inR b) : inR (imin a b) := by
  unfold imin; split
  · exact hb
  · exact ha

theorem inR_setF {f : Nat → Nat → Int} {v : Int} {s : Option (Int × Int)} {w : Bool} (h : ∀ i j, inR (f i j)) (i j : Nat) : inR (setF f v s w i j) := by
  unfold setF
  split
  · split
    · split
      · exact inR_sumG _ _
      · exact inR_ng
    · exact inR_ng
  · exact h i j

theorem inR_lessF {o g : Nat → Nat → Int} {x y K : Int} (h : ∀ i j, inR (o i j)) (i j : Nat) : inR (lessF o g x y K i j) := by
  unfold lessF
  split
  · exact inR_imin (h i j) (inR_sumG _ _)
  · exact h i j

theorem inR_assF {f : Nat → Nat → Int} {op : Int} {holds p q : Bool} {a b : Option (Int × Int)} (h : ∀ i j, inR (f i j)) (i j : Nat) : inR (assF f op holds a b p q i j) := by
  unfold assF
  split
  · split
    · split
      · split
        · exact inR_lessF h i j
        · exact inR_lessF h i j
      · split
        · split
          · exact inR_lessF h i j
          · exact inR_lessF h i j
        · split
          · exact inR_lessF (inR_lessF h) i j
          · exact h i j
    · exact h i j
  · exact h i j

theorem same_self {n m : Nat} {f : Nat → Nat → Int} (hn : n ≤ 20) (hm : m ≤ 20) : S27 (mk n m f) (mk n m f) = some (true, ()) := by
  rw [s27 hn hm, decide_eq_true (fun i _ j _ => rfl)]

theorem beq2_self (a : Bool) : beq2 a a = true := decide_eq_true rfl

theorem law8 {x y : Raw} {z : Step} (h1 : 0 ≤ x.vars) (h2 : x.vars ≤ 255) (h3 : 0 ≤ x.params) (h4 : x.params ≤ 255) (hf0 : 0 ≤ z.f0) (hf1 : 0 ≤ z.f1) : S8 x y z = some (true, ()) := by
  unfold S8 p8
  rw [s10 h1 h2 h3 h4, s10 (x := ⟨x.vars, x.params, y.n⟩) h1 h2 h3 h4]
  have hn0 := gn_pos x.vars
  have hn := gn_le x.vars
  have hm := gm_le x.vars x.params
  have okf := madeF_ok x.n (gm x.vars x.params)
  simp only
  generalize madeF x.n (gm x.vars x.params) = f at okf
  generalize madeF y.n (gm x.vars x.params) = g
  generalize gn x.vars = n at hn hn0
  generalize gm x.vars x.params = m at hm
  have n20 : n ≤ 20 := by omega
  have m20 : m ≤ 20 := by omega
  have hin0 : inB 0 n = true := by rw [inB_zero]; exact decide_eq_true hn0
  have hrow : ∀ f : Nat → Nat → Int, ((mk n m f).getD 0 []).length = m := fun f => mk_row_len hn0
  have hlt : ilt (0 : Int) (n : Int) = true := decide_eq_true (by omega)
  simp only [s9, Option.bind_some, Bool.not_true, cndF, cndT, mk_len, hin0, chk_true, s15 hf0, s15 hf1, hrow, s23 n (by omega) m (by omega), s31 n (by omega) m (by omega), same_self n20 m20, xeta, s16 n20 m20, s32 n20 m20, s20 n20 m20, s33 n20 m20, s29 n20 m20, s34 n20 m20, s30 n20 m20, s35 n20 m20, s22 n20 m20, s36 n20 m20, beq2_self, s19, s37, ieq, decide_true, s38 n20 m20, hlt]
  by_cases hm0 : 0 < m
  · have hlt' : ilt (0 : Int) (m : Int) = true := decide_eq_true (by omega)
    have hin' : inB 0 m = true := by rw [inB_zero]; exact decide_eq_true hm0
    have hset := mk_set (n := n) (m := m) (f := f) (i := 0) (j := 0) (x := z.c) hn0 hm0
    simp only [hlt', hin', cndT, chk_true, hset, s28 n20 m20, s39 n20 m20, Option.bind_some, beq2_self, valid_true (inR_setF okf), show S40 = some (⟨true, true⟩, ()) from rfl, s33 n20 m20, valid_true (inR_assF okf)]
  · have hlt' : ilt (0 : Int) (m : Int) = false := decide_eq_false (by omega)
    simp only [hlt', cndF, cndT, chk_true, s28 n20 m20, s39 n20 m20, Option.bind_some, beq2_self, valid_true (inR_setF okf), show S40 = some (⟨true, true⟩, ()) from rfl, s33 n20 m20, valid_true (inR_assF okf)]

end Go.Vs.Ga
