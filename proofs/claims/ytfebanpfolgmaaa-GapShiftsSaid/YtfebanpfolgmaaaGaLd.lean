/- The law GapShifts over plain functions. -/
import Derived.Test.YtfebanpfolgmaaaGaLc
namespace Go.Vs.Ga
set_option linter.unusedVariables false
set_option linter.unusedSimpArgs false

def cI (l : List Int) (i : Nat) : Int := IntKind.i64.wrap (l.getD i 0)
def dX (l : List Int) (i : Nat) : Int := if i % 2 = 1 then -cI l i else cI l i
def nx (to : List Int) (i : Nat) : Nat := if 0 < to.length then 3 + (to.getD (i % to.length) 0).toNat % 2 else 3
def atI (q : Nat) (to : List Int) : Nat → Nat
  | 0 => q
  | i + 1 => nx to i
def suI (l : List Int) : Nat → Int
  | 0 => 0
  | i + 1 => suI l i + dX l i
def knI (l : List Int) : Nat → Bool
  | 0 => true
  | i + 1 => knI l i && (decide (-17179869184 ≤ suI l (i + 1)) && decide (suI l (i + 1) ≤ 17179869184))
def gI (l to : List Int) (q : Nat) : Nat → (Nat → Nat → Int)
  | 0 => F0
  | i + 1 => setF (gI l to q i) (nx to i : Nat) (some ((atI q to i : Nat), dX l i)) true

theorem cI_32 {l : List Int} (h : ∀ n ∈ l, is32 n) {i : Nat} (hi : i < l.length) : is32 (cI l i) := by
  have : valF l i = cI l i := by unfold valF cI; rw [if_pos hi]
  rw [← this]
  exact valF_32 h i

theorem suI_small {l : List Int} (h : ∀ n ∈ l, is32 n) : ∀ i, i ≤ l.length → i ≤ 20 → -((i : Int) * 2147483648) ≤ suI l i ∧ suI l i ≤ (i : Int) * 2147483648
  | 0, _, _ => by simp [suI]
  | i + 1, hi, h2 => by
    obtain ⟨a, b⟩ := suI_small h i (by omega) (by omega)
    obtain ⟨c, d⟩ := cI_32 h (i := i) (by omega)
    have e : suI l (i + 1) = suI l i + dX l i := rfl
    rw [e]
    unfold dX
    split <;> omega

theorem nx_lt (to : List Int) (i : Nat) : 3 ≤ nx to i ∧ nx to i < 5 := by
  unfold nx
  split <;> omega

theorem atI_lt {q : Nat} (hq : q < 3) (to : List Int) (i : Nat) : atI q to i < 5 := by
  cases i with
  | zero => show q < 5; omega
  | succ i => exact (nx_lt to i).2

/-- What is known all along. -/
theorem gI_inv {l to : List Int} (h : ∀ n ∈ l, is32 n) {q : Nat} (hq : q < 3) : ∀ i, i ≤ l.length → i ≤ 20 → (∀ a b, inR (gI l to q i a b)) ∧ gI l to q i (atI q to i) q = (if knI l i = true then suI l i else 1099511627776) ∧ ∀ j, j ≠ q → gI l to q i (atI q to i) j = 1099511627776
  | 0, _, _ => by
    refine ⟨fun a b => ?_, ?_, fun j hj => ?_⟩
    · show inR (F0 a b)
      unfold F0 inR; split <;> omega
    · show F0 q q = _
      unfold F0 knI suI; simp
    · show F0 q j = _
      unfold F0; rw [if_neg (Ne.symm hj)]
  | i + 1, hi, h2 => by
    obtain ⟨a1, a2, a3⟩ := gI_inv h hq i (by omega) (by omega)
    have sm := suI_small h i (by omega) (by omega)
    obtain ⟨c, d⟩ := cI_32 h (i := i) (by omega)
    have hd : -2147483648 ≤ dX l i ∧ dX l i ≤ 2147483648 := by unfold dX; split <;> omega
    have hg : gI l to q (i + 1) = setF (gI l to q i) (nx to i : Nat) (some ((atI q to i : Nat), dX l i)) true := rfl
    have hrow : ∀ j, gI l to q (i + 1) (atI q to (i + 1)) j = sumG (gI l to q i (atI q to i) j) (dX l i) := by
      intro j
      rw [hg]
      show setF _ _ _ _ (nx to i) j = _
      unfold setF
      rw [if_pos rfl]
      simp
    refine ⟨fun a b => ?_, ?_, fun j hj => ?_⟩
    · rw [hg]; exact inR_setF a1 a b
    · rw [hrow, a2]
      have e1 : suI l (i + 1) = suI l i + dX l i := rfl
      have e2 : knI l (i + 1) = (knI l i && (decide (-17179869184 ≤ suI l (i + 1)) && decide (suI l (i + 1) ≤ 17179869184))) := rfl
      rw [e2, e1]
      cases hk : knI l i with
      | false => simp [sumG]
      | true =>
        have w : IntKind.i64.wrap (suI l i + dX l i) = suI l i + dX l i := wrap_id (by omega) (by omega)
        simp only [if_true, Bool.true_and, sumG, w]
        by_cases c1 : -17179869184 ≤ suI l i + dX l i
        · by_cases c2 : suI l i + dX l i ≤ 17179869184
          · rw [decide_eq_true c1, decide_eq_true c2, if_neg]
            · simp
            · rintro (h | h)
              · omega
              · exact h (.inr ⟨c1, c2⟩)
          · rw [decide_eq_true c1, decide_eq_false c2, if_pos (.inr (by unfold inR; omega))]
            simp
        · rw [decide_eq_false c1, if_pos (.inr (by unfold inR; omega))]
          simp
    · rw [hrow, a3 j hj]
      unfold sumG
      rw [if_pos (.inl rfl)]

theorem s24' (a b : Int) : S24 a b = some (side 1 a b, ()) := s24 a b
theorem s25' (a b : Int) : S25 a b = some (side 3 a b, ()) := s25 a b

theorem fin5 {q v : Nat} (hq : q < 3) (hv : v < 5) {G : Nat → Nat → Int} {want : Int} (hR : ∀ a b, inR (G a b)) (h1 : G v q = want) (h2 : ∀ j, j ≠ q → G v j = 1099511627776) : iter l5_1 F (true, (q : Int), mk 5 3 G, (v : Int), want, (0 : Int), ()) = some (true, ()) := by
  refine iter_run (f := l5_1) 3 (fun j => (true, (q : Int), mk 5 3 G, (v : Int), want, (j : Int), ())) (fun rec j hj => ?_) (fun rec => ?_) F 0 (Nat.zero_le _) (by unfold F; omega)
  · have hlt : ilt (j : Int) 3 = true := decide_eq_true (by omega)
    simp only [l5_1, hlt, cndT, ieq_nat, s19, boundF_at hv hj, Option.bind_some, wrap_succ (show j < 1000000 by omega)]
    by_cases e : j = q
    · rw [decide_eq_true e]; rfl
    · rw [decide_eq_false e, h2 j e, ieq, decide_eq_true rfl]; rfl
  · have hlt : ilt ((3 : Nat) : Int) 3 = false := rfl
    have hval := valid_true (n := 5) (m := 3) hR
    have hval' : validM 5 3 G 5 3 = true := hval
    simp only [l5_1, hlt, cndT, cndF, s19, boundF_at hv hq, Option.bind_some, h1, ieq, decide_true, s28 (show 5 ≤ 20 by omega) (show 3 ≤ 20 by omega), hval']

theorem l52 : l5_2 = l5_1 := rfl
theorem l53 : l5_3 = l5_1 := rfl
theorem l54 : l5_4 = l5_1 := rfl

theorem tmod2 (i : Nat) : ieq (Int.tmod (i : Int) 2) 1 = decide (i % 2 = 1) := by
  have : Int.tmod (i : Int) 2 = ((i % 2 : Nat) : Int) := tmod_nat i 2
  rw [this]
  unfold ieq
  congr 1
  apply propext
  omega

theorem nx_eq {to : List Int} (h : ∀ n ∈ to, 0 ≤ n ∧ n ≤ 255) {i : Nat} (hc : 0 < to.length) : IntKind.i64.wrap (3 + IntKind.i64.wrap (Int.tmod (to.getD (i % to.length) 0) 2)) = ((nx to i : Nat) : Int) := by
  have hm : to.getD (i % to.length) 0 ∈ to := by
    have := Nat.mod_lt i hc
    rw [List.getD_eq_getElem?_getD, List.getElem?_eq_getElem this]
    exact List.getElem_mem this
  obtain ⟨a, b⟩ := h _ hm
  unfold nx
  rw [if_pos hc, Int.tmod_eq_emod_of_nonneg a, wrap_id (x := to.getD (i % to.length) 0 % 2) (by omega) (by omega), wrap_id (by omega) (by omega)]
  omega

theorem law5 {a : Int} {l to : List Int} (ha : 0 ≤ a) (ha' : a ≤ 255) (hl : ∀ n ∈ l, is32 n) (hto : ∀ n ∈ to, 0 ≤ n ∧ n ≤ 255) : S5 a l to = some (true, ()) := by
  unfold S5 p5
  have hq3 : a.toNat % 3 < 3 := Nat.mod_lt _ (by omega)
  have hq : IntKind.i64.wrap (Int.tmod a 3) = ((a.toNat % 3 : Nat) : Int) := by
    rw [Int.tmod_eq_emod_of_nonneg ha, wrap_id (by omega) (by omega)]; omega
  have h53 : S23 (5 : Int) (3 : Int) = some (mk 5 3 F0) := s23 5 (by omega) 3 (by omega)
  rw [hq, h53]
  generalize a.toNat % 3 = q at hq3
  simp only [s9, Option.bind_some, Bool.not_true, cndF]
  have hN : min l.length 20 ≤ l.length ∧ min l.length 20 ≤ 20 := by omega
  have hNe : min l.length 20 = l.length ∨ min l.length 20 = 20 := by omega
  generalize hNd : min l.length 20 = N at hN hNe
  refine iter_run (f := l5_5 F) N (fun i => (l, to, true, (q : Int), mk 5 3 (gI l to q i), ((atI q to i : Nat) : Int), suI l i, knI l i, (i : Int), ())) (fun rec i hi => ?_) (fun rec => ?_) F 0 (Nat.zero_le _) (by unfold F; omega)
  · have hil : i < l.length := by omega
    have hi20 : ilt (i : Int) 20 = true := decide_eq_true (by omega)
    have h00 : ilt (0 : Int) (to.length : Int) = decide (0 < to.length) := by
      have := ilt_nat 0 to.length
      simpa using this
    have sm := suI_small hl i (by omega) (by omega)
    obtain ⟨c, d⟩ := cI_32 hl hil
    have hat := atI_lt hq3 to i
    have hno : nOk (cI l i) := by unfold nOk; omega
    have hva : vOk ((atI q to i : Nat) : Int) ((5 : Nat) : Int) := ⟨by omega, by omega⟩
    have hcI : IntKind.i64.wrap (l.getD i 0) = cI l i := rfl
    have sh1 : shM 1 ((atI q to i : Nat) : Int) (cI l i) ((5 : Nat) : Int) = some (((atI q to i : Nat) : Int), cI l i) := if_pos ⟨hva, hno⟩
    have sh3 : shM 3 ((atI q to i : Nat) : Int) (cI l i) ((5 : Nat) : Int) = some (((atI q to i : Nat) : Int), -cI l i) := if_pos ⟨hva, hno⟩
    have hw0 : IntKind.i64.wrap ((0 : Int) - 17179869184) = -17179869184 := wrap_id (by omega) (by omega)
    have hat' : atI q to (i + 1) = nx to i := rfl
    have hg : gI l to q (i + 1) = setF (gI l to q i) (nx to i : Nat) (some ((atI q to i : Nat), dX l i)) true := rfl
    have hs : suI l (i + 1) = suI l i + dX l i := rfl
    have hk : knI l (i + 1) = (knI l i && (decide (-17179869184 ≤ suI l (i + 1)) && decide (suI l (i + 1) ≤ 17179869184))) := rfl
    have w1 : IntKind.i64.wrap (suI l i + cI l i) = suI l i + cI l i := wrap_id (by omega) (by omega)
    have w2 : IntKind.i64.wrap (suI l i - cI l i) = suI l i - cI l i := wrap_id (by omega) (by omega)
    have h520 : (5 : Nat) ≤ 20 := by omega
    have h320 : (3 : Nat) ≤ 20 := by omega
    rw [hk, hs, hg, hat']
    by_cases p : i % 2 = 1
    · have hd : dX l i = -cI l i := by unfold dX; rw [if_pos p]
      have e1 : suI l i - cI l i = suI l i + -cI l i := by omega
      have w3 : IntKind.i64.wrap (suI l i + -cI l i) = suI l i + -cI l i := wrap_id (by omega) (by omega)
      by_cases c1 : 0 < to.length
      · have hz : (ieq (to.length : Int) 0) = false := decide_eq_false (by omega)
        simp only [l5_5, ilt_nat, hil, hi20, h00, c1, hz, decide_true, cndT, Bool.not_false, chk_true, tmod_nat, inB_nat, Nat.mod_lt _ c1, Int.toNat_natCast, hcI, s24', s25', Option.bind_some, tmod2, p, s26, hw0, w2, w3, nx_eq hto c1, s16 h520 h320, sh3, ile, wrap_succ (show i < 1000000 by omega), hd, e1]
        cases knI l i
        · simp only [cndF, Bool.false_and]
        · by_cases r1 : -17179869184 ≤ suI l i + -cI l i
          · simp only [r1, cndT, decide_true, Bool.true_and]
          · simp only [r1, cndT, cndF, decide_false, Bool.false_and, Bool.and_false]
      · have hnx : ((nx to i : Nat) : Int) = 3 := by unfold nx; rw [if_neg c1]; rfl
        simp only [l5_5, ilt_nat, hil, hi20, h00, c1, decide_true, decide_false, cndT, cndF, chk_true, inB_nat, Int.toNat_natCast, hcI, s24', s25', Option.bind_some, tmod2, p, s26, hw0, w2, w3, s16 h520 h320, sh3, ile, wrap_succ (show i < 1000000 by omega), hd, e1, hnx]
        cases knI l i
        · simp only [cndF, Bool.false_and]
        · by_cases r1 : -17179869184 ≤ suI l i + -cI l i
          · simp only [r1, cndT, decide_true, Bool.true_and]
          · simp only [r1, cndT, cndF, decide_false, Bool.false_and, Bool.and_false]
    · have hd : dX l i = cI l i := by unfold dX; rw [if_neg p]
      by_cases c1 : 0 < to.length
      · have hz : (ieq (to.length : Int) 0) = false := decide_eq_false (by omega)
        simp only [l5_5, ilt_nat, hil, hi20, h00, c1, hz, decide_true, decide_false, cndT, cndF, Bool.not_false, chk_true, tmod_nat, inB_nat, Nat.mod_lt _ c1, Int.toNat_natCast, hcI, s24', s25', Option.bind_some, tmod2, p, s26, hw0, w1, nx_eq hto c1, s16 h520 h320, sh1, ile, wrap_succ (show i < 1000000 by omega), hd]
        cases knI l i
        · simp only [cndF, Bool.false_and]
        · by_cases r1 : -17179869184 ≤ suI l i + cI l i
          · simp only [r1, cndT, decide_true, Bool.true_and]
          · simp only [r1, cndT, cndF, decide_false, Bool.false_and, Bool.and_false]
      · have hnx : ((nx to i : Nat) : Int) = 3 := by unfold nx; rw [if_neg c1]; rfl
        simp only [l5_5, ilt_nat, hil, hi20, h00, c1, decide_true, decide_false, cndT, cndF, chk_true, inB_nat, Int.toNat_natCast, hcI, s24', s25', Option.bind_some, tmod2, p, s26, hw0, w1, s16 h520 h320, sh1, ile, wrap_succ (show i < 1000000 by omega), hd, hnx]
        cases knI l i
        · simp only [cndF, Bool.false_and]
        · by_cases r1 : -17179869184 ≤ suI l i + cI l i
          · simp only [r1, cndT, decide_true, Bool.true_and]
          · simp only [r1, cndT, cndF, decide_false, Bool.false_and, Bool.and_false]
  · obtain ⟨b1, b2, b3⟩ := gI_inv (to := to) hl hq3 N hN.1 hN.2
    have hat := atI_lt hq3 to N
    have ends : ∀ w : Int, w = (if knI l N = true then suI l N else 1099511627776) → iter l5_1 F (true, (q : Int), mk 5 3 (gI l to q N), ((atI q to N : Nat) : Int), w, (0 : Int), ()) = some (true, ()) := fun w hw => fin5 hq3 hat b1 (by rw [b2, hw]) b3
    have exit : (bif ieq (l.length : Int) 0 then (bif true then (S23 (5 : Int) (3 : Int)).bind fun r28 => (S27 (mk 5 3 (gI l to q N)) r28).bind fun r29 => some (r29.1, ()) else some (false, ())) else (bif knI l N then iter l5_1 F (true, (q : Int), mk 5 3 (gI l to q N), ((atI q to N : Nat) : Int), suI l N, (0 : Int), ()) else iter l5_1 F (true, (q : Int), mk 5 3 (gI l to q N), ((atI q to N : Nat) : Int), (1099511627776 : Int), (0 : Int), ()))) = some (true, ()) := by
      by_cases h0 : l.length = 0
      · have hN0 : N = 0 := by omega
        rw [ieq, decide_eq_true (by omega), cndT, cndT, h53, Option.bind_some, hN0]
        have : gI l to q 0 = F0 := rfl
        rw [this, same_self (by omega) (by omega)]
        rfl
      · rw [ieq, decide_eq_false (by omega), cndF]
        cases hk : knI l N with
        | true => rw [cndT]; exact ends _ (by rw [hk]; rfl)
        | false => rw [cndF]; exact ends _ (by rw [hk]; rfl)
    by_cases hlt : N < l.length
    · have hi20 : ilt (N : Int) 20 = false := decide_eq_false (by omega)
      simp only [l5_5, ilt_nat, hlt, hi20, decide_true, cndT, cndF]
      exact exit
    · simp only [l5_5, ilt_nat, hlt, decide_false, cndF]
      exact exit

end Go.Vs.Ga
