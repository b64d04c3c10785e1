/- What the functions of the gap laws compute, in plain words. -/
import Derived.Test.YtfebanpfolgmaaaGaM
namespace Go.Vs.Ga
set_option linter.unusedVariables false
set_option linter.unusedSimpArgs false

open Classical in
theorem s22 {n m : Nat} {f g : Nat → Nat → Int} (hn : n ≤ 20) (hm : m ≤ 20) : S22 (mk n m f) (mk n m g) = some (decide (∀ i, i < n → ∀ j, j < m → f i j ≤ g i j), ()) := by
  unfold S22 p22
  have inner : ∀ i, i < n → ∀ rec0, iter (l22_1 rec0) F (mk n m f, mk n m g, (i : Int), (n : Int), (i : Int), (m : Int), (0 : Int), ()) = if ∀ j, 0 ≤ j → j < m → f i j ≤ g i j then rec0 (mk n m f, mk n m g, (n : Int), ((i + 1 : Nat) : Int), ()) else some (false, ()) := by
    intro i hi rec0
    refine iter_all m (fun j => (mk n m f, mk n m g, (i : Int), (n : Int), (i : Int), (m : Int), (j : Int), ())) (fun j => f i j ≤ g i j) (fun rec j hj hp => ?_) (fun rec j hj hp => ?_) (fun rec => ?_) F 0 (Nat.zero_le _) (by unfold F; omega)
    · have : ¬ g i j < f i j := by omega
      simp only [l22_1, ilt_nat, inB_nat, mk_len, mk_row_len hi, mk_at hi hj, hi, hj, Int.toNat_natCast, decide_true, cond_true, chk_true, ilt, this, decide_false, cond_false, wrap_succ (show j < 1000000 by omega), Int.ofNat_lt]
    · have : g i j < f i j := by omega
      simp only [l22_1, ilt_nat, inB_nat, mk_len, mk_row_len hi, mk_at hi hj, hi, hj, Int.toNat_natCast, decide_true, cond_true, chk_true, ilt, this, Int.ofNat_lt]
    · simp only [l22_1, ilt_nat, Nat.lt_irrefl, decide_false, cond_false, wrap_succ (show i < 1000000 by omega)]
  have outer := iter_all (f := l22_2 F) (done := some (true, ())) (bad := some (false, ())) n (fun i => (mk n m f, mk n m g, (n : Int), (i : Int), ())) (fun i => ∀ j, 0 ≤ j → j < m → f i j ≤ g i j) (fun rec i hi hp => by
      simp only [l22_2, ilt_nat, inB_nat, mk_len, mk_row_len hi, hi, Int.toNat_natCast, decide_true, cond_true, chk_true, inner i hi, if_pos hp]) (fun rec i hi hp => by
      simp only [l22_2, ilt_nat, inB_nat, mk_len, mk_row_len hi, hi, Int.toNat_natCast, decide_true, cond_true, chk_true, inner i hi, if_neg hp]) (fun rec => by
      simp only [l22_2, ilt_nat, Nat.lt_irrefl, decide_false, cond_false]) F 0 (Nat.zero_le _) (by unfold F; omega)
  rw [mk_len]
  refine outer.trans ?_
  by_cases h : ∀ i, i < n → ∀ j, j < m → f i j ≤ g i j
  · rw [if_pos (fun i _ hi j _ hj => h i hi j hj), decide_eq_true h]
  · rw [if_neg (fun h' => h fun i hi j hj => h' i (Nat.zero_le _) hi j (Nat.zero_le _) hj), decide_eq_false h]

open Classical in
theorem s36 {n m : Nat} {f g : Nat → Nat → Int} (hn : n ≤ 20) (hm : m ≤ 20) : S36 (mk n m f) (mk n m g) = some (decide (∀ i, i < n → ∀ j, j < m → f i j ≤ g i j), ()) := by
  unfold S36 p36
  have inner : ∀ i, i < n → ∀ rec0, iter (l36_1 rec0) F (mk n m f, mk n m g, (i : Int), (0 : Int), ()) = if ∀ j, 0 ≤ j → j < m → f i j ≤ g i j then rec0 (mk n m f, mk n m g, ((i + 1 : Nat) : Int), ()) else some (false, ()) := by
    intro i hi rec0
    refine iter_all m (fun j => (mk n m f, mk n m g, (i : Int), (j : Int), ())) (fun j => f i j ≤ g i j) (fun rec j hj hp => ?_) (fun rec j hj hp => ?_) (fun rec => ?_) F 0 (Nat.zero_le _) (by unfold F; omega)
    · have : ¬ g i j < f i j := by omega
      simp only [l36_1, ilt_nat, inB_nat, mk_len, mk_row_len hi, mk_at hi hj, hi, hj, Int.toNat_natCast, decide_true, cond_true, chk_true, ilt, this, decide_false, cond_false, wrap_succ (show j < 1000000 by omega), Int.ofNat_lt]
    · have : g i j < f i j := by omega
      simp only [l36_1, ilt_nat, inB_nat, mk_len, mk_row_len hi, mk_at hi hj, hi, hj, Int.toNat_natCast, decide_true, cond_true, chk_true, ilt, this, Int.ofNat_lt]
    · simp only [l36_1, ilt_nat, inB_nat, mk_len, hi, mk_row_len hi, Int.toNat_natCast, decide_true, chk_true, Nat.lt_irrefl, decide_false, cond_false, wrap_succ (show i < 1000000 by omega)]
  have outer := iter_all (f := l36_2 F) (done := some (true, ())) (bad := some (false, ())) n (fun i => (mk n m f, mk n m g, (i : Int), ())) (fun i => ∀ j, 0 ≤ j → j < m → f i j ≤ g i j) (fun rec i hi hp => by
      simp only [l36_2, ilt_nat, inB_nat, mk_len, mk_row_len hi, hi, Int.toNat_natCast, decide_true, cond_true, chk_true, inner i hi, if_pos hp]) (fun rec i hi hp => by
      simp only [l36_2, ilt_nat, inB_nat, mk_len, mk_row_len hi, hi, Int.toNat_natCast, decide_true, cond_true, chk_true, inner i hi, if_neg hp]) (fun rec => by
      simp only [l36_2, ilt_nat, mk_len, Nat.lt_irrefl, decide_false, cond_false]) F 0 (Nat.zero_le _) (by unfold F; omega)
  refine outer.trans ?_
  by_cases h : ∀ i, i < n → ∀ j, j < m → f i j ≤ g i j
  · rw [if_pos (fun i _ hi j _ hj => h i hi j hj), decide_eq_true h]
  · rw [if_neg (fun h' => h fun i hi j hj => h' i (Nat.zero_le _) hi j (Nat.zero_le _) hj), decide_eq_false h]

open Classical in
theorem s27 {n m : Nat} {f g : Nat → Nat → Int} (hn : n ≤ 20) (hm : m ≤ 20) : S27 (mk n m f) (mk n m g) = some (decide (∀ i, i < n → ∀ j, j < m → f i j = g i j), ()) := by
  unfold S27 p27
  have inner : ∀ i, i < n → ∀ rec0, iter (l27_1 rec0) F (mk n m f, mk n m g, (i : Int), (0 : Int), ()) = if ∀ j, 0 ≤ j → j < m → f i j = g i j then rec0 (mk n m f, mk n m g, ((i + 1 : Nat) : Int), ()) else some (false, ()) := by
    intro i hi rec0
    refine iter_all m (fun j => (mk n m f, mk n m g, (i : Int), (j : Int), ())) (fun j => f i j = g i j) (fun rec j hj hp => ?_) (fun rec j hj hp => ?_) (fun rec => ?_) F 0 (Nat.zero_le _) (by unfold F; omega)
    · simp only [l27_1, ilt_nat, inB_nat, mk_len, mk_row_len hi, mk_at hi hj, hi, hj, Int.toNat_natCast, decide_true, cond_true, chk_true, ieq, hp, Bool.not_true, cond_false, wrap_succ (show j < 1000000 by omega)]
    · simp only [l27_1, ilt_nat, inB_nat, mk_len, mk_row_len hi, mk_at hi hj, hi, hj, Int.toNat_natCast, decide_true, cond_true, chk_true, ieq, hp, decide_false, Bool.not_false]
    · simp only [l27_1, ilt_nat, inB_nat, mk_len, hi, mk_row_len hi, Int.toNat_natCast, decide_true, chk_true, Nat.lt_irrefl, decide_false, cond_false, wrap_succ (show i < 1000000 by omega)]
  have outer := iter_all (f := l27_2 F) (done := some (true, ())) (bad := some (false, ())) n (fun i => (mk n m f, mk n m g, (i : Int), ())) (fun i => ∀ j, 0 ≤ j → j < m → f i j = g i j) (fun rec i hi hp => by
      simp only [l27_2, ilt_nat, inB_nat, ieq_nat, mk_len, mk_row_len hi, hi, Int.toNat_natCast, decide_true, Bool.not_true, cond_true, cond_false, chk_true, inner i hi, if_pos hp]) (fun rec i hi hp => by
      simp only [l27_2, ilt_nat, inB_nat, ieq_nat, mk_len, mk_row_len hi, hi, Int.toNat_natCast, decide_true, Bool.not_true, cond_true, cond_false, chk_true, inner i hi, if_neg hp]) (fun rec => by
      simp only [l27_2, ilt_nat, mk_len, Nat.lt_irrefl, decide_false, cond_false]) F 0 (Nat.zero_le _) (by unfold F; omega)
  rw [mk_len, mk_len, ieq_nat, decide_eq_true rfl, Bool.not_true, cond_false]
  refine outer.trans ?_
  by_cases h : ∀ i, i < n → ∀ j, j < m → f i j = g i j
  · rw [if_pos (fun i _ hi j _ hj => h i hi j hj), decide_eq_true h]
  · rw [if_neg (fun h' => h fun i hi j hj => h' i (Nat.zero_le _) hi j (Nat.zero_le _) hj), decide_eq_false h]

/-! ### numbers -/

def inR (a : Int) : Prop := a = 1099511627776 ∨ -17179869184 ≤ a ∧ a ≤ 17179869184
instance (a : Int) : Decidable (inR a) := by unfold inR; infer_instance

theorem s61 (a : Int) : S61 a = some (decide (inR a), ()) := by
  unfold S61 p61 ieq ile inR
  by_cases h1 : a = 1099511627776
  · simp [h1]
  · by_cases h2 : -17179869184 ≤ a <;> simp [h1, h2]

theorem s26 : S26 = some (17179869184, ()) := rfl

theorem s42 (a : Int) : S42 a = some (decide (inR a), ()) := by
  have hw : IntKind.i64.wrap ((0 : Int) - 17179869184) = -17179869184 := wrap_id (by omega) (by omega)
  unfold S42 p42 ieq ile inR
  rw [s26]
  simp only [Option.bind_some, hw]
  by_cases h1 : a = 1099511627776
  · simp [h1]
  · by_cases h2 : -17179869184 ≤ a <;> simp [h1, h2]

def sumG (a k : Int) : Int := if a = 1099511627776 ∨ ¬ inR (IntKind.i64.wrap (a + k)) then 1099511627776 else IntKind.i64.wrap (a + k)

theorem s48 (a k : Int) : S48 a k = some (sumG a k, ()) := by
  unfold S48 p48 ieq sumG
  by_cases h1 : a = 1099511627776
  · simp [h1]
  · simp only [h1, decide_false, cond_false, s61, Option.bind_some, false_or]
    by_cases h2 : inR (IntKind.i64.wrap (a + k)) <;> simp [h2]

theorem s65 (a k : Int) : S65 a k = some (sumG a k, ()) := by
  unfold S65 p65 ieq sumG
  by_cases h1 : a = 1099511627776
  · simp [h1]
  · simp only [h1, decide_false, cond_false, s42, Option.bind_some, false_or]
    by_cases h2 : inR (IntKind.i64.wrap (a + k)) <;> simp [h2]

theorem s63 (a b : Int) : S63 a b = some (imax a b, ()) := rfl
def wid (a b : Int) : Int := if a < b then 1099511627776 else a
theorem s64 (a b : Int) : S64 a b = some (wid a b, ()) := by
  unfold S64 p64 ilt wid
  by_cases h : a < b <;> simp [h]

/-! ### copies -/

theorem room_ok (b : Nat) {n : Nat} (hb : b ≤ 1000) (h : n ≤ 1000) : room b ((n : Nat) : Int) = true := by
  have h1 : b * n ≤ 1000 * 1000 := Nat.mul_le_mul hb h
  have h2 : ((b * n : Nat) : Int) = (b : Int) * (n : Int) := by simp
  unfold room
  exact decide_eq_true (by omega)

theorem ile_big {n : Nat} (h : n ≤ 1000) : ile ((n : Nat) : Int) (9223372036854775807 : Int) = true := decide_eq_true (by omega)

theorem s67 {a : List (List Int)} (h : a.length ≤ 20) : S67 a = some a := by
  unfold S67 p67
  rw [ile_big (by omega), room_ok 24 (by omega) (by omega)]
  cases a with
  | nil => simp [chk, agree_self]
  | cons x l => simp [chk]

theorem s68 {a : List Int} (h : a.length ≤ 20) : S68 a = some a := by
  unfold S68 p68
  rw [ile_big (by omega), room_ok 8 (by omega) (by omega)]
  cases a with
  | nil => simp [chk, agree_self]
  | cons x l => simp [chk]

def half (n m : Nat) (f : Nat → Nat → Int) (i : Nat) : List (Bool × List Int) := (List.range n).map fun k => (decide (k < i), (List.range m).map fun j => f k j)

theorem half_len (n m : Nat) (f : Nat → Nat → Int) (i : Nat) : (half n m f i).length = n := by simp [half]

theorem half_set {n m : Nat} {f : Nat → Nat → Int} {i : Nat} (h : i < n) : (half n m f i).set i (true, (mk n m f).getD i []) = half n m f (i + 1) := by
  rw [mk_row h]
  apply List.ext_getElem
  · simp [half]
  · intro a h1 h2
    rw [List.getElem_set]
    by_cases e : i = a
    · subst e; simp [half]
    · simp only [e, if_false, half, List.getElem_map, List.getElem_range, Prod.mk.injEq, and_true]
      congr 1
      apply propext
      omega

theorem s46 {n m : Nat} {f : Nat → Nat → Int} (hn : n ≤ 20) (hm : m ≤ 20) : S46 (mk n m f) = some (mk n m f) := by
  unfold S46 p46
  rw [s67 (by rw [mk_len]; exact hn)]
  have hs : shared (mk n m f) = half n m f 0 := by simp [shared, half, mk]
  simp only [Option.bind_some, hs, mk_len]
  refine iter_run (f := l46_1) n (fun i => (mk n m f, half n m f i, (n : Int), (i : Int), ())) (fun rec i hi => ?_) (fun rec => ?_) F 0 (Nat.zero_le _) (by unfold F; omega)
  · simp only [l46_1, ilt_nat, inB_nat, mk_len, half_len, hi, Int.toNat_natCast, decide_true, cond_true, chk_true]
    rw [s68 (by rw [mk_row_len hi]; exact hm)]
    simp only [Option.bind_some, half_set hi, wrap_succ (show i < 1000000 by omega)]
  · have h1 : (half n m f n).all (fun y4 => y4.1) = true := by
      simp [half]
    have h2 : (half n m f n).map (fun y5 => y5.2) = mk n m f := by
      simp [half, mk]
    simp only [l46_1, ilt_nat, Nat.lt_irrefl, decide_false, cond_false, h1, h2, chk_true]

theorem mk_snoc {n i m : Nat} {f : Nat → Nat → Int} (h : i < n) : mk i m f ++ [(mk n m f).getD i []] = mk (i + 1) m f := by
  rw [mk_row h]
  simp [mk, List.range_succ]

theorem s38 {n m : Nat} {f : Nat → Nat → Int} (hn : n ≤ 20) (hm : m ≤ 20) : S38 (mk n m f) = some (mk n m f) := by
  unfold S38 p38
  refine iter_run (f := l38_1) n (fun i => (mk n m f, mk i m f, (i : Int), ())) (fun rec i hi => ?_) (fun rec => ?_) F 0 (Nat.zero_le _) (by unfold F; omega)
  · simp only [l38_1, ilt_nat, inB_nat, mk_len, mk_row_len hi, hi, Int.toNat_natCast, decide_true, cond_true, chk_true, wrap_succ (show i < 1000000 by omega), mk_snoc hi]
    rw [ile_big (by omega), room_ok 8 (by omega) (by omega), ile_big (by omega), room_ok 24 (by omega) (by omega)]
    simp only [Bool.and_true, chk_true]
  · simp only [l38_1, ilt_nat, mk_len, Nat.lt_irrefl, decide_false, cond_false]

/-! ### joins, widening -/

theorem w62 {n m : Nat} {f g new : Nat → Nat → Int} (hn : n ≤ 20) (hm : m ≤ 20) (hnew : ∀ i j, new i j = imax (f i j) (g i j)) : S62 (mk n m f) (mk n m g) () = some (mk n m new) := by
  unfold S62 p62
  have inner : ∀ i, i < n → ∀ rec0, iter (l62_1 rec0) F (mk n m f, mk n m g, mk n m (part new f i 0), (i : Int), (n : Int), (i : Int), (m : Int), (0 : Int), (), ()) = rec0 (mk n m f, mk n m g, mk n m (part new f (i + 1) 0), (n : Int), ((i + 1 : Nat) : Int), (), ()) := by
    intro i hi rec0
    refine iter_run m (fun j => (mk n m f, mk n m g, mk n m (part new f i j), (i : Int), (n : Int), (i : Int), (m : Int), (j : Int), (), ())) (fun rec j hj => ?_) (fun rec => ?_) F 0 (Nat.zero_le _) (by unfold F; omega)
    · simp only [l62_1, ilt_nat, inB_nat, mk_len, mk_row_len hi, mk_at hi hj, hi, hj, Int.toNat_natCast, decide_true, cond_true, chk_true, s63, Option.bind_some, mk_set hi hj, wrap_succ (show j < 1000000 by omega)]
      rw [← hnew, part_step]
    · simp only [l62_1, ilt_nat, Nat.lt_irrefl, decide_false, cond_false, part_row, wrap_succ (show i < 1000000 by omega)]
  have outer := iter_run (f := l62_2 F) (done := some (mk n m new)) n (fun i => (mk n m f, mk n m g, mk n m (part new f i 0), (n : Int), (i : Int), (), ())) (fun rec i hi => by
      simp only [l62_2, ilt_nat, inB_nat, mk_len, mk_row_len hi, hi, Int.toNat_natCast, decide_true, cond_true, chk_true, inner i hi]) (fun rec => by
      simp only [l62_2, ilt_nat, Nat.lt_irrefl, decide_false, cond_false, part_all]) F 0 (Nat.zero_le _) (by unfold F; omega)
  rw [part_zero] at outer
  simp only [s46 hn hm, Option.bind_some, mk_len]
  exact outer

theorem w162 {n m : Nat} {f g new : Nat → Nat → Int} (hn : n ≤ 20) (hm : m ≤ 20) (hnew : ∀ i j, new i j = wid (f i j) (g i j)) : S162 (mk n m f) (mk n m g) () = some (mk n m new) := by
  unfold S162 p162
  have inner : ∀ i, i < n → ∀ rec0, iter (l162_1 rec0) F (mk n m f, mk n m g, mk n m (part new f i 0), (i : Int), (n : Int), (i : Int), (m : Int), (0 : Int), (), ()) = rec0 (mk n m f, mk n m g, mk n m (part new f (i + 1) 0), (n : Int), ((i + 1 : Nat) : Int), (), ()) := by
    intro i hi rec0
    refine iter_run m (fun j => (mk n m f, mk n m g, mk n m (part new f i j), (i : Int), (n : Int), (i : Int), (m : Int), (j : Int), (), ())) (fun rec j hj => ?_) (fun rec => ?_) F 0 (Nat.zero_le _) (by unfold F; omega)
    · simp only [l162_1, ilt_nat, inB_nat, mk_len, mk_row_len hi, mk_at hi hj, hi, hj, Int.toNat_natCast, decide_true, cond_true, chk_true, s64, Option.bind_some, mk_set hi hj, wrap_succ (show j < 1000000 by omega)]
      rw [← hnew, part_step]
    · simp only [l162_1, ilt_nat, Nat.lt_irrefl, decide_false, cond_false, part_row, wrap_succ (show i < 1000000 by omega)]
  have outer := iter_run (f := l162_2 F) (done := some (mk n m new)) n (fun i => (mk n m f, mk n m g, mk n m (part new f i 0), (n : Int), (i : Int), (), ())) (fun rec i hi => by
      simp only [l162_2, ilt_nat, inB_nat, mk_len, mk_row_len hi, hi, Int.toNat_natCast, decide_true, cond_true, chk_true, inner i hi]) (fun rec => by
      simp only [l162_2, ilt_nat, Nat.lt_irrefl, decide_false, cond_false, part_all]) F 0 (Nat.zero_le _) (by unfold F; omega)
  rw [part_zero] at outer
  simp only [s46 hn hm, Option.bind_some, mk_len]
  exact outer

theorem w34 {n m : Nat} {f g new : Nat → Nat → Int} (hn : n ≤ 20) (hm : m ≤ 20) (hnew : ∀ i j, new i j = imax (f i j) (g i j)) : S34 (mk n m f) (mk n m g) = some (mk n m new) := by
  unfold S34 p34
  have inner : ∀ i, i < n → ∀ rec0, iter (l34_1 rec0) F (mk n m f, mk n m g, mk n m (part new f i 0), (i : Int), (0 : Int), ()) = rec0 (mk n m f, mk n m g, mk n m (part new f (i + 1) 0), ((i + 1 : Nat) : Int), ()) := by
    intro i hi rec0
    refine iter_run m (fun j => (mk n m f, mk n m g, mk n m (part new f i j), (i : Int), (j : Int), ())) (fun rec j hj => ?_) (fun rec => ?_) F 0 (Nat.zero_le _) (by unfold F; omega)
    · simp only [l34_1, ilt_nat, inB_nat, mk_len, mk_row_len hi, mk_at hi hj, hi, hj, Int.toNat_natCast, decide_true, cond_true, chk_true, mk_set hi hj, wrap_succ (show j < 1000000 by omega)]
      rw [← hnew, part_step]
    · simp only [l34_1, ilt_nat, inB_nat, mk_len, mk_row_len hi, hi, Int.toNat_natCast, decide_true, chk_true, Nat.lt_irrefl, decide_false, cond_false, part_row, wrap_succ (show i < 1000000 by omega)]
  have outer := iter_run (f := l34_2 F) (done := some (mk n m new)) n (fun i => (mk n m f, mk n m g, mk n m (part new f i 0), (i : Int), ())) (fun rec i hi => by
      simp only [l34_2, ilt_nat, inB_nat, mk_len, mk_row_len hi, hi, Int.toNat_natCast, decide_true, cond_true, chk_true, inner i hi]) (fun rec => by
      simp only [l34_2, ilt_nat, mk_len, Nat.lt_irrefl, decide_false, cond_false, part_all]) F 0 (Nat.zero_le _) (by unfold F; omega)
  rw [part_zero] at outer
  simp only [s38 hn hm, Option.bind_some]
  exact outer

theorem w35 {n m : Nat} {f g new : Nat → Nat → Int} (hn : n ≤ 20) (hm : m ≤ 20) (hnew : ∀ i j, new i j = wid (f i j) (g i j)) : S35 (mk n m f) (mk n m g) = some (mk n m new) := by
  unfold S35 p35
  have inner : ∀ i, i < n → ∀ rec0, iter (l35_1 rec0) F (mk n m f, mk n m g, mk n m (part new f i 0), (i : Int), (0 : Int), ()) = rec0 (mk n m f, mk n m g, mk n m (part new f (i + 1) 0), ((i + 1 : Nat) : Int), ()) := by
    intro i hi rec0
    refine iter_run m (fun j => (mk n m f, mk n m g, mk n m (part new f i j), (i : Int), (j : Int), ())) (fun rec j hj => ?_) (fun rec => ?_) F 0 (Nat.zero_le _) (by unfold F; omega)
    · have hstep := part_step (n := n) (m := m) new f i j
      by_cases h : f i j < g i j
      · have hx : new i j = 1099511627776 := by rw [hnew, wid, if_pos h]
        simp only [l35_1, ilt_nat, inB_nat, mk_len, mk_row_len hi, mk_at hi hj, hi, hj, Int.toNat_natCast, decide_true, cond_true, chk_true, mk_set hi hj, wrap_succ (show j < 1000000 by omega), ilt, Int.ofNat_lt, h]
        rw [← hx, hstep]
      · have hx : new i j = part new f i j i j := by rw [part_at, hnew, wid, if_neg h]
        simp only [l35_1, ilt_nat, inB_nat, mk_len, mk_row_len hi, mk_at hi hj, hi, hj, Int.toNat_natCast, decide_true, decide_false, cond_false, cond_true, chk_true, wrap_succ (show j < 1000000 by omega), ilt, Int.ofNat_lt, h]
        have hu : mk n m (upd (part new f i j) i j (new i j)) = mk n m (part new f i j) := mk_congr fun a b _ _ => by
          unfold upd
          split
          · rename_i e; rw [e.1, e.2, hx]
          · rfl
        rw [← hstep, hu]
    · simp only [l35_1, ilt_nat, inB_nat, mk_len, mk_row_len hi, hi, Int.toNat_natCast, decide_true, chk_true, Nat.lt_irrefl, decide_false, cond_false, part_row, wrap_succ (show i < 1000000 by omega)]
  have outer := iter_run (f := l35_2 F) (done := some (mk n m new)) n (fun i => (mk n m f, mk n m g, mk n m (part new f i 0), (i : Int), ())) (fun rec i hi => by
      simp only [l35_2, ilt_nat, inB_nat, mk_len, mk_row_len hi, hi, Int.toNat_natCast, decide_true, cond_true, chk_true, inner i hi]) (fun rec => by
      simp only [l35_2, ilt_nat, mk_len, Nat.lt_irrefl, decide_false, cond_false, part_all]) F 0 (Nat.zero_le _) (by unfold F; omega)
  rw [part_zero] at outer
  simp only [s38 hn hm, Option.bind_some]
  exact outer

def joinF (f g : Nat → Nat → Int) : Nat → Nat → Int := fun i j => imax (f i j) (g i j)
def widF (f g : Nat → Nat → Int) : Nat → Nat → Int := fun i j => wid (f i j) (g i j)
theorem s29 {n m : Nat} {f g : Nat → Nat → Int} (hn : n ≤ 20) (hm : m ≤ 20) : S29 (mk n m f) (mk n m g) = some (mk n m (joinF f g)) := by
  unfold S29 p29
  simp only [w62 (new := joinF f g) hn hm (fun _ _ => rfl), Option.bind_some]
theorem s30 {n m : Nat} {f g : Nat → Nat → Int} (hn : n ≤ 20) (hm : m ≤ 20) : S30 (mk n m f) (mk n m g) = some (mk n m (widF f g)) := by
  unfold S30 p30
  simp only [w162 (new := widF f g) hn hm (fun _ _ => rfl), Option.bind_some]
theorem s34 {n m : Nat} {f g : Nat → Nat → Int} (hn : n ≤ 20) (hm : m ≤ 20) : S34 (mk n m f) (mk n m g) = some (mk n m (joinF f g)) := w34 hn hm (fun _ _ => rfl)
theorem s35 {n m : Nat} {f g : Nat → Nat → Int} (hn : n ≤ 20) (hm : m ≤ 20) : S35 (mk n m f) (mk n m g) = some (mk n m (widF f g)) := w35 hn hm (fun _ _ => rfl)

/-! ### bounds -/

def boundF (n m : Nat) (f : Nat → Nat → Int) (v p : Int) : Int := if 0 ≤ v ∧ v < n ∧ 0 ≤ p ∧ p < m then f v.toNat p.toNat else 1099511627776

theorem s19 {n m : Nat} {f : Nat → Nat → Int} (v p : Int) : S19 (mk n m f) v p = some (boundF n m f v p, ()) := by
  unfold S19 p19 ilt ile boundF inB
  by_cases h1 : v < 0
  · rw [if_neg (by omega)]; simp [h1]
  by_cases h2 : (n : Int) ≤ v
  · rw [if_neg (by omega)]; simp [h1, h2, mk_len]
  by_cases h3 : p < 0
  · rw [if_neg (by omega)]; simp [h1, h2, h3, mk_len]
  have hv : v.toNat < n := by omega
  by_cases h4 : (m : Int) ≤ p
  · rw [if_neg (by omega)]
    have a1 : 0 ≤ v ∧ v < n := by omega
    simp only [mk_len, mk_row_len hv, h1, h2, h3, h4, a1.1, a1.2, decide_false, decide_true, cond_false, cond_true, chk_true, Bool.and_true]
  · rw [if_pos (by omega)]
    have hp : p.toNat < m := by omega
    have a1 : 0 ≤ v ∧ v < n ∧ 0 ≤ p ∧ p < m := by omega
    obtain ⟨b1, b2, b3, b4⟩ := a1
    simp only [mk_len, mk_row_len hv, mk_at hv hp, h1, h2, h3, h4, b1, b2, b3, b4, decide_false, decide_true, cond_false, chk_true, Bool.and_true]

theorem s37 {n m : Nat} {f : Nat → Nat → Int} (v p : Int) : S37 (mk n m f) v p = some (boundF n m f v p, ()) := s19 v p


end Go.Vs.Ga
