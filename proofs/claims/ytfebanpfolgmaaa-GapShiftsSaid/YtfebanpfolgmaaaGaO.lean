/- What the functions of the gap laws compute: how inputs are made. -/
import Derived.Test.YtfebanpfolgmaaaGaN
namespace Go.Vs.Ga
set_option linter.unusedVariables false
set_option linter.unusedSimpArgs false

def F0 : Nat → Nat → Int := fun i j => if i = j then 0 else 1099511627776

theorem s31 : ∀ n, n < 6 → ∀ m, m < 6 → S31 ((n : Nat) : Int) ((m : Nat) : Int) = some (mk n m F0) := by decide +kernel
theorem s23 : ∀ n, n < 6 → ∀ m, m < 6 → S23 ((n : Nat) : Int) ((m : Nat) : Int) = some (mk n m F0) := by decide +kernel

theorem part_skip {n m : Nat} {new old : Nat → Nat → Int} {i j : Nat} (h : new i j = old i j) : mk n m (part new old i j) = mk n m (part new old i (j + 1)) := by
  rw [← part_step]
  apply mk_congr
  intro a b _ _
  unfold upd
  split
  · rename_i e; rw [e.1, e.2, part_at, h]
  · rfl

def gn (v : Int) : Nat := 1 + v.toNat % 5
def gm (v p : Int) : Nat := min (p.toNat % 4) (gn v)
theorem gn_pos (v : Int) : 0 < gn v := by unfold gn; omega
theorem gn_le (v : Int) : gn v ≤ 5 := by unfold gn; omega
theorem gm_le (v p : Int) : gm v p ≤ 3 := by unfold gm; omega
theorem gm_gn (v p : Int) : gm v p ≤ gn v := Nat.min_le_right _ _

theorem gn_eq {v : Int} (h : 0 ≤ v) (h' : v ≤ 255) : IntKind.i64.wrap ((1 : Int) + IntKind.i64.wrap (Int.tmod v 5)) = ((gn v : Nat) : Int) := by
  rw [Int.tmod_eq_emod_of_nonneg h, wrap_id (x := v % 5) (by omega) (by omega), wrap_id (by omega) (by omega)]
  unfold gn
  omega

theorem gm_eq {v p : Int} (h : 0 ≤ p) (h' : p ≤ 255) : imin (IntKind.i64.wrap (Int.tmod p 4)) ((gn v : Nat) : Int) = ((gm v p : Nat) : Int) := by
  rw [Int.tmod_eq_emod_of_nonneg h, wrap_id (by omega) (by omega)]
  unfold imin gm
  split <;> omega

theorem idx_small {i j m : Nat} (hi : i ≤ 20) (hj : j ≤ 20) (hm : m ≤ 20) : i * m + j < 1000000 := by
  have : i * m ≤ 20 * 20 := Nat.mul_le_mul hi hm
  omega

/-- The gaps that are made. -/
def madeF (N : List Int) (m : Nat) : Nat → Nat → Int := fun i j => if i * m + j < N.length ∧ inR (N.getD (i * m + j) 0) then N.getD (i * m + j) 0 else F0 i j

theorem madeF_ok (N : List Int) (m i j : Nat) : inR (madeF N m i j) := by
  unfold madeF
  split
  · rename_i h; exact h.2
  · unfold F0 inR; split <;> omega

theorem s10 {x : Raw} (h1 : 0 ≤ x.vars) (h2 : x.vars ≤ 255) (h3 : 0 ≤ x.params) (h4 : x.params ≤ 255) : S10 x = some (mk (gn x.vars) (gm x.vars x.params) (madeF x.n (gm x.vars x.params))) := by
  unfold S10 p10
  rw [gn_eq h1 h2, gm_eq h3 h4]
  have hn := gn_le x.vars
  have hm := gm_le x.vars x.params
  generalize gn x.vars = n at hn
  generalize gm x.vars x.params = m at hm
  rw [s31 n (by omega) m (by omega)]
  simp only [Option.bind_some]
  have inner : ∀ i, i < n → ∀ rec0, iter (l10_1 rec0) F (x, (n : Int), (m : Int), mk n m (part (madeF x.n m) F0 i 0), ((i * m : Nat) : Int), (i : Int), (0 : Int), ()) = rec0 (x, (n : Int), (m : Int), mk n m (part (madeF x.n m) F0 (i + 1) 0), (((i + 1) * m : Nat) : Int), ((i + 1 : Nat) : Int), ()) := by
    intro i hi rec0
    refine iter_run m (fun j => (x, (n : Int), (m : Int), mk n m (part (madeF x.n m) F0 i j), ((i * m + j : Nat) : Int), (i : Int), (j : Int), ())) (fun rec j hj => ?_) (fun rec => ?_) F 0 (Nat.zero_le _) (by unfold F; omega)
    · have hk := idx_small (i := i) (j := j) (m := m) (by omega) (by omega) (by omega)
      by_cases c1 : i * m + j < x.n.length
      · by_cases c2 : inR (x.n.getD (i * m + j) 0)
        · have hx : madeF x.n m i j = x.n.getD (i * m + j) 0 := by unfold madeF; rw [if_pos ⟨c1, c2⟩]
          simp only [l10_1, ilt_nat, inB_nat, mk_len, mk_row_len hi, hi, hj, c1, Int.toNat_natCast, decide_true, cond_true, chk_true, s42, Option.bind_some, c2, mk_set hi hj, wrap_succ (show j < 1000000 by omega), wrap_succ hk]
          rw [← hx, part_step]
          rfl
        · have hx : madeF x.n m i j = F0 i j := by unfold madeF; rw [if_neg (fun h => c2 h.2)]
          simp only [l10_1, ilt_nat, inB_nat, hj, c1, Int.toNat_natCast, decide_true, cond_true, chk_true, s42, Option.bind_some, c2, decide_false, cond_false, wrap_succ (show j < 1000000 by omega), wrap_succ hk]
          rw [part_skip hx]
          rfl
      · have hx : madeF x.n m i j = F0 i j := by unfold madeF; rw [if_neg (fun h => c1 h.1)]
        simp only [l10_1, ilt_nat, inB_nat, hj, c1, Int.toNat_natCast, decide_true, cond_true, chk_true, decide_false, cond_false, wrap_succ (show j < 1000000 by omega), wrap_succ hk]
        rw [part_skip hx]
        rfl
    · simp only [l10_1, ilt_nat, Nat.lt_irrefl, decide_false, cond_false, part_row, wrap_succ (show i < 1000000 by omega), Nat.add_mul, Nat.one_mul]
  have outer := iter_run (f := l10_2 F) (done := some (mk n m (madeF x.n m))) n (fun i => (x, (n : Int), (m : Int), mk n m (part (madeF x.n m) F0 i 0), ((i * m : Nat) : Int), (i : Int), ())) (fun rec i hi => by
      simp only [l10_2, ilt_nat, hi, decide_true, cond_true, inner i hi]) (fun rec => by
      simp only [l10_2, ilt_nat, Nat.lt_irrefl, decide_false, cond_false, part_all]) F 0 (Nat.zero_le _) (by unfold F; omega)
  rw [part_zero] at outer
  rw [Nat.zero_mul] at outer
  exact outer

/-! ### values -/

def vec (n : Nat) (u : Nat → Int) : List Int := (List.range n).map u
theorem vec_len (n : Nat) (u : Nat → Int) : (vec n u).length = n := by simp [vec]
theorem vec_at {n : Nat} {u : Nat → Int} {i : Nat} (h : i < n) : (vec n u).getD i 0 = u i := by simp [vec, List.getD_eq_getElem?_getD, h]
theorem vec_snoc (n : Nat) (u : Nat → Int) : vec n u ++ [u n] = vec (n + 1) u := by simp [vec, List.range_succ]
theorem vec_set {n : Nat} {u : Nat → Int} {i : Nat} {x : Int} (h : i < n) : (vec n u).set i x = vec n (fun k => if k = i then x else u k) := by
  apply List.ext_getElem
  · simp [vec]
  · intro a h1 h2
    rw [List.getElem_set]
    by_cases e : i = a
    · subst e; simp [vec]
    · simp [e, vec, Ne.symm e]

def valF (l : List Int) : Nat → Int := fun i => if i < l.length then IntKind.i64.wrap (l.getD i 0) else 0

theorem s11 {n m : Nat} {f : Nat → Nat → Int} (l : List Int) (hn : n ≤ 20) : S11 (mk n m f) l = some (vec n (valF l)) := by
  unfold S11 p11
  refine iter_run (f := l11_1) n (fun i => (mk n m f, l, vec i (valF l), (i : Int), ())) (fun rec i hi => ?_) (fun rec => ?_) F 0 (Nat.zero_le _) (by unfold F; omega)
  · by_cases c : i < l.length
    · have hx : valF l i = IntKind.i64.wrap (l.getD i 0) := by unfold valF; rw [if_pos c]
      simp only [l11_1, ilt_nat, inB_nat, mk_len, vec_len, hi, c, Int.toNat_natCast, decide_true, cndT, chk_true, wrap_succ (show i < 1000000 by omega), ← hx, vec_snoc]
      rw [ile_big (by omega), room_ok 8 (by omega) (by omega)]
      simp only [Bool.and_true, chk_true]
    · have hx : valF l i = 0 := by unfold valF; rw [if_neg c]
      have hs : vec i (valF l) ++ [0] = vec (i + 1) (valF l) := by rw [← hx, vec_snoc]
      simp only [l11_1, ilt_nat, inB_nat, mk_len, vec_len, hi, c, Int.toNat_natCast, decide_true, decide_false, cndF, cndT, chk_true, wrap_succ (show i < 1000000 by omega), hs]
      rw [ile_big (by omega), room_ok 8 (by omega) (by omega)]
      simp only [Bool.and_true, chk_true]
  · simp only [l11_1, ilt_nat, mk_len, Nat.lt_irrefl, decide_false, cndF]

def is32 (x : Int) : Prop := -2147483648 ≤ x ∧ x ≤ 2147483647

theorem valF_32 {l : List Int} (h : ∀ x ∈ l, is32 x) (i : Nat) : is32 (valF l i) := by
  unfold valF
  split
  · rename_i hi
    have : l.getD i 0 ∈ l := by
      rw [List.getD_eq_getElem?_getD, List.getElem?_eq_getElem hi]
      exact List.getElem_mem hi
    obtain ⟨a, b⟩ := h _ this
    rw [wrap_id (by omega) (by omega)]
    exact ⟨a, b⟩
  · unfold is32; omega

open Classical in
theorem s14 {n m : Nat} {f : Nat → Nat → Int} {u : Nat → Int} (hn : n ≤ 20) (hm : m ≤ n) : S14 (mk n m f) (vec n u) = some (decide (∀ i, i < n → ∀ j, j < m → IntKind.i64.wrap (u i - u j) ≤ f i j), ()) := by
  unfold S14 p14
  have inner : ∀ i, i < n → ∀ rec0, iter (l14_1 rec0) F (vec n u, (i : Int), mk n m f, (n : Int), (i : Int), (mk n m f).getD i [], (m : Int), (0 : Int), ()) = if ∀ j, 0 ≤ j → j < m → IntKind.i64.wrap (u i - u j) ≤ f i j then rec0 (vec n u, mk n m f, (n : Int), ((i + 1 : Nat) : Int), ()) else some (false, ()) := by
    intro i hi rec0
    refine iter_all m (fun j => (vec n u, (i : Int), mk n m f, (n : Int), (i : Int), (mk n m f).getD i [], (m : Int), (j : Int), ())) (fun j => IntKind.i64.wrap (u i - u j) ≤ f i j) (fun rec j hj hp => ?_) (fun rec j hj hp => ?_) (fun rec => ?_) F 0 (Nat.zero_le _) (by unfold F; omega)
    · have : ¬ f i j < IntKind.i64.wrap (u i - u j) := by omega
      have hjn : j < n := by omega
      simp only [l14_1, ilt_nat, inB_nat, vec_len, vec_at hi, vec_at hjn, mk_row_len hi, mk_at hi hj, hi, hj, hjn, Int.toNat_natCast, decide_true, cond_true, chk_true, ilt, this, decide_false, cond_false, wrap_succ (show j < 1000000 by omega), Int.ofNat_lt]
    · have : f i j < IntKind.i64.wrap (u i - u j) := by omega
      have hjn : j < n := by omega
      simp only [l14_1, ilt_nat, inB_nat, vec_len, vec_at hi, vec_at hjn, mk_row_len hi, mk_at hi hj, hi, hj, hjn, Int.toNat_natCast, decide_true, cond_true, chk_true, ilt, this, Int.ofNat_lt]
    · simp only [l14_1, ilt_nat, Nat.lt_irrefl, decide_false, cond_false, wrap_succ (show i < 1000000 by omega)]
  have outer := iter_all (f := l14_2 F) (done := some (true, ())) (bad := some (false, ())) n (fun i => (vec n u, mk n m f, (n : Int), (i : Int), ())) (fun i => ∀ j, 0 ≤ j → j < m → IntKind.i64.wrap (u i - u j) ≤ f i j) (fun rec i hi hp => by
      simp only [l14_2, ilt_nat, inB_nat, mk_len, mk_row_len hi, hi, Int.toNat_natCast, decide_true, cond_true, chk_true, inner i hi, if_pos hp]) (fun rec i hi hp => by
      simp only [l14_2, ilt_nat, inB_nat, mk_len, mk_row_len hi, hi, Int.toNat_natCast, decide_true, cond_true, chk_true, inner i hi, if_neg hp]) (fun rec => by
      simp only [l14_2, ilt_nat, Nat.lt_irrefl, decide_false, cond_false]) F 0 (Nat.zero_le _) (by unfold F; omega)
  rw [mk_len]
  refine outer.trans ?_
  by_cases h : ∀ i, i < n → ∀ j, j < m → IntKind.i64.wrap (u i - u j) ≤ f i j
  · rw [if_pos (fun i _ hi j _ hj => h i hi j hj), decide_eq_true h]
  · rw [if_neg (fun h' => h fun i hi j hj => h' i (Nat.zero_le _) hi j (Nat.zero_le _) hj), decide_eq_false h]

end Go.Vs.Ga
