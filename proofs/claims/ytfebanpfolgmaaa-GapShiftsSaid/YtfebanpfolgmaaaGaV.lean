/- What the functions of the gap laws compute: assignments and conditions on gaps; which gaps are valid. -/
import Derived.Test.YtfebanpfolgmaaaGaU
namespace Go.Vs.Ga
set_option linter.unusedVariables false
set_option linter.unusedSimpArgs false

theorem inB_int (v : Int) (n : Nat) : inB v n = decide (0 ≤ v ∧ v < n) := by
  unfold inB
  by_cases h : 0 ≤ v <;> simp [h]

/-- The gaps behind an assignment. -/
def setF (f : Nat → Nat → Int) (v : Int) (s : Option (Int × Int)) (whole : Bool) : Nat → Nat → Int := fun i j =>
  if (i : Int) = v then
    match s with
    | some (w, c) => if whole = true then sumG (f w.toNat j) c else 1099511627776
    | none => 1099511627776
  else f i j

theorem setF_out {n m : Nat} {f : Nat → Nat → Int} {v : Int} {s : Option (Int × Int)} {whole : Bool} (h : v < 0 ∨ (n : Int) ≤ v) : mk n m (setF f v s whole) = mk n m f :=
  mk_congr fun i j hi hj => by
    unfold setF
    rw [if_neg (by omega)]

theorem part_start {n m : Nat} {new old : Nat → Nat → Int} {v : Nat} (h : ∀ i j, i < v → new i j = old i j) : mk n m (part new old v 0) = mk n m old :=
  mk_congr fun i j hi hj => by
    unfold part
    by_cases hp : past v 0 i j
    · rw [if_pos hp]; unfold past at hp; exact h i j (by omega)
    · rw [if_neg hp]

theorem part_end {n m : Nat} {new old : Nat → Nat → Int} {v : Nat} (h : ∀ i j, v < i → new i j = old i j) : mk n m (part new old v m) = mk n m new :=
  mk_congr fun i j hi hj => by
    unfold part
    by_cases hp : past v m i j
    · rw [if_pos hp]
    · rw [if_neg hp]; unfold past at hp; exact (h i j (by omega)).symm

theorem s16 {n m : Nat} {f : Nat → Nat → Int} {k : Nat} {w c v : Int} {whole : Bool} (hn : n ≤ 20) (hm : m ≤ 20) : S16 (mk n m f) v (side k w c) whole = some (mk n m (setF f v (shM k w c n) whole)) := by
  unfold S16 p16
  simp only [s46 hn hm, Option.bind_some, mk_len, xeta, s47]
  by_cases h1 : v < 0
  · rw [setF_out (.inl h1), ilt, decide_eq_true h1, cndT]
  by_cases h2 : (n : Int) ≤ v
  · rw [setF_out (.inr h2), ilt, decide_eq_false h1, cndF, ile, decide_eq_true h2, cndT]
  rw [ilt, decide_eq_false h1, cndF, ile, decide_eq_false h2, cndF]
  obtain ⟨i, rfl⟩ : ∃ i : Nat, v = i := ⟨v.toNat, by omega⟩
  have hi : i < n := by omega
  have hs : ∀ u d, shM k w c n = some (u, d) → vOk u n := fun u d h => shM_ok h
  generalize shM k w c n = s at hs
  have start := part_start (n := n) (m := m) (new := setF f i s whole) (old := f) (v := i) (fun a b ha => by unfold setF; rw [if_neg (by omega)])
  have stop := part_end (n := n) (m := m) (new := setF f i s whole) (old := f) (v := i) (fun a b ha => by unfold setF; rw [if_neg (by omega)])
  simp only [inB_nat, hi, decide_true, chk_true, Int.toNat_natCast, mk_row_len hi]
  have loop := iter_run (f := l16_1) (done := some (mk n m (setF f i s whole))) m (fun j => (mk n m f, (i : Int), whole, mk n m (part (setF f i s whole) f i j), (sh47 s).1, (sh47 s).2.1, (m : Int), (j : Int), ())) (fun rec j hj => ?_) (fun rec => ?_) F 0 (Nat.zero_le _) (by unfold F; omega)
  · rw [start] at loop
    exact loop
  · have hstep := part_step (n := n) (m := m) (setF f i s whole) f i j
    match s, hs with
    | none, _ =>
      have hx : setF f i none whole i j = 1099511627776 := by unfold setF; rw [if_pos rfl]
      simp only [l16_1, ilt_nat, inB_nat, mk_len, mk_row_len hi, hi, hj, Int.toNat_natCast, decide_true, cndT, cndF, chk_true, sh47, mk_set hi hj, wrap_succ (show j < 1000000 by omega)]
      rw [← hx, hstep]
    | some (u, d), hs =>
      obtain ⟨a1, a2⟩ := hs u d rfl
      have hu : u.toNat < n := by omega
      have hu0 : inB u n = true := by rw [inB_int]; exact decide_eq_true ⟨a1, a2⟩
      cases whole with
      | false =>
        have hx : setF f i (some (u, d)) false i j = 1099511627776 := by unfold setF; rw [if_pos rfl]; rfl
        simp only [l16_1, ilt_nat, inB_nat, mk_len, mk_row_len hi, hi, hj, Int.toNat_natCast, decide_true, cndT, cndF, chk_true, sh47, mk_set hi hj, wrap_succ (show j < 1000000 by omega)]
        rw [← hx, hstep]
      | true =>
        have hx : setF f i (some (u, d)) true i j = sumG (f u.toNat j) d := by unfold setF; rw [if_pos rfl]; rfl
        simp only [l16_1, ilt_nat, inB_nat, mk_len, mk_row_len hi, mk_row_len hu, mk_at hu hj, hi, hj, Int.toNat_natCast, decide_true, cndT, cndF, chk_true, sh47, mk_set hi hj, wrap_succ (show j < 1000000 by omega), hu0, s48, Option.bind_some, upd_upd]
        rw [← hx, hstep]
  · simp only [l16_1, ilt_nat, Nat.lt_irrefl, decide_false, cndF, stop]

theorem s32 {n m : Nat} {f : Nat → Nat → Int} {k : Nat} {w c v : Int} {whole : Bool} (hn : n ≤ 20) (hm : m ≤ 20) : S32 (mk n m f) v (side k w c) whole = some (mk n m (setF f v (shM k w c n) whole)) := by
  unfold S32 p32
  simp only [s38 hn hm, Option.bind_some, mk_len, xeta, s49]
  by_cases h1 : v < 0
  · rw [setF_out (.inl h1), ilt, decide_eq_true h1, cndT]
  by_cases h2 : (n : Int) ≤ v
  · rw [setF_out (.inr h2), ilt, decide_eq_false h1, cndF, ile, decide_eq_true h2, cndT]
  rw [ilt, decide_eq_false h1, cndF, ile, decide_eq_false h2, cndF]
  obtain ⟨i, rfl⟩ : ∃ i : Nat, v = i := ⟨v.toNat, by omega⟩
  have hi : i < n := by omega
  have hs : ∀ u d, shM k w c n = some (u, d) → vOk u n := fun u d h => shM_ok h
  generalize shM k w c n = s at hs
  have start := part_start (n := n) (m := m) (new := setF f i s whole) (old := f) (v := i) (fun a b ha => by unfold setF; rw [if_neg (by omega)])
  have stop := part_end (n := n) (m := m) (new := setF f i s whole) (old := f) (v := i) (fun a b ha => by unfold setF; rw [if_neg (by omega)])
  have loop := iter_run (f := l32_1) (done := some (mk n m (setF f i s whole))) m (fun j => (mk n m f, (i : Int), whole, mk n m (part (setF f i s whole) f i j), (sh49 s).1, (sh49 s).2.1, (sh49 s).2.2.1, (j : Int), ())) (fun rec j hj => ?_) (fun rec => ?_) F 0 (Nat.zero_le _) (by unfold F; omega)
  · rw [start] at loop
    exact loop
  · have hstep := part_step (n := n) (m := m) (setF f i s whole) f i j
    match s, hs with
    | none, _ =>
      have hx : setF f i none whole i j = 1099511627776 := by unfold setF; rw [if_pos rfl]
      simp only [l32_1, ilt_nat, inB_nat, mk_len, mk_row_len hi, hi, hj, Int.toNat_natCast, decide_true, cndT, cndF, chk_true, sh49, mk_set hi hj, wrap_succ (show j < 1000000 by omega)]
      rw [← hx, hstep]
    | some (u, d), hs =>
      obtain ⟨a1, a2⟩ := hs u d rfl
      have hu : u.toNat < n := by omega
      have hu0 : inB u n = true := by rw [inB_int]; exact decide_eq_true ⟨a1, a2⟩
      cases whole with
      | false =>
        have hx : setF f i (some (u, d)) false i j = 1099511627776 := by unfold setF; rw [if_pos rfl]; rfl
        simp only [l32_1, ilt_nat, inB_nat, mk_len, mk_row_len hi, hi, hj, Int.toNat_natCast, decide_true, cndT, cndF, chk_true, sh49, mk_set hi hj, wrap_succ (show j < 1000000 by omega)]
        rw [← hx, hstep]
      | true =>
        have hx : setF f i (some (u, d)) true i j = sumG (f u.toNat j) d := by unfold setF; rw [if_pos rfl]; rfl
        simp only [l32_1, ilt_nat, inB_nat, mk_len, mk_row_len hi, mk_row_len hu, mk_at hu hj, hi, hj, Int.toNat_natCast, decide_true, cndT, cndF, chk_true, sh49, mk_set hi hj, wrap_succ (show j < 1000000 by omega), hu0, s65, Option.bind_some, upd_upd]
        rw [← hx, hstep]
  · simp only [l32_1, ilt_nat, inB_nat, hi, mk_len, mk_row_len hi, Int.toNat_natCast, decide_true, chk_true, Nat.lt_irrefl, decide_false, cndF, stop]

/-- What follows from x - y ≤ k. -/
def lessF (o g : Nat → Nat → Int) (x y k : Int) : Nat → Nat → Int := fun i j => if (i : Int) = x then imin (o i j) (sumG (g y.toNat j) k) else o i j

theorem s54 {n m : Nat} {o g : Nat → Nat → Int} {x y c d b : Int} (hx : vOk x n) (hy : vOk y n) (hm : m ≤ 20) : S54 ⟨x, c⟩ ⟨y, d⟩ b (mk n m o) (mk n m g) = some (mk n m (lessF o g x y (IntKind.i64.wrap (IntKind.i64.wrap (d - c) - b)))) := by
  obtain ⟨i, rfl⟩ : ∃ i : Nat, x = i := ⟨x.toNat, by have := hx.1; omega⟩
  have hi : i < n := by have := hx.2; omega
  obtain ⟨a1, a2⟩ := hy
  have hu : y.toNat < n := by omega
  have hu0 : inB y n = true := by rw [inB_int]; exact decide_eq_true ⟨a1, a2⟩
  unfold S54 p54
  generalize hK : IntKind.i64.wrap (IntKind.i64.wrap (d - c) - b) = K
  have start := part_start (n := n) (m := m) (new := lessF o g i y K) (old := o) (v := i) (fun a b ha => by unfold lessF; rw [if_neg (by omega)])
  have stop := part_end (n := n) (m := m) (new := lessF o g i y K) (old := o) (v := i) (fun a b ha => by unfold lessF; rw [if_neg (by omega)])
  simp only [inB_nat, mk_len, hi, decide_true, chk_true, Int.toNat_natCast, mk_row_len hi]
  have loop := iter_run (f := l54_1) (done := some (mk n m (lessF o g i y K))) m (fun j => (b, (⟨(i : Int), c⟩ : Shift), (⟨y, d⟩ : Shift), (m : Int), (j : Int), mk n m (part (lessF o g i y K) o i j), mk n m g, ())) (fun rec j hj => ?_) (fun rec => ?_) F 0 (Nat.zero_le _) (by unfold F; omega)
  · rw [start] at loop
    exact loop
  · have hstep := part_step (n := n) (m := m) (lessF o g i y K) o i j
    have hx' : lessF o g i y K i j = imin (part (lessF o g i y K) o i j i j) (sumG (g y.toNat j) K) := by rw [part_at]; unfold lessF; rw [if_pos rfl]
    simp only [l54_1, ilt_nat, inB_nat, mk_len, mk_row_len hi, mk_row_len hu, mk_at hi hj, mk_at hu hj, hi, hj, Int.toNat_natCast, decide_true, cndT, chk_true, mk_set hi hj, wrap_succ (show j < 1000000 by omega), hu0, s48, Option.bind_some, hK]
    rw [← hx', hstep]
  · simp only [l54_1, ilt_nat, Nat.lt_irrefl, decide_false, cndF, stop]

theorem s66 {n m : Nat} {o g : Nat → Nat → Int} {x y K : Int} (hx : vOk x n) (hy : vOk y n) (hn : n ≤ 20) (hm : m ≤ 20) : S66 (mk n m o) (mk n m g) x y K = some (mk n m (lessF o g x y K)) := by
  obtain ⟨i, rfl⟩ : ∃ i : Nat, x = i := ⟨x.toNat, by have := hx.1; omega⟩
  have hi : i < n := by have := hx.2; omega
  obtain ⟨a1, a2⟩ := hy
  have hu : y.toNat < n := by omega
  have hu0 : inB y n = true := by rw [inB_int]; exact decide_eq_true ⟨a1, a2⟩
  unfold S66 p66
  have start := part_start (n := n) (m := m) (new := lessF o g i y K) (old := o) (v := i) (fun a b ha => by unfold lessF; rw [if_neg (by omega)])
  have stop := part_end (n := n) (m := m) (new := lessF o g i y K) (old := o) (v := i) (fun a b ha => by unfold lessF; rw [if_neg (by omega)])
  simp only [s38 hn hm, Option.bind_some]
  have loop := iter_run (f := l66_1) (done := some (mk n m (lessF o g i y K))) m (fun j => (mk n m (part (lessF o g i y K) o i j), mk n m g, (i : Int), y, K, (j : Int), ())) (fun rec j hj => ?_) (fun rec => ?_) F 0 (Nat.zero_le _) (by unfold F; omega)
  · rw [start] at loop
    exact loop
  · have hstep := part_step (n := n) (m := m) (lessF o g i y K) o i j
    have hx' : lessF o g i y K i j = imin (part (lessF o g i y K) o i j i j) (sumG (g y.toNat j) K) := by rw [part_at]; unfold lessF; rw [if_pos rfl]
    simp only [l66_1, ilt_nat, inB_nat, mk_len, mk_row_len hi, mk_row_len hu, mk_at hi hj, mk_at hu hj, hi, hj, Int.toNat_natCast, decide_true, cndT, chk_true, mk_set hi hj, wrap_succ (show j < 1000000 by omega), hu0, s65, Option.bind_some]
    rw [← hx', hstep]
  · simp only [l66_1, ilt_nat, inB_nat, mk_len, mk_row_len hi, hi, Int.toNat_natCast, decide_true, chk_true, Nat.lt_irrefl, decide_false, cndF, stop]

end Go.Vs.Ga
