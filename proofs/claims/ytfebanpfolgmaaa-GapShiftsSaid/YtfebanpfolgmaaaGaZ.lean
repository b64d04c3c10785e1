/- What the functions of the gap laws compute: values of expressions, and whether they are whole. -/
import Derived.Test.YtfebanpfolgmaaaGaY
namespace Go.Vs.Ga
set_option linter.unusedVariables false
set_option linter.unusedSimpArgs false

/-- The value of an expression, v being that of the variable. -/
def evM (k : Nat) (v c : Int) : Int :=
  match k with
  | 0 => v
  | 1 => w32 (IntKind.i64.wrap (v + c))
  | 2 => w32 (IntKind.i64.wrap (c + v))
  | 3 => w32 (IntKind.i64.wrap (v - c))
  | 4 => c
  | _ => w32 (IntKind.i64.wrap (v * c))

theorem s50 {n : Nat} {u : Nat → Int} {w : Int} (h : vOk w n) (hu : is32 (u w.toNat)) : S50 (vec n u) w = some (u w.toNat, ()) := by
  obtain ⟨h1, h2⟩ := h
  have hw : w.toNat < n := by omega
  unfold S50 p50 ilt ile
  rw [decide_eq_false (by omega), cndF, vec_len, decide_eq_false (by omega), cndF, inB_int, decide_eq_true ⟨h1, h2⟩, chk_true, vec_at hw, s43, w32_id hu]
  rfl

theorem e18_num {d : Nat} {l r : List Int} {c : Int} (h : is32 c) : E18 (d + 1) (eNum c) l r = some (c, ()) := by
  show p18 (E18 d) F (eNum c) l r = _
  unfold p18 eNum ieq
  simp only [decide_true, cndT, s43, Option.bind_some, w32_id h]

theorem e18_var {d n : Nat} {u : Nat → Int} {r : List Int} {w : Int} (h : vOk w n) (hu : is32 (u w.toNat)) : E18 (d + 1) (eVar w) (vec n u) r = some (u w.toNat, ()) := by
  show p18 (E18 d) F (eVar w) (vec n u) r = _
  have : S50 (vec n u) (eVar w).n = some (u w.toNat, ()) := s50 h hu
  unfold p18 ieq
  simp only [this]
  simp [eVar]

theorem s53_0 (a b : Xp) : S53 [a, b] 0 = some (a, ()) := by
  unfold S53 p53
  simp [ilt, inB, chk]
  cases a; rfl
theorem s53_1 (a b : Xp) : S53 [a, b] 1 = some (b, ()) := by
  unfold S53 p53
  simp [ilt, inB, chk]
  cases b; rfl

theorem e18_two {d : Nat} {o x y : Int} {a b : Xp} {l r : List Int} (ho : o = 4 ∨ o = 5 ∨ o = 6) (ha : E18 (d + 1) a l r = some (x, ())) (hb : E18 (d + 1) b l r = some (y, ())) : E18 (d + 2) (eTwo o a b) l r = (S52 o x y).bind fun r8 => some (r8.1, ()) := by
  show p18 (E18 (d + 1)) F (eTwo o a b) l r = _
  have h51 : S51 (eTwo o a b).op = some (true, ()) := by
    show S51 o = _
    unfold S51 p51 ile
    rcases ho with rfl | rfl | rfl <;> simp
  unfold p18
  have h1 : ieq (eTwo o a b).op 1 = false := decide_eq_false (by show ¬ o = 1; omega)
  have h2 : ieq (eTwo o a b).op 2 = false := decide_eq_false (by show ¬ o = 2; omega)
  have h3 : ieq (eTwo o a b).op 3 = false := decide_eq_false (by show ¬ o = 3; omega)
  have e0 : S53 (eTwo o a b).a 0 = some (a, ()) := s53_0 a b
  have e1 : S53 (eTwo o a b).a 1 = some (b, ()) := s53_1 a b
  have eo : (eTwo o a b).op = o := rfl
  rw [h51, h1, h2, h3, e0, e1, eo]
  simp only [cndF, Option.bind_some, Bool.not_true, xeta, ha, hb]

theorem s18 {n k : Nat} {u : Nat → Int} {w c : Int} (hk : k < 6) (h : vOk w n) (hu : is32 (u w.toNat)) (hc : is32 c) : S18 (side k w c) (vec n u) [] = some (evM k (u w.toNat) c, ()) := by
  have hv := fun d => e18_var (d := d) (r := []) h hu
  have hn := fun d => e18_num (d := d) (l := vec n u) (r := []) hc
  unfold S18
  match k, hk with
  | 0, _ => exact hv 7
  | 1, _ =>
    refine (e18_two (d := 6) (.inl rfl) (hv 6) (hn 6)).trans ?_
    unfold S52 p52 evM ieq
    simp [s43, w32_id hu, w32_id hc]
  | 2, _ =>
    refine (e18_two (d := 6) (.inl rfl) (hn 6) (hv 6)).trans ?_
    unfold S52 p52 evM ieq
    simp [s43, w32_id hu, w32_id hc]
  | 3, _ =>
    refine (e18_two (d := 6) (.inr (.inl rfl)) (hv 6) (hn 6)).trans ?_
    unfold S52 p52 evM ieq
    simp [s43, w32_id hu, w32_id hc]
  | 4, _ => exact hn 7
  | 5, _ =>
    refine (e18_two (d := 6) (.inr (.inr rfl)) (hv 6) (hn 6)).trans ?_
    unfold S52 p52 evM ieq
    simp [s43, w32_id hu, w32_id hc]

theorem evM_32 {k : Nat} {v c : Int} (hv : is32 v) (hc : is32 c) : is32 (evM k v c) := by
  unfold evM
  split
  · exact hv
  · exact w32_ok _
  · exact w32_ok _
  · exact w32_ok _
  · exact hc
  · exact w32_ok _

theorem s17 {n k : Nat} {u : Nat → Int} {w c : Int} (hk : k < 6) (h : vOk w n) (hu : ∀ i, is32 (u i)) (hc : is32 c) :
    ∃ b, S17 (side k w c) (vec n u) = some (b, ()) ∧ (b = true → ∀ w' c', shM k w c n = some (w', c') → evM k (u w.toNat) c = u w'.toNat + c') := by
  unfold S17 p17
  simp only [vec_len, xeta, s49, Option.bind_some, s18 hk h (hu _) hc]
  have hs : ∀ w' c', shM k w c n = some (w', c') → vOk w' n ∧ nOk c' := by
    intro w' c' he
    refine ⟨shM_ok he, ?_⟩
    unfold is32 at hc
    unfold shM at he
    split at he <;> (try split at he) <;> simp at he <;> obtain ⟨_, rfl⟩ := he <;> unfold nOk <;> omega
  generalize shM k w c n = s at hs
  match s, hs with
  | none, _ => exact ⟨false, by simp [sh49], fun h => by cases h⟩
  | some (w', c'), hs =>
    obtain ⟨⟨a1, a2⟩, b1⟩ := hs w' c' rfl
    have hw' : w'.toNat < n := by omega
    have hin : inB w' n = true := by rw [inB_int]; exact decide_eq_true ⟨a1, a2⟩
    obtain ⟨d1, d2⟩ := hu w'.toNat
    unfold nOk at b1
    simp only [sh49, cndT, hin, chk_true, vec_at hw', wrap_id (show -9223372036854775808 ≤ u w'.toNat + c' by omega) (show u w'.toNat + c' ≤ 9223372036854775807 by omega), ile, ieq]
    by_cases c1 : -2147483648 ≤ u w'.toNat + c'
    · by_cases c2 : u w'.toNat + c' ≤ 2147483647
      · rw [decide_eq_true c1, decide_eq_true c2, cndT, cndT]
        refine ⟨_, rfl, fun hb w'' c'' he => ?_⟩
        cases he
        exact of_decide_eq_true hb
      · rw [decide_eq_true c1, decide_eq_false c2, cndT, cndF]
        exact ⟨false, rfl, fun h => by cases h⟩
    · rw [decide_eq_false c1, cndF]
      exact ⟨false, rfl, fun h => by cases h⟩

/-- Whether a comparison holds. -/
def cmpM (op x y : Int) : Bool := if op = 2 then decide (x < y) else if op = 3 then decide (x ≤ y) else decide (x = y)

theorem s21 {op x y : Int} {a b : Xp} {l : List Int} (ho : op = 2 ∨ op = 3 ∨ op = 4) (ha : S18 a l [] = some (x, ())) (hb : S18 b l [] = some (y, ())) : S21 ⟨op, [a, b], []⟩ l [] = some (cmpM op x y, ()) := by
  show p21 (E21 7) F ⟨op, [a, b], []⟩ l [] = _
  unfold p21 cmpM ilt ile ieq
  simp only [s53_0, s53_1, Option.bind_some, xeta, ha, hb]
  rcases ho with rfl | rfl | rfl <;> simp

end Go.Vs.Ga
