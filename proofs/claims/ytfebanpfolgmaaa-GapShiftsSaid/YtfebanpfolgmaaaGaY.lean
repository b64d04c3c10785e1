/- What the functions of the gap laws compute: conditions, values of expressions, steps. -/
import Derived.Test.YtfebanpfolgmaaaGaV
namespace Go.Vs.Ga
set_option linter.unusedVariables false
set_option linter.unusedSimpArgs false

def assF (f : Nat → Nat → Int) (op : Int) (holds : Bool) (a b : Option (Int × Int)) (p q : Bool) : Nat → Nat → Int :=
  match a, b with
  | some (w, c), some (u, d) =>
    if p = true ∧ q = true then
      if op = 2 then (if holds = true then lessF f f w u (IntKind.i64.wrap (IntKind.i64.wrap (d - c) - 1)) else lessF f f u w (IntKind.i64.wrap (c - d)))
      else if op = 3 then (if holds = true then lessF f f w u (IntKind.i64.wrap (d - c)) else lessF f f u w (IntKind.i64.wrap (IntKind.i64.wrap (c - d) - 1)))
      else if op = 4 ∧ holds = true then lessF (lessF f f w u (IntKind.i64.wrap (d - c))) f u w (IntKind.i64.wrap (c - d))
      else f
    else f
  | _, _ => f

theorem s20 {n m : Nat} {f : Nat → Nat → Int} {k1 k2 : Nat} {w1 c1 w2 c2 op : Int} {holds p q : Bool} (hn : n ≤ 20) (hm : m ≤ 20) :
    S20 (mk n m f) op holds (side k1 w1 c1) (side k2 w2 c2) ⟨p, q⟩ = some (mk n m (assF f op holds (shM k1 w1 c1 n) (shM k2 w2 c2 n) p q)) := by
  unfold S20 p20
  simp only [s46 hn hm, Option.bind_some, mk_len, xeta, s47]
  have ha : ∀ u d, shM k1 w1 c1 n = some (u, d) → vOk u n := fun u d h => shM_ok h
  have hb : ∀ u d, shM k2 w2 c2 n = some (u, d) → vOk u n := fun u d h => shM_ok h
  generalize shM k1 w1 c1 n = a at ha
  generalize shM k2 w2 c2 n = b at hb
  match a, b, ha, hb with
  | none, _, _, _ => simp [sh47, assF]
  | some (w, c), none, _, _ => simp [sh47, assF]
  | some (w, c), some (u, d), ha, hb =>
    have hw := ha w c rfl
    have hu := hb u d rfl
    have e54 : ∀ (o : Nat → Nat → Int) (b : Int), S54 ⟨w, c⟩ ⟨u, d⟩ b (mk n m o) (mk n m f) = some (mk n m (lessF o f w u (IntKind.i64.wrap (IntKind.i64.wrap (d - c) - b)))) := fun o b => s54 hw hu hm
    have e54' : ∀ (o : Nat → Nat → Int) (b : Int), S54 ⟨u, d⟩ ⟨w, c⟩ b (mk n m o) (mk n m f) = some (mk n m (lessF o f u w (IntKind.i64.wrap (IntKind.i64.wrap (c - d) - b)))) := fun o b => s54 hu hw hm
    cases p <;> cases q <;> simp only [sh47, assF, beq2, Bool.not_true, cndF]
    all_goals simp only [e54, e54', Option.bind_some, wrap_wrap0, ieq]
    all_goals try (simp; done)
    by_cases o2 : op = 2
    · cases holds <;> simp [o2]
    · by_cases o3 : op = 3
      · cases holds <;> simp [o2, o3]
      · by_cases o4 : op = 4
        · cases holds <;> simp [o2, o3, o4]
        · cases holds <;> simp [o2, o3, o4]

theorem s33 {n m : Nat} {f : Nat → Nat → Int} {k1 k2 : Nat} {w1 c1 w2 c2 op : Int} {holds p q : Bool} (hn : n ≤ 20) (hm : m ≤ 20) :
    S33 (mk n m f) op holds (side k1 w1 c1) (side k2 w2 c2) ⟨p, q⟩ = some (mk n m (assF f op holds (shM k1 w1 c1 n) (shM k2 w2 c2 n) p q)) := by
  unfold S33 p33
  simp only [s38 hn hm, Option.bind_some, mk_len, xeta, s49]
  have ha : ∀ u d, shM k1 w1 c1 n = some (u, d) → vOk u n := fun u d h => shM_ok h
  have hb : ∀ u d, shM k2 w2 c2 n = some (u, d) → vOk u n := fun u d h => shM_ok h
  generalize shM k1 w1 c1 n = a at ha
  generalize shM k2 w2 c2 n = b at hb
  match a, b, ha, hb with
  | none, _, _, _ => simp [sh49, assF]
  | some (w, c), none, _, _ => simp [sh49, assF]
  | some (w, c), some (u, d), ha, hb =>
    have hw := ha w c rfl
    have hu := hb u d rfl
    have e66 : ∀ (o : Nat → Nat → Int) (b : Int), S66 (mk n m o) (mk n m f) w u b = some (mk n m (lessF o f w u b)) := fun o b => s66 hw hu hn hm
    have e66' : ∀ (o : Nat → Nat → Int) (b : Int), S66 (mk n m o) (mk n m f) u w b = some (mk n m (lessF o f u w b)) := fun o b => s66 hu hw hn hm
    cases p <;> cases q <;> simp only [sh49, assF, Bool.not_true, Bool.not_false, cndF, cndT]
    all_goals (try simp only [e66, e66', Option.bind_some, ieq])
    all_goals try (simp; done)
    by_cases o2 : op = 2
    · cases holds <;> simp [o2]
    · by_cases o3 : op = 3
      · cases holds <;> simp [o2, o3]
      · by_cases o4 : op = 4
        · cases holds <;> simp [o2, o3, o4]
        · cases holds <;> simp [o2, o3, o4]

/-! ### numbers of 32 bits -/

def w32 (a : Int) : Int := if Int.tmod a 4294967296 < -2147483648 then Int.tmod a 4294967296 + 4294967296 else if 2147483647 < Int.tmod a 4294967296 then Int.tmod a 4294967296 - 4294967296 else Int.tmod a 4294967296

theorem tmod_range (a : Int) {b : Nat} (hb : 0 < b) : -(b : Int) < Int.tmod a b ∧ Int.tmod a b < b ∧ (0 ≤ a → 0 ≤ Int.tmod a b) := by
  by_cases h : 0 ≤ a
  · rw [Int.tmod_eq_emod_of_nonneg h]
    have h1 := Int.emod_nonneg a (show (b : Int) ≠ 0 by omega)
    have h2 := Int.emod_lt_of_pos a (show (0 : Int) < b by omega)
    exact ⟨by omega, h2, fun _ => h1⟩
  · have e : a = -(-a) := by omega
    rw [e, Int.neg_tmod, Int.tmod_eq_emod_of_nonneg (show 0 ≤ -a by omega)]
    have h1 := Int.emod_nonneg (-a) (show (b : Int) ≠ 0 by omega)
    have h2 := Int.emod_lt_of_pos (-a) (show (0 : Int) < b by omega)
    exact ⟨by omega, by omega, fun h' => by omega⟩

theorem s43 (a : Int) : S43 a = some (w32 a, ()) := by
  have h := tmod_range a (b := 4294967296) (by omega)
  obtain ⟨h1, h2, _⟩ := h
  unfold S43 p43 w32 ilt
  have h1' : -4294967296 < Int.tmod a 4294967296 := h1
  have h2' : Int.tmod a 4294967296 < 4294967296 := h2
  by_cases c1 : Int.tmod a 4294967296 < -2147483648
  · rw [decide_eq_true c1, cndT, if_pos c1, wrap_id (by omega) (by omega)]
  · rw [decide_eq_false c1, cndF, if_neg c1]
    by_cases c2 : 2147483647 < Int.tmod a 4294967296
    · rw [decide_eq_true c2, cndT, if_pos c2, wrap_id (by omega) (by omega)]
    · rw [decide_eq_false c2, cndF, if_neg c2]

theorem w32_ok (a : Int) : is32 (w32 a) := by
  have h := tmod_range a (b := 4294967296) (by omega)
  obtain ⟨h1, h2, _⟩ := h
  have h1' : -4294967296 < Int.tmod a 4294967296 := h1
  have h2' : Int.tmod a 4294967296 < 4294967296 := h2
  unfold w32 is32
  split
  · omega
  · split <;> omega

theorem w32_id {a : Int} (h : is32 a) : w32 a = a := by
  obtain ⟨h1, h2⟩ := h
  have e : Int.tmod a 4294967296 = a := by
    by_cases h0 : 0 ≤ a
    · rw [Int.tmod_eq_emod_of_nonneg h0]; omega
    · have e : a = -(-a) := by omega
      rw [e, Int.neg_tmod, Int.tmod_eq_emod_of_nonneg (show 0 ≤ -a by omega)]; omega
  unfold w32
  rw [e, if_neg (by omega), if_neg (by omega)]

theorem s13 {z : Step} {n : Nat} (hn : 0 < n) (h5 : n ≤ 5) : ∃ z' : Step, S13 z (n : Int) = some (z', ()) ∧ vOk z'.v n ∧ vOk z'.w n ∧ vOk z'.u n ∧ is32 z'.c ∧ is32 z'.d ∧ z'.f0 = z.f0 ∧ z'.f1 = z.f1 := by
  have hz : ieq (n : Int) 0 = false := decide_eq_false (by omega)
  have hi : ∀ x : Int, vOk (Int.tmod (iand .i64 x 255) n) n := by
    intro x
    have h255 : ((255 : Int) % 2 ^ IntKind.i64.bits).toNat = 255 := by decide
    have hle : ((x % 2 ^ IntKind.i64.bits).toNat &&& 255) ≤ 255 := Nat.and_le_right
    have e : iand .i64 x 255 = (((x % 2 ^ IntKind.i64.bits).toNat &&& 255 : Nat) : Int) := by
      unfold iand
      rw [h255, wrap_id (by omega) (by omega)]
    rw [e]
    have := tmod_range ((((x % 2 ^ IntKind.i64.bits).toNat &&& 255 : Nat)) : Int) hn
    exact ⟨this.2.2 (by omega), this.2.1⟩
  unfold S13 p13
  rw [hz]
  simp only [Bool.not_false, chk_true, s43, Option.bind_some]
  exact ⟨_, rfl, hi _, hi _, hi _, w32_ok _, w32_ok _, rfl, rfl⟩

end Go.Vs.Ga
