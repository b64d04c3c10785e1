/- The evaluator: parts of slices, copy, shifts, equality of arrays of two truth values. -/
import Derived.Test.YtfebanpfolgmaaaVsN
import Derived.Laws.CopyRow
namespace Go.Vs
set_option linter.unusedVariables false
set_option linter.unusedSimpArgs false
open Go.RowKit

variable {Γ : Env}

section ops
variable {R : Type} (P : Program) (ti : TypeId → Option (TI Γ)) (ev : Operand → AV Γ) (s : Nat → RStat Γ) (o : Oper)

/-! ### shifts -/

def ishr (k : IntKind) (a b : Int) : Int := a.fdiv (2 ^ min b.toNat k.bits)
def ishl (k : IntKind) (a b : Int) : Int := k.wrap (a * 2 ^ min b.toNat k.bits)

def vShift (left : Bool) (x y : Operand) (k : K Γ R) : Option R :=
  match (ev x).int?, (ev y).int? with
  | some (kx, a), some (_, b) => chk (decide (0 ≤ b)) (k (AV.dat (.int kx) (cond left (ishl kx a b) (ishr kx a b))) [] [])
  | _, _ => none

theorem vShift_sound (left : Bool) (T yT : TypeId) (x y : Operand) (ho : o.op = .binOp (cond left .shl .shr) T x y yT) : Goal P ev s o (vShift (R := R) ev left x y) := by
  intro k r h
  unfold vShift at h
  split at h
  · rename_i kx a ky b hx hy
    obtain ⟨hb, h⟩ := chk_some h
    have hb' : ¬ b < 0 := by have := of_decide_eq_true hb; omega
    refine ⟨_, _, _, h, Sound.pure fun s2 _ w0 F ρ ac w hR hop => ⟨.int kx (cond left (ishl kx a b) (ishr kx a b)), ?_, RepD.v _⟩⟩
    have h1 := int?_spec hx (hop x (by simp [ho, Op.operands]))
    have h2 := int?_spec hy (hop y (by simp [ho, Op.operands]))
    cases left <;>
      simp only [execOp, ho, h1, h2, cond_true, cond_false, Sem.run_bind, eqGuard_lit P _ T x y (.int kx a) (.int ky b) w (by intro v; simp) (by simp), Result.andThen_ok, binOp, Op.shift, hb', if_false, Sem.run_pure, ishl, ishr]
  · cases h

/-! ### equality of two truth values -/

def beq2 (a b : Bool) : Bool := decide (a = b)

def twoB : AV Γ → Option (Bool × Bool)
  | .v (.agg [.leaf ⟨.bool, a⟩, .leaf ⟨.bool, b⟩]) => some (a, b)
  | _ => none

theorem twoB_spec {F : Nat → Prop} {ρ : Nat → RI} {s : Nat → RStat Γ} {w : World} {a : AV Γ} {p q : Bool} {v : Value} (h : twoB a = some (p, q)) (hc : ConcA F ρ s w a v) : v = .agg #[.bool p, .bool q] := by
  unfold twoB at h
  split at h
  · rename_i a' b'
    cases h
    obtain ⟨vs, rfl, h1, h2⟩ := hc
    have e0 := (h2 0 (by simp)).v_inv
    have e1 := (h2 1 (by simp)).v_inv
    have : vs = #[.bool p, .bool q] := by
      apply Array.ext'
      match hl : vs.toList, h1 with
      | [x, y], _ =>
        rw [hl] at e0 e1
        have e0' : x = .bool p := e0
        have e1' : y = .bool q := e1
        rw [e0', e1']
    rw [this]
  · cases h

def isArr2B (ti : TypeId → Option (TI Γ)) (T : TypeId) : Bool :=
  match ti T with
  | some i => match i.und with
    | .array 2 e => isBool ti e && decide (szOf ti e = 1)
    | _ => false
  | none => false

theorem isArr2B_spec {ti : TypeId → Option (TI Γ)} (hti : TIOk P ti) {T : TypeId} (h : isArr2B ti T = true) : ∃ e, P.underlying T = some (.array 2 e) ∧ P.underlying e = some .bool ∧ (∀ w, (sizeOf e).run P w = .ok 1 w) ∧ ∀ w, (isAgg e).run P w = .ok false w := by
  unfold isArr2B at h
  split at h
  · rename_i i hi
    split at h
    · rename_i e hu
      simp only [Bool.and_eq_true, decide_eq_true_eq] at h
      obtain ⟨h1, h2⟩ := h
      obtain ⟨d, hd, his⟩ := (hti T i hi).und
      rw [hu] at his
      simp only [UK.Is] at his
      unfold isBool at h1
      split at h1
      · rename_i ie hie
        obtain ⟨de, hde, hise⟩ := (hti e ie hie).und
        have hub := of_decide_eq_true h1
        have hsz := szOf_of hie
        have hrs := fun w => run_sizeOf P hti hie w
        have hra := fun w => run_isAgg P hti hie w
        rw [hub] at hise
        simp only [UK.Is] at hise
        refine ⟨e, by rw [hd, his], by rw [hde, hise], fun w => by rw [hrs w, ← hsz, h2], fun w => by rw [hra w, hub]; rfl⟩
      · cases h1
    · cases h
  · cases h

theorem equal_arr2 {T e : TypeId} (hd : P.underlying T = some (.array 2 e)) (he : P.underlying e = some .bool) (hs : ∀ w, (sizeOf e).run P w = .ok 1 w) (ha : ∀ w, (isAgg e).run P w = .ok false w) (a b c d : Bool) (w : World) :
    (Op.equal T (.agg #[.bool a, .bool b]) (.agg #[.bool c, .bool d])).run P w = .ok ((a == c) && (b == d)) w := by
  have hb : ∀ n (p q : Bool), (Op.equalIn (n + 1) e (.bool p) (.bool q)).run P w = .ok (p == q) w := fun n p q => by simp [Op.equalIn, run_underlying he]
  have p0 : ∀ (p q : Bool), (part e #[.bool p, .bool q] 0).run P w = .ok (.bool p) w := fun p q => by simp [part, ha]
  have p1 : ∀ (p q : Bool), (part e #[.bool p, .bool q] 1).run P w = .ok (.bool q) w := fun p q => by simp [part, ha]
  have h : ∀ n, (Op.equalIn (n + 2) T (.agg #[.bool a, .bool b]) (.agg #[.bool c, .bool d])).run P w = .ok ((a == c) && (b == d)) w := by
    intro n
    rw [Op.equalIn]
    simp only [Sem.run_bind, run_underlying hd, Result.andThen_ok, hs, Std.Legacy.Range.forIn_eq_forIn_range', Std.Legacy.Range.size, List.range', List.forIn_cons, List.forIn_nil, Nat.add_sub_cancel, Nat.sub_zero, Nat.reduceAdd, Nat.reduceDiv, Nat.reduceMul, Nat.mul_one, Nat.zero_mul, Nat.one_mul, Nat.zero_add, p0, p1, hb]
    cases h1 : (a == c)
    · simp
    · simp only [Bool.not_true, Bool.false_eq_true, if_false, Sem.run_pure, Result.andThen_ok, Sem.run_bind, p1, hb, Bool.true_and]
      cases h2 : (b == d) <;> simp
  exact h 9998

theorem eqGuard_arr2 (op : BinOp) {T e : TypeId} (x y : Operand) (hd : P.underlying T = some (.array 2 e)) (he : P.underlying e = some .bool) (hs : ∀ w, (sizeOf e).run P w = .ok 1 w) (ha : ∀ w, (isAgg e).run P w = .ok false w) (a b c d : Bool) (w : World) :
    (eqGuard op T x y (.agg #[.bool a, .bool b]) (.agg #[.bool c, .bool d])).run P w = .ok () w := by
  have h : ∀ n, (Op.eqGuardIn (n + 2) T (.agg #[.bool a, .bool b]) (.agg #[.bool c, .bool d])).run P w = .ok false w := by
    intro n
    simp only [Op.eqGuardIn, Sem.run_bind, run_underlying hd, Result.andThen_ok, hs]
    simp [part, ha, hs, Op.eqGuardIn, run_underlying he, List.range', Std.Legacy.Range.forIn_eq_forIn_range', Std.Legacy.Range.size]
  have h' : (Op.eqGuardIn Op.maxDepth T (.agg #[.bool a, .bool b]) (.agg #[.bool c, .bool d])).run P w = .ok false w := h 9998
  unfold eqGuard
  cases op <;> simp [h'] <;> split <;> simp [h']

def vEq2 (neg : Bool) (T : TypeId) (x y : Operand) (k : K Γ R) : Option R :=
  match twoB (ev x), twoB (ev y) with
  | some (a, b), some (c, d) => if isArr2B ti T = true then k (AV.dat .bool (((a == c) && (b == d)) != neg)) [] [] else none
  | _, _ => none

theorem vEq2_sound (hti : TIOk P ti) (op : BinOp) (neg : Bool) (hop : (op = .eql ∧ neg = false) ∨ (op = .neq ∧ neg = true)) (T yT : TypeId) (x y : Operand) (ho : o.op = .binOp op T x y yT) : Goal P ev s o (vEq2 (R := R) ti ev neg T x y) := by
  intro k r h
  unfold vEq2 at h
  split at h
  · rename_i a b c d hx hy
    split at h
    · rename_i hT
      obtain ⟨e, hd, he, hs, ha⟩ := isArr2B_spec P hti hT
      refine ⟨_, _, _, h, Sound.pure fun s2 _ w0 F ρ ac w hR hopn => ⟨.bool (((a == c) && (b == d)) != neg), ?_, RepD.v _⟩⟩
      have h1 := twoB_spec hx (hopn x (by simp [ho, Op.operands]))
      have h2 := twoB_spec hy (hopn y (by simp [ho, Op.operands]))
      have g := eqGuard_arr2 P op x y hd he hs ha a b c d w
      have q := equal_arr2 P hd he hs ha a b c d w
      rcases hop with ⟨rfl, rfl⟩ | ⟨rfl, rfl⟩
      · simp only [execOp, ho, h1, h2, Sem.run_bind, g, Result.andThen_ok, binOp, q, Sem.run_pure]
        simp
      · simp only [execOp, ho, h1, h2, Sem.run_bind, g, Result.andThen_ok, binOp, q, Sem.run_pure]
        simp
    · cases h
  · cases h

/-! ### parts of slices -/

def optI (ev : Operand → AV Γ) : Option Operand → Option (Option Int)
  | none => some none
  | some x => match (ev x).int? with
    | some (_, n) => some (some n)
    | none => none

def orI (o : Option Int) (d : Int) : Int :=
  match o with
  | some x => x
  | none => d

theorem run_bounds (isSlice : Bool) (len cap : Nat) (lo hi : Option Value) (a b : Nat) (hlo : (lo = none ∧ a = 0) ∨ ∃ k, lo = some (.int k (a : Int))) (hhi : (hi = none ∧ b = len) ∨ ∃ k, hi = some (.int k (b : Int))) (hab : a ≤ b) (hbc : b ≤ cap) (w : World) :
    (Instr.sliceBounds isSlice len cap lo hi none).run P w = .ok (a, b, cap) w := by
  have h1 : ¬ ((b : Int) < 0) := by omega
  rcases hlo with ⟨rfl, rfl⟩ | ⟨k, rfl⟩ <;> rcases hhi with ⟨rfl, rfl⟩ | ⟨k', rfl⟩ <;>
    simp [Instr.sliceBounds, Instr.sliceBound, asIntOf, hab, hbc]

theorem optI_spec {F : Nat → Prop} {ρ : Nat → RI} {s : Nat → RStat Γ} {w : World} {ac : Act} {lo : Option Operand} {r : Option Int} (h : optI ev lo = some r) (hc : ∀ x, lo = some x → ConcA F ρ s w (ev x) (ac.eval x)) :
    (r = none ∧ lo.map ac.eval = none) ∨ ∃ n k, r = some n ∧ lo.map ac.eval = some (.int k n) := by
  unfold optI at h
  split at h
  · cases h; exact .inl ⟨rfl, rfl⟩
  · rename_i x
    split at h
    · rename_i k n hx
      cases h
      exact .inr ⟨n, k, rfl, by rw [Option.map_some, int?_spec hx (hc x rfl)]⟩
    · cases h

def vSlice (T : TypeId) (x : Operand) (lo hi mx : Option Operand) (k : K Γ R) : Option R :=
  match mx, sliceAt? ti T, optI ev lo, optI ev hi with
  | none, some e, some a, some b =>
    match ev x with
    | .v (.one (.leaf ⟨.sl t, l⟩)) => if szOf ti e = t.size Γ ∧ (ti e).isSome = true then
        chk (decide (0 ≤ orI a 0) && (decide (orI a 0 ≤ orI b (List.length (α := Den Γ t) l)) && decide (orI b (List.length (α := Den Γ t) l) ≤ (List.length (α := Den Γ t) l : Int))))
          (k (AV.dat (.sl t) (List.drop (α := Den Γ t) (orI a 0).toNat (List.take (α := Den Γ t) (orI b (List.length (α := Den Γ t) l)).toNat l))) [] [])
      else none
    | .v (.one (.own q)) => match s q with
      | .live (.arr E t l) => if szOf ti e = t.size Γ ∧ (ti e).isSome = true then
          chk (decide (0 ≤ orI a 0) && (decide (orI a 0 < (List.length (α := Den Γ t) l : Int)) && (decide (orI a 0 ≤ orI b (List.length (α := Den Γ t) l)) && decide (orI b (List.length (α := Den Γ t) l) ≤ (List.length (α := Den Γ t) l : Int)))))
            (k (AV.one (.sub q (orI a 0) (orI b (List.length (α := Den Γ t) l)))) [q] [])
        else none
      | _ => none
    | _ => none
  | _, _, _, _ => none

theorem part_rep {F : Nat → Prop} {w : World} {sz : Nat} {l : List (List D)} {v : Value} (h : RepD F w (.sl sz l) v) (a b : Nat) (hab : a ≤ b) (hb : b ≤ l.length) :
    ∃ A len cap, v = .slice A len cap ∧ len = l.length ∧ len ≤ cap ∧ RepD F w (.sl sz ((l.take b).drop a)) (.slice (if cap = a then A else A.map (·.add (a * sz))) (b - a) (cap - a)) := by
  rcases h.sl_inv with ⟨rfl, rfl⟩ | ⟨ad, cap, u, rfl, h1, h2, h3, h4⟩
  · refine ⟨none, 0, 0, rfl, rfl, Nat.le_refl _, ?_⟩
    have : b = 0 := by simpa using hb
    subst this
    have : a = 0 := by omega
    subst this
    simp
    exact .nil _
  · refine ⟨some ad, l.length, cap, rfl, rfl, h2, ?_⟩
    have hl : ((l.take b).drop a).length = b - a := by simp; omega
    by_cases hc : cap = a
    · have he : (l.take b).drop a = [] := List.eq_nil_of_length_eq_zero (by rw [hl]; omega)
      rw [if_pos hc, he]
      have := RepD.sl (F := F) (w := w) ad (cap - a) sz [] (fun _ _ => undef) (fun r hr => by cases hr) (Nat.zero_le _) (by omega) (fun i j hi => absurd hi (Nat.not_lt_zero _)) (fun i j hi => absurd hi (Nat.not_lt_zero _)) (fun i j hi => absurd hi (Nat.not_lt_zero _))
      have e : b - a = 0 := by omega
      rw [e]
      exact this
    · rw [if_neg hc, Option.map_some, ← hl]
      have hg : ∀ i, i < b - a → ((l.take b).drop a).getD i [] = l.getD (a + i) [] := by
        intro i hi
        simp only [List.getD_eq_getElem?_getD, List.getElem?_drop, List.getElem?_take]
        rw [if_pos (by omega)]
      refine RepD.sl (ad.add (a * sz)) (cap - a) sz _ (fun i j => u (a + i) j) (fun r hr => h1 r (List.mem_of_mem_take (List.mem_of_mem_drop hr))) (by rw [hl]; omega) (by omega) (fun i j hi hj => ?_) (fun i j hi hj => ?_) (fun i j hi hj => ?_)
      · rw [add_block]
        exact (h4 (a + i) j (by rw [hl] at hi; omega) hj).1
      · rw [add_add, show a * sz + (i * sz + j) = (a + i) * sz + j by rw [Nat.add_mul]; omega]
        exact (h4 (a + i) j (by rw [hl] at hi; omega) hj).2.1
      · rw [hg i (by rw [hl] at hi; exact hi)]
        exact (h4 (a + i) j (by rw [hl] at hi; omega) hj).2.2

theorem run_slice_at {ti : TypeId → Option (TI Γ)} (hti : TIOk P ti) {T e : TypeId} (hs : sliceAt? ti T = some e) (he : (ti e).isSome = true) {sz : Nat} (hsz : szOf ti e = sz) (A : Option Addr) (len cap : Nat) (lo hi : Option Value) (a b : Nat) (hlo : (lo = none ∧ a = 0) ∨ ∃ k, lo = some (.int k (a : Int))) (hhi : (hi = none ∧ b = len) ∨ ∃ k, hi = some (.int k (b : Int))) (hab : a ≤ b) (hbc : b ≤ cap) (w : World) :
    (Instr.sliceAt T (.slice A len cap) lo hi none).run P w = .ok (.slice (if cap = a then A else A.map (·.add (a * sz))) (b - a) (cap - a)) w := by
  obtain ⟨inf, hinf⟩ := Option.isSome_iff_exists.1 he
  have hz := run_sizeOf P hti hinf w
  rw [szOf_of hinf] at hsz
  rw [hsz] at hz
  simp only [Instr.sliceAt, Instr.slice, Sem.run_bind, run_underlying (sliceAt?_spec P hti hs), Result.andThen_ok, run_bounds P true len cap lo hi a b hlo hhi hab hbc w, hz, Sem.run_pure]

theorem bound_lo {lo : Option Value} {r : Option Int} (h : (r = none ∧ lo = none) ∨ ∃ n k, r = some n ∧ lo = some (.int k n)) (h0 : 0 ≤ orI r 0) : (lo = none ∧ (orI r 0).toNat = 0) ∨ ∃ k, lo = some (.int k ((orI r 0).toNat : Int)) := by
  rcases h with ⟨rfl, rfl⟩ | ⟨n, k, rfl, rfl⟩
  · exact .inl ⟨rfl, rfl⟩
  · exact .inr ⟨k, by rw [Int.toNat_of_nonneg h0]; rfl⟩

theorem bound_hi {hi : Option Value} {r : Option Int} {len : Nat} (h : (r = none ∧ hi = none) ∨ ∃ n k, r = some n ∧ hi = some (.int k n)) (h0 : 0 ≤ orI r (len : Int)) : (hi = none ∧ (orI r (len : Int)).toNat = len) ∨ ∃ k, hi = some (.int k ((orI r (len : Int)).toNat : Int)) := by
  rcases h with ⟨rfl, rfl⟩ | ⟨n, k, rfl, rfl⟩
  · exact .inl ⟨rfl, by simp [orI]⟩
  · exact .inr ⟨k, by rw [Int.toNat_of_nonneg h0]; rfl⟩

theorem vSlice_sound (hti : TIOk P ti) (T : TypeId) (x : Operand) (lo hi mx : Option Operand) (ho : o.op = .slice T x lo hi mx) : Goal P ev s o (vSlice (R := R) ti ev s T x lo hi mx) := by
  intro k r h
  unfold vSlice at h
  split at h
  · rename_i e a b hT ha hb
    split at h
    · rename_i t l hx
      obtain ⟨l, rfl⟩ : ∃ l' : List (Den Γ t), l' = l := ⟨l, rfl⟩
      split at h
      · rename_i hcond
        obtain ⟨hsz, hsome⟩ := hcond
        obtain ⟨hc, h⟩ := chk_some h
        simp only [Bool.and_eq_true, decide_eq_true_eq] at hc
        obtain ⟨c1, c2, c3⟩ := hc
        refine ⟨_, _, _, h, Sound.pure fun s2 _ w0 F ρ ac w hR hop => ?_⟩
        have h1 := hop x (by simp [ho, Op.operands])
        rw [hx] at h1
        have h1 : RepD F w (.sl (t.size Γ) (List.map (encL t) l)) (ac.eval x) := h1
        have h2 := optI_spec ev (F := F) (ρ := ρ) (s := s2) (w := w) (ac := ac) ha (fun y hy => hop y (by simp [ho, hy, Op.operands]))
        have h3 := optI_spec ev (F := F) (ρ := ρ) (s := s2) (w := w) (ac := ac) hb (fun y hy => hop y (by simp [ho, hy, Op.operands]))
        obtain ⟨A, len, cap, hv, hlen, hcap, hrep⟩ := part_rep h1 (orI a 0).toNat (orI b (List.length l)).toNat (by omega) (by rw [List.length_map]; omega)
        rw [List.length_map] at hlen
        subst hlen
        rw [← List.map_take, ← List.map_drop] at hrep
        refine ⟨.slice (if cap = (orI a 0).toNat then A else A.map (·.add ((orI a 0).toNat * t.size Γ))) ((orI b (List.length l)).toNat - (orI a 0).toNat) (cap - (orI a 0).toNat), ?_, hrep⟩
        · have hrun := run_slice_at P hti hT hsome hsz A l.length cap (lo.map ac.eval) (hi.map ac.eval) (orI a 0).toNat (orI b (List.length l)).toNat (bound_lo h2 c1) (bound_hi h3 (by omega)) (by omega) (by omega) w
          simp only [execOp, ho, hv, Sem.run_bind, Option.map_none, hrun, Result.andThen_ok, Sem.run_pure]
      · cases h
    · rename_i q hx
      split at h
      · rename_i E t l hq
        split at h
        · rename_i hcond
          obtain ⟨hsz, hsome⟩ := hcond
          obtain ⟨hc, h⟩ := chk_some h
          simp only [Bool.and_eq_true, decide_eq_true_eq] at hc
          obtain ⟨c1, c4, c2, c3⟩ := hc
          refine ⟨_, _, _, h, Sound.pure fun s2 hs w0 F ρ ac w hR hop => ?_⟩
          have h1 := hop x (by simp [ho, Op.operands])
          rw [hx] at h1
          obtain ⟨hne, hv⟩ := h1
          have hq2 : s2 q = .live (.arr E t l) := by rw [hs q (List.mem_singleton.2 rfl)]; exact hq
          have h2 := optI_spec ev (F := F) (ρ := ρ) (s := s2) (w := w) (ac := ac) ha (fun y hy => hop y (by simp [ho, hy, Op.operands]))
          have h3 := optI_spec ev (F := F) (ρ := ρ) (s := s2) (w := w) (ac := ac) hb (fun y hy => hop y (by simp [ho, hy, Op.operands]))
          obtain ⟨xs, g1, g2, g3⟩ := hR.res q _ hq2
          rcases ownsRow_nilOrBlock g1 with ⟨_, hn⟩ | ⟨g, cap, ev', hn, hm⟩
          · rw [hn] at c4; simp at c4; omega
          · rw [ev'] at hv
            have hrun := run_slice_at P hti hT hsome hsz (some ⟨g, 0, none⟩) l.length cap (lo.map ac.eval) (hi.map ac.eval) (orI a 0).toNat (orI b (List.length l)).toNat (bound_lo h2 c1) (bound_hi h3 (by omega)) (by omega) (by omega) w
            refine ⟨.slice (some ⟨g, (orI a 0).toNat * t.size Γ, none⟩) ((orI b (List.length l)).toNat - (orI a 0).toNat) (cap - (orI a 0).toNat), ?_, hne, fun r' hr' => ?_⟩
            · simp only [execOp, ho, hv, Sem.run_bind, Option.map_none, hrun, Result.andThen_ok, Sem.run_pure]
              rw [if_neg (by omega), Option.map_some, add_zero_lit, Nat.zero_add]
            · rw [hq2] at hr'
              cases hr'
              refine ⟨c1, c2, ?_, g, cap - (orI a 0).toNat, by rw [ev']; rfl, rfl⟩
              show (orI b (List.length l)).toNat ≤ l.length
              omega
        · cases h
      · cases h
    · cases h
  · cases h

/-! ### copy -/

/-- The part of a slice of the call's own that is written. -/
def subOf (s : Nat → RStat Γ) : CV Γ → Option (Nat × Int × Int)
  | .own k => match s k with
    | .live (.arr _ _ l) => some (k, 0, (l.length : Int))
    | _ => none
  | .sub k lo hi => some (k, lo, hi)
  | _ => none

def splL {α : Type} (l : List α) (o : Nat) (xs : List α) : List α := List.append (List.append (List.take o l) xs) (List.drop (o + xs.length) l)

def vCopy (args : Array Operand) (tys : Array TypeId) (k : K Γ R) : Option R :=
  match args.toList, tys.toList with
  | [x, y], [T, T2] => match sliceAt? ti T, ev x, ev y with
    | some e, .v (.one cx), .v (.one cy) => match subOf s cx, srcOf s cy with
      | some (q, lo, hi), some ⟨t2, l2⟩ => match s q with
        | .live (.arr E t l) => match asTy (Γ := Γ) ⟨.sl t2, l2⟩ (.sl t) with
          | some l2 => if szOf ti e = 1 ∧ t.size Γ = 1 then
              k (AV.dat (.int .i64) (imin (hi - lo) (List.length (α := Den Γ t) l2 : Int))) (q :: (cvKeys cx ++ cvKeys cy))
                [(q, .live (.arr E t (splL (α := Den Γ t) l lo.toNat (List.take (α := Den Γ t) (imin (hi - lo) (List.length (α := Den Γ t) l2 : Int)).toNat l2))))]
            else none
          | none => none
        | _ => none
      | _, _ => none
    | _, _, _ => none
  | _, _ => none

theorem flatMap_take1 {α β : Type} (f : α → List β) (hf : ∀ x, (f x).length = 1) : ∀ (l : List α) (n : Nat), (l.take n).flatMap f = (l.flatMap f).take n
  | [], n => by simp
  | x :: l, 0 => by simp
  | x :: l, n + 1 => by
    have hx := hf x
    match hfx : f x, hx with
    | [y], _ => simp [List.flatMap_cons, hfx, flatMap_take1 f hf l n]

theorem flatMap_drop1 {α β : Type} (f : α → List β) (hf : ∀ x, (f x).length = 1) : ∀ (l : List α) (n : Nat), (l.drop n).flatMap f = (l.flatMap f).drop n
  | [], n => by simp
  | x :: l, 0 => by simp
  | x :: l, n + 1 => by
    have hx := hf x
    match hfx : f x, hx with
    | [y], _ => simp [List.flatMap_cons, hfx, flatMap_drop1 f hf l n]

theorem splL_length {α : Type} (l : List α) (o : Nat) (xs : List α) (h : o + xs.length ≤ l.length) : (splL l o xs).length = l.length := by
  unfold splL
  show ((List.take o l ++ xs) ++ List.drop (o + xs.length) l).length = l.length
  simp
  omega

theorem RelR.storeRun (hΓ : Γ.Ok) {w0 : Base} {w : World} {F : Nat → Prop} {ρ : Nat → RI} {s : Nat → RStat Γ} (hR : RelR w0 F ρ s w) {key : Nat} {E : TypeId} {t : Ty} (ht : t.size Γ = 1) {l : List (Den Γ t)} (hk : s key = .live (.arr E t l)) {o : Nat} {ds : List (Den Γ t)} {vs : List Value} (hds : RepL F w (ds.flatMap (encL t)) vs)
    (hle : o + ds.length ≤ l.length) {g : Nat} (hg : (ρ key).val.ownBlock = some g) :
    ∃ cur : Array Value, w.heap[g]? = some (.cells cur E (0, 0)) ∧ o + vs.length ≤ cur.size ∧ vs.length = ds.length ∧
    Ext F ρ s w F (updI ρ key (ρ key)) (updR s key (.live (.arr E t (splL l o ds)))) (w.setRow g (cur.toList.take o ++ vs ++ cur.toList.drop (o + vs.length)).toArray) ∧
    RelR w0 F (updI ρ key (ρ key)) (updR s key (.live (.arr E t (splL l o ds)))) (w.setRow g (cur.toList.take o ++ vs ++ cur.toList.drop (o + vs.length)).toArray) := by
  obtain ⟨xs, g1, g2, g3⟩ := hR.res key _ hk
  have hfl : ∀ m : List (Den Γ t), (m.flatMap (encL t)).length = m.length := fun m => by rw [length_flatMap_const (encL t) 1 m (fun x _ => by rw [encL_size hΓ, ht]), Nat.mul_one]
  have hvl : vs.length = ds.length := by rw [hds.1, hfl]
  have hxl : xs.length = l.length := by rw [g1.1, ht, Nat.mul_one]
  obtain ⟨cur, c1, c2, c3⟩ := ownsRow_store (o := o) (vs := vs) g1 hg (by omega)
  refine ⟨cur, c1, c2, hvl, ?_⟩
  have hsl := splL_length l o ds hle
  refine hR.set key (ρ key) _ (.inr ⟨_, hk, rfl, rfl, ⟨hsl, rfl, fun _ _ _ _ _ h => by cases h⟩⟩) (by simp) ⟨rfl, rfl, rfl⟩ (fun b _ hb => setRow_other w _ b _ (fun e => hb (e ▸ g3 g hg))) (fun b hb => hR.free_own hk hb (by simp)) (fun x => ?_)
  refine ⟨xs.take o ++ vs ++ xs.drop (o + vs.length), by rw [updI_same, hsl]; exact c3, RepL.mono ?_ x.keeps x.sub, by rw [updI_same]; exact g3⟩
  have h1 : ∀ x : Den Γ t, (encL t x).length = 1 := fun x => by rw [encL_size hΓ, ht]
  have e : (splL l o ds).flatMap (encL t) = (l.flatMap (encL t)).take o ++ ds.flatMap (encL t) ++ (l.flatMap (encL t)).drop (o + vs.length) := by
    show ((List.take o l ++ ds) ++ List.drop (o + ds.length) l).flatMap (encL t) = _
    rw [List.flatMap_append, List.flatMap_append, flatMap_take1 _ h1, flatMap_drop1 _ h1, hvl]
  rw [e]
  exact ((g2.take _).append hds).append (g2.drop _)

theorem subOf_congr {s2 : Nat → RStat Γ} {c : CV Γ} (h : ∀ k ∈ cvKeys c, s2 k = s k) : subOf s2 c = subOf s c := by
  unfold subOf
  split <;> first | rfl | rw [h _ (List.mem_singleton.2 rfl)]

theorem subOf_spec {w0 : Base} {w : World} {F : Nat → Prop} {ρ : Nat → RI} {s : Nat → RStat Γ} (hR : RelR w0 F ρ s w) {c : CV Γ} {q : Nat} {lo hi : Int} {v : Value} (h : subOf s c = some (q, lo, hi)) (hc : ConcC F ρ s w c v) {E : TypeId} {t : Ty} {l : List (Den Γ t)} (hq : s q = .live (.arr E t l)) :
    0 ≤ lo ∧ lo ≤ hi ∧ hi.toNat ≤ l.length ∧ ((v = .slice none 0 0 ∧ lo = 0 ∧ hi = 0 ∧ l = []) ∨ ∃ g cap, (ρ q).val.ownBlock = some g ∧ v = .slice (some ⟨g, lo.toNat * t.size Γ, none⟩) (hi - lo).toNat cap) := by
  unfold subOf at h
  split at h
  · rename_i k
    split at h
    · rename_i E' t' l' e
      injection h with h
      injection h with h1 h2
      injection h2 with h2 h3
      subst h1
      rw [hq] at e
      cases e
      subst h2; subst h3
      obtain ⟨xs, g1, _⟩ := hR.res k _ hq
      refine ⟨Int.le_refl _, by omega, by omega, ?_⟩
      rw [hc.2]
      rcases ownsRow_nilOrBlock g1 with ⟨e, hn⟩ | ⟨g, cap, e, hn, hm⟩
      · exact .inl ⟨e, rfl, by omega, List.eq_nil_of_length_eq_zero hn⟩
      · refine .inr ⟨g, cap, by rw [e]; rfl, ?_⟩
        rw [e]
        simp
    · cases h
  · rename_i k lo' hi'
    cases h
    obtain ⟨_, hall⟩ := hc
    obtain ⟨b1, b2, b3, b, cap, b4, rfl⟩ := hall _ hq
    refine ⟨b1, b2, b3, .inr ⟨b, cap, b4, ?_⟩⟩
    have : (hi - lo).toNat = hi.toNat - lo.toNat := by omega
    rw [this]
    rfl
  · cases h

theorem updR_self {s : Nat → RStat Γ} {k : Nat} {x : RStat Γ} (h : s k = x) : updR s k x = s := by
  funext i
  by_cases e : i = k
  · subst e; rw [updR_same, h]
  · rw [updR_other e]

theorem run_copy_to_none (w : World) (dT sT ty e : TypeId) (hu : P.underlying dT = some (.slice e)) (hs : (P.info? e).map (·.size) = some 1) (A : Option Addr) (n c : Nat) (hA : A = none → n = 0) :
    (Builtin.copy_ #[dT, sT] ty #[.slice none 0 0, .slice A n c]).run P w = .ok (goInt 0) w := by
  cases hq : P.info? e with
  | none => simp [hq] at hs
  | some i => cases A <;> simp [Builtin.copy_, run_underlying hu, Builtin.lenOf, Builtin.firstCells, sizeOf, typeInfo, hq, loadCells, loadCellsFrom]

theorem vCopy_sound (hΓ : Γ.Ok) (hti : TIOk P ti) (args : Array Operand) (tys : Array TypeId) (ho : o.op = .call { callee := .builtin .copy, args := args, argTypes := tys }) : Goal P ev s o (vCopy (R := R) ti ev s args tys) := by
  intro k r h
  unfold vCopy at h
  split at h
  · rename_i x y T T2 hargs htys
    have hargs' : args = #[x, y] := by rw [← hargs]
    have htys' : tys = #[T, T2] := by rw [← htys]
    split at h
    · rename_i e cx cy hT hx hy
      split at h
      · rename_i q lo hi t2 l2 hdst hsrc
        split at h
        · rename_i E t l hq
          split at h
          · rename_i l2' hl2
            split at h
            · rename_i hcond
              obtain ⟨hsz, hts⟩ := hcond
              have hl2s := asTy_some hl2
              obtain rfl : t2 = t := by injection hl2s with e _; injection e
              obtain rfl : l2 = l2' := by injection hl2s
              obtain ⟨inf, hinf, hinfs⟩ := szOf_some hsz (by omega)
              have hsize : (P.info? e).map (·.size) = some 1 := by
                obtain ⟨f, hf, h1, _⟩ := (hti _ _ hinf).info
                rw [hf, Option.map_some, h1, hinfs]
              refine ⟨_, _, _, h, fun s2 hs w0 F ρ ac w hR hop next Q hnext => ?_⟩
              have hq2 : s2 q = .live (.arr E t2 l) := by rw [hs q List.mem_cons_self]; exact hq
              have h1 := hop x (by simp [ho, Op.operands, Call.operands, hargs'])
              have h2 := hop y (by simp [ho, Op.operands, Call.operands, hargs'])
              rw [hx] at h1
              rw [hy] at h2
              have hdst2 : subOf s2 cx = some (q, lo, hi) := by rw [subOf_congr s (fun k hk => hs k (List.mem_cons_of_mem _ (List.mem_append_left _ hk)))]; exact hdst
              have hsrc2 : srcOf s2 cy = some ⟨t2, l2⟩ := by rw [srcOf_congr s (fun k hk => hs k (List.mem_cons_of_mem _ (List.mem_append_right _ hk)))]; exact hsrc
              obtain ⟨b1, b2, b3, b4⟩ := subOf_spec hR hdst2 h1 hq2
              obtain ⟨cs, hcs⟩ := call_builtin P o ac _ args tys ho
              have hmin : 0 ≤ imin (hi - lo) (l2.length : Int) ∧ (imin (hi - lo) (l2.length : Int)).toNat = Nat.min l2.length (hi - lo).toNat := by
                unfold imin
                split <;> simp only [Nat.min_def] <;> split <;> omega
              obtain ⟨hm0, hmn⟩ := hmin
              have same : ∀ m : Int, m = imin (hi - lo) (l2.length : Int) → m = 0 → (execOp ac.eval o).run P w = .ok (.value (.int .i64 m)) w → o.wp P ac w next Q := by
                intro m hm hm2 hrun
                have hl' : splL l lo.toNat (List.take (imin (hi - lo) (l2.length : Int)).toNat l2) = l := by
                  rw [← hm, hm2]
                  show (List.take lo.toNat l ++ List.take 0 l2) ++ List.drop (lo.toNat + (List.take 0 l2).length) l = l
                  simp
                unfold Oper.wp
                rw [hrun, hm]
                refine hnext _ w F ρ ⟨?_, ?_, RepD.v _⟩
                · show Ext F ρ s2 w F ρ (updR s2 q _) w
                  rw [hl', updR_self hq2]; exact Ext.refl _ _ _ _
                · show RelR w0 F ρ (updR s2 q _) w
                  rw [hl', updR_self hq2]; exact hR
              rcases srcOf_spec s2 hΓ hR hsrc2 h2 with ⟨hv, hl0⟩ | ⟨ad, cap, news, hv, hnl, hncell, hnrep, hnone⟩
              · have hz : imin (hi - lo) (l2.length : Int) = 0 := by
                  rw [hl0]; unfold imin; simp; omega
                refine same 0 hz.symm rfl ?_
                rcases b4 with ⟨hv1, _⟩ | ⟨g, cap, hg, hv1⟩
                · rw [hcs]
                  have := run_copy_to_none P w T T2 o.type e (sliceAt?_spec P hti hT) hsize none 0 0 (fun _ => rfl)
                  simp [hargs', htys', hv, hv1, builtin, this, goInt]
                · rw [hcs]
                  have := run_copy_nil (P := P) w T T2 o.type e ⟨g, lo.toNat * t2.size Γ, none⟩ (hi - lo).toNat cap (sliceAt?_spec P hti hT) (by rw [hsize]; rfl)
                  simp [hargs', htys', hv, hv1, builtin, this, goInt]
              · rw [hts, Nat.mul_one] at hnl
                rcases b4 with ⟨hv1, rfl, rfl, _⟩ | ⟨g, cap', hg, hv1⟩
                · have hz : imin (0 - 0) (l2.length : Int) = 0 := by unfold imin; split <;> omega
                  refine same 0 hz.symm rfl ?_
                  rw [hcs]
                  have := run_copy_to_none P w T T2 o.type e (sliceAt?_spec P hti hT) hsize (some ad) l2.length cap (fun h => by cases h)
                  simp [hargs', htys', hv, hv1, builtin, this, goInt]
                · have hmle : (imin (hi - lo) (l2.length : Int)).toNat ≤ l2.length := by rw [hmn]; exact Nat.min_le_left _ _
                  have hmle2 : (imin (hi - lo) (l2.length : Int)).toNat ≤ (hi - lo).toNat := by rw [hmn]; exact Nat.min_le_right _ _
                  have hdl : (List.take (imin (hi - lo) (l2.length : Int)).toNat l2).length = (imin (hi - lo) (l2.length : Int)).toNat := by rw [List.length_take, Nat.min_eq_left hmle]
                  have hds : RepL F w ((List.take (imin (hi - lo) (l2.length : Int)).toNat l2).flatMap (encL t2)) (news.take (imin (hi - lo) (l2.length : Int)).toNat) := by
                    rw [flatMap_take1 _ (fun x => by rw [encL_size hΓ, hts])]
                    exact hnrep.take _
                  obtain ⟨cur, c1, c2, c3, x2, R2⟩ := hR.storeRun hΓ hts hq2 hds (o := lo.toNat) (by rw [hdl]; omega) hg
                  have hnt : (news.take (imin (hi - lo) (l2.length : Int)).toNat).length = (imin (hi - lo) (l2.length : Int)).toNat := by rw [List.length_take, Nat.min_eq_left (by omega)]
                  have hrun : (execOp ac.eval o).run P w = .ok (.value (.int .i64 (imin (hi - lo) (l2.length : Int)))) (w.setRow g (cur.toList.take lo.toNat ++ news.take (imin (hi - lo) (l2.length : Int)).toNat ++ cur.toList.drop (lo.toNat + (news.take (imin (hi - lo) (l2.length : Int)).toNat).length)).toArray) := by
                    rw [hcs]
                    have := run_copy_row (P := P) w T T2 o.type e g lo.toNat (hi - lo).toNat cap' ad l2.length cap cur E (news.take (imin (hi - lo) (l2.length : Int)).toNat) (sliceAt?_spec P hti hT) hsize c1 (by rw [hnt, hmn]) (fun j v hj => by
                      rw [List.getElem?_take] at hj
                      split at hj
                      · exact hncell j v hj
                      · cases hj) c2 (fun v hv => hnone v (List.mem_of_mem_take hv))
                    simp only [hargs', htys', hv, hv1, builtin, hts, Nat.mul_one, List.map_toArray, List.map_cons, List.map_nil, Sem.run_bind, this, Result.andThen_ok, Sem.run_pure, goInt, hnt]
                    rw [Int.toNat_of_nonneg hm0]
                  unfold Oper.wp
                  rw [hrun]
                  exact hnext _ _ F _ ⟨x2, R2, RepD.v _⟩
            · cases h
          · cases h
        · cases h
      · cases h
    · cases h
  · cases h

end ops
end Go.Vs
