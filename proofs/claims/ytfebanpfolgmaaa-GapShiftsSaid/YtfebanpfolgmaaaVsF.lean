/- The evaluator's sixth part: loads, stores, new variables. -/
import Derived.Test.YtfebanpfolgmaaaVsE
namespace Go.Vs
set_option linter.unusedVariables false
open Go.RowKit

variable {Γ : Env}

section lists
variable {F : Nat → Prop} {ρ : Nat → RI} {s : Nat → RStat Γ} {w : World}

theorem ConcL.append {l m : List (CV Γ)} {vs us : List Value} (h : ConcL F ρ s w l vs) (k : ConcL F ρ s w m us) : ConcL F ρ s w (l ++ m) (vs ++ us) := by
  refine ⟨by simp [h.1, k.1], fun i hi => ?_⟩
  simp only [List.getD_eq_getElem?_getD, List.getElem?_append, h.1]
  split
  · rename_i hlt
    have := h.2 i hlt
    simpa only [List.getD_eq_getElem?_getD] using this
  · rename_i hge
    have := k.2 (i - l.length) (by simp at hi; omega)
    simpa only [List.getD_eq_getElem?_getD] using this

theorem ConcL.take {l : List (CV Γ)} {vs : List Value} (h : ConcL F ρ s w l vs) (n : Nat) : ConcL F ρ s w (l.take n) (vs.take n) := by
  refine ⟨by simp [h.1], fun i hi => ?_⟩
  have h1 : i < n ∧ i < l.length := by simp at hi; omega
  have := h.2 i h1.2
  simpa only [List.getD_eq_getElem?_getD, List.getElem?_take, h1.1, if_true] using this

theorem ConcL.drop {l : List (CV Γ)} {vs : List Value} (h : ConcL F ρ s w l vs) (n : Nat) : ConcL F ρ s w (l.drop n) (vs.drop n) := by
  refine ⟨by simp [h.1], fun i hi => ?_⟩
  have := h.2 (n + i) (by simp at hi; omega)
  simpa only [List.getD_eq_getElem?_getD, List.getElem?_drop] using this

theorem ConcL.nil : ConcL F ρ s w ([] : List (CV Γ)) [] := ⟨rfl, fun i hi => absurd hi (Nat.not_lt_zero _)⟩

theorem ConcL.of_cells {cs : List (Cell Γ)} {vs : List Value} (h : RepL F w (cs.map Cell.enc) vs) : ConcL F ρ s w (cs.map CV.leaf) vs := by
  refine ⟨by have := h.1; simpa using this, fun i hi => ?_⟩
  have hi' : i < cs.length := by simpa using hi
  have := h.2 i (by simpa using hi')
  have e1 : (cs.map CV.leaf).getD i .undef = .leaf cs[i] := by simp [List.getD_eq_getElem?_getD, hi']
  have e2 : (cs.map Cell.enc).getD i (.v undef) = (cs[i]).enc := by simp [List.getD_eq_getElem?_getD, hi']
  rw [e1]
  rw [e2] at this
  exact this

theorem RepL.take {ds : List D} {vs : List Value} (h : RepL F w ds vs) (n : Nat) : RepL F w (ds.take n) (vs.take n) := by
  refine ⟨by simp [h.1], fun i hi => ?_⟩
  have h1 : i < n ∧ i < ds.length := by simp at hi; omega
  have := h.2 i h1.2
  simpa only [List.getD_eq_getElem?_getD, List.getElem?_take, h1.1, if_true] using this

theorem RepL.drop {ds : List D} {vs : List Value} (h : RepL F w ds vs) (n : Nat) : RepL F w (ds.drop n) (vs.drop n) := by
  refine ⟨by simp [h.1], fun i hi => ?_⟩
  have := h.2 (n + i) (by simp at hi; omega)
  simpa only [List.getD_eq_getElem?_getD, List.getElem?_drop] using this
end lists

section ops
variable {R : Type} (P : Program) (ti : TypeId → Option (TI Γ)) (ev : Operand → AV Γ) (s : Nat → RStat Γ) (o : Oper)

/-! ### load -/

def leaves (t : Ty) (x : Den Γ t) : List (CV Γ) := (cellsOf t x).map CV.leaf

/-- The abstract cells at an address. -/
def addrSub (s : Nat → RStat Γ) (x : AV Γ) (n : Nat) : Option (List (CV Γ)) :=
  match x with
  | .v (.one (.ptr k off)) => match s k with
    | .live (.var E cells) => if off + n ≤ cells.length then some ((cells.drop off).take n) else none
    | _ => none
  | .v (.one (.eaD t l i off)) => if off + n ≤ t.size Γ then some (((leaves t (l.getD i.toNat (t.zero Γ))).drop off).take n) else none
  | .v (.one (.eaO k i off)) => match s k with
    | .live (.arr E t l) => if off + n ≤ t.size Γ then some (((leaves t (l.getD i.toNat (t.zero Γ))).drop off).take n) else none
    | .live (.mat E E2 t l m) => if off = 0 ∧ n = 1 then some [.row k m i] else none
    | _ => none
  | .v (.one (.eaR k ver i j off)) => match s k with
    | .live (.mat E E2 t l m) => if off + n ≤ t.size Γ ∧ m = ver then some (((leaves t ((l.getD i.toNat []).getD j.toNat (t.zero Γ))).drop off).take n) else none
    | _ => none
  | _ => none

def subKeys : AV Γ → List Nat
  | .v (.one (.ptr k _)) => [k]
  | .v (.one (.eaO k _ _)) => [k]
  | .v (.one (.eaR k _ _ _ _)) => [k]
  | _ => []

theorem addrSub_congr {s2 : Nat → RStat Γ} {x : AV Γ} {n : Nat} (h : ∀ k ∈ subKeys x, s2 k = s k) : addrSub s2 x n = addrSub s x n := by
  unfold addrSub
  split <;> first | rfl | rw [h _ (List.mem_singleton.2 rfl)]

theorem leaves_size (hΓ : Γ.Ok) (t : Ty) (x : Den Γ t) : (leaves t x).length = t.size Γ := by rw [leaves, List.length_map, cellsOf_size hΓ]

/-- One element of owned cells. -/
theorem elem_leaves (hΓ : Γ.Ok) {F : Nat → Prop} {ρ : Nat → RI} {w : World} {t : Ty} {l : List (Den Γ t)} {xs : List Value} (h : RepL F w (l.flatMap (encL t)) xs) {i j : Nat} (hi : i < l.length) (hj : j < t.size Γ) :
    ConcC F ρ s w ((leaves t (l.getD i (t.zero Γ))).getD j .undef) (xs.getD (i * t.size Γ + j) undef) := by
  have hlen := length_flatMap_const (encL t) (t.size Γ) l (mem_encL_size hΓ t l)
  have hlt : i * t.size Γ + j < (l.flatMap (encL t)).length := by
    rw [hlen]
    have : (i + 1) * t.size Γ ≤ l.length * t.size Γ := Nat.mul_le_mul_right _ hi
    rw [Nat.add_mul] at this
    omega
  have h2 := h.2 _ hlt
  rw [getD_flatMap (encL t) (t.size Γ) (.v undef) l i j (t.zero Γ) (mem_encL_size hΓ t l) hi hj, encL_cells hΓ] at h2
  have hj' : j < (cellsOf t (l.getD i (t.zero Γ))).length := by rw [cellsOf_size hΓ]; exact hj
  have e1 : (leaves t (l.getD i (t.zero Γ))).getD j .undef = .leaf ((cellsOf t (l.getD i (t.zero Γ)))[j]) := by
    rw [leaves, List.getD_eq_getElem?_getD, List.getElem?_map, List.getElem?_eq_getElem hj']; rfl
  have e2 : ((cellsOf t (l.getD i (t.zero Γ))).map Cell.enc).getD j (.v undef) = Cell.enc ((cellsOf t (l.getD i (t.zero Γ)))[j]) := by
    rw [List.getD_eq_getElem?_getD, List.getElem?_map, List.getElem?_eq_getElem hj']; rfl
  rw [e1]
  rw [e2] at h2
  exact h2

theorem getD_take_drop {α : Type} (l : List α) (off n j : Nat) (d : α) (hj : j < n) : ((l.drop off).take n).getD j d = l.getD (off + j) d := by
  simp only [List.getD_eq_getElem?_getD, List.getElem?_take, hj, if_true, List.getElem?_drop]

theorem addrSub_spec (hΓ : Γ.Ok) {w0 : Base} {F : Nat → Prop} {ρ : Nat → RI} {w : World} (hR : RelR w0 F ρ s w) {x : AV Γ} {n : Nat} {sub : List (CV Γ)} {v : Value} (h : addrSub s x n = some sub) (hc : ConcA F ρ s w x v) :
    ∃ (a : Addr) (u : Nat → Value), v = .pointer (some a) ∧ sub.length = n ∧ ∀ j, j < n → w.cell? (a.add j) = some (u j) ∧ ConcC F ρ s w (sub.getD j .undef) (u j) := by
  unfold addrSub at h
  split at h
  · rename_i k off
    obtain ⟨h0, rfl⟩ := hc
    split at h
    · rename_i E cells hk
      split at h
      · rename_i hle
        cases h
        obtain ⟨arr, g1, g2, g3⟩ := hR.res k _ hk
        refine ⟨_, fun j => arr.toList.getD (off + j) undef, rfl, by simp; omega, fun j hj => ?_⟩
        have hsz : arr.size = cells.length := by have := g3.1; simpa using this
        rw [add_zero_lit, getD_take_drop _ _ _ _ _ hj]
        refine ⟨?_, g3.2 (off + j) (by omega)⟩
        simp [World.cell?, g1, List.getD_eq_getElem?_getD, show off + j < arr.size by omega]
      · cases h
    · cases h
  · rename_i t l i off
    obtain ⟨h0, h1, a, u, rfl, hj⟩ := hc
    split at h
    · rename_i hle
      cases h
      refine ⟨_, fun j => u (off + j), rfl, by simp [leaves_size hΓ]; omega, fun j hjn => ?_⟩
      obtain ⟨b1, b2, b3⟩ := hj (off + j) (by omega)
      rw [add_add, getD_take_drop _ _ _ _ _ hjn]
      refine ⟨b2, ?_⟩
      rw [encL_cells hΓ] at b3
      have hj' : off + j < (cellsOf t (l.getD i.toNat (t.zero Γ))).length := by rw [cellsOf_size hΓ]; omega
      have e1 : (leaves t (l.getD i.toNat (t.zero Γ))).getD (off + j) .undef = .leaf ((cellsOf t (l.getD i.toNat (t.zero Γ)))[off + j]) := by
        rw [leaves, List.getD_eq_getElem?_getD, List.getElem?_map, List.getElem?_eq_getElem hj']; rfl
      have e2 : ((cellsOf t (l.getD i.toNat (t.zero Γ))).map Cell.enc).getD (off + j) (.v undef) = Cell.enc ((cellsOf t (l.getD i.toNat (t.zero Γ)))[off + j]) := by
        rw [List.getD_eq_getElem?_getD, List.getElem?_map, List.getElem?_eq_getElem hj']; rfl
      rw [e1]
      rw [e2] at b3
      exact b3
    · cases h
  · rename_i k i off
    obtain ⟨h0, hall⟩ := hc
    split at h
    · rename_i E t l hk
      split at h
      · rename_i hle
        cases h
        obtain ⟨b1, b2, b, b3, rfl⟩ := hall _ hk
        obtain ⟨xs, g1, g2, g3⟩ := hR.res k _ hk
        refine ⟨_, fun j => xs.getD (i.toNat * t.size Γ + (off + j)) undef, rfl, by simp [leaves_size hΓ]; omega, fun j hj => ?_⟩
        rw [add_zero_lit, getD_take_drop _ _ _ _ _ hj]
        refine ⟨?_, elem_leaves s hΓ g2 b2 (by omega)⟩
        have e : i.toNat * Res.esz (.arr E t l : Res Γ) + off + j = i.toNat * t.size Γ + (off + j) := by simp only [Res.esz]; omega
        rw [e]
        refine ownsRow_cell g1 b3 ?_
        rw [g1.1]
        have b2' : i.toNat < l.length := b2
        have : (i.toNat + 1) * t.size Γ ≤ l.length * t.size Γ := Nat.mul_le_mul_right _ b2'
        rw [Nat.add_mul] at this
        omega
      · cases h
    · rename_i E E2 t l m hk
      split at h
      · rename_i he
        obtain ⟨rfl, rfl⟩ := he
        cases h
        obtain ⟨b1, b2, b, b3, rfl⟩ := hall _ hk
        obtain ⟨g1, _⟩ := hR.res k _ hk
        refine ⟨_, fun j => (ρ k).rows.getD i.toNat undef, rfl, rfl, fun j hj => ?_⟩
        obtain rfl : j = 0 := by omega
        rw [add_zero_lit]
        refine ⟨?_, h0, fun E' E2' t' l' n' hr' => ?_⟩
        · have e : i.toNat * Res.esz (.mat E E2 t l m : Res Γ) + 0 + 0 = i.toNat := by simp [Res.esz]
          rw [e]
          exact ownsRow_cell g1 b3 (by rw [g1.1, Nat.mul_one]; exact b2)
        · rw [hk] at hr'
          cases hr'
          exact ⟨Nat.le_refl _, fun _ => ⟨b1, b2, rfl⟩⟩
      · cases h
    · cases h
  · rename_i k ver i j0 off
    obtain ⟨h0, hall⟩ := hc
    split at h
    · rename_i E E2 t l m hk
      split at h
      · rename_i he
        obtain ⟨hle, rfl⟩ := he
        cases h
        obtain ⟨_, h2⟩ := hall E E2 t l m hk
        obtain ⟨c1, c2, c3, c4, b, c5, rfl⟩ := h2 rfl
        obtain ⟨_, grow, _⟩ := hR.res k _ hk
        obtain ⟨ys, g1, g2⟩ := grow i.toNat c2
        refine ⟨_, fun j => ys.getD (j0.toNat * t.size Γ + (off + j)) undef, rfl, by simp [leaves_size hΓ]; omega, fun j hj => ?_⟩
        rw [add_zero_lit, getD_take_drop _ _ _ _ _ hj]
        refine ⟨?_, elem_leaves s hΓ g2 c4 (by omega)⟩
        rw [Nat.add_assoc]
        refine ownsRow_cell g1 c5 ?_
        rw [g1.1]
        have : (j0.toNat + 1) * t.size Γ ≤ (l.getD i.toNat []).length * t.size Γ := Nat.mul_le_mul_right _ c4
        rw [Nat.add_mul] at this
        omega
      · cases h
    · cases h
  · cases h

def vLoad (T : TypeId) (x : Operand) (k : K Γ R) : Option R :=
  match ti T with
  | some i => match addrSub s (ev x) i.size with
    | some sub => if i.und.agg then k (.v (.agg sub)) (subKeys (ev x)) [] else
        match sub with
        | [c] => k (.v (.one c)) (subKeys (ev x)) []
        | _ => none
    | none => none
  | none => none

theorem vLoad_sound (hΓ : Γ.Ok) (hti : TIOk P ti) (T : TypeId) (x : Operand) (ho : o.op = .load T x) : Goal P ev s o (vLoad (R := R) ti ev s T x) := by
  intro k r h
  unfold vLoad at h
  split at h
  · rename_i inf hinf
    split at h
    · rename_i sub hsub
      split at h
      · rename_i hagg
        refine ⟨_, _, _, h, Sound.pure fun s2 hs w0 F ρ ac w hR hop => ?_⟩
        obtain ⟨a, u, hv, hlen, hj⟩ := addrSub_spec s2 hΓ hR (by rw [addrSub_congr s hs]; exact hsub) (hop x (by simp [ho, Op.operands]))
        have hrun := run_loadCells (P := P) w a inf.size u (fun j hjn => (hj j hjn).1)
        refine ⟨.agg ((List.range inf.size).map u).toArray, by simp [execOp, ho, hv, Instr.loadAt, Instr.sureAddr, loadVar, run_isAgg P hti hinf, hagg, run_sizeOf P hti hinf, hrun], _, rfl, by simp [hlen], fun j hjn => ?_⟩
        rw [hlen] at hjn
        have := (hj j hjn).2
        simpa [List.getD_eq_getElem?_getD, hjn] using this
      · rename_i hagg
        split at h
        · rename_i c
          refine ⟨_, _, _, h, Sound.pure fun s2 hs w0 F ρ ac w hR hop => ?_⟩
          obtain ⟨a, u, hv, hlen, hj⟩ := addrSub_spec s2 hΓ hR (by rw [addrSub_congr s hs]; exact hsub) (hop x (by simp [ho, Op.operands]))
          have h1 : 0 < inf.size := by rw [← hlen]; exact Nat.one_pos
          obtain ⟨g1, g2⟩ := hj 0 h1
          have e0 : a.add 0 = a := by simp [Addr.add]
          rw [e0] at g1
          exact ⟨u 0, by simp [execOp, ho, hv, Instr.loadAt, Instr.sureAddr, loadVar, run_isAgg P hti hinf, hagg, g1], g2⟩
        · cases h
    · cases h
  · cases h

/-! ### new variables -/

/-- What can stand in a variable's cell. -/
def CV.stor (s : Nat → RStat Γ) : CV Γ → Bool
  | .leaf c => c.1.flat
  | .nilS => true
  | .nilT _ => true
  | .ptr _ _ => true
  | .clo _ _ => true
  | .eaD _ _ _ _ => true
  | .own k => match s k with
    | .live (.arr _ _ _) => true
    | .live (.mat _ _ _ _ _) => true
    | _ => false
  | _ => false

def storKeys : CV Γ → List Nat
  | .own k => [k]
  | _ => []

theorem CV.stor_congr {s2 : Nat → RStat Γ} {c : CV Γ} (h : ∀ k ∈ storKeys c, s2 k = s k) : c.stor s2 = c.stor s := by
  unfold CV.stor
  split <;> first | rfl | rw [h _ (List.mem_singleton.2 rfl)]

theorem stor_one {w0 : Base} {F : Nat → Prop} {ρ : Nat → RI} {w : World} (hR : RelR w0 F ρ s w) {c : CV Γ} {v : Value} (hf : c.stor s = true) (h : ConcC F ρ s w c v) : v.oneCell' = true := by
  unfold CV.stor at hf
  split at hf
  · exact rep_flat hf h
  · rw [show v = .slice none 0 0 from h]; rfl
  · rw [show v = .slice none 0 0 from h]; rfl
  · rw [h.2]; rfl
  · obtain ⟨vs, rfl, _⟩ := h; rfl
  · obtain ⟨_, _, a, u, rfl, _⟩ := h; rfl
  · rename_i k
    split at hf
    · rename_i E t l e
      obtain ⟨xs, h1, _⟩ := hR.res k _ e
      rw [h.2]
      rcases ownsRow_nilOrBlock h1 with ⟨e, _⟩ | ⟨g, cap, e, _⟩ <;> rw [e] <;> rfl
    · rename_i E E2 t l n e
      obtain ⟨h1, _⟩ := hR.res k _ e
      rw [h.2]
      rcases ownsRow_nilOrBlock h1 with ⟨e, _⟩ | ⟨g, cap, e, _⟩ <;> rw [e] <;> rfl
    · cases hf
  · cases hf

def newVarI (b : Nat) : RI := ⟨b, .nilFunc, [], [b]⟩

theorem below_new (w : World) (ob : Obj) : Below w.heap.size w (w.alloc ob) := (Below.refl _ _).alloc (Nat.le_refl _) _

/-- A new block becomes a variable. -/
theorem RelR.newVar {w0 : Base} {F : Nat → Prop} {ρ : Nat → RI} {s : Nat → RStat Γ} {w : World} (hR : RelR w0 F ρ s w) {key : Nat} (hk : s key = .never) (E : TypeId) {cells : List (CV Γ)} {arr : Array Value} (hc : ConcL F ρ s w cells arr.toList) :
    Ext F ρ s w F (updI ρ key (newVarI w.heap.size)) (updR s key (.live (.var E cells))) (w.alloc (.cells arr E)) ∧ RelR w0 F (updI ρ key (newVarI w.heap.size)) (updR s key (.live (.var E cells))) (w.alloc (.cells arr E)) := by
  have hsize : (w.alloc (.cells arr E)).heap.size = w.heap.size + 1 := by simp
  refine hR.set key (newVarI w.heap.size) (.var E cells) (.inl hk) (by omega) ⟨rfl, rfl, rfl⟩ (fun b hb _ => heap_alloc_old w _ hb) (fun b hb => ?_) (fun x => ?_)
  · have : b = w.heap.size := by simpa [newVarI] using hb
    subst this
    exact hR.free_new (Nat.le_refl _) (by omega)
  · refine ⟨arr, ?_, by rw [updI_same]; simp [newVarI], hc.ext x⟩
    rw [updI_same]
    exact heap_alloc_new w _

def isNever (x : RStat Γ) : Bool :=
  match x with
  | .never => true
  | _ => false

theorem isNever_spec {x : RStat Γ} (h : isNever x = true) : x = .never := by
  cases x <;> simp [isNever] at h ⊢

/-- A zero as an abstract cell. -/
def zcv : Cell Γ → CV Γ
  | ⟨.sl t, _⟩ => .nilT t
  | c => .leaf c

theorem zcv_conc {F : Nat → Prop} {ρ : Nat → RI} {s : Nat → RStat Γ} {w : World} {c : Cell Γ} (h : c.enc.zeroB = true) : ConcC F ρ s w (zcv c) (zval c.enc) := by
  unfold zcv
  split
  · exact rfl
  · exact RepD.zero h

theorem zcv_list {F : Nat → Prop} {ρ : Nat → RI} {s : Nat → RStat Γ} {w : World} {zs : List (Cell Γ)} (h : ∀ c ∈ zs, (Cell.enc c).zeroB = true) : ConcL F ρ s w (zs.map zcv) (zs.map fun c => zval c.enc) := by
  refine ⟨by simp, fun i hi => ?_⟩
  have hi' : i < zs.length := by simpa using hi
  have e1 : (zs.map zcv).getD i .undef = zcv zs[i] := by simp [List.getD_eq_getElem?_getD, hi']
  have e2 : (zs.map (fun c => zval c.enc)).getD i undef = zval (zs[i]).enc := by simp [List.getD_eq_getElem?_getD, hi']
  rw [e1, e2]
  exact zcv_conc (h _ (List.getElem_mem hi'))

def vAlloc (E : TypeId) (key : Nat) (k : K Γ R) : Option R :=
  match ti E with
  | some i => match i.zero with
    | some zs => if isNever (s key) then k (AV.one (.ptr key 0)) [key] [(key, .live (.var E (zs.map zcv)))] else none
    | none => none
  | none => none

theorem vAlloc_sound (hti : TIOk P ti) (E : TypeId) (key : Nat) (ho : o.op = .alloc E) : Goal P ev s o (vAlloc (R := R) ti s E key) := by
  intro k r h
  unfold vAlloc at h
  split at h
  · rename_i inf hinf
    split at h
    · rename_i zs hzs
      split at h
      · rename_i hn
        refine ⟨_, _, _, h, fun s2 hs w0 F ρ ac w hR hop next Q hnext => ?_⟩
        obtain ⟨f, hf, h1, h2, h3⟩ := (hti E inf hinf).info
        obtain ⟨hz0, z, hz, hzl⟩ := h3 zs hzs
        have hk : s2 key = .never := by rw [hs key (List.mem_singleton.2 rfl)]; exact isNever_spec hn
        have hc : ConcL F ρ s2 w (zs.map zcv) z.cells.toList := by
          rw [hzl]
          exact zcv_list hz0
        obtain ⟨x, hR'⟩ := hR.newVar hk E hc
        have hrun : (execOp ac.eval o).run P w = .ok (.value (.pointer (some ⟨w.heap.size, 0, none⟩))) (w.alloc (.cells z.cells E)) := by
          simp [execOp, ho, Instr.alloc, zeroValue, typeInfo, hf, hz, newVar, newRow]
        unfold Oper.wp
        rw [hrun]
        refine hnext _ _ F _ ⟨x, hR', ?_, ?_⟩
        · simp [apply, updR_same]
        · rw [updI_same]; rfl
      · cases h
    · cases h
  · cases h

def vBox (E : TypeId) (x : Operand) (key : Nat) (k : K Γ R) : Option R :=
  match fixNil (tyAt ti E) (ev x) with
  | .v y => if isNever (s key) ∧ y.cvs.all (CV.stor s) = true then k (AV.one (.ptr key 0)) (key :: y.cvs.flatMap storKeys) [(key, .live (.var E y.cvs))] else none
  | _ => none

theorem stor_all_congr {s s2 : Nat → RStat Γ} : ∀ {l : List (CV Γ)}, (∀ k ∈ l.flatMap storKeys, s2 k = s k) → l.all (CV.stor s2) = l.all (CV.stor s)
  | [], _ => rfl
  | c :: l, h => by
    rw [List.flatMap_cons] at h
    rw [List.all_cons, List.all_cons, CV.stor_congr s (fun k hk => h k (List.mem_append_left _ hk)), stor_all_congr (fun k hk => h k (List.mem_append_right _ hk))]

/-- A value whose cells can be stored. -/
theorem stor_cells {w0 : Base} {F : Nat → Prop} {ρ : Nat → RI} {s : Nat → RStat Γ} {w : World} (hR : RelR w0 F ρ s w) {y : V1 Γ} {v : Value} (hs : y.cvs.all (CV.stor s) = true) (h : Conc1 F ρ s w y v) :
    ConcL F ρ s w y.cvs v.cells.toList ∧ ∀ u ∈ v.cells.toList, u.oneCell' = true := by
  have hcl : ConcL F ρ s w y.cvs v.cells.toList := by
    refine h.cells ?_
    cases y with
    | one c => exact .inl (stor_one s hR (by simpa [V1.cvs] using hs) h)
    | agg l => exact .inr ⟨l, rfl⟩
  refine ⟨hcl, fun u hu => ?_⟩
  obtain ⟨i, hi, rfl⟩ := List.getElem_of_mem hu
  have hi' : i < y.cvs.length := by rw [← hcl.1]; exact hi
  have := hcl.2 i hi'
  have e1 : y.cvs.getD i .undef = y.cvs[i] := by simp [List.getD_eq_getElem?_getD, hi']
  have e2 : v.cells.toList.getD i undef = v.cells.toList[i] := by rw [List.getD_eq_getElem?_getD, List.getElem?_eq_getElem hi]; rfl
  rw [e1, e2] at this
  exact stor_one s hR (List.all_eq_true.1 hs _ (List.getElem_mem hi')) this

theorem vBox_sound (E : TypeId) (x : Operand) (key : Nat) (ho : o.op = .box E x) : Goal P ev s o (vBox (R := R) ti ev s E x key) := by
  intro k r h
  unfold vBox at h
  split at h
  · rename_i y hy
    split at h
    · rename_i hn
      obtain ⟨hn, hst⟩ := hn
      refine ⟨_, _, _, h, fun s2 hs w0 F ρ ac w hR hop next Q hnext => ?_⟩
      have hk : s2 key = .never := by rw [hs key List.mem_cons_self]; exact isNever_spec hn
      have hx := fixNil_conc (tyAt ti E) (hop x (by simp [ho, Op.operands]))
      rw [hy] at hx
      have hst2 : y.cvs.all (CV.stor s2) = true := by rw [stor_all_congr (fun k hk => hs k (List.mem_cons_of_mem _ hk))]; exact hst
      obtain ⟨hcl, _⟩ := stor_cells hR hst2 hx
      obtain ⟨xx, hR'⟩ := hR.newVar hk E hcl
      have hrun : (execOp ac.eval o).run P w = .ok (.value (.pointer (some ⟨w.heap.size, 0, none⟩))) (w.alloc (.cells (ac.eval x).cells E)) := by
        simp [execOp, ho, Instr.box, newVar, newRow]
      unfold Oper.wp
      rw [hrun]
      refine hnext _ _ F _ ⟨xx, hR', ?_, ?_⟩
      · simp [apply, updR_same]
      · rw [updI_same]; rfl
    · cases h
  · cases h

end ops
end Go.Vs
