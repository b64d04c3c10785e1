/- The evaluator's fourth part: how the resources change, and how they read as data. -/
import Derived.Test.YtfebanpfolgmaaaVsC
namespace Go.Vs
set_option linter.unusedVariables false
open Go.RowKit

variable {Γ : Env} {w0 : Base} {w w' : World} {F : Nat → Prop} {ρ : Nat → RI} {s : Nat → RStat Γ}

/-- A block that no other resource owns. -/
def Free (w0 : Base) (F : Nat → Prop) (ρ : Nat → RI) (s : Nat → RStat Γ) (key : Nat) (w' : World) (b : Nat) : Prop :=
  ¬ F b ∧ w0.mine b ∧ b < w'.heap.size ∧ ∀ k' r', k' ≠ key → s k' = .live r' → b ∉ (ρ k').bl

theorem RelR.base (hR : RelR w0 F ρ s w) : w0.heap.size ≤ w.heap.size := hR.below.size

theorem RelR.free_new (hR : RelR w0 F ρ s w) {key b : Nat} (h : w.heap.size ≤ b) (h' : b < w'.heap.size) : Free w0 F ρ s key w' b :=
  ⟨fun hF => by have := hR.fin b hF; omega, .inr (Nat.le_trans hR.base h), h', fun k' r' _ hk hb => by have := (hR.own k' r' b hk hb).2.2; omega⟩

theorem RelR.free_own (hR : RelR w0 F ρ s w) {key b : Nat} {r : Res Γ} (hk : s key = .live r) (hb : b ∈ (ρ key).bl) (hs : w.heap.size ≤ w'.heap.size) : Free w0 F ρ s key w' b := by
  obtain ⟨h1, h2, h3⟩ := hR.own key r b hk hb
  exact ⟨h1, h2, by omega, fun k' r' hne hk' => hR.disj key k' r r' b (Ne.symm hne) hk hk' hb⟩

def updI (ρ : Nat → RI) (key : Nat) (ri : RI) : Nat → RI := fun i => if i = key then ri else ρ i

theorem updI_same (ρ : Nat → RI) (key : Nat) (ri : RI) : updI ρ key ri key = ri := by simp [updI]
theorem updI_other {ρ : Nat → RI} {key k : Nat} {ri : RI} (h : k ≠ key) : updI ρ key ri k = ρ k := by simp [updI, h]
theorem updR_same (s : Nat → RStat Γ) (key : Nat) (x : RStat Γ) : updR s key x key = x := by simp [updR]
theorem updR_other {s : Nat → RStat Γ} {key k : Nat} {x : RStat Γ} (h : k ≠ key) : updR s key x k = s k := by simp [updR, h]

/-- A resource comes about, or changes. -/
theorem RelR.set (hR : RelR w0 F ρ s w) (key : Nat) (ri : RI) (r : Res Γ)
    (hst : s key = .never ∨ ∃ r0, s key = .live r0 ∧ ri.blk = (ρ key).blk ∧ ri.val = (ρ key).val ∧ Goes r0 r (ρ key) ri)
    (hsz : w.heap.size ≤ w'.heap.size) (hsame : w'.os = w.os ∧ w'.tape = w.tape ∧ w'.output = w.output)
    (hoth : ∀ b, b < w.heap.size → b ∉ ri.bl → w'.heap[b]? = w.heap[b]?)
    (hbl : ∀ b ∈ ri.bl, Free w0 F ρ s key w' b)
    (hok : Ext F ρ s w F (updI ρ key ri) (updR s key (.live r)) w' → ResOk F (updI ρ key ri) (updR s key (.live r)) w' key r) :
    Ext F ρ s w F (updI ρ key ri) (updR s key (.live r)) w' ∧ RelR w0 F (updI ρ key ri) (updR s key (.live r)) w' := by
  have x : Ext F ρ s w F (updI ρ key ri) (updR s key (.live r)) w' := by
    refine ⟨⟨hsz, fun b hF => hoth b (hR.fin b hF) (fun hb => (hbl b hb).1 hF)⟩, fun _ h => h, fun k hk => ?_⟩
    by_cases e : k = key
    · subst e
      rcases hst with h | ⟨r0, h, hb1, hb2, hg⟩
      · exact absurd h hk
      · refine ⟨by simp [updR_same], by rw [updI_same, hb1], by rw [updI_same, hb2], fun r' hr' => ?_⟩
        rw [updR_same] at hr'
        cases hr'
        exact ⟨r0, h, by rw [updI_same]; exact hg⟩
    · refine ⟨by rw [updR_other e]; exact hk, by rw [updI_other e], by rw [updI_other e], fun r' hr' => ?_⟩
      rw [updR_other e] at hr'
      exact ⟨r', hr', by rw [updI_other e]; exact Goes.refl _ _⟩
  refine ⟨x, ⟨fun k r' hr' => ?_, fun k r' b hr' hb => ?_, fun k k' r1 r2 b hne h1 h2 hb => ?_, fun b hb => Nat.lt_of_lt_of_le (hR.fin b hb) hsz, ⟨hsame.1.trans hR.below.os, hsame.2.1.trans hR.below.tape, hsame.2.2.trans hR.below.output, Nat.le_trans hR.below.size hsz, fun b hb hM => (hoth b (Nat.lt_of_lt_of_le hb hR.below.size) (fun hm => by rcases (hbl b hm).2.1 with h | h; exact hM h; omega)).trans (hR.below.block b hb hM)⟩, hR.grow⟩⟩
  · by_cases e : k = key
    · subst e
      rw [updR_same] at hr'
      cases hr'
      exact hok x
    · rw [updR_other e] at hr'
      refine (hR.res k r' hr').keep x (updI_other e) fun b hb => hoth b (hR.own k r' b hr' hb).2.2 fun hb' => (hbl b hb').2.2.2 k r' e hr' hb
  · by_cases e : k = key
    · subst e
      rw [updI_same] at hb
      exact ⟨(hbl b hb).1, (hbl b hb).2.1, (hbl b hb).2.2.1⟩
    · rw [updR_other e] at hr'
      rw [updI_other e] at hb
      obtain ⟨g1, g2, g3⟩ := hR.own k r' b hr' hb
      exact ⟨g1, g2, by omega⟩
  · by_cases e : k = key
    · subst e
      rw [updI_same] at hb
      rw [updI_other (Ne.symm hne)]
      rw [updR_other (Ne.symm hne)] at h2
      exact (hbl b hb).2.2.2 k' r2 (Ne.symm hne) h2
    · rw [updI_other e] at hb
      rw [updR_other e] at h1
      by_cases e' : k' = key
      · subst e'
        rw [updI_same]
        exact fun hb' => (hbl b hb').2.2.2 k r1 e h1 hb
      · rw [updI_other e']
        rw [updR_other e'] at h2
        exact hR.disj k k' r1 r2 b hne h1 h2 hb

/-- A resource is given up; its blocks may join those that are never written again. -/
theorem RelR.drop (hR : RelR w0 F ρ s w) {key : Nat} {r : Res Γ} (hk : s key = .live r) (fz : Bool) :
    Ext F ρ s w (fun b => F b ∨ fz = true ∧ b ∈ (ρ key).bl) ρ (updR s key .dead) w ∧ RelR w0 (fun b => F b ∨ fz = true ∧ b ∈ (ρ key).bl) ρ (updR s key .dead) w := by
  have x : Ext F ρ s w (fun b => F b ∨ fz = true ∧ b ∈ (ρ key).bl) ρ (updR s key .dead) w := by
    refine ⟨Keeps.refl _ _, fun b h => .inl h, fun k hk' => ?_⟩
    by_cases e : k = key
    · subst e
      exact ⟨by simp [updR_same], rfl, rfl, fun r' h => by rw [updR_same] at h; cases h⟩
    · exact ⟨by rw [updR_other e]; exact hk', rfl, rfl, fun r' h => by rw [updR_other e] at h; exact ⟨r', h, Goes.refl _ _⟩⟩
  have hlive : ∀ {k r'}, updR s key .dead k = .live r' → k ≠ key ∧ s k = .live r' := by
    intro k r' h
    by_cases e : k = key
    · subst e; rw [updR_same] at h; cases h
    · rw [updR_other e] at h; exact ⟨e, h⟩
  refine ⟨x, ⟨fun k r' hr' => (hR.res k r' (hlive hr').2).keep x rfl (fun _ _ => rfl), fun k r' b hr' hb => ?_, fun k k' r1 r2 b hne h1 h2 hb => hR.disj k k' r1 r2 b hne (hlive h1).2 (hlive h2).2 hb, fun b hb => ?_, hR.below, fun b hb => ?_⟩⟩
  · obtain ⟨g1, g2, g3⟩ := hR.own k r' b (hlive hr').2 hb
    refine ⟨fun h => ?_, g2, g3⟩
    rcases h with h | ⟨_, h⟩
    · exact g1 h
    · exact hR.disj k key r' r b (hlive hr').1 (hlive hr').2 hk hb h
  · rcases hb with h | ⟨_, h⟩
    · exact hR.fin b h
    · exact (hR.own key r b hk h).2.2
  · rcases hb with h | ⟨_, h⟩
    · exact hR.grow b h
    · exact .inr (hR.own key r b hk h).2.1

/-! ### Reading what the call owns -/

theorem getD_flatMap {α β : Type} (f : α → List β) (sz : Nat) (dβ : β) : ∀ (l : List α) (i j : Nat) (dα : α), (∀ x ∈ l, (f x).length = sz) → i < l.length → j < sz →
    (l.flatMap f).getD (i * sz + j) dβ = (f (l.getD i dα)).getD j dβ
  | [], i, j, dα, _, hi, _ => by simp at hi
  | x :: l, 0, j, dα, h, _, hj => by
    have hx := h x List.mem_cons_self
    simp only [List.flatMap_cons, Nat.zero_mul, Nat.zero_add, List.getD_eq_getElem?_getD, List.getElem?_append, hx, hj, if_true, List.getElem?_cons_zero, Option.getD_some]
  | x :: l, i + 1, j, dα, h, hi, hj => by
    have hx := h x List.mem_cons_self
    have ih := getD_flatMap f sz dβ l i j dα (fun y hy => h y (List.mem_cons_of_mem _ hy)) (by simpa using hi) hj
    simp only [List.getD_eq_getElem?_getD] at ih ⊢
    have e : ¬ ((i + 1) * sz + j < sz) := by rw [Nat.add_mul]; omega
    simp only [List.flatMap_cons, List.getElem?_append, hx, e, if_false, List.getElem?_cons_succ]
    rw [show (i + 1) * sz + j - sz = i * sz + j by rw [Nat.add_mul]; omega]
    exact ih

theorem length_flatMap_const {α β : Type} (f : α → List β) (sz : Nat) : ∀ (l : List α), (∀ x ∈ l, (f x).length = sz) → (l.flatMap f).length = l.length * sz
  | [], _ => by simp
  | x :: l, h => by
    rw [List.flatMap_cons, List.length_append, h x List.mem_cons_self, length_flatMap_const f sz l (fun y hy => h y (List.mem_cons_of_mem _ hy)), List.length_cons, Nat.add_mul]
    omega

theorem set_flatMap {α β : Type} (f : α → List β) (sz : Nat) : ∀ (l : List α) (i : Nat) (y : α), (∀ x ∈ l, (f x).length = sz) → i < l.length →
    (l.set i y).flatMap f = (l.flatMap f).take (i * sz) ++ f y ++ (l.flatMap f).drop (i * sz + sz)
  | [], i, y, _, hi => by simp at hi
  | x :: l, 0, y, h, _ => by
    have hx := h x List.mem_cons_self
    simp only [List.set_cons_zero, List.flatMap_cons, Nat.zero_mul, List.take_zero, List.nil_append, Nat.zero_add]
    rw [← hx, List.drop_left]
  | x :: l, i + 1, y, h, hi => by
    have hx := h x List.mem_cons_self
    have ih := set_flatMap f sz l i y (fun z hz => h z (List.mem_cons_of_mem _ hz)) (by simpa using hi)
    simp only [List.set_cons_succ, List.flatMap_cons, ih]
    rw [show (i + 1) * sz = (f x).length + i * sz by rw [hx, Nat.add_mul]; omega, List.take_length_add_append, show (f x).length + i * sz + sz = (f x).length + (i * sz + sz) by omega, List.drop_length_add_append]
    simp only [List.append_assoc]

theorem mem_encL_size (hΓ : Γ.Ok) (t : Ty) (l : List (Den Γ t)) : ∀ x ∈ l, (encL t x).length = t.size Γ := fun x _ => encL_size hΓ t x

theorem add_add (a : Addr) (m n : Nat) : (a.add m).add n = a.add (m + n) := by
  unfold Addr.add
  by_cases hm : m = 0
  · subst hm; simp
  · by_cases hn : n = 0
    · subst hn; simp [hm]
    · simp [hm, hn, Nat.add_assoc]

theorem add_zero_lit (g o j : Nat) : (⟨g, o, none⟩ : Addr).add j = ⟨g, o + j, none⟩ := by unfold Addr.add; split <;> simp_all

theorem add_block (a : Addr) (n : Nat) : (a.add n).block = a.block := by unfold Addr.add; split <;> rfl

/-- A cell of a row that is owned. -/
theorem ownsRow_cell {base : Nat} {e : TypeId} {size n g : Nat} {v : Value} {xs : List Value} (h : w.ownsRow base e size v n xs) (hg : v.ownBlock = some g) {j : Nat} (hj : j < xs.length) : w.cell? ⟨g, j, none⟩ = some (xs.getD j undef) := by
  obtain ⟨h1, h2⟩ := h
  rcases h2 with ⟨rfl, _⟩ | ⟨g', cap, cur, rfl, _, hh, hn, _, hcs, ht⟩
  · cases hg
  · cases hg
    subst ht
    have hj' : j < cur.size := by simp at hj; omega
    simp only [World.cell?, hh]
    have hj2 : j < n * size := by simp at hj; omega
    simp [List.getD_eq_getElem?_getD, hj2, hj']

theorem ownsRow_nilOrBlock {base : Nat} {e : TypeId} {size n : Nat} {v : Value} {xs : List Value} (h : w.ownsRow base e size v n xs) :
    (v = .slice none 0 0 ∧ n = 0) ∨ ∃ g cap, v = .slice (some ⟨g, 0, none⟩) n cap ∧ n ≤ cap ∧ cap ≤ maxLen := by
  obtain ⟨h1, h2⟩ := h
  rcases h2 with h | ⟨g', cap, cur, rfl, _, hh, hn, hm, hcs, ht⟩
  · exact .inl h
  · exact .inr ⟨g', cap, rfl, hn, hm⟩

theorem rows_read (hΓ : Γ.Ok) {F : Nat → Prop} {E : TypeId} {t : Ty} {v : Value} {l : List (Den Γ t)} {xs : List Value} (h : w.ownsRow 0 E (t.size Γ) v l.length xs)
    (hr : RepL F w (l.flatMap (encL t)) xs) (hF : ∀ b, v.ownBlock = some b → F b) : RepD F w (.sl (t.size Γ) (l.map (encL t))) v := by
  rcases ownsRow_nilOrBlock h with ⟨rfl, hn⟩ | ⟨g, cap, rfl, hn, hm⟩
  · have : l = [] := List.eq_nil_of_length_eq_zero hn
    subst this
    exact .nil _
  · have hlen := length_flatMap_const (encL t) (t.size Γ) l (mem_encL_size hΓ t l)
    have key : ∀ i j, i < l.length → j < t.size Γ → i * t.size Γ + j < (l.flatMap (encL t)).length := by
      intro i j hi hj
      rw [hlen]
      have : (i + 1) * t.size Γ ≤ l.length * t.size Γ := Nat.mul_le_mul_right _ hi
      rw [Nat.add_mul] at this
      omega
    have := RepD.sl (F := F) (w := w) ⟨g, 0, none⟩ cap (t.size Γ) (l.map (encL t)) (fun i j => xs.getD (i * t.size Γ + j) undef)
      (fun r hr => by obtain ⟨x, hx, rfl⟩ := List.mem_map.1 hr; exact encL_size hΓ t x) (by simpa using hn) hm (fun i j _ _ => hF g rfl)
      (fun i j hi hj => by
        have hi' : i < l.length := by simpa using hi
        rw [add_zero_lit, Nat.zero_add]
        exact ownsRow_cell h rfl (by rw [hr.1]; exact key i j hi' hj))
      (fun i j hi hj => by
        have hi' : i < l.length := by simpa using hi
        have h2 := hr.2 (i * t.size Γ + j) (key i j hi' hj)
        rw [getD_flatMap (encL t) (t.size Γ) (.v undef) l i j (l[i]) (mem_encL_size hΓ t l) hi' hj] at h2
        have e1 : (l.map (encL t)).getD i [] = encL t (l[i]) := by simp [List.getD_eq_getElem?_getD, hi']
        have e2 : l.getD i (l[i]) = l[i] := by simp [List.getD_eq_getElem?_getD, hi']
        rw [e1]
        rw [e2] at h2
        exact h2)
    simpa using this

def U (F : Nat → Prop) (ρ : Nat → RI) (ks : List Nat) (b : Nat) : Prop := F b ∨ ∃ k ∈ ks, b ∈ (ρ k).bl

theorem arr_reads (hΓ : Γ.Ok) {k : Nat} {E : TypeId} {t : Ty} {l : List (Den Γ t)} (h : ResOk F ρ s w k (.arr E t l)) : RepD (U F ρ [k]) w (Cell.enc ⟨.sl t, l⟩) (ρ k).val := by
  obtain ⟨xs, h1, h2, h3⟩ := h
  exact rows_read hΓ h1 (h2.mono (Keeps.refl _ _) fun b hb => .inl hb) fun b hb => .inr ⟨k, List.mem_singleton.2 rfl, h3 b hb⟩

theorem row_reads (hΓ : Γ.Ok) {k : Nat} {E E2 : TypeId} {t : Ty} {l : List (List (Den Γ t))} {ver : Nat} (h : ResOk F ρ s w k (.mat E E2 t l ver)) {i : Nat} (hi : i < l.length) :
    RepD (U F ρ [k]) w (Cell.enc (Γ := Γ) ⟨.sl t, l.getD i []⟩) ((ρ k).rows.getD i undef) := by
  obtain ⟨h1, h2, h3, h4, h5⟩ := h
  obtain ⟨ys, g1, g2⟩ := h2 i hi
  exact rows_read hΓ g1 (g2.mono (Keeps.refl _ _) fun b hb => .inl hb) fun b hb => .inr ⟨k, List.mem_singleton.2 rfl, (h4 i b hi hb).1⟩

theorem mat_reads (hΓ : Γ.Ok) {k : Nat} {E E2 : TypeId} {t : Ty} {l : List (List (Den Γ t))} {ver : Nat} (h : ResOk F ρ s w k (.mat E E2 t l ver)) : RepD (U F ρ [k]) w (Cell.enc (Γ := Γ) ⟨.sl (.sl t), l⟩) (ρ k).val := by
  have hrow := fun i hi => row_reads hΓ h (i := i) hi
  obtain ⟨h1, h2, h3, h4, h5⟩ := h
  refine rows_read hΓ (t := .sl t) h1 ?_ fun b hb => .inr ⟨k, List.mem_singleton.2 rfl, h3 b hb⟩
  have hlen : (l.flatMap (encL (Γ := Γ) (.sl t))).length = l.length := (length_flatMap_const (encL (Γ := Γ) (.sl t)) 1 l (fun x _ => rfl)).trans (Nat.mul_one _)
  refine ⟨by rw [hlen]; exact h1.1.trans (Nat.mul_one _), fun i hi => ?_⟩
  rw [hlen] at hi
  have e := getD_flatMap (encL (Γ := Γ) (.sl t)) 1 (.v undef) l i 0 [] (fun x _ => rfl) hi Nat.one_pos
  rw [Nat.mul_one, Nat.add_zero] at e
  rw [e]
  exact hrow i hi

/-! ### Values as data -/

/-- An abstract cell as data; the keys of what it reads. -/
def cvCell (s : Nat → RStat Γ) : CV Γ → Option (Cell Γ × List Nat)
  | .leaf c => some (c, [])
  | .nilT t => some (⟨.sl t, []⟩, [])
  | .own k => match s k with
    | .live (.arr _ t l) => some (⟨.sl t, l⟩, [k])
    | .live (.mat _ _ t l _) => some (⟨.sl (.sl t), l⟩, [k])
    | _ => none
  | .row k ver i => match s k with
    | .live (.mat _ _ t l n) => if n = ver then some (⟨.sl t, l.getD i.toNat []⟩, [k]) else none
    | _ => none
  | _ => none

theorem cvCell_spec (hΓ : Γ.Ok) (hR : RelR w0 F ρ s w) {c : CV Γ} {d : Cell Γ} {ks : List Nat} {v : Value} (h : cvCell s c = some (d, ks)) (hc : ConcC F ρ s w c v) : RepD (U F ρ ks) w d.enc v := by
  unfold cvCell at h
  split at h
  · cases h
    exact RepD.mono hc (Keeps.refl _ _) fun b hb => .inl hb
  · cases h
    rw [show v = .slice none 0 0 from hc]
    exact RepD.nil _
  · rename_i k
    obtain ⟨_, rfl⟩ := hc
    split at h
    · rename_i E t l e
      cases h
      exact arr_reads hΓ (hR.res k _ e)
    · rename_i E E2 t l n e
      cases h
      exact mat_reads hΓ (hR.res k _ e)
    · cases h
  · rename_i k ver i
    split at h
    · rename_i E E2 t l n e
      split at h
      · rename_i en
        cases h
        obtain ⟨_, h1⟩ := hc
        obtain ⟨h2, h3⟩ := h1 E E2 t l n e
        obtain ⟨h4, h5, rfl⟩ := h3 en
        exact row_reads hΓ (hR.res k _ e) h5
      · cases h
    · cases h
  · cases h

/-- The keys at which cvCell looks. -/
def cvKeys : CV Γ → List Nat
  | .own k => [k]
  | .row k _ _ => [k]
  | .sub k _ _ => [k]
  | _ => []

theorem cvCell_congr {s2 : Nat → RStat Γ} {c : CV Γ} (h : ∀ k ∈ cvKeys c, s2 k = s k) : cvCell s2 c = cvCell s c := by
  cases c <;> simp only [cvCell, cvKeys] at * <;> first | rfl | rw [h _ (List.mem_singleton.2 rfl)]

def cvCells (s : Nat → RStat Γ) : List (CV Γ) → Option (List (Cell Γ) × List Nat)
  | [] => some ([], [])
  | c :: r => match cvCell s c, cvCells s r with
    | some (d, ks), some (ds, kss) => some (d :: ds, ks ++ kss)
    | _, _ => none

theorem RepL.cons {F : Nat → Prop} {d : D} {ds : List D} {v : Value} {vs : List Value} (h : RepD F w d v) (k : RepL F w ds vs) : RepL F w (d :: ds) (v :: vs) :=
  (RepL.append (ds := [d]) (vs := [v]) ⟨rfl, fun i hi => by have : i = 0 := by simp at hi; omega
                                                            subst this; exact h⟩ k)

theorem RepL.head {F : Nat → Prop} {d : D} {v : Value} (h : RepL F w [d] [v]) : RepD F w d v := h.2 0 Nat.one_pos

theorem RepD.monoU {d : D} {v : Value} {F F' : Nat → Prop} (h : RepD F w d v) (hF : ∀ b, F b → F' b) : RepD F' w d v := h.mono (Keeps.refl _ _) hF

theorem cvCells_spec (hΓ : Γ.Ok) (hR : RelR w0 F ρ s w) : ∀ {cs : List (CV Γ)} {ds : List (Cell Γ)} {ks : List Nat} {vs : List Value}, cvCells s cs = some (ds, ks) → ConcL F ρ s w cs vs → RepL (U F ρ ks) w (ds.map Cell.enc) vs
  | [], ds, ks, vs, h, hc => by
    cases h
    have : vs = [] := List.eq_nil_of_length_eq_zero hc.1
    subst this
    exact RepL.nil _ _
  | c :: r, ds, ks, vs, h, hc => by
    unfold cvCells at h
    split at h
    · rename_i d k1 ds' k2 h1 h2
      cases h
      cases vs with
      | nil => have := hc.1; simp at this
      | cons v vs =>
        have a := cvCell_spec hΓ hR h1 (by have := hc.2 0 (by simp); simpa using this)
        have b := cvCells_spec hΓ hR h2 (vs := vs) ⟨by have := hc.1; simpa using this, fun i hi => by have := hc.2 (i + 1) (by simpa using hi); simpa using this⟩
        refine RepL.cons (a.monoU ?_) (b.mono (Keeps.refl _ _) ?_)
        · rintro x (hx | ⟨k, hk, hx⟩)
          · exact .inl hx
          · exact .inr ⟨k, List.mem_append_left _ hk, hx⟩
        · rintro x (hx | ⟨k, hk, hx⟩)
          · exact .inl hx
          · exact .inr ⟨k, List.mem_append_right _ hk, hx⟩
    · cases h

theorem cvCells_congr {s2 : Nat → RStat Γ} : ∀ {cs : List (CV Γ)}, (∀ k ∈ cs.flatMap cvKeys, s2 k = s k) → cvCells s2 cs = cvCells s cs
  | [], _ => rfl
  | c :: r, h => by
    rw [List.flatMap_cons] at h
    unfold cvCells
    rw [cvCell_congr (fun k hk => h k (List.mem_append_left _ hk)), cvCells_congr (fun k hk => h k (List.mem_append_right _ hk))]

def V1.cvs : V1 Γ → List (CV Γ)
  | .one c => [c]
  | .agg l => l

/-- A value's cells. -/
theorem Conc1.cells {x : V1 Γ} {v : Value} (h : Conc1 F ρ s w x v) (h1 : v.oneCell' = true ∨ ∃ l, x = .agg l) : ConcL F ρ s w x.cvs v.cells.toList := by
  cases x with
  | one c =>
    rcases h1 with h1 | ⟨l, e⟩
    · have e : v.cells = #[v] := by cases v <;> simp [Value.oneCell'] at h1 <;> rfl
      rw [e]
      exact ⟨rfl, fun i hi => by
        have : i = 0 := by simp [V1.cvs] at hi; omega
        subst this; exact h⟩
    · cases e
  | agg l => obtain ⟨vs, rfl, h⟩ := h; exact h

theorem rep_flat {F : Nat → Prop} {c : Cell Γ} {v : Value} (hf : c.1.flat = true) (h : RepD F w c.enc v) : v.oneCell' = true := by
  obtain ⟨t, x⟩ := c
  cases t with
  | rc n => simp [Ty.flat] at hf
  | int k => rw [RepD.v_inv h]; rfl
  | bool => rw [RepD.v_inv h]; rfl
  | str => rw [RepD.v_inv h]; rfl
  | sl t =>
    rcases RepD.sl_inv h with ⟨rfl, _⟩ | ⟨a, cap, u, rfl, _⟩ <;> rfl

end Go.Vs
