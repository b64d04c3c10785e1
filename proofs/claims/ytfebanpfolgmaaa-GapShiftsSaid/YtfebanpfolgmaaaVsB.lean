/- The evaluator's second part: abstract values, resources of the call's own, and what it means that a state of the machine is as they say. -/
import Derived.Test.YtfebanpfolgmaaaVsA
namespace Go.Vs
set_option linter.unusedVariables false
open Go.RowKit

/-- What a closure has captured: a variable of the call's own; one that is there to be read. -/
inductive Cap (Γ : Env) where
  | ptr (k off : Nat)
  | fz (t : Ty) (x : Den Γ t)

/-- Abstract cells. -/
inductive CV (Γ : Env) where
  | undef
  | leaf (c : Cell Γ)
  | nilS
  | nilT (t : Ty)
  | ptr (k off : Nat)
  | own (k : Nat)
  | row (k ver : Nat) (i : Int)
  | eaD (t : Ty) (l : List (Den Γ t)) (i : Int) (off : Nat)
  | eaO (k : Nat) (i : Int) (off : Nat)
  | eaR (k ver : Nat) (i j : Int) (off : Nat)
  | clo (f : FuncId) (cap : List (Cap Γ))
  | nilB (neg e : Bool)
  | sub (k : Nat) (lo hi : Int)

inductive V1 (Γ : Env) where
  | one (c : CV Γ)
  | agg (l : List (CV Γ))

inductive AV (Γ : Env) where
  | v (x : V1 Γ)
  | tup (l : List (V1 Γ))

/-- What the call owns: a variable's block; a slice's array; a slice of slices, each with its own array. -/
inductive Res (Γ : Env) where
  | var (E : TypeId) (cells : List (CV Γ))
  | arr (E : TypeId) (t : Ty) (l : List (Den Γ t))
  | mat (E E2 : TypeId) (t : Ty) (l : List (List (Den Γ t))) (ver : Nat)
  | mix (E E2 : TypeId) (t : Ty) (l : List (Bool × List (Den Γ t)))

inductive RStat (Γ : Env) where
  | never
  | dead
  | live (r : Res Γ)

structure RI where
  blk : Nat
  val : Value
  rows : List Value
  bl : List Nat

variable {Γ : Env}

def Res.len : Res Γ → Nat
  | .var _ cells => cells.length
  | .arr _ _ l => l.length
  | .mat _ _ _ l _ => l.length
  | .mix _ _ _ l => l.length

def Res.esz : Res Γ → Nat
  | .var _ _ => 1
  | .arr _ t _ => t.size Γ
  | .mat _ _ _ _ _ => 1
  | .mix _ _ _ _ => 1

section
variable (F : Nat → Prop) (ρ : Nat → RI) (s : Nat → RStat Γ) (w : World)

def ConcCap : Cap Γ → Value → Prop
  | .ptr k off, v => s k ≠ .never ∧ v = .pointer (some ⟨(ρ k).blk, off, none⟩)
  | .fz t x, v => ∃ (a : Addr) (u : Nat → Value), v = .pointer (some a) ∧ ∀ j, j < t.size Γ → F a.block ∧ w.cell? (a.add j) = some (u j) ∧ RepD F w ((encL t x).getD j (.v Go.undef)) (u j)

def ConcCaps : List (Cap Γ) → List Value → Prop
  | [], vs => vs = []
  | c :: l, vs => ∃ v r, vs = v :: r ∧ ConcCap F ρ s w c v ∧ ConcCaps l r

def ConcC : CV Γ → Value → Prop
  | .undef, _ => True
  | .leaf c, v => RepD F w c.enc v
  | .nilS, v => v = .slice none 0 0
  | .nilT _, v => v = .slice none 0 0
  | .ptr k off, v => s k ≠ .never ∧ v = .pointer (some ⟨(ρ k).blk, off, none⟩)
  | .own k, v => s k ≠ .never ∧ v = (ρ k).val
  | .row k ver i, v => s k ≠ .never ∧ ∀ E E2 t l n, s k = .live (.mat E E2 t l n) → ver ≤ n ∧ (n = ver → 0 ≤ i ∧ i.toNat < l.length ∧ v = (ρ k).rows.getD i.toNat Go.undef)
  | .eaD t l i off, v => 0 ≤ i ∧ i.toNat < l.length ∧ ∃ (a : Addr) (u : Nat → Value), v = .pointer (some (a.add off)) ∧
      ∀ j, j < t.size Γ → F a.block ∧ w.cell? (a.add j) = some (u j) ∧ RepD F w ((encL t (l.getD i.toNat (t.zero Γ))).getD j (.v Go.undef)) (u j)
  | .eaO k i off, v => s k ≠ .never ∧ ∀ r, s k = .live r → 0 ≤ i ∧ i.toNat < r.len ∧ ∃ b, (ρ k).val.ownBlock = some b ∧ v = .pointer (some ⟨b, i.toNat * r.esz + off, none⟩)
  | .eaR k ver i j off, v => s k ≠ .never ∧ ∀ E E2 t l n, s k = .live (.mat E E2 t l n) → ver ≤ n ∧ (n = ver → 0 ≤ i ∧ i.toNat < l.length ∧ 0 ≤ j ∧ j.toNat < (l.getD i.toNat []).length ∧
      ∃ b, ((ρ k).rows.getD i.toNat Go.undef).ownBlock = some b ∧ v = .pointer (some ⟨b, j.toNat * t.size Γ + off, none⟩))
  | .clo f cap, v => ∃ vs : List Value, v = .func (.func f) #[] vs.toArray ∧ ConcCaps F ρ s w cap vs
  | .nilB neg e, v => ∃ b, v = .bool b ∧ (b = !neg → e = true)
  | .sub k lo hi, v => s k ≠ .never ∧ ∀ r, s k = .live r → 0 ≤ lo ∧ lo ≤ hi ∧ hi.toNat ≤ r.len ∧ ∃ b cap, (ρ k).val.ownBlock = some b ∧ v = .slice (some ⟨b, lo.toNat * r.esz, none⟩) (hi.toNat - lo.toNat) cap

def ConcL (l : List (CV Γ)) (vs : List Value) : Prop := vs.length = l.length ∧ ∀ i, i < l.length → ConcC F ρ s w (l.getD i .undef) (vs.getD i Go.undef)

def Conc1 : V1 Γ → Value → Prop
  | .one c, v => ConcC F ρ s w c v
  | .agg l, v => ∃ vs : Array Value, v = .agg vs ∧ ConcL F ρ s w l vs.toList

def ConcA : AV Γ → Value → Prop
  | .v x, v => Conc1 F ρ s w x v
  | .tup l, v => ∃ vs : Array Value, v = .tuple vs ∧ vs.size = l.length ∧ ∀ i, i < l.length → Conc1 F ρ s w (l.getD i (.one .undef)) (vs.toList.getD i Go.undef)

def ResOk (k : Nat) : Res Γ → Prop
  | .var E cells => ∃ arr : Array Value, w.heap[(ρ k).blk]? = some (.cells arr E (0, 0)) ∧ (ρ k).blk ∈ (ρ k).bl ∧ ConcL F ρ s w cells arr.toList
  | .arr E t l => ∃ xs, w.ownsRow 0 E (t.size Γ) (ρ k).val l.length xs ∧ RepL F w (l.flatMap (encL t)) xs ∧ ∀ b, (ρ k).val.ownBlock = some b → b ∈ (ρ k).bl
  | .mat E E2 t l _ => w.ownsRow 0 E 1 (ρ k).val l.length (ρ k).rows ∧
      (∀ i, i < l.length → ∃ ys, w.ownsRow 0 E2 (t.size Γ) ((ρ k).rows.getD i Go.undef) (l.getD i []).length ys ∧ RepL F w ((l.getD i []).flatMap (encL t)) ys) ∧
      (∀ b, (ρ k).val.ownBlock = some b → b ∈ (ρ k).bl) ∧
      (∀ i b, i < l.length → ((ρ k).rows.getD i Go.undef).ownBlock = some b → b ∈ (ρ k).bl ∧ (ρ k).val.ownBlock ≠ some b) ∧
      (∀ i j b, i ≠ j → i < l.length → j < l.length → ((ρ k).rows.getD i Go.undef).ownBlock = some b → ((ρ k).rows.getD j Go.undef).ownBlock ≠ some b)
  | .mix E E2 t l => ∃ rows, w.ownsRow 0 E 1 (ρ k).val l.length rows ∧
      (∀ i, i < l.length → (l.getD i (false, [])).1 = true → ∃ ys, w.ownsRow 0 E2 (t.size Γ) (rows.getD i Go.undef) (l.getD i (false, [])).2.length ys ∧ RepL F w ((l.getD i (false, [])).2.flatMap (encL t)) ys) ∧
      (∀ i, i < l.length → (l.getD i (false, [])).1 = false → RepD F w (.sl (t.size Γ) ((l.getD i (false, [])).2.map (encL t))) (rows.getD i Go.undef)) ∧
      (∀ b, (ρ k).val.ownBlock = some b → b ∈ (ρ k).bl) ∧
      (∀ i b, i < l.length → (l.getD i (false, [])).1 = true → (rows.getD i Go.undef).ownBlock = some b → b ∈ (ρ k).bl ∧ (ρ k).val.ownBlock ≠ some b) ∧
      (∀ i j b, i ≠ j → i < l.length → j < l.length → (l.getD i (false, [])).1 = true → (l.getD j (false, [])).1 = true → (rows.getD i Go.undef).ownBlock = some b → (rows.getD j Go.undef).ownBlock ≠ some b)
end

/-- What an abstract cell says of a resource stays true where it goes on so. -/
def Goes (r r' : Res Γ) (a a' : RI) : Prop :=
  r'.len = r.len ∧ r'.esz = r.esz ∧ ∀ E E2 t l' n', r' = .mat E E2 t l' n' →
    ∃ l n, r = .mat E E2 t l n ∧ n ≤ n' ∧ (n' = n → a'.rows = a.rows ∧ ∀ i : Nat, (l'.getD i []).length = (l.getD i []).length)

theorem Goes.refl (r : Res Γ) (a : RI) : Goes r r a a := ⟨rfl, rfl, fun E E2 t l' n' h => ⟨l', n', h, Nat.le_refl _, fun _ => ⟨rfl, fun _ => rfl⟩⟩⟩

theorem Goes.trans {r r' r'' : Res Γ} {a a' a'' : RI} (h : Goes r r' a a') (k : Goes r' r'' a' a'') : Goes r r'' a a'' := by
  refine ⟨k.1.trans h.1, k.2.1.trans h.2.1, fun E E2 t l'' n'' e => ?_⟩
  obtain ⟨l', n', e', h1, h2⟩ := k.2.2 E E2 t l'' n'' e
  obtain ⟨l, n, e0, h3, h4⟩ := h.2.2 E E2 t l' n' e'
  refine ⟨l, n, e0, Nat.le_trans h3 h1, fun en => ?_⟩
  have en' : n'' = n' := by omega
  have en0 : n' = n := by omega
  obtain ⟨p1, p2⟩ := h2 en'
  obtain ⟨q1, q2⟩ := h4 en0
  exact ⟨p1.trans q1, fun i => (p2 i).trans (q2 i)⟩

structure Ext (F : Nat → Prop) (ρ : Nat → RI) (s : Nat → RStat Γ) (w : World) (F' : Nat → Prop) (ρ' : Nat → RI) (s' : Nat → RStat Γ) (w' : World) : Prop where
  keeps : Keeps F w w'
  sub : ∀ b, F b → F' b
  stat : ∀ k, s k ≠ .never → s' k ≠ .never ∧ (ρ' k).blk = (ρ k).blk ∧ (ρ' k).val = (ρ k).val ∧ ∀ r', s' k = .live r' → ∃ r, s k = .live r ∧ Goes r r' (ρ k) (ρ' k)

section
variable {F F' F'' : Nat → Prop} {ρ ρ' ρ'' : Nat → RI} {s s' s'' : Nat → RStat Γ} {w w' w'' : World}

theorem Ext.refl (F : Nat → Prop) (ρ : Nat → RI) (s : Nat → RStat Γ) (w : World) : Ext F ρ s w F ρ s w :=
  ⟨Keeps.refl _ _, fun _ h => h, fun k hk => ⟨hk, rfl, rfl, fun r' h => ⟨r', h, Goes.refl _ _⟩⟩⟩

theorem Ext.trans (h : Ext F ρ s w F' ρ' s' w') (k : Ext F' ρ' s' w' F'' ρ'' s'' w'') : Ext F ρ s w F'' ρ'' s'' w'' := by
  refine ⟨h.keeps.trans k.keeps h.sub, fun b hb => k.sub b (h.sub b hb), fun i hi => ?_⟩
  obtain ⟨a1, a2, a3, a4⟩ := h.stat i hi
  obtain ⟨b1, b2, b3, b4⟩ := k.stat i a1
  refine ⟨b1, b2.trans a2, b3.trans a3, fun r'' hr => ?_⟩
  obtain ⟨r', e1, g1⟩ := b4 r'' hr
  obtain ⟨r, e0, g0⟩ := a4 r' e1
  exact ⟨r, e0, g0.trans g1⟩

theorem ConcCap.ext (x : Ext F ρ s w F' ρ' s' w') {c : Cap Γ} {v : Value} (h : ConcCap F ρ s w c v) : ConcCap F' ρ' s' w' c v := by
  cases c with
  | ptr k off =>
    obtain ⟨h0, rfl⟩ := h
    obtain ⟨a1, a2, a3, a4⟩ := x.stat k h0
    exact ⟨a1, by rw [a2]⟩
  | fz t y =>
    obtain ⟨a, u, hv, hj⟩ := h
    refine ⟨a, u, hv, fun j hjs => ?_⟩
    obtain ⟨b1, b2, b3⟩ := hj j hjs
    refine ⟨x.sub _ b1, ?_, b3.mono x.keeps x.sub⟩
    rw [World.cell?_of_block (w := w) (x.keeps.block _ (by unfold Addr.add; split <;> exact b1))]
    exact b2

theorem ConcCaps.ext (x : Ext F ρ s w F' ρ' s' w') : ∀ {l : List (Cap Γ)} {vs : List Value}, ConcCaps F ρ s w l vs → ConcCaps F' ρ' s' w' l vs
  | [], vs, h => h
  | c :: l, vs, h => by
    obtain ⟨v, r, rfl, h1, h2⟩ := h
    exact ⟨v, r, rfl, h1.ext x, ConcCaps.ext x h2⟩

theorem ConcC.ext (x : Ext F ρ s w F' ρ' s' w') {c : CV Γ} {v : Value} (h : ConcC F ρ s w c v) : ConcC F' ρ' s' w' c v := by
  cases c with
  | undef => trivial
  | leaf c => exact RepD.mono h x.keeps x.sub
  | nilS => exact h
  | nilT t => exact h
  | nilB neg e => exact h
  | sub k lo hi =>
    obtain ⟨h0, h1⟩ := h
    obtain ⟨a1, a2, a3, a4⟩ := x.stat k h0
    refine ⟨a1, fun r' e => ?_⟩
    obtain ⟨r, e0, g⟩ := a4 _ e
    obtain ⟨b1, b2, b3, b, cap, b4, b5⟩ := h1 r e0
    exact ⟨b1, b2, by rw [g.1]; exact b3, b, cap, by rw [a3]; exact b4, by rw [g.2.1]; exact b5⟩
  | ptr k off =>
    obtain ⟨h0, rfl⟩ := h
    obtain ⟨a1, a2, a3, a4⟩ := x.stat k h0
    exact ⟨a1, by rw [a2]⟩
  | own k =>
    obtain ⟨h0, rfl⟩ := h
    obtain ⟨a1, a2, a3, a4⟩ := x.stat k h0
    exact ⟨a1, a3.symm⟩
  | row k ver i =>
    obtain ⟨h0, h1⟩ := h
    obtain ⟨a1, a2, a3, a4⟩ := x.stat k h0
    refine ⟨a1, fun E E2 t l' n' e => ?_⟩
    obtain ⟨r, e0, g⟩ := a4 _ e
    obtain ⟨l, n, rfl, g1, g2⟩ := g.2.2 E E2 t l' n' rfl
    obtain ⟨b1, b2⟩ := h1 E E2 t l n e0
    refine ⟨by omega, fun en => ?_⟩
    obtain ⟨c1, c2, c3⟩ := b2 (by omega)
    obtain ⟨d1, d2⟩ := g2 (by omega)
    have hl : l'.length = l.length := g.1
    exact ⟨c1, by omega, by rw [d1]; exact c3⟩
  | eaD t l i off =>
    obtain ⟨h0, h1, a, u, hv, hj⟩ := h
    refine ⟨h0, h1, a, u, hv, fun j hjs => ?_⟩
    obtain ⟨b1, b2, b3⟩ := hj j hjs
    refine ⟨x.sub _ b1, ?_, b3.mono x.keeps x.sub⟩
    rw [World.cell?_of_block (w := w) (x.keeps.block _ (by unfold Addr.add; split <;> exact b1))]
    exact b2
  | eaO k i off =>
    obtain ⟨h0, h1⟩ := h
    obtain ⟨a1, a2, a3, a4⟩ := x.stat k h0
    refine ⟨a1, fun r' e => ?_⟩
    obtain ⟨r, e0, g⟩ := a4 _ e
    obtain ⟨b1, b2, b, b3, b4⟩ := h1 r e0
    exact ⟨b1, by rw [g.1]; exact b2, b, by rw [a3]; exact b3, by rw [g.2.1]; exact b4⟩
  | eaR k ver i j off =>
    obtain ⟨h0, h1⟩ := h
    obtain ⟨a1, a2, a3, a4⟩ := x.stat k h0
    refine ⟨a1, fun E E2 t l' n' e => ?_⟩
    obtain ⟨r, e0, g⟩ := a4 _ e
    obtain ⟨l, n, rfl, g1, g2⟩ := g.2.2 E E2 t l' n' rfl
    obtain ⟨b1, b2⟩ := h1 E E2 t l n e0
    refine ⟨by omega, fun en => ?_⟩
    obtain ⟨c1, c2, c3, c4, b, c5, c6⟩ := b2 (by omega)
    obtain ⟨d1, d2⟩ := g2 (by omega)
    have hl : l'.length = l.length := g.1
    exact ⟨c1, by omega, c3, by rw [d2]; exact c4, b, by rw [d1]; exact c5, c6⟩
  | clo f cap =>
    obtain ⟨vs, rfl, h2⟩ := h
    exact ⟨vs, rfl, h2.ext x⟩

theorem ConcL.ext (x : Ext F ρ s w F' ρ' s' w') {l : List (CV Γ)} {vs : List Value} (h : ConcL F ρ s w l vs) : ConcL F' ρ' s' w' l vs :=
  ⟨h.1, fun i hi => (h.2 i hi).ext x⟩

theorem Conc1.ext (x : Ext F ρ s w F' ρ' s' w') {c : V1 Γ} {v : Value} (h : Conc1 F ρ s w c v) : Conc1 F' ρ' s' w' c v := by
  cases c with
  | one c => exact ConcC.ext x h
  | agg l => obtain ⟨vs, rfl, h⟩ := h; exact ⟨vs, rfl, ConcL.ext x h⟩

theorem ConcA.ext (x : Ext F ρ s w F' ρ' s' w') {c : AV Γ} {v : Value} (h : ConcA F ρ s w c v) : ConcA F' ρ' s' w' c v := by
  cases c with
  | v c => exact Conc1.ext x h
  | tup l => obtain ⟨vs, rfl, h0, h⟩ := h; exact ⟨vs, rfl, h0, fun i hi => (h i hi).ext x⟩

theorem ownsRow_move {base : Nat} {e : TypeId} {size n : Nat} {v : Value} {xs : List Value} (h : w.ownsRow base e size v n xs) (hm : ∀ b, v.ownBlock = some b → w'.heap[b]? = w.heap[b]?) : w'.ownsRow base e size v n xs := by
  obtain ⟨h1, h2⟩ := h
  refine ⟨h1, h2.imp id ?_⟩
  rintro ⟨g, cap, cur, rfl, hb, hg, rest⟩
  exact ⟨g, cap, cur, rfl, hb, by rw [hm g rfl]; exact hg, rest⟩

theorem ResOk.keep (x : Ext F ρ s w F' ρ' s' w') {k : Nat} {r : Res Γ} (h : ResOk F ρ s w k r) (he : ρ' k = ρ k) (hb : ∀ b ∈ (ρ k).bl, w'.heap[b]? = w.heap[b]?) : ResOk F' ρ' s' w' k r := by
  cases r with
  | var E cells =>
    obtain ⟨arr, h1, h2, h3⟩ := h
    refine ⟨arr, by rw [he, hb _ h2]; exact h1, by rw [he]; exact h2, h3.ext x⟩
  | arr E t l =>
    obtain ⟨xs, h1, h2, h3⟩ := h
    exact ⟨xs, by rw [he]; exact ownsRow_move h1 (fun b hb' => hb b (h3 b hb')), h2.mono x.keeps x.sub, by rw [he]; exact h3⟩
  | mat E E2 t l ver =>
    obtain ⟨h1, h2, h3, h4, h5⟩ := h
    refine ⟨?_, ?_, ?_, ?_, ?_⟩
    · rw [he]; exact ownsRow_move h1 (fun b hb' => hb b (h3 b hb'))
    · intro i hi
      obtain ⟨ys, g1, g2⟩ := h2 i hi
      exact ⟨ys, by rw [he]; exact ownsRow_move g1 (fun b hb' => hb b (h4 i b hi hb').1), g2.mono x.keeps x.sub⟩
    · rw [he]; exact h3
    · rw [he]; exact h4
    · rw [he]; exact h5
  | mix E E2 t l =>
    obtain ⟨rows, h1, h2, h2', h3, h4, h5⟩ := h
    refine ⟨rows, ?_, ?_, fun i hi hf => (h2' i hi hf).mono x.keeps x.sub, ?_, ?_, h5⟩
    · rw [he]; exact ownsRow_move h1 (fun b hb' => hb b (h3 b hb'))
    · intro i hi hf
      obtain ⟨ys, g1, g2⟩ := h2 i hi hf
      exact ⟨ys, ownsRow_move g1 (fun b hb' => hb b (h4 i b hi hf hb').1), g2.mono x.keeps x.sub⟩
    · rw [he]; exact h3
    · rw [he]; exact h4
end

/-- Where a call begins: the world; what is there to be read for good; what has been lent to be written. -/
structure Base extends World where
  F0 : Nat → Prop
  M : Nat → Prop
  io : Bool
  blk : Nat

/-- The name of the variable that is lent. -/
def KIO : Nat := 5

def Base.mine (w0 : Base) (b : Nat) : Prop := w0.M b ∨ w0.heap.size ≤ b

/-- But for what was lent, nothing that was there has turned. -/
structure Base.Below (w0 : Base) (w : World) : Prop where
  os : w.os = w0.os
  tape : w.tape = w0.tape
  output : w.output = w0.output
  size : w0.heap.size ≤ w.heap.size
  block : ∀ b, b < w0.heap.size → ¬ w0.M b → w.heap[b]? = w0.heap[b]?

/-- The memory is as the resources say. w0: where the call began. -/
structure RelR (w0 : Base) (F : Nat → Prop) (ρ : Nat → RI) (s : Nat → RStat Γ) (w : World) : Prop where
  res : ∀ k r, s k = .live r → ResOk F ρ s w k r
  own : ∀ k r b, s k = .live r → b ∈ (ρ k).bl → ¬ F b ∧ w0.mine b ∧ b < w.heap.size
  disj : ∀ k k' r r' b, k ≠ k' → s k = .live r → s k' = .live r' → b ∈ (ρ k).bl → b ∉ (ρ k').bl
  fin : ∀ b, F b → b < w.heap.size
  below : w0.Below w
  grow : ∀ b, F b → w0.F0 b ∨ w0.mine b

def updR (s : Nat → RStat Γ) (k : Nat) (x : RStat Γ) : Nat → RStat Γ := fun i => if i = k then x else s i

def apply (s : Nat → RStat Γ) : List (Nat × RStat Γ) → Nat → RStat Γ
  | [] => s
  | (k, x) :: r => apply (updR s k x) r

/-- What holds behind an operation. -/
structure Post (w0 : Base) (F : Nat → Prop) (ρ : Nat → RI) (s : Nat → RStat Γ) (w : World) (up : List (Nat × RStat Γ)) (av : AV Γ) (F' : Nat → Prop) (ρ' : Nat → RI) (w' : World) (v : Value) : Prop where
  ext : Ext F ρ s w F' ρ' (apply s up) w'
  rel : RelR w0 F' ρ' (apply s up) w'
  val : ConcA F' ρ' (apply s up) w' av v

/-- An operation does what the evaluator says of it, in each state that agrees with s at the keys that it looks at. -/
def Sound (P : Program) (o : Oper) (ev : Operand → AV Γ) (s : Nat → RStat Γ) (av : AV Γ) (rd : List Nat) (up : List (Nat × RStat Γ)) : Prop :=
  ∀ (s2 : Nat → RStat Γ), (∀ k ∈ rd, s2 k = s k) → ∀ w0 F ρ (a : Act) w, RelR w0 F ρ s2 w → (∀ x ∈ o.op.operands, ConcA F ρ s2 w (ev x) (a.eval x)) →
    ∀ (next : Act → World → Prop) (Q : Exit → Act → World → Prop), (∀ v w' F' ρ', Post w0 F ρ s2 w up av F' ρ' w' v → next (a.put o.dst v) w') → o.wp P a w next Q

theorem Sound.pure {P : Program} {o : Oper} {ev : Operand → AV Γ} {s : Nat → RStat Γ} {av : AV Γ} {rd : List Nat}
    (h : ∀ (s2 : Nat → RStat Γ), (∀ k ∈ rd, s2 k = s k) → ∀ w0 F ρ (a : Act) w, RelR w0 F ρ s2 w → (∀ x ∈ o.op.operands, ConcA F ρ s2 w (ev x) (a.eval x)) →
      ∃ v, (execOp a.eval o).run P w = .ok (.value v) w ∧ ConcA F ρ s2 w av v) : Sound P o ev s av rd [] := by
  intro s2 hs w0 F ρ a w hR hop next Q hn
  obtain ⟨v, hv, hc⟩ := h s2 hs w0 F ρ a w hR hop
  unfold Oper.wp
  rw [hv]
  exact hn v w F ρ ⟨Ext.refl _ _ _ _, hR, hc⟩

end Go.Vs
