/- The evaluator's twentieth part: cuts: what is carried from round to round, and from where ways meet. -/
import Derived.Test.YtfebanpfolgmaaaVsS
namespace Go.Vs
set_option linter.unusedVariables false
set_option linter.unusedSimpArgs false
open Go.RowKit

/-- What a slot holds at a cut. -/
inductive SSh where
  | dat (t : Ty)
  | arr (E : TypeId) (t : Ty)
  | mat (E E2 : TypeId) (t : Ty)
  | mix (E E2 : TypeId) (t : Ty)
  | varD (E : TypeId) (t : Ty)
  | varA (E0 E : TypeId) (t : Ty)
  | varM (E0 E E2 : TypeId) (t : Ty)
  | varL (E0 E E2 : TypeId) (t : Ty)
  | ali (slot : Nat)
  | clo (f : FuncId) (caps : List Nat)
  | fzp (t : Ty)
  | clofz (f : FuncId) (ts : List Ty)

abbrev Sh := List (Nat × SSh)

variable (Γ : Env)

def SSh.den : SSh → Type
  | .dat t => Den Γ t
  | .arr _ t => List (Den Γ t)
  | .mat _ _ t => List (List (Den Γ t))
  | .mix _ _ t => List (Bool × List (Den Γ t))
  | .varD _ t => Den Γ t
  | .varA _ _ t => List (Den Γ t)
  | .varM _ _ _ t => List (List (Den Γ t))
  | .varL _ _ _ t => List (List (Den Γ t))
  | .ali _ => Unit
  | .clo _ _ => Unit
  | .fzp t => Den Γ t
  | .clofz _ ts => Tup Γ ts

def ShT : Sh → Type
  | [] => Unit
  | (_, s) :: r => s.den Γ × ShT r

variable {Γ}

def K1 (kb i : Nat) : Nat := kb + 1000 + 4 * i

def isVarSh : SSh → Bool
  | .varD _ _ => true
  | .varA _ _ _ => true
  | .varM _ _ _ _ => true
  | _ => false

def fzCaps : (ts : List Ty) → Tup Γ ts → List (Cap Γ)
  | [], _ => []
  | t :: ts, x => .fz t x.1 :: fzCaps ts x.2

def capsFz : (ts : List Ty) → List (Cap Γ) → Option (Tup Γ ts)
  | [], [] => some ()
  | t :: ts, .fz t' x :: cs => match asTy (Γ := Γ) ⟨t', x⟩ t, capsFz ts cs with
    | some y, some z => some (y, z)
    | _, _ => none
  | _, _ => none

/-! ### from data to abstract values -/

def unAV (kb i : Nat) : (h : SSh) → h.den Γ → AV Γ
  | .dat t, x => .v (datV t x)
  | .arr _ _, _ => .v (.one (.own (K1 kb i)))
  | .mat _ _ _, _ => .v (.one (.own (K1 kb i)))
  | .mix _ _ _, _ => .v (.one (.own (K1 kb i)))
  | .varD _ _, _ => .v (.one (.ptr (K1 kb i) 0))
  | .varA _ _ _, _ => .v (.one (.ptr (K1 kb i) 0))
  | .varM _ _ _ _, _ => .v (.one (.ptr (K1 kb i) 0))
  | .varL _ _ _ _, _ => .v (.one (.ptr KIO 0))
  | .ali j, _ => .v (.one (.ptr (K1 kb j) 0))
  | .clo f caps, _ => .v (.one (.clo f (caps.map fun j => .ptr (K1 kb j) 0)))
  | .fzp t, x => .v (.one (.eaD t [x] 0 0))
  | .clofz f ts, x => .v (.one (.clo f (fzCaps ts x)))

def unRes (kb i : Nat) : (h : SSh) → h.den Γ → List (Nat × Res Γ)
  | .arr E t, l => [(K1 kb i, .arr E t l)]
  | .mat E E2 t, l => [(K1 kb i, .mat E E2 t l 0)]
  | .mix E E2 t, l => [(K1 kb i, .mix E E2 t l)]
  | .varD E t, x => [(K1 kb i, .var E (leaves t x))]
  | .varA E0 E t, l => [(K1 kb i, .var E0 [.own (K1 kb i + 1)]), (K1 kb i + 1, .arr E t l)]
  | .varM E0 E E2 t, l => [(K1 kb i, .var E0 [.own (K1 kb i + 1)]), (K1 kb i + 1, .mat E E2 t l 0)]
  | .varL E0 E E2 t, l => [(KIO, .var E0 [.own (K1 kb i + 1)]), (K1 kb i + 1, .mat E E2 t l 0)]
  | _, _ => []

def unKeys (kb i : Nat) : SSh → List Nat
  | .arr _ _ => [K1 kb i]
  | .mat _ _ _ => [K1 kb i]
  | .mix _ _ _ => [K1 kb i]
  | .varD _ _ => [K1 kb i]
  | .varA _ _ _ => [K1 kb i, K1 kb i + 1]
  | .varM _ _ _ _ => [K1 kb i, K1 kb i + 1]
  | .varL _ _ _ _ => [KIO, K1 kb i + 1]
  | _ => []

theorem unRes_keys (kb i : Nat) (h : SSh) (x : h.den Γ) : (unRes kb i h x).map (·.1) = unKeys kb i h := by cases h <;> rfl

def unSlots (kb : Nat) : (sh : Sh) → ShT Γ sh → Nat → AV Γ
  | [], _ => fun _ => undA
  | (i, h) :: r, x => fun j => if j = i then unAV kb i h x.1 else unSlots kb r x.2 j

def unAll (kb : Nat) : (sh : Sh) → ShT Γ sh → List (Nat × Res Γ)
  | [], _ => []
  | (i, h) :: r, x => unRes kb i h x.1 ++ unAll kb r x.2

def allKeys (kb : Nat) : Sh → List Nat
  | [] => []
  | (i, h) :: r => unKeys kb i h ++ allKeys kb r

def resOf : List (Nat × Res Γ) → Nat → RStat Γ
  | [] => fun _ => .never
  | (k, r) :: l => fun i => if i = k then .live r else resOf l i

def uncut (kb n : Nat) (sh : Sh) (x : ShT Γ sh) : St Γ := ⟨unSlots kb sh x, n, resOf (unAll kb sh x), kb⟩

/-! ### from abstract values to data -/

def ptrKey : AV Γ → Option Nat
  | .v (.one (.ptr k 0)) => some k
  | _ => none

def capIs (slots : Nat → AV Γ) : List Nat → List (Cap Γ) → Bool
  | [], [] => true
  | j :: js, .ptr k 0 :: cs => (match ptrKey (slots j) with
    | some k' => decide (k' = k)
    | none => false) && capIs slots js cs
  | _, _ => false

def asMix {t' : Ty} (l : List (Bool × List (Den Γ t'))) (t : Ty) : Option (List (Bool × List (Den Γ t))) := if h : t' = t then some (h ▸ l) else none

theorem asMix_some {t' t : Ty} {l : List (Bool × List (Den Γ t'))} {z : List (Bool × List (Den Γ t))} (h : asMix l t = some z) : ∃ e : t' = t, e ▸ l = z := by
  unfold asMix at h
  split at h
  · rename_i e; exact ⟨e, Option.some.inj h⟩
  · cases h

def shared {α : Type} (l : List (List α)) : List (Bool × List α) := l.map fun x => (false, x)

/-- Data, the keys that are taken over, the keys that are given up. -/
def cutOne (slots : Nat → AV Γ) (vars : List Nat) (s : Nat → RStat Γ) : (h : SSh) → AV Γ → Option (h.den Γ × List Nat × List Nat)
  | .dat t, .v y => match toDat s y t with
    | some (x, ks) => some (x, [], ks)
    | none => none
  | .arr E t, .v (.one (.own k)) => match s k with
    | .live (.arr E' t' l) => if E' = E then match asTy (Γ := Γ) ⟨.sl t', l⟩ (.sl t) with
        | some z => some (z, [k], [])
        | none => none
      else none
    | _ => none
  | .mat E E2 t, .v (.one (.own k)) => match s k with
    | .live (.mat E' E2' t' l _) => if E' = E ∧ E2' = E2 then match asTy (Γ := Γ) ⟨.sl (.sl t'), l⟩ (.sl (.sl t)) with
        | some z => some (z, [k], [])
        | none => none
      else none
    | _ => none
  | .mix E E2 t, .v (.one (.own k)) => match s k with
    | .live (.mix E' E2' t' l) => if E' = E ∧ E2' = E2 then match asMix (Γ := Γ) l t with
        | some z => some (z, [k], [])
        | none => none
      else none
    | .live (.arr E' t' l) => if E' = E then match asTy (Γ := Γ) ⟨.sl t', l⟩ (.sl (.sl t)) with
        | some z => some (shared z, [k], [])
        | none => none
      else none
    | _ => none
  | .varD E t, .v (.one (.ptr k 0)) => match s k with
    | .live (.var E' cells) => if E' = E then match cvCells s cells with
        | some (ds, ks) => match mkOf t ds with
          | some x => some (x, [k], ks)
          | none => none
        | none => none
      else none
    | _ => none
  | .varA E0 E t, .v (.one (.ptr k 0)) => match s k with
    | .live (.var E' [.own k2]) => match s k2 with
      | .live (.arr E1 t' l) => if E' = E0 ∧ E1 = E then match asTy (Γ := Γ) ⟨.sl t', l⟩ (.sl t) with
          | some z => some (z, [k, k2], [])
          | none => none
        else none
      | _ => none
    | _ => none
  | .varM E0 E E2 t, .v (.one (.ptr k 0)) => match s k with
    | .live (.var E' [.own k2]) => match s k2 with
      | .live (.mat E1 E2' t' l _) => if E' = E0 ∧ E1 = E ∧ E2' = E2 then match asTy (Γ := Γ) ⟨.sl (.sl t'), l⟩ (.sl (.sl t)) with
          | some z => some (z, [k, k2], [])
          | none => none
        else none
      | _ => none
    | _ => none
  | .varL E0 E E2 t, .v (.one (.ptr k 0)) => match s k with
    | .live (.var E' [.own k2]) => match s k2 with
      | .live (.mat E1 E2' t' l _) => if k = KIO ∧ E' = E0 ∧ E1 = E ∧ E2' = E2 then match asTy (Γ := Γ) ⟨.sl (.sl t'), l⟩ (.sl (.sl t)) with
          | some z => some (z, [k, k2], [])
          | none => none
        else none
      | _ => none
    | _ => none
  | .ali j, .v (.one (.ptr k 0)) => if vars.contains j = true ∧ ptrKey (slots j) = some k then some ((), [], []) else none
  | .clo f js, .v (.one (.clo f' cs)) => if f' = f ∧ js.all vars.contains = true ∧ capIs slots js cs = true then some ((), [], []) else none
  | .fzp t, .v (.one (.eaD t' l i 0)) => match asTy (Γ := Γ) ⟨t', l.getD i.toNat (t'.zero Γ)⟩ t with
    | some x => some (x, [], [])
    | none => none
  | .clofz f ts, .v (.one (.clo f' cs)) => if f' = f then match capsFz ts cs with
      | some x => some (x, [], [])
      | none => none
    else none
  | _, _ => none

def cutAll (slots : Nat → AV Γ) (vars : List Nat) (s : Nat → RStat Γ) : (sh : Sh) → Option (ShT Γ sh × List Nat × List Nat)
  | [] => some ((), [], [])
  | (i, h) :: r => match cutOne slots vars s h (slots i), cutAll slots vars s r with
    | some (x, c, f), some (y, c', f') => some ((x, y), c ++ c', f ++ f')
    | _, _ => none

/-- The lent variable is kept. -/
def isLent : SSh → Bool
  | .varL _ _ _ _ => true
  | _ => false

def keepsIO (s : Nat → RStat Γ) (sh : Sh) : Bool := isNever (s KIO) || sh.any fun p => isLent p.2

def varsOf (sh : Sh) : List Nat := (sh.filter fun p => isVarSh p.2).map (·.1)

def cut (sh : Sh) (st : St Γ) : Option (ShT Γ sh) :=
  match cutAll st.slots (varsOf sh) st.res sh with
  | some (x, c, f) => if c.Nodup ∧ f.Nodup ∧ (∀ k ∈ f, k ∉ c) ∧ (allKeys st.kb sh).Nodup ∧ (sh.map (·.1)).Nodup ∧ keepsIO st.res sh = true then some x else none
  | none => none

section spec
variable {w0 : Base} {w : World} {F F1 : Nat → Prop} {ρ ρ' : Nat → RI} {s s' : Nat → RStat Γ}

theorem unKeys_len {slots : Nat → AV Γ} {vars : List Nat} {h : SSh} {a : AV Γ} {x : h.den Γ} {c f : List Nat} (kb i : Nat) (hc : cutOne slots vars s h a = some (x, c, f)) : (unKeys kb i h).length = c.length := by
  unfold cutOne at hc
  split at hc
  all_goals first
    | cases hc
    | (repeat' split at hc) <;> first | (cases hc; rfl) | cases hc

/-- What is needed of the new names. -/
def Named (kb : Nat) (slots : Nat → AV Γ) (vars : List Nat) (ρ ρ' : Nat → RI) (s' : Nat → RStat Γ) : Prop := ∀ j ∈ vars, ∀ k, ptrKey (slots j) = some k → ρ' (K1 kb j) = ρ k ∧ s' (K1 kb j) ≠ .never

theorem capIs_spec {kb : Nat} {slots : Nat → AV Γ} {vars : List Nat} (hn : Named kb slots vars ρ ρ' s') : ∀ {js : List Nat} {cs : List (Cap Γ)} {vs : List Value}, capIs slots js cs = true → (∀ j ∈ js, j ∈ vars) → ConcCaps F ρ s w cs vs → ConcCaps F1 ρ' s' w (js.map fun j => .ptr (K1 kb j) 0) vs
  | [], [], vs, _, _, h => h
  | [], _ :: _, vs, h, _, _ => by cases h
  | j :: js, [], vs, h, _, _ => by cases h
  | j :: js, c :: cs, vs, h, hv, hc => by
    cases c with
    | fz t x => cases h
    | ptr k off =>
      cases off with
      | succ n => cases h
      | zero =>
        simp only [capIs, Bool.and_eq_true] at h
        obtain ⟨h1, h2⟩ := h
        split at h1
        · rename_i k' hk
          have e : k' = k := of_decide_eq_true h1
          subst e
          obtain ⟨v, r, rfl, ⟨_, g2⟩, g3⟩ := hc
          obtain ⟨n1, n2⟩ := hn j (hv j List.mem_cons_self) k' hk
          exact ⟨v, r, rfl, ⟨n2, by rw [n1]; exact g2⟩, capIs_spec hn h2 (fun q hq => hv q (List.mem_cons_of_mem _ hq)) g3⟩
        · cases h1

theorem capsFz_spec (hF : ∀ b, F b → F1 b) : ∀ {ts : List Ty} {cs : List (Cap Γ)} {x : Tup Γ ts} {vs : List Value}, capsFz ts cs = some x → ConcCaps F ρ s w cs vs → ConcCaps F1 ρ' s' w (fzCaps ts x) vs
  | [], [], x, vs, _, hc => hc
  | [], _ :: _, x, vs, h, _ => by cases h
  | t :: ts, [], x, vs, h, _ => by cases h
  | t :: ts, c :: cs, x, vs, h, hc => by
    cases c with
    | ptr k off => cases h
    | fz t' y =>
      simp only [capsFz] at h
      split at h
      · rename_i y' z h1 h2
        cases h
        obtain ⟨v, r, rfl, g1, g2⟩ := hc
        have e := asTy_some h1
        cases e
        exact ⟨v, r, rfl, ConcCap.monoF g1 hF, capsFz_spec hF h2 g2⟩
      · cases h

theorem cutOne_spec (hΓ : Γ.Ok) (hR : RelR w0 F ρ s w) {slots : Nat → AV Γ} {vars : List Nat} {h : SSh} {a : AV Γ} {x : h.den Γ} {c f : List Nat} {v : Value} {kb i : Nat} (hc : cutOne slots vars s h a = some (x, c, f)) (hv : ConcA F ρ s w a v)
    (hF1 : ∀ b, U F ρ f b → F1 b) (hn : Named kb slots vars ρ ρ' s') (hm : ∀ p ∈ (unKeys kb i h).zip c, ρ' p.1 = ρ p.2 ∧ s' p.1 ≠ .never) :
    ConcA F1 ρ' s' w (unAV kb i h x) v ∧ (∀ p ∈ unRes kb i h x, ResOk F1 ρ' s' w p.1 p.2) ∧ (∀ k ∈ c, ∃ r, s k = .live r) ∧ (∀ k ∈ f, ∃ r, s k = .live r) := by
  have hFF : ∀ b, F b → F1 b := fun b hb => hF1 b (.inl hb)
  have arrK : ∀ {k k' : Nat} {E : TypeId} {t : Ty} {l : List (Den Γ t)}, s k = .live (.arr E t l) → ρ' k' = ρ k → ResOk F1 ρ' s' w k' (.arr E t l) := by
    intro k k' E t l hk he
    obtain ⟨xs, g1, g2, g3⟩ := hR.res k _ hk
    exact ⟨xs, by rw [he]; exact g1, g2.mono (Keeps.refl _ _) hFF, by rw [he]; exact g3⟩
  have matK : ∀ {k k' : Nat} {E E2 : TypeId} {t : Ty} {l : List (List (Den Γ t))} {n : Nat}, s k = .live (.mat E E2 t l n) → ρ' k' = ρ k → ResOk F1 ρ' s' w k' (.mat E E2 t l 0) := by
    intro k k' E E2 t l n hk he
    obtain ⟨g1, g2, g3, g4, g5⟩ := hR.res k _ hk
    exact ⟨by rw [he]; exact g1, fun i hi => by obtain ⟨ys, q1, q2⟩ := g2 i hi; exact ⟨ys, by rw [he]; exact q1, q2.mono (Keeps.refl _ _) hFF⟩, by rw [he]; exact g3, by rw [he]; exact g4, by rw [he]; exact g5⟩
  unfold cutOne at hc
  split at hc
  · rename_i t y
    split at hc
    · rename_i x' ks hd
      cases hc
      exact ⟨((toDat_spec hΓ hR hd hv).monoF hF1).to, (fun p hp => by cases hp), (fun k hk => by cases hk), toDat_live hd⟩
    · cases hc
  · rename_i E t k
    split at hc
    · rename_i E' t' l hk
      split at hc
      · rename_i e
        subst e
        split at hc
        · rename_i z hz
          cases hc
          have e := asTy_some hz
          cases e
          obtain ⟨m1, m2⟩ := hm (K1 kb i, k) (by simp [unKeys])
          refine ⟨⟨m2, by show v = (ρ' (K1 kb i)).val; rw [m1]; exact hv.2⟩, fun p hp => ?_, fun q hq => ?_, fun q hq => by cases hq⟩
          · cases List.mem_singleton.1 hp; exact arrK hk m1
          · cases List.mem_singleton.1 hq; exact ⟨_, hk⟩
        · cases hc
      · cases hc
    · cases hc
  · rename_i E E2 t k
    split at hc
    · rename_i E' E2' t' l n hk
      split at hc
      · rename_i e
        obtain ⟨rfl, rfl⟩ := e
        split at hc
        · rename_i z hz
          cases hc
          have e := asTy_some hz
          cases e
          obtain ⟨m1, m2⟩ := hm (K1 kb i, k) (by simp [unKeys])
          refine ⟨⟨m2, by show v = (ρ' (K1 kb i)).val; rw [m1]; exact hv.2⟩, fun p hp => ?_, fun q hq => ?_, fun q hq => by cases hq⟩
          · cases List.mem_singleton.1 hp; exact matK hk m1
          · cases List.mem_singleton.1 hq; exact ⟨_, hk⟩
        · cases hc
      · cases hc
    · cases hc
  · rename_i E E2 t k
    split at hc
    · rename_i E' E2' t' l hk
      split at hc
      · rename_i e
        obtain ⟨rfl, rfl⟩ := e
        split at hc
        · rename_i z hz
          cases hc
          obtain ⟨e, e2⟩ := asMix_some hz
          subst e
          subst e2
          obtain ⟨m1, m2⟩ := hm (K1 kb i, k) (by simp [unKeys])
          refine ⟨⟨m2, by show v = (ρ' (K1 kb i)).val; rw [m1]; exact hv.2⟩, fun p hp => ?_, fun q hq => ?_, fun q hq => by cases hq⟩
          · cases List.mem_singleton.1 hp
            obtain ⟨rows, g1, g2, g2', g3, g4, g5⟩ := hR.res k _ hk
            exact ⟨rows, by rw [m1]; exact g1, fun i hi hf => by obtain ⟨ys, q1, q2⟩ := g2 i hi hf; exact ⟨ys, q1, q2.mono (Keeps.refl _ _) hFF⟩, fun i hi hf => (g2' i hi hf).mono (Keeps.refl _ _) hFF, by rw [m1]; exact g3, by rw [m1]; exact g4, g5⟩
          · cases List.mem_singleton.1 hq; exact ⟨_, hk⟩
        · cases hc
      · cases hc
    · rename_i E' t' l hk
      split at hc
      · rename_i e
        subst e
        split at hc
        · rename_i z hz
          cases hc
          have e := asTy_some hz
          cases e
          obtain ⟨m1, m2⟩ := hm (K1 kb i, k) (by simp [unKeys])
          refine ⟨⟨m2, by show v = (ρ' (K1 kb i)).val; rw [m1]; exact hv.2⟩, fun p hp => ?_, fun q hq => ?_, fun q hq => by cases hq⟩
          · cases List.mem_singleton.1 hp
            obtain ⟨xs, g1, g2, g3⟩ := hR.res k _ hk
            obtain ⟨l, rfl⟩ : ∃ l' : List (List (Den Γ t)), l' = z := ⟨z, rfl⟩
            have hsl : ∀ i, i < l.length → (shared l).getD i (false, []) = (false, l.getD i []) := fun i hi => by simp [shared, List.getD_eq_getElem?_getD, hi]
            have hll : (shared l).length = l.length := by simp [shared]
            refine ⟨xs, by rw [m1]; rw [hll]; exact g1, fun i hi hf => ?_, fun i hi hf => ?_, by rw [m1]; exact g3, fun i b hi hf => ?_, fun i j b _ hi _ hf => ?_⟩
            · rw [hll] at hi; rw [hsl i hi] at hf; cases hf
            · rw [hll] at hi
              rw [hsl i hi]
              have hlen : (l.flatMap (encL (Γ := Γ) (.sl t))).length = l.length := (length_flatMap_const (encL (Γ := Γ) (.sl t)) 1 l (fun x _ => rfl)).trans (Nat.mul_one _)
              have h2 := g2.2 i (by rw [hlen]; exact hi)
              have e := getD_flatMap (encL (Γ := Γ) (.sl t)) 1 (.v undef) l i 0 [] (fun x _ => rfl) hi Nat.one_pos
              rw [Nat.mul_one, Nat.add_zero] at e
              rw [e] at h2
              exact RepD.mono h2 (Keeps.refl _ _) hFF
            · rw [hll] at hi; rw [hsl i hi] at hf; cases hf
            · rw [hll] at hi; rw [hsl i hi] at hf; cases hf
          · cases List.mem_singleton.1 hq; exact ⟨_, hk⟩
        · cases hc
      · cases hc
    · cases hc
  · rename_i E t k
    split at hc
    · rename_i E' cells hk
      split at hc
      · rename_i e
        subst e
        split at hc
        · rename_i ds ks hds
          split at hc
          · rename_i y hy
            cases hc
            obtain ⟨m1, m2⟩ := hm (K1 kb i, k) (by simp [unKeys])
            obtain ⟨arr, g1, g2, g3⟩ := hR.res k _ hk
            refine ⟨⟨m2, by show v = .pointer (some ⟨(ρ' (K1 kb i)).blk, 0, none⟩); rw [m1]; exact hv.2⟩, fun p hp => ?_, fun q hq => ?_, cvCells_live hds⟩
            · cases List.mem_singleton.1 hp
              refine ⟨arr, by rw [m1]; exact g1, by rw [m1]; exact g2, ?_⟩
              refine ConcL.of_cells ?_
              rw [mkOf_cells hΓ t ds _ hy]
              exact (cvCells_spec hΓ hR hds g3).mono (Keeps.refl _ _) hF1
            · cases List.mem_singleton.1 hq; exact ⟨_, hk⟩
          · cases hc
        · cases hc
      · cases hc
    · cases hc
  · rename_i E0 E t k
    split at hc
    · rename_i E' k2 hk
      split at hc
      · rename_i E1 t' l hk2
        split at hc
        · rename_i e
          obtain ⟨rfl, rfl⟩ := e
          split at hc
          · rename_i z hz
            cases hc
            have e := asTy_some hz
            cases e
            obtain ⟨m1, m2⟩ := hm (K1 kb i, k) (by simp [unKeys])
            obtain ⟨n1, n2⟩ := hm (K1 kb i + 1, k2) (by simp [unKeys])
            obtain ⟨arr, g1, g2, g3⟩ := hR.res k _ hk
            refine ⟨⟨m2, by show v = .pointer (some ⟨(ρ' (K1 kb i)).blk, 0, none⟩); rw [m1]; exact hv.2⟩, fun p hp => ?_, fun q hq => ?_, fun q hq => by cases hq⟩
            · rcases List.mem_cons.1 hp with rfl | hp
              · refine ⟨arr, by rw [m1]; exact g1, by rw [m1]; exact g2, g3.1, fun j hj => ?_⟩
                have h0 : j = 0 := by simp at hj; omega
                subst h0
                exact ⟨n2, by rw [n1]; exact (g3.2 0 hj).2⟩
              · cases List.mem_singleton.1 hp; exact arrK hk2 n1
            · rcases List.mem_cons.1 hq with rfl | hq
              · exact ⟨_, hk⟩
              · cases List.mem_singleton.1 hq; exact ⟨_, hk2⟩
          · cases hc
        · cases hc
      · cases hc
    · cases hc
  · rename_i E0 E E2 t k
    split at hc
    · rename_i E' k2 hk
      split at hc
      · rename_i E1 E2' t' l n hk2
        split at hc
        · rename_i e
          obtain ⟨rfl, rfl, rfl⟩ := e
          split at hc
          · rename_i z hz
            cases hc
            have e := asTy_some hz
            cases e
            obtain ⟨m1, m2⟩ := hm (K1 kb i, k) (by simp [unKeys])
            obtain ⟨n1, n2⟩ := hm (K1 kb i + 1, k2) (by simp [unKeys])
            obtain ⟨arr, g1, g2, g3⟩ := hR.res k _ hk
            refine ⟨⟨m2, by show v = .pointer (some ⟨(ρ' (K1 kb i)).blk, 0, none⟩); rw [m1]; exact hv.2⟩, fun p hp => ?_, fun q hq => ?_, fun q hq => by cases hq⟩
            · rcases List.mem_cons.1 hp with rfl | hp
              · refine ⟨arr, by rw [m1]; exact g1, by rw [m1]; exact g2, g3.1, fun j hj => ?_⟩
                have h0 : j = 0 := by simp at hj; omega
                subst h0
                exact ⟨n2, by rw [n1]; exact (g3.2 0 hj).2⟩
              · cases List.mem_singleton.1 hp; exact matK hk2 n1
            · rcases List.mem_cons.1 hq with rfl | hq
              · exact ⟨_, hk⟩
              · cases List.mem_singleton.1 hq; exact ⟨_, hk2⟩
          · cases hc
        · cases hc
      · cases hc
    · cases hc
  · rename_i E0 E E2 t k
    split at hc
    · rename_i E' k2 hk
      split at hc
      · rename_i E1 E2' t' l n hk2
        split at hc
        · rename_i e
          obtain ⟨rfl, rfl, rfl, rfl⟩ := e
          split at hc
          · rename_i z hz
            cases hc
            have e := asTy_some hz
            cases e
            obtain ⟨m1, m2⟩ := hm (KIO, KIO) (by simp [unKeys])
            obtain ⟨n1, n2⟩ := hm (K1 kb i + 1, k2) (by simp [unKeys])
            obtain ⟨arr, g1, g2, g3⟩ := hR.res KIO _ hk
            refine ⟨⟨m2, by show v = .pointer (some ⟨(ρ' KIO).blk, 0, none⟩); rw [m1]; exact hv.2⟩, fun p hp => ?_, fun q hq => ?_, fun q hq => by cases hq⟩
            · rcases List.mem_cons.1 hp with rfl | hp
              · refine ⟨arr, by rw [m1]; exact g1, by rw [m1]; exact g2, g3.1, fun j hj => ?_⟩
                have h0 : j = 0 := by simp at hj; omega
                subst h0
                exact ⟨n2, by rw [n1]; exact (g3.2 0 hj).2⟩
              · cases List.mem_singleton.1 hp; exact matK hk2 n1
            · rcases List.mem_cons.1 hq with rfl | hq
              · exact ⟨_, hk⟩
              · cases List.mem_singleton.1 hq; exact ⟨_, hk2⟩
          · cases hc
        · cases hc
      · cases hc
    · cases hc
  · rename_i j k
    split at hc
    · rename_i e
      cases hc
      obtain ⟨e1, e2⟩ := e
      obtain ⟨n1, n2⟩ := hn j (by simpa using e1) k e2
      exact ⟨⟨n2, by show v = .pointer (some ⟨(ρ' (K1 kb j)).blk, 0, none⟩); rw [n1]; exact hv.2⟩, (fun p hp => by cases hp), (fun k hk => by cases hk), fun k hk => by cases hk⟩
    · cases hc
  · rename_i f' js f'' cs
    split at hc
    · rename_i e
      cases hc
      obtain ⟨rfl, e1, e2⟩ := e
      obtain ⟨vs, hvv, hcs⟩ := hv
      exact ⟨⟨vs, hvv, capIs_spec hn e2 (fun j hj => by have := List.all_eq_true.1 e1 j hj; simpa using this) hcs⟩, (fun p hp => by cases hp), (fun k hk => by cases hk), fun k hk => by cases hk⟩
    · cases hc
  · rename_i t t' l i'
    split at hc
    · rename_i x' hx
      cases hc
      have e := asTy_some hx
      obtain ⟨h0, h1, ad, u, hvv, hj⟩ := hv
      cases e
      refine ⟨⟨Int.le_refl _, Nat.one_pos, ad, u, hvv, fun j hjs => ?_⟩, (fun p hp => by cases hp), (fun k hk => by cases hk), fun k hk => by cases hk⟩
      obtain ⟨b1, b2, b3⟩ := hj j hjs
      exact ⟨hFF _ b1, b2, b3.monoU hFF⟩
    · cases hc
  · rename_i f' ts f'' cs
    split at hc
    · rename_i e
      subst e
      split at hc
      · rename_i x' hx
        cases hc
        obtain ⟨vs, hvv, hcs⟩ := hv
        exact ⟨⟨vs, hvv, capsFz_spec hFF hx hcs⟩, (fun p hp => by cases hp), (fun k hk => by cases hk), fun k hk => by cases hk⟩
      · cases hc
    · cases hc
  · cases hc
end spec

end Go.Vs
