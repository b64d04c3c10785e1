/- The evaluator's sixteenth part: contracts, and calls by contract. -/
import Derived.Test.YtfebanpfolgmaaaVsO
namespace Go.Vs
set_option linter.unusedVariables false
set_option linter.unusedSimpArgs false
open Go.RowKit

variable {Γ : Env}

/-! ### arguments -/

/-- A variable's content as data. -/
def varDat (s : Nat → RStat Γ) (k off : Nat) (t : Ty) : Option (Den Γ t × List Nat) :=
  match s k with
  | .live (.var E cells) =>
    if off + t.size Γ ≤ cells.length then
      match cvCells s ((cells.drop off).take (t.size Γ)) with
      | some (ds, ks) => match mkOf t ds with
        | some x => some (x, k :: ks)
        | none => none
      | none => none
    else none
  | _ => none

def capDat (s : Nat → RStat Γ) : Cap Γ → (t : Ty) → Option (Den Γ t × List Nat)
  | .fz t' x, t => match asTy (Γ := Γ) ⟨t', x⟩ t with
    | some y => some (y, [])
    | none => none
  | .ptr k off, t => varDat s k off t

def capsDat (s : Nat → RStat Γ) : (ts : List Ty) → List (Cap Γ) → Option (Tup Γ ts × List Nat)
  | [], [] => some ((), [])
  | t :: ts, c :: cs => match capDat s c t, capsDat s ts cs with
    | some (x, k1), some (y, k2) => some ((x, y), k1 ++ k2)
    | _, _ => none
  | _, _ => none

def asCap : AV Γ → Option (Cap Γ)
  | .v (.one (.ptr k off)) => some (.ptr k off)
  | .v (.one (.eaD t l i 0)) => some (.fz t (l.getD i.toNat (t.zero Γ)))
  | _ => none

def capAV : Cap Γ → AV Γ
  | .ptr k off => .v (.one (.ptr k off))
  | .fz t x => .v (.one (.eaD t [x] 0 0))

def nilAs (t : Ty) (y : V1 Γ) : V1 Γ :=
  match y, t with
  | .one .nilS, .sl t => .one (.nilT t)
  | y, _ => y

theorem nilAs_conc {F : Nat → Prop} {ρ : Nat → RI} {w : World} {s : Nat → RStat Γ} {t : Ty} {y : V1 Γ} {v : Value} (h : Conc1 F ρ s w y v) : Conc1 F ρ s w (nilAs t y) v := by
  unfold nilAs
  split
  · exact h
  · exact h

theorem nilAs_keys {t : Ty} {y : V1 Γ} : ∀ q ∈ (nilAs t y).cvs.flatMap cvKeys, q ∈ y.cvs.flatMap cvKeys := by
  unfold nilAs
  split
  · intro q hq; simp [V1.cvs, cvKeys] at hq
  · exact fun q hq => hq

def argOf (s : Nat → RStat Γ) : (p : PSh) → AV Γ → Option (p.den Γ × List Nat)
  | .dat t, .v y => toDat s (nilAs t y) t
  | .ptr t, a => match asCap a with
    | some c => capDat s c t
    | none => none
  | .clo f ts, .v (.one (.clo f' caps)) => if f' = f then capsDat s ts caps else none
  | _, _ => none

def argsOf (s : Nat → RStat Γ) : (ps : List PSh) → List (AV Γ) → Option (Args Γ ps × List Nat)
  | [], [] => some ((), [])
  | p :: ps, a :: as => match argOf s p a, argsOf s ps as with
    | some (x, k1), some (y, k2) => some ((x, y), k1 ++ k2)
    | _, _ => none
  | _, _ => none

/-- The keys at which this looks. -/
def varKeys (s : Nat → RStat Γ) (k : Nat) : List Nat :=
  k :: (match s k with
    | .live (.var _ cells) => cells.flatMap cvKeys
    | _ => [])

def capKeys (s : Nat → RStat Γ) : Cap Γ → List Nat
  | .ptr k _ => varKeys s k
  | .fz _ _ => []

def argKeys (s : Nat → RStat Γ) : AV Γ → List Nat
  | .v (.one (.ptr k _)) => varKeys s k
  | .v (.one (.clo _ caps)) => caps.flatMap (capKeys s)
  | .v y => y.cvs.flatMap cvKeys
  | .tup _ => []

section congr
variable {s s2 : Nat → RStat Γ}

theorem toDat_congr {y : V1 Γ} {t : Ty} (h : ∀ k ∈ y.cvs.flatMap cvKeys, s2 k = s k) : toDat s2 y t = toDat s y t := by
  cases t <;> cases y <;> simp only [toDat]
  case rc.agg n l =>
    have e : cvCells s2 l = cvCells s l := cvCells_congr h
    rw [e]
  all_goals (rename_i c; rw [cvCell_congr (fun k hk => h k (by simpa [V1.cvs] using hk))])

theorem flatMap_sub {α β : Type} {f : α → List β} {l m : List α} (h : ∀ x ∈ l, x ∈ m) {b : β} (hb : b ∈ l.flatMap f) : b ∈ m.flatMap f := by
  obtain ⟨x, hx, hb⟩ := List.mem_flatMap.1 hb
  exact List.mem_flatMap.2 ⟨x, h x hx, hb⟩

theorem varDat_congr {k off : Nat} {t : Ty} (h : ∀ q ∈ varKeys s k, s2 q = s q) : varDat s2 k off t = varDat s k off t := by
  unfold varDat
  rw [h k List.mem_cons_self]
  split
  · rename_i E cells hk
    rw [cvCells_congr (s := s) (s2 := s2) (fun q hq => h q (List.mem_cons_of_mem _ (by
      rw [hk]
      exact flatMap_sub (fun x hx => List.mem_of_mem_drop (List.mem_of_mem_take hx)) hq)))]
  · rfl

theorem capDat_congr {c : Cap Γ} {t : Ty} (h : ∀ q ∈ capKeys s c, s2 q = s q) : capDat s2 c t = capDat s c t := by
  cases c with
  | ptr k off => exact varDat_congr h
  | fz t' x => rfl

theorem capsDat_congr : ∀ {ts : List Ty} {cs : List (Cap Γ)}, (∀ q ∈ cs.flatMap (capKeys s), s2 q = s q) → capsDat s2 ts cs = capsDat s ts cs
  | [], [], _ => rfl
  | [], _ :: _, _ => rfl
  | _ :: _, [], _ => rfl
  | t :: ts, c :: cs, h => by
    rw [List.flatMap_cons] at h
    unfold capsDat
    rw [capDat_congr (fun q hq => h q (List.mem_append_left _ hq)), capsDat_congr (fun q hq => h q (List.mem_append_right _ hq))]

theorem asCap_keys {a : AV Γ} {c : Cap Γ} (h : asCap a = some c) : ∀ q ∈ capKeys s c, q ∈ argKeys s a := by
  unfold asCap at h
  split at h
  · cases h; exact fun q hq => hq
  · cases h; exact fun q hq => by cases hq
  · cases h

theorem argOf_congr {p : PSh} {a : AV Γ} (h : ∀ q ∈ argKeys s a, s2 q = s q) : argOf s2 p a = argOf s p a := by
  cases p with
  | dat t =>
    cases a with
    | tup l => rfl
    | v y =>
      refine toDat_congr fun k hk => h k ?_
      have hk := nilAs_keys k hk
      cases y with
      | agg l => exact hk
      | one c => cases c <;> first | exact hk | (simp [V1.cvs, cvKeys] at hk)
  | ptr t =>
    have e : ∀ s' : Nat → RStat Γ, argOf s' (.ptr t) a = (match asCap a with
      | some c => capDat s' c t
      | none => none) := fun s' => by cases a <;> rfl
    rw [e, e]
    cases hc : asCap a with
    | none => rfl
    | some c => exact capDat_congr fun q hq => h q (asCap_keys hc q hq)
  | clo f ts =>
    cases a with
    | tup l => rfl
    | v y =>
      cases y with
      | agg l => rfl
      | one c =>
        cases c with
        | clo f' caps =>
          show (if f' = f then capsDat s2 ts caps else none) = (if f' = f then capsDat s ts caps else none)
          rw [capsDat_congr h]
        | _ => rfl
  | ioM E0 E E2 t =>
    cases a with
    | tup l => rfl
    | v y => cases y with
      | agg l => rfl
      | one c => cases c <;> rfl

theorem argsOf_congr : ∀ {ps : List PSh} {as : List (AV Γ)}, (∀ q ∈ as.flatMap (argKeys s), s2 q = s q) → argsOf s2 ps as = argsOf s ps as
  | [], [], _ => rfl
  | [], _ :: _, _ => rfl
  | _ :: _, [], _ => rfl
  | p :: ps, a :: as, h => by
    rw [List.flatMap_cons] at h
    unfold argsOf
    rw [argOf_congr (fun q hq => h q (List.mem_append_left _ hq)), argsOf_congr (fun q hq => h q (List.mem_append_right _ hq))]
end congr

/-! ### what a function finds -/

def CapsRep (F : Nat → Prop) (w : World) : (ts : List Ty) → Tup Γ ts → List Value → Prop
  | [], _, vs => vs = []
  | t :: ts, x, vs => ∃ v r, vs = v :: r ∧ ConcCap F noI noS w (.fz t x.1) v ∧ CapsRep F w ts x.2 r

def MatRep (F : Nat → Prop) (w : World) (E E2 : TypeId) (t : Ty) (l : List (List (Den Γ t))) (ri : RI) : Prop := ResOk (Γ := Γ) F (fun _ => ri) noS w 0 (.mat E E2 t l 0)

def PreP (F : Nat → Prop) (w : World) (blk : Nat) (ri : RI) : (p : PSh) → p.den Γ → Value → Prop
  | .dat t, x, v => ValRep F w t x v
  | .ptr t, x, v => ConcCap (Γ := Γ) F noI noS w (.fz t x) v
  | .clo f ts, x, v => ∃ vs : List Value, v = .func (.func f) #[] vs.toArray ∧ CapsRep F w ts x vs
  | .ioM E0 E E2 t, l, v => v = .pointer (some ⟨blk, 0, none⟩) ∧ w.heap[blk]? = some (.cells #[ri.val] E0 (0, 0)) ∧ MatRep F w E E2 t l ri

def PreL (F : Nat → Prop) (w : World) (blk : Nat) (ri : RI) : (ps : List PSh) → Args Γ ps → List Value → Prop
  | [], _, vs => vs = []
  | p :: ps, x, vs => ∃ v r, vs = v :: r ∧ PreP F w blk ri p x.1 v ∧ PreL F w blk ri ps x.2 r

def TupRep (F : Nat → Prop) (w : World) : (ts : List Ty) → Tup Γ ts → List Value → Prop
  | [], _, vs => vs = []
  | t :: ts, x, vs => ∃ v r, vs = v :: r ∧ ValRep F w t x.1 v ∧ TupRep F w ts x.2 r

/-- What a call leaves as it was. M: what was lent. -/
structure Fr (F M : Nat → Prop) (w : World) (F' : Nat → Prop) (w' : World) : Prop where
  os : w'.os = w.os
  tape : w'.tape = w.tape
  output : w'.output = w.output
  size : w.heap.size ≤ w'.heap.size
  block : ∀ b, b < w.heap.size → ¬ M b → w'.heap[b]? = w.heap[b]?
  sub : ∀ b, F b → F' b
  new : ∀ b, F' b → F b ∨ w.heap.size ≤ b
  fin : ∀ b, F' b → b < w'.heap.size

def oneOrTup : List Value → Value
  | [v] => v
  | vs => .tuple vs.toArray

def RetP (F F' : Nat → Prop) (w w' : World) (blk : Nat) (ri : RI) : (rs : RSh) → rs.den Γ → Value → Prop
  | .dats ts, r, v => ∃ vs, v = oneOrTup vs ∧ TupRep F' w' ts r vs
  | .arr E t, l, v => ∃ bl, (∀ b ∈ bl, w.heap.size ≤ b ∧ b < w'.heap.size ∧ ¬ F' b) ∧ ResOk (Γ := Γ) F' (fun _ => ⟨0, v, [], bl⟩) noS w' 0 (.arr E t l)
  | .mat E E2 t, l, v => ∃ rows bl, (∀ b ∈ bl, w.heap.size ≤ b ∧ b < w'.heap.size ∧ ¬ F' b) ∧ MatRep F' w' E E2 t l ⟨0, v, rows, bl⟩
  | .io E0 E E2 t, l, v => v = .tuple #[] ∧ ∃ ri' : RI, (∀ b ∈ ri'.bl, (b ∈ ri.bl ∨ w.heap.size ≤ b) ∧ b < w'.heap.size ∧ ¬ F' b ∧ b ≠ blk) ∧ ¬ F' blk ∧ w'.heap[blk]? = some (.cells #[ri'.val] E0 (0, 0)) ∧ MatRep F' w' E E2 t l ri'

def RSh.isIo : RSh → Bool
  | .io .. => true
  | _ => false

/-- THE CONTRACT of a function. -/
def Contract (P : Program) (f : FuncId) (sp : FSpec Γ) : Prop :=
  ∀ x r, sp.fn x = some r → ∀ (F : Nat → Prop) (w : World) (vs : List Value) (blk : Nat) (ri : RI), (∀ b, F b → b < w.heap.size) →
    (sp.rs.isIo = true → blk < w.heap.size ∧ ¬ F blk ∧ blk ∉ ri.bl ∧ ∀ b ∈ ri.bl, b < w.heap.size ∧ ¬ F b) →
    PreL F w blk ri sp.ps x vs →
    Calls P f vs.toArray w fun e w' => ∃ v F', e = .returned v ∧ Fr F (fun b => sp.rs.isIo = true ∧ (b = blk ∨ b ∈ ri.bl)) w F' w' ∧ RetP F F' w w' blk ri sp.rs r v

/-- That the function can be called. -/
def Callable (P : Program) (f : FuncId) : Prop := ∃ fn, P.funcs[f]? = some fn ∧ fn.body.isSome = true ∧ (fn.name == "runtime.NumGoroutine") = false

theorem run_callFunc {P : Program} {f : FuncId} (h : Callable P f) (args : Array Value) (w : World) : (callFunc f args).run P w = .ok (.enter f args) w := by
  obtain ⟨fn, h1, h2, h3⟩ := h
  have h4 : fn.body.isNone = false := by cases hb : fn.body <;> simp [hb] at h2 ⊢
  simp only [callFunc, Sem.run_bind, run_program, Result.andThen_ok, h1, h3, h4, Bool.false_eq_true, if_false, Sem.run_pure]

def EnvT (Γ : Env) := FuncId → List (FSpec Γ)

def EnvOk (P : Program) (env : EnvT Γ) : Prop := ∀ f sp, sp ∈ env f → Contract P f sp ∧ Callable P f

/-! ### the arguments hold what they should -/

section spec
variable {w0 : Base} {w : World} {F : Nat → Prop} {ρ : Nat → RI} {s : Nat → RStat Γ}

theorem U_mono {ks ks' : List Nat} (h : ∀ k ∈ ks, k ∈ ks') : ∀ b, U F ρ ks b → U F ρ ks' b := by
  rintro b (hb | ⟨k, hk, hb⟩)
  · exact .inl hb
  · exact .inr ⟨k, h k hk, hb⟩

theorem ConcCap.monoF {F F' : Nat → Prop} {t : Ty} {x : Den Γ t} {v : Value} (h : ConcCap (Γ := Γ) F noI noS w (.fz t x) v) (hF : ∀ b, F b → F' b) : ConcCap (Γ := Γ) F' noI noS w (.fz t x) v := by
  obtain ⟨a, u, hv, hj⟩ := h
  exact ⟨a, u, hv, fun j hjs => ⟨hF _ (hj j hjs).1, (hj j hjs).2.1, (hj j hjs).2.2.monoU hF⟩⟩

theorem varDat_spec (hΓ : Γ.Ok) (hR : RelR w0 F ρ s w) {k off : Nat} {t : Ty} {x : Den Γ t} {ks : List Nat} (h : varDat s k off t = some (x, ks)) : ConcCap (Γ := Γ) (U F ρ ks) noI noS w (.fz t x) (.pointer (some ⟨(ρ k).blk, off, none⟩)) := by
  unfold varDat at h
  split at h
  · rename_i E cells hk
    split at h
    · rename_i hle
      split at h
      · rename_i ds k2 hds
        split at h
        · rename_i y hy
          cases h
          obtain ⟨arr, g1, g2, g3⟩ := hR.res k _ hk
          have hsz : arr.size = cells.length := by have := g3.1; simpa using this
          have hrep := cvCells_spec hΓ hR hds ((g3.drop off).take (t.size Γ))
          have e := mkOf_cells hΓ t ds _ hy
          refine ⟨_, fun j => arr.toList.getD (off + j) undef, rfl, fun j hj => ⟨.inr ⟨k, List.mem_cons_self, g2⟩, ?_, ?_⟩⟩
          · rw [add_zero_lit]
            simp [World.cell?, g1, List.getD_eq_getElem?_getD, show off + j < arr.size by omega]
          · rw [encL_cells hΓ, e]
            have hlen : (ds.map Cell.enc).length = t.size Γ := by rw [List.length_map, ← e, cellsOf_size hΓ]
            have h2 := hrep.2 j (by rw [hlen]; exact hj)
            rw [getD_take_drop _ _ _ _ _ hj] at h2
            exact h2.monoU (U_mono fun q hq => List.mem_cons_of_mem _ hq)
        · cases h
      · cases h
    · cases h
  · cases h

theorem capDat_spec (hΓ : Γ.Ok) (hR : RelR w0 F ρ s w) {c : Cap Γ} {t : Ty} {x : Den Γ t} {ks : List Nat} {v : Value} (h : capDat s c t = some (x, ks)) (hc : ConcCap F ρ s w c v) : ConcCap (Γ := Γ) (U F ρ ks) noI noS w (.fz t x) v := by
  cases c with
  | ptr k off =>
    obtain ⟨_, rfl⟩ := hc
    exact varDat_spec hΓ hR h
  | fz t' y =>
    simp only [capDat] at h
    split at h
    · rename_i z hz
      cases h
      have e := asTy_some hz
      cases e
      exact ConcCap.monoF hc fun b hb => .inl hb
    · cases h

theorem CapsRep.monoF {F F' : Nat → Prop} (hF : ∀ b, F b → F' b) : ∀ {ts : List Ty} {x : Tup Γ ts} {vs : List Value}, CapsRep F w ts x vs → CapsRep F' w ts x vs
  | [], _, _, h => h
  | t :: ts, x, vs, h => by
    obtain ⟨v, r, rfl, h1, h2⟩ := h
    exact ⟨v, r, rfl, h1.monoF hF, CapsRep.monoF hF h2⟩

theorem capsDat_spec (hΓ : Γ.Ok) (hR : RelR w0 F ρ s w) : ∀ {ts : List Ty} {cs : List (Cap Γ)} {x : Tup Γ ts} {ks : List Nat} {vs : List Value}, capsDat s ts cs = some (x, ks) → ConcCaps F ρ s w cs vs → CapsRep (U F ρ ks) w ts x vs
  | [], [], x, ks, vs, h, hc => hc
  | [], _ :: _, x, ks, vs, h, hc => by cases h
  | _ :: _, [], x, ks, vs, h, hc => by cases h
  | t :: ts, c :: cs, x, ks, vs, h, hc => by
    unfold capsDat at h
    split at h
    · rename_i x1 k1 x2 k2 h1 h2
      cases h
      obtain ⟨v, r, rfl, c1, c2⟩ := hc
      exact ⟨v, r, rfl, (capDat_spec hΓ hR h1 c1).monoF (U_mono fun q hq => List.mem_append_left _ hq), (capsDat_spec hΓ hR h2 c2).monoF (U_mono fun q hq => List.mem_append_right _ hq)⟩
    · cases h

theorem asCap_spec {a : AV Γ} {c : Cap Γ} {v : Value} (h : asCap a = some c) (hc : ConcA F ρ s w a v) : ConcCap F ρ s w c v := by
  unfold asCap at h
  split at h
  · cases h; exact hc
  · rename_i t l i
    cases h
    obtain ⟨h0, h1, ad, u, hv, hj⟩ := hc
    exact ⟨ad, u, by rw [hv]; simp [Addr.add], hj⟩
  · cases h

theorem ValRep.monoF {F F' : Nat → Prop} {t : Ty} {x : Den Γ t} {v : Value} (h : ValRep F w t x v) (hF : ∀ b, F b → F' b) : ValRep F' w t x v :=
  Conc1.ext (F := F) (ρ := noI) (s := noS) (w := w) ⟨Keeps.refl _ _, hF, fun k hk => absurd rfl hk⟩ h

theorem argOf_spec (hΓ : Γ.Ok) (hR : RelR w0 F ρ s w) {p : PSh} {a : AV Γ} {x : p.den Γ} {ks : List Nat} {v : Value} (blk : Nat) (ri : RI) (h : argOf s p a = some (x, ks)) (hc : ConcA F ρ s w a v) : PreP (U F ρ ks) w blk ri p x v := by
  cases p with
  | dat t =>
    cases a with
    | tup l => cases h
    | v y => exact toDat_spec hΓ hR h (nilAs_conc hc)
  | ptr t =>
    have h' : (match asCap a with
      | some c => capDat s c t
      | none => none) = some (x, ks) := by cases a <;> exact h
    split at h'
    · rename_i c hcap
      exact capDat_spec hΓ hR h' (asCap_spec hcap hc)
    · cases h'
  | clo f ts =>
    cases a with
    | tup l => cases h
    | v y =>
      cases y with
      | agg l => cases h
      | one c =>
        cases c with
        | clo f' caps =>
          have h' : (if f' = f then capsDat s ts caps else none) = some (x, ks) := h
          split at h'
          · rename_i e
            subst e
            obtain ⟨vs, hv, hcs⟩ := hc
            exact ⟨vs, hv, capsDat_spec hΓ hR h' hcs⟩
          · cases h'
        | _ => cases h
  | ioM E0 E E2 t =>
    cases a with
    | tup l => cases h
    | v y => cases y with
      | agg l => cases h
      | one c => cases c <;> cases h

theorem PreP.monoF {F F' : Nat → Prop} (hF : ∀ b, F b → F' b) {blk : Nat} {ri : RI} {p : PSh} {x : p.den Γ} {v : Value} (h : PreP F w blk ri p x v) : PreP F' w blk ri p x v := by
  cases p with
  | dat t => exact ValRep.monoF h hF
  | ptr t => exact ConcCap.monoF h hF
  | clo f ts => obtain ⟨vs, hv, hc⟩ := h; exact ⟨vs, hv, hc.monoF hF⟩
  | ioM E0 E E2 t =>
    obtain ⟨h1, h2, h3⟩ := h
    exact ⟨h1, h2, ResOk.keep (F := F) (ρ := fun _ => ri) (s := noS) (w := w) ⟨Keeps.refl _ _, hF, fun k hk => absurd rfl hk⟩ h3 rfl fun _ _ => rfl⟩

theorem PreL.monoF {F F' : Nat → Prop} (hF : ∀ b, F b → F' b) {blk : Nat} {ri : RI} : ∀ {ps : List PSh} {x : Args Γ ps} {vs : List Value}, PreL F w blk ri ps x vs → PreL F' w blk ri ps x vs
  | [], _, _, h => h
  | p :: ps, x, vs, h => by
    obtain ⟨v, r, rfl, h1, h2⟩ := h
    exact ⟨v, r, rfl, PreP.monoF hF h1, PreL.monoF hF h2⟩

theorem argsOf_spec (hΓ : Γ.Ok) (hR : RelR w0 F ρ s w) (blk : Nat) (ri : RI) : ∀ {ps : List PSh} {as : List (AV Γ)} {x : Args Γ ps} {ks : List Nat} {vs : List Value}, argsOf s ps as = some (x, ks) → vs.length = as.length → (∀ i, i < as.length → ConcA F ρ s w (as.getD i undA) (vs.getD i undef)) → PreL (U F ρ ks) w blk ri ps x vs
  | [], [], x, ks, vs, h, hl, hc => List.eq_nil_of_length_eq_zero hl
  | [], _ :: _, x, ks, vs, h, hl, hc => by cases h
  | _ :: _, [], x, ks, vs, h, hl, hc => by cases h
  | p :: ps, a :: as, x, ks, vs, h, hl, hc => by
    unfold argsOf at h
    split at h
    · rename_i x1 k1 x2 k2 h1 h2
      cases h
      cases vs with
      | nil => simp at hl
      | cons v vs =>
        have a1 := argOf_spec hΓ hR blk ri h1 (by have := hc 0 (by simp); simpa using this)
        have a2 := argsOf_spec hΓ hR blk ri h2 (vs := vs) (by simpa using hl) (fun i hi => by have := hc (i + 1) (by simpa using hi); simpa using this)
        exact ⟨v, vs, rfl, PreP.monoF (U_mono fun q hq => List.mem_append_left _ hq) a1, PreL.monoF (U_mono fun q hq => List.mem_append_right _ hq) a2⟩
    · cases h
end spec

end Go.Vs
