/- The evaluator's fifteenth part: what is said of a function, and calls. -/
import Derived.Test.YtfebanpfolgmaaaVsN
namespace Go.Vs
set_option linter.unusedVariables false
set_option linter.unusedSimpArgs false
open Go.RowKit

/-- Parameters: data; a variable that is read; a closure over variables that are read; a variable that holds a slice of slices and is lent to be written. -/
inductive PSh where
  | dat (t : Ty)
  | ptr (t : Ty)
  | clo (f : FuncId) (ts : List Ty)
  | ioM (E0 E E2 : TypeId) (t : Ty)

/-- Results: data; a new slice; a new slice of slices; nothing, but the variable that was lent. -/
inductive RSh where
  | dats (ts : List Ty)
  | arr (E : TypeId) (t : Ty)
  | mat (E E2 : TypeId) (t : Ty)
  | io (E0 E E2 : TypeId) (t : Ty)

variable (Γ : Env)

def Tup : List Ty → Type
  | [] => Unit
  | t :: r => Den Γ t × Tup r

def PSh.den : PSh → Type
  | .dat t => Den Γ t
  | .ptr t => Den Γ t
  | .clo _ ts => Tup Γ ts
  | .ioM _ _ _ t => List (List (Den Γ t))

def Args : List PSh → Type
  | [] => Unit
  | p :: r => p.den Γ × Args r

def RSh.den : RSh → Type
  | .dats ts => Tup Γ ts
  | .arr _ t => List (Den Γ t)
  | .mat _ _ t => List (List (Den Γ t))
  | .io _ _ _ t => List (List (Den Γ t))

structure FSpec where
  ps : List PSh
  rs : RSh
  fn : Args Γ ps → Option (rs.den Γ)

variable {Γ}

def RI.none : RI := ⟨0, .nilFunc, [], []⟩

/-- Data as an abstract value. -/
def datV : (t : Ty) → Den Γ t → V1 Γ
  | .rc n, x => .agg ((Γ.cells n x).map CV.leaf)
  | .int k, x => .one (.leaf ⟨.int k, x⟩)
  | .bool, x => .one (.leaf ⟨.bool, x⟩)
  | .str, x => .one (.leaf ⟨.str, x⟩)
  | .sl t, x => .one (.leaf ⟨.sl t, x⟩)

def noI : Nat → RI := fun _ => RI.none
def noS : Nat → RStat Γ := fun _ => .never

def ValRep (F : Nat → Prop) (w : World) (t : Ty) (x : Den Γ t) (v : Value) : Prop := Conc1 F noI noS w (datV t x) v

theorem concL_leaf {F : Nat → Prop} {ρ ρ' : Nat → RI} {s s' : Nat → RStat Γ} {w : World} {l : List (Cell Γ)} {vs : List Value} (h : ConcL F ρ s w (l.map CV.leaf) vs) : ConcL F ρ' s' w (l.map CV.leaf) vs := by
  refine ⟨h.1, fun i hi => ?_⟩
  have hi' : i < l.length := by simpa using hi
  have := h.2 i hi
  have e1 : (l.map CV.leaf).getD i .undef = .leaf l[i] := by simp [List.getD_eq_getElem?_getD, hi']
  rw [e1] at this ⊢
  exact this

theorem conc_datV {F : Nat → Prop} {ρ ρ' : Nat → RI} {s s' : Nat → RStat Γ} {w : World} {t : Ty} {x : Den Γ t} {v : Value} (h : Conc1 F ρ s w (datV t x) v) : Conc1 F ρ' s' w (datV t x) v := by
  cases t with
  | rc n => obtain ⟨vs, hv, hc⟩ := h; exact ⟨vs, hv, concL_leaf hc⟩
  | int k => exact h
  | bool => exact h
  | str => exact h
  | sl t => exact h

theorem ValRep.of {F : Nat → Prop} {ρ : Nat → RI} {s : Nat → RStat Γ} {w : World} {t : Ty} {x : Den Γ t} {v : Value} (h : Conc1 F ρ s w (datV t x) v) : ValRep F w t x v := conc_datV h
theorem ValRep.to {F : Nat → Prop} {ρ : Nat → RI} {s : Nat → RStat Γ} {w : World} {t : Ty} {x : Den Γ t} {v : Value} (h : ValRep F w t x v) : Conc1 F ρ s w (datV t x) v := conc_datV h

theorem repL_of_leaf {F : Nat → Prop} {ρ : Nat → RI} {s : Nat → RStat Γ} {w : World} {l : List (Cell Γ)} {vs : List Value} (h : ConcL F ρ s w (l.map CV.leaf) vs) : RepL F w (l.map Cell.enc) vs := by
  refine ⟨by have := h.1; simpa using this, fun i hi => ?_⟩
  have hi' : i < l.length := by simpa using hi
  have := h.2 i (by simpa using hi')
  have e1 : (l.map CV.leaf).getD i .undef = .leaf l[i] := by simp [List.getD_eq_getElem?_getD, hi']
  have e2 : (l.map Cell.enc).getD i (.v undef) = (l[i]).enc := by simp [List.getD_eq_getElem?_getD, hi']
  rw [e1] at this
  rw [e2]
  exact this

/-- An abstract value as data. -/
def toDat (s : Nat → RStat Γ) (a : V1 Γ) (t : Ty) : Option (Den Γ t × List Nat) :=
  match t, a with
  | .rc n, .agg l => match cvCells s l with
    | some (ds, ks) => match Γ.fold n ds with
      | some x => some (x, ks)
      | none => none
    | none => none
  | .rc _, .one _ => none
  | t, .one c => match cvCell s c with
    | some (d, ks) => match asTy d t with
      | some x => some (x, ks)
      | none => none
    | none => none
  | _, .agg _ => none

theorem toDat_spec (hΓ : Γ.Ok) {w0 : Base} {w : World} {F : Nat → Prop} {ρ : Nat → RI} {s : Nat → RStat Γ} (hR : RelR w0 F ρ s w) {a : V1 Γ} {t : Ty} {x : Den Γ t} {ks : List Nat} {v : Value} (h : toDat s a t = some (x, ks)) (hc : Conc1 F ρ s w a v) : ValRep (U F ρ ks) w t x v := by
  have one : ∀ {c : CV Γ} {t : Ty} {x : Den Γ t} (ht : ∀ n, t ≠ .rc n), (match cvCell s c with
    | some (d, ks) => match asTy d t with
      | some x => some (x, ks)
      | none => none
    | none => none) = some (x, ks) → ConcC F ρ s w c v → ValRep (U F ρ ks) w t x v := by
    intro c t x ht h hc
    split at h
    · rename_i d ks' hd
      split at h
      · rename_i y hy
        cases h
        have hr := cvCell_spec hΓ hR hd hc
        rw [asTy_some hy] at hr
        cases t with
        | rc n => exact absurd rfl (ht n)
        | _ => exact hr
      · cases h
    · cases h
  cases t with
  | rc n =>
    cases a with
    | one c => cases h
    | agg l =>
      have h' : (match cvCells s l with
        | some (ds, ks) => match Γ.fold n ds with
          | some x => some (x, ks)
          | none => none
        | none => none) = some (x, ks) := h
      split at h'
      · rename_i ds ks' hds
        split at h'
        · rename_i y hy
          cases h'
          obtain ⟨vs, rfl, hcl⟩ := hc
          refine ⟨vs, rfl, ?_⟩
          have hr := cvCells_spec hΓ hR hds hcl
          rw [hΓ.fold n ds _ hy]
          exact ConcL.of_cells hr
        · cases h'
      · cases h'
  | int k => cases a with
    | one c => exact one (fun n => by simp) h hc
    | agg l => cases h
  | bool => cases a with
    | one c => exact one (fun n => by simp) h hc
    | agg l => cases h
  | str => cases a with
    | one c => exact one (fun n => by simp) h hc
    | agg l => cases h
  | sl t => cases a with
    | one c => exact one (fun n => by simp) h hc
    | agg l => cases h

end Go.Vs
