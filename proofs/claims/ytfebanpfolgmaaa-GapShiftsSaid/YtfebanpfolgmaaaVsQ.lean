/- The evaluator's seventeenth part: calls. -/
import Derived.Test.YtfebanpfolgmaaaVsP
namespace Go.Vs
set_option linter.unusedVariables false
set_option linter.unusedSimpArgs false
open Go.RowKit

variable {Γ : Env}

def tscal (Γ : Env) : Ty → Bool
  | .rc n => Γ.scal n
  | t => t.scal0

def RSh.scalB (Γ : Env) : RSh → Bool
  | .dats ts => ts.all (tscal Γ)
  | .arr _ t => tscal Γ t
  | .mat _ _ t => tscal Γ t
  | .io _ _ _ t => tscal Γ t

theorem scal0_enc {c : Cell Γ} (h : c.1.scal0 = true) : ∃ v, c.enc = .v v := by
  obtain ⟨t, x⟩ := c
  cases t <;> simp [Ty.scal0] at h <;> exact ⟨_, rfl⟩

theorem tscal_cells (hΓ : Γ.Ok) {t : Ty} (h : tscal Γ t = true) (x : Den Γ t) : ∀ c ∈ cellsOf t x, c.1.scal0 = true := by
  cases t with
  | rc n => exact hΓ.scal n x h
  | int k => intro c hc; cases List.mem_singleton.1 hc; rfl
  | bool => intro c hc; cases List.mem_singleton.1 hc; rfl
  | str => intro c hc; cases List.mem_singleton.1 hc; rfl
  | sl t => simp [tscal, Ty.scal0] at h

theorem repL_scal {F F' : Nat → Prop} {w w' : World} {cs : List (Cell Γ)} {vs : List Value} (hs : ∀ c ∈ cs, c.1.scal0 = true) (h : RepL F w (cs.map Cell.enc) vs) : RepL F' w' (cs.map Cell.enc) vs := by
  refine ⟨h.1, fun i hi => ?_⟩
  have hi' : i < cs.length := by simpa using hi
  have := h.2 i hi
  have e2 : (cs.map Cell.enc).getD i (.v undef) = (cs[i]).enc := by simp [List.getD_eq_getElem?_getD, hi']
  obtain ⟨v, hv⟩ := scal0_enc (hs _ (List.getElem_mem hi'))
  rw [e2, hv] at this ⊢
  rw [this.v_inv]
  exact .v _

theorem repL_scal' (hΓ : Γ.Ok) {F F' : Nat → Prop} {w w' : World} {t : Ty} (ht : tscal Γ t = true) {l : List (Den Γ t)} {vs : List Value} (h : RepL F w (l.flatMap (encL t)) vs) : RepL F' w' (l.flatMap (encL t)) vs := by
  rw [flatMap_encL hΓ] at h ⊢
  refine repL_scal (fun c hc => ?_) h
  obtain ⟨x, _, hx⟩ := List.mem_flatMap.1 hc
  exact tscal_cells hΓ ht x c hx

theorem valRep_scal (hΓ : Γ.Ok) {F F' : Nat → Prop} {w w' : World} {t : Ty} (ht : tscal Γ t = true) {x : Den Γ t} {v : Value} (h : ValRep F w t x v) : ValRep F' w' t x v := by
  cases t with
  | rc n =>
    obtain ⟨vs, hv, hc⟩ := h
    exact ⟨vs, hv, ConcL.of_cells (repL_scal (hΓ.scal n x ht) (repL_of_leaf hc))⟩
  | int k => rw [RepD.v_inv (show RepD F w (.v (.int k x)) v from h)]; exact RepD.v _
  | bool => rw [RepD.v_inv (show RepD F w (.v (.bool x)) v from h)]; exact RepD.v _
  | str => rw [RepD.v_inv (show RepD F w (.v (.string x)) v from h)]; exact RepD.v _
  | sl t => simp [tscal, Ty.scal0] at ht

def tupL : (ts : List Ty) → Tup Γ ts → List (V1 Γ)
  | [], _ => []
  | t :: ts, x => datV t x.1 :: tupL ts x.2

def tupAV (l : List (V1 Γ)) : AV Γ :=
  match l with
  | [v] => .v v
  | l => .tup l

section spec
variable {w0 : Base} {w w' : World} {F F' : Nat → Prop} {ρ : Nat → RI} {s : Nat → RStat Γ}

theorem tupL_conc : ∀ {ts : List Ty} {x : Tup Γ ts} {vs : List Value}, TupRep F w ts x vs → vs.length = (tupL ts x).length ∧ ∀ i, i < (tupL ts x).length → Conc1 F ρ s w ((tupL ts x).getD i (.one .undef)) (vs.getD i undef)
  | [], x, vs, h => by
    have : vs = [] := h
    subst this
    exact ⟨rfl, fun i hi => absurd hi (Nat.not_lt_zero _)⟩
  | t :: ts, x, vs, h => by
    obtain ⟨v, r, rfl, h1, h2⟩ := h
    obtain ⟨g1, g2⟩ := tupL_conc h2
    refine ⟨by simp [tupL, g1], fun i hi => ?_⟩
    cases i with
    | zero => exact h1.to
    | succ i => exact g2 i (by simpa [tupL] using hi)

theorem tupAV_conc {ts : List Ty} {x : Tup Γ ts} {vs : List Value} (h : TupRep F w ts x vs) : ConcA F ρ s w (tupAV (tupL ts x)) (oneOrTup vs) := by
  obtain ⟨h1, h2⟩ := tupL_conc (ρ := ρ) (s := s) h
  generalize tupL ts x = l at h1 h2
  match l, vs, h1 with
  | [v], [u], _ => exact h2 0 Nat.one_pos
  | [], [], _ => exact ⟨#[], rfl, rfl, fun i hi => absurd hi (Nat.not_lt_zero _)⟩
  | a :: b :: l, x :: y :: vs, h1 => exact ⟨_, rfl, by simpa using h1, fun i hi => by simpa using h2 i hi⟩

theorem tupRep_scal (hΓ : Γ.Ok) : ∀ {ts : List Ty} {x : Tup Γ ts} {vs : List Value}, ts.all (tscal Γ) = true → TupRep F w ts x vs → TupRep F' w' ts x vs
  | [], _, _, _, h => h
  | t :: ts, x, vs, ht, h => by
    simp only [List.all_cons, Bool.and_eq_true] at ht
    obtain ⟨v, r, rfl, h1, h2⟩ := h
    exact ⟨v, r, rfl, valRep_scal hΓ ht.1 h1, tupRep_scal hΓ ht.2 h2⟩

/-- A call that lends nothing. -/
theorem RelR.fr (hR : RelR w0 F ρ s w) {M : Nat → Prop} (hM : ∀ b, ¬ M b) (h : Fr F M w F' w') : Ext F ρ s w F' ρ s w' ∧ RelR w0 F' ρ s w' := by
  have x : Ext F ρ s w F' ρ s w' := ⟨⟨h.size, fun b hb => h.block b (hR.fin b hb) (hM b)⟩, h.sub, fun k hk => ⟨hk, rfl, rfl, fun r' hr => ⟨r', hr, Goes.refl _ _⟩⟩⟩
  refine ⟨x, ⟨fun k r hr => (hR.res k r hr).keep x rfl fun b hb => h.block b (hR.own k r b hr hb).2.2 (hM b), fun k r b hr hb => ?_, hR.disj, h.fin, ⟨h.os.trans hR.below.os, h.tape.trans hR.below.tape, h.output.trans hR.below.output, Nat.le_trans hR.below.size h.size, fun b hb hMb => (h.block b (Nat.lt_of_lt_of_le hb hR.below.size) (hM b)).trans (hR.below.block b hb hMb)⟩, fun b hb => ?_⟩⟩
  · obtain ⟨g1, g2, g3⟩ := hR.own k r b hr hb
    exact ⟨fun hF => (h.new b hF).elim g1 (fun hs => by omega), g2, Nat.lt_of_lt_of_le g3 h.size⟩
  · rcases h.new b hb with hF | hs
    · exact hR.grow b hF
    · exact .inr (.inr (Nat.le_trans hR.base hs))

theorem U_fin (hR : RelR w0 F ρ s w) {ks : List Nat} (hl : ∀ k ∈ ks, ∃ r, s k = .live r) : ∀ b, U F ρ ks b → b < w.heap.size := by
  rintro b (hb | ⟨k, hk, hb⟩)
  · exact hR.fin b hb
  · obtain ⟨r, hr⟩ := hl k hk
    exact (hR.own k r b hr hb).2.2

theorem resOk_arr_move {F : Nat → Prop} {w : World} {E : TypeId} {t : Ty} {l : List (Den Γ t)} {ri : RI} {ρ' : Nat → RI} {s' : Nat → RStat Γ} {k : Nat} (h : ResOk (Γ := Γ) F (fun _ => ri) noS w 0 (.arr E t l)) (he : ρ' k = ri) : ResOk F ρ' s' w k (.arr E t l) := by
  obtain ⟨xs, h1, h2, h3⟩ := h
  exact ⟨xs, by rw [he]; exact h1, h2, by rw [he]; exact h3⟩

theorem resOk_mat_move {F : Nat → Prop} {w : World} {E E2 : TypeId} {t : Ty} {l : List (List (Den Γ t))} {ri : RI} {ρ' : Nat → RI} {s' : Nat → RStat Γ} {k n : Nat} (h : MatRep F w E E2 t l ri) (he : ρ' k = ri) : ResOk F ρ' s' w k (.mat E E2 t l n) := by
  obtain ⟨h1, h2, h3, h4, h5⟩ := h
  exact ⟨by rw [he]; exact h1, by rw [he]; exact h2, by rw [he]; exact h3, by rw [he]; exact h4, by rw [he]; exact h5⟩

theorem mat_to_rep {F : Nat → Prop} {w : World} {E E2 : TypeId} {t : Ty} {l : List (List (Den Γ t))} {k n : Nat} (h : ResOk F ρ s w k (.mat E E2 t l n)) : MatRep F w E E2 t l (ρ k) := h

theorem mat_scal (hΓ : Γ.Ok) {E E2 : TypeId} {t : Ty} (ht : tscal Γ t = true) {l : List (List (Den Γ t))} {ri : RI} (h : MatRep F w E E2 t l ri) : MatRep F' w E E2 t l ri := by
  obtain ⟨h1, h2, h3, h4, h5⟩ := h
  exact ⟨h1, fun i hi => by obtain ⟨ys, g1, g2⟩ := h2 i hi; exact ⟨ys, g1, repL_scal' hΓ ht g2⟩, h3, h4, h5⟩
end spec

section ops
variable {R : Type} (P : Program) (ti : TypeId → Option (TI Γ)) (ev : Operand → AV Γ) (s : Nat → RStat Γ) (o : Oper)

def retK (s : Nat → RStat Γ) (key : Nat) (kills : List (Nat × RStat Γ)) (rd : List Nat) (k : K Γ R) : (rs : RSh) → rs.den Γ → Option R
  | .dats ts, r => k (tupAV (tupL ts r)) rd kills
  | .arr E t, l => if isNever (s key) then k (AV.one (.own key)) rd (kills ++ [(key, .live (.arr E t l))]) else none
  | .mat E E2 t, l => if isNever (s key) then k (AV.one (.own key)) rd (kills ++ [(key, .live (.mat E E2 t l 0))]) else none
  | .io _ _ _ _, _ => none

def killK (Γ : Env) (rs : RSh) (ks : List Nat) : List Nat := if rs.scalB Γ then [] else ks

def vCallL (s : Nat → RStat Γ) (key : Nat) (avs : List (AV Γ)) (k : K Γ R) : List (FSpec Γ) → Option R
  | [] => none
  | sp :: rest => match argsOf s sp.ps avs with
    | some (x, ks) => if (killK Γ sp.rs ks).Nodup then
        (sp.fn x).bind fun r => retK s key ((killK Γ sp.rs ks).map fun q => (q, .dead)) (key :: avs.flatMap (argKeys s)) k sp.rs r
      else none
    | none => vCallL s key avs k rest

def calleeOf : AV Γ → Option (FuncId × List (Cap Γ))
  | .v (.one (.clo f caps)) => some (f, caps)
  | _ => none

def vCall (env : EnvT Γ) (fo : Operand) (args : Array Operand) (key : Nat) (k : K Γ R) : Option R :=
  match calleeOf (ev fo) with
  | some (f, caps) => vCallL s key (args.toList.map ev ++ caps.map capAV) k (env f)
  | none => none

theorem capDat_live {s : Nat → RStat Γ} {c : Cap Γ} {t : Ty} {x : Den Γ t} {ks : List Nat} (h : capDat s c t = some (x, ks)) : ∀ k ∈ ks, ∃ r, s k = .live r := by
  cases c with
  | fz t' y =>
    simp only [capDat] at h
    split at h
    · cases h; intro k hk; cases hk
    · cases h
  | ptr k off =>
    simp only [capDat, varDat] at h
    split at h
    · rename_i E cells hk
      split at h
      · split at h
        · rename_i ds k2 hds
          split at h
          · cases h
            intro q hq
            rcases List.mem_cons.1 hq with rfl | hq
            · exact ⟨_, hk⟩
            · exact cvCells_live hds q hq
          · cases h
        · cases h
      · cases h
    · cases h

theorem capsDat_live {s : Nat → RStat Γ} : ∀ {ts : List Ty} {cs : List (Cap Γ)} {x : Tup Γ ts} {ks : List Nat}, capsDat s ts cs = some (x, ks) → ∀ k ∈ ks, ∃ r, s k = .live r
  | [], [], x, ks, h => by cases h; intro k hk; cases hk
  | [], _ :: _, x, ks, h => by cases h
  | _ :: _, [], x, ks, h => by cases h
  | t :: ts, c :: cs, x, ks, h => by
    unfold capsDat at h
    split at h
    · rename_i x1 k1 x2 k2 h1 h2
      cases h
      intro k hk
      rcases List.mem_append.1 hk with hk | hk
      · exact capDat_live h1 k hk
      · exact capsDat_live h2 k hk
    · cases h

theorem toDat_live {s : Nat → RStat Γ} {y : V1 Γ} {t : Ty} {x : Den Γ t} {ks : List Nat} (h : toDat s y t = some (x, ks)) : ∀ k ∈ ks, ∃ r, s k = .live r := by
  have one : ∀ {c : CV Γ} {t : Ty} {x : Den Γ t}, (match cvCell s c with
    | some (d, ks) => match asTy d t with
      | some x => some (x, ks)
      | none => none
    | none => none) = some (x, ks) → ∀ k ∈ ks, ∃ r, s k = .live r := by
    intro c t x h
    split at h
    · rename_i d k1 hd
      split at h
      · cases h
        have g := cvCells_live (s := s) (cs := [c]) (ds := [d]) (ks := ks ++ []) (by simp [cvCells, hd])
        exact fun k hk => g k (by simpa using hk)
      · cases h
    · cases h
  cases t with
  | rc n =>
    cases y with
    | one c => cases h
    | agg l =>
      have h' : (match cvCells s l with
        | some (ds, ks) => match Γ.fold n ds with
          | some x => some (x, ks)
          | none => none
        | none => none) = some (x, ks) := h
      split at h'
      · rename_i ds k1 hds
        split at h'
        · cases h'; exact cvCells_live hds
        · cases h'
      · cases h'
  | int k => cases y with
    | one c => exact one h
    | agg l => cases h
  | bool => cases y with
    | one c => exact one h
    | agg l => cases h
  | str => cases y with
    | one c => exact one h
    | agg l => cases h
  | sl t => cases y with
    | one c => exact one h
    | agg l => cases h

theorem argOf_live {s : Nat → RStat Γ} {p : PSh} {a : AV Γ} {x : p.den Γ} {ks : List Nat} (h : argOf s p a = some (x, ks)) : ∀ k ∈ ks, ∃ r, s k = .live r := by
  cases p with
  | dat t =>
    cases a with
    | tup l => cases h
    | v y => exact toDat_live h
  | ptr t =>
    have h' : (match asCap a with
      | some c => capDat s c t
      | none => none) = some (x, ks) := by cases a <;> exact h
    split at h'
    · exact capDat_live h'
    · cases h'
  | clo f ts =>
    cases a with
    | tup l => cases h
    | v y =>
      cases y with
      | agg l => cases h
      | one c =>
        cases c with
        | clo f' caps =>
          have h' : (if f' = f then capsDat s ts caps else none) = some (x, ks) := h
          split at h'
          · exact capsDat_live h'
          · cases h'
        | _ => cases h
  | ioM E0 E E2 t =>
    cases a with
    | tup l => cases h
    | v y => cases y with
      | agg l => cases h
      | one c => cases c <;> cases h

theorem argsOf_live {s : Nat → RStat Γ} : ∀ {ps : List PSh} {as : List (AV Γ)} {x : Args Γ ps} {ks : List Nat}, argsOf s ps as = some (x, ks) → ∀ k ∈ ks, ∃ r, s k = .live r
  | [], [], x, ks, h => by cases h; intro k hk; cases hk
  | [], _ :: _, x, ks, h => by cases h
  | _ :: _, [], x, ks, h => by cases h
  | p :: ps, a :: as, x, ks, h => by
    unfold argsOf at h
    split at h
    · rename_i x1 k1 x2 k2 h1 h2
      cases h
      intro k hk
      rcases List.mem_append.1 hk with hk | hk
      · exact argOf_live h1 k hk
      · exact argsOf_live h2 k hk
    · cases h

/-- A call of a function value, at the operation. -/
theorem call_at {w : World} {ac : Act} {fo : Operand} {args : Array Operand} {tys : Array TypeId} (ho : o.op = .call { callee := .value fo, args := args, argTypes := tys }) {f : FuncId} (hf : Callable P f) {caps : List Value} (hv : ac.eval fo = .func (.func f) #[] caps.toArray)
    (next : Act → World → Prop) (Q : Exit → Act → World → Prop) (h : Calls P f (args.toList.map ac.eval ++ caps).toArray w fun | .returned v, w'' => next (ac.put o.dst v) w'' | .panicked chain, w'' => Q (.panic chain) ac w'' | .outgrown, _ => LetsOut Q) : o.wp P ac w next Q := by
  have hrun : (execOp ac.eval o).run P w = .ok (.enter f (args.toList.map ac.eval ++ caps).toArray) w := by
    simp only [execOp, ho, resolve, Sem.run_bind, hv, Deferred.ofValue, Sem.run_pure, Result.andThen_ok, invoke]
    rw [run_callFunc hf]
    congr 2
    apply Array.ext'
    simp
  unfold Oper.wp
  rw [hrun, Oper.upon_enter]
  exact h

theorem capAV_conc {F : Nat → Prop} {ρ : Nat → RI} {s : Nat → RStat Γ} {w : World} : ∀ {caps : List (Cap Γ)} {vs : List Value}, ConcCaps F ρ s w caps vs → vs.length = caps.length ∧ ∀ i, i < caps.length → ConcA F ρ s w ((caps.map capAV).getD i undA) (vs.getD i undef)
  | [], vs, h => by
    have : vs = [] := h
    subst this
    exact ⟨rfl, fun i hi => absurd hi (Nat.not_lt_zero _)⟩
  | c :: caps, vs, h => by
    obtain ⟨v, r, rfl, h1, h2⟩ := h
    obtain ⟨g1, g2⟩ := capAV_conc h2
    refine ⟨by simp [g1], fun i hi => ?_⟩
    cases i with
    | zero =>
      cases c with
      | ptr k off => exact h1
      | fz t x =>
        obtain ⟨a, u, hv, hj⟩ := h1
        exact ⟨Int.le_refl _, Nat.one_pos, a, u, by rw [show v = _ from hv]; simp [Addr.add], hj⟩
    | succ i => exact g2 i (by simpa using hi)

theorem avs_conc {F : Nat → Prop} {ρ : Nat → RI} {s : Nat → RStat Γ} {w : World} {ac : Act} {args : List Operand} {caps : List (Cap Γ)} {vs : List Value} (h1 : ∀ x ∈ args, ConcA F ρ s w (ev x) (ac.eval x)) (h2 : ConcCaps F ρ s w caps vs) :
    (args.map ac.eval ++ vs).length = (args.map ev ++ caps.map capAV).length ∧ ∀ i, i < (args.map ev ++ caps.map capAV).length → ConcA F ρ s w ((args.map ev ++ caps.map capAV).getD i undA) ((args.map ac.eval ++ vs).getD i undef) := by
  obtain ⟨g1, g2⟩ := capAV_conc h2
  refine ⟨by simp [g1], fun i hi => ?_⟩
  rw [getD_append, getD_append]
  simp only [List.length_map]
  split
  · rename_i hlt
    have e1 : (args.map ev).getD i undA = ev args[i] := by simp [List.getD_eq_getElem?_getD, hlt]
    have e2 : (args.map ac.eval).getD i undef = ac.eval args[i] := by simp [List.getD_eq_getElem?_getD, hlt]
    rw [e1, e2]
    exact h1 _ (List.getElem_mem hlt)
  · exact g2 _ (by simp at hi; omega)

theorem vCall_sound (hΓ : Γ.Ok) {env : EnvT Γ} (henv : EnvOk P env) (fo : Operand) (args : Array Operand) (tys : Array TypeId) (key : Nat) (ho : o.op = .call { callee := .value fo, args := args, argTypes := tys }) : Goal P ev s o (vCall (R := R) ev s env fo args key) := by
  intro k r h
  unfold vCall at h
  split at h
  · rename_i f caps hcal
    have hclo : ev fo = .v (.one (.clo f caps)) := by
      unfold calleeOf at hcal
      split at hcal
      · cases hcal; assumption
      · cases hcal
    have main : ∀ (l : List (FSpec Γ)), (∀ sp ∈ l, Contract P f sp ∧ Callable P f) → vCallL s key (args.toList.map ev ++ caps.map capAV) k l = some r → ∃ av rd up, k av rd up = some r ∧ Sound P o ev s av rd up := by
      intro l
      induction l with
      | nil => intro _ h; cases h
      | cons sp rest ih =>
        intro hl h
        unfold vCallL at h
        split at h
        · rename_i x ks hargs
          split at h
          · rename_i hnd
            obtain ⟨hcon, hcall⟩ := hl sp List.mem_cons_self
            rw [Option.bind_eq_some_iff] at h
            obtain ⟨res, hfn, h⟩ := h
            -- what the call does, in any state that agrees
            have hdo : ∀ (s2 : Nat → RStat Γ), (∀ q ∈ key :: (args.toList.map ev ++ caps.map capAV).flatMap (argKeys s), s2 q = s q) → ∀ {w0 F ρ} {ac : Act} {w}, RelR w0 F ρ s2 w → (∀ z ∈ o.op.operands, ConcA F ρ s2 w (ev z) (ac.eval z)) → sp.rs.isIo = false →
                ∀ (next : Act → World → Prop) (Q : Exit → Act → World → Prop), (∀ v w' F', Fr (U F ρ ks) (fun _ => False) w F' w' → RetP (U F ρ ks) F' w w' 0 RI.none sp.rs res v → next (ac.put o.dst v) w') → o.wp P ac w next Q := by
              intro s2 hs w0 F ρ ac w hR hop hio next Q hnext
              have hf := hop fo (by simp [ho, Op.operands, Call.operands])
              rw [hclo] at hf
              obtain ⟨vs, hv, hcs⟩ := hf
              have hargs2 : argsOf s2 sp.ps (args.toList.map ev ++ caps.map capAV) = some (x, ks) := by rw [argsOf_congr (fun q hq => hs q (List.mem_cons_of_mem _ hq))]; exact hargs
              obtain ⟨c1, c2⟩ := avs_conc ev (args := args.toList) (fun z hz => hop z (by simp [ho, Op.operands, Call.operands]; exact .inr (by simpa using hz))) hcs
              have hpre := argsOf_spec hΓ hR 0 RI.none hargs2 c1 c2
              refine call_at P o ho hcall hv next Q ?_
              refine (hcon x res hfn (U F ρ ks) w _ 0 RI.none (U_fin hR (argsOf_live hargs2)) (fun h => by rw [hio] at h; cases h) hpre).mono ?_
              rintro e w' ⟨v, F', rfl, hfr, hret⟩
              exact hnext v w' F' ⟨hfr.os, hfr.tape, hfr.output, hfr.size, fun b hb _ => hfr.block b hb (fun hM => by rw [hio] at hM; cases hM.1), hfr.sub, hfr.new, hfr.fin⟩ hret
            have hlive2 : ∀ (s2 : Nat → RStat Γ), (∀ q ∈ key :: (args.toList.map ev ++ caps.map capAV).flatMap (argKeys s), s2 q = s q) → ∀ q ∈ killK Γ sp.rs ks, ∃ r, s2 q = .live r := by
              intro s2 hs q hq
              have hargs2 : argsOf s2 sp.ps (args.toList.map ev ++ caps.map capAV) = some (x, ks) := by rw [argsOf_congr (fun q hq => hs q (List.mem_cons_of_mem _ hq))]; exact hargs
              unfold killK at hq
              split at hq
              · cases hq
              · exact argsOf_live hargs2 q hq
            -- the memory behind it
            have hmem : ∀ (s2 : Nat → RStat Γ), (∀ q ∈ key :: (args.toList.map ev ++ caps.map capAV).flatMap (argKeys s), s2 q = s q) → ∀ {w0 F ρ w w' F'}, RelR w0 F ρ s2 w → Fr (U F ρ ks) (fun _ => False) w F' w' →
                ∃ F2, Ext F ρ s2 w F2 ρ (apply s2 ((killK Γ sp.rs ks).map fun q => (q, .dead))) w' ∧ RelR w0 F2 ρ (apply s2 ((killK Γ sp.rs ks).map fun q => (q, .dead))) w' ∧ (∀ b, F2 b → F' b) ∧ (sp.rs.scalB Γ = false → F2 = F') := by
              intro s2 hs w0 F ρ w w' F' hR hfr
              obtain ⟨x1, R1⟩ := hR.dropAll (killK Γ sp.rs ks) (hlive2 s2 hs) hnd
              by_cases hsc : sp.rs.scalB Γ = true
              · have e : killK Γ sp.rs ks = [] := by simp [killK, hsc]
                rw [e] at x1 R1 ⊢
                have eU : U F ρ [] = F := by funext b; simp [U]
                rw [eU] at x1 R1
                obtain ⟨x2, R2⟩ := R1.fr (M := fun _ => False) (F' := F) (w' := w') (fun _ h => h) ⟨hfr.os, hfr.tape, hfr.output, hfr.size, hfr.block, fun _ h => h, fun _ h => .inl h, fun b hb => Nat.lt_of_lt_of_le (hR.fin b hb) hfr.size⟩
                exact ⟨F, x1.trans x2, R2, fun b hb => hfr.sub b (.inl hb), fun h => by rw [hsc] at h; cases h⟩
              · have e : killK Γ sp.rs ks = ks := by simp [killK, hsc]
                rw [e] at x1 R1 ⊢
                obtain ⟨x2, R2⟩ := R1.fr (M := fun _ => False) (fun _ h => h) hfr
                exact ⟨F', x1.trans x2, R2, fun b hb => hb, fun _ => rfl⟩
            obtain ⟨ps, rs, fn⟩ := sp
            cases rs with
            | dats ts =>
              refine ⟨_, _, _, h, fun s2 hs w0 F ρ ac w hR hop next Q hnext => hdo s2 hs hR hop rfl next Q fun v w' F' hfr hret => ?_⟩
              obtain ⟨F2, x, R', hsub, heq⟩ := hmem s2 hs hR hfr
              obtain ⟨vs, rfl, htup⟩ := hret
              refine hnext _ _ F2 ρ ⟨x, R', ?_⟩
              by_cases hsc : RSh.scalB Γ (.dats ts) = true
              · exact tupAV_conc (tupRep_scal hΓ hsc htup)
              · rw [heq (by simpa using hsc)]
                exact tupAV_conc htup
            | arr E t =>
              simp only [retK] at h
              split at h
              · rename_i hnever
                refine ⟨_, _, _, h, fun s2 hs w0 F ρ ac w hR hop next Q hnext => hdo s2 hs hR hop rfl next Q fun v w' F' hfr hret => ?_⟩
                obtain ⟨F2, x, R', hsub, heq⟩ := hmem s2 hs hR hfr
                obtain ⟨bl, hbl, hok⟩ := hret
                have hk : s2 key = .never := by rw [hs key List.mem_cons_self]; exact isNever_spec hnever
                have hkk : key ∉ killK Γ (.arr E t) ks := fun hm => by obtain ⟨r, hr⟩ := hlive2 s2 hs key hm; rw [hk] at hr; cases hr
                have hk1 : apply s2 ((killK Γ (.arr E t) ks).map fun q => (q, .dead)) key = .never := by rw [apply_other _ _ _ (mem_map_dead hkk)]; exact hk
                have hok2 : ResOk (Γ := Γ) F2 (fun _ => ⟨0, v, [], bl⟩) noS w' 0 (.arr E t res) := by
                  by_cases hsc : RSh.scalB Γ (.arr E t) = true
                  · obtain ⟨xs, q1, q2, q3⟩ := hok
                    exact ⟨xs, q1, repL_scal' hΓ hsc q2, q3⟩
                  · rw [heq (by simpa using hsc)]
                    exact hok
                have hsize : w.heap.size ≤ w'.heap.size := hfr.size
                obtain ⟨x2, R2⟩ := R'.set (w' := w') key ⟨0, v, [], bl⟩ (.arr E t res) (.inl hk1) (Nat.le_refl _) ⟨rfl, rfl, rfl⟩ (fun b _ _ => rfl) (fun b hb => by
                  obtain ⟨b1, b2, b3⟩ := hbl b hb
                  refine ⟨fun hF => b3 (hsub b hF), .inr (Nat.le_trans hR.base b1), b2, fun k' r' hne hl hb' => ?_⟩
                  have hl2 : s2 k' = .live r' := by
                    by_cases hm : k' ∈ killK Γ (.arr E t) ks
                    · exfalso
                      have dead : ∀ (l : List Nat) (s0 : Nat → RStat Γ), k' ∈ l → apply s0 (l.map fun q => (q, .dead)) k' = .dead := by
                        intro l
                        induction l with
                        | nil => intro s0 h; cases h
                        | cons a l ih =>
                          intro s0 hm
                          by_cases hml : k' ∈ l
                          · exact ih _ hml
                          · rcases List.mem_cons.1 hm with rfl | hm
                            · show apply (updR s0 k' .dead) (l.map fun q => (q, .dead)) k' = .dead
                              rw [apply_other _ _ _ (mem_map_dead hml), updR_same]
                            · exact absurd hm hml
                      rw [dead _ _ hm] at hl
                      cases hl
                    · rw [apply_other _ _ _ (mem_map_dead hm)] at hl
                      exact hl
                  have := (hR.own k' r' b hl2 hb').2.2
                  omega) (fun xx => resOk_arr_move hok2 (updI_same _ _ _))
                refine hnext _ _ F2 _ ⟨by rw [apply_append]; exact x.trans x2, by rw [apply_append]; exact R2, ?_, ?_⟩
                · rw [apply_append]; simp [apply, updR_same]
                · rw [updI_same]
              · cases h
            | mat E E2 t =>
              simp only [retK] at h
              split at h
              · rename_i hnever
                refine ⟨_, _, _, h, fun s2 hs w0 F ρ ac w hR hop next Q hnext => hdo s2 hs hR hop rfl next Q fun v w' F' hfr hret => ?_⟩
                obtain ⟨F2, x, R', hsub, heq⟩ := hmem s2 hs hR hfr
                obtain ⟨rows, bl, hbl, hok⟩ := hret
                have hk : s2 key = .never := by rw [hs key List.mem_cons_self]; exact isNever_spec hnever
                have hkk : key ∉ killK Γ (.mat E E2 t) ks := fun hm => by obtain ⟨r, hr⟩ := hlive2 s2 hs key hm; rw [hk] at hr; cases hr
                have hk1 : apply s2 ((killK Γ (.mat E E2 t) ks).map fun q => (q, .dead)) key = .never := by rw [apply_other _ _ _ (mem_map_dead hkk)]; exact hk
                have hok2 : MatRep F2 w' E E2 t res ⟨0, v, rows, bl⟩ := by
                  by_cases hsc : RSh.scalB Γ (.mat E E2 t) = true
                  · exact mat_scal hΓ hsc hok
                  · rw [heq (by simpa using hsc)]
                    exact hok
                have hsize : w.heap.size ≤ w'.heap.size := hfr.size
                obtain ⟨x2, R2⟩ := R'.set (w' := w') key ⟨0, v, rows, bl⟩ (.mat E E2 t res 0) (.inl hk1) (Nat.le_refl _) ⟨rfl, rfl, rfl⟩ (fun b _ _ => rfl) (fun b hb => by
                  obtain ⟨b1, b2, b3⟩ := hbl b hb
                  refine ⟨fun hF => b3 (hsub b hF), .inr (Nat.le_trans hR.base b1), b2, fun k' r' hne hl hb' => ?_⟩
                  have hl2 : s2 k' = .live r' := by
                    by_cases hm : k' ∈ killK Γ (.mat E E2 t) ks
                    · exfalso
                      have dead : ∀ (l : List Nat) (s0 : Nat → RStat Γ), k' ∈ l → apply s0 (l.map fun q => (q, .dead)) k' = .dead := by
                        intro l
                        induction l with
                        | nil => intro s0 h; cases h
                        | cons a l ih =>
                          intro s0 hm
                          by_cases hml : k' ∈ l
                          · exact ih _ hml
                          · rcases List.mem_cons.1 hm with rfl | hm
                            · show apply (updR s0 k' .dead) (l.map fun q => (q, .dead)) k' = .dead
                              rw [apply_other _ _ _ (mem_map_dead hml), updR_same]
                            · exact absurd hm hml
                      rw [dead _ _ hm] at hl
                      cases hl
                    · rw [apply_other _ _ _ (mem_map_dead hm)] at hl
                      exact hl
                  have := (hR.own k' r' b hl2 hb').2.2
                  omega) (fun xx => resOk_mat_move hok2 (updI_same _ _ _))
                refine hnext _ _ F2 _ ⟨by rw [apply_append]; exact x.trans x2, by rw [apply_append]; exact R2, ?_, ?_⟩
                · rw [apply_append]; simp [apply, updR_same]
                · rw [updI_same]
              · cases h
            | io E0 E E2 t => cases h
          · cases h
        · exact ih (fun sp hsp => hl sp (List.mem_cons_of_mem _ hsp)) h
    exact main (env f) (fun sp hsp => henv f sp hsp) h
  · cases h

end ops
end Go.Vs
