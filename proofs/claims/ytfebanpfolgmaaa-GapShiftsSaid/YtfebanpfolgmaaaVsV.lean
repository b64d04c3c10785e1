/- The evaluator's twenty-second part: functions. -/
import Derived.Test.YtfebanpfolgmaaaVsU
namespace Go.Vs
set_option linter.unusedVariables false
set_option linter.unusedSimpArgs false
open Go.RowKit

variable {Γ : Env}

/-! ### how a call begins -/

def initAV : (p : PSh) → p.den Γ → AV Γ
  | .dat t, x => .v (datV t x)
  | .ptr t, x => .v (.one (.eaD t [x] 0 0))
  | .clo f ts, x => .v (.one (.clo f (fzCaps ts x)))
  | .ioM _ _ _ _, _ => .v (.one (.ptr KIO 0))

def initSlots : (ps : List PSh) → Args Γ ps → List (AV Γ)
  | [], _ => []
  | p :: ps, x => initAV p x.1 :: initSlots ps x.2

def initRes : (ps : List PSh) → Args Γ ps → List (Nat × Res Γ)
  | [], _ => []
  | .ioM E0 E E2 t :: _, x => [(KIO, .var E0 [.own (KIO + 1)]), (KIO + 1, .mat E E2 t x.1 0)]
  | .dat _ :: ps, x => initRes ps x.2
  | .ptr _ :: ps, x => initRes ps x.2
  | .clo _ _ :: ps, x => initRes ps x.2

def listAt (l : List (AV Γ)) : Nat → AV Γ := fun i => l.getD i undA

def initSt (kb n : Nat) (ps : List PSh) (x : Args Γ ps) : St Γ := ⟨listAt (initSlots ps x), n, resOf (initRes ps x), kb⟩

/-- At most one variable is lent. -/
def ioCount : List PSh → Nat
  | [] => 0
  | .ioM _ _ _ _ :: ps => ioCount ps + 1
  | .dat _ :: ps => ioCount ps
  | .ptr _ :: ps => ioCount ps
  | .clo _ _ :: ps => ioCount ps

section init
variable {w : World} {F : Nat → Prop} {blk : Nat} {ri : RI} {ρ : Nat → RI} {s : Nat → RStat Γ}

theorem fz_caps : ∀ {ts : List Ty} {x : Tup Γ ts} {vs : List Value}, CapsRep F w ts x vs → ConcCaps F ρ s w (fzCaps ts x) vs
  | [], x, vs, h => h
  | t :: ts, x, vs, h => by
    obtain ⟨v, r, rfl, h1, h2⟩ := h
    exact ⟨v, r, rfl, h1, fz_caps h2⟩

theorem init_conc (hio : ∀ v, v = Value.pointer (some ⟨blk, 0, none⟩) → s KIO ≠ .never ∧ v = .pointer (some ⟨(ρ KIO).blk, 0, none⟩)) : ∀ {ps : List PSh} {x : Args Γ ps} {vs : List Value}, PreL F w blk ri ps x vs → vs.length = ps.length ∧ ∀ i, ConcA F ρ s w (listAt (initSlots ps x) i) (vs.getD i undef)
  | [], x, vs, h => by
    have : vs = [] := h
    subst this
    exact ⟨rfl, fun i => trivial⟩
  | p :: ps, x, vs, h => by
    obtain ⟨v, r, rfl, h1, h2⟩ := h
    obtain ⟨g1, g2⟩ := init_conc hio h2
    refine ⟨by simp [g1], fun i => ?_⟩
    cases i with
    | succ i => exact g2 i
    | zero =>
      show ConcA F ρ s w (initAV p x.1) v
      cases p with
      | dat t => exact ValRep.to h1
      | ptr t =>
        obtain ⟨a, u, hv, hj⟩ := h1
        exact ⟨Int.le_refl _, Nat.one_pos, a, u, by rw [hv]; simp [Addr.add], hj⟩
      | clo f ts =>
        obtain ⟨us, hv, hc⟩ := h1
        exact ⟨us, hv, fz_caps hc⟩
      | ioM E0 E E2 t => exact hio v h1.1

theorem initRes_none : ∀ {ps : List PSh} {x : Args Γ ps}, ioCount ps = 0 → initRes ps x = []
  | [], x, _ => rfl
  | .dat _ :: ps, x, h => initRes_none (ps := ps) h
  | .ptr _ :: ps, x, h => initRes_none (ps := ps) h
  | .clo _ _ :: ps, x, h => initRes_none (ps := ps) h
  | .ioM _ _ _ _ :: ps, x, h => by simp [ioCount] at h

theorem initRes_some : ∀ {ps : List PSh} {x : Args Γ ps} {vs : List Value}, ioCount ps ≠ 0 → PreL F w blk ri ps x vs → ∃ E0 E E2 t l, initRes ps x = [(KIO, .var E0 [.own (KIO + 1)]), (KIO + 1, .mat E E2 t l 0)] ∧ w.heap[blk]? = some (.cells #[ri.val] E0 (0, 0)) ∧ MatRep F w E E2 t l ri
  | [], x, vs, h, _ => absurd rfl h
  | .dat _ :: ps, x, vs, h, hp => by obtain ⟨v, r, _, _, h2⟩ := hp; exact initRes_some (ps := ps) h h2
  | .ptr _ :: ps, x, vs, h, hp => by obtain ⟨v, r, _, _, h2⟩ := hp; exact initRes_some (ps := ps) h h2
  | .clo _ _ :: ps, x, vs, h, hp => by obtain ⟨v, r, _, _, h2⟩ := hp; exact initRes_some (ps := ps) h h2
  | .ioM E0 E E2 t :: ps, x, vs, h, hp => by
    obtain ⟨v, r, _, h1, _⟩ := hp
    exact ⟨E0, E, E2, t, x.1, rfl, h1.2.1, h1.2.2⟩

end init

/-- How a call begins, in memory. -/
theorem rel_init {w : World} {F : Nat → Prop} {blk : Nat} {ri : RI} {kb n : Nat} {ps : List PSh} {x : Args Γ ps} {vs : List Value} (hF : ∀ b, F b → b < w.heap.size) (hn : ps.length ≤ n) (io : Bool) (hcount : ioCount ps = cond io 1 0)
    (hio : io = true → blk < w.heap.size ∧ ¬ F blk ∧ blk ∉ ri.bl ∧ ∀ b ∈ ri.bl, b < w.heap.size ∧ ¬ F b) (hp : PreL F w blk ri ps x vs) :
    Rel ⟨w, F, fun b => io = true ∧ (b = blk ∨ b ∈ ri.bl), io, blk⟩ (initSt kb n ps x) { tmps := vs.toArray ++ Array.replicate (n - vs.toArray.size) undef, defers := [] } w := by
  have hsize : ∀ (h : vs.length = ps.length), (vs.toArray ++ Array.replicate (n - vs.toArray.size) undef).size = n := fun h => by simp; omega
  have hget : ∀ i, (vs.toArray ++ Array.replicate (n - vs.toArray.size) undef).getD i undef = vs.getD i undef := by
    intro i
    rw [Array.getD_eq_getD_getElem?, Array.getElem?_append, List.getD_eq_getElem?_getD]
    by_cases h : i < vs.length
    · simp [h]
    · simp only [List.size_toArray, h, if_false]
      rw [List.getElem?_eq_none (by omega), Array.getElem?_replicate]
      split <;> rfl
  cases io with
  | false =>
    have hr := initRes_none (x := x) (show ioCount ps = 0 from hcount)
    have hconc := init_conc (ρ := noI) (s := resOf (initRes ps x)) (F := F) (w := w) (blk := blk) (ri := ri) (ps := ps) (x := x) (vs := vs)
    have base : ∀ (hio : ∀ v, v = Value.pointer (some ⟨blk, 0, none⟩) → resOf (initRes ps x) KIO ≠ .never ∧ v = .pointer (some ⟨(noI KIO).blk, 0, none⟩)), vs.length = ps.length ∧ ∀ i, ConcA F noI (resOf (initRes ps x)) w (listAt (initSlots ps x) i) (vs.getD i undef) := fun h => init_conc h hp
    -- no variable is lent: the premise is never used
    have conc : vs.length = ps.length ∧ ∀ i, ConcA F noI (resOf (initRes ps x)) w (listAt (initSlots ps x) i) (vs.getD i undef) := by
      have go : ∀ {ps : List PSh} {x : Args Γ ps} {vs : List Value} (s : Nat → RStat Γ), ioCount ps = 0 → PreL F w blk ri ps x vs → vs.length = ps.length ∧ ∀ i, ConcA F noI s w (listAt (initSlots ps x) i) (vs.getD i undef) := by
        intro ps
        induction ps with
        | nil =>
          intro x vs s _ h
          have : vs = [] := h
          subst this
          exact ⟨rfl, fun i => trivial⟩
        | cons p ps ih =>
          intro x vs s hc h
          obtain ⟨v, r, rfl, h1, h2⟩ := h
          have hc' : ioCount ps = 0 := by cases p <;> simp [ioCount] at hc <;> exact hc
          obtain ⟨g1, g2⟩ := ih s hc' h2
          refine ⟨by simp [g1], fun i => ?_⟩
          cases i with
          | succ i => exact g2 i
          | zero =>
            show ConcA F noI s w (initAV p x.1) v
            cases p with
            | dat t => exact ValRep.to h1
            | ptr t =>
              obtain ⟨a, u, hv, hj⟩ := h1
              exact ⟨Int.le_refl _, Nat.one_pos, a, u, by rw [hv]; simp [Addr.add], hj⟩
            | clo f ts =>
              obtain ⟨us, hv, hc⟩ := h1
              exact ⟨us, hv, fz_caps hc⟩
            | ioM E0 E E2 t => simp [ioCount] at hc
      exact go _ hcount hp
    refine ⟨⟨F, noI, ⟨fun k r h => ?_, fun k r b h => ?_, fun k k' r r' b _ h => ?_, hF, ⟨rfl, rfl, rfl, Nat.le_refl _, fun _ _ _ => rfl⟩, fun b hb => .inl hb⟩, fun i => ?_, fun h => by cases h⟩, hsize conc.1, rfl⟩
    · have h' : resOf (initRes ps x) k = .live r := h
      rw [hr] at h'; cases h'
    · have h' : resOf (initRes ps x) k = .live r := h
      rw [hr] at h'; cases h'
    · have h' : resOf (initRes ps x) k = .live r := h
      rw [hr] at h'; cases h'
    · rw [hget]; exact conc.2 i
  | true =>
    obtain ⟨h1, h2, h3, h4⟩ := hio rfl
    obtain ⟨E0, E, E2, t, l, hr, hcell, hmat⟩ := initRes_some (by rw [hcount]; simp) hp
    let ρ : Nat → RI := fun k => if k = KIO then ⟨blk, .nilFunc, [], [blk]⟩ else ri
    have hs : ∀ k r, resOf (initRes ps x) k = .live r → (k = KIO ∧ r = .var E0 [.own (KIO + 1)]) ∨ (k = KIO + 1 ∧ r = .mat E E2 t l 0) := by
      intro k r h
      rw [hr] at h
      have := resOf_mem h
      simpa using this
    have hne : resOf (initRes ps x) KIO ≠ .never := resOf_ne (by rw [hr]; simp)
    have hne1 : resOf (initRes ps x) (KIO + 1) ≠ .never := resOf_ne (by rw [hr]; simp)
    have conc := init_conc (ρ := ρ) (s := resOf (initRes ps x)) (fun v hv => ⟨hne, by rw [hv]; rfl⟩) hp
    have hbl0 : (ρ KIO).bl = [blk] := rfl
    have hbl1 : ρ (KIO + 1) = ri := rfl
    refine ⟨⟨F, ρ, ⟨fun k r h => ?_, fun k r b h hb => ?_, fun k k' r r' b hkk h h' hb => ?_, hF, ⟨rfl, rfl, rfl, Nat.le_refl _, fun _ _ _ => rfl⟩, fun b hb => .inl hb⟩, fun i => ?_, fun _ => ⟨hne, rfl⟩⟩, hsize conc.1, rfl⟩
    · rcases hs k r h with ⟨rfl, rfl⟩ | ⟨rfl, rfl⟩
      · refine ⟨#[ri.val], hcell, List.mem_singleton.2 rfl, rfl, fun i hi => ?_⟩
        have : i = 0 := by simp at hi; omega
        subst this
        exact ⟨hne1, rfl⟩
      · exact resOk_mat_move hmat hbl1
    · rcases hs k r h with ⟨rfl, rfl⟩ | ⟨rfl, rfl⟩
      · rw [hbl0] at hb
        cases List.mem_singleton.1 hb
        exact ⟨h2, .inl ⟨rfl, .inl rfl⟩, h1⟩
      · rw [hbl1] at hb
        exact ⟨(h4 b hb).2, .inl ⟨rfl, .inr hb⟩, (h4 b hb).1⟩
    · rcases hs k r h with ⟨rfl, rfl⟩ | ⟨rfl, rfl⟩ <;> rcases hs k' r' h' with ⟨rfl, rfl⟩ | ⟨rfl, rfl⟩
      · exact absurd rfl hkk
      · rw [hbl0] at hb
        cases List.mem_singleton.1 hb
        rw [hbl1]
        exact h3
      · rw [hbl1] at hb
        rw [hbl0]
        intro hb'
        cases List.mem_singleton.1 hb'
        exact h3 hb
      · exact absurd rfl hkk
    · rw [hget]; exact conc.2 i

/-! ### how it ends -/

section fin
variable (ti : TypeId → Option (TI Γ))

def resV (st : St Γ) : ResultVar → Option (V1 Γ)
  | .tmp t => match st.slots t with
    | .v y => some y
    | .tup _ => none
  | .cell a T => match ti T with
    | some i => match addrSub st.res (st.slots a) i.size with
      | some sub => if i.und.agg then some (.agg sub) else
          match sub with
          | [c] => some (.one c)
          | _ => none
      | none => none
    | none => none

def resVs (st : St Γ) : List ResultVar → Option (List (V1 Γ))
  | [] => some []
  | v :: r => match resV ti st v, resVs st r with
    | some y, some l => some (y :: l)
    | _, _ => none

def datsOf (s : Nat → RStat Γ) : (ts : List Ty) → List (V1 Γ) → Option (Tup Γ ts × List Nat)
  | [], [] => some ((), [])
  | t :: ts, y :: ys => match toDat s (nilAs t y) t, datsOf s ts ys with
    | some (x, k1), some (z, k2) => some ((x, z), k1 ++ k2)
    | _, _ => none
  | _, _ => none

/-- The results. -/
def retOf (fn : Func) (st : St Γ) : (rs : RSh) → Option (rs.den Γ)
  | .dats ts => match resVs ti st fn.results.toList with
    | some ys => match datsOf st.res ts ys with
      | some (x, _) => some x
      | none => none
    | none => none
  | .arr E t => match resVs ti st fn.results.toList with
    | some [.one (.own k)] => match st.res k with
      | .live (.arr E' t' l) => if E' = E then asTy (Γ := Γ) ⟨.sl t', l⟩ (.sl t) else none
      | _ => none
    | some [.one (.nilT _)] => some []
    | _ => none
  | .mat E E2 t => match resVs ti st fn.results.toList with
    | some [.one (.own k)] => match st.res k with
      | .live (.mat E' E2' t' l _) => if E' = E ∧ E2' = E2 then asTy (Γ := Γ) ⟨.sl (.sl t'), l⟩ (.sl (.sl t)) else none
      | .live (.mix E' E2' t' l) => if E' = E ∧ E2' = E2 then (asMix (Γ := Γ) l t).bind fun l => chk (l.all (·.1)) (some (l.map (·.2))) else none
      | _ => none
    | some [.one (.nilT _)] => some []
    | _ => none
  | .io E0 E E2 t => match fn.results.toList, st.res KIO with
    | [], .live (.var E0' [.own k]) => match st.res k with
      | .live (.mat E' E2' t' l _) => if E0' = E0 ∧ E' = E ∧ E2' = E2 ∧ k ≠ KIO ∧ tscal Γ t = true then asTy (Γ := Γ) ⟨.sl (.sl t'), l⟩ (.sl (.sl t)) else none
      | _ => none
    | _, _ => none

/-- A FUNCTION. -/
noncomputable def vFun (env : EnvT Γ) (ann : Ann) (fuel : Nat) (fn : Func) (ps : List PSh) (rs : RSh) (x : Args Γ ps) : Option (rs.den Γ) :=
  match fn.body with
  | some c => if ps.length ≤ fn.ntmps ∧ ioCount ps = cond rs.isIo 1 0 then
      vCode ti env ann fuel c (rs.den Γ) (initSt 100 fn.ntmps ps x) fun e st => match e with
        | .exit _ => none
        | _ => retOf ti fn st rs
    else none
  | none => none

end fin

section spec
variable {P : Program} {ti : TypeId → Option (TI Γ)} {w0 : Base} {w : World} {F : Nat → Prop} {ρ : Nat → RI}

theorem resV_spec (hΓ : Γ.Ok) (hti : TIOk P ti) {st : St Γ} {a : Act} (hR : RelR w0 F ρ st.res w) (hs : ∀ i, ConcA F ρ st.res w (st.slots i) (a.tmps.getD i undef)) {rv : ResultVar} {y : V1 Γ} (h : resV ti st rv = some y) :
    ∃ v, (match rv with
      | .tmp t => pure (a.tmps.getD t undef)
      | .cell b t => do loadVar t (← asAddr (a.tmps.getD b undef)) : Sem Value).run P w = .ok v w ∧ Conc1 F ρ st.res w y v := by
  cases rv with
  | tmp t =>
    simp only [resV] at h
    split at h
    · rename_i y' hy
      cases h
      have := hs t
      rw [hy] at this
      exact ⟨_, rfl, this⟩
    · cases h
  | cell b T =>
    simp only [resV] at h
    split at h
    · rename_i inf hinf
      split at h
      · rename_i sub hsub
        obtain ⟨ad, u, hv, hlen, hj⟩ := addrSub_spec st.res hΓ hR hsub (hs b)
        split at h
        · rename_i hagg
          cases h
          have hrun := run_loadCells (P := P) w ad inf.size u (fun j hjn => (hj j hjn).1)
          refine ⟨.agg ((List.range inf.size).map u).toArray, by simp [hv, asAddr, loadVar, run_isAgg P hti hinf, hagg, run_sizeOf P hti hinf, hrun], _, rfl, by simp [hlen], fun j hjn => ?_⟩
          rw [hlen] at hjn
          have := (hj j hjn).2
          simpa [List.getD_eq_getElem?_getD, hjn] using this
        · rename_i hagg
          split at h
          · rename_i c
            cases h
            have h1 : 0 < inf.size := by rw [← hlen]; exact Nat.one_pos
            obtain ⟨g1, g2⟩ := hj 0 h1
            have e0 : ad.add 0 = ad := by simp [Addr.add]
            rw [e0] at g1
            exact ⟨u 0, by simp [hv, asAddr, loadVar, run_isAgg P hti hinf, hagg, g1], g2⟩
          · cases h
      · cases h
    · cases h

theorem resVs_spec (hΓ : Γ.Ok) (hti : TIOk P ti) {st : St Γ} {a : Act} (hR : RelR w0 F ρ st.res w) (hs : ∀ i, ConcA F ρ st.res w (st.slots i) (a.tmps.getD i undef)) : ∀ {l : List ResultVar} {ys : List (V1 Γ)}, resVs ti st l = some ys →
    ∃ vs : List Value, (l.mapM fun x => (match x with
      | .tmp t => pure (a.tmps.getD t undef)
      | .cell b t => do loadVar t (← asAddr (a.tmps.getD b undef)) : Sem Value)).run P w = .ok vs w ∧ vs.length = ys.length ∧ ∀ i, i < ys.length → Conc1 F ρ st.res w (ys.getD i (.one .undef)) (vs.getD i undef)
  | [], ys, h => by
    cases h
    exact ⟨[], by simp, rfl, fun i hi => absurd hi (Nat.not_lt_zero _)⟩
  | rv :: l, ys, h => by
    unfold resVs at h
    split at h
    · rename_i y l' h1 h2
      cases h
      obtain ⟨v, g1, g2⟩ := resV_spec hΓ hti hR hs h1
      obtain ⟨vs, g3, g4, g5⟩ := resVs_spec hΓ hti hR hs h2
      refine ⟨v :: vs, ?_, by simp [g4], fun i hi => ?_⟩
      · rw [List.mapM_cons]
        simp only [Sem.run_bind, g1, Result.andThen_ok, g3, Sem.run_pure]
      · cases i with
        | zero => exact g2
        | succ i => exact g5 i (by simpa using hi)
    · cases h

theorem run_results {fn : Func} {a : Act} {vs : List Value} (h : (fn.results.toList.mapM fun x => (match x with
      | .tmp t => pure (a.tmps.getD t undef)
      | .cell b t => do loadVar t (← asAddr (a.tmps.getD b undef)) : Sem Value)).run P w = .ok vs w) : (results fn a.tmps).run P w = .ok (oneOrTup vs) w := by
  unfold results
  rw [Array.mapM_eq_mapM_toList]
  simp only [Sem.run_bind, Sem.run_map]
  have e : ∀ (f g : ResultVar → Sem Value), (∀ x, f x = g x) → List.mapM f fn.results.toList = List.mapM g fn.results.toList := fun f g h => by rw [show f = g from funext h]
  rw [e _ (fun x => (match x with
      | .tmp t => pure (a.tmps.getD t undef)
      | .cell b t => do loadVar t (← asAddr (a.tmps.getD b undef)) : Sem Value)) (fun x => by cases x <;> rfl), h]
  simp only [Result.andThen_ok, Sem.run_pure]
  match vs with
  | [] => rfl
  | [v] => rfl
  | _ :: _ :: _ => rfl

theorem datsOf_spec (hΓ : Γ.Ok) {s : Nat → RStat Γ} (hR : RelR w0 F ρ s w) : ∀ {ts : List Ty} {ys : List (V1 Γ)} {x : Tup Γ ts} {ks : List Nat} {vs : List Value}, datsOf s ts ys = some (x, ks) → vs.length = ys.length → (∀ i, i < ys.length → Conc1 F ρ s w (ys.getD i (.one .undef)) (vs.getD i undef)) →
    TupRep (U F ρ ks) w ts x vs ∧ ∀ k ∈ ks, ∃ r, s k = .live r
  | [], [], x, ks, vs, h, hl, hc => by
    cases h
    exact ⟨List.eq_nil_of_length_eq_zero hl, fun k hk => by cases hk⟩
  | [], _ :: _, x, ks, vs, h, hl, hc => by cases h
  | _ :: _, [], x, ks, vs, h, hl, hc => by cases h
  | t :: ts, y :: ys, x, ks, vs, h, hl, hc => by
    unfold datsOf at h
    split at h
    · rename_i x1 k1 x2 k2 h1 h2
      cases h
      cases vs with
      | nil => simp at hl
      | cons v vs =>
        have a1 := toDat_spec hΓ hR h1 (nilAs_conc (by have := hc 0 (by simp); simpa using this))
        obtain ⟨a2, a3⟩ := datsOf_spec hΓ hR h2 (vs := vs) (by simpa using hl) (fun i hi => by have := hc (i + 1) (by simpa using hi); simpa using this)
        have mono : ∀ {ts : List Ty} {x : Tup Γ ts} {vs : List Value} {F F' : Nat → Prop}, (∀ b, F b → F' b) → TupRep F w ts x vs → TupRep F' w ts x vs := by
          intro ts
          induction ts with
          | nil => intro x vs F F' _ h; exact h
          | cons t ts ih =>
            intro x vs F F' hF h
            obtain ⟨v, r, hv, h1, h2⟩ := h
            exact ⟨v, r, hv, h1.monoF hF, ih hF h2⟩
        refine ⟨⟨v, vs, rfl, a1.monoF (U_mono fun q hq => List.mem_append_left _ hq), mono (U_mono fun q hq => List.mem_append_right _ hq) a2⟩, fun k hk => ?_⟩
        rcases List.mem_append.1 hk with hk | hk
        · exact toDat_live h1 k hk
        · exact a3 k hk
    · cases h

/-- THE THEOREM: what the evaluator says of a function is its contract. -/
theorem vFun_contract (hΓ : Γ.Ok) (hti : TIOk P ti) (hfull : TIFull ti) {env : EnvT Γ} (henv : EnvOk P env) (hmix : P.follows .mixedOrders = true) {ann : Ann} {fuel : Nat} {f : FuncId} {fn : Func} (hf : P.funcs[f]? = some fn) {ps : List PSh} {rs : RSh} {g : Args Γ ps → Option (rs.den Γ)}
    (hg : ∀ x r, g x = some r → ∃ ann fuel, vFun ti env ann fuel fn ps rs x = some r) : Contract P f ⟨ps, rs, g⟩ := by
  intro x r hx F w vs blk ri hF hio hp
  obtain ⟨ann, fuel, hv⟩ := hg x r hx
  unfold vFun at hv
  split at hv
  · rename_i c hbody
    split at hv
    · rename_i hcond
      obtain ⟨hn, hcount⟩ := hcond
      have hrel := rel_init (kb := 100) hF hn rs.isIo hcount hio hp
      refine calls_of_wp hf hbody (vCode_sound hΓ hti hfull henv hmix c (rs.den Γ) _ _ r _ w _ hv hrel fun e st a' w' hk hr' hn' hkb' => ?_)
      have fin : retOf ti fn st rs = some r → bodyPost P fn (fun e w' => ∃ v F', e = .returned v ∧ Fr F (fun b => rs.isIo = true ∧ (b = blk ∨ b ∈ ri.bl)) w F' w' ∧ RetP F F' w w' blk ri rs r v) .normal a' w' := by
        intro hret
        obtain ⟨⟨F1, ρ, hR, hs, hlent⟩, hsz, hd⟩ := hr'
        have hbelow := hR.below
        have fr : ∀ (F' : Nat → Prop), (∀ b, F b → F' b) → (∀ b, F' b → F b ∨ w.heap.size ≤ b) → (∀ b, F' b → b < w'.heap.size) → Fr F (fun b => rs.isIo = true ∧ (b = blk ∨ b ∈ ri.bl)) w F' w' := fun F' h1 h2 h3 =>
          ⟨hbelow.os, hbelow.tape, hbelow.output, hbelow.size, fun b hb hM => hbelow.block b hb hM, h1, h2, h3⟩
        have noM : rs.isIo = false → ∀ b, (Base.mine ⟨w, F, fun b => rs.isIo = true ∧ (b = blk ∨ b ∈ ri.bl), rs.isIo, blk⟩ b) → w.heap.size ≤ b := fun h b hb => by
          rcases hb with ⟨hb, _⟩ | hb
          · rw [h] at hb; cases hb
          · exact hb
        have fr1 : rs.isIo = false → ∀ (ks : List Nat), (∀ k ∈ ks, ∃ r, st.res k = .live r) → Fr F (fun b => rs.isIo = true ∧ (b = blk ∨ b ∈ ri.bl)) w (fun b => F b ∨ U F1 ρ ks b) w' := fun hno ks hl => fr _ (fun b hb => .inl hb) (fun b hb => by
            rcases hb with hb | hb | ⟨k, hk, hb⟩
            · exact .inl hb
            · rcases hR.grow b hb with h | h
              · exact .inl h
              · exact .inr (noM hno b h)
            · obtain ⟨r, hr⟩ := hl k hk
              exact .inr (noM hno b (hR.own k r b hr hb).2.1)) (fun b hb => by
            rcases hb with hb | hb
            · exact Nat.lt_of_lt_of_le (hF b hb) hbelow.size
            · exact U_fin hR hl b hb)
        have ownNew : rs.isIo = false → ∀ k r, st.res k = .live r → ∀ b ∈ (ρ k).bl, w.heap.size ≤ b ∧ b < w'.heap.size ∧ ¬ (F b ∨ U F1 ρ [] b) := fun hno k r hr b hb => by
          obtain ⟨g1, g2, g3⟩ := hR.own k r b hr hb
          have h1 := noM hno b g2
          refine ⟨h1, g3, fun h => ?_⟩
          rcases h with h | h | ⟨k', hk', _⟩
          · have := hF b h; omega
          · exact g1 h
          · cases hk'
        refine ⟨hd, ?_⟩
        cases rs with
        | dats ts =>
          simp only [retOf] at hret
          split at hret
          · rename_i ys hys
            split at hret
            · rename_i x' ks hds
              cases hret
              obtain ⟨us, h1, h2, h3⟩ := resVs_spec (P := P) hΓ hti hR hs hys
              obtain ⟨htup, hlive⟩ := datsOf_spec hΓ hR hds h2 h3
              have mono : ∀ {ts : List Ty} {x : Tup Γ ts} {vs : List Value} {F F' : Nat → Prop}, (∀ b, F b → F' b) → TupRep F w' ts x vs → TupRep F' w' ts x vs := by
                intro ts
                induction ts with
                | nil => intro x vs F F' _ h; exact h
                | cons t ts ih =>
                  intro x vs F F' hF h
                  obtain ⟨v, r, hv, h1, h2⟩ := h
                  exact ⟨v, r, hv, h1.monoF hF, ih hF h2⟩
              exact ⟨oneOrTup us, run_results h1, _, _, rfl, fr1 rfl ks hlive, us, rfl, mono (fun b hb => .inr hb) htup⟩
            · cases hret
          · cases hret
        | arr E t =>
          simp only [retOf] at hret
          split at hret
          · rename_i k hys
            split at hret
            · rename_i E' t' l hk
              have hret2 : (if E' = E then asTy (Γ := Γ) ⟨.sl t', l⟩ (.sl t) else (none : Option (Den Γ (.sl t)))) = some r := hret
              by_cases e : E' = E
              · rw [if_pos e] at hret2
                subst e
                have e := asTy_some hret2
                cases e
                obtain ⟨us, h1, h2, h3⟩ := resVs_spec (P := P) hΓ hti hR hs hys
                match us, h2 with
                | [u], _ =>
                  have hu : u = (ρ k).val := (h3 0 Nat.one_pos).2
                  refine ⟨u, run_results h1, u, _, rfl, fr1 rfl [] (fun k hk => by cases hk), (ρ k).bl, ownNew rfl k _ hk, ?_⟩
                  obtain ⟨xs, q1, q2, q3⟩ := hR.res k _ hk
                  exact ⟨xs, by rw [hu]; exact q1, q2.mono (Keeps.refl _ _) (fun b hb => .inr (.inl hb)), by rw [hu]; exact q3⟩
              · rw [if_neg e] at hret2; cases hret2
            · cases hret
          · rename_i tn hys
            cases hret
            obtain ⟨us, h1, h2, h3⟩ := resVs_spec (P := P) hΓ hti hR hs hys
            match us, h2 with
            | [u], _ =>
              have hu : u = .slice none 0 0 := h3 0 Nat.one_pos
              refine ⟨u, run_results h1, u, _, rfl, fr1 rfl [] (fun k hk => by cases hk), [], (fun b hb => by cases hb), ?_⟩
              rw [hu]
              exact ⟨[], ⟨by simp, .inl ⟨rfl, rfl⟩⟩, ⟨rfl, fun i hi => by cases hi⟩, fun b hb => by cases hb⟩
          · cases hret
        | mat E E2 t =>
          simp only [retOf] at hret
          split at hret
          · rename_i k hys
            split at hret
            · rename_i E' E2' t' l n hk
              have hret2 : (if E' = E ∧ E2' = E2 then asTy (Γ := Γ) ⟨.sl (.sl t'), l⟩ (.sl (.sl t)) else (none : Option (Den Γ (.sl (.sl t))))) = some r := hret
              by_cases e : E' = E ∧ E2' = E2
              · rw [if_pos e] at hret2
                obtain ⟨rfl, rfl⟩ := e
                have e := asTy_some hret2
                cases e
                obtain ⟨us, h1, h2, h3⟩ := resVs_spec (P := P) hΓ hti hR hs hys
                match us, h2 with
                | [u], _ =>
                  have hu : u = (ρ k).val := (h3 0 Nat.one_pos).2
                  refine ⟨u, run_results h1, u, _, rfl, fr1 rfl [] (fun k hk => by cases hk), (ρ k).rows, (ρ k).bl, ownNew rfl k _ hk, ?_⟩
                  obtain ⟨q1, q2, q3, q4, q5⟩ := hR.res k _ hk
                  rw [hu]
                  exact ⟨q1, fun i hi => by obtain ⟨ys, y1, y2⟩ := q2 i hi; exact ⟨ys, y1, y2.mono (Keeps.refl _ _) (fun b hb => .inr (.inl hb))⟩, q3, q4, q5⟩
              · rw [if_neg e] at hret2; cases hret2
            · rename_i E' E2' t' l hmx
              have hret2 : (if E' = E ∧ E2' = E2 then (asMix (Γ := Γ) l t).bind fun l => chk (l.all (·.1)) (some (l.map (·.2))) else (none : Option (List (List (Den Γ t))))) = some r := hret
              by_cases e : E' = E ∧ E2' = E2
              · rw [if_pos e] at hret2
                obtain ⟨rfl, rfl⟩ := e
                obtain ⟨z, hz, hret2⟩ := Option.bind_eq_some_iff.1 hret2
                obtain ⟨e, e2⟩ := asMix_some hz
                subst e
                subst e2
                obtain ⟨hall, hret2⟩ := chk_some hret2
                have hret2 := Option.some.inj hret2
                obtain ⟨us, h1, h2, h3⟩ := resVs_spec (P := P) hΓ hti hR hs hys
                match us, h2 with
                | [u], _ =>
                  have hu : u = (ρ k).val := (h3 0 Nat.one_pos).2
                  obtain ⟨rows, q1, q2, q2', q3, q4, q5⟩ := hR.res k _ hmx
                  refine ⟨u, run_results h1, u, _, rfl, fr1 rfl [] (fun k hk => by cases hk), rows, (ρ k).bl, ownNew rfl k _ hmx, ?_⟩
                  rw [hu]
                  have hfl : ∀ i, i < l.length → (l.getD i (false, [])).1 = true := fun i hi => by
                    have h : l.getD i (false, []) = l[i] := by simp [List.getD_eq_getElem?_getD, hi]
                    rw [h]
                    exact List.all_eq_true.1 hall _ (List.getElem_mem hi)
                  have hg : ∀ i, i < l.length → (l.map (·.2)).getD i [] = (l.getD i (false, [])).2 := fun i hi => by simp [List.getD_eq_getElem?_getD, hi]
                  rw [← hret2]
                  refine ⟨by rw [List.length_map]; exact q1, fun i hi => ?_, q3, fun i b hi hb => ?_, fun i j b hij hi hj hb => ?_⟩
                  · rw [List.length_map] at hi
                    obtain ⟨ys, y1, y2⟩ := q2 i hi (hfl i hi)
                    rw [hg i hi]
                    exact ⟨ys, y1, y2.mono (Keeps.refl _ _) (fun b hb => .inr (.inl hb))⟩
                  · rw [List.length_map] at hi
                    exact q4 i b hi (hfl i hi) hb
                  · rw [List.length_map] at hi hj
                    exact q5 i j b hij hi hj (hfl i hi) (hfl j hj) hb
              · rw [if_neg e] at hret2; cases hret2
            · cases hret
          · rename_i tn hys
            cases hret
            obtain ⟨us, h1, h2, h3⟩ := resVs_spec (P := P) hΓ hti hR hs hys
            match us, h2 with
            | [u], _ =>
              have hu : u = .slice none 0 0 := h3 0 Nat.one_pos
              refine ⟨u, run_results h1, u, _, rfl, fr1 rfl [] (fun k hk => by cases hk), [], [], (fun b hb => by cases hb), ?_⟩
              rw [hu]
              exact ⟨⟨by simp, .inl ⟨rfl, rfl⟩⟩, fun i (hi : i < 0) => absurd hi (Nat.not_lt_zero _), fun b (hb : none = some b) => (by cases hb), fun i b (hi : i < 0) => absurd hi (Nat.not_lt_zero _), fun i j b _ (hi : i < 0) => absurd hi (Nat.not_lt_zero _)⟩
          · cases hret
        | io E0 E E2 t =>
          simp only [retOf] at hret
          split at hret
          · rename_i E0' k hres hkio
            split at hret
            · rename_i E' E2' t' l n hk
              have hret2 : (if E0' = E0 ∧ E' = E ∧ E2' = E2 ∧ k ≠ KIO ∧ tscal Γ t = true then asTy (Γ := Γ) ⟨.sl (.sl t'), l⟩ (.sl (.sl t)) else (none : Option (Den Γ (.sl (.sl t))))) = some r := hret
              by_cases e : E0' = E0 ∧ E' = E ∧ E2' = E2 ∧ k ≠ KIO ∧ tscal Γ t = true
              · rw [if_pos e] at hret2
                obtain ⟨rfl, rfl, rfl, hne, hsc⟩ := e
                have e := asTy_some hret2
                cases e
                obtain ⟨i1, i2, i3, i4⟩ := hio rfl
                obtain ⟨_, hb0⟩ := hlent rfl
                obtain ⟨arr, g1, g2, g3⟩ := hR.res KIO _ hkio
                have hbk : (ρ KIO).blk = blk := hb0
                rw [hbk] at g1 g2
                have harr : arr = #[(ρ k).val] := by
                  have h1 := g3.1
                  have h2 := (g3.2 0 Nat.one_pos).2
                  apply Array.ext'
                  match hl : arr.toList, h1 with
                  | [v], _ =>
                    rw [hl] at h2
                    have : v = (ρ k).val := h2
                    rw [this]
                rw [harr] at g1
                have hbl : ∀ b ∈ (ρ k).bl, (b ∈ ri.bl ∨ w.heap.size ≤ b) ∧ b < w'.heap.size ∧ ¬ F b ∧ b ≠ blk := fun b hb => by
                  obtain ⟨q1, q2, q3⟩ := hR.own k _ b hk hb
                  have hnb : b ≠ blk := fun e => hR.disj k KIO _ _ b hne hk hkio hb (by rw [e]; exact g2)
                  rcases q2 with ⟨_, q2 | q2⟩ | q2
                  · exact absurd q2 hnb
                  · exact ⟨.inl q2, q3, (i4 b q2).2, hnb⟩
                  · exact ⟨.inr q2, q3, fun h => by have h1 := hF b h; have h2 : w.heap.size ≤ b := q2; omega, hnb⟩
                have hrun : (results fn a'.tmps).run P w' = .ok (oneOrTup []) w' := run_results (by rw [hres]; rfl)
                refine ⟨.tuple #[], hrun, .tuple #[], F, rfl, fr F (fun b h => h) (fun b h => .inl h) (fun b h => Nat.lt_of_lt_of_le (hF b h) hbelow.size), rfl, ρ k, hbl, i2, g1, ?_⟩
                exact mat_scal hΓ hsc (mat_to_rep (hR.res k _ hk))
              · rw [if_neg e] at hret2; cases hret2
            · cases hret
          · cases hret
      cases e with
      | normal => exact fin hk
      | ret => exact fin hk
      | exit id => cases hk
    · cases hv
  · cases hv
end spec

end Go.Vs
