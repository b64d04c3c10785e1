/- The evaluator: calls of a function to which a variable is lent. -/
import Derived.Test.YtfebanpfolgmaaaVsQ
namespace Go.Vs
set_option linter.unusedVariables false
set_option linter.unusedSimpArgs false
open Go.RowKit

variable {Γ : Env}

/-- An argument; the keys of what it reads; the variable that is lent and what it holds. -/
def argIo (s : Nat → RStat Γ) : (p : PSh) → AV Γ → Option (p.den Γ × List Nat × List (Nat × Nat))
  | .ioM E0 E E2 t, .v (.one (.ptr k 0)) => match s k with
    | .live (.var E0' [.own k2]) => match s k2 with
      | .live (.mat E' E2' t' l _) => if E0' = E0 ∧ E' = E ∧ E2' = E2 then match asTy (Γ := Γ) ⟨.sl (.sl t'), l⟩ (.sl (.sl t)) with
          | some z => some (z, [], [(k, k2)])
          | none => none
        else none
      | _ => none
    | _ => none
  | p, a => match argOf s p a with
    | some (x, ks) => some (x, ks, [])
    | none => none

def argsIo (s : Nat → RStat Γ) : (ps : List PSh) → List (AV Γ) → Option (Args Γ ps × List Nat × List (Nat × Nat))
  | [], [] => some ((), [], [])
  | p :: ps, a :: as => match argIo s p a, argsIo s ps as with
    | some (x, k1, i1), some (y, k2, i2) => some ((x, y), k1 ++ k2, i1 ++ i2)
    | _, _ => none
  | _, _ => none

theorem argIo_congr {s s2 : Nat → RStat Γ} {p : PSh} {a : AV Γ} (h : ∀ q ∈ argKeys s a, s2 q = s q) : argIo s2 p a = argIo s p a := by
  unfold argIo
  split
  · rename_i E0 E E2 t k
    rw [h k List.mem_cons_self]
    split
    · rename_i E0' k2 hk
      have : s2 k2 = s k2 := h k2 (by simp [argKeys, varKeys, hk, cvKeys])
      rw [this]
    · rfl
  · rw [argOf_congr h]

theorem argsIo_congr {s s2 : Nat → RStat Γ} : ∀ {ps : List PSh} {as : List (AV Γ)}, (∀ q ∈ as.flatMap (argKeys s), s2 q = s q) → argsIo s2 ps as = argsIo s ps as
  | [], [], _ => rfl
  | [], _ :: _, _ => rfl
  | _ :: _, [], _ => rfl
  | p :: ps, a :: as, h => by
    rw [List.flatMap_cons] at h
    unfold argsIo
    rw [argIo_congr (fun q hq => h q (List.mem_append_left _ hq)), argsIo_congr (fun q hq => h q (List.mem_append_right _ hq))]

section spec
variable {w0 : Base} {w : World} {F : Nat → Prop} {ρ : Nat → RI} {s : Nat → RStat Γ}

theorem argIo_spec (hΓ : Γ.Ok) (hR : RelR w0 F ρ s w) {p : PSh} {a : AV Γ} {x : p.den Γ} {ks : List Nat} {is : List (Nat × Nat)} {v : Value} {k k2 : Nat} (h : argIo s p a = some (x, ks, is)) (hi : ∀ q ∈ is, q = (k, k2)) (hc : ConcA F ρ s w a v) : PreP (U F ρ ks) w (ρ k).blk (ρ k2) p x v := by
  unfold argIo at h
  split at h
  · rename_i E0 E E2 t kk
    split at h
    · rename_i E0' kk2 hk
      split at h
      · rename_i E' E2' t' l n hk2
        split at h
        · rename_i e
          obtain ⟨rfl, rfl, rfl⟩ := e
          split at h
          · rename_i z hz
            cases h
            have e := asTy_some hz
            cases e
            have e := hi (kk, kk2) (List.mem_singleton.2 rfl)
            cases e
            obtain ⟨arr, g1, g2, g3⟩ := hR.res k _ hk
            have harr : arr = #[(ρ k2).val] := by
              have h1 := g3.1
              have h2 := (g3.2 0 Nat.one_pos).2
              apply Array.ext'
              match hl : arr.toList, h1 with
              | [u], _ =>
                rw [hl] at h2
                have : u = (ρ k2).val := h2
                rw [this]
            rw [harr] at g1
            refine PreP.monoF (F := F) (fun b hb => .inl hb) ⟨hc.2, g1, mat_to_rep (hR.res k2 _ hk2)⟩
          · cases h
        · cases h
      · cases h
    · cases h
  · split at h
    · rename_i x' ks' hx
      cases h
      exact argOf_spec hΓ hR _ _ hx hc
    · cases h

theorem argsIo_spec (hΓ : Γ.Ok) (hR : RelR w0 F ρ s w) {k k2 : Nat} : ∀ {ps : List PSh} {as : List (AV Γ)} {x : Args Γ ps} {ks : List Nat} {is : List (Nat × Nat)} {vs : List Value}, argsIo s ps as = some (x, ks, is) → (∀ q ∈ is, q = (k, k2)) → vs.length = as.length → (∀ i, i < as.length → ConcA F ρ s w (as.getD i undA) (vs.getD i undef)) → PreL (U F ρ ks) w (ρ k).blk (ρ k2) ps x vs
  | [], [], x, ks, is, vs, h, hi, hl, hc => List.eq_nil_of_length_eq_zero hl
  | [], _ :: _, x, ks, is, vs, h, hi, hl, hc => by cases h
  | _ :: _, [], x, ks, is, vs, h, hi, hl, hc => by cases h
  | p :: ps, a :: as, x, ks, is, vs, h, hi, hl, hc => by
    unfold argsIo at h
    split at h
    · rename_i x1 k1 i1 x2 k2' i2 h1 h2
      cases h
      cases vs with
      | nil => simp at hl
      | cons v vs =>
        have a1 := argIo_spec hΓ hR h1 (fun q hq => hi q (List.mem_append_left _ hq)) (by have := hc 0 (by simp); simpa using this)
        have a2 := argsIo_spec hΓ hR h2 (fun q hq => hi q (List.mem_append_right _ hq)) (vs := vs) (by simpa using hl) (fun i hi => by have := hc (i + 1) (by simpa using hi); simpa using this)
        exact ⟨v, vs, rfl, PreP.monoF (U_mono fun q hq => List.mem_append_left _ hq) a1, PreL.monoF (U_mono fun q hq => List.mem_append_right _ hq) a2⟩
    · cases h

theorem argIo_live {p : PSh} {a : AV Γ} {x : p.den Γ} {ks : List Nat} {is : List (Nat × Nat)} (h : argIo s p a = some (x, ks, is)) : (∀ k ∈ ks, ∃ r, s k = .live r) ∧ ∀ q ∈ is, ∃ E0 E E2 t l n, s q.1 = .live (.var E0 [.own q.2]) ∧ s q.2 = .live (.mat E E2 t l n) := by
  unfold argIo at h
  split at h
  · rename_i E0 E E2 t kk
    split at h
    · rename_i E0' kk2 hk
      split at h
      · rename_i E' E2' t' l n hk2
        split at h
        · split at h
          · cases h
            refine ⟨(fun k hk => by cases hk), fun q hq => ?_⟩
            cases List.mem_singleton.1 hq
            exact ⟨_, _, _, _, _, _, hk, hk2⟩
          · cases h
        · cases h
      · cases h
    · cases h
  · split at h
    · rename_i x' ks' hx
      cases h
      exact ⟨argOf_live hx, fun q hq => by cases hq⟩
    · cases h

theorem argsIo_live : ∀ {ps : List PSh} {as : List (AV Γ)} {x : Args Γ ps} {ks : List Nat} {is : List (Nat × Nat)}, argsIo s ps as = some (x, ks, is) → (∀ k ∈ ks, ∃ r, s k = .live r) ∧ ∀ q ∈ is, ∃ E0 E E2 t l n, s q.1 = .live (.var E0 [.own q.2]) ∧ s q.2 = .live (.mat E E2 t l n)
  | [], [], x, ks, is, h => by cases h; exact ⟨(fun k hk => by cases hk), fun k hk => by cases hk⟩
  | [], _ :: _, x, ks, is, h => by cases h
  | _ :: _, [], x, ks, is, h => by cases h
  | p :: ps, a :: as, x, ks, is, h => by
    unfold argsIo at h
    split at h
    · rename_i x1 k1 i1 x2 k2 i2 h1 h2
      cases h
      obtain ⟨a1, a2⟩ := argIo_live h1
      obtain ⟨b1, b2⟩ := argsIo_live h2
      refine ⟨fun k hk => ?_, fun q hq => ?_⟩
      · rcases List.mem_append.1 hk with hk | hk
        · exact a1 k hk
        · exact b1 k hk
      · rcases List.mem_append.1 hq with hq | hq
        · exact a2 q hq
        · exact b2 q hq
    · cases h

/-- The memory behind a call to which a variable was lent. -/
theorem RelR.lent (hΓ : Γ.Ok) (hR : RelR w0 F ρ s w) {k k2 key : Nat} {ks : List Nat} {E0 E E2 : TypeId} {t : Ty} {r0 : Res Γ} {l' : List (List (Den Γ t))} {F' : Nat → Prop} {w' : World} {E0' : TypeId} (hk : s k = .live (.var E0' [.own k2])) (hk2 : s k2 = .live r0) (hkk : k ≠ k2) (hnew : s key = .never)
    (hsc : tscal Γ t = true) (hfr : Fr (U F ρ ks) (fun b => b = (ρ k).blk ∨ b ∈ (ρ k2).bl) w F' w') {ri' : RI} (hbl : ∀ b ∈ ri'.bl, (b ∈ (ρ k2).bl ∨ w.heap.size ≤ b) ∧ b < w'.heap.size ∧ ¬ F' b ∧ b ≠ (ρ k).blk)
    (hcell : w'.heap[(ρ k).blk]? = some (.cells #[ri'.val] E0 (0, 0))) (hm : MatRep F' w' E E2 t l' ri') :
    Ext F ρ s w F (updI ρ key ri') (updR (updR (updR s k2 .dead) key (.live (.mat E E2 t l' 0))) k (.live (.var E0 [.own key]))) w' ∧
    RelR w0 F (updI ρ key ri') (updR (updR (updR s k2 .dead) key (.live (.mat E E2 t l' 0))) k (.live (.var E0 [.own key]))) w' := by
  have hkk' : k ≠ key := fun e => by rw [e, hnew] at hk; cases hk
  have hk2k : k2 ≠ key := fun e => by rw [e, hnew] at hk2; cases hk2
  obtain ⟨arr, g1, g2, g3⟩ := hR.res k _ hk
  have hM : ∀ j r b, s j = .live r → j ≠ k → j ≠ k2 → b ∈ (ρ j).bl → ¬ (b = (ρ k).blk ∨ b ∈ (ρ k2).bl) := by
    intro j r b hj h1 h2 hb hor
    rcases hor with rfl | h
    · exact hR.disj j k _ _ _ h1 hj hk hb g2
    · exact hR.disj j k2 _ _ b h2 hj hk2 hb h
  have hFM : ∀ b, F b → ¬ (b = (ρ k).blk ∨ b ∈ (ρ k2).bl) := by
    intro b hF hor
    rcases hor with rfl | h
    · exact (hR.own k _ _ hk g2).1 hF
    · exact (hR.own k2 _ b hk2 h).1 hF
  -- the states
  have st : ∀ j, j ≠ k → j ≠ k2 → j ≠ key → (updR (updR (updR s k2 .dead) key (.live (.mat E E2 t l' 0))) k (.live (.var E0 [.own key]))) j = s j := fun j h1 h2 h3 => by
    rw [updR_other h1, updR_other h3, updR_other h2]
  have stk : (updR (updR (updR s k2 .dead) key (.live (.mat E E2 t l' 0))) k (.live (.var E0 [.own key]))) k = .live (.var E0 [.own key]) := updR_same _ _ _
  have stkey : (updR (updR (updR s k2 .dead) key (.live (.mat E E2 t l' 0))) k (.live (.var E0 [.own key]))) key = .live (.mat E E2 t l' 0) := by rw [updR_other (Ne.symm hkk'), updR_same]
  have stk2 : (updR (updR (updR s k2 .dead) key (.live (.mat E E2 t l' 0))) k (.live (.var E0 [.own key]))) k2 = .dead := by rw [updR_other (Ne.symm hkk), updR_other hk2k, updR_same]
  generalize hs' : updR (updR (updR s k2 .dead) key (.live (.mat E E2 t l' 0))) k (.live (.var E0 [.own key])) = s' at st stk stkey stk2
  have x : Ext F ρ s w F (updI ρ key ri') s' w' := by
    refine ⟨⟨hfr.size, fun b hF => hfr.block b (hR.fin b hF) (hFM b hF)⟩, fun _ h => h, fun j hj => ?_⟩
    have hjk : j ≠ key := fun e => hj (by rw [e]; exact hnew)
    refine ⟨?_, by rw [updI_other hjk], by rw [updI_other hjk], fun r' hr' => ?_⟩
    · by_cases e1 : j = k
      · subst e1; rw [stk]; simp
      · by_cases e2 : j = k2
        · subst e2; rw [stk2]; simp
        · rw [st j e1 e2 hjk]; exact hj
    · by_cases e1 : j = k
      · subst e1
        rw [stk] at hr'
        cases hr'
        exact ⟨_, hk, rfl, rfl, fun _ _ _ _ _ h => by cases h⟩
      · by_cases e2 : j = k2
        · subst e2; rw [stk2] at hr'; cases hr'
        · rw [st j e1 e2 hjk] at hr'
          exact ⟨r', hr', by rw [updI_other hjk]; exact Goes.refl _ _⟩
  refine ⟨x, ⟨fun j r hj => ?_, fun j r b hj hb => ?_, fun j j' r r' b hne hj hj' hb => ?_, fun b hF => Nat.lt_of_lt_of_le (hR.fin b hF) hfr.size, ⟨hfr.os.trans hR.below.os, hfr.tape.trans hR.below.tape, hfr.output.trans hR.below.output, Nat.le_trans hR.below.size hfr.size, fun b hb hMb => ?_⟩, hR.grow⟩⟩
  · by_cases e1 : j = k
    · subst e1
      rw [stk] at hj
      cases hj
      refine ⟨#[ri'.val], by rw [updI_other hkk']; exact hcell, by rw [updI_other hkk']; exact g2, rfl, fun i hi => ?_⟩
      have : i = 0 := by simp at hi; omega
      subst this
      exact ⟨by rw [stkey]; simp, by rw [updI_same]; rfl⟩
    · by_cases e3 : j = key
      · subst e3
        rw [stkey] at hj
        cases hj
        exact resOk_mat_move (mat_scal hΓ hsc hm) (updI_same _ _ _)
      · by_cases e2 : j = k2
        · subst e2; rw [stk2] at hj; cases hj
        · rw [st j e1 e2 e3] at hj
          exact (hR.res j r hj).keep x (updI_other e3) fun b hb => hfr.block b (hR.own j r b hj hb).2.2 (hM j r b hj e1 e2 hb)
  · by_cases e1 : j = k
    · subst e1
      rw [updI_other hkk'] at hb
      obtain ⟨q1, q2, q3⟩ := hR.own j _ b hk hb
      exact ⟨q1, q2, Nat.lt_of_lt_of_le q3 hfr.size⟩
    · by_cases e3 : j = key
      · subst e3
        rw [updI_same] at hb
        obtain ⟨q1, q2, q3, q4⟩ := hbl b hb
        refine ⟨fun hF => q3 (hfr.sub b (.inl hF)), ?_, q2⟩
        rcases q1 with q1 | q1
        · exact (hR.own k2 _ b hk2 q1).2.1
        · exact .inr (Nat.le_trans hR.base q1)
      · by_cases e2 : j = k2
        · subst e2; rw [stk2] at hj; cases hj
        · rw [st j e1 e2 e3] at hj
          rw [updI_other e3] at hb
          obtain ⟨q1, q2, q3⟩ := hR.own j _ b hj hb
          exact ⟨q1, q2, Nat.lt_of_lt_of_le q3 hfr.size⟩
  · have keyNot : ∀ q r, s q = .live r → q ≠ k2 → ∀ b ∈ ri'.bl, b ∉ (ρ q).bl := by
      intro q r hq hqk b hb hb'
      obtain ⟨q1, q2, q3, q4⟩ := hbl b hb
      rcases q1 with q1 | q1
      · exact hR.disj q k2 _ _ b hqk hq hk2 hb' q1
      · have := (hR.own q _ b hq hb').2.2
        omega
    by_cases e3 : j = key
    · subst e3
      rw [updI_same] at hb
      have hj'k : j' ≠ j := Ne.symm hne
      rw [updI_other hj'k]
      by_cases e1 : j' = k
      · subst e1; exact keyNot j' _ hk hkk b hb
      · by_cases e2 : j' = k2
        · subst e2; rw [stk2] at hj'; cases hj'
        · rw [st j' e1 e2 hj'k] at hj'
          exact keyNot j' _ hj' e2 b hb
    · rw [updI_other e3] at hb
      have hjl : j ≠ k2 ∧ ∃ r, s j = .live r := by
        by_cases e1 : j = k
        · subst e1; exact ⟨hkk, _, hk⟩
        · by_cases e2 : j = k2
          · subst e2; rw [stk2] at hj; cases hj
          · rw [st j e1 e2 e3] at hj
            exact ⟨e2, _, hj⟩
      obtain ⟨hjk2, rj, hjr⟩ := hjl
      by_cases e3' : j' = key
      · subst e3'
        rw [updI_same]
        exact fun hb' => keyNot j _ hjr hjk2 b hb' hb
      · rw [updI_other e3']
        have hjl' : ∃ r, s j' = .live r := by
          by_cases e1 : j' = k
          · subst e1; exact ⟨_, hk⟩
          · by_cases e2 : j' = k2
            · subst e2; rw [stk2] at hj'; cases hj'
            · rw [st j' e1 e2 e3'] at hj'
              exact ⟨_, hj'⟩
        obtain ⟨rj', hjr'⟩ := hjl'
        exact hR.disj j j' _ _ b hne hjr hjr' hb
  · have hb' : b < w.heap.size := Nat.lt_of_lt_of_le hb hR.below.size
    refine (hfr.block b hb' ?_).trans (hR.below.block b hb hMb)
    rintro (rfl | h)
    · rcases (hR.own k _ _ hk g2).2.1 with h | h
      · exact hMb h
      · have h' : w0.heap.size ≤ (ρ k).blk := h
        omega
    · rcases (hR.own k2 _ b hk2 h).2.1 with h | h
      · exact hMb h
      · have h' : w0.heap.size ≤ b := h
        omega
end spec

section ops
variable {R : Type} (P : Program) (ti : TypeId → Option (TI Γ)) (ev : Operand → AV Γ) (s : Nat → RStat Γ) (o : Oper)

def vCallIo1 (s : Nat → RStat Γ) (key : Nat) (avs : List (AV Γ)) (k : K Γ R) : FSpec Γ → Option R
  | ⟨ps, .io E0 E E2 t, fn⟩ => match argsIo s ps avs with
    | some (x, ks, [(q, q2)]) => if ks.contains q = false ∧ ks.contains q2 = false ∧ isNever (s key) = true ∧ tscal Γ t = true ∧ q ≠ q2 then
        (fn x).bind fun l => k (.tup []) (key :: q :: q2 :: avs.flatMap (argKeys s)) [(q2, .dead), (key, .live (.mat E E2 t l 0)), (q, .live (.var E0 [.own key]))]
      else none
    | _ => none
  | _ => none

def vCallE (env : EnvT Γ) (fo : Operand) (args : Array Operand) (key : Nat) (k : K Γ R) : Option R :=
  match calleeOf (ev fo) with
  | some (f, caps) => match env f with
    | [] => none
    | sp :: rest => if sp.rs.isIo = true then vCallIo1 s key (args.toList.map ev ++ caps.map capAV) k sp else vCallL s key (args.toList.map ev ++ caps.map capAV) k (sp :: rest)
  | none => none

theorem vCallE_sound (hΓ : Γ.Ok) {env : EnvT Γ} (henv : EnvOk P env) (fo : Operand) (args : Array Operand) (tys : Array TypeId) (key : Nat) (ho : o.op = .call { callee := .value fo, args := args, argTypes := tys }) : Goal P ev s o (vCallE (R := R) ev s env fo args key) := by
  intro kk r h
  unfold vCallE at h
  split at h
  · rename_i f caps hcal
    split at h
    · cases h
    · rename_i sp rest hsp
      split at h
      · have hclo : ev fo = .v (.one (.clo f caps)) := by
          unfold calleeOf at hcal
          split at hcal
          · cases hcal; assumption
          · cases hcal
        obtain ⟨hcon, hcall⟩ := henv f sp (by rw [hsp]; exact List.mem_cons_self)
        obtain ⟨ps, rs, fn⟩ := sp
        cases rs with
        | io E0 E E2 t =>
          simp only [vCallIo1] at h
          split at h
          · rename_i x ks q q2 hargs
            split at h
            · rename_i hcond
              obtain ⟨hkq, hkq2, hnever, hsc, hqq⟩ := hcond
              rw [Option.bind_eq_some_iff] at h
              obtain ⟨l, hfn, h⟩ := h
              refine ⟨_, _, _, h, fun s2 hs w0 F ρ ac w hR hop next Q hnext => ?_⟩
              have hk : s2 key = .never := by rw [hs key List.mem_cons_self]; exact isNever_spec hnever
              have hf := hop fo (by simp [ho, Op.operands, Call.operands])
              rw [hclo] at hf
              obtain ⟨vs, hv, hcs⟩ := hf
              have hargs2 : argsIo s2 ps (args.toList.map ev ++ caps.map capAV) = some (x, ks, [(q, q2)]) := by
                rw [argsIo_congr (fun z hz => hs z (List.mem_cons_of_mem _ (List.mem_cons_of_mem _ (List.mem_cons_of_mem _ hz))))]; exact hargs
              obtain ⟨hl1, hl2⟩ := argsIo_live hargs2
              obtain ⟨E0', Ea, Eb, tt, lo, n, hq, hq2⟩ := hl2 (q, q2) (List.mem_singleton.2 rfl)
              obtain ⟨c1, c2⟩ := avs_conc ev (args := args.toList) (fun z hz => hop z (by simp [ho, Op.operands, Call.operands]; exact .inr (by simpa using hz))) hcs
              have hpre := argsIo_spec hΓ hR (k := q) (k2 := q2) hargs2 (fun z hz => List.mem_singleton.1 hz) c1 c2
              obtain ⟨arr, g1, g2, g3⟩ := hR.res q _ hq
              have notU : ∀ b, (b = (ρ q).blk ∨ b ∈ (ρ q2).bl) → ¬ U F ρ ks b := by
                intro b hb hU
                have hbq : ∃ j r, s2 j = .live r ∧ b ∈ (ρ j).bl ∧ ks.contains j = false := by
                  rcases hb with rfl | hb
                  · exact ⟨q, _, hq, g2, hkq⟩
                  · exact ⟨q2, _, hq2, hb, hkq2⟩
                obtain ⟨j, rj, hj, hbj, hjk⟩ := hbq
                rcases hU with hF | ⟨k', hk', hb'⟩
                · exact (hR.own j _ b hj hbj).1 hF
                · obtain ⟨r', hr'⟩ := hl1 k' hk'
                  have hne : j ≠ k' := fun e => by
                    subst e
                    have hm : ks.contains j = true := by simpa using hk'
                    rw [hm] at hjk; cases hjk
                  exact hR.disj j k' _ _ b hne hj hr' hbj hb'
              refine call_at P o ho hcall hv next Q ?_
              refine (hcon x l hfn (U F ρ ks) w _ (ρ q).blk (ρ q2) (U_fin hR hl1) (fun _ => ⟨(hR.own q _ _ hq g2).2.2, notU _ (.inl rfl), fun hb => hR.disj q q2 _ _ _ hqq hq hq2 g2 hb, fun b hb => ⟨(hR.own q2 _ b hq2 hb).2.2, notU b (.inr hb)⟩⟩) hpre).mono ?_
              rintro e w' ⟨v, F', rfl, hfr, hret⟩
              obtain ⟨rfl, ri', hbl, hnF, hcell, hm⟩ := hret
              have hfr' : Fr (U F ρ ks) (fun b => b = (ρ q).blk ∨ b ∈ (ρ q2).bl) w F' w' := ⟨hfr.os, hfr.tape, hfr.output, hfr.size, fun b hb hM => hfr.block b hb (fun h => hM h.2), hfr.sub, hfr.new, hfr.fin⟩
              obtain ⟨x2, R2⟩ := hR.lent hΓ hq hq2 hqq hk hsc hfr' hbl hcell hm
              refine hnext _ w' F _ ⟨x2, R2, #[], rfl, rfl, fun i hi => absurd hi (Nat.not_lt_zero _)⟩
            · cases h
          · cases h
        | _ => cases h
      · refine vCall_sound P ev s o hΓ henv fo args tys key ho kk r ?_
        unfold vCall
        rw [hcal]
        simp only [hsp]
        exact h
  · cases h

end ops
end Go.Vs
