/- The evaluator's twenty-first part: a cut keeps what is known; code. -/
import Derived.Test.YtfebanpfolgmaaaVsT
namespace Go.Vs
set_option linter.unusedVariables false
set_option linter.unusedSimpArgs false
open Go.RowKit

variable {Γ : Env}

section spec
variable {w0 : Base} {w : World} {F F1 : Nat → Prop} {ρ ρ' : Nat → RI} {s s' : Nat → RStat Γ}

theorem cutAll_len {slots : Nat → AV Γ} {vars : List Nat} (kb : Nat) : ∀ {sh : Sh} {x : ShT Γ sh} {c f : List Nat}, cutAll slots vars s sh = some (x, c, f) → (allKeys kb sh).length = c.length
  | [], x, c, f, h => by cases h; rfl
  | (i, hd) :: sh, x, c, f, h => by
    unfold cutAll at h
    split at h
    · rename_i x1 c1 f1 x2 c2 f2 h1 h2
      cases h
      simp only [allKeys, List.length_append, unKeys_len kb i h1, cutAll_len kb h2]
    · cases h

theorem zip_app {a b c d : List Nat} (h : a.length = c.length) : (a ++ b).zip (c ++ d) = a.zip c ++ b.zip d := List.zip_append h

theorem cutAll_spec (hΓ : Γ.Ok) (hR : RelR w0 F ρ s w) {slots : Nat → AV Γ} {vars : List Nat} {vals : Nat → Value} {kb : Nat} (hv : ∀ j, ConcA F ρ s w (slots j) (vals j)) (hn : Named kb slots vars ρ ρ' s') :
    ∀ {sh : Sh} {x : ShT Γ sh} {c f : List Nat}, cutAll slots vars s sh = some (x, c, f) → (∀ b, U F ρ f b → F1 b) → (∀ p ∈ (allKeys kb sh).zip c, ρ' p.1 = ρ p.2 ∧ s' p.1 ≠ .never) →
      (∀ j, ConcA F1 ρ' s' w (unSlots kb sh x j) (vals j)) ∧ (∀ p ∈ unAll kb sh x, ResOk F1 ρ' s' w p.1 p.2) ∧ (∀ k ∈ c, ∃ r, s k = .live r) ∧ (∀ k ∈ f, ∃ r, s k = .live r)
  | [], x, c, f, h, hF1, hm => by
    cases h
    exact ⟨fun j => trivial, (fun p hp => by cases hp), (fun k hk => by cases hk), (fun k hk => by cases hk)⟩
  | (i, hd) :: sh, x, c, f, h, hF1, hm => by
    unfold cutAll at h
    split at h
    · rename_i x1 c1 f1 x2 c2 f2 h1 h2
      cases h
      have hl := unKeys_len kb i h1
      simp only [allKeys] at hm
      rw [zip_app hl] at hm
      obtain ⟨a1, a2, a3, a4⟩ := cutOne_spec (F1 := F1) (ρ' := ρ') (s' := s') hΓ hR h1 (hv i) (fun b hb => hF1 b (U_mono (fun k hk => List.mem_append_left _ hk) b hb)) hn (fun p hp => hm p (List.mem_append_left _ hp))
      obtain ⟨b1, b2, b3, b4⟩ := cutAll_spec hΓ hR hv hn h2 (fun b hb => hF1 b (U_mono (fun k hk => List.mem_append_right _ hk) b hb)) (fun p hp => hm p (List.mem_append_right _ hp))
      refine ⟨fun j => ?_, fun p hp => ?_, fun k hk => ?_, fun k hk => ?_⟩
      · simp only [unSlots]
        by_cases e : j = i
        · subst e; rw [if_pos rfl]; exact a1
        · rw [if_neg e]; exact b1 j
      · rcases List.mem_append.1 hp with hp | hp
        · exact a2 p hp
        · exact b2 p hp
      · rcases List.mem_append.1 hk with hk | hk
        · exact a3 k hk
        · exact b3 k hk
      · rcases List.mem_append.1 hk with hk | hk
        · exact a4 k hk
        · exact b4 k hk
    · cases h

theorem unAll_keys (kb : Nat) : ∀ (sh : Sh) (x : ShT Γ sh), (unAll kb sh x).map (·.1) = allKeys kb sh
  | [], _ => rfl
  | (i, h) :: r, x => by
    simp only [unAll, allKeys, List.map_append, unRes_keys, unAll_keys kb r x.2]

theorem resOf_mem : ∀ {l : List (Nat × Res Γ)} {k : Nat} {r : Res Γ}, resOf l k = .live r → (k, r) ∈ l
  | [], k, r, h => by cases h
  | (q, y) :: l, k, r, h => by
    simp only [resOf] at h
    split at h
    · rename_i e
      cases h
      subst e
      exact List.mem_cons_self
    · exact List.mem_cons_of_mem _ (resOf_mem h)

theorem resOf_ne : ∀ {l : List (Nat × Res Γ)} {k : Nat}, k ∈ l.map (·.1) → resOf l k ≠ .never
  | [], k, h => by cases h
  | (q, y) :: l, k, h => by
    simp only [resOf]
    split
    · simp
    · rename_i e
      rcases List.mem_cons.1 h with h | h
      · exact absurd h e
      · exact resOf_ne h

def assocN : List (Nat × Nat) → Nat → Option Nat
  | [], _ => none
  | (a, b) :: l, k => if k = a then some b else assocN l k

theorem assocN_mem : ∀ {l : List (Nat × Nat)} {p : Nat × Nat}, (l.map (·.1)).Nodup → p ∈ l → assocN l p.1 = some p.2
  | [], p, _, h => by cases h
  | (a, b) :: l, p, hn, h => by
    simp only [assocN]
    rw [List.map_cons, List.nodup_cons] at hn
    rcases List.mem_cons.1 h with rfl | h
    · rw [if_pos rfl]
    · rw [if_neg (fun e => hn.1 (by rw [← e]; exact List.mem_map.2 ⟨p, h, rfl⟩))]
      exact assocN_mem hn.2 h

theorem zip_fst_sub : ∀ {a b : List Nat}, a.length = b.length → (a.zip b).map (·.1) = a
  | [], [], _ => rfl
  | [], _ :: _, h => by cases h
  | _ :: _, [], h => by cases h
  | x :: a, y :: b, h => by
    simp only [List.zip_cons_cons, List.map_cons]
    rw [zip_fst_sub (by simpa using h)]

theorem zip_fst_mem {a b : List Nat} (hl : a.length = b.length) {x : Nat} (h : x ∈ a) : ∃ y, (x, y) ∈ a.zip b := by
  rw [← zip_fst_sub hl] at h
  obtain ⟨p, hp, rfl⟩ := List.mem_map.1 h
  exact ⟨p.2, hp⟩

theorem zip_snd_inj : ∀ {a b : List Nat} {x y z : Nat}, b.Nodup → (x, z) ∈ a.zip b → (y, z) ∈ a.zip b → x = y
  | [], b, x, y, z, _, h, _ => by simp at h
  | _ :: _, [], x, y, z, _, h, _ => by simp at h
  | p :: a, q :: b, x, y, z, hn, h1, h2 => by
    rw [List.nodup_cons] at hn
    rw [List.zip_cons_cons] at h1 h2
    rcases List.mem_cons.1 h1 with e1 | h1
    · rcases List.mem_cons.1 h2 with e2 | h2
      · cases e1; cases e2; rfl
      · cases e1
        exact absurd (List.of_mem_zip h2).2 hn.1
    · rcases List.mem_cons.1 h2 with e2 | h2
      · cases e2
        exact absurd (List.of_mem_zip h1).2 hn.1
      · exact zip_snd_inj hn.2 h1 h2

theorem var_claim {slots : Nat → AV Γ} {vars : List Nat} {h : SSh} {j k : Nat} {x : h.den Γ} {c f : List Nat} (kb : Nat) (hv : isVarSh h = true) (hc : cutOne slots vars s h (slots j) = some (x, c, f)) (hk : ptrKey (slots j) = some k) : (K1 kb j, k) ∈ (unKeys kb j h).zip c := by
  unfold ptrKey at hk
  split at hk
  · rename_i k' hs
    cases hk
    rw [hs] at hc
    cases h <;> simp only [isVarSh] at hv <;> first | cases hv | skip
    all_goals
      simp only [cutOne] at hc
      (repeat' split at hc) <;> first | (cases hc; simp [unKeys]) | cases hc
  · cases hk

theorem varsOf_claim {slots : Nat → AV Γ} {vars : List Nat} (kb : Nat) : ∀ {sh : Sh} {x : ShT Γ sh} {c f : List Nat}, cutAll slots vars s sh = some (x, c, f) → ∀ j ∈ varsOf sh, ∀ k, ptrKey (slots j) = some k → (K1 kb j, k) ∈ (allKeys kb sh).zip c
  | [], x, c, f, h, j, hj, k, hk => by cases hj
  | (i, hd) :: sh, x, c, f, h, j, hj, k, hk => by
    unfold cutAll at h
    split at h
    · rename_i x1 c1 f1 x2 c2 f2 h1 h2
      cases h
      simp only [allKeys]
      rw [zip_app (unKeys_len kb i h1)]
      have ih := varsOf_claim kb h2
      unfold varsOf at hj
      rw [List.filter_cons] at hj
      split at hj
      · rename_i hvs
        rw [List.map_cons] at hj
        rcases List.mem_cons.1 hj with e | hj
        · subst e
          exact List.mem_append_left _ (var_claim kb hvs h1 hk)
        · exact List.mem_append_right _ (ih j hj k hk)
      · exact List.mem_append_right _ (ih j hj k hk)
    · cases h

theorem lent_one {slots : Nat → AV Γ} {vars : List Nat} {h : SSh} {a : AV Γ} {x : h.den Γ} {c f : List Nat} (kb i : Nat) (hl : isLent h = true) (hc : cutOne slots vars s h a = some (x, c, f)) : (KIO, KIO) ∈ (unKeys kb i h).zip c := by
  unfold cutOne at hc
  split at hc
  all_goals first | (cases hl; done) | skip
  · rename_i E0 E E2 t k
    split at hc
    · split at hc
      · split at hc
        · rename_i e
          split at hc
          · cases hc
            rw [e.1]
            simp [unKeys]
          · cases hc
        · cases hc
      · cases hc
    · cases hc
  · cases hc

theorem lent_claim {slots : Nat → AV Γ} {vars : List Nat} (kb : Nat) : ∀ {sh : Sh} {x : ShT Γ sh} {c f : List Nat}, cutAll slots vars s sh = some (x, c, f) → (sh.any fun p => isLent p.2) = true → (KIO, KIO) ∈ (allKeys kb sh).zip c
  | [], x, c, f, h, hl => by cases hl
  | (i, hd) :: sh, x, c, f, h, hl => by
    unfold cutAll at h
    split at h
    · rename_i x1 c1 f1 x2 c2 f2 h1 h2
      cases h
      simp only [allKeys]
      rw [zip_app (unKeys_len kb i h1)]
      rw [List.any_cons, Bool.or_eq_true] at hl
      rcases hl with hl | hl
      · exact List.mem_append_left _ (lent_one kb i hl h1)
      · exact List.mem_append_right _ (lent_claim kb h2 hl)
    · cases h

theorem cut_spec (hΓ : Γ.Ok) {sh : Sh} {st : St Γ} {a : Act} {x : ShT Γ sh} (h : Rel w0 st a w) (hc : cut sh st = some x) : Rel w0 (uncut st.kb st.n sh x) a w := by
  unfold cut at hc
  split at hc
  · rename_i y c f hall
    split at hc
    · rename_i hcond
      cases hc
      obtain ⟨hcn, hfn, hfc, hkn, _, hkio⟩ := hcond
      obtain ⟨⟨F, ρ, hR, hs, hio⟩, hn, hdf⟩ := h
      have hlen := cutAll_len st.kb hall
      let ρ' : Nat → RI := fun k' => match assocN ((allKeys st.kb sh).zip c) k' with
        | some k => ρ k
        | none => RI.none
      have hzk : (((allKeys st.kb sh).zip c).map (·.1)).Nodup := by rw [zip_fst_sub hlen]; exact hkn
      have hρ : ∀ p ∈ (allKeys st.kb sh).zip c, ρ' p.1 = ρ p.2 := fun p hp => by
        show (match assocN ((allKeys st.kb sh).zip c) p.1 with
        | some k => ρ k
        | none => RI.none) = ρ p.2
        rw [assocN_mem hzk hp]
      have hm : ∀ p ∈ (allKeys st.kb sh).zip c, ρ' p.1 = ρ p.2 ∧ resOf (unAll st.kb sh x) p.1 ≠ .never := fun p hp =>
        ⟨hρ p hp, resOf_ne (by rw [unAll_keys]; exact (List.of_mem_zip hp).1)⟩
      have hnamed : Named st.kb st.slots (varsOf sh) ρ ρ' (resOf (unAll st.kb sh x)) := fun j hj k hk => hm _ (varsOf_claim st.kb hall j hj k hk)
      obtain ⟨b1, b2, b3, b4⟩ := cutAll_spec (F1 := U F ρ f) hΓ hR hs hnamed hall (fun b hb => hb) hm
      obtain ⟨x1, R1⟩ := hR.dropAll f b4 hfn
      have hold : ∀ k' r', resOf (unAll st.kb sh x) k' = .live r' → ∃ k r, (k', k) ∈ (allKeys st.kb sh).zip c ∧ ρ' k' = ρ k ∧ apply st.res (f.map fun k => (k, .dead)) k = .live r := by
        intro k' r' hl
        have hmem := resOf_mem hl
        have hk' : k' ∈ allKeys st.kb sh := by rw [← unAll_keys st.kb sh x]; exact List.mem_map.2 ⟨_, hmem, rfl⟩
        obtain ⟨k, hk⟩ := zip_fst_mem hlen hk'
        have hkc := (List.of_mem_zip hk).2
        obtain ⟨r, hr⟩ := b3 k hkc
        refine ⟨k, r, hk, hρ _ hk, ?_⟩
        rw [apply_other _ _ _ (mem_map_dead (fun hf => hfc k hf hkc))]
        exact hr
      refine ⟨⟨U F ρ f, ρ', ⟨fun k' r' hl => b2 _ (resOf_mem hl), fun k' r' b hl hb => ?_, fun k1 k2 r1 r2 b hne h1 h2 hb => ?_, R1.fin, R1.below, R1.grow⟩, b1, fun h => ?_⟩, hn, hdf⟩
      · obtain ⟨k, r, _, he, hr⟩ := hold k' r' hl
        rw [he] at hb
        exact R1.own k r b hr hb
      · obtain ⟨q1, s1, z1, e1, l1⟩ := hold k1 r1 h1
        obtain ⟨q2, s2, z2, e2, l2⟩ := hold k2 r2 h2
        rw [e1] at hb
        rw [e2]
        have hq : q1 ≠ q2 := fun e => hne (zip_snd_inj hcn z1 (by rw [e]; exact z2))
        exact R1.disj q1 q2 s1 s2 b hq l1 l2 hb
      · obtain ⟨h1, h2⟩ := hio h
        unfold keepsIO at hkio
        rw [Bool.or_eq_true] at hkio
        rcases hkio with hk | hk
        · exact absurd (isNever_spec hk) h1
        · have hz := lent_claim st.kb hall hk
          obtain ⟨g1, g2⟩ := hm _ hz
          exact ⟨g2, by rw [g1]; exact h2⟩
    · cases hc
  · cases hc
end spec

/-! ### code -/

inductive Ex where
  | normal
  | exit (id : Nat)
  | ret

/-- What is told of a function's code: at the loop, or behind the branches, whose first region has this number. -/
structure Ann where
  loops : List (Nat × Sh)
  joins : List (Nat × Sh)

def Ann.none : Ann := ⟨[], []⟩

def findSh : List (Nat × Sh) → Nat → Option Sh
  | [], _ => .none
  | (i, s) :: l, n => if n = i then some s else findSh l n

def firstRegion : Code → Nat
  | .region id _ _ => id
  | .seq a _ => firstRegion a
  | .block _ b => firstRegion b
  | .loop b => firstRegion b
  | .scope b => firstRegion b
  | _ => 1000000

open Classical in
/-- Both, if they are the same. -/
noncomputable def agree {R : Type} (x y : Option R) : Option R := if x = y then x else none

theorem agree_some {R : Type} {x y : Option R} {r : R} (h : agree x y = some r) : x = some r ∧ y = some r := by
  unfold agree at h
  split at h
  · rename_i e; exact ⟨h, e ▸ h⟩
  · cases h

theorem agree_self {R : Type} (x : Option R) : agree x x = x := by unfold agree; rw [if_pos rfl]

def nilB? : AV Γ → Option (Bool × Bool)
  | .v (.one (.nilB neg e)) => some (neg, e)
  | _ => none

theorem nilB?_spec {F : Nat → Prop} {ρ : Nat → RI} {s : Nat → RStat Γ} {w : World} {a : AV Γ} {neg e : Bool} {v : Value} (h : nilB? a = some (neg, e)) (hc : ConcA F ρ s w a v) : ∃ b, v = .bool b ∧ (b = !neg → e = true) := by
  unfold nilB? at h
  split at h
  · cases h; exact hc
  · cases h

def iter {σ R : Type} (f : (σ → Option R) → σ → Option R) : Nat → σ → Option R
  | 0, _ => none
  | n + 1, s => f (iter f n) s

section code
variable (ti : TypeId → Option (TI Γ)) (env : EnvT Γ) (ann : Ann) (fuel : Nat)

def vRegion {R : Type} (ops : Array Oper) (draw : Bool) (st : St Γ) (k : St Γ → Option R) : Option R :=
  vList ti env ops (List.range ops.size) st [] fun st' l => if draw then (if drawOk ops l.reverse = true then k st' else none) else k st'

noncomputable def vCode : Code → (R : Type) → St Γ → (Ex → St Γ → Option R) → Option R
  | .skip, _, st, k => k .normal st
  | .region _ ops draw, _, st, k => vRegion ti env ops draw st (k .normal)
  | .seq a b, R, st, k => match findSh ann.joins (firstRegion b) with
    | none => vCode a R st fun e st' => match e with
      | .normal => vCode b R st' k
      | e => k e st'
    | some sh => (vCode a (ShT Γ sh ⊕ R) st fun e st' => match e with
      | .normal => (cut sh st').map .inl
      | e => (k e st').map .inr).bind fun x => match x with
        | .inl x => vCode b R (uncut st.kb st.n sh x) k
        | .inr r => some r
  | .cond c a b, R, st, k => match (evalAV st.slots c).bool? with
    | some x => cond x (vCode a R st k) (vCode b R st k)
    | none => match nilB? (evalAV st.slots c) with
      | some (neg, e) => cond e (agree (vCode a R st k) (vCode b R st k)) (cond neg (vCode a R st k) (vCode b R st k))
      | none => none
  | .block id body, R, st, k => vCode body R st fun e st' => match e with
    | .exit id' => if id' = id then k .normal st' else k e st'
    | e => k e st'
  | .loop body, R, st, k => match findSh ann.loops (firstRegion body) with
    | none => none
    | some sh => (cut sh st).bind fun x => iter (fun rec x => vCode body R (uncut st.kb st.n sh x) fun e st' => match e with
      | .normal => (cut sh st').bind rec
      | e => k e st') fuel x
  | .exit id, _, st, k => k (.exit id) st
  | .ret, _, st, k => k .ret st
  | _, _, _, _ => none

theorem wp_loop_n {P : Program} {Q : Exit → Act → World → Prop} {c : Code} (I : Nat → Act → World → Prop) (zero : ∀ a w, ¬ I 0 a w) (round : ∀ n a w, I (n + 1) a w → c.wp P (Exit.then (fun a' w' => I n a' w') Q) a w) : ∀ n a w, I n a w → (Code.loop c).wp P Q a w := by
  have key : ∀ n a w, I n a w → ∀ (b : Frame) (k : List Item) (cs : List Frame), ∃ e a' w', Q e a' w' ∧ Arrives P (lone (b.at a (.code c :: .inLoop c :: k)) cs w) b k cs e a' w' := by
    intro n
    induction n with
    | zero => intro a w h; exact absurd h (zero a w)
    | succ n ih =>
      intro a w hI b k cs
      obtain ⟨e, a₁, w₁, hq, harr⟩ := round n a w hI b (.inLoop c :: k) cs
      cases e with
      | normal =>
        obtain ⟨e₂, a₂, w₂, hq₂, harr₂⟩ := ih a₁ w₁ hq b k cs
        exact ⟨e₂, a₂, w₂, hq₂, .of_steps (Steps.trans harr (.one step_inLoop)) harr₂⟩
      | exit id => exact ⟨_, a₁, w₁, hq, .pass (x := .inLoop c) rfl (fun _ _ => .inl (by simp)) harr⟩
      | goto l => exact ⟨_, a₁, w₁, hq, .pass (x := .inLoop c) rfl (fun _ _ => .inl (by simp)) harr⟩
      | ret => exact ⟨_, a₁, w₁, hq, .pass (x := .inLoop c) rfl (fun _ _ => .inl (by simp)) harr⟩
      | panic ch => exact ⟨_, a₁, w₁, hq, .pass (x := .inLoop c) rfl (fun _ _ => .inl (by simp)) harr⟩
      | outgrown => exact ⟨_, a₁, w₁, hq, .pass (x := .inLoop c) rfl (fun _ _ => .inl (by simp)) harr⟩
  intro n a w hI b k cs
  obtain ⟨e, a', w', hq, harr⟩ := key n a w hI b k cs
  exact ⟨e, a', w', hq, .of_steps (.one step_loop) harr⟩

def Ex.to : Ex → Exit
  | .normal => .normal
  | .exit id => .exit id
  | .ret => .ret

variable {P : Program} {ti env ann fuel}

theorem step_kb {ops : Array Oper} {st : St Γ} {e : Ent Γ} : (stepE ops st e).kb = st.kb := by
  cases e <;> simp only [stepE] <;> cases dstAt ops _ <;> rfl

theorem chain_n {ops : Array Oper} : ∀ {l : List (Ent Γ)} {st st' : St Γ}, Chain P ops st l st' → st'.n = st.n ∧ st'.kb = st.kb
  | [], st, st', h => by
    have : st' = st := h
    subst this
    exact ⟨rfl, rfl⟩
  | e :: l, st, st', h => by
    obtain ⟨h1, h2⟩ := chain_n h.2
    exact ⟨h1.trans step_n, h2.trans step_kb⟩

theorem vCode_sound (hΓ : Γ.Ok) (hti : TIOk P ti) (hfull : TIFull ti) (henv : EnvOk P env) (hmix : P.follows .mixedOrders = true) {w0 : Base} : ∀ (c : Code) (R : Type) (st : St Γ) (k : Ex → St Γ → Option R) (r : R) (a : Act) (w : World) (Q : Exit → Act → World → Prop),
    vCode ti env ann fuel c R st k = some r → Rel w0 st a w → (∀ e st' a' w', k e st' = some r → Rel w0 st' a' w' → st'.n = st.n → st'.kb = st.kb → Q e.to a' w') → c.wp P Q a w := by
  intro c
  induction c with
  | skip =>
    intro R st k r a w Q h hr hQ
    exact wp_skip (hQ .normal st a w h hr rfl rfl)
  | region id ops draw =>
    intro R st k r a w Q h hr hQ
    have h' : vRegion ti env ops draw st (k .normal) = some r := h
    unfold vRegion at h'
    obtain ⟨l, st', hc, hl, hk⟩ := vList_spec (P := P) ops hΓ hti hfull henv h'
    obtain ⟨hn, hkb⟩ := chain_n hc
    simp only [List.append_nil, List.reverse_reverse] at hk
    cases draw with
    | false =>
      simp only [Bool.false_eq_true, if_false] at hk
      exact region_text hc hl hr fun a' w' h' => hQ .normal st' a' w' hk h' hn hkb
    | true =>
      simp only [if_true] at hk
      split at hk
      · rename_i hok
        exact region_draw hmix hc hl hok hr fun a' w' h' => hQ .normal st' a' w' hk h' hn hkb
      · cases hk
  | seq x y ihx ihy =>
    intro R st k r a w Q h hr hQ
    refine wp_seq ?_
    simp only [vCode] at h
    split at h
    · refine ihx R st _ r a w _ h hr fun e st' a' w' hk hr' hn hkb => ?_
      cases e with
      | normal => exact ihy R st' k r a' w' Q hk hr' fun e2 st2 a2 w2 hk2 hr2 hn2 hkb2 => hQ e2 st2 a2 w2 hk2 hr2 (hn2.trans hn) (hkb2.trans hkb)
      | exit id => exact hQ (.exit id) st' a' w' hk hr' hn hkb
      | ret => exact hQ .ret st' a' w' hk hr' hn hkb
    · rename_i sh _
      rw [Option.bind_eq_some_iff] at h
      obtain ⟨z, h1, h2⟩ := h
      refine ihx _ st _ z a w _ h1 hr fun e st' a' w' hk hr' hn hkb => ?_
      cases e with
      | normal =>
        simp only [Option.map_eq_some_iff] at hk
        obtain ⟨x', hx, rfl⟩ := hk
        have hcs := cut_spec hΓ hr' hx
        rw [hn, hkb] at hcs
        exact ihy R _ k r a' w' Q h2 hcs fun e2 st2 a2 w2 hk2 hr2 hn2 hkb2 => hQ e2 st2 a2 w2 hk2 hr2 hn2 hkb2
      | exit id =>
        simp only [Option.map_eq_some_iff] at hk
        obtain ⟨r', hk, rfl⟩ := hk
        cases h2
        exact hQ (.exit id) st' a' w' hk hr' hn hkb
      | ret =>
        simp only [Option.map_eq_some_iff] at hk
        obtain ⟨r', hk, rfl⟩ := hk
        cases h2
        exact hQ .ret st' a' w' hk hr' hn hkb
  | cond c x y ihx ihy =>
    intro R st k r a w Q h hr hQ
    simp only [vCode] at h
    split at h
    · rename_i b hb
      obtain ⟨⟨F, ρ, hR, hs, _⟩, hn, hd⟩ := id hr
      have hv := bool?_spec hb (evalAV_conc hs c)
      cases b with
      | true => exact wp_cond_true hv (ihx R st k r a w Q h hr hQ)
      | false => exact wp_cond_false hv (ihy R st k r a w Q h hr hQ)
    · split at h
      · rename_i neg e hb
        obtain ⟨⟨F, ρ, hR, hs, _⟩, hn, hd⟩ := id hr
        obtain ⟨b, hv, he⟩ := nilB?_spec hb (evalAV_conc hs c)
        cases e with
        | true =>
          simp only [cond_true] at h
          obtain ⟨h1, h2⟩ := agree_some h
          cases b with
          | true => exact wp_cond_true hv (ihx R st k r a w Q h1 hr hQ)
          | false => exact wp_cond_false hv (ihy R st k r a w Q h2 hr hQ)
        | false =>
          simp only [cond_false] at h
          cases neg with
          | true =>
            cases b with
            | true => exact wp_cond_true hv (ihx R st k r a w Q h hr hQ)
            | false => exact absurd (he rfl) (by simp)
          | false =>
            cases b with
            | true => exact absurd (he rfl) (by simp)
            | false => exact wp_cond_false hv (ihy R st k r a w Q h hr hQ)
      · cases h
  | block id body ih =>
    intro R st k r a w Q h hr hQ
    simp only [vCode] at h
    refine wp_block (ih R st _ r a w _ h hr fun e st' a' w' hk hr' hn hkb => ?_)
    cases e with
    | normal => exact hQ .normal st' a' w' hk hr' hn hkb
    | ret => exact hQ .ret st' a' w' hk hr' hn hkb
    | exit id' =>
      simp only at hk
      simp only [Ex.to, Exit.inBlock]
      split at hk
      · rename_i e
        rw [if_pos e]
        exact hQ .normal st' a' w' hk hr' hn hkb
      · rename_i e
        rw [if_neg e]
        exact hQ (.exit id') st' a' w' hk hr' hn hkb
  | loop body ih =>
    intro R st k r a w Q h hr hQ
    simp only [vCode] at h
    split at h
    · cases h
    · rename_i sh _
      rw [Option.bind_eq_some_iff] at h
      obtain ⟨x, hx, h⟩ := h
      refine wp_loop_n (fun n a w => ∃ x, iter (fun rec x => vCode ti env ann fuel body R (uncut st.kb st.n sh x) fun e st' => match e with
        | .normal => (cut sh st').bind rec
        | e => k e st') n x = some r ∧ Rel w0 (uncut st.kb st.n sh x) a w) (fun a w hz => ?_) (fun n a w hz => ?_) fuel a w ⟨x, h, cut_spec hΓ hr hx⟩
      · obtain ⟨x, hz, _⟩ := hz
        cases hz
      · obtain ⟨x, hz, hrz⟩ := hz
        simp only [iter] at hz
        refine ih R _ _ r a w _ hz hrz fun e st' a' w' hk hr' hn hkb => ?_
        cases e with
        | normal =>
          simp only at hk
          rw [Option.bind_eq_some_iff] at hk
          obtain ⟨x', hx', hk⟩ := hk
          have hcs := cut_spec hΓ hr' hx'
          rw [hn, hkb] at hcs
          exact ⟨x', hk, hcs⟩
        | exit id => exact hQ (.exit id) st' a' w' hk hr' hn hkb
        | ret => exact hQ .ret st' a' w' hk hr' hn hkb
  | exit id =>
    intro R st k r a w Q h hr hQ
    exact wp_exit (hQ (.exit id) st a w h hr rfl rfl)
  | ret =>
    intro R st k r a w Q h hr hQ
    exact wp_ret (hQ .ret st a w h hr rfl rfl)
  | rangeFunc f params assign body ih1 ih2 => intro R st k r a w Q h; cases h
  | scope body ih => intro R st k r a w Q h; cases h
  | label l => intro R st k r a w Q h; cases h
  | goto l => intro R st k r a w Q h; cases h
  | refuse why => intro R st k r a w Q h; cases h
end code

end Go.Vs
