/- The evaluator's nineteenth part: regions. -/
import Derived.Test.YtfebanpfolgmaaaVsR
namespace Go.Vs
set_option linter.unusedVariables false
set_option linter.unusedSimpArgs false
open Go.RowKit

variable {Γ : Env}

section run
variable {R : Type} (P : Program) (ti : TypeId → Option (TI Γ)) (env : EnvT Γ) (ops : Array Oper)

def keyOf (dst : Option Tmp) : Nat :=
  match dst with
  | some d => d
  | none => 900

def vRun (i : Nat) (o : Oper) (st : St Γ) (k : St Γ → Ent Γ → Option R) : Option R :=
  if dstIn o.dst st.n = true then
    vOp ti env (evalAV st.slots) st.res o (st.kb + keyOf o.dst) fun av rd up => k { st.put o.dst av with res := apply st.res up } (.run i av rd up)
  else none

def vSkip (i : Nat) (o : Oper) (st : St Γ) (k : St Γ → Ent Γ → Option R) : Option R :=
  if dstIn o.dst st.n = true then k (st.put o.dst skpA) (.skip i) else none

def setB (st : St Γ) (t : Nat) (b : Bool) : St Γ := { st with slots := updS st.slots t (AV.dat .bool b) }

def vList : List Nat → St Γ → List (Ent Γ) → (St Γ → List (Ent Γ) → Option R) → Option R
  | [], st, acc, k => k st acc
  | i :: rest, st, acc, k => match ops[i]? with
    | none => none
    | some o => match o.guard with
      | none => vRun ti env i o st fun st' e => vList rest st' (e :: acc) k
      | some (g, want) => match dstAt ops g with
        | none => none
        | some t => match (st.slots t).bool? with
          | none => if isSkp (st.slots t) = true then vSkip i o st fun st' e => vList rest st' (e :: acc) k else none
          | some b => cond b
              (cond want (vRun ti env i o (setB st t true) fun st' e => vList rest st' (e :: acc) k) (vSkip i o (setB st t true) fun st' e => vList rest st' (e :: acc) k))
              (cond want (vSkip i o (setB st t false) fun st' e => vList rest st' (e :: acc) k) (vRun ti env i o (setB st t false) fun st' e => vList rest st' (e :: acc) k))

theorem bool?_eq {a : AV Γ} {b : Bool} (h : a.bool? = some b) : a = AV.dat .bool b := by
  unfold AV.bool? at h
  split at h
  · rename_i b' hl
    cases h
    unfold AV.leaf? at hl
    split at hl
    · cases hl; rfl
    · cases hl
  · cases h

theorem setB_same {st : St Γ} {t : Nat} {b : Bool} (h : (st.slots t).bool? = some b) : setB st t b = st := by
  have e := bool?_eq h
  unfold setB
  have : updS st.slots t (AV.dat .bool b) = st.slots := by
    funext i
    unfold updS
    split
    · rename_i hi; rw [hi, e]
    · rfl
  rw [this]

variable {P}

theorem vRun_spec (hΓ : Γ.Ok) {ti : TypeId → Option (TI Γ)} (hti : TIOk P ti) (hfull : TIFull ti) {env : EnvT Γ} (henv : EnvOk P env) {i : Nat} {o : Oper} (ho : ops[i]? = some o) {st : St Γ} (hg : guardIs ops st o true) {k : St Γ → Ent Γ → Option R} {r : R} (h : vRun ti env i o st k = some r) :
    ∃ e, EntOk P ops st e ∧ e.idx = i ∧ k (stepE ops st e) e = some r := by
  unfold vRun at h
  split at h
  · rename_i hd
    obtain ⟨av, rd, up, hk, hs⟩ := vOp_sound P ti env (evalAV st.slots) st.res o hΓ hti hfull henv (st.kb + keyOf o.dst) _ r h
    refine ⟨.run i av rd up, ⟨o, ho, hg, hd, hs⟩, rfl, ?_⟩
    have hdst : dstAt ops i = o.dst := by simp [dstAt, ho]
    simp only [stepE, hdst]
    exact hk
  · cases h

theorem vSkip_spec {i : Nat} {o : Oper} (ho : ops[i]? = some o) {st : St Γ} (hg : guardIs ops st o false) {k : St Γ → Ent Γ → Option R} {r : R} (h : vSkip i o st k = some r) :
    ∃ e, EntOk P ops st e ∧ e.idx = i ∧ k (stepE ops st e) e = some r := by
  unfold vSkip at h
  split at h
  · rename_i hd
    refine ⟨.skip i, ⟨o, ho, hg, hd⟩, rfl, ?_⟩
    have hdst : dstAt ops i = o.dst := by simp [dstAt, ho]
    simp only [stepE, hdst]
    exact h
  · cases h

theorem vList_spec (hΓ : Γ.Ok) {ti : TypeId → Option (TI Γ)} (hti : TIOk P ti) (hfull : TIFull ti) {env : EnvT Γ} (henv : EnvOk P env) : ∀ {idx : List Nat} {st : St Γ} {acc : List (Ent Γ)} {k : St Γ → List (Ent Γ) → Option R} {r : R}, vList ti env ops idx st acc k = some r →
    ∃ l st', Chain P ops st l st' ∧ l.map Ent.idx = idx ∧ k st' (l.reverse ++ acc) = some r
  | [], st, acc, k, r, h => ⟨[], st, rfl, rfl, h⟩
  | i :: rest, st, acc, k, r, h => by
    have cont : ∀ {e : Ent Γ}, EntOk P ops st e → e.idx = i → vList ti env ops rest (stepE ops st e) (e :: acc) k = some r → ∃ l st', Chain P ops st l st' ∧ l.map Ent.idx = i :: rest ∧ k st' (l.reverse ++ acc) = some r := by
      intro e he hi hv
      obtain ⟨l, st', h1, h2, h3⟩ := vList_spec hΓ hti hfull henv hv
      exact ⟨e :: l, st', ⟨he, h1⟩, by rw [List.map_cons, h2, hi], by simpa using h3⟩
    unfold vList at h
    split at h
    · cases h
    · rename_i o ho
      split at h
      · rename_i hgd
        obtain ⟨e, h1, h2, h3⟩ := vRun_spec ops hΓ hti hfull henv ho (by unfold guardIs; rw [hgd]) h
        exact cont h1 h2 h3
      · rename_i g want hgd
        split at h
        · cases h
        · rename_i t ht
          split at h
          · rename_i hb
            split at h
            · rename_i hsk
              have hgi : guardIs ops st o false := by unfold guardIs; rw [hgd]; exact ⟨t, ht, by unfold gval; rw [hb]; simp [hsk]⟩
              obtain ⟨e, h1, h2, h3⟩ := vSkip_spec (P := P) ops ho hgi h
              exact cont h1 h2 h3
            · cases h
          · rename_i b hb
            have hgi : guardIs ops st o (b == want) := by unfold guardIs; rw [hgd]; exact ⟨t, ht, by unfold gval; rw [hb]⟩
            cases b <;> cases want <;> simp only [cond_true, cond_false] at h <;> rw [setB_same hb] at h
            · obtain ⟨e, h1, h2, h3⟩ := vRun_spec ops hΓ hti hfull henv ho hgi h
              exact cont h1 h2 h3
            · obtain ⟨e, h1, h2, h3⟩ := vSkip_spec (P := P) ops ho hgi h
              exact cont h1 h2 h3
            · obtain ⟨e, h1, h2, h3⟩ := vSkip_spec (P := P) ops ho hgi h
              exact cont h1 h2 h3
            · obtain ⟨e, h1, h2, h3⟩ := vRun_spec ops hΓ hti hfull henv ho hgi h
              exact cont h1 h2 h3
end run

/-! ### whatever order -/

def ancOf (o : Oper) (acc : List Nat) : Nat := o.after.toList.foldl (fun m e => if Region.binds .any e then m ||| 2 ^ e.on ||| acc.getD e.on 0 else m) 0

def ancsGo : List Oper → List Nat → List Nat
  | [], acc => acc
  | o :: r, acc => ancsGo r (acc ++ [ancOf o acc])

def Ent.rd : Ent Γ → List Nat
  | .skip _ => []
  | .run _ _ rd _ => rd

def Ent.ws : Ent Γ → List Nat
  | .skip _ => []
  | .run _ _ _ up => up.map (·.1)

def disjB (a b : List Nat) : Bool := a.all fun x => !b.contains x

def indepB (ops : Array Oper) (e1 e2 : Ent Γ) : Bool :=
  (match ops[e1.idx]?, ops[e2.idx]? with
    | some o1, some o2 => o1.apart ops o2
    | _, _ => false) && disjB e1.ws (e2.rd ++ e2.ws) && disjB e2.ws (e1.rd ++ e1.ws)

def pairsB (ops : Array Oper) (masks : List Nat) : List (Ent Γ) → Bool
  | [] => true
  | e :: l => l.all (fun e2 => (masks.getD e2.idx 0).testBit e.idx || indepB ops e e2) && pairsB ops masks l

def depsB (ops : Array Oper) : Bool := (List.range ops.size).all fun i => match ops[i]? with
  | some o => o.after.toList.all fun e => !Region.binds .any e || decide (e.on < i)
  | none => true

def drawOk (ops : Array Oper) (l : List (Ent Γ)) : Bool := depsB ops && pairsB ops (ancsGo ops.toList []) l

theorem disjB_spec {a b : List Nat} (h : disjB a b = true) : ∀ x ∈ a, x ∉ b := by
  intro x hx hb
  have := List.all_eq_true.1 h x hx
  simp at this
  exact this hb

theorem ancsGo_prefix : ∀ (l : List Oper) (acc : List Nat) (q : Nat), q < acc.length → (ancsGo l acc).getD q 0 = acc.getD q 0
  | [], acc, q, h => rfl
  | o :: l, acc, q, h => by
    unfold ancsGo
    rw [ancsGo_prefix l _ q (by simp; omega), getD_append, if_pos h]

theorem ancsGo_at : ∀ (l : List Oper) (acc : List Nat) (q : Nat) (o : Oper), l[q]? = some o → ∃ acc', acc'.length = acc.length + q ∧ (ancsGo l acc).getD (acc.length + q) 0 = ancOf o acc' ∧ ∀ p, p < acc'.length → acc'.getD p 0 = (ancsGo l acc).getD p 0
  | [], acc, q, o, h => by simp at h
  | o' :: l, acc, 0, o, h => by
    cases h
    refine ⟨acc, rfl, ?_, fun p hp => ?_⟩
    · unfold ancsGo
      rw [ancsGo_prefix l _ _ (by simp), getD_append, if_neg (by omega)]
      simp
    · unfold ancsGo
      rw [ancsGo_prefix l _ _ (by simp; omega), getD_append, if_pos hp]
  | o' :: l, acc, q + 1, o, h => by
    obtain ⟨acc', h1, h2, h3⟩ := ancsGo_at l (acc ++ [ancOf o' acc]) q o (by simpa using h)
    refine ⟨acc', by rw [h1]; simp; omega, ?_, fun p hp => ?_⟩
    · unfold ancsGo
      rw [← h2]
      congr 1
      simp; omega
    · unfold ancsGo
      exact h3 p hp

theorem anc_fold (acc : List Nat) (i : Nat) : ∀ (es : List Edge) (m : Nat), (es.foldl (fun m e => if Region.binds .any e then m ||| 2 ^ e.on ||| acc.getD e.on 0 else m) m).testBit i = true → m.testBit i = true ∨ ∃ e ∈ es, Region.binds .any e = true ∧ (e.on = i ∨ (acc.getD e.on 0).testBit i = true)
  | [], m, h => .inl h
  | e :: es, m, h => by
    rw [List.foldl_cons] at h
    rcases anc_fold acc i es _ h with h | ⟨e', he', h⟩
    · split at h
      · rename_i hb
        rw [Nat.testBit_or, Nat.testBit_or, Bool.or_eq_true, Bool.or_eq_true] at h
        rcases h with (h | h) | h
        · exact .inl h
        · refine .inr ⟨e, List.mem_cons_self, hb, .inl ?_⟩
          rw [Nat.testBit_two_pow] at h
          simpa using h
        · exact .inr ⟨e, List.mem_cons_self, hb, .inr h⟩
      · exact .inl h
    · exact .inr ⟨e', List.mem_cons_of_mem _ he', h⟩

section draw
variable {P : Program} {ops : Array Oper} {Q : Exit → Act → World → Prop} {w0 : Base}

theorem depsB_spec (h : depsB ops = true) {i : Nat} {o : Oper} (ho : ops[i]? = some o) {e : Edge} (he : e ∈ o.after.toList) (hb : Region.binds .any e = true) : e.on < i := by
  have hi : i < ops.size := (Array.getElem?_eq_some_iff.1 ho).1
  have := List.all_eq_true.1 h i (List.mem_range.2 hi)
  simp only [ho] at this
  have := List.all_eq_true.1 this e he
  simpa [hb] using this

theorem mask_spec (h : depsB ops = true) {j i : Nat} {o : Oper} (ho : ops[j]? = some o) (ht : ((ancsGo ops.toList []).getD j 0).testBit i = true) : ∃ e ∈ o.after.toList, Region.binds .any e = true ∧ (e.on = i ∨ ((ancsGo ops.toList []).getD e.on 0).testBit i = true) := by
  obtain ⟨acc', h1, h2, h3⟩ := ancsGo_at ops.toList [] j o (by simpa using ho)
  simp only [List.length_nil, Nat.zero_add] at h1 h2
  rw [h2] at ht
  rcases anc_fold acc' i _ 0 ht with h0 | ⟨e, he, hb, h4⟩
  · simp at h0
  · refine ⟨e, he, hb, h4.imp id fun h5 => ?_⟩
    rw [← h3 e.on (by rw [h1]; exact depsB_spec h ho he hb)]
    exact h5

theorem anc_listed (h : depsB ops = true) {listed : Array Bool} (hcl : ∀ x o, ops[x]? = some o → listed.getD x false = true → ∀ e ∈ o.after.toList, Region.binds .any e = true → listed.getD e.on false = true) :
    ∀ (n j : Nat), j < n → ∀ o, ops[j]? = some o → (∀ e ∈ o.after.toList, Region.binds .any e = true → listed.getD e.on false = true) → ∀ i, ((ancsGo ops.toList []).getD j 0).testBit i = true → listed.getD i false = true
  | 0, j, hj, _, _, _, _, _ => absurd hj (Nat.not_lt_zero _)
  | n + 1, j, hj, o, ho, hd, i, ht => by
    obtain ⟨e, he, hb, h4⟩ := mask_spec h ho ht
    have hl := hd e he hb
    rcases h4 with rfl | h4
    · exact hl
    · have hlt := depsB_spec h ho he hb
      have hsz : e.on < ops.size := by have := (Array.getElem?_eq_some_iff.1 ho).1; omega
      have ho' : ops[e.on]? = some ops[e.on] := Array.getElem?_eq_getElem hsz
      exact anc_listed h hcl n e.on (by omega) _ ho' (hcl _ _ ho' hl) i h4

theorem Sound.congr {o : Oper} {ev ev' : Operand → AV Γ} {s s' : Nat → RStat Γ} {av : AV Γ} {rd : List Nat} {up : List (Nat × RStat Γ)} (h : Sound P o ev s av rd up) (he : ∀ x ∈ o.op.operands, ev' x = ev x) (hs : ∀ k ∈ rd, s' k = s k) : Sound P o ev' s' av rd up := by
  intro s2 h2 w0 F ρ a w hR hop
  exact h s2 (fun k hk => (h2 k hk).trans (hs k hk)) w0 F ρ a w hR (fun x hx => by rw [← he x hx]; exact hop x hx)

theorem step_slots {st : St Γ} {e : Ent Γ} {t : Nat} (h : dstAt ops e.idx ≠ some t) : (stepE ops st e).slots t = st.slots t := by
  cases e with
  | skip i =>
    simp only [stepE, Ent.idx] at h ⊢
    cases hd : dstAt ops i with
    | none => rfl
    | some d =>
      rw [hd] at h
      simp only [St.put, updS]
      rw [if_neg (fun e => h (by rw [e]))]
  | run i av rd up =>
    simp only [stepE, Ent.idx] at h ⊢
    cases hd : dstAt ops i with
    | none => rfl
    | some d =>
      rw [hd] at h
      simp only [St.put, updS]
      rw [if_neg (fun e => h (by rw [e]))]

theorem step_res {st : St Γ} {e : Ent Γ} {k : Nat} (h : k ∉ e.ws) : (stepE ops st e).res k = st.res k := by
  cases e with
  | skip i =>
    simp only [stepE]
    cases dstAt ops i <;> rfl
  | run i av rd up =>
    simp only [stepE]
    exact apply_other up st.res k (fun p hp e => h (List.mem_map.2 ⟨p, hp, e⟩))

theorem step_n {st : St Γ} {e : Ent Γ} : (stepE ops st e).n = st.n := by
  cases e <;> simp only [stepE] <;> cases dstAt ops _ <;> rfl

/-- What is known of an entry does not hang on another one beside it. -/
theorem entOk_past {st : St Γ} {e1 e2 : Ent Γ} {o1 o2 : Oper} (h1 : ops[e1.idx]? = some o1) (h2 : ops[e2.idx]? = some o2) (hd : ∀ d, o1.dst = some d → d ∉ o2.looksAt ops) (hk : ∀ k ∈ e1.ws, k ∉ e2.rd) (h : EntOk P ops (stepE ops st e1) e2) : EntOk P ops st e2 := by
  have hdst : dstAt ops e1.idx = o1.dst := by simp [dstAt, h1]
  have hslot : ∀ t, t ∈ o2.looksAt ops → (stepE ops st e1).slots t = st.slots t := fun t ht => step_slots (by rw [hdst]; exact fun e => hd t e ht)
  have hguard : ∀ b, guardIs ops (stepE ops st e1) o2 b → guardIs ops st o2 b := by
    intro b hg
    unfold guardIs at *
    cases hgd : o2.guard with
    | none => rw [hgd] at hg; exact hg
    | some gw =>
      obtain ⟨g, want⟩ := gw
      rw [hgd] at hg
      obtain ⟨t, ht, hx⟩ := hg
      refine ⟨t, ht, ?_⟩
      rw [← hslot t]
      · exact hx
      · unfold Oper.looksAt
        rw [hgd]
        refine List.mem_append_right _ ?_
        have : (ops[g]?).bind (·.dst) = some t := ht
        simp [this]
  have hop : ∀ x ∈ o2.op.operands, evalAV st.slots x = evalAV (stepE ops st e1).slots x := by
    intro x hx
    cases x with
    | tmp t =>
      refine (hslot t ?_).symm
      unfold Oper.looksAt
      exact List.mem_append_left _ (List.mem_filterMap.2 ⟨.tmp t, by simpa using hx, rfl⟩)
    | _ => rfl
  cases e2 with
  | skip i =>
    obtain ⟨o, ho, hg, hn⟩ := h
    have : o = o2 := by have := h2; simp only [Ent.idx] at this; rw [this] at ho; exact (Option.some.inj ho).symm
    subst this
    exact ⟨o, ho, hguard _ hg, by rw [step_n] at hn; exact hn⟩
  | run i av rd up =>
    obtain ⟨o, ho, hg, hn, hs⟩ := h
    have : o = o2 := by have := h2; simp only [Ent.idx] at this; rw [this] at ho; exact (Option.some.inj ho).symm
    subst this
    exact ⟨o, ho, hguard _ hg, by rw [step_n] at hn; exact hn, hs.congr hop (fun k hk' => (step_res (fun hw => hk k hw hk')).symm)⟩

theorem entOk_future {st : St Γ} {e1 e2 : Ent Γ} {o1 o2 : Oper} (h1 : ops[e1.idx]? = some o1) (h2 : ops[e2.idx]? = some o2) (hd : ∀ d, o1.dst = some d → d ∉ o2.looksAt ops) (hk : ∀ k ∈ e1.ws, k ∉ e2.rd) (h : EntOk P ops st e2) : EntOk P ops (stepE ops st e1) e2 := by
  have hdst : dstAt ops e1.idx = o1.dst := by simp [dstAt, h1]
  have hslot : ∀ t, t ∈ o2.looksAt ops → (stepE ops st e1).slots t = st.slots t := fun t ht => step_slots (by rw [hdst]; exact fun e => hd t e ht)
  have hguard : ∀ b, guardIs ops st o2 b → guardIs ops (stepE ops st e1) o2 b := by
    intro b hg
    unfold guardIs at *
    cases hgd : o2.guard with
    | none => rw [hgd] at hg; exact hg
    | some gw =>
      obtain ⟨g, want⟩ := gw
      rw [hgd] at hg
      obtain ⟨t, ht, hx⟩ := hg
      refine ⟨t, ht, ?_⟩
      rw [hslot t]
      · exact hx
      · unfold Oper.looksAt
        rw [hgd]
        refine List.mem_append_right _ ?_
        have : (ops[g]?).bind (·.dst) = some t := ht
        simp [this]
  have hop : ∀ x ∈ o2.op.operands, evalAV (stepE ops st e1).slots x = evalAV st.slots x := by
    intro x hx
    cases x with
    | tmp t =>
      refine hslot t ?_
      unfold Oper.looksAt
      exact List.mem_append_left _ (List.mem_filterMap.2 ⟨.tmp t, by simpa using hx, rfl⟩)
    | _ => rfl
  cases e2 with
  | skip i =>
    obtain ⟨o, ho, hg, hn⟩ := h
    have : o = o2 := by have := h2; simp only [Ent.idx] at this; rw [this] at ho; exact (Option.some.inj ho).symm
    subst this
    exact ⟨o, ho, hguard _ hg, by rw [step_n]; exact hn⟩
  | run i av rd up =>
    obtain ⟨o, ho, hg, hn, hs⟩ := h
    have : o = o2 := by have := h2; simp only [Ent.idx] at this; rw [this] at ho; exact (Option.some.inj ho).symm
    subst this
    exact ⟨o, ho, hguard _ hg, by rw [step_n]; exact hn, hs.congr hop (fun k hk' => step_res (fun hw => hk k hw hk'))⟩

theorem apply_eq : ∀ (up : List (Nat × RStat Γ)) (s s' : Nat → RStat Γ) (k : Nat), (k ∈ up.map (·.1) ∨ s k = s' k) → apply s up k = apply s' up k
  | [], s, s', k, h => by
    rcases h with h | h
    · simp at h
    · exact h
  | (q, x) :: up, s, s', k, h => by
    refine apply_eq up (updR s q x) (updR s' q x) k ?_
    by_cases e : k = q
    · right; subst e; simp [updR]
    · rcases h with h | h
      · rcases List.mem_cons.1 h with h | h
        · exact absurd h e
        · exact .inl h
      · right; simp [updR, e, h]

theorem step_comm {st : St Γ} {e1 e2 : Ent Γ} (hd : ∀ d, dstAt ops e1.idx = some d → dstAt ops e2.idx ≠ some d) (hk : ∀ k ∈ e1.ws, k ∉ e2.ws) : stepE ops (stepE ops st e1) e2 = stepE ops (stepE ops st e2) e1 := by
  have hslots : (stepE ops (stepE ops st e1) e2).slots = (stepE ops (stepE ops st e2) e1).slots := by
    funext t
    by_cases h2 : dstAt ops e2.idx = some t
    · have h1 : dstAt ops e1.idx ≠ some t := fun h => hd t h h2
      rw [step_slots h1]
      cases e2 with
      | skip i => simp only [Ent.idx] at h2; simp only [stepE, h2, St.put, updS, if_true]
      | run i av rd up => simp only [Ent.idx] at h2; simp only [stepE, h2, St.put, updS, if_true]
    · rw [step_slots h2]
      by_cases h1 : dstAt ops e1.idx = some t
      · cases e1 with
        | skip i => simp only [Ent.idx] at h1; simp only [stepE, h1, St.put, updS, if_true]
        | run i av rd up => simp only [Ent.idx] at h1; simp only [stepE, h1, St.put, updS, if_true]
      · rw [step_slots h1, step_slots h1, step_slots h2]
  have hres : (stepE ops (stepE ops st e1) e2).res = (stepE ops (stepE ops st e2) e1).res := by
    funext k
    by_cases h2 : k ∈ e2.ws
    · have h1 : k ∉ e1.ws := fun h => hk k h h2
      rw [step_res h1]
      cases e2 with
      | skip i => simp [Ent.ws] at h2
      | run i av rd up =>
        simp only [stepE]
        exact apply_eq up _ _ k (.inl h2)
    · rw [step_res h2]
      by_cases h1 : k ∈ e1.ws
      · cases e1 with
        | skip i => simp [Ent.ws] at h1
        | run i av rd up =>
          simp only [stepE]
          exact apply_eq up _ _ k (.inl h1)
      · rw [step_res h1, step_res h1, step_res h2]
  have hn : (stepE ops (stepE ops st e1) e2).n = (stepE ops (stepE ops st e2) e1).n := by simp only [step_n]
  have hkb : ∀ (st : St Γ) (e : Ent Γ), (stepE ops st e).kb = st.kb := fun st e => by cases e <;> simp only [stepE] <;> cases dstAt ops _ <;> rfl
  have hk2 : (stepE ops (stepE ops st e1) e2).kb = (stepE ops (stepE ops st e2) e1).kb := by simp only [hkb]
  generalize stepE ops (stepE ops st e1) e2 = a at *
  generalize stepE ops (stepE ops st e2) e1 = b at *
  cases a; cases b
  simp only at hslots hres hn hk2
  subst hslots; subst hres; subst hn; subst hk2
  rfl

theorem indepB_spec {e1 e2 : Ent Γ} (h : indepB ops e1 e2 = true) : ∃ o1 o2, ops[e1.idx]? = some o1 ∧ ops[e2.idx]? = some o2 ∧ (∀ d, o1.dst = some d → d ∉ o2.looksAt ops) ∧ (∀ d, o1.dst = some d → o2.dst ≠ some d) ∧ (∀ d, o2.dst = some d → d ∉ o1.looksAt ops) ∧
    (∀ k ∈ e1.ws, k ∉ e2.rd) ∧ (∀ k ∈ e1.ws, k ∉ e2.ws) ∧ (∀ k ∈ e2.ws, k ∉ e1.rd) := by
  unfold indepB at h
  simp only [Bool.and_eq_true] at h
  obtain ⟨⟨h1, h2⟩, h3⟩ := h
  split at h1
  · rename_i o1 o2 ho1 ho2
    obtain ⟨a, b, c⟩ := Oper.apart_spec h1
    have d2 := disjB_spec h2
    have d3 := disjB_spec h3
    exact ⟨o1, o2, ho1, ho2, a, b, c, fun k hk hm => d2 k hk (List.mem_append_left _ hm), fun k hk hm => d2 k hk (List.mem_append_right _ hm), fun k hk hm => d3 k hk (List.mem_append_left _ hm)⟩
  · cases h1

/-- An entry goes ahead of those with which it has nothing to do. -/
theorem chain_front : ∀ {A : List (Ent Γ)} {e : Ent Γ} {B : List (Ent Γ)} {st st' : St Γ}, Chain P ops st (A ++ e :: B) st' → (∀ a ∈ A, indepB ops a e = true) → Chain P ops st (e :: (A ++ B)) st'
  | [], e, B, st, st', h, _ => h
  | a :: A, e, B, st, st', h, hi => by
    obtain ⟨h1, h2⟩ := h
    have h3 := chain_front h2 (fun x hx => hi x (List.mem_cons_of_mem _ hx))
    obtain ⟨he, h4⟩ := h3
    obtain ⟨o1, o2, ho1, ho2, d1, d2, d3, k1, k2, k3⟩ := indepB_spec (hi a List.mem_cons_self)
    refine ⟨entOk_past ho1 ho2 d1 k1 he, entOk_future ho2 ho1 d3 k3 h1, ?_⟩
    rw [step_comm (e1 := e) (e2 := a) (fun d hd => by
      have h5 : dstAt ops e.idx = o2.dst := by simp [dstAt, ho2]
      have h6 : dstAt ops a.idx = o1.dst := by simp [dstAt, ho1]
      rw [h6]
      rw [h5] at hd
      exact fun hd1 => d2 d hd1 hd) (fun k hk hk' => k2 k hk' hk)]
    exact h4

theorem pairsB_spec {masks : List Nat} : ∀ {l : List (Ent Γ)}, pairsB ops masks l = true → l.Pairwise fun e1 e2 => (masks.getD e2.idx 0).testBit e1.idx = true ∨ indepB ops e1 e2 = true
  | [], _ => List.Pairwise.nil
  | e :: l, h => by
    simp only [pairsB, Bool.and_eq_true, List.all_eq_true, Bool.or_eq_true] at h
    exact List.Pairwise.cons (fun e2 he2 => h.1 e2 he2) (pairsB_spec h.2)

theorem chain_any (hdeps : depsB ops = true) : ∀ (fuel : Nat) {l : List (Ent Γ)} {st st' : St Γ} {listed : Array Bool} {a : Act} {w : World}, Chain P ops st l st' → Rel w0 st a w → listed.size = ops.size →
    (l.map Ent.idx).Pairwise (· < ·) → (∀ i, i < ops.size → (listed.getD i true = false ↔ i ∈ l.map Ent.idx)) → (∀ i ∈ l.map Ent.idx, i < ops.size) →
    (∀ x o, ops[x]? = some o → listed.getD x false = true → ∀ e ∈ o.after.toList, Region.binds .any e = true → listed.getD e.on false = true) →
    l.Pairwise (fun e1 e2 => ((ancsGo ops.toList []).getD e2.idx 0).testBit e1.idx = true ∨ indepB ops e1 e2 = true) → l.length ≤ fuel → (∀ a' w', Rel w0 st' a' w' → Q .normal a' w') →
    wpAny P .any ops Q fuel listed a w
  | 0, l, st, st', listed, a, w, hc, h, hsz, hsort, hlist, hbd, hcl, hpw, hlen, hQ => by
    have : l = [] := List.eq_nil_of_length_eq_zero (by omega)
    subst this
    have : st' = st := hc
    subst this
    refine ⟨?_, hQ _ _ h⟩
    apply List.eq_nil_iff_forall_not_mem.2
    intro i hi
    obtain ⟨h0, o, ho, _⟩ := mem_ready.1 hi
    have := (hlist i (Array.getElem?_eq_some_iff.1 ho).1).1 h0
    simp at this
  | fuel + 1, l, st, st', listed, a, w, hc, h, hsz, hsort, hlist, hbd, hcl, hpw, hlen, hQ => by
    have hlisted : ∀ i, i < ops.size → i ∉ l.map Ent.idx → listed.getD i false = true := by
      intro i hi hn
      have h1 : listed.getD i true ≠ false := fun e => hn ((hlist i hi).1 e)
      have hi' : i < listed.size := by omega
      simp [Array.getD_eq_getD_getElem?, Array.getElem?_eq_getElem hi'] at h1 ⊢
      exact h1
    refine ⟨fun hready => ?_, fun i hi => ?_⟩
    · cases l with
      | nil =>
        have : st' = st := hc
        subst this
        exact hQ _ _ h
      | cons e l =>
        exfalso
        have hei : e.idx < ops.size := hbd _ (by simp)
        have ho : ops[e.idx]? = some ops[e.idx] := Array.getElem?_eq_getElem hei
        have : e.idx ∈ Region.ready .any ops listed := by
          refine mem_ready.2 ⟨(hlist _ hei).2 (by simp), _, ho, fun ed hed hb => ?_⟩
          have hlt := depsB_spec hdeps ho (by simpa using hed) hb
          refine hlisted ed.on (by omega) fun hm => ?_
          rw [List.map_cons] at hm hsort
          rcases List.mem_cons.1 hm with he | hm
          · omega
          · have := (List.pairwise_cons.1 hsort).1 ed.on hm
            omega
        rw [hready] at this
        cases this
    · obtain ⟨h0, o, ho, hall⟩ := mem_ready.1 hi
      have hilt : i < ops.size := (Array.getElem?_eq_some_iff.1 ho).1
      have hm := (hlist i hilt).1 h0
      obtain ⟨e, he, hei⟩ := List.mem_map.1 hm
      obtain ⟨A, B, rfl⟩ := List.append_of_mem he
      have hdepl : ∀ ed ∈ o.after.toList, Region.binds .any ed = true → listed.getD ed.on false = true := fun ed hed hb => hall ed (by simpa using hed) hb
      have hind : ∀ x ∈ A, indepB ops x e = true := by
        intro x hx
        rcases (List.pairwise_append.1 hpw).2.2 x hx e List.mem_cons_self with ht | ht
        · exfalso
          rw [hei] at ht
          have h1 := anc_listed hdeps hcl (i + 1) i (Nat.lt_succ_self _) o ho hdepl x.idx ht
          have hxm : x.idx ∈ (A ++ e :: B).map Ent.idx := List.mem_map.2 ⟨x, List.mem_append_left _ hx, rfl⟩
          have hxl := hbd _ hxm
          have h2 := (hlist _ hxl).2 hxm
          have hx' : x.idx < listed.size := by omega
          simp [Array.getD_eq_getD_getElem?, Array.getElem?_eq_getElem hx'] at h1 h2
          rw [h1] at h2
          cases h2
        · exact ht
      obtain ⟨heok, hrest⟩ := chain_front hc hind
      rw [← hei]
      refine wpOp_ent heok h fun a' w' h' => ?_
      have hsub : List.Sublist (A ++ B) (A ++ e :: B) := List.Sublist.append_left (List.sublist_cons_self e B) A
      have hnot : e.idx ∉ (A ++ B).map Ent.idx := by
        have hnd : ((A ++ e :: B).map Ent.idx).Nodup := hsort.imp (fun h => Nat.ne_of_lt h)
        rw [List.map_append, List.map_cons] at hnd
        rw [List.map_append]
        intro hm
        rw [List.nodup_append] at hnd
        rcases List.mem_append.1 hm with hm | hm
        · exact hnd.2.2 _ hm _ List.mem_cons_self rfl
        · exact (List.nodup_cons.1 hnd.2.1).1 hm
      have hcl' : ∀ x o, ops[x]? = some o → (listed.setIfInBounds e.idx true).getD x false = true → ∀ ed ∈ o.after.toList, Region.binds .any ed = true → (listed.setIfInBounds e.idx true).getD ed.on false = true := by
        intro x o' ho' hx ed hed hb
        refine getD_set_true ?_
        by_cases ex : x = e.idx
        · subst ex
          rw [hei] at ho'
          rw [ho] at ho'
          cases ho'
          exact hdepl ed hed hb
        · rw [getD_set_ne false (fun e => ex e.symm)] at hx
          exact hcl x o' ho' hx ed hed hb
      refine chain_any hdeps fuel hrest h' (by simpa using hsz) (hsort.sublist (hsub.map _)) (fun q hq => ?_) (fun q hq => hbd q ((hsub.map _).subset hq)) hcl' (hpw.sublist hsub) (by simp at hlen ⊢; omega) hQ
      by_cases eq : q = e.idx
      · subst eq
        constructor
        · intro h
          have hq' : e.idx < listed.size := by omega
          simp [Array.getD_eq_getD_getElem?, Array.getElem?_setIfInBounds, hq'] at h
        · intro h; exact absurd h hnot
      · rw [getD_set_ne true (fun e => eq e.symm), hlist q hq]
        simp only [List.map_append, List.map_cons, List.mem_append, List.mem_cons]
        constructor
        · rintro (h | h | h)
          · exact .inl h
          · exact absurd h eq
          · exact .inr h
        · rintro (h | h)
          · exact .inl h
          · exact .inr (.inr h)

theorem Rel.draw {st : St Γ} {a : Act} {w : World} (h : Rel w0 st a w) : Rel w0 st a { w with drawn := w.drawn + 1 } := by
  obtain ⟨⟨F, ρ, hR, hs, hio⟩, hn, hd⟩ := h
  obtain ⟨x, R'⟩ := hR.fr (M := fun _ => False) (F' := F) (w' := { w with drawn := w.drawn + 1 }) (fun _ h => h) ⟨rfl, rfl, rfl, Nat.le_refl _, fun _ _ _ => rfl, fun _ h => h, fun _ h => .inl h, hR.fin⟩
  exact ⟨⟨F, ρ, R', fun i => (hs i).ext x, hio⟩, hn, hd⟩

theorem region_text {id : Nat} {l : List (Ent Γ)} {st st' : St Γ} {a : Act} {w : World} (hc : Chain P ops st l st') (hl : l.map Ent.idx = List.range ops.size) (h : Rel w0 st a w) (hQ : ∀ a' w', Rel w0 st' a' w' → Q .normal a' w') : (Code.region id ops false).wp P Q a w := by
  refine wp_region ?_
  rw [← hl]
  exact chain_text hc h hQ

theorem region_draw (hm : P.follows .mixedOrders = true) {id : Nat} {l : List (Ent Γ)} {st st' : St Γ} {a : Act} {w : World} (hc : Chain P ops st l st') (hl : l.map Ent.idx = List.range ops.size) (hok : drawOk ops l = true) (h : Rel w0 st a w) (hQ : ∀ a' w', Rel w0 st' a' w' → Q .normal a' w') : (Code.region id ops true).wp P Q a w := by
  simp only [drawOk, Bool.and_eq_true] at hok
  refine wp_region_any hm (chain_any hok.1 ops.size hc h.draw (by simp) (by rw [hl]; exact List.pairwise_lt_range) (fun i hi => ?_) (fun i hi => by rw [hl] at hi; exact List.mem_range.1 hi) (fun x o ho hx => ?_) (pairsB_spec hok.2) (by have := congrArg List.length hl; simp at this; omega) hQ)
  · rw [hl]
    simp [Array.getD_eq_getD_getElem?, hi]
  · exfalso
    have hxl : x < ops.size := (Array.getElem?_eq_some_iff.1 ho).1
    simp [Array.getD_eq_getD_getElem?, hxl] at hx
end draw

end Go.Vs
