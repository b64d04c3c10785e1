/- The evaluator's eighteenth part: operations in the order of the text, and in whatever order. -/
import Derived.Test.YtfebanpfolgmaaaVsY
import Derived.Test.YtfebanpfolgmaaaVsX
namespace Go.Vs
set_option linter.unusedVariables false
set_option linter.unusedSimpArgs false
open Go.RowKit

variable {Γ : Env}

def constAV : Value → AV Γ
  | .int k n => AV.dat (.int k) n
  | .bool b => AV.dat .bool b
  | .string b => AV.dat .str b
  | .slice none 0 0 => AV.one .nilS
  | _ => undA

def evalAV (slots : Nat → AV Γ) : Operand → AV Γ
  | .tmp t => slots t
  | .const v => constAV v
  | .global _ => undA
  | .func f => AV.one (.clo f [])

theorem undA_conc {F : Nat → Prop} {ρ : Nat → RI} {s : Nat → RStat Γ} {w : World} (v : Value) : ConcA F ρ s w undA v := trivial

theorem constAV_conc {F : Nat → Prop} {ρ : Nat → RI} {s : Nat → RStat Γ} {w : World} (v : Value) : ConcA F ρ s w (constAV v) v := by
  unfold constAV
  split
  · exact RepD.v _
  · exact RepD.v _
  · exact RepD.v _
  · rfl
  · exact trivial

theorem evalAV_conc {F : Nat → Prop} {ρ : Nat → RI} {s : Nat → RStat Γ} {w : World} {slots : Nat → AV Γ} {a : Act} (h : ∀ i, ConcA F ρ s w (slots i) (a.tmps.getD i undef)) (x : Operand) : ConcA F ρ s w (evalAV slots x) (a.eval x) := by
  cases x with
  | tmp t => exact h t
  | const v => exact constAV_conc v
  | global g => exact trivial
  | func f => exact ⟨[], rfl, rfl⟩

/-! ### one operation -/

section op
variable {R : Type} (P : Program) (ti : TypeId → Option (TI Γ)) (env : EnvT Γ) (ev : Operand → AV Γ) (s : Nat → RStat Γ) (o : Oper)

def isMatArg (s : Nat → RStat Γ) : AV Γ → Bool
  | .v (.one (.own j)) => match s j with
    | .live (.mat ..) => true
    | _ => false
  | _ => false

def vCallAny (c : Call) (key : Nat) (k : K Γ R) : Option R :=
  match c.callee with
  | .builtin .len => vLen ti ev s c.args c.argTypes k
  | .builtin .append => match c.args.toList with
    | [_, y] => if isMatArg s (ev y) then vAppendMat ti ev s c.args c.argTypes key k else vAppend ti ev s c.args c.argTypes key k
    | _ => none
  | .builtin .max => vMinMax ev true c.args k
  | .builtin .min => vMinMax ev false c.args k
  | .builtin .copy => vCopy ti ev s c.args c.argTypes k
  | .value fo => vCallE ev s env fo c.args key k
  | _ => none

def isNilA : AV Γ → Bool
  | .v (.one .nilS) => true
  | .v (.one (.nilT _)) => true
  | _ => false

/-- A slice compared with nil. -/
def vNil (neg : Bool) (T : TypeId) (x : Operand) (k : K Γ R) : Option R :=
  match ev x with
  | .v (.one (.leaf ⟨.sl t, l⟩)) => if isSliceT ti T = true then k (AV.one (.nilB neg (List.isEmpty (α := Den Γ t) l))) [] [] else none
  | .v (.one .nilS) => if isSliceT ti T = true then k (AV.dat .bool (!neg)) [] [] else none
  | .v (.one (.nilT _)) => if isSliceT ti T = true then k (AV.dat .bool (!neg)) [] [] else none
  | _ => none

def vBinAny (op : BinOp) (T : TypeId) (x y : Operand) (k : K Γ R) : Option R :=
  match op with
  | .eql => if isNilA (ev y) = true then vNil ti ev false T x k else if (twoB (ev x)).isSome = true then vEq2 ti ev false T x y k else vBin ti ev op T x y k
  | .neq => if isNilA (ev y) = true then vNil ti ev true T x k else if (twoB (ev x)).isSome = true then vEq2 ti ev true T x y k else vBin ti ev op T x y k
  | .shl => vShift ev true x y k
  | .shr => vShift ev false x y k
  | _ => vBin ti ev op T x y k

theorem isNilA_conc {F : Nat → Prop} {ρ : Nat → RI} {w : World} {a : AV Γ} {v : Value} (h : isNilA a = true) (hc : ConcA F ρ s w a v) : v = .slice none 0 0 := by
  unfold isNilA at h
  split at h
  · exact hc
  · exact hc
  · cases h

theorem equal_nil {T e : TypeId} (hd : P.underlying T = some (.slice e)) (a : Option Addr) (n c : Nat) (w : World) : (Op.equal T (.slice a n c) (.slice none 0 0)).run P w = .ok a.isNone w := by
  have h : ∀ d, (Op.equalIn (d + 1) T (.slice a n c) (.slice none 0 0)).run P w = .ok a.isNone w := by
    intro d
    cases a <;> simp [Op.equalIn, run_underlying hd]
  exact h 9999

theorem vNil_sound (hti : TIOk P ti) (op : BinOp) (neg : Bool) (hop : (op = .eql ∧ neg = false) ∨ (op = .neq ∧ neg = true)) (T yT : TypeId) (x y : Operand) (ho : o.op = .binOp op T x y yT) (hy : isNilA (ev y) = true) : Goal P ev s o (vNil (R := R) ti ev neg T x) := by
  have key : ∀ {e : TypeId} (hd : P.underlying T = some (.slice e)) {F : Nat → Prop} {ρ : Nat → RI} {s2 : Nat → RStat Γ} {ac : Act} {w : World} (a : Option Addr) (n c : Nat), ac.eval x = .slice a n c → ac.eval y = .slice none 0 0 → (execOp ac.eval o).run P w = .ok (.value (.bool (a.isNone != neg))) w := by
    intro e hd F ρ s2 ac w a n c hx hy
    rcases hop with ⟨rfl, rfl⟩ | ⟨rfl, rfl⟩
    · simp only [execOp, ho, hx, hy, Sem.run_bind, eqGuard_lit P .eql T x y (.slice a n c) (.slice none 0 0) w (by intro v; simp) (by simp), Result.andThen_ok, binOp, equal_nil P hd, Sem.run_pure]
      simp
    · simp only [execOp, ho, hx, hy, Sem.run_bind, eqGuard_lit P .neq T x y (.slice a n c) (.slice none 0 0) w (by intro v; simp) (by simp), Result.andThen_ok, binOp, equal_nil P hd, Sem.run_pure]
      simp
  have hsl : isSliceT ti T = true → ∃ e, P.underlying T = some (.slice e) := by
    intro h
    unfold isSliceT at h
    obtain ⟨e, he⟩ := Option.isSome_iff_exists.1 h
    exact ⟨e, sliceAt?_spec P hti he⟩
  intro k r h
  unfold vNil at h
  split at h
  · rename_i t l hx
    split at h
    · rename_i hs
      obtain ⟨e, hd⟩ := hsl hs
      refine ⟨_, _, _, h, Sound.pure fun s2 _ w0 F ρ ac w hR hopn => ?_⟩
      have h1 := hopn x (by simp [ho, Op.operands])
      have h2 := isNilA_conc s2 hy (hopn y (by simp [ho, Op.operands]))
      rw [hx] at h1
      have h1 : RepD F w (.sl (t.size Γ) (List.map (encL t) l)) (ac.eval x) := h1
      rcases h1.sl_inv with ⟨hv, hl⟩ | ⟨a, cap, u, hv, _⟩
      · refine ⟨_, key hd (F := F) (ρ := ρ) (s2 := s2) none 0 0 hv h2, _, rfl, fun _ => ?_⟩
        have : l = [] := List.map_eq_nil_iff.1 hl
        rw [this]; rfl
      · refine ⟨_, key hd (F := F) (ρ := ρ) (s2 := s2) (some a) _ cap hv h2, _, rfl, fun hb => ?_⟩
        cases neg <;> simp at hb
    · cases h
  · rename_i hx
    split at h
    · rename_i hs
      obtain ⟨e, hd⟩ := hsl hs
      refine ⟨_, _, _, h, Sound.pure fun s2 _ w0 F ρ ac w hR hopn => ?_⟩
      have h1 := hopn x (by simp [ho, Op.operands])
      have h2 := isNilA_conc s2 hy (hopn y (by simp [ho, Op.operands]))
      rw [hx] at h1
      refine ⟨_, key hd (F := F) (ρ := ρ) (s2 := s2) none 0 0 h1 h2, ?_⟩
      cases neg <;> exact conc_bool _
    · cases h
  · rename_i hx
    split at h
    · rename_i hs
      obtain ⟨e, hd⟩ := hsl hs
      refine ⟨_, _, _, h, Sound.pure fun s2 _ w0 F ρ ac w hR hopn => ?_⟩
      have h1 := hopn x (by simp [ho, Op.operands])
      have h2 := isNilA_conc s2 hy (hopn y (by simp [ho, Op.operands]))
      rw [hx] at h1
      refine ⟨_, key hd (F := F) (ρ := ρ) (s2 := s2) none 0 0 h1 h2, ?_⟩
      cases neg <;> exact conc_bool _
    · cases h
  · cases h

theorem vBinAny_sound (hti : TIOk P ti) (op : BinOp) (T yT : TypeId) (x y : Operand) (ho : o.op = .binOp op T x y yT) : Goal P ev s o (vBinAny (R := R) ti ev op T x y) := by
  intro k r h
  unfold vBinAny at h
  split at h
  · split at h
    · rename_i hy
      exact vNil_sound P ti ev s o hti .eql false (.inl ⟨rfl, rfl⟩) T yT x y ho hy k r h
    · split at h
      · exact vEq2_sound P ti ev s o hti .eql false (.inl ⟨rfl, rfl⟩) T yT x y ho k r h
      · exact vBin_sound P ti ev s o hti _ T yT x y ho k r h
  · split at h
    · rename_i hy
      exact vNil_sound P ti ev s o hti .neq true (.inr ⟨rfl, rfl⟩) T yT x y ho hy k r h
    · split at h
      · exact vEq2_sound P ti ev s o hti .neq true (.inr ⟨rfl, rfl⟩) T yT x y ho k r h
      · exact vBin_sound P ti ev s o hti _ T yT x y ho k r h
  · exact vShift_sound P ev s o true T yT x y ho k r h
  · exact vShift_sound P ev s o false T yT x y ho k r h
  · exact vBin_sound P ti ev s o hti _ T yT x y ho k r h

def vOp (key : Nat) (k : K Γ R) : Option R :=
  match o.op with
  | .move x => vMove ti ev o x k
  | .assign x => vMove ti ev o x k
  | .pick c x y => vPick ti ev o c x y k
  | .binOp op T x y _ => vBinAny ti ev op T x y k
  | .unOp op _ x => vUn ev op x k
  | .convert src dst x => vConv ti ev src dst x k
  | .extract x n => vExtract ev x n k
  | .makeFunc fn first captured => vFunc ev fn first captured k
  | .fieldAddr S x f => vFieldAddr ti ev s S x f k
  | .field S x f => vField ti ev S x f k
  | .indexAddr T x i => vIndexAddr ti ev s T x i k
  | .index T x i => vIndex ti ev T x i k
  | .load T x => vLoad ti ev s T x k
  | .store T a x => vStore ti ev s T a x k
  | .alloc E => vAlloc ti s E key k
  | .box E x => vBox ti ev s E x key k
  | .build T parts => vBuild ti ev s T parts k
  | .buildSlice T len parts => vBuildSlice ti ev s T len parts key k
  | .makeSlice T l c => vMake ti ev s T l c key k
  | .call c => vCallAny ti env ev s c key k
  | .slice T x lo hi mx => vSlice ti ev s T x lo hi mx k
  | _ => none

theorem vCallAny_sound (hΓ : Γ.Ok) (hti : TIOk P ti) (henv : EnvOk P env) (c : Call) (key : Nat) (ho : o.op = .call c) : Goal P ev s o (vCallAny (R := R) ti env ev s c key) := by
  intro k r h
  obtain ⟨callee, args, tys⟩ := c
  unfold vCallAny at h
  cases callee with
  | value fo => exact vCallE_sound P ev s o hΓ henv fo args tys key ho k r h
  | invoke _ _ => cases h
  | builtin b =>
    cases b <;> first | (cases h; done) | skip
    case append =>
      simp only at h
      split at h
      · split at h
        · exact vAppendMat_sound P ti ev s o hΓ hti args tys key ho k r h
        · exact vAppend_sound P ti ev s o hΓ hti args tys key ho k r h
      · cases h
    case copy => exact vCopy_sound P ti ev s o hΓ hti args tys ho k r h
    case len => exact vLen_sound P ti ev s o hΓ hti args tys ho k r h
    case max => exact vMinMax_sound P ev s o true args tys ho k r h
    case min => exact vMinMax_sound P ev s o false args tys ho k r h

theorem vOp_sound (hΓ : Γ.Ok) (hti : TIOk P ti) (hfull : TIFull ti) (henv : EnvOk P env) (key : Nat) : Goal P ev s o (vOp (R := R) ti env ev s o key) := by
  intro k r h
  unfold vOp at h
  split at h
  · rename_i x ho; exact vMove_sound P ti ev s o x (.inl ho) k r h
  · rename_i x ho; exact vMove_sound P ti ev s o x (.inr ho) k r h
  · rename_i c x y ho; exact vPick_sound P ti ev s o c x y ho k r h
  · rename_i op T x y yT ho; exact vBinAny_sound P ti ev s o hti op T yT x y ho k r h
  · rename_i op T x ho; exact vUn_sound P ev s o op T x ho k r h
  · rename_i src dst x ho; exact vConv_sound P ti ev s o hti src dst x ho k r h
  · rename_i x n ho; exact vExtract_sound P ev s o x n ho k r h
  · rename_i fn first captured ho; exact vFunc_sound P ev s o fn first captured ho k r h
  · rename_i S x f ho; exact vFieldAddr_sound P ti ev s o hti S x f ho k r h
  · rename_i S x f ho; exact vField_sound P ti ev s o hti S x f ho k r h
  · rename_i T x i ho; exact vIndexAddr_sound P ti ev s o hti hfull T x i ho k r h
  · rename_i T x i ho; exact vIndex_sound P ti ev s o hti T x i ho k r h
  · rename_i T x ho; exact vLoad_sound P ti ev s o hΓ hti T x ho k r h
  · rename_i T a x ho; exact vStore_sound P ti ev s o hΓ hti T a x ho k r h
  · rename_i E ho; exact vAlloc_sound P ti ev s o hti E key ho k r h
  · rename_i E x ho; exact vBox_sound P ti ev s o E x key ho k r h
  · rename_i T parts ho; exact vBuild_sound P ti ev s o hti T parts ho k r h
  · rename_i T len parts ho; exact vBuildSlice_sound P ti ev s o hΓ hti T len parts key ho k r h
  · rename_i T l c ho; exact vMake_sound P ti ev s o hΓ hti T l c key ho k r h
  · rename_i c ho; exact vCallAny_sound P ti env ev s o hΓ hti henv c key ho k r h
  · rename_i T x lo hi mx ho; exact vSlice_sound P ti ev s o hti T x lo hi mx ho k r h
  · cases h
end op

/-! ### states -/

structure St (Γ : Env) where
  slots : Nat → AV Γ
  n : Nat
  res : Nat → RStat Γ
  kb : Nat

def updS (f : Nat → AV Γ) (d : Nat) (a : AV Γ) : Nat → AV Γ := fun i => if i = d then a else f i

def St.put (st : St Γ) (dst : Option Tmp) (a : AV Γ) : St Γ :=
  match dst with
  | some d => { st with slots := updS st.slots d a }
  | none => st

def dstIn (dst : Option Tmp) (n : Nat) : Bool :=
  match dst with
  | some d => decide (d < n)
  | none => true

structure Rel (w0 : Base) (st : St Γ) (a : Act) (w : World) : Prop where
  mk :: (ex : ∃ F ρ, RelR w0 F ρ st.res w ∧ (∀ i, ConcA F ρ st.res w (st.slots i) (a.tmps.getD i undef)) ∧ (w0.io = true → st.res KIO ≠ .never ∧ (ρ KIO).blk = w0.blk)) (size : a.tmps.size = st.n) (defers : a.defers = [])

theorem put_getD {a : Act} {d : Nat} {v : Value} (h : d < a.tmps.size) (i : Nat) : (a.put (some d) v).tmps.getD i undef = if i = d then v else a.tmps.getD i undef := by
  simp only [Act.put, Array.getD_eq_getD_getElem?, Array.getElem?_setIfInBounds]
  by_cases e : d = i
  · subst e; simp [h]
  · simp [e, Ne.symm e]

theorem put_size (a : Act) (dst : Option Tmp) (v : Value) : (a.put dst v).tmps.size = a.tmps.size := by cases dst <;> simp [Act.put]
theorem put_defers (a : Act) (dst : Option Tmp) (v : Value) : (a.put dst v).defers = a.defers := by cases dst <;> rfl

theorem slots_put {F : Nat → Prop} {ρ : Nat → RI} {s : Nat → RStat Γ} {w : World} {st : St Γ} {a : Act} {dst : Option Tmp} {av : AV Γ} {v : Value} (hn : a.tmps.size = st.n) (hd : dstIn dst st.n = true) (h : ∀ i, ConcA F ρ s w (st.slots i) (a.tmps.getD i undef)) (hv : ConcA F ρ s w av v) :
    ∀ i, ConcA F ρ s w ((st.put dst av).slots i) ((a.put dst v).tmps.getD i undef) := by
  intro i
  cases dst with
  | none => exact h i
  | some d =>
    have hd' : d < a.tmps.size := by rw [hn]; exact of_decide_eq_true hd
    rw [put_getD hd']
    simp only [St.put, updS]
    by_cases e : i = d
    · simp only [e, if_true]; exact hv
    · simp only [e, if_false]; exact h i

/-- One operation done, as the evaluator says. -/
inductive Ent (Γ : Env) where
  | skip (i : Nat)
  | run (i : Nat) (av : AV Γ) (rd : List Nat) (up : List (Nat × RStat Γ))

def Ent.idx : Ent Γ → Nat
  | .skip i => i
  | .run i _ _ _ => i

/-- What is not done leaves this. -/
def skpA : AV Γ := .tup []

def dstAt (ops : Array Oper) (i : Nat) : Option Tmp := (ops[i]?).bind (·.dst)

def stepE (ops : Array Oper) (st : St Γ) : Ent Γ → St Γ
  | .skip i => st.put (dstAt ops i) skpA
  | .run i av _ up => { st.put (dstAt ops i) av with res := apply st.res up }

def isSkp : AV Γ → Bool
  | .tup [] => true
  | _ => false

theorem skpA_conc {F : Nat → Prop} {ρ : Nat → RI} {s : Nat → RStat Γ} {w : World} : ConcA F ρ s w (skpA (Γ := Γ)) undef := ⟨#[], rfl, rfl, fun i hi => absurd hi (Nat.not_lt_zero _)⟩

theorem isSkp_conc {F : Nat → Prop} {ρ : Nat → RI} {s : Nat → RStat Γ} {w : World} {a : AV Γ} {v : Value} (h : isSkp a = true) (hc : ConcA F ρ s w a v) : v = .tuple #[] := by
  unfold isSkp at h
  split at h
  · obtain ⟨vs, hv, hs, _⟩ := hc
    rw [hv, Array.eq_empty_of_size_eq_zero hs]
  · cases h

/-- Whether a guard lets go on. -/
def gval (a : AV Γ) (want : Bool) : Option Bool :=
  match a.bool? with
  | some x => some (x == want)
  | none => if isSkp a = true then some false else none

/-- The guard's slot and what it holds. -/
def guardIs (ops : Array Oper) (st : St Γ) (o : Oper) (b : Bool) : Prop :=
  match o.guard with
  | none => b = true
  | some (g, want) => ∃ t, dstAt ops g = some t ∧ gval (st.slots t) want = some b

def EntOk (P : Program) (ops : Array Oper) (st : St Γ) : Ent Γ → Prop
  | .skip i => ∃ o, ops[i]? = some o ∧ guardIs ops st o false ∧ dstIn o.dst st.n = true
  | .run i av rd up => ∃ o, ops[i]? = some o ∧ guardIs ops st o true ∧ dstIn o.dst st.n = true ∧ Sound P o (evalAV st.slots) st.res av rd up

def Chain (P : Program) (ops : Array Oper) : St Γ → List (Ent Γ) → St Γ → Prop
  | st, [], st' => st' = st
  | st, e :: l, st' => EntOk P ops st e ∧ Chain P ops (stepE ops st e) l st'

section region
variable {P : Program} {ops : Array Oper} {Q : Exit → Act → World → Prop} {w0 : Base}

theorem wanted_of {st : St Γ} {a : Act} {w : World} (h : Rel w0 st a w) {o : Oper} {b : Bool} (hg : guardIs ops st o b) : Region.wanted o (yielded ops a.tmps) = b := by
  obtain ⟨⟨F, ρ, hR, hs, _⟩, hn, _⟩ := h
  unfold guardIs at hg
  unfold Region.wanted
  cases hgd : o.guard with
  | none => rw [hgd] at hg; exact hg.symm
  | some gw =>
    obtain ⟨g, want⟩ := gw
    rw [hgd] at hg
    obtain ⟨t, ht, hx⟩ := hg
    have ht' : (ops[g]?).bind (·.dst) = some t := ht
    unfold gval at hx
    split at hx
    · rename_i x hb
      cases hx
      have hv := bool?_spec hb (hs t)
      have hlt : t < a.tmps.size := by
        rcases Nat.lt_or_ge t a.tmps.size with h | h
        · exact h
        · have : a.tmps.getD t undef = undef := by simp [Array.getD_eq_getD_getElem?, Array.getElem?_eq_none h]
          rw [this] at hv
          cases hv
      have hy : yielded ops a.tmps g = some x := by
        unfold yielded
        rw [ht']
        have : a.tmps[t]? = some (.bool x) := by
          rw [Array.getElem?_eq_getElem hlt]
          rw [← hv]
          simp [Array.getD_eq_getD_getElem?, Array.getElem?_eq_getElem hlt]
        simp [this]
      simp only [hy]
      cases x <;> cases want <;> rfl
    · split at hx
      · rename_i hsk
        cases hx
        have hv := isSkp_conc hsk (hs t)
        have hy : yielded ops a.tmps g = none := by
          unfold yielded
          rw [ht']
          rcases Nat.lt_or_ge t a.tmps.size with h | h
          · have : a.tmps[t]? = some (.tuple #[]) := by
              rw [Array.getElem?_eq_getElem h]
              rw [← hv]
              simp [Array.getD_eq_getD_getElem?, Array.getElem?_eq_getElem h]
            simp [this]
          · simp [Array.getElem?_eq_none h]
        simp only [hy]
        cases want <;> rfl
      · cases hx

/-- One step of whatever order. -/
theorem wpOp_ent {st : St Γ} {e : Ent Γ} (he : EntOk P ops st e) {a : Act} {w : World} (h : Rel w0 st a w) {K : Act → World → Prop} (hK : ∀ a' w', Rel w0 (stepE ops st e) a' w' → K a' w') : wpOp P ops Q e.idx K a w := by
  cases e with
  | skip i =>
    obtain ⟨o, ho, hg, hd⟩ := he
    unfold wpOp
    simp only [Ent.idx, ho, wanted_of h hg, Bool.false_eq_true, if_false]
    obtain ⟨⟨F, ρ, hR, hs, hio⟩, hn, hdf⟩ := h
    have hdst : dstAt ops i = o.dst := by simp [dstAt, ho]
    refine hK _ _ ⟨⟨F, ρ, ?_, ?_, ?_⟩, ?_, ?_⟩
    · simp only [stepE]
      cases hd2 : dstAt ops i <;> exact hR
    · simp only [stepE, hdst]
      have e : (st.put o.dst (skpA : AV Γ)).res = st.res := by cases o.dst <;> rfl
      rw [e]
      exact slots_put hn hd hs skpA_conc
    · simp only [stepE]
      cases hd2 : dstAt ops i <;> exact hio
    · rw [put_size, hn]
      simp only [stepE]
      cases dstAt ops i <;> rfl
    · rw [put_defers]; exact hdf
  | run i av rd up =>
    obtain ⟨o, ho, hg, hd, hsound⟩ := he
    unfold wpOp
    simp only [Ent.idx, ho, wanted_of h hg, if_true]
    obtain ⟨⟨F, ρ, hR, hs, hio⟩, hn, hdf⟩ := h
    have hdst : dstAt ops i = o.dst := by simp [dstAt, ho]
    refine .inl (hsound st.res (fun _ _ => rfl) w0 F ρ a w hR (fun x _ => evalAV_conc hs x) K Q fun v w' F' ρ' hp => ?_)
    refine hK _ _ ⟨⟨F', ρ', hp.rel, ?_, fun h => by obtain ⟨h1, h2⟩ := hio h; obtain ⟨g1, g2, _⟩ := hp.ext.stat KIO h1; exact ⟨g1, g2.trans h2⟩⟩, ?_, ?_⟩
    · simp only [stepE, hdst]
      exact slots_put (st := st) hn hd (fun i => (hs i).ext hp.ext) hp.val
    · rw [put_size, hn]
      simp only [stepE]
      cases dstAt ops i <;> rfl
    · rw [put_defers]; exact hdf

theorem chain_text : ∀ {l : List (Ent Γ)} {st st' : St Γ} {a : Act} {w : World}, Chain P ops st l st' → Rel w0 st a w → (∀ a' w', Rel w0 st' a' w' → Q .normal a' w') → wpOps P ops Q (l.map Ent.idx) a w
  | [], st, st', a, w, hc, h, hQ => by
    have : st' = st := hc
    subst this
    exact hQ _ _ h
  | e :: l, st, st', a, w, hc, h, hQ => by
    rw [List.map_cons, wpOps_cons]
    exact wpOp_ent hc.1 h fun a' w' h' => chain_text hc.2 h' hQ
end region

end Go.Vs
