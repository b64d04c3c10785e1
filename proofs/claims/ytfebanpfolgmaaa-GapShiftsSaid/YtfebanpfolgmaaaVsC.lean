/- The evaluator's third part: operations on numbers, truth values and tuples, and the tests that the printed functions bear. -/
import Derived.Test.YtfebanpfolgmaaaVsB
namespace Go.Vs
set_option linter.unusedVariables false
open Go.RowKit

/-- What is known of the program's types. -/
inductive UK where
  | int (k : IntKind)
  | bool
  | str
  | slice (e : TypeId)
  | struct (fs : List (Nat × TypeId))
  | array (n : Nat) (e : TypeId)
  | ptr (e : TypeId)
  | func
  deriving DecidableEq

def UK.Is : UK → TypeDesc → Prop
  | .int k, d => d = .int k
  | .bool, d => d = .bool
  | .str, d => d = .string
  | .slice e, d => d = .slice e
  | .struct fs, d => ∃ fields : Array Field, d = .struct fields ∧ fields.toList.map (fun f => (f.offset, f.type)) = fs
  | .array n e, d => d = .array n e
  | .ptr e, d => d = .pointer e
  | .func, d => ∃ a b c, d = .func a b c

def UK.agg : UK → Bool
  | .struct _ => true
  | .array _ _ => true
  | _ => false

variable {Γ : Env}

structure TI (Γ : Env) where
  und : UK
  size : Nat
  bytes : Nat
  ty : Option Ty
  zero : Option (List (Cell Γ))

def zval : D → Value
  | .v x => x
  | .sl _ _ => .slice none 0 0

def D.zeroB : D → Bool
  | .v _ => true
  | .sl _ l => l.isEmpty

structure TIOk1 (P : Program) (T : TypeId) (i : TI Γ) : Prop where
  und : ∃ d, P.underlying T = some d ∧ i.und.Is d
  info : ∃ f, P.info? T = some f ∧ f.size = i.size ∧ f.bytes = i.bytes ∧
    ∀ zs, i.zero = some zs → (∀ c ∈ zs, (Cell.enc c).zeroB = true) ∧ ∃ z, f.zero = some z ∧ z.cells.toList = zs.map (fun c => zval c.enc)

def TIOk (P : Program) (ti : TypeId → Option (TI Γ)) : Prop := ∀ T i, ti T = some i → TIOk1 P T i

/-- A test in a printed function. -/
def chk {R : Type} (b : Bool) (x : Option R) : Option R := cond b x none

theorem chk_some {R : Type} {b : Bool} {x : Option R} {r : R} (h : chk b x = some r) : b = true ∧ x = some r := by
  cases b
  · simp [chk] at h
  · exact ⟨rfl, h⟩

abbrev K (Γ : Env) (R : Type) := AV Γ → List Nat → List (Nat × RStat Γ) → Option R

def AV.one (c : CV Γ) : AV Γ := .v (.one c)
def AV.dat (t : Ty) (x : Den Γ t) : AV Γ := .v (.one (.leaf ⟨t, x⟩))

def AV.leaf? : AV Γ → Option (Cell Γ)
  | .v (.one (.leaf c)) => some c
  | _ => none

def AV.int? (a : AV Γ) : Option (IntKind × Int) :=
  match a.leaf? with
  | some ⟨.int k, n⟩ => some (k, n)
  | _ => none

def AV.bool? (a : AV Γ) : Option Bool :=
  match a.leaf? with
  | some ⟨.bool, b⟩ => some b
  | _ => none

def AV.str? (a : AV Γ) : Option ByteArray :=
  match a.leaf? with
  | some ⟨.str, b⟩ => some b
  | _ => none

theorem RepD.v_inv {F : Nat → Prop} {w : World} {x v : Value} (h : RepD F w (.v x) v) : v = x := by
  generalize e : D.v x = d at h
  cases h with
  | v y => cases e; rfl
  | nil sz => cases e
  | sl => cases e

theorem RepD.sl_inv {F : Nat → Prop} {w : World} {sz : Nat} {l : List (List D)} {v : Value} (h : RepD F w (.sl sz l) v) :
    (v = .slice none 0 0 ∧ l = []) ∨ ∃ (a : Addr) (cap : Nat) (u : Nat → Nat → Value), v = .slice (some a) l.length cap ∧ (∀ r ∈ l, r.length = sz) ∧ l.length ≤ cap ∧ cap ≤ maxLen ∧
      (∀ i j, i < l.length → j < sz → F a.block ∧ w.cell? (a.add (i * sz + j)) = some (u i j) ∧ RepD F w ((l.getD i []).getD j (.v undef)) (u i j)) := by
  generalize e : D.sl sz l = d at h
  cases h with
  | v y => cases e
  | nil sz => cases e; exact .inl ⟨rfl, rfl⟩
  | sl a cap sz l u hsz hc hm hF hcell hr =>
    cases e
    exact .inr ⟨a, cap, u, rfl, hsz, hc, hm, fun i j hi hj => ⟨hF i j hi hj, hcell i j hi hj, hr i j hi hj⟩⟩

theorem RepD.zero {F : Nat → Prop} {w : World} {d : D} (h : d.zeroB = true) : RepD F w d (zval d) := by
  cases d with
  | v x => exact .v x
  | sl sz l =>
    cases l with
    | nil => exact .nil sz
    | cons _ _ => simp [D.zeroB] at h

section
variable {F : Nat → Prop} {ρ : Nat → RI} {s : Nat → RStat Γ} {w : World}

theorem leaf?_spec {a : AV Γ} {c : Cell Γ} {v : Value} (h : a.leaf? = some c) (hc : ConcA F ρ s w a v) : RepD F w c.enc v := by
  unfold AV.leaf? at h
  split at h
  · cases h; exact hc
  · cases h

theorem int?_spec {a : AV Γ} {k : IntKind} {n : Int} {v : Value} (h : a.int? = some (k, n)) (hc : ConcA F ρ s w a v) : v = .int k n := by
  unfold AV.int? at h
  split at h
  · rename_i k' n' hl
    cases h
    exact (leaf?_spec hl hc).v_inv
  · cases h

theorem bool?_spec {a : AV Γ} {b : Bool} {v : Value} (h : a.bool? = some b) (hc : ConcA F ρ s w a v) : v = .bool b := by
  unfold AV.bool? at h
  split at h
  · rename_i b' hl
    cases h
    exact (leaf?_spec hl hc).v_inv
  · cases h

theorem str?_spec {a : AV Γ} {b : ByteArray} {v : Value} (h : a.str? = some b) (hc : ConcA F ρ s w a v) : v = .string b := by
  unfold AV.str? at h
  split at h
  · rename_i b' hl
    cases h
    exact (leaf?_spec hl hc).v_inv
  · cases h

theorem conc_int (k : IntKind) (n : Int) : ConcA F ρ s w (AV.dat (Γ := Γ) (.int k) n) (.int k n) := RepD.v _
theorem conc_bool (b : Bool) : ConcA F ρ s w (AV.dat (Γ := Γ) .bool b) (.bool b) := RepD.v _
end

/-! ### move, assign, pick -/

def fixNil (t : Option Ty) (a : AV Γ) : AV Γ :=
  match a, t with
  | .v (.one .nilS), some (.sl t) => .v (.one (.nilT t))
  | a, _ => a

theorem fixNil_conc {F : Nat → Prop} {ρ : Nat → RI} {s : Nat → RStat Γ} {w : World} (t : Option Ty) {a : AV Γ} {v : Value} (h : ConcA F ρ s w a v) : ConcA F ρ s w (fixNil t a) v := by
  unfold fixNil
  split
  · exact h
  · exact h

def tyAt (ti : TypeId → Option (TI Γ)) (T : TypeId) : Option Ty := (ti T).bind (·.ty)

section ops
variable {R : Type} (P : Program) (ti : TypeId → Option (TI Γ)) (ev : Operand → AV Γ) (s : Nat → RStat Γ) (o : Oper)

/-- What a theorem of soundness says: the evaluator went on, with what the operation does. -/
def Goal (x : (K Γ R) → Option R) : Prop := ∀ (k : K Γ R) (r : R), x k = some r → ∃ av rd up, k av rd up = some r ∧ Sound P o ev s av rd up

def vMove (x : Operand) (k : K Γ R) : Option R := k (fixNil (tyAt ti o.type) (ev x)) [] []

theorem vMove_sound (x : Operand) (ho : o.op = .move x ∨ o.op = .assign x) : Goal P ev s o (vMove (R := R) ti ev o x) := by
  intro k r h
  refine ⟨_, _, _, h, Sound.pure fun s2 _ w0 F ρ a w hR hop => ⟨a.eval x, ?_, ?_⟩⟩
  · rcases ho with ho | ho <;> simp [execOp, ho]
  · exact fixNil_conc _ (hop x (by rcases ho with ho | ho <;> simp [ho, Op.operands]))

def vPick (c x y : Operand) (k : K Γ R) : Option R :=
  match (ev c).bool? with
  | some b => cond b (k (fixNil (tyAt ti o.type) (ev x)) [] []) (k (fixNil (tyAt ti o.type) (ev y)) [] [])
  | none => none

theorem vPick_sound (c x y : Operand) (ho : o.op = .pick c x y) : Goal P ev s o (vPick (R := R) ti ev o c x y) := by
  intro k r h
  unfold vPick at h
  split at h
  · rename_i b hb
    cases b with
    | true =>
      refine ⟨_, _, _, h, Sound.pure fun s2 _ w0 F ρ a w hR hop => ⟨a.eval x, ?_, ?_⟩⟩
      · have hc := bool?_spec hb (hop c (by simp [ho, Op.operands]))
        simp [execOp, ho, hc, asBool]
      · exact fixNil_conc _ (hop x (by simp [ho, Op.operands]))
    | false =>
      refine ⟨_, _, _, h, Sound.pure fun s2 _ w0 F ρ a w hR hop => ⟨a.eval y, ?_, ?_⟩⟩
      · have hc := bool?_spec hb (hop c (by simp [ho, Op.operands]))
        simp [execOp, ho, hc, asBool]
      · exact fixNil_conc _ (hop y (by simp [ho, Op.operands]))
  · cases h

/-! ### arithmetic -/

/-- Comparisons, as the printed functions bear them. -/
def ilt (a b : Int) : Bool := decide (a < b)
def ile (a b : Int) : Bool := decide (a ≤ b)
def ieq (a b : Int) : Bool := decide (a = b)

def iand (k : IntKind) (a b : Int) : Int := k.wrap (((a % 2 ^ k.bits).toNat &&& (b % 2 ^ k.bits).toNat : Nat) : Int)
def ior (k : IntKind) (a b : Int) : Int := k.wrap (((a % 2 ^ k.bits).toNat ||| (b % 2 ^ k.bits).toNat : Nat) : Int)
def ixor (k : IntKind) (a b : Int) : Int := k.wrap (((a % 2 ^ k.bits).toNat ^^^ (b % 2 ^ k.bits).toNat : Nat) : Int)

/-- Two whole numbers of one kind. -/
def iop (op : BinOp) (k : IntKind) (a b : Int) (f : AV Γ → Option R) : Option R :=
  match op with
  | .add => f (AV.dat (.int k) (k.wrap (a + b)))
  | .sub => f (AV.dat (.int k) (k.wrap (a - b)))
  | .mul => f (AV.dat (.int k) (k.wrap (a * b)))
  | .eql => f (AV.dat .bool (a == b))
  | .neq => f (AV.dat .bool (a != b))
  | .lss => f (AV.dat .bool (decide (a < b)))
  | .leq => f (AV.dat .bool (decide (a ≤ b)))
  | .gtr => f (AV.dat .bool (decide (b < a)))
  | .geq => f (AV.dat .bool (decide (b ≤ a)))
  | .quo => chk (b != 0) (f (AV.dat (.int k) (k.wrap (a.tdiv b))))
  | .rem => chk (b != 0) (f (AV.dat (.int k) (a.tmod b)))
  | .and => f (AV.dat (.int k) (iand k a b))
  | .or => f (AV.dat (.int k) (ior k a b))
  | .xor => f (AV.dat (.int k) (ixor k a b))
  | _ => none

theorem iop_sound {op : BinOp} {k : IntKind} {a b : Int} {f : AV Γ → Option R} {r : R} (h : iop op k a b f = some r) :
    ∃ t x, f (AV.dat t x) = some r ∧ ∃ v : Value, (∀ xt w, (binOp op xt (.int k a) (.int k b)).run P w = .ok v w) ∧ ∀ F w, RepD F w (Cell.enc (Γ := Γ) ⟨t, x⟩) v := by
  cases op <;> simp only [iop] at h
  case add => exact ⟨_, _, h, _, fun xt w => by simp [binOp, Op.intArith], fun F w => .v _⟩
  case sub => exact ⟨_, _, h, _, fun xt w => by simp [binOp, Op.intArith], fun F w => .v _⟩
  case mul => exact ⟨_, _, h, _, fun xt w => by simp [binOp, Op.intArith], fun F w => .v _⟩
  case and => exact ⟨_, _, h, _, fun xt w => by simp [binOp, Op.intBits, iand], fun F w => .v _⟩
  case or => exact ⟨_, _, h, _, fun xt w => by simp [binOp, Op.intBits, ior], fun F w => .v _⟩
  case xor => exact ⟨_, _, h, _, fun xt w => by simp [binOp, Op.intBits, ixor], fun F w => .v _⟩
  case eql => exact ⟨_, _, h, _, fun xt w => by simp [binOp, Op.intCmp], fun F w => .v _⟩
  case neq => exact ⟨_, _, h, _, fun xt w => by simp [binOp, Op.intCmp], fun F w => .v _⟩
  case lss => exact ⟨_, _, h, _, fun xt w => by simp [binOp, Op.intCmp], fun F w => .v _⟩
  case leq => exact ⟨_, _, h, _, fun xt w => by simp [binOp, Op.intCmp], fun F w => .v _⟩
  case gtr => exact ⟨_, _, h, _, fun xt w => by simp [binOp, Op.intCmp], fun F w => .v _⟩
  case geq => exact ⟨_, _, h, _, fun xt w => by simp [binOp, Op.intCmp], fun F w => .v _⟩
  case quo =>
    obtain ⟨hb, h⟩ := chk_some h
    have hb' : b ≠ 0 := by simpa using hb
    exact ⟨_, _, h, _, fun xt w => by simp [binOp, Op.intDiv, hb'], fun F w => .v _⟩
  case rem =>
    obtain ⟨hb, h⟩ := chk_some h
    have hb' : b ≠ 0 := by simpa using hb
    exact ⟨_, _, h, _, fun xt w => by simp [binOp, Op.intDiv, hb'], fun F w => .v _⟩
  all_goals cases h

def bop (op : BinOp) (a b : Bool) (f : AV Γ → Option R) : Option R :=
  match op with
  | .eql => f (AV.dat .bool (a == b))
  | .neq => f (AV.dat .bool (a != b))
  | _ => none

def isBool (ti : TypeId → Option (TI Γ)) (T : TypeId) : Bool :=
  match ti T with
  | some i => decide (i.und = .bool)
  | none => false

def vBin (op : BinOp) (T : TypeId) (x y : Operand) (k : K Γ R) : Option R :=
  match (ev x).int?, (ev y).int? with
  | some (kx, a), some (ky, b) => if kx = ky then iop op kx a b (fun v => k v [] []) else none
  | _, _ =>
    match (ev x).bool?, (ev y).bool? with
    | some a, some b => chk (isBool ti T) (bop op a b (fun v => k v [] []))
    | _, _ => none

theorem eqGuard_lit (op : BinOp) (T : TypeId) (x y : Operand) (a b : Value) (w : World) (h1 : ∀ v, a ≠ .agg v) (h2 : a ≠ .nilIface) : (eqGuard op T x y a b).run P w = .ok () w := by
  cases op <;> cases a <;> first | exact absurd rfl (h1 _) | exact absurd rfl h2 | (simp [eqGuard]; done)

theorem equal_bool (T : TypeId) (hd : P.underlying T = some .bool) (a b : Bool) (w : World) : ∀ d, (Op.equalIn (d + 1) T (.bool a) (.bool b)).run P w = .ok (a == b) w := by
  intro d
  simp [Op.equalIn, run_underlying hd]

theorem vBin_sound (hti : TIOk P ti) (op : BinOp) (T yT : TypeId) (x y : Operand) (ho : o.op = .binOp op T x y yT) : Goal P ev s o (vBin (R := R) ti ev op T x y) := by
  intro k r h
  unfold vBin at h
  split at h
  · rename_i kx a ky b hx hy
    split at h
    · rename_i e
      subst e
      obtain ⟨t, z, hk, v, hv, hz⟩ := iop_sound P h
      refine ⟨_, _, _, hk, Sound.pure fun s2 _ w0 F ρ ac w hR hop => ⟨v, ?_, hz F w⟩⟩
      have h1 := int?_spec hx (hop x (by simp [ho, Op.operands]))
      have h2 := int?_spec hy (hop y (by simp [ho, Op.operands]))
      simp only [execOp, ho, h1, h2, Sem.run_bind, eqGuard_lit P op T x y (.int kx a) (.int kx b) w (by intro v; simp) (by simp), Result.andThen_ok, hv]
      rfl
    · cases h
  · split at h
    · rename_i a b hx hy
      obtain ⟨hb, h⟩ := chk_some h
      have key : ∀ w, (Op.equal T (.bool a) (.bool b)).run P w = .ok (a == b) w := by
        intro w
        unfold isBool at hb
        split at hb
        · rename_i i hi
          obtain ⟨d, hd, his⟩ := (hti T i hi).und
          rw [of_decide_eq_true hb] at his
          simp only [UK.Is] at his
          subst his
          exact equal_bool P T hd a b w 9999
        · cases hb
      have hspec : ∀ {s2 : Nat → RStat Γ} {w0 F ρ} {ac : Act} {w}, RelR w0 F ρ s2 w → (∀ z ∈ o.op.operands, ConcA F ρ s2 w (ev z) (ac.eval z)) → ac.eval x = .bool a ∧ ac.eval y = .bool b :=
        fun hR hop => ⟨bool?_spec hx (hop x (by simp [ho, Op.operands])), bool?_spec hy (hop y (by simp [ho, Op.operands]))⟩
      cases op <;> simp only [bop] at h
      case eql =>
        refine ⟨_, _, _, h, Sound.pure fun s2 _ w0 F ρ ac w hR hop => ⟨.bool (a == b), ?_, RepD.v _⟩⟩
        obtain ⟨h1, h2⟩ := hspec hR hop
        simp only [execOp, ho, h1, h2, Sem.run_bind, eqGuard_lit P .eql T x y (.bool a) (.bool b) w (by intro v; simp) (by simp), Result.andThen_ok, binOp, key w, Sem.run_pure]
      case neq =>
        refine ⟨_, _, _, h, Sound.pure fun s2 _ w0 F ρ ac w hR hop => ⟨.bool (!(a == b)), ?_, RepD.v _⟩⟩
        obtain ⟨h1, h2⟩ := hspec hR hop
        simp only [execOp, ho, h1, h2, Sem.run_bind, eqGuard_lit P .neq T x y (.bool a) (.bool b) w (by intro v; simp) (by simp), Result.andThen_ok, binOp, key w, Sem.run_pure]
      all_goals cases h
    · cases h

def vUn (op : UnOp) (x : Operand) (k : K Γ R) : Option R :=
  match op with
  | .not => match (ev x).bool? with
    | some b => k (AV.dat .bool (!b)) [] []
    | none => none
  | .neg => match (ev x).int? with
    | some (kx, a) => k (AV.dat (.int kx) (kx.wrap (0 - a))) [] []
    | none => none
  | _ => none

theorem vUn_sound (op : UnOp) (T : TypeId) (x : Operand) (ho : o.op = .unOp op T x) : Goal P ev s o (vUn (R := R) ev op x) := by
  intro k r h
  cases op <;> simp only [vUn] at h
  case not =>
    split at h
    · rename_i b hb
      refine ⟨_, _, _, h, Sound.pure fun s2 _ w0 F ρ ac w hR hop => ⟨.bool (!b), ?_, RepD.v _⟩⟩
      have h1 := bool?_spec hb (hop x (by simp [ho, Op.operands]))
      simp [execOp, ho, h1, Op.unary]
    · cases h
  case neg =>
    split at h
    · rename_i kx a hb
      refine ⟨_, _, _, h, Sound.pure fun s2 _ w0 F ρ ac w hR hop => ⟨.int kx (kx.wrap (0 - a)), ?_, RepD.v _⟩⟩
      have h1 := int?_spec hb (hop x (by simp [ho, Op.operands]))
      simp [execOp, ho, h1, Op.unary, Op.intArith]
    · cases h
  all_goals cases h

def vConv (src dst : TypeId) (x : Operand) (k : K Γ R) : Option R :=
  match ti src, ti dst, (ev x).int? with
  | some _, some ⟨.int kd, _, _, _, _⟩, some (_, n) => k (AV.dat (.int kd) (kd.wrap n)) [] []
  | _, _, _ => none

theorem vConv_sound (hti : TIOk P ti) (src dst : TypeId) (x : Operand) (ho : o.op = .convert src dst x) : Goal P ev s o (vConv (R := R) ti ev src dst x) := by
  intro k r h
  unfold vConv at h
  split at h
  · rename_i i kd sz by_ ty z kx n hs hd hx
    refine ⟨_, _, _, h, Sound.pure fun s2 _ w0 F ρ ac w hR hop => ⟨.int kd (kd.wrap n), ?_, RepD.v _⟩⟩
    have h1 := int?_spec hx (hop x (by simp [ho, Op.operands]))
    obtain ⟨d1, e1, _⟩ := (hti _ _ hs).und
    obtain ⟨d2, e2, e3⟩ := (hti _ _ hd).und
    simp only [UK.Is] at e3
    subst e3
    simp [execOp, ho, h1, convert, run_underlying e1, run_underlying e2, Conv.intToInt]
  · cases h

/-! ### tuples -/

def vExtract (x : Operand) (n : Nat) (k : K Γ R) : Option R :=
  match ev x with
  | .tup l => match l[n]? with
    | some y => k (.v y) [] []
    | none => none
  | _ => none

theorem vExtract_sound (x : Operand) (n : Nat) (ho : o.op = .extract x n) : Goal P ev s o (vExtract (R := R) ev x n) := by
  intro k r h
  unfold vExtract at h
  split at h
  · rename_i l hl
    split at h
    · rename_i y hy
      refine ⟨_, _, _, h, Sound.pure fun s2 _ w0 F ρ ac w hR hop => ?_⟩
      have h1 := hop x (by simp [ho, Op.operands])
      rw [hl] at h1
      obtain ⟨vs, hv, hsz, hc⟩ := h1
      have hn : n < l.length := (List.getElem?_eq_some_iff.1 hy).1
      have hn' : n < vs.size := by omega
      have := hc n hn
      refine ⟨vs[n], ?_, ?_⟩
      · simp [execOp, ho, hv, Instr.extract, hn']
      · have e1 : l.getD n (.one .undef) = y := by simp [List.getD_eq_getElem?_getD, hy]
        have e2 : vs.toList.getD n undef = vs[n] := by simp [List.getD_eq_getElem?_getD, hn']
        rw [e1, e2] at this
        exact this
    · cases h
  · cases h

/-! ### makeFunc -/

def capOf : AV Γ → Option (Cap Γ)
  | .v (.one (.ptr k off)) => some (.ptr k off)
  | _ => none

def capsOf (ev : Operand → AV Γ) : List Operand → Option (List (Cap Γ))
  | [] => some []
  | x :: r => match capOf (ev x), capsOf ev r with
    | some p, some q => some (p :: q)
    | _, _ => none

def vFunc (fn : Fn) (first captured : Array Operand) (k : K Γ R) : Option R :=
  match fn, first.toList, capsOf ev captured.toList with
  | .func f, [], some cap => k (AV.one (.clo f cap)) [] []
  | _, _, _ => none

theorem capsOf_spec {F : Nat → Prop} {ρ : Nat → RI} {s : Nat → RStat Γ} {w : World} {a : Act} {ev : Operand → AV Γ} : ∀ (l : List Operand) (cap : List (Cap Γ)), capsOf ev l = some cap →
    (∀ x ∈ l, ConcA F ρ s w (ev x) (a.eval x)) → ConcCaps F ρ s w cap (l.map a.eval)
  | [], cap, h, _ => by cases h; rfl
  | x :: l, cap, h, hc => by
    unfold capsOf at h
    split at h
    · rename_i p q hp hq
      cases h
      have h1 := capsOf_spec l q hq (fun y hy => hc y (List.mem_cons_of_mem _ hy))
      have hx := hc x List.mem_cons_self
      unfold capOf at hp
      split at hp
      · rename_i kk off he
        cases hp
        rw [he] at hx
        exact ⟨_, _, rfl, hx, h1⟩
      · cases hp
    · cases h

theorem vFunc_sound (fn : Fn) (first captured : Array Operand) (ho : o.op = .makeFunc fn first captured) : Goal P ev s o (vFunc (R := R) ev fn first captured) := by
  intro k r h
  unfold vFunc at h
  split at h
  · rename_i f cap hf hcap
    refine ⟨_, _, _, h, Sound.pure fun s2 _ w0 F ρ ac w hR hop => ?_⟩
    have h1 := capsOf_spec _ _ hcap (F := F) (ρ := ρ) (s := s2) (w := w) (a := ac) (fun x hx => hop x (by simp [ho, Op.operands]; exact .inr (by simpa using hx)))
    refine ⟨.func (.func f) #[] (captured.map ac.eval), ?_, ?_⟩
    · have hf0 : first = #[] := by simpa using hf
      simp [execOp, ho, Instr.makeFunc, hf0]
    · exact ⟨(captured.map ac.eval).toList, by simp only [Array.toArray_toList], by rw [Array.toList_map]; exact h1⟩
  · cases h
end ops

end Go.Vs
