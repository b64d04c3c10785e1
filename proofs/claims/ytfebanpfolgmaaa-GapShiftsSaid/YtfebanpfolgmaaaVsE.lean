/- The evaluator's fifth part: addresses, loads, stores, new variables. -/
import Derived.Test.YtfebanpfolgmaaaVsD
namespace Go.Vs
set_option linter.unusedVariables false
open Go.RowKit

variable {Γ : Env}

section ops
variable {R : Type} (P : Program) (ti : TypeId → Option (TI Γ)) (ev : Operand → AV Γ) (s : Nat → RStat Γ) (o : Oper)

def szOf (ti : TypeId → Option (TI Γ)) (T : TypeId) : Nat :=
  match ti T with
  | some i => i.size
  | none => 0

def aggOf (ti : TypeId → Option (TI Γ)) (T : TypeId) : Bool :=
  match ti T with
  | some i => i.und.agg
  | none => false

theorem run_sizeOf {ti : TypeId → Option (TI Γ)} (hti : TIOk P ti) {T : TypeId} {i : TI Γ} (h : ti T = some i) (w : World) : (sizeOf T).run P w = .ok i.size w := by
  obtain ⟨f, hf, h1, _⟩ := (hti T i h).info
  simp [sizeOf, typeInfo, hf, h1]

theorem run_isAgg {ti : TypeId → Option (TI Γ)} (hti : TIOk P ti) {T : TypeId} {i : TI Γ} (h : ti T = some i) (w : World) : (isAgg T).run P w = .ok i.und.agg w := by
  obtain ⟨d, hd, hi⟩ := (hti T i h).und
  cases hu : i.und <;> rw [hu] at hi <;> simp only [UK.Is] at hi
  case struct fs => obtain ⟨fields, rfl, _⟩ := hi; simp [isAgg, run_underlying hd, UK.agg]
  case func => obtain ⟨a, b, c, rfl⟩ := hi; simp [isAgg, run_underlying hd, UK.agg]
  all_goals (subst hi; simp [isAgg, run_underlying hd, UK.agg])

/-! ### fieldAddr -/

def fieldAt? (ti : TypeId → Option (TI Γ)) (S : TypeId) (f : Nat) : Option (Nat × TypeId) :=
  match ti S with
  | some i => match i.und with
    | .struct fs => fs[f]?
    | _ => none
  | none => none

theorem fieldAt?_spec {ti : TypeId → Option (TI Γ)} (hti : TIOk P ti) {S : TypeId} {f : Nat} {off : Nat} {T : TypeId} (h : fieldAt? ti S f = some (off, T)) :
    ∃ fields : Array Field, P.underlying S = some (.struct fields) ∧ ∃ fd, fields[f]? = some fd ∧ fd.offset = off ∧ fd.type = T := by
  unfold fieldAt? at h
  split at h
  · rename_i i hi
    split at h
    · rename_i fs hu
      obtain ⟨d, hd, his⟩ := (hti S i hi).und
      rw [hu] at his
      obtain ⟨fields, rfl, rfl⟩ := his
      refine ⟨fields, hd, ?_⟩
      rw [List.getElem?_map] at h
      cases hf : fields.toList[f]? with
      | none => rw [hf] at h; cases h
      | some fd =>
        rw [hf] at h
        cases h
        exact ⟨fd, by simpa using hf, rfl, rfl⟩
    · cases h
  · cases h

def moveAddr (d : Nat) : AV Γ → Option (AV Γ)
  | .v (.one (.ptr k off)) => some (AV.one (.ptr k (off + d)))
  | .v (.one (.eaD t l i off)) => some (AV.one (.eaD t l i (off + d)))
  | .v (.one (.eaO k i off)) => some (AV.one (.eaO k i (off + d)))
  | .v (.one (.eaR k n i j off)) => some (AV.one (.eaR k n i j (off + d)))
  | _ => none

theorem conc_of_dead {F : Nat → Prop} {ρ : Nat → RI} {w : World} {c : CV Γ} {v : Value} (h : ConcC F ρ s w c v) : True := trivial

/-- An address is one, whatever the state: but for a resource that is gone, of which nothing is known. -/
def live1 (s : Nat → RStat Γ) : AV Γ → Bool
  | .v (.one (.eaO k _ _)) => match s k with
    | .live _ => true
    | _ => false
  | .v (.one (.eaR k n _ _ _)) => match s k with
    | .live (.mat _ _ _ _ m) => m == n
    | _ => false
  | _ => true

def addrKeys : AV Γ → List Nat
  | .v (.one (.eaO k _ _)) => [k]
  | .v (.one (.eaR k _ _ _ _)) => [k]
  | _ => []

theorem live1_congr {s s2 : Nat → RStat Γ} {x : AV Γ} (h : ∀ k ∈ addrKeys x, s2 k = s k) : live1 s2 x = live1 s x := by
  unfold live1
  split <;> first | rfl | rw [h _ (List.mem_singleton.2 rfl)]

theorem moveAddr_spec {F : Nat → Prop} {ρ : Nat → RI} {w : World} {d : Nat} {x y : AV Γ} {v : Value} (h : moveAddr d x = some y) (hl : live1 s x = true) (hc : ConcA F ρ s w x v) :
    ∃ a : Addr, v = .pointer (some a) ∧ ConcA F ρ s w y (.pointer (some (a.add d))) := by
  unfold moveAddr at h
  split at h
  · cases h
    obtain ⟨h0, rfl⟩ := hc
    exact ⟨_, rfl, h0, by rw [add_zero_lit]⟩
  · cases h
    obtain ⟨h0, h1, a, u, rfl, hj⟩ := hc
    exact ⟨_, rfl, h0, h1, a, u, by rw [add_add], hj⟩
  · rename_i k i off
    cases h
    obtain ⟨h0, h1⟩ := hc
    simp only [live1] at hl
    split at hl
    · rename_i r hr
      obtain ⟨b1, b2, b, b3, rfl⟩ := h1 r hr
      refine ⟨_, rfl, h0, fun r' hr' => ?_⟩
      rw [hr] at hr'
      cases hr'
      exact ⟨b1, b2, b, b3, by rw [add_zero_lit, Nat.add_assoc]⟩
    · cases hl
  · rename_i k n i j off
    cases h
    obtain ⟨h0, h1⟩ := hc
    simp only [live1] at hl
    split at hl
    · rename_i E E2 t l m hr
      have em : m = n := by simpa using hl
      obtain ⟨b1, b2⟩ := h1 E E2 t l m hr
      obtain ⟨c1, c2, c3, c4, b, c5, rfl⟩ := b2 em
      refine ⟨_, rfl, h0, fun E' E2' t' l' m' hr' => ?_⟩
      rw [hr] at hr'
      cases hr'
      exact ⟨b1, fun _ => ⟨c1, c2, c3, c4, b, c5, by rw [add_zero_lit, Nat.add_assoc]⟩⟩
    · cases hl
  · cases h

def vFieldAddr (S : TypeId) (x : Operand) (f : Nat) (k : K Γ R) : Option R :=
  match fieldAt? ti S f with
  | some (off, T) =>
    if szOf ti T = 0 then none else
    if live1 s (ev x) then
      match moveAddr off (ev x) with
      | some y => k y (addrKeys (ev x)) []
      | none => none
    else none
  | none => none

theorem szOf_pos {ti : TypeId → Option (TI Γ)} {T : TypeId} (h : ¬ szOf ti T = 0) : ∃ i, ti T = some i ∧ i.size ≠ 0 := by
  unfold szOf at h
  split at h
  · rename_i i hi; exact ⟨i, hi, h⟩
  · exact absurd rfl h

theorem vFieldAddr_sound (hti : TIOk P ti) (S : TypeId) (x : Operand) (f : Nat) (ho : o.op = .fieldAddr S x f) : Goal P ev s o (vFieldAddr (R := R) ti ev s S x f) := by
  intro k r h
  unfold vFieldAddr at h
  split at h
  · rename_i off T hf
    split at h
    · cases h
    · rename_i hsz
      split at h
      · rename_i hl
        split at h
        · rename_i y hy
          refine ⟨_, _, _, h, Sound.pure fun s2 hs w0 F ρ ac w hR hop => ?_⟩
          obtain ⟨a, hv, hc⟩ := moveAddr_spec s2 hy (by rw [live1_congr hs]; exact hl) (hop x (by simp [ho, Op.operands]))
          obtain ⟨fields, hu, fd, hfd, rfl, rfl⟩ := fieldAt?_spec P hti hf
          obtain ⟨i, hi, hi0⟩ := szOf_pos hsz
          refine ⟨_, ?_, hc⟩
          simp [execOp, ho, hv, Instr.fieldAt, run_underlying hu, hfd, Instr.sureAddr, fieldPlace, run_sizeOf P hti hi, hi0]
        · cases h
      · cases h
  · cases h

/-! ### field, index of a value -/

def partOf (ti : TypeId → Option (TI Γ)) (T : TypeId) (l : List (CV Γ)) (off : Nat) : Option (AV Γ) :=
  match ti T with
  | some i => if off + i.size ≤ l.length then
      if i.und.agg then some (.v (.agg ((l.drop off).take i.size)))
      else match l[off]? with
        | some c => some (.v (.one c))
        | none => none
    else none
  | none => none

theorem partOf_spec {ti : TypeId → Option (TI Γ)} (hti : TIOk P ti) {F : Nat → Prop} {ρ : Nat → RI} {w : World} {T : TypeId} {l : List (CV Γ)} {off : Nat} {y : AV Γ} {vs : Array Value}
    (h : partOf ti T l off = some y) (hc : ConcL F ρ s w l vs.toList) : ∃ v, (part T vs off).run P w = .ok v w ∧ ConcA F ρ s w y v := by
  unfold partOf at h
  split at h
  · rename_i i hi
    split at h
    · rename_i hle
      have hsz : vs.size = l.length := by have := hc.1; simpa using this
      split at h
      · rename_i ha
        cases h
        refine ⟨.agg (vs.extract off (off + i.size)), by simp [part, run_isAgg P hti hi, ha, run_sizeOf P hti hi], _, rfl, ?_⟩
        refine ⟨by simp; omega, fun j hj => ?_⟩
        have hj' : j < i.size := by simp at hj; omega
        have := hc.2 (off + j) (by omega)
        have e1 : ((l.drop off).take i.size).getD j .undef = l.getD (off + j) .undef := by
          simp only [List.getD_eq_getElem?_getD, List.getElem?_take, hj', if_true, List.getElem?_drop]
        have e2 : (vs.extract off (off + i.size)).toList.getD j undef = vs.toList.getD (off + j) undef := by
          have hlt : j < min (off + i.size) vs.size - off := by omega
          simp only [List.getD_eq_getElem?_getD, Array.toList_extract, List.extract_eq_take_drop, List.getElem?_take, List.getElem?_drop]
          rw [if_pos (by omega)]
        rw [e1, e2]
        exact this
      · rename_i ha
        split at h
        · rename_i c hcv
          cases h
          have hlt : off < l.length := (List.getElem?_eq_some_iff.1 hcv).1
          have := hc.2 off hlt
          have e1 : l.getD off .undef = c := by simp [List.getD_eq_getElem?_getD, hcv]
          have e2 : vs.toList.getD off undef = vs[off] := by simp [List.getD_eq_getElem?_getD, show off < vs.size by omega]
          rw [e1, e2] at this
          exact ⟨vs[off], by simp [part, run_isAgg P hti hi, ha, show off < vs.size by omega], this⟩
        · cases h
    · cases h
  · cases h

def vField (S : TypeId) (x : Operand) (f : Nat) (k : K Γ R) : Option R :=
  match ev x, fieldAt? ti S f with
  | .v (.agg l), some (off, T) => match partOf ti T l off with
    | some y => k y [] []
    | none => none
  | _, _ => none

theorem vField_sound (hti : TIOk P ti) (S : TypeId) (x : Operand) (f : Nat) (ho : o.op = .field S x f) : Goal P ev s o (vField (R := R) ti ev S x f) := by
  intro k r h
  unfold vField at h
  split at h
  · rename_i l off T hx hf
    split at h
    · rename_i y hy
      refine ⟨_, _, _, h, Sound.pure fun s2 hs w0 F ρ ac w hR hop => ?_⟩
      have h1 := hop x (by simp [ho, Op.operands])
      rw [hx] at h1
      obtain ⟨vs, hv, hcl⟩ := h1
      obtain ⟨fields, hu, fd, hfd, rfl, rfl⟩ := fieldAt?_spec P hti hf
      obtain ⟨v, hp, hc⟩ := partOf_spec P s2 hti hy hcl
      exact ⟨v, by simp [execOp, ho, hv, Instr.field, run_underlying hu, hfd, asAgg, hp], hc⟩
    · cases h
  · cases h

def arrayAt? (ti : TypeId → Option (TI Γ)) (T : TypeId) : Option (Nat × TypeId) :=
  match ti T with
  | some i => match i.und with
    | .array n e => some (n, e)
    | _ => none
  | none => none

theorem arrayAt?_spec {ti : TypeId → Option (TI Γ)} (hti : TIOk P ti) {T : TypeId} {n : Nat} {e : TypeId} (h : arrayAt? ti T = some (n, e)) : P.underlying T = some (.array n e) := by
  unfold arrayAt? at h
  split at h
  · rename_i i hi
    split at h
    · rename_i n' e' hu
      cases h
      obtain ⟨d, hd, his⟩ := (hti T i hi).und
      rw [hu] at his
      simp only [UK.Is] at his
      rw [hd, his]
    · cases h
  · cases h

def sliceAt? (ti : TypeId → Option (TI Γ)) (T : TypeId) : Option TypeId :=
  match ti T with
  | some i => match i.und with
    | .slice e => some e
    | _ => none
  | none => none

theorem sliceAt?_spec {ti : TypeId → Option (TI Γ)} (hti : TIOk P ti) {T : TypeId} {e : TypeId} (h : sliceAt? ti T = some e) : P.underlying T = some (.slice e) := by
  unfold sliceAt? at h
  split at h
  · rename_i i hi
    split at h
    · rename_i e' hu
      cases h
      obtain ⟨d, hd, his⟩ := (hti T i hi).und
      rw [hu] at his
      simp only [UK.Is] at his
      rw [hd, his]
    · cases h
  · cases h

def inB (i : Int) (n : Nat) : Bool := decide (0 ≤ i) && decide (i < (n : Int))

theorem inB_spec {i : Int} {n : Nat} (h : inB i n = true) : 0 ≤ i ∧ i < n ∧ i.toNat < n := by
  simp [inB] at h
  exact ⟨h.1, h.2, by omega⟩

def vIndex (T : TypeId) (x i : Operand) (k : K Γ R) : Option R :=
  match ev x, arrayAt? ti T, (ev i).int? with
  | .v (.agg l), some (n, e), some (_, ix) =>
    chk (inB ix n) (match partOf ti e l (ix.toNat * szOf ti e) with
      | some y => k y [] []
      | none => none)
  | _, _, _ => none

theorem vIndex_sound (hti : TIOk P ti) (T : TypeId) (x i : Operand) (ho : o.op = .index T x i) : Goal P ev s o (vIndex (R := R) ti ev T x i) := by
  intro k r h
  unfold vIndex at h
  split at h
  · rename_i l n e kx ix hx ha hi
    obtain ⟨hb, h⟩ := chk_some h
    obtain ⟨b1, b2, b3⟩ := inB_spec hb
    split at h
    · rename_i y hy
      have hsome : ∃ inf, ti e = some inf := by
        unfold partOf at hy
        split at hy
        · rename_i inf he; exact ⟨inf, he⟩
        · cases hy
      obtain ⟨inf, he⟩ := hsome
      have hsz : szOf ti e = inf.size := by simp [szOf, he]
      refine ⟨_, _, _, h, Sound.pure fun s2 hs w0 F ρ ac w hR hop => ?_⟩
      have h1 := hop x (by simp [ho, Op.operands])
      have h2 := int?_spec hi (hop i (by simp [ho, Op.operands]))
      rw [hx] at h1
      obtain ⟨vs, hv, hcl⟩ := h1
      obtain ⟨v, hp, hc⟩ := partOf_spec P s2 hti hy hcl
      rw [hsz] at hp
      exact ⟨v, by simp [execOp, ho, hv, h2, Instr.index, asIntOf, run_underlying (arrayAt?_spec P hti ha), b1, b2, run_sizeOf P hti he, hp], hc⟩
    · cases h
  · cases h

/-! ### indexAddr -/

def vIndexAddr (T : TypeId) (x i : Operand) (k : K Γ R) : Option R :=
  match (ev i).int? with
  | some (_, ix) =>
    match ev x with
    | .v (.one (.leaf ⟨.sl t, l⟩)) => match sliceAt? ti T with
      | some e => if szOf ti e = t.size Γ then chk (inB ix (List.length l)) (k (AV.one (.eaD t l ix 0)) [] []) else none
      | none => none
    | .v (.one (.own q)) => match sliceAt? ti T, s q with
      | some e, .live (.arr E t l) => if szOf ti e = t.size Γ then chk (inB ix (List.length l)) (k (AV.one (.eaO q ix 0)) [q] []) else none
      | some e, .live (.mat E E2 t l n) => if szOf ti e = 1 then chk (inB ix (List.length l)) (k (AV.one (.eaO q ix 0)) [q] []) else none
      | some e, .live (.mix E E2 t l) => if szOf ti e = 1 then chk (inB ix (List.length l)) (k (AV.one (.eaO q ix 0)) [q] []) else none
      | _, _ => none
    | .v (.one (.row q ver i0)) => match sliceAt? ti T, s q with
      | some e, .live (.mat E E2 t l n) => if szOf ti e = t.size Γ ∧ n = ver then chk (inB ix (l.getD i0.toNat []).length) (k (AV.one (.eaR q ver i0 ix 0)) [q] []) else none
      | _, _ => none
    | .v (.one (.ptr q off)) => match arrayAt? ti T with
      | some (n, e) => if (ti e).isSome then chk (inB ix n) (k (AV.one (.ptr q (off + ix.toNat * szOf ti e))) [] []) else none
      | none => none
    | _ => none
  | none => none

theorem run_indexAt_slice {ti : TypeId → Option (TI Γ)} (hti : TIOk P ti) {T e : TypeId} {inf : TI Γ} (hs : sliceAt? ti T = some e) (he : ti e = some inf) (a : Addr) (len cap : Nat) (kx : IntKind) (ix : Int) (w : World) (h0 : 0 ≤ ix) (h1 : ix < len) :
    (Instr.indexAt T (.slice (some a) len cap) (.int kx ix)).run P w = .ok (.pointer (some (a.add (ix.toNat * inf.size)))) w := by
  simp [Instr.indexAt, asIntOf, run_underlying (sliceAt?_spec P hti hs), h0, h1, run_sizeOf P hti he]

theorem szOf_some {ti : TypeId → Option (TI Γ)} {e : TypeId} {n : Nat} (h : szOf ti e = n) (hn : n ≠ 0) : ∃ inf, ti e = some inf ∧ inf.size = n := by
  unfold szOf at h
  split at h
  · rename_i i hi; exact ⟨i, hi, h⟩
  · exact absurd h.symm hn

theorem szOf_of {ti : TypeId → Option (TI Γ)} {e : TypeId} {i : TI Γ} (h : ti e = some i) : szOf ti e = i.size := by simp [szOf, h]

/-- The types that are told: at each slice's element. -/
def TIFull (ti : TypeId → Option (TI Γ)) : Prop := ∀ T e, sliceAt? ti T = some e → (ti e).isSome = true

theorem vIndexAddr_sound (hti : TIOk P ti) (hfull : TIFull ti) (T : TypeId) (x i : Operand) (ho : o.op = .indexAddr T x i) : Goal P ev s o (vIndexAddr (R := R) ti ev s T x i) := by
  intro k r h
  unfold vIndexAddr at h
  split at h
  · rename_i kx ix hi
    split at h
    · rename_i t l hx
      obtain ⟨l, rfl⟩ : ∃ l' : List (Den Γ t), l' = l := ⟨l, rfl⟩
      split at h
      · rename_i e he
        split at h
        · rename_i hsz
          obtain ⟨hb, h⟩ := chk_some h
          obtain ⟨b1, b2, b3⟩ := inB_spec hb
          obtain ⟨inf, hinf⟩ := Option.isSome_iff_exists.1 (hfull T e he)
          rw [szOf_of hinf] at hsz
          refine ⟨_, _, _, h, Sound.pure fun s2 hs w0 F ρ ac w hR hop => ?_⟩
          have h1 := hop x (by simp [ho, Op.operands])
          have h2 := int?_spec hi (hop i (by simp [ho, Op.operands]))
          rw [hx] at h1
          rcases RepD.sl_inv (show RepD F w (.sl (t.size Γ) (List.map (encL t) l)) (ac.eval x) from h1) with ⟨_, hl⟩ | ⟨a, cap, u, hv, hall, hcap, hm, hcell⟩
          · have : l = [] := by simpa using hl
            subst this
            simp at b3
          · refine ⟨.pointer (some (a.add (ix.toNat * inf.size))), ?_, ?_⟩
            · simp only [execOp, ho, hv, h2, Sem.run_bind]
              rw [run_indexAt_slice P hti he hinf a _ cap kx ix w b1 (by simpa using b2)]
              rfl
            · refine ⟨b1, b3, a.add (ix.toNat * inf.size), u ix.toNat, by rw [add_add, Nat.add_zero], fun j hj => ?_⟩
              have := hcell ix.toNat j (by simpa using b3) hj
              rw [add_block, add_add, hsz]
              refine ⟨this.1, this.2.1, ?_⟩
              have e1 : (List.map (encL t) l).getD ix.toNat [] = encL t (l.getD ix.toNat (t.zero Γ)) := by
                simp [List.getD_eq_getElem?_getD, b3]
              rw [← e1]
              exact this.2.2
        · cases h
      · cases h
    · rename_i q hx
      split at h
      · rename_i e E t l he hq
        split at h
        · rename_i hsz
          obtain ⟨hb, h⟩ := chk_some h
          obtain ⟨b1, b2, b3⟩ := inB_spec hb
          obtain ⟨inf, hinf⟩ := Option.isSome_iff_exists.1 (hfull T e he)
          rw [szOf_of hinf] at hsz
          refine ⟨_, _, _, h, Sound.pure fun s2 hs w0 F ρ ac w hR hop => ?_⟩
          have h1 := hop x (by simp [ho, Op.operands])
          have h2 := int?_spec hi (hop i (by simp [ho, Op.operands]))
          rw [hx] at h1
          obtain ⟨hne, hv⟩ := h1
          have hq2 : s2 q = .live (.arr E t l) := by rw [hs q (List.mem_singleton.2 rfl)]; exact hq
          obtain ⟨xs, g1, g2, g3⟩ := hR.res q _ hq2
          rcases ownsRow_nilOrBlock g1 with ⟨_, hn⟩ | ⟨g, cap, ev, hn, hm⟩
          · rw [hn] at b3; exact absurd b3 (Nat.not_lt_zero _)
          · rw [ev] at hv
            refine ⟨.pointer (some ((⟨g, 0, none⟩ : Addr).add (ix.toNat * inf.size))), ?_, hne, fun r' hr' => ?_⟩
            · simp only [execOp, ho, hv, h2, Sem.run_bind]
              rw [run_indexAt_slice P hti he hinf _ _ cap kx ix w b1 b2]
              rfl
            · rw [hq2] at hr'
              cases hr'
              refine ⟨b1, b3, g, by rw [ev]; rfl, ?_⟩
              rw [add_zero_lit, hsz]
              simp [Res.esz]
        · cases h
      · rename_i e E E2 t l n he hq
        split at h
        · rename_i hsz
          obtain ⟨hb, h⟩ := chk_some h
          obtain ⟨b1, b2, b3⟩ := inB_spec hb
          obtain ⟨inf, hinf⟩ := Option.isSome_iff_exists.1 (hfull T e he)
          rw [szOf_of hinf] at hsz
          refine ⟨_, _, _, h, Sound.pure fun s2 hs w0 F ρ ac w hR hop => ?_⟩
          have h1 := hop x (by simp [ho, Op.operands])
          have h2 := int?_spec hi (hop i (by simp [ho, Op.operands]))
          rw [hx] at h1
          obtain ⟨hne, hv⟩ := h1
          have hq2 : s2 q = .live (.mat E E2 t l n) := by rw [hs q (List.mem_singleton.2 rfl)]; exact hq
          obtain ⟨g1, _⟩ := hR.res q _ hq2
          rcases ownsRow_nilOrBlock g1 with ⟨_, hn⟩ | ⟨g, cap, ev, hn, hm⟩
          · rw [hn] at b3; exact absurd b3 (Nat.not_lt_zero _)
          · rw [ev] at hv
            refine ⟨.pointer (some ((⟨g, 0, none⟩ : Addr).add (ix.toNat * inf.size))), ?_, hne, fun r' hr' => ?_⟩
            · simp only [execOp, ho, hv, h2, Sem.run_bind]
              rw [run_indexAt_slice P hti he hinf _ _ cap kx ix w b1 b2]
              rfl
            · rw [hq2] at hr'
              cases hr'
              refine ⟨b1, b3, g, by rw [ev]; rfl, ?_⟩
              rw [add_zero_lit, hsz]
              simp [Res.esz]
        · cases h
      · rename_i e E E2 t l he hq
        split at h
        · rename_i hsz
          obtain ⟨hb, h⟩ := chk_some h
          obtain ⟨b1, b2, b3⟩ := inB_spec hb
          obtain ⟨inf, hinf⟩ := Option.isSome_iff_exists.1 (hfull T e he)
          rw [szOf_of hinf] at hsz
          refine ⟨_, _, _, h, Sound.pure fun s2 hs w0 F ρ ac w hR hop => ?_⟩
          have h1 := hop x (by simp [ho, Op.operands])
          have h2 := int?_spec hi (hop i (by simp [ho, Op.operands]))
          rw [hx] at h1
          obtain ⟨hne, hv⟩ := h1
          have hq2 : s2 q = .live (.mix E E2 t l) := by rw [hs q (List.mem_singleton.2 rfl)]; exact hq
          obtain ⟨rows, g1, _⟩ := hR.res q _ hq2
          rcases ownsRow_nilOrBlock g1 with ⟨_, hn⟩ | ⟨g, cap, ev, hn, hm⟩
          · rw [hn] at b3; exact absurd b3 (Nat.not_lt_zero _)
          · rw [ev] at hv
            refine ⟨.pointer (some ((⟨g, 0, none⟩ : Addr).add (ix.toNat * inf.size))), ?_, hne, fun r' hr' => ?_⟩
            · simp only [execOp, ho, hv, h2, Sem.run_bind]
              rw [run_indexAt_slice P hti he hinf _ _ cap kx ix w b1 b2]
              rfl
            · rw [hq2] at hr'
              cases hr'
              refine ⟨b1, b3, g, by rw [ev]; rfl, ?_⟩
              rw [add_zero_lit, hsz]
              simp [Res.esz]
        · cases h
      · cases h
    · rename_i q ver i0 hx
      split at h
      · rename_i e E E2 t l n he hq
        split at h
        · rename_i hsz
          obtain ⟨hsz, hver⟩ := hsz
          obtain ⟨hb, h⟩ := chk_some h
          obtain ⟨b1, b2, b3⟩ := inB_spec hb
          obtain ⟨inf, hinf⟩ := Option.isSome_iff_exists.1 (hfull T e he)
          rw [szOf_of hinf] at hsz
          refine ⟨_, _, _, h, Sound.pure fun s2 hs w0 F ρ ac w hR hop => ?_⟩
          have h1 := hop x (by simp [ho, Op.operands])
          have h2 := int?_spec hi (hop i (by simp [ho, Op.operands]))
          rw [hx] at h1
          have hq2 : s2 q = .live (.mat E E2 t l n) := by rw [hs q (List.mem_singleton.2 rfl)]; exact hq
          obtain ⟨hne, hall⟩ := h1
          obtain ⟨hv1, hv2⟩ := hall E E2 t l n hq2
          obtain ⟨c1, c2, hv⟩ := hv2 hver
          obtain ⟨_, grow, _⟩ := hR.res q _ hq2
          obtain ⟨ys, g1, g2⟩ := grow i0.toNat c2
          rcases ownsRow_nilOrBlock g1 with ⟨_, hn⟩ | ⟨g, cap, ev, hn, hm⟩
          · rw [hn] at b3; exact absurd b3 (Nat.not_lt_zero _)
          · rw [ev] at hv
            refine ⟨.pointer (some ((⟨g, 0, none⟩ : Addr).add (ix.toNat * inf.size))), ?_, hne, fun E' E2' t' l' n' hr' => ?_⟩
            · simp only [execOp, ho, hv, h2, Sem.run_bind]
              rw [run_indexAt_slice P hti he hinf _ _ cap kx ix w b1 b2]
              rfl
            · rw [hq2] at hr'
              cases hr'
              refine ⟨hv1, fun _ => ⟨c1, c2, b1, b3, g, by rw [ev]; rfl, ?_⟩⟩
              rw [add_zero_lit, hsz]
              simp
        · cases h
      · cases h
    · rename_i q off hx
      split at h
      · rename_i n e ha
        split at h
        · rename_i hsome
          obtain ⟨hb, h⟩ := chk_some h
          obtain ⟨b1, b2, b3⟩ := inB_spec hb
          obtain ⟨inf, hinf⟩ := Option.isSome_iff_exists.1 hsome
          refine ⟨_, _, _, h, Sound.pure fun s2 hs w0 F ρ ac w hR hop => ?_⟩
          have h1 := hop x (by simp [ho, Op.operands])
          have h2 := int?_spec hi (hop i (by simp [ho, Op.operands]))
          rw [hx] at h1
          obtain ⟨hne, hv⟩ := h1
          refine ⟨.pointer (some ((⟨(ρ q).blk, off, none⟩ : Addr).add (ix.toNat * inf.size))), ?_, hne, by rw [add_zero_lit, szOf_of hinf]⟩
          simp [execOp, ho, hv, h2, Instr.indexAt, asIntOf, run_underlying (arrayAt?_spec P hti ha), Instr.sureAddr, b1, b2, run_sizeOf P hti hinf]
        · cases h
      · cases h
    · cases h
  · cases h

end ops
end Go.Vs
