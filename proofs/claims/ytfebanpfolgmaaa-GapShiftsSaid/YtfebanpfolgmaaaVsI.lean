/- The evaluator's ninth part: building values, making and extending slices, lengths, least and greatest numbers. -/
import Derived.Test.YtfebanpfolgmaaaVsH
import Derived.Maps.AppendAt
import Derived.Laws.AppendOwnNone
namespace Go.Vs
set_option linter.unusedVariables false
set_option linter.unusedSimpArgs false
open Go.RowKit

variable {Γ : Env}

section ops
variable {R : Type} (P : Program) (ti : TypeId → Option (TI Γ)) (ev : Operand → AV Γ) (s : Nat → RStat Γ) (o : Oper)

/-! ### fill -/

def spl {α : Type} (l : List α) (off : Nat) (xs : List α) : List α := l.take off ++ xs ++ l.drop (off + xs.length)

theorem foldl_splice : ∀ (vs : List Value) (i : Nat) (off : Nat) (cells : Array Value), off + i + vs.length ≤ cells.size →
    ((vs.zipIdx i).foldl (fun cs (c, j) => cs.setIfInBounds (off + j) c) cells).toList = spl cells.toList (off + i) vs
  | [], i, off, cells, _ => by simp [spl]
  | v :: vs, i, off, cells, h => by
    simp only [List.zipIdx_cons, List.foldl_cons]
    rw [foldl_splice vs (i + 1) off (cells.setIfInBounds (off + i) v) (by simp at h ⊢; omega)]
    have hlt : off + i < cells.toList.length := by simp at h ⊢; omega
    simp only [Array.toList_setIfInBounds]
    apply List.ext_getElem?
    intro j
    simp only [spl, List.getElem?_append, List.length_append, List.length_take, List.length_cons, List.length_set, List.getElem?_take, List.getElem?_drop, List.getElem?_set]
    have hm1 : min (off + (i + 1)) cells.toList.length = off + i + 1 := by omega
    have hm2 : min (off + i) cells.toList.length = off + i := by omega
    rw [hm1, hm2]
    by_cases h1 : j < off + i
    · simp [h1, show j < off + i + 1 by omega, show j < off + i + 1 + vs.length by omega, show j < off + i + (vs.length + 1) by omega, show ¬ off + i = j by omega, show j < off + (i + 1) by omega]
    · by_cases h2 : j = off + i
      · subst h2
        have hlt' : off + i < cells.size := by simpa using hlt
        simp [hlt', show off + i < off + i + 1 + vs.length by omega]
      · by_cases h3 : j < off + i + 1 + vs.length
        · simp only [h3, show ¬ j < off + i + 1 by omega, show j < off + i + (vs.length + 1) by omega, show ¬ j < off + i by omega, if_true, if_false]
          rw [show j - (off + i) = (j - (off + i + 1)) + 1 by omega, List.getElem?_cons_succ]
        · simp only [h3, show ¬ j < off + i + (vs.length + 1) by omega, if_false]
          rw [if_neg (by omega)]
          congr 1
          omega

theorem ConcL.spl {F : Nat → Prop} {ρ : Nat → RI} {s : Nat → RStat Γ} {w : World} {l xs : List (CV Γ)} {vs us : List Value} (h : ConcL F ρ s w l vs) (k : ConcL F ρ s w xs us) (off : Nat) : ConcL F ρ s w (spl l off xs) (spl vs off us) := by
  unfold Vs.spl
  rw [k.1]
  exact ((h.take off).append k).append (h.drop _)

/-- Parts laid over cells. -/
def fillV (s : Nat → RStat Γ) (place : Nat → Option (Nat × Nat × Option Ty)) (cells : List (CV Γ)) : List (Nat × AV Γ) → Option (List (CV Γ))
  | [] => some cells
  | (i, x) :: rest => match place i with
    | none => none
    | some (off, size, t) => match fixNil t x with
      | .v y => if y.cvs.all (CV.stor s) = true ∧ y.cvs.length = size ∧ off + size ≤ cells.length then fillV s place (spl cells off y.cvs) rest else none
      | _ => none

def avKeys : AV Γ → List Nat
  | .v y => y.cvs.flatMap storKeys ++ y.cvs.flatMap cvKeys
  | _ => []

theorem fixNil_keys {t : Option Ty} {x : AV Γ} {y : V1 Γ} (h : fixNil t x = .v y) : (∀ k ∈ y.cvs.flatMap storKeys, k ∈ avKeys x) ∧ (∀ k ∈ y.cvs.flatMap cvKeys, k ∈ avKeys x) := by
  unfold fixNil at h
  split at h
  · cases h
    exact ⟨fun k hk => by simp [V1.cvs, storKeys] at hk, fun k hk => by simp [V1.cvs, cvKeys] at hk⟩
  · subst h
    exact ⟨fun k hk => List.mem_append_left _ hk, fun k hk => List.mem_append_right _ hk⟩

theorem fillV_spec {w0 : Base} {F : Nat → Prop} {ρ : Nat → RI} {w : World} {s s2 : Nat → RStat Γ} (hR : RelR w0 F ρ s2 w) {place : Nat → Option (Nat × Nat × Option Ty)} : ∀ {parts : List (Nat × AV Γ)} {cells : List (CV Γ)} {out : List (CV Γ)} {arr : Array Value} {vparts : List (Nat × Value)},
    fillV s place cells parts = some out → ConcL F ρ s2 w cells arr.toList → vparts.map (·.1) = parts.map (·.1) → (∀ p ∈ parts.zip vparts, ConcA F ρ s2 w p.1.2 p.2.2) → (∀ p ∈ parts, ∀ k ∈ avKeys p.2, s2 k = s k) →
    ∃ arr', Instr.fill (fun i => (place i).map fun p => (p.1, p.2.1)) arr vparts = some arr' ∧ ConcL F ρ s2 w out arr'.toList
  | [], cells, out, arr, vparts, h, hc, hm, _, _ => by
    cases h
    have : vparts = [] := by simpa using hm
    subst this
    exact ⟨arr, rfl, hc⟩
  | (i, x) :: rest, cells, out, arr, vparts, h, hc, hm, hv, hs => by
    cases vparts with
    | nil => simp at hm
    | cons q vparts =>
      obtain ⟨i', v⟩ := q
      simp only [List.map_cons, List.cons.injEq] at hm
      obtain ⟨rfl, hm⟩ := hm
      unfold fillV at h
      split at h
      · cases h
      · rename_i off size t hp
        split at h
        · rename_i y hy
          split at h
          · rename_i hcond
            obtain ⟨h1, h2, h3⟩ := hcond
            have hx := fixNil_conc t (hv _ (by rw [List.zip_cons_cons]; exact List.mem_cons_self))
            simp only at hx
            rw [hy] at hx
            have hkeys := fixNil_keys hy
            have hst : y.cvs.all (CV.stor s2) = true := by
              rw [stor_all_congr (fun k hk => hs _ List.mem_cons_self k (hkeys.1 k hk))]; exact h1
            obtain ⟨hcl, _⟩ := stor_cells hR hst hx
            have hsz : v.cells.size = size := by have := hcl.1; simp at this; omega
            have hasz : arr.size = cells.length := by have := hc.1; simpa using this
            have hfold := foldl_splice v.cells.toList 0 off arr (by have := hcl.1; rw [hasz]; omega)
            obtain ⟨arr', g1, g2⟩ := fillV_spec hR h (arr := v.cells.zipIdx.foldl (fun cs (c, j) => cs.setIfInBounds (off + j) c) arr) (by
                have e : (v.cells.zipIdx.foldl (fun cs (c, j) => cs.setIfInBounds (off + j) c) arr).toList = spl arr.toList off v.cells.toList := by
                  rw [← Array.foldl_toList, Array.toList_zipIdx]
                  exact hfold
                rw [e]
                exact hc.spl hcl off) hm (fun p hp => hv p (by rw [List.zip_cons_cons]; exact List.mem_cons_of_mem _ hp)) (fun p hp => hs p (List.mem_cons_of_mem _ hp))
            refine ⟨arr', ?_, g2⟩
            unfold Instr.fill
            simp only [hp, Option.map_some, hsz, hasz, ne_eq, not_true_eq_false, decide_false, Bool.false_or]
            rw [if_neg (by simp; omega)]
            exact g1
          · cases h
        · cases h

/-! ### build -/

def placesOf (ti : TypeId → Option (TI Γ)) (T : TypeId) : Nat → Option (Nat × Nat × Option Ty) := fun i =>
  match ti T with
  | some inf => match inf.und with
    | .struct fs => match fs[i]? with
      | some (off, f) => match ti f with
        | some fi => some (off, fi.size, fi.ty)
        | none => none
      | none => none
    | .array n e => match ti e with
      | some fi => some (i * fi.size, fi.size, fi.ty)
      | none => none
    | _ => none
  | none => none

/-- Each field's type is told. -/
def fieldsKnown (ti : TypeId → Option (TI Γ)) : List (Nat × TypeId) → Bool
  | [] => true
  | (_, f) :: r => (ti f).isSome && fieldsKnown ti r

def buildOk (ti : TypeId → Option (TI Γ)) (T : TypeId) : Bool :=
  match ti T with
  | some inf => match inf.und with
    | .struct fs => fieldsKnown ti fs
    | .array _ e => (ti e).isSome
    | _ => false
  | none => false

def evParts (ev : Operand → AV Γ) (l : List (Nat × Operand)) : List (Nat × AV Γ) := l.map fun p => (p.1, ev p.2)

def partsKeys (l : List (Nat × AV Γ)) : List Nat := l.flatMap fun p => avKeys p.2

def vBuild (T : TypeId) (parts : Array (Nat × Operand)) (k : K Γ R) : Option R :=
  match ti T with
  | some inf => match inf.zero with
    | some zs => if buildOk ti T then
        match fillV s (placesOf ti T) (zs.map zcv) (evParts ev parts.toList) with
        | some cells => k (.v (.agg cells)) (partsKeys (evParts ev parts.toList)) []
        | none => none
      else none
    | none => none
  | none => none

theorem mapM_places {ti : TypeId → Option (TI Γ)} (hti : TIOk P ti) : ∀ (fields : List Field) , fieldsKnown ti (fields.map fun f => (f.offset, f.type)) = true →
    ∃ places, fields.mapM (fun f => (P.info? f.type).map fun i => (f.offset, i.size)) = some places ∧ ∀ j : Nat, places[j]? = ((fields.map fun f => (f.offset, f.type))[j]?).bind (fun (p : Nat × TypeId) => (ti p.2).map fun fi => (p.1, fi.size))
  | [], _ => ⟨[], by simp, fun j => by simp⟩
  | f :: fields, h => by
    simp only [List.map_cons, fieldsKnown, Bool.and_eq_true] at h
    obtain ⟨fi, hfi⟩ := Option.isSome_iff_exists.1 h.1
    obtain ⟨places, h1, h2⟩ := mapM_places hti fields h.2
    obtain ⟨inf, g1, g2, _⟩ := (hti _ _ hfi).info
    refine ⟨(f.offset, inf.size) :: places, by simp [List.mapM_cons, g1, h1], fun j => ?_⟩
    cases j with
    | zero => simp [hfi, g2]
    | succ j => simpa using h2 j

theorem fill_congr {place place' : Nat → Option (Nat × Nat)} : ∀ (l : List (Nat × Value)) (arr : Array Value), (∀ p ∈ l, place p.1 = place' p.1) → Instr.fill place arr l = Instr.fill place' arr l
  | [], _, _ => rfl
  | (i, v) :: l, arr, h => by
    unfold Instr.fill
    rw [h (i, v) List.mem_cons_self]
    cases place' i with
    | none => rfl
    | some q =>
      obtain ⟨off, size⟩ := q
      simp only
      split
      · rfl
      · exact fill_congr l _ (fun p hp => h p (List.mem_cons_of_mem _ hp))

theorem built_of {ti : TypeId → Option (TI Γ)} (hti : TIOk P ti) {T : TypeId} {inf : TI Γ} (hT : ti T = some inf) {zs : List (Cell Γ)} (hz : inf.zero = some zs) (hb : buildOk ti T = true) {z : Value} {f : TypeInfo} (hf : P.info? T = some f) (hfz : f.zero = some z) (l : List (Nat × Value)) :
    P.built T l = Instr.fill (fun i => (placesOf ti T i).map fun p => (p.1, p.2.1)) z.cells l := by
  obtain ⟨d, hd, hi⟩ := (hti T inf hT).und
  unfold buildOk at hb
  rw [hT] at hb
  simp only at hb
  split at hb
  · rename_i fs hu
    rw [hu] at hi
    obtain ⟨fields, rfl, rfl⟩ := hi
    obtain ⟨places, h1, h2⟩ := mapM_places P hti fields.toList hb
    unfold Program.built
    simp only [hf, hd, hfz, h1]
    refine fill_congr l _ fun p _ => ?_
    simp only [placesOf, hT, hu, List.getElem?_toArray, h2]
    cases ((fields.toList.map fun f => (f.offset, f.type))[p.1]?) with
    | none => rfl
    | some q =>
      obtain ⟨off, ft⟩ := q
      simp only [Option.bind_some]
      cases ti ft with
      | none => rfl
      | some fi => rfl
  · rename_i n e hu
    rw [hu] at hi
    simp only [UK.Is] at hi
    subst hi
    obtain ⟨fi, hfi⟩ := Option.isSome_iff_exists.1 hb
    obtain ⟨ie, g1, g2, _⟩ := (hti _ _ hfi).info
    unfold Program.built
    simp only [hf, hd, hfz, g1]
    refine fill_congr l _ fun p _ => ?_
    simp only [placesOf, hT, hu, hfi, Option.map_some, g2]
  · cases hb

theorem parts_zip {F : Nat → Prop} {ρ : Nat → RI} {s2 : Nat → RStat Γ} {w : World} {ac : Act} (l : List (Nat × Operand)) (h : ∀ p ∈ l, ConcA F ρ s2 w (ev p.2) (ac.eval p.2)) :
    ∀ p ∈ (evParts ev l).zip (l.map fun q => (q.1, ac.eval q.2)), ConcA F ρ s2 w p.1.2 p.2.2 := by
  intro p hp
  unfold evParts at hp
  rw [List.zip_map, List.mem_map] at hp
  obtain ⟨q, hq, rfl⟩ := hp
  obtain ⟨i, hi, hiq⟩ := List.getElem_of_mem hq
  rw [List.getElem_zip] at hiq
  have e : q.1 = q.2 := by rw [← hiq]
  have hm : q.1 ∈ l := by rw [← hiq]; exact List.getElem_mem _
  simp only [Prod.map]
  rw [← e]
  exact h _ hm

theorem mem_partsKeys {l : List (Nat × AV Γ)} {p : Nat × AV Γ} (hp : p ∈ l) {k : Nat} (hk : k ∈ avKeys p.2) : k ∈ partsKeys l := List.mem_flatMap.2 ⟨p, hp, hk⟩

theorem vBuild_sound (hti : TIOk P ti) (T : TypeId) (parts : Array (Nat × Operand)) (ho : o.op = .build T parts) : Goal P ev s o (vBuild (R := R) ti ev s T parts) := by
  intro k r h
  unfold vBuild at h
  split at h
  · rename_i inf hinf
    split at h
    · rename_i zs hzs
      split at h
      · rename_i hb
        split at h
        · rename_i cells hcells
          refine ⟨_, _, _, h, Sound.pure fun s2 hs w0 F ρ ac w hR hop => ?_⟩
          obtain ⟨f, hf, h1, h2, h3⟩ := (hti T inf hinf).info
          obtain ⟨hz0, z, hz, hzl⟩ := h3 zs hzs
          obtain ⟨arr', g1, g2⟩ := fillV_spec (s2 := s2) hR hcells (arr := z.cells) (vparts := parts.toList.map fun q => (q.1, ac.eval q.2)) (by rw [hzl]; exact zcv_list hz0) (by simp [evParts])
            (parts_zip ev parts.toList fun p hp => hop p.2 (by
              simp only [ho, Op.operands]
              rw [List.mem_toArray]
              exact List.mem_map.2 ⟨p, hp, rfl⟩)) (fun p hp k hk => hs k (mem_partsKeys hp hk))
          have hbt := built_of P hti hinf hzs hb hf hz (parts.toList.map fun q => (q.1, ac.eval q.2))
          rw [g1] at hbt
          refine ⟨.agg arr', ?_, arr', rfl, g2⟩
          have hrun := run_build (P := P) w T (parts.map fun q => (q.1, ac.eval q.2)) arr' (by rw [Array.toList_map]; exact hbt)
          simp [execOp, ho, hrun]
        · cases h
      · cases h
    · cases h
  · cases h

/-! ### min, max, len -/

def imin (x y : Int) : Int := if y < x then y else x
def imax (x y : Int) : Int := if x < y then y else x

theorem call_builtin (ac : Act) (b : Builtin) (args : Array Operand) (tys : Array TypeId) (ho : o.op = .call { callee := .builtin b, args := args, argTypes := tys }) :
    ∃ cs, ∀ w, (execOp ac.eval o).run P w = (builtin b tys o.type cs (args.map ac.eval)).run P w :=
  ⟨_, fun w => by simp only [execOp, ho, resolve, invoke, Sem.run_bind, Sem.run_pure, Result.andThen_ok]; rfl⟩

def vMinMax (mx : Bool) (args : Array Operand) (k : K Γ R) : Option R :=
  match args.toList with
  | [x, y] => match (ev x).int?, (ev y).int? with
    | some (kx, a), some (_, b) => k (AV.dat (.int kx) (cond mx (imax a b) (imin a b))) [] []
    | _, _ => none
  | [x, y, z] => match (ev x).int?, (ev y).int?, (ev z).int? with
    | some (kx, a), some (_, b), some (_, c) => k (AV.dat (.int kx) (cond mx (imax (imax a b) c) (imin (imin a b) c))) [] []
    | _, _, _ => none
  | _ => none

theorem vMinMax_sound (mx : Bool) (args : Array Operand) (tys : Array TypeId) (ho : o.op = .call { callee := .builtin (cond mx .max .min), args := args, argTypes := tys }) : Goal P ev s o (vMinMax (R := R) ev mx args) := by
  intro k r h
  unfold vMinMax at h
  split at h
  · rename_i x y hargs
    have hargs' : args = #[x, y] := by rw [← hargs]
    split at h
    · rename_i kx a ky b hx hy
      refine ⟨_, _, _, h, Sound.pure fun s2 hs w0 F ρ ac w hR hop => ⟨.int kx (cond mx (imax a b) (imin a b)), ?_, RepD.v _⟩⟩
      have h1 := int?_spec hx (hop x (by simp [ho, Op.operands, Call.operands, hargs']))
      have h2 := int?_spec hy (hop y (by simp [ho, Op.operands, Call.operands, hargs']))
      obtain ⟨cs, hcs⟩ := call_builtin P o ac _ args tys ho
      rw [hcs]
      cases mx <;> simp [hargs', h1, h2, builtin, Builtin.max_, Builtin.min_, Builtin.max2, Builtin.min2, imax, imin]
    · cases h
  · rename_i x y z hargs
    have hargs' : args = #[x, y, z] := by rw [← hargs]
    split at h
    · rename_i kx a ky b kz c hx hy hz
      refine ⟨_, _, _, h, Sound.pure fun s2 hs w0 F ρ ac w hR hop => ⟨.int kx (cond mx (imax (imax a b) c) (imin (imin a b) c)), ?_, RepD.v _⟩⟩
      have h1 := int?_spec hx (hop x (by simp [ho, Op.operands, Call.operands, hargs']))
      have h2 := int?_spec hy (hop y (by simp [ho, Op.operands, Call.operands, hargs']))
      have h3 := int?_spec hz (hop z (by simp [ho, Op.operands, Call.operands, hargs']))
      obtain ⟨cs, hcs⟩ := call_builtin P o ac _ args tys ho
      rw [hcs]
      cases mx <;> simp [hargs', h1, h2, h3, builtin, Builtin.max_, Builtin.min_, Builtin.max2, Builtin.min2, imax, imin] <;> rfl
    · cases h
  · cases h

def isSliceT (ti : TypeId → Option (TI Γ)) (T : TypeId) : Bool := (sliceAt? ti T).isSome

def isStrT (ti : TypeId → Option (TI Γ)) (T : TypeId) : Bool :=
  match ti T with
  | some i => decide (i.und = .str)
  | none => false

def vLen (args : Array Operand) (tys : Array TypeId) (k : K Γ R) : Option R :=
  match args.toList, tys.toList with
  | [x], [T] => match ev x with
    | .v (.one c) =>
      if isSliceT ti T then
        match cvCell s c with
        | some (⟨.sl t, l⟩, _) => k (AV.dat (.int .i64) ((List.length (α := Den Γ t) l : Nat) : Int)) (cvKeys c) []
        | _ => none
      else if isStrT ti T then
        match (ev x).str? with
        | some b => k (AV.dat (.int .i64) ((b.size : Nat) : Int)) [] []
        | none => none
      else none
    | _ => none
  | _, _ => none

theorem slice_len {F : Nat → Prop} {w : World} {t : Ty} {l : List (Den Γ t)} {v : Value} (h : RepD F w (Cell.enc ⟨.sl t, l⟩) v) : ∃ a c, v = .slice a l.length c := by
  rcases RepD.sl_inv (show RepD F w (.sl (t.size Γ) (List.map (encL t) l)) v from h) with ⟨rfl, hl⟩ | ⟨a, cap, u, rfl, _⟩
  · have : l = [] := List.map_eq_nil_iff.1 hl
    subst this
    exact ⟨none, 0, rfl⟩
  · exact ⟨some a, cap, by rw [List.length_map]⟩

theorem vLen_sound (hΓ : Γ.Ok) (hti : TIOk P ti) (args : Array Operand) (tys : Array TypeId) (ho : o.op = .call { callee := .builtin .len, args := args, argTypes := tys }) : Goal P ev s o (vLen (R := R) ti ev s args tys) := by
  intro k r h
  unfold vLen at h
  split at h
  · rename_i x T hargs htys
    have hargs' : args = #[x] := by rw [← hargs]
    have htys' : tys = #[T] := by rw [← htys]
    split at h
    · rename_i c hx
      split at h
      · rename_i hT
        obtain ⟨e, he⟩ := Option.isSome_iff_exists.1 hT
        split at h
        · rename_i t l ks hc
          obtain ⟨l, rfl⟩ : ∃ l' : List (Den Γ t), l' = l := ⟨l, rfl⟩
          refine ⟨_, _, _, h, Sound.pure fun s2 hs w0 F ρ ac w hR hop => ⟨.int .i64 ((l.length : Nat) : Int), ?_, RepD.v _⟩⟩
          have h1 := hop x (by simp [ho, Op.operands, Call.operands, hargs'])
          rw [hx] at h1
          have hrep := cvCell_spec hΓ hR (c := c) (by rw [cvCell_congr hs]; exact hc) h1
          obtain ⟨a, cp, hv⟩ := slice_len hrep
          obtain ⟨cs, hcs⟩ := call_builtin P o ac _ args tys ho
          rw [hcs]
          simp [hargs', htys', hv, builtin, Builtin.len_, run_underlying (sliceAt?_spec P hti he), goInt]
        · cases h
      · split at h
        · rename_i hT
          split at h
          · rename_i b hb
            refine ⟨_, _, _, h, Sound.pure fun s2 hs w0 F ρ ac w hR hop => ⟨.int .i64 ((b.size : Nat) : Int), ?_, RepD.v _⟩⟩
            have h1 := str?_spec hb (hop x (by simp [ho, Op.operands, Call.operands, hargs']))
            unfold isStrT at hT
            split at hT
            · rename_i i hi
              obtain ⟨d, hd, his⟩ := (hti T i hi).und
              rw [of_decide_eq_true hT] at his
              simp only [UK.Is] at his
              subst his
              obtain ⟨cs, hcs⟩ := call_builtin P o ac _ args tys ho
              rw [hcs]
              simp [hargs', htys', h1, builtin, Builtin.len_, run_underlying hd, goInt]
            · cases hT
          · cases h
        · cases h
    · cases h
  · cases h

end ops
end Go.Vs
