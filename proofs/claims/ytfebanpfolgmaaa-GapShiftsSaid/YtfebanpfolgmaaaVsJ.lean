/- The evaluator's tenth part: making and extending slices. -/
import Derived.Test.YtfebanpfolgmaaaVsI
namespace Go.Vs
set_option linter.unusedVariables false
set_option linter.unusedSimpArgs false
open Go.RowKit

variable {Γ : Env}

theorem cellsOf_flat (hΓ : Γ.Ok) (t : Ty) (x : Den Γ t) : ∀ c ∈ cellsOf t x, c.1.flat = true := by
  cases t with
  | rc n => exact hΓ.flat n x
  | int k => intro c hc; cases List.mem_singleton.1 hc; rfl
  | bool => intro c hc; cases List.mem_singleton.1 hc; rfl
  | str => intro c hc; cases List.mem_singleton.1 hc; rfl
  | sl t => intro c hc; cases List.mem_singleton.1 hc; rfl

theorem repL_one (hΓ : Γ.Ok) {F : Nat → Prop} {w : World} {cs : List (Cell Γ)} {vs : List Value} (hf : ∀ c ∈ cs, c.1.flat = true) (h : RepL F w (cs.map Cell.enc) vs) : ∀ u ∈ vs, u.oneCell' = true := by
  intro u hu
  obtain ⟨i, hi, rfl⟩ := List.getElem_of_mem hu
  have hi' : i < cs.length := by have := h.1; simp at this; omega
  have := h.2 i (by simpa using hi')
  have e1 : (cs.map Cell.enc).getD i (.v undef) = Cell.enc cs[i] := by simp [List.getD_eq_getElem?_getD, hi']
  have e2 : vs.getD i undef = vs[i] := by rw [List.getD_eq_getElem?_getD, List.getElem?_eq_getElem hi]; rfl
  rw [e1, e2] at this
  exact rep_flat (hf _ (List.getElem_mem hi')) this

theorem flatMap_encL (hΓ : Γ.Ok) (t : Ty) (l : List (Den Γ t)) : l.flatMap (encL t) = (l.flatMap (cellsOf t)).map Cell.enc := by
  rw [List.map_flatMap]
  congr 1
  funext x
  exact encL_cells hΓ t x

theorem repL_one' (hΓ : Γ.Ok) {F : Nat → Prop} {w : World} {t : Ty} {l : List (Den Γ t)} {vs : List Value} (h : RepL F w (l.flatMap (encL t)) vs) : ∀ u ∈ vs, u.oneCell' = true := by
  rw [flatMap_encL hΓ] at h
  refine repL_one hΓ (fun c hc => ?_) h
  obtain ⟨x, _, hx⟩ := List.mem_flatMap.1 hc
  exact cellsOf_flat hΓ t x c hx

section rel
variable {w0 : Base} {w : World} {F : Nat → Prop} {ρ : Nat → RI} {s : Nat → RStat Γ}

def ownRI (v : Value) (bl : List Nat) : RI := ⟨0, v, [], bl⟩

/-- A new block becomes a slice's array. -/
theorem RelR.newArr (hR : RelR w0 F ρ s w) {key : Nat} (hk : s key = .never) (E : TypeId) {t : Ty} {l : List (Den Γ t)} {arr : Array Value} {cap : Nat} (hsz : arr.size = cap * t.size Γ) (hl : l.length ≤ cap) (hm : cap ≤ maxLen)
    (hr : RepL F w (l.flatMap (encL t)) (arr.toList.take (l.length * t.size Γ))) :
    Ext F ρ s w F (updI ρ key (ownRI (.slice (some ⟨w.heap.size, 0, none⟩) l.length cap) [w.heap.size])) (updR s key (.live (.arr E t l))) (w.alloc (.cells arr E)) ∧
    RelR w0 F (updI ρ key (ownRI (.slice (some ⟨w.heap.size, 0, none⟩) l.length cap) [w.heap.size])) (updR s key (.live (.arr E t l))) (w.alloc (.cells arr E)) := by
  have hsize : (w.alloc (.cells arr E)).heap.size = w.heap.size + 1 := by simp
  refine hR.set key _ (.arr E t l) (.inl hk) (by omega) ⟨rfl, rfl, rfl⟩ (fun b hb _ => heap_alloc_old w _ hb) (fun b hb => ?_) (fun x => ?_)
  · have : b = w.heap.size := by simpa [ownRI] using hb
    subst this
    exact hR.free_new (Nat.le_refl _) (by omega)
  · refine ⟨_, ?_, hr.mono x.keeps x.sub, ?_⟩
    · rw [updI_same]
      refine ⟨?_, .inr ⟨w.heap.size, cap, arr, rfl, Nat.zero_le _, heap_alloc_new w _, hl, hm, hsz, rfl⟩⟩
      have : l.length * t.size Γ ≤ cap * t.size Γ := Nat.mul_le_mul_right _ hl
      simp; omega
    · rw [updI_same]
      intro b hb
      cases hb
      exact List.mem_singleton.2 rfl

/-- A new block becomes the array of a slice of slices that are owned, too. -/
theorem RelR.newMat (hR : RelR w0 F ρ s w) {key : Nat} (hk : s key = .never) (E E2 : TypeId) {t : Ty} {l : List (List (Den Γ t))} {arr : Array Value} {cap : Nat} (hsz : arr.size = cap) (hl : l.length ≤ cap) (hm : cap ≤ maxLen) (bl : List Nat)
    (hrow : ∀ i, i < l.length → ∃ ys, w.ownsRow 0 E2 (t.size Γ) (arr.toList.getD i undef) (l.getD i []).length ys ∧ RepL F w ((l.getD i []).flatMap (encL t)) ys)
    (hb1 : ∀ i b, i < l.length → (arr.toList.getD i undef).ownBlock = some b → b ∈ bl) (hb2 : ∀ i j b, i ≠ j → i < l.length → j < l.length → (arr.toList.getD i undef).ownBlock = some b → (arr.toList.getD j undef).ownBlock ≠ some b)
    (hfree : ∀ b ∈ bl, Free w0 F ρ s key w b) :
    Ext F ρ s w F (updI ρ key ⟨0, .slice (some ⟨w.heap.size, 0, none⟩) l.length cap, arr.toList.take l.length, w.heap.size :: bl⟩) (updR s key (.live (.mat E E2 t l 0))) (w.alloc (.cells arr E)) ∧
    RelR w0 F (updI ρ key ⟨0, .slice (some ⟨w.heap.size, 0, none⟩) l.length cap, arr.toList.take l.length, w.heap.size :: bl⟩) (updR s key (.live (.mat E E2 t l 0))) (w.alloc (.cells arr E)) := by
  have hsize : (w.alloc (.cells arr E)).heap.size = w.heap.size + 1 := by simp
  have hget : ∀ i, i < l.length → (arr.toList.take l.length).getD i undef = arr.toList.getD i undef := by
    intro i hi
    simp only [List.getD_eq_getElem?_getD, List.getElem?_take, hi, if_true]
  refine hR.set key _ (.mat E E2 t l 0) (.inl hk) (by omega) ⟨rfl, rfl, rfl⟩ (fun b hb _ => heap_alloc_old w _ hb) (fun b hb => ?_) (fun x => ?_)
  · rcases List.mem_cons.1 hb with rfl | hb
    · exact hR.free_new (Nat.le_refl _) (by omega)
    · obtain ⟨h1, h2, h3, h4⟩ := hfree b hb
      exact ⟨h1, h2, by omega, h4⟩
  · refine ⟨?_, fun i hi => ?_, ?_, fun i b hi hb => ?_, fun i j b hij hi hj hb => ?_⟩
    · rw [updI_same]
      refine ⟨by simp; omega, .inr ⟨w.heap.size, cap, arr, rfl, Nat.zero_le _, heap_alloc_new w _, hl, hm, by omega, ?_⟩⟩
      rw [Nat.mul_one]
    · rw [updI_same]
      obtain ⟨ys, g1, g2⟩ := hrow i hi
      refine ⟨ys, ?_, g2.mono x.keeps x.sub⟩
      simp only
      rw [hget i hi]
      exact ownsRow_move g1 fun b hb => heap_alloc_old w _ (hfree b (hb1 i b hi hb)).2.2.1
    · rw [updI_same]
      intro b hb
      cases hb
      exact List.mem_cons_self
    · rw [updI_same] at hb ⊢
      simp only at hb ⊢
      rw [hget i hi] at hb
      have := (hfree b (hb1 i b hi hb)).2.2.1
      refine ⟨List.mem_cons_of_mem _ (hb1 i b hi hb), fun e => ?_⟩
      have : some w.heap.size = some b := e
      cases this
      omega
    · rw [updI_same] at hb ⊢
      simp only at hb ⊢
      rw [hget i hi] at hb
      rw [hget j hj]
      exact hb2 i j b hij hi hj hb
end rel

section ops
variable {R : Type} (P : Program) (ti : TypeId → Option (TI Γ)) (ev : Operand → AV Γ) (s : Nat → RStat Γ) (o : Oper)

/-! ### buildSlice -/

def mkList (t : Ty) : Nat → List (Cell Γ) → Option (List (Den Γ t))
  | 0, [] => some []
  | 0, _ => none
  | n + 1, cs => match mkOf t (cs.take (t.size Γ)), mkList t n (cs.drop (t.size Γ)) with
    | some x, some l => some (x :: l)
    | _, _ => none

theorem mkList_spec (hΓ : Γ.Ok) {t : Ty} : ∀ {n : Nat} {cs : List (Cell Γ)} {l : List (Den Γ t)}, mkList t n cs = some l → l.length = n ∧ l.flatMap (cellsOf t) = cs
  | 0, [], l, h => by cases h; exact ⟨rfl, rfl⟩
  | 0, _ :: _, l, h => by cases h
  | n + 1, cs, l, h => by
    unfold mkList at h
    split at h
    · rename_i x l' h1 h2
      cases h
      obtain ⟨g1, g2⟩ := mkList_spec hΓ h2
      refine ⟨by simp [g1], ?_⟩
      rw [List.flatMap_cons, g2, mkOf_cells hΓ t _ x h1, List.take_append_drop]
    · cases h

/-- Is an element type one of slices whose arrays are owned with it? -/
def matOf (ti : TypeId → Option (TI Γ)) (E : TypeId) : Option TypeId := sliceAt? ti E

def vBuildSlice (T : TypeId) (len : Nat) (parts : Array (Nat × Operand)) (key : Nat) (k : K Γ R) : Option R :=
  match sliceAt? ti T with
  | some E => match ti E with
    | some inf => match inf.zero, inf.ty with
      | some zs, some t =>
        if isNever (s key) = true ∧ zs.length = inf.size ∧ inf.size = t.size Γ ∧ len * inf.size ≤ 16777216 ∧ 0 < inf.size then
          match fillV s (fun i => some (i * inf.size, inf.size, inf.ty)) (List.replicate len (zs.map zcv)).flatten (evParts ev parts.toList) with
          | some cells =>
            match matOf ti E, t, len, cells with
            | some E2, .sl t2, 0, [] => k (AV.one (.own key)) (key :: partsKeys (evParts ev parts.toList)) [(key, .live (.mat E E2 t2 [] 0))]
            | some E2, .sl t2, 1, [.own j] => match s j with
              | .live (.arr E3 t3 l3) => match asTy (Γ := Γ) ⟨.sl t3, l3⟩ (.sl t2) with
                | some z => if E3 = E2 ∧ j ≠ key ∧ j ∈ partsKeys (evParts ev parts.toList) then k (AV.one (.own key)) (key :: partsKeys (evParts ev parts.toList)) [(j, .dead), (key, .live (.mat E E2 t2 [z] 0))] else none
                | none => none
              | _ => none
            | _, t, len, cells => match cvCells s cells with
              | some (ds, ks) => match mkList t len ds with
                | some l => if ks.Nodup ∧ key ∉ ks ∧ (cells.flatMap cvKeys).all (fun q => (partsKeys (evParts ev parts.toList)).contains q) = true then
                    k (AV.one (.own key)) (key :: partsKeys (evParts ev parts.toList)) (ks.map (fun k => (k, .dead)) ++ [(key, .live (.arr E t l))])
                  else none
                | none => none
              | none => none
          | none => none
        else none
      | _, _ => none
    | none => none
  | none => none

theorem run_zeros {ti : TypeId → Option (TI Γ)} (hti : TIOk P ti) {E : TypeId} {inf : TI Γ} (hE : ti E = some inf) {zs : List (Cell Γ)} (hz : inf.zero = some zs) (hsz : zs.length = inf.size) :
    ∃ f z, P.info? E = some f ∧ f.zero = some z ∧ f.size = inf.size ∧ f.bytes = inf.bytes ∧ z.cells.size = inf.size ∧ z.cells.toList = zs.map (fun c => zval c.enc) ∧ (∀ c ∈ zs, (Cell.enc c).zeroB = true) := by
  obtain ⟨f, hf, h1, h2, h3⟩ := (hti E inf hE).info
  obtain ⟨hz0, z, hz', hzl⟩ := h3 zs hz
  refine ⟨f, z, hf, hz', h1, h2, ?_, hzl, hz0⟩
  have := congrArg List.length hzl
  simp at this
  omega

theorem madeCells_list (z : Array Value) (n : Nat) : (madeCells z (n * z.size)).toList = (List.replicate n z.toList).flatten := by
  apply List.ext_getElem?
  intro q
  by_cases hz : z.size = 0
  · have : z = #[] := Array.eq_empty_of_size_eq_zero hz
    subst this
    simp [madeCells]
  · simp only [madeCells, Array.toList_map, Array.toList_range, List.getElem?_map, List.getElem?_range]
    have hlen : ∀ m, ((List.replicate m z.toList).flatten).length = m * z.size := by intro m; simp
    by_cases hq : q < n * z.size
    · have h1 : q / z.size < n := by
        rw [Nat.div_lt_iff_lt_mul (by omega)]; exact hq
      have h2 : q % z.size < z.size := Nat.mod_lt _ (by omega)
      have hdm := Nat.div_add_mod q z.size
      have key := getD_flatMap (fun _ : Nat => z.toList) z.size undef (List.replicate n 0) (q / z.size) (q % z.size) 0 (by simp) (by simpa using h1) h2
      have e : (List.replicate n 0).flatMap (fun _ : Nat => z.toList) = (List.replicate n z.toList).flatten := by
        rw [List.flatMap_def]; simp
      rw [e] at key
      have eq : q / z.size * z.size + q % z.size = q := by rw [Nat.mul_comm]; exact hdm
      rw [eq] at key
      have hql : q < ((List.replicate n z.toList).flatten).length := by rw [hlen]; exact hq
      rw [List.getElem?_eq_getElem hql]
      simp only [List.getD_eq_getElem?_getD, List.getElem?_eq_getElem hql, Option.getD_some] at key
      rw [key]
      simp [hq, h2]
    · rw [show ((List.replicate n z.toList).flatten)[q]? = none from List.getElem?_eq_none (by rw [hlen]; omega)]
      simp [hq]

theorem zeros_conc {F : Nat → Prop} {ρ : Nat → RI} {s : Nat → RStat Γ} {w : World} {zs : List (Cell Γ)} (hz0 : ∀ c ∈ zs, (Cell.enc c).zeroB = true) {z : Array Value} (hzl : z.toList = zs.map (fun c => zval c.enc)) (n : Nat) :
    ConcL F ρ s w (List.replicate n (zs.map zcv)).flatten (madeCells z (n * z.size)).toList := by
  rw [madeCells_list, hzl]
  induction n with
  | zero => exact ConcL.nil
  | succ n ih =>
    simp only [List.replicate_succ, List.flatten_cons]
    exact (zcv_list hz0).append ih

theorem run_buildSlice {ti : TypeId → Option (TI Γ)} (hti : TIOk P ti) {T E : TypeId} (hT : sliceAt? ti T = some E) {f : TypeInfo} {z : Value} (hf : P.info? E = some f) (hz : f.zero = some z) (hzs : z.cells.size = f.size) {len : Nat} (hlim : len * f.size ≤ 16777216) {parts : Array (Nat × Value)} {arr : Array Value}
    (hfill : Instr.fill (fun i => some (i * f.size, f.size)) (madeCells z.cells (len * z.cells.size)) parts.toList = some arr) (w : World) :
    (Instr.buildSlice T len parts).run P w = .ok (.slice (some ⟨w.heap.size, 0, none⟩) len len) (w.alloc (.cells arr E)) := by
  have hlim' : ¬ (len * f.size > 2 ^ 24) := by omega
  unfold Instr.buildSlice
  simp only [Sem.run_bind, run_underlying (sliceAt?_spec P hti hT), Result.andThen_ok, sizeOf, typeInfo, hf, run_program, Sem.run_pure, hlim', if_false]
  by_cases h0 : len * f.size = 0
  · simp only [h0, if_true, pure_bind]
    have e : (Array.map (fun x => (#[] : Array Value)[x % (#[] : Array Value).size]!) (Array.range 0)) = madeCells z.cells (len * z.cells.size) := by
      rw [hzs, h0]; simp [madeCells]
    rw [e, hfill]
    simp [newRow]
  · simp only [h0, if_false, zeroValue, typeInfo, hf, hz, Sem.run_bind, run_program, Result.andThen_ok, Sem.run_pure]
    have e : (Array.map (fun x => z.cells[x % z.cells.size]!) (Array.range (len * f.size))) = madeCells z.cells (len * z.cells.size) := by
      unfold madeCells
      rw [show len * f.size = len * z.cells.size by rw [hzs]]
    rw [e, hfill]
    simp [newRow]
end ops
end Go.Vs
