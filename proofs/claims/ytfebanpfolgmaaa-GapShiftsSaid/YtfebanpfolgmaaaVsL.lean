/- The evaluator's twelfth part: make and append. -/
import Derived.Test.YtfebanpfolgmaaaVsK
namespace Go.Vs
set_option linter.unusedVariables false
set_option linter.unusedSimpArgs false
open Go.RowKit

variable {Γ : Env}

def room (bytes : Nat) (n : Int) : Bool := decide ((bytes : Int) * n ≤ 140737488355328)

def oneNil : List (CV Γ) → Bool
  | [.nilT _] => true
  | _ => false

section rel
variable {w0 : Base} {w w' : World} {F : Nat → Prop} {ρ : Nat → RI} {s : Nat → RStat Γ}

/-- What append leaves. -/
theorem RelR.appArr (hR : RelR w0 F ρ s w) {key : Nat} (hk : s key = .never) {E : TypeId} {t : Ty} {l : List (Den Γ t)} {v v' : Value} {xs : List Value} (hv : ∀ b, v.ownBlock = some b → Free w0 F ρ s key w b) (hown : w'.ownsRow 0 E (t.size Γ) v' l.length xs) (hg : w.grownBy w' v.ownBlock)
    (hat : v'.ownBlock = v.ownBlock ∨ v'.ownBlock = some w.heap.size) (hr : RepL F w (l.flatMap (encL t)) xs) :
    Ext F ρ s w F (updI ρ key (ownRI v' (v.ownBlock.toList ++ v'.ownBlock.toList))) (updR s key (.live (.arr E t l))) w' ∧ RelR w0 F (updI ρ key (ownRI v' (v.ownBlock.toList ++ v'.ownBlock.toList))) (updR s key (.live (.arr E t l))) w' := by
  have hfree : ∀ b, v.ownBlock = some b → Free w0 F ρ s key w' b := fun b hb => by
    obtain ⟨h1, h2, h3, h4⟩ := hv b hb
    exact ⟨h1, h2, by have := hg.size; omega, h4⟩
  refine hR.set key _ (.arr E t l) (.inl hk) hg.size ⟨hg.os, hg.tape, hg.output⟩ (fun b hb hn => hg.block b hb (fun e => hn ?_)) (fun b hb => ?_) (fun x => ?_)
  · show b ∈ v.ownBlock.toList ++ v'.ownBlock.toList
    rw [← e]
    exact List.mem_append_left _ List.mem_cons_self
  · rcases List.mem_append.1 hb with hb | hb
    · exact hfree b (by simpa [Option.mem_toList] using hb)
    · have hb' : v'.ownBlock = some b := by simpa [Option.mem_toList] using hb
      have hlt := (hown.lt b hb').2
      rcases hat with h | h
      · exact hfree b (h ▸ hb')
      · rw [h] at hb'
        cases hb'
        exact hR.free_new (Nat.le_refl _) hlt
  · refine ⟨xs, by rw [updI_same]; exact hown, hr.mono x.keeps x.sub, ?_⟩
    rw [updI_same]
    intro b hb
    have hb' : v'.ownBlock = some b := hb
    show b ∈ v.ownBlock.toList ++ v'.ownBlock.toList
    rw [hb']
    exact List.mem_append_right _ List.mem_cons_self

theorem RelR.appMat (hR : RelR w0 F ρ s w) {key : Nat} (hk : s key = .never) {E E2 : TypeId} {t : Ty} {l : List (List (Den Γ t))} {v v' : Value} {rows : List Value} (bl : List Nat) (hv : ∀ b, v.ownBlock = some b → Free w0 F ρ s key w b) (hown : w'.ownsRow 0 E 1 v' l.length rows) (hg : w.grownBy w' v.ownBlock)
    (hat : v'.ownBlock = v.ownBlock ∨ v'.ownBlock = some w.heap.size)
    (hrow : ∀ i, i < l.length → ∃ ys, w.ownsRow 0 E2 (t.size Γ) (rows.getD i undef) (l.getD i []).length ys ∧ RepL F w ((l.getD i []).flatMap (encL t)) ys)
    (hb1 : ∀ i b, i < l.length → (rows.getD i undef).ownBlock = some b → b ∈ bl ∧ v.ownBlock ≠ some b) (hb2 : ∀ i j b, i ≠ j → i < l.length → j < l.length → (rows.getD i undef).ownBlock = some b → (rows.getD j undef).ownBlock ≠ some b)
    (hfb : ∀ b ∈ bl, Free w0 F ρ s key w b) :
    Ext F ρ s w F (updI ρ key ⟨0, v', rows, v.ownBlock.toList ++ v'.ownBlock.toList ++ bl⟩) (updR s key (.live (.mat E E2 t l 0))) w' ∧ RelR w0 F (updI ρ key ⟨0, v', rows, v.ownBlock.toList ++ v'.ownBlock.toList ++ bl⟩) (updR s key (.live (.mat E E2 t l 0))) w' := by
  have hup : ∀ b, Free w0 F ρ s key w b → Free w0 F ρ s key w' b := fun b hb => by
    obtain ⟨h1, h2, h3, h4⟩ := hb
    exact ⟨h1, h2, by have := hg.size; omega, h4⟩
  have hne : ∀ i b, i < l.length → (rows.getD i undef).ownBlock = some b → v'.ownBlock ≠ some b := fun i b hi hb e => by
    obtain ⟨g1, g2⟩ := hb1 i b hi hb
    rcases hat with h | h
    · exact g2 (h ▸ e)
    · rw [h] at e
      cases e
      have := (hfb _ g1).2.2.1
      omega
  refine hR.set key _ (.mat E E2 t l 0) (.inl hk) hg.size ⟨hg.os, hg.tape, hg.output⟩ (fun b hb hn => hg.block b hb (fun e => hn ?_)) (fun b hb => ?_) (fun x => ?_)
  · show b ∈ v.ownBlock.toList ++ v'.ownBlock.toList ++ bl
    rw [← e]
    exact List.mem_append_left _ (List.mem_append_left _ List.mem_cons_self)
  · rcases List.mem_append.1 hb with hb | hb
    · rcases List.mem_append.1 hb with hb | hb
      · exact hup b (hv b (by simpa [Option.mem_toList] using hb))
      · have hb' : v'.ownBlock = some b := by simpa [Option.mem_toList] using hb
        have hlt := (hown.lt b hb').2
        rcases hat with h | h
        · exact hup b (hv b (h ▸ hb'))
        · rw [h] at hb'
          cases hb'
          exact hR.free_new (Nat.le_refl _) hlt
    · exact hup b (hfb b hb)
  · refine ⟨by rw [updI_same]; exact hown, fun i hi => ?_, fun b hb => ?_, fun i b hi hb => ?_, fun i j b hij hi hj hb => ?_⟩
    · rw [updI_same]
      obtain ⟨ys, g1, g2⟩ := hrow i hi
      exact ⟨ys, ownsRow_move g1 (fun b hb => hg.block b (hfb b (hb1 i b hi hb).1).2.2.1 (fun e => (hb1 i b hi hb).2 e.symm)), g2.mono x.keeps x.sub⟩
    · rw [updI_same] at hb ⊢
      have hb' : v'.ownBlock = some b := hb
      show b ∈ v.ownBlock.toList ++ v'.ownBlock.toList ++ bl
      rw [hb']
      exact List.mem_append_left _ (List.mem_append_right _ List.mem_cons_self)
    · rw [updI_same] at hb ⊢
      exact ⟨List.mem_append_right _ (hb1 i b hi hb).1, hne i b hi hb⟩
    · rw [updI_same] at hb ⊢
      exact hb2 i j b hij hi hj hb
end rel

section ops
variable {R : Type} (P : Program) (ti : TypeId → Option (TI Γ)) (ev : Operand → AV Γ) (s : Nat → RStat Γ) (o : Oper)

/-! ### make -/

def vMake (T : TypeId) (l c : Operand) (key : Nat) (k : K Γ R) : Option R :=
  match sliceAt? ti T, (ev l).int?, (ev c).int? with
  | some E, some (_, n), some (_, m) => match ti E with
    | some inf => match inf.zero, inf.ty with
      | some zs, some t =>
        if isNever (s key) = true ∧ zs.length = inf.size ∧ inf.size = t.size Γ ∧ 0 < inf.bytes then
          chk (decide (0 ≤ n) && decide (n ≤ m) && room inf.bytes m)
            (match matOf ti E, t with
              | some E2, .sl t2 => if inf.size = 1 ∧ oneNil (zs.map zcv) = true then k (AV.one (.own key)) [key] [(key, .live (.mat E E2 t2 (List.replicate n.toNat []) 0))] else none
              | _, t => match mkOf t zs with
                | some z => k (AV.one (.own key)) [key] [(key, .live (.arr E t (List.replicate n.toNat z)))]
                | none => none)
        else none
      | _, _ => none
    | none => none
  | _, _, _ => none

theorem oneNil_spec {zs : List (Cell Γ)} (h : oneNil (zs.map zcv) = true) (hz : ∀ c ∈ zs, (Cell.enc c).zeroB = true) : zs.map (fun c => zval c.enc) = [.slice none 0 0] := by
  cases zs with
  | nil => simp [oneNil] at h
  | cons c zs =>
    cases zs with
    | cons _ _ => simp [oneNil] at h
    | nil =>
      obtain ⟨t, x⟩ := c
      cases t <;> simp [oneNil, zcv] at h
      simp [Cell.enc, encL, zval]

theorem vMake_sound (hΓ : Γ.Ok) (hti : TIOk P ti) (T : TypeId) (l c : Operand) (key : Nat) (ho : o.op = .makeSlice T l c) : Goal P ev s o (vMake (R := R) ti ev s T l c key) := by
  intro k r h
  unfold vMake at h
  split at h
  · rename_i E kl n km m hT hl hm
    split at h
    · rename_i inf hE
      split at h
      · rename_i zs t hzs hty
        split at h
        · rename_i hcond
          obtain ⟨hnever, hzl, hszt, hbytes⟩ := hcond
          obtain ⟨hb, h⟩ := chk_some h
          simp only [Bool.and_eq_true, decide_eq_true_eq, room] at hb
          obtain ⟨⟨h0, hnm⟩, hroom⟩ := hb
          have hmle : m ≤ 140737488355328 := by
            have h1 : (1 : Int) * m ≤ (inf.bytes : Int) * m := Int.mul_le_mul_of_nonneg_right (by omega) (by omega)
            omega
          have hrun : ∀ (s2 : Nat → RStat Γ) {w0 F ρ} {ac : Act} {w}, RelR w0 F ρ s2 w → (∀ x ∈ o.op.operands, ConcA F ρ s2 w (ev x) (ac.eval x)) → ∃ z : Value, z.cells.size = inf.size ∧ z.cells.toList = zs.map (fun c => zval c.enc) ∧ (∀ c ∈ zs, (Cell.enc c).zeroB = true) ∧
              (execOp ac.eval o).run P w = .ok (.value (.slice (some ⟨w.heap.size, 0, none⟩) n.toNat m.toNat)) (w.alloc (.cells (madeCells z.cells (m.toNat * z.cells.size)) E)) := by
            intro s2 w0 F ρ ac w hR hop
            obtain ⟨f, z, hf, hz, hfs, hfb, hzsz, hzlist, hz0⟩ := run_zeros P hti hE hzs hzl
            have h1 := int?_spec hl (hop l (by simp [ho, Op.operands]))
            have h2 := int?_spec hm (hop c (by simp [ho, Op.operands]))
            have hmk := run_make (P := P) w T E f z (sliceAt?_spec P hti hT) hf hz kl km n m h0 hnm (by rw [hfb]; omega) (by omega)
            rw [hfs, ← hzsz] at hmk
            exact ⟨z, hzsz, hzlist, hz0, by simp [execOp, ho, h1, h2, hmk]⟩
          split at h
          · rename_i E2 t2 hE2 _
            split at h
            · rename_i hc2
              obtain ⟨hsz1, hnil⟩ := hc2
              refine ⟨_, _, _, h, fun s2 hs w0 F ρ ac w hR hop next Q hnext => ?_⟩
              obtain ⟨z, hzsz, hzlist, hz0, hr⟩ := hrun s2 hR hop
              have hk : s2 key = .never := by rw [hs key List.mem_cons_self]; exact isNever_spec hnever
              have hz1 : z.cells.toList = [.slice none 0 0] := by rw [hzlist]; exact oneNil_spec hnil hz0
              have hel : ∀ i, i < (List.replicate n.toNat ([] : List (Den Γ t2))).length → (madeCells z.cells (m.toNat * z.cells.size)).toList.getD i undef = .slice none 0 0 := by
                intro i hi
                rw [madeCells_list, hz1]
                have hi' : i < m.toNat := by simp at hi; omega
                have e : (List.replicate m.toNat [(.slice none 0 0 : Value)]).flatten = List.replicate m.toNat (.slice none 0 0) := by
                  induction m.toNat with
                  | zero => rfl
                  | succ q ih => simp only [List.replicate_succ, List.flatten_cons, ih]; rfl
                rw [e, List.getD_eq_getElem?_getD, List.getElem?_replicate]
                simp [hi']
              obtain ⟨x, R'⟩ := hR.newMat hk E E2 (t := t2) (l := List.replicate n.toNat []) (arr := madeCells z.cells (m.toNat * z.cells.size)) (cap := m.toNat) (by rw [size_madeCells, hzsz, hsz1, Nat.mul_one]) (by simp; omega) (by simp only [maxLen]; omega) []
                (fun i hi => by
                  have hi' : i < n.toNat := by simpa using hi
                  rw [hel i hi]
                  have e2 : (List.replicate n.toNat ([] : List (Den Γ t2))).getD i [] = [] := by rw [List.getD_eq_getElem?_getD, List.getElem?_replicate]; simp [hi']
                  rw [e2]
                  exact ⟨[], World.ownsRow_nil _ _ _ _, RepL.nil _ _⟩)
                (fun i b hi hb => by rw [hel i hi] at hb; cases hb) (fun i j b _ hi _ hb => by rw [hel i hi] at hb; cases hb) (fun b hb => by cases hb)
              unfold Oper.wp
              rw [hr]
              exact hnext _ _ F _ ⟨x, R', by simp [apply, updR_same], by rw [updI_same]; simp⟩
            · cases h
          · split at h
            · rename_i tt _ _ _ _ z0 hz0'
              refine ⟨_, _, _, h, fun s2 hs w0 F ρ ac w hR hop next Q hnext => ?_⟩
              obtain ⟨z, hzsz, hzlist, hz0, hr⟩ := hrun s2 hR hop
              have hk : s2 key = .never := by rw [hs key List.mem_cons_self]; exact isNever_spec hnever
              have hrep : ∀ q : Nat, RepL F w ((List.replicate q z0).flatMap (encL _)) ((List.replicate q z.cells.toList).flatten) := by
                intro q
                induction q with
                | zero => exact RepL.nil _ _
                | succ q ih =>
                  simp only [List.replicate_succ, List.flatten_cons, List.flatMap_cons]
                  refine RepL.append ?_ ih
                  rw [encL_cells hΓ, mkOf_cells hΓ _ _ _ hz0', hzlist]
                  refine ⟨by simp, fun i hi => ?_⟩
                  have hi' : i < zs.length := by simpa using hi
                  have e1 : (zs.map Cell.enc).getD i (.v undef) = (zs[i]).enc := by simp [List.getD_eq_getElem?_getD, hi']
                  have e2 : (zs.map (fun c => zval c.enc)).getD i undef = zval (zs[i]).enc := by simp [List.getD_eq_getElem?_getD, hi']
                  rw [e1, e2]
                  exact RepD.zero (hz0 _ (List.getElem_mem hi'))
              obtain ⟨x, R'⟩ := hR.newArr hk E (l := List.replicate n.toNat z0) (arr := madeCells z.cells (m.toNat * z.cells.size)) (cap := m.toNat) (by rw [size_madeCells, hzsz, hszt]) (by simp; omega) (by simp only [maxLen]; omega) (by
                have e : m.toNat = n.toNat + (m.toNat - n.toNat) := by omega
                rw [madeCells_list, e, ← List.replicate_append_replicate, List.flatten_append, List.length_replicate]
                have hl2 : ((List.replicate n.toNat z.cells.toList).flatten).length = n.toNat * inf.size := by simp [hzsz]
                rw [← hszt, ← hl2, List.take_left]
                exact hrep _)
              unfold Oper.wp
              rw [hr]
              exact hnext _ _ F _ ⟨x, R', by simp [apply, updR_same], by rw [updI_same]; simp [ownRI]⟩
            · cases h
        · cases h
      · cases h
    · cases h
  · cases h

/-! ### append -/

def srcOf (s : Nat → RStat Γ) : CV Γ → Option (Sigma fun t : Ty => List (Den Γ t))
  | .leaf ⟨.sl t, l⟩ => some ⟨t, l⟩
  | .nilT t => some ⟨t, []⟩
  | .own k => match s k with
    | .live (.arr _ t l) => some ⟨t, l⟩
    | _ => none
  | .row k ver i => match s k with
    | .live (.mat _ _ t l n) => if n = ver then some ⟨t, l.getD i.toNat []⟩ else none
    | _ => none
  | .sub k lo hi => match s k with
    | .live (.arr _ t l) => some ⟨t, (l.take hi.toNat).drop lo.toNat⟩
    | _ => none
  | _ => none

theorem srcOf_congr {s2 : Nat → RStat Γ} {c : CV Γ} (h : ∀ k ∈ cvKeys c, s2 k = s k) : srcOf s2 c = srcOf s c := by
  unfold srcOf
  split <;> first | rfl | rw [h _ (List.mem_singleton.2 rfl)]

theorem src_row {w : World} {F : Nat → Prop} {E : TypeId} {t : Ty} {l : List (Den Γ t)} {v : Value} {xs : List Value} (hΓ : Γ.Ok) (h : w.ownsRow 0 E (t.size Γ) v l.length xs) (hr : RepL F w (l.flatMap (encL t)) xs) :
    (v = .slice none 0 0 ∧ l = []) ∨ ∃ (a : Addr) (cap : Nat) (news : List Value), v = .slice (some a) l.length cap ∧ news.length = l.length * t.size Γ ∧ (∀ j u, news[j]? = some u → w.cell? (a.add j) = some u) ∧ RepL F w (l.flatMap (encL t)) news ∧ ∀ u ∈ news, u.oneCell' = true := by
  rcases ownsRow_nilOrBlock h with ⟨rfl, hn⟩ | ⟨g, cap, rfl, hn, hm⟩
  · exact .inl ⟨rfl, List.eq_nil_of_length_eq_zero hn⟩
  · refine .inr ⟨⟨g, 0, none⟩, cap, xs, rfl, h.1, fun j u hj => ?_, hr, repL_one' hΓ hr⟩
    have hlt := (List.getElem?_eq_some_iff.1 hj).1
    rw [add_zero_lit, Nat.zero_add, ownsRow_cell h rfl hlt, List.getD_eq_getElem?_getD, hj]
    rfl

theorem srcOf_spec (hΓ : Γ.Ok) {w0 : Base} {w : World} {F : Nat → Prop} {ρ : Nat → RI} (hR : RelR w0 F ρ s w) {c : CV Γ} {t : Ty} {l : List (Den Γ t)} {v : Value} (h : srcOf s c = some ⟨t, l⟩) (hc : ConcC F ρ s w c v) :
    (v = .slice none 0 0 ∧ l = []) ∨ ∃ (a : Addr) (cap : Nat) (news : List Value), v = .slice (some a) l.length cap ∧ news.length = l.length * t.size Γ ∧ (∀ j u, news[j]? = some u → w.cell? (a.add j) = some u) ∧ RepL F w (l.flatMap (encL t)) news ∧ ∀ u ∈ news, u.oneCell' = true := by
  unfold srcOf at h
  split at h
  · rename_i t' l'
    obtain ⟨l', rfl⟩ : ∃ l'' : List (Den Γ t'), l'' = l' := ⟨l', rfl⟩
    injection h with h
    injection h with h1 h2
    subst h1
    have h2' := eq_of_heq h2
    subst h2'
    rcases RepD.sl_inv (show RepD F w (.sl (t'.size Γ) (List.map (encL t') l')) v from hc) with ⟨rfl, hl⟩ | ⟨a, cap, u, rfl, hall, hcap, hm, hcell⟩
    · exact .inl ⟨rfl, List.map_eq_nil_iff.1 hl⟩
    · have hlen := length_flatMap_const (encL t') (t'.size Γ) l' (mem_encL_size hΓ t' l')
      have hq : ∀ q, q < l'.length * t'.size Γ → ∃ x, w.cell? (a.add q) = some x ∧ RepD F w ((l'.flatMap (encL t')).getD q (.v undef)) x := by
        intro q hq
        have hsz : 0 < t'.size Γ := by
          rcases Nat.eq_zero_or_pos (t'.size Γ) with e | e
          · rw [e, Nat.mul_zero] at hq; omega
          · exact e
        have h1 : q / t'.size Γ < l'.length := by rw [Nat.div_lt_iff_lt_mul hsz]; exact hq
        have h2 : q % t'.size Γ < t'.size Γ := Nat.mod_lt _ hsz
        have hdm : q / t'.size Γ * t'.size Γ + q % t'.size Γ = q := by rw [Nat.mul_comm]; exact Nat.div_add_mod q _
        have := hcell (q / t'.size Γ) (q % t'.size Γ) (by simpa using h1) h2
        rw [hdm] at this
        refine ⟨_, this.2.1, ?_⟩
        have e := getD_flatMap (encL t') (t'.size Γ) (.v undef) l' (q / t'.size Γ) (q % t'.size Γ) (l'[q / t'.size Γ]) (mem_encL_size hΓ t' l') h1 h2
        rw [hdm] at e
        rw [e]
        have e1 : (List.map (encL t') l').getD (q / t'.size Γ) [] = encL t' (l'[q / t'.size Γ]) := by simp [List.getD_eq_getElem?_getD, h1]
        have e2 : l'.getD (q / t'.size Γ) (l'[q / t'.size Γ]) = l'[q / t'.size Γ] := by simp [List.getD_eq_getElem?_getD, h1]
        rw [e2, ← e1]
        exact this.2.2
      have hrep : RepL F w (l'.flatMap (encL t')) ((List.range (l'.length * t'.size Γ)).map fun q => (w.cell? (a.add q)).getD undef) := by
        refine ⟨by rw [hlen]; simp, fun q hq' => ?_⟩
        rw [hlen] at hq'
        obtain ⟨x, h1, h2⟩ := hq q hq'
        have e : ((List.range (l'.length * t'.size Γ)).map fun q => (w.cell? (a.add q)).getD undef).getD q undef = x := by
          simp [List.getD_eq_getElem?_getD, hq', h1]
        rw [e]
        exact h2
      refine .inr ⟨a, cap, _, by rw [List.length_map], by simp, fun j u hj => ?_, hrep, repL_one' hΓ hrep⟩
      have hlt : j < l'.length * t'.size Γ := by have := (List.getElem?_eq_some_iff.1 hj).1; simpa using this
      obtain ⟨x, h1, _⟩ := hq j hlt
      simp only [List.getElem?_map, List.getElem?_range hlt, Option.map_some, h1, Option.getD_some, Option.some.injEq] at hj
      rw [h1, hj]
  · injection h with h
    injection h with h1 h2
    subst h1
    have h2' := eq_of_heq h2
    subst h2'
    exact .inl ⟨hc, rfl⟩
  · rename_i k
    split at h
    · rename_i E t' l' e
      injection h with h
      injection h with h1 h2
      subst h1
      have h2' := eq_of_heq h2
      subst h2'
      obtain ⟨xs, g1, g2, _⟩ := hR.res k _ e
      rw [hc.2]
      exact src_row hΓ g1 g2
    · cases h
  · rename_i k ver i
    split at h
    · rename_i E E2 t' l' n e
      split at h
      · rename_i en
        injection h with h
        injection h with h1 h2
        subst h1
        have h2' := eq_of_heq h2
        subst h2'
        obtain ⟨_, hall⟩ := hc
        obtain ⟨_, h3⟩ := hall E E2 t' l' n e
        obtain ⟨h4, h5, rfl⟩ := h3 en
        obtain ⟨_, hrow, _⟩ := hR.res k _ e
        obtain ⟨ys, g1, g2⟩ := hrow i.toNat h5
        exact src_row hΓ g1 g2
      · cases h
    · cases h
  · rename_i k lo hi
    split at h
    · rename_i E t' l' e
      injection h with h
      injection h with h1 h2
      subst h1
      have h2' := eq_of_heq h2
      subst h2'
      obtain ⟨xs, g1, g2, _⟩ := hR.res k _ e
      obtain ⟨_, hall⟩ := hc
      obtain ⟨b1, b2, b3, b, cap, b4, rfl⟩ := hall _ e
      have b3' : hi.toNat ≤ l'.length := b3
      have hlen := length_flatMap_const (encL t') (t'.size Γ) l' (mem_encL_size hΓ t' l')
      have hle : lo.toNat ≤ hi.toNat := by omega
      have hmin : min hi.toNat l'.length = hi.toNat := Nat.min_eq_left b3'
      have hll : ((l'.take hi.toNat).drop lo.toNat).length = hi.toNat - lo.toNat := by simp; omega
      have hxl : xs.length = l'.length * t'.size Γ := g1.1
      have hm1 : hi.toNat * t'.size Γ ≤ l'.length * t'.size Γ := Nat.mul_le_mul_right _ b3'
      have hm2 : lo.toNat * t'.size Γ ≤ hi.toNat * t'.size Γ := Nat.mul_le_mul_right _ hle
      have hfl : ((l'.take hi.toNat).drop lo.toNat).flatMap (encL t') = ((l'.flatMap (encL t')).take (hi.toNat * t'.size Γ)).drop (lo.toNat * t'.size Γ) := by
        have tk : ∀ (n : Nat) (l : List (Den Γ t')), n ≤ l.length → (l.take n).flatMap (encL t') = (l.flatMap (encL t')).take (n * t'.size Γ) := by
          intro n l hn
          have e1 : l.flatMap (encL t') = (l.take n).flatMap (encL t') ++ (l.drop n).flatMap (encL t') := by rw [← List.flatMap_append, List.take_append_drop]
          have e2 := length_flatMap_const (encL t') (t'.size Γ) (l.take n) (mem_encL_size hΓ t' _)
          rw [List.length_take, Nat.min_eq_left hn] at e2
          rw [e1, ← e2, List.take_left]
        have dp : ∀ (n : Nat) (l : List (Den Γ t')), n ≤ l.length → (l.drop n).flatMap (encL t') = (l.flatMap (encL t')).drop (n * t'.size Γ) := by
          intro n l hn
          have e1 : l.flatMap (encL t') = (l.take n).flatMap (encL t') ++ (l.drop n).flatMap (encL t') := by rw [← List.flatMap_append, List.take_append_drop]
          have e2 := length_flatMap_const (encL t') (t'.size Γ) (l.take n) (mem_encL_size hΓ t' _)
          rw [List.length_take, Nat.min_eq_left hn] at e2
          rw [e1, ← e2, List.drop_left]
        rw [dp _ _ (by simp; omega), tk _ _ b3']
      have hrep : RepL F w (((l'.take hi.toNat).drop lo.toNat).flatMap (encL t')) ((xs.take (hi.toNat * t'.size Γ)).drop (lo.toNat * t'.size Γ)) := by
        rw [hfl]
        refine ⟨by simp [g2.1], fun i hi' => ?_⟩
        have h1 : i < hi.toNat * t'.size Γ - lo.toNat * t'.size Γ := by simp [hmin] at hi'; omega
        have := g2.2 (lo.toNat * t'.size Γ + i) (by rw [hlen]; omega)
        simp only [List.getD_eq_getElem?_getD, List.getElem?_drop, List.getElem?_take] at this ⊢
        rw [if_pos (by omega), if_pos (by omega)]
        exact this
      refine .inr ⟨⟨b, lo.toNat * t'.size Γ, none⟩, cap, _, by rw [hll]; rfl, by rw [hll, List.length_drop, List.length_take, hxl, Nat.sub_mul, Nat.min_eq_left hm1], fun j u hj => ?_, hrep, repL_one' hΓ hrep⟩
      have hj' := hj
      rw [List.getElem?_drop, List.getElem?_take] at hj
      split at hj
      · rename_i hlt
        have hlt2 := (List.getElem?_eq_some_iff.1 hj).1
        rw [add_zero_lit, ownsRow_cell g1 b4 hlt2, List.getD_eq_getElem?_getD, hj]
        rfl
      · cases hj
    · cases h
  · cases h

/-- What is appended to: nothing yet, or a slice of the call's own. -/
def dstOf (s : Nat → RStat Γ) (E : TypeId) : CV Γ → Option (Option Nat × Sigma fun t : Ty => List (Den Γ t))
  | .nilT t => some (none, ⟨t, []⟩)
  | .own k => match s k with
    | .live (.arr E' t l) => if E' = E then some (some k, ⟨t, l⟩) else none
    | .live (.mat E' _ t [] _) => if E' = E then some (some k, ⟨.sl t, []⟩) else none
    | _ => none
  | _ => none

def killOf : Option Nat → List (Nat × RStat Γ)
  | none => []
  | some k => [(k, .dead)]

def elemOk (inf : TI Γ) (t : Ty) : Bool :=
  match inf.zero with
  | some zs => decide (zs.length = inf.size) && decide (inf.size = t.size Γ) && decide (0 < inf.size)
  | none => false

def vAppend (args : Array Operand) (tys : Array TypeId) (key : Nat) (k : K Γ R) : Option R :=
  match args.toList, tys.toList with
  | [x, y], [T, T2] => match sliceAt? ti T, ev x, ev y with
    | some E, .v (.one cx), .v (.one cy) => match ti E with
      | some inf => match dstOf s E cx, srcOf s cy with
        | some (q, ⟨t, l⟩), some ⟨t2, l2⟩ => match asTy (Γ := Γ) ⟨.sl t2, l2⟩ (.sl t) with
          | some l2 => if T2 = T ∧ isNever (s key) = true ∧ elemOk inf t = true ∧ q ≠ some key then
              chk (decide (((List.length (α := Den Γ t) l + List.length (α := Den Γ t) l2 : Nat) : Int) ≤ 9223372036854775807) && room inf.bytes ((List.length (α := Den Γ t) l + List.length (α := Den Γ t) l2 : Nat) : Int))
                (k (AV.one (.own key)) (key :: (cvKeys cx ++ cvKeys cy)) (killOf q ++ [(key, .live (.arr E t (List.append (α := Den Γ t) l l2)))]))
            else none
          | none => none
        | _, _ => none
      | none => none
    | _, _, _ => none
  | _, _ => none

end ops
end Go.Vs
