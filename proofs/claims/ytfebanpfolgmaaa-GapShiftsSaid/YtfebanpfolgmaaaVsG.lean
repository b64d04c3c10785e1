/- The evaluator's seventh part: stores. -/
import Derived.Test.YtfebanpfolgmaaaVsF
namespace Go.Vs
set_option linter.unusedVariables false
set_option linter.unusedSimpArgs false
open Go.RowKit

variable {Γ : Env}

section rel
variable {w0 : Base} {w : World} {F : Nat → Prop} {ρ : Nat → RI} {s : Nat → RStat Γ}

/-- Cells of an owned row are written. -/
theorem ownsRow_store {base : Nat} {e : TypeId} {size n g o : Nat} {v : Value} {xs vs : List Value} (h : w.ownsRow base e size v n xs) (hg : v.ownBlock = some g) (ho : o + vs.length ≤ xs.length) :
    ∃ cur : Array Value, w.heap[g]? = some (.cells cur e (0, 0)) ∧ o + vs.length ≤ cur.size ∧
      (w.setRow g (cur.toList.take o ++ vs ++ cur.toList.drop (o + vs.length)).toArray).ownsRow base e size v n (xs.take o ++ vs ++ xs.drop (o + vs.length)) := by
  obtain ⟨h1, h2⟩ := h
  rcases h2 with ⟨rfl, _⟩ | ⟨g', cap, cur, rfl, hb, hh, hn, hm, hcs, ht⟩
  · cases hg
  · cases hg
    have hle : n * size ≤ cur.size := by rw [hcs]; exact Nat.mul_le_mul_right _ hn
    refine ⟨cur, hh, by omega, ⟨by simp; omega, .inr ⟨_, cap, _, rfl, hb, setRow_heap w _ cur _ e _ hh, hn, hm, by simp; omega, ?_⟩⟩⟩
    subst ht
    have e1 : (cur.toList.take (n * size)).take o = cur.toList.take o := by rw [List.take_take, Nat.min_eq_left (by omega)]
    rw [e1]
    have hlen : (cur.toList.take o ++ vs).length = o + vs.length := by simp; omega
    have hle2 : o + vs.length ≤ n * size := by omega
    rw [List.take_append, hlen, List.take_of_length_le (by omega)]
    congr 1
    rw [List.drop_take]

theorem set_eq_splice {α : Type} : ∀ (l : List α) (i : Nat) (x : α), i < l.length → l.take i ++ [x] ++ l.drop (i + 1) = l.set i x
  | [], i, x, h => by simp at h
  | a :: l, 0, x, _ => by simp
  | a :: l, i + 1, x, h => by
    have ih := set_eq_splice l i x (by simpa using h)
    simp only [List.take_succ_cons, List.drop_succ_cons, List.set_cons_succ, List.cons_append]
    rw [← ih]

theorem RelR.storeVar (hR : RelR w0 F ρ s w) {key : Nat} {E : TypeId} {cells : List (CV Γ)} (hk : s key = .live (.var E cells)) {off : Nat} {xs : List (CV Γ)} {vs : List Value} (hxs : ConcL F ρ s w xs vs) (hle : off + xs.length ≤ cells.length)
    {arr : Array Value} (harr : w.heap[(ρ key).blk]? = some (.cells arr E (0, 0))) :
    Ext F ρ s w F (updI ρ key (ρ key)) (updR s key (.live (.var E (cells.take off ++ xs ++ cells.drop (off + xs.length))))) (w.setRow (ρ key).blk (arr.toList.take off ++ vs ++ arr.toList.drop (off + vs.length)).toArray) ∧
    RelR w0 F (updI ρ key (ρ key)) (updR s key (.live (.var E (cells.take off ++ xs ++ cells.drop (off + xs.length))))) (w.setRow (ρ key).blk (arr.toList.take off ++ vs ++ arr.toList.drop (off + vs.length)).toArray) := by
  obtain ⟨arr', g1, g2, g3⟩ := hR.res key _ hk
  rw [harr] at g1
  cases g1
  refine hR.set key (ρ key) _ (.inr ⟨_, hk, rfl, rfl, ⟨?_, rfl, fun _ _ _ _ _ h => by cases h⟩⟩) (by simp) ⟨rfl, rfl, rfl⟩ (fun b _ hb => setRow_other w _ b _ (fun e => hb (e ▸ g2))) (fun b hb => hR.free_own hk hb (by simp)) (fun x => ?_)
  · simp only [Res.len, List.length_append, List.length_take, List.length_drop]; omega
  · refine ⟨_, by rw [updI_same]; exact setRow_heap w _ arr _ E _ harr, by rw [updI_same]; exact g2, ?_⟩
    refine ConcL.ext x ?_
    rw [List.toList_toArray]
    refine ((g3.take off).append hxs).append ?_
    rw [hxs.1]
    exact g3.drop _

theorem RelR.storeArr (hΓ : Γ.Ok) (hR : RelR w0 F ρ s w) {key : Nat} {E : TypeId} {t : Ty} {l : List (Den Γ t)} (hk : s key = .live (.arr E t l)) {i : Nat} (hi : i < l.length) {z : Den Γ t} {off : Nat} {ds : List (Cell Γ)} {vs : List Value} (hds : RepL F w (ds.map Cell.enc) vs)
    (hle : off + ds.length ≤ t.size Γ) (hz : cellsOf t z = (cellsOf t (l.getD i (t.zero Γ))).take off ++ ds ++ (cellsOf t (l.getD i (t.zero Γ))).drop (off + ds.length)) {g : Nat} (hg : (ρ key).val.ownBlock = some g) :
    ∃ cur : Array Value, w.heap[g]? = some (.cells cur E (0, 0)) ∧ i * t.size Γ + off + vs.length ≤ cur.size ∧
    Ext F ρ s w F (updI ρ key (ρ key)) (updR s key (.live (.arr E t (l.set i z)))) (w.setRow g (cur.toList.take (i * t.size Γ + off) ++ vs ++ cur.toList.drop (i * t.size Γ + off + vs.length)).toArray) ∧
    RelR w0 F (updI ρ key (ρ key)) (updR s key (.live (.arr E t (l.set i z)))) (w.setRow g (cur.toList.take (i * t.size Γ + off) ++ vs ++ cur.toList.drop (i * t.size Γ + off + vs.length)).toArray) := by
  obtain ⟨xs, g1, g2, g3⟩ := hR.res key _ hk
  have hvl : vs.length = ds.length := by have := hds.1; simpa using this
  have hlen := length_flatMap_const (encL t) (t.size Γ) l (mem_encL_size hΓ t l)
  have hmul : (i + 1) * t.size Γ ≤ l.length * t.size Γ := Nat.mul_le_mul_right _ hi
  rw [Nat.add_mul, Nat.one_mul] at hmul
  have hxl : xs.length = l.length * t.size Γ := g1.1
  obtain ⟨cur, c1, c2, c3⟩ := ownsRow_store (o := i * t.size Γ + off) (vs := vs) g1 hg (by omega)
  refine ⟨cur, c1, c2, ?_⟩
  refine hR.set key (ρ key) _ (.inr ⟨_, hk, rfl, rfl, ⟨by simp [Res.len], rfl, fun _ _ _ _ _ h => by cases h⟩⟩) (by simp) ⟨rfl, rfl, rfl⟩ (fun b _ hb => setRow_other w _ b _ (fun e => hb (e ▸ g3 g hg))) (fun b hb => hR.free_own hk hb (by simp)) (fun x => ?_)
  refine ⟨xs.take (i * t.size Γ + off) ++ vs ++ xs.drop (i * t.size Γ + off + vs.length), by rw [updI_same, List.length_set]; exact c3, RepL.mono ?_ x.keeps x.sub, by rw [updI_same]; exact g3⟩
  have e : (l.set i z).flatMap (encL t) = (l.flatMap (encL t)).take (i * t.size Γ + off) ++ ds.map Cell.enc ++ (l.flatMap (encL t)).drop (i * t.size Γ + off + ds.length) := by
    rw [set_flatMap (encL t) (t.size Γ) l i z (mem_encL_size hΓ t l) hi, encL_cells hΓ, hz]
    have ew : (l.flatMap (encL t)).drop (i * t.size Γ) = (cellsOf t (l.getD i (t.zero Γ))).map Cell.enc ++ (l.flatMap (encL t)).drop (i * t.size Γ + t.size Γ) := by
      apply List.ext_getElem?
      intro j
      rw [List.getElem?_drop, List.getElem?_append]
      have hcl : ((cellsOf t (l.getD i (t.zero Γ))).map Cell.enc).length = t.size Γ := by rw [List.length_map, cellsOf_size hΓ]
      rw [hcl]
      split
      · rename_i hj
        have h1 := getD_flatMap (encL t) (t.size Γ) (.v undef) l i j (t.zero Γ) (mem_encL_size hΓ t l) hi hj
        rw [encL_cells hΓ] at h1
        rw [List.getElem?_eq_getElem (by rw [hlen]; omega), List.getElem?_eq_getElem (by rw [hcl]; exact hj)]
        simp only [List.getD_eq_getElem?_getD] at h1
        rw [List.getElem?_eq_getElem (by rw [hlen]; omega), List.getElem?_eq_getElem (by rw [List.length_map, cellsOf_size hΓ]; exact hj)] at h1
        simpa using h1
      · rename_i hj
        rw [List.getElem?_drop]
        congr 1
        omega
    have hcsz : (cellsOf t (l.getD i (t.zero Γ))).length = t.size Γ := cellsOf_size hΓ t _
    have e1 : (l.flatMap (encL t)).take (i * t.size Γ + off) = (l.flatMap (encL t)).take (i * t.size Γ) ++ ((cellsOf t (l.getD i (t.zero Γ))).take off).map Cell.enc := by
      rw [List.take_add, ew, List.take_append, List.map_take]
      simp only [List.length_map, hcsz]
      rw [show off - t.size Γ = 0 by omega, List.take_zero, List.append_nil]
    have e2 : (l.flatMap (encL t)).drop (i * t.size Γ + off + ds.length) = ((cellsOf t (l.getD i (t.zero Γ))).drop (off + ds.length)).map Cell.enc ++ (l.flatMap (encL t)).drop (i * t.size Γ + t.size Γ) := by
      rw [Nat.add_assoc, ← List.drop_drop, ew, List.drop_append, List.map_drop]
      simp only [List.length_map, hcsz]
      rw [show off + ds.length - t.size Γ = 0 by omega, List.drop_zero]
    rw [e1, e2]
    simp only [List.map_append, List.append_assoc]
  rw [e]
  refine ((g2.take _).append hds).append ?_
  rw [hvl]
  exact g2.drop _

theorem RelR.storeMatElem (hΓ : Γ.Ok) (hR : RelR w0 F ρ s w) {key : Nat} {E E2 : TypeId} {t : Ty} {l : List (List (Den Γ t))} {m : Nat} (hk : s key = .live (.mat E E2 t l m)) {i : Nat} (hi : i < l.length) {j : Nat} (hj : j < (l.getD i []).length) {z : Den Γ t} {vs : List Value}
    (hds : RepL F w (encL t z) vs) {g : Nat} (hg : ((ρ key).rows.getD i undef).ownBlock = some g) :
    ∃ cur : Array Value, w.heap[g]? = some (.cells cur E2 (0, 0)) ∧ j * t.size Γ + vs.length ≤ cur.size ∧
    Ext F ρ s w F (updI ρ key (ρ key)) (updR s key (.live (.mat E E2 t (l.set i ((l.getD i []).set j z)) m))) (w.setRow g (cur.toList.take (j * t.size Γ) ++ vs ++ cur.toList.drop (j * t.size Γ + vs.length)).toArray) ∧
    RelR w0 F (updI ρ key (ρ key)) (updR s key (.live (.mat E E2 t (l.set i ((l.getD i []).set j z)) m))) (w.setRow g (cur.toList.take (j * t.size Γ) ++ vs ++ cur.toList.drop (j * t.size Γ + vs.length)).toArray) := by
  obtain ⟨h1, h2, h3, h4, h5⟩ := hR.res key _ hk
  obtain ⟨ys, g1, g2⟩ := h2 i hi
  have hvl : vs.length = t.size Γ := by rw [hds.1, encL_size hΓ]
  have hmul : (j + 1) * t.size Γ ≤ (l.getD i []).length * t.size Γ := Nat.mul_le_mul_right _ hj
  rw [Nat.add_mul, Nat.one_mul] at hmul
  have hxl : ys.length = (l.getD i []).length * t.size Γ := g1.1
  obtain ⟨cur, c1, c2, c3⟩ := ownsRow_store (o := j * t.size Γ) (vs := vs) g1 hg (by omega)
  refine ⟨cur, c1, c2, ?_⟩
  have hgb := (h4 i g hi hg)
  refine hR.set key (ρ key) _ (.inr ⟨_, hk, rfl, rfl, ⟨by simp [Res.len], rfl, fun E' E2' t' l' n' h => ?_⟩⟩) (by simp) ⟨rfl, rfl, rfl⟩ (fun b _ hb => setRow_other w _ b _ (fun e => hb (e ▸ hgb.1))) (fun b hb => hR.free_own hk hb (by simp)) (fun x => ?_)
  · cases h
    refine ⟨l, _, rfl, Nat.le_refl _, fun _ => ⟨rfl, fun i' => ?_⟩⟩
    simp only [List.getD_eq_getElem?_getD, List.getElem?_set]
    by_cases e : i = i'
    · subst e; simp [hi]
    · simp [e]
  · refine ⟨?_, fun i' hi' => ?_, by rw [updI_same]; exact h3, by rw [updI_same, List.length_set]; exact h4, by rw [updI_same, List.length_set]; exact h5⟩
    · rw [updI_same, List.length_set]
      exact ownsRow_move h1 fun b hb => setRow_other w g b _ (fun e => hgb.2 (e ▸ hb))
    · rw [List.length_set] at hi'
      rw [updI_same]
      by_cases e : i = i'
      · subst e
        have e1 : (l.set i ((l.getD i []).set j z)).getD i [] = (l.getD i []).set j z := by simp [List.getD_eq_getElem?_getD, hi]
        refine ⟨_, by rw [e1, List.length_set]; exact c3, RepL.mono ?_ x.keeps x.sub⟩
        rw [e1, set_flatMap (encL t) (t.size Γ) _ j z (mem_encL_size hΓ t _) hj]
        refine ((g2.take _).append hds).append ?_
        rw [hvl]
        exact g2.drop _
      · obtain ⟨ys', k1, k2⟩ := h2 i' hi'
        have e1 : (l.set i ((l.getD i []).set j z)).getD i' [] = l.getD i' [] := by simp [List.getD_eq_getElem?_getD, List.getElem?_set, e]
        rw [e1]
        exact ⟨ys', ownsRow_move k1 fun b hb => setRow_other w g b _ (fun eb => h5 i i' g e hi hi' hg (eb ▸ hb)), k2.mono x.keeps x.sub⟩

theorem or_false_and (F : Nat → Prop) (p : Nat → Prop) : (fun b => F b ∨ false = true ∧ p b) = F := by
  funext b
  simp

theorem Goes.mat_up {E E2 : TypeId} {t : Ty} {l l' : List (List (Den Γ t))} {m : Nat} {a a' : RI} (h : l'.length = l.length) : Goes (.mat E E2 t l m : Res Γ) (.mat E E2 t l' (m + 1)) a a' :=
  ⟨h, rfl, fun _ _ _ _ _ e => by cases e; exact ⟨l, m, rfl, Nat.le_succ _, fun e => absurd e (by omega)⟩⟩

theorem RelR.storeMatRow (hΓ : Γ.Ok) (hR : RelR w0 F ρ s w) {key q : Nat} {E E2 : TypeId} {t : Ty} {l : List (List (Den Γ t))} {m : Nat} (hk : s key = .live (.mat E E2 t l m)) {i : Nat} (hi : i < l.length) {z : List (Den Γ t)} (hq : s q = .live (.arr E2 t z)) (hne : q ≠ key)
    {g : Nat} (hg : (ρ key).val.ownBlock = some g) :
    ∃ cur : Array Value, w.heap[g]? = some (.cells cur E (0, 0)) ∧ i + 1 ≤ cur.size ∧ ∃ ρ',
    Ext F ρ s w F ρ' (updR (updR s q .dead) key (.live (.mat E E2 t (l.set i z) (m + 1)))) (w.setRow g (cur.toList.take i ++ [(ρ q).val] ++ cur.toList.drop (i + 1)).toArray) ∧
    RelR w0 F ρ' (updR (updR s q .dead) key (.live (.mat E E2 t (l.set i z) (m + 1)))) (w.setRow g (cur.toList.take i ++ [(ρ q).val] ++ cur.toList.drop (i + 1)).toArray) := by
  obtain ⟨h1, h2, h3, h4, h5⟩ := hR.res key _ hk
  obtain ⟨xs, k1, k2, k3⟩ := hR.res q _ hq
  obtain ⟨x1, R1⟩ := hR.drop hq false
  rw [or_false_and] at x1 R1
  have hrl : (ρ key).rows.length = l.length := by rw [h1.1, Nat.mul_one]
  obtain ⟨cur, c1, c2, c3⟩ := ownsRow_store (o := i) (vs := [(ρ q).val]) h1 hg (by rw [hrl]; exact hi)
  refine ⟨cur, c1, c2, ?_⟩
  have hk1 : updR s q .dead key = .live (.mat E E2 t l m) := by rw [updR_other (Ne.symm hne)]; exact hk
  have hgb : g ∈ (ρ key).bl := h3 g hg
  have hqg : ∀ b, (ρ q).val.ownBlock = some b → b ≠ g := fun b hb e => hR.disj q key _ _ b hne hq hk (k3 b hb) (e ▸ hgb)
  suffices hset : Ext F ρ (updR s q .dead) w F (updI ρ key ⟨(ρ key).blk, (ρ key).val, (ρ key).rows.set i (ρ q).val, (ρ key).bl ++ (ρ q).bl⟩) (updR (updR s q .dead) key (.live (.mat E E2 t (l.set i z) (m + 1)))) (w.setRow g (cur.toList.take i ++ [(ρ q).val] ++ cur.toList.drop (i + 1)).toArray) ∧ RelR w0 F (updI ρ key ⟨(ρ key).blk, (ρ key).val, (ρ key).rows.set i (ρ q).val, (ρ key).bl ++ (ρ q).bl⟩) (updR (updR s q .dead) key (.live (.mat E E2 t (l.set i z) (m + 1)))) (w.setRow g (cur.toList.take i ++ [(ρ q).val] ++ cur.toList.drop (i + 1)).toArray) from ⟨_, x1.trans hset.1, hset.2⟩
  refine R1.set (w' := w.setRow g (cur.toList.take i ++ [(ρ q).val] ++ cur.toList.drop (i + 1)).toArray) key ⟨(ρ key).blk, (ρ key).val, (ρ key).rows.set i (ρ q).val, (ρ key).bl ++ (ρ q).bl⟩ (.mat E E2 t (l.set i z) (m + 1))
    (.inr ⟨_, hk1, rfl, rfl, Goes.mat_up (by simp)⟩) (by simp) ⟨rfl, rfl, rfl⟩ (fun b _ hb => setRow_other w g b _ (fun e => hb (List.mem_append_left _ (e ▸ hgb)))) (fun b hb => ?_) (fun x => ?_)
  · rcases List.mem_append.1 hb with hb | hb
    · exact R1.free_own hk1 hb (by simp)
    · obtain ⟨a1, a2, a3⟩ := hR.own q _ b hq hb
      refine ⟨a1, a2, by simpa using a3, fun k' r' hk' hl hb' => ?_⟩
      by_cases e : k' = q
      · subst e; rw [updR_same] at hl; cases hl
      · rw [updR_other e] at hl
        exact hR.disj q k' _ r' b (Ne.symm e) hq hl hb hb'
  · have esp := set_eq_splice (ρ key).rows i (ρ q).val (by rw [hrl]; exact hi)
    have hrow : ∀ i', i' < l.length → ((ρ key).rows.set i (ρ q).val).getD i' undef = if i = i' then (ρ q).val else (ρ key).rows.getD i' undef := by
      intro i' hi'
      simp only [List.getD_eq_getElem?_getD, List.getElem?_set]
      by_cases e : i = i'
      · subst e; simp [hrl, hi]
      · simp [e]
    refine ⟨?_, fun i' hi' => ?_, ?_, fun i' b hi' hb => ?_, fun i' j' b hij hi' hj' hb => ?_⟩
    · rw [updI_same, List.length_set]
      have c3' := c3
      simp only [List.length_singleton] at c3'
      rw [esp] at c3'
      exact c3'
    · rw [List.length_set] at hi'
      rw [updI_same, hrow i' hi']
      by_cases e : i = i'
      · subst e
        have e1 : (l.set i z).getD i [] = z := by simp [List.getD_eq_getElem?_getD, hi]
        rw [e1, if_pos rfl]
        exact ⟨xs, ownsRow_move k1 fun b hb => setRow_other w g b _ (hqg b hb), k2.mono x.keeps x.sub⟩
      · obtain ⟨ys', y1, y2⟩ := h2 i' hi'
        have e1 : (l.set i z).getD i' [] = l.getD i' [] := by simp [List.getD_eq_getElem?_getD, List.getElem?_set, e]
        rw [e1, if_neg e]
        exact ⟨ys', ownsRow_move y1 fun b hb => setRow_other w g b _ (fun eb => (h4 i' b hi' hb).2 (by rw [eb]; exact hg)), y2.mono x.keeps x.sub⟩
    · rw [updI_same]
      exact fun b hb => List.mem_append_left _ (h3 b hb)
    · rw [List.length_set] at hi'
      rw [updI_same] at hb ⊢
      rw [hrow i' hi'] at hb
      by_cases e : i = i'
      · rw [if_pos e] at hb
        refine ⟨List.mem_append_right _ (k3 b hb), fun hv => hqg b hb ?_⟩
        have : some b = some g := hv.symm.trans hg
        exact Option.some.inj this
      · rw [if_neg e] at hb
        exact ⟨List.mem_append_left _ (h4 i' b hi' hb).1, (h4 i' b hi' hb).2⟩
    · rw [List.length_set] at hi' hj'
      rw [updI_same] at hb ⊢
      rw [hrow i' hi'] at hb
      rw [hrow j' hj']
      by_cases e : i = i'
      · rw [if_pos e] at hb
        rw [if_neg (fun e' => hij (e.symm.trans e'))]
        exact fun hb' => hR.disj q key _ _ b hne hq hk (k3 b hb) (h4 j' b hj' hb').1
      · rw [if_neg e] at hb
        by_cases e' : i = j'
        · rw [if_pos e']
          exact fun hb' => hR.disj q key _ _ b hne hq hk (k3 b hb') (h4 i' b hi' hb).1
        · rw [if_neg e']
          exact h5 i' j' b hij hi' hj' hb

theorem RelR.storeMixRow (hΓ : Γ.Ok) (hR : RelR w0 F ρ s w) {key q : Nat} {E E2 : TypeId} {t : Ty} {l : List (Bool × List (Den Γ t))} (hk : s key = .live (.mix E E2 t l)) {i : Nat} (hi : i < l.length) {z : List (Den Γ t)} (hq : s q = .live (.arr E2 t z)) (hne : q ≠ key)
    {g : Nat} (hg : (ρ key).val.ownBlock = some g) :
    ∃ cur : Array Value, w.heap[g]? = some (.cells cur E (0, 0)) ∧ i + 1 ≤ cur.size ∧ ∃ ρ',
    Ext F ρ s w F ρ' (updR (updR s q .dead) key (.live (.mix E E2 t (l.set i (true, z))))) (w.setRow g (cur.toList.take i ++ [(ρ q).val] ++ cur.toList.drop (i + 1)).toArray) ∧
    RelR w0 F ρ' (updR (updR s q .dead) key (.live (.mix E E2 t (l.set i (true, z))))) (w.setRow g (cur.toList.take i ++ [(ρ q).val] ++ cur.toList.drop (i + 1)).toArray) := by
  obtain ⟨rows, h1, h2, h2', h3, h4, h5⟩ := hR.res key _ hk
  obtain ⟨xs, k1, k2, k3⟩ := hR.res q _ hq
  obtain ⟨x1, R1⟩ := hR.drop hq false
  rw [or_false_and] at x1 R1
  have hrl : rows.length = l.length := by rw [h1.1, Nat.mul_one]
  obtain ⟨cur, c1, c2, c3⟩ := ownsRow_store (o := i) (vs := [(ρ q).val]) h1 hg (by rw [hrl]; exact hi)
  refine ⟨cur, c1, c2, ?_⟩
  have hk1 : updR s q .dead key = .live (.mix E E2 t l) := by rw [updR_other (Ne.symm hne)]; exact hk
  have hgb : g ∈ (ρ key).bl := h3 g hg
  have hqg : ∀ b, (ρ q).val.ownBlock = some b → b ≠ g := fun b hb e => hR.disj q key _ _ b hne hq hk (k3 b hb) (e ▸ hgb)
  suffices hset : Ext F ρ (updR s q .dead) w F (updI ρ key ⟨(ρ key).blk, (ρ key).val, (ρ key).rows, (ρ key).bl ++ (ρ q).bl⟩) (updR (updR s q .dead) key (.live (.mix E E2 t (l.set i (true, z))))) (w.setRow g (cur.toList.take i ++ [(ρ q).val] ++ cur.toList.drop (i + 1)).toArray) ∧ RelR w0 F (updI ρ key ⟨(ρ key).blk, (ρ key).val, (ρ key).rows, (ρ key).bl ++ (ρ q).bl⟩) (updR (updR s q .dead) key (.live (.mix E E2 t (l.set i (true, z))))) (w.setRow g (cur.toList.take i ++ [(ρ q).val] ++ cur.toList.drop (i + 1)).toArray) from ⟨_, x1.trans hset.1, hset.2⟩
  refine R1.set (w' := w.setRow g (cur.toList.take i ++ [(ρ q).val] ++ cur.toList.drop (i + 1)).toArray) key ⟨(ρ key).blk, (ρ key).val, (ρ key).rows, (ρ key).bl ++ (ρ q).bl⟩ (.mix E E2 t (l.set i (true, z)))
    (.inr ⟨_, hk1, rfl, rfl, ⟨by simp [Res.len], rfl, fun _ _ _ _ _ h => by cases h⟩⟩) (by simp) ⟨rfl, rfl, rfl⟩ (fun b _ hb => setRow_other w g b _ (fun e => hb (List.mem_append_left _ (e ▸ hgb)))) (fun b hb => ?_) (fun x => ?_)
  · rcases List.mem_append.1 hb with hb | hb
    · exact R1.free_own hk1 hb (by simp)
    · obtain ⟨a1, a2, a3⟩ := hR.own q _ b hq hb
      refine ⟨a1, a2, by simpa using a3, fun k' r' hk' hl hb' => ?_⟩
      by_cases e : k' = q
      · subst e; rw [updR_same] at hl; cases hl
      · rw [updR_other e] at hl
        exact hR.disj q k' _ r' b (Ne.symm e) hq hl hb hb'
  · have esp := set_eq_splice rows i (ρ q).val (by rw [hrl]; exact hi)
    have hrow : ∀ i', i' < l.length → (rows.set i (ρ q).val).getD i' undef = if i = i' then (ρ q).val else rows.getD i' undef := by
      intro i' hi'
      simp only [List.getD_eq_getElem?_getD, List.getElem?_set]
      by_cases e : i = i'
      · subst e; simp [hrl, hi]
      · simp [e]
    have hlg : ∀ i', i' < l.length → (l.set i (true, z)).getD i' (false, []) = if i = i' then (true, z) else l.getD i' (false, []) := by
      intro i' hi'
      simp only [List.getD_eq_getElem?_getD, List.getElem?_set]
      by_cases e : i = i'
      · subst e; simp [hi]
      · simp [e]
    refine ⟨rows.set i (ρ q).val, ?_, fun i' hi' hf => ?_, fun i' hi' hf => ?_, ?_, fun i' b hi' hf hb => ?_, fun i' j' b hij hi' hj' hf hf' hb => ?_⟩
    · rw [updI_same, List.length_set]
      have c3' := c3
      simp only [List.length_singleton] at c3'
      rw [esp] at c3'
      exact c3'
    · rw [List.length_set] at hi'
      rw [hlg i' hi'] at hf ⊢
      rw [hrow i' hi']
      by_cases e : i = i'
      · rw [if_pos e, if_pos e]
        exact ⟨xs, ownsRow_move k1 fun b hb => setRow_other w g b _ (hqg b hb), k2.mono x.keeps x.sub⟩
      · rw [if_neg e] at hf
        obtain ⟨ys', y1, y2⟩ := h2 i' hi' hf
        rw [if_neg e, if_neg e]
        exact ⟨ys', ownsRow_move y1 fun b hb => setRow_other w g b _ (fun eb => (h4 i' b hi' hf hb).2 (by rw [eb]; exact hg)), y2.mono x.keeps x.sub⟩
    · rw [List.length_set] at hi'
      rw [hlg i' hi'] at hf ⊢
      rw [hrow i' hi']
      by_cases e : i = i'
      · rw [if_pos e] at hf; cases hf
      · rw [if_neg e] at hf
        rw [if_neg e, if_neg e]
        exact (h2' i' hi' hf).mono x.keeps x.sub
    · rw [updI_same]
      exact fun b hb => List.mem_append_left _ (h3 b hb)
    · rw [List.length_set] at hi'
      rw [updI_same]
      rw [hlg i' hi'] at hf
      rw [hrow i' hi'] at hb
      by_cases e : i = i'
      · rw [if_pos e] at hb
        refine ⟨List.mem_append_right _ (k3 b hb), fun hv => hqg b hb ?_⟩
        have : some b = some g := hv.symm.trans hg
        exact Option.some.inj this
      · rw [if_neg e] at hb hf
        exact ⟨List.mem_append_left _ (h4 i' b hi' hf hb).1, (h4 i' b hi' hf hb).2⟩
    · rw [List.length_set] at hi' hj'
      rw [hlg i' hi'] at hf
      rw [hlg j' hj'] at hf'
      rw [hrow i' hi'] at hb
      rw [hrow j' hj']
      by_cases e : i = i'
      · rw [if_pos e] at hb
        have e' : ¬ i = j' := fun e' => hij (e.symm.trans e')
        rw [if_neg e'] at hf' ⊢
        exact fun hb' => hR.disj q key _ _ b hne hq hk (k3 b hb) (h4 j' b hj' hf' hb').1
      · rw [if_neg e] at hb hf
        by_cases e' : i = j'
        · rw [if_pos e']
          exact fun hb' => hR.disj q key _ _ b hne hq hk (k3 b hb') (h4 i' b hi' hf hb).1
        · rw [if_neg e'] at hf' ⊢
          exact h5 i' j' b hij hi' hj' hf hf' hb

/-- Several resources are given up for good: their blocks are never written again. -/
theorem RelR.dropAll : ∀ (ks : List Nat) {F : Nat → Prop} {s : Nat → RStat Γ}, RelR w0 F ρ s w → (∀ k ∈ ks, ∃ r, s k = .live r) → ks.Nodup →
    Ext F ρ s w (U F ρ ks) ρ (apply s (ks.map fun k => (k, .dead))) w ∧ RelR w0 (U F ρ ks) ρ (apply s (ks.map fun k => (k, .dead))) w
  | [], F, s, hR, _, _ => by
    have e : U F ρ [] = F := by funext b; simp [U]
    rw [e]
    exact ⟨Ext.refl _ _ _ _, hR⟩
  | k :: ks, F, s, hR, hl, hn => by
    obtain ⟨r, hr⟩ := hl k List.mem_cons_self
    obtain ⟨x1, R1⟩ := hR.drop hr true
    have hn' := List.nodup_cons.1 hn
    obtain ⟨x2, R2⟩ := RelR.dropAll ks R1 (fun k' hk' => by
      obtain ⟨r', hr'⟩ := hl k' (List.mem_cons_of_mem _ hk')
      have hkk : k' ≠ k := fun e => hn'.1 (by rw [← e]; exact hk')
      exact ⟨r', by rw [updR_other hkk]; exact hr'⟩) hn'.2
    have e : U (fun b => F b ∨ true = true ∧ b ∈ (ρ k).bl) ρ ks = U F ρ (k :: ks) := by
      funext b
      simp only [U, List.mem_cons, exists_eq_or_imp, true_and]
      apply propext
      constructor
      · rintro ((h | h) | h)
        · exact .inl h
        · exact .inr (.inl h)
        · exact .inr (.inr h)
      · rintro (h | h | h)
        · exact .inl (.inl h)
        · exact .inl (.inr h)
        · exact .inr h
    rw [e] at x2 R2
    exact ⟨x1.trans x2, R2⟩

theorem apply_append (s : Nat → RStat Γ) : ∀ (a b : List (Nat × RStat Γ)), apply s (a ++ b) = apply (apply s a) b
  | [], b => rfl
  | (k, x) :: a, b => apply_append (updR s k x) a b

theorem apply_other : ∀ (up : List (Nat × RStat Γ)) (s : Nat → RStat Γ) (k : Nat), (∀ p ∈ up, p.1 ≠ k) → apply s up k = s k
  | [], s, k, _ => rfl
  | (q, x) :: up, s, k, h => by
    show apply (updR s q x) up k = s k
    rw [apply_other up _ k (fun p hp => h p (List.mem_cons_of_mem _ hp)), updR_other (Ne.symm (h (q, x) List.mem_cons_self))]
end rel

end Go.Vs
