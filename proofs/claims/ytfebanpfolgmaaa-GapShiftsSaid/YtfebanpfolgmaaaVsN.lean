/- The evaluator's fourteenth part: append on slices whose arrays are owned with them. -/
import Derived.Test.YtfebanpfolgmaaaVsM
namespace Go.Vs
set_option linter.unusedVariables false
set_option linter.unusedSimpArgs false
open Go.RowKit

variable {Γ : Env}

section ops
variable {R : Type} (P : Program) (ti : TypeId → Option (TI Γ)) (ev : Operand → AV Γ) (s : Nat → RStat Γ) (o : Oper)

theorem row_one {w : World} {E : TypeId} {sz n : Nat} {v : Value} {xs : List Value} (h : w.ownsRow 0 E sz v n xs) : v.oneCell' = true := by
  rcases ownsRow_nilOrBlock h with ⟨e, _⟩ | ⟨g, cap, e, _⟩ <;> rw [e] <;> rfl

theorem mat_rows {w0 : Base} {w : World} {F : Nat → Prop} {ρ : Nat → RI} {s : Nat → RStat Γ} (hR : RelR w0 F ρ s w) {j : Nat} {E E2 : TypeId} {t : Ty} {l : List (List (Den Γ t))} {m : Nat} (hj : s j = .live (.mat E E2 t l m)) :
    (ρ j).rows.length = l.length ∧ ∀ u ∈ (ρ j).rows, u.oneCell' = true := by
  obtain ⟨h1, h2, _⟩ := hR.res j _ hj
  have hl : (ρ j).rows.length = l.length := h1.1.trans (Nat.mul_one _)
  refine ⟨hl, fun u hu => ?_⟩
  obtain ⟨i, hi, rfl⟩ := List.getElem_of_mem hu
  obtain ⟨ys, g1, _⟩ := h2 i (by omega)
  have e : (ρ j).rows.getD i undef = (ρ j).rows[i] := by rw [List.getD_eq_getElem?_getD, List.getElem?_eq_getElem hi]; rfl
  rw [e] at g1
  exact row_one g1

theorem mat_src {w0 : Base} {w : World} {F : Nat → Prop} {ρ : Nat → RI} {s : Nat → RStat Γ} (hR : RelR w0 F ρ s w) {j : Nat} {E E2 : TypeId} {t : Ty} {l : List (List (Den Γ t))} {m : Nat} (hj : s j = .live (.mat E E2 t l m)) :
    ((ρ j).val = .slice none 0 0 ∧ l = []) ∨ ∃ (a : Addr) (cap : Nat), (ρ j).val = .slice (some a) l.length cap ∧ (∀ i u, (ρ j).rows[i]? = some u → w.cell? (a.add i) = some u) := by
  obtain ⟨h1, h2, _⟩ := hR.res j _ hj
  rcases ownsRow_nilOrBlock h1 with ⟨e, hn⟩ | ⟨g, cap, e, hn, hm⟩
  · exact .inl ⟨e, List.eq_nil_of_length_eq_zero hn⟩
  · refine .inr ⟨⟨g, 0, none⟩, cap, e, fun i u hi => ?_⟩
    have hlt := (List.getElem?_eq_some_iff.1 hi).1
    rw [add_zero_lit, Nat.zero_add, ownsRow_cell h1 (by rw [e]; rfl) hlt, List.getD_eq_getElem?_getD, hi]
    rfl

theorem getD_append {α : Type} (a b : List α) (i : Nat) (d : α) : (a ++ b).getD i d = if i < a.length then a.getD i d else b.getD (i - a.length) d := by
  simp only [List.getD_eq_getElem?_getD, List.getElem?_append]
  split <;> rfl

theorem vAppendMat_sound (hΓ : Γ.Ok) (hti : TIOk P ti) (args : Array Operand) (tys : Array TypeId) (key : Nat) (ho : o.op = .call { callee := .builtin .append, args := args, argTypes := tys }) : Goal P ev s o (vAppendMat (R := R) ti ev s args tys key) := by
  intro k r h
  unfold vAppendMat at h
  split at h
  · rename_i x y T T2 hargs htys
    have hargs' : args = #[x, y] := by rw [← hargs]
    have htys' : tys = #[T, T2] := by rw [← htys]
    split at h
    · rename_i E cx j hT hx hy
      split at h
      · rename_i inf E2 hE hE2
        split at h
        · rename_i E' E2' t2 l2 m2 hj
          split at h
          · rename_i q
            split at h
            · rename_i E'' E2'' t l m hq
              split at h
              · rename_i l2' hl2
                split at h
                · rename_i hcond
                  obtain ⟨rfl, rfl, rfl, rfl, rfl, hnever, helem, hqj, hqk, hjk⟩ := hcond
                  obtain ⟨hb, h⟩ := chk_some h
                  simp only [Bool.and_eq_true, decide_eq_true_eq, room] at hb
                  obtain ⟨h63, hroom⟩ := hb
                  have hl2s := asTy_some hl2
                  obtain rfl : t2 = t := by injection hl2s with e _; injection e with e; injection e
                  obtain rfl : l2 = l2' := by injection hl2s
                  obtain ⟨f, z, hf, hz, hfs, hfb, hzsz, hpos⟩ := elemOk_spec P hti hE helem
                  refine ⟨_, _, _, h, fun s2 hs w0 F ρ ac w hR hop next Q hnext => ?_⟩
                  have hk : s2 key = .never := by rw [hs key List.mem_cons_self]; exact isNever_spec hnever
                  have hq2 : s2 q = .live (.mat E'' E2'' t2 l m) := by rw [hs q (List.mem_cons_of_mem _ List.mem_cons_self)]; exact hq
                  have hj2 : s2 j = .live (.mat E'' E2'' t2 l2 m2) := by rw [hs j (List.mem_cons_of_mem _ (List.mem_cons_of_mem _ List.mem_cons_self))]; exact hj
                  have h1 := hop x (by simp [ho, Op.operands, Call.operands, hargs'])
                  have h2 := hop y (by simp [ho, Op.operands, Call.operands, hargs'])
                  rw [hx] at h1
                  rw [hy] at h2
                  have hxv : ac.eval x = (ρ q).val := h1.2
                  have hyv : ac.eval y = (ρ j).val := h2.2
                  obtain ⟨a1, a2, a3, a4, a5⟩ := hR.res q _ hq2
                  obtain ⟨b1, b2, b3, b4, b5⟩ := hR.res j _ hj2
                  obtain ⟨hqrl, hqone⟩ := mat_rows hR hq2
                  obtain ⟨hjrl, hjone⟩ := mat_rows hR hj2
                  obtain ⟨x1, R1⟩ := hR.drop hq2 false
                  rw [or_false_and] at x1 R1
                  have hj3 : updR s2 q .dead j = .live (.mat E'' E2'' t2 l2 m2) := by rw [updR_other (Ne.symm hqj)]; exact hj2
                  obtain ⟨x2, R2⟩ := R1.drop hj3 false
                  rw [or_false_and] at x2 R2
                  have hlive : ∀ {k' r'}, updR (updR s2 q .dead) j .dead k' = .live r' → k' ≠ q ∧ k' ≠ j ∧ s2 k' = .live r' := by
                    intro k' r' hl
                    by_cases e : k' = j
                    · subst e; rw [updR_same] at hl; cases hl
                    · rw [updR_other e] at hl
                      by_cases e' : k' = q
                      · subst e'; rw [updR_same] at hl; cases hl
                      · rw [updR_other e'] at hl; exact ⟨e', e, hl⟩
                  have hk2 : updR (updR s2 q .dead) j .dead key = .never := by rw [updR_other (Ne.symm hjk), updR_other (Ne.symm hqk)]; exact hk
                  have hfq : ∀ b ∈ (ρ q).bl, Free w0 F ρ (updR (updR s2 q .dead) j .dead) key w b := fun b hb => by
                    obtain ⟨c1, c2, c3⟩ := hR.own q _ b hq2 hb
                    exact ⟨c1, c2, c3, fun k' r' _ hl => hR.disj q k' _ r' b (Ne.symm (hlive hl).1) hq2 (hlive hl).2.2 hb⟩
                  have hfj : ∀ b ∈ (ρ j).bl, Free w0 F ρ (updR (updR s2 q .dead) j .dead) key w b := fun b hb => by
                    obtain ⟨c1, c2, c3⟩ := hR.own j _ b hj2 hb
                    exact ⟨c1, c2, c3, fun k' r' _ hl => hR.disj j k' _ r' b (Ne.symm (hlive hl).2.1) hj2 (hlive hl).2.2 hb⟩
                  have hlen : (List.append l l2).length = l.length + l2.length := List.length_append
                  have hgl : ∀ i, (List.append l l2).getD i [] = if i < l.length then l.getD i [] else l2.getD (i - l.length) [] := fun i => getD_append l l2 i []
                  have hgr : ∀ i, ((ρ q).rows ++ (ρ j).rows).getD i undef = if i < l.length then (ρ q).rows.getD i undef else (ρ j).rows.getD (i - l.length) undef := fun i => by rw [getD_append, hqrl]
                  have fin : ∀ v' w', w'.ownsRow 0 E'' 1 v' (List.append l l2).length ((ρ q).rows ++ (ρ j).rows) → w.grownBy w' (ρ q).val.ownBlock → (v'.ownBlock = (ρ q).val.ownBlock ∨ v'.ownBlock = some w.heap.size) → (execOp ac.eval o).run P w = .ok (.value v') w' → o.wp P ac w next Q := by
                    intro v' w' q1 q2 q4 hrun
                    obtain ⟨x3, R3⟩ := R2.appMat hk2 (E2 := E2'') (t := t2) (l := List.append l l2) (v := (ρ q).val) (v' := v') (rows := (ρ q).rows ++ (ρ j).rows) ((ρ q).bl ++ (ρ j).bl) (fun b hb => hfq b (a3 b hb)) q1 q2 q4
                      (fun i hi => by
                        rw [hgl, hgr]
                        by_cases e : i < l.length
                        · rw [if_pos e, if_pos e]; exact a2 i e
                        · rw [if_neg e, if_neg e]; exact b2 (i - l.length) (by rw [hlen] at hi; omega))
                      (fun i b hi hb => by
                        rw [hgr] at hb
                        by_cases e : i < l.length
                        · rw [if_pos e] at hb; exact ⟨List.mem_append_left _ (a4 i b e hb).1, (a4 i b e hb).2⟩
                        · rw [if_neg e] at hb
                          have hi' : i - l.length < l2.length := by rw [hlen] at hi; omega
                          have := (b4 _ b hi' hb).1
                          exact ⟨List.mem_append_right _ this, fun e2 => hR.disj q j _ _ b hqj hq2 hj2 (a3 b e2) this⟩)
                      (fun i i' b hne hi hi' hb => by
                        rw [hgr] at hb ⊢
                        by_cases e : i < l.length
                        · rw [if_pos e] at hb
                          by_cases e' : i' < l.length
                          · rw [if_pos e']; exact a5 i i' b hne e e' hb
                          · rw [if_neg e']
                            have hi2 : i' - l.length < l2.length := by rw [hlen] at hi'; omega
                            exact fun hb' => hR.disj q j _ _ b hqj hq2 hj2 (a4 i b e hb).1 (b4 _ b hi2 hb').1
                        · rw [if_neg e] at hb
                          have hi1 : i - l.length < l2.length := by rw [hlen] at hi; omega
                          by_cases e' : i' < l.length
                          · rw [if_pos e']
                            exact fun hb' => hR.disj q j _ _ b hqj hq2 hj2 (a4 i' b e' hb').1 (b4 _ b hi1 hb).1
                          · rw [if_neg e']
                            have hi2 : i' - l.length < l2.length := by rw [hlen] at hi'; omega
                            exact b5 _ _ b (by omega) hi1 hi2 hb)
                      (fun b hb => by
                        rcases List.mem_append.1 hb with hb | hb
                        · exact hfq b hb
                        · exact hfj b hb)
                    unfold Oper.wp
                    rw [hrun]
                    exact hnext _ _ F _ ⟨(x1.trans x2).trans x3, R3, by simp [apply, updR_same], by rw [updI_same]⟩
                  obtain ⟨cs, hcs⟩ := call_builtin P o ac _ args tys ho
                  rcases mat_src hR hj2 with ⟨hv, hl0⟩ | ⟨ad, cap, hv, hncell⟩
                  · have hr0 : (ρ j).rows = [] := List.eq_nil_of_length_eq_zero (by rw [hjrl, hl0]; rfl)
                    refine fin (ρ q).val w (by rw [hr0, hl0]; simpa using a1) ⟨rfl, rfl, rfl, Nat.le_refl _, fun _ _ _ => rfl⟩ (.inl rfl) ?_
                    rw [hcs]
                    have := run_append_owned_none (P := P) (w := w) 0 T2 o.type E'' f 1 (sliceAt?_spec P hti hT) hf (ρ q).val l.length (ρ q).rows a1
                    simp [hargs', htys', hxv, hyv, hv, builtin, this]
                  · have hby : (l.length + l2.length) * inf.bytes ≤ 140737488355328 := by
                      have : ((inf.bytes * (l.length + l2.length) : Nat) : Int) ≤ 140737488355328 := by rw [Int.natCast_mul]; exact hroom
                      rw [Nat.mul_comm]; omega
                    obtain ⟨v', w', hr, q1, q2, q3, q4⟩ := run_append_own_at (P := P) w 0 T2 o.type E'' f z 1 inf.bytes (sliceAt?_spec P hti hT) hf hz hfs hfb hzsz Nat.one_pos (ρ q).val l.length (ρ q).rows a1 ad l2.length cap (ρ j).rows (by rw [hjrl, Nat.mul_one]) hncell hjone (by simp only [maxLen]; omega) hby (Nat.zero_le _)
                    refine fin v' w' (by rw [hlen]; exact q1) q2 q4 ?_
                    rw [hcs]
                    simp [hargs', htys', hxv, hyv, hv, builtin, hr]
                · cases h
              · cases h
            · cases h
          · rename_i t0
            split at h
            · rename_i hcond
              obtain ⟨rfl, rfl, rfl, hnever, helem, hjk⟩ := hcond
              obtain ⟨hb, h⟩ := chk_some h
              simp only [Bool.and_eq_true, decide_eq_true_eq, room] at hb
              obtain ⟨h63, hroom⟩ := hb
              obtain ⟨f, z, hf, hz, hfs, hfb, hzsz, hpos⟩ := elemOk_spec P hti hE helem
              refine ⟨_, _, _, h, fun s2 hs w0 F ρ ac w hR hop next Q hnext => ?_⟩
              have hk : s2 key = .never := by rw [hs key List.mem_cons_self]; exact isNever_spec hnever
              have hj2 : s2 j = .live (.mat E' E2' t2 l2 m2) := by rw [hs j (List.mem_cons_of_mem _ List.mem_cons_self)]; exact hj
              have h1 := hop x (by simp [ho, Op.operands, Call.operands, hargs'])
              have h2 := hop y (by simp [ho, Op.operands, Call.operands, hargs'])
              rw [hx] at h1
              rw [hy] at h2
              have hxv : ac.eval x = .slice none 0 0 := h1
              have hyv : ac.eval y = (ρ j).val := h2.2
              obtain ⟨b1, b2, b3, b4, b5⟩ := hR.res j _ hj2
              obtain ⟨hjrl, hjone⟩ := mat_rows hR hj2
              obtain ⟨x2, R2⟩ := hR.drop hj2 false
              rw [or_false_and] at x2 R2
              have hlive : ∀ {k' r'}, updR s2 j .dead k' = .live r' → k' ≠ j ∧ s2 k' = .live r' := by
                intro k' r' hl
                by_cases e : k' = j
                · subst e; rw [updR_same] at hl; cases hl
                · rw [updR_other e] at hl; exact ⟨e, hl⟩
              have hk2 : updR s2 j .dead key = .never := by rw [updR_other (Ne.symm hjk)]; exact hk
              have hfj : ∀ b ∈ (ρ j).bl, Free w0 F ρ (updR s2 j .dead) key w b := fun b hb => by
                obtain ⟨c1, c2, c3⟩ := hR.own j _ b hj2 hb
                exact ⟨c1, c2, c3, fun k' r' _ hl => hR.disj j k' _ r' b (Ne.symm (hlive hl).1) hj2 (hlive hl).2 hb⟩
              have fin : ∀ v' w', w'.ownsRow 0 E' 1 v' l2.length (ρ j).rows → w.grownBy w' (Value.slice none 0 0).ownBlock → (v'.ownBlock = (Value.slice none 0 0).ownBlock ∨ v'.ownBlock = some w.heap.size) → (execOp ac.eval o).run P w = .ok (.value v') w' → o.wp P ac w next Q := by
                intro v' w' q1 q2 q4 hrun
                obtain ⟨x3, R3⟩ := R2.appMat hk2 (E2 := E2') (t := t2) (l := l2) (v := Value.slice none 0 0) (v' := v') (rows := (ρ j).rows) ((ρ j).bl) (fun b hb => by cases hb) q1 q2 q4 (fun i hi => b2 i hi)
                  (fun i b hi hb => ⟨(b4 i b hi hb).1, fun e => by cases e⟩) (fun i i' b hne hi hi' hb => b5 i i' b hne hi hi' hb) hfj
                unfold Oper.wp
                rw [hrun]
                exact hnext _ _ F _ ⟨x2.trans x3, R3, by simp [apply, updR_same], by rw [updI_same]⟩
              obtain ⟨cs, hcs⟩ := call_builtin P o ac _ args tys ho
              have hnilrow := World.ownsRow_nil w 0 E' 1
              rcases mat_src hR hj2 with ⟨hv, hl0⟩ | ⟨ad, cap, hv, hncell⟩
              · have hr0 : (ρ j).rows = [] := List.eq_nil_of_length_eq_zero (by rw [hjrl, hl0]; rfl)
                refine fin (.slice none 0 0) w (by rw [hr0, hl0]; exact hnilrow) ⟨rfl, rfl, rfl, Nat.le_refl _, fun _ _ _ => rfl⟩ (.inl rfl) ?_
                rw [hcs]
                have := run_append_owned_none (P := P) (w := w) 0 T2 o.type E' f 1 (sliceAt?_spec P hti hT) hf (.slice none 0 0) 0 [] hnilrow
                simp [hargs', htys', hxv, hyv, hv, builtin, this]
              · have hby : (0 + l2.length) * inf.bytes ≤ 140737488355328 := by
                  have : ((inf.bytes * l2.length : Nat) : Int) ≤ 140737488355328 := by rw [Int.natCast_mul]; exact hroom
                  rw [Nat.zero_add, Nat.mul_comm]; omega
                obtain ⟨v', w', hr, q1, q2, q3, q4⟩ := run_append_own_at (P := P) w 0 T2 o.type E' f z 1 inf.bytes (sliceAt?_spec P hti hT) hf hz hfs hfb hzsz Nat.one_pos (.slice none 0 0) 0 [] hnilrow ad l2.length cap (ρ j).rows (by rw [hjrl, Nat.mul_one]) hncell hjone (by simp only [maxLen]; omega) hby (Nat.zero_le _)
                refine fin v' w' (by simpa using q1) q2 q4 ?_
                rw [hcs]
                simp [hargs', htys', hxv, hyv, hv, builtin, hr]
            · cases h
          · cases h
        · cases h
      · cases h
    · cases h
  · cases h

end ops
end Go.Vs
