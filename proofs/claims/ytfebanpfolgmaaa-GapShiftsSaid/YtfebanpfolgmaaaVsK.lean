/- The evaluator's eleventh part: literals of slices, make, append. -/
import Derived.Test.YtfebanpfolgmaaaVsJ
namespace Go.Vs
set_option linter.unusedVariables false
set_option linter.unusedSimpArgs false
open Go.RowKit

variable {Γ : Env}

section ops
variable {R : Type} (P : Program) (ti : TypeId → Option (TI Γ)) (ev : Operand → AV Γ) (s : Nat → RStat Γ) (o : Oper)

theorem getD_one {α : Type} (x d : α) : [x].getD 0 d = x := rfl

theorem vBuildSlice_sound (hΓ : Γ.Ok) (hti : TIOk P ti) (T : TypeId) (len : Nat) (parts : Array (Nat × Operand)) (key : Nat) (ho : o.op = .buildSlice T len parts) : Goal P ev s o (vBuildSlice (R := R) ti ev s T len parts key) := by
  intro k r h
  unfold vBuildSlice at h
  split at h
  · rename_i E hT
    split at h
    · rename_i inf hE
      split at h
      · rename_i zs t hzs hty
        split at h
        · rename_i hcond
          obtain ⟨hnever, hzl, hszt, hlim, hpos⟩ := hcond
          split at h
          · rename_i cells hcells
            -- the new block, whatever it holds
            have hrun : ∀ (s2 : Nat → RStat Γ), (∀ k ∈ key :: partsKeys (evParts ev parts.toList), s2 k = s k) → ∀ {w0 F ρ} {ac : Act} {w}, RelR w0 F ρ s2 w → (∀ x ∈ o.op.operands, ConcA F ρ s2 w (ev x) (ac.eval x)) →
                ∃ arr : Array Value, (execOp ac.eval o).run P w = .ok (.value (.slice (some ⟨w.heap.size, 0, none⟩) len len)) (w.alloc (.cells arr E)) ∧ ConcL F ρ s2 w cells arr.toList ∧ arr.size = len * inf.size := by
              intro s2 hs w0 F ρ ac w hR hop
              obtain ⟨f, z, hf, hz, hfs, hfb, hzsz, hzlist, hz0⟩ := run_zeros P hti hE hzs hzl
              obtain ⟨arr', g1, g2⟩ := fillV_spec (s2 := s2) hR hcells (arr := madeCells z.cells (len * z.cells.size)) (vparts := parts.toList.map fun q => (q.1, ac.eval q.2)) (zeros_conc hz0 hzlist len) (by simp [evParts])
                (parts_zip ev parts.toList fun p hp => hop p.2 (by
                  simp only [ho, Op.operands]
                  rw [List.mem_toArray]
                  exact List.mem_map.2 ⟨p, hp, rfl⟩)) (fun p hp k hk => hs k (List.mem_cons_of_mem _ (mem_partsKeys hp hk)))
              have g1' : Instr.fill (fun i => some (i * f.size, f.size)) (madeCells z.cells (len * z.cells.size)) ((parts.map fun q => (q.1, ac.eval q.2)).toList) = some arr' := by
                rw [Array.toList_map, hfs]
                exact g1
              have hb := run_buildSlice P hti hT hf hz (by rw [hzsz, hfs]) (len := len) (by rw [hfs]; exact hlim) g1' w
              refine ⟨arr', by simp [execOp, ho, hb], g2, ?_⟩
              have h1 : cells.length = len * inf.size := by
                have fl : ∀ (parts : List (Nat × AV Γ)) (cells out : List (CV Γ)), fillV s (fun i => some (i * inf.size, inf.size, inf.ty)) cells parts = some out → out.length = cells.length := by
                  intro parts
                  induction parts with
                  | nil => intro cells out h; cases h; rfl
                  | cons p parts ih =>
                    intro cells out h
                    unfold fillV at h
                    simp only at h
                    split at h
                    · split at h
                      · rename_i hc
                        rw [ih _ _ h]
                        simp only [spl, List.length_append, List.length_take, List.length_drop]
                        omega
                      · cases h
                    · cases h
                rw [fl _ _ _ hcells]
                simp [hzl]
              have := g2.1
              simp at this
              omega
            split at h
            · -- no elements, rows to come
              rename_i E2 t2 hE2
              refine ⟨_, _, _, h, fun s2 hs w0 F ρ ac w hR hop next Q hnext => ?_⟩
              obtain ⟨arr, hr, hcl, hasz⟩ := hrun s2 hs hR hop
              have hk : s2 key = .never := by rw [hs key List.mem_cons_self]; exact isNever_spec hnever
              obtain ⟨x, R'⟩ := hR.newMat hk E E2 (t := t2) (l := []) (arr := arr) (cap := 0) (by rw [hasz]; simp) (Nat.le_refl _) (Nat.zero_le _) [] (fun i hi => absurd hi (Nat.not_lt_zero _)) (fun i b hi => absurd hi (Nat.not_lt_zero _)) (fun i j b _ hi => absurd hi (Nat.not_lt_zero _)) (fun b hb => by cases hb)
              unfold Oper.wp
              rw [hr]
              exact hnext _ _ F _ ⟨x, R', by simp [apply, updR_same], by rw [updI_same]; rfl⟩
            · rename_i E2 t2 j hE2
              split at h
              · rename_i E3 t3 l3 hj
                split at h
                · rename_i z hz
                  split at h
                  · rename_i hc2
                    obtain ⟨rfl, hjk, hjm⟩ := hc2
                    have hz' := asTy_some hz
                    obtain rfl : t3 = t2 := by injection hz' with e _; injection e
                    obtain rfl : l3 = z := by injection hz'
                    refine ⟨_, _, _, h, fun s2 hs w0 F ρ ac w hR hop next Q hnext => ?_⟩
                    obtain ⟨arr, hr, hcl, hasz⟩ := hrun s2 hs hR hop
                    have hk : s2 key = .never := by rw [hs key List.mem_cons_self]; exact isNever_spec hnever
                    have hj2 : s2 j = .live (.arr E3 t3 l3) := by rw [hs j (List.mem_cons_of_mem _ hjm)]; exact hj
                    obtain ⟨x1, R1⟩ := hR.drop hj2 false
                    rw [or_false_and] at x1 R1
                    have hk1 : updR s2 j .dead key = .never := by rw [updR_other (Ne.symm hjk)]; exact hk
                    obtain ⟨xs, q1, q2, q3⟩ := hR.res j _ hj2
                    have hlen1 : arr.toList.length = 1 := hcl.1
                    have hel : arr.toList.getD 0 undef = (ρ j).val := (hcl.2 0 Nat.one_pos).2
                    obtain ⟨x, R'⟩ := R1.newMat hk1 E E3 (t := t3) (l := [l3]) (arr := arr) (cap := 1) (by simpa using hlen1) (Nat.le_refl _) (by simp [maxLen]) (ρ j).bl
                      (fun i hi => by
                        obtain rfl : i = 0 := by simp at hi; omega
                        rw [hel]
                        exact ⟨xs, q1, q2⟩)
                      (fun i b hi hb => by
                        obtain rfl : i = 0 := by simp at hi; omega
                        rw [hel] at hb
                        exact q3 b hb)
                      (fun i i' b hne hi hi' => by simp at hi hi'; omega)
                      (fun b hb => by
                        obtain ⟨a1, a2, a3⟩ := hR.own j _ b hj2 hb
                        refine ⟨a1, a2, a3, fun k' r' hk' hl hb' => ?_⟩
                        by_cases e : k' = j
                        · subst e; rw [updR_same] at hl; cases hl
                        · rw [updR_other e] at hl
                          exact hR.disj j k' _ r' b (Ne.symm e) hj2 hl hb hb')
                    unfold Oper.wp
                    rw [hr]
                    exact hnext _ _ F _ ⟨x1.trans x, R', by simp [apply, updR_same], by rw [updI_same]; rfl⟩
                  · cases h
                · cases h
              · cases h
            · rename_i t len cells _ _ _ _ _ _
              split at h
              · rename_i ds ks hds
                split at h
                · rename_i l hl
                  split at h
                  · rename_i hc2
                    obtain ⟨hnd, hkk, hall⟩ := hc2
                    refine ⟨_, _, _, h, fun s2 hs w0 F ρ ac w hR hop next Q hnext => ?_⟩
                    obtain ⟨arr, hr, hcl, hasz⟩ := hrun s2 hs hR hop
                    have hk : s2 key = .never := by rw [hs key List.mem_cons_self]; exact isNever_spec hnever
                    have hds2 : cvCells s2 cells = some (ds, ks) := by
                      rw [cvCells_congr (fun q hq => hs q (List.mem_cons_of_mem _ ?_))]
                      · exact hds
                      · have := List.all_eq_true.1 hall q hq
                        simpa using this
                    obtain ⟨x1, R1⟩ := hR.dropAll ks (cvCells_live hds2) hnd
                    have hk1 : apply s2 (ks.map fun k => (k, .dead)) key = .never := by rw [apply_other _ _ _ (mem_map_dead hkk)]; exact hk
                    obtain ⟨g1, g2⟩ := mkList_spec hΓ hl
                    have hrep := cvCells_spec hΓ hR hds2 hcl
                    rw [← g2, ← flatMap_encL hΓ] at hrep
                    have hmax : len ≤ maxLen := by
                      have : len * 1 ≤ len * inf.size := Nat.mul_le_mul_left _ hpos
                      simp only [maxLen]; omega
                    obtain ⟨x, R'⟩ := R1.newArr hk1 E (t := _) (l := l) (arr := arr) (cap := len) (by rw [hasz, hszt]) (by omega) hmax (by
                      have : arr.toList.take (l.length * Ty.size Γ _) = arr.toList := List.take_of_length_le (by simp; rw [hasz, g1, hszt]; exact Nat.le_refl _)
                      rw [this]
                      exact hrep)
                    unfold Oper.wp
                    rw [hr]
                    refine hnext _ _ (U F ρ ks) (updI ρ key (ownRI (.slice (some ⟨w.heap.size, 0, none⟩) l.length len) [w.heap.size])) ⟨?_, ?_, ?_, ?_⟩
                    · rw [apply_append]; exact x1.trans x
                    · rw [apply_append]; exact R'
                    · rw [apply_append]; simp [apply, updR_same]
                    · rw [updI_same, g1]; rfl
                  · cases h
                · cases h
              · cases h
          · cases h
        · cases h
      · cases h
    · cases h
  · cases h
end ops
end Go.Vs
