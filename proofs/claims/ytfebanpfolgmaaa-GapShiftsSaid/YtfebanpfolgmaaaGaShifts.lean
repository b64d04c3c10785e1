/- Whatever the input, GapShifts returns true and leaves its arguments as they were: for every input, with no condition. -/
import Derived.Test.YtfebanpfolgmaaaGaR
import Derived.Test.YtfebanpfolgmaaaGaLd
namespace Go.Proofs.Ytfebanpfolgmaaa
set_option linter.unusedVariables false
open Go.Proofs Go.RowKit Go.ChangeShapes Go.WideShapes Go.Vs Go.Vs.Ga

set_option maxRecDepth 100000 in
theorem gapShifts_lifted (os : Os) (started : os.Started) (H : Type) (enc : TypeId × Value → H) :
    ReturnsInHanded {} Try.checked os 5 .any (Rows.gapShiftsSpec.pre6 enc Try.prog Try.f5 Rows.gapShiftsRow.domain false) (Rows.gapShiftsSpec.post enc Try.prog Try.f5 false true false false) := by
  refine returnsInHanded_of_change (C := Try.checked) own started (by kernel_rfl) Try.func5
    (ChangeSpec.witness6 (enc := enc) (C := Try.checked) false ⟨#[], #[.int .u8 0, .slice none 0 0, .slice none 0 0], []⟩ 8 (by kernel_rfl) (by kernel_rfl) (by kernel_rfl) (by kernel_rfl)) ?_
  intro W base args ds gs before hval0 hW hcnd _
  have hval : ∀ (j : Nat) t v, Try.f5.params[j]? = some t → args[j]? = some v → Value.okWide Try.prog W .any base t v := hval0
  have hW' := hW
  obtain ⟨p, q, hA0, hV, rfl, hfz, hnd⟩ := hW
  have hA : DataW.TrodAll enc Try.prog W 0 (fun _ => true) true [5, 25, 26] args.toList ds p := hA0
  obtain ⟨v0, vs0, d0, ds0, p0, q0, hargs, rfl, rfl, h0, r0⟩ := trodAll_cons hA
  obtain ⟨v1, vs1, d1, ds1, p1, q1, rfl, rfl, rfl, h1, r1⟩ := trodAll_cons r0
  obtain ⟨v2, vs2, d2, ds2, p2, q2, rfl, rfl, rfl, h2, r2⟩ := trodAll_cons r1
  obtain ⟨rfl, rfl, rfl⟩ := trodAll_nil r2
  obtain rfl : args = #[v0, v1, v2] := by rw [← hargs]
  obtain ⟨rfl, rfl⟩ := trodVars_none hV
  obtain ⟨x0, hx0, ox0⟩ := val_u8 (hval 0 5 v0 rfl rfl) h0
  obtain ⟨x1, hx1, ox1⟩ := val_ints Try.underlying25 Try.underlying21 co21 (hval 1 25 v1 rfl rfl) h1
  obtain ⟨x2, hx2, ox2⟩ := val_ints Try.underlying26 Try.underlying5 co5 (hval 2 26 v2 rfl rfl) h2
  have hc := c5 (x0, x1, x2, ()) (true, ()) (law5 ox0.1 ox0.2 (fun n hn => wf_i32 (ox1 n hn)) (fun n hn => wf_u8 (ox2 n hn))) (Old W) W [v0, v1, v2] 0 RI.none (fun b hb => hb) (fun h => by cases h) ⟨v0, _, rfl, hx0, v1, _, rfl, hx1, v2, _, rfl, hx2, rfl⟩
  refine hc.mono fun e W' h => ?_
  obtain ⟨v, F', rfl, hfr, vs, rfl, u, r, rfl, hu, rfl⟩ := h
  have hb : Below W.heap.size W W' := ⟨hfr.os, hfr.tape, hfr.output, hfr.size, fun k hk => hfr.block k hk (fun h => by cases h.1)⟩
  have hu' : u = .bool true := RepD.v_inv hu
  subst hu'
  refine ⟨_, rfl, law_post rfl rfl ⟨rfl, rfl, rfl⟩ (fun t ht => ?_) hW' hb⟩
  have ht' : t ∈ [5, 25, 26] := ht
  simp only [List.mem_cons, List.not_mem_nil, or_false] at ht'
  rcases ht' with rfl | rfl | rfl <;> exact ⟨by kernel_rfl, by decide +kernel⟩

theorem gapShifts_holds : Rows.GapShiftsSaid :=
  OpenClaim.holds_of_wide 5 Try.f5 rfl rfl rfl rfl rfl rfl rfl ⟨rfl, rfl, rfl, rfl, rfl⟩ rfl rfl rfl rfl rfl (by kernel_rfl) Try.func5 (by kernel_rfl)
    (of_decide_eq_true (by kernel_rfl)) (by unfold Func.isWrapper; first | (rw [if_neg (by decide +kernel)]; exact ⟨rfl, rfl⟩) | (rw [if_pos (by decide +kernel)]; kernel_rfl))
    (fun os started H enc _ => gapShifts_lifted os started H enc)
#print axioms gapShifts_holds
end Go.Proofs.Ytfebanpfolgmaaa
