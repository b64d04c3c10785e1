/- Whatever the input, GapWidens returns true and leaves its arguments as they were: for every input, with no condition. -/
import Derived.Test.YtfebanpfolgmaaaGaR
import Derived.Test.YtfebanpfolgmaaaGaW
namespace Go.Proofs.Ytfebanpfolgmaaa
set_option linter.unusedVariables false
open Go.Proofs Go.RowKit Go.ChangeShapes Go.WideShapes Go.Vs Go.Vs.Ga

set_option maxRecDepth 100000 in
theorem gapWidens_lifted (os : Os) (started : os.Started) (H : Type) (enc : TypeId × Value → H) :
    ReturnsInHanded {} Try.checked os 7 .any (Rows.gapWidensSpec.pre6 enc Try.prog Try.f7 Rows.gapWidensRow.domain false) (Rows.gapWidensSpec.post enc Try.prog Try.f7 false true false false) := by
  refine returnsInHanded_of_change (C := Try.checked) own started (by kernel_rfl) Try.func7
    (ChangeSpec.witness6 (enc := enc) (C := Try.checked) false ⟨#[], #[.agg #[.int .u8 0, .int .u8 0, .slice none 0 0], .agg #[.int .u8 0, .int .u8 0, .slice none 0 0], .agg #[.int .u8 0, .int .u8 0, .slice none 0 0]], []⟩ 8 (by kernel_rfl) (by kernel_rfl) (by kernel_rfl) (by kernel_rfl)) ?_
  intro W base args ds gs before hval0 hW hcnd _
  have hval : ∀ (j : Nat) t v, Try.f7.params[j]? = some t → args[j]? = some v → Value.okWide Try.prog W .any base t v := hval0
  have hW' := hW
  obtain ⟨p, q, hA0, hV, rfl, hfz, hnd⟩ := hW
  have hA : DataW.TrodAll enc Try.prog W 0 (fun _ => true) true [24, 24, 24] args.toList ds p := hA0
  obtain ⟨v0, vs0, d0, ds0, p0, q0, hargs, rfl, rfl, h0, r0⟩ := trodAll_cons hA
  obtain ⟨v1, vs1, d1, ds1, p1, q1, rfl, rfl, rfl, h1, r1⟩ := trodAll_cons r0
  obtain ⟨v2, vs2, d2, ds2, p2, q2, rfl, rfl, rfl, h2, r2⟩ := trodAll_cons r1
  obtain ⟨rfl, rfl, rfl⟩ := trodAll_nil r2
  obtain rfl : args = #[v0, v1, v2] := by rw [← hargs]
  obtain ⟨rfl, rfl⟩ := trodVars_none hV
  obtain ⟨x, hx, ox1, ox2⟩ := val_raw (t := 24) (hval 0 24 v0 rfl rfl) h0
  obtain ⟨y, hy, _⟩ := val_raw (t := 24) (hval 1 24 v1 rfl rfl) h1
  obtain ⟨z, hz, _⟩ := val_raw (t := 24) (hval 2 24 v2 rfl rfl) h2
  have hc := c7 (x, y, z, ()) (true, ()) (law7 ox1.1 ox1.2 ox2.1 ox2.2) (Old W) W [v0, v1, v2] 0 RI.none (fun b hb => hb) (fun h => by cases h) ⟨v0, _, rfl, hx, v1, _, rfl, hy, v2, _, rfl, hz, rfl⟩
  refine hc.mono fun e W' h => ?_
  obtain ⟨v, F', rfl, hfr, vs, rfl, u, r, rfl, hu, rfl⟩ := h
  have hb : Below W.heap.size W W' := ⟨hfr.os, hfr.tape, hfr.output, hfr.size, fun k hk => hfr.block k hk (fun h => by cases h.1)⟩
  have hu' : u = .bool true := RepD.v_inv hu
  subst hu'
  exact ⟨_, rfl, law_post rfl rfl ⟨rfl, rfl, rfl⟩ (by intro t ht; have : t = 24 := by simpa [Try.f7] using ht
                                                      subst this; exact ⟨by kernel_rfl, by decide +kernel⟩) hW' hb⟩

theorem gapWidens_holds : Rows.GapWidensSaid :=
  OpenClaim.holds_of_wide 7 Try.f7 rfl rfl rfl rfl rfl rfl rfl ⟨rfl, rfl, rfl, rfl, rfl⟩ rfl rfl rfl rfl rfl (by kernel_rfl) Try.func7 (by kernel_rfl)
    (of_decide_eq_true (by kernel_rfl)) (by unfold Func.isWrapper; first | (rw [if_neg (by decide +kernel)]; exact ⟨rfl, rfl⟩) | (rw [if_pos (by decide +kernel)]; kernel_rfl))
    (fun os started H enc _ => gapWidens_lifted os started H enc)
#print axioms gapWidens_holds
end Go.Proofs.Ytfebanpfolgmaaa
