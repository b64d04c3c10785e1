/- What the program says of its types is what the evaluator is told. -/
import Derived.Test.YtfebanpfolgmaaaGaE
namespace Go.Vs.Ga
open Go.RowKit Go.Proofs

theorem ti_ok : TIOk Try.prog ti := by
  intro T i h
  unfold ti at h
  split at h <;> first | (cases h; done) | cases h
  case h_1 => exact tiOk1 _ Try.underlying3 rfl (by kernel_rfl) rfl rfl
  case h_2 => exact tiOk1 _ Try.underlying4 rfl (by kernel_rfl) rfl rfl
  case h_3 => exact tiOk1 _ Try.underlying5 rfl (by kernel_rfl) rfl rfl
  case h_4 => exact tiOk1 _ Try.underlying21 rfl (by kernel_rfl) rfl rfl
  case h_5 => exact tiOk1 _ Try.underlying22 rfl (by kernel_rfl) rfl rfl
  case h_6 => exact tiOk1 _ Try.underlying24 ⟨_, rfl, rfl⟩ (by kernel_rfl) rfl rfl
  case h_7 => exact tiOk1 _ Try.underlying25 rfl (by kernel_rfl) rfl rfl
  case h_8 => exact tiOk1 _ Try.underlying26 rfl (by kernel_rfl) rfl rfl
  case h_9 => exact tiOk1 _ Try.underlying28 ⟨_, rfl, rfl⟩ (by kernel_rfl) rfl rfl
  case h_10 => exact tiOk1 _ Try.underlying29 rfl (by kernel_rfl) rfl rfl
  case h_11 => exact tiOk1 _ Try.underlying30 rfl (by kernel_rfl) rfl rfl
  case h_12 => exact tiOk1 _ Try.underlying32 ⟨_, rfl, rfl⟩ (by kernel_rfl) rfl rfl
  case h_13 => exact tiOk1 _ Try.underlying34 rfl (by kernel_rfl) rfl rfl
  case h_14 => exact tiOk1 _ Try.underlying40 rfl (by kernel_rfl) rfl rfl
  case h_15 => exact tiOk1 _ Try.underlying42 ⟨_, rfl, rfl⟩ (by kernel_rfl) rfl rfl
  case h_16 => exact tiOk1 _ Try.underlying49 rfl (by kernel_rfl) rfl rfl
  case h_17 => exact tiOk1 _ Try.underlying51 ⟨_, rfl, rfl⟩ (by kernel_rfl) rfl rfl
  case h_18 => exact tiOk1 _ Try.underlying71 ⟨_, rfl, rfl⟩ (by kernel_rfl) rfl rfl
  case h_19 => exact tiOk1 _ Try.underlying91 rfl (by kernel_rfl) rfl rfl

theorem ti_full : TIFull ti := by
  intro T e h
  unfold sliceAt? at h
  split at h
  · rename_i i hi
    unfold ti at hi
    split at hi <;> first | (cases hi; done) | (cases hi; simp at h; done) | (cases hi; simp at h; subst h; rfl) | skip
  · cases h

theorem mixed : Try.prog.follows .mixedOrders = true := by kernel_rfl
end Go.Vs.Ga
