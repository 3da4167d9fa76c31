/- Closed facts of the row of CoreMark. -/
import Derived.Test.YtmbpjpffafidhaaGreatDoorRows
import Derived.JoinedCond
namespace Go.Proofs.YtmbpjpffafidhaaGreatDoor
theorem coreMark_c1 : Tryz.pinned.checked.prog.funcNamed Rows.coreMarkRow.func = some 9 := by kernel_rfl
theorem coreMark_c3 : Tryz.f9.isInstance Tryz.pinned.checked.prog Rows.coreMarkRow.origin Rows.coreMarkRow.targs := of_decide_eq_true (by kernel_rfl)
theorem coreMark_c4 : Tryz.f9.isWrapper Tryz.pinned.checked.prog Rows.coreMarkRow.wrapper Rows.coreMarkRow.mainSum := by unfold Func.isWrapper; first | (rw [if_pos (by decide +kernel)]; kernel_rfl) | (rw [if_neg (by decide +kernel)]; exact ⟨rfl, rfl⟩)
set_option maxHeartbeats 4000000 in
theorem coreMark_c2 : joinedFacts Tryz.pinned.checked.prog 9 Tryz.f9 (OpenSpec.ofChange Rows.coreMarkSpec).bare Rows.coreMarkRow = true := by
  unfold joinedFacts
  simp only [Bool.and_eq_true]
  repeat' apply And.intro
  all_goals (as_aux_lemma => kernel_rfl)
end Go.Proofs.YtmbpjpffafidhaaGreatDoor
