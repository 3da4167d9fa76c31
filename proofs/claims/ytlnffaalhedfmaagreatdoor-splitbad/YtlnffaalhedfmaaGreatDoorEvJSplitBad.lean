/- Closed facts of the row of SplitBad. -/
import Derived.Test.YtlnffaalhedfmaaGreatDoorRows
import Derived.JoinedCond
namespace Go.Proofs.YtlnffaalhedfmaaGreatDoor
theorem splitBad_c1 : Tryz.pinned.checked.prog.funcNamed Rows.splitBadRow.func = some 6 := by kernel_rfl
theorem splitBad_c3 : Tryz.f6.isInstance Tryz.pinned.checked.prog Rows.splitBadRow.origin Rows.splitBadRow.targs := of_decide_eq_true (by kernel_rfl)
theorem splitBad_c4 : Tryz.f6.isWrapper Tryz.pinned.checked.prog Rows.splitBadRow.wrapper Rows.splitBadRow.mainSum := by unfold Func.isWrapper; first | (rw [if_pos (by decide +kernel)]; kernel_rfl) | (rw [if_neg (by decide +kernel)]; exact ⟨rfl, rfl⟩)
set_option maxHeartbeats 4000000 in
theorem splitBad_c2 : joinedFacts Tryz.pinned.checked.prog 6 Tryz.f6 (OpenSpec.ofChange Rows.splitBadSpec).bare Rows.splitBadRow = true := by
  unfold joinedFacts
  simp only [Bool.and_eq_true]
  repeat' apply And.intro
  all_goals (as_aux_lemma => kernel_rfl)
end Go.Proofs.YtlnffaalhedfmaaGreatDoor
