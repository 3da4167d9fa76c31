/- Closed facts of the row of TreeOwn. -/
import Derived.Test.YtlnffaalhedfmaaGreatDoorRows
import Derived.JoinedCond
namespace Go.Proofs.YtlnffaalhedfmaaGreatDoor
theorem treeOwn_c1 : Tryz.pinned.checked.prog.funcNamed Rows.treeOwnRow.func = some 7 := by kernel_rfl
theorem treeOwn_c3 : Tryz.f7.isInstance Tryz.pinned.checked.prog Rows.treeOwnRow.origin Rows.treeOwnRow.targs := of_decide_eq_true (by kernel_rfl)
theorem treeOwn_c4 : Tryz.f7.isWrapper Tryz.pinned.checked.prog Rows.treeOwnRow.wrapper Rows.treeOwnRow.mainSum := by unfold Func.isWrapper; first | (rw [if_pos (by decide +kernel)]; kernel_rfl) | (rw [if_neg (by decide +kernel)]; exact ⟨rfl, rfl⟩)
set_option maxHeartbeats 4000000 in
theorem treeOwn_c2 : joinedFacts Tryz.pinned.checked.prog 7 Tryz.f7 (OpenSpec.ofChange Rows.treeOwnSpec).bare Rows.treeOwnRow = true := by
  unfold joinedFacts
  simp only [Bool.and_eq_true]
  repeat' apply And.intro
  all_goals (as_aux_lemma => kernel_rfl)
end Go.Proofs.YtlnffaalhedfmaaGreatDoor
