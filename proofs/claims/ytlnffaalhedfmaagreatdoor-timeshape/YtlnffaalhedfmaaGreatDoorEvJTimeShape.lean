/- Closed facts of the row of TimeShape. -/
import Derived.Test.YtlnffaalhedfmaaGreatDoorRows
import Derived.JoinedCond
namespace Go.Proofs.YtlnffaalhedfmaaGreatDoor
theorem timeShape_c1 : Tryz.pinned.checked.prog.funcNamed Rows.timeShapeRow.func = some 5 := by kernel_rfl
theorem timeShape_c3 : Tryz.f5.isInstance Tryz.pinned.checked.prog Rows.timeShapeRow.origin Rows.timeShapeRow.targs := of_decide_eq_true (by kernel_rfl)
theorem timeShape_c4 : Tryz.f5.isWrapper Tryz.pinned.checked.prog Rows.timeShapeRow.wrapper Rows.timeShapeRow.mainSum := by unfold Func.isWrapper; first | (rw [if_pos (by decide +kernel)]; kernel_rfl) | (rw [if_neg (by decide +kernel)]; exact ⟨rfl, rfl⟩)
set_option maxHeartbeats 4000000 in
theorem timeShape_c2 : joinedFacts Tryz.pinned.checked.prog 5 Tryz.f5 (OpenSpec.ofChange Rows.timeShapeSpec).bare Rows.timeShapeRow = true := by
  unfold joinedFacts
  simp only [Bool.and_eq_true]
  repeat' apply And.intro
  all_goals (as_aux_lemma => kernel_rfl)
end Go.Proofs.YtlnffaalhedfmaaGreatDoor
