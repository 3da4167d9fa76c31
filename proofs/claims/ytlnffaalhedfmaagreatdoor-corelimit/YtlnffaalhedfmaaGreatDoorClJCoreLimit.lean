/- Closed facts of the row of CoreLimit. -/
import Derived.Test.YtlnffaalhedfmaaGreatDoorRows
import Derived.JoinedCond
namespace Go.Proofs.YtlnffaalhedfmaaGreatDoor
theorem coreLimit_c1 : Tryz.pinned.checked.prog.funcNamed Rows.coreLimitRow.func = some 4 := by kernel_rfl
theorem coreLimit_c3 : Tryz.f4.isInstance Tryz.pinned.checked.prog Rows.coreLimitRow.origin Rows.coreLimitRow.targs := of_decide_eq_true (by kernel_rfl)
theorem coreLimit_c4 : Tryz.f4.isWrapper Tryz.pinned.checked.prog Rows.coreLimitRow.wrapper Rows.coreLimitRow.mainSum := by unfold Func.isWrapper; first | (rw [if_pos (by decide +kernel)]; kernel_rfl) | (rw [if_neg (by decide +kernel)]; exact ⟨rfl, rfl⟩)
set_option maxHeartbeats 4000000 in
theorem coreLimit_c2 : joinedFacts Tryz.pinned.checked.prog 4 Tryz.f4 (OpenSpec.ofChange Rows.coreLimitSpec).bare Rows.coreLimitRow = true := by
  unfold joinedFacts
  simp only [Bool.and_eq_true]
  repeat' apply And.intro
  all_goals (as_aux_lemma => kernel_rfl)
end Go.Proofs.YtlnffaalhedfmaaGreatDoor
