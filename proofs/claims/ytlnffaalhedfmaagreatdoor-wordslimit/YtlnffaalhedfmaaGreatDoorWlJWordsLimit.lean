/- Closed facts of the row of WordsLimit. -/
import Derived.Test.YtlnffaalhedfmaaGreatDoorRows
import Derived.JoinedCond
namespace Go.Proofs.YtlnffaalhedfmaaGreatDoor
theorem wordsLimit_c1 : Tryz.pinned.checked.prog.funcNamed Rows.wordsLimitRow.func = some 3 := by kernel_rfl
theorem wordsLimit_c3 : Tryz.f3.isInstance Tryz.pinned.checked.prog Rows.wordsLimitRow.origin Rows.wordsLimitRow.targs := of_decide_eq_true (by kernel_rfl)
theorem wordsLimit_c4 : Tryz.f3.isWrapper Tryz.pinned.checked.prog Rows.wordsLimitRow.wrapper Rows.wordsLimitRow.mainSum := by unfold Func.isWrapper; first | (rw [if_pos (by decide +kernel)]; kernel_rfl) | (rw [if_neg (by decide +kernel)]; exact ⟨rfl, rfl⟩)
set_option maxHeartbeats 4000000 in
theorem wordsLimit_c2 : joinedFacts Tryz.pinned.checked.prog 3 Tryz.f3 (OpenSpec.ofChange Rows.wordsLimitSpec).bare Rows.wordsLimitRow = true := by
  unfold joinedFacts
  simp only [Bool.and_eq_true]
  repeat' apply And.intro
  all_goals (as_aux_lemma => kernel_rfl)
end Go.Proofs.YtlnffaalhedfmaaGreatDoor
