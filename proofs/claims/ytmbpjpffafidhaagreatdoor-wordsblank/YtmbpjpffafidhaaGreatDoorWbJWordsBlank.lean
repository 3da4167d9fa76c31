/- Closed facts of the row of WordsBlank. -/
import Derived.Test.YtmbpjpffafidhaaGreatDoorRows
import Derived.JoinedCond
namespace Go.Proofs.YtmbpjpffafidhaaGreatDoor
theorem wordsBlank_c1 : Tryz.pinned.checked.prog.funcNamed Rows.wordsBlankRow.func = some 4 := by kernel_rfl
theorem wordsBlank_c3 : Tryz.f4.isInstance Tryz.pinned.checked.prog Rows.wordsBlankRow.origin Rows.wordsBlankRow.targs := of_decide_eq_true (by kernel_rfl)
theorem wordsBlank_c4 : Tryz.f4.isWrapper Tryz.pinned.checked.prog Rows.wordsBlankRow.wrapper Rows.wordsBlankRow.mainSum := by unfold Func.isWrapper; first | (rw [if_pos (by decide +kernel)]; kernel_rfl) | (rw [if_neg (by decide +kernel)]; exact ⟨rfl, rfl⟩)
set_option maxHeartbeats 4000000 in
theorem wordsBlank_c2 : joinedFacts Tryz.pinned.checked.prog 4 Tryz.f4 (OpenSpec.ofChange Rows.wordsBlankSpec).bare Rows.wordsBlankRow = true := by
  unfold joinedFacts
  simp only [Bool.and_eq_true]
  repeat' apply And.intro
  all_goals (as_aux_lemma => kernel_rfl)
end Go.Proofs.YtmbpjpffafidhaaGreatDoor
