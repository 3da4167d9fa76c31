/- Closed facts of the row of WordsAll. -/
import Derived.Test.YtmbpjpffafidhaaGreatDoorRows
import Derived.JoinedCond
namespace Go.Proofs.YtmbpjpffafidhaaGreatDoor
theorem wordsAll_c1 : Tryz.pinned.checked.prog.funcNamed Rows.wordsAllRow.func = some 3 := by kernel_rfl
theorem wordsAll_c3 : Tryz.f3.isInstance Tryz.pinned.checked.prog Rows.wordsAllRow.origin Rows.wordsAllRow.targs := of_decide_eq_true (by kernel_rfl)
theorem wordsAll_c4 : Tryz.f3.isWrapper Tryz.pinned.checked.prog Rows.wordsAllRow.wrapper Rows.wordsAllRow.mainSum := by unfold Func.isWrapper; first | (rw [if_pos (by decide +kernel)]; kernel_rfl) | (rw [if_neg (by decide +kernel)]; exact ⟨rfl, rfl⟩)
set_option maxHeartbeats 4000000 in
theorem wordsAll_c2 : joinedFacts Tryz.pinned.checked.prog 3 Tryz.f3 (OpenSpec.ofChange Rows.wordsAllSpec).bare Rows.wordsAllRow = true := by
  unfold joinedFacts
  simp only [Bool.and_eq_true]
  repeat' apply And.intro
  all_goals (as_aux_lemma => kernel_rfl)
end Go.Proofs.YtmbpjpffafidhaaGreatDoor
