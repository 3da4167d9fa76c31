/- Closed facts of the row of FilesNone. -/
import Derived.Test.YtnhamnljhgmheaaGreatDoorRows
import Derived.JoinedCond
namespace Go.Proofs.YtnhamnljhgmheaaGreatDoor
theorem filesNone_c1 : Tryz.pinned.checked.prog.funcNamed Rows.filesNoneRow.func = some 3 := by kernel_rfl
theorem filesNone_c3 : Tryz.f3.isInstance Tryz.pinned.checked.prog Rows.filesNoneRow.origin Rows.filesNoneRow.targs := of_decide_eq_true (by kernel_rfl)
theorem filesNone_c4 : Tryz.f3.isWrapper Tryz.pinned.checked.prog Rows.filesNoneRow.wrapper Rows.filesNoneRow.mainSum := by unfold Func.isWrapper; first | (rw [if_pos (by decide +kernel)]; kernel_rfl) | (rw [if_neg (by decide +kernel)]; exact ⟨rfl, rfl⟩)
set_option maxHeartbeats 4000000 in
theorem filesNone_c2 : joinedFacts Tryz.pinned.checked.prog 3 Tryz.f3 (OpenSpec.ofChange Rows.filesNoneSpec).bare Rows.filesNoneRow = true := by
  unfold joinedFacts
  simp only [Bool.and_eq_true]
  repeat' apply And.intro
  all_goals (as_aux_lemma => kernel_rfl)
end Go.Proofs.YtnhamnljhgmheaaGreatDoor
