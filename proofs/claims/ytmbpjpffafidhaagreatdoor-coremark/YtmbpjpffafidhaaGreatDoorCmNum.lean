/- Small numbers' texts, by known runs. -/
import Derived.Test.YtmbpjpffafidhaaGreatDoorCmMark1
import Derived.Test.YtmbpjpffafidhaaGreatDoorCmAll
namespace Go.Proofs.YtmbpjpffafidhaaGreatDoor
open Go Go.Ev
set_option maxRecDepth 100000
set_option linter.unusedSimpArgs false
noncomputable def nP (args : List V) (h : H) : R := match args with
  | [.i .i64 z] => if 0 ≤ z ∧ z < 12 then primR 8 [.i .i64 z] [] 262144 (.s (decL z.toNat)) [] 1000000000000 args h else none
  | _ => none
theorem n_run0 : ∃ h1, callD (fun g => FT2.get g) 1000000 2000 16 [.i .i64 0] (hOf 262144 []) = some (.s (decL 0), h1) ∧ (∀ p ∈ ([] : List (Nat × Blk)), h1.get p.1 = some p.2) ∧ h1.nx ≤ 1000000000000 := run_of (la := []) (la' := []) (v := .s (decL 0)) r63
theorem n_run1 : ∃ h1, callD (fun g => FT2.get g) 1000000 2000 16 [.i .i64 1] (hOf 262144 []) = some (.s (decL 1), h1) ∧ (∀ p ∈ ([] : List (Nat × Blk)), h1.get p.1 = some p.2) ∧ h1.nx ≤ 1000000000000 := run_of (la := []) (la' := []) (v := .s (decL 1)) r64
theorem n_run2 : ∃ h1, callD (fun g => FT2.get g) 1000000 2000 16 [.i .i64 2] (hOf 262144 []) = some (.s (decL 2), h1) ∧ (∀ p ∈ ([] : List (Nat × Blk)), h1.get p.1 = some p.2) ∧ h1.nx ≤ 1000000000000 := run_of (la := []) (la' := []) (v := .s (decL 2)) r65
theorem n_run3 : ∃ h1, callD (fun g => FT2.get g) 1000000 2000 16 [.i .i64 3] (hOf 262144 []) = some (.s (decL 3), h1) ∧ (∀ p ∈ ([] : List (Nat × Blk)), h1.get p.1 = some p.2) ∧ h1.nx ≤ 1000000000000 := run_of (la := []) (la' := []) (v := .s (decL 3)) r66
theorem n_run4 : ∃ h1, callD (fun g => FT2.get g) 1000000 2000 16 [.i .i64 4] (hOf 262144 []) = some (.s (decL 4), h1) ∧ (∀ p ∈ ([] : List (Nat × Blk)), h1.get p.1 = some p.2) ∧ h1.nx ≤ 1000000000000 := run_of (la := []) (la' := []) (v := .s (decL 4)) r67
theorem n_run5 : ∃ h1, callD (fun g => FT2.get g) 1000000 2000 16 [.i .i64 5] (hOf 262144 []) = some (.s (decL 5), h1) ∧ (∀ p ∈ ([] : List (Nat × Blk)), h1.get p.1 = some p.2) ∧ h1.nx ≤ 1000000000000 := run_of (la := []) (la' := []) (v := .s (decL 5)) r68
theorem n_run6 : ∃ h1, callD (fun g => FT2.get g) 1000000 2000 16 [.i .i64 6] (hOf 262144 []) = some (.s (decL 6), h1) ∧ (∀ p ∈ ([] : List (Nat × Blk)), h1.get p.1 = some p.2) ∧ h1.nx ≤ 1000000000000 := run_of (la := []) (la' := []) (v := .s (decL 6)) r69
theorem n_run7 : ∃ h1, callD (fun g => FT2.get g) 1000000 2000 16 [.i .i64 7] (hOf 262144 []) = some (.s (decL 7), h1) ∧ (∀ p ∈ ([] : List (Nat × Blk)), h1.get p.1 = some p.2) ∧ h1.nx ≤ 1000000000000 := run_of (la := []) (la' := []) (v := .s (decL 7)) r70
theorem n_run8 : ∃ h1, callD (fun g => FT2.get g) 1000000 2000 16 [.i .i64 8] (hOf 262144 []) = some (.s (decL 8), h1) ∧ (∀ p ∈ ([] : List (Nat × Blk)), h1.get p.1 = some p.2) ∧ h1.nx ≤ 1000000000000 := run_of (la := []) (la' := []) (v := .s (decL 8)) r71
theorem n_run9 : ∃ h1, callD (fun g => FT2.get g) 1000000 2000 16 [.i .i64 9] (hOf 262144 []) = some (.s (decL 9), h1) ∧ (∀ p ∈ ([] : List (Nat × Blk)), h1.get p.1 = some p.2) ∧ h1.nx ≤ 1000000000000 := run_of (la := []) (la' := []) (v := .s (decL 9)) r72
theorem n_run10 : ∃ h1, callD (fun g => FT2.get g) 1000000 2000 16 [.i .i64 10] (hOf 262144 []) = some (.s (decL 10), h1) ∧ (∀ p ∈ ([] : List (Nat × Blk)), h1.get p.1 = some p.2) ∧ h1.nx ≤ 1000000000000 := run_of (la := []) (la' := []) (v := .s (decL 10)) r73
theorem n_run11 : ∃ h1, callD (fun g => FT2.get g) 1000000 2000 16 [.i .i64 11] (hOf 262144 []) = some (.s (decL 11), h1) ∧ (∀ p ∈ ([] : List (Nat × Blk)), h1.get p.1 = some p.2) ∧ h1.nx ≤ 1000000000000 := run_of (la := []) (la' := []) (v := .s (decL 11)) r74
theorem nP_ok : PrimOK Tryz.prog 16 nP := by
  intro args h v h' hf
  unfold nP at hf
  split at hf
  · rename_i z
    split at hf
    · rename_i hz
      have hc : z = 0 ∨ z = 1 ∨ z = 2 ∨ z = 3 ∨ z = 4 ∨ z = 5 ∨ z = 6 ∨ z = 7 ∨ z = 8 ∨ z = 9 ∨ z = 10 ∨ z = 11 := by omega
      rcases hc with rfl | rfl | rfl | rfl | rfl | rfl | rfl | rfl | rfl | rfl | rfl | rfl
      · obtain ⟨h1, g1, g2, g3⟩ := n_run0
        exact primR_ok (callD_ok tok mix (FTOK.of_tree ftAll2) 2000) gsz (by decide) g1 g2 g3 (by decide) _ h v h' hf
      · obtain ⟨h1, g1, g2, g3⟩ := n_run1
        exact primR_ok (callD_ok tok mix (FTOK.of_tree ftAll2) 2000) gsz (by decide) g1 g2 g3 (by decide) _ h v h' hf
      · obtain ⟨h1, g1, g2, g3⟩ := n_run2
        exact primR_ok (callD_ok tok mix (FTOK.of_tree ftAll2) 2000) gsz (by decide) g1 g2 g3 (by decide) _ h v h' hf
      · obtain ⟨h1, g1, g2, g3⟩ := n_run3
        exact primR_ok (callD_ok tok mix (FTOK.of_tree ftAll2) 2000) gsz (by decide) g1 g2 g3 (by decide) _ h v h' hf
      · obtain ⟨h1, g1, g2, g3⟩ := n_run4
        exact primR_ok (callD_ok tok mix (FTOK.of_tree ftAll2) 2000) gsz (by decide) g1 g2 g3 (by decide) _ h v h' hf
      · obtain ⟨h1, g1, g2, g3⟩ := n_run5
        exact primR_ok (callD_ok tok mix (FTOK.of_tree ftAll2) 2000) gsz (by decide) g1 g2 g3 (by decide) _ h v h' hf
      · obtain ⟨h1, g1, g2, g3⟩ := n_run6
        exact primR_ok (callD_ok tok mix (FTOK.of_tree ftAll2) 2000) gsz (by decide) g1 g2 g3 (by decide) _ h v h' hf
      · obtain ⟨h1, g1, g2, g3⟩ := n_run7
        exact primR_ok (callD_ok tok mix (FTOK.of_tree ftAll2) 2000) gsz (by decide) g1 g2 g3 (by decide) _ h v h' hf
      · obtain ⟨h1, g1, g2, g3⟩ := n_run8
        exact primR_ok (callD_ok tok mix (FTOK.of_tree ftAll2) 2000) gsz (by decide) g1 g2 g3 (by decide) _ h v h' hf
      · obtain ⟨h1, g1, g2, g3⟩ := n_run9
        exact primR_ok (callD_ok tok mix (FTOK.of_tree ftAll2) 2000) gsz (by decide) g1 g2 g3 (by decide) _ h v h' hf
      · obtain ⟨h1, g1, g2, g3⟩ := n_run10
        exact primR_ok (callD_ok tok mix (FTOK.of_tree ftAll2) 2000) gsz (by decide) g1 g2 g3 (by decide) _ h v h' hf
      · obtain ⟨h1, g1, g2, g3⟩ := n_run11
        exact primR_ok (callD_ok tok mix (FTOK.of_tree ftAll2) 2000) gsz (by decide) g1 g2 g3 (by decide) _ h v h' hf
    · cases hf
  · cases hf
theorem num_run (i : Nat) (hi : i < 12) (h : H) : ∃ h', nP [.i .i64 (i : Int)] h = some (.s (decL i), h') ∧ Ext h h' := by
  have F : Fits 8 [.i .i64 (i : Int)] [] id [.i .i64 (i : Int)] h := ⟨fun _ _ => rfl, rfl, fun p hp => (nomatch hp), fun p hp => (nomatch hp)⟩
  refine ⟨frH 262144 1000000000000 id [] [] h, ?_, ⟨by show h.nx ≤ h.nx + _; omega, fun j hj => frH_old (fun p hp => (nomatch hp)) fun p hp => (nomatch hp)⟩⟩
  have hz : (0 : Int) ≤ (i : Int) ∧ (i : Int) < 12 := by omega
  show (if 0 ≤ (i : Int) ∧ (i : Int) < 12 then _ else none) = _
  rw [if_pos hz]
  have e := primR_eq (NX := 1000000000000) (NA := 262144) (la' := []) (v := .s (decL i)) F (by rfl)
  rw [Int.toNat_natCast]
  exact e
end Go.Proofs.YtmbpjpffafidhaaGreatDoor
