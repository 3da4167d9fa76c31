/- strings.FieldsFunc of any text: the words. -/
import Derived.Test.YtmbpjpffafidhaaGreatDoorCmW3
namespace Go.Proofs.YtmbpjpffafidhaaGreatDoor
open Go Go.Ev
set_option maxRecDepth 100000
set_option linter.unusedSimpArgs false
variable {F : Nat → Option FN}
theorem spanC_len : ∀ sp : List (Nat × Nat), (spanC sp).length = sp.length * 2
  | [] => rfl
  | (a, b) :: r => by
    simp only [spanC, List.length_cons, spanC_len r]
    omega
theorem spanC_app : ∀ x y : List (Nat × Nat), spanC (x ++ y) = spanC x ++ spanC y
  | [], _ => rfl
  | (a, b) :: r, y => by simp only [List.cons_append, spanC, spanC_app r y]
/-- A span's text. -/
def cutS (l : List Nat) (p : Nat × Nat) : List Nat := (l.drop p.1).take (p.2 - p.1)
def wordsV (l : List Nat) (sp : List (Nat × Nat)) : List V := sp.map fun p => .s (cutS l p)
/-- The second loop's code. -/
def ffC : BC := (.post (.seq (.reg [o 50 (.bin .lss (.t 4) (.t 3))]) (.seq (.cond (.t 0) .skip (.pre [9] [2] (.exit 2))) (.seq (.block 3 [0, 9, 47, 48, 49] (.post (.seq (.reg [o 52 (.ia 2 (.t 3) (.t 5)), o 53 (.ldn 2 (.t 0)), o 11 (.alloc 772 [(.i .i64 0), (.i .i64 0)]), .op ⟨none, none, .stn 2 (.t 0) (.t 1)⟩]) (.reg [o 57 (.fa 0 (.t 0)), o 58 (.ld (.t 0)), o 59 (.fa 1 (.t 2)), o 60 (.ld (.t 0)), o 61 (.sls (.t 8) (some (.t 2)) (some (.t 0))), o 62 (.ia 1 (.t 10) (.t 13)), .op ⟨none, none, .st (.t 0) (.t 1)⟩])) [0, 9, 47, 48, 49] [10, 11, 12, 13, 14])) (.reg [o 63 (.bin .add (.t 4) (.k (.i .i64 1)))])))) [0, 9, 47, 48, 49] [1, 2, 3, 4, 0])
theorem ff_loop2 (l : List Nat) (hl : l.length < 100000) (call : CallF) (n B B2 cap xf q : Nat) (rest : List V) (hB : B ≠ B2) : ∀ (sp2 sp1 : List (Nat × Nat)) (m : Nat) (h : H),
    sp2.length < m → (sp1 ++ sp2).length < 100000 → (∀ p ∈ sp2, p.1 ≤ p.2 ∧ p.2 ≤ l.length) → h.get B = some (.c (spanC (sp1 ++ sp2) ++ rest) 0 q) →
    h.get B2 = some (.c (wordsV l sp1 ++ List.replicate sp2.length (.s [])) 0 0) → B < h.nx → B2 < h.nx →
    ∃ h', loopD (execD call n ffC) m [.s l, .sl B2 0 (sp1 ++ sp2).length (sp1 ++ sp2).length 0, .sl B 0 (sp1 ++ sp2).length cap xf, .i .i64 ((sp1 ++ sp2).length : Nat), .i .i64 (sp1.length : Nat)] h =
        some (.exit 2 [.sl B2 0 (sp1 ++ sp2).length (sp1 ++ sp2).length 0], h') ∧ h'.get B2 = some (.c (wordsV l (sp1 ++ sp2)) 0 0) ∧ h.nx ≤ h'.nx ∧ ∀ j, j < h.nx → j ≠ B2 → h'.get j = h.get j
  | [], sp1, m, h, hm, hsp, hin, hg, hg2, hn, hn2 => by
    obtain ⟨m, rfl⟩ : ∃ q, m = q + 1 := ⟨m - 1, by simp at hm; omega⟩
    refine ⟨h, ?_, by simpa using hg2, Nat.le_refl _, fun _ _ _ => rfl⟩
    rw [loopD_one]
    simp [ffC, execD, runB_op, runB_nil, stepB, guardA, o, semAll, AO.map, AO.cls, evX, tmE, pushE, semP, semN, semR, semE, binV, binI, binS, pickE, retsD, retV]
  | (a, b) :: sp2, sp1, m, h, hm, hsp, hin, hg, hg2, hn, hn2 => by
    obtain ⟨m, rfl⟩ : ∃ q, m = q + 1 := ⟨m - 1, by simp at hm; omega⟩
    obtain ⟨hab, hbl⟩ := hin (a, b) (by simp)
    simp only at hab hbl
    let P := h.nx
    let h1 := (h.new (.c [.i .i64 0, .i .i64 0] 0 772)).put P (some (.c [.i .i64 (a : Int), .i .i64 (b : Int)] 0 772))
    let h2 := h1.put B2 (some (.c (wordsV l (sp1 ++ [(a, b)]) ++ List.replicate sp2.length (.s [])) 0 0))
    have hle : sp1.length < (sp1 ++ (a, b) :: sp2).length := by simp
    have e0 : sp1 ++ (a, b) :: sp2 = (sp1 ++ [(a, b)]) ++ sp2 := by simp
    have hB1 : h2.get B = h.get B := by
      show (h1.put B2 _).get B = _
      rw [H.get_put, if_neg hB]
      show ((h.new _).put P _).get B = _
      rw [H.get_put, if_neg (by show ¬ B = h.nx; omega), H.get_new, if_neg (by omega)]
    obtain ⟨h', hr, hg', hnx', hfr⟩ := ff_loop2 l hl call n B B2 cap xf q rest hB sp2 (sp1 ++ [(a, b)]) m h2 (by simp at hm; omega) (by rw [← e0]; exact hsp) (fun p hp => hin p (by simp [hp]))
      (by rw [hB1, hg, e0]) (by show (h1.put B2 _).get B2 = _; rw [H.get_put, if_pos rfl]) (by show B < h.nx + 1; omega) (by show B2 < h.nx + 1; omega)
    rw [← e0] at hr hg'
    have hnx2 : h.nx + 1 ≤ h'.nx := hnx'
    refine ⟨h', ?_, hg', by omega, fun j hj hj2 => ?_⟩
    · rw [loopD_one, ← hr]
      have hix : idx (sp1.length : Int) (sp1 ++ (a, b) :: sp2).length = some sp1.length := by
        unfold idx
        rw [if_pos (by omega)]
        simp
      have hlt : (sp1.length : Int) < (sp1.length : Int) + ((sp2.length : Int) + 1) := by omega
      have hcell : cellsAt h B (sp1.length * 2) 2 = some [.i .i64 (a : Int), .i .i64 (b : Int)] := by
        unfold cellsAt
        rw [hg]
        have e1 : spanC (sp1 ++ (a, b) :: sp2) ++ rest = spanC sp1 ++ (.i .i64 (a : Int) :: .i .i64 (b : Int) :: (spanC sp2 ++ rest)) := by
          rw [spanC_app, List.append_assoc]
          rfl
        rw [e1, ← spanC_len sp1]
        simp
      have hst1 : stAt (h.new (.c [.i .i64 0, .i .i64 0] 0 772)) h.nx 0 [.i .i64 (a : Int), .i .i64 (b : Int)] = some h1 := by
        unfold stAt
        simp [H.get_new, V.one, layAt, h1, P]
      have hP1 : h1.get h.nx = some (.c [.i .i64 (a : Int), .i .i64 (b : Int)] 0 772) := by
        show (H.put _ P _).get h.nx = _
        rw [H.get_put]
        exact if_pos rfl
      have hB2 : h1.get B2 = h.get B2 := by
        show ((h.new _).put P _).get B2 = _
        rw [H.get_put, if_neg (by show ¬ B2 = h.nx; omega), H.get_new, if_neg (by omega)]
      have hbn : bnds l.length l.length (some (.i .i64 (a : Int))) (some (.i .i64 (b : Int))) = some (a, b) := by
        have c1 : (b : Int) ≤ (l.length : Int) := by omega
        have c2 : (a : Int) ≤ (b : Int) := by omega
        simp [bnds, hiV, loV, c1, c2]
      have hwl : (wordsV l sp1).length = sp1.length := by simp [wordsV]
      have hst2 : stAt h1 B2 sp1.length [.s (cutS l (a, b))] = some h2 := by
        unfold stAt
        rw [hB2, hg2]
        have e3 : layAt (wordsV l sp1 ++ List.replicate ((a, b) :: sp2).length (.s [])) sp1.length [.s (cutS l (a, b))] = wordsV l (sp1 ++ [(a, b)]) ++ List.replicate sp2.length (.s []) := by
          simp only [layAt]
          rw [← hwl, List.set_append_right _ _ (Nat.le_refl _)]
          simp [List.replicate_succ, wordsV]
        simp only [e3, h2]
        simp [V.one, hwl]
      have hw : IntKind.i64.wrap ((sp1.length : Int) + 1) = (sp1.length : Int) + 1 := wrap_mid (by omega) (by omega)
      have hl1 : (sp1 ++ [(a, b)]).length = sp1.length + 1 := by simp
      simp only [cutS] at hst2
      rw [hl1]
      simp only [List.length_append, List.length_cons] at hix
      simp [ffC, execD, runB_op, runB_nil, stepB, guardA, o, semAll, AO.map, AO.cls, evX, tmE, pushE, semP, semN, semR, semE, binV, binI, binS, pickE, retsD, retV, hix, hlt, hcell, hst1, hP1, hbn, hst2, hw]
    · rw [hfr j (by show j < h.nx + 1; omega) hj2]
      show (h1.put B2 _).get j = _
      rw [H.get_put, if_neg hj2]
      show ((h.new _).put P _).get j = _
      rw [H.get_put, if_neg (by show ¬ j = h.nx; omega), H.get_new, if_neg (by omega)]
end Go.Proofs.YtmbpjpffafidhaaGreatDoor
