/- core.Get's reader: marks, numbers, what is put. -/
import Derived.Test.YtmbpjpffafidhaaGreatDoorCmCore4
import Derived.Test.YtmbpjpffafidhaaGreatDoorCmOne
namespace Go.Proofs.YtmbpjpffafidhaaGreatDoor
open Go Go.Ev
set_option maxRecDepth 100000
set_option linter.unusedSimpArgs false
variable {F : Nat → Option FN}
mutual
theorem beqV_refl : ∀ v : V, beqV v v = true
  | .b _ => by simp [beqV]
  | .i _ _ => by simp [beqV]
  | .s _ => by simp [beqV]
  | .p _ _ => by simp [beqV]
  | .pn => rfl
  | .sl _ _ _ _ _ => by simp [beqV]
  | .sn => rfl
  | .m _ => by simp [beqV]
  | .mn => rfl
  | .f g a b => by simp [beqV, beqVs_refl a, beqVs_refl b]
  | .fn => rfl
  | .ic t v => by simp [beqV, beqV_refl v]
  | .inn => rfl
  | .ag cs => by simp [beqV, beqVs_refl cs]
  | .tu cs => by simp [beqV, beqVs_refl cs]
  | .u => rfl
theorem beqVs_refl : ∀ l : List V, beqVs l l = true
  | [] => rfl
  | v :: l => by simp [beqVs, beqV_refl v, beqVs_refl l]
end
def orgL : List Nat := [39, 73, 78, 84, 79, 82, 71, 39]
def endgL : List Nat := [39, 73, 78, 84, 69, 78, 68, 39]
theorem marks_run (k : WKC F) {h : H} {R q : Nat} {r : RD} (a : RdAt h R q r) {W w0 : Nat} {m x : List Nat} (w : WordsAt h r.l W w0 [m, markerL, x]) (hx : x = orgL ∨ x = endgL) (h2 : W ≠ R) (n d : Nat) :
    ∃ h', callD F n (d + 3) 186 [.p R 0] h = some (.tu [], h') ∧ Mod [R] h h' ∧ h'.nx = h.nx ∧
      h'.get R = some (.c ({ r with l := restV W (w0 + 2) [], ig := decide (x = orgL), e := if decide (x = orgL) = r.ig then 5 else 0 } : RD).cells 0 q) := by
  let r1 : RD := { r with l := .sl W (w0 + 2) 1 1 0 }
  let g1 := h.put R (some (.c r1.cells 0 q))
  have a1 : RdAt g1 R q r1 := ⟨by show (h.put R _).get R = _; rw [H.get_put, if_pos rfl], a.q0, a.lt, a.e⟩
  have m1 : Mod [R] h g1 := Mod.put _ (by simp)
  obtain ⟨cs, fz, qw, k1, k2⟩ := w.cells
  have w1 : WordsAt g1 r1.l W (w0 + 2) [x] := ⟨rfl, ⟨cs, fz, qw, by rw [m1.get W w.lt (by simpa using h2), k1], fun i s hs => by
    have := k2 (i + 2) s (by simpa using hs)
    rw [← this]
    congr 1
    omega⟩, w.lt, by simp⟩
  obtain ⟨g2, c2, m2, a2, n2⟩ := word_at k a1 w1 n d
  have hr := a.get
  have hl := w.val
  have hr2 := a2.get
  have he := a.e
  have q1 : ¬ 2 ≤ q % 4 := by have := a.q0; omega
  have f2 := fun e => fails_no k R e g2 n (d + 1)
  have y2 := fails_yes k a2.get a2.q0 a2.e 5 n (d + 1)
  have hr0 : restV W (w0 + 2) [] = .sl W (w0 + 2) 0 0 0 := rfl
  have hb3 : bnds 3 3 (some (.i .i64 2)) none = some (2, 3) := by decide
  simp only [List.length_cons, List.length_nil, Nat.zero_add, Nat.reduceAdd] at hl
  simp only [RD.cells] at hr
  simp only [RD.cells, r1, hr0] at hr2 y2 c2
  by_cases hig : decide (x = orgL) = r.ig
  · rw [if_pos hig]
    refine ⟨(g2.put R (some (.c ({ r with l := restV W (w0 + 2) [], e := 5 } : RD).cells 0 q))).put R (some (.c ({ r with l := restV W (w0 + 2) [], ig := decide (x = orgL), e := 5 } : RD).cells 0 q)), ?_, ?_, n2, by rw [H.get_put, if_pos rfl]⟩
    · refine callD_code k.marks rfl ?_
      rcases hx with rfl | rfl
      · have hg : r.ig = true := by simpa using hig.symm
        simp only [g1, r1, RD.cells, hg, orgL] at c2 y2 hr2
        simp [c186, h186, execD, runB_op, runB_nil, stepB, guardA, o, semAll, AO.map, AO.cls, evX, tmE, pushE, semP, semN, semR, semE, binV, binI, binS, pickE, retsD, retV, hr, hl, hb3, stAt, q1, layAt, V.one, RD.cells, c2, f2, hr2, hg, eqV, y2, H.get_put, hr0, orgL]
      · have hg : r.ig = false := by simpa [endgL, orgL] using hig.symm
        simp only [g1, r1, RD.cells, hg, endgL] at c2 y2 hr2
        simp [c186, h186, execD, runB_op, runB_nil, stepB, guardA, o, semAll, AO.map, AO.cls, evX, tmE, pushE, semP, semN, semR, semE, binV, binI, binS, pickE, retsD, retV, hr, hl, hb3, stAt, q1, layAt, V.one, RD.cells, c2, f2, hr2, hg, eqV, y2, H.get_put, hr0, orgL, endgL]
    · exact ((m1.trans m2).trans (Mod.put _ (by simp))).trans (Mod.put _ (by simp))
  · rw [if_neg hig]
    refine ⟨g2.put R (some (.c ({ r with l := restV W (w0 + 2) [], ig := decide (x = orgL), e := 0 } : RD).cells 0 q)), ?_, ?_, n2, by rw [H.get_put, if_pos rfl]⟩
    · refine callD_code k.marks rfl ?_
      rcases hx with rfl | rfl
      · have hg : r.ig = false := by simpa using hig
        simp only [g1, r1, RD.cells, hg, orgL, he] at c2 hr2
        simp [c186, h186, execD, runB_op, runB_nil, stepB, guardA, o, semAll, AO.map, AO.cls, evX, tmE, pushE, semP, semN, semR, semE, binV, binI, binS, pickE, retsD, retV, hr, hl, hb3, stAt, q1, layAt, V.one, RD.cells, c2, f2, hr2, hg, eqV, H.get_put, hr0, orgL, he]
      · have hg : r.ig = true := by simpa [endgL, orgL] using hig
        simp only [g1, r1, RD.cells, hg, endgL, he] at c2 hr2
        simp [c186, h186, execD, runB_op, runB_nil, stepB, guardA, o, semAll, AO.map, AO.cls, evX, tmE, pushE, semP, semN, semR, semE, binV, binI, binS, pickE, retsD, retV, hr, hl, hb3, stAt, q1, layAt, V.one, RD.cells, c2, f2, hr2, hg, eqV, H.get_put, hr0, orgL, endgL, he]
    · exact (m1.trans m2).trans (Mod.put _ (by simp))
/-- What is known of the number 1. -/
structure NumI (F : Nat → Option FN) : Prop where
  lit : ∀ h n d, ∃ h' B, callD F n (d + 1) 152 [.s [49]] h = some (.tu [.p B 0, .b true], h') ∧ Ext h h' ∧ OneAt h.nx h' B
  text : ∀ h n d m B, OneAt m h B → ∃ h', callD F n (d + 1) 119 [.p B 0] h = some (.s [49], h') ∧ Ext h h'
  sign : ∀ h n d m B, OneAt m h B → ∃ h', callD F n (d + 1) 116 [.p B 0] h = some (.i .i64 1, h') ∧ Ext h h'
theorem number_run (k : WKC F) (u : NumI F) {h : H} {R q : Nat} {r : RD} (a : RdAt h R q r) {W w0 : Nat} (w : WordsAt h r.l W w0 [[49]]) (n d : Nat) :
    ∃ h' B, callD F n (d + 3) 250 [.p R 0] h = some (.p B 0, h') ∧ Mod [R] h h' ∧ RdAt h' R q { r with l := restV W w0 [] } ∧ OneAt h.nx h' B := by
  obtain ⟨g1, c1, m1, a1, n1⟩ := word_at k a w n d
  obtain ⟨g2, B, c2, x2, o2⟩ := u.lit g1 n (d + 1)
  rw [n1] at o2
  have f2 := fun e => fails_no k R e g2 n (d + 1)
  refine ⟨g2, B, ?_, m1.trans (x2.mod _), a1.mod (x2.mod []) (by simp), o2⟩
  refine callD_code k.number rfl ?_
  simp [c250, execD, runB_op, runB_nil, stepB, guardA, o, semAll, AO.map, AO.cls, evX, tmE, pushE, semP, semN, semR, semE, binV, binI, binS, pickE, retsD, retV, unV, c1, c2, f2]
end Go.Proofs.YtmbpjpffafidhaaGreatDoor
