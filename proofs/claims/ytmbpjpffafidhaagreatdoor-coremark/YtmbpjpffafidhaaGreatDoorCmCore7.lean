/- core.Get's reader: a pair of a row and a number. -/
import Derived.Test.YtmbpjpffafidhaaGreatDoorCmCore6
namespace Go.Proofs.YtmbpjpffafidhaaGreatDoor
open Go Go.Ev
set_option maxRecDepth 100000
set_option linter.unusedSimpArgs false
variable {F : Nat → Option FN}
def pbB : BC := (.post (.seq (.seq (.reg [o 10 (.bin .lss (.t 2) (.k (.i .i64 2))), .op ⟨(some 12), (some (0, true)), .mv (.t 3)⟩, .op ⟨(some 13), (some (1, true)), .bin .eql (.t 0) (.k (.i .i64 0))⟩, .op ⟨(some 14), (some (2, true)), .mv (.t 0)⟩, .op ⟨(some 15), (some (0, false)), .mv (.t 4)⟩, .op ⟨(some 16), (some (1, false)), .nck (.t 0)⟩, .op ⟨(some 17), (some (2, false)), .fa 9 (.t 0)⟩, .op ⟨(some 18), (some (3, false)), .ld (.t 0)⟩, .op ⟨(some 19), (some (4, false)), .len false (.t 0)⟩, .op ⟨(some 20), (some (5, false)), .bin .gtr (.t 0) (.k (.i .i64 0))⟩, .op ⟨(some 21), (some (9, true)), .pick (.t 6) (.k (.b true)) (.t 0)⟩, o 22 (.pick (.t 10) (.t 0) (.k (.b false)))]) (.cond (.t 0) .skip (.pre [] [] (.exit 0)))) (.seq (.block 1 [0, 1, 4] (.post (.seq (.reg [o 26 (.call 184 [(.t 12)])]) (.seq (.post (.reg [o 29 (.nck (.t 13)), o 30 (.fa 5 (.t 0)), o 31 (.ld (.t 0)), o 33 (.lk 1 (.i .i64 0) true (.t 0) (.t 3)), o 34 (.ext 0 (.t 0)), o 35 (.ext 1 (.t 1))]) [0, 1, 4, 5, 6, 7] [19, 20, 21, 6, 1, 0]) (.seq (.reg [o 38 (.un .not (.t 5)), .op ⟨(some 40), (some (0, false)), .mv (.t 1)⟩, .op ⟨(some 41), (some (1, false)), .nck (.t 0)⟩, .op ⟨(some 42), (some (2, false)), .fa 7 (.t 0)⟩, .op ⟨(some 43), (some (3, false)), .ld (.t 0)⟩, .op ⟨(some 44), (some (4, false)), .mv (.t 8)⟩, .op ⟨(some 45), (some (5, false)), .lk 1 (.b false) false (.t 1) (.t 0)⟩, o 46 (.pick (.t 6) (.k (.b true)) (.t 0)), o 47 (.call 129 [(.t 8), (.t 0), (.k (.i .i64 4))])]) (.seq (.post (.reg [o 50 (.bin .lss (.t 13) (.k (.i .i64 0))), .op ⟨(some 52), (some (0, true)), .mv (.t 10)⟩, .op ⟨(some 53), (some (1, true)), .nck (.t 0)⟩, .op ⟨(some 54), (some (2, true)), .fa 4 (.t 0)⟩, .op ⟨(some 55), (some (3, true)), .ld (.t 0)⟩, .op ⟨(some 56), (some (4, true)), .bin .neq (.t 0) (.k (.i .i64 3))⟩, o 57 (.pick (.t 5) (.t 0) (.k (.b false))), o 58 (.call 129 [(.t 16), (.t 0), (.k (.i .i64 7))])]) [0, 1, 4, 5, 6] [17, 18, 19, 20, 21]) (.seq (.reg [o 60 (.call 250 [(.t 0)])]) (.seq (.seq (.reg [o 62 (.nck (.t 1)), o 63 (.fa 10 (.t 0)), o 64 (.ld (.t 0)), o 65 (.bin .neq (.t 0) (.k (.i .i64 0)))]) (.cond (.t 0) (.ret []) .skip)) (.seq (.reg [o 67 (.nck (.t 5)), o 68 (.fa 7 (.t 0)), o 69 (.ld (.t 0)), .op ⟨none, none, .mup 1 (.t 0) (.t 11) (.k (.b true))⟩]) (.reg [o 74 (.callv (.t 9) [(.t 12), (.t 7)])])))))))) [0, 1, 4] [9, 10, 11])) (.reg [o 24 (.bin .add (.t 2) (.k (.i .i64 1)))]))) [0, 1, 4] [1, 2, 0])
theorem h_pairs : h187 = (.seq (.reg [o 4 (.mv (.k (.i .i64 0)))]) (.block 0 [] (.pre [0, 1, 4] [1, 2, 0] (.loop pbB)))) := rfl
theorem pairs_end {call : CallF} {h : H} {R q : Nat} {r : RD} {f : V} (hr : h.get R = some (.c r.cells 0 q)) {W w0 cap : Nat} (hl : r.l = .sl W w0 0 cap 0) (n : Nat) : execD call n pbB [.p R 0, f, .i .i64 1] h = some (.exit 0 [], h) := by
  simp [pbB, execD, runB_op, runB_nil, stepB, guardA, o, semAll, AO.map, AO.cls, evX, tmE, pushE, semP, semN, semR, semE, binV, binI, binS, pickE, retsD, retV, hr, RD.cells, hl]
theorem pairs_run (k : WKC F) (u : NumI F) {h : H} {R q : Nat} {r : RD} (a : RdAt h R q r) {W w0 : Nat} {t ob : List Nat} (w : WordsAt h r.l W w0 [t, [49]]) (hat : r.at_ = 3) (hto : t ≠ ob) {clkr : Nat} (mr : MapAt h r.mr [(.s ob, .i .i64 (-1), 0), (.s t, .i .i64 0, 1)] clkr) {clks : Nat} (ms : MapAt h r.ms [] clks)
    {Bc nc capc xc : Nat} (hcl : r.cl = .sl Bc 0 (nc + 1) capc xc) (hnc : nc < 1000) {Br : Nat} (hrw : r.rw = .sl Br 0 1 1 5) {kd : Int} {cv rh rg : V}
    (hrow : h.get Br = some (.c [.s t, .i .i64 kd, cv, rh, rg] 0 188)) (hBr : Br < h.nx) {cells : List V} {bo : Option Nat} (an : AN h cv 2 cells bo) (hce : cells.length < 1000) {B1 : Nat} (hB1 : h.get B1 = some (.c [.p R 0] 0 572)) (hB1l : B1 < h.nx)
    (d1 : bo ≠ some R) (d2 : bo ≠ some Br) (d3 : bo ≠ some B1) (d4 : R ≠ Br) (d5 : B1 ≠ Br) (d6 : W ≠ R) (d7 : R ≠ r.mr) (d8 : R ≠ r.ms) (d9 : r.ms ≠ Br) (d10 : bo ≠ some r.ms) (d11 : B1 ≠ r.ms) (d12 : B1 ≠ R) (n d : Nat) (hn : 1000 < n) :
    ∃ h' cv' bo', callD F n (d + 6) 187 [.p R 0, .f 188 [] [.p B1 0]] h = some (.tu [], h') ∧ h.nx ≤ h'.nx ∧ (∀ j, j < h.nx → j ≠ R → j ≠ r.ms → j ≠ Br → bo ≠ some j → h'.get j = h.get j) ∧
      RdAt h' R q { r with l := restV W (w0 + 1) [] } ∧ h'.get Br = some (.c [.s t, .i .i64 kd, cv', rh, rg] 0 188) ∧ AN h' cv' 2 (cells ++ [.i .i64 (nc : Int), .s [49]]) bo' ∧ (∀ j, bo' = some j → j < h.nx → bo = some j) ∧ MapAt h' r.ms [(.s t, .b true, clks)] (clks + 1) := by
  obtain ⟨m, rfl⟩ : ∃ q, n = q + 2 := ⟨n - 2, by omega⟩
  have hRl := a.lt
  obtain ⟨g1, c1, m1, a1, n1⟩ := word_at k a w (m + 2) (d + 3)
  have w1 : WordsAt g1 (restV W w0 [[49]]) W (w0 + 1) [[49]] := w.rest (by simp) (by rw [m1.get W w.lt (by simpa using d6)]) m1.le
  have mr1 := mr.mod m1 (by simpa using Ne.symm d7)
  have ms1 := ms.mod m1 (by simpa using Ne.symm d8)
  have f1 := fun e => fails_no k R e g1 (m + 2) (d + 4)
  obtain ⟨g2, B, c2, m2, a2, o2⟩ := number_run k u a1 w1 (m + 2) (d + 2)
  have ms2 := ms1.mod m2 (by simpa using Ne.symm d8)
  have m12 := m1.trans m2
  let g3 := g2.put r.ms (some (.mp [(.s t, .b true, clks)] (clks + 1)))
  have m3 : Mod [R, r.ms] h g3 := (m12.weak (by simp)).trans (Mod.put _ (by simp))
  have hle3 := m3.le
  have a3 : RdAt g3 R q { r with l := restV W (w0 + 1) [] } := ⟨by show (g2.put r.ms _).get R = _; rw [H.get_put, if_neg d8]; exact a2.get, a.q0, a2.lt, a.e⟩
  have o3 : OneAt g1.nx g3 B := o2.keep (Nat.le_refl _) fun j hj _ => by
    show (g2.put r.ms _).get j = _
    have := ms.2
    rw [H.get_put, if_neg (by omega)]
  have an3 : AN g3 cv 2 cells bo := an.frame (fun j hj hjl => m3.get j hjl (by
    simp only [List.mem_cons, List.mem_nil_iff, or_false, not_or]
    exact ⟨fun e => d1 (by rw [hj, e]), fun e => d10 (by rw [hj, e])⟩)) hle3
  have row3 : g3.get Br = some (.c [.s t, .i .i64 kd, cv, rh, rg] 0 188) := by
    rw [m3.get Br hBr (by simp only [List.mem_cons, List.mem_nil_iff, or_false, not_or]; exact ⟨Ne.symm d4, Ne.symm d9⟩), hrow]
  have b13 : g3.get B1 = some (.c [.p R 0] 0 572) := by
    rw [m3.get B1 hB1l (by simp only [List.mem_cons, List.mem_nil_iff, or_false, not_or]; exact ⟨d12, d11⟩), hB1]
  obtain ⟨g4, cv', bo', c4, l4, fr4, row4, an4, bo4⟩ := put_run k u (r := { r with l := restV W (w0 + 1) [] }) a3 hcl hnc hrw row3 (by omega) an3 hce b13 (by omega) o3 d1 d2 d3 d4 d5 (m + 2) (d + 3)
  have old4 : ∀ j, j < h.nx → j ≠ R → j ≠ r.ms → j ≠ Br → bo ≠ some j → g4.get j = h.get j := by
    intro j hj j1 j2 j3 j4
    rw [fr4 j (by omega) j3 j4, m3.get j hj (by simp only [List.mem_cons, List.mem_nil_iff, or_false, not_or]; exact ⟨j1, j2⟩)]
  have hr4 : g4.get R = some (.c ({ r with l := restV W (w0 + 1) [] } : RD).cells 0 q) := by rw [fr4 R (by omega) d4 d1]; exact a3.get
  have hms4 : g4.get r.ms = some (.mp [(.s t, .b true, clks)] (clks + 1)) := by
    rw [fr4 r.ms (by have := ms.2; omega) d9 d10]
    show (g2.put r.ms _).get r.ms = _
    rw [H.get_put, if_pos rfl]
  refine ⟨g4, cv', bo', ?_, by omega, old4, ⟨hr4, a.q0, by omega, a.e⟩, row4, an4, fun j hj hjl => bo4 j hj (by omega), ⟨hms4, by have := ms.2; omega⟩⟩
  have hr1 := a1.get
  have hr2 := a2.get
  have he := a.e
  have hms1 := ms1.1
  have hms2 := ms2.1
  have hmr1 := mr1.1
  have hb1 : execD (callD F (m + 2) (d + 5)) (m + 2) pbB [.p R 0, .f 188 [] [.p B1 0], .i .i64 0] h = some (.nrm [.p R 0, .f 188 [] [.p B1 0], .i .i64 1], g4) := by
    have hne : (t == ob) = false := by simpa using hto
    have hwr : IntKind.i64.wrap 1 = 1 := wrap_mid (by omega) (by omega)
    simp only [RD.cells, he, hat] at hr1 hr2
    simp only [g3] at c4
    simp [pbB, execD, runB_op, runB_nil, stepB, guardA, o, semAll, AO.map, AO.cls, evX, tmE, pushE, semP, semN, semR, semE, binV, binI, binS, pickE, retsD, retV, unV, c1, hr1, hr2, hmr1, hms1, hms2, keyOk, findE, keyEq, hne, hto, f1, c2, c4, hwr]
  have hb2 := pairs_end (call := callD F (m + 2) (d + 5)) (f := .f 188 [] [.p B1 0]) hr4 (W := W) (w0 := w0 + 1) (cap := 0) rfl (m + 2)
  have hl : loopD (execD (callD F (m + 2) (d + 5)) (m + 2) pbB) (m + 2) [.p R 0, .f 188 [] [.p B1 0], .i .i64 0] h = some (.exit 0 [], g4) := by
    rw [loopD_one, hb1]
    show loopD _ (m + 1) _ g4 = _
    rw [loopD_one, hb2]
  refine callD_code k.pairs rfl ?_
  simp [c187, h_pairs, execD, runB_op, runB_nil, stepB, guardA, o, semAll, AO.map, AO.cls, evX, tmE, pushE, semP, semN, semR, semE, binV, binI, binS, pickE, retsD, retV, hl]
end Go.Proofs.YtmbpjpffafidhaaGreatDoor
