/- core.Get's reader: marks among columns; lines. -/
import Derived.Test.YtmbpjpffafidhaaGreatDoorCmCore8
namespace Go.Proofs.YtmbpjpffafidhaaGreatDoor
open Go Go.Ev
set_option maxRecDepth 100000
set_option linter.unusedSimpArgs false
variable {F : Nat → Option FN}
theorem CS.reR {m0 : Nat} {h h' : H} {R q : Nat} {r r' : RD} {ob t : List Nat} {Br : Nat} {cols : List (List Nat × Bool)} (cs : CS m0 h R q r ob t Br cols) (m : Mod [R] h h') (hr : h'.get R = some (.c r'.cells 0 q)) (e1 : r'.rw = r.rw) (e2 : r'.cl = r.cl) (e3 : r'.mr = r.mr) (e4 : r'.mc = r.mc) (e5 : r'.ms = r.ms) (e6 : r'.at_ = r.at_) (e7 : r'.e = 0) : CS m0 h' R q r' ob t Br cols := by
  obtain ⟨rd, hat, hto, mrm, ⟨es, clkc, mcm, hes⟩, ⟨ess, clks, msm⟩, hrw, ⟨cv, cells, bo, boc, hrow, an, hcl, anc, hbo, hboc⟩, hBr, low, n1, n2, n3, n4, n5, n6, n7, n8, n9, n10⟩ := cs
  rw [← e3] at mrm n1 n5 n6 n7 low hbo hboc
  rw [← e4] at mcm n2 n5 n8 n9 low hbo hboc
  rw [← e5] at msm n3 n6 n8 n10 low hbo hboc
  refine ⟨⟨hr, rd.q0, Nat.lt_of_lt_of_le rd.lt m.le, e7⟩, by rw [e6]; exact hat, hto, mrm.mod m (by simpa using Ne.symm n1), ⟨es, clkc, mcm.mod m (by simpa using Ne.symm n2), hes⟩, ⟨ess, clks, msm.mod m (by simpa using Ne.symm n3)⟩, by rw [e1]; exact hrw,
    ⟨cv, cells, bo, boc, by rw [m.get Br hBr (by simpa using Ne.symm n4)]; exact hrow, an.frame (fun j hj hjl => m.get j hjl (by simpa using (hbo j hj).2.1)) m.le, hcl, ?_, hbo, hboc⟩, Nat.lt_of_lt_of_le hBr m.le, low, n1, n2, n3, n4, n5, n6, n7, n8, n9, n10⟩
  rw [e2]
  exact anc.frame (fun j hj hjl => m.get j hjl (by simpa using (hboc j hj).2.1)) m.le
theorem column_mark (k : WKC F) {m0 : Nat} {h : H} {R q : Nat} {r : RD} {ob t : List Nat} {Br : Nat} {cols : List (List Nat × Bool)} (cs : CS m0 h R q r ob t Br cols) {W w0 : Nat} {m x : List Nat} (w : WordsAt h r.l W w0 [m, markerL, x]) (hx : x = orgL ∨ x = endgL) (hW : W < m0) (n d : Nat) (hn : 1000 < n) :
    ∃ h', callD F n (d + 7) 126 [.p R 0] h = some (.tu [], h') ∧ Mod [R] h h' ∧ h'.get R = some (.c ({ r with l := restV W (w0 + 2) [], ig := decide (x = orgL), e := if decide (x = orgL) = r.ig then 5 else 0 } : RD).cells 0 q) := by
  have rd := cs.rd
  have lw := cs.low.1
  have hRl := rd.lt
  have he := rd.e
  let g1 := h.new (.c [.p R 0] 0 572)
  let g2 := g1.new (.c [.i .i64 3, .i .i64 5] 0 0)
  have m1 : Mod [] h g1 := Mod.new [] h _
  have m2 : Mod [] h g2 := m1.trans (Mod.new [] g1 _)
  have c2 := many_run k (rd.mod m2 (by simp)) w.val (B := h.nx + 1) (N := 2) (cs := [.i .i64 5]) (by show (g1.new _).get (h.nx + 1) = _; rw [H.get_new]; exact if_pos rfl) (by omega) n (d + 3) hn
  obtain ⟨g3, c3, m3, n3, hr3⟩ := marks_run k (rd.mod m2 (by simp)) (w.mod m2 (by simp)) hx (by omega) n (d + 3)
  refine ⟨g3, ?_, (m2.weak (by simp)).trans m3, hr3⟩
  refine callD_code k.column rfl ?_
  have hl := w.val
  simp only [List.length_cons, List.length_nil, Nat.zero_add, Nat.reduceAdd] at hl
  obtain ⟨wc, fz, qw, k1, k2⟩ := w.cells
  have hw2 : g2.get W = some (.c wc fz qw) := by rw [m2.get W w.lt (by simp), k1]
  have hw2b := k2 1 markerL rfl
  have ei1 : idx 1 3 = some 1 := by decide
  have hr2 : g2.get R = some (.c r.cells 0 q) := (rd.mod m2 (by simp)).get
  have hb1 : (h.new (.c [.p R 0] 0 572)).get h.nx = some (.c [.p R 0] 0 572) := by rw [H.get_new, if_pos rfl]
  have hb2 : g2.get h.nx = some (.c [.p R 0] 0 572) := by
    show (g1.new _).get h.nx = _
    rw [H.get_new, if_neg (by show ¬ h.nx = h.nx + 1; omega)]
    exact hb1
  simp only [g2, g1] at c2 c3 hb2 hw2 hr2
  simp only [RD.cells, hl, he] at hr2
  simp only [markerL] at hw2b
  simp [c126, h126, execD, runB_op, runB_nil, stepB, guardA, o, semAll, AO.map, AO.cls, evX, tmE, pushE, semP, semN, semR, semE, binV, binI, binS, pickE, retsD, retV, V.cells, fillV, layAt, V.one, rept, hb1, hb2, c2, hr2, ei1, hw2, hw2b, c3]
theorem idx_of {i N : Nat} (h : i < N) : idx (i : Int) N = some i := by
  unfold idx
  rw [if_pos (by omega)]
  rfl
theorem three_cells {cs : List V} {i : Nat} {a b c : V} (h0 : cs[i]? = some a) (h1 : cs[i + 1]? = some b) (h2 : cs[i + 2]? = some c) : (cs.drop i).take 3 = [a, b, c] := by
  apply List.ext_getElem?
  intro j
  rw [List.getElem?_take, List.getElem?_drop]
  match j with
  | 0 => simp [h0]
  | 1 => simp [h1]
  | 2 => simp [h2]
  | j + 3 =>
    rw [if_neg (by omega)]
    rfl
/-- A line. -/
theorem line_head (k : WKC F) {h g3 : H} {R q : Nat} {r : RD} (a : RdAt h R q r) {no : Int} {v : V} {n d : Nat}
    (hc : callD F n d 124 [.p R 0] ((h.new (.c [.i .i64 no, .b true, v] 0 136)).put R (some (.c ({ r with l := v } : RD).cells 0 q))) = some (.tu [], g3)) (hv : V.one v = true) :
    callD F n (d + 1) 58 [.p R 0, .ag [.i .i64 no, .b true, v]] h = some (.tu [], g3) := by
  have q1 : ¬ 2 ≤ q % 4 := by have := a.q0; omega
  have hr := a.get
  have hRl := a.lt
  have ne1 : ¬ R = h.nx := by omega
  have ne2 : ¬ h.nx = R := by omega
  simp only [RD.cells] at hr hc
  unfold V.one at hv
  refine callD_code k.line rfl ?_
  simp [c58, h58, execD, runB_op, runB_nil, stepB, guardA, o, semAll, AO.map, AO.cls, evX, tmE, pushE, semP, semN, semR, semE, binV, binI, binS, pickE, retsD, retV, V.cells, layAt, V.one, hv, H.get_new, H.get_put, ne1, ne2, hr, stAt, q1, hc]
theorem line_row (k : WKC F) {h g3 : H} {R q : Nat} {r : RD} (a : RdAt h R q r) (hat : r.at_ = 2) {no : Int} {v : V} {n d : Nat}
    (hc : callD F n d 125 [.p R 0] ((h.new (.c [.i .i64 no, .b false, v] 0 136)).put R (some (.c ({ r with l := v } : RD).cells 0 q))) = some (.tu [], g3)) (hv : V.one v = true) :
    callD F n (d + 1) 58 [.p R 0, .ag [.i .i64 no, .b false, v]] h = some (.tu [], g3) := by
  have q1 : ¬ 2 ≤ q % 4 := by have := a.q0; omega
  have hr := a.get
  have hRl := a.lt
  have ne1 : ¬ R = h.nx := by omega
  have ne2 : ¬ h.nx = R := by omega
  simp only [RD.cells, hat] at hr hc
  unfold V.one at hv
  refine callD_code k.line rfl ?_
  simp [c58, h58, execD, runB_op, runB_nil, stepB, guardA, o, semAll, AO.map, AO.cls, evX, tmE, pushE, semP, semN, semR, semE, binV, binI, binS, pickE, retsD, retV, V.cells, layAt, V.one, hv, H.get_new, H.get_put, ne1, ne2, hr, stAt, q1, hc]
theorem line_column (k : WKC F) {h g3 : H} {R q : Nat} {r : RD} (a : RdAt h R q r) (hat : r.at_ = 3) {no : Int} {v : V} {n d : Nat}
    (hc : callD F n d 126 [.p R 0] ((h.new (.c [.i .i64 no, .b false, v] 0 136)).put R (some (.c ({ r with l := v } : RD).cells 0 q))) = some (.tu [], g3)) (hv : V.one v = true) :
    callD F n (d + 1) 58 [.p R 0, .ag [.i .i64 no, .b false, v]] h = some (.tu [], g3) := by
  have q1 : ¬ 2 ≤ q % 4 := by have := a.q0; omega
  have hr := a.get
  have hRl := a.lt
  have ne1 : ¬ R = h.nx := by omega
  have ne2 : ¬ h.nx = R := by omega
  simp only [RD.cells, hat] at hr hc
  unfold V.one at hv
  refine callD_code k.line rfl ?_
  simp [c58, h58, execD, runB_op, runB_nil, stepB, guardA, o, semAll, AO.map, AO.cls, evX, tmE, pushE, semP, semN, semR, semE, binV, binI, binS, pickE, retsD, retV, V.cells, layAt, V.one, hv, H.get_new, H.get_put, ne1, ne2, hr, stAt, q1, hc]
end Go.Proofs.YtmbpjpffafidhaaGreatDoor
