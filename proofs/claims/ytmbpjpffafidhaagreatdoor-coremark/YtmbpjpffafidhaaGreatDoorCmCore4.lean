/- core.Get's reader: rows. -/
import Derived.Test.YtmbpjpffafidhaaGreatDoorCmCore3
namespace Go.Proofs.YtmbpjpffafidhaaGreatDoor
open Go Go.Ev
set_option maxRecDepth 100000
set_option linter.unusedSimpArgs false
variable {F : Nat → Option FN}
def iiB : BC := (.post (.seq (.reg [o 9 (.bin .lss (.t 3) (.t 2))]) (.seq (.cond (.t 0) .skip (.pre [] [] (.exit 0))) (.seq (.block 1 [0, 1, 7, 8] (.post (.seq (.reg []) (.seq (.reg [o 14 (.ia 1 (.t 1) (.t 4)), o 15 (.ld (.t 0)), o 16 (.bin .eql (.t 4) (.t 0))]) (.cond (.t 0) (.seq (.reg []) (.ret [.mv (.t 7)])) .skip))) [0, 1, 7, 8] [4, 5, 6, 7])) (.reg [o 18 (.bin .add (.t 3) (.k (.i .i64 1)))])))) [0, 1, 7, 8] [1, 2, 3, 0])
theorem c_ii : c289 = (.seq (.reg [o 4 (.mv (.k (.i .i64 0)))]) (.seq (.seq (.reg [o 7 (.len false (.t 1)), o 8 (.mv (.k (.i .i64 0)))]) (.block 0 [] (.pre [0, 1, 7, 8] [3, 4, 1, 0] (.loop iiB)))) (.seq (.reg [o 4 (.mv (.k (.i .i64 (-1))))]) (.ret [.mv (.t 0)])))) := rfl
theorem ii_run (k : WKC F) {h : H} {B N : Nat} {v : Int} {cs : List V} (hb : h.get B = some (.c (.i .i64 v :: cs) 0 0)) (hN : 0 < N) (n d : Nat) (hn : 1000 < n) : callD F n (d + 1) 289 [.sl B 0 N N 0, .i .i64 v] h = some (.i .i64 0, h) := by
  obtain ⟨m, rfl⟩ : ∃ q, n = q + 1 := ⟨n - 1, by omega⟩
  have e1 : idx 0 N = some 0 := by
    unfold idx
    rw [if_pos (by omega)]
    rfl
  have e2 : (0 : Int) < N := by omega
  have hl : loopD (execD (callD F (m + 1) d) (m + 1) iiB) (m + 1) [.sl B 0 N N 0, .i .i64 v, .i .i64 (N : Nat), .i .i64 0] h = some (.ret (.i .i64 0), h) := by
    have hb1 : execD (callD F (m + 1) d) (m + 1) iiB [.sl B 0 N N 0, .i .i64 v, .i .i64 (N : Nat), .i .i64 0] h = some (.ret (.i .i64 0), h) := by
      simp [iiB, execD, runB_op, runB_nil, stepB, guardA, o, semAll, AO.map, AO.cls, evX, tmE, pushE, semP, semN, semR, semE, binV, binI, binS, pickE, retsD, retV, e1, e2, hN, hb]
    rw [loopD_one, hb1]
  refine callD_code k.idxI rfl ?_
  simp [c_ii, execD, runB_op, runB_nil, stepB, guardA, o, semAll, AO.map, AO.cls, evX, tmE, pushE, semP, semN, semR, semE, binV, binI, binS, pickE, retsD, retV, hl]
theorem many_run (k : WKC F) {h : H} {R q : Nat} {r : RD} (a : RdAt h R q r) {W w0 len cap : Nat} (hl : r.l = .sl W w0 len cap 0) {B N : Nat} {cs : List V} (hb : h.get B = some (.c (.i .i64 (len : Int) :: cs) 0 0)) (hN : 0 < N) (n d : Nat) (hn : 1000 < n) :
    callD F n (d + 3) 185 [.p R 0, .sl B 0 N N 0] h = some (.tu [], h) := by
  have hc : callD F n (d + 2) 249 [.sl B 0 N N 0, .i .i64 (len : Int)] h = some (.b true, h) := by
    have h1 := ii_run k hb hN n d hn
    refine callD_code k.conI rfl ?_
    simp [c249, execD, runB_op, runB_nil, stepB, guardA, o, semAll, AO.map, AO.cls, evX, tmE, pushE, semP, semN, semR, semE, binV, binI, binS, pickE, retsD, retV, h1]
  have hf := fails_no k R (.i .i64 1) h n (d + 1)
  have hr := a.get
  refine callD_code k.many rfl ?_
  simp [c185, h185, execD, runB_op, runB_nil, stepB, guardA, o, semAll, AO.map, AO.cls, evX, tmE, pushE, semP, semN, semR, semE, binV, binI, binS, pickE, retsD, retV, unV, hr, RD.cells, hl, hc, hf]
def markerL : List Nat := [39, 77, 65, 82, 75, 69, 82, 39]
def kindsL : List (List Nat) := [[78], [76], [69], [71]]
/-- The row of costs. -/
theorem row_obj (k : WKC F) {h : H} {R q : Nat} {r : RD} (a : RdAt h R q r) {W w0 : Nat} {t : List Nat} (w : WordsAt h r.l W w0 [[78], t]) (ht : nameB t = true) (htm : t ≠ markerL) (hob : r.ob = []) {clk : Nat} (mp : MapAt h r.mr [] clk) (h1 : R ≠ r.mr) (h2 : W ≠ R) (n d : Nat) (hn : 1000 < n) :
    ∃ h', callD F n (d + 5) 125 [.p R 0] h = some (.tu [], h') ∧ Mod [R, r.mr] h h' ∧ RdAt h' R q { r with ob := t, l := restV W (w0 + 1) [] } ∧ MapAt h' r.mr [(.s t, .i .i64 (-1), clk)] (clk + 1) := by
  let g1 := h.new (.c [.i .i64 2] 0 0)
  let g2 := g1.new (.c (strs kindsL) 0 0)
  have m1 : Mod [] h g1 := Mod.new [] h _
  have m2 : Mod [] h g2 := m1.trans (Mod.new [] g1 _)
  have a1 := a.mod m1 (by simp)
  have a2 := a.mod m2 (by simp)
  have w2 := w.mod m2 (by simp)
  have hRlt := a.lt
  have hWlt := w.lt
  have c1 := many_run k a1 w.val (B := h.nx) (N := 1) (cs := []) (by show (h.new _).get h.nx = _; rw [H.get_new, if_pos rfl]; rfl) (by omega) n (d + 1) hn
  obtain ⟨g3, c3, m3, a3, n3⟩ := word_at k a2 w2 n (d + 2)
  have n2 : g2.nx = h.nx + 2 := rfl
  have hk : g3.get (h.nx + 1) = some (.c (strs kindsL) 0 0) := by
    rw [m3.get (h.nx + 1) (by omega) (by simp; omega)]
    show (g1.new _).get (h.nx + 1) = _
    rw [H.get_new]
    exact if_pos rfl
  have c4 : callD F n (d + 4) 182 [.sl (h.nx + 1) 0 4 4 0, .s [78]] g3 = some (.i .i64 0, g3) := ixs_run k [78] (all := kindsL) hk (by decide) n (d + 3) hn
  have f3 := fun e => fails_no k R e g3 n (d + 3)
  have w3 : WordsAt g3 (restV W w0 [t]) W (w0 + 1) [t] := w2.rest (by simp) (by rw [m3.get W w2.lt (by simpa using h2)]) m3.le
  obtain ⟨g4, c5, m4, a4, n4⟩ := word_at k a3 w3 n (d + 2)
  obtain ⟨_, ht2, _⟩ := name_chars' ht
  obtain ⟨g5, c6, x5⟩ := name_run k.toWKN t (by omega) g4 n d (by omega)
  rw [ht] at c6
  have f5 := fun e => fails_no k R e g5 n (d + 3)
  have m24 : Mod [R] g2 g4 := m3.trans m4
  have m05 : Mod [R] h g5 := ((m2.weak (by simp)).trans m24).trans (x5.mod _)
  have hr3 := a3.get
  have hr4 := a4.get
  have hr5 : g5.get R = some (.c ({ r with l := restV W (w0 + 1) [] } : RD).cells 0 q) := by rw [x5.get R a4.lt]; exact hr4
  have he := a.e
  have q1 : ¬ 2 ≤ q % 4 := by have := a.q0; omega
  have hmr4 : g4.get r.mr = some (.mp [] clk) := by
    rw [m24.get r.mr (by have := mp.2; omega) (by simp; omega), (mp.mod m2 (by simp)).1]
  have hmr5 : g5.get r.mr = some (.mp [] clk) := by rw [m05.get r.mr mp.2 (by simp; omega), mp.1]
  have hr0 : restV W (w0 + 1) [] = .sl W (w0 + 1) 0 0 0 := rfl
  simp only [RD.cells, hob, he, hr0] at hr3 hr4 hr5
  let g6 := g5.put R (some (.c ({ r with ob := t, l := restV W (w0 + 1) [] } : RD).cells 0 q))
  let g7 := g6.put r.mr (some (.mp [(.s t, .i .i64 0, clk)] (clk + 1)))
  let g8 := g7.put r.mr (some (.mp [(.s t, .i .i64 (-1), clk)] (clk + 1)))
  have hlt5 : h.nx ≤ g5.nx := m05.le
  refine ⟨g8, ?_, ?_, ⟨?_, a.q0, ?_, a.e⟩, ⟨?_, ?_⟩⟩
  · refine callD_code k.row rfl ?_
    have hk0 : (t == markerL) = false := by simpa using htm
    simp only [markerL] at hk0
    simp only [g1] at c1
    simp only [g2, g1, kindsL, strs, List.map_cons, List.map_nil] at c3
    have q2 : Ne r.mr R := Ne.symm h1
    simp [c125, h125, execD, runB_op, runB_nil, stepB, guardA, o, semAll, AO.map, AO.cls, evX, tmE, pushE, semP, semN, semR, semE, binV, binI, binS, pickE, retsD, retV, unV, fillV, layAt, V.cells, rept, V.one, c1, c3, c4, f3, c5, c6, f5, hr3, hr4, hr5, hob, he, hr0, hmr4, hmr5, keyOk, findE, hk0, stAt, q1, H.get_put, h1, q2, setE, g8, g7, g6, RD.cells]
  · exact (((m05.weak (by simp)).trans (Mod.put _ (by simp))).trans (Mod.put _ (by simp))).trans (Mod.put _ (by simp))
  · show (g7.put r.mr _).get R = _
    rw [H.get_put, if_neg h1]
    show (g6.put r.mr _).get R = _
    rw [H.get_put, if_neg h1]
    show (g5.put R _).get R = _
    rw [H.get_put, if_pos rfl]
  · show R < g5.nx
    omega
  · show (g7.put r.mr _).get r.mr = _
    rw [H.get_put, if_pos rfl]
  · show r.mr < g5.nx
    have := mp.2
    omega
/-- A row, the first one. -/
theorem row_first (k : WKC F) {h : H} {R q : Nat} {r : RD} (a : RdAt h R q r) {W w0 : Nat} {t ob : List Nat} (w : WordsAt h r.l W w0 [[76], t]) (ht : nameB t = true) (htm : t ≠ markerL) (hto : t ≠ ob) (hrw : r.rw = .sn) {clk : Nat} (mp : MapAt h r.mr [(.s ob, .i .i64 (-1), 0)] clk) (h1 : R ≠ r.mr) (h2 : W ≠ R) (n d : Nat) (hn : 1000 < n) :
    ∃ h' B, callD F n (d + 5) 125 [.p R 0] h = some (.tu [], h') ∧ Mod [R, r.mr] h h' ∧ RdAt h' R q { r with rw := .sl B 0 1 1 5, l := restV W (w0 + 1) [] } ∧ MapAt h' r.mr [(.s ob, .i .i64 (-1), 0), (.s t, .i .i64 0, clk)] (clk + 1) ∧
      h'.get B = some (.c [.s t, .i .i64 1, .sn, .s [48], .s []] 0 188) ∧ h.nx ≤ B ∧ B < h'.nx := by
  let g1 := h.new (.c [.i .i64 2] 0 0)
  let g2 := g1.new (.c (strs kindsL) 0 0)
  have m1 : Mod [] h g1 := Mod.new [] h _
  have m2 : Mod [] h g2 := m1.trans (Mod.new [] g1 _)
  have a1 := a.mod m1 (by simp)
  have a2 := a.mod m2 (by simp)
  have w2 := w.mod m2 (by simp)
  have hRlt := a.lt
  have hWlt := w.lt
  have c1 := many_run k a1 w.val (B := h.nx) (N := 1) (cs := []) (by show (h.new _).get h.nx = _; rw [H.get_new, if_pos rfl]; rfl) (by omega) n (d + 1) hn
  obtain ⟨g3, c3, m3, a3, n3⟩ := word_at k a2 w2 n (d + 2)
  have n2 : g2.nx = h.nx + 2 := rfl
  have hk : g3.get (h.nx + 1) = some (.c (strs kindsL) 0 0) := by
    rw [m3.get (h.nx + 1) (by omega) (by simp; omega)]
    show (g1.new _).get (h.nx + 1) = _
    rw [H.get_new]
    exact if_pos rfl
  have c4 : callD F n (d + 4) 182 [.sl (h.nx + 1) 0 4 4 0, .s [76]] g3 = some (.i .i64 1, g3) := ixs_run k [76] (all := kindsL) hk (by decide) n (d + 3) hn
  have f3 := fun e => fails_no k R e g3 n (d + 3)
  have w3 : WordsAt g3 (restV W w0 [t]) W (w0 + 1) [t] := w2.rest (by simp) (by rw [m3.get W w2.lt (by simpa using h2)]) m3.le
  obtain ⟨g4, c5, m4, a4, n4⟩ := word_at k a3 w3 n (d + 2)
  obtain ⟨_, ht2, _⟩ := name_chars' ht
  obtain ⟨g5, c6, x5⟩ := name_run k.toWKN t (by omega) g4 n d (by omega)
  rw [ht] at c6
  have f5 := fun e => fails_no k R e g5 n (d + 3)
  have m24 : Mod [R] g2 g4 := m3.trans m4
  have m05 : Mod [R] h g5 := ((m2.weak (by simp)).trans m24).trans (x5.mod _)
  have hr3 := a3.get
  have hr4 := a4.get
  have hr5 : g5.get R = some (.c ({ r with l := restV W (w0 + 1) [] } : RD).cells 0 q) := by rw [x5.get R a4.lt]; exact hr4
  have he := a.e
  have q1 : ¬ 2 ≤ q % 4 := by have := a.q0; omega
  have hmr4 : g4.get r.mr = some (.mp [(.s ob, .i .i64 (-1), 0)] clk) := by
    rw [m24.get r.mr (by have := mp.2; omega) (by simp; omega), (mp.mod m2 (by simp)).1]
  have hmr5 : g5.get r.mr = some (.mp [(.s ob, .i .i64 (-1), 0)] clk) := by rw [m05.get r.mr mp.2 (by simp; omega), mp.1]
  have hr0 : restV W (w0 + 1) [] = .sl W (w0 + 1) 0 0 0 := rfl
  simp only [RD.cells, hrw, he, hr0] at hr3 hr4 hr5
  let row : List V := [.s t, .i .i64 1, .sn, .s [48], .s []]
  let g6 := g5.put r.mr (some (.mp [(.s ob, .i .i64 (-1), 0), (.s t, .i .i64 0, clk)] (clk + 1)))
  let g7 := g6.new (.c row 0 0)
  let g8 := g7.new (.c row 0 188)
  let g9 := g8.put R (some (.c ({ r with rw := .sl (g5.nx + 1) 0 1 1 5, l := restV W (w0 + 1) [] } : RD).cells 0 q))
  have hlt5 : h.nx ≤ g5.nx := m05.le
  have q2 : Ne r.mr R := Ne.symm h1
  have hmlt := mp.2
  refine ⟨g9, g5.nx + 1, ?_, ?_, ⟨?_, a.q0, ?_, a.e⟩, ⟨?_, ?_⟩, ?_, by omega, by show g5.nx + 1 < g5.nx + 2; omega⟩
  · refine callD_code k.row rfl ?_
    have hk0 : (t == markerL) = false := by simpa using htm
    simp only [markerL] at hk0
    simp only [g1] at c1
    simp only [g2, g1, kindsL, strs, List.map_cons, List.map_nil] at c3
    have hne : (t == ob) = false := by simpa using hto
    have q3 : ¬ R = g5.nx := by omega
    have q4 : ¬ R = g5.nx + 1 := by omega
    simp [c125, h125, execD, runB_op, runB_nil, stepB, guardA, o, semAll, AO.map, AO.cls, evX, tmE, pushE, semP, semN, semR, semE, binV, binI, binS, pickE, retsD, retV, unV, fillV, layAt, V.cells, rept, V.one, c1, c3, c4, f3, c5, c6, f5, hr3, hr4, hr5, hrw, he, hr0, hmr4, hmr5, keyOk, findE, keyEq, hne, hto, hk0, stAt, q1, H.get_put, H.get_new, h1, q2, q3, q4, srcOf, cellsAt, g9, g8, g7, g6, row, RD.cells]
  · have e1 := (m05.weak (S' := [R, r.mr]) (by simp)).trans (Mod.put (B := r.mr) (some (.mp [(.s ob, .i .i64 (-1), 0), (.s t, .i .i64 0, clk)] (clk + 1))) (by simp))
    exact ((e1.trans (Mod.new _ _ _)).trans (Mod.new _ _ _)).trans (Mod.put _ (by simp))
  · show (g8.put R _).get R = _
    rw [H.get_put, if_pos rfl]
  · show R < g5.nx + 2
    omega
  · show (g8.put R _).get r.mr = _
    rw [H.get_put, if_neg q2]
    show (g7.new _).get r.mr = _
    rw [H.get_new, if_neg (by show ¬ r.mr = g5.nx + 1; omega)]
    show (g6.new _).get r.mr = _
    rw [H.get_new, if_neg (by show ¬ r.mr = g5.nx; omega)]
    show (g5.put r.mr _).get r.mr = _
    rw [H.get_put, if_pos rfl]
  · show r.mr < g5.nx + 2
    omega
  · show (g8.put R _).get (g5.nx + 1) = _
    rw [H.get_put, if_neg (by omega)]
    show (g7.new _).get (g5.nx + 1) = _
    rw [H.get_new]
    exact if_pos rfl
end Go.Proofs.YtmbpjpffafidhaaGreatDoor
