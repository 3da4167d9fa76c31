/- core.Get's reader: heads. -/
import Derived.Test.YtmbpjpffafidhaaGreatDoorCmCore2
namespace Go.Proofs.YtmbpjpffafidhaaGreatDoor
open Go Go.Ev
set_option maxRecDepth 100000
set_option linter.unusedSimpArgs false
variable {F : Nat → Option FN}
theorem head_1_2 (k : WKC F) {h : H} {R q : Nat} {r : RD} (a : RdAt h R q r) {W w0 : Nat} {s : List Nat} (w : WordsAt h r.l W w0 [s]) (hs : ixOf s headsL 0 = 2) (hat : r.at_ = 1) (hob : r.ob ≠ [] ∨ 2 ≠ 3) {es : List (V × V × Nat)} {clk : Nat} (mp : MapAt h r.ms es clk) (h1 : R ≠ r.ms) (h2 : W ≠ R) (n d : Nat) (hn : 1000 < n) :
    ∃ h', callD F n (d + 3) 124 [.p R 0] h = some (.tu [], h') ∧ Mod [R, r.ms] h h' ∧ RdAt h' R q { r with at_ := 2, l := restV W w0 [] } ∧ MapAt h' r.ms [] clk ∧ h'.nx = h.nx + 1 := by
  have m1 := Mod.new [] h (.c (strs headsL) 0 0)
  obtain ⟨g2, c2, m2, a2, n2⟩ := word_at k (a.mod m1 (by simp)) (w.mod m1 (by simp)) n d
  have hg : g2.get h.nx = some (.c (strs headsL) 0 0) := by
    have hR := a.lt
    rw [m2.get h.nx (by simp) (by simp; omega), H.get_new, if_pos rfl]
  have c3 := index_head k hg s n (d + 1) hn
  rw [hs] at c3
  have hf := fun e => fails_no k R e g2 n (d + 1)
  have hr2 := a2.get
  have he := a2.e
  simp only [RD.cells, hat] at hr2 he
  have mp2 : MapAt g2 r.ms es clk := (mp.mod m1 (by simp)).mod m2 (by simp; omega)
  have q1 : ¬ 2 ≤ q % 4 := by have := a.q0; omega
  have hms : (g2.put R (some (.c ({ r with at_ := 2, l := restV W w0 [] } : RD).cells 0 q))).get r.ms = some (.mp es clk) := by rw [H.get_put, if_neg (Ne.symm h1), mp2.1]
  simp only [RD.cells] at hms
  have hr0 : restV W w0 [] = .sl W w0 0 0 0 := rfl
  refine ⟨(g2.put R (some (.c ({ r with at_ := 2, l := restV W w0 [] } : RD).cells 0 q))).put r.ms (some (.mp [] clk)), ?_, ?_, ⟨?_, a.q0, ?_, a.e⟩, ⟨by rw [H.get_put, if_pos rfl], ?_⟩, ?_⟩
  · refine callD_code k.head rfl ?_
    have hobb : (2 : Int) = 3 → (r.ob == []) = false := by
      intro hx
      rcases hob with hob | hob
      · simpa using hob
      · omega
    have hwr : IntKind.i64.wrap (1 + 1) = 1 + 1 := wrap_mid (by omega) (by omega)
    have hwr2 : IntKind.i64.wrap 2 = 2 := wrap_mid (by omega) (by omega)
    simp [c124, hwr, hwr2, h124, execD, runB_op, runB_nil, stepB, guardA, o, semAll, AO.map, AO.cls, evX, tmE, pushE, semP, semN, semR, semE, binV, binI, binS, pickE, retsD, retV, unV, heads_run k, c2, c3, hf, hr2, hr0, he, stAt, q1, layAt, V.one, RD.cells, H.get_put, hobb, hms, h1, Ne.symm h1, mp2.1]
  · have mm := (m1.weak (S' := [R, r.ms]) (by simp)).trans (m2.weak (S' := [R, r.ms]) (by simp))
    exact (mm.trans (Mod.put _ (by simp))).trans (Mod.put _ (by simp))
  · rw [H.get_put, if_neg h1, H.get_put, if_pos rfl]
  · show R < g2.nx
    have := a.lt
    have := m1.le
    have := m2.le
    omega
  · exact mp2.2
  · show g2.nx = _
    rw [n2]
    rfl
theorem head_2_3 (k : WKC F) {h : H} {R q : Nat} {r : RD} (a : RdAt h R q r) {W w0 : Nat} {s : List Nat} (w : WordsAt h r.l W w0 [s]) (hs : ixOf s headsL 0 = 3) (hat : r.at_ = 2) (hob : r.ob ≠ [] ∨ 3 ≠ 3) {es : List (V × V × Nat)} {clk : Nat} (mp : MapAt h r.ms es clk) (h1 : R ≠ r.ms) (h2 : W ≠ R) (n d : Nat) (hn : 1000 < n) :
    ∃ h', callD F n (d + 3) 124 [.p R 0] h = some (.tu [], h') ∧ Mod [R, r.ms] h h' ∧ RdAt h' R q { r with at_ := 3, l := restV W w0 [] } ∧ MapAt h' r.ms [] clk ∧ h'.nx = h.nx + 1 := by
  have m1 := Mod.new [] h (.c (strs headsL) 0 0)
  obtain ⟨g2, c2, m2, a2, n2⟩ := word_at k (a.mod m1 (by simp)) (w.mod m1 (by simp)) n d
  have hg : g2.get h.nx = some (.c (strs headsL) 0 0) := by
    have hR := a.lt
    rw [m2.get h.nx (by simp) (by simp; omega), H.get_new, if_pos rfl]
  have c3 := index_head k hg s n (d + 1) hn
  rw [hs] at c3
  have hf := fun e => fails_no k R e g2 n (d + 1)
  have hr2 := a2.get
  have he := a2.e
  simp only [RD.cells, hat] at hr2 he
  have mp2 : MapAt g2 r.ms es clk := (mp.mod m1 (by simp)).mod m2 (by simp; omega)
  have q1 : ¬ 2 ≤ q % 4 := by have := a.q0; omega
  have hms : (g2.put R (some (.c ({ r with at_ := 3, l := restV W w0 [] } : RD).cells 0 q))).get r.ms = some (.mp es clk) := by rw [H.get_put, if_neg (Ne.symm h1), mp2.1]
  simp only [RD.cells] at hms
  have hr0 : restV W w0 [] = .sl W w0 0 0 0 := rfl
  refine ⟨(g2.put R (some (.c ({ r with at_ := 3, l := restV W w0 [] } : RD).cells 0 q))).put r.ms (some (.mp [] clk)), ?_, ?_, ⟨?_, a.q0, ?_, a.e⟩, ⟨by rw [H.get_put, if_pos rfl], ?_⟩, ?_⟩
  · refine callD_code k.head rfl ?_
    have hobb : (3 : Int) = 3 → (r.ob == []) = false := by
      intro hx
      rcases hob with hob | hob
      · simpa using hob
      · omega
    have hwr : IntKind.i64.wrap (2 + 1) = 2 + 1 := wrap_mid (by omega) (by omega)
    have hwr2 : IntKind.i64.wrap 3 = 3 := wrap_mid (by omega) (by omega)
    simp [c124, hwr, hwr2, h124, execD, runB_op, runB_nil, stepB, guardA, o, semAll, AO.map, AO.cls, evX, tmE, pushE, semP, semN, semR, semE, binV, binI, binS, pickE, retsD, retV, unV, heads_run k, c2, c3, hf, hr2, hr0, he, stAt, q1, layAt, V.one, RD.cells, H.get_put, hobb, hms, h1, Ne.symm h1, mp2.1]
  · have mm := (m1.weak (S' := [R, r.ms]) (by simp)).trans (m2.weak (S' := [R, r.ms]) (by simp))
    exact (mm.trans (Mod.put _ (by simp))).trans (Mod.put _ (by simp))
  · rw [H.get_put, if_neg h1, H.get_put, if_pos rfl]
  · show R < g2.nx
    have := a.lt
    have := m1.le
    have := m2.le
    omega
  · exact mp2.2
  · show g2.nx = _
    rw [n2]
    rfl
theorem head_3_4 (k : WKC F) {h : H} {R q : Nat} {r : RD} (a : RdAt h R q r) {W w0 : Nat} {s : List Nat} (w : WordsAt h r.l W w0 [s]) (hs : ixOf s headsL 0 = 4) (hat : r.at_ = 3) (hob : r.ob ≠ [] ∨ 4 ≠ 3) {es : List (V × V × Nat)} {clk : Nat} (mp : MapAt h r.ms es clk) (h1 : R ≠ r.ms) (h2 : W ≠ R) (n d : Nat) (hn : 1000 < n) :
    ∃ h', callD F n (d + 3) 124 [.p R 0] h = some (.tu [], h') ∧ Mod [R, r.ms] h h' ∧ RdAt h' R q { r with at_ := 4, l := restV W w0 [] } ∧ MapAt h' r.ms [] clk ∧ h'.nx = h.nx + 1 := by
  have m1 := Mod.new [] h (.c (strs headsL) 0 0)
  obtain ⟨g2, c2, m2, a2, n2⟩ := word_at k (a.mod m1 (by simp)) (w.mod m1 (by simp)) n d
  have hg : g2.get h.nx = some (.c (strs headsL) 0 0) := by
    have hR := a.lt
    rw [m2.get h.nx (by simp) (by simp; omega), H.get_new, if_pos rfl]
  have c3 := index_head k hg s n (d + 1) hn
  rw [hs] at c3
  have hf := fun e => fails_no k R e g2 n (d + 1)
  have hr2 := a2.get
  have he := a2.e
  simp only [RD.cells, hat] at hr2 he
  have mp2 : MapAt g2 r.ms es clk := (mp.mod m1 (by simp)).mod m2 (by simp; omega)
  have q1 : ¬ 2 ≤ q % 4 := by have := a.q0; omega
  have hms : (g2.put R (some (.c ({ r with at_ := 4, l := restV W w0 [] } : RD).cells 0 q))).get r.ms = some (.mp es clk) := by rw [H.get_put, if_neg (Ne.symm h1), mp2.1]
  simp only [RD.cells] at hms
  have hr0 : restV W w0 [] = .sl W w0 0 0 0 := rfl
  refine ⟨(g2.put R (some (.c ({ r with at_ := 4, l := restV W w0 [] } : RD).cells 0 q))).put r.ms (some (.mp [] clk)), ?_, ?_, ⟨?_, a.q0, ?_, a.e⟩, ⟨by rw [H.get_put, if_pos rfl], ?_⟩, ?_⟩
  · refine callD_code k.head rfl ?_
    have hobb : (4 : Int) = 3 → (r.ob == []) = false := by
      intro hx
      rcases hob with hob | hob
      · simpa using hob
      · omega
    have hwr : IntKind.i64.wrap (3 + 1) = 3 + 1 := wrap_mid (by omega) (by omega)
    have hwr2 : IntKind.i64.wrap 4 = 4 := wrap_mid (by omega) (by omega)
    simp [c124, hwr, hwr2, h124, execD, runB_op, runB_nil, stepB, guardA, o, semAll, AO.map, AO.cls, evX, tmE, pushE, semP, semN, semR, semE, binV, binI, binS, pickE, retsD, retV, unV, heads_run k, c2, c3, hf, hr2, hr0, he, stAt, q1, layAt, V.one, RD.cells, H.get_put, hobb, hms, h1, Ne.symm h1, mp2.1]
  · have mm := (m1.weak (S' := [R, r.ms]) (by simp)).trans (m2.weak (S' := [R, r.ms]) (by simp))
    exact (mm.trans (Mod.put _ (by simp))).trans (Mod.put _ (by simp))
  · rw [H.get_put, if_neg h1, H.get_put, if_pos rfl]
  · show R < g2.nx
    have := a.lt
    have := m1.le
    have := m2.le
    omega
  · exact mp2.2
  · show g2.nx = _
    rw [n2]
    rfl
theorem head_4_7 (k : WKC F) {h : H} {R q : Nat} {r : RD} (a : RdAt h R q r) {W w0 : Nat} {s : List Nat} (w : WordsAt h r.l W w0 [s]) (hs : ixOf s headsL 0 = 7) (hat : r.at_ = 4) (hob : r.ob ≠ [] ∨ 7 ≠ 3) {es : List (V × V × Nat)} {clk : Nat} (mp : MapAt h r.ms es clk) (h1 : R ≠ r.ms) (h2 : W ≠ R) (n d : Nat) (hn : 1000 < n) :
    ∃ h', callD F n (d + 3) 124 [.p R 0] h = some (.tu [], h') ∧ Mod [R, r.ms] h h' ∧ RdAt h' R q { r with at_ := 7, l := restV W w0 [] } ∧ MapAt h' r.ms [] clk ∧ h'.nx = h.nx + 1 := by
  have m1 := Mod.new [] h (.c (strs headsL) 0 0)
  obtain ⟨g2, c2, m2, a2, n2⟩ := word_at k (a.mod m1 (by simp)) (w.mod m1 (by simp)) n d
  have hg : g2.get h.nx = some (.c (strs headsL) 0 0) := by
    have hR := a.lt
    rw [m2.get h.nx (by simp) (by simp; omega), H.get_new, if_pos rfl]
  have c3 := index_head k hg s n (d + 1) hn
  rw [hs] at c3
  have hf := fun e => fails_no k R e g2 n (d + 1)
  have hr2 := a2.get
  have he := a2.e
  simp only [RD.cells, hat] at hr2 he
  have mp2 : MapAt g2 r.ms es clk := (mp.mod m1 (by simp)).mod m2 (by simp; omega)
  have q1 : ¬ 2 ≤ q % 4 := by have := a.q0; omega
  have hms : (g2.put R (some (.c ({ r with at_ := 7, l := restV W w0 [] } : RD).cells 0 q))).get r.ms = some (.mp es clk) := by rw [H.get_put, if_neg (Ne.symm h1), mp2.1]
  simp only [RD.cells] at hms
  have hr0 : restV W w0 [] = .sl W w0 0 0 0 := rfl
  refine ⟨(g2.put R (some (.c ({ r with at_ := 7, l := restV W w0 [] } : RD).cells 0 q))).put r.ms (some (.mp [] clk)), ?_, ?_, ⟨?_, a.q0, ?_, a.e⟩, ⟨by rw [H.get_put, if_pos rfl], ?_⟩, ?_⟩
  · refine callD_code k.head rfl ?_
    have hobb : (7 : Int) = 3 → (r.ob == []) = false := by
      intro hx
      rcases hob with hob | hob
      · simpa using hob
      · omega
    have hwr : IntKind.i64.wrap (4 + 1) = 4 + 1 := wrap_mid (by omega) (by omega)
    have hwr2 : IntKind.i64.wrap 5 = 5 := wrap_mid (by omega) (by omega)
    simp [c124, hwr, hwr2, h124, execD, runB_op, runB_nil, stepB, guardA, o, semAll, AO.map, AO.cls, evX, tmE, pushE, semP, semN, semR, semE, binV, binI, binS, pickE, retsD, retV, unV, heads_run k, c2, c3, hf, hr2, hr0, he, stAt, q1, layAt, V.one, RD.cells, H.get_put, hobb, hms, h1, Ne.symm h1, mp2.1]
  · have mm := (m1.weak (S' := [R, r.ms]) (by simp)).trans (m2.weak (S' := [R, r.ms]) (by simp))
    exact (mm.trans (Mod.put _ (by simp))).trans (Mod.put _ (by simp))
  · rw [H.get_put, if_neg h1, H.get_put, if_pos rfl]
  · show R < g2.nx
    have := a.lt
    have := m1.le
    have := m2.le
    omega
  · exact mp2.2
  · show g2.nx = _
    rw [n2]
    rfl
theorem head_name (k : WKC F) {h : H} {R q : Nat} {r : RD} (a : RdAt h R q r) {W w0 : Nat} {s t : List Nat} (w : WordsAt h r.l W w0 [s, t]) (hs : ixOf s headsL 0 = 1) (ht : nameB t = true) (hat : r.at_ = 0) {es : List (V × V × Nat)} {clk : Nat} (mp : MapAt h r.ms es clk) (h1 : R ≠ r.ms) (h2 : W ≠ R) (n d : Nat) (hn : 1000 < n) :
    ∃ h', callD F n (d + 5) 124 [.p R 0] h = some (.tu [], h') ∧ Mod [R, r.ms] h h' ∧ RdAt h' R q { r with nm := t, at_ := 1, l := restV W (w0 + 1) [] } ∧ MapAt h' r.ms [] clk := by
  have m1 := Mod.new [] h (.c (strs headsL) 0 0)
  obtain ⟨g2, c2, m2, a2, n2⟩ := word_at k (a.mod m1 (by simp)) (w.mod m1 (by simp)) n (d + 2)
  have hRlt := a.lt
  have hg : g2.get h.nx = some (.c (strs headsL) 0 0) := by
    rw [m2.get h.nx (by simp) (by simp; omega), H.get_new, if_pos rfl]
  have c3 := index_head k hg s n (d + 3) hn
  rw [hs] at c3
  have hf := fun e => fails_no k R e g2 n (d + 3)
  have w2 : WordsAt g2 (restV W w0 [t]) W (w0 + 1) [t] := (w.mod m1 (by simp)).rest (by simp) (by rw [m2.get W (by have := w.lt; simp; omega) (by simpa using h2)]) m2.le
  obtain ⟨g3, c4, m3, a3, n3⟩ := word_at k (r := { r with l := restV W w0 [t] }) a2 w2 n (d + 2)
  have hr2 := a2.get
  have he := a2.e
  simp only [RD.cells, hat] at hr2 he
  have q1 : ¬ 2 ≤ q % 4 := by have := a.q0; omega
  let r4 : RD := { r with nm := t, l := restV W (w0 + 1) [] }
  let g4 := g3.put R (some (.c r4.cells 0 q))
  have hf4 := fun e => fails_no k R e g4 n (d + 3)
  obtain ⟨hwt1, hwt2, hwt3⟩ := name_chars' ht
  obtain ⟨g5, c5, x5⟩ := name_run k.toWKN t (by omega) g4 n d (by omega)
  rw [ht] at c5
  have hf5 := fun e => fails_no k R e g5 n (d + 3)
  have hlt4 : R < g4.nx := by
    show R < g3.nx
    have := m1.le
    have := m2.le
    have := m3.le
    omega
  have hr3 := a3.get
  have hr4 : g4.get R = some (.c r4.cells 0 q) := by
    show (g3.put R _).get R = _
    rw [H.get_put, if_pos rfl]
  have hr5 : g5.get R = some (.c r4.cells 0 q) := by rw [x5.get R hlt4, hr4]
  have mp5 : MapAt g5 r.ms es clk := by
    have e1 : MapAt g3 r.ms es clk := ((mp.mod m1 (by simp)).mod m2 (by simp; omega)).mod m3 (by simp; omega)
    have e2 : MapAt g4 r.ms es clk := ⟨by show (g3.put R _).get r.ms = _; rw [H.get_put, if_neg (Ne.symm h1), e1.1], e1.2⟩
    exact e2.mod (x5.mod []) (by simp)
  have hms : (g5.put R (some (.c ({ r4 with at_ := 1 } : RD).cells 0 q))).get r.ms = some (.mp es clk) := by rw [H.get_put, if_neg (Ne.symm h1), mp5.1]
  have hr0 : restV W (w0 + 1) [] = .sl W (w0 + 1) 0 0 0 := rfl
  refine ⟨(g5.put R (some (.c ({ r4 with at_ := 1 } : RD).cells 0 q))).put r.ms (some (.mp [] clk)), ?_, ?_, ⟨?_, a.q0, ?_, a.e⟩, ⟨by rw [H.get_put, if_pos rfl], mp5.2⟩⟩
  · refine callD_code k.head rfl ?_
    have he' : r.e = 0 := he
    simp only [g4, r4, RD.cells, hat, he', hr0] at hf4 hf5 c5 hr2 hr3 hr4 hr5 hms
    have hwr2 : IntKind.i64.wrap 1 = 1 := wrap_mid (by omega) (by omega)
    simp [c124, hwr2, h124, execD, runB_op, runB_nil, stepB, guardA, o, semAll, AO.map, AO.cls, evX, tmE, pushE, semP, semN, semR, semE, binV, binI, binS, pickE, retsD, retV, unV, heads_run k, c2, c3, hf, hr2, he, c4, stAt, q1, layAt, V.one, hr3, H.get_put, hf4, hr0, c5, hf5, hr5, hms, h1, Ne.symm h1, r4, RD.cells, hat]
  · have mm := ((m1.weak (S' := [R, r.ms]) (by simp)).trans (m2.weak (S' := [R, r.ms]) (by simp))).trans (m3.weak (S' := [R, r.ms]) (by simp))
    exact (((mm.trans (Mod.put _ (by simp))).trans (x5.mod _)).trans (Mod.put _ (by simp))).trans (Mod.put _ (by simp))
  · rw [H.get_put, if_neg h1, H.get_put, if_pos rfl]
  · show R < g5.nx
    exact Nat.lt_of_lt_of_le hlt4 x5.le
end Go.Proofs.YtmbpjpffafidhaaGreatDoor
