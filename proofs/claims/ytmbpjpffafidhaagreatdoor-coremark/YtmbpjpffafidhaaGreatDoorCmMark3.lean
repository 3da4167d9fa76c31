/- CoreMark: core.Get of the law's text. -/
import Derived.Test.YtmbpjpffafidhaaGreatDoorCmMark2
namespace Go.Proofs.YtmbpjpffafidhaaGreatDoor
open Go Go.Ev
set_option maxRecDepth 100000
set_option linter.unusedSimpArgs false
variable {F : Nat → Option FN}
theorem cg_row {call : CallF} {n A R q m0 Bl ql cl xl : Nat} {h g : H} {cs : List V} {xs pre post : List Row} {row : Row} {r : RD} (ri : RowsIn h m0 Bl ql cs xs) (hx : xs = pre ++ row :: post)
    (hc : call 58 [.p R 0, .ag [.i .i64 (row.no : Int), .b row.hd, .sl row.w 0 row.ws.length row.ws.length 0]] (lineH h (row.no : Int) row.hd (.sl row.w 0 row.ws.length row.ws.length 0)) = some (.tu [], g)) (hr : g.get R = some (.c r.cells 0 q)) (he : r.e = 0) (hat : r.at_ ≠ 7) :
    execD call n cgB [.p A 0, .p R 0, .sl Bl 0 xs.length cl xl, .i .i64 (xs.length : Nat), .i .i64 (pre.length : Nat)] h = some (.nrm [.p A 0, .p R 0, .sl Bl 0 xs.length cl xl, .i .i64 (xs.length : Nat), .i .i64 ((pre.length + 1 : Nat) : Int)], g) := by
  obtain ⟨c0, c1, c2⟩ := ri.cell pre row post hx
  obtain ⟨v1, _, _⟩ := ri.ok row (by rw [hx]; simp)
  rw [v1] at c2
  have hcl : pre.length * 3 + 3 ≤ cs.length := by
    have := (List.getElem?_eq_some_iff.1 c2).1
    omega
  have few := ri.few
  exact cg_cont (n := n) (A := A) (cl := cl) (xl := xl) (by rw [hx]; simp) (by omega) ri.get c0 c1 c2 hcl rfl hc hr he hat
/-- The reader ahead of the columns. -/
structure PS (hS : H) (m0 : Nat) (h : H) (R q : Nat) (r : RD) (es : List (V × V × Nat)) (clk : Nat) : Prop where
  rd : RdAt h R q r
  mr : MapAt h r.mr es clk
  mc : MapAt h r.mc [] 0
  ms : ∃ es clk, MapAt h r.ms es clk
  n1 : r.mr = m0
  n2 : r.mc = m0 + 1
  n3 : r.ms = m0 + 2
  nR : R = m0 + 3
  fr : ∀ y, y < m0 → h.get y = hS.get y
theorem PS.sec {hS : H} {m0 : Nat} {h : H} {R q : Nat} {r : RD} {es : List (V × V × Nat)} {clk : Nat} (p : PS hS m0 h R q r es clk) (no : Int) (hd : Bool) (v : V) : PS hS m0 (secH h R q r no hd v) R q { r with l := v } es clk := by
  have m := sec_mod h R q r no hd v
  have hR := p.nR
  have h1 := p.n1
  have h2 := p.n2
  have h3 := p.n3
  have hl := p.rd.lt
  obtain ⟨e2, c2, hms⟩ := p.ms
  exact ⟨(sec_rd p.rd no hd v).1, p.mr.mod m (by simp; omega), p.mc.mod m (by simp; omega), ⟨e2, c2, hms.mod m (by simp; omega)⟩, h1, h2, h3, hR, fun y hy => by rw [m.get y (by omega) (by simp; omega), p.fr y hy]⟩
theorem PS.head {hS : H} {m0 : Nat} {h g : H} {R q : Nat} {r r' : RD} {es : List (V × V × Nat)} {clk : Nat} (p : PS hS m0 h R q r es clk) (m : Mod [R, r.ms] h g) (rd : RdAt g R q r') (ms : ∃ es clk, MapAt g r'.ms es clk) (e1 : r'.mr = r.mr) (e2 : r'.mc = r.mc) (e3 : r'.ms = r.ms) : PS hS m0 g R q r' es clk := by
  have hR := p.nR
  have h1 := p.n1
  have h2 := p.n2
  have h3 := p.n3
  have hl := p.rd.lt
  exact ⟨rd, by rw [e1]; exact p.mr.mod m (by simp; omega), by rw [e2]; exact p.mc.mod m (by simp; omega), ms, by rw [e1]; exact h1, by rw [e2]; exact h2, by rw [e3]; exact h3, hR, fun y hy => by rw [m.get y (by omega) (by simp; omega), p.fr y hy]⟩
theorem PS.row {hS : H} {m0 : Nat} {h g : H} {R q : Nat} {r r' : RD} {es es' : List (V × V × Nat)} {clk clk' : Nat} (p : PS hS m0 h R q r es clk) (m : Mod [R, r.mr] h g) (rd : RdAt g R q r') (mr : MapAt g r'.mr es' clk') (e1 : r'.mr = r.mr) (e2 : r'.mc = r.mc) (e3 : r'.ms = r.ms) : PS hS m0 g R q r' es' clk' := by
  have hR := p.nR
  have h1 := p.n1
  have h2 := p.n2
  have h3 := p.n3
  have hl := p.rd.lt
  obtain ⟨e4, c4, hms⟩ := p.ms
  exact ⟨rd, mr, by rw [e2]; exact p.mc.mod m (by simp; omega), ⟨e4, c4, by rw [e3]; exact hms.mod m (by simp; omega)⟩, by rw [e1]; exact h1, by rw [e2]; exact h2, by rw [e3]; exact h3, hR, fun y hy => by rw [m.get y (by omega) (by simp; omega), p.fr y hy]⟩
theorem RowsIn.words {hS : H} {m0 Bl ql : Nat} {cs : List V} {xs : List Row} (ri : RowsIn hS m0 Bl ql cs xs) {row : Row} (hm : row ∈ xs) {ws : List (List Nat)} (hw : row.ws = ws) (hf : ws.length < 1000) {h : H} (hm0 : m0 ≤ h.nx) (hfr : ∀ y, y < m0 → h.get y = hS.get y) : WordsAt h (.sl row.w 0 row.ws.length row.ws.length 0) row.w 0 ws := by
  obtain ⟨_, h2, wc, fz, qw, h3, h4⟩ := ri.ok row hm
  rw [hw] at h4 ⊢
  exact words_at (by rw [hfr _ h2, h3]) h4 (by omega) hf
theorem num_head : numL headL0 1 = [(1, true, [[78, 65, 77, 69], [65]]), (2, true, [[82, 79, 87, 83]]), (3, false, [[78], [111]]), (4, false, [[76], [114]]), (5, true, [[67, 79, 76, 85, 77, 78, 83]])] := by decide
theorem num_tail (no : Nat) : numL tailL0 no = [(no, true, [[82, 72, 83]]), (no + 1, true, [[69, 78, 68, 65, 84, 65]])] := by
  have h1 : headB [82, 72, 83] = true := by decide
  have h2 : headB [69, 78, 68, 65, 84, 65] = true := by decide
  have h3 : fieldsL [82, 72, 83] = [[82, 72, 83]] := by decide
  have h4 : fieldsL [69, 78, 68, 65, 84, 65] = [[69, 78, 68, 65, 84, 65]] := by decide
  simp [tailL0, numL, h1, h2, h3, h4]
section
variable {hS : H} {m0 Bl ql cl xl : Nat} {cs : List V} {xs pre post : List Row} {x : Row} {h : H} {A R q : Nat} {r : RD} {es : List (V × V × Nat)} {clk : Nat}
/-- A line read, the reader behind it. -/
def Stepped (F : Nat → Option FN) (hS : H) (m0 Bl cl xl : Nat) (xs pre : List Row) (A R q : Nat) (h : H) (n d : Nat) (r : RD) (es' : List (V × V × Nat)) (clk' : Nat) (S : List Nat) (P : RD → H → Prop) : Prop :=
  ∃ g r', execD (callD F n (d + 8)) n cgB [.p A 0, .p R 0, .sl Bl 0 xs.length cl xl, .i .i64 (xs.length : Nat), .i .i64 (pre.length : Nat)] h = some (.nrm [.p A 0, .p R 0, .sl Bl 0 xs.length cl xl, .i .i64 (xs.length : Nat), .i .i64 ((pre.length + 1 : Nat) : Int)], g) ∧
    PS hS m0 g R q r' es' clk' ∧ Mod S h g ∧ r'.ig = r.ig ∧ r'.cl = r.cl ∧ P r' g
theorem step_name (k : WKC F) (ri : RowsIn hS m0 Bl ql cs xs) (hx : xs = pre ++ x :: post) (p : PS hS m0 h R q r es clk) (hm0 : m0 ≤ h.nx) (b : x.hd = true) {s t : List Nat} (w : x.ws = [s, t]) (hs : ixOf s headsL 0 = 1) (ht : nameB t = true) (hat : r.at_ = 0) (n d : Nat) (hn : 1000 < n) :
    Stepped F hS m0 Bl cl xl xs pre A R q h n d r es clk [R, r.ms] fun r' _ => r'.at_ = 1 ∧ r'.ob = r.ob ∧ r'.rw = r.rw := by
  have s1 := p.sec (x.no : Int) true (.sl x.w 0 x.ws.length x.ws.length 0)
  obtain ⟨e1, c1, hms⟩ := s1.ms
  have kw := ri.ok x (by rw [hx]; simp)
  have sm := sec_mod h R q r (x.no : Int) true (.sl x.w 0 x.ws.length x.ws.length 0)
  have hR := p.nR
  have h3 := p.n3
  have hle := sm.le
  obtain ⟨g, hc, m, rd, ms⟩ := head_name k s1.rd (ri.words (by rw [hx]; simp) w (by simp) (by omega) s1.fr) hs ht hat hms (by show R ≠ r.ms; omega) (by omega) n (d + 2) hn
  have l := line_head k (sec_rd p.rd (x.no : Int) true _).2 hc rfl
  rw [← b] at l
  exact ⟨g, _, cg_row (n := n) (ri.at_ p.fr) hx l rd.get rd.e (by show (1 : Int) ≠ 7; decide), s1.head m rd ⟨_, _, ms⟩ rfl rfl rfl, (sm.weak (by simp)).trans m, rfl, rfl, rfl, rfl, rfl⟩
theorem step_1_2 (k : WKC F) (ri : RowsIn hS m0 Bl ql cs xs) (hx : xs = pre ++ x :: post) (p : PS hS m0 h R q r es clk) (hm0 : m0 ≤ h.nx) (b : x.hd = true) {s : List Nat} (w : x.ws = [s]) (hs : ixOf s headsL 0 = 2) (hat : r.at_ = 1) (hob : r.ob ≠ [] ∨ 2 ≠ 3) (n d : Nat) (hn : 1000 < n) :
    Stepped F hS m0 Bl cl xl xs pre A R q h n d r es clk [R, r.ms] fun r' _ => r'.at_ = 2 ∧ r'.ob = r.ob ∧ r'.rw = r.rw := by
  have s1 := p.sec (x.no : Int) true (.sl x.w 0 x.ws.length x.ws.length 0)
  obtain ⟨e1, c1, hms⟩ := s1.ms
  have kw := ri.ok x (by rw [hx]; simp)
  have sm := sec_mod h R q r (x.no : Int) true (.sl x.w 0 x.ws.length x.ws.length 0)
  have hR := p.nR
  have h3 := p.n3
  have hle := sm.le
  obtain ⟨g, hc, m, rd, ms, _⟩ := head_1_2 k s1.rd (ri.words (by rw [hx]; simp) w (by simp) (by omega) s1.fr) hs hat hob hms (by show R ≠ r.ms; omega) (by omega) n (d + 4) hn
  have l := line_head k (sec_rd p.rd (x.no : Int) true _).2 hc rfl
  rw [← b] at l
  exact ⟨g, _, cg_row (n := n) (ri.at_ p.fr) hx l rd.get rd.e (by show (2 : Int) ≠ 7; decide), s1.head m rd ⟨_, _, ms⟩ rfl rfl rfl, (sm.weak (by simp)).trans m, rfl, rfl, rfl, rfl, rfl⟩
theorem step_2_3 (k : WKC F) (ri : RowsIn hS m0 Bl ql cs xs) (hx : xs = pre ++ x :: post) (p : PS hS m0 h R q r es clk) (hm0 : m0 ≤ h.nx) (b : x.hd = true) {s : List Nat} (w : x.ws = [s]) (hs : ixOf s headsL 0 = 3) (hat : r.at_ = 2) (hob : r.ob ≠ [] ∨ 3 ≠ 3) (n d : Nat) (hn : 1000 < n) :
    Stepped F hS m0 Bl cl xl xs pre A R q h n d r es clk [R, r.ms] fun r' _ => r'.at_ = 3 ∧ r'.ob = r.ob ∧ r'.rw = r.rw := by
  have s1 := p.sec (x.no : Int) true (.sl x.w 0 x.ws.length x.ws.length 0)
  obtain ⟨e1, c1, hms⟩ := s1.ms
  have kw := ri.ok x (by rw [hx]; simp)
  have sm := sec_mod h R q r (x.no : Int) true (.sl x.w 0 x.ws.length x.ws.length 0)
  have hR := p.nR
  have h3 := p.n3
  have hle := sm.le
  obtain ⟨g, hc, m, rd, ms, _⟩ := head_2_3 k s1.rd (ri.words (by rw [hx]; simp) w (by simp) (by omega) s1.fr) hs hat hob hms (by show R ≠ r.ms; omega) (by omega) n (d + 4) hn
  have l := line_head k (sec_rd p.rd (x.no : Int) true _).2 hc rfl
  rw [← b] at l
  exact ⟨g, _, cg_row (n := n) (ri.at_ p.fr) hx l rd.get rd.e (by show (3 : Int) ≠ 7; decide), s1.head m rd ⟨_, _, ms⟩ rfl rfl rfl, (sm.weak (by simp)).trans m, rfl, rfl, rfl, rfl, rfl⟩
theorem step_obj (k : WKC F) (ri : RowsIn hS m0 Bl ql cs xs) (hx : xs = pre ++ x :: post) (p : PS hS m0 h R q r [] clk) (hm0 : m0 ≤ h.nx) (b : x.hd = false) {t : List Nat} (w : x.ws = [[78], t]) (ht : nameB t = true) (htm : t ≠ markerL) (hat : r.at_ = 2) (hob : r.ob = []) (n d : Nat) (hn : 1000 < n) :
    Stepped F hS m0 Bl cl xl xs pre A R q h n d r [(.s t, .i .i64 (-1), clk)] (clk + 1) [R, r.mr] fun r' _ => r'.at_ = 2 ∧ r'.ob = t ∧ r'.rw = r.rw := by
  have s1 := p.sec (x.no : Int) false (.sl x.w 0 x.ws.length x.ws.length 0)
  have kw := ri.ok x (by rw [hx]; simp)
  have sm := sec_mod h R q r (x.no : Int) false (.sl x.w 0 x.ws.length x.ws.length 0)
  have hR := p.nR
  have h1 := p.n1
  have hle := sm.le
  obtain ⟨g, hc, m, rd, mr⟩ := row_obj k s1.rd (ri.words (by rw [hx]; simp) w (by simp) (by omega) s1.fr) ht htm hob s1.mr (by show R ≠ r.mr; omega) (by omega) n (d + 2) hn
  have l := line_row k (sec_rd p.rd (x.no : Int) false _).2 hat hc rfl
  rw [← b] at l
  exact ⟨g, _, cg_row (n := n) (ri.at_ p.fr) hx l rd.get rd.e (by show r.at_ ≠ 7; rw [hat]; decide), s1.row m rd mr rfl rfl rfl, (sm.weak (by simp)).trans m, rfl, rfl, hat, rfl, rfl⟩
theorem step_row (k : WKC F) (ri : RowsIn hS m0 Bl ql cs xs) (hx : xs = pre ++ x :: post) {ob : List Nat} (p : PS hS m0 h R q r [(.s ob, .i .i64 (-1), 0)] clk) (hm0 : m0 ≤ h.nx) (b : x.hd = false) {t : List Nat} (w : x.ws = [[76], t]) (ht : nameB t = true) (htm : t ≠ markerL) (hto : t ≠ ob) (hat : r.at_ = 2) (hrw : r.rw = .sn) (n d : Nat) (hn : 1000 < n) :
    Stepped F hS m0 Bl cl xl xs pre A R q h n d r [(.s ob, .i .i64 (-1), 0), (.s t, .i .i64 0, clk)] (clk + 1) [R, r.mr] fun r' g => r'.at_ = 2 ∧ r'.ob = r.ob ∧ ∃ Br, r'.rw = .sl Br 0 1 1 5 ∧ g.get Br = some (.c [.s t, .i .i64 1, .sn, .s [48], .s []] 0 188) ∧ h.nx ≤ Br ∧ Br < g.nx := by
  have s1 := p.sec (x.no : Int) false (.sl x.w 0 x.ws.length x.ws.length 0)
  have kw := ri.ok x (by rw [hx]; simp)
  have sm := sec_mod h R q r (x.no : Int) false (.sl x.w 0 x.ws.length x.ws.length 0)
  have hR := p.nR
  have h1 := p.n1
  have hle := sm.le
  obtain ⟨g, Br, hc, m, rd, mr, hrow, lo, hi⟩ := row_first k s1.rd (ri.words (by rw [hx]; simp) w (by simp) (by omega) s1.fr) ht htm hto hrw s1.mr (by show R ≠ r.mr; omega) (by omega) n (d + 2) hn
  have l := line_row k (sec_rd p.rd (x.no : Int) false _).2 hat hc rfl
  rw [← b] at l
  exact ⟨g, _, cg_row (n := n) (ri.at_ p.fr) hx l rd.get rd.e (by show r.at_ ≠ 7; rw [hat]; decide), s1.row m rd mr rfl rfl rfl, (sm.weak (by simp)).trans m, rfl, rfl, hat, rfl, Br, rfl, hrow, Nat.le_trans hle lo, hi⟩
end
/-- The first five lines. -/
theorem begin_run (k : WKC F) {hS : H} {m0 Bl ql cl xl : Nat} {cs : List V} {xs rest : List Row} (ri : RowsIn hS m0 Bl ql cs xs) {x1 x2 x3 x4 x5 : Row} (hxs : xs = [x1, x2, x3, x4, x5] ++ rest) (hl : [x1, x2, x3, x4, x5].map Row.line = numL headL0 1) {A R q : Nat} {r0 : RD} (p0 : PS hS m0 hS R q r0 [] 0) (hm0 : m0 ≤ hS.nx)
    (z1 : r0.at_ = 0) (z2 : r0.ob = []) (z3 : r0.rw = .sn) (z4 : r0.cl = .sn) (z5 : r0.ig = false) (n d m : Nat) (hn : 1000 < n) :
    ∃ g r Br, loopD (execD (callD F n (d + 8)) n cgB) (m + 5) [.p A 0, .p R 0, .sl Bl 0 xs.length cl xl, .i .i64 (xs.length : Nat), .i .i64 0] hS = loopD (execD (callD F n (d + 8)) n cgB) m [.p A 0, .p R 0, .sl Bl 0 xs.length cl xl, .i .i64 (xs.length : Nat), .i .i64 5] g ∧
      CS m0 g R q r [111] [114] Br [] ∧ r.ig = false ∧ (∀ y, y < m0 → g.get y = hS.get y) ∧ hS.nx ≤ g.nx := by
  rw [num_head] at hl
  simp only [List.map_cons, List.map_nil, List.cons.injEq, and_true, Row.line, Prod.mk.injEq] at hl
  obtain ⟨⟨_, b1, w1⟩, ⟨_, b2, w2⟩, ⟨_, b3, w3⟩, ⟨_, b4, w4⟩, ⟨_, b5, w5⟩⟩ := hl
  obtain ⟨g1, r1, t1, p1, m1, i1, k1, at1, ob1, rw1⟩ := step_name (A := A) (cl := cl) (xl := xl) (pre := []) k ri hxs p0 hm0 b1 w1 (by decide) (by decide) z1 n d hn
  have l1 := m1.le
  obtain ⟨g2, r2, t2, p2, m2, i2, k2, at2, ob2, rw2⟩ := step_1_2 (A := A) (cl := cl) (xl := xl) (pre := [x1]) k ri hxs p1 (by omega) b2 w2 (by decide) at1 (.inr (by decide)) n d hn
  have l2 := m2.le
  obtain ⟨g3, r3, t3, p3, m3, i3, k3, at3, ob3, rw3⟩ := step_obj (A := A) (cl := cl) (xl := xl) (pre := [x1, x2]) k ri hxs p2 (by omega) b3 w3 (by decide) (by decide) at2 (by rw [ob2, ob1, z2]) n d hn
  have l3 := m3.le
  obtain ⟨g4, r4, t4, p4, m4, i4, k4, at4, ob4, Br, rw4, row4, lo4, hi4⟩ := step_row (A := A) (cl := cl) (xl := xl) (pre := [x1, x2, x3]) k ri hxs p3 (by omega) b4 w4 (by decide) (by decide) (by decide) at3 (by rw [rw3, rw2, rw1, z3]) n d hn
  have l4 := m4.le
  obtain ⟨g5, r5, t5, p5, m5, i5, k5, at5, ob5, rw5⟩ := step_2_3 (A := A) (cl := cl) (xl := xl) (pre := [x1, x2, x3, x4]) k ri hxs p4 (by omega) b5 w5 (by decide) at4 (.inl (by rw [ob4, ob3]; simp)) n d hn
  have l5 := m5.le
  have hR := p5.nR
  have y1 := p5.n1
  have y2 := p5.n2
  have y3 := p5.n3
  have y4 := p4.n3
  have hRl := p3.rd.lt
  refine ⟨g5, r5, Br, ?_, ⟨p5.rd, at5, by decide, p5.mr, ⟨[], 0, p5.mc, rfl⟩, p5.ms, by rw [rw5, rw4], ⟨.sn, [], none, none, ?_, ⟨rfl, rfl⟩, by simp, ⟨by rw [k5, k4, k3, k2, k1, z4], rfl⟩, by simp, by simp⟩, by omega, ⟨by omega, by omega, by omega, by omega, by omega⟩, by omega, by omega, by omega, by omega, by omega, by omega, by omega, by omega, by omega, by omega⟩, by rw [i5, i4, i3, i2, i1, z5], p5.fr, by omega⟩
  · simp only [List.length_cons, List.length_nil, Nat.zero_add, Nat.reduceAdd] at t1 t2 t3 t4 t5
    have e0 : ((0 : Nat) : Int) = 0 := rfl
    have e5' : ((5 : Nat) : Int) = 5 := rfl
    rw [e0] at t1
    rw [e5'] at t5
    rw [loop_step (m := m + 4) t1, loop_step (m := m + 3) t2, loop_step (m := m + 2) t3, loop_step (m := m + 1) t4, loop_step (m := m) t5]
  · rw [m5.get Br hi4 (by simp; omega), row4]
end Go.Proofs.YtmbpjpffafidhaaGreatDoor
