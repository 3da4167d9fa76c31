/- core.Get's reader: columns. -/
import Derived.Test.YtmbpjpffafidhaaGreatDoorCmCore7
namespace Go.Proofs.YtmbpjpffafidhaaGreatDoor
open Go Go.Ev
set_option maxRecDepth 100000
set_option linter.unusedSimpArgs false
variable {F : Nat → Option FN}
theorem mup_at {kc B : Nat} {k v : V} {h : H} : semE (.mup kc (.m B) k v) h = if keyOk kc k then (match h.get B with
      | some (.mp es clk) => match findE kc k es 0 with
        | none => none
        | some (some (j, _)) => some (.tu [], h.put B (some (.mp (setE es j fun (_, _, b) => (k, v, b)) clk)))
        | some none => some (.tu [], h.put B (some (.mp (es ++ [(k, v, clk)]) (clk + 1))))
      | _ => none)
      else none := rfl
theorem clrm_at {B : Nat} {h : H} : semE (.clrm (.m B)) h = match h.get B with | some (.mp _ clk) => some (.tu [], h.put B (some (.mp [] clk))) | _ => none := rfl
/-- Columns, each a name and whether it is whole. -/
def colsC : List (List Nat × Bool) → List V
  | [] => []
  | c :: cs => .s c.1 :: .s [48] :: .s [] :: .s [48] :: .b c.2 :: colsC cs
theorem colsC_len : ∀ cs, (colsC cs).length = cs.length * 5
  | [] => rfl
  | c :: cs => by
    simp only [colsC, List.length_cons, colsC_len cs]
    omega
theorem colsC_app : ∀ x y, colsC (x ++ y) = colsC x ++ colsC y
  | [], _ => rfl
  | c :: x, y => by simp only [List.cons_append, colsC, colsC_app x y]
theorem find_none {x : List Nat} : ∀ (es : List (V × V × Nat)) (names : List (List Nat)) (j : Nat), es.map (·.1) = names.map V.s → x ∉ names → findE 1 (.s x) es j = some none
  | [], _, _, _, _ => rfl
  | (k', v, b) :: es, names, j, h, hx => by
    cases names with
    | nil => simp at h
    | cons y names =>
      simp only [List.map_cons, List.cons.injEq] at h
      obtain ⟨h1, h2⟩ := h
      simp only [List.mem_cons, not_or] at hx
      subst h1
      have e : (x == y) = false := by simpa using hx.1
      simp only [findE, keyEq, e]
      exact find_none es names (j + 1) h2 hx.2
theorem an_val {h : H} {v : V} {sz : Nat} {cells : List V} {bo : Option Nat} (a : AN h v sz cells bo) (hs : 0 < sz) {n : Nat} (hn : cells.length = n * sz) : (v = .sn ∧ n = 0) ∨ ∃ B cap xf, v = .sl B 0 n cap xf := by
  cases bo with
  | none =>
    obtain ⟨h1, h2⟩ := a
    refine .inl ⟨h1, ?_⟩
    rw [h2] at hn
    simp only [List.length_nil] at hn
    rcases Nat.mul_eq_zero.1 hn.symm with h3 | h3
    · exact h3
    · omega
  | some B =>
    obtain ⟨len, cap, xf, cs, q, h1, _, _, _, _, _, _, h8⟩ := a.1.ex
    rw [hn] at h8
    have : n = len := Nat.eq_of_mul_eq_mul_right hs h8
    subst this
    exact .inr ⟨B, cap, xf, h1⟩
/-- The reader among the columns. -/
structure CS (m0 : Nat) (h : H) (R q : Nat) (r : RD) (ob t : List Nat) (Br : Nat) (cols : List (List Nat × Bool)) : Prop where
  rd : RdAt h R q r
  at_ : r.at_ = 3
  to : t ≠ ob
  mrm : MapAt h r.mr [(.s ob, .i .i64 (-1), 0), (.s t, .i .i64 0, 1)] 2
  mcm : ∃ es clk, MapAt h r.mc es clk ∧ es.map (·.1) = (cols.map (·.1)).map V.s
  msm : ∃ es clk, MapAt h r.ms es clk
  rw_ : r.rw = .sl Br 0 1 1 5
  rest : ∃ cv cells bo boc, h.get Br = some (.c [.s t, .i .i64 1, cv, .s [48], .s []] 0 188) ∧ AN h cv 2 cells bo ∧ cells.length ≤ cols.length * 2 ∧ AN h r.cl 5 (colsC cols) boc ∧
    (∀ j, bo = some j → m0 ≤ j ∧ j ≠ R ∧ j ≠ r.mr ∧ j ≠ r.mc ∧ j ≠ r.ms ∧ j ≠ Br ∧ boc ≠ some j) ∧ (∀ j, boc = some j → m0 ≤ j ∧ j ≠ R ∧ j ≠ r.mr ∧ j ≠ r.mc ∧ j ≠ r.ms ∧ j ≠ Br)
  Brl : Br < h.nx
  low : m0 ≤ R ∧ m0 ≤ r.mr ∧ m0 ≤ r.mc ∧ m0 ≤ r.ms ∧ m0 ≤ Br
  n1 : R ≠ r.mr
  n2 : R ≠ r.mc
  n3 : R ≠ r.ms
  n4 : R ≠ Br
  n5 : r.mr ≠ r.mc
  n6 : r.mr ≠ r.ms
  n7 : r.mr ≠ Br
  n8 : r.mc ≠ r.ms
  n9 : r.mc ≠ Br
  n10 : r.ms ≠ Br
theorem an_lt {h : H} {v : V} {sz : Nat} {cells : List V} {bo : Option Nat} (a : AN h v sz cells bo) {j : Nat} (hj : bo = some j) : j < h.nx := by
  subst hj
  exact a.2
/-- A column, with the number 1 in the row. -/
theorem column_new (k : WKC F) (u : NumI F) {m0 : Nat} {h : H} {R q : Nat} {r : RD} {ob t : List Nat} {Br : Nat} {cols : List (List Nat × Bool)} (cs : CS m0 h R q r ob t Br cols) {W w0 : Nat} {x : List Nat} (w : WordsAt h r.l W w0 [x, t, [49]]) (hW : W < m0)
    (hx : nameB x = true) (hxr : x ≠ [82, 72, 83]) (hxc : x ∉ cols.map (·.1)) (htm : t ≠ markerL) (hcn : cols.length < 40) (n d : Nat) (hn : 1000 < n) :
    ∃ h' r', callD F n (d + 7) 126 [.p R 0] h = some (.tu [], h') ∧ CS m0 h' R q r' ob t Br (cols ++ [(x, r.ig)]) ∧ (∀ j, j < m0 → h'.get j = h.get j) ∧ h.nx ≤ h'.nx ∧ r'.ig = r.ig ∧ r'.mr = r.mr ∧ r'.mc = r.mc ∧ r'.ms = r.ms ∧ r'.nm = r.nm ∧ r'.ob = r.ob := by
  obtain ⟨rd, hat, hto, mrm, ⟨es, clkc, mcm, hes⟩, ⟨ess, clks, msm⟩, hrw, ⟨cv, cells, bo, boc, hrow, an, hcl, anc, hbo, hboc⟩, hBr, ⟨lw1, lw2, lw3, lw4, lw5⟩, n1, n2, n3, n4, n5, n6, n7, n8, n9, n10⟩ := cs
  have hRl := rd.lt
  have hr := rd.get
  have he := rd.e
  have q1 : ¬ 2 ≤ q % 4 := by have := rd.q0; omega
  let g1 := h.new (.c [.p R 0] 0 572)
  let g2 := g1.new (.c [.i .i64 3, .i .i64 5] 0 0)
  have m1 : Mod [] h g1 := Mod.new [] h _
  have m2 : Mod [] h g2 := m1.trans (Mod.new [] g1 _)
  have c2 := many_run k (rd.mod m2 (by simp)) w.val (B := h.nx + 1) (N := 2) (cs := [.i .i64 5]) (by show (g1.new _).get (h.nx + 1) = _; rw [H.get_new]; exact if_pos rfl) (by omega) n (d + 3) hn
  obtain ⟨g3, c3, m3, a3, nx3⟩ := word_at k (rd.mod m2 (by simp)) (w.mod m2 (by simp)) n (d + 4)
  have w3 : WordsAt g3 (restV W w0 [t, [49]]) W (w0 + 1) [t, [49]] := (w.mod m2 (by simp)).rest (by simp) (by rw [m3.get W (by have := w.lt; have := m2.le; omega) (by simp; omega)]) m3.le
  obtain ⟨_, hxl, _⟩ := name_chars' hx
  obtain ⟨g4, c4, x4⟩ := name_run k.toWKN x (by omega) g3 n (d + 2) (by omega)
  rw [hx] at c4
  have m4 : Mod [R] h g4 := ((m2.weak (by simp)).trans m3).trans (x4.mod _)
  have hle4 := m4.le
  have f4 := fun e => fails_no k R e g4 n (d + 5)
  have a4 := a3.mod (x4.mod []) (by simp)
  have w4 := w3.mod (x4.mod []) (by simp)
  have mc4 := mcm.mod m4 (by simpa using Ne.symm n2)
  have ms4 := msm.mod m4 (by simpa using Ne.symm n3)
  have mr4 := mrm.mod m4 (by simpa using Ne.symm n1)
  have hfind := find_none es _ 0 hes hxc
  have hnx2 : g2.nx = h.nx + 2 := rfl
  have hb3 : g3.get h.nx = some (.c [.p R 0] 0 572) := by
    rw [m3.get h.nx (by omega) (by simp; omega)]
    show (g1.new _).get h.nx = _
    rw [H.get_new, if_neg (by show ¬ h.nx = h.nx + 1; omega)]
    show (h.new _).get h.nx = _
    rw [H.get_new, if_pos rfl]
  have hb4 : g4.get h.nx = some (.c [.p R 0] 0 572) := by
    rw [x4.get h.nx (by have := m3.le; omega), hb3]
  have hb2 : g2.get h.nx = some (.c [.p R 0] 0 572) := by
    show (g1.new _).get h.nx = _
    rw [H.get_new, if_neg (by show ¬ h.nx = h.nx + 1; omega)]
    show (h.new _).get h.nx = _
    rw [H.get_new, if_pos rfl]
  -- the column
  let es' := es ++ [(V.s x, V.i .i64 (cols.length : Int), clkc)]
  let g5 := g4.put r.mc (some (.mp es' (clkc + 1)))
  let news : List V := [.s x, .s [48], .s [], .s [48], .b r.ig]
  let g6 := g5.new (.c news 0 0)
  have m56 : Mod [R, r.mc] h g6 := ((m4.weak (by simp)).trans (Mod.put (S := [R, r.mc]) (B := r.mc) (some (.mp es' (clkc + 1))) (by simp))).trans (Mod.new _ _ _)
  have hbocm : ∀ j, boc = some j → j < h.nx := fun j hj => an_lt anc hj
  have anc6 : AN g6 r.cl 5 (colsC cols) boc := anc.frame (fun j hj hjl => m56.get j hjl (by
    simp only [List.mem_cons, List.mem_nil_iff, or_false, not_or]
    exact ⟨(hboc j hj).2.1, (hboc j hj).2.2.2.1⟩)) m56.le
  have hnx6 : g6.nx = g4.nx + 1 := rfl
  obtain ⟨cl', g7, B', happ, har, hB', hB'n, hnx7, hfr7⟩ := anc6.app (tg := 200) (bytes := 72) (news := news) (Bn := g4.nx) (by omega) (by omega) (by omega) (by omega) (by rw [colsC_len]; omega) (by show (g5.new _).get g4.nx = _; rw [H.get_new]; exact if_pos rfl) rfl rfl
  have hB'R : B' ≠ R ∧ B' ≠ r.mr ∧ B' ≠ r.mc ∧ B' ≠ r.ms ∧ B' ≠ Br ∧ m0 ≤ B' ∧ bo ≠ some B' ∧ B' ≠ h.nx := by
    have k1 := mrm.2
    have k2 := mcm.2
    have k3 := msm.2
    rcases hB' with ⟨e1, _⟩ | e1
    · obtain ⟨p1, p2, p3, p4, p5, p6⟩ := hboc B' e1
      have := hbocm B' e1
      exact ⟨p2, p3, p4, p5, p6, p1, fun e => (hbo B' e).2.2.2.2.2.2 e1, by omega⟩
    · refine ⟨by omega, by omega, by omega, by omega, by omega, by omega, fun e => ?_, by omega⟩
      have := an_lt an e
      omega
  obtain ⟨b1, b2, b3, b4, b5, b6, b7, b8⟩ := hB'R
  have old7 : ∀ j, j < h.nx → j ≠ R → j ≠ r.mc → boc ≠ some j → g7.get j = h.get j := by
    intro j hj j1 j2 j3
    rw [hfr7 j j3 (by omega), m56.get j hj (by simp only [List.mem_cons, List.mem_nil_iff, or_false, not_or]; exact ⟨j1, j2⟩)]
  have bocR : boc ≠ some R := fun e => (hboc R e).2.1 rfl
  have bocmr : boc ≠ some r.mr := fun e => (hboc _ e).2.2.1 rfl
  have bocmc : boc ≠ some r.mc := fun e => (hboc _ e).2.2.2.1 rfl
  have bocms : boc ≠ some r.ms := fun e => (hboc _ e).2.2.2.2.1 rfl
  have bocBr : boc ≠ some Br := fun e => (hboc _ e).2.2.2.2.2 rfl
  have bocB1 : boc ≠ some h.nx := fun e => by have := hbocm _ e; omega
  have hr4 : g4.get R = some (.c ({ r with l := restV W w0 [t, [49]] } : RD).cells 0 q) := a4.get
  have hr6 : g6.get R = some (.c ({ r with l := restV W w0 [t, [49]] } : RD).cells 0 q) := by
    show (g5.new _).get R = _
    rw [H.get_new, if_neg (by show ¬ R = g4.nx; omega)]
    show (g4.put r.mc _).get R = _
    rw [H.get_put, if_neg n2, hr4]
  have hr7 : g7.get R = some (.c ({ r with l := restV W w0 [t, [49]] } : RD).cells 0 q) := by rw [hfr7 R bocR (by omega), hr6]
  have hb7 : g7.get h.nx = some (.c [.p R 0] 0 572) := by
    rw [hfr7 h.nx bocB1 (by omega)]
    show (g5.new _).get h.nx = _
    rw [H.get_new, if_neg (by show ¬ h.nx = g4.nx; have := m3.le; have := x4.le; omega)]
    show (g4.put r.mc _).get h.nx = _
    rw [H.get_put, if_neg (by have := mcm.2; omega), hb4]
  let r8 : RD := { r with l := restV W w0 [t, [49]], cl := cl' }
  let g8 := g7.put R (some (.c r8.cells 0 q))
  let g9 := g8.put r.ms (some (.mp [] clks))
  have hnx9 : g9.nx = g7.nx := rfl
  have nx79 : h.nx + 2 ≤ g7.nx := by have := m3.le; have := x4.le; omega
  have get9 : ∀ j, j ≠ R → j ≠ r.ms → g9.get j = g7.get j := by
    intro j j1 j2
    show (g8.put r.ms _).get j = _
    rw [H.get_put, if_neg j2]
    show (g7.put R _).get j = _
    rw [H.get_put, if_neg j1]
  have a9 : RdAt g9 R q r8 := ⟨by
    show (g8.put r.ms _).get R = _
    rw [H.get_put, if_neg n3]
    show (g7.put R _).get R = _
    rw [H.get_put, if_pos rfl], rd.q0, by show R < g7.nx; omega, he⟩
  have w9 : WordsAt g9 r8.l W (w0 + 1) [t, [49]] := by
    obtain ⟨wc, fz, qw, k1, k2⟩ := w4.cells
    refine ⟨rfl, ⟨wc, fz, qw, ?_, k2⟩, by show W < g7.nx; have := w.lt; omega, by simp⟩
    have hWl := w.lt
    have hWm : W ≠ r.mc := by omega
    have hWb : boc ≠ some W := fun e => by have := (hboc W e).1; omega
    rw [get9 W (by omega) (by omega), hfr7 W hWb (by omega)]
    show (g5.new _).get W = _
    rw [H.get_new, if_neg (by show ¬ W = g4.nx; omega)]
    show (g4.put r.mc _).get W = _
    rw [H.get_put, if_neg hWm, k1]
  have mr9 : MapAt g9 r.mr [(.s ob, .i .i64 (-1), 0), (.s t, .i .i64 0, 1)] 2 := ⟨by rw [get9 _ (Ne.symm n1) n6, old7 _ mrm.2 (Ne.symm n1) n5 bocmr, mrm.1], by show _ < g7.nx; have := mrm.2; omega⟩
  have ms9 : MapAt g9 r.ms [] clks := ⟨by show (g8.put r.ms _).get r.ms = _; rw [H.get_put, if_pos rfl], by show _ < g7.nx; have := msm.2; omega⟩
  have row9 : g9.get Br = some (.c [.s t, .i .i64 1, cv, .s [48], .s []] 0 188) := by rw [get9 _ (Ne.symm n4) (Ne.symm n10), old7 _ hBr (Ne.symm n4) (Ne.symm n9) bocBr, hrow]
  have an9 : AN g9 cv 2 cells bo := an.frame (fun j hj hjl => by
    obtain ⟨p1, p2, p3, p4, p5, p6, p7⟩ := hbo j hj
    rw [get9 j p2 p5, old7 j hjl p2 p4 p7]) (by show h.nx ≤ g7.nx; omega)
  have b19 : g9.get h.nx = some (.c [.p R 0] 0 572) := by rw [get9 _ (by omega) (by have := msm.2; omega), hb7]
  have hclv : ∃ capc xc, cl' = .sl B' 0 (cols.length + 1) capc xc := by
    obtain ⟨len, cap, xf, c2, q2, e1, _, _, _, _, _, _, e8⟩ := har.ex
    rw [List.length_append, colsC_len] at e8
    have hl : news.length = 5 := rfl
    rw [hl] at e8
    have : len = cols.length + 1 := by omega
    subst this
    exact ⟨cap, xf, e1⟩
  obtain ⟨capc, xc, hclv⟩ := hclv
  obtain ⟨g10, cv', bo', c10, l10, fr10, rd10, row10, an10, bo10, ms10⟩ := pairs_run k u (r := r8) a9 w9 hat hto mr9 ms9 hclv (by omega) hrw row9 (by show Br < g7.nx; omega) an9 (by omega) b19 (by show h.nx < g7.nx; omega)
    (fun e => (hbo _ e).2.1 rfl) (fun e => (hbo _ e).2.2.2.2.2.1 rfl) (fun e => by have := an_lt an e; omega) n4 (by omega) (by omega) n1 n3 n10 (fun e => (hbo _ e).2.2.2.2.1 rfl) (by have := msm.2; show h.nx ≠ r.ms; omega) (by omega) n d hn
  refine ⟨g10, { r8 with l := restV W (w0 + 2) [] }, ?_, ?_, ?_, by show h.nx ≤ g10.nx; rw [hnx9] at l10; omega, rfl, rfl, rfl, rfl, rfl, rfl⟩
  · refine callD_code k.column rfl ?_
    have hl := w.val
    simp only [List.length_cons, List.length_nil, Nat.zero_add, Nat.reduceAdd] at hl
    obtain ⟨wc, fz, qw, k1, k2⟩ := w.cells
    have hw2 : g2.get W = some (.c wc fz qw) := by rw [m2.get W w.lt (by simp), k1]
    have hw2b := k2 1 t rfl
    have ei1 : idx 1 3 = some 1 := by decide
    have hxe : (x == [82, 72, 83]) = false := by simpa using hxr
    have hte : (t == markerL) = false := by simpa using htm
    simp only [markerL] at hte
    have hcv : (r.cl = .sn ∧ cols.length = 0) ∨ ∃ B cap xf, r.cl = .sl B 0 cols.length cap xf := an_val anc (by omega) (colsC_len cols)
    have hr2 : g2.get R = some (.c r.cells 0 q) := (rd.mod m2 (by simp)).get
    have hr3 := a3.get
    have hmc3 : g3.get r.mc = some (.mp es clkc) := (mcm.mod ((m2.weak (by simp)).trans m3) (by simpa using Ne.symm n2)).1
    have hmc4 := mc4.1
    have hms8 : g8.get r.ms = some (.mp ess clks) := by
      show (g7.put R _).get r.ms = _
      rw [H.get_put, if_neg (Ne.symm n3), old7 _ msm.2 (Ne.symm n3) (Ne.symm n8) bocms, msm.1]
    have hb8 : g8.get h.nx = some (.c [.p R 0] 0 572) := by
      show (g7.put R _).get h.nx = _
      rw [H.get_put, if_neg (by omega), hb7]
    have hr8 : g8.get R = some (.c r8.cells 0 q) := by
      show (g7.put R _).get R = _
      rw [H.get_put, if_pos rfl]
    have hb5 : g5.get h.nx = some (.c [.p R 0] 0 572) := by
      show (g4.put r.mc _).get h.nx = _
      rw [H.get_put, if_neg (by have := mcm.2; omega), hb4]
    have hr5 : g5.get R = some (.c ({ r with l := restV W w0 [t, [49]] } : RD).cells 0 q) := by
      show (g4.put r.mc _).get R = _
      rw [H.get_put, if_neg n2, hr4]
    have hone : V.one cl' = true := by rw [hclv]; rfl
    unfold V.one at hone
    have hc40 : ¬ (40 : Int) ≤ cols.length := by omega
    have hc40' : (cols.length : Int) < 40 := by omega
    have hc40'' : ¬ 40 ≤ cols.length := by omega
    simp only [g2, g1] at c2 c3 hb2 hw2 hr2
    simp only [RD.cells, hl, he] at hr2
    simp only [RD.cells, he, hat, r8] at hr3 hr4 hr5 hr6 hr7 hr8
    simp only [g6, g5, news, es'] at happ
    simp only [g5, es'] at hb5 hr5
    have hb9 := b19
    simp only [g9, g8, r8, RD.cells, he, hat] at c10 hms8 hb8 hr8 hb9
    have hlen : semP (.len false r.cl) = some (.i .i64 (cols.length : Int)) := by
      rcases hcv with ⟨ev, e0⟩ | ⟨Bx, cx, xx, ev⟩
      · rw [ev, e0]
        rfl
      · rw [ev]
        rfl
    simp only [semP] at hlen
    have hb1 : (h.new (.c [.p R 0] 0 572)).get h.nx = some (.c [.p R 0] 0 572) := by rw [H.get_new, if_pos rfl]
    have hmk : ¬ t = [39, 77, 65, 82, 75, 69, 82, 39] := by simpa using hte
    simp [hb1, hone, hlen, c126, h126, execD, runB_op, runB_nil, runB, chkA, beqV, beqV_refl, AO.map, AO.cls, stepB, guardA, o, app_call, st_at, mup_at, clrm_at, semAll, evX, tmE, pushE, semP, semN, semR, binV, binI, binS, pickE, retsD, retV, unV, V.cells, fillV, layAt, V.one, rept_n1, rept, hb2, c2, hr2, ei1, hw2, hw2b, hmk, hte, c3, hb3, hr3, hmc3, keyOk, hfind, c4, hb4, f4, hxe, hr4, hc40, hc40', hc40'', hmc4, hb5, hr5, happ, hr7, hb7, stAt, q1, hms8, hb8, hr8, hb9, c10]
  · have hm10 : m0 ≤ g9.nx := by rw [hnx9]; omega
    have f10 : ∀ j, j < g7.nx → j ≠ R → j ≠ r.ms → j ≠ Br → bo ≠ some j → g10.get j = g9.get j := fr10
    refine ⟨rd10, hat, hto, ⟨?_, ?_⟩, ⟨es', clkc + 1, ⟨?_, ?_⟩, ?_⟩, ⟨_, _, ms10⟩, hrw, ⟨cv', _, bo', some B', row10, an10, ?_, ⟨?_, ?_⟩, fun j hj => ?_, fun j hj => ?_⟩, ?_, ⟨lw1, lw2, lw3, lw4, lw5⟩, n1, n2, n3, n4, n5, n6, n7, n8, n9, n10⟩
    · rw [f10 _ (by have := mrm.2; omega) (Ne.symm n1) n6 n7 (fun e => (hbo _ e).2.2.1 rfl), mr9.1]
    · have := mrm.2
      have := l10
      show r.mr < g10.nx
      omega
    · rw [f10 _ (by have := mcm.2; omega) (Ne.symm n2) n8 n9 (fun e => (hbo _ e).2.2.2.1 rfl), get9 _ (Ne.symm n2) n8, hfr7 _ bocmc (by have := mcm.2; omega)]
      show (g5.new _).get r.mc = _
      rw [H.get_new, if_neg (by show ¬ r.mc = g4.nx; have := mcm.2; omega)]
      show (g4.put r.mc _).get r.mc = _
      rw [H.get_put, if_pos rfl]
    · have := mcm.2
      show r.mc < g10.nx
      omega
    · simp [es', hes]
    · simp
      omega
    · refine AR.frame (h := g7) ?_ ?_
      · have e : colsC (cols ++ [(x, r.ig)]) = colsC cols ++ news := by rw [colsC_app]; rfl
        rw [e]
        exact har
      · rw [f10 _ hB'n b1 b4 b5 b7, get9 _ b1 b4]
    · omega
    · by_cases hjl : j < g7.nx
      · have e := bo10 j hj hjl
        obtain ⟨p1, p2, p3, p4, p5, p6, p7⟩ := hbo j e
        exact ⟨p1, p2, p3, p4, p5, p6, fun e2 => b7 (by rw [e, ← e2])⟩
      · have := mrm.2
        have := mcm.2
        have := msm.2
        refine ⟨by omega, by omega, by show j ≠ r.mr; omega, by show j ≠ r.mc; omega, by show j ≠ r.ms; omega, by omega, fun e2 => ?_⟩
        injection e2 with e2
        omega
    · injection hj with hj
      subst hj
      exact ⟨b6, b1, b2, b3, b4, b5⟩
    · omega
  · intro j hj
    have f10 : ∀ j, j < g7.nx → j ≠ R → j ≠ r.ms → j ≠ Br → bo ≠ some j → g10.get j = g9.get j := fr10
    rw [f10 j (by omega) (by omega) (by omega) (by omega) (fun e => by have := (hbo j e).1; omega), get9 j (by omega) (by omega), old7 j (by omega) (by omega) (by omega) (fun e => by have := (hboc j e).1; omega)]
end Go.Proofs.YtmbpjpffafidhaaGreatDoor
