/- CoreMark: core.Get's answer. -/
import Derived.Test.YtmbpjpffafidhaaGreatDoorCmMark3
namespace Go.Proofs.YtmbpjpffafidhaaGreatDoor
open Go Go.Ev
set_option maxRecDepth 100000
set_option linter.unusedSimpArgs false
variable {F : Nat → Option FN}
/-- What core.Get answers. -/
def CoreRes (h' : H) (v : V) : MS → Prop
  | .error e => v = .tu [.ag [.s [], .s [], .sn, .sn], .i .i64 ((6 + e : Nat) : Int), .i .i64 5]
  | .ok (_, _, cols) => ∃ nm ob rw cl boc, v = .tu [.ag [.s nm, .s ob, rw, cl], .i .i64 0, .i .i64 0] ∧ AN h' cl 5 (colsC cols) boc ∧ V.one rw = true
/-- The last two lines. -/
theorem end_run (k : WKC F) {hS : H} {m0 Bl ql cl xl : Nat} {cs : List V} {xs pre : List Row} (ri : RowsIn hS m0 Bl ql cs xs) {y1 y2 : Row} (hxs : xs = pre ++ [y1, y2]) {no : Nat} (hl : [y1, y2].map Row.line = numL tailL0 no) {A R q Br : Nat} {r : RD} {h : H} {cols : List (List Nat × Bool)} (c : CS m0 h R q r [111] [114] Br cols)
    (hfr : ∀ y, y < m0 → h.get y = hS.get y) (hA : ∃ a0 a1 a2 a3, hS.get A = some (.c [a0, a1, a2, a3] 0 212)) (hAl : A < m0) (n d m : Nat) (hn : 1000 < n) :
    ∃ h' v, loopD (execD (callD F n (d + 8)) n cgB) (m + 2) [.p A 0, .p R 0, .sl Bl 0 xs.length cl xl, .i .i64 (xs.length : Nat), .i .i64 (pre.length : Nat)] h = some (.ret v, h') ∧ (∃ nm ob rw cl boc, v = .tu [.ag [.s nm, .s ob, rw, cl], .i .i64 0, .i .i64 0] ∧ AN h' cl 5 (colsC cols) boc ∧ V.one rw = true) ∧ h.nx ≤ h'.nx ∧ (∀ y, y < m0 → y ≠ A → h'.get y = hS.get y) := by
  rw [num_tail] at hl
  simp only [List.map_cons, List.map_nil, List.cons.injEq, and_true, Row.line, Prod.mk.injEq] at hl
  obtain ⟨⟨_, b1, w1⟩, ⟨_, b2, w2⟩⟩ := hl
  obtain ⟨lw1, lw2, lw3, lw4, lw5⟩ := c.low
  have hRl := c.rd.lt
  have n3 := c.n3
  obtain ⟨cv, cells, bo, boc, hrow, an, hcl, anc, hbo, hboc⟩ := c.rest
  -- RHS
  have ri0 := ri.at_ hfr
  let v1 : V := .sl y1.w 0 y1.ws.length y1.ws.length 0
  have k1 := ri.ok y1 (by rw [hxs]; simp)
  have sm1 := sec_mod h R q r (y1.no : Int) true v1
  have hle1 := sm1.le
  have fr1 : ∀ y, y < m0 → (secH h R q r (y1.no : Int) true v1).get y = hS.get y := fun y hy => by rw [sm1.get y (by omega) (by simp; omega), hfr y hy]
  obtain ⟨e1, c1, hms0⟩ := c.msm
  have hms1 := hms0.mod sm1 (by simpa using Ne.symm n3)
  obtain ⟨g1, d1, m1, rd1, ms1, _⟩ := head_3_4 k (sec_rd c.rd (y1.no : Int) true v1).1 (ri.words (by rw [hxs]; simp) w1 (by simp) (by omega) fr1) (by decide) c.at_ (.inr (by decide)) hms1 n3 (by omega) n (d + 4) hn
  have l1 := line_head k (sec_rd c.rd (y1.no : Int) true v1).2 d1 rfl
  rw [← b1] at l1
  have t1 := cg_row (n := n) (A := A) (cl := cl) (xl := xl) ri0 hxs l1 rd1.get rd1.e (by simp)
  have hfr1 : ∀ y, y < m0 → g1.get y = hS.get y := fun y hy => by
    have : y ∉ [R, r.ms] := by simp; omega
    rw [m1.get y (by omega) this, fr1 y hy]
  have hle2 := m1.le
  -- ENDATA
  have ri1 := ri.at_ hfr1
  let r1 : RD := { r with at_ := 4, l := restV y1.w 0 [] }
  have rd1' : RdAt g1 R q r1 := rd1
  let v2 : V := .sl y2.w 0 y2.ws.length y2.ws.length 0
  have k2 := ri.ok y2 (by rw [hxs]; simp)
  have sm2 := sec_mod g1 R q r1 (y2.no : Int) true v2
  have hle3 := sm2.le
  have fr2 : ∀ y, y < m0 → (secH g1 R q r1 (y2.no : Int) true v2).get y = hS.get y := fun y hy => by rw [sm2.get y (by omega) (by simp; omega), hfr1 y hy]
  have hms2 : MapAt (secH g1 R q r1 (y2.no : Int) true v2) r.ms [] c1 := MapAt.mod ms1 sm2 (by simpa using Ne.symm n3)
  obtain ⟨g2, d2, m2, rd2, ms2, _⟩ := head_4_7 k (sec_rd rd1' (y2.no : Int) true v2).1 (ri.words (by rw [hxs]; simp) w2 (by simp) (by omega) fr2) (by decide) rfl (.inr (by decide)) hms2 n3 (by omega) n (d + 4) hn
  have l2 := line_head k (sec_rd rd1' (y2.no : Int) true v2).2 d2 rfl
  rw [← b2] at l2
  have hle4 := m2.le
  have hx2 : xs = (pre ++ [y1]) ++ y2 :: [] := by rw [hxs]; simp
  obtain ⟨c0, cc1, cc2⟩ := ri1.cell (pre ++ [y1]) y2 [] hx2
  rw [k2.1] at cc2
  have hcl2 : (pre ++ [y1]).length * 3 + 3 ≤ cs.length := by
    have := (List.getElem?_eq_some_iff.1 cc2).1
    omega
  have hfr2 : ∀ y, y < m0 → g2.get y = hS.get y := fun y hy => by
    have : y ∉ [R, r.ms] := by simp; omega
    rw [m2.get y (by omega) this, fr2 y hy]
  obtain ⟨a0, a1, a2, a3, hA'⟩ := hA
  have few := ri.few
  have hone : V.one r.cl = true := by
    rcases an_val anc (by omega) (colsC_len cols) with ⟨e, _⟩ | ⟨_, _, _, e⟩ <;> rw [e] <;> rfl
  have t2 := cg_done (n := n) (cl := cl) (xl := xl) (K := xs.length) (by rw [hx2]; simp) (by omega) ri1.get c0 cc1 cc2 hcl2 rfl l2 rd2.get rd2.e rfl (by rw [hfr2 A hAl, hA']) (by show V.one r.rw = true; rw [c.rw_]; rfl) hone
  have hbn : ∀ j, boc = some j → j ≠ R ∧ j ≠ r.ms := fun j hj => ⟨(hboc j hj).2.1, (hboc j hj).2.2.2.2.1⟩
  have anf : AN (g2.put A (some (.c [.s r.nm, .s r.ob, r.rw, r.cl] 0 212))) r.cl 5 (colsC cols) boc := anc.frame (fun j hj hjl => by
    obtain ⟨h1, h2⟩ := hbn j hj
    have h3 := (hboc j hj).1
    have h4 : j ∉ [R, r.ms] := by simp; exact ⟨h1, h2⟩
    rw [H.get_put, if_neg (by omega), m2.get j (by omega) h4, sm2.get j (by omega) (by simpa using h1), m1.get j (by omega) h4, sm1.get j hjl (by simpa using h1)]) (by show h.nx ≤ g2.nx; omega)
  refine ⟨_, _, ?_, ⟨r.nm, r.ob, r.rw, r.cl, boc, rfl, anf, by show V.one r.rw = true; rw [c.rw_]; rfl⟩, by show h.nx ≤ g2.nx; omega, fun y hy hyA => by rw [H.get_put, if_neg hyA, hfr2 y hy]⟩
  rw [loop_step (m := m + 1) t1]
  simp only [List.length_append, List.length_cons, List.length_nil, Nat.zero_add] at t2
  exact loop_ret t2
theorem list5 {α : Type} {l : List α} (h : l.length = 5) : ∃ a b c d e, l = [a, b, c, d, e] := by
  match l, h with
  | [a, b, c, d, e], _ => exact ⟨a, b, c, d, e, rfl⟩
theorem list2 {α : Type} {l : List α} (h : l.length = 2) : ∃ a b, l = [a, b] := by
  match l, h with
  | [a, b], _ => exact ⟨a, b, rfl⟩
/-- core.Get of the law's text. -/
theorem core_get (k : WKC F) (u : NumI F) (its : List It) (hits : its.length ≤ 12) (h : H) (n d : Nat) (hn : 100000 < n) :
    ∃ v h', callD F n (d + 9) 22 [.s (txt0 ++ (txtI its 0 ++ txtT))] h = some (v, h') ∧ (∀ y, y < h.nx → h'.get y = h.get y) ∧ h.nx ≤ h'.nx ∧ CoreRes h' v (its.foldl stIt (.ok (0, false, []))) := by
  let gA := h.new (.c [.s [], .s [], .sn, .sn] 0 212)
  have htl := txtI_len its 0 (by omega)
  have hT : (txt0 ++ (txtI its 0 ++ txtT)).length < 1000 := by
    simp only [List.length_append]
    have e1 : txt0.length = 30 := rfl
    have e2 : txtT.length = 11 := rfl
    omega
  obtain ⟨v1, g1, cget, xg, hres⟩ := getx_run k.toWK (txt0 ++ (txtI its 0 ++ txtT)) (by omega) gA n (d + 3) (by omega) (by omega)
  rw [rows_all its hits] at hres
  obtain ⟨lv, bl, xs, rfl, al, ra, hxs, hbl, hex⟩ := hres
  have hxl : xs.length = 7 + its.length := by
    have := congrArg List.length hxs
    simp only [List.length_map, List.length_append] at this
    have n1 : ∀ (ls : List (List Nat)) no, (numL ls no).length = ls.length := by
      intro ls
      induction ls with
      | nil => intro no; rfl
      | cons l ls ih => intro no; simp [numL, ih]
    rw [n1, n1, n1, linesI_len] at this
    have e1 : headL0.length = 5 := rfl
    have e2 : tailL0.length = 2 := rfl
    omega
  cases bl with
  | none =>
    obtain ⟨_, h2⟩ := al
    have := congrArg List.length h2
    rw [rowsC_len] at this
    simp at this
    omega
  | some Bl =>
    obtain ⟨capl, xfl, cs, ql, rfl, hgl, hcell⟩ := rows_read al.1
    have hBl : Bl < g1.nx := al.2
    -- the reader
    let m0 := g1.nx
    let r0 : RD := ⟨[], [], .sn, .sn, 0, m0, m0 + 1, m0 + 2, false, .sn, 0⟩
    let gR := (((g1.new (.mp [] 0)).new (.mp [] 0)).new (.mp [] 0)).new (.c r0.cells 0 588)
    have hnxR : gR.nx = m0 + 4 := rfl
    have old : ∀ y, y < m0 → gR.get y = g1.get y := by
      intro y hy
      show ((((g1.new (.mp [] 0)).new (.mp [] 0)).new (.mp [] 0)).new (.c r0.cells 0 588)).get y = _
      simp only [H.get_new, H.nx_new]
      rw [if_neg (by omega), if_neg (by omega), if_neg (by omega), if_neg (by omega)]
    have ri : RowsIn gR m0 Bl ql cs xs := ⟨by rw [old Bl hBl, hgl], hBl, hcell, fun r hr => by
      obtain ⟨⟨cap, xf, wc, fz, qw, k1, k2, k3⟩, k4, _, _⟩ := ra r hr
      exact ⟨hex r hr, k4, wc, fz, qw, by rw [old _ k4, k2], k3⟩, by omega⟩
    have p0 : PS gR m0 gR (m0 + 3) 588 r0 [] 0 := by
      refine ⟨⟨?_, by decide, by show m0 + 3 < m0 + 4; omega, rfl⟩, ⟨?_, by show m0 < m0 + 4; omega⟩, ⟨?_, by show m0 + 1 < m0 + 4; omega⟩, ⟨[], 0, ?_, by show m0 + 2 < m0 + 4; omega⟩, rfl, rfl, rfl, rfl, fun _ _ => rfl⟩
      · simp [gR, H.get_new, m0]
      · simp [gR, H.get_new, m0, r0] <;> omega
      · simp [gR, H.get_new, m0, r0] <;> omega
      · simp [gR, H.get_new, m0, r0] <;> omega
    have hA : ∃ a0 a1 a2 a3, gR.get h.nx = some (.c [a0, a1, a2, a3] 0 212) := by
      have hlt : h.nx < gA.nx := by show h.nx < h.nx + 1; omega
      have hle := xg.le
      refine ⟨.s [], .s [], .sn, .sn, ?_⟩
      rw [old h.nx (by show h.nx < g1.nx; omega), xg.get _ hlt]
      show (h.new _).get h.nx = _
      rw [H.get_new, if_pos rfl]
    have hAl : h.nx < m0 := by
      have := xg.le
      have : gA.nx = h.nx + 1 := rfl
      show h.nx < g1.nx
      omega
    -- the rows, parted
    obtain ⟨ph, rest, rfl, hph, hrest⟩ := List.map_eq_append_iff.1 hxs
    obtain ⟨mid, pt, rfl, hmid, hpt⟩ := List.map_eq_append_iff.1 hrest
    have hph2 := congrArg List.length hph
    rw [num_head] at hph2
    have hpt2 := congrArg List.length hpt
    rw [num_tail] at hpt2
    simp only [List.length_map, List.length_cons, List.length_nil] at hph2 hpt2
    obtain ⟨x1, x2, x3, x4, x5, rfl⟩ := list5 hph2
    obtain ⟨y1, y2, rfl⟩ := list2 hpt2
    have hml : mid.length = its.length := by
      simp only [List.length_append, List.length_cons, List.length_nil] at hxl
      omega
    obtain ⟨mm, rfl⟩ : ∃ q, n = q + 5 := ⟨n - 5, by omega⟩
    obtain ⟨g5, r5, Br, hb, cs5, hig, fr5, le5⟩ := begin_run k (A := h.nx) (cl := capl) (xl := xfl) ri rfl hph p0 (by omega) rfl rfl rfl rfl rfl (mm + 5) d mm (by omega)
    have hit := items_loop k u ri (A := h.nx) (cl := capl) (xl := xfl) hA hAl (mm + 5) d (by omega) its [x1, x2, x3, x4, x5] mid [y1, y2] 0 mm g5 r5 [] (by simp) hmid (by omega) (by omega) cs5 ⟨by simp, by simp⟩ fr5
    rw [hig] at hit
    have e5 : (([x1, x2, x3, x4, x5].length : Nat) : Int) = 5 := rfl
    rw [e5] at hit
    have fin : ∀ (v : V) (h' : H), loopD (execD (callD F (mm + 5) (d + 8)) (mm + 5) cgB) (mm + 5) [.p h.nx 0, .p (m0 + 3) 0, .sl Bl 0 ([x1, x2, x3, x4, x5] ++ (mid ++ [y1, y2])).length capl xfl, .i .i64 (([x1, x2, x3, x4, x5] ++ (mid ++ [y1, y2])).length : Nat), .i .i64 0] gR = some (.ret v, h') →
        callD F (mm + 5) (d + 9) 22 [.s (txt0 ++ (txtI its 0 ++ txtT))] h = some (v, h') := by
      intro v h' hlp
      have cg : callD F (mm + 5) (d + 8) 12 [.s (txt0 ++ (txtI its 0 ++ txtT))] gA = _ := cget
      refine callD_code k.cget rfl ?_
      simp only [gA] at cg
      simp only [gR, r0, RD.cells, m0] at hlp
      generalize txt0 ++ (txtI its 0 ++ txtT) = T at cg ⊢
      generalize ([x1, x2, x3, x4, x5] ++ (mid ++ [y1, y2])).length = K at cg hlp ⊢
      simp [c_cget, execD, runB_op, runB_nil, stepB, guardA, o, semAll, AO.map, AO.cls, evX, tmE, pushE, semP, semN, semR, semE, binV, binI, binS, pickE, retsD, retV, cg, fillV, layAt, V.cells, V.one, hlp]
    have back : ∀ (h' : H), (∀ y, y < m0 → y ≠ h.nx → h'.get y = gR.get y) → ∀ y, y < h.nx → h'.get y = h.get y := by
      intro h' hf y hy
      rw [hf y (by omega) (by omega), old y (by omega), xg.get y (by show y < h.nx + 1; omega)]
      show (h.new _).get y = _
      rw [H.get_new, if_neg (by omega)]
    have lem : h.nx + 1 ≤ m0 := xg.le
    cases hf : its.foldl stIt (.ok (0, false, [])) with
    | error e =>
      rw [hf] at hit
      obtain ⟨h', i1, i2, i3⟩ := hit
      exact ⟨_, h', fin _ h' (by rw [hb]; exact i1), back h' i3, by omega, rfl⟩
    | ok st =>
      obtain ⟨j', ig', cols⟩ := st
      rw [hf] at hit
      obtain ⟨h', r', i1, i2, i3, i4, i5⟩ := hit
      obtain ⟨q, hq⟩ : ∃ q, mm - its.length = q + 2 := ⟨mm - its.length - 2, by omega⟩
      obtain ⟨h2, v, j1, j2, j3, j4⟩ := end_run k ri (pre := [x1, x2, x3, x4, x5] ++ mid) (by simp) hpt i2 i5 hA hAl (cl := capl) (xl := xfl) (mm + 5) d q (by omega)
      refine ⟨v, h2, fin v h2 ?_, back h2 j4, by omega, j2⟩
      rw [hb, i1, hq]
      have e6 : ([x1, x2, x3, x4, x5] ++ mid).length = [x1, x2, x3, x4, x5].length + its.length := by
        rw [List.length_append, hml]
      rw [e6] at j1
      exact j1
end Go.Proofs.YtmbpjpffafidhaaGreatDoor
