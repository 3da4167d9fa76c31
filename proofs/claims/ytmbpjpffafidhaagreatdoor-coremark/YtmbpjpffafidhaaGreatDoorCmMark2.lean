/- CoreMark: core.Get reads the lines among the columns. -/
import Derived.Test.YtmbpjpffafidhaaGreatDoorCmMark1
namespace Go.Proofs.YtmbpjpffafidhaaGreatDoor
open Go Go.Ev
set_option maxRecDepth 100000
set_option linter.unusedSimpArgs false
variable {F : Nat → Option FN}
theorem loop_step {body : List V → H → Option (EX × H)} {m : Nat} {e e' : List V} {h h' : H} (hb : body e h = some (.nrm e', h')) : loopD body (m + 1) e h = loopD body m e' h' := by
  rw [loopD_one, hb]
theorem loop_ret {body : List V → H → Option (EX × H)} {m : Nat} {e : List V} {v : V} {h h' : H} (hb : body e h = some (.ret v, h')) : loopD body (m + 1) e h = some (.ret v, h') := by
  rw [loopD_one, hb]
/-- The heap at a section's own function. -/
def secH (h : H) (R q : Nat) (r : RD) (no : Int) (hd : Bool) (v : V) : H := ((lineH h no hd v).new (.c [.i .i64 no, .b hd, v] 0 136)).put R (some (.c ({ r with l := v } : RD).cells 0 q))
theorem lineH_mod (h : H) (no : Int) (hd : Bool) (v : V) : Mod [] h (lineH h no hd v) := ⟨by show h.nx ≤ h.nx + 1; omega, fun j hj _ => by
  unfold lineH
  rw [H.get_put, if_neg (by omega), H.get_new, if_neg (by omega)]⟩
theorem sec_mod (h : H) (R q : Nat) (r : RD) (no : Int) (hd : Bool) (v : V) : Mod [R] h (secH h R q r no hd v) :=
  (((lineH_mod h no hd v).weak (by simp)).trans (Mod.new _ _ _)).trans (Mod.put _ (by simp))
theorem sec_rd {h : H} {R q : Nat} {r : RD} (a : RdAt h R q r) (no : Int) (hd : Bool) (v : V) : RdAt (secH h R q r no hd v) R q { r with l := v } ∧ RdAt (lineH h no hd v) R q r :=
  ⟨⟨by unfold secH; rw [H.get_put, if_pos rfl], a.q0, by show R < h.nx + 2; have := a.lt; omega, a.e⟩, a.mod (lineH_mod h no hd v) (by simp)⟩
theorem sec_x {h : H} {R q : Nat} {r : RD} (a : RdAt h R q r) (no : Int) (hd : Bool) (v : V) : (secH h R q r no hd v).get h.nx = some (.c [.i .i64 no, .b hd, v] 0 136) ∧ h.nx < (secH h R q r no hd v).nx := by
  have := a.lt
  refine ⟨?_, by show h.nx < h.nx + 2; omega⟩
  unfold secH lineH
  rw [H.get_put, if_neg (by omega), H.get_new, if_neg (by show ¬ h.nx = h.nx + 1; omega), H.get_put, if_pos rfl]
theorem words_at {h : H} {W : Nat} {wc : List V} {fz qw : Nat} {ws : List (List Nat)} (hg : h.get W = some (.c wc fz qw)) (hwc : wc.take ws.length = ws.map V.s) (hW : W < h.nx) (hf : ws.length < 1000) : WordsAt h (.sl W 0 ws.length ws.length 0) W 0 ws :=
  ⟨rfl, ⟨wc, fz, qw, hg, fun i s hs => by
    have hi := (List.getElem?_eq_some_iff.1 hs).1
    have := congrArg (fun (l : List V) => l[i]?) hwc
    simp only [List.getElem?_take, if_pos hi, List.getElem?_map, hs, Option.map_some] at this
    rw [Nat.zero_add]
    exact this⟩, hW, hf⟩
theorem item_run (k : WKC F) (u : NumI F) {m0 : Nat} {h : H} {R q : Nat} {r : RD} {Br : Nat} {cols : List (List Nat × Bool)} (cs : CS m0 h R q r [111] [114] Br cols) {j : Nat} (hj : j < 12) (old : Old j cols) (x : It) {W : Nat} (hW : W < m0) {wc : List V} {fz qw : Nat} (hg : h.get W = some (.c wc fz qw))
    (hwc : wc.take 3 = (itemW x j).map V.s) (no : Int) (n d : Nat) (hn : 1000 < n) :
    ∃ g r', callD F n (d + 8) 58 [.p R 0, .ag [.i .i64 no, .b false, .sl W 0 3 3 0]] (lineH h no false (.sl W 0 3 3 0)) = some (.tu [], g) ∧ h.nx ≤ g.nx ∧ (∀ y, y < m0 → g.get y = h.get y) ∧
      (match stIt (.ok (j, r.ig, cols)) x with
        | .error _ => g.get R = some (.c r'.cells 0 q) ∧ r'.e = 5 ∧ g.get h.nx = some (.c [.i .i64 no, .b false, .sl W 0 3 3 0] 0 136)
        | .ok (_, ig', cols') => CS m0 g R q r' [111] [114] Br cols' ∧ r'.ig = ig') := by
  have rd := cs.rd
  have hlow := cs.low.1
  have hRl := rd.lt
  have hat := cs.at_
  obtain ⟨rd2, rdl⟩ := sec_rd rd no false (.sl W 0 3 3 0)
  have m2 := sec_mod h R q r no false (.sl W 0 3 3 0)
  have hle2 := m2.le
  obtain ⟨hx2, hxl⟩ := sec_x rd no false (.sl W 0 3 3 0)
  have cs2 : CS m0 (secH h R q r no false (.sl W 0 3 3 0)) R q { r with l := .sl W 0 3 3 0 } [111] [114] Br cols := cs.reR m2 rd2.get rfl rfl rfl rfl rfl rfl rd.e
  have hg2 : (secH h R q r no false (.sl W 0 3 3 0)).get W = some (.c wc fz qw) := by rw [m2.get W (by omega) (by simp; omega), hg]
  have low2 : ∀ y, y < m0 → (secH h R q r no false (.sl W 0 3 3 0)).get y = h.get y := fun y hy => m2.get y (by omega) (by simp; omega)
  have mark : ∀ (z : List Nat), (z = orgL ∨ z = endgL) → wc.take 3 = [[77], markerL, z].map V.s → ∃ g, callD F n (d + 8) 58 [.p R 0, .ag [.i .i64 no, .b false, .sl W 0 3 3 0]] (lineH h no false (.sl W 0 3 3 0)) = some (.tu [], g) ∧ Mod [R] (secH h R q r no false (.sl W 0 3 3 0)) g ∧
      g.get R = some (.c ({ r with l := restV W 2 [], ig := decide (z = orgL), e := if decide (z = orgL) = r.ig then 5 else 0 } : RD).cells 0 q) := by
    intro z hz hwz
    have w2 : WordsAt (secH h R q r no false (.sl W 0 3 3 0)) (.sl W 0 3 3 0) W 0 [[77], markerL, z] := words_at (ws := [[77], markerL, z]) hg2 hwz (by omega) (by simp)
    obtain ⟨g, c, m, hr⟩ := column_mark k cs2 w2 hz hW n d hn
    exact ⟨g, line_column k rdl hat c rfl, m, hr⟩
  have lows : ∀ g, Mod [R] (secH h R q r no false (.sl W 0 3 3 0)) g → ∀ y, y < m0 → g.get y = h.get y := fun g m y hy => by rw [m.get y (by omega) (by simp; omega), low2 y hy]
  cases x with
  | org =>
    obtain ⟨g, c, m, hr⟩ := mark orgL (.inl rfl) hwc
    have hd : decide (orgL = orgL) = true := by decide
    rw [hd] at hr
    cases hig : r.ig with
    | true =>
      rw [hig, if_pos rfl] at hr
      exact ⟨g, _, c, Nat.le_trans hle2 m.le, lows g m, hr, rfl, by rw [m.get h.nx hxl (by simp; omega), hx2]⟩
    | false =>
      rw [hig, if_neg (by simp)] at hr
      exact ⟨g, _, c, Nat.le_trans hle2 m.le, lows g m, cs2.reR m hr rfl rfl rfl rfl rfl rfl rfl, rfl⟩
  | fin =>
    obtain ⟨g, c, m, hr⟩ := mark endgL (.inr rfl) hwc
    have hd : decide (endgL = orgL) = false := by decide
    rw [hd] at hr
    cases hig : r.ig with
    | true =>
      rw [hig, if_neg (by simp)] at hr
      exact ⟨g, _, c, Nat.le_trans hle2 m.le, lows g m, cs2.reR m hr rfl rfl rfl rfl rfl rfl rfl, rfl⟩
    | false =>
      rw [hig, if_pos rfl] at hr
      exact ⟨g, _, c, Nat.le_trans hle2 m.le, lows g m, hr, rfl, by rw [m.get h.nx hxl (by simp; omega), hx2]⟩
  | col =>
    have w2 : WordsAt (secH h R q r no false (.sl W 0 3 3 0)) (.sl W 0 3 3 0) W 0 [nameX j, [114], [49]] := words_at (ws := [nameX j, [114], [49]]) hg2 hwc (by omega) (by simp)
    obtain ⟨hnx, hnr⟩ := nameX_ok j hj
    obtain ⟨g, r', c, cs', fr, hle, hig, _⟩ := column_new k u cs2 w2 hW hnx hnr (old.fresh hj) (by decide) (by have := old.1; omega) n d hn
    exact ⟨g, r', line_column k rdl hat c rfl, by omega, fun y hy => by rw [fr y hy, low2 y hy], cs', hig⟩
/-- The rows that a reader goes through. -/
structure RowsIn (hS : H) (m0 Bl ql : Nat) (cs : List V) (xs : List Row) : Prop where
  get : hS.get Bl = some (.c cs 0 ql)
  low : Bl < m0
  cell : ∀ pre r post, xs = pre ++ r :: post → cs[pre.length * 3]? = some (.i .i64 (r.no : Int)) ∧ cs[pre.length * 3 + 1]? = some (.b r.hd) ∧ cs[pre.length * 3 + 2]? = some r.v
  ok : ∀ r ∈ xs, r.v = .sl r.w 0 r.ws.length r.ws.length 0 ∧ r.w < m0 ∧ ∃ wc fz qw, hS.get r.w = some (.c wc fz qw) ∧ wc.take r.ws.length = r.ws.map V.s
  few : xs.length < 90000
theorem RowsIn.at_ {hS : H} {m0 Bl ql : Nat} {cs : List V} {xs : List Row} (a : RowsIn hS m0 Bl ql cs xs) {h : H} (hfr : ∀ y, y < m0 → h.get y = hS.get y) : RowsIn h m0 Bl ql cs xs :=
  ⟨by rw [hfr _ a.low, a.get], a.low, a.cell, fun r hr => by
    obtain ⟨h1, h2, wc, fz, qw, h3, h4⟩ := a.ok r hr
    exact ⟨h1, h2, wc, fz, qw, by rw [hfr _ h2, h3], h4⟩, a.few⟩
theorem items_loop (k : WKC F) (u : NumI F) {hS : H} {m0 Bl ql cl xl : Nat} {cs : List V} {xs : List Row} (ri : RowsIn hS m0 Bl ql cs xs) {A R q Br : Nat} (hA : ∃ a0 a1 a2 a3, hS.get A = some (.c [a0, a1, a2, a3] 0 212)) (hAl : A < m0) (n d : Nat) (hn : 1000 < n) :
    ∀ (its : List It) (pre mid post : List Row) (j m : Nat) (h : H) (r : RD) (cols : List (List Nat × Bool)), xs = pre ++ (mid ++ post) → mid.map Row.line = numL (linesI its j) (6 + j) → j + its.length ≤ 12 → its.length < m → CS m0 h R q r [111] [114] Br cols → Old j cols → (∀ y, y < m0 → h.get y = hS.get y) →
    match its.foldl stIt (.ok (j, r.ig, cols)) with
    | .error e => ∃ h', loopD (execD (callD F n (d + 8)) n cgB) m [.p A 0, .p R 0, .sl Bl 0 xs.length cl xl, .i .i64 (xs.length : Nat), .i .i64 (pre.length : Nat)] h = some (.ret (.tu [.ag [.s [], .s [], .sn, .sn], .i .i64 ((6 + e : Nat) : Int), .i .i64 5]), h') ∧ h.nx ≤ h'.nx ∧ (∀ y, y < m0 → y ≠ A → h'.get y = hS.get y)
    | .ok (_, ig', cols') => ∃ h' r', loopD (execD (callD F n (d + 8)) n cgB) m [.p A 0, .p R 0, .sl Bl 0 xs.length cl xl, .i .i64 (xs.length : Nat), .i .i64 (pre.length : Nat)] h =
        loopD (execD (callD F n (d + 8)) n cgB) (m - its.length) [.p A 0, .p R 0, .sl Bl 0 xs.length cl xl, .i .i64 (xs.length : Nat), .i .i64 ((pre.length + its.length : Nat) : Int)] h' ∧ CS m0 h' R q r' [111] [114] Br cols' ∧ r'.ig = ig' ∧ h.nx ≤ h'.nx ∧ (∀ y, y < m0 → h'.get y = hS.get y)
  | [], pre, mid, post, j, m, h, r, cols, hxs, hmid, hj, hm, c, old, hfr => by
    simp only [List.foldl_nil, List.length_nil, Nat.sub_zero, Nat.add_zero]
    exact ⟨h, r, rfl, c, rfl, Nat.le_refl _, hfr⟩
  | x :: its, pre, mid, post, j, m, h, r, cols, hxs, hmid, hj, hm, c, old, hfr => by
    simp only [List.length_cons] at hj hm
    obtain ⟨m, rfl⟩ : ∃ q, m = q + 1 := ⟨m - 1, by omega⟩
    cases mid with
    | nil => simp [linesI, numL] at hmid
    | cons row mid =>
      simp only [List.map_cons, linesI, numL, List.cons.injEq] at hmid
      obtain ⟨hline, hmid⟩ := hmid
      obtain ⟨i1, i2, i3, i4, _, _⟩ := item_ok x j (by omega)
      rw [i2, i4] at hline
      unfold Row.line at hline
      simp only [Prod.mk.injEq] at hline
      obtain ⟨l1, l2, l3⟩ := hline
      have ri' := ri.at_ hfr
      obtain ⟨c0, c1, c2⟩ := ri'.cell pre row (mid ++ post) (by rw [hxs]; rfl)
      obtain ⟨v1, v2, wc, fz, qw, v3, v4⟩ := ri'.ok row (by rw [hxs]; simp)
      have hlt : pre.length < xs.length := by rw [hxs]; simp
      have hw3 : row.ws.length = 3 := by rw [l3]; cases x <;> rfl
      rw [hw3] at v1 v4
      rw [l3] at v4
      rw [l2] at c1
      rw [v1] at c2
      rw [l1] at c0
      have hcl : pre.length * 3 + 3 ≤ cs.length := by
        have := (List.getElem?_eq_some_iff.1 c2).1
        omega
      obtain ⟨g, r', hcall, hle, frg, hst⟩ := item_run k u c (by omega) old x v2 v3 v4 ((6 + j : Nat) : Int) n d hn
      have few := ri.few
      have hnoc : callD F n (d + 8) 58 [.p R 0, .ag [.i .i64 ((6 + j : Nat) : Int), .b false, .sl row.w 0 3 3 0]] (lineH h ((6 + j : Nat) : Int) false (.sl row.w 0 3 3 0)) = some (.tu [], g) := hcall
      simp only [List.foldl_cons]
      cases hs : stIt (.ok (j, r.ig, cols)) x with
      | error e =>
        rw [hs] at hst
        obtain ⟨hr5, he5, hX⟩ := hst
        have hej : e = j := by
          cases x <;> simp only [stIt] at hs
          · split at hs
            · injection hs with hs
              exact hs.symm
            · cases hs
          · split at hs
            · cases hs
            · injection hs with hs
              exact hs.symm
          · cases hs
        rw [stit_err, hej]
        obtain ⟨a0, a1, a2, a3, hA'⟩ := hA
        have hAg : g.get A = some (.c [a0, a1, a2, a3] 0 212) := by rw [frg A hAl, hfr A hAl, hA']
        have hRm := c.low.1
        have hlt2 := c.rd.lt
        have hb := cg_err (n := n) (cl := cl) (xl := xl) hlt (by omega) ri'.get c0 c1 c2 hcl rfl hnoc hr5 (by rw [he5]; decide) hX hAg (by omega) (by omega)
        rw [he5] at hb
        refine ⟨_, by rw [loopD_one, hb], ?_, fun y hy hyA => ?_⟩
        · exact hle
        · rw [H.get_put, if_neg hyA, frg y hy, hfr y hy]
      | ok st =>
        obtain ⟨j2, ig2, cols2⟩ := st
        rw [hs] at hst
        obtain ⟨cs2, hig2⟩ := hst
        have hj2 : j2 = j + 1 ∧ Old (j + 1) cols2 := by
          cases x <;> simp only [stIt] at hs
          · split at hs
            · cases hs
            · simp only [Except.ok.injEq, Prod.mk.injEq] at hs
              obtain ⟨rfl, _, rfl⟩ := hs
              exact ⟨rfl, old.up⟩
          · split at hs
            · simp only [Except.ok.injEq, Prod.mk.injEq] at hs
              obtain ⟨rfl, _, rfl⟩ := hs
              exact ⟨rfl, old.up⟩
            · cases hs
          · simp only [Except.ok.injEq, Prod.mk.injEq] at hs
            obtain ⟨rfl, _, rfl⟩ := hs
            exact ⟨rfl, old.app _⟩
        obtain ⟨rfl, old2⟩ := hj2
        have hb := cg_cont (n := n) (A := A) (cl := cl) (xl := xl) hlt (by omega) ri'.get c0 c1 c2 hcl rfl hnoc cs2.rd.get cs2.rd.e (by rw [cs2.at_]; decide)
        have ih := items_loop k u ri hA hAl n d hn (cl := cl) (xl := xl) its (pre ++ [row]) mid post (j + 1) m g r' cols2 (by rw [hxs]; simp) (by rw [hmid, Nat.add_assoc]) (by omega) (by omega) cs2 old2 (fun y hy => by rw [frg y hy, hfr y hy])
        rw [hig2] at ih
        simp only [List.length_append, List.length_cons, List.length_nil] at ih
        cases hf : its.foldl stIt (.ok (j + 1, ig2, cols2)) with
        | error e =>
          rw [hf] at ih
          obtain ⟨h', i1, i2, i3⟩ := ih
          exact ⟨h', by rw [loop_step hb]; exact i1, by omega, i3⟩
        | ok st =>
          obtain ⟨j3, ig3, cols3⟩ := st
          rw [hf] at ih
          obtain ⟨h', r3, i1, i2, i3, i4, i5⟩ := ih
          refine ⟨h', r3, ?_, i2, i3, by omega, i5⟩
          rw [loop_step hb, i1]
          have e1 : m + 1 - (its.length + 1) = m - its.length := by omega
          have e2 : pre.length + 1 + its.length = pre.length + (its.length + 1) := by omega
          simp only [List.length_cons, e1, e2]
end Go.Proofs.YtmbpjpffafidhaaGreatDoor
