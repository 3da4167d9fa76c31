/- WordsAll: lines' words are compared. -/
import Derived.Test.YtmbpjpffafidhaaGreatDoorWaW16
namespace Go.Proofs.YtmbpjpffafidhaaGreatDoor
open Go Go.Ev
set_option maxRecDepth 100000
set_option linter.unusedSimpArgs false
def waW : BC := (.post (.seq (.reg [o 118 (.bin .lss (.t 10) (.t 9))]) (.seq (.cond (.t 0) .skip (.pre [1, 8, 11, 34, 35, 36, 68, 69] [1, 2, 3, 5, 6, 7, 8, 9] (.exit 4))) (.seq (.block 5 [1, 8, 11, 14, 34, 35, 36, 68, 69, 116, 117] (.post (.seq (.reg []) (.seq (.reg [o 122 (.ia 3 (.t 2) (.t 4)), o 123 (.fa 2 (.t 0)), o 124 (.ld (.t 0)), o 126 (.ia 1 (.t 0) (.t 14)), o 127 (.ld (.t 0)), o 130 (.ia 3 (.t 8) (.t 9)), o 131 (.fa 2 (.t 0)), o 132 (.ld (.t 0)), o 134 (.ia 1 (.t 0) (.t 19)), o 135 (.ld (.t 0)), o 136 (.bin .neq (.t 5) (.t 0))]) (.cond (.t 0) (.seq (.post (.reg [o 4 (.mv (.k (.b false)))]) [4] [0]) (.ret [.mv (.t 0)])) .skip))) [1, 8, 11, 14, 34, 35, 36, 68, 69, 116, 117] [12, 13, 14, 15, 16, 17, 18, 19, 20, 21, 22])) (.reg [o 137 (.bin .add (.t 10) (.k (.i .i64 1)))])))) [1, 8, 11, 14, 34, 35, 36, 68, 69, 116, 117] [1, 2, 3, 4, 5, 6, 7, 8, 9, 10, 0])
def waI : BC := (.seq (.reg []) (.seq (.seq (.post (.reg [o 74 (.ia 3 (.t 2) (.t 8)), o 75 (.fa 0 (.t 0)), o 76 (.ld (.t 0)), o 79 (.ia 3 (.t 6) (.t 11)), o 80 (.fa 0 (.t 0)), o 81 (.ld (.t 0)), o 82 (.bin .neq (.t 3) (.t 0)), .op ⟨(some 84), (some (0, false)), .mv (.t 9)⟩, .op ⟨(some 85), (some (1, false)), .mv (.t 16)⟩, .op ⟨(some 86), (some (2, false)), .ia 3 (.t 1) (.t 0)⟩, .op ⟨(some 87), (some (3, false)), .fa 1 (.t 0)⟩, .op ⟨(some 88), (some (4, false)), .ld (.t 0)⟩, .op ⟨(some 89), (some (5, false)), .mv (.t 15)⟩, .op ⟨(some 90), (some (6, false)), .mv (.t 21)⟩, .op ⟨(some 91), (some (7, false)), .ia 3 (.t 1) (.t 0)⟩, .op ⟨(some 92), (some (8, false)), .fa 1 (.t 0)⟩, .op ⟨(some 93), (some (9, false)), .ld (.t 0)⟩, .op ⟨(some 94), (some (10, false)), .eq 0 true (.t 5) (.t 0)⟩, o 95 (.pick (.t 11) (.k (.b true)) (.t 0)), .op ⟨(some 97), (some (0, false)), .mv (.t 21)⟩, .op ⟨(some 98), (some (1, false)), .mv (.t 28)⟩, .op ⟨(some 99), (some (2, false)), .ia 3 (.t 1) (.t 0)⟩, .op ⟨(some 100), (some (3, false)), .fa 2 (.t 0)⟩, .op ⟨(some 101), (some (4, false)), .ld (.t 0)⟩, .op ⟨(some 102), (some (5, false)), .len false (.t 0)⟩, .op ⟨(some 103), (some (6, false)), .mv (.t 28)⟩, .op ⟨(some 104), (some (7, false)), .mv (.t 34)⟩, .op ⟨(some 105), (some (8, false)), .ia 3 (.t 1) (.t 0)⟩, .op ⟨(some 106), (some (9, false)), .fa 2 (.t 0)⟩, .op ⟨(some 107), (some (10, false)), .ld (.t 0)⟩, .op ⟨(some 108), (some (11, false)), .len false (.t 0)⟩, .op ⟨(some 109), (some (12, false)), .bin .neq (.t 6) (.t 0)⟩, o 110 (.pick (.t 13) (.k (.b true)) (.t 0))]) [1, 8, 11, 14, 34, 35, 36, 68, 69, 110] [34, 35, 36, 41, 37, 38, 39, 40, 41, 0]) (.cond (.t 9) (.seq (.post (.reg [o 4 (.mv (.k (.b false)))]) [4] [0]) (.ret [.mv (.t 0)])) .skip)) (.seq (.reg [o 113 (.ia 3 (.t 1) (.t 3)), o 114 (.fa 2 (.t 0)), o 115 (.ld (.t 0)), o 116 (.len false (.t 0)), o 117 (.mv (.k (.i .i64 0)))]) (.block 4 [1, 8, 11, 34, 35, 36, 68, 69] (.pre [1, 8, 11, 14, 34, 35, 36, 68, 69, 116, 117] [5, 6, 7, 8, 9, 10, 11, 12, 13, 1, 0] (.loop waW))))))
def waL : BC := (.post (.seq (.reg [o 70 (.bin .lss (.t 7) (.t 6))]) (.seq (.cond (.t 0) .skip (.pre [1, 34, 35, 36] [1, 4, 5, 6] (.exit 2))) (.seq (.block 3 [1, 8, 11, 34, 35, 36, 68, 69] waI) (.reg [o 138 (.bin .add (.t 7) (.k (.i .i64 1)))])))) [1, 8, 11, 34, 35, 36, 68, 69] [1, 2, 3, 4, 5, 6, 7, 0])
section
variable {call : CallF} {n i N1 N2 c1 x1 c2 x2 B1 B2 q1 q2 w1 w2 cw1 xw1 cw2 xw2 fz1 fz2 qw1 qw2 : Nat} {h : H} {cs1 cs2 es1 es2 : List V} {ws : List (List Nat)} {t a b c d : V} {no : Int} {hd : Bool}
theorem waW_loop (hx1 : idx (i : Int) N1 = some i) (hx2 : idx (i : Int) N2 = some i) (hg1 : h.get B1 = some (.c cs1 0 q1)) (hg2 : h.get B2 = some (.c cs2 0 q2))
    (hv1 : cs1[i * 3 + 2]? = some (.sl w1 0 ws.length cw1 xw1)) (hv2 : cs2[i * 3 + 2]? = some (.sl w2 0 ws.length cw2 xw2)) (hw1 : h.get w1 = some (.c es1 fz1 qw1)) (hw2 : h.get w2 = some (.c es2 fz2 qw2))
    (he1 : es1.take ws.length = strs ws) (he2 : es2.take ws.length = strs ws) (hl : ws.length < 100000) : ∀ (r pre : List (List Nat)) (m k : Nat), ws = pre ++ r → k = pre.length → r.length < m →
    loopD (execD call n waW) m [t, .sl B1 0 N1 c1 x1, .sl B2 0 N2 c2 x2, .i .i64 (i : Nat), a, b, c, d, .i .i64 (i : Nat), .i .i64 (ws.length : Nat), .i .i64 (k : Nat)] h = some (.exit 4 [t, .sl B1 0 N1 c1 x1, .sl B2 0 N2 c2 x2, a, b, c, d, .i .i64 (i : Nat)], h)
  | [], pre, m, k, hws, hk, hm => by
    obtain ⟨m, rfl⟩ : ∃ q, m = q + 1 := ⟨m - 1, by simp at hm; omega⟩
    have hlt : ¬ (k : Int) < (ws.length : Int) := by rw [hws, hk]; simp
    have hle : (ws.length : Int) ≤ (k : Int) := by omega
    rw [loopD_one]
    simp [waW, execD, runB_op, runB_nil, stepB, guardA, o, semAll, AO.map, AO.cls, evX, tmE, pushE, semP, semN, semR, semE, binV, binI, binS, pickE, retsD, retV, hlt, hle]
  | w :: r, pre, m, k, hws, hk, hm => by
    obtain ⟨m, rfl⟩ : ∃ q, m = q + 1 := ⟨m - 1, by simp at hm; omega⟩
    have hwl : ws.length = pre.length + (r.length + 1) := by rw [hws]; simp
    have hlt : (k : Int) < (ws.length : Int) := by omega
    have hix : idx (k : Int) ws.length = some k := by
      unfold idx
      rw [if_pos (by omega)]
      simp
    have cell (es : List V) (he : es.take ws.length = strs ws) : es[k]? = some (.s w) := by
      have h1 : (es.take ws.length)[k]? = some (.s w) := by
        rw [he, hws, hk]
        simp [strs]
      rw [List.getElem?_take, if_pos (by omega)] at h1
      exact h1
    have hc1 := cell es1 he1
    have hc2 := cell es2 he2
    have hw : IntKind.i64.wrap ((k : Int) + 1) = (k : Int) + 1 := wrap_mid (by omega) (by omega)
    have ek : ((k + 1 : Nat) : Int) = (k : Int) + 1 := by omega
    have hr := waW_loop hx1 hx2 hg1 hg2 hv1 hv2 hw1 hw2 he1 he2 hl r (pre ++ [w]) m (k + 1) (by rw [hws]; simp) (by simp [hk]) (by simp at hm; omega)
    have hb : execD call n waW [t, .sl B1 0 N1 c1 x1, .sl B2 0 N2 c2 x2, .i .i64 (i : Nat), a, b, c, d, .i .i64 (i : Nat), .i .i64 (ws.length : Nat), .i .i64 (k : Nat)] h = some (.nrm [t, .sl B1 0 N1 c1 x1, .sl B2 0 N2 c2 x2, .i .i64 (i : Nat), a, b, c, d, .i .i64 (i : Nat), .i .i64 (ws.length : Nat), .i .i64 ((k : Int) + 1)], h) := by
      simp [waW, execD, runB_op, runB_nil, stepB, guardA, o, semAll, AO.map, AO.cls, evX, tmE, pushE, semP, semN, semR, semE, binV, binI, binS, pickE, retsD, retV, hlt, hix, hx1, hx2, hg1, hg2, hv1, hv2, hw1, hw2, hc1, hc2, hw]
    rw [ek] at hr
    rw [loopD_one, hb]
    exact hr
theorem waI_run (hx1 : idx (i : Int) N1 = some i) (hx2 : idx (i : Int) N2 = some i) (hg1 : h.get B1 = some (.c cs1 0 q1)) (hg2 : h.get B2 = some (.c cs2 0 q2))
    (hn1 : cs1[i * 3]? = some (.i .i64 no)) (hn2 : cs2[i * 3]? = some (.i .i64 no)) (hh1 : cs1[i * 3 + 1]? = some (.b hd)) (hh2 : cs2[i * 3 + 1]? = some (.b hd))
    (hv1 : cs1[i * 3 + 2]? = some (.sl w1 0 ws.length cw1 xw1)) (hv2 : cs2[i * 3 + 2]? = some (.sl w2 0 ws.length cw2 xw2)) (hw1 : h.get w1 = some (.c es1 fz1 qw1)) (hw2 : h.get w2 = some (.c es2 fz2 qw2))
    (he1 : es1.take ws.length = strs ws) (he2 : es2.take ws.length = strs ws) (hl : ws.length < 100000) (hn : ws.length < n) :
    execD call n waI [.b true, t, .sl B1 0 N1 c1 x1, .sl B2 0 N2 c2 x2, a, b, c, d, .i .i64 (i : Nat)] h = some (.nrm [t, .sl B1 0 N1 c1 x1, .sl B2 0 N2 c2 x2, a, b, c, d, .i .i64 (i : Nat)], h) := by
  have hr := waW_loop (call := call) (n := n) (t := t) (a := a) (b := b) (c := c) (d := d) (c1 := c1) (x1 := x1) (c2 := c2) (x2 := x2) hx1 hx2 hg1 hg2 hv1 hv2 hw1 hw2 he1 he2 hl ws [] n 0 rfl rfl hn
  have e0 : ((0 : Nat) : Int) = 0 := rfl
  rw [e0] at hr
  cases hd <;> simp [waI, execD, runB_op, runB_nil, stepB, guardA, o, semAll, AO.map, AO.cls, evX, tmE, pushE, semP, semN, semR, semE, binV, binI, binS, pickE, retsD, retV, eqV, hx1, hx2, hg1, hg2, hn1, hn2, hh1, hh2, hv1, hv2, hr]
end
theorem waL_loop (call : CallF) (n : Nat) (h : H) (B1 B2 c1 x1 c2 x2 q1 q2 m1 m2 : Nat) (cs1 cs2 : List V) (bo1 bo2 : Option Nat) (xs1 xs2 : List Row) (hl : xs1.map Row.line = xs2.map Row.line) (hlen : xs1.length < 100000)
    (hg1 : h.get B1 = some (.c cs1 0 q1)) (hg2 : h.get B2 = some (.c cs2 0 q2)) (hr1 : RowsAt h bo1 m1 xs1) (hr2 : RowsAt h bo2 m2 xs2)
    (hc1 : ∀ pre r post, xs1 = pre ++ r :: post → cs1[pre.length * 3]? = some (.i .i64 (r.no : Int)) ∧ cs1[pre.length * 3 + 1]? = some (.b r.hd) ∧ cs1[pre.length * 3 + 2]? = some r.v)
    (hc2 : ∀ pre r post, xs2 = pre ++ r :: post → cs2[pre.length * 3]? = some (.i .i64 (r.no : Int)) ∧ cs2[pre.length * 3 + 1]? = some (.b r.hd) ∧ cs2[pre.length * 3 + 2]? = some r.v)
    (hws : ∀ r ∈ xs1, r.ws.length < 100000 ∧ r.ws.length < n) (t a b c : V) : ∀ (r1 r2 p1 p2 : List Row) (m i : Nat), xs1 = p1 ++ r1 → xs2 = p2 ++ r2 → i = p1.length → i = p2.length → r1.length = r2.length → r1.length < m →
    loopD (execD call n waL) m [t, .sl B1 0 xs1.length c1 x1, .sl B2 0 xs1.length c2 x2, a, b, c, .i .i64 (xs1.length : Nat), .i .i64 (i : Nat)] h = some (.exit 2 [t, a, b, c], h)
  | [], r2, p1, p2, m, i, e1, e2, i1, i2, hrl, hm => by
    obtain ⟨m, rfl⟩ : ∃ q, m = q + 1 := ⟨m - 1, by simp at hm; omega⟩
    have hlt : ¬ (i : Int) < (xs1.length : Int) := by rw [e1, i1]; simp
    have hle : (xs1.length : Int) ≤ (i : Int) := by omega
    rw [loopD_one]
    simp [waL, execD, runB_op, runB_nil, stepB, guardA, o, semAll, AO.map, AO.cls, evX, tmE, pushE, semP, semN, semR, semE, binV, binI, binS, pickE, retsD, retV, hlt, hle]
  | x :: r1, [], p1, p2, m, i, e1, e2, i1, i2, hrl, hm => by simp at hrl
  | x :: r1, y :: r2, p1, p2, m, i, e1, e2, i1, i2, hrl, hm => by
    obtain ⟨m, rfl⟩ : ∃ q, m = q + 1 := ⟨m - 1, by simp at hm; omega⟩
    have hl1 : xs1.length = p1.length + (r1.length + 1) := by rw [e1]; simp
    have hlt : (i : Int) < (xs1.length : Int) := by omega
    have hix : idx (i : Int) xs1.length = some i := by
      unfold idx
      rw [if_pos (by omega)]
      simp
    have hxy : x.line = y.line := by
      have h1 : (xs1.map Row.line)[i]? = some x.line := by rw [e1, i1]; simp
      have h2 : (xs2.map Row.line)[i]? = some y.line := by rw [e2, i2]; simp
      rw [hl, h2] at h1
      injection h1 with h1
      exact h1.symm
    simp only [Row.line, Prod.mk.injEq] at hxy
    obtain ⟨y1, y2, y3⟩ := hxy
    obtain ⟨a1, a2, a3⟩ := hc1 p1 x r1 e1
    obtain ⟨b1, b2, b3⟩ := hc2 p2 y r2 e2
    rw [← i1] at a1 a2 a3
    rw [← i2, ← y1] at b1
    rw [← i2, ← y2] at b2
    rw [← i2] at b3
    obtain ⟨⟨cp1, xf1, es1, fz1, qw1, k1, k2, k3⟩, _⟩ := hr1 x (by rw [e1]; simp)
    obtain ⟨⟨cp2, xf2, es2, fz2, qw2, l1, l2, l3⟩, _⟩ := hr2 y (by rw [e2]; simp)
    rw [k1] at a3
    rw [l1, ← y3] at b3
    rw [← y3] at l3
    obtain ⟨z1, z2⟩ := hws x (by rw [e1]; simp)
    have hI := waI_run (call := call) (n := n) (t := t) (a := a) (b := b) (c := c) (d := .i .i64 (xs1.length : Nat)) (c1 := c1) (x1 := x1) (c2 := c2) (x2 := x2) hix hix hg1 hg2 a1 b1 a2 b2 a3 b3 k2 l2 k3 l3 z1 z2
    have hw : IntKind.i64.wrap ((i : Int) + 1) = (i : Int) + 1 := wrap_mid (by omega) (by omega)
    have ei : ((i + 1 : Nat) : Int) = (i : Int) + 1 := by omega
    have hb : execD call n waL [t, .sl B1 0 xs1.length c1 x1, .sl B2 0 xs1.length c2 x2, a, b, c, .i .i64 (xs1.length : Nat), .i .i64 (i : Nat)] h = some (.nrm [t, .sl B1 0 xs1.length c1 x1, .sl B2 0 xs1.length c2 x2, a, b, c, .i .i64 (xs1.length : Nat), .i .i64 ((i : Int) + 1)], h) := by
      simp [waL, execD, runB_op, runB_nil, stepB, guardA, o, semAll, AO.map, AO.cls, evX, tmE, pushE, semP, semN, semR, semE, binV, binI, binS, pickE, retsD, retV, hlt, hI, hw]
    have hr := waL_loop call n h B1 B2 c1 x1 c2 x2 q1 q2 m1 m2 cs1 cs2 bo1 bo2 xs1 xs2 hl hlen hg1 hg2 hr1 hr2 hc1 hc2 hws t a b c r1 r2 (p1 ++ [x]) (p2 ++ [y]) m (i + 1) (by rw [e1]; simp) (by rw [e2]; simp) (by simp [i1]) (by simp [i2]) (by simpa using hrl) (by simp at hm; omega)
    rw [ei] at hr
    rw [loopD_one, hb]
    exact hr
end Go.Proofs.YtmbpjpffafidhaaGreatDoor
