/- WordsAll: one text. -/
import Derived.Test.YtmbpjpffafidhaaGreatDoorWaW17
namespace Go.Proofs.YtmbpjpffafidhaaGreatDoor
open Go Go.Ev
set_option maxRecDepth 100000
set_option linter.unusedSimpArgs false
variable {F : Nat → Option FN}
theorem text_run (hF : F 11 = some (.code 2 c11)) (l : List Nat) (k : Nat) (h : H) (n d : Nat) : callD F n (d + 1) 11 [.s l, .i .i64 (k : Nat)] h = some (.s (l.take k), h) := by
  refine callD_code hF rfl ?_
  by_cases hk : (k : Int) < (l.length : Int)
  · have c1 : (k : Int) ≤ (l.length : Int) := by omega
    simp [c11, execD, runB_op, runB_nil, stepB, guardA, o, semAll, AO.map, AO.cls, evX, tmE, pushE, semP, semN, semR, semE, binV, binI, binS, pickE, retsD, retV, mmV, bnds, hiV, loV, hk, c1]
  · have c1 : (l.length : Int) ≤ (k : Int) := by omega
    have c2 : l.take k = l := List.take_of_length_le (by omega)
    simp [c11, execD, runB_op, runB_nil, stepB, guardA, o, semAll, AO.map, AO.cls, evX, tmE, pushE, semP, semN, semR, semE, binV, binI, binS, pickE, retsD, retV, mmV, bnds, hiV, loV, hk, c1, c2]
theorem getP_bound : ∀ (ls : List (List Nat)) (no : Nat) (ys : List (Nat × Bool × List (List Nat))), getP ls no = .ok ys → ys.length ≤ ls.length ∧ ∀ y ∈ ys, y.2.2.length ≤ 201
  | [], no, ys, h => by
    simp only [getP, Except.ok.injEq] at h
    subst h
    simp
  | s :: ls, no, ys, h => by
    simp only [getP] at h
    by_cases h1 : 2500 < no
    · rw [if_pos h1] at h
      simp at h
    · rw [if_neg h1] at h
      by_cases h2 : lookE s ≠ 0
      · rw [if_pos h2] at h
        simp at h
      · rw [if_neg h2] at h
        cases h3 : getP ls (no + 1) with
        | error e => rw [h3] at h; simp at h
        | ok zs =>
          rw [h3] at h
          obtain ⟨k1, k2⟩ := getP_bound ls (no + 1) zs h3
          simp only [Except.ok.injEq] at h
          subst h
          by_cases h4 : skipB s = true
          · rw [if_pos h4]
            exact ⟨by simp; omega, k2⟩
          · rw [if_neg h4]
            refine ⟨by simp; omega, fun y hy => ?_⟩
            simp only [List.mem_cons] at hy
            rcases hy with rfl | hy
            · have := (look_ok (Classical.not_not.1 h2)).1
              have := fullS_len s
              simp [fieldsL]
              omega
            · exact k2 y hy
theorem waL_zero {call : CallF} {n m : Nat} {t l mm a b c : V} {h : H} (hm : 0 < m) : loopD (execD call n waL) m [t, l, mm, a, b, c, .i .i64 0, .i .i64 0] h = some (.exit 2 [t, a, b, c], h) := by
  obtain ⟨m, rfl⟩ : ∃ q, m = q + 1 := ⟨m - 1, by omega⟩
  rw [loopD_one]
  simp [waL, execD, runB_op, runB_nil, stepB, guardA, o, semAll, AO.map, AO.cls, evX, tmE, pushE, semP, semN, semR, semE, binV, binI, binS, pickE, retsD, retV]
/-- A row of so many. -/
def Len (l : V) (K : Nat) : Prop := (l = .sn ∧ K = 0) ∨ ∃ B c x, l = .sl B 0 K c x
theorem pair {h1 h2 : H} {m1 m2 : Nat} {v1 v2 : V} {ls : List (List Nat)} (hls : ls.length < 90000) (g1 : GetRes m1 h1 v1 (getP ls 1)) (g2 : GetRes m2 h2 v2 (getP ls 1)) (hx : Ext h1 h2) :
    ∃ l m a e K, v1 = .tu [l, .i .i64 a, .i .i64 e] ∧ v2 = .tu [m, .i .i64 a, .i .i64 e] ∧ Len l K ∧ Len m K ∧ ∀ (call : CallF) (n : Nat) (t a b c : V), 100000 < n → loopD (execD call n waL) n [t, l, m, a, b, c, .i .i64 (K : Nat), .i .i64 0] h2 = some (.exit 2 [t, a, b, c], h2) := by
  cases hg : getP ls 1 with
  | error e =>
    rw [hg] at g1 g2
    obtain ⟨a, e⟩ := e
    exact ⟨.sn, .sn, a, e, 0, g1, g2, .inl ⟨rfl, rfl⟩, .inl ⟨rfl, rfl⟩, fun call n t a b c hn => waL_zero (by omega)⟩
  | ok ys =>
    rw [hg] at g1 g2
    obtain ⟨k1, k2⟩ := getP_bound ls 1 ys hg
    obtain ⟨l, bo1, xs1, p1, p2, p3, p4, p5⟩ := g1
    obtain ⟨m, bo2, xs2, q1, q2, q3, q4, q5⟩ := g2
    have hl1 : xs1.length = ys.length := by rw [← p4]; simp
    have hl2 : xs2.length = ys.length := by rw [← q4]; simp
    cases bo1 with
    | none =>
      obtain ⟨rfl, hx0⟩ := p2
      have hK : xs1.length = 0 := by
        have := rowsC_len xs1
        rw [hx0] at this
        simp at this
        omega
      cases bo2 with
      | none =>
        obtain ⟨rfl, _⟩ := q2
        exact ⟨.sn, .sn, 0, 0, 0, p1, q1, .inl ⟨rfl, rfl⟩, .inl ⟨rfl, rfl⟩, fun call n t a b c hn => waL_zero (by omega)⟩
      | some B2 =>
        obtain ⟨c2, x2, cs2, w2, rfl, _⟩ := rows_read q2.1
        refine ⟨.sn, _, 0, 0, 0, p1, q1, .inl ⟨rfl, rfl⟩, .inr ⟨B2, c2, x2, ?_⟩, fun call n t a b c hn => waL_zero (by omega)⟩
        have : xs2.length = 0 := by omega
        rw [this]
    | some B1 =>
      obtain ⟨c1, x1, cs1, w1, rfl, hg1, hc1⟩ := rows_read p2.1
      have hB1 := p2.2
      cases bo2 with
      | none =>
        obtain ⟨rfl, hx0⟩ := q2
        have hK : xs2.length = 0 := by
          have := rowsC_len xs2
          rw [hx0] at this
          simp at this
          omega
        refine ⟨_, .sn, 0, 0, 0, p1, q1, .inr ⟨B1, c1, x1, ?_⟩, .inl ⟨rfl, rfl⟩, fun call n t a b c hn => waL_zero (by omega)⟩
        have : xs1.length = 0 := by omega
        rw [this]
      | some B2 =>
        obtain ⟨c2, x2, cs2, w2, rfl, hg2, hc2⟩ := rows_read q2.1
        have e12 : xs2.length = xs1.length := by omega
        rw [e12] at q1
        refine ⟨_, _, 0, 0, xs1.length, p1, q1, .inr ⟨B1, c1, x1, rfl⟩, .inr ⟨B2, c2, x2, rfl⟩, fun call n t a b c hn => ?_⟩
        have hws : ∀ r ∈ xs1, r.ws.length < 100000 ∧ r.ws.length < n := by
          intro r hr
          have := k2 r.line (by rw [← p4]; exact List.mem_map_of_mem hr)
          simp only [Row.line] at this
          omega
        have := waL_loop call n h2 B1 B2 c1 x1 c2 x2 w1 w2 m1 m2 cs1 cs2 (some B1) (some B2) xs1 xs2 (by rw [p4, q4]) (by omega) (by rw [hx.get B1 hB1, hg1]) hg2 (p3.ext hx.le fun j _ hj => hx.get j hj) q3 hc1 hc2 hws t a b c xs1 xs2 [] [] n 0 rfl rfl rfl rfl (by omega) (by omega)
        exact this
def waO : BC := (.post (.seq (.reg [o 37 (.bin .lss (.t 3) (.t 2))]) (.seq (.cond (.t 0) .skip (.pre [1] [1] (.exit 0))) (.seq (.block 1 [1, 34, 35, 36] (.seq (.reg [o 38 (.ia 1 (.t 2) (.t 4)), o 39 (.ld (.t 0))]) (.seq (.reg [o 42 (.call 12 [(.t 0)]), o 43 (.ext 0 (.t 0)), o 44 (.ext 1 (.t 1)), o 45 (.ext 2 (.t 2))]) (.seq (.reg [o 48 (.call 13 [(.t 4)]), o 49 (.ext 0 (.t 0)), o 50 (.ext 1 (.t 1)), o 51 (.ext 2 (.t 2))]) (.seq (.seq (.post (.reg [o 54 (.bin .neq (.t 4) (.t 0)), .op ⟨(some 56), (some (0, false)), .mv (.t 6)⟩, .op ⟨(some 57), (some (1, false)), .mv (.t 3)⟩, .op ⟨(some 58), (some (2, false)), .bin .neq (.t 1) (.t 0)⟩, o 59 (.pick (.t 3) (.k (.b true)) (.t 0)), .op ⟨(some 61), (some (0, false)), .mv (.t 11)⟩, .op ⟨(some 62), (some (1, false)), .len false (.t 0)⟩, .op ⟨(some 63), (some (2, false)), .mv (.t 9)⟩, .op ⟨(some 64), (some (3, false)), .len false (.t 0)⟩, .op ⟨(some 65), (some (4, false)), .bin .neq (.t 2) (.t 0)⟩, o 66 (.pick (.t 5) (.k (.b true)) (.t 0))]) [1, 8, 11, 34, 35, 36, 66] [22, 17, 13, 23, 24, 25, 0]) (.cond (.t 6) (.seq (.reg [o 4 (.mv (.k (.b false)))]) (.ret [.mv (.t 0)])) .skip)) (.seq (.reg [o 68 (.len false (.t 1)), o 69 (.mv (.k (.i .i64 0)))]) (.block 2 [1, 34, 35, 36] (.pre [1, 8, 11, 34, 35, 36, 68, 69] [2, 3, 4, 5, 6, 7, 1, 0] (.loop waL))))))))) (.reg [o 139 (.bin .add (.t 3) (.k (.i .i64 1)))])))) [1, 34, 35, 36] [1, 2, 3, 0])
theorem c_wa : c3 = (.seq (.reg [o 4 (.mv (.k (.b false)))]) (.seq (.reg [o 16 (.call 10 [])]) (.seq (.seq (.reg [o 18 (.un .not (.t 0))]) (.cond (.t 0) (.seq (.reg [o 4 (.mv (.k (.b false)))]) (.ret [.mv (.t 0)])) .skip)) (.seq (.reg [o 20 (.call 11 [(.t 3), (.k (.i .i64 500))]), o 22 (.call 11 [(.t 5), (.k (.i .i64 230))])]) (.seq (.seq (.reg [o 26 (.bin .add (.k (.s [32])) (.t 0)), o 27 (.bin .add (.t 0) (.k (.s [13, 10]))), o 29 (.bin .add (.t 0) (.t 3)), o 31 (.bin .add (.t 4) (.k (.s [10, 42]))), o 33 (.bin .add (.t 0) (.t 4)), o 34 (.bsl 4 1 [(.s [])] [(0, 1, (.t 6)), (1, 1, (.t 5)), (2, 1, (.t 2)), (3, 1, (.t 0))]), o 35 (.len false (.t 0)), o 36 (.mv (.k (.i .i64 0)))]) (.block 0 [1] (.pre [1, 34, 35, 36] [8, 2, 1, 0] (.loop waO)))) (.seq (.reg [o 141 (.call 14 [(.t 0)]), o 143 (.call 15 [(.t 1)]), o 144 (.eq 0 false (.t 1) (.t 0))]) (.ret [.mv (.t 0)]))))))) := rfl
theorem waO_end {call : CallF} {n : Nat} {t arr : V} {h : H} : execD call n waO [t, arr, .i .i64 4, .i .i64 4] h = some (.exit 0 [t], h) := by
  simp [waO, execD, runB_op, runB_nil, stepB, guardA, o, semAll, AO.map, AO.cls, evX, tmE, pushE, semP, semN, semR, semE, binV, binI, binS, pickE, retsD, retV]
theorem waO_run {call : CallF} {n K i Ba q : Nat} {cs : List V} {T : List Nat} {t l m : V} {a e : Int} {h h1 h2 : H} (hi : i < 4) (hg : h.get Ba = some (.c cs 0 q)) (hc : cs[i]? = some (.s T))
    (hg1 : call 12 [.s T] h = some (.tu [l, .i .i64 a, .i .i64 e], h1)) (hg2 : call 13 [.s T] h1 = some (.tu [m, .i .i64 a, .i .i64 e], h2)) (hl : Len l K) (hm : Len m K)
    (hr : loopD (execD call n waL) n [t, l, m, .sl Ba 0 4 4 0, .i .i64 4, .i .i64 (i : Nat), .i .i64 (K : Nat), .i .i64 0] h2 = some (.exit 2 [t, .sl Ba 0 4 4 0, .i .i64 4, .i .i64 (i : Nat)], h2)) :
    execD call n waO [t, .sl Ba 0 4 4 0, .i .i64 4, .i .i64 (i : Nat)] h = some (.nrm [t, .sl Ba 0 4 4 0, .i .i64 4, .i .i64 ((i : Int) + 1)], h2) := by
  have hlt : (i : Int) < 4 := by omega
  have hix : idx (i : Int) 4 = some i := by
    unfold idx
    rw [if_pos (by omega)]
    simp
  have hw : IntKind.i64.wrap ((i : Int) + 1) = (i : Int) + 1 := wrap_mid (by omega) (by omega)
  rcases hl with ⟨rfl, rfl⟩ | ⟨B1, c1, x1, rfl⟩
  · have e0 : ((0 : Nat) : Int) = 0 := rfl
    rw [e0] at hr
    rcases hm with ⟨rfl, _⟩ | ⟨B2, c2, x2, rfl⟩
    · simp [waO, execD, runB_op, runB_nil, stepB, guardA, o, semAll, AO.map, AO.cls, evX, tmE, pushE, semP, semN, semR, semE, binV, binI, binS, pickE, retsD, retV, hlt, hix, hg, hc, hg1, hg2, hr, hw]
    · simp [waO, execD, runB_op, runB_nil, stepB, guardA, o, semAll, AO.map, AO.cls, evX, tmE, pushE, semP, semN, semR, semE, binV, binI, binS, pickE, retsD, retV, hlt, hix, hg, hc, hg1, hg2, hr, hw]
  · rcases hm with ⟨rfl, rfl⟩ | ⟨B2, c2, x2, rfl⟩
    · have e0 : ((0 : Nat) : Int) = 0 := rfl
      rw [e0] at hr
      simp [waO, execD, runB_op, runB_nil, stepB, guardA, o, semAll, AO.map, AO.cls, evX, tmE, pushE, semP, semN, semR, semE, binV, binI, binS, pickE, retsD, retV, hlt, hix, hg, hc, hg1, hg2, hr, hw]
    · simp [waO, execD, runB_op, runB_nil, stepB, guardA, o, semAll, AO.map, AO.cls, evX, tmE, pushE, semP, semN, semR, semE, binV, binI, binS, pickE, retsD, retV, hlt, hix, hg, hc, hg1, hg2, hr, hw]
end Go.Proofs.YtmbpjpffafidhaaGreatDoor
