/- The reference's Get: one line. -/
import Derived.Test.YtmbpjpffafidhaaGreatDoorWaW12
namespace Go.Proofs.YtmbpjpffafidhaaGreatDoor
open Go Go.Ev
set_option maxRecDepth 100000
set_option linter.unusedSimpArgs false
variable {F : Nat → Option FN}
def rgX : BC := (.seq (.seq (.reg [o 9 (.mv (.k (.i .i64 0)))]) (.block 2 [5, 6, 7, 8] (.pre [5, 6, 7, 8, 9] [1, 2, 3, 4, 0] (.loop rkB)))) (.seq (.seq (.reg [o 76 (.bin .eql (.t 3) (.k (.s []))), .op ⟨(some 78), (some (0, false)), .mv (.t 4)⟩, .op ⟨(some 79), (some (1, false)), .ix (.t 0) (.k (.i .i64 0))⟩, .op ⟨(some 80), (some (2, false)), .bin .eql (.t 0) (.k (.i .u8 42))⟩, o 81 (.pick (.t 3) (.k (.b true)) (.t 0))]) (.cond (.t 0) (.pre [5, 6, 7] [5, 6, 7] (.exit 1)) .skip)) (.seq (.reg [o 10 (.mv (.k .sn))]) (.seq (.reg [o 11 (.mv (.k (.b false)))]) (.seq (.seq (.reg [o 12 (.mv (.k (.i .i64 0)))]) (.block 4 [5, 6, 7, 8, 10] (.pre [5, 6, 7, 8, 10, 11, 12] [8, 9, 10, 11, 2, 1, 0] (.loop rwB)))) (.seq (.reg [o 125 (.len false (.t 4)), o 126 (.bin .gtr (.t 0) (.k (.i .i64 0)))]) (.cond (.t 0) (.post (.reg [o 129 (.bin .add (.t 4) (.k (.i .i64 1))), o 131 (.ix (.t 6) (.k (.i .i64 0))), o 132 (.bin .neq (.t 0) (.k (.i .u8 32))), .op ⟨(some 134), (some (0, true)), .mv (.t 8)⟩, .op ⟨(some 135), (some (1, true)), .ix (.t 0) (.k (.i .i64 0))⟩, .op ⟨(some 136), (some (2, true)), .bin .neq (.t 0) (.k (.i .u8 9))⟩, o 137 (.pick (.t 3) (.t 0) (.k (.b false))), o 139 (.build [(.i .i64 0), (.b false), .sn] [(0, 1, (.t 6)), (1, 1, (.t 0)), (2, 1, (.t 13))]), o 140 (.bsl 1 3 [(.i .i64 0), (.b false), .sn] [(0, 3, (.t 0))]), o 141 (.app 140 3 40 (.t 11) (.t 0))]) [5, 6, 7] [0, 13, 14]) (.post .skip [5, 6, 7] [2, 3, 4]))))))))
def rgK : BC := (.seq (.reg [o 24 (.ia 1 (.t 3) (.t 4)), o 25 (.ld (.t 0))]) (.seq (.seq (.reg [o 27 (.bin .geq (.t 6) (.k (.i .i64 2500))), .op ⟨(some 29), (some (0, false)), .mv (.t 1)⟩, .op ⟨(some 30), (some (1, false)), .len true (.t 0)⟩, .op ⟨(some 31), (some (2, false)), .bin .gtr (.t 0) (.k (.i .i64 200))⟩, o 32 (.pick (.t 3) (.k (.b true)) (.t 0))]) (.cond (.t 0) (.seq (.post (.reg [o 34 (.bin .add (.t 11) (.k (.i .i64 1))), o 2 (.mv (.k .sn)), o 4 (.mv (.k (.i .i64 6)))]) [2, 3, 4] [1, 2, 0]) (.ret [.mv (.t 0), .mv (.t 1), .mv (.t 2)])) .skip)) (.seq (.seq (.post (.reg [o 36 (.bin .neq (.t 5) (.k (.s []))), .op ⟨(some 38), (some (0, true)), .mv (.t 6)⟩, .op ⟨(some 39), (some (1, true)), .mv (.t 7)⟩, .op ⟨(some 40), (some (2, true)), .len true (.t 0)⟩, .op ⟨(some 41), (some (3, true)), .bin .sub (.t 0) (.k (.i .i64 1))⟩, .op ⟨(some 42), (some (4, true)), .ix (.t 3) (.t 0)⟩, .op ⟨(some 43), (some (5, true)), .bin .eql (.t 0) (.k (.i .u8 13))⟩, o 44 (.pick (.t 6) (.t 0) (.k (.b false)))]) [5, 6, 7, 8, 44] [17, 18, 19, 13, 0]) (.cond (.t 4) (.post (.reg [o 47 (.len true (.t 3)), o 48 (.bin .sub (.t 0) (.k (.i .i64 1))), o 49 (.sls (.t 5) none (some (.t 0))), o 50 (.bin .add (.t 0) (.k (.s [32])))]) [5, 6, 7, 8] [4, 5, 6, 0]) (.post .skip [5, 6, 7, 8] [0, 1, 2, 3]))) rgX)))
def rgB : BC := (.post (.seq (.seq (.reg [o 18 (.len false (.t 1)), o 19 (.bin .lss (.t 3) (.t 0))]) (.cond (.t 0) .skip (.pre [5] [2] (.exit 0)))) (.seq (.block 1 [5, 6, 7] rgK) (.reg [o 21 (.bin .add (.t 2) (.k (.i .i64 1)))]))) [5, 6, 7] [1, 2, 0])
theorem c_rget : c13 = (.seq (.reg [o 2 (.mv (.k .sn)), o 3 (.mv (.k (.i .i64 0))), o 4 (.mv (.k (.i .i64 0)))]) (.seq (.reg [o 5 (.mv (.k .sn))]) (.seq (.reg [o 15 (.call 44 [(.t 4)])]) (.seq (.seq (.reg [o 7 (.mv (.k (.i .i64 0)))]) (.block 0 [5] (.pre [5, 6, 7] [2, 1, 0] (.loop rgB)))) (.seq (.reg [o 3 (.mv (.k (.i .i64 0))), o 4 (.mv (.k (.i .i64 0)))]) (.ret [.mv (.t 2), .mv (.t 1), .mv (.t 0)])))))) := rfl
/-- A line whose carriage return is a blank. -/
def crSp (s : List Nat) : List Nat := if s.getLast? = some 13 then s.dropLast ++ [32] else s
section
variable {call : CallF} {n i N cp xf Ba q : Nat} {s : List Nat} {out vw : V} {h h2 h3 : H} {cs : List V}
theorem rg_end (hi : N ≤ i) : execD call n rgB [out, .sl Ba 0 N cp xf, .i .i64 (i : Nat)] h = some (.exit 0 [out], h) := by
  have e1 : ¬ (i : Int) < (N : Int) := by omega
  have e2 : (N : Int) ≤ (i : Int) := by omega
  simp [rgB, execD, runB_op, runB_nil, stepB, guardA, o, semAll, AO.map, AO.cls, evX, tmE, pushE, semP, semN, semR, semE, binV, binI, binS, pickE, retsD, retV, e1, e2]
theorem rg_limit (hi : i < 100000) (hix : idx (i : Int) N = some i) (hg : h.get Ba = some (.c cs 0 q)) (hcs : cs[i]? = some (.s s)) (hl : 2500 ≤ i ∨ 200 < s.length) :
    execD call n rgK [.b true, .i .i64 (N : Nat), out, .sl Ba 0 N cp xf, .i .i64 (i : Nat)] h = some (.ret (.tu [.sn, .i .i64 ((i : Int) + 1), .i .i64 6]), h) := by
  have hw : IntKind.i64.wrap ((i : Int) + 1) = (i : Int) + 1 := wrap_mid (by omega) (by omega)
  by_cases h1 : 2500 ≤ i
  · have e1 : (2500 : Int) ≤ i := by omega
    simp [rgK, execD, runB_op, runB_nil, stepB, guardA, o, semAll, AO.map, AO.cls, evX, tmE, pushE, semP, semN, semR, semE, binV, binI, binS, pickE, retsD, retV, hix, hg, hcs, e1, hw]
  · have e1 : ¬ (2500 : Int) ≤ i := by omega
    have e1' : (i : Int) < 2500 := by omega
    have e2 : (200 : Int) < s.length := by omega
    simp [rgK, execD, runB_op, runB_nil, stepB, guardA, o, semAll, AO.map, AO.cls, evX, tmE, pushE, semP, semN, semR, semE, binV, binI, binS, pickE, retsD, retV, hix, hg, hcs, e1, e1', e2, hw]
theorem rg_cr (hix : idx (i : Int) N = some i) (hg : h.get Ba = some (.c cs 0 q)) (hcs : cs[i]? = some (.s s)) (hi : i < 2500) (hs : s.length ≤ 200) :
    execD call n rgK [.b true, .i .i64 (N : Nat), out, .sl Ba 0 N cp xf, .i .i64 (i : Nat)] h = execD call n rgX [out, .sl Ba 0 N cp xf, .i .i64 (i : Nat), .s (crSp s)] h := by
  have e1 : ¬ (2500 : Int) ≤ i := by omega
  have e1' : (i : Int) < 2500 := by omega
  have e2 : ¬ (200 : Int) < s.length := by omega
  have e2' : (s.length : Int) ≤ 200 := by omega
  rcases List.eq_nil_or_concat s with rfl | ⟨a, c, rfl⟩
  · simp [rgK, execD, runB_op, runB_nil, stepB, guardA, o, semAll, AO.map, AO.cls, evX, tmE, pushE, semP, semN, semR, semE, binV, binI, binS, pickE, retsD, retV, hix, hg, hcs, e1, e1', crSp]
  · simp only [List.concat_eq_append, List.length_append, List.length_cons, List.length_nil] at *
    have hwa : IntKind.i64.wrap (a.length : Int) = (a.length : Int) := wrap_mid (by omega) (by omega)
    have hia : idx (a.length : Int) (a.length + 1) = some a.length := by
      unfold idx
      rw [if_pos (by omega)]
      simp
    have e3 : ¬ (200 : Int) < (a.length : Int) + 1 := by omega
    have e3' : (a.length : Int) + 1 ≤ 200 := by omega
    have e4 : (a ++ [c] == []) = false := by simp
    have e5 : (a ++ [c] != []) = true := by simp
    have e6 : (a.length : Int) ≤ (a.length : Int) + 1 := by omega
    have e7 : a.length + 1 < 4611686018427387904 := by omega
    by_cases h13 : c = 13
    · subst h13
      have hc : crSp (a ++ [13]) = a ++ [32] := by simp [crSp]
      rw [hc]
      simp [rgK, execD, runB_op, runB_nil, stepB, guardA, o, semAll, AO.map, AO.cls, evX, tmE, pushE, semP, semN, semR, semE, binV, binI, binS, pickE, retsD, retV, bnds, hiV, loV, hix, hg, hcs, e1, e1', e3, e3', e4, e5, e6, e7, hwa, hia]
    · have f1 : ((c : Int) == 13) = false := by simp; omega
      have hc : crSp (a ++ [c]) = a ++ [c] := by simp [crSp, h13]
      rw [hc]
      simp [rgK, execD, runB_op, runB_nil, stepB, guardA, o, semAll, AO.map, AO.cls, evX, tmE, pushE, semP, semN, semR, semE, binV, binI, binS, pickE, retsD, retV, hix, hg, hcs, e1, e1', e3, e3', e4, e5, hwa, hia, f1]
variable {va : V}
theorem rg_bad (hk : loopD (execD call n rkB) n [out, va, .i .i64 (i : Nat), .s s, .i .i64 0] h = some (.ret vw, h)) : execD call n rgX [out, va, .i .i64 (i : Nat), .s s] h = some (.ret vw, h) := by
  simp [rgX, execD, runB_op, runB_nil, stepB, guardA, o, semAll, AO.map, AO.cls, evX, tmE, pushE, semP, semN, semR, semE, binV, binI, binS, pickE, retsD, retV, hk]
theorem rg_skip (hk : loopD (execD call n rkB) n [out, va, .i .i64 (i : Nat), .s s, .i .i64 0] h = some (.exit 2 [out, va, .i .i64 (i : Nat), .s s], h)) (hs : s = [] ∨ s.head? = some 42) :
    execD call n rgX [out, va, .i .i64 (i : Nat), .s s] h = some (.exit 1 [out, va, .i .i64 (i : Nat)], h) := by
  cases s with
  | nil => simp [rgX, execD, runB_op, runB_nil, stepB, guardA, o, semAll, AO.map, AO.cls, evX, tmE, pushE, semP, semN, semR, semE, binV, binI, binS, pickE, retsD, retV, hk]
  | cons c s' =>
    simp at hs
    subst hs
    have hix : idx 0 (s'.length + 1) = some 0 := by
      unfold idx
      rw [if_pos (by omega)]
      rfl
    simp [rgX, execD, runB_op, runB_nil, stepB, guardA, o, semAll, AO.map, AO.cls, evX, tmE, pushE, semP, semN, semR, semE, binV, binI, binS, pickE, retsD, retV, hk, hix]
theorem rg_none (hk : loopD (execD call n rkB) n [out, va, .i .i64 (i : Nat), .s s, .i .i64 0] h = some (.exit 2 [out, va, .i .i64 (i : Nat), .s s], h)) (hs0 : s ≠ []) (hs : s.head? ≠ some 42)
    (hw : loopD (execD call n rwB) n [out, va, .i .i64 (i : Nat), .s s, .sn, .b false, .i .i64 0] h = some (.exit 4 [out, va, .i .i64 (i : Nat), .s s, .sn], h2)) :
    execD call n rgX [out, va, .i .i64 (i : Nat), .s s] h = some (.nrm [out, va, .i .i64 (i : Nat)], h2) := by
  cases s with
  | nil => exact absurd rfl hs0
  | cons c s' =>
    simp at hs
    have f1 : ((c : Int) == 42) = false := by simp; omega
    have hix : idx 0 (s'.length + 1) = some 0 := by
      unfold idx
      rw [if_pos (by omega)]
      rfl
    simp [rgX, execD, runB_op, runB_nil, stepB, guardA, o, semAll, AO.map, AO.cls, evX, tmE, pushE, semP, semN, semR, semE, binV, binI, binS, pickE, retsD, retV, hk, hix, f1, hw]
theorem rg_line (hi : i < 100000) (hk : loopD (execD call n rkB) n [out, va, .i .i64 (i : Nat), .s s, .i .i64 0] h = some (.exit 2 [out, va, .i .i64 (i : Nat), .s s], h)) (hs0 : s ≠ []) (hs : s.head? ≠ some 42) {Bw M : Nat} (hM : M ≠ 0)
    (hw : loopD (execD call n rwB) n [out, va, .i .i64 (i : Nat), .s s, .sn, .b false, .i .i64 0] h = some (.exit 4 [out, va, .i .i64 (i : Nat), .s s, .sl Bw 0 M cp xf], h2)) {v' : V}
    (ha : semE (.app 140 3 40 out (.sl h2.nx 0 1 1 0)) (h2.new (.c [.i .i64 ((i : Int) + 1), .b (headB s), .sl Bw 0 M cp xf] 0 0)) = some (v', h3)) :
    execD call n rgX [out, va, .i .i64 (i : Nat), .s s] h = some (.nrm [v', va, .i .i64 (i : Nat)], h3) := by
  cases s with
  | nil => exact absurd rfl hs0
  | cons c s' =>
    simp at hs
    have f1 : ((c : Int) == 42) = false := by simp; omega
    have hix : idx 0 (s'.length + 1) = some 0 := by
      unfold idx
      rw [if_pos (by omega)]
      rfl
    have hwi : IntKind.i64.wrap ((i : Int) + 1) = (i : Int) + 1 := wrap_mid (by omega) (by omega)
    have hM' : (0 : Int) < (M : Int) := by omega
    have hM2 : 0 < M := by omega
    by_cases h32 : c = 32
    · subst h32
      have hh : headB (32 :: s') = false := rfl
      rw [hh] at ha
      simp [rgX, execD, runB_op, runB_nil, stepB, guardA, o, app_call, semAll, AO.map, AO.cls, evX, tmE, pushE, semP, semN, semR, binV, binI, binS, pickE, retsD, retV, V.cells, fillV, layAt, V.one, rept_n1, hk, hix, f1, hw, hwi, hM', hM2, ha]
    · have g1 : ((c : Int) != 32) = true := by simp; omega
      by_cases h9 : c = 9
      · subst h9
        have hh : headB (9 :: s') = false := rfl
        rw [hh] at ha
        simp [rgX, execD, runB_op, runB_nil, stepB, guardA, o, app_call, semAll, AO.map, AO.cls, evX, tmE, pushE, semP, semN, semR, binV, binI, binS, pickE, retsD, retV, V.cells, fillV, layAt, V.one, rept_n1, hk, hix, f1, hw, hwi, hM', hM2, ha, g1]
      · have g2 : ((c : Int) != 9) = true := by simp; omega
        have hh : headB (c :: s') = true := by simp [headB, h32, h9]
        rw [hh] at ha
        simp [rgX, execD, runB_op, runB_nil, stepB, guardA, o, app_call, semAll, AO.map, AO.cls, evX, tmE, pushE, semP, semN, semR, binV, binI, binS, pickE, retsD, retV, V.cells, fillV, layAt, V.one, rept_n1, hk, hix, f1, hw, hwi, hM', hM2, ha, g1, g2]
end
end Go.Proofs.YtmbpjpffafidhaaGreatDoor
