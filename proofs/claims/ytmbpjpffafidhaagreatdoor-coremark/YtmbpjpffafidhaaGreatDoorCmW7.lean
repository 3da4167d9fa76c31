/- words.Get of any text: the loop's body. -/
import Derived.Test.YtmbpjpffafidhaaGreatDoorCmW6
namespace Go.Proofs.YtmbpjpffafidhaaGreatDoor
open Go Go.Ev
set_option maxRecDepth 100000
set_option linter.unusedSimpArgs false
def gtB : BC := (.post (.seq (.seq (.reg [o 13 (.bin .neq (.t 0) (.k (.s [])))]) (.cond (.t 0) .skip (.pre [5] [2] (.exit 0)))) (.seq (.block 1 [0, 5, 6] (.seq (.reg [o 18 (.call 40 [(.t 1), (.k (.s [10]))]), o 19 (.ext 0 (.t 0)), o 20 (.ext 1 (.t 1)), o 21 (.ext 2 (.t 2))]) (.seq (.reg []) (.seq (.seq (.reg [o 24 (.bin .gtr (.t 7) (.k (.i .i64 2500)))]) (.cond (.t 0) (.seq (.reg [o 2 (.mv (.k .sn)), o 4 (.mv (.k (.i .i64 6)))]) (.ret [.mv (.t 1), .mv (.t 10), .mv (.t 0)])) .skip)) (.seq (.seq (.reg [o 27 (.call 41 [(.t 3)])]) (.seq (.reg [o 29 (.bin .neq (.t 0) (.k (.i .i64 0)))]) (.cond (.t 0) (.seq (.reg [o 2 (.mv (.k .sn))]) (.ret [.mv (.t 0), .mv (.t 11), .mv (.t 2)])) .skip))) (.seq (.reg [o 33 (.call 42 [(.t 5), (.k (.f 43 [] []))])]) (.seq (.seq (.reg [o 35 (.len false (.t 0)), o 36 (.bin .eql (.t 0) (.k (.i .i64 0))), .op ⟨(some 38), (some (0, false)), .mv (.t 8)⟩, .op ⟨(some 39), (some (1, false)), .ix (.t 0) (.k (.i .i64 0))⟩, .op ⟨(some 40), (some (2, false)), .bin .eql (.t 0) (.k (.i .u8 42))⟩, o 41 (.pick (.t 3) (.k (.b true)) (.t 0))]) (.cond (.t 0) (.pre [0, 5, 6] [11, 16, 17] (.exit 1)) .skip)) (.post (.reg [o 45 (.ix (.t 12) (.k (.i .i64 0))), o 46 (.bin .neq (.t 0) (.k (.i .u8 32))), .op ⟨(some 48), (some (0, true)), .mv (.t 14)⟩, .op ⟨(some 49), (some (1, true)), .ix (.t 0) (.k (.i .i64 0))⟩, .op ⟨(some 50), (some (2, true)), .bin .neq (.t 0) (.k (.i .u8 9))⟩, o 51 (.pick (.t 3) (.t 0) (.k (.b false))), o 53 (.build [(.i .i64 0), (.b false), .sn] [(0, 1, (.t 23)), (1, 1, (.t 0)), (2, 1, (.t 12))]), o 54 (.bsl 1 3 [(.i .i64 0), (.b false), .sn] [(0, 3, (.t 0))]), o 55 (.app 136 3 40 (.t 24) (.t 0))]) [0, 5, 6] [20, 0, 26])))))))) (.reg [o 15 (.bin .add (.t 2) (.k (.i .i64 1)))]))) [0, 5, 6] [1, 2, 0])
section
variable {call : CallF} {n no : Nat} {T s rest : List Nat} {fl : Bool} {v : V} {h h1 h2 : H}
theorem gt_end (v w : V) : execD call n gtB [.s [], v, w] h = some (.exit 0 [v], h) := by
  simp [gtB, execD, runB_op, runB_nil, stepB, guardA, o, semAll, AO.map, AO.cls, evX, tmE, pushE, semP, semN, semR, semE, binV, binI, binS, pickE, retsD, retV]
theorem gt_limit (hT : T ≠ []) (hc : call 40 [.s T, .s [10]] h = some (.tu [.s s, .s rest, .b fl], h)) (hno : 2500 < no) :
    execD call n gtB [.s T, v, .i .i64 no] h = some (.ret (.tu [.sn, .i .i64 no, .i .i64 6]), h) := by
  have e0 : (T == []) = false := by simpa using hT
  have e1 : (2500 : Int) < no := by omega
  simp [gtB, execD, runB_op, runB_nil, stepB, guardA, o, semAll, AO.map, AO.cls, evX, tmE, pushE, semP, semN, semR, semE, binV, binI, binS, pickE, retsD, retV, e0, hT, hc, e1]
theorem gt_bad (hT : T ≠ []) (hc : call 40 [.s T, .s [10]] h = some (.tu [.s s, .s rest, .b fl], h)) (hno : no ≤ 2500) {e : Int} (he : e ≠ 0)
    (hl : call 41 [.s s] h = some (.i .i64 e, h1)) :
    execD call n gtB [.s T, v, .i .i64 no] h = some (.ret (.tu [.sn, .i .i64 no, .i .i64 e]), h1) := by
  have e0 : (T == []) = false := by simpa using hT
  have e1 : ¬ (2500 : Int) < no := by omega
  have e2 : (e != 0) = true := by simpa using he
  have e3 : (no : Int) ≤ 2500 := by omega
  simp [gtB, execD, runB_op, runB_nil, stepB, guardA, o, semAll, AO.map, AO.cls, evX, tmE, pushE, semP, semN, semR, semE, binV, binI, binS, pickE, retsD, retV, e0, hT, hc, e1, e3, hl, he, e2]
theorem gt_none (hT : T ≠ []) (hc : call 40 [.s T, .s [10]] h = some (.tu [.s s, .s rest, .b fl], h)) (hno : no ≤ 2500)
    (hl : call 41 [.s s] h = some (.i .i64 0, h1)) {B : Nat} (hf : call 42 [.s s, .f 43 [] []] h1 = some (.sl B 0 0 0 0, h2)) :
    execD call n gtB [.s T, v, .i .i64 no] h = some (.nrm [.s rest, v, .i .i64 ((no + 1 : Nat) : Int)], h2) := by
  have e0 : (T == []) = false := by simpa using hT
  have e1 : ¬ (2500 : Int) < no := by omega
  have e3 : (no : Int) ≤ 2500 := by omega
  have hw : IntKind.i64.wrap ((no : Int) + 1) = (no : Int) + 1 := wrap_mid (by omega) (by omega)
  simp [gtB, execD, runB_op, runB_nil, stepB, guardA, o, semAll, AO.map, AO.cls, evX, tmE, pushE, semP, semN, semR, semE, binV, binI, binS, pickE, retsD, retV, e0, hT, hc, e1, e3, hl, hf, hw]
theorem gt_comment (hT : T ≠ []) (hc : call 40 [.s T, .s [10]] h = some (.tu [.s s, .s rest, .b fl], h)) (hno : no ≤ 2500)
    (hl : call 41 [.s s] h = some (.i .i64 0, h1)) {B N : Nat} (hf : call 42 [.s s, .f 43 [] []] h1 = some (.sl B 0 N N 0, h2)) (hN : N ≠ 0)
    (hs : s.head? = some 42) :
    execD call n gtB [.s T, v, .i .i64 no] h = some (.nrm [.s rest, v, .i .i64 ((no + 1 : Nat) : Int)], h2) := by
  have e0 : (T == []) = false := by simpa using hT
  have e1 : ¬ (2500 : Int) < no := by omega
  have e3 : (no : Int) ≤ 2500 := by omega
  have e4 : ((N : Int) == 0) = false := by simp; omega
  have e5 : ¬ (N : Int) = 0 := by omega
  have hw : IntKind.i64.wrap ((no : Int) + 1) = (no : Int) + 1 := wrap_mid (by omega) (by omega)
  cases s with
  | nil => simp at hs
  | cons c s' =>
    simp at hs
    subst hs
    have hix : idx 0 (s'.length + 1) = some 0 := by
      unfold idx
      rw [if_pos (by omega)]
      rfl
    simp [gtB, execD, runB_op, runB_nil, stepB, guardA, o, semAll, AO.map, AO.cls, evX, tmE, pushE, semP, semN, semR, semE, binV, binI, binS, pickE, retsD, retV, e0, hT, hc, e1, e3, hl, hf, hw, e4, e5, hN, hix]
theorem gt_line (hT : T ≠ []) (hc : call 40 [.s T, .s [10]] h = some (.tu [.s s, .s rest, .b fl], h)) (hno : no ≤ 2500)
    (hl : call 41 [.s s] h = some (.i .i64 0, h1)) {B N : Nat} (hf : call 42 [.s s, .f 43 [] []] h1 = some (.sl B 0 N N 0, h2)) (hN : N ≠ 0)
    (hs0 : s ≠ []) (hs : s.head? ≠ some 42) {v' : V} {h3 : H}
    (ha : semE (.app 136 3 40 v (.sl h2.nx 0 1 1 0)) (h2.new (.c [.i .i64 no, .b (headB s), .sl B 0 N N 0] 0 0)) = some (v', h3)) :
    execD call n gtB [.s T, v, .i .i64 no] h = some (.nrm [.s rest, v', .i .i64 ((no + 1 : Nat) : Int)], h3) := by
  have e0 : (T == []) = false := by simpa using hT
  have e1 : ¬ (2500 : Int) < no := by omega
  have e3 : (no : Int) ≤ 2500 := by omega
  have e4 : ((N : Int) == 0) = false := by simp; omega
  have e5 : ¬ (N : Int) = 0 := by omega
  have hw : IntKind.i64.wrap ((no : Int) + 1) = (no : Int) + 1 := wrap_mid (by omega) (by omega)
  cases s with
  | nil => exact absurd rfl hs0
  | cons c s' =>
    simp at hs
    have hix : idx 0 (s'.length + 1) = some 0 := by
      unfold idx
      rw [if_pos (by omega)]
      rfl
    have f1 : ((c : Int) == 42) = false := by simp; omega
    have f1' : ¬ (c : Int) = 42 := by omega
    by_cases h32 : c = 32
    · subst h32
      simp [headB] at ha
      simp [gtB, execD, runB_op, runB_nil, stepB, guardA, o, app_call, semAll, AO.map, AO.cls, evX, tmE, pushE, semP, semN, semR, binV, binI, binS, pickE, retsD, retV, V.cells, fillV, layAt, V.one, rept_n1, e0, hT, hc, e1, e3, hl, hf, hw, e4, e5, hN, hix, f1, f1', ha]
    · have g1 : ((c : Int) != 32) = true := by simp; omega
      have g1' : ¬ (c : Int) = 32 := by omega
      by_cases h9 : c = 9
      · subst h9
        have hh : headB (9 :: s') = false := rfl
        rw [hh] at ha
        simp [gtB, execD, runB_op, runB_nil, stepB, guardA, o, app_call, semAll, AO.map, AO.cls, evX, tmE, pushE, semP, semN, semR, binV, binI, binS, pickE, retsD, retV, V.cells, fillV, layAt, V.one, rept_n1, e0, hT, hc, e1, e3, hl, hf, hw, e4, e5, hN, hix, f1, f1', g1, g1', ha]
      · have g2 : ((c : Int) != 9) = true := by simp; omega
        have g2' : ¬ (c : Int) = 9 := by omega
        have hh : headB (c :: s') = true := by simp [headB, h32, h9]
        rw [hh] at ha
        simp [gtB, execD, runB_op, runB_nil, stepB, guardA, o, app_call, semAll, AO.map, AO.cls, evX, tmE, pushE, semP, semN, semR, binV, binI, binS, pickE, retsD, retV, V.cells, fillV, layAt, V.one, rept_n1, e0, hT, hc, e1, e3, hl, hf, hw, e4, e5, hN, hix, f1, f1', g1, g1', g2, g2', ha]
end
end Go.Proofs.YtmbpjpffafidhaaGreatDoor
