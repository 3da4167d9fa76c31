/- WordsBlank: the first loop. -/
import Derived.Test.YtmbpjpffafidhaaGreatDoorWbBlank1
namespace Go.Proofs.YtmbpjpffafidhaaGreatDoor
open Go Go.Ev
set_option maxRecDepth 100000
set_option linter.unusedSimpArgs false
variable {F : Nat → Option FN}
def wbK1 : BC := (.seq (.reg [o 46 (.bin .and (.t 6) (.k (.i .i64 1))), o 47 (.bin .eql (.t 0) (.k (.i .i64 1)))]) (.cond (.t 0) (.post (.reg [o 49 (.bin .add (.t 5) (.k (.s [10, 42, 32, 97, 32, 99, 111, 109, 109, 101, 110, 116, 10, 32, 9, 32, 10])))]) [0, 1, 6, 7, 8, 9, 10] [3, 4, 5, 0, 7, 8, 9]) (.post .skip [0, 1, 6, 7, 8, 9, 10] [2, 3, 4, 5, 6, 7, 8])))
def wbK2 : BC := (.seq (.post (.reg [o 51 (.bsl 4 1 [(.s [])] [(0, 1, (.k (.s [32]))), (1, 1, (.k (.s [9]))), (2, 1, (.k (.s [32, 32]))), (3, 1, (.k (.s [32, 9])))]), o 53 (.bin .shr (.t 7) (.k (.i .u64 1))), o 54 (.bin .and (.t 0) (.k (.i .i64 3))), o 55 (.ia 1 (.t 2) (.t 0)), o 56 (.ld (.t 0)), o 58 (.bin .add (.t 0) (.t 10)), o 59 (.bsl 2 1 [(.s [])] [(0, 1, (.k (.s [32]))), (1, 1, (.k (.s [9, 9])))]), o 61 (.bin .shr (.t 13) (.k (.i .u64 3))), o 62 (.ia 1 (.t 1) (.t 0)), o 63 (.ld (.t 0)), o 64 (.bin .add (.t 4) (.t 0)), o 65 (.bin .add (.t 0) (.k (.s [120]))), o 66 (.bsl 2 1 [(.s [])] [(0, 1, (.k (.s [10]))), (1, 1, (.k (.s [13, 10])))]), o 68 (.bin .shr (.t 19) (.k (.i .u64 2))), o 69 (.bin .and (.t 0) (.k (.i .i64 1))), o 70 (.ia 1 (.t 2) (.t 0)), o 71 (.ld (.t 0)), o 72 (.bin .add (.t 5) (.t 0)), o 73 (.bin .add (.t 21) (.t 0))]) [0, 1, 6, 7, 8, 9] [19, 20, 21, 0, 23, 24]) (.reg [o 76 (.bsl 2 1 [(.s [])] [(0, 1, (.t 5)), (1, 1, (.k (.s [120])))]), o 77 (.bsl 1 1 [.sn] [(0, 1, (.t 0))]), o 78 (.app 100 1 24 (.t 4) (.t 0))]))
def wbK : BC := .seq wbK1 wbK2
def wbB : BC := (.post (.seq (.seq (.reg [o 20 (.len false (.t 0)), o 21 (.bin .lss (.t 5) (.t 0)), .op ⟨(some 23), (some (0, true)), .mv (.t 6)⟩, .op ⟨(some 24), (some (1, true)), .bin .lss (.t 0) (.k (.i .i64 12))⟩, o 25 (.pick (.t 2) (.t 0) (.k (.b false)))]) (.cond (.t 0) .skip (.pre [6, 7] [7, 8] (.exit 0)))) (.seq (.block 1 [0, 1, 6, 7, 8] (.post (.seq (.reg [o 30 (.ia 1 (.t 5) (.t 9)), o 31 (.ld (.t 0)), o 32 (.call 11 [(.t 0), (.k (.i .i64 20))])]) (.seq (.seq (.reg [o 34 (.call 14 [(.t 0)]), o 35 (.un .not (.t 0))]) (.cond (.t 0) (.pre [0, 1, 6, 7, 8] [10, 11, 12, 13, 14] (.exit 1)) .skip)) (.seq (.reg [o 10 (.mv (.k (.i .i64 0)))]) (.seq (.seq (.reg [o 38 (.len false (.t 12)), o 39 (.bin .lss (.t 16) (.t 0))]) (.cond (.t 0) (.post (.reg [o 42 (.ia 1 (.t 14) (.t 17)), o 43 (.ld (.t 0)), o 44 (.bin .and (.t 0) (.k (.i .i64 15)))]) [0, 1, 6, 7, 8, 9, 10] [16, 17, 18, 19, 20, 8, 0]) (.post .skip [0, 1, 6, 7, 8, 9, 10] [13, 14, 15, 16, 17, 5, 2]))) wbK)))) [0, 1, 6, 7, 8] [3, 4, 0, 6, 7])) (.reg [o 27 (.bin .add (.t 4) (.k (.i .i64 1)))]))) [0, 1, 6, 7, 8] [1, 2, 3, 4, 0])
def wbC : BC := (.post (.seq (.reg [o 97 (.bin .lss (.t 3) (.t 2))]) (.seq (.cond (.t 0) .skip (.pre [] [] (.exit 2))) (.seq (.block 3 [6, 11, 95, 96] (.post (.seq (.reg []) (.seq (.post (.reg [o 101 (.ia 3 (.t 2) (.t 4)), o 102 (.fa 1 (.t 0)), o 103 (.ld (.t 0)), .op ⟨(some 105), (some (0, false)), .mv (.t 5)⟩, .op ⟨(some 106), (some (1, false)), .mv (.t 8)⟩, .op ⟨(some 107), (some (2, false)), .ia 3 (.t 1) (.t 0)⟩, .op ⟨(some 108), (some (3, false)), .fa 2 (.t 0)⟩, .op ⟨(some 109), (some (4, false)), .ld (.t 0)⟩, .op ⟨(some 110), (some (5, false)), .len false (.t 0)⟩, .op ⟨(some 111), (some (6, false)), .bin .neq (.t 0) (.k (.i .i64 2))⟩, o 112 (.pick (.t 7) (.k (.b true)) (.t 0)), .op ⟨(some 114), (some (0, false)), .mv (.t 13)⟩, .op ⟨(some 115), (some (1, false)), .mv (.t 16)⟩, .op ⟨(some 116), (some (2, false)), .ia 3 (.t 1) (.t 0)⟩, .op ⟨(some 117), (some (3, false)), .fa 2 (.t 0)⟩, .op ⟨(some 118), (some (4, false)), .ld (.t 0)⟩, .op ⟨(some 119), (some (5, false)), .ia 1 (.t 0) (.k (.i .i64 0))⟩, .op ⟨(some 120), (some (6, false)), .ld (.t 0)⟩, .op ⟨(some 121), (some (7, false)), .mv (.t 19)⟩, .op ⟨(some 122), (some (8, false)), .mv (.t 23)⟩, .op ⟨(some 123), (some (9, false)), .ia 1 (.t 1) (.t 0)⟩, .op ⟨(some 124), (some (10, false)), .ld (.t 0)⟩, .op ⟨(some 125), (some (11, false)), .ia 1 (.t 0) (.k (.i .i64 0))⟩, .op ⟨(some 126), (some (12, false)), .ld (.t 0)⟩, .op ⟨(some 127), (some (13, false)), .bin .neq (.t 6) (.t 0)⟩, o 128 (.pick (.t 14) (.k (.b true)) (.t 0)), .op ⟨(some 130), (some (0, false)), .mv (.t 28)⟩, .op ⟨(some 131), (some (1, false)), .mv (.t 31)⟩, .op ⟨(some 132), (some (2, false)), .ia 3 (.t 1) (.t 0)⟩, .op ⟨(some 133), (some (3, false)), .fa 2 (.t 0)⟩, .op ⟨(some 134), (some (4, false)), .ld (.t 0)⟩, .op ⟨(some 135), (some (5, false)), .ia 1 (.t 0) (.k (.i .i64 1))⟩, .op ⟨(some 136), (some (6, false)), .ld (.t 0)⟩, .op ⟨(some 137), (some (7, false)), .bin .neq (.t 0) (.k (.s [120]))⟩, o 138 (.pick (.t 8) (.k (.b true)) (.t 0))]) [6, 11, 95, 96, 138] [36, 37, 38, 39, 0]) (.cond (.t 4) (.seq (.reg [o 4 (.mv (.k (.b false)))]) (.ret [.mv (.t 0)])) .skip))) [6, 11, 95, 96] [0, 1, 2, 3])) (.reg [o 139 (.bin .add (.t 3) (.k (.i .i64 1)))])))) [6, 11, 95, 96] [1, 2, 3, 0])
theorem c_wb : c4 = (.seq (.reg [o 4 (.mv (.k (.b false)))]) (.seq (.reg [o 15 (.call 10 [])]) (.seq (.seq (.reg [o 17 (.un .not (.t 0))]) (.cond (.t 0) (.seq (.reg [o 4 (.mv (.k (.b false)))]) (.ret [.mv (.t 0)])) .skip)) (.seq (.reg [o 6 (.mv (.k .sn))]) (.seq (.reg [o 7 (.mv (.k (.s [])))]) (.seq (.seq (.reg [o 8 (.mv (.k (.i .i64 0)))]) (.block 0 [6, 7] (.pre [0, 1, 6, 7, 8] [6, 7, 2, 1, 0] (.loop wbB)))) (.seq (.reg [o 81 (.call 12 [(.t 1)]), o 82 (.ext 0 (.t 0)), o 83 (.ext 1 (.t 1)), o 84 (.ext 2 (.t 2))]) (.seq (.seq (.reg [o 86 (.bin .neq (.t 0) (.k (.i .i64 0))), .op ⟨(some 88), (some (0, false)), .mv (.t 3)⟩, .op ⟨(some 89), (some (1, false)), .len false (.t 0)⟩, .op ⟨(some 90), (some (2, false)), .mv (.t 7)⟩, .op ⟨(some 91), (some (3, false)), .len false (.t 0)⟩, .op ⟨(some 92), (some (4, false)), .bin .neq (.t 2) (.t 0)⟩, o 93 (.pick (.t 5) (.k (.b true)) (.t 0))]) (.cond (.t 0) (.seq (.post (.reg [o 4 (.mv (.k (.b false)))]) [4] [0]) (.ret [.mv (.t 0)])) .skip)) (.seq (.seq (.reg [o 95 (.len false (.t 9)), o 96 (.mv (.k (.i .i64 0)))]) (.block 2 [] (.pre [6, 11, 95, 96] [13, 11, 1, 0] (.loop wbC)))) (.seq (.reg [o 4 (.mv (.k (.b true)))]) (.ret [.mv (.t 0)]))))))))))) := rfl
theorem and15 (z : Int) : ∃ K : Nat, K < 16 ∧ bitsI .i64 .and z 15 = some (.i .i64 (K : Int)) := by
  have e : BitVec.ofInt 64 15 = 15#64 := by decide
  have hlt : (BitVec.ofInt 64 z &&& 15#64).toNat < 16 := by
    rw [BitVec.toNat_and]
    have : (15#64).toNat = 2 ^ 4 - 1 := by decide
    rw [this, Nat.and_two_pow_sub_one_eq_mod]
    omega
  refine ⟨(BitVec.ofInt 64 z &&& 15#64).toNat, hlt, ?_⟩
  show some (V.i .i64 (IntKind.i64.wrap ((BitVec.ofInt 64 z &&& BitVec.ofInt 64 15).toNat : Int))) = _
  rw [e]
  rw [wrap_mid (by omega) (by omega)]
theorem and_lit : ∀ K : Nat, K < 16 → bitsI .i64 .and (K : Int) 1 = some (.i .i64 ((K % 2 : Nat) : Int)) ∧ bitsI .i64 .and (K : Int) 3 = some (.i .i64 ((K % 4 : Nat) : Int)) := by
  intro K hK
  have hc : K = 0 ∨ K = 1 ∨ K = 2 ∨ K = 3 ∨ K = 4 ∨ K = 5 ∨ K = 6 ∨ K = 7 ∨ K = 8 ∨ K = 9 ∨ K = 10 ∨ K = 11 ∨ K = 12 ∨ K = 13 ∨ K = 14 ∨ K = 15 := by omega
  rcases hc with rfl | rfl | rfl | rfl | rfl | rfl | rfl | rfl | rfl | rfl | rfl | rfl | rfl | rfl | rfl | rfl <;> exact ⟨rfl, rfl⟩
theorem binS_add {a b : List Nat} (h : a.length + b.length < 4611686018427387904) : binS .add a b = some (.s (a ++ b)) := if_pos h
/-- The heap with the line's little rows. -/
def blankH (h : H) (w : List Nat) : H := ((((h.new (.c [.s [32], .s [9], .s [32, 32], .s [32, 9]] 0 0)).new (.c [.s [32], .s [9, 9]] 0 0)).new (.c [.s [10], .s [13, 10]] 0 0)).new (.c [.s w, .s [120]] 0 0)).new (.c [.sl (h.nx + 3) 0 2 2 0] 0 0)
theorem wbK1_run {call : CallF} {n : Nat} {ws ks want i : V} {S w : List Nat} {K : Nat} {h : H} (hK : K < 16) (hS : S.length < 100000) :
    execD call n wbK1 [ws, ks, want, .s S, i, .s w, .i .i64 (K : Int)] h = some (.nrm [ws, ks, want, .s (S ++ pre1 K), i, .s w, .i .i64 (K : Int)], h) := by
  have b1 := (and_lit K hK).1
  have e1 : binS .add S [10, 42, 32, 97, 32, 99, 111, 109, 109, 101, 110, 116, 10, 32, 9, 32, 10] = some (.s (S ++ [10, 42, 32, 97, 32, 99, 111, 109, 109, 101, 110, 116, 10, 32, 9, 32, 10])) := binS_add (by simp; omega)
  have hm : K % 2 = 0 ∨ K % 2 = 1 := by omega
  unfold pre1
  rcases hm with hm | hm <;> rw [hm] at b1 <;> simp [wbK1, execD, runB_op, runB_nil, stepB, guardA, o, semAll, AO.map, AO.cls, evX, tmE, pushE, semP, semN, semR, semE, binV, binI, pickE, b1, hm, e1]
theorem wbK2_run {call : CallF} {n : Nat} {ws ks want i : V} {S w ld sp en : List Nat} {K K2 K8 K4 J2 J4 : Nat} {h h3 : H} {v' : V} (hS : S.length < 100017) (hw : w.length ≤ 20) (l1 : ld.length ≤ 2) (l2 : sp.length ≤ 2) (l3 : en.length ≤ 2)
    (f1 : (K : Int).fdiv 2 = (K2 : Int)) (f8 : (K : Int).fdiv 8 = (K8 : Int)) (f4 : (K : Int).fdiv 4 = (K4 : Int)) (b2 : bitsI .i64 .and (K2 : Int) 3 = some (.i .i64 (J2 : Int))) (b4 : bitsI .i64 .and (K4 : Int) 1 = some (.i .i64 (J4 : Int)))
    (i2 : idx (J2 : Int) 4 = some J2) (i8 : idx (K8 : Int) 2 = some K8) (i4 : idx (J4 : Int) 2 = some J4)
    (c1 : [V.s [32], V.s [9], V.s [32, 32], V.s [32, 9]][J2]? = some (.s ld)) (c2 : [V.s [32], V.s [9, 9]][K8]? = some (.s sp)) (c3 : [V.s [10], V.s [13, 10]][J4]? = some (.s en))
    (ha : semE (.app 100 1 24 want (.sl (h.nx + 4) 0 1 1 0)) (blankH h w) = some (v', h3)) :
    execD call n wbK2 [ws, ks, want, .s S, i, .s w, .i .i64 (K : Int)] h = some (.nrm [v', .sl (h.nx + 4) 0 1 1 0, .sl (h.nx + 3) 0 2 2 0, ws, ks, want, .s (S ++ (ld ++ w ++ sp ++ [120] ++ en)), i, .s w], h3) := by
  have e1 : binS .add ld w = some (.s (ld ++ w)) := binS_add (by omega)
  have e2 : binS .add (ld ++ w) sp = some (.s (ld ++ w ++ sp)) := binS_add (by simp; omega)
  have e3 : binS .add (ld ++ w ++ sp) [120] = some (.s (ld ++ w ++ sp ++ [120])) := binS_add (by simp; omega)
  have e4 : binS .add (ld ++ w ++ sp ++ [120]) en = some (.s (ld ++ w ++ sp ++ [120] ++ en)) := binS_add (by simp; omega)
  have e5 : binS .add S (ld ++ w ++ sp ++ [120] ++ en) = some (.s (S ++ (ld ++ w ++ sp ++ [120] ++ en))) := binS_add (by simp; omega)
  unfold blankH at ha
  simp [-List.append_assoc, wbK2, execD, runB_op, runB_nil, stepB, guardA, o, app_call, semAll, AO.map, AO.cls, evX, tmE, pushE, semP, semN, semR, binV, binI, pickE, V.cells, fillV, layAt, V.one, rept, IntKind.bits, f1, f8, f4, b2, b4, i2, i8, i4, H.get_new, c1, c2, c3, e1, e2, e3, e4, e5, ha]
theorem wbK_run {call : CallF} {n : Nat} {ws ks want i : V} {S w : List Nat} {K : Nat} {h h3 : H} {v' : V} (hK : K < 16) (hS : S.length < 100000) (hw : w.length ≤ 20)
    (ha : semE (.app 100 1 24 want (.sl (h.nx + 4) 0 1 1 0)) (blankH h w) = some (v', h3)) :
    execD call n wbK [ws, ks, want, .s S, i, .s w, .i .i64 (K : Int)] h = some (.nrm [v', .sl (h.nx + 4) 0 1 1 0, .sl (h.nx + 3) 0 2 2 0, ws, ks, want, .s (S ++ chunkL K w), i, .s w], h3) := by
  have hp : (pre1 K).length ≤ 17 := by
    unfold pre1
    split <;> simp
  have key : ∃ (ld sp en : List Nat) (K2 K8 K4 J2 J4 : Nat), ld.length ≤ 2 ∧ sp.length ≤ 2 ∧ en.length ≤ 2 ∧ (K : Int).fdiv 2 = (K2 : Int) ∧ (K : Int).fdiv 8 = (K8 : Int) ∧ (K : Int).fdiv 4 = (K4 : Int) ∧ bitsI .i64 .and (K2 : Int) 3 = some (.i .i64 (J2 : Int)) ∧ bitsI .i64 .and (K4 : Int) 1 = some (.i .i64 (J4 : Int)) ∧
      idx (J2 : Int) 4 = some J2 ∧ idx (K8 : Int) 2 = some K8 ∧ idx (J4 : Int) 2 = some J4 ∧ [V.s [32], V.s [9], V.s [32, 32], V.s [32, 9]][J2]? = some (.s ld) ∧ [V.s [32], V.s [9, 9]][K8]? = some (.s sp) ∧ [V.s [10], V.s [13, 10]][J4]? = some (.s en) ∧ ld = leadL K ∧ sp = sepL K ∧ en = endL K ++ [10] := by
    have b2 := (and_lit (K / 2) (by omega)).2
    have b4 := (and_lit (K / 4) (by omega)).1
    refine ⟨leadL K, sepL K, endL K ++ [10], K / 2, K / 8, K / 4, K / 2 % 4, K / 4 % 2, (lead_ok K).2.1, (sep_ok K).2.1, ?_, ?_, ?_, ?_, b2, b4, ?_, ?_, ?_, ?_, ?_, ?_, rfl, rfl, rfl⟩
    · unfold endL
      split <;> simp
    · rw [Int.fdiv_eq_ediv_of_nonneg _ (by omega)]
      omega
    · rw [Int.fdiv_eq_ediv_of_nonneg _ (by omega)]
      omega
    · rw [Int.fdiv_eq_ediv_of_nonneg _ (by omega)]
      omega
    · unfold idx
      rw [if_pos (by omega)]
      rfl
    · unfold idx
      rw [if_pos (by omega)]
      rfl
    · unfold idx
      rw [if_pos (by omega)]
      rfl
    · unfold leadL
      have hc : K / 2 % 4 = 0 ∨ K / 2 % 4 = 1 ∨ K / 2 % 4 = 2 ∨ K / 2 % 4 = 3 := by omega
      rcases hc with hc | hc | hc | hc <;> rw [hc] <;> rfl
    · unfold sepL
      have hc : K / 8 = 0 ∨ K / 8 = 1 := by omega
      rcases hc with hc | hc <;> rw [hc] <;> rfl
    · unfold endL
      have hc : K / 4 % 2 = 0 ∨ K / 4 % 2 = 1 := by omega
      rcases hc with hc | hc <;> rw [hc] <;> rfl
  obtain ⟨ld, sp, en, K2, K8, K4, J2, J4, l1, l2, l3, f1, f8, f4, b2, b4, i2, i8, i4, c1, c2, c3, rfl, rfl, rfl⟩ := key
  have h2 := wbK2_run (call := call) (n := n) (ws := ws) (ks := ks) (i := i) (S := S ++ pre1 K) (K := K) (by simp; omega) hw l1 l2 l3 f1 f8 f4 b2 b4 i2 i8 i4 c1 c2 c3 ha
  have e : S ++ pre1 K ++ (leadL K ++ w ++ sepL K ++ [120] ++ (endL K ++ [10])) = S ++ chunkL K w := by simp [chunkL, lineL]
  rw [e] at h2
  show (match execD call n wbK1 [ws, ks, want, .s S, i, .s w, .i .i64 (K : Int)] h with | some (.nrm env, h) => execD call n wbK2 env h | r => r) = _
  rw [wbK1_run hK hS]
  exact h2
end Go.Proofs.YtmbpjpffafidhaaGreatDoor
