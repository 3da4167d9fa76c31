/- strings.FieldsFunc of any text: the spans. -/
import Derived.Test.YtmbpjpffafidhaaGreatDoorCmW2
namespace Go.Proofs.YtmbpjpffafidhaaGreatDoor
open Go Go.Ev
set_option maxRecDepth 100000
set_option linter.unusedSimpArgs false
variable {F : Nat → Option FN}
theorem unV_xor (n : Nat) (h : n < 1000000) : unV .xor (.i .i64 (n : Int)) = some (.i .i64 (-(n : Int) - 1)) := by
  have e1 : BitVec.ofInt 64 (-1) = BitVec.allOnes 64 := by decide
  have e2 : BitVec.ofInt 64 (n : Int) = BitVec.ofNat 64 n := by
    apply BitVec.eq_of_toNat_eq
    simp only [BitVec.toNat_ofInt, BitVec.toNat_ofNat]
    omega
  have e3 : (BitVec.ofInt 64 (-1) ^^^ BitVec.ofInt 64 (n : Int)).toNat = 18446744073709551615 - n := by
    rw [e1, e2, BitVec.allOnes_xor, BitVec.toNat_not, BitVec.toNat_ofNat]
    omega
  show some (V.i .i64 (IntKind.i64.wrap ((BitVec.ofInt 64 (-1) ^^^ BitVec.ofInt 64 (n : Int)).toNat : Int))) = _
  rw [e3]
  have : IntKind.i64.wrap ((18446744073709551615 - n : Nat) : Int) = -(n : Int) - 1 := by
    simp [IntKind.wrap, IntKind.signed, IntKind.bits]
    omega
  rw [this]
/-- A blank, a tab, a carriage return. -/
def blB (c : Nat) : Bool := decide (c = 32) || decide (c = 9) || decide (c = 13)
theorem bl_run (k : WK F) (c : Nat) (h : H) (n d : Nat) : callD F n (d + 1) 43 [.i .i32 (c : Int)] h = some (.b (blB c), h) := by
  refine callD_code k.bl rfl ?_
  by_cases h1 : c = 32
  · subst h1
    simp [c43, execD, runB_op, runB_nil, stepB, guardA, o, semAll, AO.map, AO.cls, evX, tmE, pushE, semP, semN, semR, semE, binV, binI, binS, pickE, retsD, retV, blB]
  · have e1 : ¬ (c : Int) = 32 := by omega
    by_cases h2 : c = 9
    · subst h2
      simp [c43, execD, runB_op, runB_nil, stepB, guardA, o, semAll, AO.map, AO.cls, evX, tmE, pushE, semP, semN, semR, semE, binV, binI, binS, pickE, retsD, retV, blB]
    · have e2 : ¬ (c : Int) = 9 := by omega
      by_cases h3 : c = 13
      · subst h3
        simp [c43, execD, runB_op, runB_nil, stepB, guardA, o, semAll, AO.map, AO.cls, evX, tmE, pushE, semP, semN, semR, semE, binV, binI, binS, pickE, retsD, retV, blB]
      · have e3 : ¬ (c : Int) = 13 := by omega
        have f1 : ((c : Int) == 32) = false := by simpa using e1
        have f2 : ((c : Int) == 9) = false := by simpa using e2
        have f3 : ((c : Int) == 13) = false := by simpa using e3
        simp [c43, execD, runB_op, runB_nil, stepB, guardA, o, semAll, AO.map, AO.cls, evX, tmE, pushE, semP, semN, semR, semE, binV, binI, binS, pickE, retsD, retV, blB, h1, f1, h2, f2, h3, f3]
/-- The spans that have ended; where one has begun. -/
def spans : List Nat → Nat → Option Nat → List (Nat × Nat) × Option Nat
  | [], _, so => ([], so)
  | c :: r, i, none => if blB c = true then spans r (i + 1) none else spans r (i + 1) (some i)
  | c :: r, i, some s => if blB c = true then ((s, i) :: (spans r (i + 1) none).1, (spans r (i + 1) none).2) else spans r (i + 1) (some s)
def spanC : List (Nat × Nat) → List V
  | [] => []
  | (a, b) :: r => .i .i64 (a : Int) :: .i .i64 (b : Int) :: spanC r
/-- What stands in 'start'. -/
def stI : Option Nat → Int → Prop
  | none, st => st < 0
  | some s, st => st = s ∧ s < 100000
/-- The first loop's code. -/
def ffB : BC := (.seq (.reg [o 15 (.nxs (.t 4)), o 16 (.ext 0 (.t 0))]) (.seq (.cond (.t 0) .skip (.pre [0, 5, 6] [2, 4, 5] (.exit 0))) (.block 1 [0, 1, 5, 6, 14] (.seq (.reg [o 17 (.ext 1 (.t 1)), o 18 (.ext 2 (.t 2))]) (.seq (.reg [o 21 (.callv (.t 5) [(.t 0)])]) (.cond (.t 0) (.seq (.reg [o 23 (.bin .geq (.t 8) (.k (.i .i64 0)))]) (.cond (.t 0) (.post (.seq (.reg [o 27 (.build [(.i .i64 0), (.i .i64 0)] [(0, 1, (.t 9)), (1, 1, (.t 3))]), o 28 (.bsl 1 2 [(.i .i64 0), (.i .i64 0)] [(0, 2, (.t 0))]), o 29 (.app 772 2 16 (.t 10) (.t 0))]) (.reg [o 31 (.un .xor (.t 12))])) [0, 1, 5, 6, 14] [10, 11, 1, 0, 14]) (.post .skip [0, 1, 5, 6, 14] [6, 7, 8, 9, 10]))) (.seq (.reg [o 33 (.bin .lss (.t 8) (.k (.i .i64 0)))]) (.cond (.t 0) (.post (.reg []) [0, 1, 5, 6, 14] [6, 7, 8, 3, 10]) (.post .skip [0, 1, 5, 6, 14] [6, 7, 8, 9, 10])))))))))
theorem app_call {call : CallF} {tg sz b : Nat} {x y : V} {h : H} : semAll call (.app tg sz b x y) h = semE (.app tg sz b x y) h := rfl
theorem nxs_call {call : CallF} {x : V} {h : H} : semAll call (.nxs x) h = semE (.nxs x) h := rfl
theorem ff_loop (k : WK F) (l : List Nat) (hl : l.length < 100000) (hs : ∀ c ∈ l, c < 128) (n d m0 : Nat) : ∀ (l2 l1 : List Nat) (m : Nat) (v : V) (st : Int) (so : Option Nat) (h : H) (It B : Nat) (cells : List V),
    l = l1 ++ l2 → l2.length < m → stI so st → AR h v 2 cells B → h.get It = some (.it l l1.length) → B ≠ It → It < h.nx → B < h.nx → m0 ≤ It → m0 ≤ B → cells.length + 2 * l2.length < 900000 →
    ∃ v' st' h' B', loopD (execD (callD F n (d + 1)) n ffB) m [.s l, .f 43 [] [], v, .i .i64 st, .p It 0] h = some (.exit 0 [.s l, v', .i .i64 st'], h') ∧
      stI (spans l2 l1.length so).2 st' ∧ AR h' v' 2 (cells ++ spanC (spans l2 l1.length so).1) B' ∧ B' < h'.nx ∧ m0 ≤ B' ∧ h.nx ≤ h'.nx ∧ ∀ j, j < m0 → h'.get j = h.get j
  | [], l1, m, v, st, so, h, It, B, cells, hl12, hm, hst, har, hit, hbi, hin, hbn, hmi, hmb, hc => by
    obtain ⟨m, rfl⟩ : ∃ q, m = q + 1 := ⟨m - 1, by simp at hm; omega⟩
    have hlen : l.length = l1.length := by rw [hl12]; simp
    have hnx : semE (.nxs (.p It 0)) h = some (.tu [.b false], h) := by
      have : l[l1.length]? = none := by rw [← hlen]; simp
      simp [semE, hit, this, hlen]
    refine ⟨v, st, h, B, ?_, by simpa [spans] using hst, by simpa [spans, spanC] using har, hbn, hmb, Nat.le_refl _, fun _ _ => rfl⟩
    rw [loopD_one]
    simp [ffB, execD, runB_op, runB_nil, stepB, guardA, o, nxs_call, hnx, semAll, AO.map, AO.cls, evX, tmE, pushE, semP, pickE]
  | c :: l2, l1, m, v, st, so, h, It, B, cells, hl12, hm, hst, har, hit, hbi, hin, hbn, hmi, hmb, hc => by
    obtain ⟨m, rfl⟩ : ∃ q, m = q + 1 := ⟨m - 1, by simp at hm; omega⟩
    have hb := bl_run k c
    have hcs : c < 128 := hs c (by rw [hl12]; simp)
    have hlen : l.length = l1.length + (l2.length + 1) := by rw [hl12]; simp
    have hget : l[l1.length]? = some c := by rw [hl12]; simp
    have hnx : semE (.nxs (.p It 0)) h = some (.tu [.b true, .i .i64 (l1.length : Int), .i .i32 (c : Int)], h.put It (some (.it l (l1.length + 1)))) := by
      simp [semE, hit, hget, hcs]
    have hl12' : l = (l1 ++ [c]) ++ l2 := by rw [hl12]; simp
    have hl1 : (l1 ++ [c]).length = l1.length + 1 := by simp
    have hm' : l2.length < m := by simp at hm; omega
    have hc1 : cells.length + 2 * l2.length < 900000 := by simp at hc; omega
    have go (so1 : Option Nat) (st1 : Int) (he : ∀ m', loopD (execD (callD F n (d + 1)) n ffB) (m' + 1) [.s l, .f 43 [] [], v, .i .i64 st, .p It 0] h = loopD (execD (callD F n (d + 1)) n ffB) m' [.s l, .f 43 [] [], v, .i .i64 st1, .p It 0] (h.put It (some (.it l (l1.length + 1)))))
        (hst1 : stI so1 st1) (hsp : spans (c :: l2) l1.length so = spans l2 (l1.length + 1) so1) :
        ∃ v' st' h' B', loopD (execD (callD F n (d + 1)) n ffB) (m + 1) [.s l, .f 43 [] [], v, .i .i64 st, .p It 0] h = some (.exit 0 [.s l, v', .i .i64 st'], h') ∧
          stI (spans (c :: l2) l1.length so).2 st' ∧ AR h' v' 2 (cells ++ spanC (spans (c :: l2) l1.length so).1) B' ∧ B' < h'.nx ∧ m0 ≤ B' ∧ h.nx ≤ h'.nx ∧ ∀ j, j < m0 → h'.get j = h.get j := by
      obtain ⟨v', st', h', B', hr, hst', har', hb', hmb', hnx', hfr⟩ := ff_loop k l hl hs n d m0 l2 (l1 ++ [c]) m v st1 so1 (h.put It (some (.it l (l1.length + 1)))) It B cells hl12' hm' hst1
        (har.frame (by rw [H.get_put, if_neg hbi])) (by rw [H.get_put, if_pos rfl, hl1]) hbi (by simpa using hin) (by simpa using hbn) hmi hmb hc1
      rw [hl1] at hst' har'
      rw [hsp]
      refine ⟨v', st', h', B', by rw [he, hr], hst', har', hb', hmb', by simpa using hnx', fun j hj => ?_⟩
      rw [hfr j hj, H.get_put, if_neg (by omega)]
    by_cases hcb : blB c = true
    · rw [hcb] at hb
      cases so with
      | none =>
        have hst0 : st < 0 := hst
        have e1 : ¬ 0 ≤ st := by omega
        refine go none st (fun m' => ?_) hst (by simp [spans, hcb])
        rw [loopD_one]
        simp [ffB, execD, runB_op, runB_nil, stepB, guardA, o, nxs_call, hnx, semAll, AO.map, AO.cls, evX, tmE, pushE, semP, pickE, hb, binV, binI, e1]
      | some s =>
        obtain ⟨rfl, hs1⟩ : st = (s : Int) ∧ s < 100000 := hst
        have e1 : (0 : Int) ≤ s := by omega
        let h1 := h.put It (some (.it l (l1.length + 1)))
        let news : List V := [.i .i64 (s : Int), .i .i64 (l1.length : Int)]
        let h2 := h1.new (.c news 0 0)
        have har1 : AR h1 v 2 cells B := har.frame (by show (h.put It _).get B = _; rw [H.get_put, if_neg hbi])
        have har2 : AR h2 v 2 cells B := har1.frame (by show (h1.new _).get B = _; rw [H.get_new, if_neg (by show ¬ B = h.nx; omega)])
        obtain ⟨v2, h3, B2, happ, har3, hB2, hB2n, hnx3, hfr3⟩ := har2.app (tg := 772) (bytes := 16) (news := news) (Bn := h.nx) (by omega) (by omega) (by omega) (by omega) (by simp at hc; omega)
          (by rw [H.get_new]; exact if_pos rfl) rfl rfl (by show B < h.nx + 1; omega)
        have hit3 : h3.get It = some (.it l (l1.length + 1)) := by
          rw [hfr3 It (Ne.symm hbi) (by show It < h.nx + 1; omega), H.get_new, if_neg (by show ¬ It = h.nx; omega), H.get_put, if_pos rfl]
        have hnx3' : h.nx + 1 ≤ h3.nx := hnx3
        have hB2It : B2 ≠ It := by
          rcases hB2 with e | e
          · rw [e]; exact hbi
          · rw [e]; show h.nx + 1 ≠ It; omega
        have hmB2 : m0 ≤ B2 := by
          rcases hB2 with e | e
          · rw [e]; exact hmb
          · rw [e]; show m0 ≤ h.nx + 1; omega
        obtain ⟨v', st', h', B', hr, hst', har', hb', hmb', hnx', hfr⟩ := ff_loop k l hl hs n d m0 l2 (l1 ++ [c]) m v2 (-(s : Int) - 1) none h3 It B2 (cells ++ news) hl12' hm' (by show -(s : Int) - 1 < 0; omega)
          har3 (by rw [hit3, hl1]) hB2It (by omega) hB2n hmi hmB2 (by show (cells ++ [_, _]).length + _ < _; simp at hc ⊢; omega)
        rw [hl1] at hst' har'
        refine ⟨v', st', h', B', ?_, by simpa [spans, hcb] using hst', ?_, hb', hmb', by omega, fun j hj => ?_⟩
        · rw [← hr, loopD_one]
          have hx := unV_xor s (by omega)
          simp only [h2, h1, news] at happ
          simp [ffB, execD, runB_op, runB_nil, stepB, guardA, o, nxs_call, app_call, hnx, semAll, AO.map, AO.cls, evX, tmE, pushE, semP, semN, pickE, hb, binV, binI, e1, V.cells, fillV, layAt, rept, V.one, happ, hx]
        · simp only [spans, hcb, if_true, spanC]
          rw [List.append_assoc] at har'
          exact har'
        · rw [hfr j hj, hfr3 j (by omega) (by show j < h.nx + 1; omega), H.get_new, if_neg (by show ¬ j = h.nx; omega), H.get_put, if_neg (by omega)]
    · have hcf : blB c = false := by simpa using hcb
      rw [hcf] at hb
      cases so with
      | none =>
        have hst0 : st < 0 := hst
        refine go (some l1.length) l1.length (fun m' => ?_) ⟨rfl, by omega⟩ (by simp [spans, hcf])
        rw [loopD_one]
        simp [ffB, execD, runB_op, runB_nil, stepB, guardA, o, nxs_call, hnx, semAll, AO.map, AO.cls, evX, tmE, pushE, semP, pickE, hb, binV, binI, hst0]
      | some s =>
        obtain ⟨rfl, hs1⟩ : st = (s : Int) ∧ s < 100000 := hst
        have e1 : ¬ (s : Int) < 0 := by omega
        refine go (some s) s (fun m' => ?_) ⟨rfl, hs1⟩ (by simp [spans, hcf])
        rw [loopD_one]
        simp [ffB, execD, runB_op, runB_nil, stepB, guardA, o, nxs_call, hnx, semAll, AO.map, AO.cls, evX, tmE, pushE, semP, pickE, hb, binV, binI, e1]
end Go.Proofs.YtmbpjpffafidhaaGreatDoor
