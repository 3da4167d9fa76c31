/- WordsLimit: words.Get of empty lines. -/
import Derived.Test.YtlnffaalhedfmaaGreatDoorWlFT
import Derived.Test.YtlnffaalhedfmaaGreatDoorWlL7
namespace Go.Proofs.YtlnffaalhedfmaaGreatDoor
open Go.Ev
set_option maxRecDepth 100000
set_option linter.unusedSimpArgs false
theorem loopD_succ (body : List V → H → Option (EX × H)) (n : Nat) (env : List V) (h : H) : loopD body (n + 1) env h = match body env h with | some (.nrm e, h') => loopD body n e h' | r => r := rfl
/-- The functions that are reached. -/
structure FK (F : Nat → Option FN) : Prop where
  f225 : F 225 = some (.code 2 c225)
  f151 : F 151 = some (.code 2 c151)
  f81 : F 81 = some (.code 2 c81)
  f28 : F 28 = some (.code 2 c28)
  f29 : F 29 = some (.code 1 c29)
  f82 : F 82 = some (.code 2 c82)
  f152 : F 152 = some (.code 2 c152)
  f229 : F 229 = some (.code 2 c229)
  f83 : F 83 = some (.code 2 c83)
  f153 : F 153 = some (.code 2 c153)
  f30 : F 30 = some (.code 2 c30)
  f9 : F 9 = some (.code 1 c9)
theorem ixb_nl {F : Nat → Option FN} (k : FK F) (r : List Nat) (h : H) (n d : Nat) : callD F n (d + 1) 225 [.s (10 :: r), .i .u8 10] h = some (.i .i64 0, h) := by
  refine callD_code k.f225 rfl ?_
  simp [c225, execD, runB_op, stepB, guardA, o, semAll, AO.map, AO.cls, evX, tmE, pushE, semP, retsD, retV, findB, runB_nil]
theorem index_nl {F : Nat → Option FN} (k : FK F) (r : List Nat) (h : H) (n d : Nat) : callD F n (d + 2) 151 [.s (10 :: r), .s [10]] h = some (.i .i64 0, h) := by
  have hi := ixb_nl k r h n d
  refine callD_code k.f151 rfl ?_
  rcases r with _ | ⟨x, r⟩ <;> simp [hi, c151, execD, runB_op, runB_nil, stepB, guardA, o, semAll, AO.map, AO.cls, evX, tmE, pushE, semP, binV, binI, binS, pickE, retsD, retV, idx]
theorem scut_nl {F : Nat → Option FN} (k : FK F) (r : List Nat) (h : H) (n d : Nat) : callD F n (d + 3) 81 [.s (10 :: r), .s [10]] h = some (.tu [.s [], .s r, .b true], h) := by
  have hi := index_nl k r h n d
  have hw : IntKind.i64.wrap 1 = 1 := by decide
  have h1 : (1 : Int) ≤ (r.length : Int) + 1 := by omega
  have h2 : (0 : Int) ≤ (r.length : Int) + 1 := by omega
  refine callD_code k.f81 rfl ?_
  simp [hi, c81, execD, runB_op, runB_nil, stepB, guardA, o, semAll, AO.map, AO.cls, evX, tmE, pushE, semP, binV, binI, retsD, retV, bnds, hiV, loV, hw, h1, h2]
theorem cut_nl {F : Nat → Option FN} (k : FK F) (r : List Nat) (h : H) (n d : Nat) : callD F n (d + 4) 28 [.s (10 :: r), .s [10]] h = some (.tu [.s [], .s r, .b true], h) := by
  have hi := scut_nl k r h n d
  refine callD_code k.f28 rfl ?_
  simp [hi, c28, execD, runB_op, runB_nil, stepB, guardA, o, semAll, AO.map, AO.cls, evX, tmE, pushE, semP, retsD, retV]
theorem look_nil {F : Nat → Option FN} (k : FK F) (h : H) (n d : Nat) : callD F (n + 1) (d + 4) 29 [.s []] h = some (.i .i64 0, h.new (.c [] 0 1)) := by
  have hx : callD F (n + 1) (d + 1) 229 [.s [], .s [13]] h = some (.b false, h) := by
    refine callD_code k.f229 rfl ?_
    simp [c229, execD, runB_op, runB_nil, stepB, guardA, o, semAll, AO.map, AO.cls, evX, tmE, pushE, semP, binV, binI, pickE, retsD, retV]
  have hy : callD F (n + 1) (d + 2) 152 [.s [], .s [13]] h = some (.s [], h) := by
    refine callD_code k.f152 rfl ?_
    simp [hx, c152, execD, runB_op, runB_nil, stepB, guardA, o, semAll, AO.map, AO.cls, evX, tmE, pushE, semP, retsD, retV]
  have hz : callD F (n + 1) (d + 3) 82 [.s [], .s [13]] h = some (.s [], h) := by
    refine callD_code k.f82 rfl ?_
    simp [hy, c82, execD, runB_op, runB_nil, stepB, guardA, o, semAll, AO.map, AO.cls, evX, tmE, pushE, semP, retsD, retV]
  have hu : callD F (n + 1) (d + 2) 153 [.sl h.nx 0 0 0 1, .f 84 [] []] (h.new (.c [] 0 1)) = some (.i .i64 (-1), h.new (.c [] 0 1)) := by
    refine callD_code k.f153 rfl ?_
    simp [c153, execD, loopD_succ, runB_op, runB_nil, stepB, guardA, o, semAll, AO.map, AO.cls, evX, tmE, pushE, semP, binV, binI, pickE, retsD, retV]
  have hv : callD F (n + 1) (d + 3) 83 [.sl h.nx 0 0 0 1, .f 84 [] []] (h.new (.c [] 0 1)) = some (.b false, h.new (.c [] 0 1)) := by
    refine callD_code k.f83 rfl ?_
    simp [hu, c83, execD, runB_op, runB_nil, stepB, guardA, o, semAll, AO.map, AO.cls, evX, tmE, pushE, semP, binV, binI, retsD, retV]
  refine callD_code k.f29 rfl ?_
  simp [hz, hv, c29, execD, runB_op, runB_nil, stepB, guardA, o, semAll, AO.map, AO.cls, evX, tmE, pushE, semP, semN, binV, binI, retsD, retV]
/-- No words in an empty line. -/
theorem fields_nil {F : Nat → Option FN} (k : FK F) (h : H) (n d : Nat) : ∃ h' B, callD F (n + 1) (d + 1) 30 [.s [], .f 31 [] []] h = some (.sl B 0 0 0 0, h') := by
  have g2 : ((h.new (.c (rept [.i .i64 0, .i .i64 0] 32) 0 0)).new (.it [] 0)).get (h.nx + 1) = some (.it [] 0) := by rw [H.get_new]; exact if_pos rfl
  refine ⟨_, _, callD_code k.f30 rfl (by
  simp [g2, c30, execD, loopD_succ, runB_op, runB_nil, stepB, guardA, o, semAll, AO.map, AO.cls, evX, tmE, pushE, semP, semN, semE, binV, binI, pickE, retsD, retV]
  exact ⟨rfl, rfl⟩)⟩
def gB : BC := (.post (.seq (.seq (.reg [o 13 (.bin .neq (.t 0) (.k (.s [])))]) (.cond (.t 0) .skip (.pre [5] [2] (.exit 0)))) (.seq (.block 1 [0, 5, 6] (.seq (.reg [o 18 (.call 28 [(.t 1), (.k (.s [10]))]), o 19 (.ext 0 (.t 0)), o 20 (.ext 1 (.t 1)), o 21 (.ext 2 (.t 2))]) (.seq (.reg []) (.seq (.seq (.reg [o 24 (.bin .gtr (.t 7) (.k (.i .i64 2500)))]) (.cond (.t 0) (.seq (.reg [o 2 (.mv (.k .sn)), o 4 (.mv (.k (.i .i64 6)))]) (.ret [.mv (.t 1), .mv (.t 10), .mv (.t 0)])) .skip)) (.seq (.seq (.reg [o 27 (.call 29 [(.t 3)])]) (.seq (.reg [o 29 (.bin .neq (.t 0) (.k (.i .i64 0)))]) (.cond (.t 0) (.seq (.reg [o 2 (.mv (.k .sn))]) (.ret [.mv (.t 0), .mv (.t 11), .mv (.t 2)])) .skip))) (.seq (.reg [o 33 (.call 30 [(.t 5), (.k (.f 31 [] []))])]) (.seq (.seq (.reg [o 35 (.len false (.t 0)), o 36 (.bin .eql (.t 0) (.k (.i .i64 0))), .op ⟨(some 38), (some (0, false)), .mv (.t 8)⟩, .op ⟨(some 39), (some (1, false)), .ix (.t 0) (.k (.i .i64 0))⟩, .op ⟨(some 40), (some (2, false)), .bin .eql (.t 0) (.k (.i .u8 42))⟩, o 41 (.pick (.t 3) (.k (.b true)) (.t 0))]) (.cond (.t 0) (.pre [0, 5, 6] [11, 16, 17] (.exit 1)) .skip)) (.post (.reg [o 45 (.ix (.t 12) (.k (.i .i64 0))), o 46 (.bin .neq (.t 0) (.k (.i .u8 32))), .op ⟨(some 48), (some (0, true)), .mv (.t 14)⟩, .op ⟨(some 49), (some (1, true)), .ix (.t 0) (.k (.i .i64 0))⟩, .op ⟨(some 50), (some (2, true)), .bin .neq (.t 0) (.k (.i .u8 9))⟩, o 51 (.pick (.t 3) (.t 0) (.k (.b false))), o 53 (.build [(.i .i64 0), (.b false), .sn] [(0, 1, (.t 23)), (1, 1, (.t 0)), (2, 1, (.t 12))]), o 54 (.bsl 1 3 [(.i .i64 0), (.b false), .sn] [(0, 3, (.t 0))]), o 55 (.app 344 3 40 (.t 24) (.t 0))]) [0, 5, 6] [20, 0, 26])))))))) (.reg [o 15 (.bin .add (.t 2) (.k (.i .i64 1)))]))) [0, 5, 6] [1, 2, 0])
theorem get_loop {F : Nat → Option FN} (k : FK F) (n d : Nat) : ∀ (m no fuel : Nat) (h : H), no ≤ 2501 →
    ∃ h', loopD (execD (callD F (n + 1) (d + 4)) (n + 1) gB) (fuel + m + 1) [.s (List.replicate m 10), .sn, .i .i64 no] h =
      (if no + m ≤ 2501 then some (.exit 0 [.sn], h') else some (.ret (.tu [.sn, .i .i64 2501, .i .i64 6]), h')) := by
  intro m
  induction m with
  | zero =>
    intro no fuel h h1
    refine ⟨h, ?_⟩
    rw [if_pos (show no + 0 ≤ 2501 from h1), loopD_succ]
    simp [gB, execD, runB_op, runB_nil, stepB, guardA, o, semAll, AO.map, AO.cls, evX, tmE, pushE, semP, binV, binS, pickE]
  | succ m ih =>
    intro no fuel h h1
    have hc := fun h => cut_nl k (List.replicate m 10) h (n + 1) d
    have hl := fun h => look_nil k h n d
    obtain ⟨hf, B, hff⟩ := fields_nil k (h.new (.c [] 0 1)) n (d + 3)
    by_cases hb : no ≤ 2500
    · have h4 : ¬ (2500 : Int) < (no : Int) := by omega
      have hw : IntKind.i64.wrap ((no : Int) + 1) = (no : Int) + 1 := wrap_mid (by omega) (by omega)
      have hs : execD (callD F (n + 1) (d + 4)) (n + 1) gB [.s (List.replicate (m + 1) 10), .sn, .i .i64 no] h = some (.nrm [.s (List.replicate m 10), .sn, .i .i64 ((no + 1 : Nat) : Int)], hf) := by
        simp [List.replicate_succ, hc, hl, hff, h4, hw, gB, execD, runB_op, runB_nil, stepB, guardA, o, semAll, AO.map, AO.cls, evX, tmE, pushE, semP, binV, binI, binS, pickE]
      have e1 : fuel + (m + 1) + 1 = (fuel + m + 1) + 1 := by omega
      rw [e1, loopD_succ, hs]
      obtain ⟨h', r1⟩ := ih (no + 1) fuel hf (by omega)
      refine ⟨h', r1.trans ?_⟩
      have e2 : no + 1 + m = no + (m + 1) := by omega
      rw [e2]
    · refine ⟨h, ?_⟩
      have h5 : ¬ no + (m + 1) ≤ 2501 := by omega
      have e1 : fuel + (m + 1) + 1 = (fuel + m + 1) + 1 := by omega
      have e3 : no = 2501 := by omega
      subst e3
      rw [if_neg h5, e1, loopD_succ]
      simp [List.replicate_succ, hc, gB, execD, runB_op, runB_nil, stepB, guardA, o, semAll, AO.map, AO.cls, evX, tmE, pushE, semP, binV, binI, binS, retsD, retV]
/-- words.Get of empty lines. -/
theorem get_nl {F : Nat → Option FN} (k : FK F) (m d fuel : Nat) (h : H) : ∃ h', callD F (fuel + m + 1) (d + 5) 9 [.s (List.replicate m 10)] h =
    some (.tu [.sn, .i .i64 (if m ≤ 2500 then 0 else 2501), .i .i64 (if m ≤ 2500 then 0 else 6)], h') := by
  obtain ⟨h', hr⟩ := get_loop k (fuel + m) d m 1 fuel h (by omega)
  refine ⟨h', callD_code k.f9 rfl ?_⟩
  have e : c9 = .seq (.reg [o 2 (.mv (.k .sn)), o 3 (.mv (.k (.i .i64 0))), o 4 (.mv (.k (.i .i64 0)))]) (.seq (.reg [o 5 (.mv (.k .sn))]) (.seq (.seq (.reg [o 6 (.mv (.k (.i .i64 1)))]) (.block 0 [5] (.pre [0, 5, 6] [5, 1, 0] (.loop gB)))) (.seq (.reg [o 3 (.mv (.k (.i .i64 0))), o 4 (.mv (.k (.i .i64 0)))]) (.ret [.mv (.t 2), .mv (.t 1), .mv (.t 0)])))) := rfl
  by_cases hm : m ≤ 2500
  · have h1 : 1 + m ≤ 2501 := by omega
    rw [if_pos h1] at hr
    have e1 : ((1 : Nat) : Int) = 1 := rfl
    rw [e1] at hr
    rw [e]
    simp [hr, hm, execD, runB_op, runB_nil, stepB, guardA, o, semAll, AO.map, AO.cls, evX, tmE, pushE, semP, pickE, retsD, retV]
  · have h1 : ¬ 1 + m ≤ 2501 := by omega
    rw [if_neg h1] at hr
    have e1 : ((1 : Nat) : Int) = 1 := rfl
    rw [e1] at hr
    rw [e]
    simp [hr, hm, execD, runB_op, runB_nil, stepB, guardA, o, semAll, AO.map, AO.cls, evX, tmE, pushE, semP, pickE, retsD, retV]
end Go.Proofs.YtlnffaalhedfmaaGreatDoor
