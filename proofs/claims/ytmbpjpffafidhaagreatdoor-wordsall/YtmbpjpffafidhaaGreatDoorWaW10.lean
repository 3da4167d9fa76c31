/- The names; the reference's lines. -/
import Derived.Test.YtmbpjpffafidhaaGreatDoorWaW9
namespace Go.Proofs.YtmbpjpffafidhaaGreatDoor
open Go Go.Ev
set_option maxRecDepth 100000
set_option linter.unusedSimpArgs false
variable {F : Nat → Option FN}
/-- The functions that are reached besides. -/
structure WK2 (F : Nat → Option FN) : Prop extends WK F where
  nbad : F 46 = some (.code 1 c46)
  name : F 14 = some (.code 1 c14)
  rname : F 15 = some (.code 1 c15)
  rlines : F 44 = some (.code 1 c44)
  rget : F 13 = some (.code 1 c13)
def xfB : BC := (.post (.seq (.reg [o 9 (.bin .lss (.t 3) (.t 2))]) (.seq (.cond (.t 0) .skip (.pre [] [] (.exit 0))) (.seq (.block 1 [0, 1, 7, 8] (.post (.seq (.reg []) (.seq (.reg [o 14 (.ia 1 (.t 1) (.t 4)), o 15 (.ld (.t 0)), o 16 (.callv (.t 4) [(.t 0)])]) (.cond (.t 0) (.seq (.reg []) (.ret [.mv (.t 7)])) .skip))) [0, 1, 7, 8] [4, 5, 6, 7])) (.reg [o 18 (.bin .add (.t 3) (.k (.i .i64 1)))])))) [0, 1, 7, 8] [1, 2, 3, 0])
theorem c_xf : c106 = (.seq (.reg [o 4 (.mv (.k (.i .i64 0)))]) (.seq (.seq (.reg [o 7 (.len false (.t 1)), o 8 (.mv (.k (.i .i64 0)))]) (.block 0 [] (.pre [0, 1, 7, 8] [3, 4, 1, 0] (.loop xfB)))) (.seq (.reg [o 4 (.mv (.k (.i .i64 (-1))))]) (.ret [.mv (.t 0)])))) := rfl
theorem xg_loop {call : CallF} {g : Nat} {P : Nat → Bool} (hP : ∀ (c : Nat) (h : H), call g [.i .u8 (c : Int)] h = some (.b (P c), h)) (B : Nat) (h : H) (n : Nat) : ∀ (l2 l1 : List Nat) (m : Nat), l2.length < m → (l1 ++ l2).length < 100000 → h.get B = some (.c (u8s (l1 ++ l2)) 0 1) →
    ∃ r, loopD (execD call n xfB) m [.sl B 0 (l1 ++ l2).length (l1 ++ l2).length 1, .f g [] [], .i .i64 ((l1 ++ l2).length : Nat), .i .i64 (l1.length : Nat)] h = some (r, h) ∧
      (if l2.any P = true then ∃ i : Nat, r = .ret (.i .i64 i) else r = .exit 0 [])
  | [], l1, m, hm, hl, hg => by
    obtain ⟨m, rfl⟩ : ∃ q, m = q + 1 := ⟨m - 1, by simp at hm; omega⟩
    refine ⟨.exit 0 [], ?_, by simp⟩
    rw [loopD_one]
    simp [xfB, execD, runB_op, runB_nil, stepB, guardA, o, semAll, AO.map, AO.cls, evX, tmE, pushE, semP, semN, semR, semE, binV, binI, binS, pickE, retsD, retV]
  | c :: l2, l1, m, hm, hl, hg => by
    obtain ⟨m, rfl⟩ : ∃ q, m = q + 1 := ⟨m - 1, by simp at hm; omega⟩
    have hb := hP c h
    have hlt : (l1.length : Int) < ((l1.length : Int) + ((l2.length : Int) + 1)) := by omega
    have hix : idx (l1.length : Int) (l1.length + (l2.length + 1)) = some l1.length := by
      unfold idx
      simp
      omega
    have hcell : (u8s (l1 ++ c :: l2))[l1.length]? = some (.i .u8 (c : Int)) := by
      simp [u8s]
    have hw : IntKind.i64.wrap ((l1.length : Int) + 1) = (l1.length : Int) + 1 := by
      simp only [List.length_append, List.length_cons] at hl
      exact wrap_mid (by omega) (by omega)
    rw [loopD_one]
    by_cases hc : P c = true
    · refine ⟨.ret (.i .i64 (l1.length : Nat)), ?_, by rw [if_pos (by simp [hc])]; exact ⟨_, rfl⟩⟩
      rw [hc] at hb
      simp [xfB, execD, runB_op, runB_nil, stepB, guardA, o, semAll, AO.map, AO.cls, evX, tmE, pushE, semP, semN, semR, semE, binV, binI, binS, pickE, retsD, retV, hb, hlt, hix, hg, hcell]
    · have hc' : P c = false := by simpa using hc
      rw [hc'] at hb
      obtain ⟨r, hr, hs⟩ := xg_loop hP B h n l2 (l1 ++ [c]) m (by simp at hm; omega) (by simpa using hl) (by simpa using hg)
      refine ⟨r, ?_, by simpa [hc'] using hs⟩
      rw [← hr]
      simp [xfB, execD, runB_op, runB_nil, stepB, guardA, o, semAll, AO.map, AO.cls, evX, tmE, pushE, semP, semN, semR, semE, binV, binI, binS, pickE, retsD, retV, hb, hlt, hix, hg, hcell, hw]
theorem cg_run (k : WK F) (B : Nat) (h : H) (n d : Nat) {g : Nat} {P : Nat → Bool} (hP : ∀ (c : Nat) (h : H), callD F n (d + 1) g [.i .u8 (c : Int)] h = some (.b (P c), h)) (l : List Nat) (hn : l.length < n) (hl : l.length < 100000) (hg : h.get B = some (.c (u8s l) 0 1)) :
    callD F n (d + 3) 45 [.sl B 0 l.length l.length 1, .f g [] []] h = some (.b (l.any P), h) := by
  obtain ⟨r, hr, hs⟩ := xg_loop hP B h n l [] n hn (by simpa using hl) (by simpa using hg)
  simp only [List.nil_append, List.length_nil] at hr
  have e0 : ((0 : Nat) : Int) = 0 := rfl
  rw [e0] at hr
  have hx : ∃ i : Int, callD F n (d + 2) 106 [.sl B 0 l.length l.length 1, .f g [] []] h = some (.i .i64 i, h) ∧ ((0 ≤ i) ↔ l.any P = true) := by
    by_cases ha : l.any P = true
    · rw [if_pos ha] at hs
      obtain ⟨i, rfl⟩ := hs
      refine ⟨i, ?_, by simp [ha]⟩
      refine callD_code k.xf rfl ?_
      simp [c_xf, execD, runB_op, runB_nil, stepB, guardA, o, semAll, AO.map, AO.cls, evX, tmE, pushE, semP, semN, semR, semE, binV, binI, binS, pickE, retsD, retV, hr]
    · rw [if_neg ha] at hs
      subst hs
      refine ⟨-1, ?_, by simp [ha]⟩
      refine callD_code k.xf rfl ?_
      simp [c_xf, execD, runB_op, runB_nil, stepB, guardA, o, semAll, AO.map, AO.cls, evX, tmE, pushE, semP, semN, semR, semE, binV, binI, binS, pickE, retsD, retV, hr]
  obtain ⟨i, hi, hj⟩ := hx
  refine callD_code k.cf rfl ?_
  by_cases ha : l.any P = true
  · have := hj.2 ha
    rw [ha]
    simp [c45, execD, runB_op, runB_nil, stepB, guardA, o, semAll, AO.map, AO.cls, evX, tmE, pushE, semP, semN, semR, semE, binV, binI, binS, pickE, retsD, retV, hi, this]
  · have : ¬ 0 ≤ i := fun e => ha (hj.1 e)
    have hf : l.any P = false := by simpa using ha
    rw [hf]
    simp [c45, execD, runB_op, runB_nil, stepB, guardA, o, semAll, AO.map, AO.cls, evX, tmE, pushE, semP, semN, semR, semE, binV, binI, binS, pickE, retsD, retV, hi, this]
/-- A byte that no name has; a name. -/
def badN (c : Nat) : Bool := decide (c < 33) || decide (126 < c)
def nameB (l : List Nat) : Bool := !(l.any badN) && (decide (1 ≤ l.length) && decide (l.length ≤ 20))
theorem nbad_run (k : WK2 F) (c : Nat) (h : H) (n d : Nat) : callD F n (d + 1) 46 [.i .u8 (c : Int)] h = some (.b (badN c), h) := by
  refine callD_code k.nbad rfl ?_
  by_cases h1 : c < 33
  · have e1 : (c : Int) ≤ 32 := by omega
    have e1' : ¬ (32 : Int) < c := by omega
    simp [c46, execD, runB_op, runB_nil, stepB, guardA, o, semAll, AO.map, AO.cls, evX, tmE, pushE, semP, semN, semR, semE, binV, binI, binS, pickE, retsD, retV, badN, h1, e1, e1']
  · have e1 : ¬ (c : Int) ≤ 32 := by omega
    have e1' : (32 : Int) < c := by omega
    by_cases h2 : 126 < c
    · have e2 : (126 : Int) < c := by omega
      have e2' : ¬ (c : Int) ≤ 126 := by omega
      simp [c46, execD, runB_op, runB_nil, stepB, guardA, o, semAll, AO.map, AO.cls, evX, tmE, pushE, semP, semN, semR, semE, binV, binI, binS, pickE, retsD, retV, badN, h1, e1, e1', h2, e2, e2']
    · have e2 : ¬ (126 : Int) < c := by omega
      have e2' : (c : Int) ≤ 126 := by omega
      simp [c46, execD, runB_op, runB_nil, stepB, guardA, o, semAll, AO.map, AO.cls, evX, tmE, pushE, semP, semN, semR, semE, binV, binI, binS, pickE, retsD, retV, badN, h1, e1, e1', h2, e2, e2']
theorem name_run (k : WK2 F) (l : List Nat) (hl : l.length < 100000) (h : H) (n d : Nat) (hn : l.length < n) : ∃ h', callD F n (d + 4) 14 [.s l] h = some (.b (nameB l), h') ∧ Ext h h' := by
  refine ⟨h.new (.c (u8s l) 0 1), ?_, Ext.new _ _⟩
  have hc := cg_run k.toWK h.nx (h.new (.c (u8s l) 0 1)) n d (fun c h => nbad_run k c h n d) l hn hl (by rw [H.get_new, if_pos rfl])
  simp only [u8s] at hc ⊢
  refine callD_code k.name rfl ?_
  unfold nameB
  by_cases hb : l.any badN = true
  · rw [hb] at hc
    simp [c14, execD, runB_op, runB_nil, stepB, guardA, o, semAll, AO.map, AO.cls, evX, tmE, pushE, semP, semN, semR, semE, binV, binI, binS, pickE, retsD, retV, unV, hc, hb]
  · have hf : l.any badN = false := by simpa using hb
    rw [hf] at hc
    by_cases h1 : 1 ≤ l.length
    · have e1 : (1 : Int) ≤ l.length := by omega
      by_cases h2 : l.length ≤ 20
      · have e2 : (l.length : Int) ≤ 20 := by omega
        simp [c14, execD, runB_op, runB_nil, stepB, guardA, o, semAll, AO.map, AO.cls, evX, tmE, pushE, semP, semN, semR, semE, binV, binI, binS, pickE, retsD, retV, unV, hc, hf, h1, e1, h2, e2]
      · have e2 : ¬ (l.length : Int) ≤ 20 := by omega
        simp [c14, execD, runB_op, runB_nil, stepB, guardA, o, semAll, AO.map, AO.cls, evX, tmE, pushE, semP, semN, semR, semE, binV, binI, binS, pickE, retsD, retV, unV, hc, hf, h1, e1, h2, e2]
    · have e1 : ¬ (1 : Int) ≤ l.length := by omega
      simp [c14, execD, runB_op, runB_nil, stepB, guardA, o, semAll, AO.map, AO.cls, evX, tmE, pushE, semP, semN, semR, semE, binV, binI, binS, pickE, retsD, retV, unV, hc, hf, h1, e1]
def rnB : BC := (.post (.seq (.seq (.reg [o 6 (.len true (.t 0)), o 7 (.bin .lss (.t 2) (.t 0))]) (.cond (.t 0) .skip (.pre [0] [2] (.exit 0)))) (.seq (.block 1 [0, 3] (.post (.seq (.reg [o 12 (.ix (.t 2) (.t 3)), o 13 (.bin .lss (.t 0) (.k (.i .u8 33))), .op ⟨(some 15), (some (0, false)), .mv (.t 4)⟩, .op ⟨(some 16), (some (1, false)), .mv (.t 6)⟩, .op ⟨(some 17), (some (2, false)), .ix (.t 1) (.t 0)⟩, .op ⟨(some 18), (some (3, false)), .bin .gtr (.t 0) (.k (.i .u8 126))⟩, o 19 (.pick (.t 4) (.k (.b true)) (.t 0))]) (.cond (.t 0) (.seq (.post (.reg [o 2 (.mv (.k (.b false)))]) [2] [0]) (.ret [.mv (.t 0)])) .skip)) [0, 3] [9, 10])) (.reg [o 9 (.bin .add (.t 1) (.k (.i .i64 1)))]))) [0, 3] [1, 0])
theorem c_rname : c15 = (.seq (.reg [o 2 (.mv (.k (.b false)))]) (.seq (.seq (.reg [o 3 (.mv (.k (.i .i64 0)))]) (.block 0 [0] (.pre [0, 3] [2, 0] (.loop rnB)))) (.seq (.reg [o 21 (.len true (.t 0)), o 22 (.bin .geq (.t 0) (.k (.i .i64 1))), .op ⟨(some 24), (some (0, true)), .mv (.t 2)⟩, .op ⟨(some 25), (some (1, true)), .len true (.t 0)⟩, .op ⟨(some 26), (some (2, true)), .bin .leq (.t 0) (.k (.i .i64 20))⟩, o 27 (.pick (.t 3) (.t 0) (.k (.b false)))]) (.ret [.mv (.t 0)])))) := rfl
theorem rn_loop {call : CallF} (h : H) (n : Nat) : ∀ (l2 l1 : List Nat) (m : Nat), l2.length < m → (l1 ++ l2).length < 100000 →
    loopD (execD call n rnB) m [.s (l1 ++ l2), .i .i64 (l1.length : Nat)] h = some (if l2.any badN = true then .ret (.b false) else .exit 0 [.s (l1 ++ l2)], h)
  | [], l1, m, hm, hl => by
    obtain ⟨m, rfl⟩ : ∃ q, m = q + 1 := ⟨m - 1, by simp at hm; omega⟩
    rw [loopD_one]
    simp [rnB, execD, runB_op, runB_nil, stepB, guardA, o, semAll, AO.map, AO.cls, evX, tmE, pushE, semP, semN, semR, semE, binV, binI, binS, pickE, retsD, retV]
  | c :: l2, l1, m, hm, hl => by
    obtain ⟨m, rfl⟩ : ∃ q, m = q + 1 := ⟨m - 1, by simp at hm; omega⟩
    have hlt : (l1.length : Int) < ((l1.length : Int) + ((l2.length : Int) + 1)) := by omega
    have hix : idx (l1.length : Int) (l1.length + (l2.length + 1)) = some l1.length := by
      unfold idx
      simp
      omega
    have hw : IntKind.i64.wrap ((l1.length : Int) + 1) = (l1.length : Int) + 1 := by
      simp only [List.length_append, List.length_cons] at hl
      exact wrap_mid (by omega) (by omega)
    rw [loopD_one]
    by_cases h1 : c < 33
    · have e1 : (c : Int) < 33 := by omega
      have hb : badN c = true := by simp [badN, h1]
      simp [rnB, execD, runB_op, runB_nil, stepB, guardA, o, semAll, AO.map, AO.cls, evX, tmE, pushE, semP, semN, semR, semE, binV, binI, binS, pickE, retsD, retV, hlt, hix, e1, hb]
    · have e1 : ¬ (c : Int) < 33 := by omega
      have e1' : (33 : Int) ≤ c := by omega
      by_cases h2 : 126 < c
      · have e2 : (126 : Int) < c := by omega
        have hb : badN c = true := by simp [badN, h2]
        simp [rnB, execD, runB_op, runB_nil, stepB, guardA, o, semAll, AO.map, AO.cls, evX, tmE, pushE, semP, semN, semR, semE, binV, binI, binS, pickE, retsD, retV, hlt, hix, e1, e1', e2, hb]
      · have e2 : ¬ (126 : Int) < c := by omega
        have e2' : (c : Int) ≤ 126 := by omega
        have hb : badN c = false := by simp [badN, h1, h2]
        have hr := rn_loop (call := call) h n l2 (l1 ++ [c]) m (by simp at hm; omega) (by simpa using hl)
        simp only [List.any_cons, hb, Bool.false_or]
        have hx : execD call n rnB [.s (l1 ++ c :: l2), .i .i64 (l1.length : Nat)] h = some (.nrm [.s (l1 ++ c :: l2), .i .i64 ((l1 ++ [c]).length : Nat)], h) := by
          simp [rnB, execD, runB_op, runB_nil, stepB, guardA, o, semAll, AO.map, AO.cls, evX, tmE, pushE, semP, semN, semR, semE, binV, binI, binS, pickE, retsD, retV, hlt, hix, e1, e1', e2, e2', hw]
        rw [hx]
        simp only [List.append_assoc, List.singleton_append] at hr
        exact hr
theorem rname_run (k : WK2 F) (l : List Nat) (hl : l.length < 100000) (h : H) (n d : Nat) (hn : l.length < n) : callD F n (d + 1) 15 [.s l] h = some (.b (nameB l), h) := by
  have hr := rn_loop (call := callD F n d) h n l [] n hn (by simpa using hl)
  simp only [List.nil_append, List.length_nil] at hr
  have e0 : ((0 : Nat) : Int) = 0 := rfl
  rw [e0] at hr
  refine callD_code k.rname rfl ?_
  unfold nameB
  by_cases hb : l.any badN = true
  · rw [if_pos hb] at hr
    simp [c_rname, execD, runB_op, runB_nil, stepB, guardA, o, semAll, AO.map, AO.cls, evX, tmE, pushE, semP, semN, semR, semE, binV, binI, binS, pickE, retsD, retV, hr, hb]
  · rw [if_neg hb] at hr
    have hf : l.any badN = false := by simpa using hb
    by_cases h1 : 1 ≤ l.length
    · have e1 : (1 : Int) ≤ l.length := by omega
      by_cases h2 : l.length ≤ 20
      · have e2 : (l.length : Int) ≤ 20 := by omega
        simp [c_rname, execD, runB_op, runB_nil, stepB, guardA, o, semAll, AO.map, AO.cls, evX, tmE, pushE, semP, semN, semR, semE, binV, binI, binS, pickE, retsD, retV, hr, hf, h1, e1, h2, e2]
      · have e2 : ¬ (l.length : Int) ≤ 20 := by omega
        simp [c_rname, execD, runB_op, runB_nil, stepB, guardA, o, semAll, AO.map, AO.cls, evX, tmE, pushE, semP, semN, semR, semE, binV, binI, binS, pickE, retsD, retV, hr, hf, h1, e1, h2, e2]
    · have e1 : ¬ (1 : Int) ≤ l.length := by omega
      simp [c_rname, execD, runB_op, runB_nil, stepB, guardA, o, semAll, AO.map, AO.cls, evX, tmE, pushE, semP, semN, semR, semE, binV, binI, binS, pickE, retsD, retV, hr, hf, h1, e1]
end Go.Proofs.YtmbpjpffafidhaaGreatDoor
