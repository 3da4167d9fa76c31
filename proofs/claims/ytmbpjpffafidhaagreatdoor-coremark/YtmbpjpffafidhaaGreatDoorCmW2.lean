/- words.look of any text. -/
import Derived.Test.YtmbpjpffafidhaaGreatDoorCmW1
namespace Go.Proofs.YtmbpjpffafidhaaGreatDoor
open Go.Ev
set_option maxRecDepth 100000
set_option linter.unusedSimpArgs false
variable {F : Nat → Option FN}
/-- A byte that may not stand. -/
def badB (c : Nat) : Bool := decide (126 < c) || (decide (c < 32) && decide (c ≠ 9))
theorem bad_run (k : WK F) (c : Nat) (h : H) (n d : Nat) : callD F n (d + 1) 105 [.i .u8 (c : Int)] h = some (.b (badB c), h) := by
  refine callD_code k.bad rfl ?_
  by_cases h1 : 126 < c
  · have e1 : (126 : Int) < c := by omega
    have e2 : ¬ (c : Int) ≤ 126 := by omega
    simp [c105, execD, runB_op, runB_nil, stepB, guardA, o, semAll, AO.map, AO.cls, evX, tmE, pushE, semP, semN, semR, semE, binV, binI, binS, pickE, retsD, retV, badB, h1, e1, e2]
  · have e1 : ¬ (126 : Int) < c := by omega
    have e1' : (c : Int) ≤ 126 := by omega
    by_cases h2 : c < 32
    · have e2 : (c : Int) < 32 := by omega
      by_cases h3 : c = 9
      · subst h3
        simp [c105, execD, runB_op, runB_nil, stepB, guardA, o, semAll, AO.map, AO.cls, evX, tmE, pushE, semP, semN, semR, semE, binV, binI, binS, pickE, retsD, retV, badB]
      · have e3 : ¬ (c : Int) = 9 := by omega
        simp [c105, execD, runB_op, runB_nil, stepB, guardA, o, semAll, AO.map, AO.cls, evX, tmE, pushE, semP, semN, semR, semE, binV, binI, binS, pickE, retsD, retV, badB, h1, e1, e1', h2, e2, h3, e3]
    · have e2 : ¬ (c : Int) < 32 := by omega
      have e2' : (32 : Int) ≤ c := by omega
      simp [c105, execD, runB_op, runB_nil, stepB, guardA, o, semAll, AO.map, AO.cls, evX, tmE, pushE, semP, semN, semR, semE, binV, binI, binS, pickE, retsD, retV, badB, h1, e1, e1', h2, e2, e2']
/-- A text's bytes in a row. -/
def u8s (l : List Nat) : List V := l.map fun (c : Nat) => .i .u8 c
theorem xf_loop (k : WK F) (B : Nat) (h : H) (n d : Nat) : ∀ (l2 l1 : List Nat) (m : Nat), l2.length < m → (l1 ++ l2).length < 100000 → h.get B = some (.c (u8s (l1 ++ l2)) 0 1) →
    ∃ r, loopD (execD (callD F n (d + 1)) n (.post (.seq (.reg [o 9 (.bin .lss (.t 3) (.t 2))]) (.seq (.cond (.t 0) .skip (.pre [] [] (.exit 0))) (.seq (.block 1 [0, 1, 7, 8] (.post (.seq (.reg []) (.seq (.reg [o 14 (.ia 1 (.t 1) (.t 4)), o 15 (.ld (.t 0)), o 16 (.callv (.t 4) [(.t 0)])]) (.cond (.t 0) (.seq (.reg []) (.ret [.mv (.t 7)])) .skip))) [0, 1, 7, 8] [4, 5, 6, 7])) (.reg [o 18 (.bin .add (.t 3) (.k (.i .i64 1)))])))) [0, 1, 7, 8] [1, 2, 3, 0])) m [.sl B 0 (l1 ++ l2).length (l1 ++ l2).length 1, .f 105 [] [], .i .i64 ((l1 ++ l2).length : Nat), .i .i64 (l1.length : Nat)] h = some (r, h) ∧
      (if l2.any badB = true then ∃ i : Nat, r = .ret (.i .i64 i) else r = .exit 0 [])
  | [], l1, m, hm, hl, hg => by
    obtain ⟨m, rfl⟩ : ∃ q, m = q + 1 := ⟨m - 1, by simp at hm; omega⟩
    refine ⟨.exit 0 [], ?_, by simp⟩
    rw [loopD_one]
    simp [execD, runB_op, runB_nil, stepB, guardA, o, semAll, AO.map, AO.cls, evX, tmE, pushE, semP, semN, semR, semE, binV, binI, binS, pickE, retsD, retV]
  | c :: l2, l1, m, hm, hl, hg => by
    obtain ⟨m, rfl⟩ : ∃ q, m = q + 1 := ⟨m - 1, by simp at hm; omega⟩
    have hb := bad_run k c h n d
    have hlt : (l1.length : Int) < ((l1.length : Int) + ((l2.length : Int) + 1)) := by omega
    have hix : idx (l1.length : Int) (l1.length + (l2.length + 1)) = some l1.length := by
      unfold idx
      simp
      omega
    have hcell : (u8s (l1 ++ c :: l2))[l1.length]? = some (.i .u8 (c : Int)) := by
      simp [u8s]
    have hw : IntKind.i64.wrap ((l1.length : Int) + 1) = (l1.length : Int) + 1 := by
      simp only [List.length_append, List.length_cons] at hl
      exact wrap_mid (by omega) (by omega)
    rw [loopD_one]
    by_cases hc : badB c = true
    · refine ⟨.ret (.i .i64 (l1.length : Nat)), ?_, by rw [if_pos (by simp [hc])]; exact ⟨_, rfl⟩⟩
      rw [hc] at hb
      simp [execD, runB_op, runB_nil, stepB, guardA, o, semAll, AO.map, AO.cls, evX, tmE, pushE, semP, semN, semR, semE, binV, binI, binS, pickE, retsD, retV, hb, hlt, hix, hg, hcell]
    · have hc' : badB c = false := by simpa using hc
      rw [hc'] at hb
      obtain ⟨r, hr, hs⟩ := xf_loop k B h n d l2 (l1 ++ [c]) m (by simp at hm; omega) (by simpa using hl) (by simpa using hg)
      refine ⟨r, ?_, by simpa [hc'] using hs⟩
      rw [← hr]
      simp [execD, runB_op, runB_nil, stepB, guardA, o, semAll, AO.map, AO.cls, evX, tmE, pushE, semP, semN, semR, semE, binV, binI, binS, pickE, retsD, retV, hb, hlt, hix, hg, hcell, hw]
theorem cf_run (k : WK F) (B : Nat) (h : H) (n d : Nat) (l : List Nat) (hn : l.length < n) (hl : l.length < 100000) (hg : h.get B = some (.c (u8s l) 0 1)) :
    callD F n (d + 3) 45 [.sl B 0 l.length l.length 1, .f 105 [] []] h = some (.b (l.any badB), h) := by
  obtain ⟨r, hr, hs⟩ := xf_loop k B h n d l [] n hn (by simpa using hl) (by simpa using hg)
  simp only [List.nil_append, List.length_nil] at hr
  have hx : ∃ i : Int, callD F n (d + 2) 106 [.sl B 0 l.length l.length 1, .f 105 [] []] h = some (.i .i64 i, h) ∧ ((0 ≤ i) ↔ l.any badB = true) := by
    by_cases ha : l.any badB = true
    · rw [if_pos ha] at hs
      obtain ⟨i, rfl⟩ := hs
      refine ⟨i, ?_, by simp [ha]⟩
      refine callD_code k.xf rfl ?_
      simp [c106, execD, runB_op, runB_nil, stepB, guardA, o, semAll, AO.map, AO.cls, evX, tmE, pushE, semP, semN, semR, semE, binV, binI, binS, pickE, retsD, retV]
      simp [execD, runB_op, runB_nil, stepB, guardA, o, semAll, AO.map, AO.cls, evX, tmE, pushE, semP, semN, semR, semE, binV, binI, binS, pickE, retsD, retV] at hr
      simp [hr]
    · rw [if_neg ha] at hs
      subst hs
      refine ⟨-1, ?_, by simp [ha]⟩
      refine callD_code k.xf rfl ?_
      simp [c106, execD, runB_op, runB_nil, stepB, guardA, o, semAll, AO.map, AO.cls, evX, tmE, pushE, semP, semN, semR, semE, binV, binI, binS, pickE, retsD, retV]
      simp [execD, runB_op, runB_nil, stepB, guardA, o, semAll, AO.map, AO.cls, evX, tmE, pushE, semP, semN, semR, semE, binV, binI, binS, pickE, retsD, retV] at hr
      simp [hr, execD, runB_op, runB_nil, stepB, guardA, o, semAll, AO.map, AO.cls, evX, tmE, pushE, semP, semN, semR, semE, binV, binI, binS, pickE, retsD, retV]
  obtain ⟨i, hi, hj⟩ := hx
  refine callD_code k.cf rfl ?_
  by_cases ha : l.any badB = true
  · have := hj.2 ha
    rw [ha]
    simp [c45, execD, runB_op, runB_nil, stepB, guardA, o, semAll, AO.map, AO.cls, evX, tmE, pushE, semP, semN, semR, semE, binV, binI, binS, pickE, retsD, retV, hi, this]
  · have : ¬ 0 ≤ i := fun e => ha (hj.1 e)
    have hf : l.any badB = false := by simpa using ha
    rw [hf]
    simp [c45, execD, runB_op, runB_nil, stepB, guardA, o, semAll, AO.map, AO.cls, evX, tmE, pushE, semP, semN, semR, semE, binV, binI, binS, pickE, retsD, retV, hi, this]
/-- Without a carriage return at the end. -/
def noCR (l : List Nat) : List Nat := if l.getLast? = some 13 then l.dropLast else l
theorem has_run (k : WK F) (l : List Nat) (hl : l.length < 100000) (h : H) (n d : Nat) : callD F n (d + 1) 246 [.s l, .s [13]] h = some (.b (decide (l.getLast? = some 13)), h) := by
  refine callD_code k.has rfl ?_
  rcases List.eq_nil_or_concat l with rfl | ⟨a, c, rfl⟩
  · simp [c246, execD, runB_op, runB_nil, stepB, guardA, o, semAll, AO.map, AO.cls, evX, tmE, pushE, semP, semN, semR, semE, binV, binI, binS, pickE, retsD, retV]
  · simp only [List.concat_eq_append, List.length_append, List.length_cons, List.length_nil] at hl
    have hw : IntKind.i64.wrap (a.length : Int) = (a.length : Int) := wrap_mid (by omega) (by omega)
    have h1 : (1 : Int) ≤ (a.length : Int) + 1 := by omega
    have h2 : (a.length : Int) ≤ (a.length : Int) + 1 := by omega
    simp [c246, execD, runB_op, runB_nil, stepB, guardA, o, semAll, AO.map, AO.cls, evX, tmE, pushE, semP, semN, semR, semE, binV, binI, binS, pickE, retsD, retV, bnds, hiV, loV, hw, h1, h2]
    by_cases hq : c = 13 <;> simp [hq]
theorem trim_run (k : WK F) (l : List Nat) (hl : l.length < 100000) (h : H) (n d : Nat) : callD F n (d + 3) 104 [.s l, .s [13]] h = some (.s (noCR l), h) := by
  have hs : callD F n (d + 2) 174 [.s l, .s [13]] h = some (.s (noCR l), h) := by
    have hh := has_run k l hl h n d
    refine callD_code k.strim rfl ?_
    unfold noCR
    by_cases hc : l.getLast? = some 13
    · rw [if_pos hc]
      simp only [hc, decide_true] at hh
      rcases List.eq_nil_or_concat l with rfl | ⟨a, c, rfl⟩
      · simp at hc
      · simp only [List.concat_eq_append, List.length_append, List.length_cons, List.length_nil] at hl hh
        have hw : IntKind.i64.wrap (a.length : Int) = (a.length : Int) := wrap_mid (by omega) (by omega)
        have h2 : (a.length : Int) ≤ (a.length : Int) + 1 := by omega
        simp [c174, execD, runB_op, runB_nil, stepB, guardA, o, semAll, AO.map, AO.cls, evX, tmE, pushE, semP, semN, semR, semE, binV, binI, binS, pickE, retsD, retV, bnds, hiV, loV, hw, h2, hh]
    · rw [if_neg hc]
      simp only [hc, decide_false] at hh
      simp [c174, execD, runB_op, runB_nil, stepB, guardA, o, semAll, AO.map, AO.cls, evX, tmE, pushE, semP, semN, semR, semE, binV, binI, binS, pickE, retsD, retV, hh]
  refine callD_code k.trim rfl ?_
  simp [c104, execD, runB_op, runB_nil, stepB, guardA, o, semAll, AO.map, AO.cls, evX, tmE, pushE, semP, semN, semR, semE, binV, binI, binS, pickE, retsD, retV, hs]
/-- Blocks that were there are as they were. -/
structure Ext (h h' : H) : Prop where
  le : h.nx ≤ h'.nx
  get : ∀ j, j < h.nx → h'.get j = h.get j
theorem Ext.refl (h : H) : Ext h h := ⟨Nat.le_refl _, fun _ _ => rfl⟩
theorem Ext.trans {a b c : H} (x : Ext a b) (y : Ext b c) : Ext a c := ⟨Nat.le_trans x.le y.le, fun j hj => (y.get j (Nat.lt_of_lt_of_le hj x.le)).trans (x.get j hj)⟩
theorem Ext.new (h : H) (b : Blk) : Ext h (h.new b) := ⟨by simp, fun j hj => by rw [H.get_new, if_neg (by omega)]⟩
/-- What is wrong with a line. -/
def lookE (l : List Nat) : Int := if 200 < l.length then 6 else if (noCR l).any badB = true then 1 else 0
theorem look_run (k : WK F) (l : List Nat) (hl : l.length < 100000) (h : H) (n d : Nat) (hn : 1000 < n) : ∃ h', callD F n (d + 4) 41 [.s l] h = some (.i .i64 (lookE l), h') ∧ Ext h h' := by
  have ht := trim_run k l hl h n d
  unfold lookE
  by_cases h1 : 200 < l.length
  · refine ⟨h, ?_, Ext.refl h⟩
    rw [if_pos h1]
    refine callD_code k.look rfl ?_
    have e1 : (200 : Int) < l.length := by omega
    simp [c41, execD, runB_op, runB_nil, stepB, guardA, o, semAll, AO.map, AO.cls, evX, tmE, pushE, semP, semN, semR, semE, binV, binI, binS, pickE, retsD, retV, e1]
  · rw [if_neg h1]
    have hlen : (noCR l).length ≤ l.length := by
      unfold noCR
      split <;> simp
    have e1 : ¬ (200 : Int) < l.length := by omega
    have e2 : (l.length : Int) ≤ 200 := by omega
    refine ⟨h.new (.c (u8s (noCR l)) 0 1), ?_, Ext.new _ _⟩
    have hc := cf_run k h.nx (h.new (.c (u8s (noCR l)) 0 1)) n d (noCR l) (by omega) (by omega) (by rw [H.get_new, if_pos rfl])
    simp only [u8s] at hc ⊢
    refine callD_code k.look rfl ?_
    by_cases hb : (noCR l).any badB = true
    · rw [hb] at hc
      simp [c41, execD, runB_op, runB_nil, stepB, guardA, o, semAll, AO.map, AO.cls, evX, tmE, pushE, semP, semN, semR, semE, binV, binI, binS, pickE, retsD, retV, e1, e2, ht, hc, hb]
    · have hf : (noCR l).any badB = false := by simpa using hb
      rw [hf] at hc
      simp [c41, execD, runB_op, runB_nil, stepB, guardA, o, semAll, AO.map, AO.cls, evX, tmE, pushE, semP, semN, semR, semE, binV, binI, binS, pickE, retsD, retV, e1, e2, ht, hc, hf]
end Go.Proofs.YtmbpjpffafidhaaGreatDoor
