/- words.Name of any text; texts cut. -/
import Derived.Test.YtmbpjpffafidhaaGreatDoorCmW9
import Derived.Test.YtmbpjpffafidhaaGreatDoorCmL7
namespace Go.Proofs.YtmbpjpffafidhaaGreatDoor
open Go Go.Ev
set_option maxRecDepth 100000
set_option linter.unusedSimpArgs false
variable {F : Nat → Option FN}
/-- The functions that are reached besides. -/
structure WKN (F : Nat → Option FN) : Prop extends WK F where
  nbad : F 46 = some (.code 1 c46)
  name : F 14 = some (.code 1 c14)
  txt : F 11 = some (.code 2 c11)
def xfB : BC := (.post (.seq (.reg [o 9 (.bin .lss (.t 3) (.t 2))]) (.seq (.cond (.t 0) .skip (.pre [] [] (.exit 0))) (.seq (.block 1 [0, 1, 7, 8] (.post (.seq (.reg []) (.seq (.reg [o 14 (.ia 1 (.t 1) (.t 4)), o 15 (.ld (.t 0)), o 16 (.callv (.t 4) [(.t 0)])]) (.cond (.t 0) (.seq (.reg []) (.ret [.mv (.t 7)])) .skip))) [0, 1, 7, 8] [4, 5, 6, 7])) (.reg [o 18 (.bin .add (.t 3) (.k (.i .i64 1)))])))) [0, 1, 7, 8] [1, 2, 3, 0])
theorem c_xf : c106 = (.seq (.reg [o 4 (.mv (.k (.i .i64 0)))]) (.seq (.seq (.reg [o 7 (.len false (.t 1)), o 8 (.mv (.k (.i .i64 0)))]) (.block 0 [] (.pre [0, 1, 7, 8] [3, 4, 1, 0] (.loop xfB)))) (.seq (.reg [o 4 (.mv (.k (.i .i64 (-1))))]) (.ret [.mv (.t 0)])))) := rfl
theorem xg_loop {call : CallF} {g : Nat} {P : Nat → Bool} (hP : ∀ (c : Nat) (h : H), call g [.i .u8 (c : Int)] h = some (.b (P c), h)) (B : Nat) (h : H) (n : Nat) : ∀ (l2 l1 : List Nat) (m : Nat), l2.length < m → (l1 ++ l2).length < 100000 → h.get B = some (.c (u8s (l1 ++ l2)) 0 1) →
    ∃ r, loopD (execD call n xfB) m [.sl B 0 (l1 ++ l2).length (l1 ++ l2).length 1, .f g [] [], .i .i64 ((l1 ++ l2).length : Nat), .i .i64 (l1.length : Nat)] h = some (r, h) ∧
      (if l2.any P = true then ∃ i : Nat, r = .ret (.i .i64 i) else r = .exit 0 [])
  | [], l1, m, hm, hl, hg => by
    obtain ⟨m, rfl⟩ : ∃ q, m = q + 1 := ⟨m - 1, by simp at hm; omega⟩
    refine ⟨.exit 0 [], ?_, by simp⟩
    rw [loopD_one]
    simp [xfB, execD, runB_op, runB_nil, stepB, guardA, o, semAll, AO.map, AO.cls, evX, tmE, pushE, semP, semN, semR, semE, binV, binI, binS, pickE, retsD, retV]
  | c :: l2, l1, m, hm, hl, hg => by
    obtain ⟨m, rfl⟩ : ∃ q, m = q + 1 := ⟨m - 1, by simp at hm; omega⟩
    have hb := hP c h
    have hlt : (l1.length : Int) < ((l1.length : Int) + ((l2.length : Int) + 1)) := by omega
    have hix : idx (l1.length : Int) (l1.length + (l2.length + 1)) = some l1.length := by
      unfold idx
      simp
      omega
    have hcell : (u8s (l1 ++ c :: l2))[l1.length]? = some (.i .u8 (c : Int)) := by
      simp [u8s]
    have hw : IntKind.i64.wrap ((l1.length : Int) + 1) = (l1.length : Int) + 1 := by
      simp only [List.length_append, List.length_cons] at hl
      exact wrap_mid (by omega) (by omega)
    rw [loopD_one]
    by_cases hc : P c = true
    · refine ⟨.ret (.i .i64 (l1.length : Nat)), ?_, by rw [if_pos (by simp [hc])]; exact ⟨_, rfl⟩⟩
      rw [hc] at hb
      simp [xfB, execD, runB_op, runB_nil, stepB, guardA, o, semAll, AO.map, AO.cls, evX, tmE, pushE, semP, semN, semR, semE, binV, binI, binS, pickE, retsD, retV, hb, hlt, hix, hg, hcell]
    · have hc' : P c = false := by simpa using hc
      rw [hc'] at hb
      obtain ⟨r, hr, hs⟩ := xg_loop hP B h n l2 (l1 ++ [c]) m (by simp at hm; omega) (by simpa using hl) (by simpa using hg)
      refine ⟨r, ?_, by simpa [hc'] using hs⟩
      rw [← hr]
      simp [xfB, execD, runB_op, runB_nil, stepB, guardA, o, semAll, AO.map, AO.cls, evX, tmE, pushE, semP, semN, semR, semE, binV, binI, binS, pickE, retsD, retV, hb, hlt, hix, hg, hcell, hw]
theorem cg_run (k : WK F) (B : Nat) (h : H) (n d : Nat) {g : Nat} {P : Nat → Bool} (hP : ∀ (c : Nat) (h : H), callD F n (d + 1) g [.i .u8 (c : Int)] h = some (.b (P c), h)) (l : List Nat) (hn : l.length < n) (hl : l.length < 100000) (hg : h.get B = some (.c (u8s l) 0 1)) :
    callD F n (d + 3) 45 [.sl B 0 l.length l.length 1, .f g [] []] h = some (.b (l.any P), h) := by
  obtain ⟨r, hr, hs⟩ := xg_loop hP B h n l [] n hn (by simpa using hl) (by simpa using hg)
  simp only [List.nil_append, List.length_nil] at hr
  have e0 : ((0 : Nat) : Int) = 0 := rfl
  rw [e0] at hr
  have hx : ∃ i : Int, callD F n (d + 2) 106 [.sl B 0 l.length l.length 1, .f g [] []] h = some (.i .i64 i, h) ∧ ((0 ≤ i) ↔ l.any P = true) := by
    by_cases ha : l.any P = true
    · rw [if_pos ha] at hs
      obtain ⟨i, rfl⟩ := hs
      refine ⟨i, ?_, by simp [ha]⟩
      refine callD_code k.xf rfl ?_
      simp [c_xf, execD, runB_op, runB_nil, stepB, guardA, o, semAll, AO.map, AO.cls, evX, tmE, pushE, semP, semN, semR, semE, binV, binI, binS, pickE, retsD, retV, hr]
    · rw [if_neg ha] at hs
      subst hs
      refine ⟨-1, ?_, by simp [ha]⟩
      refine callD_code k.xf rfl ?_
      simp [c_xf, execD, runB_op, runB_nil, stepB, guardA, o, semAll, AO.map, AO.cls, evX, tmE, pushE, semP, semN, semR, semE, binV, binI, binS, pickE, retsD, retV, hr]
  obtain ⟨i, hi, hj⟩ := hx
  refine callD_code k.cf rfl ?_
  by_cases ha : l.any P = true
  · have := hj.2 ha
    rw [ha]
    simp [c45, execD, runB_op, runB_nil, stepB, guardA, o, semAll, AO.map, AO.cls, evX, tmE, pushE, semP, semN, semR, semE, binV, binI, binS, pickE, retsD, retV, hi, this]
  · have : ¬ 0 ≤ i := fun e => ha (hj.1 e)
    have hf : l.any P = false := by simpa using ha
    rw [hf]
    simp [c45, execD, runB_op, runB_nil, stepB, guardA, o, semAll, AO.map, AO.cls, evX, tmE, pushE, semP, semN, semR, semE, binV, binI, binS, pickE, retsD, retV, hi, this]
/-- A byte that no name has; a name. -/
def badN (c : Nat) : Bool := decide (c < 33) || decide (126 < c)
def nameB (l : List Nat) : Bool := !(l.any badN) && (decide (1 ≤ l.length) && decide (l.length ≤ 20))
theorem nbad_run (k : WKN F) (c : Nat) (h : H) (n d : Nat) : callD F n (d + 1) 46 [.i .u8 (c : Int)] h = some (.b (badN c), h) := by
  refine callD_code k.nbad rfl ?_
  by_cases h1 : c < 33
  · have e1 : (c : Int) ≤ 32 := by omega
    have e1' : ¬ (32 : Int) < c := by omega
    simp [c46, execD, runB_op, runB_nil, stepB, guardA, o, semAll, AO.map, AO.cls, evX, tmE, pushE, semP, semN, semR, semE, binV, binI, binS, pickE, retsD, retV, badN, h1, e1, e1']
  · have e1 : ¬ (c : Int) ≤ 32 := by omega
    have e1' : (32 : Int) < c := by omega
    by_cases h2 : 126 < c
    · have e2 : (126 : Int) < c := by omega
      have e2' : ¬ (c : Int) ≤ 126 := by omega
      simp [c46, execD, runB_op, runB_nil, stepB, guardA, o, semAll, AO.map, AO.cls, evX, tmE, pushE, semP, semN, semR, semE, binV, binI, binS, pickE, retsD, retV, badN, h1, e1, e1', h2, e2, e2']
    · have e2 : ¬ (126 : Int) < c := by omega
      have e2' : (c : Int) ≤ 126 := by omega
      simp [c46, execD, runB_op, runB_nil, stepB, guardA, o, semAll, AO.map, AO.cls, evX, tmE, pushE, semP, semN, semR, semE, binV, binI, binS, pickE, retsD, retV, badN, h1, e1, e1', h2, e2, e2']
theorem name_run (k : WKN F) (l : List Nat) (hl : l.length < 100000) (h : H) (n d : Nat) (hn : l.length < n) : ∃ h', callD F n (d + 4) 14 [.s l] h = some (.b (nameB l), h') ∧ Ext h h' := by
  refine ⟨h.new (.c (u8s l) 0 1), ?_, Ext.new _ _⟩
  have hc := cg_run k.toWK h.nx (h.new (.c (u8s l) 0 1)) n d (fun c h => nbad_run k c h n d) l hn hl (by rw [H.get_new, if_pos rfl])
  simp only [u8s] at hc ⊢
  refine callD_code k.name rfl ?_
  unfold nameB
  by_cases hb : l.any badN = true
  · rw [hb] at hc
    simp [c14, execD, runB_op, runB_nil, stepB, guardA, o, semAll, AO.map, AO.cls, evX, tmE, pushE, semP, semN, semR, semE, binV, binI, binS, pickE, retsD, retV, unV, hc, hb]
  · have hf : l.any badN = false := by simpa using hb
    rw [hf] at hc
    by_cases h1 : 1 ≤ l.length
    · have e1 : (1 : Int) ≤ l.length := by omega
      by_cases h2 : l.length ≤ 20
      · have e2 : (l.length : Int) ≤ 20 := by omega
        simp [c14, execD, runB_op, runB_nil, stepB, guardA, o, semAll, AO.map, AO.cls, evX, tmE, pushE, semP, semN, semR, semE, binV, binI, binS, pickE, retsD, retV, unV, hc, hf, h1, e1, h2, e2]
      · have e2 : ¬ (l.length : Int) ≤ 20 := by omega
        simp [c14, execD, runB_op, runB_nil, stepB, guardA, o, semAll, AO.map, AO.cls, evX, tmE, pushE, semP, semN, semR, semE, binV, binI, binS, pickE, retsD, retV, unV, hc, hf, h1, e1, h2, e2]
    · have e1 : ¬ (1 : Int) ≤ l.length := by omega
      simp [c14, execD, runB_op, runB_nil, stepB, guardA, o, semAll, AO.map, AO.cls, evX, tmE, pushE, semP, semN, semR, semE, binV, binI, binS, pickE, retsD, retV, unV, hc, hf, h1, e1]
theorem text_run (k : WKN F) (l : List Nat) (K : Nat) (h : H) (n d : Nat) : callD F n (d + 1) 11 [.s l, .i .i64 (K : Nat)] h = some (.s (l.take K), h) := by
  refine callD_code k.txt rfl ?_
  by_cases hk : (K : Int) < (l.length : Int)
  · have c1 : (K : Int) ≤ (l.length : Int) := by omega
    simp [c11, execD, runB_op, runB_nil, stepB, guardA, o, semAll, AO.map, AO.cls, evX, tmE, pushE, semP, semN, semR, semE, binV, binI, binS, pickE, retsD, retV, mmV, bnds, hiV, loV, hk, c1]
  · have c1 : (l.length : Int) ≤ (K : Int) := by omega
    have c2 : l.take K = l := List.take_of_length_le (by omega)
    simp [c11, execD, runB_op, runB_nil, stepB, guardA, o, semAll, AO.map, AO.cls, evX, tmE, pushE, semP, semN, semR, semE, binV, binI, binS, pickE, retsD, retV, mmV, bnds, hiV, loV, hk, c1, c2]
theorem getP_bound : ∀ (ls : List (List Nat)) (no : Nat) (ys : List (Nat × Bool × List (List Nat))), getP ls no = .ok ys → ys.length ≤ ls.length ∧ ∀ y ∈ ys, y.2.2.length ≤ 201
  | [], no, ys, h => by
    simp only [getP, Except.ok.injEq] at h
    subst h
    simp
  | s :: ls, no, ys, h => by
    simp only [getP] at h
    by_cases h1 : 2500 < no
    · rw [if_pos h1] at h
      simp at h
    · rw [if_neg h1] at h
      by_cases h2 : lookE s ≠ 0
      · rw [if_pos h2] at h
        simp at h
      · rw [if_neg h2] at h
        cases h3 : getP ls (no + 1) with
        | error e => rw [h3] at h; simp at h
        | ok zs =>
          rw [h3] at h
          obtain ⟨k1, k2⟩ := getP_bound ls (no + 1) zs h3
          simp only [Except.ok.injEq] at h
          subst h
          by_cases h4 : skipB s = true
          · rw [if_pos h4]
            exact ⟨by simp; omega, k2⟩
          · rw [if_neg h4]
            refine ⟨by simp; omega, fun y hy => ?_⟩
            simp only [List.mem_cons] at hy
            rcases hy with rfl | hy
            · have := (look_ok (Classical.not_not.1 h2)).1
              have := fullS_len s
              simp [fieldsL]
              omega
            · exact k2 y hy
/-- What is read of rows. -/
theorem rows_read {h : H} {v : V} {xs : List Row} {B : Nat} (ar : AR h v 3 (rowsC xs) B) : ∃ cap xf cs q, v = .sl B 0 xs.length cap xf ∧ h.get B = some (.c cs 0 q) ∧
    ∀ pre r post, xs = pre ++ r :: post → cs[pre.length * 3]? = some (.i .i64 (r.no : Int)) ∧ cs[pre.length * 3 + 1]? = some (.b r.hd) ∧ cs[pre.length * 3 + 2]? = some r.v := by
  obtain ⟨len, cap, xf, cs, q, rfl, hg, _, _, hlc, hcs, htk, hcl⟩ := ar.ex
  rw [rowsC_len] at hcl
  have hlen : len = xs.length := by omega
  subst hlen
  refine ⟨cap, xf, cs, q, rfl, hg, fun pre r post hx => ?_⟩
  obtain ⟨tl, hc⟩ : ∃ tl, cs = rowsC xs ++ tl := ⟨cs.drop (xs.length * 3), by rw [← htk, List.take_append_drop]⟩
  rw [hx, rowsC_app] at hc
  simp only [rowsC, List.append_assoc, List.cons_append] at hc
  have hp := rowsC_len pre
  rw [hc, ← hp]
  refine ⟨?_, ?_, ?_⟩
  · simp
  · rw [List.getElem?_append_right (by omega)]
    simp
  · rw [List.getElem?_append_right (by omega)]
    simp
end Go.Proofs.YtmbpjpffafidhaaGreatDoor
