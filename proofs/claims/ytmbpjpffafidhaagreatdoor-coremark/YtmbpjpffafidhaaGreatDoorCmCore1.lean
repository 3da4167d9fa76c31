/- core.Get's reader: its state, its small functions. -/
import Derived.Test.YtmbpjpffafidhaaGreatDoorCmWN
namespace Go.Proofs.YtmbpjpffafidhaaGreatDoor
open Go Go.Ev
set_option maxRecDepth 100000
set_option linter.unusedSimpArgs false
variable {F : Nat → Option FN}
/-- Blocks beside some are as they were. -/
structure Mod (S : List Nat) (h h' : H) : Prop where
  le : h.nx ≤ h'.nx
  get : ∀ j, j < h.nx → j ∉ S → h'.get j = h.get j
theorem Mod.refl (S : List Nat) (h : H) : Mod S h h := ⟨Nat.le_refl _, fun _ _ _ => rfl⟩
theorem Mod.trans {S : List Nat} {h h1 h2 : H} (a : Mod S h h1) (b : Mod S h1 h2) : Mod S h h2 := ⟨Nat.le_trans a.le b.le, fun j hj hn => (b.get j (Nat.lt_of_lt_of_le hj a.le) hn).trans (a.get j hj hn)⟩
theorem Mod.weak {S S' : List Nat} {h h' : H} (a : Mod S h h') (hs : ∀ x ∈ S, x ∈ S') : Mod S' h h' := ⟨a.le, fun j hj hn => a.get j hj fun hm => hn (hs j hm)⟩
theorem Ext.mod {h h' : H} (a : Ext h h') (S : List Nat) : Mod S h h' := ⟨a.le, fun j hj _ => a.get j hj⟩
theorem Mod.new (S : List Nat) (h : H) (b : Blk) : Mod S h (h.new b) := ⟨by simp, fun j hj _ => by rw [H.get_new, if_neg (by omega)]⟩
theorem Mod.put {S : List Nat} {h : H} {B : Nat} (b : Option Blk) (hB : B ∈ S) : Mod S h (h.put B b) := ⟨Nat.le_refl _, fun j hj hn => by rw [H.get_put, if_neg fun e => hn (by rw [e]; exact hB)]⟩
/-- New blocks may be changed: what is left is told of the old ones. -/
theorem Mod.drop {S S' : List Nat} {h h' : H} (a : Mod S h h') (hs : ∀ x ∈ S, x ∈ S' ∨ h.nx ≤ x) : Mod S' h h' := ⟨a.le, fun j hj hn => a.get j hj fun hm => by
  rcases hs j hm with h1 | h1
  · exact hn h1
  · omega⟩
/-- The reader's cells. -/
structure RD where
  nm : List Nat
  ob : List Nat
  rw : V
  cl : V
  at_ : Int
  mr : Nat
  mc : Nat
  ms : Nat
  ig : Bool
  l : V
  e : Int
def RD.cells (r : RD) : List V := [.s r.nm, .s r.ob, r.rw, r.cl, .i .i64 r.at_, .m r.mr, .m r.mc, .m r.ms, .b r.ig, r.l, .i .i64 r.e]
theorem RD.len (r : RD) : r.cells.length = 11 := rfl
/-- The functions that are reached. -/
structure WKC (F : Nat → Option FN) : Prop extends WKN F where
  fails : F 129 = some (.code 3 c129)
  word : F 184 = some (.code 1 c184)
  many : F 185 = some (.code 2 c185)
  conI : F 249 = some (.code 2 c249)
  idxI : F 289 = some (.code 2 c289)
  idxS : F 182 = some (.code 2 c182)
  heads : F 183 = some (.code 0 c183)
  head : F 124 = some (.code 1 c124)
  row : F 125 = some (.code 1 c125)
  marks : F 186 = some (.code 1 c186)
  column : F 126 = some (.code 1 c126)
  pairs : F 187 = some (.code 2 c187)
  put : F 188 = some (.code 3 c188)
  number : F 250 = some (.code 1 c250)
  line : F 58 = some (.code 2 c58)
  cget : F 22 = some (.code 1 c22)
section
variable {r : RD} {R q : Nat} {h : H}
theorem fails_no (k : WKC F) (R : Nat) (e : V) (h : H) (n d : Nat) : callD F n (d + 1) 129 [.p R 0, .b false, e] h = some (.tu [], h) := by
  refine callD_code k.fails rfl ?_
  simp [c129, h129, execD, runB_op, runB_nil, stepB, guardA, o, semAll, AO.map, AO.cls, evX, tmE, pushE, semP, semN, semR, semE, binV, binI, binS, pickE, retsD, retV]
theorem fails_yes (k : WKC F) (hr : h.get R = some (.c r.cells 0 q)) (hq : q % 4 = 0) (he : r.e = 0) (e : Int) (n d : Nat) : callD F n (d + 1) 129 [.p R 0, .b true, .i .i64 e] h = some (.tu [], h.put R (some (.c { r with e := e }.cells 0 q))) := by
  refine callD_code k.fails rfl ?_
  have c1 : ¬ 2 ≤ q % 4 := by omega
  simp [c129, h129, execD, runB_op, runB_nil, stepB, guardA, o, semAll, AO.map, AO.cls, evX, tmE, pushE, semP, semN, semR, semE, binV, binI, binS, pickE, retsD, retV, hr, RD.cells, he, stAt, c1, layAt, V.one]
theorem word_run (k : WKC F) (hr : h.get R = some (.c r.cells 0 q)) (hq : q % 4 = 0) (he : r.e = 0) {W w0 len cap : Nat} {ws : List V} {fz qw : Nat} {s : List Nat} (hl : r.l = .sl W w0 (len + 1) cap 0) (hcap : len + 1 ≤ cap) (hc2 : cap < 100000) (hw : h.get W = some (.c ws fz qw)) (hs : ws[w0]? = some (.s s)) (n d : Nat) :
    callD F n (d + 2) 184 [.p R 0] h = some (.s s, h.put R (some (.c { r with l := if cap = 1 then .sl W w0 len (cap - 1) 0 else .sl W (w0 + 1) len (cap - 1) 0 }.cells 0 q))) := by
  have c1 : ¬ 2 ≤ q % 4 := by omega
  have hf := fails_no k R (.i .i64 1) h n d
  have e1 : ((len : Int) + 1 == 0) = false := by
    simp
    omega
  have e2 : idx 0 (len + 1) = some 0 := by
    unfold idx
    rw [if_pos (by omega)]
    rfl
  have e3 : (1 : Int) ≤ (len : Int) + 1 := by omega
  refine callD_code k.word rfl ?_
  by_cases hc : cap = 1
  · subst hc
    have hl0 : len = 0 := by omega
    subst hl0
    simp [c184, execD, runB_op, runB_nil, stepB, guardA, o, semAll, AO.map, AO.cls, evX, tmE, pushE, semP, semN, semR, semE, binV, binI, binS, pickE, retsD, retV, hr, RD.cells, he, hl, e1, hf, e2, hw, hs, bnds, hiV, loV, e3, stAt, c1, layAt, V.one]
  · simp [c184, execD, runB_op, runB_nil, stepB, guardA, o, semAll, AO.map, AO.cls, evX, tmE, pushE, semP, semN, semR, semE, binV, binI, binS, pickE, retsD, retV, hr, RD.cells, he, hl, e1, hf, e2, hw, hs, bnds, hiV, loV, e3, hc, stAt, c1, layAt, V.one]
end
def strs (l : List (List Nat)) : List V := l.map V.s
def ixB : BC := (.post (.seq (.reg [o 9 (.bin .lss (.t 3) (.t 2))]) (.seq (.cond (.t 0) .skip (.pre [] [] (.exit 0))) (.seq (.block 1 [0, 1, 7, 8] (.post (.seq (.reg []) (.seq (.reg [o 14 (.ia 1 (.t 1) (.t 4)), o 15 (.ld (.t 0)), o 16 (.bin .eql (.t 4) (.t 0))]) (.cond (.t 0) (.seq (.reg []) (.ret [.mv (.t 7)])) .skip))) [0, 1, 7, 8] [4, 5, 6, 7])) (.reg [o 18 (.bin .add (.t 3) (.k (.i .i64 1)))])))) [0, 1, 7, 8] [1, 2, 3, 0])
theorem c_ix : c182 = (.seq (.reg [o 4 (.mv (.k (.i .i64 0)))]) (.seq (.seq (.reg [o 7 (.len false (.t 1)), o 8 (.mv (.k (.i .i64 0)))]) (.block 0 [] (.pre [0, 1, 7, 8] [3, 4, 1, 0] (.loop ixB)))) (.seq (.reg [o 4 (.mv (.k (.i .i64 (-1))))]) (.ret [.mv (.t 0)])))) := rfl
/-- Where a text is among some. -/
def ixOf (s : List Nat) : List (List Nat) → Nat → Int
  | [], _ => -1
  | x :: r, i => if s = x then (i : Int) else ixOf s r (i + 1)
theorem ix_loop {call : CallF} {n : Nat} (s : List Nat) (B fz q cap xf : Nat) (h : H) (all : List (List Nat)) (hg : h.get B = some (.c (strs all) fz q)) (hal : all.length < 100000) : ∀ (r pre : List (List Nat)) (m : Nat), all = pre ++ r → r.length < m →
    loopD (execD call n ixB) m [.sl B 0 all.length cap xf, .s s, .i .i64 (all.length : Nat), .i .i64 (pre.length : Nat)] h = some (if ixOf s r pre.length = -1 then .exit 0 [] else .ret (.i .i64 (ixOf s r pre.length)), h)
  | [], pre, m, ha, hm => by
    obtain ⟨m, rfl⟩ : ∃ q, m = q + 1 := ⟨m - 1, by simp at hm; omega⟩
    have e : pre.length = all.length := by rw [ha]; simp
    rw [loopD_one, e]
    simp [ixB, execD, runB_op, runB_nil, stepB, guardA, o, semAll, AO.map, AO.cls, evX, tmE, pushE, semP, semN, semR, semE, binV, binI, binS, pickE, retsD, retV, ixOf]
  | x :: r, pre, m, ha, hm => by
    obtain ⟨m, rfl⟩ : ∃ q, m = q + 1 := ⟨m - 1, by simp at hm; omega⟩
    have hlt : pre.length < all.length := by rw [ha]; simp
    have e : (pre.length : Int) < (all.length : Int) := by omega
    have hix : idx (pre.length : Int) all.length = some pre.length := by
      unfold idx
      rw [if_pos (by omega)]
      rfl
    have hc : (strs all)[pre.length]? = some (.s x) := by
      rw [ha]
      simp [strs]
    have hw : IntKind.i64.wrap ((pre.length : Int) + 1) = (pre.length : Int) + 1 := wrap_mid (by omega) (by omega)
    rw [loopD_one]
    by_cases hs : s = x
    · have hne : ¬ ((pre.length : Int) = -1) := by omega
      subst hs
      simp [ixB, execD, runB_op, runB_nil, stepB, guardA, o, semAll, AO.map, AO.cls, evX, tmE, pushE, semP, semN, semR, semE, binV, binI, binS, pickE, retsD, retV, ixOf, e, hix, hg, hc, hne]
    · have hb : (s == x) = false := by simpa using hs
      have hr := ix_loop (call := call) (n := n) s B fz q cap xf h all hg hal r (pre ++ [x]) m (by rw [ha]; simp) (by simp at hm; omega)
      simp only [List.length_append, List.length_cons, List.length_nil] at hr
      have e5 : (((pre.length + 1 : Nat)) : Int) = (pre.length : Int) + 1 := by omega
      simp only [ixOf, if_neg hs]
      rw [← hr]
      simp [ixB, execD, runB_op, runB_nil, stepB, guardA, o, semAll, AO.map, AO.cls, evX, tmE, pushE, semP, semN, semR, semE, binV, binI, binS, pickE, retsD, retV, e, hix, hg, hc, hb, hs, hw]
theorem ixs_run (k : WKC F) (s : List Nat) {B fz q cap xf : Nat} {h : H} {all : List (List Nat)} (hg : h.get B = some (.c (strs all) fz q)) (hal : all.length < 1000) (n d : Nat) (hn : 1000 < n) :
    callD F n (d + 1) 182 [.sl B 0 all.length cap xf, .s s] h = some (.i .i64 (ixOf s all 0), h) := by
  have hl := ix_loop (call := callD F n d) (n := n) s B fz q cap xf h all hg (by omega) all [] n rfl (by omega)
  simp only [List.length_nil] at hl
  have e0 : ((0 : Nat) : Int) = 0 := rfl
  rw [e0] at hl
  refine callD_code k.idxS rfl ?_
  by_cases hx : ixOf s all 0 = -1
  · rw [if_pos hx] at hl
    simp [c_ix, execD, runB_op, runB_nil, stepB, guardA, o, semAll, AO.map, AO.cls, evX, tmE, pushE, semP, semN, semR, semE, binV, binI, binS, pickE, retsD, retV, hl, hx]
  · rw [if_neg hx] at hl
    simp [c_ix, execD, runB_op, runB_nil, stepB, guardA, o, semAll, AO.map, AO.cls, evX, tmE, pushE, semP, semN, semR, semE, binV, binI, binS, pickE, retsD, retV, hl]
end Go.Proofs.YtmbpjpffafidhaaGreatDoor
