/- core.Get: its loop's body. -/
import Derived.Test.YtmbpjpffafidhaaGreatDoorCmCore9
namespace Go.Proofs.YtmbpjpffafidhaaGreatDoor
open Go Go.Ev
set_option maxRecDepth 100000
set_option linter.unusedSimpArgs false
variable {F : Nat → Option FN}
def cgB : BC := (.post (.seq (.reg [o 30 (.bin .lss (.t 4) (.t 3))]) (.seq (.cond (.t 0) .skip (.pre [2] [1] (.exit 0))) (.seq (.block 1 [2, 8, 27, 28, 29] (.post (.seq (.reg [o 31 (.ia 3 (.t 3) (.t 5)), o 32 (.ldn 3 (.t 0)), o 10 (.alloc 136 [(.i .i64 0), (.b false), .sn]), .op ⟨none, none, .stn 3 (.t 0) (.t 1)⟩]) (.seq (.seq (.reg [o 34 (.ldn 3 (.t 0)), o 35 (.call 58 [(.t 6), (.t 0)])]) (.seq (.reg [o 37 (.nck (.t 7)), o 38 (.fa 10 (.t 0)), o 39 (.ld (.t 0)), o 40 (.bin .neq (.t 0) (.k (.i .i64 0)))]) (.cond (.t 0) (.seq (.post (.reg [o 41 (.build [(.s []), (.s []), .sn, .sn] []), o 42 (.fa 0 (.t 7)), o 43 (.ld (.t 0)), o 45 (.nck (.t 14)), o 46 (.fa 10 (.t 0)), o 47 (.ld (.t 0)), .op ⟨none, none, .stn 4 (.t 16) (.t 5)⟩, .chk ⟨(some 3), none, .ld (.t 4)⟩, .chk ⟨(some 0), none, .ld (.t 1)⟩]) [2, 3, 4] [16, 3, 0]) (.ret [.ldn 4 (.t 0), .mv (.t 1), .mv (.t 2)])) .skip))) (.seq (.reg [o 49 (.nck (.t 11)), o 50 (.fa 4 (.t 0)), o 51 (.ld (.t 0)), o 52 (.bin .eql (.t 0) (.k (.i .i64 7)))]) (.cond (.t 0) (.seq (.post (.reg [o 54 (.nck (.t 15)), o 55 (.fa 0 (.t 0)), o 56 (.ldn 4 (.t 0)), .op ⟨none, none, .stn 4 (.t 17) (.t 0)⟩, o 3 (.mv (.k (.i .i64 0))), o 4 (.mv (.k (.i .i64 0)))]) [2, 3, 4] [19, 1, 0]) (.ret [.ldn 4 (.t 0), .mv (.t 1), .mv (.t 2)])) .skip)))) [2, 8, 27, 28, 29] [14, 15, 16, 17, 18])) (.reg [o 57 (.bin .add (.t 4) (.k (.i .i64 1)))])))) [2, 8, 27, 28, 29] [1, 2, 3, 4, 0])
theorem c_cget : c22 = (.seq (.reg [o 2 (.alloc 212 [(.s []), (.s []), .sn, .sn]), o 3 (.mv (.k (.i .i64 0))), o 4 (.mv (.k (.i .i64 0)))]) (.seq (.reg [o 13 (.call 12 [(.t 3)]), o 14 (.ext 0 (.t 0)), o 15 (.ext 1 (.t 1)), o 16 (.ext 2 (.t 2))]) (.seq (.seq (.reg [o 18 (.bin .neq (.t 0) (.k (.i .i64 0)))]) (.cond (.t 0) (.seq (.reg [o 19 (.build [(.s []), (.s []), .sn, .sn] []), .op ⟨none, none, .stn 4 (.t 8) (.t 0)⟩]) (.ret [.ldn 4 (.t 8), .mv (.t 3), .mv (.t 2)])) .skip)) (.seq (.reg [o 22 (.mkm), o 23 (.mkm), o 24 (.mkm), o 25 (.build [(.s []), (.s []), .sn, .sn, (.i .i64 0), .mn, .mn, .mn, (.b false), .sn, (.i .i64 0)] [(5, 1, (.t 2)), (6, 1, (.t 1)), (7, 1, (.t 0))]), o 26 (.box 588 (.t 0))]) (.seq (.seq (.reg [o 28 (.len false (.t 8)), o 29 (.mv (.k (.i .i64 0)))]) (.block 0 [2] (.pre [2, 8, 27, 28, 29] [14, 2, 10, 1, 0] (.loop cgB)))) (.seq (.reg [o 58 (.build [(.s []), (.s []), .sn, .sn] []), .op ⟨none, none, .stn 4 (.t 1) (.t 0)⟩, o 3 (.mv (.k (.i .i64 0))), o 4 (.mv (.k (.i .i64 5)))]) (.ret [.ldn 4 (.t 3), .mv (.t 1), .mv (.t 0)]))))))) := rfl
section
variable {call : CallF} {n A R q i K Bl cl xl ql fzl : Nat} {h g : H} {cs : List V} {no : Int} {hd : Bool} {v : V} {r : RD}
/-- The heap at the line's call: a copy of the line. -/
def lineH (h : H) (no : Int) (hd : Bool) (v : V) : H := (h.new (.c [.i .i64 0, .b false, .sn] 0 136)).put h.nx (some (.c [.i .i64 no, .b hd, v] 0 136))
theorem cg_stop {l : V} : execD call n cgB [.p A 0, .p R 0, l, .i .i64 (K : Nat), .i .i64 (K : Nat)] h = some (.exit 0 [.p A 0], h) := by
  simp [cgB, execD, runB_op, runB_nil, stepB, guardA, o, semAll, AO.map, AO.cls, evX, tmE, pushE, semP, semN, semR, semE, binV, binI, binS, pickE, retsD, retV]
theorem cg_cont (hi : i < K) (hK : K < 100000) (hgl : h.get Bl = some (.c cs fzl ql)) (c0 : cs[i * 3]? = some (.i .i64 no)) (c1 : cs[i * 3 + 1]? = some (.b hd)) (c2 : cs[i * 3 + 2]? = some v) (hcl : i * 3 + 3 ≤ cs.length) (hv : V.one v = true)
    (hc : call 58 [.p R 0, .ag [.i .i64 no, .b hd, v]] (lineH h no hd v) = some (.tu [], g)) (hr : g.get R = some (.c r.cells 0 q)) (he : r.e = 0) (hat : r.at_ ≠ 7) :
    execD call n cgB [.p A 0, .p R 0, .sl Bl 0 K cl xl, .i .i64 (K : Nat), .i .i64 (i : Nat)] h = some (.nrm [.p A 0, .p R 0, .sl Bl 0 K cl xl, .i .i64 (K : Nat), .i .i64 ((i + 1 : Nat) : Int)], g) := by
  have e : (i : Int) < K := by omega
  have hw : IntKind.i64.wrap ((i : Int) + 1) = (i : Int) + 1 := wrap_mid (by omega) (by omega)
  have hix := idx_of hi
  have h3 : (cs.drop (i * 3)).take 3 = [.i .i64 no, .b hd, v] := three_cells c0 c1 c2
  have hat' : (r.at_ == 7) = false := by simpa using hat
  unfold lineH at hc
  unfold V.one at hv
  simp only [RD.cells, he] at hr
  simp [cgB, execD, runB_op, runB_nil, stepB, guardA, o, semAll, AO.map, AO.cls, evX, tmE, pushE, semP, semN, semR, semE, binV, binI, binS, pickE, retsD, retV, e, hi, hix, cellsAt, hgl, hcl, h3, stAt, H.get_new, H.get_put, V.one, hv, layAt, hc, hr, hat, hat', hw]
theorem cg_err (hi : i < K) (hK : K < 100000) (hgl : h.get Bl = some (.c cs fzl ql)) (c0 : cs[i * 3]? = some (.i .i64 no)) (c1 : cs[i * 3 + 1]? = some (.b hd)) (c2 : cs[i * 3 + 2]? = some v) (hcl : i * 3 + 3 ≤ cs.length) (hv : V.one v = true)
    (hc : call 58 [.p R 0, .ag [.i .i64 no, .b hd, v]] (lineH h no hd v) = some (.tu [], g)) (hr : g.get R = some (.c r.cells 0 q)) (he : r.e ≠ 0) (hX : g.get h.nx = some (.c [.i .i64 no, .b hd, v] 0 136)) {a0 a1 a2 a3 : V} (hA : g.get A = some (.c [a0, a1, a2, a3] 0 212)) (hAR : A ≠ R) (hAX : A ≠ h.nx) :
    execD call n cgB [.p A 0, .p R 0, .sl Bl 0 K cl xl, .i .i64 (K : Nat), .i .i64 (i : Nat)] h = some (.ret (.tu [.ag [.s [], .s [], .sn, .sn], .i .i64 no, .i .i64 r.e]), g.put A (some (.c [.s [], .s [], .sn, .sn] 0 212))) := by
  have e : (i : Int) < K := by omega
  have hix := idx_of hi
  have h3 : (cs.drop (i * 3)).take 3 = [.i .i64 no, .b hd, v] := three_cells c0 c1 c2
  have he' : (r.e != 0) = true := by simpa using he
  unfold lineH at hc
  unfold V.one at hv
  simp only [RD.cells] at hr
  simp [cgB, execD, runB_op, runB_nil, runB, chkA, beqV, beqV_refl, stepB, guardA, o, semAll, AO.map, AO.cls, evX, tmE, pushE, semP, semN, semR, semE, binV, binI, binS, pickE, retsD, retV, e, hi, hix, cellsAt, hgl, hcl, h3, stAt, H.get_new, H.get_put, V.one, hv, layAt, hc, hr, he, he', hX, hA, hAR, Ne.symm hAR, hAX, Ne.symm hAX, fillV, V.cells]
theorem cg_done (hi : i < K) (hK : K < 100000) (hgl : h.get Bl = some (.c cs fzl ql)) (c0 : cs[i * 3]? = some (.i .i64 no)) (c1 : cs[i * 3 + 1]? = some (.b hd)) (c2 : cs[i * 3 + 2]? = some v) (hcl : i * 3 + 3 ≤ cs.length) (hv : V.one v = true)
    (hc : call 58 [.p R 0, .ag [.i .i64 no, .b hd, v]] (lineH h no hd v) = some (.tu [], g)) (hr : g.get R = some (.c r.cells 0 q)) (he : r.e = 0) (hat : r.at_ = 7) {a0 a1 a2 a3 : V} (hA : g.get A = some (.c [a0, a1, a2, a3] 0 212)) (hrw : V.one r.rw = true) (hrc : V.one r.cl = true) :
    execD call n cgB [.p A 0, .p R 0, .sl Bl 0 K cl xl, .i .i64 (K : Nat), .i .i64 (i : Nat)] h = some (.ret (.tu [.ag [.s r.nm, .s r.ob, r.rw, r.cl], .i .i64 0, .i .i64 0]), g.put A (some (.c [.s r.nm, .s r.ob, r.rw, r.cl] 0 212))) := by
  have e : (i : Int) < K := by omega
  have hix := idx_of hi
  have h3 : (cs.drop (i * 3)).take 3 = [.i .i64 no, .b hd, v] := three_cells c0 c1 c2
  unfold lineH at hc
  unfold V.one at hv hrw hrc
  simp only [RD.cells, he, hat] at hr
  simp [cgB, execD, runB_op, runB_nil, stepB, guardA, o, semAll, AO.map, AO.cls, evX, tmE, pushE, semP, semN, semR, semE, binV, binI, binS, pickE, retsD, retV, e, hi, hix, cellsAt, hgl, hcl, h3, stAt, H.get_new, H.get_put, V.one, hv, hrw, hrc, layAt, hc, hr, hA]
end
end Go.Proofs.YtmbpjpffafidhaaGreatDoor
