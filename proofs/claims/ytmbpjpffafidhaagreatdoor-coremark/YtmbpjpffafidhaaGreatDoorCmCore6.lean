/- core.Get's reader: what is put into a row. -/
import Derived.Test.YtmbpjpffafidhaaGreatDoorCmCore5
namespace Go.Proofs.YtmbpjpffafidhaaGreatDoor
open Go Go.Ev
set_option maxRecDepth 100000
set_option linter.unusedSimpArgs false
variable {F : Nat → Option FN}
theorem st_at {B w0 : Nat} {x : V} {h : H} : semE (.st (.p B w0) x) h = (stAt h B w0 [x]).map (.tu [], ·) := rfl
/-- A coefficient is put into the first row. -/
theorem put_run (k : WKC F) (u : NumI F) {h : H} {R q : Nat} {r : RD} (a : RdAt h R q r) {Bc nc capc xc : Nat} (hcl : r.cl = .sl Bc 0 (nc + 1) capc xc) (hnc : nc < 1000) {Br : Nat} (hrw : r.rw = .sl Br 0 1 1 5) {t : List Nat} {kd : Int} {cv rh rg : V}
    (hrow : h.get Br = some (.c [.s t, .i .i64 kd, cv, rh, rg] 0 188)) (hBr : Br < h.nx) {cells : List V} {bo : Option Nat} (an : AN h cv 2 cells bo) (hce : cells.length < 1000) {B1 : Nat} (hB1 : h.get B1 = some (.c [.p R 0] 0 572)) (hB1l : B1 < h.nx)
    {m B : Nat} (one : OneAt m h B) (d1 : bo ≠ some R) (d2 : bo ≠ some Br) (d3 : bo ≠ some B1) (d4 : R ≠ Br) (d5 : B1 ≠ Br) (n d : Nat) :
    ∃ h' cv' bo', callD F n (d + 2) 188 [.i .i64 0, .p B 0, .p B1 0] h = some (.tu [], h') ∧ h.nx ≤ h'.nx ∧ (∀ j, j < h.nx → j ≠ Br → bo ≠ some j → h'.get j = h.get j) ∧
      h'.get Br = some (.c [.s t, .i .i64 kd, cv', rh, rg] 0 188) ∧ AN h' cv' 2 (cells ++ [.i .i64 (nc : Int), .s [49]]) bo' ∧ (∀ j, bo' = some j → j < h.nx → bo = some j) := by
  obtain ⟨g1, c1, x1⟩ := u.sign h n d m B one
  have one1 : OneAt m g1 B := one.keep x1.le fun j _ hj => x1.get j hj
  obtain ⟨g2, c2, x2⟩ := u.text g1 n d m B one1
  have x12 := x1.trans x2
  have hr := a.get
  have hr1 : g1.get R = some (.c r.cells 0 q) := by rw [x1.get R a.lt, hr]
  have hr2 : g2.get R = some (.c r.cells 0 q) := by rw [x12.get R a.lt, hr]
  have hb1 : g1.get B1 = some (.c [.p R 0] 0 572) := by rw [x1.get B1 hB1l, hB1]
  have hb2 : g2.get B1 = some (.c [.p R 0] 0 572) := by rw [x12.get B1 hB1l, hB1]
  have hw1 : g1.get Br = some (.c [.s t, .i .i64 kd, cv, rh, rg] 0 188) := by rw [x1.get Br hBr, hrow]
  have hw2 : g2.get Br = some (.c [.s t, .i .i64 kd, cv, rh, rg] 0 188) := by rw [x12.get Br hBr, hrow]
  have hle := x12.le
  let news : List V := [.i .i64 (nc : Int), .s [49]]
  let g3 := g2.new (.c news 0 0)
  have an3 : AN g3 cv 2 cells bo := by
    refine an.frame (fun j _ hj => ?_) (by show h.nx ≤ g2.nx + 1; omega)
    show (g2.new _).get j = _
    rw [H.get_new, if_neg (by omega), x12.get j hj]
  obtain ⟨cv', g4, B', happ, har, hB', hB'n, hnx4, hfr4⟩ := an3.app (tg := 172) (bytes := 24) (news := news) (Bn := g2.nx) (by omega) (by omega) (by omega) (by omega) (by omega) (by show (g2.new _).get g2.nx = _; rw [H.get_new, if_pos rfl]) rfl rfl
  have hnx4' : g2.nx + 1 ≤ g4.nx := hnx4
  have old4 : ∀ j, j < h.nx → bo ≠ some j → g4.get j = h.get j := by
    intro j hj hb
    rw [hfr4 j hb (by show j < g2.nx + 1; omega)]
    show (g2.new _).get j = _
    rw [H.get_new, if_neg (by omega), x12.get j hj]
  have hRl := a.lt
  have hr4 : g4.get R = some (.c r.cells 0 q) := by rw [old4 R hRl d1, hr]
  have hb4 : g4.get B1 = some (.c [.p R 0] 0 572) := by rw [old4 B1 hB1l d3, hB1]
  have hw4 : g4.get Br = some (.c [.s t, .i .i64 kd, cv, rh, rg] 0 188) := by rw [old4 Br hBr d2, hrow]
  let g5 := g4.put Br (some (.c [.s t, .i .i64 kd, cv', rh, rg] 0 188))
  have hBB : B' ≠ Br := by
    intro e
    rcases hB' with ⟨e1, _⟩ | e1
    · rw [e] at e1
      exact d2 e1
    · have : B' = g2.nx + 1 := e1
      omega
  refine ⟨g5, cv', some B', ?_, ?_, fun j hj hjr hb => ?_, by show (g4.put Br _).get Br = _; rw [H.get_put, if_pos rfl], ⟨har.frame ?_, hB'n⟩, fun j hj hjl => ?_⟩
  · refine callD_code k.put rfl ?_
    have e1 : idx 0 1 = some 0 := by decide
    have hw : IntKind.i64.wrap ((nc : Int) + 1 - 1) = (nc : Int) := by
      have : (nc : Int) + 1 - 1 = (nc : Int) := by omega
      rw [this]
      exact wrap_mid (by omega) (by omega)
    have hw' : IntKind.i64.wrap (nc : Int) = (nc : Int) := wrap_mid (by omega) (by omega)
    have q1 : ¬ 2 ≤ 188 % 4 := by omega
    simp only [RD.cells, hcl, hrw] at hr hr1 hr2 hr4
    have hone : V.one cv' = true := by
      obtain ⟨_, _, _, _, _, e, _⟩ := har.ex
      rw [e]
      rfl
    unfold V.one at hone
    simp only [g3, news] at happ
    simp [hone, c188, h188, execD, runB_op, runB_nil, runB, chkA, beqV, beqV_refl, AO.map, AO.cls, stepB, guardA, o, app_call, st_at, semAll, evX, tmE, pushE, semP, semN, semR, binV, binI, binS, pickE, retsD, retV, hB1, hr, hw, hw', c1, hb1, hr1, e1, hw1, c2, hb2, hr2, hw2, V.cells, fillV, layAt, V.one, rept_n1, rept, happ, hb4, hr4, stAt, hw4, g5]
  · show h.nx ≤ g4.nx
    omega
  · show (g4.put Br _).get j = _
    rw [H.get_put, if_neg hjr, old4 j hj hb]
  · show (g4.put Br _).get B' = _
    rw [H.get_put, if_neg hBB]
  · injection hj with hj
    rcases hB' with ⟨e1, _⟩ | e1
    · rw [← hj]
      exact e1
    · have : B' = g2.nx + 1 := e1
      omega
end Go.Proofs.YtmbpjpffafidhaaGreatDoor
