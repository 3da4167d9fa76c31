/- The reference's Get: its answer. Reading rows. -/
import Derived.Test.YtmbpjpffafidhaaGreatDoorWaW15
namespace Go.Proofs.YtmbpjpffafidhaaGreatDoor
open Go Go.Ev
set_option maxRecDepth 100000
set_option linter.unusedSimpArgs false
variable {F : Nat → Option FN}
theorem rg_end_nil {call : CallF} {n : Nat} {out : V} {i : Int} {h : H} (hi : 0 ≤ i) : execD call n rgB [out, .sn, .i .i64 i] h = some (.exit 0 [out], h) := by
  have e1 : ¬ i < 0 := by omega
  simp [rgB, execD, runB_op, runB_nil, stepB, guardA, o, semAll, AO.map, AO.cls, evX, tmE, pushE, semP, semN, semR, semE, binV, binI, binS, pickE, retsD, retV, e1, hi]
theorem RowsAt.weak {h : H} {bo : Option Nat} {m m' : Nat} {xs : List Row} (a : RowsAt h bo m xs) (hm : m' ≤ m) : RowsAt h bo m' xs := by
  intro x hx
  obtain ⟨h1, h2, h3, h4⟩ := a x hx
  exact ⟨h1, h2, h3, by omega⟩
theorem rget_run (k : WK2 F) (T : List Nat) (hT : T.length < 80000) (h : H) (n d : Nat) (hn : 1000 < n) (hn2 : T.length + 1 < n) :
    ∃ v h', callD F n (d + 2) 13 [.s T] h = some (v, h') ∧ Ext h h' ∧ GetRes h.nx h' v (getP (linesL T) 1) := by
  have hll := lines_len T
  obtain ⟨va, ba, h1, hlines, hx1, han, hba⟩ := rlines_run k T hT h n d (by omega)
  have hle1 := hx1.le
  have main : ∃ ex h', loopD (execD (callD F n (d + 1)) n rgB) n [.sn, va, .i .i64 0] h1 = some (ex, h') ∧ h1.nx ≤ h'.nx ∧ (∀ j, j < h1.nx → h'.get j = h1.get j) ∧ GotP [] h1.nx h' ex (refP (linesL T) 0) := by
    cases ba with
    | none =>
      obtain ⟨rfl, hl⟩ := han
      have hl0 : linesL T = [] := by simpa [strs] using hl
      rw [hl0]
      obtain ⟨n, rfl⟩ : ∃ q, n = q + 1 := ⟨n - 1, by omega⟩
      refine ⟨.exit 0 [.sn], h1, ?_, Nat.le_refl _, fun _ _ => rfl, ⟨.sn, none, [], rfl, ⟨rfl, rfl⟩, by intro x hx; simp at hx, rfl, by simp⟩⟩
      rw [loopD_one, rg_end_nil (by omega)]
    | some Ba =>
      obtain ⟨ar, hBa⟩ := han
      obtain ⟨len, cap, xf, cs, q, rfl, hg, _, _, hlc, hcs, htk, hcl⟩ := ar.ex
      have hlen : len = (linesL T).length := by
        simp [strs] at hcl
        omega
      rw [Nat.mul_one] at htk
      obtain ⟨ex, h', hr, q1, q2, q3⟩ := rg_loop (callD F n (d + 1)) n h1.nx hn (linesL T) Ba len cap xf q cs hlen htk hBa (by omega) (linesL T) [] n 0 .sn none h1 [] rfl rfl (by omega) ⟨rfl, rfl⟩ (by intro x hx; simp at hx) (by simp) (Nat.le_refl _) hg (by simp; omega)
      exact ⟨ex, h', hr, q1, q2, q3⟩
  obtain ⟨ex, h', hr, hnx, hfr, hp⟩ := main
  rw [get_ref] at hp
  have hext : Ext h h' := ⟨by omega, fun j hj => by rw [hfr j (by omega), hx1.get j hj]⟩
  cases hg : getP (linesL T) (0 + 1) with
  | error e =>
    rw [hg] at hp
    obtain ⟨a, e⟩ := e
    have hp' : ex = .ret (.tu [.sn, .i .i64 (a : Int), .i .i64 e]) := hp
    subst hp'
    refine ⟨.tu [.sn, .i .i64 (a : Int), .i .i64 e], h', ?_, hext, ?_⟩
    · refine callD_code k.rget rfl ?_
      simp [c_rget, execD, runB_op, runB_nil, stepB, guardA, o, semAll, AO.map, AO.cls, evX, tmE, pushE, semP, semN, semR, semE, binV, binI, binS, pickE, retsD, retV, hlines, hr]
    · rfl
  | ok ys =>
    rw [hg] at hp
    obtain ⟨v', bo, xs', p1, p2, p3, p4, p5⟩ := hp
    subst p1
    refine ⟨.tu [v', .i .i64 0, .i .i64 0], h', ?_, hext, ?_⟩
    · refine callD_code k.rget rfl ?_
      simp [c_rget, execD, runB_op, runB_nil, stepB, guardA, o, semAll, AO.map, AO.cls, evX, tmE, pushE, semP, semN, semR, semE, binV, binI, binS, pickE, retsD, retV, hlines, hr]
    · exact ⟨v', bo, xs', rfl, p2, (RowsAt.weak p3 hle1), p4, fun B e => by have := p5 B e; omega⟩
/-- What is read of rows. -/
theorem rows_read {h : H} {v : V} {xs : List Row} {B : Nat} (ar : AR h v 3 (rowsC xs) B) : ∃ cap xf cs q, v = .sl B 0 xs.length cap xf ∧ h.get B = some (.c cs 0 q) ∧
    ∀ pre r post, xs = pre ++ r :: post → cs[pre.length * 3]? = some (.i .i64 (r.no : Int)) ∧ cs[pre.length * 3 + 1]? = some (.b r.hd) ∧ cs[pre.length * 3 + 2]? = some r.v := by
  obtain ⟨len, cap, xf, cs, q, rfl, hg, _, _, hlc, hcs, htk, hcl⟩ := ar.ex
  rw [rowsC_len] at hcl
  have hlen : len = xs.length := by omega
  subst hlen
  refine ⟨cap, xf, cs, q, rfl, hg, fun pre r post hx => ?_⟩
  obtain ⟨tl, hc⟩ : ∃ tl, cs = rowsC xs ++ tl := ⟨cs.drop (xs.length * 3), by rw [← htk, List.take_append_drop]⟩
  rw [hx, rowsC_app] at hc
  simp only [rowsC, List.append_assoc, List.cons_append] at hc
  have hp := rowsC_len pre
  rw [hc, ← hp]
  refine ⟨?_, ?_, ?_⟩
  · simp
  · rw [List.getElem?_append_right (by omega)]
    simp
  · rw [List.getElem?_append_right (by omega)]
    simp
end Go.Proofs.YtmbpjpffafidhaaGreatDoor
