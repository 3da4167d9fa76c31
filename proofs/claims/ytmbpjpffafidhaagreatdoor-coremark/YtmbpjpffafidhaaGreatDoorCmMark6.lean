/- CoreMark: the law's loops. -/
import Derived.Test.YtmbpjpffafidhaaGreatDoorCmMark5
namespace Go.Proofs.YtmbpjpffafidhaaGreatDoor
open Go Go.Ev
set_option maxRecDepth 100000
set_option linter.unusedSimpArgs false
variable {F : Nat → Option FN}
theorem argI_read {h : H} {v : V} {cells : List V} (a : ArgS h 1 v cells) {i : Nat} (hi : i < cells.length) : ∃ B cap, v = .sl B 0 cells.length cap 0 ∧ h.get B = some (.c cells 0 2) ∧ B < h.nx := by
  rcases a with ⟨_, h1⟩ | ⟨B, len, cap, h1, h2, h3, h4, h5⟩
  · rw [h1] at hi
    simp at hi
  · have e : len = cells.length := by omega
    subst e
    rcases h5 with h5 | h5
    · rw [h5] at hi
      simp at hi
    · exact ⟨B, cap, h1, h5, h4⟩
theorem argI_len {h : H} {v : V} {cells : List V} (a : ArgS h 1 v cells) : (v = .sn ∧ cells.length = 0) ∨ ∃ B cap, v = .sl B 0 cells.length cap 0 := by
  rcases a with ⟨h0, h1⟩ | ⟨B, len, cap, h1, h2, h3, h4, h5⟩
  · exact .inl ⟨h0, by rw [h1]; rfl⟩
  · have e : len = cells.length := by omega
    subst e
    exact .inr ⟨B, cap, h1⟩
theorem cm_loop (n d : Nat) (hnum : ∀ i : Nat, i < 12 → ∀ h, ∃ h', callD F n d 16 [.i .i64 (i : Int)] h = some (.s (decL i), h') ∧ Ext h h') (hA : H) {ksV : V} {zs : List Int} (ak : ArgS hA 1 ksV (zs.map fun z => .i .i64 z)) :
    ∀ (r i m : Nat) (its : List It) (want : V) (ig bad : Bool) (at_ : Int) (h : H), r = 12 - i → i = its.length → i ≤ 12 → r < m → CM hA.nx h its want ig bad at_ → hA.nx ≤ h.nx → (∀ j, j < hA.nx → h.get j = hA.get j) →
    ∃ its' want' ig' bad' at' h', loopD (execD (callD F n d) n cmB) m [ksV, .s (txt0 ++ txtI its 0), want, .b ig, .b bad, .i .i64 at_, .i .i64 (5 + (i : Int)), .i .i64 (i : Int)] h = some (.exit 0 [.s (txt0 ++ txtI its' 0), want', .b bad', .i .i64 at'], h') ∧ its'.length ≤ 12 ∧ CM hA.nx h' its' want' ig' bad' at' ∧ hA.nx ≤ h'.nx := by
  intro r
  induction r with
  | zero =>
    intro i m its want ig bad at_ h hr hi hi2 hm c hnx hfr
    obtain ⟨m, rfl⟩ : ∃ q, m = q + 1 := ⟨m - 1, by omega⟩
    refine ⟨its, want, ig, bad, at_, h, ?_, by omega, c, hnx⟩
    rw [loopD_one, cm_end (argI_len ak) (.inr (by omega))]
  | succ r ih =>
    intro i m its want ig bad at_ h hr hi hi2 hm c hnx hfr
    obtain ⟨m, rfl⟩ : ∃ q, m = q + 1 := ⟨m - 1, by omega⟩
    by_cases hiN : i < (zs.map fun z => V.i .i64 z).length
    · obtain ⟨B, cap, hk, hgB, hB⟩ := argI_read ak hiN
      have hgB' : h.get B = some (.c (zs.map fun z => V.i .i64 z) 0 2) := by rw [hfr B hB, hgB]
      have hi' : i < zs.length := by simpa using hiN
      have hcell : (zs.map fun z => V.i .i64 z)[i]? = some (.i .i64 zs[i]) := by simp [hi']
      have htl := txtI_len its 0 (by omega)
      have hS : (txt0 ++ txtI its 0).length < 1000 := by
        simp only [List.length_append]
        have e1 : txt0.length = 30 := rfl
        omega
      have e6 : (5 + (i : Int)) + 1 = ((6 + i : Nat) : Int) := by omega
      have e7 : ((6 + i : Nat) : Int) = 5 + ((i + 1 : Nat) : Int) := by omega
      have snoc : ∀ x, txt0 ++ txtI its 0 ++ (itemL x i ++ [10]) = txt0 ++ txtI (its ++ [x]) 0 := by
        intro x
        rw [txtI_snoc, hi, Nat.zero_add]
        simp
      rcases (mod4 zs[i]).2 with hz | hz | hz
      · have hb := cm_org (call := callD F n d) (n := n) (cap := cap) (S := txt0 ++ txtI its 0) (want := want) (ig := ig) (bad := bad) (at_ := at_) (line := 5 + (i : Int)) hiN (by omega) hgB' hcell hz hS rfl
        rw [snoc, e6] at hb
        have c2 := c.mark .org (.inl rfl)
        simp only [← hi] at c2
        obtain ⟨its', want', ig', bad', at', h', hl, r1, r2, r3⟩ := ih (i + 1) m (its ++ [.org]) want true (bad || ig) (if ig && !bad then ((6 + i : Nat) : Int) else at_) h (by omega) (by simp [hi]) (by omega) (by omega) c2 hnx hfr
        refine ⟨its', want', ig', bad', at', h', ?_, r1, r2, r3⟩
        rw [← e7] at hl
        rw [loopD_one, hk, hb]
        rw [hk] at hl
        exact hl
      · have hb := cm_fin (call := callD F n d) (n := n) (cap := cap) (S := txt0 ++ txtI its 0) (want := want) (ig := ig) (bad := bad) (at_ := at_) (line := 5 + (i : Int)) hiN (by omega) hgB' hcell hz hS rfl
        rw [snoc, e6] at hb
        have c2 := c.mark .fin (.inr rfl)
        simp only [← hi] at c2
        obtain ⟨its', want', ig', bad', at', h', hl, r1, r2, r3⟩ := ih (i + 1) m (its ++ [.fin]) want false (bad || !ig) (if !ig && !bad then ((6 + i : Nat) : Int) else at_) h (by omega) (by simp [hi]) (by omega) (by omega) c2 hnx hfr
        refine ⟨its', want', ig', bad', at', h', ?_, r1, r2, r3⟩
        rw [← e7] at hl
        rw [loopD_one, hk, hb]
        rw [hk] at hl
        exact hl
      · obtain ⟨h1, hn, x1⟩ := hnum i (by omega) h
        have hle := x1.le
        obtain ⟨ws0, bo0, an0, hl0, hbo0, hok0⟩ := c.row
        let g1 := h1.new (.c [.b ig] 0 0)
        have an1 : AN g1 want 1 (ws0.map V.b) bo0 := an0.frame (fun j hj hjl => by
          show (h1.new _).get j = _
          rw [H.get_new, if_neg (by omega), x1.get j hjl]) (by show h.nx ≤ h1.nx + 1; omega)
        obtain ⟨w', h3, B', happ, har, hB', hB'n, hnx3, hfr3⟩ := an1.app (tg := 20) (bytes := 1) (news := [.b ig]) (Bn := h1.nx) (by omega) (by omega) (by omega) (by omega) (by simp; omega) (by show (h1.new _).get h1.nx = _; rw [H.get_new, if_pos rfl]) rfl rfl
        have hnx3' : h1.nx + 1 ≤ h3.nx := hnx3
        have hb := cm_col (call := callD F n d) (n := n) (cap := cap) (S := txt0 ++ txtI its 0) (want := want) (ig := ig) (bad := bad) (at_ := at_) (line := 5 + (i : Int)) hiN (by omega) hgB' hcell hz hS rfl hn happ
        rw [snoc, e6] at hb
        have c2 : CM hA.nx h3 (its ++ [.col]) w' ig bad at_ := by
          refine CM.col hl0 hok0 c.err (bo' := some B') ⟨har, hB'n⟩ fun B hB => ?_
          injection hB with hB
          subst hB
          rcases hB' with ⟨e1, _⟩ | e1
          · exact hbo0 B' e1
          · have : B' = h1.nx + 1 := e1
            omega
        obtain ⟨its', want', ig', bad', at', h', hl, r1, r2, r3⟩ := ih (i + 1) m (its ++ [.col]) w' ig bad at_ h3 (by omega) (by simp [hi]) (by omega) (by omega) c2 (by omega) (fun j hj => by
          rw [hfr3 j (fun e => by have := hbo0 j e; omega) (by show j < h1.nx + 1; omega)]
          show (h1.new _).get j = _
          rw [H.get_new, if_neg (by omega), x1.get j (by omega), hfr j hj])
        refine ⟨its', want', ig', bad', at', h', ?_, r1, r2, r3⟩
        rw [← e7] at hl
        rw [loopD_one, hk, hb]
        rw [hk] at hl
        exact hl
    · refine ⟨its, want, ig, bad, at_, h, ?_, by omega, c, hnx⟩
      rw [loopD_one, cm_end (argI_len ak) (.inl (by omega))]
end Go.Proofs.YtmbpjpffafidhaaGreatDoor
