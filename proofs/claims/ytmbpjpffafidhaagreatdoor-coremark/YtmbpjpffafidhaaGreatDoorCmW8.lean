/- words.Get of any text. -/
import Derived.Test.YtmbpjpffafidhaaGreatDoorCmW7
namespace Go.Proofs.YtmbpjpffafidhaaGreatDoor
open Go Go.Ev
set_option maxRecDepth 100000
set_option linter.unusedSimpArgs false
variable {F : Nat → Option FN}
theorem cut_any (k : WK F) (T : List Nat) (hT : T ≠ []) (hl : T.length < 80000) (n d : Nat) : ∃ s rest fl, (∀ h, callD F n (d + 4) 40 [.s T, .s [10]] h = some (.tu [.s s, .s rest, .b fl], h)) ∧ linesL T = s :: linesL rest ∧ s.length ≤ T.length ∧ rest.length < T.length := by
  rcases split10 T with h1 | ⟨a, r, h1, rfl⟩
  · refine ⟨T, [], false, fun h => cut_no k T h1 h n d, by rw [lines_one T h1 hT]; rfl, Nat.le_refl _, ?_⟩
    cases T with
    | nil => exact absurd rfl hT
    | cons => simp
  · exact ⟨a, r, true, fun h => cut_yes k a r h1 (by omega) h n d, lines_cut a r h1, by simp, by simp; omega⟩
theorem lines_ne : ∀ T : List Nat, T ≠ [] → linesL T ≠ []
  | [], h => absurd rfl h
  | c :: r, _ => by
    unfold linesL
    by_cases h1 : c = 10
    · rw [if_pos h1]
      simp
    · rw [if_neg h1]
      split <;> simp
/-- Words that lie as they were cut. -/
def Row.exact (r : Row) : Prop := r.v = .sl r.w 0 r.ws.length r.ws.length 0
/-- What a run of words.Get's loop comes to. -/
def GotP (xs : List Row) (m0 : Nat) (h' : H) (ex : EX) : Except (Nat × Int) (List (Nat × Bool × List (List Nat))) → Prop
  | .error (a, e) => ex = .ret (.tu [.sn, .i .i64 (a : Int), .i .i64 e])
  | .ok ys => ∃ v' bo xs', ex = .exit 0 [v'] ∧ AN h' v' 3 (rowsC (xs ++ xs')) bo ∧ RowsAt h' bo m0 (xs ++ xs') ∧ xs'.map Row.line = ys ∧ (∀ B, bo = some B → m0 ≤ B) ∧ ∀ x ∈ xs', x.exact
theorem get_loop (k : WK F) (n d m0 : Nat) (hn : 1000 < n) : ∀ (ls : List (List Nat)) (T : List Nat) (m no : Nat) (v : V) (bo : Option Nat) (h : H) (xs : List Row),
    linesL T = ls → T.length < 80000 → ls.length < m → AN h v 3 (rowsC xs) bo → RowsAt h bo m0 xs → (∀ B, bo = some B → m0 ≤ B) → m0 ≤ h.nx → xs.length + ls.length < 100000 →
    ∃ ex h', loopD (execD (callD F n (d + 4)) n gtB) m [.s T, v, .i .i64 (no : Int)] h = some (ex, h') ∧ h.nx ≤ h'.nx ∧ (∀ j, j < m0 → h'.get j = h.get j) ∧ GotP xs m0 h' ex (getP ls no)
  | [], T, m, no, v, bo, h, xs, hls, hT, hm, han, hrows, hbo, hm0, hlen => by
    obtain ⟨m, rfl⟩ : ∃ q, m = q + 1 := ⟨m - 1, by simp at hm; omega⟩
    have hT0 : T = [] := Classical.byContradiction fun e => lines_ne T e hls
    subst hT0
    refine ⟨.exit 0 [v], h, ?_, Nat.le_refl _, fun _ _ => rfl, ⟨v, bo, [], rfl, by simpa using han, by simpa using hrows, rfl, hbo, by simp⟩⟩
    rw [loopD_one, gt_end]
  | s0 :: ls, T, m, no, v, bo, h, xs, hls, hTl, hm, han, hrows, hbo, hm0, hlen => by
    obtain ⟨m, rfl⟩ : ∃ q, m = q + 1 := ⟨m - 1, by simp at hm; omega⟩
    have hT : T ≠ [] := fun e => by rw [e] at hls; simp [linesL] at hls
    obtain ⟨s, rest, fl, hcut, hlines, hsl, hrl⟩ := cut_any k T hT hTl n d
    rw [hls] at hlines
    injection hlines with e1 e2
    subst e1
    have hm' : ls.length < m := by simp at hm; omega
    have hlen' : xs.length + ls.length + 1 < 100000 := by simp at hlen; omega
    rw [loopD_one]
    by_cases hno : 2500 < no
    · refine ⟨_, h, by rw [gt_limit hT (hcut h) hno], Nat.le_refl _, fun _ _ => rfl, ?_⟩
      simp only [getP, if_pos hno]
      rfl
    · obtain ⟨h1, hlook, hx1⟩ := look_run k s0 (by omega) h n d hn
      by_cases hle : lookE s0 = 0
      · rw [hle] at hlook
        obtain ⟨hs200, hs128⟩ := look_ok hle
        obtain ⟨h2, Bw, hff, hgw, hBw, hBw2, hx2⟩ := ff_run k s0 (by omega) hs128 h1 n (d + 2) (by omega)
        have hx12 : Ext h h2 := hx1.trans hx2
        have han2 : AN h2 v 3 (rowsC xs) bo := han.frame (fun B _ hB => hx12.get B hB) hx12.le
        have hrows2 : RowsAt h2 bo m0 xs := hrows.ext hx12.le fun j _ hj => hx12.get j hj
        have hfr2 : ∀ j, j < m0 → h2.get j = h.get j := fun j hj => hx12.get j (by omega)
        have hle12 := hx12.le
        have skip (hsk : skipB s0 = true) (hb : execD (callD F n (d + 4)) n gtB [.s T, v, .i .i64 (no : Int)] h = some (.nrm [.s rest, v, .i .i64 ((no + 1 : Nat) : Int)], h2)) :
            ∃ ex h', (match execD (callD F n (d + 4)) n gtB [.s T, v, .i .i64 (no : Int)] h with | some (.nrm e, h') => loopD (execD (callD F n (d + 4)) n gtB) m e h' | r => r) = some (ex, h') ∧ h.nx ≤ h'.nx ∧ (∀ j, j < m0 → h'.get j = h.get j) ∧ GotP xs m0 h' ex (getP (s0 :: ls) no) := by
          obtain ⟨ex, h', hr, hnx, hfr, hp⟩ := get_loop k n d m0 hn ls rest m (no + 1) v bo h2 xs e2.symm (by omega) hm' han2 hrows2 hbo (by omega) (by omega)
          refine ⟨ex, h', by rw [hb]; exact hr, by omega, fun j hj => by rw [hfr j hj, hfr2 j hj], ?_⟩
          have hg : getP (s0 :: ls) no = getP ls (no + 1) := by
            simp only [getP, if_neg hno, hle, ne_eq, not_true_eq_false, if_false, hsk, if_true]
            cases getP ls (no + 1) <;> rfl
          rw [hg]
          exact hp
        by_cases hf0 : fieldsL s0 = []
        · rw [hf0] at hff
          exact skip (by simp [skipB, hf0]) (gt_none hT (hcut h) (by omega) hlook hff)
        · have hN : (fieldsL s0).length ≠ 0 := fun e => hf0 (List.length_eq_zero_iff.1 e)
          by_cases h42 : s0.head? = some 42
          · exact skip (by simp [skipB, h42]) (gt_comment hT (hcut h) (by omega) hlook hff hN h42)
          · have hs0 : s0 ≠ [] := fun e => hf0 (by rw [e]; rfl)
            let row : Row := ⟨no, headB s0, fieldsL s0, .sl Bw 0 (fieldsL s0).length (fieldsL s0).length 0, Bw⟩
            let news : List V := [.i .i64 (no : Int), .b (headB s0), .sl Bw 0 (fieldsL s0).length (fieldsL s0).length 0]
            let h2' := h2.new (.c news 0 0)
            have hfr2' : ∀ j, j < h2.nx → h2'.get j = h2.get j := fun j hj => by
              show (h2.new _).get j = _
              rw [H.get_new, if_neg (by omega)]
            have han2' : AN h2' v 3 (rowsC xs) bo := han2.frame (fun B _ hB => hfr2' B hB) (by show h2.nx ≤ h2.nx + 1; omega)
            obtain ⟨v', h3, B', happ, har3, hB', hB'n, hnx3, hfr3⟩ := han2'.app (tg := 136) (bytes := 40) (news := news) (Bn := h2.nx) (by omega) (by omega) (by omega) (by omega) (by rw [rowsC_len]; omega)
              (by show (h2.new _).get h2.nx = _; rw [H.get_new, if_pos rfl]) rfl rfl
            have hnx3' : h2.nx + 1 ≤ h3.nx := hnx3
            have hbw : bo ≠ some Bw := by
              intro e
              rw [e] at han
              have := han.2
              have := hx1.le
              omega
            have hgw3 : h3.get Bw = some (.c ((fieldsL s0).map .s) 0 0) := by
              rw [hfr3 Bw hbw (by show Bw < h2.nx + 1; omega), hfr2' Bw hBw2, hgw]
            have hrows3 : RowsAt h3 (some B') m0 (xs ++ [row]) := by
              intro x hx
              rw [List.mem_append] at hx
              have hne : ∀ w, w < h2.nx → bo ≠ some w → some B' ≠ some w := by
                intro w hw hb e
                injection e with e
                rcases hB' with ⟨e1, _⟩ | e1
                · rw [e] at e1
                  exact hb e1
                · have : B' = h2.nx + 1 := e1
                  omega
              rcases hx with hx | hx
              · obtain ⟨⟨cap, xf, cs, fz, q, k1, k2, k3⟩, k4, k5, k6⟩ := hrows2 x hx
                exact ⟨⟨cap, xf, cs, fz, q, k1, by rw [hfr3 x.w k5 (by show x.w < h2.nx + 1; omega), hfr2' x.w k4, k2], k3⟩, by omega, hne x.w k4 k5, k6⟩
              · simp only [List.mem_singleton] at hx
                subst hx
                have hle1 := hx1.le
                refine ⟨⟨(fieldsL s0).length, 0, (fieldsL s0).map .s, 0, 0, rfl, hgw3, by show List.take (fieldsL s0).length _ = _; rw [List.take_of_length_le (by simp)]⟩, by show Bw < h3.nx; omega, hne Bw hBw2 hbw, by show m0 ≤ Bw; omega⟩
            have hrc : rowsC xs ++ news = rowsC (xs ++ [row]) := by
              rw [rowsC_app]
              rfl
            rw [hrc] at har3
            have hb := gt_line (n := n) (v := v) hT (hcut h) (by omega) hlook hff hN hs0 h42 happ
            have hmB' : ∀ B, some B' = some B → m0 ≤ B := by
              intro B e
              injection e with e
              subst e
              rcases hB' with ⟨e1, _⟩ | e1
              · exact hbo B' e1
              · have : B' = h2.nx + 1 := e1
                omega
            obtain ⟨ex, h', hr, hnx, hfr, hp⟩ := get_loop k n d m0 hn ls rest m (no + 1) v' (some B') h3 (xs ++ [row]) e2.symm (by omega) hm' ⟨har3, hB'n⟩ hrows3 hmB' (by omega) (by simp; omega)
            refine ⟨ex, h', by rw [hb]; exact hr, by omega, fun j hj => ?_, ?_⟩
            · rw [hfr j hj, hfr3 j (fun e => by have := hbo j e; omega) (by show j < h2.nx + 1; omega), hfr2' j (by omega), hfr2 j hj]
            · have hskf : skipB s0 = false := by simp [skipB, hf0, h42]
              have hg : getP (s0 :: ls) no = (match getP ls (no + 1) with | .error e => .error e | .ok ys => .ok (row.line :: ys)) := by
                simp only [getP, if_neg hno, hle, ne_eq, not_true_eq_false, if_false, hskf, Bool.false_eq_true]
                rfl
              rw [hg]
              cases hgp : getP ls (no + 1) with
              | error e =>
                rw [hgp] at hp
                exact hp
              | ok ys =>
                rw [hgp] at hp
                obtain ⟨v2, bo2, xs', p1, p2, p3, p4, p5, p6⟩ := hp
                exact ⟨v2, bo2, row :: xs', p1, by simpa using p2, by simpa using p3, by rw [List.map_cons, p4], p5, fun x hx => by
                  rcases List.mem_cons.1 hx with rfl | hx
                  · rfl
                  · exact p6 x hx⟩
      · refine ⟨_, h1, by rw [gt_bad hT (hcut h) (by omega) hle hlook], hx1.le, fun j hj => hx1.get j (by omega), ?_⟩
        simp only [getP, if_neg hno, ne_eq, hle, not_false_eq_true, if_true]
        rfl
end Go.Proofs.YtmbpjpffafidhaaGreatDoor
