/- WordsBlank: the first loop, all rounds. -/
import Derived.Test.YtmbpjpffafidhaaGreatDoorWbBlank2
namespace Go.Proofs.YtmbpjpffafidhaaGreatDoor
open Go Go.Ev
set_option maxRecDepth 100000
set_option linter.unusedSimpArgs false
variable {F : Nat → Option FN}
theorem idx_at {i N : Nat} (h : i < N) : idx (i : Int) N = some i := by
  unfold idx
  rw [if_pos (by omega)]
  rfl
theorem argS_read {h : H} {v : V} {cells : List V} (a : ArgS h 1 v cells) {i : Nat} (hi : i < cells.length) : ∃ B cap, v = .sl B 0 cells.length cap 0 ∧ h.get B = some (.c cells 0 2) ∧ B < h.nx := by
  rcases a with ⟨_, h1⟩ | ⟨B, len, cap, h1, h2, h3, h4, h5⟩
  · rw [h1] at hi
    simp at hi
  · have e : len = cells.length := by omega
    subst e
    rcases h5 with h5 | h5
    · rw [h5] at hi
      simp at hi
    · exact ⟨B, cap, h1, h5, h4⟩
theorem argS_len {h : H} {v : V} {cells : List V} (a : ArgS h 1 v cells) : (v = .sn ∧ cells.length = 0) ∨ ∃ B cap, v = .sl B 0 cells.length cap 0 := by
  rcases a with ⟨h0, h1⟩ | ⟨B, len, cap, h1, h2, h3, h4, h5⟩
  · exact .inl ⟨h0, by rw [h1]; rfl⟩
  · have e : len = cells.length := by omega
    subst e
    exact .inr ⟨B, cap, h1⟩
section
variable {call : CallF} {n : Nat} {ks want : V} {S l w : List Nat} {i N B cap : Nat} {h h1 h3 : H} {cells : List V}
theorem wb_end {ws : V} (hw : (ws = .sn ∧ N = 0) ∨ ∃ B cap, ws = .sl B 0 N cap 0) (hi : N ≤ i ∨ 12 ≤ i) : execD call n wbB [ws, ks, want, .s S, .i .i64 (i : Int)] h = some (.exit 0 [want, .s S], h) := by
  rcases hw with ⟨rfl, rfl⟩ | ⟨B, cap, rfl⟩
  · have e : ¬ (i : Int) < 0 := by omega
    simp [wbB, execD, runB_op, runB_nil, stepB, guardA, o, semAll, AO.map, AO.cls, evX, tmE, pushE, semP, semN, semR, semE, binV, binI, binS, pickE, retsD, retV, e]
  · by_cases hN : N ≤ i
    · have e : ¬ (i : Int) < N := by omega
      simp [wbB, execD, runB_op, runB_nil, stepB, guardA, o, semAll, AO.map, AO.cls, evX, tmE, pushE, semP, semN, semR, semE, binV, binI, binS, pickE, retsD, retV, e]
    · have e : (i : Int) < N := by omega
      have e2 : ¬ (i : Int) < 12 := by omega
      simp [wbB, execD, runB_op, runB_nil, stepB, guardA, o, semAll, AO.map, AO.cls, evX, tmE, pushE, semP, semN, semR, semE, binV, binI, binS, pickE, retsD, retV, e, e2]
theorem wb_skip (hi : i < N) (hi2 : i < 12) (hg : h.get B = some (.c cells 0 2)) (hc : cells[i]? = some (.s l)) (ht : call 11 [.s l, .i .i64 20] h = some (.s w, h)) (hn : call 14 [.s w] h = some (.b false, h1)) :
    execD call n wbB [.sl B 0 N cap 0, ks, want, .s S, .i .i64 (i : Int)] h = some (.nrm [.sl B 0 N cap 0, ks, want, .s S, .i .i64 ((i + 1 : Nat) : Int)], h1) := by
  have e : (i : Int) < N := by omega
  have e2 : (i : Int) < 12 := by omega
  have hw : IntKind.i64.wrap ((i : Int) + 1) = (i : Int) + 1 := wrap_mid (by omega) (by omega)
  have hx := idx_at hi
  simp [wbB, execD, runB_op, runB_nil, stepB, guardA, o, semAll, AO.map, AO.cls, evX, tmE, pushE, semP, semN, semR, semE, binV, binI, binS, pickE, retsD, retV, e, e2, hx, hg, hc, ht, hn, unV, hw]
theorem wb_line (hi : i < N) (hi2 : i < 12) (hg : h.get B = some (.c cells 0 2)) (hc : cells[i]? = some (.s l)) (ht : call 11 [.s l, .i .i64 20] h = some (.s w, h)) (hn : call 14 [.s w] h = some (.b true, h1))
    {K Nk : Nat} {kcells : List V} (hk : ((ks = .sn ∧ Nk = 0) ∨ ∃ B cap, ks = .sl B 0 Nk cap 0) ∧ (Nk ≤ i ∧ K = 0 ∨ i < Nk ∧ ∃ Bk capk z, ks = .sl Bk 0 Nk capk 0 ∧ h1.get Bk = some (.c kcells 0 2) ∧ kcells[i]? = some (.i .i64 z) ∧ bitsI .i64 .and z 15 = some (.i .i64 (K : Int))))
    {v' a b : V} {S' : List Nat} (hx : execD call n wbK [.sl B 0 N cap 0, ks, want, .s S, .i .i64 (i : Int), .s w, .i .i64 (K : Int)] h1 = some (.nrm [v', a, b, .sl B 0 N cap 0, ks, want, .s S', .i .i64 (i : Int), .s w], h3)) :
    execD call n wbB [.sl B 0 N cap 0, ks, want, .s S, .i .i64 (i : Int)] h = some (.nrm [.sl B 0 N cap 0, ks, v', .s S', .i .i64 ((i + 1 : Nat) : Int)], h3) := by
  have e : (i : Int) < N := by omega
  have e2 : (i : Int) < 12 := by omega
  have hw : IntKind.i64.wrap ((i : Int) + 1) = (i : Int) + 1 := wrap_mid (by omega) (by omega)
  have hix := idx_at hi
  rcases hk with ⟨hk0, ⟨hk1, rfl⟩ | ⟨hk1, Bk, capk, z, rfl, k2, k3, k4⟩⟩
  · have e0 : ((0 : Nat) : Int) = 0 := rfl
    rw [e0] at hx
    rcases hk0 with ⟨rfl, rfl⟩ | ⟨Bk, capk, rfl⟩
    · have e3 : ¬ (i : Int) < 0 := by omega
      simp [wbB, execD, runB_op, runB_nil, stepB, guardA, o, semAll, AO.map, AO.cls, evX, tmE, pushE, semP, semN, semR, semE, binV, binI, binS, pickE, retsD, retV, e, e2, hix, hg, hc, ht, hn, unV, hw, e3, hx]
    · have e3 : ¬ (i : Int) < Nk := by omega
      simp [wbB, execD, runB_op, runB_nil, stepB, guardA, o, semAll, AO.map, AO.cls, evX, tmE, pushE, semP, semN, semR, semE, binV, binI, binS, pickE, retsD, retV, e, e2, hix, hg, hc, ht, hn, unV, hw, e3, hx]
  · have e3 : (i : Int) < Nk := by omega
    have hix2 := idx_at hk1
    simp [wbB, execD, runB_op, runB_nil, stepB, guardA, o, semAll, AO.map, AO.cls, evX, tmE, pushE, semP, semN, semR, semE, binV, binI, pickE, retsD, retV, e, e2, hix, hg, hc, ht, hn, unV, hw, e3, hix2, k2, k3, k4, hx]
end
/-- The words that are wanted, each with its row's block. -/
def cellsW (xs : List (List Nat × Nat)) : List V := xs.map fun x => .sl x.2 0 2 2 0
def WantAt (h : H) (bo : Option Nat) (m0 : Nat) (xs : List (List Nat × Nat)) : Prop := ∀ x ∈ xs, h.get x.2 = some (.c [.s x.1, .s [120]] 0 0) ∧ x.2 < h.nx ∧ bo ≠ some x.2 ∧ m0 ≤ x.2
theorem WantAt.ext {h h' : H} {bo : Option Nat} {m0 : Nat} {xs : List (List Nat × Nat)} (a : WantAt h bo m0 xs) (hn : h.nx ≤ h'.nx) (hg : ∀ j, bo ≠ some j → j < h.nx → h'.get j = h.get j) : WantAt h' bo m0 xs := by
  intro x hx
  obtain ⟨h1, h2, h3, h4⟩ := a x hx
  exact ⟨by rw [hg _ h3 h2, h1], by omega, h3, h4⟩
theorem blankH_get (h : H) (w : List Nat) : (blankH h w).nx = h.nx + 5 ∧ (∀ j, j < h.nx → (blankH h w).get j = h.get j) ∧ (blankH h w).get (h.nx + 3) = some (.c [.s w, .s [120]] 0 0) ∧ (blankH h w).get (h.nx + 4) = some (.c [.sl (h.nx + 3) 0 2 2 0] 0 0) := by
  refine ⟨rfl, fun j hj => ?_, ?_, ?_⟩
  · unfold blankH
    simp only [H.get_new, H.nx_new]
    rw [if_neg (by omega), if_neg (by omega), if_neg (by omega), if_neg (by omega), if_neg (by omega)]
  · simp [blankH, H.get_new]
  · simp [blankH, H.get_new]
theorem wb_loop (k : WKN F) (n d : Nat) (hn : 100000 < n) (hA : H) {wsV ksV : V} {ss : List (List Nat)} {zs : List Int} (aw : ArgS hA 1 wsV (ss.map .s)) (ak : ArgS hA 1 ksV (zs.map fun z => .i .i64 z)) :
    ∀ (r i m : Nat) (S : List Nat) (L : List (List Nat)) (want : V) (bo : Option Nat) (h : H) (xs : List (List Nat × Nat)), r = 12 - i → i ≤ 12 → r < m → Good S L (xs.map (·.1)) i → AN h want 1 (cellsW xs) bo → WantAt h bo hA.nx xs → (∀ B, bo = some B → hA.nx ≤ B) → hA.nx ≤ h.nx → (∀ j, j < hA.nx → h.get j = hA.get j) →
    ∃ want' bo' S' L' h' xs', loopD (execD (callD F n (d + 5)) n wbB) m [wsV, ksV, want, .s S, .i .i64 (i : Int)] h = some (.exit 0 [want', .s S'], h') ∧ Good S' L' (xs'.map (·.1)) 12 ∧ AN h' want' 1 (cellsW xs') bo' ∧ WantAt h' bo' hA.nx xs' := by
  intro r
  induction r with
  | zero =>
    intro i m S L want bo h xs hr hi hm g an wa hbo hnx hfr
    obtain ⟨m, rfl⟩ : ∃ q, m = q + 1 := ⟨m - 1, by omega⟩
    have : i = 12 := by omega
    subst this
    refine ⟨want, bo, S, L, h, xs, ?_, g, an, wa⟩
    rw [loopD_one, wb_end (argS_len aw) (.inr (by omega))]
  | succ r ih =>
    intro i m S L want bo h xs hr hi hm g an wa hbo hnx hfr
    obtain ⟨m, rfl⟩ : ∃ q, m = q + 1 := ⟨m - 1, by omega⟩
    by_cases hiN : i < (ss.map V.s).length
    · obtain ⟨B, cap, rfl, hgB, hB⟩ := argS_read aw hiN
      have hgB' : h.get B = some (.c (ss.map V.s) 0 2) := by rw [hfr B hB, hgB]
      have hi' : i < ss.length := by simpa using hiN
      have hcell : (ss.map V.s)[i]? = some (.s ss[i]) := by simp [hi']
      have ht := text_run k ss[i] 20 h n (d + 4)
      have e20 : ((20 : Nat) : Int) = 20 := rfl
      rw [e20] at ht
      have hwl : (ss[i].take 20).length ≤ 20 := by
        simp
        omega
      generalize ss[i].take 20 = w at ht hwl
      obtain ⟨h1, hnm, hx1⟩ := name_run k w (by omega) h n (d + 1) (by omega)
      have han1 : AN h1 want 1 (cellsW xs) bo := an.frame (fun B _ hB => hx1.get B hB) hx1.le
      have hwa1 : WantAt h1 bo hA.nx xs := wa.ext hx1.le fun j _ hj => hx1.get j hj
      have hle1 := hx1.le
      have hfr1 : ∀ j, j < hA.nx → h1.get j = hA.get j := fun j hj => by rw [hx1.get j (by omega), hfr j hj]
      cases hb : nameB w with
      | false =>
        rw [hb] at hnm
        obtain ⟨want', bo', S', L', h', xs', hl, r1, r2, r3⟩ := ih (i + 1) m S L want bo h1 xs (by omega) (by omega) (by omega) g.skip han1 hwa1 hbo (by omega) hfr1
        refine ⟨want', bo', S', L', h', xs', ?_, r1, r2, r3⟩
        rw [loopD_one, wb_skip hiN (by omega) hgB' hcell ht hnm]
        exact hl
      | true =>
        rw [hb] at hnm
        have hk : ∃ K : Nat, K < 16 ∧ (((ksV = .sn ∧ (zs.map fun z => V.i .i64 z).length = 0) ∨ ∃ B cap, ksV = .sl B 0 (zs.map fun z => V.i .i64 z).length cap 0) ∧ ((zs.map fun z => V.i .i64 z).length ≤ i ∧ K = 0 ∨ i < (zs.map fun z => V.i .i64 z).length ∧ ∃ Bk capk z, ksV = .sl Bk 0 (zs.map fun z => V.i .i64 z).length capk 0 ∧ h1.get Bk = some (.c (zs.map fun z => V.i .i64 z) 0 2) ∧ (zs.map fun z => V.i .i64 z)[i]? = some (.i .i64 z) ∧ bitsI .i64 .and z 15 = some (.i .i64 (K : Int)))) := by
          by_cases hik : i < (zs.map fun z => V.i .i64 z).length
          · obtain ⟨Bk, capk, hk1, hk2, hk3⟩ := argS_read ak hik
            have hik' : i < zs.length := by simpa using hik
            obtain ⟨K, hK, hK2⟩ := and15 zs[i]
            exact ⟨K, hK, argS_len ak, .inr ⟨hik, Bk, capk, zs[i], hk1, by rw [hfr1 Bk hk3, hk2], by simp [hik'], hK2⟩⟩
          · exact ⟨0, by omega, argS_len ak, .inl ⟨by omega, rfl⟩⟩
        obtain ⟨K, hK, hk⟩ := hk
        obtain ⟨q1, q2, q3, q4⟩ := blankH_get h1 w
        have han2 : AN (blankH h1 w) want 1 (cellsW xs) bo := han1.frame (fun B _ hB => q2 B hB) (by omega)
        have hmany := g.many
        obtain ⟨v', h3, B', happ, har3, hB', hB'n, hnx3, hfr3⟩ := han2.app (tg := 100) (bytes := 24) (news := [.sl (h1.nx + 3) 0 2 2 0]) (Bn := h1.nx + 4) (by omega) (by omega) (by omega) (by omega) (by simp [cellsW] at hmany ⊢; omega) q4 rfl rfl
        have hS := g.size
        have hrun := wbK_run (call := callD F n (d + 5)) (n := n) (ws := .sl B 0 (ss.map V.s).length cap 0) (ks := ksV) (want := want) (i := .i .i64 (i : Int)) (S := S) (w := w) (K := K) (h := h1) hK (by omega) hwl happ
        have hb2 := wb_line (n := n) (S := S) hiN (by omega) hgB' hcell ht hnm hk hrun
        have hwa3 : WantAt h3 (some B') hA.nx (xs ++ [(w, h1.nx + 3)]) := by
          intro x hx
          have hne : ∀ j, j < h1.nx + 5 → bo ≠ some j → some B' ≠ some j := by
            intro j hj hb e
            injection e with e
            rcases hB' with ⟨e1, _⟩ | e1
            · rw [e] at e1
              exact hb e1
            · omega
          rcases List.mem_append.1 hx with hx | hx
          · obtain ⟨p1, p2, p3, p4⟩ := hwa1 x hx
            exact ⟨by rw [hfr3 x.2 p3 (by omega), q2 _ p2, p1], by omega, hne _ (by omega) p3, p4⟩
          · simp only [List.mem_singleton] at hx
            subst hx
            have hbn : bo ≠ some (h1.nx + 3) := by
              intro e
              rw [e] at han1
              have := han1.2
              omega
            exact ⟨by rw [hfr3 _ hbn (by show h1.nx + 3 < _; omega)]; exact q3, by show h1.nx + 3 < _; omega, hne _ (by show h1.nx + 3 < _; omega) hbn, by show hA.nx ≤ h1.nx + 3; omega⟩
        have hcw : cellsW xs ++ [.sl (h1.nx + 3) 0 2 2 0] = cellsW (xs ++ [(w, h1.nx + 3)]) := by simp [cellsW]
        rw [hcw] at har3
        have gg := g.app (K := K) (w := w) (by omega) hb
        have hmB' : ∀ B, some B' = some B → hA.nx ≤ B := by
          intro B e
          injection e with e
          subst e
          rcases hB' with ⟨e1, _⟩ | e1
          · exact hbo B' e1
          · omega
        obtain ⟨want', bo', S', L', h', xs', hl, r1, r2, r3⟩ := ih (i + 1) m (S ++ chunkL K w) _ v' (some B') h3 (xs ++ [(w, h1.nx + 3)]) (by omega) (by omega) (by omega) (by simpa using gg) ⟨har3, hB'n⟩ hwa3 hmB' (by omega) (fun j hj => by
          rw [hfr3 j (fun e => by have := hbo j e; omega) (by omega), q2 j (by omega), hfr1 j hj])
        refine ⟨want', bo', S', L', h', xs', ?_, r1, r2, r3⟩
        rw [loopD_one, hb2]
        exact hl
    · refine ⟨want, bo, S, L, h, xs, ?_, ⟨g.cut, g.get, by have := g.len; omega, by have := g.size; omega, by have := g.many; omega⟩, an, wa⟩
      rw [loopD_one, wb_end (argS_len aw) (.inl (by omega))]
end Go.Proofs.YtmbpjpffafidhaaGreatDoor
