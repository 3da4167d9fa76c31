/- The reference's Get of any text. -/
import Derived.Test.YtmbpjpffafidhaaGreatDoorWaW13
namespace Go.Proofs.YtmbpjpffafidhaaGreatDoor
open Go Go.Ev
set_option maxRecDepth 100000
set_option linter.unusedSimpArgs false
variable {F : Nat → Option FN}
section
variable {call : CallF} {n i N cp xf Ba : Nat} {out out' vw : V} {h h' h2 : H} {s : List Nat} {va : V}
theorem rg_b_ret (hi : i < N) (hk : execD call n rgK [.b true, .i .i64 (N : Nat), out, .sl Ba 0 N cp xf, .i .i64 (i : Nat)] h = some (.ret vw, h')) : execD call n rgB [out, .sl Ba 0 N cp xf, .i .i64 (i : Nat)] h = some (.ret vw, h') := by
  have e1 : (i : Int) < (N : Int) := by omega
  simp [rgB, execD, runB_op, runB_nil, stepB, guardA, o, semAll, AO.map, AO.cls, evX, tmE, pushE, semP, semN, semR, semE, binV, binI, binS, pickE, retsD, retV, e1, hk]
theorem rg_b_nrm (hi : i < N) (hl : i < 100000) (hk : execD call n rgK [.b true, .i .i64 (N : Nat), out, .sl Ba 0 N cp xf, .i .i64 (i : Nat)] h = some (.nrm [out', .sl Ba 0 N cp xf, .i .i64 (i : Nat)], h')) :
    execD call n rgB [out, .sl Ba 0 N cp xf, .i .i64 (i : Nat)] h = some (.nrm [out', .sl Ba 0 N cp xf, .i .i64 ((i + 1 : Nat) : Int)], h') := by
  have e1 : (i : Int) < (N : Int) := by omega
  have hw : IntKind.i64.wrap ((i : Int) + 1) = (i : Int) + 1 := wrap_mid (by omega) (by omega)
  simp [rgB, execD, runB_op, runB_nil, stepB, guardA, o, semAll, AO.map, AO.cls, evX, tmE, pushE, semP, semN, semR, semE, binV, binI, binS, pickE, retsD, retV, e1, hk, hw]
theorem rg_b_exit (hi : i < N) (hl : i < 100000) (hk : execD call n rgK [.b true, .i .i64 (N : Nat), out, .sl Ba 0 N cp xf, .i .i64 (i : Nat)] h = some (.exit 1 [out', .sl Ba 0 N cp xf, .i .i64 (i : Nat)], h')) :
    execD call n rgB [out, .sl Ba 0 N cp xf, .i .i64 (i : Nat)] h = some (.nrm [out', .sl Ba 0 N cp xf, .i .i64 ((i + 1 : Nat) : Int)], h') := by
  have e1 : (i : Int) < (N : Int) := by omega
  have hw : IntKind.i64.wrap ((i : Int) + 1) = (i : Int) + 1 := wrap_mid (by omega) (by omega)
  simp [rgB, execD, runB_op, runB_nil, stepB, guardA, o, semAll, AO.map, AO.cls, evX, tmE, pushE, semP, semN, semR, semE, binV, binI, binS, pickE, retsD, retV, e1, hk, hw]
theorem rg_none2 {Bw c2 x2 : Nat} (hk : loopD (execD call n rkB) n [out, va, .i .i64 (i : Nat), .s s, .i .i64 0] h = some (.exit 2 [out, va, .i .i64 (i : Nat), .s s], h)) (hs0 : s ≠ []) (hs : s.head? ≠ some 42)
    (hw : loopD (execD call n rwB) n [out, va, .i .i64 (i : Nat), .s s, .sn, .b false, .i .i64 0] h = some (.exit 4 [out, va, .i .i64 (i : Nat), .s s, .sl Bw 0 0 c2 x2], h2)) :
    execD call n rgX [out, va, .i .i64 (i : Nat), .s s] h = some (.nrm [out, va, .i .i64 (i : Nat)], h2) := by
  cases s with
  | nil => exact absurd rfl hs0
  | cons c s' =>
    simp at hs
    have f1 : ((c : Int) == 42) = false := by simp; omega
    have hix : idx 0 (s'.length + 1) = some 0 := by
      unfold idx
      rw [if_pos (by omega)]
      rfl
    simp [rgX, execD, runB_op, runB_nil, stepB, guardA, o, semAll, AO.map, AO.cls, evX, tmE, pushE, semP, semN, semR, semE, binV, binI, binS, pickE, retsD, retV, hk, hix, f1, hw]
end
def rwords (s : List Nat) : List (List Nat) := rwL (crSp s) false []
def rskip (s : List Nat) : Bool := decide (crSp s = []) || decide ((crSp s).head? = some 42) || decide (rwords s = [])
def refP : List (List Nat) → Nat → Except (Nat × Int) (List (Nat × Bool × List (List Nat)))
  | [], _ => .ok []
  | s :: ls, i => if 2500 ≤ i ∨ 200 < s.length then .error (i + 1, 6) else if (crSp s).any badB = true then .error (i + 1, 1) else
    match refP ls (i + 1) with
    | .error e => .error e
    | .ok ys => .ok (if rskip s = true then ys else (i + 1, headB (crSp s), rwords s) :: ys)
theorem crSp_len (s : List Nat) : (crSp s).length = s.length := by
  unfold crSp
  split
  · rename_i h
    rcases List.eq_nil_or_concat s with rfl | ⟨a, c, rfl⟩
    · simp at h
    · simp
  · rfl
theorem rg_loop (call : CallF) (n m0 : Nat) (hn : 1000 < n) (L : List (List Nat)) (Ba N cp xf q : Nat) (cs : List V) (hN : N = L.length) (hcs : cs.take N = strs L) (hBa : Ba < m0) (hL : L.length < 90000) : ∀ (ls done : List (List Nat)) (m i : Nat) (out : V) (bo : Option Nat) (h : H) (xs : List Row),
    L = done ++ ls → i = done.length → ls.length < m → AN h out 3 (rowsC xs) bo → RowsAt h bo m0 xs → (∀ B, bo = some B → m0 ≤ B) → m0 ≤ h.nx → h.get Ba = some (.c cs 0 q) → xs.length + ls.length < 100000 →
    ∃ ex h', loopD (execD call n rgB) m [out, .sl Ba 0 N cp xf, .i .i64 (i : Nat)] h = some (ex, h') ∧ h.nx ≤ h'.nx ∧ (∀ j, j < m0 → h'.get j = h.get j) ∧ GotP xs m0 h' ex (refP ls i)
  | [], done, m, i, out, bo, h, xs, hLe, hi, hm, han, hrows, hbo, hm0, hg, hlen => by
    obtain ⟨m, rfl⟩ : ∃ q, m = q + 1 := ⟨m - 1, by simp at hm; omega⟩
    refine ⟨.exit 0 [out], h, ?_, Nat.le_refl _, fun _ _ => rfl, ⟨out, bo, [], rfl, by simpa using han, by simpa using hrows, rfl, hbo⟩⟩
    have : N ≤ i := by rw [hN, hLe, hi]; simp
    rw [loopD_one, rg_end this]
  | s :: ls, done, m, i, out, bo, h, xs, hLe, hi, hm, han, hrows, hbo, hm0, hg, hlen => by
    obtain ⟨m, rfl⟩ : ∃ q, m = q + 1 := ⟨m - 1, by simp at hm; omega⟩
    have hLl : L.length = done.length + (ls.length + 1) := by rw [hLe]; simp
    have hiN : i < N := by omega
    have hi9 : i < 90000 := by omega
    have hix : idx (i : Int) N = some i := by
      unfold idx
      rw [if_pos (by omega)]
      simp
    have hcell : cs[i]? = some (.s s) := by
      have h1 : (cs.take N)[i]? = some (.s s) := by
        rw [hcs, hLe, hi]
        simp [strs]
      rw [List.getElem?_take, if_pos hiN] at h1
      exact h1
    have hm' : ls.length < m := by simp at hm; omega
    have hlen' : xs.length + ls.length + 1 < 100000 := by simp at hlen; omega
    have hLe' : L = (done ++ [s]) ++ ls := by rw [hLe]; simp
    have hi' : i + 1 = (done ++ [s]).length := by simp [hi]
    have ei : ((i + 1 : Nat) : Int) = (i : Int) + 1 := by omega
    rw [loopD_one]
    by_cases hlim : 2500 ≤ i ∨ 200 < s.length
    · refine ⟨_, h, by rw [rg_b_ret hiN (rg_limit (by omega) hix hg hcell hlim)], Nat.le_refl _, fun _ _ => rfl, ?_⟩
      simp only [refP, if_pos hlim, GotP, ei]
    · have hi25 : i < 2500 := by omega
      have hs200 : s.length ≤ 200 := by omega
      have hcl := crSp_len s
      have hk := rk_loop call n (crSp s) (by omega) out (.sl Ba 0 N cp xf) i (by omega) h (crSp s) [] n 0 rfl rfl (by omega)
      have e0 : ((0 : Nat) : Int) = 0 := rfl
      rw [e0] at hk
      by_cases hb : (crSp s).any badB = true
      · rw [if_pos hb] at hk
        refine ⟨_, h, by rw [rg_b_ret hiN (by rw [rg_cr hix hg hcell hi25 hs200]; exact rg_bad hk)], Nat.le_refl _, fun _ _ => rfl, ?_⟩
        simp only [refP, if_neg hlim, if_pos hb, GotP, ei]
      · rw [if_neg hb] at hk
        have skip (h2 : H) (hsk : rskip s = true) (hx : Ext h h2) (hbd : execD call n rgB [out, .sl Ba 0 N cp xf, .i .i64 (i : Nat)] h = some (.nrm [out, .sl Ba 0 N cp xf, .i .i64 ((i + 1 : Nat) : Int)], h2)) :
            ∃ ex h', (match execD call n rgB [out, .sl Ba 0 N cp xf, .i .i64 (i : Nat)] h with | some (.nrm e, h') => loopD (execD call n rgB) m e h' | r => r) = some (ex, h') ∧ h.nx ≤ h'.nx ∧ (∀ j, j < m0 → h'.get j = h.get j) ∧ GotP xs m0 h' ex (refP (s :: ls) i) := by
          have hle := hx.le
          obtain ⟨ex, h', hr, hnx, hfr, hp⟩ := rg_loop call n m0 hn L Ba N cp xf q cs hN hcs hBa hL ls (done ++ [s]) m (i + 1) out bo h2 xs hLe' hi' hm' (han.frame (fun B _ hB => hx.get B hB) hle) (hrows.ext hle fun j _ hj => hx.get j hj) hbo (by omega) (by rw [hx.get Ba (by omega), hg]) (by omega)
          refine ⟨ex, h', by rw [hbd]; exact hr, by omega, fun j hj => by rw [hfr j hj, hx.get j (by omega)], ?_⟩
          have hgp : refP (s :: ls) i = refP ls (i + 1) := by
            simp only [refP, if_neg hlim, if_neg hb, hsk, if_true]
            cases refP ls (i + 1) <;> rfl
          rw [hgp]
          exact hp
        by_cases hsk : crSp s = [] ∨ (crSp s).head? = some 42
        · refine skip h (by rcases hsk with e | e <;> simp [rskip, e]) (Ext.refl h) (rg_b_exit hiN (by omega) ?_)
          rw [rg_cr hix hg hcell hi25 hs200]
          exact rg_skip hk hsk
        · have hs0 : crSp s ≠ [] := fun e => hsk (.inl e)
          have h42 : (crSp s).head? ≠ some 42 := fun e => hsk (.inr e)
          obtain ⟨vw, bw, h2, hw, q1, q2, q3, q4⟩ := rw_loop call n h.nx (crSp s) (by omega) out (.sl Ba 0 N cp xf) (.i .i64 (i : Nat)) (crSp s) [] n 0 .sn none h [] false rfl rfl (by omega) ⟨rfl, rfl⟩ (by simp) (by simp) (Nat.le_refl _) (by simp; omega) (by simp)
          rw [e0] at hw
          have hx2 : Ext h h2 := ⟨q3, q4⟩
          change AN h2 vw 1 (strs (rwords s)) bw at q1
          cases bw with
          | none =>
            obtain ⟨rfl, hws⟩ := q1
            have hws' : rwords s = [] := by simpa [strs] using hws
            refine skip h2 (by simp [rskip, hws']) hx2 (rg_b_nrm hiN (by omega) ?_)
            rw [rg_cr hix hg hcell hi25 hs200]
            exact rg_none hk hs0 h42 hw
          | some Bw =>
            obtain ⟨ar, hBw2⟩ := q1
            have hBw := q2 Bw rfl
            obtain ⟨len, cap, xw, cw, qw, rfl, hgw, _, _, hlc, hcl2, htk, hcl3⟩ := ar.ex
            have hlen2 : len = (rwords s).length := by
              simp [strs] at hcl3
              omega
            subst hlen2
            by_cases hws : rwords s = []
            · refine skip h2 (by simp [rskip, hws]) hx2 (rg_b_nrm hiN (by omega) ?_)
              rw [rg_cr hix hg hcell hi25 hs200]
              rw [hws] at hw
              exact rg_none2 hk hs0 h42 hw
            · have hM : (rwords s).length ≠ 0 := fun e => hws (List.length_eq_zero_iff.1 e)
              let row : Row := ⟨i + 1, headB (crSp s), rwords s, .sl Bw 0 (rwords s).length cap xw, Bw⟩
              let news : List V := [.i .i64 ((i : Int) + 1), .b (headB (crSp s)), .sl Bw 0 (rwords s).length cap xw]
              let h2' := h2.new (.c news 0 0)
              have han2 : AN h2 out 3 (rowsC xs) bo := han.frame (fun B _ hB => hx2.get B hB) hx2.le
              have hrows2 : RowsAt h2 bo m0 xs := hrows.ext hx2.le fun j _ hj => hx2.get j hj
              have hle12 := hx2.le
              have hfr2' : ∀ j, j < h2.nx → h2'.get j = h2.get j := fun j hj => by
                show (h2.new _).get j = _
                rw [H.get_new, if_neg (by omega)]
              have han2' : AN h2' out 3 (rowsC xs) bo := han2.frame (fun B _ hB => hfr2' B hB) (by show h2.nx ≤ h2.nx + 1; omega)
              obtain ⟨v', h3, B', happ, har3, hB', hB'n, hnx3, hfr3⟩ := han2'.app (tg := 140) (bytes := 40) (news := news) (Bn := h2.nx) (by omega) (by omega) (by omega) (by omega) (by rw [rowsC_len]; omega)
                (by show (h2.new _).get h2.nx = _; rw [H.get_new, if_pos rfl]) rfl rfl
              have hnx3' : h2.nx + 1 ≤ h3.nx := hnx3
              have hbw : bo ≠ some Bw := by
                intro e
                rw [e] at han
                have := han.2
                omega
              have hgw3 : h3.get Bw = some (.c cw 0 qw) := by
                rw [hfr3 Bw hbw (by show Bw < h2.nx + 1; omega), hfr2' Bw hBw2, hgw]
              have hrows3 : RowsAt h3 (some B') m0 (xs ++ [row]) := by
                intro x hx
                rw [List.mem_append] at hx
                have hne : ∀ w, w < h2.nx → bo ≠ some w → some B' ≠ some w := by
                  intro w hw hb e
                  injection e with e
                  rcases hB' with ⟨e1, _⟩ | e1
                  · rw [e] at e1
                    exact hb e1
                  · have : B' = h2.nx + 1 := e1
                    omega
                rcases hx with hx | hx
                · obtain ⟨⟨cap, xf, cs, fz, q, k1, k2, k3⟩, k4, k5, k6⟩ := hrows2 x hx
                  exact ⟨⟨cap, xf, cs, fz, q, k1, by rw [hfr3 x.w k5 (by show x.w < h2.nx + 1; omega), hfr2' x.w k4, k2], k3⟩, by omega, hne x.w k4 k5, k6⟩
                · simp only [List.mem_singleton] at hx
                  subst hx
                  refine ⟨⟨cap, xw, cw, 0, qw, rfl, hgw3, by rw [Nat.mul_one] at htk; exact htk⟩, by show Bw < h3.nx; omega, hne Bw hBw2 hbw, by show m0 ≤ Bw; omega⟩
              have hrc : rowsC xs ++ news = rowsC (xs ++ [row]) := by
                rw [rowsC_app]
                simp only [rowsC, news, row, ei]
              rw [hrc] at har3
              have hmB' : ∀ B, some B' = some B → m0 ≤ B := by
                intro B e
                injection e with e
                subst e
                rcases hB' with ⟨e1, _⟩ | e1
                · exact hbo B' e1
                · have : B' = h2.nx + 1 := e1
                  omega
              have hbd := rg_b_nrm (out := out) (out' := v') (h := h) (h' := h3) hiN (by omega) (by rw [rg_cr hix hg hcell hi25 hs200]; exact rg_line (by omega) hk hs0 h42 hM hw happ)
              obtain ⟨ex, h', hr, hnx, hfr, hp⟩ := rg_loop call n m0 hn L Ba N cp xf q cs hN hcs hBa hL ls (done ++ [s]) m (i + 1) v' (some B') h3 (xs ++ [row]) hLe' hi' hm' ⟨har3, hB'n⟩ hrows3 hmB' (by omega)
                (by rw [hfr3 Ba (fun e => by have := hbo Ba e; omega) (by show Ba < h2.nx + 1; omega), hfr2' Ba (by omega), q4 Ba (by omega), hg]) (by simp; omega)
              refine ⟨ex, h', by rw [hbd]; exact hr, by omega, fun j hj => ?_, ?_⟩
              · rw [hfr j hj, hfr3 j (fun e => by have := hbo j e; omega) (by show j < h2.nx + 1; omega), hfr2' j (by omega), q4 j (by omega)]
              · have hskf : rskip s = false := by simp [rskip, hs0, h42, hws]
                have hgp : refP (s :: ls) i = (match refP ls (i + 1) with | .error e => .error e | .ok ys => .ok (row.line :: ys)) := by
                  simp only [refP, if_neg hlim, if_neg hb, hskf, Bool.false_eq_true, if_false]
                  rfl
                rw [hgp]
                cases hgp2 : refP ls (i + 1) with
                | error e =>
                  rw [hgp2] at hp
                  exact hp
                | ok ys =>
                  rw [hgp2] at hp
                  obtain ⟨v2, bo2, xs', p1, p2, p3, p4, p5⟩ := hp
                  exact ⟨v2, bo2, row :: xs', p1, by simpa using p2, by simpa using p3, by rw [List.map_cons, p4], p5⟩
end Go.Proofs.YtmbpjpffafidhaaGreatDoor
