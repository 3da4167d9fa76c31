/- The reference's lines. -/
import Derived.Test.YtmbpjpffafidhaaGreatDoorWaW10
namespace Go.Proofs.YtmbpjpffafidhaaGreatDoor
open Go Go.Ev
set_option maxRecDepth 100000
set_option linter.unusedSimpArgs false
variable {F : Nat → Option FN}
def strs (ls : List (List Nat)) : List V := ls.map V.s
def rlB : BC := (.post (.seq (.seq (.reg [o 8 (.len true (.t 0)), o 9 (.bin .lss (.t 4) (.t 0))]) (.cond (.t 0) .skip (.pre [0, 3, 4] [2, 3, 4] (.exit 0)))) (.seq (.block 1 [0, 3, 4, 5] (.seq (.reg [o 14 (.ix (.t 2) (.t 5)), o 15 (.bin .eql (.t 0) (.k (.i .u8 10)))]) (.cond (.t 0) (.post (.seq (.reg [o 20 (.sls (.t 4) (some (.t 6)) (some (.t 7))), o 21 (.bsl 1 1 [(.s [])] [(0, 1, (.t 0))]), o 22 (.app 40 1 16 (.t 7) (.t 0))]) (.reg [o 24 (.bin .add (.t 10) (.k (.i .i64 1)))])) [0, 3, 4, 5] [8, 1, 0, 11]) (.post .skip [0, 3, 4, 5] [4, 5, 6, 7])))) (.reg [o 11 (.bin .add (.t 3) (.k (.i .i64 1)))]))) [0, 3, 4, 5] [1, 2, 3, 0])
theorem c_rlines : c44 = (.seq (.reg [o 2 (.mv (.k .sn))]) (.seq (.reg [o 3 (.mv (.k .sn))]) (.seq (.reg [o 4 (.mv (.k (.i .i64 0)))]) (.seq (.seq (.reg [o 5 (.mv (.k (.i .i64 0)))]) (.block 0 [0, 3, 4] (.pre [0, 3, 4, 5] [4, 2, 1, 0] (.loop rlB)))) (.seq (.seq (.reg [o 27 (.len true (.t 0)), o 28 (.bin .lss (.t 3) (.t 0))]) (.cond (.t 0) (.post (.reg [o 32 (.sls (.t 2) (some (.t 4)) none), o 33 (.bsl 1 1 [(.s [])] [(0, 1, (.t 0))]), o 34 (.app 40 1 16 (.t 5) (.t 0))]) [3] [0]) (.post .skip [3] [3]))) (.seq (.reg []) (.ret [.mv (.t 0)]))))))) := rfl
theorem rl_loop (call : CallF) (n m0 : Nat) (T : List Nat) (hT : T.length < 80000) : ∀ (rest cur pre : List Nat) (m a i : Nat) (v : V) (bo : Option Nat) (h : H) (done : List (List Nat)),
    T = pre ++ (cur ++ rest) → 10 ∉ cur → a = pre.length → i = pre.length + cur.length → rest.length < m → AN h v 1 (strs done) bo → (∀ B, bo = some B → m0 ≤ B) → m0 ≤ h.nx → done.length + rest.length < 100000 →
    ∃ v' bo' h' done' cur' pre', loopD (execD call n rlB) m [.s T, v, .i .i64 (a : Nat), .i .i64 (i : Nat)] h = some (.exit 0 [.s T, v', .i .i64 (pre'.length : Nat)], h') ∧ T = pre' ++ cur' ∧ 10 ∉ cur' ∧ AN h' v' 1 (strs (done ++ done')) bo' ∧
      (∀ B, bo' = some B → m0 ≤ B) ∧ h.nx ≤ h'.nx ∧ (∀ j, j < m0 → h'.get j = h.get j) ∧ linesL (cur ++ rest) = done' ++ linesL cur' ∧ (done ++ done').length < 100000
  | [], cur, pre, m, a, i, v, bo, h, done, hTe, hc, ha, hi, hm, han, hbo, hm0, hlen => by
    obtain ⟨m, rfl⟩ : ∃ q, m = q + 1 := ⟨m - 1, by simp at hm; omega⟩
    subst ha
    refine ⟨v, bo, h, [], cur, pre, ?_, by simpa using hTe, hc, by simpa using han, hbo, Nat.le_refl _, fun _ _ => rfl, by simp, by simpa using hlen⟩
    have hlt : ¬ (i : Int) < (T.length : Int) := by rw [hTe]; simp; omega
    have hle : (T.length : Int) ≤ (i : Int) := by omega
    rw [loopD_one]
    simp [rlB, execD, runB_op, runB_nil, stepB, guardA, o, semAll, AO.map, AO.cls, evX, tmE, pushE, semP, semN, semR, semE, binV, binI, binS, pickE, retsD, retV, hlt, hle]
  | c :: rest, cur, pre, m, a, i, v, bo, h, done, hTe, hc, ha, hi, hm, han, hbo, hm0, hlen => by
    obtain ⟨m, rfl⟩ : ∃ q, m = q + 1 := ⟨m - 1, by simp at hm; omega⟩
    have hTl : T.length = pre.length + (cur.length + (rest.length + 1)) := by rw [hTe]; simp
    have hlt : (i : Int) < (T.length : Int) := by omega
    have hix : idx (i : Int) T.length = some i := by
      unfold idx
      rw [if_pos (by omega)]
      simp
    have hget : T[i]? = some c := by
      rw [hTe, hi, ← List.append_assoc, List.getElem?_append_right (by simp)]
      simp
    have hw : IntKind.i64.wrap ((i : Int) + 1) = (i : Int) + 1 := wrap_mid (by omega) (by omega)
    have hm' : rest.length < m := by simp at hm; omega
    have hlen' : done.length + rest.length + 1 < 100000 := by simp at hlen; omega
    by_cases h10 : c = 10
    · subst h10
      have hbn : bnds T.length T.length (some (.i .i64 (a : Int))) (some (.i .i64 (i : Int))) = some (a, i) := by
        have c1 : (i : Int) ≤ (T.length : Int) := by omega
        have c2 : (a : Int) ≤ (i : Int) := by omega
        simp [bnds, hiV, loV, c1, c2]
      have hcut : (T.drop a).take (i - a) = cur := by
        rw [hTe, ha, hi]
        simp
      let h1 := h.new (.c [.s cur] 0 0)
      have han1 : AN h1 v 1 (strs done) bo := han.frame (fun B _ hB => by show (h.new _).get B = _; rw [H.get_new, if_neg (by omega)]) (by show h.nx ≤ h.nx + 1; omega)
      obtain ⟨v', h3, B', happ, har3, hB', hB'n, hnx3, hfr3⟩ := han1.app (tg := 40) (bytes := 16) (news := [.s cur]) (Bn := h.nx) (by omega) (by omega) (by omega) (by omega) (by simp [strs]; omega)
        (by show (h.new _).get h.nx = _; rw [H.get_new, if_pos rfl]) rfl rfl
      have hnx3' : h.nx + 1 ≤ h3.nx := hnx3
      have hst : strs done ++ [V.s cur] = strs (done ++ [cur]) := by simp [strs]
      rw [hst] at har3
      have hmB' : ∀ B, some B' = some B → m0 ≤ B := by
        intro B e
        injection e with e
        subst e
        rcases hB' with ⟨e1, _⟩ | e1
        · exact hbo B' e1
        · have : B' = h.nx + 1 := e1
          omega
      obtain ⟨v2, bo2, h4, done', cur', pre', hr, q1, q2, q3, q4, q5, q6, q7, q8⟩ := rl_loop call n m0 T hT rest [] (pre ++ (cur ++ [10])) m (i + 1) (i + 1) v' (some B') h3 (done ++ [cur]) (by rw [hTe]; simp) (by simp) (by simp; omega) (by simp; omega) hm' ⟨har3, hB'n⟩ hmB' (by omega) (by simp; omega)
      refine ⟨v2, bo2, h4, cur :: done', cur', pre', ?_, q1, q2, by simpa using q3, q4, by omega, fun j hj => ?_, ?_, by simpa using q8⟩
      · have e1 : ((i + 1 : Nat) : Int) = (i : Int) + 1 := by omega
        rw [e1] at hr
        rw [loopD_one, ← hr]
        simp only [h1] at happ
        simp [rlB, execD, runB_op, runB_nil, stepB, guardA, o, app_call, semAll, AO.map, AO.cls, evX, tmE, pushE, semP, semN, semR, binV, binI, binS, pickE, retsD, retV, V.cells, fillV, layAt, V.one, rept_n1, hlt, hix, hget, hbn, hcut, happ, hw]
      · rw [q6 j hj, hfr3 j (fun e => by have := hbo j e; omega) (by show j < h.nx + 1; omega)]
        show (h.new _).get j = _
        rw [H.get_new, if_neg (by omega)]
      · rw [lines_cut cur rest hc, List.cons_append]
        congr 1
    · have f1 : ((c : Int) == 10) = false := by simp; omega
      obtain ⟨v2, bo2, h4, done', cur', pre', hr, q1, q2, q3, q4, q5, q6, q7, q8⟩ := rl_loop call n m0 T hT rest (cur ++ [c]) pre m a (i + 1) v bo h done (by rw [hTe]; simp) (by simp only [List.mem_append, List.mem_singleton, not_or]; exact ⟨hc, fun e => h10 e.symm⟩) ha (by simp; omega) hm' han hbo hm0 (by omega)
      refine ⟨v2, bo2, h4, done', cur', pre', ?_, q1, q2, q3, q4, q5, q6, by simpa using q7, q8⟩
      have e1 : ((i + 1 : Nat) : Int) = (i : Int) + 1 := by omega
      rw [e1] at hr
      rw [loopD_one, ← hr]
      simp [rlB, execD, runB_op, runB_nil, stepB, guardA, o, semAll, AO.map, AO.cls, evX, tmE, pushE, semP, semN, semR, semE, binV, binI, binS, pickE, retsD, retV, hlt, hix, hget, f1, hw]
theorem rlines_run (k : WK2 F) (T : List Nat) (hT : T.length < 80000) (h : H) (n d : Nat) (hn : T.length < n) :
    ∃ v bo h', callD F n (d + 1) 44 [.s T] h = some (v, h') ∧ Ext h h' ∧ AN h' v 1 (strs (linesL T)) bo ∧ ∀ B, bo = some B → h.nx ≤ B := by
  obtain ⟨v2, bo2, h4, done', cur', pre', hr, q1, q2, q3, q4, q5, q6, q7, q8⟩ := rl_loop (callD F n d) n h.nx T hT T [] [] n 0 0 .sn none h [] rfl (by simp) rfl rfl hn ⟨rfl, rfl⟩ (by simp) (Nat.le_refl _) (by simp; omega)
  have e0 : ((0 : Nat) : Int) = 0 := rfl
  rw [e0] at hr
  simp only [List.nil_append] at q3 q7 q8
  have hTl : T.length = pre'.length + cur'.length := by rw [q1]; simp
  by_cases hcur : cur' = []
  · subst hcur
    have hlt : ¬ (pre'.length : Int) < (T.length : Int) := by rw [hTl]; simp
    have hle : (T.length : Int) ≤ (pre'.length : Int) := by omega
    refine ⟨v2, bo2, h4, ?_, ⟨q5, q6⟩, ?_, q4⟩
    · refine callD_code k.rlines rfl ?_
      simp [c_rlines, execD, runB_op, runB_nil, stepB, guardA, o, semAll, AO.map, AO.cls, evX, tmE, pushE, semP, semN, semR, semE, binV, binI, binS, pickE, retsD, retV, hr, hlt, hle]
    · rw [q7]
      simpa [linesL] using q3
  · have hcl : 0 < cur'.length := List.length_pos_iff.2 hcur
    have hlt : (pre'.length : Int) < (T.length : Int) := by omega
    have hbn : bnds T.length T.length (some (.i .i64 (pre'.length : Int))) none = some (pre'.length, T.length) := by
      have c1 : (pre'.length : Int) ≤ (T.length : Int) := by omega
      simp [bnds, hiV, loV, c1]
    have hcut : (T.drop pre'.length).take (T.length - pre'.length) = cur' := by
      rw [q1]
      simp
    let h1 := h4.new (.c [.s cur'] 0 0)
    have han1 : AN h1 v2 1 (strs done') bo2 := q3.frame (fun B _ hB => by show (h4.new _).get B = _; rw [H.get_new, if_neg (by omega)]) (by show h4.nx ≤ h4.nx + 1; omega)
    obtain ⟨v', h3, B', happ, har3, hB', hB'n, hnx3, hfr3⟩ := han1.app (tg := 40) (bytes := 16) (news := [.s cur']) (Bn := h4.nx) (by omega) (by omega) (by omega) (by omega) (by simp [strs]; omega)
      (by show (h4.new _).get h4.nx = _; rw [H.get_new, if_pos rfl]) rfl rfl
    have hnx3' : h4.nx + 1 ≤ h3.nx := hnx3
    have hst : strs done' ++ [V.s cur'] = strs (linesL T) := by
      rw [q7, lines_one cur' q2 hcur]
      simp [strs]
    rw [hst] at har3
    refine ⟨v', some B', h3, ?_, ⟨by omega, fun j hj => ?_⟩, ⟨har3, hB'n⟩, ?_⟩
    · refine callD_code k.rlines rfl ?_
      simp only [h1] at happ
      simp [c_rlines, execD, runB_op, runB_nil, stepB, guardA, o, app_call, semAll, AO.map, AO.cls, evX, tmE, pushE, semP, semN, semR, binV, binI, binS, pickE, retsD, retV, V.cells, fillV, layAt, V.one, rept_n1, hr, hlt, hbn, hcut, happ]
    · rw [hfr3 j (fun e => by have := q4 j e; omega) (by show j < h4.nx + 1; omega)]
      show (h4.new _).get j = _
      rw [H.get_new, if_neg (by omega), q6 j hj]
    · intro B e
      injection e with e
      subst e
      rcases hB' with ⟨e1, _⟩ | e1
      · exact q4 B' e1
      · have : B' = h4.nx + 1 := e1
        omega
end Go.Proofs.YtmbpjpffafidhaaGreatDoor
