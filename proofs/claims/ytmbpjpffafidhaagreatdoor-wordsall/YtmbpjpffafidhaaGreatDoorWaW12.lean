/- The reference's words of a line. -/
import Derived.Test.YtmbpjpffafidhaaGreatDoorWaW11
namespace Go.Proofs.YtmbpjpffafidhaaGreatDoor
open Go Go.Ev
set_option maxRecDepth 100000
set_option linter.unusedSimpArgs false
variable {F : Nat → Option FN}
def rkB : BC := (.post (.seq (.seq (.reg [o 53 (.len true (.t 3)), o 54 (.bin .lss (.t 5) (.t 0))]) (.cond (.t 0) .skip (.pre [5, 6, 7, 8] [2, 3, 4, 5] (.exit 2)))) (.seq (.block 3 [5, 6, 7, 8, 9] (.post (.seq (.reg [o 59 (.ix (.t 5) (.t 6)), o 60 (.bin .gtr (.t 0) (.k (.i .u8 126))), .op ⟨(some 62), (some (0, false)), .mv (.t 7)⟩, .op ⟨(some 63), (some (1, false)), .mv (.t 9)⟩, .op ⟨(some 64), (some (2, false)), .ix (.t 1) (.t 0)⟩, .op ⟨(some 65), (some (3, false)), .bin .lss (.t 0) (.k (.i .u8 32))⟩, .op ⟨(some 66), (some (4, false)), .mv (.t 0)⟩, .op ⟨(some 67), (some (0, true)), .mv (.t 12)⟩, .op ⟨(some 68), (some (1, true)), .mv (.t 14)⟩, .op ⟨(some 69), (some (2, true)), .ix (.t 1) (.t 0)⟩, .op ⟨(some 70), (some (3, true)), .bin .neq (.t 0) (.k (.i .u8 9))⟩, .op ⟨(some 71), (some (9, false)), .pick (.t 4) (.t 0) (.k (.b false))⟩, o 72 (.pick (.t 10) (.k (.b true)) (.t 0))]) (.cond (.t 0) (.seq (.post (.reg [o 74 (.bin .add (.t 17) (.k (.i .i64 1))), o 2 (.mv (.k .sn)), o 4 (.mv (.k (.i .i64 1)))]) [2, 3, 4] [1, 2, 0]) (.ret [.mv (.t 0), .mv (.t 1), .mv (.t 2)])) .skip)) [5, 6, 7, 8, 9] [15, 16, 17, 18, 19])) (.reg [o 56 (.bin .add (.t 4) (.k (.i .i64 1)))]))) [5, 6, 7, 8, 9] [1, 2, 3, 4, 0])
def rwB : BC := (.post (.seq (.seq (.reg [o 84 (.len true (.t 3)), o 85 (.bin .lss (.t 7) (.t 0))]) (.cond (.t 0) .skip (.pre [5, 6, 7, 8, 10] [2, 3, 4, 5, 6] (.exit 4)))) (.seq (.block 5 [5, 6, 7, 8, 10, 11, 12] (.post (.seq (.reg [o 90 (.ix (.t 5) (.t 8)), o 91 (.bin .eql (.t 0) (.k (.i .u8 32))), .op ⟨(some 93), (some (0, false)), .mv (.t 7)⟩, .op ⟨(some 94), (some (1, false)), .mv (.t 11)⟩, .op ⟨(some 95), (some (2, false)), .ix (.t 1) (.t 0)⟩, .op ⟨(some 96), (some (3, false)), .bin .eql (.t 0) (.k (.i .u8 9))⟩, o 97 (.pick (.t 4) (.k (.b true)) (.t 0))]) (.seq (.seq (.reg [o 99 (.un .not (.t 0)), .op ⟨(some 101), (some (0, true)), .mv (.t 15)⟩, .op ⟨(some 102), (some (1, true)), .un .not (.t 0)⟩, o 103 (.pick (.t 2) (.t 0) (.k (.b false)))]) (.cond (.t 0) (.post (.reg [o 105 (.bsl 1 1 [(.s [])] [(0, 1, (.k (.s [])))]), o 106 (.app 40 1 16 (.t 18) (.t 0))]) [5, 6, 7, 8, 10, 12, 13] [15, 16, 17, 18, 0, 21, 6]) (.post .skip [5, 6, 7, 8, 10, 12, 13] [13, 14, 15, 16, 17, 19, 4]))) (.seq (.seq (.reg [o 108 (.un .not (.t 6))]) (.cond (.t 0) (.post (.reg [o 111 (.len false (.t 5)), o 112 (.bin .sub (.t 0) (.k (.i .i64 1))), o 113 (.ia 1 (.t 7) (.t 0)), o 114 (.ld (.t 0)), o 118 (.bin .add (.t 10) (.k (.i .i64 1))), o 119 (.sls (.t 9) (some (.t 11)) (some (.t 0))), o 120 (.bin .add (.t 2) (.t 0)), o 121 (.ia 1 (.t 12) (.t 5)), .op ⟨none, none, .st (.t 0) (.t 1)⟩]) [5, 6, 7, 8, 10, 12, 13] [9, 10, 11, 12, 13, 14, 15]) (.post .skip [5, 6, 7, 8, 10, 12, 13] [1, 2, 3, 4, 5, 6, 7]))) (.reg [o 123 (.un .not (.t 6))])))) [5, 6, 7, 8, 10, 11, 12] [1, 2, 3, 4, 5, 0, 6])) (.reg [o 87 (.bin .add (.t 6) (.k (.i .i64 1)))]))) [5, 6, 7, 8, 10, 11, 12] [1, 2, 3, 4, 5, 6, 0])
theorem rk_loop (call : CallF) (n : Nat) (s : List Nat) (hs : s.length < 1000) (vo va : V) (i : Nat) (hi : i < 100000) (h : H) : ∀ (r pre : List Nat) (m k : Nat), s = pre ++ r → k = pre.length → r.length < m →
    loopD (execD call n rkB) m [vo, va, .i .i64 (i : Nat), .s s, .i .i64 (k : Nat)] h = some (if r.any badB = true then .ret (.tu [.sn, .i .i64 ((i : Int) + 1), .i .i64 1]) else .exit 2 [vo, va, .i .i64 (i : Nat), .s s], h)
  | [], pre, m, k, hse, hk, hm => by
    obtain ⟨m, rfl⟩ : ∃ q, m = q + 1 := ⟨m - 1, by simp at hm; omega⟩
    have hlt : ¬ (k : Int) < (s.length : Int) := by rw [hse, hk]; simp
    have hle : (s.length : Int) ≤ (k : Int) := by omega
    rw [loopD_one]
    simp [rkB, execD, runB_op, runB_nil, stepB, guardA, o, semAll, AO.map, AO.cls, evX, tmE, pushE, semP, semN, semR, semE, binV, binI, binS, pickE, retsD, retV, hlt, hle]
  | c :: r, pre, m, k, hse, hk, hm => by
    obtain ⟨m, rfl⟩ : ∃ q, m = q + 1 := ⟨m - 1, by simp at hm; omega⟩
    have hsl : s.length = pre.length + (r.length + 1) := by rw [hse]; simp
    have hlt : (k : Int) < (s.length : Int) := by omega
    have hix : idx (k : Int) s.length = some k := by
      unfold idx
      rw [if_pos (by omega)]
      simp
    have hget : s[k]? = some c := by rw [hse, hk]; simp
    have hw : IntKind.i64.wrap ((k : Int) + 1) = (k : Int) + 1 := wrap_mid (by omega) (by omega)
    have hwi : IntKind.i64.wrap ((i : Int) + 1) = (i : Int) + 1 := wrap_mid (by omega) (by omega)
    rw [loopD_one]
    by_cases hb : badB c = true
    · by_cases h1 : 126 < c
      · have e1 : (126 : Int) < c := by omega
        simp [rkB, execD, runB_op, runB_nil, stepB, guardA, o, semAll, AO.map, AO.cls, evX, tmE, pushE, semP, semN, semR, semE, binV, binI, binS, pickE, retsD, retV, hlt, hix, hget, hwi, e1, hb]
      · have e1 : ¬ (126 : Int) < c := by omega
        have e1' : (c : Int) ≤ 126 := by omega
        have h2 : c < 32 ∧ c ≠ 9 := by
          unfold badB at hb
          simp at hb
          omega
        have e2 : (c : Int) < 32 := by omega
        have e3 : ((c : Int) != 9) = true := by simp; omega
        simp [rkB, execD, runB_op, runB_nil, stepB, guardA, o, semAll, AO.map, AO.cls, evX, tmE, pushE, semP, semN, semR, semE, binV, binI, binS, pickE, retsD, retV, hlt, hix, hget, hwi, e1, e1', e2, e3, hb]
    · have hr := rk_loop call n s hs vo va i hi h r (pre ++ [c]) m (k + 1) (by rw [hse]; simp) (by simp; omega) (by simp at hm; omega)
      have hbf : badB c = false := by simpa using hb
      have h1 : ¬ 126 < c := by
        intro e
        simp [badB, e] at hbf
      have e1 : ¬ (126 : Int) < c := by omega
      have e1' : (c : Int) ≤ 126 := by omega
      have hx : execD call n rkB [vo, va, .i .i64 (i : Nat), .s s, .i .i64 (k : Nat)] h = some (.nrm [vo, va, .i .i64 (i : Nat), .s s, .i .i64 ((k + 1 : Nat) : Int)], h) := by
        by_cases h9 : c = 9
        · subst h9
          simp [rkB, execD, runB_op, runB_nil, stepB, guardA, o, semAll, AO.map, AO.cls, evX, tmE, pushE, semP, semN, semR, semE, binV, binI, binS, pickE, retsD, retV, hlt, hix, hget, hw, e1, e1']
        · have h3 : ¬ c < 32 := by
            intro e
            simp [badB, e, h9] at hbf
          have e2 : ¬ (c : Int) < 32 := by omega
          have e2' : (32 : Int) ≤ c := by omega
          simp [rkB, execD, runB_op, runB_nil, stepB, guardA, o, semAll, AO.map, AO.cls, evX, tmE, pushE, semP, semN, semR, semE, binV, binI, binS, pickE, retsD, retV, hlt, hix, hget, hw, e1, e1', e2, e2']
      rw [hx]
      simp only [List.any_cons, hbf, Bool.false_or]
      exact hr
/-- A row's last element stored anew. -/
theorem arLast {h : H} {v : V} {a : List (List Nat)} {w : List Nat} {B : Nat} (ar : AR h v 1 (strs (a ++ [w])) B) : ∃ cap xf cs q, v = .sl B 0 (a.length + 1) cap xf ∧ h.get B = some (.c cs 0 q) ∧ cs[a.length]? = some (.s w) ∧
    ∀ x, ∃ h', stAt h B a.length [.s x] = some h' ∧ AR h' v 1 (strs (a ++ [x])) B ∧ h'.nx = h.nx ∧ ∀ j, j ≠ B → h'.get j = h.get j := by
  obtain ⟨len, cap, xf, cs, q, rfl, hg, hq, hxf, hlc, hcs, htk, hcl⟩ := ar.ex
  have hlen : len = a.length + 1 := by
    simp [strs] at hcl
    omega
  subst hlen
  simp only [Nat.mul_one] at hcs htk hcl
  have hget : cs[a.length]? = some (.s w) := by
    have : (cs.take (a.length + 1))[a.length]? = some (.s w) := by
      rw [htk]
      simp [strs]
    rw [List.getElem?_take] at this
    simpa using this
  refine ⟨cap, xf, cs, q, rfl, hg, hget, fun x => ⟨h.put B (some (.c (cs.set a.length (.s x)) 0 q)), ?_, ?_, rfl, fun j hj => by rw [H.get_put, if_neg hj]⟩⟩
  · have c2 : ¬ (2 ≤ q % 4 ∨ a.length < 0 ∨ cs.length < a.length + [V.s x].length ∨ (!([V.s x].all V.one)) = true) := by
      simp [V.one]
      omega
    show (match h.get B with | some (.c cs fz q) => if 2 ≤ q % 4 ∨ a.length < fz ∨ cs.length < a.length + [V.s x].length ∨ (!([V.s x].all V.one)) = true then none else some (h.put B (some (.c (layAt cs a.length [V.s x]) fz q))) | _ => none) = _
    rw [hg]
    simp only [if_neg c2]
    rfl
  · refine ⟨⟨a.length + 1, cap, xf, cs.set a.length (.s x), q, rfl, by rw [H.get_put, if_pos rfl], hq, hxf, hlc, by simp [hcs], ?_, by simp [strs]⟩⟩
    have e1 : (strs a).length = a.length := by simp [strs]
    rw [Nat.mul_one, List.take_set, htk]
    have e2 : strs (a ++ [w]) = strs a ++ [V.s w] := by simp [strs]
    rw [e2, ← e1, List.set_append_right _ _ (Nat.le_refl _)]
    simp [strs]
theorem st_call {B b : Nat} {x : V} {h : H} : semE (.st (.p B b) x) h = (stAt h B b [x]).map (.tu [], ·) := rfl
/-- A blank or a tab. -/
def blk (c : Nat) : Bool := decide (c = 32) || decide (c = 9)
/-- The words behind the words ws, the last of them open or not. -/
def rwL : List Nat → Bool → List (List Nat) → List (List Nat)
  | [], _, ws => ws
  | c :: r, inn, ws => if blk c = true then rwL r false ws else if inn = true then rwL r true (ws.dropLast ++ [ws.getLastD [] ++ [c]]) else rwL r true (ws ++ [[c]])
set_option maxHeartbeats 4000000 in
theorem rw_loop (call : CallF) (n m0 : Nat) (s : List Nat) (hs : s.length < 1000) (vo va vi : V) : ∀ (r pre : List Nat) (m k : Nat) (v : V) (bo : Option Nat) (h : H) (ws : List (List Nat)) (inn : Bool),
    s = pre ++ r → k = pre.length → r.length < m → AN h v 1 (strs ws) bo → (inn = true → ws ≠ []) → (∀ B, bo = some B → m0 ≤ B) → m0 ≤ h.nx → ws.length + r.length < 100000 → (∀ w ∈ ws, w.length ≤ pre.length) →
    ∃ v' bo' h', loopD (execD call n rwB) m [vo, va, vi, .s s, v, .b inn, .i .i64 (k : Nat)] h = some (.exit 4 [vo, va, vi, .s s, v'], h') ∧ AN h' v' 1 (strs (rwL r inn ws)) bo' ∧ (∀ B, bo' = some B → m0 ≤ B) ∧ h.nx ≤ h'.nx ∧ ∀ j, j < m0 → h'.get j = h.get j
  | [], pre, m, k, v, bo, h, ws, inn, hse, hk, hm, han, hin, hbo, hm0, hlen, hwl => by
    obtain ⟨m, rfl⟩ : ∃ q, m = q + 1 := ⟨m - 1, by simp at hm; omega⟩
    have hlt : ¬ (k : Int) < (s.length : Int) := by rw [hse, hk]; simp
    have hle : (s.length : Int) ≤ (k : Int) := by omega
    refine ⟨v, bo, h, ?_, han, hbo, Nat.le_refl _, fun _ _ => rfl⟩
    rw [loopD_one]
    simp [rwB, execD, runB_op, runB_nil, stepB, guardA, o, semAll, AO.map, AO.cls, evX, tmE, pushE, semP, semN, semR, semE, binV, binI, binS, pickE, retsD, retV, hlt, hle]
  | c :: r, pre, m, k, v, bo, h, ws, inn, hse, hk, hm, han, hin, hbo, hm0, hlen, hwl => by
    obtain ⟨m, rfl⟩ : ∃ q, m = q + 1 := ⟨m - 1, by simp at hm; omega⟩
    have hsl : s.length = pre.length + (r.length + 1) := by rw [hse]; simp
    have hlt : (k : Int) < (s.length : Int) := by omega
    have hix : idx (k : Int) s.length = some k := by
      unfold idx
      rw [if_pos (by omega)]
      simp
    have hget : s[k]? = some c := by rw [hse, hk]; simp
    have hw : IntKind.i64.wrap ((k : Int) + 1) = (k : Int) + 1 := wrap_mid (by omega) (by omega)
    have hm' : r.length < m := by simp at hm; omega
    have hlen' : ws.length + r.length + 1 < 100000 := by simp at hlen; omega
    have hse' : s = (pre ++ [c]) ++ r := by rw [hse]; simp
    have hpl : (pre ++ [c]).length = pre.length + 1 := by simp
    have ek : ((k + 1 : Nat) : Int) = (k : Int) + 1 := by omega
    by_cases hb : blk c = true
    · obtain ⟨v', bo', h', hr, q1, q2, q3, q4⟩ := rw_loop call n m0 s hs vo va vi r (pre ++ [c]) m (k + 1) v bo h ws false hse' (by omega) hm' han (by simp) hbo hm0 (by omega) (fun w hw => by have := hwl w hw; omega)
      refine ⟨v', bo', h', ?_, by simpa [rwL, hb] using q1, q2, q3, q4⟩
      rw [ek] at hr
      rw [loopD_one, ← hr]
      by_cases h32 : c = 32
      · subst h32
        simp [rwB, execD, runB_op, runB_nil, stepB, guardA, o, semAll, AO.map, AO.cls, evX, tmE, pushE, semP, semN, semR, semE, binV, binI, binS, pickE, retsD, retV, unV, hlt, hix, hget, hw]
      · have h9 : c = 9 := by
          unfold blk at hb
          simp at hb
          omega
        subst h9
        simp [rwB, execD, runB_op, runB_nil, stepB, guardA, o, semAll, AO.map, AO.cls, evX, tmE, pushE, semP, semN, semR, semE, binV, binI, binS, pickE, retsD, retV, unV, hlt, hix, hget, hw]
    · have hbf : blk c = false := by simpa using hb
      have f1 : ((c : Int) == 32) = false := by
        simp
        intro e
        have : c = 32 := by omega
        subst this
        simp [blk] at hbf
      have f2 : ((c : Int) == 9) = false := by
        simp
        intro e
        have : c = 9 := by omega
        subst this
        simp [blk] at hbf
      have hbn : bnds s.length s.length (some (.i .i64 (k : Int))) (some (.i .i64 ((k : Int) + 1))) = some (k, k + 1) := by
        have c1 : (0 : Int) ≤ (k : Int) + 1 := by omega
        have c2 : (k : Int) + 1 ≤ (s.length : Int) := by omega
        have c3 : ((k : Int) + 1).toNat = k + 1 := by omega
        have c4 : (k : Int) ≤ (k : Int) + 1 := by omega
        simp [bnds, hiV, loV, c1, c2, c3, c4]
      have hcut : (s.drop k).take 1 = [c] := by rw [hse, hk]; simp
      cases inn with
      | true =>
        have hne := hin rfl
        rcases List.eq_nil_or_concat ws with rfl | ⟨a, w, rfl⟩
        · exact absurd rfl hne
        · simp only [List.concat_eq_append] at *
          cases bo with
          | none =>
            have := han.2
            simp [strs] at this
          | some B =>
            obtain ⟨ar, hBn⟩ := han
            obtain ⟨cap, xf, cs, q, rfl, hg, hcs, hset⟩ := arLast ar
            obtain ⟨h2, hst, ar2, hnx2, hfr2⟩ := hset (w ++ [c])
            have hwlen : w.length ≤ pre.length := hwl w (by simp)
            obtain ⟨v', bo', h', hr, q1, q2, q3, q4⟩ := rw_loop call n m0 s hs vo va vi r (pre ++ [c]) m (k + 1) _ (some B) h2 (a ++ [w ++ [c]]) true hse' (by omega) hm' ⟨ar2, by omega⟩ (by simp) hbo (by omega) (by simp at hlen' ⊢; omega)
              (fun x hx => by
                rw [List.mem_append] at hx
                rcases hx with hx | hx
                · have := hwl x (by simp [hx])
                  omega
                · simp only [List.mem_singleton] at hx
                  subst hx
                  simp
                  omega)
            refine ⟨v', bo', h', ?_, by simpa [rwL, hbf] using q1, q2, by omega, fun j hj => ?_⟩
            · rw [ek] at hr
              rw [loopD_one, ← hr]
              have hwa : IntKind.i64.wrap (a.length : Int) = (a.length : Int) := wrap_mid (by omega) (by simp at hlen'; omega)
              have hia : idx (a.length : Int) (a.length + 1) = some a.length := by
                unfold idx
                rw [if_pos (by omega)]
                simp
              have hadd : w.length + 1 < 4611686018427387904 := by omega
              simp [rwB, execD, runB_op, runB_nil, stepB, guardA, o, semAll, AO.map, AO.cls, evX, tmE, pushE, semP, semN, semR, semE, binV, binI, binS, pickE, retsD, retV, unV, hlt, hix, hget, hw, f1, f2, hbn, hcut, hwa, hia, hg, hcs, hst, hadd]
            · rw [q4 j hj, hfr2 j (by have := hbo B rfl; omega)]
      | false =>
        let h1 := h.new (.c [.s []] 0 0)
        have han1 : AN h1 v 1 (strs ws) bo := han.frame (fun B _ hB => by show (h.new _).get B = _; rw [H.get_new, if_neg (by omega)]) (by show h.nx ≤ h.nx + 1; omega)
        obtain ⟨v2, h3, B', happ, har3, hB', hB'n, hnx3, hfr3⟩ := han1.app (tg := 40) (bytes := 16) (news := [.s []]) (Bn := h.nx) (by omega) (by omega) (by omega) (by omega) (by simp [strs]; omega)
          (by show (h.new _).get h.nx = _; rw [H.get_new, if_pos rfl]) rfl rfl
        have hnx3' : h.nx + 1 ≤ h3.nx := hnx3
        have hst : strs ws ++ [V.s []] = strs (ws ++ [[]]) := by simp [strs]
        rw [hst] at har3
        have hmB' : m0 ≤ B' := by
          rcases hB' with ⟨e1, _⟩ | e1
          · exact hbo B' e1
          · have : B' = h.nx + 1 := e1
            omega
        obtain ⟨cap, xf, cs, q, rfl, hg, hcs, hset⟩ := arLast har3
        obtain ⟨h4, hst4, ar4, hnx4, hfr4⟩ := hset [c]
        obtain ⟨v', bo', h', hr, q1, q2, q3, q4⟩ := rw_loop call n m0 s hs vo va vi r (pre ++ [c]) m (k + 1) _ (some B') h4 (ws ++ [[c]]) true hse' (by omega) hm' ⟨ar4, by omega⟩ (by simp) (by intro B e; injection e with e; omega) (by omega) (by simp; omega)
          (fun x hx => by
            rw [List.mem_append] at hx
            rcases hx with hx | hx
            · have := hwl x hx
              omega
            · simp only [List.mem_singleton] at hx
              subst hx
              simp)
        refine ⟨v', bo', h', ?_, by simpa [rwL, hbf] using q1, q2, by omega, fun j hj => ?_⟩
        · rw [ek] at hr
          have hwa : IntKind.i64.wrap (ws.length : Int) = (ws.length : Int) := wrap_mid (by omega) (by omega)
          have hia : idx (ws.length : Int) (ws.length + 1) = some ws.length := by
            unfold idx
            rw [if_pos (by omega)]
            simp
          simp only [h1] at happ
          have hx : execD call n rwB [vo, va, vi, .s s, v, .b false, .i .i64 (k : Nat)] h = some (.nrm [vo, va, vi, .s s, .sl B' 0 (ws.length + 1) cap xf, .b true, .i .i64 ((k : Int) + 1)], h4) := by
            simp [rwB, execD, runB_op, runB_nil, stepB, guardA, o, app_call, st_call, semAll, AO.map, AO.cls, evX, tmE, pushE, semP, semN, semR, binV, binI, binS, pickE, retsD, retV, V.cells, fillV, layAt, V.one, rept_n1, unV, hlt, hix, hget, hw, f1, f2, hbn, hcut, hwa, hia, hg, hcs, happ, hst4]
          rw [loopD_one, hx]
          exact hr
        · rw [q4 j hj, hfr4 j (by omega), hfr3 j (fun e => by have := hbo j e; omega) (by show j < h.nx + 1; omega)]
          show (h.new _).get j = _
          rw [H.get_new, if_neg (by omega)]
end Go.Proofs.YtmbpjpffafidhaaGreatDoor
