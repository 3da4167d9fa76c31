/- CoreMark: the law's first loop. -/
import Derived.Test.YtmbpjpffafidhaaGreatDoorCmMark4
import Derived.Test.YtmbpjpffafidhaaGreatDoorCmNum
namespace Go.Proofs.YtmbpjpffafidhaaGreatDoor
open Go Go.Ev
set_option maxRecDepth 100000
set_option linter.unusedSimpArgs false
variable {F : Nat → Option FN}
def cmB : BC := (.post (.seq (.seq (.reg [o 20 (.len false (.t 0)), o 21 (.bin .lss (.t 8) (.t 0)), .op ⟨(some 23), (some (0, true)), .mv (.t 9)⟩, .op ⟨(some 24), (some (1, true)), .bin .lss (.t 0) (.k (.i .i64 12))⟩, o 25 (.pick (.t 2) (.t 0) (.k (.b false)))]) (.cond (.t 0) .skip (.pre [4, 5, 7, 8] [6, 7, 9, 10] (.exit 0)))) (.seq (.block 1 [0, 4, 5, 6, 7, 8, 9, 10] (.seq (.reg [o 29 (.bin .add (.t 11) (.k (.i .i64 1)))]) (.seq (.reg [o 32 (.ia 1 (.t 6) (.t 13)), o 33 (.ld (.t 0)), o 34 (.bin .rem (.t 0) (.k (.i .i64 4))), o 35 (.bin .add (.t 0) (.k (.i .i64 4))), o 36 (.bin .rem (.t 0) (.k (.i .i64 4)))]) (.block 2 [0, 4, 5, 6, 7, 8, 9, 10] (.seq (.reg [o 48 (.bin .eql (.t 0) (.k (.i .i64 0)))]) (.cond (.t 0) (.post (.seq (.reg [o 50 (.bin .add (.t 13) (.k (.s [32, 77, 32, 39, 77, 65, 82, 75, 69, 82, 39, 32, 39, 73, 78, 84, 79, 82, 71, 39, 10])))]) (.seq (.seq (.reg [.op ⟨(some 53), (some (16, true)), .mv (.t 17)⟩, .op ⟨(some 54), (some (17, true)), .un .not (.t 0)⟩, o 55 (.pick (.t 18) (.t 0) (.k (.b false)))]) (.cond (.t 0) (.post (.reg [o 7 (.mv (.k (.b true)))]) [0, 4, 5, 7, 8, 9, 10] [17, 4, 19, 0, 11, 11, 24]) (.post .skip [0, 4, 5, 7, 8, 9, 10] [16, 3, 18, 20, 21, 10, 23]))) (.reg [o 6 (.mv (.k (.b true)))]))) [0, 4, 5, 6, 7, 8, 9, 10] [1, 2, 3, 0, 4, 5, 6, 7]) (.seq (.reg [o 58 (.bin .eql (.t 1) (.k (.i .i64 1)))]) (.cond (.t 0) (.post (.seq (.reg [o 60 (.bin .add (.t 14) (.k (.s [32, 77, 32, 39, 77, 65, 82, 75, 69, 82, 39, 32, 39, 73, 78, 84, 69, 78, 68, 39, 10])))]) (.seq (.seq (.post (.reg [o 62 (.un .not (.t 17)), .op ⟨(some 64), (some (0, true)), .mv (.t 19)⟩, .op ⟨(some 65), (some (1, true)), .un .not (.t 0)⟩, o 66 (.pick (.t 2) (.t 0) (.k (.b false)))]) [0, 4, 5, 7, 8, 9, 10, 66] [18, 4, 20, 22, 23, 12, 25, 0]) (.cond (.t 7) (.post (.reg [o 7 (.mv (.k (.b true)))]) [0, 4, 5, 7, 8, 9, 10] [1, 2, 3, 0, 6, 6, 7]) (.post .skip [0, 4, 5, 7, 8, 9, 10] [0, 1, 2, 3, 4, 5, 6]))) (.reg [o 6 (.mv (.k (.b false)))]))) [0, 4, 5, 6, 7, 8, 9, 10] [1, 2, 3, 0, 4, 5, 6, 7]) (.post (.seq (.post (.reg [o 39 (.call 16 [(.t 20)]), o 40 (.bin .add (.k (.s [32, 120])) (.t 0)), o 41 (.bin .add (.t 0) (.k (.s [32, 114, 32, 49, 10]))), o 42 (.bin .add (.t 17) (.t 0))]) [0, 4, 5, 6, 7, 8, 9, 10] [17, 0, 19, 20, 21, 22, 11, 24]) (.reg [o 45 (.bsl 1 1 [(.b false)] [(0, 1, (.t 3))]), o 46 (.app 20 1 1 (.t 3) (.t 0))])) [0, 4, 5, 6, 7, 8, 9, 10] [2, 3, 0, 5, 6, 7, 8, 9]))))))))) (.reg [o 27 (.bin .add (.t 7) (.k (.i .i64 1)))]))) [0, 4, 5, 6, 7, 8, 9, 10] [1, 2, 3, 4, 5, 6, 7, 0])
def cmC : BC := (.post (.seq (.reg [o 96 (.bin .lss (.t 3) (.t 2))]) (.seq (.cond (.t 0) .skip (.pre [] [] (.exit 3))) (.seq (.block 4 [5, 11, 94, 95] (.post (.seq (.reg []) (.seq (.reg [o 98 (.fa 3 (.t 2)), o 99 (.ld (.t 0)), o 101 (.ia 5 (.t 0) (.t 6)), o 102 (.fa 4 (.t 0)), o 103 (.ld (.t 0)), o 106 (.ia 1 (.t 6) (.t 9)), o 107 (.ld (.t 0)), o 108 (.eq 0 true (.t 2) (.t 0))]) (.cond (.t 0) (.seq (.post (.reg [o 2 (.mv (.k (.b false)))]) [2] [0]) (.ret [.mv (.t 0)])) .skip))) [5, 11, 94, 95] [9, 10, 11, 12])) (.reg [o 109 (.bin .add (.t 3) (.k (.i .i64 1)))])))) [5, 11, 94, 95] [1, 2, 3, 0])
theorem c_cm : c9 = (.seq (.reg [o 2 (.mv (.k (.b false)))]) (.seq (.reg [o 15 (.call 10 [])]) (.seq (.seq (.reg [o 17 (.un .not (.t 0))]) (.cond (.t 0) (.seq (.reg [o 2 (.mv (.k (.b false)))]) (.ret [.mv (.t 0)])) .skip)) (.seq (.reg [o 4 (.mv (.k (.s [78, 65, 77, 69, 32, 65, 10, 82, 79, 87, 83, 10, 32, 78, 32, 111, 10, 32, 76, 32, 114, 10, 67, 79, 76, 85, 77, 78, 83, 10])))]) (.seq (.reg [o 5 (.mv (.k .sn))]) (.seq (.reg [o 6 (.mv (.k (.b false))), o 7 (.mv (.k (.b false))), o 8 (.mv (.k (.i .i64 0)))]) (.seq (.reg [o 9 (.mv (.k (.i .i64 5)))]) (.seq (.seq (.reg [o 10 (.mv (.k (.i .i64 0)))]) (.block 0 [4, 5, 7, 8] (.pre [0, 4, 5, 6, 7, 8, 9, 10] [10, 6, 5, 4, 3, 2, 1, 0] (.loop cmB)))) (.seq (.reg [o 70 (.bin .add (.t 0) (.k (.s [82, 72, 83, 10, 69, 78, 68, 65, 84, 65, 10]))), o 71 (.call 22 [(.t 0)]), o 72 (.ext 0 (.t 0)), o 73 (.ext 1 (.t 1)), o 74 (.ext 2 (.t 2)), o 11 (.alloc 212 [(.s []), (.s []), .sn, .sn]), .op ⟨none, none, .stn 4 (.t 0) (.t 3)⟩]) (.seq (.seq (.reg []) (.cond (.t 8) (.seq (.post (.reg [o 77 (.bin .eql (.t 1) (.k (.i .i64 5))), .op ⟨(some 79), (some (0, true)), .mv (.t 3)⟩, .op ⟨(some 80), (some (1, true)), .mv (.t 11)⟩, .op ⟨(some 81), (some (2, true)), .bin .eql (.t 1) (.t 0)⟩, o 82 (.pick (.t 3) (.t 0) (.k (.b false)))]) [2] [0]) (.ret [.mv (.t 0)])) .skip)) (.seq (.seq (.post (.reg [o 84 (.bin .neq (.t 1) (.k (.i .i64 0))), .op ⟨(some 86), (some (0, false)), .fa 3 (.t 1)⟩, .op ⟨(some 87), (some (1, false)), .ld (.t 0)⟩, .op ⟨(some 88), (some (2, false)), .len false (.t 0)⟩, .op ⟨(some 89), (some (3, false)), .mv (.t 11)⟩, .op ⟨(some 90), (some (4, false)), .len false (.t 0)⟩, .op ⟨(some 91), (some (5, false)), .bin .neq (.t 2) (.t 0)⟩, o 92 (.pick (.t 6) (.k (.b true)) (.t 0))]) [5, 11, 92] [15, 8, 0]) (.cond (.t 2) (.seq (.reg [o 2 (.mv (.k (.b false)))]) (.ret [.mv (.t 0)])) .skip)) (.seq (.seq (.reg [o 94 (.len false (.t 0)), o 95 (.mv (.k (.i .i64 0)))]) (.block 3 [] (.pre [5, 11, 94, 95] [2, 3, 1, 0] (.loop cmC)))) (.seq (.reg [o 2 (.mv (.k (.b true)))]) (.ret [.mv (.t 0)])))))))))))))) := rfl
theorem idx_it {i N : Nat} (h : i < N) : idx (i : Int) N = some i := by
  unfold idx
  rw [if_pos (by omega)]
  rfl
theorem bin_add {a b : List Nat} (h : a.length + b.length < 4611686018427387904) : binS .add a b = some (.s (a ++ b)) := if_pos h
theorem mod4 (z : Int) : IntKind.i64.wrap (z.tmod 4 + 4) = z.tmod 4 + 4 ∧ ((z.tmod 4 + 4).tmod 4 = 0 ∨ (z.tmod 4 + 4).tmod 4 = 1 ∨ (z.tmod 4 + 4).tmod 4 = 2 ∨ (z.tmod 4 + 4).tmod 4 = 3) := by
  have h1 := Int.tmod_lt_of_pos z (show (0 : Int) < 4 by decide)
  have h2 := Int.lt_tmod_of_pos z (show (0 : Int) < 4 by decide)
  refine ⟨wrap_mid (by omega) (by omega), ?_⟩
  have h3 := (md_lt z (show (0 : Int) < 4 by decide))
  unfold md at h3
  omega
section
variable {call : CallF} {n B N cap i : Nat} {S : List Nat} {want : V} {ig bad : Bool} {at_ line : Int} {h h1 h3 : H} {cells : List V} {z : Int}
theorem cm_end {ks : V} (hk : (ks = .sn ∧ N = 0) ∨ ∃ B cap, ks = .sl B 0 N cap 0) (hi : N ≤ i ∨ 12 ≤ i) : execD call n cmB [ks, .s S, want, .b ig, .b bad, .i .i64 at_, .i .i64 line, .i .i64 (i : Int)] h = some (.exit 0 [.s S, want, .b bad, .i .i64 at_], h) := by
  rcases hk with ⟨rfl, rfl⟩ | ⟨B, cap, rfl⟩
  · have e : ¬ (i : Int) < 0 := by omega
    simp [cmB, execD, runB_op, runB_nil, stepB, guardA, o, semAll, AO.map, AO.cls, evX, tmE, pushE, semP, semN, semR, semE, binV, binI, binS, pickE, retsD, retV, e]
  · by_cases hN : N ≤ i
    · have e : ¬ (i : Int) < N := by omega
      simp [cmB, execD, runB_op, runB_nil, stepB, guardA, o, semAll, AO.map, AO.cls, evX, tmE, pushE, semP, semN, semR, semE, binV, binI, binS, pickE, retsD, retV, e]
    · have e : (i : Int) < N := by omega
      have e2 : ¬ (i : Int) < 12 := by omega
      simp [cmB, execD, runB_op, runB_nil, stepB, guardA, o, semAll, AO.map, AO.cls, evX, tmE, pushE, semP, semN, semR, semE, binV, binI, binS, pickE, retsD, retV, e, e2]
theorem cm_org (hi : i < N) (hi2 : i < 12) (hg : h.get B = some (.c cells 0 2)) (hc : cells[i]? = some (.i .i64 z)) (hz : (z.tmod 4 + 4).tmod 4 = 0) (hS : S.length < 1000) (hl : line = 5 + (i : Int)) :
    execD call n cmB [.sl B 0 N cap 0, .s S, want, .b ig, .b bad, .i .i64 at_, .i .i64 line, .i .i64 (i : Int)] h = some (.nrm [.sl B 0 N cap 0, .s (S ++ (itemL .org i ++ [10])), want, .b true, .b (bad || ig), .i .i64 (if ig && !bad then line + 1 else at_), .i .i64 (line + 1), .i .i64 ((i + 1 : Nat) : Int)], h) := by
  have e : (i : Int) < N := by omega
  have e2 : (i : Int) < 12 := by omega
  have hw : IntKind.i64.wrap ((i : Int) + 1) = (i : Int) + 1 := wrap_mid (by omega) (by omega)
  have hw2 : IntKind.i64.wrap (line + 1) = line + 1 := wrap_mid (by omega) (by omega)
  have hx := idx_it hi
  have hm := (mod4 z).1
  have ea : binS .add S [32, 77, 32, 39, 77, 65, 82, 75, 69, 82, 39, 32, 39, 73, 78, 84, 79, 82, 71, 39, 10] = some (.s (S ++ (itemL .org i ++ [10]))) := bin_add (by simp; omega)
  cases ig <;> cases bad <;> simp [cmB, execD, runB_op, runB_nil, stepB, guardA, o, semAll, AO.map, AO.cls, evX, tmE, pushE, semP, semN, semR, semE, binV, binI, pickE, retsD, retV, unV, e, e2, hx, hg, hc, hm, hz, ea, hw, hw2]
theorem cm_fin (hi : i < N) (hi2 : i < 12) (hg : h.get B = some (.c cells 0 2)) (hc : cells[i]? = some (.i .i64 z)) (hz : (z.tmod 4 + 4).tmod 4 = 1) (hS : S.length < 1000) (hl : line = 5 + (i : Int)) :
    execD call n cmB [.sl B 0 N cap 0, .s S, want, .b ig, .b bad, .i .i64 at_, .i .i64 line, .i .i64 (i : Int)] h = some (.nrm [.sl B 0 N cap 0, .s (S ++ (itemL .fin i ++ [10])), want, .b false, .b (bad || !ig), .i .i64 (if !ig && !bad then line + 1 else at_), .i .i64 (line + 1), .i .i64 ((i + 1 : Nat) : Int)], h) := by
  have e : (i : Int) < N := by omega
  have e2 : (i : Int) < 12 := by omega
  have hw : IntKind.i64.wrap ((i : Int) + 1) = (i : Int) + 1 := wrap_mid (by omega) (by omega)
  have hw2 : IntKind.i64.wrap (line + 1) = line + 1 := wrap_mid (by omega) (by omega)
  have hx := idx_it hi
  have hm := (mod4 z).1
  have ea : binS .add S [32, 77, 32, 39, 77, 65, 82, 75, 69, 82, 39, 32, 39, 73, 78, 84, 69, 78, 68, 39, 10] = some (.s (S ++ (itemL .fin i ++ [10]))) := bin_add (by simp; omega)
  cases ig <;> cases bad <;> simp [cmB, execD, runB_op, runB_nil, stepB, guardA, o, semAll, AO.map, AO.cls, evX, tmE, pushE, semP, semN, semR, semE, binV, binI, pickE, retsD, retV, unV, e, e2, hx, hg, hc, hm, hz, ea, hw, hw2]
theorem cm_col (hi : i < N) (hi2 : i < 12) (hg : h.get B = some (.c cells 0 2)) (hc : cells[i]? = some (.i .i64 z)) (hz : (z.tmod 4 + 4).tmod 4 = 2 ∨ (z.tmod 4 + 4).tmod 4 = 3) (hS : S.length < 1000) (hl : line = 5 + (i : Int))
    (hnum : call 16 [.i .i64 (i : Int)] h = some (.s (decL i), h1)) {w' : V} (ha : semE (.app 20 1 1 want (.sl h1.nx 0 1 1 0)) (h1.new (.c [.b ig] 0 0)) = some (w', h3)) :
    execD call n cmB [.sl B 0 N cap 0, .s S, want, .b ig, .b bad, .i .i64 at_, .i .i64 line, .i .i64 (i : Int)] h = some (.nrm [.sl B 0 N cap 0, .s (S ++ (itemL .col i ++ [10])), w', .b ig, .b bad, .i .i64 at_, .i .i64 (line + 1), .i .i64 ((i + 1 : Nat) : Int)], h3) := by
  have e : (i : Int) < N := by omega
  have e2 : (i : Int) < 12 := by omega
  have hw : IntKind.i64.wrap ((i : Int) + 1) = (i : Int) + 1 := wrap_mid (by omega) (by omega)
  have hw2 : IntKind.i64.wrap (line + 1) = line + 1 := wrap_mid (by omega) (by omega)
  have hx := idx_it hi
  have hm := (mod4 z).1
  have hd : (decL i).length ≤ 2 := by
    unfold decL
    split <;> simp
  have a1 : binS .add [32, 120] (decL i) = some (.s (32 :: 120 :: decL i)) := bin_add (a := [32, 120]) (by simp; omega)
  have a2 : binS .add (32 :: 120 :: decL i) [32, 114, 32, 49, 10] = some (.s (32 :: 120 :: (decL i ++ [32, 114, 32, 49, 10]))) := by
    rw [bin_add (by simp; omega)]
    rfl
  have a3 : binS .add S (32 :: 120 :: (decL i ++ [32, 114, 32, 49, 10])) = some (.s (S ++ (itemL .col i ++ [10]))) := by
    rw [bin_add (by simp; omega)]
    simp [itemL]
  rcases hz with hz | hz <;> simp [-List.append_assoc, cmB, execD, runB_op, runB_nil, stepB, guardA, o, app_call, semAll, AO.map, AO.cls, evX, tmE, pushE, semP, semN, semR, binV, binI, pickE, retsD, retV, unV, V.cells, fillV, layAt, V.one, rept_n1, rept, e, e2, hx, hg, hc, hm, hz, hnum, a1, a2, a3, ha, hw, hw2]
end
/-- What the law knows of its text so far. -/
structure CM (m0 : Nat) (h : H) (its : List It) (want : V) (ig bad : Bool) (at_ : Int) : Prop where
  row : ∃ ws bo, AN h want 1 (ws.map V.b) bo ∧ ws.length ≤ its.length ∧ (∀ B, bo = some B → m0 ≤ B) ∧ ∀ j ig' cols, its.foldl stIt (.ok (0, false, [])) = .ok (j, ig', cols) → ws = cols.map (·.2) ∧ ig = ig' ∧ bad = false ∧ j = its.length
  err : ∀ e, its.foldl stIt (.ok (0, false, [])) = .error e → bad = true ∧ at_ = ((6 + e : Nat) : Int)
theorem ok_len : ∀ (its : List It) (j : Nat) (ig : Bool) (cols : List (List Nat × Bool)) (st : Nat × Bool × List (List Nat × Bool)), its.foldl stIt (.ok (j, ig, cols)) = .ok st → st.1 = j + its.length
  | [], j, ig, cols, st, h => by
    simp only [List.foldl_nil, Except.ok.injEq] at h
    rw [← h]
    rfl
  | x :: its, j, ig, cols, st, h => by
    simp only [List.foldl_cons] at h
    cases hs : stIt (.ok (j, ig, cols)) x with
    | error e => rw [hs, stit_err] at h; cases h
    | ok s =>
      obtain ⟨j', ig', cols'⟩ := s
      rw [hs] at h
      have := ok_len its j' ig' cols' st h
      have hj : j' = j + 1 := by
        cases x <;> simp only [stIt] at hs
        · split at hs
          · cases hs
          · simp only [Except.ok.injEq, Prod.mk.injEq] at hs
            exact hs.1.symm
        · split at hs
          · simp only [Except.ok.injEq, Prod.mk.injEq] at hs
            exact hs.1.symm
          · cases hs
        · simp only [Except.ok.injEq, Prod.mk.injEq] at hs
          exact hs.1.symm
      simp only [List.length_cons]
      omega
theorem err_lt : ∀ (its : List It) (j : Nat) (ig : Bool) (cols : List (List Nat × Bool)) (e : Nat), its.foldl stIt (.ok (j, ig, cols)) = .error e → e < j + its.length
  | [], j, ig, cols, e, h => by simp at h
  | x :: its, j, ig, cols, e, h => by
    simp only [List.foldl_cons] at h
    simp only [List.length_cons]
    cases hs : stIt (.ok (j, ig, cols)) x with
    | error e2 =>
      rw [hs, stit_err] at h
      injection h with h
      cases x <;> simp only [stIt] at hs
      · split at hs
        · injection hs with hs
          omega
        · cases hs
      · split at hs
        · cases hs
        · injection hs with hs
          omega
      · cases hs
    | ok s =>
      obtain ⟨j', ig', cols'⟩ := s
      rw [hs] at h
      have := err_lt its j' ig' cols' e h
      have hj : j' = j + 1 := by
        cases x <;> simp only [stIt] at hs
        · split at hs
          · cases hs
          · simp only [Except.ok.injEq, Prod.mk.injEq] at hs
            exact hs.1.symm
        · split at hs
          · simp only [Except.ok.injEq, Prod.mk.injEq] at hs
            exact hs.1.symm
          · cases hs
        · simp only [Except.ok.injEq, Prod.mk.injEq] at hs
          exact hs.1.symm
      omega
/-- One more line. -/
theorem CM.mark {m0 : Nat} {h : H} {its : List It} {want : V} {ig bad : Bool} {at_ : Int} (c : CM m0 h its want ig bad at_) (x : It) (hx : x = .org ∨ x = .fin) : CM m0 h (its ++ [x]) want (match x with | .org => true | _ => false) (bad || (match x with | .org => ig | _ => !ig)) (if (match x with | .org => ig | _ => !ig) && !bad then ((6 + its.length : Nat) : Int) else at_) := by
  obtain ⟨⟨ws, bo, an, hl, hbo, hok⟩, herr⟩ := c
  have hf : (its ++ [x]).foldl stIt (.ok (0, false, [])) = stIt (its.foldl stIt (.ok (0, false, []))) x := by simp
  cases hs : its.foldl stIt (.ok (0, false, [])) with
  | error e =>
    obtain ⟨h1, h2⟩ := herr e hs
    have h3 : (its ++ [x]).foldl stIt (.ok (0, false, [])) = .error e := by
      rw [hf, hs]
      cases x <;> rfl
    refine ⟨⟨ws, bo, an, by simp; omega, hbo, fun j ig' cols hk => ?_⟩, fun e' he => ?_⟩
    · rw [h3] at hk
      cases hk
    · rw [h3] at he
      injection he with he
      subst he
      rw [h1]
      simp [h2]
  | ok st =>
    obtain ⟨j, ig2, cols2⟩ := st
    obtain ⟨h1, h2, h3, h4⟩ := hok j ig2 cols2 hs
    subst h2
    subst h3
    have hf2 : (its ++ [x]).foldl stIt (.ok (0, false, [])) = stIt (.ok (j, ig, cols2)) x := by rw [hf, hs]
    refine ⟨⟨ws, bo, an, by simp; omega, hbo, fun j' ig' cols hk => ?_⟩, fun e' he => ?_⟩
    · rw [hf2] at hk
      rcases hx with rfl | rfl <;> cases hig : ig <;> rw [hig] at hk <;> simp [stIt] at hk
      · obtain ⟨rfl, rfl, rfl⟩ := hk
        exact ⟨h1, rfl, rfl, by simp [h4]⟩
      · obtain ⟨rfl, rfl, rfl⟩ := hk
        exact ⟨h1, rfl, rfl, by simp [h4]⟩
    · rw [hf2] at he
      rcases hx with rfl | rfl <;> cases hig : ig <;> rw [hig] at he <;> simp [stIt] at he
      · subst he
        simp [h4]
      · subst he
        simp [h4]
theorem CM.col {m0 : Nat} {h3 : H} {its : List It} {w' : V} {ig bad : Bool} {at_ : Int} {ws : List Bool} {bo' : Option Nat} (hl : ws.length ≤ its.length) (hok : ∀ j ig' cols, its.foldl stIt (.ok (0, false, [])) = .ok (j, ig', cols) → ws = cols.map (·.2) ∧ ig = ig' ∧ bad = false ∧ j = its.length)
    (herr : ∀ e, its.foldl stIt (.ok (0, false, [])) = .error e → bad = true ∧ at_ = ((6 + e : Nat) : Int)) (an' : AN h3 w' 1 (ws.map V.b ++ [.b ig]) bo') (hbo' : ∀ B, bo' = some B → m0 ≤ B) : CM m0 h3 (its ++ [.col]) w' ig bad at_ := by
  have hf : (its ++ [It.col]).foldl stIt (.ok (0, false, [])) = stIt (its.foldl stIt (.ok (0, false, []))) .col := by simp
  have e1 : ws.map V.b ++ [V.b ig] = (ws ++ [ig]).map V.b := by simp
  rw [e1] at an'
  refine ⟨⟨ws ++ [ig], bo', an', by simp; omega, hbo', fun j ig' cols hk => ?_⟩, fun e he => ?_⟩
  · rw [hf] at hk
    cases hs : its.foldl stIt (.ok (0, false, [])) with
    | error e => rw [hs] at hk; cases hk
    | ok st =>
      obtain ⟨j2, ig2, cols2⟩ := st
      rw [hs] at hk
      obtain ⟨h1, h2, h3, h4⟩ := hok j2 ig2 cols2 hs
      simp only [stIt, Except.ok.injEq, Prod.mk.injEq] at hk
      obtain ⟨rfl, rfl, rfl⟩ := hk
      exact ⟨by simp [h1, h2], h2, h3, by simp [h4]⟩
  · rw [hf] at he
    cases hs : its.foldl stIt (.ok (0, false, [])) with
    | error e2 =>
      rw [hs] at he
      injection he with he
      subst he
      exact herr e2 hs
    | ok st =>
      rw [hs] at he
      cases he
end Go.Proofs.YtmbpjpffafidhaaGreatDoor
