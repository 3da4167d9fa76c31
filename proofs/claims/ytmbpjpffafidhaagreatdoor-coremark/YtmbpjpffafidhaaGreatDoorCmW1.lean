/- words.Get of any text: cutting lines, looking at them. -/
import Derived.Test.YtmbpjpffafidhaaGreatDoorCmFT
import Derived.Test.YtmbpjpffafidhaaGreatDoorCmL7
namespace Go.Proofs.YtmbpjpffafidhaaGreatDoor
open Go.Ev
set_option maxRecDepth 100000
set_option linter.unusedSimpArgs false
/-- The functions that are reached. -/
structure WK (F : Nat → Option FN) : Prop where
  ixb : F 242 = some (.code 2 c242)
  ix : F 173 = some (.code 2 c173)
  scut : F 103 = some (.code 2 c103)
  cut : F 40 = some (.code 2 c40)
  look : F 41 = some (.code 1 c41)
  trim : F 104 = some (.code 2 c104)
  strim : F 174 = some (.code 2 c174)
  has : F 246 = some (.code 2 c246)
  cf : F 45 = some (.code 2 c45)
  xf : F 106 = some (.code 2 c106)
  bad : F 105 = some (.code 1 c105)
  ff : F 42 = some (.code 2 c42)
  bl : F 43 = some (.code 1 c43)
  get : F 12 = some (.code 1 c12)
variable {F : Nat → Option FN}

theorem findB_no {c : Nat} : ∀ {l : List Nat} (j : Nat), c ∉ l → findB c l j = -1
  | [], _, _ => rfl
  | x :: l, j, h => by
    have h1 : ¬ x = c := fun e => h (by simp [e])
    simp only [findB, beq_iff_eq, if_neg h1]
    exact findB_no (j + 1) fun hm => h (List.mem_cons_of_mem _ hm)
theorem findB_yes {c : Nat} {r : List Nat} : ∀ {a : List Nat} (j : Nat), c ∉ a → findB c (a ++ c :: r) j = ((j + a.length : Nat) : Int)
  | [], j, _ => by simp [findB]
  | x :: a, j, h => by
    have h1 : ¬ x = c := fun e => h (by simp [e])
    simp only [List.cons_append, findB, beq_iff_eq, if_neg h1, List.length_cons]
    rw [findB_yes (j + 1) fun hm => h (List.mem_cons_of_mem _ hm)]
    congr 1
    omega
theorem ixb_run (k : WK F) (l : List Nat) (h : H) (n d : Nat) : callD F n (d + 1) 242 [.s l, .i .u8 10] h = some (.i .i64 (findB 10 l 0), h) := by
  refine callD_code k.ixb rfl ?_
  simp [c242, execD, runB_op, runB_nil, stepB, guardA, o, semAll, AO.map, AO.cls, evX, tmE, pushE, semP, semN, semR, semE, binV, binI, binS, pickE, retsD, retV]
theorem ix_run (k : WK F) (l : List Nat) (h : H) (n d : Nat) : callD F n (d + 2) 173 [.s l, .s [10]] h = some (.i .i64 (findB 10 l 0), h) := by
  have hi := ixb_run k l h n d
  refine callD_code k.ix rfl ?_
  by_cases hl : [10] = l
  · subst hl
    simp [c173, execD, runB_op, runB_nil, stepB, guardA, o, semAll, AO.map, AO.cls, evX, tmE, pushE, semP, semN, semR, semE, binV, binI, binS, pickE, retsD, retV, findB]
  · have h1 : ([10] == l) = false := by simpa using hl
    simp [hi, h1, hl, c173, execD, runB_op, runB_nil, stepB, guardA, o, semAll, AO.map, AO.cls, evX, tmE, pushE, semP, semN, semR, semE, binV, binI, binS, pickE, retsD, retV, idx]
theorem scut_no (k : WK F) (l : List Nat) (hl : 10 ∉ l) (h : H) (n d : Nat) : callD F n (d + 3) 103 [.s l, .s [10]] h = some (.tu [.s l, .s [], .b false], h) := by
  have hi := ix_run k l h n d
  rw [findB_no 0 hl] at hi
  refine callD_code k.scut rfl ?_
  simp [hi, c103, execD, runB_op, runB_nil, stepB, guardA, o, semAll, AO.map, AO.cls, evX, tmE, pushE, semP, semN, semR, semE, binV, binI, binS, pickE, retsD, retV]
theorem scut_yes (k : WK F) (a r : List Nat) (ha : 10 ∉ a) (hlen : (a ++ 10 :: r).length < 100000) (h : H) (n d : Nat) : callD F n (d + 3) 103 [.s (a ++ 10 :: r), .s [10]] h = some (.tu [.s a, .s r, .b true], h) := by
  have hi := ix_run k (a ++ 10 :: r) h n d
  rw [findB_yes 0 ha, Nat.zero_add] at hi
  simp only [List.length_append, List.length_cons] at hlen
  have hw : IntKind.i64.wrap ((a.length : Int) + 1) = (a.length : Int) + 1 := wrap_mid (by omega) (by omega)
  have h1 : (a.length : Int) ≤ (a.length : Int) + ((r.length : Int) + 1) := by omega
  have h2 : (0 : Int) ≤ (a.length : Int) + 1 := by omega
  have h3 : (a.length : Int) + 1 ≤ (a.length : Int) + ((r.length : Int) + 1) := by omega
  have h4 : ((a.length : Int) + 1).toNat = a.length + 1 := by omega
  have h5 : (a ++ 10 :: r).drop (a.length + 1) = r := by simp
  have h6 : a.length + (r.length + 1) - (a.length + 1) = r.length := by omega
  refine callD_code k.scut rfl ?_
  simp [hi, c103, execD, runB_op, runB_nil, stepB, guardA, o, semAll, AO.map, AO.cls, evX, tmE, pushE, semP, semN, semR, semE, binV, binI, binS, pickE, retsD, retV, bnds, hiV, loV, hw, h1, h2, h3, h4, h5, h6]
theorem cut_no (k : WK F) (l : List Nat) (hl : 10 ∉ l) (h : H) (n d : Nat) : callD F n (d + 4) 40 [.s l, .s [10]] h = some (.tu [.s l, .s [], .b false], h) := by
  have hi := scut_no k l hl h n d
  refine callD_code k.cut rfl ?_
  simp [hi, c40, execD, runB_op, runB_nil, stepB, guardA, o, semAll, AO.map, AO.cls, evX, tmE, pushE, semP, semN, semR, semE, binV, binI, binS, pickE, retsD, retV]
theorem cut_yes (k : WK F) (a r : List Nat) (ha : 10 ∉ a) (hlen : (a ++ 10 :: r).length < 100000) (h : H) (n d : Nat) : callD F n (d + 4) 40 [.s (a ++ 10 :: r), .s [10]] h = some (.tu [.s a, .s r, .b true], h) := by
  have hi := scut_yes k a r ha hlen h n d
  refine callD_code k.cut rfl ?_
  simp [hi, c40, execD, runB_op, runB_nil, stepB, guardA, o, semAll, AO.map, AO.cls, evX, tmE, pushE, semP, semN, semR, semE, binV, binI, binS, pickE, retsD, retV]
end Go.Proofs.YtmbpjpffafidhaaGreatDoor
