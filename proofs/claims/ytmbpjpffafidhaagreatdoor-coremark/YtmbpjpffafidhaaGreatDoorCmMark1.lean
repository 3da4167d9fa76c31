/- CoreMark: the plain law: the lines, what a reader of them comes to. -/
import Derived.Test.YtmbpjpffafidhaaGreatDoorCmCore10
namespace Go.Proofs.YtmbpjpffafidhaaGreatDoor
open Go Go.Ev
set_option maxRecDepth 100000
set_option linter.unusedSimpArgs false
/-- A line among the columns. -/
inductive It where
  | org
  | fin
  | col
/-- A number below 12, as digits. -/
def decL (i : Nat) : List Nat := if i < 10 then [48 + i] else [49, 38 + i]
def nameX (i : Nat) : List Nat := 120 :: decL i
def itemL : It → Nat → List Nat
  | .org, _ => [32, 77, 32, 39, 77, 65, 82, 75, 69, 82, 39, 32, 39, 73, 78, 84, 79, 82, 71, 39]
  | .fin, _ => [32, 77, 32, 39, 77, 65, 82, 75, 69, 82, 39, 32, 39, 73, 78, 84, 69, 78, 68, 39]
  | .col, i => 32 :: 120 :: (decL i ++ [32, 114, 32, 49])
def itemW : It → Nat → List (List Nat)
  | .org, _ => [[77], markerL, orgL]
  | .fin, _ => [[77], markerL, endgL]
  | .col, i => [nameX i, [114], [49]]
def linesI : List It → Nat → List (List Nat)
  | [], _ => []
  | x :: r, i => itemL x i :: linesI r (i + 1)
/-- Where a reader stands: how many lines it has read, whether columns are whole, the columns; or the line that can't be. -/
abbrev MS := Except Nat (Nat × Bool × List (List Nat × Bool))
def stIt : MS → It → MS
  | .error j, _ => .error j
  | .ok (j, ig, cols), .org => if ig = true then .error j else .ok (j + 1, true, cols)
  | .ok (j, ig, cols), .fin => if ig = true then .ok (j + 1, false, cols) else .error j
  | .ok (j, ig, cols), .col => .ok (j + 1, ig, cols ++ [(nameX j, ig)])
theorem stit_err : ∀ (its : List It) (j : Nat), its.foldl stIt (.error j) = .error j
  | [], _ => rfl
  | x :: r, j => by
    simp only [List.foldl_cons]
    have : stIt (.error j) x = .error j := by cases x <;> rfl
    rw [this]
    exact stit_err r j
/-- The names are those of earlier lines. -/
def Old (j : Nat) (cols : List (List Nat × Bool)) : Prop := cols.length ≤ j ∧ ∀ c ∈ cols, ∃ i, i < j ∧ c.1 = nameX i
theorem decL_inj : ∀ i, i < 12 → ∀ j, j < 12 → decL i = decL j → i = j := by decide
theorem Old.fresh {j : Nat} {cols : List (List Nat × Bool)} (h : Old j cols) (hj : j < 12) : nameX j ∉ cols.map (·.1) := by
  intro hm
  obtain ⟨c, hc, e⟩ := List.mem_map.1 hm
  obtain ⟨i, hi, e2⟩ := h.2 c hc
  rw [e2] at e
  unfold nameX at e
  injection e with _ e
  have := decL_inj i (by omega) j hj e
  omega
theorem Old.up {j : Nat} {cols : List (List Nat × Bool)} (h : Old j cols) : Old (j + 1) cols := ⟨by have := h.1; omega, fun c hc => by
  obtain ⟨i, hi, e⟩ := h.2 c hc
  exact ⟨i, by omega, e⟩⟩
theorem Old.app {j : Nat} {cols : List (List Nat × Bool)} (h : Old j cols) (b : Bool) : Old (j + 1) (cols ++ [(nameX j, b)]) := ⟨by have := h.1; simp; omega, fun c hc => by
  rcases List.mem_append.1 hc with hc | hc
  · obtain ⟨i, hi, e⟩ := h.2 c hc
    exact ⟨i, by omega, e⟩
  · simp only [List.mem_singleton] at hc
    subst hc
    exact ⟨j, by omega, rfl⟩⟩
/-- Each line as it is cut. -/
theorem item_ok : ∀ (x : It) (i : Nat), i < 12 → lookE (itemL x i) = 0 ∧ fieldsL (itemL x i) = itemW x i ∧ skipB (itemL x i) = false ∧ headB (itemL x i) = false ∧ 10 ∉ itemL x i ∧ (itemL x i).length ≤ 30 := by
  have h1 : ∀ i, i < 12 → lookE (itemL .col i) = 0 ∧ fieldsL (itemL .col i) = itemW .col i ∧ skipB (itemL .col i) = false ∧ headB (itemL .col i) = false ∧ 10 ∉ itemL .col i ∧ (itemL .col i).length ≤ 30 := by decide
  intro x i hi
  cases x with
  | org => exact (by decide : lookE (itemL .org 0) = 0 ∧ fieldsL (itemL .org 0) = itemW .org 0 ∧ skipB (itemL .org 0) = false ∧ headB (itemL .org 0) = false ∧ 10 ∉ itemL .org 0 ∧ (itemL .org 0).length ≤ 30)
  | fin => exact (by decide : lookE (itemL .fin 0) = 0 ∧ fieldsL (itemL .fin 0) = itemW .fin 0 ∧ skipB (itemL .fin 0) = false ∧ headB (itemL .fin 0) = false ∧ 10 ∉ itemL .fin 0 ∧ (itemL .fin 0).length ≤ 30)
  | col => exact h1 i hi
theorem nameX_ok : ∀ i, i < 12 → nameB (nameX i) = true ∧ nameX i ≠ [82, 72, 83] := by decide
def headL0 : List (List Nat) := [[78, 65, 77, 69, 32, 65], [82, 79, 87, 83], [32, 78, 32, 111], [32, 76, 32, 114], [67, 79, 76, 85, 77, 78, 83]]
def tailL0 : List (List Nat) := [[82, 72, 83], [69, 78, 68, 65, 84, 65]]
def txt0 : List Nat := [78, 65, 77, 69, 32, 65, 10, 82, 79, 87, 83, 10, 32, 78, 32, 111, 10, 32, 76, 32, 114, 10, 67, 79, 76, 85, 77, 78, 83, 10]
def txtT : List Nat := [82, 72, 83, 10, 69, 78, 68, 65, 84, 65, 10]
def txtI : List It → Nat → List Nat
  | [], _ => []
  | x :: r, i => itemL x i ++ 10 :: txtI r (i + 1)
/-- Rows numbered on, of lines all of which are rows. -/
def numL : List (List Nat) → Nat → List (Nat × Bool × List (List Nat))
  | [], _ => []
  | l :: ls, no => (no, headB l, fieldsL l) :: numL ls (no + 1)
theorem getP_num : ∀ (ls : List (List Nat)) (no : Nat), (∀ l ∈ ls, lookE l = 0 ∧ skipB l = false) → no + ls.length ≤ 2501 → getP ls no = .ok (numL ls no)
  | [], no, _, _ => rfl
  | l :: ls, no, h, hl => by
    obtain ⟨h1, h2⟩ := h l (List.mem_cons_self ..)
    simp only [List.length_cons] at hl
    have ih := getP_num ls (no + 1) (fun x hx => h x (List.mem_cons_of_mem _ hx)) (by omega)
    simp only [getP, if_neg (show ¬ 2500 < no by omega), h1, ne_eq, not_true_eq_false, if_false, ih, h2, Bool.false_eq_true, numL]
theorem numL_app : ∀ (a b : List (List Nat)) (no : Nat), numL (a ++ b) no = numL a no ++ numL b (no + a.length)
  | [], b, no => by simp [numL]
  | l :: a, b, no => by
    simp only [List.cons_append, numL, numL_app a b (no + 1), List.length_cons]
    congr 3
    omega
theorem linesI_len : ∀ (its : List It) (i : Nat), (linesI its i).length = its.length
  | [], _ => rfl
  | x :: r, i => by simp [linesI, linesI_len r (i + 1)]
theorem linesI_mem : ∀ (its : List It) (i : Nat), i + its.length ≤ 12 → ∀ l ∈ linesI its i, lookE l = 0 ∧ skipB l = false
  | [], _, _, l, h => by cases h
  | x :: r, i, hi, l, h => by
    simp only [List.length_cons] at hi
    rcases List.mem_cons.1 h with rfl | h
    · obtain ⟨a, _, b, _⟩ := item_ok x i (by omega)
      exact ⟨a, b⟩
    · exact linesI_mem r (i + 1) (by omega) l h
theorem lines_txtI : ∀ (its : List It) (i : Nat) (r : List Nat), i + its.length ≤ 12 → linesL (txtI its i ++ r) = linesI its i ++ linesL r
  | [], _, _, _ => rfl
  | x :: its, i, r, hi => by
    simp only [List.length_cons] at hi
    obtain ⟨_, _, _, _, h, _⟩ := item_ok x i (by omega)
    simp only [txtI, List.append_assoc, List.cons_append, linesI]
    rw [lines_cut _ _ h, lines_txtI its (i + 1) r (by omega)]
theorem txtI_len : ∀ (its : List It) (i : Nat), i + its.length ≤ 12 → (txtI its i).length ≤ 31 * its.length
  | [], _, _ => by simp [txtI]
  | x :: its, i, hi => by
    simp only [List.length_cons] at hi
    obtain ⟨_, _, _, _, _, h⟩ := item_ok x i (by omega)
    have := txtI_len its (i + 1) (by omega)
    simp only [txtI, List.length_append, List.length_cons]
    omega
theorem txtI_snoc : ∀ (its : List It) (i : Nat) (x : It), txtI (its ++ [x]) i = txtI its i ++ (itemL x (i + its.length) ++ [10])
  | [], i, x => by simp [txtI]
  | y :: its, i, x => by
    simp only [List.cons_append, txtI, txtI_snoc its (i + 1) x, List.append_assoc, List.cons_append, List.length_cons]
    have : i + 1 + its.length = i + (its.length + 1) := by omega
    rw [this]
/-- All the text's rows. -/
theorem rows_all (its : List It) (h : its.length ≤ 12) : getP (linesL (txt0 ++ (txtI its 0 ++ txtT))) 1 = .ok (numL headL0 1 ++ (numL (linesI its 0) 6 ++ numL tailL0 (6 + its.length))) := by
  have e1 : linesL (txt0 ++ (txtI its 0 ++ txtT)) = headL0 ++ (linesI its 0 ++ tailL0) := by
    have e : ∀ r, linesL (txt0 ++ r) = headL0 ++ linesL r := by
      intro r
      have e2 : txt0 ++ r = [78, 65, 77, 69, 32, 65] ++ 10 :: ([82, 79, 87, 83] ++ 10 :: ([32, 78, 32, 111] ++ 10 :: ([32, 76, 32, 114] ++ 10 :: ([67, 79, 76, 85, 77, 78, 83] ++ 10 :: r)))) := by simp [txt0]
      rw [e2, lines_cut _ _ (by simp), lines_cut _ _ (by simp), lines_cut _ _ (by simp), lines_cut _ _ (by simp), lines_cut _ _ (by simp)]
      rfl
    rw [e, lines_txtI its 0 txtT (by omega)]
    rfl
  rw [e1, getP_num, numL_app, numL_app, linesI_len]
  · rfl
  · intro l hl
    rcases List.mem_append.1 hl with hl | hl
    · exact (by decide : ∀ l ∈ headL0, lookE l = 0 ∧ skipB l = false) l hl
    · rcases List.mem_append.1 hl with hl | hl
      · exact linesI_mem its 0 (by omega) l hl
      · exact (by decide : ∀ l ∈ tailL0, lookE l = 0 ∧ skipB l = false) l hl
  · simp [linesI_len, headL0, tailL0]
    omega
end Go.Proofs.YtmbpjpffafidhaaGreatDoor
