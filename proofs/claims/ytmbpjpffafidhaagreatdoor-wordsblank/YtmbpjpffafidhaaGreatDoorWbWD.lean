/- A line's words, letter by letter. -/
import Derived.Test.YtmbpjpffafidhaaGreatDoorWbW9
namespace Go.Proofs.YtmbpjpffafidhaaGreatDoor
open Go Go.Ev
set_option maxRecDepth 100000
set_option linter.unusedSimpArgs false
/-- The words of a text; one that has begun. -/
def wd (p : Nat → Bool) : List Nat → Option (List Nat) → List (List Nat)
  | [], none => []
  | [], some w => [w]
  | c :: r, none => if p c = true then wd p r none else wd p r (some [c])
  | c :: r, some w => if p c = true then w :: wd p r none else wd p r (some (w ++ [c]))
theorem cut_snoc {pre r : List Nat} {c st : Nat} (h : st ≤ pre.length) : cutS (pre ++ c :: r) (st, pre.length + 1) = cutS (pre ++ c :: r) (st, pre.length) ++ [c] := by
  unfold cutS
  simp only
  have e1 : pre.length + 1 - st = (pre.length - st) + 1 := by omega
  have e2 : ((pre ++ c :: r).drop st)[pre.length - st]? = some c := by
    rw [List.getElem?_drop]
    have : st + (pre.length - st) = pre.length := by omega
    rw [this]
    simp
  rw [e1, List.take_add_one, e2]
  rfl
theorem cut_one {pre r : List Nat} {c : Nat} : cutS (pre ++ c :: r) (pre.length, pre.length + 1) = [c] := by
  have := cut_snoc (pre := pre) (r := r) (c := c) (Nat.le_refl pre.length)
  rw [this]
  simp [cutS]
theorem spans_wd (s : List Nat) : ∀ (r pre : List Nat) (i : Nat) (so : Option Nat), s = pre ++ r → i = pre.length → (∀ st, so = some st → st ≤ i) →
    ((spans r i so).1 ++ (match (spans r i so).2 with | none => [] | some s0 => [(s0, s.length)])).map (cutS s) = wd blB r (so.map fun st => cutS s (st, i))
  | [], pre, i, so, hs, hi, hso => by
    cases so with
    | none => simp [spans, wd]
    | some st =>
      have : s.length = i := by rw [hs, hi]; simp
      simp [spans, wd, this]
  | c :: r, pre, i, none, hs, hi, hso => by
    by_cases h : blB c = true
    · have := spans_wd s r (pre ++ [c]) (i + 1) none (by rw [hs]; simp) (by simp [hi]) (by simp)
      simp only [spans, wd, if_pos h, Option.map_none] at this ⊢
      exact this
    · have := spans_wd s r (pre ++ [c]) (i + 1) (some i) (by rw [hs]; simp) (by simp [hi]) (by intro st e; cases e; omega)
      have e1 : cutS s (i, i + 1) = [c] := by rw [hs, hi]; exact cut_one
      simp only [spans, wd, if_neg h, Option.map_none, Option.map_some, e1] at this ⊢
      exact this
  | c :: r, pre, i, some st, hs, hi, hso => by
    have h0 := hso st rfl
    by_cases h : blB c = true
    · have := spans_wd s r (pre ++ [c]) (i + 1) none (by rw [hs]; simp) (by simp [hi]) (by simp)
      simp only [spans, wd, if_pos h, Option.map_none, Option.map_some, List.cons_append, List.map_cons] at this ⊢
      rw [this]
    · have := spans_wd s r (pre ++ [c]) (i + 1) (some st) (by rw [hs]; simp) (by simp [hi]) (by intro st e; cases e; omega)
      have e1 : cutS s (st, i + 1) = cutS s (st, i) ++ [c] := by rw [hs, hi]; exact cut_snoc (by omega)
      simp only [spans, wd, if_neg h, Option.map_some, e1] at this ⊢
      exact this
theorem fields_wd (s : List Nat) : fieldsL s = wd blB s none := spans_wd s s [] 0 none rfl rfl (by simp)
end Go.Proofs.YtmbpjpffafidhaaGreatDoor
