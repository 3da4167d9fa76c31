/- The plain law: both answers are the same. -/
import Derived.Test.YtmbpjpffafidhaaGreatDoorWaW14
namespace Go.Proofs.YtmbpjpffafidhaaGreatDoor
open Go Go.Ev
set_option maxRecDepth 100000
set_option linter.unusedSimpArgs false
/-- The words of a text; one that has begun. -/
def wd (p : Nat → Bool) : List Nat → Option (List Nat) → List (List Nat)
  | [], none => []
  | [], some w => [w]
  | c :: r, none => if p c = true then wd p r none else wd p r (some [c])
  | c :: r, some w => if p c = true then w :: wd p r none else wd p r (some (w ++ [c]))
theorem rwL_wd : ∀ (r : List Nat) (ws : List (List Nat)), rwL r false ws = ws ++ wd blk r none ∧ ∀ w, rwL r true (ws ++ [w]) = ws ++ wd blk r (some w)
  | [], ws => by simp [rwL, wd]
  | c :: r, ws => by
    by_cases h : blk c = true
    · refine ⟨?_, fun w => ?_⟩
      · simp only [rwL, wd, if_pos h]
        exact (rwL_wd r ws).1
      · simp only [rwL, wd, if_pos h]
        rw [(rwL_wd r (ws ++ [w])).1]
        simp
    · refine ⟨?_, fun w => ?_⟩
      · simp only [rwL, wd, if_neg h]
        exact (rwL_wd r ws).2 [c]
      · simp only [rwL, wd, if_neg h, if_true]
        have e : (ws ++ [w]).dropLast ++ [(ws ++ [w]).getLastD [] ++ [c]] = ws ++ [w ++ [c]] := by simp
        rw [e]
        exact (rwL_wd r ws).2 (w ++ [c])
theorem cut_snoc {pre r : List Nat} {c st : Nat} (h : st ≤ pre.length) : cutS (pre ++ c :: r) (st, pre.length + 1) = cutS (pre ++ c :: r) (st, pre.length) ++ [c] := by
  unfold cutS
  simp only
  have e1 : pre.length + 1 - st = (pre.length - st) + 1 := by omega
  have e2 : ((pre ++ c :: r).drop st)[pre.length - st]? = some c := by
    rw [List.getElem?_drop]
    have : st + (pre.length - st) = pre.length := by omega
    rw [this]
    simp
  rw [e1, List.take_add_one, e2]
  rfl
theorem cut_one {pre r : List Nat} {c : Nat} : cutS (pre ++ c :: r) (pre.length, pre.length + 1) = [c] := by
  have := cut_snoc (pre := pre) (r := r) (c := c) (Nat.le_refl pre.length)
  rw [this]
  simp [cutS]
theorem spans_wd (s : List Nat) : ∀ (r pre : List Nat) (i : Nat) (so : Option Nat), s = pre ++ r → i = pre.length → (∀ st, so = some st → st ≤ i) →
    ((spans r i so).1 ++ (match (spans r i so).2 with | none => [] | some s0 => [(s0, s.length)])).map (cutS s) = wd blB r (so.map fun st => cutS s (st, i))
  | [], pre, i, so, hs, hi, hso => by
    cases so with
    | none => simp [spans, wd]
    | some st =>
      have : s.length = i := by rw [hs, hi]; simp
      simp [spans, wd, this]
  | c :: r, pre, i, none, hs, hi, hso => by
    by_cases h : blB c = true
    · have := spans_wd s r (pre ++ [c]) (i + 1) none (by rw [hs]; simp) (by simp [hi]) (by simp)
      simp only [spans, wd, if_pos h, Option.map_none] at this ⊢
      exact this
    · have := spans_wd s r (pre ++ [c]) (i + 1) (some i) (by rw [hs]; simp) (by simp [hi]) (by intro st e; cases e; omega)
      have e1 : cutS s (i, i + 1) = [c] := by rw [hs, hi]; exact cut_one
      simp only [spans, wd, if_neg h, Option.map_none, Option.map_some, e1] at this ⊢
      exact this
  | c :: r, pre, i, some st, hs, hi, hso => by
    have h0 := hso st rfl
    by_cases h : blB c = true
    · have := spans_wd s r (pre ++ [c]) (i + 1) none (by rw [hs]; simp) (by simp [hi]) (by simp)
      simp only [spans, wd, if_pos h, Option.map_none, Option.map_some, List.cons_append, List.map_cons] at this ⊢
      rw [this]
    · have := spans_wd s r (pre ++ [c]) (i + 1) (some st) (by rw [hs]; simp) (by simp [hi]) (by intro st e; cases e; omega)
      have e1 : cutS s (st, i + 1) = cutS s (st, i) ++ [c] := by rw [hs, hi]; exact cut_snoc (by omega)
      simp only [spans, wd, if_neg h, Option.map_some, e1] at this ⊢
      exact this
theorem fields_wd (s : List Nat) : fieldsL s = wd blB s none := spans_wd s s [] 0 none rfl rfl (by simp)
theorem wd_no13 : ∀ (r : List Nat) (so : Option (List Nat)), 13 ∉ r → wd blB r so = wd blk r so
  | [], none, _ => rfl
  | [], some _, _ => rfl
  | c :: r, so, h => by
    have h1 : ¬ c = 13 := fun e => h (by simp [e])
    have h2 : 13 ∉ r := fun hm => h (List.mem_cons_of_mem _ hm)
    have hb : blB c = blk c := by simp [blB, blk, h1]
    cases so with
    | none => simp only [wd, hb, wd_no13 r _ h2]
    | some w => simp only [wd, hb, wd_no13 r _ h2]
theorem wd_last {p : Nat → Bool} {x y : Nat} (hx : p x = true) (hy : p y = true) : ∀ (a : List Nat) (so : Option (List Nat)), wd p (a ++ [x]) so = wd p (a ++ [y]) so
  | [], none => by simp [wd, hx, hy]
  | [], some _ => by simp [wd, hx, hy]
  | c :: a, none => by simp only [List.cons_append, wd, wd_last hx hy a]
  | c :: a, some w => by simp only [List.cons_append, wd, wd_last hx hy a]
theorem bad13 {l : List Nat} (h : ¬ l.any badB = true) : 13 ∉ l := fun hm => h (List.any_eq_true.2 ⟨13, hm, rfl⟩)
theorem cr_cases (s : List Nat) : (s.getLast? ≠ some 13 ∧ crSp s = s ∧ noCR s = s) ∨ ∃ a, s = a ++ [13] ∧ crSp s = a ++ [32] ∧ noCR s = a := by
  rcases List.eq_nil_or_concat s with rfl | ⟨a, c, rfl⟩
  · left
    simp [crSp, noCR]
  · by_cases h : c = 13
    · subst h
      right
      exact ⟨a, by simp, by simp [crSp], by simp [noCR]⟩
    · left
      simp [crSp, noCR, h]
theorem cr_bad (s : List Nat) : (crSp s).any badB = (noCR s).any badB := by
  rcases cr_cases s with ⟨_, h1, h2⟩ | ⟨a, _, h1, h2⟩
  · rw [h1, h2]
  · rw [h1, h2, List.any_append]
    have : [32].any badB = false := by decide
    rw [this, Bool.or_false]
theorem words_eq (s : List Nat) (h : ¬ (crSp s).any badB = true) : rwords s = fieldsL s := by
  unfold rwords
  rw [(rwL_wd _ []).1, List.nil_append, fields_wd, ← wd_no13 _ _ (bad13 h)]
  rcases cr_cases s with ⟨_, h1, _⟩ | ⟨a, h0, h1, _⟩
  · rw [h1]
  · rw [h1, h0]
    exact wd_last rfl rfl a none
theorem skip_eq (s : List Nat) (h : ¬ (crSp s).any badB = true) : rskip s = skipB s ∧ (skipB s = false → headB (crSp s) = headB s) := by
  unfold rskip skipB
  rw [words_eq s h]
  rcases cr_cases s with ⟨_, h1, _⟩ | ⟨a, h0, h1, _⟩
  · rw [h1]
    refine ⟨?_, fun _ => rfl⟩
    cases s with
    | nil => rfl
    | cons c r => simp [Bool.or_comm]
  · cases a with
    | nil =>
      rw [h1, h0]
      have : fieldsL ([] ++ [13]) = [] := by rw [fields_wd]; rfl
      rw [this]
      simp
    | cons c r =>
      rw [h1, h0]
      simp [headB, Bool.or_comm]
theorem get_ref : ∀ (ls : List (List Nat)) (i : Nat), refP ls i = getP ls (i + 1)
  | [], _ => rfl
  | s :: ls, i => by
    have ih := get_ref ls (i + 1)
    simp only [refP, getP, ih]
    by_cases h1 : 2500 ≤ i
    · have : 2500 < i + 1 := by omega
      rw [if_pos (.inl h1), if_pos this]
    · have h1' : ¬ 2500 < i + 1 := by omega
      rw [if_neg h1']
      by_cases h2 : 200 < s.length
      · have hl : lookE s = 6 := by unfold lookE; rw [if_pos h2]
        rw [if_pos (.inr h2), hl, if_pos (by decide)]
      · have h3 : ¬ (2500 ≤ i ∨ 200 < s.length) := by omega
        rw [if_neg h3]
        by_cases h4 : (crSp s).any badB = true
        · have hl : lookE s = 1 := by unfold lookE; rw [if_neg h2, ← cr_bad, if_pos h4]
          rw [if_pos h4, hl, if_pos (by decide)]
        · have hl : lookE s = 0 := by unfold lookE; rw [if_neg h2, ← cr_bad, if_neg h4]
          obtain ⟨k1, k2⟩ := skip_eq s h4
          rw [if_neg h4, hl, if_neg (by decide), k1, words_eq s h4]
          cases getP ls (i + 1 + 1) with
          | error e => rfl
          | ok ys =>
            simp only
            by_cases h5 : skipB s = true
            · rw [if_pos h5, if_pos h5]
            · rw [if_neg h5, if_neg h5, k2 (by simpa using h5)]
end Go.Proofs.YtmbpjpffafidhaaGreatDoor
