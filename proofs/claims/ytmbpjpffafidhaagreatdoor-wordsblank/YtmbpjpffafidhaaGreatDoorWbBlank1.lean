/- WordsBlank: the plain law: what the text's lines are. -/
import Derived.Test.YtmbpjpffafidhaaGreatDoorWbWD
import Derived.Test.YtmbpjpffafidhaaGreatDoorWbWN
namespace Go.Proofs.YtmbpjpffafidhaaGreatDoor
open Go Go.Ev
set_option maxRecDepth 100000
set_option linter.unusedSimpArgs false
theorem wd_bl : ∀ (a r : List Nat), (∀ c ∈ a, blB c = true) → wd blB (a ++ r) none = wd blB r none
  | [], r, _ => rfl
  | c :: a, r, h => by
    simp only [List.cons_append, wd, h c (List.mem_cons_self ..), if_true]
    exact wd_bl a r fun x hx => h x (List.mem_cons_of_mem _ hx)
theorem wd_on : ∀ (w r a : List Nat), (∀ c ∈ w, blB c = false) → wd blB (w ++ r) (some a) = wd blB r (some (a ++ w))
  | [], r, a, _ => by simp
  | c :: w, r, a, h => by
    simp only [List.cons_append, wd, h c (List.mem_cons_self ..), Bool.false_eq_true, if_false]
    rw [wd_on w r (a ++ [c]) fun x hx => h x (List.mem_cons_of_mem _ hx)]
    simp
theorem wd_word {w r : List Nat} (hw : w ≠ []) (h : ∀ c ∈ w, blB c = false) : wd blB (w ++ r) none = wd blB r (some w) := by
  cases w with
  | nil => exact absurd rfl hw
  | cons c w =>
    simp only [List.cons_append, wd, h c (List.mem_cons_self ..), Bool.false_eq_true, if_false]
    rw [wd_on w r [c] fun x hx => h x (List.mem_cons_of_mem _ hx)]
    simp
theorem name_chars {w : List Nat} (h : nameB w = true) : w ≠ [] ∧ w.length ≤ 20 ∧ ∀ c ∈ w, 33 ≤ c ∧ c ≤ 126 := by
  unfold nameB at h
  simp only [Bool.and_eq_true, Bool.not_eq_true', decide_eq_true_eq] at h
  refine ⟨fun e => by rw [e] at h; simp at h, h.2.2, fun c hc => ?_⟩
  have h1 : badN c = false := by
    cases hb : badN c with
    | false => rfl
    | true =>
      have : w.any badN = true := List.any_eq_true.2 ⟨c, hc, hb⟩
      rw [h.1] at this
      cases this
  unfold badN at h1
  simp at h1
  omega
/-- What begins a line, what stands between the words, what ends it. -/
def leadL (K : Nat) : List Nat := match K / 2 % 4 with | 0 => [32] | 1 => [9] | 2 => [32, 32] | _ => [32, 9]
def sepL (K : Nat) : List Nat := if K / 8 = 0 then [32] else [9, 9]
def endL (K : Nat) : List Nat := if K / 4 % 2 = 0 then [] else [13]
def pre1 (K : Nat) : List Nat := if K % 2 = 1 then [10, 42, 32, 97, 32, 99, 111, 109, 109, 101, 110, 116, 10, 32, 9, 32, 10] else []
def preL (K : Nat) : List (List Nat) := if K % 2 = 1 then [[], [42, 32, 97, 32, 99, 111, 109, 109, 101, 110, 116], [32, 9, 32]] else []
def lineL (K : Nat) (w : List Nat) : List Nat := leadL K ++ (w ++ (sepL K ++ 120 :: endL K))
def chunkL (K : Nat) (w : List Nat) : List Nat := pre1 K ++ (lineL K w ++ [10])
theorem lead_ok (K : Nat) : (∀ c ∈ leadL K, c = 32 ∨ c = 9) ∧ (leadL K).length ≤ 2 ∧ ∃ c r, leadL K = c :: r ∧ (c = 32 ∨ c = 9) := by
  unfold leadL
  split <;> simp
theorem sep_ok (K : Nat) : (∀ c ∈ sepL K, c = 32 ∨ c = 9) ∧ (sepL K).length ≤ 2 ∧ ∃ c r, sepL K = c :: r ∧ (c = 32 ∨ c = 9) := by
  unfold sepL
  split <;> simp
theorem line_fields {K : Nat} {w : List Nat} (h : nameB w = true) : fieldsL (lineL K w) = [w, [120]] := by
  obtain ⟨h1, _, h3⟩ := name_chars h
  obtain ⟨l1, _, _⟩ := lead_ok K
  obtain ⟨s1, _, c, r, s3, s4⟩ := sep_ok K
  have bl : ∀ c, (c = 32 ∨ c = 9) → blB c = true := by
    intro c hc
    rcases hc with rfl | rfl <;> rfl
  rw [fields_wd]
  unfold lineL
  rw [wd_bl _ _ fun c hc => bl c (l1 c hc), wd_word h1 fun c hc => by
    have := h3 c hc
    simp [blB]
    omega]
  rw [s3] at s1 ⊢
  have e1 : blB c = true := bl c s4
  simp only [List.cons_append, wd, e1, if_true]
  rw [wd_bl _ _ fun x hx => bl x (s1 x (List.mem_cons_of_mem _ hx))]
  unfold endL
  have e2 : blB 120 = false := by decide
  have e3 : blB 13 = true := by decide
  split
  · simp [wd, e2]
  · simp [wd, e2, e3]
theorem line_look {K : Nat} {w : List Nat} (h : nameB w = true) : lookE (lineL K w) = 0 := by
  obtain ⟨h1, h2, h3⟩ := name_chars h
  obtain ⟨l1, l2, _⟩ := lead_ok K
  obtain ⟨s1, s2, _⟩ := sep_ok K
  have he : (endL K).length ≤ 1 := by
    unfold endL
    split <;> simp
  have hlen : (lineL K w).length ≤ 30 := by
    unfold lineL
    simp only [List.length_append, List.length_cons]
    omega
  have hno : noCR (lineL K w) = leadL K ++ (w ++ (sepL K ++ [120])) := by
    unfold noCR lineL endL
    split
    · have e : (leadL K ++ (w ++ (sepL K ++ [120]))).getLast? = some 120 := by
        rw [← List.append_assoc, ← List.append_assoc, List.getLast?_append]
        simp
      rw [e]
      simp
    · have e0 : leadL K ++ (w ++ (sepL K ++ [120, 13])) = (leadL K ++ (w ++ (sepL K ++ [120]))) ++ [13] := by simp
      rw [e0]
      simp
  have hb : (leadL K ++ (w ++ (sepL K ++ [120]))).any badB = false := by
    rw [List.any_eq_false]
    intro c hc
    simp only [List.mem_append, List.mem_singleton] at hc
    have bl : ∀ c, (c = 32 ∨ c = 9) → ¬ badB c = true := by
      intro c hc
      rcases hc with rfl | rfl <;> decide
    rcases hc with hc | hc | hc | hc
    · exact bl c (l1 c hc)
    · have := h3 c hc
      unfold badB
      simp
      omega
    · exact bl c (s1 c hc)
    · subst hc
      decide
  unfold lookE
  rw [if_neg (by omega), hno, hb]
  rfl
theorem line_10 {K : Nat} {w : List Nat} (h : nameB w = true) : 10 ∉ lineL K w := by
  obtain ⟨h1, h2, h3⟩ := name_chars h
  obtain ⟨l1, l2, _⟩ := lead_ok K
  obtain ⟨s1, s2, _⟩ := sep_ok K
  unfold lineL endL
  intro hm
  simp only [List.mem_append, List.mem_cons] at hm
  rcases hm with hm | hm | hm | hm | hm
  · have := l1 10 hm
    omega
  · have := h3 10 hm
    omega
  · have := s1 10 hm
    omega
  · omega
  · split at hm <;> simp at hm
theorem line_head (K : Nat) (w : List Nat) : headB (lineL K w) = false ∧ (lineL K w).head? ≠ some 42 := by
  obtain ⟨_, _, c, r, l3, l4⟩ := lead_ok K
  unfold lineL
  rw [l3]
  rcases l4 with rfl | rfl <;> simp [headB]
theorem getP_app : ∀ (a b : List (List Nat)) (no : Nat) (ya yb : List (Nat × Bool × List (List Nat))), getP a no = .ok ya → getP b (no + a.length) = .ok yb → getP (a ++ b) no = .ok (ya ++ yb)
  | [], b, no, ya, yb, h1, h2 => by
    simp only [getP, Except.ok.injEq] at h1
    subst h1
    simpa using h2
  | s :: a, b, no, ya, yb, h1, h2 => by
    simp only [List.cons_append, getP] at h1 ⊢
    split at h1
    · cases h1
    · rename_i c1
      rw [if_neg c1]
      split at h1
      · cases h1
      · rename_i c2
        rw [if_neg c2]
        cases h3 : getP a (no + 1) with
        | error e => rw [h3] at h1; cases h1
        | ok ys =>
          rw [h3] at h1
          simp only [Except.ok.injEq] at h1
          have h4 := getP_app a b (no + 1) ys yb h3 (by rw [← h2]; congr 1; simp; omega)
          rw [h4]
          simp only
          subst h1
          split <;> simp
/-- What is known of the text so far. -/
structure Good (S : List Nat) (L : List (List Nat)) (wl : List (List Nat)) (i : Nat) : Prop where
  cut : ∀ r, linesL (S ++ r) = L ++ linesL r
  get : ∀ no, no ≤ 100 → ∃ ys, getP L no = .ok ys ∧ ys.map (·.2) = wl.map fun w => (false, [w, [120]])
  len : L.length ≤ 4 * i
  size : S.length ≤ 60 * i
  many : wl.length ≤ i
theorem Good.nil : Good [] [] [] 0 := ⟨fun _ => rfl, fun no _ => ⟨[], rfl, rfl⟩, by simp, by simp, by simp⟩
theorem Good.skip {S : List Nat} {L wl : List (List Nat)} {i : Nat} (g : Good S L wl i) : Good S L wl (i + 1) := ⟨g.cut, g.get, by have := g.len; omega, by have := g.size; omega, by have := g.many; omega⟩
theorem chunk_cut {K : Nat} {w : List Nat} (h : nameB w = true) (r : List Nat) : linesL (chunkL K w ++ r) = preL K ++ (lineL K w :: linesL r) := by
  have h10 := line_10 (K := K) h
  have e : linesL (lineL K w ++ [10] ++ r) = lineL K w :: linesL r := by
    have := lines_cut (lineL K w) r h10
    rw [← this]
    simp
  unfold chunkL pre1 preL
  split
  · have e1 : [10, 42, 32, 97, 32, 99, 111, 109, 109, 101, 110, 116, 10, 32, 9, 32, 10] ++ (lineL K w ++ [10]) ++ r = [] ++ 10 :: ([42, 32, 97, 32, 99, 111, 109, 109, 101, 110, 116] ++ 10 :: ([32, 9, 32] ++ 10 :: (lineL K w ++ [10] ++ r))) := by simp
    rw [e1, lines_cut _ _ (by simp), lines_cut _ _ (by simp), lines_cut _ _ (by simp), e]
    rfl
  · rw [List.nil_append, List.nil_append, e]
theorem chunk_get {K : Nat} {w : List Nat} (h : nameB w = true) (no : Nat) (hno : no + 4 ≤ 2501) : ∃ m, getP (preL K ++ [lineL K w]) no = .ok [(m, false, [w, [120]])] := by
  have one : ∀ m, m ≤ 2500 → getP [lineL K w] m = .ok [(m, false, [w, [120]])] := by
    intro m hm
    have h1 := line_look (K := K) h
    have h2 := line_fields (K := K) h
    obtain ⟨h3, h4⟩ := line_head K w
    have h5 : skipB (lineL K w) = false := by
      unfold skipB
      rw [h2]
      simpa using h4
    simp only [getP, if_neg (show ¬ 2500 < m by omega), h1, ne_eq, not_true_eq_false, if_false, h5, Bool.false_eq_true, h2, h3]
  unfold preL
  split
  · refine ⟨no + 3, ?_⟩
    have h0 : getP [[], [42, 32, 97, 32, 99, 111, 109, 109, 101, 110, 116], [32, 9, 32]] no = .ok [] := by
      have a1 : lookE [] = 0 := by decide
      have a2 : lookE [42, 32, 97, 32, 99, 111, 109, 109, 101, 110, 116] = 0 := by decide
      have a3 : lookE [32, 9, 32] = 0 := by decide
      have b1 : skipB [] = true := by decide
      have b2 : skipB [42, 32, 97, 32, 99, 111, 109, 109, 101, 110, 116] = true := by decide
      have b3 : skipB [32, 9, 32] = true := by decide
      simp [getP, show ¬ 2500 < no by omega, show ¬ 2500 < no + 1 by omega, show ¬ 2500 < no + 1 + 1 by omega, a1, a2, a3, b1, b2, b3]
    exact getP_app _ _ no [] _ h0 (one (no + 3) (by omega))
  · exact ⟨no, by rw [List.nil_append]; exact one no (by omega)⟩
theorem Good.app {S : List Nat} {L wl : List (List Nat)} {i K : Nat} {w : List Nat} (g : Good S L wl i) (hi : i < 12) (h : nameB w = true) : Good (S ++ chunkL K w) (L ++ (preL K ++ [lineL K w])) (wl ++ [w]) (i + 1) where
  cut r := by
    rw [List.append_assoc, g.cut, chunk_cut h]
    simp
  get no hno := by
    have gl := g.len
    obtain ⟨ys, h1, h2⟩ := g.get no hno
    obtain ⟨m, h3⟩ := chunk_get (K := K) h (no + L.length) (by omega)
    exact ⟨ys ++ [(m, false, [w, [120]])], getP_app _ _ _ _ _ h1 h3, by simp [h2]⟩
  len := by
    have hp : (preL K).length ≤ 3 := by
      unfold preL
      split <;> simp
    have := g.len
    simp
    omega
  size := by
    obtain ⟨_, h2, _⟩ := name_chars h
    obtain ⟨_, l2, _⟩ := lead_ok K
    obtain ⟨_, s2, _⟩ := sep_ok K
    have he : (endL K).length ≤ 1 := by
      unfold endL
      split <;> simp
    have hp : (pre1 K).length ≤ 17 := by
      unfold pre1
      split <;> simp
    have := g.size
    unfold chunkL lineL
    simp only [List.length_append, List.length_cons, List.length_nil]
    omega
  many := by
    have := g.many
    simp
    omega
end Go.Proofs.YtmbpjpffafidhaaGreatDoor
