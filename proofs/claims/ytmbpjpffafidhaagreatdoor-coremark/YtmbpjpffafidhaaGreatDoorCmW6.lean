/- words.Get of any text. -/
import Derived.Test.YtmbpjpffafidhaaGreatDoorCmW5
namespace Go.Proofs.YtmbpjpffafidhaaGreatDoor
open Go Go.Ev
set_option maxRecDepth 100000
set_option linter.unusedSimpArgs false
variable {F : Nat → Option FN}
/-- Nothing yet, or a row that grows. -/
def AN (h : H) (v : V) (sz : Nat) (cells : List V) : Option Nat → Prop
  | none => v = .sn ∧ cells = []
  | some B => AR h v sz cells B ∧ B < h.nx
theorem AN.frame {h h' : H} {v : V} {sz : Nat} {cells : List V} {bo : Option Nat} (a : AN h v sz cells bo) (hg : ∀ B, bo = some B → B < h.nx → h'.get B = h.get B) (hn : h.nx ≤ h'.nx) : AN h' v sz cells bo := by
  cases bo with
  | none => exact a
  | some B => exact ⟨a.1.frame (hg B rfl a.2), by have := a.2; omega⟩
theorem AN.app {h : H} {v : V} {sz tg bytes : Nat} {cells news : List V} {bo : Option Nat} {Bn : Nat} (a : AN h v sz cells bo) (hsz : 0 < sz) (hb : 0 < bytes) (hb2 : bytes ≤ 65536) (htg : tg % 4 = 0) (hlen : cells.length < 1000000)
    (hn : h.get Bn = some (.c news 0 0)) (hnl : news.length = sz) (hone : news.all V.one = true) :
    ∃ v' h' B', semE (.app tg sz bytes v (.sl Bn 0 1 1 0)) h = some (v', h') ∧ AR h' v' sz (cells ++ news) B' ∧ ((bo = some B' ∧ B' < h.nx) ∨ B' = h.nx) ∧ B' < h'.nx ∧ h.nx ≤ h'.nx ∧ ∀ j, bo ≠ some j → j < h.nx → h'.get j = h.get j := by
  cases bo with
  | none =>
    obtain ⟨rfl, rfl⟩ := a
    refine ⟨.sl h.nx 0 1 1 sz, h.new (.c news 0 tg), h.nx, ?_, ?_, .inr rfl, by simp, by simp, fun j _ hj => by rw [H.get_new, if_neg (by omega)]⟩
    · have hsrc : srcOf h sz (.sl Bn 0 1 1 0) = some (1, news) := by
        have ht : news.take sz = news := List.take_of_length_le (by omega)
        simp [srcOf, cellsAt, hn, hnl, ht]
      have c1 : ¬ (sz = 0 ∨ bytes = 0 ∨ 65536 < bytes ∨ tg % 4 ≠ 0) := by omega
      simp only [semE, hsrc, if_neg c1]
      rfl
    · exact ⟨⟨1, 1, sz, news, tg, rfl, by rw [H.get_new, if_pos rfl], by omega, .inr rfl, Nat.le_refl _, by rw [Nat.one_mul]; exact hnl, by rw [Nat.one_mul, ← hnl]; simp, by simp [hnl]⟩⟩
  | some B =>
    obtain ⟨v', h', B', h1, h2, h3, h4, h5, h6⟩ := a.1.app hsz hb hb2 htg hlen hn hnl hone a.2
    refine ⟨v', h', B', h1, h2, ?_, h4, h5, fun j hj => h6 j fun e => hj (by rw [e])⟩
    rcases h3 with e | e
    · exact .inl ⟨by rw [e], by rw [e]; exact a.2⟩
    · exact .inr e
/-- A line of words: its number, whether it is a head, its words; the value of its words, their block. -/
structure Row where
  no : Nat
  hd : Bool
  ws : List (List Nat)
  v : V
  w : Nat
def Row.ok (h : H) (r : Row) : Prop := ∃ cap xf cs fz q, r.v = .sl r.w 0 r.ws.length cap xf ∧ h.get r.w = some (.c cs fz q) ∧ cs.take r.ws.length = r.ws.map .s
def Row.line (r : Row) : Nat × Bool × List (List Nat) := (r.no, r.hd, r.ws)
def rowsC : List Row → List V
  | [] => []
  | r :: rs => .i .i64 (r.no : Int) :: .b r.hd :: r.v :: rowsC rs
theorem rowsC_len : ∀ rs : List Row, (rowsC rs).length = rs.length * 3
  | [] => rfl
  | r :: rs => by
    simp only [rowsC, List.length_cons, rowsC_len rs]
    omega
theorem rowsC_app : ∀ x y : List Row, rowsC (x ++ y) = rowsC x ++ rowsC y
  | [], _ => rfl
  | r :: x, y => by simp only [List.cons_append, rowsC, rowsC_app x y]
/-- Rows whose words are where they are said to be. -/
def RowsAt (h : H) (bo : Option Nat) (m0 : Nat) (xs : List Row) : Prop := ∀ x ∈ xs, x.ok h ∧ x.w < h.nx ∧ bo ≠ some x.w ∧ m0 ≤ x.w
theorem RowsAt.ext {h h' : H} {bo : Option Nat} {m0 : Nat} {xs : List Row} (a : RowsAt h bo m0 xs) (hn : h.nx ≤ h'.nx) (hg : ∀ j, bo ≠ some j → j < h.nx → h'.get j = h.get j) : RowsAt h' bo m0 xs := by
  intro x hx
  obtain ⟨⟨cap, xf, cs, fz, q, h1, h2, h3⟩, h4, h5, h6⟩ := a x hx
  exact ⟨⟨cap, xf, cs, fz, q, h1, by rw [hg x.w h5 h4, h2], h3⟩, by omega, h5, h6⟩
/-- A text's lines. -/
def linesL : List Nat → List (List Nat)
  | [] => []
  | c :: r => if c = 10 then [] :: linesL r else match linesL r with | [] => [[c]] | x :: xs => (c :: x) :: xs
theorem lines_cut : ∀ (a r : List Nat), 10 ∉ a → linesL (a ++ 10 :: r) = a :: linesL r
  | [], r, _ => by simp [linesL]
  | c :: a, r, h => by
    have h1 : ¬ c = 10 := fun e => h (by simp [e])
    have := lines_cut a r (fun hm => h (List.mem_cons_of_mem _ hm))
    simp only [List.cons_append, linesL, if_neg h1, this]
theorem lines_one : ∀ (a : List Nat), 10 ∉ a → a ≠ [] → linesL a = [a]
  | [], _, h => absurd rfl h
  | c :: a, h, _ => by
    have h1 : ¬ c = 10 := fun e => h (by simp [e])
    have h2 : 10 ∉ a := fun hm => h (List.mem_cons_of_mem _ hm)
    cases a with
    | nil => simp [linesL, h1]
    | cons x a =>
      have := lines_one (x :: a) h2 (by simp)
      rw [linesL, if_neg h1, this]
theorem split10 : ∀ T : List Nat, 10 ∉ T ∨ ∃ a r, 10 ∉ a ∧ T = a ++ 10 :: r
  | [] => .inl (by simp)
  | c :: T => by
    by_cases h1 : c = 10
    · exact .inr ⟨[], T, by simp, by rw [h1]; rfl⟩
    · rcases split10 T with h | ⟨a, r, h2, h3⟩
      · exact .inl (by simp only [List.mem_cons, not_or]; exact ⟨fun e => h1 e.symm, h⟩)
      · exact .inr ⟨c :: a, r, by simp only [List.mem_cons, not_or]; exact ⟨fun e => h1 e.symm, h2⟩, by rw [h3]; rfl⟩
/-- What words.Get answers of the lines from a number on. -/
def headB (s : List Nat) : Bool := match s with | [] => false | c :: _ => !(c == 32) && !(c == 9)
def skipB (s : List Nat) : Bool := decide (fieldsL s = []) || decide (s.head? = some 42)
def getP : List (List Nat) → Nat → Except (Nat × Int) (List (Nat × Bool × List (List Nat)))
  | [], _ => .ok []
  | s :: ls, no => if 2500 < no then .error (no, 6) else if lookE s ≠ 0 then .error (no, lookE s) else
    match getP ls (no + 1) with
    | .error e => .error e
    | .ok ys => .ok (if skipB s = true then ys else (no, headB s, fieldsL s) :: ys)
theorem fields_nil : fieldsL [] = [] := rfl
theorem look_ok {s : List Nat} (h : lookE s = 0) : s.length ≤ 200 ∧ ∀ c ∈ s, c < 128 := by
  unfold lookE at h
  by_cases h1 : 200 < s.length
  · rw [if_pos h1] at h
    omega
  · rw [if_neg h1] at h
    by_cases h2 : (noCR s).any badB = true
    · rw [if_pos h2] at h
      omega
    · refine ⟨by omega, fun c hc => ?_⟩
      have h3 : ∀ x ∈ noCR s, x < 128 := by
        intro x hx
        have : ¬ badB x = true := fun e => h2 (List.any_eq_true.2 ⟨x, hx, e⟩)
        unfold badB at this
        simp at this
        omega
      unfold noCR at h3
      by_cases h4 : s.getLast? = some 13
      · rw [if_pos h4] at h3
        rcases List.eq_nil_or_concat s with rfl | ⟨a, z, rfl⟩
        · simp at hc
        · simp at h4 hc h3
          rcases hc with hc | rfl
          · exact h3 c hc
          · omega
      · rw [if_neg h4] at h3
        exact h3 c hc
end Go.Proofs.YtmbpjpffafidhaaGreatDoor
