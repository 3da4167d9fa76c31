/- words.Get of any text: its answer. -/
import Derived.Test.YtmbpjpffafidhaaGreatDoorCmW8
namespace Go.Proofs.YtmbpjpffafidhaaGreatDoor
open Go Go.Ev
set_option maxRecDepth 100000
set_option linter.unusedSimpArgs false
variable {F : Nat → Option FN}
theorem c_get : c12 = (.seq (.reg [o 2 (.mv (.k .sn)), o 3 (.mv (.k (.i .i64 0))), o 4 (.mv (.k (.i .i64 0)))]) (.seq (.reg [o 5 (.mv (.k .sn))]) (.seq (.seq (.reg [o 6 (.mv (.k (.i .i64 1)))]) (.block 0 [5] (.pre [0, 5, 6] [5, 1, 0] (.loop gtB)))) (.seq (.reg [o 3 (.mv (.k (.i .i64 0))), o 4 (.mv (.k (.i .i64 0)))]) (.ret [.mv (.t 2), .mv (.t 1), .mv (.t 0)]))))) := rfl
/-- What an answer is. -/
def GetRes (m0 : Nat) (h' : H) (v : V) : Except (Nat × Int) (List (Nat × Bool × List (List Nat))) → Prop
  | .error (a, e) => v = .tu [.sn, .i .i64 (a : Int), .i .i64 e]
  | .ok ys => ∃ v' bo xs, v = .tu [v', .i .i64 0, .i .i64 0] ∧ AN h' v' 3 (rowsC xs) bo ∧ RowsAt h' bo m0 xs ∧ xs.map Row.line = ys ∧ ∀ B, bo = some B → m0 ≤ B
theorem lines_len : ∀ T : List Nat, (linesL T).length ≤ T.length
  | [] => by simp [linesL]
  | c :: r => by
    have := lines_len r
    unfold linesL
    by_cases h1 : c = 10
    · rw [if_pos h1]
      simp
      omega
    · rw [if_neg h1]
      split
      · simp
      · rename_i x xs hx
        rw [hx] at this
        simp at this ⊢
        omega
/-- What an answer of words.Get is: its words lie as they were cut. -/
def GetResX (m0 : Nat) (h' : H) (v : V) : Except (Nat × Int) (List (Nat × Bool × List (List Nat))) → Prop
  | .error (a, e) => v = .tu [.sn, .i .i64 (a : Int), .i .i64 e]
  | .ok ys => ∃ v' bo xs, v = .tu [v', .i .i64 0, .i .i64 0] ∧ AN h' v' 3 (rowsC xs) bo ∧ RowsAt h' bo m0 xs ∧ xs.map Row.line = ys ∧ (∀ B, bo = some B → m0 ≤ B) ∧ ∀ x ∈ xs, x.exact
theorem getx_run (k : WK F) (T : List Nat) (hT : T.length < 80000) (h : H) (n d : Nat) (hn : 1000 < n) (hn2 : T.length < n) :
    ∃ v h', callD F n (d + 5) 12 [.s T] h = some (v, h') ∧ Ext h h' ∧ GetResX h.nx h' v (getP (linesL T) 1) := by
  have hll := lines_len T
  obtain ⟨ex, h', hr, hnx, hfr, hp⟩ := get_loop k n d h.nx hn (linesL T) T n 1 .sn none h [] rfl hT (by omega) ⟨rfl, rfl⟩ (by intro x hx; simp at hx) (by simp) (Nat.le_refl _) (by simp; omega)
  have e1 : ((1 : Nat) : Int) = 1 := rfl
  rw [e1] at hr
  cases hg : getP (linesL T) 1 with
  | error e =>
    rw [hg] at hp
    obtain ⟨a, e⟩ := e
    have hp' : ex = .ret (.tu [.sn, .i .i64 (a : Int), .i .i64 e]) := hp
    subst hp'
    refine ⟨.tu [.sn, .i .i64 (a : Int), .i .i64 e], h', ?_, ⟨hnx, hfr⟩, rfl⟩
    refine callD_code k.get rfl ?_
    simp [c_get, execD, runB_op, runB_nil, stepB, guardA, o, semAll, AO.map, AO.cls, evX, tmE, pushE, semP, semN, semR, semE, binV, binI, binS, pickE, retsD, retV, hr]
  | ok ys =>
    rw [hg] at hp
    obtain ⟨v', bo, xs', p1, p2, p3, p4, p5, p6⟩ := hp
    subst p1
    refine ⟨.tu [v', .i .i64 0, .i .i64 0], h', ?_, ⟨hnx, hfr⟩, ⟨v', bo, xs', rfl, p2, p3, p4, p5, p6⟩⟩
    refine callD_code k.get rfl ?_
    simp [c_get, execD, runB_op, runB_nil, stepB, guardA, o, semAll, AO.map, AO.cls, evX, tmE, pushE, semP, semN, semR, semE, binV, binI, binS, pickE, retsD, retV, hr]
theorem get_run (k : WK F) (T : List Nat) (hT : T.length < 80000) (h : H) (n d : Nat) (hn : 1000 < n) (hn2 : T.length < n) :
    ∃ v h', callD F n (d + 5) 12 [.s T] h = some (v, h') ∧ Ext h h' ∧ GetRes h.nx h' v (getP (linesL T) 1) := by
  obtain ⟨v, h', h1, h2, h3⟩ := getx_run k T hT h n d hn hn2
  refine ⟨v, h', h1, h2, ?_⟩
  cases hg : getP (linesL T) 1 with
  | error e =>
    rw [hg] at h3
    exact h3
  | ok ys =>
    rw [hg] at h3
    obtain ⟨v', bo, xs, p1, p2, p3, p4, p5, _⟩ := h3
    exact ⟨v', bo, xs, p1, p2, p3, p4, p5⟩
end Go.Proofs.YtmbpjpffafidhaaGreatDoor
