/- core.Get's reader: heads, rows. -/
import Derived.Test.YtmbpjpffafidhaaGreatDoorCmCore1
namespace Go.Proofs.YtmbpjpffafidhaaGreatDoor
open Go Go.Ev
set_option maxRecDepth 100000
set_option linter.unusedSimpArgs false
variable {F : Nat → Option FN}
theorem name_chars' {w : List Nat} (h : nameB w = true) : w ≠ [] ∧ w.length ≤ 20 ∧ ∀ c ∈ w, 33 ≤ c ∧ c ≤ 126 := by
  unfold nameB at h
  simp only [Bool.and_eq_true, Bool.not_eq_true', decide_eq_true_eq] at h
  refine ⟨fun e => by rw [e] at h; simp at h, h.2.2, fun c hc => ?_⟩
  have h1 : badN c = false := by
    cases hb : badN c with
    | false => rfl
    | true =>
      have : w.any badN = true := List.any_eq_true.2 ⟨c, hc, hb⟩
      rw [h.1] at this
      cases this
  unfold badN at h1
  simp at h1
  omega
/-- A reader at R; its three maps; all of them apart. -/
structure RdAt (h : H) (R q : Nat) (r : RD) : Prop where
  get : h.get R = some (.c r.cells 0 q)
  q0 : q % 4 = 0
  lt : R < h.nx
  e : r.e = 0
theorem RdAt.mod {S : List Nat} {h h' : H} {R q : Nat} {r : RD} (a : RdAt h R q r) (m : Mod S h h') (hR : R ∉ S) : RdAt h' R q r := ⟨by rw [m.get R a.lt hR, a.get], a.q0, Nat.lt_of_lt_of_le a.lt m.le, a.e⟩
/-- The words of a line that are left. -/
structure WordsAt (h : H) (v : V) (W w0 : Nat) (ws : List (List Nat)) : Prop where
  val : v = .sl W w0 ws.length ws.length 0
  cells : ∃ cs fz q, h.get W = some (.c cs fz q) ∧ ∀ i s, ws[i]? = some s → cs[w0 + i]? = some (.s s)
  lt : W < h.nx
  few : ws.length < 1000
theorem WordsAt.mod {S : List Nat} {h h' : H} {v : V} {W w0 : Nat} {ws : List (List Nat)} (a : WordsAt h v W w0 ws) (m : Mod S h h') (hW : W ∉ S) : WordsAt h' v W w0 ws := by
  obtain ⟨cs, fz, q, h1, h2⟩ := a.cells
  exact ⟨a.val, ⟨cs, fz, q, by rw [m.get W a.lt hW, h1], h2⟩, Nat.lt_of_lt_of_le a.lt m.le, a.few⟩
/-- What is left behind the first word: nothing (a slice of no capacity stays where it is), or the rest. -/
def restV (W w0 : Nat) (ws : List (List Nat)) : V := if ws = [] then .sl W w0 0 0 0 else .sl W (w0 + 1) ws.length ws.length 0
theorem word_at (k : WKC F) {h : H} {R q : Nat} {r : RD} (a : RdAt h R q r) {W w0 : Nat} {s : List Nat} {ws : List (List Nat)} (w : WordsAt h r.l W w0 (s :: ws)) (n d : Nat) :
    ∃ h', callD F n (d + 2) 184 [.p R 0] h = some (.s s, h') ∧ Mod [R] h h' ∧ RdAt h' R q { r with l := restV W w0 ws } ∧ h'.nx = h.nx := by
  obtain ⟨cs, fz, qw, h1, h2⟩ := w.cells
  have h3 := h2 0 s rfl
  simp only [Nat.add_zero] at h3
  have hv := w.val
  have hf := w.few
  simp only [List.length_cons] at hv hf
  refine ⟨_, word_run k a.get a.q0 a.e hv (Nat.le_refl _) (by omega) h1 h3 n d, Mod.put _ (by simp), ⟨?_, a.q0, a.lt, a.e⟩, rfl⟩
  rw [H.get_put, if_pos rfl]
  unfold restV
  cases ws with
  | nil => simp
  | cons x ws => simp
theorem WordsAt.rest {h h' : H} {v : V} {W w0 : Nat} {s : List Nat} {ws : List (List Nat)} (a : WordsAt h v W w0 (s :: ws)) (hne : ws ≠ []) (hg : h'.get W = h.get W) (hn : h.nx ≤ h'.nx) : WordsAt h' (restV W w0 ws) W (w0 + 1) ws := by
  obtain ⟨cs, fz, q, h1, h2⟩ := a.cells
  have hf := a.few
  simp only [List.length_cons] at hf
  refine ⟨by unfold restV; rw [if_neg hne], ⟨cs, fz, q, by rw [hg, h1], fun i s hs => ?_⟩, Nat.lt_of_lt_of_le a.lt hn, by omega⟩
  have := h2 (i + 1) s (by simpa using hs)
  rw [← this]
  congr 1
  omega
/-- A map's block. -/
def MapAt (h : H) (B : Nat) (es : List (V × V × Nat)) (clk : Nat) : Prop := h.get B = some (.mp es clk) ∧ B < h.nx
theorem MapAt.mod {S : List Nat} {h h' : H} {B : Nat} {es : List (V × V × Nat)} {clk : Nat} (a : MapAt h B es clk) (m : Mod S h h') (hB : B ∉ S) : MapAt h' B es clk := ⟨by rw [m.get B a.2 hB, a.1], Nat.lt_of_lt_of_le a.2 m.le⟩
def headsL : List (List Nat) := [[], [78, 65, 77, 69], [82, 79, 87, 83], [67, 79, 76, 85, 77, 78, 83], [82, 72, 83], [82, 65, 78, 71, 69, 83], [66, 79, 85, 78, 68, 83], [69, 78, 68, 65, 84, 65]]
theorem heads_run (k : WKC F) (h : H) (n d : Nat) : callD F n (d + 1) 183 [] h = some (.sl h.nx 0 8 8 0, h.new (.c (strs headsL) 0 0)) := by
  refine callD_code k.heads rfl ?_
  simp [c183, execD, runB_op, runB_nil, stepB, guardA, o, semAll, AO.map, AO.cls, evX, tmE, pushE, semP, semN, semR, semE, binV, binI, binS, pickE, retsD, retV, fillV, layAt, V.cells, rept, V.one, headsL, strs]
theorem index_head (k : WKC F) {h : H} {B : Nat} (hg : h.get B = some (.c (strs headsL) 0 0)) (s : List Nat) (n d : Nat) (hn : 1000 < n) : callD F n (d + 1) 182 [.sl B 0 8 8 0, .s s] h = some (.i .i64 (ixOf s headsL 0), h) :=
  ixs_run k s (all := headsL) hg (by decide) n d hn
end Go.Proofs.YtmbpjpffafidhaaGreatDoor
