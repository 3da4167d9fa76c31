import Derived.Test.YtmbpjpffafidhaaGreatDoorCmL5
import Derived.Laws.StructEq
import Derived.Lib.Bytealg
import Derived.Room.MakeNoZero
import Derived.KernelRfl
import Derived.ChangeSame
import Derived.Lib.LaidTab
/-! Flat structs: compared, as keys. -/
namespace Go.Ev
variable {P : Program}

/-- The fields from the i-th on, of one cell each, of the kinds that c tells. -/
def FlatF (P : Program) : Nat → Nat → List Field → Prop
  | _, c, [] => c = 0
  | i, c, f :: fs => f.offset = i ∧ f.name ≠ "_" ∧ ((c % 4 = 1 ∧ ∃ k, P.underlying f.type = some (.int k)) ∨ (c % 4 = 2 ∧ P.underlying f.type = some .string) ∨ (c % 4 = 3 ∧ P.underlying f.type = some .bool)) ∧ FlatF P (i + 1) (c / 4) fs

theorem flat_part {f : Field} {c : Nat} (h : (c % 4 = 1 ∧ ∃ k, P.underlying f.type = some (.int k)) ∨ (c % 4 = 2 ∧ P.underlying f.type = some .string) ∨ (c % 4 = 3 ∧ P.underlying f.type = some .bool)) {xs : Array Value} {i : Nat} {x : Value} (hx : xs[i]? = some x) (w : World) :
    (part f.type xs i).run P w = .ok x w := by
  have ha : (isAgg f.type).run P w = .ok false w := by
    rcases h with ⟨_, k, h⟩ | ⟨_, h⟩ | ⟨_, h⟩ <;> simp [isAgg, run_underlying h]
  unfold part
  simp only [Sem.run_bind, ha, Result.andThen_ok, Bool.false_eq_true, if_false, hx, Sem.run_pure]

theorem flat_eq1 {f : Field} {c : Nat} (h : (c % 4 = 1 ∧ ∃ k, P.underlying f.type = some (.int k)) ∨ (c % 4 = 2 ∧ P.underlying f.type = some .string) ∨ (c % 4 = 3 ∧ P.underlying f.type = some .bool)) {ι : Iota} {u0 v : V} {us vs : List V} {x y : Value} (hx : VR ι u0 x) (hy : VR ι v y)
    (hu : shp c (u0 :: us) = true) (hv : shp c (v :: vs) = true) {r : Bool} (he : eqC (u0 :: us) (v :: vs) = some r) (d : Nat) (w : World) :
    ∃ r1, (Op.equalIn (d + 1) f.type x y).run P w = .ok r1 w ∧ shp (c / 4) us = true ∧ shp (c / 4) vs = true ∧ (r1 = true ∧ eqC us vs = some r ∨ r1 = false ∧ r = false) := by
  cases hx <;> simp only [shp, Bool.and_eq_true, beq_iff_eq, Bool.false_eq_true] at hu
  all_goals cases hy <;> simp only [shp, Bool.and_eq_true, beq_iff_eq, Bool.false_eq_true] at hv
  all_goals try omega
  · rename_i a b
    rcases h with ⟨h1, _⟩ | ⟨h1, _⟩ | ⟨_, h⟩
    · omega
    · omega
    refine ⟨a == b, by simp [Op.equalIn, run_underlying h], hu.2, hv.2, ?_⟩
    simp only [eqC] at he
    split at he
    · rename_i hab; exact .inl ⟨hab, he⟩
    · rename_i hab; injection he with he; exact .inr ⟨by simpa using hab, he.symm⟩
  · rename_i k a k' b
    rcases h with ⟨_, kk, h⟩ | ⟨h1, _⟩ | ⟨h1, _⟩
    · simp only [eqC] at he
      split at he
      · rename_i hk
        subst hk
        refine ⟨a == b, by simp [Op.equalIn, run_underlying h], hu.2, hv.2, ?_⟩
        split at he
        · rename_i hab; exact .inl ⟨hab, he⟩
        · rename_i hab; injection he with he; exact .inr ⟨by simpa using hab, he.symm⟩
      · cases he
    · omega
    · omega
  · rename_i x l e1 y l' e2
    subst e1; subst e2
    rcases h with ⟨h1, _⟩ | ⟨_, h⟩ | ⟨h1, _⟩
    · omega
    · have hxy : (x == y) = (x.data.toList.map UInt8.toNat == y.data.toList.map UInt8.toNat) := by
        have h0 : (x == y) = (x.data == y.data) := by cases x; cases y; rfl
        rw [h0, Bool.eq_iff_iff, beq_iff_eq, beq_iff_eq]
        constructor
        · intro h; rw [h]
        · intro h
          have := List.map_inj_right (f := UInt8.toNat) (fun a b h => UInt8.toNat_inj.1 h) |>.1 h
          exact Array.toList_inj.1 this
      refine ⟨x == y, by simp [Op.equalIn, run_underlying h], hu.2, hv.2, ?_⟩
      simp only [eqC] at he
      rw [← hxy] at he
      split at he
      · rename_i hab; exact .inl ⟨hab, he⟩
      · rename_i hab; injection he with he; exact .inr ⟨by simpa using hab, he.symm⟩
    · omega

theorem shp_nil {l : List V} (h : shp 0 l = true) : l = [] := by
  cases l with
  | nil => rfl
  | cons v l => cases v <;> simp [shp] at h
theorem shp_cons {c : Nat} {l : List V} (hc : c % 4 = 1 ∨ c % 4 = 2 ∨ c % 4 = 3) (h : shp c l = true) : ∃ v r, l = v :: r := by
  cases l with
  | nil => simp only [shp, beq_iff_eq] at h; omega
  | cons v r => exact ⟨v, r, rfl⟩
theorem drop_cons {α : Type} {l : List α} {i : Nat} {v : α} {r : List α} (h : l.drop i = v :: r) : l[i]? = some v ∧ l.drop (i + 1) = r := by
  constructor
  · have := congrArg List.head? h
    simpa [List.head?_drop] using this
  · have := congrArg List.tail h
    simpa [List.tail_drop] using this

theorem flat_eqFields (d : Nat) {ι : Iota} {xs ys : Array Value} {a b : List V} (ha : VRs ι a xs.toList) (hb : VRs ι b ys.toList) {r : Bool} (w : World) : ∀ (fs : List Field) (i c : Nat), FlatF P i c fs → shp c (a.drop i) = true → shp c (b.drop i) = true → eqC (a.drop i) (b.drop i) = some r →
    (Op.eqFields (d + 1) xs ys fs).run P w = .ok r w
  | [], i, c, hF, h1, h2, he => by
    simp only [FlatF] at hF
    subst hF
    rw [shp_nil h1, shp_nil h2] at he
    simp only [eqC, Option.some.injEq] at he
    subst he
    simp [Op.eqFields]
  | f :: fs, i, c, ⟨ho, hn, hk, hF⟩, h1, h2, he => by
    have hc : c % 4 = 1 ∨ c % 4 = 2 ∨ c % 4 = 3 := by rcases hk with ⟨h, _⟩ | ⟨h, _⟩ | ⟨h, _⟩ <;> simp [h]
    obtain ⟨u0, us, eu⟩ := shp_cons hc h1
    obtain ⟨v, vs, ev⟩ := shp_cons hc h2
    obtain ⟨gu, du⟩ := drop_cons eu
    obtain ⟨gv, dv⟩ := drop_cons ev
    obtain ⟨x, hx, rx⟩ := ha.get i u0 gu
    obtain ⟨y, hy, ry⟩ := hb.get i v gv
    rw [eu] at h1 he
    rw [ev] at h2 he
    obtain ⟨r1, p3, s1, s2, hr⟩ := flat_eq1 hk rx ry h1 h2 he d w
    have p1 := flat_part hk (xs := xs) (i := i) (x := x) (by simpa using hx) w
    have p2 := flat_part hk (xs := ys) (i := i) (x := y) (by simpa using hy) w
    simp only [Op.eqFields, ho, hn, ne_eq, not_false_eq_true, if_true, Sem.run_bind, p1, p2, p3, Result.andThen_ok]
    rcases hr with ⟨rfl, hr⟩ | ⟨rfl, rfl⟩
    · simpa using flat_eqFields d ha hb w fs (i + 1) (c / 4) hF (by rw [du]; exact s1) (by rw [dv]; exact s2) (by rw [du, dv]; exact hr)
    · simp

/-- A flat struct: its fields, and what its comparison asks. -/
structure FlatT (P : Program) (t c : Nat) : Prop where
  fs : ∃ fs, P.underlying t = some (.struct fs) ∧ FlatF P 0 c fs.toList
  hp : P.stoodInHeld t = false
  hg : P.eqGuardType P.depth t = false

theorem FlatT.eqs {t c : Nat} (h : FlatT P t c) {ι : Iota} {xs ys : Array Value} {a b : List V} {r : Bool} (w : World) (ha : VRs ι a xs.toList) (hb : VRs ι b ys.toList) (h1 : shp c a = true) (h2 : shp c b = true) (he : eqC a b = some r) :
    (Op.equal t (.agg xs) (.agg ys)).run P w = .ok r w := by
  obtain ⟨fs, hu, hF⟩ := h.fs
  have hfs : P.fieldsOf t = fs := by simp [Program.fieldsOf, hu]
  have h0 := run_equalIn_struct w 9999 t xs ys (by rw [hfs]; exact hu) h.hp
  have : (Op.equal t (.agg xs) (.agg ys)).run P w = (Op.equalIn (9999 + 1) t (.agg xs) (.agg ys)).run P w := rfl
  rw [this, h0, hfs]
  exact flat_eqFields 9998 ha hb w fs.toList 0 c hF h1 h2 he

theorem flat_ck1 {f : Field} {c : Nat} (h : (c % 4 = 1 ∧ ∃ k, P.underlying f.type = some (.int k)) ∨ (c % 4 = 2 ∧ P.underlying f.type = some .string) ∨ (c % 4 = 3 ∧ P.underlying f.type = some .bool)) {ι : Iota} {u0 : V} {us : List V} {x : Value} (hx : VR ι u0 x)
    (hu : shp c (u0 :: us) = true) (e : Bool) (d : Nat) (w : World) : (Instr.checkKey e (d + 1) f.type x).run P w = .ok () w ∧ shp (c / 4) us = true := by
  cases hx <;> simp only [shp, Bool.and_eq_true, beq_iff_eq, Bool.false_eq_true] at hu
  all_goals
    refine ⟨?_, hu.2⟩
    rcases h with ⟨_, k, h⟩ | ⟨_, h⟩ | ⟨_, h⟩ <;> simp [Instr.checkKey, run_underlying h]

theorem FlatT.ckey {t c : Nat} (h : FlatT P t c) (e : Bool) {ι : Iota} {xs : Array Value} {a : List V} (w : World) (ha : VRs ι a xs.toList) (h1 : shp c a = true) :
    (Instr.checkKey e 10000 t (.agg xs)).run P w = .ok () w := by
  obtain ⟨fs, hu, hF⟩ := h.fs
  rw [show (10000 : Nat) = 9998 + 1 + 1 from rfl, Instr.checkKey]
  simp only [Sem.run_bind, run_underlying hu, Result.andThen_ok]
  rw [← Array.forIn_toList]
  have key : ∀ (L : List Field) (i c : Nat), FlatF P i c L → shp c (a.drop i) = true →
      (forIn L PUnit.unit fun f _ => (do
        if f.name ≠ "_" then do
          Instr.checkKey e (9998 + 1) f.type (← part f.type xs f.offset)
          pure (ForInStep.yield PUnit.unit)
        else do
          pure (ForInStep.yield PUnit.unit) : Sem (ForInStep PUnit))).run P w = .ok PUnit.unit w := by
    intro L
    induction L with
    | nil => intro i c _ _; simp
    | cons f L ih =>
      intro i c hF h1
      obtain ⟨ho, hn, hk, hF⟩ := hF
      have hc : c % 4 = 1 ∨ c % 4 = 2 ∨ c % 4 = 3 := by rcases hk with ⟨h, _⟩ | ⟨h, _⟩ | ⟨h, _⟩ <;> simp [h]
      obtain ⟨u0, us, eu⟩ := shp_cons hc h1
      obtain ⟨gu, du⟩ := drop_cons eu
      obtain ⟨x, hx, rx⟩ := ha.get i u0 gu
      rw [eu] at h1
      obtain ⟨p2, s1⟩ := flat_ck1 hk rx h1 e 9998 w
      have p1 := flat_part hk (xs := xs) (i := i) (x := x) (by simpa using hx) w
      simp only [List.forIn_cons, Sem.run_bind, hn, ne_eq, not_false_eq_true, if_true, ho, Result.andThen_ok, p1, p2, Sem.run_pure]
      have := ih (i + 1) (c / 4) hF (by rw [du]; exact s1)
      simpa using this
  have := key fs.toList 0 c hF h1
  simp at this ⊢
  rw [this]
  rfl

end Go.Ev

/-! The tables of a program: the library's functions, variables at the head of rows. -/
namespace Go.Ev
variable {P : Program}

theorem findB_shift (c : Nat) : ∀ (l : List Nat) (j : Nat), findB c l j = if findB c l 0 = -1 then -1 else findB c l 0 + j
  | [], j => by simp [findB]
  | x :: r, j => by
    have ge : ∀ (l : List Nat) (j : Nat), findB c l j = -1 ∨ 0 ≤ findB c l j := by
      intro l
      induction l with
      | nil => intro j; exact .inl rfl
      | cons y l ih =>
        intro j
        simp only [findB]
        split
        · right; omega
        · exact ih (j + 1)
    simp only [findB]
    split
    · rename_i h
      simp
    · rename_i h
      rw [findB_shift c r (j + 1), findB_shift c r 1]
      rcases ge r 0 with h0 | h0
      · rw [h0]; simp
      · have h1 : ¬ findB c r 0 = -1 := by omega
        have h2 : ¬ findB c r 0 + ((1 : Nat) : Int) = -1 := by omega
        rw [if_neg h1, if_neg h1, if_neg h2]
        omega

theorem indexByte_findB (c : Nat) (hc : c < 256) : ∀ l : List UInt8, Lib.indexByte l c.toUInt8 = findB c (l.map UInt8.toNat) 0
  | [] => rfl
  | b :: l => by
    have e : (b == c.toUInt8) = (b.toNat == c) := by
      rw [Bool.eq_iff_iff, beq_iff_eq, beq_iff_eq]
      constructor
      · intro h
        rw [h]
        simp only [Nat.toUInt8_eq, UInt8.toNat_ofNat']
        omega
      · intro h
        rw [← h]
        simp
    simp only [Lib.indexByte, List.map_cons, findB, e]
    split
    · rfl
    · rw [indexByte_findB c hc l, findB_shift c _ 1]
      simp

theorem ixb_of {f : Nat} {fn : Func} (hf : P.funcs[f]? = some fn) (hname : (fn.name == "runtime.NumGoroutine") = false)
    (hb : fn.body.isNone = true) (hn : Extern.findNext fn = none) (he : Extern.find fn = some Extern.BytealgIndexByte.indexByte) (s : ByteArray) (c : Int) (w : World) (h0 : 0 ≤ c) (h1 : c < 256) :
    (callFunc f #[.string s, .int .u8 c]).run P w = .ok (.value (.int .i64 (findB c.toNat (s.data.toList.map UInt8.toNat) 0))) w := by
  rw [run_callFunc_extern hf hname hb hn he, Lib.run_indexByteString, Result.andThen, indexByte_findB c.toNat (by omega)]

theorem nesc_of {f : Nat} {fn : Func} (hf : P.funcs[f]? = some fn) (hname : (fn.name == "runtime.NumGoroutine") = false)
    (hb : fn.body.isNone = true) (hn : Extern.findNext fn = none) (he : Extern.find fn = some Extern.AbiNoEscape.same) (x : Value) (w : World) :
    (callFunc f #[x]).run P w = .ok (.value x) w := by
  rw [run_callFunc_extern hf hname hb hn he]
  rfl

theorem digits_one : ∀ (n t : Nat) (acc : Array Value), (∀ x ∈ acc, x.oneCell = true) → ∀ x ∈ Extern.BytealgMakeNoZero.digits n t acc, x.oneCell = true
  | 0, _, _, h => h
  | n + 1, t, acc, h => by
    rw [Extern.BytealgMakeNoZero.digits]
    refine digits_one n _ _ fun x hx => ?_
    rcases Array.mem_push.1 hx with hx | rfl
    · exact h x hx
    · rfl

theorem run_mnz (w : World) (ps : Array TypeId) (t e : TypeId) (ht : P.underlying t = some (.slice e)) (n : Nat) (hn : n ≤ 281474976710656) :
    ∃ cs : Array Value, (Extern.BytealgMakeNoZero.makeNoZero ps #[t] #[.int .i64 n]).run P w = .ok (.slice (some ⟨w.heap.size, 0, none⟩) n cs.size) (w.drew.drew.alloc (.cells cs e)) ∧ n ≤ cs.size ∧ ∀ x ∈ cs, x.oneCell = true := by
  have hdef : Extern.BytealgMakeNoZero.makeNoZero ps #[t] #[.int .i64 n] =
      (do
        let .slice elem ← underlying t | stuck "bytealg.MakeNoZero: slice type expected"
        if (n : Int) < 0 || (n : Int) > 2 ^ 48 then runtimePanic (.error "makeslice: len out of range")
        let cap ← choose (.appendCap (n : Int).toNat 0 elem)
        askRoom cap
        let bytes ← choose (.extern "internal/bytealg.MakeNoZero.bytes" 0)
        let a ← newRow elem (Extern.BytealgMakeNoZero.digits cap bytes #[])
        pure (.slice (some a) (n : Int).toNat cap)) := rfl
  refine ⟨Extern.BytealgMakeNoZero.digits (grownCap w n 0 e) ((Question.extern "internal/bytealg.MakeNoZero.bytes" 0).cut (w.tape (w.drawn + 1) (.extern "internal/bytealg.MakeNoZero.bytes" 0))) #[], ?_, ?_, ?_⟩
  · rw [hdef]
    have h1 : ¬ (n : Int) < 0 := by omega
    have h2 : ¬ (281474976710656 : Int) < (n : Int) := by omega
    simp [run_underlying ht, h1, h2, Question.forced, newRow, Lib.size_digits, grownCap]
  · rw [Lib.size_digits]
    simpa using grownCap_ge w n 0 e
  · exact digits_one _ _ _ (by simp)

theorem mnz_of {f : Nat} {fn : Func} {ps : Array TypeId} {t e : TypeId} (hf : P.funcs[f]? = some fn) (hname : (fn.name == "runtime.NumGoroutine") = false)
    (hb : fn.body.isNone = true) (hn : Extern.findNext fn = none) (he : Extern.find fn = some (Extern.BytealgMakeNoZero.makeNoZero ps #[t])) (ht : P.underlying t = some (.slice e)) (n : Nat) (w : World) (h : n ≤ 1073741824) :
    ∃ (cs : Array Value) (k : Nat), (callFunc f #[.int .i64 n]).run P w = .ok (.value (.slice (some ⟨w.heap.size, 0, none⟩) n cs.size)) { w with drawn := k, heap := w.heap.push (.cells cs e) } ∧ n ≤ cs.size ∧ ∀ x ∈ cs, x.oneCell = true := by
  obtain ⟨cs, h1, h2, h3⟩ := run_mnz w ps t e ht n (by omega)
  refine ⟨cs, w.drawn + 1 + 1, ?_, h2, h3⟩
  rw [run_callFunc_extern hf hname hb hn he, h1]
  rfl

theorem rowAt_head (fits : TypeId → Bool) {d : Nat} {e count : Nat} (hc : 1 ≤ count) (h : rowAt P fits d e 1 0 1 = true) : rowAt P fits d e count 0 1 = true := by
  cases d with
  | zero => simp [rowAt] at h
  | succ d =>
    unfold rowAt at h ⊢
    simp only [Nat.zero_div, Nat.zero_mod, Nat.zero_add] at h ⊢
    have h1 : (decide (1 ≤ count)) = (decide (1 ≤ 1)) := by simpa using hc
    have h2 : (decide (0 < count)) = (decide (0 < 1)) := by simpa using (Nat.lt_of_lt_of_le Nat.zero_lt_one hc)
    rw [h1, h2]
    exact h

theorem lies_of {D u e n : Nat} (hd : P.depth = D + 1) (h : rowAt P (sameLayout P P.depth · u) P.depth e 1 0 1 = true) (hn : P.cellsOf e = n) (h0 : n ≠ 0) (count : Nat) (hc : 1 ≤ count) :
    liesAt P P.depth e count 0 u 1 = true ∧ P.cellsOf e = n ∧ n ≠ 0 := by
  refine ⟨?_, hn, h0⟩
  have key : ∀ D', D' = D + 1 → liesAt P D' e count 0 u 1 = true := by
    intro D' h1
    subst h1
    unfold liesAt
    rw [rowAt_head _ hc h]
    rfl
  exact key _ hd

def zOk (d : TypeDesc) : Value → Bool
  | .agg _ => TypeDesc.agg d
  | z => !TypeDesc.agg d && z.oneCell
theorem tgood {t : Nat} {i : TI} {j : TypeInfo} {z : Value} (h1 : P.info? t = some j) (h2 : P.underlying t = some i.d) (h3 : j.size = i.size) (h4 : j.bytes = i.bytes) (h5 : j.zero = some z) (h6 : V.ofL z.cells.toList = some i.zero) (h7 : zOk i.d z = true) : TGood P t i := by
  refine ⟨j, h1, h2, h3, h4, z, h5, h6, fun ha => ?_, fun ha => ?_⟩
  · unfold zOk at h7
    split at h7
    · exact ⟨_, rfl⟩
    · rw [ha] at h7; simp at h7
  · unfold zOk at h7
    split at h7
    · rw [ha] at h7; cases h7
    · rw [ha] at h7; simpa using h7
theorem flat_get {o : Option Nat} {n : Nat} (h : o.getD 0 = n + 1) : o = some (n + 1) := by
  cases o with
  | none => cases h
  | some m => exact congrArg some h

/-- An operation without a guard. -/
def o (d : Nat) (a : AO X) : BS := .op ⟨some d, none, a⟩

end Go.Ev

/-! From a run of the kernel's form to a row: the first heap, what is left of the old memory. -/
namespace Go.Ev
open Go.ChangeShapes Go.WideShapes Go.RowKit
variable {P : Program}

/-- The names of the package-level variables. -/
def iota0 (ng : Nat) (h : H) : Iota := fun g => if g < ng then some ⟨g, 0, match h.get g with | some (.c cs _ _) => cs.length | _ => 0⟩ else none

/-- A variable's block that is read alone. -/
def Firm (ng : Nat) (W : World) (g : Nat) (b : Blk) : Prop := g < ng ∧ ∃ cs c el f, b = .c cs 0 2 ∧ W.heap[g]? = some (.cells c el f) ∧ V.ofL c.toList = some cs ∧ cs.all V.one = true

theorem iota0_some {ng : Nat} {h : H} {B : Nat} {e : Loc} (he : iota0 ng h B = some e) : B < ng ∧ e.r = B ∧ e.o = 0 := by
  unfold iota0 at he
  split at he
  · rename_i hlt
    injection he with he
    subst he
    exact ⟨hlt, rfl, rfl⟩
  · cases he

theorem HRel.first {ng nx : Nat} {t : Tr Blk} {W : World} (hnx : ng ≤ nx) (hb : TrAll (Firm ng W) t id) : HRel (iota0 ng ⟨nx, t⟩) ⟨nx, t⟩ W where
  br B b e hg he := by
    obtain ⟨hlt, cs, c, el, f, rfl, hc, hl, ho⟩ := hb.get hg
    have hV : VRs (iota0 ng ⟨nx, t⟩) cs c.toList := V.ofL_rel _ hl
    have hlen : cs.length = c.size := by simpa using hV.length
    have hlt' : B < ng := hlt
    have hc' : W.heap[B]? = some (.cells c el f) := hc
    unfold iota0 at he
    rw [if_pos hlt', hg] at he
    injection he with he
    subst he
    refine ⟨c, el, f, hc', fun j v hj => ?_, fun v hv => ?_, by simp, by simp [hlen], ⟨.inl rfl, ?_⟩⟩
    · obtain ⟨x, hx, hr⟩ := hV.get j v hj
      exact ⟨x, by simpa using hx, hr⟩
    · exact List.all_eq_true.1 ho v hv
    · trivial
  inj B B' b b' e e' hne _ _ he he' _ := by
    have h1 := iota0_some he
    have h2 := iota0_some he'
    omega
  lt B e he := by
    have := (iota0_some he).1
    exact Nat.lt_of_lt_of_le this hnx
  dom B b hg := by
    have := (hb.get hg).1
    exact Nat.lt_of_lt_of_le this hnx

theorem HRel.first_own {ng nx : Nat} {t : Tr Blk} {W : World} (hb : TrAll (Firm ng W) t id) {B : Nat} {b : Blk} (hg : (⟨nx, t⟩ : H).get B = some b) (ho : b.own = true) : False := by
  obtain ⟨_, cs, c, el, f, rfl, _⟩ := hb.get hg
  simp [Blk.own] at ho

theorem globs_first {ng : Nat} {h : H} (hn : P.globals.size ≤ ng) : Globs P (iota0 ng h) := fun _g hg => ⟨_, if_pos (Nat.lt_of_lt_of_le hg hn)⟩

/-! ### the listed tables -/
theorem laid_mem {W : World} {n : String} {d : DataW Unit} : ∀ {laid : List (String × DataW Unit)} {ps : List MemPlace}, DataW.LaidVars P W laid ps → (n, d) ∈ laid →
    ∃ g t cs fuel p, P.globalNamed n = some g ∧ (P.globals[g]?).map (·.type) = some t ∧ W.var? P n = some cs ∧ DataW.trod (fun _ => ()) P W 0 (fun _ => true) false fuel t cs.toList = some (d, p)
  | [], _, _, hm => by cases hm
  | (n', d') :: r, ps, ⟨g, t, cs, fuel, p, q, h1, h2, h3, h4, h5, _⟩, hm => by
    rcases List.mem_cons.1 hm with e | hm
    · injection e with e1 e2
      subst e1; subst e2
      exact ⟨g, t, cs, fuel, p, h1, h2, h3, h4⟩
    · exact laid_mem h5 hm

theorem ofL_ints (k : IntKind) : ∀ zs : List Int, V.ofL (zs.map fun z => Value.int k z) = some (zs.map fun z => V.i k z)
  | [] => rfl
  | z :: zs => by
    simp only [List.map_cons, V.ofL, V.of1, ofL_ints k zs]

theorem firm_tab {W : World} {laid : List (String × DataW Unit)} {name : String} {k : IntKind} {zs : List Int} {g t e n ng : Nat} (hL : laidMet P laid W) (hm : (name, Lib.tabData k zs) ∈ laid)
    (hg : P.globalNamed name = some g) (hty : (P.globals[g]?).map (·.type) = some t) (ht : P.underlying t = some (.array n e)) (he : P.underlying e = some (.int k)) (hce : P.cellsOf e = 1) (hct : P.cellsOf t = n) (hlt : g < ng) :
    Firm ng W g (.c (zs.map fun z => V.i k z) 0 2) := by
  obtain ⟨ps, hv, _⟩ := hL
  obtain ⟨g', t', cs, fuel, p, hg', ht', hvar, hd⟩ := laid_mem hv hm
  obtain rfl := Option.some.inj (hg.symm.trans hg')
  obtain rfl := Option.some.inj (hty.symm.trans ht')
  have hc := Lib.cells_of_tab ht he hce hct hd
  unfold World.var? at hvar
  rw [hg] at hvar
  simp only [Option.bind_some] at hvar
  split at hvar
  · rename_i c el f hh
    injection hvar with hvar
    subst hvar
    refine ⟨hlt, _, c, el, f, rfl, hh, by rw [hc]; exact ofL_ints k zs, ?_⟩
    simp [List.all_eq_true, V.one]
  · cases hvar

/-! ### a run that ends in true -/
noncomputable def kT (v : V) (_ : H) : R :=
  V.rec (motive_1 := fun _ => R) (motive_2 := fun _ => R) (fun b => Bool.rec (motive := fun _ => R) none (some (.u, ⟨0, .lf⟩)) b) (fun _ _ => none) (fun _ => none) (fun _ _ => none) none (fun _ _ _ _ _ => none) none (fun _ => none) none (fun _ _ _ _ _ => none) none (fun _ _ _ => none) none (fun _ _ => none) (fun _ _ => none) none none (fun _ _ _ _ => none) v
theorem kT_some {v : V} {h : H} {r : V × H} (hk : kT v h = some r) : v = .b true := by
  cases v <;> first | (cases hk; done) | skip
  rename_i b
  cases b
  · cases hk
  · rfl
noncomputable def isS (r : R) : Bool := Option.rec (motive := fun _ => Bool) false (fun _ => true) r
theorem isS_some {r : R} (h : isS r = true) : ∃ x, r = some x := by
  cases r with
  | none => cases h
  | some x => exact ⟨x, rfl⟩

/-- What the kernel's run of a function gives: it returns true, and leaves the old memory alone. -/
theorem calls_true {T : TT} {FT : Tr FN} (hT : TOK P T) (hmix : P.follows .mixedOrders = true) (hF : TrAll (FGood P T) FT id) {n d g : Nat} {args : List V} {h : H}
    (hr : isS (callF FT n d g args h kT) = true) {ι : Iota} {xs : Array Value} {w : World} (hg : Globs P ι) (hargs : VRs ι args xs.toList) (hh : HRel ι h w) :
    Calls P g xs w fun e w' => e = .returned (.bool true) ∧ ∃ ι' h', HRel ι' h' w' ∧ Ext ι h w ι' h' w' := by
  obtain ⟨r, hr⟩ := isS_some hr
  refine (calls_of_callF hT hmix hF hr hg hargs hh).mono fun e w' ⟨v, h', hk, x, ι', he, hv, h1, h2⟩ => ?_
  have hv' := kT_some hk
  subst hv'
  cases hv
  exact ⟨he, ι', h', h1, h2⟩

theorem Ext.kept {ι ι' : Iota} {h h' : H} {w w' : World} (hE : Ext ι h w ι' h' w') (hno : ∀ B b, h.get B = some b → b.own = true → False) (may : MemPlace → Prop) : w.keptBut w' may := by
  refine ⟨hE.os, hE.output, fun i hi => ?_⟩
  have e := hE.frame i hi fun B b _ hb ho _ => (hno B b hb ho).elim
  rw [e]
  cases hw : w.heap[i]? with
  | none => simp
  | some o => cases o <;> simp

section
variable {H' : Type} {enc : TypeId × Value → H'}
theorem post_of_ext {f : Func} {s : ChangeSpec} {apart fresh handsOn again : Bool} {W W' : World} {args : Array Value} {v : Value} {ds gs : List (DataW H')} {before pa pv : List MemPlace}
    (hW : DataW.Whole enc P f.params.toList s.vars apart W args.toList ds gs before)
    (hres : ∀ (b : Nat) (sp : Nat → Bool) (hd : Bool), DataW.TrodAll enc P W' b sp hd f.resultTypes.toList (v.resultList f.resultTypes.size) (s.fn H' (ds ++ gs)).results [])
    (hargs : ∀ sp : Nat → Bool, (∀ p ∈ before, sp p.block = true) → DataW.TrodAll enc P W' 0 sp true f.params.toList args.toList (s.fn H' (ds ++ gs)).args pa)
    (hvars : ∀ sp : Nat → Bool, (∀ p ∈ before, sp p.block = true) → DataW.TrodVars enc P W' sp s.vars (s.fn H' (ds ++ gs)).vars pv)
    (hps : before = pa ++ pv) {ι ι' : Iota} {h h' : H} (hE : Ext ι h W ι' h' W') (hno : ∀ B b, h.get B = some b → b.own = true → False)
    (hok : ∀ (j : Nat) (t : TypeId) (r : Value), f.resultTypes[j]? = some t → (v.resultList f.resultTypes.size)[j]? = some r → Value.okWide P W' .any 0 t r) :
    s.post enc P f apart fresh handsOn again W args v W' := by
  have hlt : ∀ p ∈ before, p.block < W.heap.size := fun p hp => hW.lt p hp
  have hold : ∀ p ∈ before, (fun b => decide (b < W.heap.size)) p.block = true := fun p hp => by simpa using hlt p hp
  refine ⟨ds, gs, before, [], pa, pv, hW, hres _ _ _, hargs _ hold, hvars _ hold, World.keptBut_mono (fun p hp => ⟨hp, ?_⟩) (hE.kept hno (· ∈ before)), fun _ => ?_⟩
  · rw [hps, List.mem_append] at hp
    exact Or.inr hp
  · obtain ⟨_, _, _, _, _, hz, hn⟩ := hW
    refine ⟨hok, _, _, ([] ++ pa) ++ pv, ⟨[] ++ pa, pv, trodAll_append (hargs _ (fun _ _ => rfl)) (hres _ _ _), hvars _ (fun _ _ => rfl), rfl, ?_, ?_⟩, ?_⟩
    · intro b off hp
      have hin : MemPlace.cell b off ∈ before := by rw [hps]; simpa using hp
      have hb : b < W.heap.size := hlt _ hin
      have e := hE.frame b hb fun B b _ hb ho _ => (hno B b hb ho).elim
      have e2 : W'.frozen? ⟨b, off, none⟩ = W.frozen? ⟨b, off, none⟩ := by simp only [World.frozen?, e]
      rw [e2]
      exact hz b off hin
    · intro ha
      have := hn ha
      rw [hps] at this
      simpa using this
    · intro p hp _
      rw [hps]
      simpa using hp
end
end Go.Ev

/-! What is known of a call by a run of its own. -/
namespace Go.Ev
variable {P : Program}

mutual
def eqv : V → V → Bool
  | .b x, .b y => x == y
  | .i k n, .i k' n' => decide (k = k') && decide (n = n')
  | .s l, .s l' => l == l'
  | .p B o, .p B' o' => B == B' && o == o'
  | .pn, .pn => true
  | .sl B o l c x, .sl B' o' l' c' x' => B == B' && (o == o' && (l == l' && (c == c' && x == x')))
  | .sn, .sn => true
  | .m B, .m B' => B == B'
  | .mn, .mn => true
  | .f g a b, .f g' a' b' => g == g' && (eqvs a a' && eqvs b b')
  | .fn, .fn => true
  | .ic t v, .ic t' v' => t == t' && eqv v v'
  | .inn, .inn => true
  | .ag cs, .ag cs' => eqvs cs cs'
  | .tu cs, .tu cs' => eqvs cs cs'
  | .u, .u => true
  | _, _ => false
def eqvs : List V → List V → Bool
  | [], [] => true
  | v :: vs, v' :: vs' => eqv v v' && eqvs vs vs'
  | _, _ => false
end
mutual
theorem eqv_eq : ∀ {a b : V}, eqv a b = true → a = b
  | .b x, b, h => by cases b <;> simp [eqv] at h; rw [h]
  | .i k n, b, h => by cases b <;> simp [eqv] at h; rw [h.1, h.2]
  | .s l, b, h => by cases b <;> simp [eqv] at h; rw [h]
  | .p B o, b, h => by cases b <;> simp [eqv] at h; rw [h.1, h.2]
  | .pn, b, h => by cases b <;> simp [eqv] at h; rfl
  | .sl B o l c x, b, h => by cases b <;> simp [eqv] at h; rw [h.1, h.2.1, h.2.2.1, h.2.2.2.1, h.2.2.2.2]
  | .sn, b, h => by cases b <;> simp [eqv] at h; rfl
  | .m B, b, h => by cases b <;> simp [eqv] at h; rw [h]
  | .mn, b, h => by cases b <;> simp [eqv] at h; rfl
  | .f g a c, b, h => by cases b <;> simp [eqv] at h; rw [h.1, eqvs_eq h.2.1, eqvs_eq h.2.2]
  | .fn, b, h => by cases b <;> simp [eqv] at h; rfl
  | .ic t v, b, h => by cases b <;> simp [eqv] at h; rw [h.1, eqv_eq h.2]
  | .inn, b, h => by cases b <;> simp [eqv] at h; rfl
  | .ag cs, b, h => by cases b <;> simp [eqv] at h; rw [eqvs_eq h]
  | .tu cs, b, h => by cases b <;> simp [eqv] at h; rw [eqvs_eq h]
  | .u, b, h => by cases b <;> simp [eqv] at h; rfl
theorem eqvs_eq : ∀ {a b : List V}, eqvs a b = true → a = b
  | [], b, h => by cases b <;> simp [eqvs] at h; rfl
  | v :: vs, b, h => by cases b <;> simp [eqvs] at h; rw [eqv_eq h.1, eqvs_eq h.2]
end
def Blk.beq : Blk → Blk → Bool
  | .c cs fz q, .c cs' fz' q' => eqvs cs cs' && (fz == fz' && q == q')
  | _, _ => false
theorem Blk.beq_eq {a b : Blk} (h : Blk.beq a b = true) : a = b := by
  cases a <;> cases b <;> simp [Blk.beq] at h
  rw [eqvs_eq h.1, h.2.1, h.2.2]

/-- Does a heap hold these blocks? -/
def hasAll (h : H) : List (Nat × Blk) → Bool
  | [] => true
  | (B, b) :: r => (match h.get B with | some b' => Blk.beq b' b | none => false) && hasAll h r
theorem hasAll_get {h : H} : ∀ {l : List (Nat × Blk)}, hasAll h l = true → ∀ {B : Nat} {b : Blk}, (B, b) ∈ l → h.get B = some b
  | [], _, B, b, hm => by cases hm
  | (B0, b0) :: r, ha, B, b, hm => by
    simp only [hasAll, Bool.and_eq_true] at ha
    rcases List.mem_cons.1 hm with e | hm
    · injection e with e1 e2
      subst e1; subst e2
      have h1 := ha.1
      split at h1
      · rename_i b' hb; rw [hb, Blk.beq_eq h1]
      · cases h1
    · exact hasAll_get ha.2 hm

/-- A tree with these blocks laid over it. -/
def putL : List (Nat × Blk) → Tr Blk → Tr Blk
  | [], t => t
  | (B, b) :: r, t => putL r (Tr.put (B + 1) t B (some b))
noncomputable def putLF : List (Nat × Blk) → Tr Blk → (Tr Blk → R) → R
  | [], t, k => k t
  | (B, b) :: r, t, k => putF (B + 1) (some b) t B fun t => putLF r t k
theorem putLF_eq : ∀ (l : List (Nat × Blk)) (t : Tr Blk) (k : Tr Blk → R), putLF l t k = k (putL l t)
  | [], _, _ => rfl
  | (B, b) :: r, t, k => by
    simp only [putLF, putL]
    rw [putF_eq]
    exact putLF_eq r _ k
theorem putL_get : ∀ {l : List (Nat × Blk)} {t : Tr Blk} {j : Nat} {b : Blk}, (putL l t).get j = some b → (j, b) ∈ l ∨ t.get j = some b
  | [], _, _, _, h => .inr h
  | (B, b0) :: r, t, j, b, h => by
    rcases putL_get (l := r) h with h1 | h1
    · exact .inl (List.mem_cons_of_mem _ h1)
    · rw [Tr.get_put _ _ _ _ _ (Nat.lt_succ_self _)] at h1
      split at h1
      · rename_i e
        injection h1 with h1
        subst e; subst h1
        exact .inl (List.mem_cons_self ..)
      · exact .inr h1

/-- The heap that holds just these blocks. -/
def hOf (nx : Nat) (l : List (Nat × Blk)) : H := ⟨nx, putL l .lf⟩
theorem hOf_get {nx : Nat} {l : List (Nat × Blk)} {B : Nat} {b : Blk} (h : (hOf nx l).get B = some b) : (B, b) ∈ l := by
  rcases putL_get (l := l) h with h | h
  · exact h
  · cases B <;> cases h

/-- The end of a run of its own: the answer, the blocks that it began with as they were, the blocks that it made. -/
noncomputable def kM (v : V) (la ln : List (Nat × Blk)) (NX : Nat) (v' : V) (h' : H) : R :=
  ifB (eqv v' v) (ifB (hasAll h' la) (ifB (hasAll h' ln) (ifB (Nat.ble h'.nx NX) (some (.u, ⟨0, .lf⟩)) none) none) none) none
theorem ifB_some {b : Bool} {x : R} {r : V × H} (h : ifB b x none = some r) : b = true ∧ x = some r := by
  cases b
  · cases h
  · exact ⟨rfl, h⟩
theorem kM_some {v : V} {la ln : List (Nat × Blk)} {NX : Nat} {v' : V} {h' : H} {r : V × H} (h : kM v la ln NX v' h' = some r) : v' = v ∧ hasAll h' la = true ∧ hasAll h' ln = true ∧ h'.nx ≤ NX := by
  obtain ⟨h1, h⟩ := ifB_some h
  obtain ⟨h2, h⟩ := ifB_some h
  obtain ⟨h3, h⟩ := ifB_some h
  obtain ⟨h4, _⟩ := ifB_some h
  exact ⟨eqv_eq h1, h2, h3, Nat.le_of_ble_eq_true h4⟩

/-- What the run needs of the blocks' names: those that it began with below NA, those that it made from NA on, its own. -/
def namesOK (la ln : List (Nat × Blk)) (NA NX : Nat) : Bool :=
  la.all (fun p => Nat.blt p.1 NA) && (ln.all (fun p => Nat.ble NA p.1 && (Nat.blt p.1 NX && p.2.own)) && Nat.ble NA NX)

theorem HRel.sub {ι : Iota} {h : H} {w : World} (hh : HRel ι h w) {NA : Nat} (hnx : h.nx ≤ NA) {la : List (Nat × Blk)} (ha : hasAll h la = true) : HRel ι (hOf NA la) w where
  br B b e hg he := hh.br B b e (hasAll_get ha (hOf_get hg)) he
  inj B B' b b' e e' hne hb hb' he he' ho := hh.inj B B' b b' e e' hne (hasAll_get ha (hOf_get hb)) (hasAll_get ha (hOf_get hb')) he he' ho
  lt B e he := Nat.lt_of_lt_of_le (hh.lt B e he) hnx
  dom B b hg := Nat.lt_of_lt_of_le (hh.dom B b (hasAll_get ha (hOf_get hg))) hnx

section
variable {ι ι' : Iota} {h h' : H} {w w' : World} {la ln : List (Nat × Blk)} {NA NX : Nat}

/-- an old block that the run did not begin with is as it was. -/
theorem old_kept (hh : HRel ι h w) (ha : hasAll h la = true) (hE : Ext ι (hOf NA la) w ι' h' w') {B : Nat} {b : Blk} {e : Loc} (hb : h.get B = some b) (he : ι B = some e) (hno : (hOf NA la).get B = none) :
    w'.heap[e.r]? = w.heap[e.r]? := by
  refine hE.frame e.r (BR.lt (hh.br B b e hb he)) fun B0 b0 e0 h0 ho he0 => ?_
  refine hh.inj B0 B b0 b e0 e (fun e1 => ?_) (hasAll_get ha (hOf_get h0)) hb he0 he ho
  subst e1
  rw [hno] at h0
  cases h0

theorem made (hh : HRel ι h w) (hnx : h.nx ≤ NA) (ha : hasAll h la = true) (hh' : HRel ι' h' w') (hE : Ext ι (hOf NA la) w ι' h' w') (ha' : hasAll h' la = true) (hn : hasAll h' ln = true) (hx : h'.nx ≤ NX) (hk : namesOK la ln NA NX = true) :
    HRel ι' ⟨NX, putL ln h.t⟩ w' ∧ Ext ι h w ι' ⟨NX, putL ln h.t⟩ w' := by
  simp only [namesOK, Bool.and_eq_true, List.all_eq_true] at hk
  obtain ⟨_, hk2, hk3⟩ := hk
  have hk3 := Nat.le_of_ble_eq_true hk3
  have get : ∀ {B : Nat} {b : Blk}, (⟨NX, putL ln h.t⟩ : H).get B = some b → (B, b) ∈ ln ∨ h.get B = some b := fun hg => putL_get hg
  have new : ∀ {B : Nat} {b : Blk}, (B, b) ∈ ln → h'.get B = some b ∧ NA ≤ B ∧ B < NX ∧ b.own = true := fun {B b} hm => by
    have h1 := hk2 _ hm
    exact ⟨hasAll_get hn hm, Nat.le_of_ble_eq_true h1.1, Nat.le_of_ble_eq_true h1.2.1, h1.2.2⟩
  have same : ∀ {B : Nat} {b : Blk}, h.get B = some b → ι' B = ι B := fun {B b} hb => hE.old B (Nat.lt_of_lt_of_le (hh.dom B b hb) hnx)
  -- new and old apart
  have apart : ∀ {B B' : Nat} {b b' : Blk} {e e' : Loc}, (B, b) ∈ ln → h.get B' = some b' → ι' B = some e → ι B' = some e' → e.r ≠ e'.r := fun {B B' b b' e e'} hm hb' he he' => by
    obtain ⟨g1, g2, g3, g4⟩ := new hm
    cases hno : (hOf NA la).get B' with
    | some b2 =>
      have hm2 := hOf_get hno
      have hb2 := hasAll_get ha hm2
      rw [hb'] at hb2
      injection hb2 with hb2
      subst hb2
      have hlt := hh.dom B' b' hb'
      exact hh'.inj B B' b b' e e' (by omega) g1 (hasAll_get ha' hm2) he ((same hb').trans he') g4
    | none =>
      rcases hE.own B b e g1 g4 he with h1 | ⟨B0, b0, e0, h1, h2, h3, h4⟩
      · have := BR.lt (hh.br B' b' e' hb' he')
        omega
      · rw [← h4]
        refine hh.inj B0 B' b0 b' e0 e' (fun e1 => ?_) (hasAll_get ha (hOf_get h1)) hb' h3 he' h2
        subst e1
        rw [hno] at h1
        cases h1
  constructor
  · constructor
    · intro B b e hb he
      rcases get hb with hm | hb
      · exact hh'.br B b e (new hm).1 he
      · rw [same hb] at he
        cases hno : (hOf NA la).get B with
        | some b2 =>
          have hm2 := hOf_get hno
          have hb2 := hasAll_get ha hm2
          rw [hb] at hb2
          injection hb2 with hb2
          subst hb2
          exact hh'.br B b e (hasAll_get ha' hm2) ((same hb).trans he)
        | none => exact (hh.br B b e hb he).mono hE.le (old_kept hh ha hE hb he hno)
    · intro B B' b b' e e' hne hb hb' he he' ho
      rcases get hb with hm | hb
      · rcases get hb' with hm' | hb'
        · exact hh'.inj B B' b b' e e' hne (new hm).1 (new hm').1 he he' ho
        · rw [same hb'] at he'
          exact apart hm hb' he he'
      · rcases get hb' with hm' | hb'
        · rw [same hb] at he
          exact (apart hm' hb he' he).symm
        · rw [same hb] at he
          rw [same hb'] at he'
          exact hh.inj B B' b b' e e' hne hb hb' he he' ho
    · intro B e he
      exact Nat.lt_of_lt_of_le (hh'.lt B e he) hx
    · intro B b hb
      rcases get hb with hm | hb
      · exact (new hm).2.2.1
      · exact Nat.lt_of_lt_of_le (hh.dom B b hb) (Nat.le_trans hnx hk3)
  · constructor
    · exact hE.le
    · intro B hB
      exact hE.old B (Nat.lt_of_lt_of_le hB hnx)
    · exact Nat.le_trans hnx hk3
    · exact hE.size
    · intro B b e hb ho he
      rcases get hb with hm | hb
      · rcases hE.own B b e (new hm).1 ho he with h1 | ⟨B0, b0, e0, h1, h2, h3, h4⟩
        · exact .inl h1
        · exact .inr ⟨B0, b0, e0, hasAll_get ha (hOf_get h1), h2, h3, h4⟩
      · rw [same hb] at he
        exact .inr ⟨B, b, e, hb, ho, he, rfl⟩
    · intro r hr hno
      exact hE.frame r hr fun B b e hg ho he => hno B b e (hasAll_get ha (hOf_get hg)) ho he
    · exact hE.os
    · exact hE.output
end

/-! ### a call that leaves no block -/
mutual
theorem VR_back {ι ι' : Iota} (h : ι.le ι') : ∀ {v : V} {x : Value}, VR ι v x → ∀ {y : Value}, VR ι' v y → VR ι v y
  | _, _, .b _, _, hy => by cases hy; exact .b _
  | _, _, .i _ _, _, hy => by cases hy; exact .i _ _
  | _, _, .s _ _ _, _, hy => by cases hy with | s x _ e => exact .s x _ e
  | _, _, .p B o e he, _, hy => by
    cases hy with
    | p _ _ e' he' =>
      rw [h _ _ he] at he'
      injection he' with he'
      subst he'
      exact .p B o e he
  | _, _, .pn, _, hy => by cases hy; exact .pn
  | _, _, .sx B o len cap e he hl, _, hy => by
    cases hy with
    | sx _ _ _ _ e' he' hl' =>
      rw [h _ _ he] at he'
      injection he' with he'
      subst he'
      exact .sx B o len cap e he hl
    | si _ _ _ _ x cap' off e' he' h1 h2 h3 h4 => omega
  | _, _, .si B o len cap x cap' off e he h1 h2 h3 h4, _, hy => by
    cases hy with
    | sx _ _ _ _ e' he' hl' => omega
    | si _ _ _ _ _ cap2 off2 e' he' h1' h2' h3' h4' =>
      rw [h _ _ he] at he'
      injection he' with he'
      subst he'
      exact .si B o len cap x cap2 off2 e he h1' h2' h3' h4'
  | _, _, .sn, _, hy => by cases hy; exact .sn
  | _, _, .m B e he, _, hy => by
    cases hy with
    | m _ e' he' =>
      rw [h _ _ he] at he'
      injection he' with he'
      subst he'
      exact .m B e he
  | _, _, .mn, _, hy => by cases hy; exact .mn
  | _, _, .f g fst cap xs ys h1 h2, _, hy => by
    cases hy with
    | f _ _ _ _ _ h1' h2' => exact .f g fst cap _ _ (VRs_back h h1 h1') (VRs_back h h2 h2')
  | _, _, .fn, _, hy => by cases hy; exact .fn
  | _, _, .ic t v x hv, _, hy => by cases hy with | ic _ _ _ hy => exact .ic t v _ (VR_back h hv hy)
  | _, _, .inn, _, hy => by cases hy; exact .inn
  | _, _, .ag cs xs hs, _, hy => by cases hy with | ag _ _ hs' => exact .ag cs _ (VRs_back h hs hs')
  | _, _, .tu cs xs hs, _, hy => by cases hy with | tu _ _ hs' => exact .tu cs _ (VRs_back h hs hs')
  | _, _, .u x hx, _, hy => by cases hy with | u _ hy => exact .u _ hy
theorem VRs_back {ι ι' : Iota} (h : ι.le ι') : ∀ {vs : List V} {xs : List Value}, VRs ι vs xs → ∀ {ys : List Value}, VRs ι' vs ys → VRs ι vs ys
  | _, _, .nil, _, hy => by cases hy; exact .nil
  | _, _, .cons v x vs xs hv hs, _, hy => by cases hy with | cons _ y _ ys hv' hs' => exact .cons v y vs ys (VR_back h hv hv') (VRs_back h hs hs')
end

/- A value that names nothing. -/
mutual
def bareV : V → Bool
  | .p .. | .sl .. | .m _ => false
  | .f _ a b => baresV a && baresV b
  | .ic _ v => bareV v
  | .ag cs => baresV cs
  | .tu cs => baresV cs
  | _ => true
def baresV : List V → Bool
  | [] => true
  | v :: vs => bareV v && baresV vs
end
mutual
theorem VR_bare {ι ι' : Iota} : ∀ {v : V} {x : Value}, VR ι' v x → bareV v = true → VR ι v x
  | _, _, .b x, _ => .b x
  | _, _, .i k n, _ => .i k n
  | _, _, .s x l e, _ => .s x l e
  | _, _, .p B o e he, h => by simp [bareV] at h
  | _, _, .pn, _ => .pn
  | _, _, .sx B o len cap e he hl, h => by simp [bareV] at h
  | _, _, .si B o len cap x cap' off e he h1 h2 h3 h4, h => by simp [bareV] at h
  | _, _, .sn, _ => .sn
  | _, _, .m B e he, h => by simp [bareV] at h
  | _, _, .mn, _ => .mn
  | _, _, .f g fst cap xs ys h1 h2, h => by
    simp only [bareV, Bool.and_eq_true] at h
    exact .f g fst cap xs ys (VRs_bare h1 h.1) (VRs_bare h2 h.2)
  | _, _, .fn, _ => .fn
  | _, _, .ic t v x hv, h => by
    simp only [bareV] at h
    exact .ic t v x (VR_bare hv h)
  | _, _, .inn, _ => .inn
  | _, _, .ag cs xs hs, h => by
    simp only [bareV] at h
    exact .ag cs xs (VRs_bare hs h)
  | _, _, .tu cs xs hs, h => by
    simp only [bareV] at h
    exact .tu cs xs (VRs_bare hs h)
  | _, _, .u x hx, _ => .u x hx
theorem VRs_bare {ι ι' : Iota} : ∀ {vs : List V} {xs : List Value}, VRs ι' vs xs → baresV vs = true → VRs ι vs xs
  | _, _, .nil, _ => .nil
  | _, _, .cons v x vs xs hv hs, h => by
    simp only [baresV, Bool.and_eq_true] at h
    exact .cons v x vs xs (VR_bare hv h.1) (VRs_bare hs h.2)
end

section
variable {ι ι' : Iota} {h h' : H} {w w' : World} {la : List (Nat × Blk)} {NA : Nat}

/-- (only blocks of cells are held against a list: 'hasAll'.) -/
theorem BR.back (hle : ι.le ι') {e : Loc} {cs : List V} {fz q : Nat} (h1 : BR ι e w (.c cs fz q)) (h2 : BR ι' e w' (.c cs fz q)) : BR ι e w' (.c cs fz q) := by
  obtain ⟨c, el, f, _, g2, g3, _⟩ := h1
  obtain ⟨c', el', f', k1, k2, _, k4, k5, k6⟩ := h2
  refine ⟨c', el', f', k1, fun j v hj => ?_, g3, k4, k5, k6⟩
  obtain ⟨x, _, hx⟩ := g2 j v hj
  obtain ⟨y, hy, hr⟩ := k2 j v hj
  exact ⟨y, hy, VR_back hle hx hr⟩

theorem quiet (hh : HRel ι h w) (hnx : h.nx ≤ NA) (ha : hasAll h la = true) (hc : la.all (fun p => match p.2 with | .c .. => true | _ => false) = true) (hh' : HRel ι' h' w') (hE : Ext ι (hOf NA la) w ι' h' w') (ha' : hasAll h' la = true) :
    HRel ι h w' ∧ Ext ι h w ι h w' := by
  have same : ∀ {B : Nat} {b : Blk}, h.get B = some b → ι' B = ι B := fun {B b} hb => hE.old B (Nat.lt_of_lt_of_le (hh.dom B b hb) hnx)
  constructor
  · constructor
    · intro B b e hb he
      cases hno : (hOf NA la).get B with
      | some b2 =>
        have hm2 := hOf_get hno
        have hb2 := hasAll_get ha hm2
        rw [hb] at hb2
        injection hb2 with hb2
        subst hb2
        have h1 := List.all_eq_true.1 hc _ hm2
        have h2 := hh'.br B b e (hasAll_get ha' hm2) ((same hb).trans he)
        have h3 := hh.br B b e hb he
        cases b with
        | c cs fz q => exact BR.back hE.le h3 h2
        | mp es clk => cases h1
        | it s pos => cases h1
      | none => exact (hh.br B b e hb he).mono (Iota.le_refl ι) (old_kept hh ha hE hb he hno)
    · exact hh.inj
    · exact hh.lt
    · exact hh.dom
  · exact ⟨Iota.le_refl ι, fun _ _ => rfl, Nat.le_refl _, hE.size, fun B b e hb ho he => .inr ⟨B, b, e, hb, ho, he, rfl⟩, fun r hr hno => hE.frame r hr fun B b e hg ho he => hno B b e (hasAll_get ha (hOf_get hg)) ho he, hE.os, hE.output⟩
end

/-! ### what stands for a call -/
noncomputable def primM (args : List V) (la : List (Nat × Blk)) (NA : Nat) (v : V) (ln : List (Nat × Blk)) (NX : Nat) (args' : List V) (h : H) : R :=
  ifB (eqvs args' args) (ifB (Nat.ble h.nx NA) (ifB (hasAll h la) (putLF ln h.t fun t => some (v, ⟨NX, t⟩)) none) none) none
noncomputable def primQ (args : List V) (la : List (Nat × Blk)) (NA : Nat) (v : V) (args' : List V) (h : H) : R :=
  ifB (eqvs args' args) (ifB (Nat.ble h.nx NA) (ifB (hasAll h la) (some (v, h)) none) none) none
noncomputable def orF (f g : List V → H → R) (args : List V) (h : H) : R := Option.rec (motive := fun _ => R) (g args h) (fun r => some r) (f args h)
noncomputable def codeP (FT : Tr FN) (n d g : Nat) (args : List V) (h : H) : R := callF FT n d g args h fun v h => some (v, h)

variable {T : TT} {FT : Tr FN}
theorem primM_ok (hT : TOK P T) (hmix : P.follows .mixedOrders = true) (hF : TrAll (FGood P T) FT id) {n d g : Nat} {args : List V} {la ln : List (Nat × Blk)} {NA NX : Nat} {v : V}
    (hr : isS (callF FT n d g args (hOf NA la) (kM v la ln NX)) = true) (hk : namesOK la ln NA NX = true) : PrimOK P g (primM args la NA v ln NX) := by
  intro args' h v' h' hf ι xs w hg hargs hh
  obtain ⟨h1, hf⟩ := ifB_some hf
  obtain ⟨h2, hf⟩ := ifB_some hf
  obtain ⟨h3, hf⟩ := ifB_some hf
  rw [putLF_eq] at hf
  injection hf with hf
  injection hf with e1 e2
  subst e1; subst e2
  have h1 := eqvs_eq h1
  subst h1
  have h2 := Nat.le_of_ble_eq_true h2
  obtain ⟨r, hr⟩ := isS_some hr
  refine (calls_of_callF hT hmix hF hr hg hargs (hh.sub h2 h3)).mono fun e w' ⟨v2, h2', hk2, x, ι', he, hv, g1, g2⟩ => ?_
  obtain ⟨k1, k2, k3, k4⟩ := kM_some hk2
  subst k1
  obtain ⟨m1, m2⟩ := made hh h2 h3 g1 g2 k2 k3 k4 hk
  exact ⟨x, ι', he, hv, m1, m2⟩

theorem primQ_ok (hT : TOK P T) (hmix : P.follows .mixedOrders = true) (hF : TrAll (FGood P T) FT id) {n d g : Nat} {args : List V} {la : List (Nat × Blk)} {NA NX : Nat} {v : V}
    (hr : isS (callF FT n d g args (hOf NA la) (kM v la [] NX)) = true) (hc : la.all (fun p => match p.2 with | .c .. => true | _ => false) = true) (hb : bareV v = true) : PrimOK P g (primQ args la NA v) := by
  intro args' h v' h' hf ι xs w hg hargs hh
  obtain ⟨h1, hf⟩ := ifB_some hf
  obtain ⟨h2, hf⟩ := ifB_some hf
  obtain ⟨h3, hf⟩ := ifB_some hf
  injection hf with hf
  injection hf with e1 e2
  subst e1; subst e2
  have h1 := eqvs_eq h1
  subst h1
  have h2 := Nat.le_of_ble_eq_true h2
  obtain ⟨r, hr⟩ := isS_some hr
  refine (calls_of_callF hT hmix hF hr hg hargs (hh.sub h2 h3)).mono fun e w' ⟨v2, h2', hk2, x, ι', he, hv, g1, g2⟩ => ?_
  obtain ⟨k1, k2, _, _⟩ := kM_some hk2
  subst k1
  obtain ⟨m1, m2⟩ := quiet hh h2 h3 hc g1 g2 k2
  exact ⟨x, ι, he, VR_bare hv hb, m1, m2⟩

theorem orF_ok {g : Nat} {f1 f2 : List V → H → R} (h1 : PrimOK P g f1) (h2 : PrimOK P g f2) : PrimOK P g (orF f1 f2) := by
  intro args h v h' hf
  unfold orF at hf
  cases hx : f1 args h with
  | none => rw [hx] at hf; exact h2 args h v h' hf
  | some r => rw [hx] at hf; exact h1 args h v h' (hx.trans hf)

theorem codeP_ok (hT : TOK P T) (hmix : P.follows .mixedOrders = true) (hF : TrAll (FGood P T) FT id) (n d g : Nat) : PrimOK P g (codeP FT n d g) := by
  intro args h v h' hf ι xs w hg hargs hh
  refine (calls_of_callF hT hmix hF hf hg hargs hh).mono fun e w' ⟨v2, h2, hk, x, ι', he, hv, g1, g2⟩ => ?_
  injection hk with hk
  injection hk with e1 e2
  subst e1; subst e2
  exact ⟨x, ι', he, hv, g1, g2⟩

end Go.Ev
