import Derived.Orders
import Derived.Room.AppendAsks
import Derived.Wp
import Derived.Laws.Entries
/-! Abstract values, abstract heaps, and how they relate to the model's. -/
namespace Go.Ev

/-- Abstract values. Pointers and slices name abstract blocks. sl: block, offset, length, capacity, x (0: the capacity is exact; else: the real one may be greater; the element's size). u: anything. -/
inductive V where
  | b (x : Bool)
  | i (k : IntKind) (n : Int)
  | s (l : List Nat)
  | p (B o : Nat)
  | pn
  | sl (B o len cap x : Nat)
  | sn
  | m (B : Nat)
  | mn
  | f (g : Nat) (fst cap : List V)
  | fn
  | ic (t : Nat) (v : V)
  | inn
  | ag (cs : List V)
  | tu (vs : List V)
  | u

/-- Abstract blocks. c: cells; below fz no store is allowed; q: 0 plain, 1 with the mark of a text's bytes behind its end, 2 handed in (never written). -/
inductive Blk where
  | c (cs : List V) (fz q : Nat)
  | mp (es : List (V × V × Nat)) (clk : Nat)
  | it (s : List Nat) (pos : Nat)

/-- A tree keyed by numbers. -/
inductive Tr (α : Type) where
  | lf
  | nd (l : Tr α) (x : Option α) (r : Tr α)

namespace Tr
variable {α : Type}
def get : Tr α → Nat → Option α
  | lf, _ => none
  | nd _ x _, 0 => x
  | nd l _ r, k + 1 => match k % 2 with
    | 0 => l.get (k / 2)
    | _ => r.get (k / 2)
def put : Nat → Tr α → Nat → Option α → Tr α
  | 0, t, _, _ => t
  | _ + 1, lf, 0, v => nd lf v lf
  | _ + 1, nd l _ r, 0, v => nd l v r
  | f + 1, lf, k + 1, v => match k % 2 with
    | 0 => nd (put f lf (k / 2) v) none lf
    | _ => nd lf none (put f lf (k / 2) v)
  | f + 1, nd l x r, k + 1, v => match k % 2 with
    | 0 => nd (put f l (k / 2) v) x r
    | _ => nd l x (put f r (k / 2) v)
theorem get_put (v : Option α) : ∀ (f : Nat) (t : Tr α) (k j : Nat), k < f → (put f t k v).get j = if j = k then v else t.get j := by
  intro f
  induction f with
  | zero => intro t k j h; omega
  | succ f ih =>
    intro t k j h
    cases k with
    | zero =>
      cases t with
      | lf => cases j <;> simp [put, get]; split <;> rfl
      | nd l x r => cases j <;> simp [put, get]
    | succ k =>
      have hk : k / 2 < f := by omega
      cases t with
      | lf =>
        cases j with
        | zero => simp only [put]; split <;> simp [get]
        | succ j =>
          simp only [put]
          split
          · rename_i h0
            simp only [get]
            split
            · rename_i h1
              rw [ih _ _ _ hk]
              by_cases e : j = k
              · subst e; simp
              · have : ¬ j / 2 = k / 2 := by omega
                simp [this, e, get]
            · rename_i h1
              have : ¬ j = k := by intro e; subst e; exact h1 h0
              simp [this]
          · rename_i h0
            simp only [get]
            split
            · rename_i h1
              have : ¬ j = k := by intro e; subst e; exact h0 h1
              simp [this]
            · rename_i h1
              rw [ih _ _ _ hk]
              by_cases e : j = k
              · subst e; simp
              · have h0' : ¬ k % 2 = 0 := h0
                have h1' : ¬ j % 2 = 0 := h1
                have : ¬ j / 2 = k / 2 := by omega
                simp [this, e, get]
      | nd l x r =>
        cases j with
        | zero => simp only [put]; split <;> simp [get]
        | succ j =>
          simp only [put]
          split
          · rename_i h0
            simp only [get]
            split
            · rename_i h1
              rw [ih _ _ _ hk]
              by_cases e : j = k
              · subst e; simp
              · have : ¬ j / 2 = k / 2 := by omega
                simp [this, e]
            · rename_i h1
              have : ¬ j = k := by intro e; subst e; exact h1 h0
              simp [this]
          · rename_i h0
            simp only [get]
            split
            · rename_i h1
              have : ¬ j = k := by intro e; subst e; exact h0 h1
              simp [this]
            · rename_i h1
              rw [ih _ _ _ hk]
              by_cases e : j = k
              · subst e; simp
              · have h0' : ¬ k % 2 = 0 := h0
                have h1' : ¬ j % 2 = 0 := h1
                have : ¬ j / 2 = k / 2 := by omega
                simp [this, e]
end Tr

/-- The heap: the next free name; the blocks. -/
structure H where
  nx : Nat
  t : Tr Blk

/-- No more names than this. -/
def top : Nat := 4294967296
def H.get (h : H) (B : Nat) : Option Blk := h.t.get B
/-- (fuel: the key's own bound serves.) -/
def H.put (h : H) (B : Nat) (v : Option Blk) : H := { h with t := Tr.put (B + 1) h.t B v }
def H.new (h : H) (v : Blk) : H := { nx := h.nx + 1, t := Tr.put (h.nx + 1) h.t h.nx (some v) }
theorem H.get_put (h : H) (B j : Nat) (v : Option Blk) : (h.put B v).get j = if j = B then v else h.get j := Tr.get_put v _ _ _ _ (Nat.lt_succ_self _)
theorem H.get_new (h : H) (j : Nat) (v : Blk) : (h.new v).get j = if j = h.nx then some v else h.get j := Tr.get_put _ _ _ _ _ (Nat.lt_succ_self _)
@[simp] theorem H.nx_put (h : H) (B : Nat) (v : Option Blk) : (h.put B v).nx = h.nx := rfl
@[simp] theorem H.nx_new (h : H) (v : Blk) : (h.new v).nx = h.nx + 1 := rfl

/-- Where a block lies: the real block, the offset of its first cell, the end of the cells that belong to it. -/
structure Loc where
  r : Nat
  o : Nat
  ext : Nat

abbrev Iota := Nat → Option Loc

mutual
/-- The relation of values. -/
inductive VR (ι : Iota) : V → Value → Prop
  | b (x : Bool) : VR ι (.b x) (.bool x)
  | i (k : IntKind) (n : Int) : VR ι (.i k n) (.int k n)
  | s (x : ByteArray) (l : List Nat) : l = x.data.toList.map UInt8.toNat → VR ι (.s l) (.string x)
  | p (B o : Nat) (e : Loc) : ι B = some e → VR ι (.p B o) (.pointer (some ⟨e.r, e.o + o, none⟩))
  | pn : VR ι .pn (.pointer none)
  | sx (B o len cap : Nat) (e : Loc) : ι B = some e → len ≤ cap → VR ι (.sl B o len cap 0) (.slice (some ⟨e.r, e.o + o, none⟩) len cap)
  | si (B o len cap x cap' off : Nat) (e : Loc) : ι B = some e → 0 < x → len ≤ cap → cap ≤ cap' → (cap' = 0 ∨ off = e.o + o ∧ off + cap' * x ≤ e.ext) → VR ι (.sl B o len cap x) (.slice (some ⟨e.r, off, none⟩) len cap')
  | sn : VR ι .sn (.slice none 0 0)
  | m (B : Nat) (e : Loc) : ι B = some e → VR ι (.m B) (.map (some e.r))
  | mn : VR ι .mn (.map none)
  | f (g : Nat) (fst cap : List V) (xs ys : Array Value) : VRs ι fst xs.toList → VRs ι cap ys.toList → VR ι (.f g fst cap) (.func (.func g) xs ys)
  | fn : VR ι .fn .nilFunc
  | ic (t : Nat) (v : V) (x : Value) : VR ι v x → VR ι (.ic t v) (.iface t x)
  | inn : VR ι .inn .nilIface
  | ag (cs : List V) (xs : Array Value) : VRs ι cs xs.toList → VR ι (.ag cs) (.agg xs)
  | tu (cs : List V) (xs : Array Value) : VRs ι cs xs.toList → VR ι (.tu cs) (.tuple xs)
  | u (x : Value) : x.oneCell = true → VR ι .u x
inductive VRs (ι : Iota) : List V → List Value → Prop
  | nil : VRs ι [] []
  | cons (v : V) (x : Value) (vs : List V) (xs : List Value) : VR ι v x → VRs ι vs xs → VRs ι (v :: vs) (x :: xs)
end

/-- ι' knows all that ι knows. -/
def Iota.le (ι ι' : Iota) : Prop := ∀ B e, ι B = some e → ι' B = some e
theorem Iota.le_refl (ι : Iota) : ι.le ι := fun _ _ h => h
theorem Iota.le_trans {a b c : Iota} (h : a.le b) (h' : b.le c) : a.le c := fun B e he => h' B e (h B e he)

mutual
theorem VR.mono {ι ι' : Iota} (h : ι.le ι') : ∀ {v : V} {x : Value}, VR ι v x → VR ι' v x
  | _, _, .b x => .b x
  | _, _, .i k n => .i k n
  | _, _, .s x l e => .s x l e
  | _, _, .p B o e he => .p B o e (h _ _ he)
  | _, _, .pn => .pn
  | _, _, .sx B o len cap e he hl => .sx B o len cap e (h _ _ he) hl
  | _, _, .si B o len cap x cap' off e he h1 h2 h3 h4 => .si B o len cap x cap' off e (h _ _ he) h1 h2 h3 h4
  | _, _, .sn => .sn
  | _, _, .m B e he => .m B e (h _ _ he)
  | _, _, .mn => .mn
  | _, _, .f g fst cap xs ys h1 h2 => .f g fst cap xs ys (VRs.mono h h1) (VRs.mono h h2)
  | _, _, .fn => .fn
  | _, _, .ic t v x hv => .ic t v x (VR.mono h hv)
  | _, _, .inn => .inn
  | _, _, .ag cs xs hs => .ag cs xs (VRs.mono h hs)
  | _, _, .tu cs xs hs => .tu cs xs (VRs.mono h hs)
  | _, _, .u x hx => .u x hx
theorem VRs.mono {ι ι' : Iota} (h : ι.le ι') : ∀ {vs : List V} {xs : List Value}, VRs ι vs xs → VRs ι' vs xs
  | _, _, .nil => .nil
  | _, _, .cons v x vs xs hv hs => .cons v x vs xs (VR.mono h hv) (VRs.mono h hs)
end

theorem VRs.length {ι : Iota} : ∀ {vs : List V} {xs : List Value}, VRs ι vs xs → vs.length = xs.length
  | _, _, .nil => rfl
  | _, _, .cons _ _ _ _ _ hs => by simp [hs.length]
theorem VRs.get {ι : Iota} : ∀ {vs : List V} {xs : List Value}, VRs ι vs xs → ∀ (j : Nat) (v : V), vs[j]? = some v → ∃ x, xs[j]? = some x ∧ VR ι v x
  | _, _, .nil, j, v, h => by simp at h
  | _, _, .cons v x vs xs hv hs, j, w, h => by
    cases j with
    | zero => simp at h; subst h; exact ⟨x, rfl, hv⟩
    | succ j => simp at h; simpa using hs.get j w h
theorem VRs.append {ι : Iota} : ∀ {vs : List V} {xs : List Value} {ws : List V} {ys : List Value}, VRs ι vs xs → VRs ι ws ys → VRs ι (vs ++ ws) (xs ++ ys)
  | _, _, _, _, .nil, h => h
  | _, _, _, _, .cons v x vs xs hv hs, h => .cons _ _ _ _ hv (hs.append h)
theorem VRs.of_get {ι : Iota} : ∀ {vs : List V} {xs : List Value}, vs.length = xs.length → (∀ (j : Nat) (v : V), vs[j]? = some v → ∃ x, xs[j]? = some x ∧ VR ι v x) → VRs ι vs xs
  | [], [], _, _ => .nil
  | [], _ :: _, h, _ => by simp at h
  | _ :: _, [], h, _ => by simp at h
  | v :: vs, x :: xs, h, hg => by
    obtain ⟨y, hy, hv⟩ := hg 0 v rfl
    simp at hy; subst hy
    exact .cons _ _ _ _ hv (VRs.of_get (by simpa using h) fun j w hw => by simpa using hg (j + 1) w (by simpa using hw))
theorem VRs.replicate {ι : Iota} {v : V} {x : Value} (h : VR ι v x) : ∀ n, VRs ι (List.replicate n v) (List.replicate n x)
  | 0 => .nil
  | n + 1 => by simp only [List.replicate_succ]; exact .cons _ _ _ _ h (VRs.replicate h n)

/-- One cell's value, in the model: no aggregate, no tuple. -/
def V.one : V → Bool
  | .ag _ | .tu _ => false
  | _ => true
theorem VR.one {ι : Iota} {v : V} {x : Value} (h : VR ι v x) (hv : v.one = true) : x.oneCell = true := by
  cases h <;> first | rfl | (simp [V.one] at hv; done) | assumption

/-- Which real cells of a block are frozen. -/
def ColdF (fz q : Nat) (e : Loc) (size : Nat) (f : Nat × Nat) : Prop :=
  match q with
  | 0 => f.1 = f.2 ∨ f.2 ≤ e.o + fz
  | 1 => f.1 = f.2 ∨ size ≤ f.1
  | _ => True
/-- q: its rest by 4: the kind; the quotient: 0, or one more than the type of the row's elements (then the block is the row from its head on). -/
def Cold (fz q el : Nat) (e : Loc) (size : Nat) (f : Nat × Nat) : Prop := (q / 4 = 0 ∨ q / 4 = el + 1 ∧ e.o = 0) ∧ ColdF fz (q % 4) e size f
theorem ColdF.cases {fz q : Nat} {e : Loc} {size : Nat} {f : Nat × Nat} (h : ColdF fz q e size f) (hq : q < 2) : f.1 = f.2 ∨ q = 0 ∧ f.2 ≤ e.o + fz ∨ q = 1 ∧ size ≤ f.1 := by
  have : q = 0 ∨ q = 1 := by omega
  rcases this with rfl | rfl
  · rcases h with h | h
    · exact .inl h
    · exact .inr (.inl ⟨rfl, h⟩)
  · rcases h with h | h
    · exact .inl h
    · exact .inr (.inr ⟨rfl, h⟩)
theorem ColdF.cold {fz q : Nat} {e : Loc} {size : Nat} {f : Nat × Nat} (h : f.1 = f.2) : ColdF fz q e size f := by
  unfold ColdF; split
  · exact .inl h
  · exact .inl h
  · trivial

/-- What a real block holds of an abstract one. -/
def BR (ι : Iota) (e : Loc) (w : World) : Blk → Prop
  | .c cs fz q => ∃ c el f, w.heap[e.r]? = some (.cells c el f) ∧ (∀ j v, cs[j]? = some v → ∃ x, c[e.o + j]? = some x ∧ VR ι v x) ∧ (∀ v ∈ cs, v.one = true) ∧ e.o + cs.length ≤ e.ext ∧ e.ext ≤ c.size ∧ Cold fz q el e c.size f
  | .mp es clk => ∃ en : Array MapEntry, w.heap[e.r]? = some (.map en clk) ∧ VRs ι (es.map (·.1)) (en.toList.map (·.key)) ∧ VRs ι (es.map (·.2.1)) (en.toList.map (·.val)) ∧ es.map (·.2.2) = en.toList.map (·.born)
  | .it s pos => e.o = 0 ∧ ∃ x : ByteArray, w.heap[e.r]? = some (.stringIter x pos) ∧ s = x.data.toList.map UInt8.toNat

/-- A block of the call's own. -/
def Blk.own : Blk → Bool
  | .c _ _ q => decide (q % 4 < 2)
  | _ => true

structure HRel (ι : Iota) (h : H) (w : World) : Prop where
  br : ∀ B b e, h.get B = some b → ι B = some e → BR ι e w b
  inj : ∀ B B' b b' e e', B ≠ B' → h.get B = some b → h.get B' = some b' → ι B = some e → ι B' = some e' → b.own = true → e.r ≠ e'.r
  lt : ∀ B e, ι B = some e → B < h.nx
  dom : ∀ B b, h.get B = some b → B < h.nx

/-- How one state came of another. -/
structure Ext (ι : Iota) (h : H) (w : World) (ι' : Iota) (h' : H) (w' : World) : Prop where
  le : ι.le ι'
  old : ∀ B, B < h.nx → ι' B = ι B
  nx : h.nx ≤ h'.nx
  size : w.heap.size ≤ w'.heap.size
  own : ∀ B b e, h'.get B = some b → b.own = true → ι' B = some e → w.heap.size ≤ e.r ∨ ∃ B0 b0 e0, h.get B0 = some b0 ∧ b0.own = true ∧ ι B0 = some e0 ∧ e0.r = e.r
  frame : ∀ r, r < w.heap.size → (∀ B b e, h.get B = some b → b.own = true → ι B = some e → e.r ≠ r) → w'.heap[r]? = w.heap[r]?
  os : w'.os = w.os
  output : w'.output = w.output

theorem Ext.refl (ι : Iota) (h : H) (w : World) : Ext ι h w ι h w :=
  ⟨Iota.le_refl _, fun _ _ => rfl, Nat.le_refl _, Nat.le_refl _, fun B b e hb ho he => .inr ⟨B, b, e, hb, ho, he, rfl⟩, fun _ _ _ => rfl, rfl, rfl⟩

theorem Ext.trans {ι ι' ι'' : Iota} {h h' h'' : H} {w w' w'' : World} (a : Ext ι h w ι' h' w') (b : Ext ι' h' w' ι'' h'' w'') : Ext ι h w ι'' h'' w'' where
  le := Iota.le_trans a.le b.le
  old B hB := (b.old B (Nat.lt_of_lt_of_le hB a.nx)).trans (a.old B hB)
  nx := Nat.le_trans a.nx b.nx
  size := Nat.le_trans a.size b.size
  own B bb e hb ho he := by
    rcases b.own B bb e hb ho he with h1 | ⟨B0, b0, e0, h1, h2, h3, h4⟩
    · exact .inl (Nat.le_trans a.size h1)
    · rcases a.own B0 b0 e0 h1 h2 h3 with h5 | ⟨B1, b1, e1, h5, h6, h7, h8⟩
      · exact .inl (h4 ▸ h5)
      · exact .inr ⟨B1, b1, e1, h5, h6, h7, h8.trans h4⟩
  frame r hr hn := by
    rw [b.frame r (Nat.lt_of_lt_of_le hr a.size), a.frame r hr hn]
    intro B bb e hb ho he heq
    rcases a.own B bb e hb ho he with h1 | ⟨B0, b0, e0, h1, h2, h3, h4⟩
    · omega
    · exact hn B0 b0 e0 h1 h2 h3 (h4.trans heq)
  os := b.os.trans a.os
  output := b.output.trans a.output

end Go.Ev

/-! The operations over abstract values. -/
namespace Go.Ev

/-- An operand: a constant, a slot. -/
inductive X where
  | k (v : V)
  | t (n : Nat)

/-- Operations with their types resolved. -/
inductive AO (α : Type) where
  | mv (x : α)
  | pick (c a b : α)
  | bin (op : BinOp) (x y : α)
  | eq (cls : Nat) (neg : Bool) (x y : α)
  | eqs (neg : Bool) (n : Nat) (x y : α)
  | un (op : UnOp) (x : α)
  | cvi (k : IntKind) (x : α)
  | cvs (x : α)
  | nck (x : α)
  | fa (off : Nat) (x : α)
  | ia (sz : Nat) (x ix : α)
  | iaa (n sz : Nat) (x ix : α)
  | ix (x ix : α)
  | ixa (n sz : Nat) (agg : Bool) (x ix : α)
  | fld (off sz : Nat) (agg : Bool) (x : α)
  | sls (x : α) (lo hi : Option α)
  | slv (sz : Nat) (x : α) (lo hi : Option α)
  | sla (n sz : Nat) (x : α) (lo hi : Option α)
  | ext (j : Nat) (x : α)
  | build (zs : List V) (parts : List (Nat × Nat × α))
  | mkf (g : Nat) (fst cap : List α)
  | mki (t : Nat) (x : α)
  | len (str : Bool) (x : α)
  | cap (x : α)
  | mm (mx : Bool) (x : α) (ys : List α)
  | ixb (x c : α)
  | sd (x : α)
  -- new blocks
  | alloc (q : Nat) (zs : List V)
  | box (q : Nat) (x : α)
  | bsl (n sz : Nat) (zs : List V) (parts : List (Nat × Nat × α))
  | mks (sz bytes : Nat) (zs : List V) (l c : α)
  | mkm
  | s2b (x : α)
  | rgs (x : α)
  | mnz (q : Nat) (n : α)
  -- reads
  | ld (a : α)
  | ldn (n : Nat) (a : α)
  | lenm (x : α)
  | lk (kc : Nat) (zero : V) (ok : Bool) (x k : α)
  | b2s (x : α)
  | cvr (any : Bool) (qs : List (Nat × Nat)) (x : α)
  -- effects
  | st (a x : α)
  | stn (n : Nat) (a x : α)
  | app (q sz bytes : Nat) (s x : α)
  | ustr (q : Nat) (x n : α)
  | cpy (sz : Nat) (d s : α)
  | clrm (x : α)
  | mup (kc : Nat) (m k v : α)
  | mpe (kc : Nat) (zero : V) (m k : α)
  | mst (m stamp v : α)
  | nxs (it : α)
  -- calls
  | call (g : Nat) (args : List α)
  | callv (x : α) (args : List α)

def AO.map {α β : Type} (f : α → β) : AO α → AO β
  | .mv x => .mv (f x)
  | .pick c a b => .pick (f c) (f a) (f b)
  | .bin op x y => .bin op (f x) (f y)
  | .eq c n x y => .eq c n (f x) (f y)
  | .eqs n k x y => .eqs n k (f x) (f y)
  | .un op x => .un op (f x)
  | .cvi k x => .cvi k (f x)
  | .cvs x => .cvs (f x)
  | .nck x => .nck (f x)
  | .fa o x => .fa o (f x)
  | .ia s x i => .ia s (f x) (f i)
  | .iaa n s x i => .iaa n s (f x) (f i)
  | .ix x i => .ix (f x) (f i)
  | .ixa n s g x i => .ixa n s g (f x) (f i)
  | .fld o s g x => .fld o s g (f x)
  | .sls x l h => .sls (f x) (l.map f) (h.map f)
  | .slv s x l h => .slv s (f x) (l.map f) (h.map f)
  | .sla n s x l h => .sla n s (f x) (l.map f) (h.map f)
  | .ext j x => .ext j (f x)
  | .build zs ps => .build zs (ps.map fun (o, s, x) => (o, s, f x))
  | .mkf g a b => .mkf g (a.map f) (b.map f)
  | .mki t x => .mki t (f x)
  | .len b x => .len b (f x)
  | .cap x => .cap (f x)
  | .mm b x ys => .mm b (f x) (ys.map f)
  | .ixb x c => .ixb (f x) (f c)
  | .sd x => .sd (f x)
  | .alloc q zs => .alloc q zs
  | .box q x => .box q (f x)
  | .bsl n s zs ps => .bsl n s zs (ps.map fun (o, s, x) => (o, s, f x))
  | .mks s b zs l c => .mks s b zs (f l) (f c)
  | .mkm => .mkm
  | .s2b x => .s2b (f x)
  | .rgs x => .rgs (f x)
  | .mnz q n => .mnz q (f n)
  | .ld a => .ld (f a)
  | .ldn n a => .ldn n (f a)
  | .lenm x => .lenm (f x)
  | .lk kc z ok x k => .lk kc z ok (f x) (f k)
  | .b2s x => .b2s (f x)
  | .cvr y qs x => .cvr y qs (f x)
  | .st a x => .st (f a) (f x)
  | .stn n a x => .stn n (f a) (f x)
  | .app q s b x y => .app q s b (f x) (f y)
  | .ustr q x n => .ustr q (f x) (f n)
  | .cpy s d x => .cpy s (f d) (f x)
  | .clrm x => .clrm (f x)
  | .mup kc m k v => .mup kc (f m) (f k) (f v)
  | .mpe kc z m k => .mpe kc z (f m) (f k)
  | .mst m s v => .mst (f m) (f s) (f v)
  | .nxs i => .nxs (f i)
  | .call g as => .call g (as.map f)
  | .callv x as => .callv (f x) (as.map f)

/-- 0: of values alone; 1: a new block; 2: reads; 3: acts on memory; 4: calls. -/
def AO.cls {α : Type} : AO α → Nat
  | .alloc .. | .box .. | .bsl .. | .mks .. | .mkm | .s2b _ | .rgs _ | .mnz .. => 1
  | .ld _ | .ldn .. | .lenm _ | .lk .. | .b2s _ | .cvr .. => 2
  | .st .. | .stn .. | .app .. | .ustr .. | .cpy .. | .clrm _ | .mup .. | .mpe .. | .mst .. | .nxs _ => 3
  | .call .. | .callv .. => 4
  | _ => 0
theorem AO.cls_map {α β : Type} (f : α → β) (o : AO α) : (o.map f).cls = o.cls := by cases o <;> rfl

/-- The cells of a value. -/
def V.cells : V → List V
  | .ag cs => cs
  | v => [v]

def ltL : List Nat → List Nat → Bool
  | _, [] => false
  | [], _ :: _ => true
  | a :: x, b :: y => Nat.blt a b || (a == b && ltL x y)

def bitsI (k : IntKind) (op : BinOp) (x y : Int) : Option V :=
  let a := BitVec.ofInt k.bits x
  let b := BitVec.ofInt k.bits y
  match op with
  | .and => some (.i k (k.wrap (a &&& b).toNat))
  | .or => some (.i k (k.wrap (a ||| b).toNat))
  | .xor => some (.i k (k.wrap (a ^^^ b).toNat))
  | .andNot => some (.i k (k.wrap (a &&& ~~~b).toNat))
  | _ => none

def binI (k : IntKind) (op : BinOp) (a b : Int) : Option V :=
  match op with
  | .add => some (.i k (k.wrap (a + b)))
  | .sub => some (.i k (k.wrap (a - b)))
  | .mul => some (.i k (k.wrap (a * b)))
  | .quo => if b = 0 then none else some (.i k (k.wrap (a.tdiv b)))
  | .rem => if b = 0 then none else some (.i k (a.tmod b))
  | .eql => some (.b (a == b))
  | .neq => some (.b (a != b))
  | .lss => some (.b (decide (a < b)))
  | .leq => some (.b (decide (a ≤ b)))
  | .gtr => some (.b (decide (a > b)))
  | .geq => some (.b (decide (a ≥ b)))
  | op => bitsI k op a b

def binS (op : BinOp) (a b : List Nat) : Option V :=
  match op with
  | .add => if a.length + b.length < 4611686018427387904 then some (.s (a ++ b)) else none
  | .eql => some (.b (a == b))
  | .neq => some (.b (!(a == b)))
  | .lss => some (.b (ltL a b))
  | .leq => some (.b (ltL a b || a == b))
  | .gtr => some (.b (!(ltL a b || a == b)))
  | .geq => some (.b (!ltL a b))
  | _ => none

def binV (op : BinOp) : V → V → Option V
  | .i k a, .i k' b => match op with
    | .shl => if b < 0 then none else some (.i k (k.wrap (a * 2 ^ (min b.toNat k.bits))))
    | .shr => if b < 0 then none else some (.i k (a.fdiv (2 ^ (min b.toNat k.bits))))
    | op => if k = k' then binI k op a b else none
  | .s a, .s b => binS op a b
  | _, _ => none

/-- cls: 0 bools; 1 pointers, 2 slices, 3 maps, 4 functions, 5 interfaces against nil, 6 interfaces one of which is nil; pointers into one block. -/
def eqV : Nat → V → V → Option Bool
  | 0, .b a, .b b => some (a == b)
  | 1, .pn, .pn => some true
  | 1, .pn, .p .. => some false
  | 1, .p .., .pn => some false
  | 1, .p B o, .p B' o' => if B = B' then some (o == o') else none
  | 2, .sn, .sn => some true
  | 2, .sn, .sl .. => some false
  | 2, .sl .., .sn => some false
  | 3, .mn, .mn => some true
  | 3, .mn, .m _ => some false
  | 3, .m _, .mn => some false
  | 4, .fn, .fn => some true
  | 4, .fn, .f .. => some false
  | 4, .f .., .fn => some false
  | 5, .inn, .inn => some true
  | 5, .inn, .ic .. => some false
  | 5, .ic .., .inn => some false
  | 6, .inn, .ic .. => some false
  | 6, .ic .., .inn => some false
  | _, _, _ => none

/-- Cells of plain comparable values, one by one. -/
def eqC : List V → List V → Option Bool
  | [], [] => some true
  | .i k a :: x, .i k' b :: y => if k = k' then (if a == b then eqC x y else some false) else none
  | .s a :: x, .s b :: y => if a == b then eqC x y else some false
  | .b a :: x, .b b :: y => if a == b then eqC x y else some false
  | _, _ => none

/-- The kinds of cells, as digits by 4: 1 a number, 2 a text, 3 a bool. -/
def shp : Nat → List V → Bool
  | c, [] => c == 0
  | c, .i .. :: r => c % 4 == 1 && shp (c / 4) r
  | c, .s _ :: r => c % 4 == 2 && shp (c / 4) r
  | c, .b _ :: r => c % 4 == 3 && shp (c / 4) r
  | _, _ => false

def unV (op : UnOp) : V → Option V
  | .i k n => match op with
    | .neg => some (.i k (k.wrap (0 - n)))
    | .xor => bitsI k .xor (if k.signed then -1 else k.max) n
    | _ => none
  | .b x => match op with
    | .not => some (.b (!x))
    | _ => none
  | _ => none

def idx (i : Int) (n : Nat) : Option Nat := if 0 ≤ i ∧ i < n then some i.toNat else none
/-- bounds of a slice expression: low, high. -/
def hiV (len cap : Nat) : Option V → Option Nat
  | some (.i _ n) => if 0 ≤ n ∧ n ≤ cap then some n.toNat else none
  | none => some len
  | _ => none
def loV (h : Nat) : Option V → Option Nat
  | some (.i _ n) => if 0 ≤ n ∧ n ≤ h then some n.toNat else none
  | none => some 0
  | _ => none
def bnds (len cap : Nat) (lo hi : Option V) : Option (Nat × Nat) :=
  match hiV len cap hi with
  | none => none
  | some h => match loV h lo with
    | none => none
    | some l => some (l, h)

/-- vs laid over cs from off on. -/
def layAt : List V → Nat → List V → List V
  | cs, _, [] => cs
  | cs, off, v :: vs => layAt (cs.set off v) (off + 1) vs
def fillV (cs : List V) : List (Nat × Nat × V) → Option (List V)
  | [] => some cs
  | (off, sz, v) :: rest => if v.cells.length = sz ∧ off + sz ≤ cs.length then fillV (layAt cs off v.cells) rest else none

def mmV (mx : Bool) : V → List V → Option V
  | v, [] => some v
  | .i k a, .i _ b :: r => mmV mx (.i k (if mx then (if b > a then b else a) else (if b < a then b else a))) r
  | _, _ => none

def rept (zs : List V) : Nat → List V
  | 0 => []
  | n + 1 => zs ++ rept zs n

def findB (c : Nat) : List Nat → Nat → Int
  | [], _ => -1
  | x :: r, j => if x == c then (j : Int) else findB c r (j + 1)

/-- What hangs on values alone. -/
def semP : AO V → Option V
  | .mv x => some x
  | .pick c a b => match c with | .b t => some (if t then a else b) | _ => none
  | .bin op x y => binV op x y
  | .eq cls neg x y => match eqV cls x y with | some r => some (.b (if neg then !r else r)) | none => none
  | .eqs neg n x y => match x, y with
    | .ag a, .ag b => if shp n a = true ∧ shp n b = true then (match eqC a b with | some r => some (.b (if neg then !r else r)) | none => none) else none
    | _, _ => none
  | .un op x => unV op x
  | .cvi k x => match x with | .i _ n => some (.i k (k.wrap n)) | _ => none
  | .cvs x => match x with | .s l => some (.s l) | _ => none
  | .nck x => match x with | .p B o => some (.p B o) | .f g a b => some (.f g a b) | _ => none
  | .fa off x => match x with | .p B o => some (.p B (o + off)) | _ => none
  | .ia sz x ix => match x, ix with
    | .sl B o len _ _, .i _ n => match idx n len with | some j => some (.p B (o + j * sz)) | none => none
    | _, _ => none
  | .iaa n sz x ix => match x, ix with
    | .p B o, .i _ j => match idx j n with | some j => some (.p B (o + j * sz)) | none => none
    | _, _ => none
  | .ix x ix => match x, ix with
    | .s l, .i _ n => match idx n l.length with | some j => (match l[j]? with | some c => some (.i .u8 c) | none => none) | none => none
    | _, _ => none
  | .ixa n sz agg x ix => match x, ix with
    | .ag cs, .i _ j => match idx j n with
      | some j => if agg then (if j * sz + sz ≤ cs.length then some (.ag ((cs.drop (j * sz)).take sz)) else none) else cs[j * sz]?
      | none => none
    | _, _ => none
  | .fld off sz agg x => match x with
    | .ag cs => if agg then (if off + sz ≤ cs.length then some (.ag ((cs.drop off).take sz)) else none) else cs[off]?
    | _ => none
  | .sls x lo hi => match x with
    | .s l => match bnds l.length l.length lo hi with | some (a, b) => some (.s ((l.drop a).take (b - a))) | none => none
    | _ => none
  | .slv sz x lo hi => match x with
    | .sl B o len cap xf => match bnds len cap lo hi with
      | some (a, b) => if xf = 0 then some (if cap = a then .sl B o (b - a) (cap - a) 0 else .sl B (o + a * sz) (b - a) (cap - a) 0)
        else if xf = sz then some (.sl B (o + a * sz) (b - a) (cap - a) xf) else none
      | none => none
    | .sn => match bnds 0 0 lo hi with | some _ => some .sn | none => none
    | _ => none
  | .sla n sz x lo hi => match x with
    | .p B o => match bnds n n lo hi with
      | some (a, b) => some (if n = a then .sl B o (b - a) (n - a) 0 else .sl B (o + a * sz) (b - a) (n - a) 0)
      | none => none
    | _ => none
  | .ext j x => match x with | .tu vs => vs[j]? | _ => none
  | .build zs ps => match fillV zs ps with | some cs => some (.ag cs) | none => none
  | .mkf g a b => some (.f g a b)
  | .mki t x => some (.ic t x)
  | .len str x => match str, x with
    | true, .s l => some (.i .i64 l.length)
    | false, .sl _ _ len _ _ => some (.i .i64 len)
    | false, .sn => some (.i .i64 0)
    | _, _ => none
  | .cap x => match x with
    | .sl _ _ _ cap 0 => some (.i .i64 cap)
    | .sn => some (.i .i64 0)
    | _ => none
  | .mm mx x ys => mmV mx x ys
  | .ixb x c => match x, c with | .s l, .i .u8 n => if 0 ≤ n ∧ n < 256 then some (.i .i64 (findB n.toNat l 0)) else none | _, _ => none
  | .sd x => match x with | .sn => some .pn | .sl B o _ cap _ => if cap = 0 then none else some (.p B o) | _ => none
  | _ => none

/-- A new block, and what names it. -/
def semN : AO V → Option (Blk × (Nat → V))
  | .alloc q zs => if q % 4 = 0 then some (.c zs 0 q, fun B => .p B 0) else none
  | .box q x => if x.cells.all V.one && q % 4 == 0 then some (.c x.cells 0 q, fun B => .p B 0) else none
  | .bsl n _ zs ps => match fillV (rept zs n) ps with
    | some cs => if cs.all V.one then some (.c cs 0 0, fun B => .sl B 0 n n 0) else none
    | none => none
  | .mks _ bytes zs l c => match l, c with
    | .i _ a, .i _ b => if 0 ≤ a ∧ a ≤ b ∧ b * bytes ≤ 140737488355328 ∧ b ≤ 1099511627776 then some (.c (rept zs b.toNat) 0 0, fun B => .sl B 0 a.toNat b.toNat 0) else none
    | _, _ => none
  | .mkm => some (.mp [] 0, fun B => .m B)
  | .s2b x => match x with | .s l => some (.c (l.map fun (c : Nat) => .i .u8 c) 0 1, fun B => .sl B 0 l.length l.length 1) | _ => none
  | .rgs x => match x with | .s l => some (.it l 0, fun B => .p B 0) | _ => none
  | .mnz q n => match n with | .i .i64 n => if 0 ≤ n ∧ n ≤ 1073741824 ∧ q % 4 = 0 then some (.c (List.replicate n.toNat .u) 0 q, fun B => .sl B 0 n.toNat n.toNat 1) else none | _ => none
  | _ => none

def cellsAt (h : H) (B o n : Nat) : Option (List V) :=
  match h.get B with
  | some (.c cs _ _) => if o + n ≤ cs.length then some ((cs.drop o).take n) else none
  | _ => none

/-- Are two keys the same? kc: 0 ints, 1 texts, 2 bools, n + 3: n cells of these. -/
def keyEq (kc : Nat) (a b : V) : Option Bool :=
  match kc, a, b with
  | 0, .i k x, .i k' y => if k = k' then some (x == y) else none
  | 1, .s x, .s y => some (x == y)
  | 2, .b x, .b y => some (x == y)
  | n + 3, .ag x, .ag y => if shp n x = true ∧ shp n y = true then eqC x y else none
  | _, _, _ => none
def findE (kc : Nat) (k : V) : List (V × V × Nat) → Nat → Option (Option (Nat × V))
  | [], _ => some none
  | (k', v, _) :: r, j => match keyEq kc k k' with
    | some true => some (some (j, v))
    | some false => findE kc k r (j + 1)
    | none => none
/-- A key of its kind? -/
def keyOk (kc : Nat) (k : V) : Bool :=
  match kc, k with
  | 0, .i .. | 1, .s _ | 2, .b _ => true
  | n + 3, .ag x => shp n x
  | _, _ => false

def bytesL : List V → Option (List Nat)
  | [] => some []
  | .i .u8 n :: r => if 0 ≤ n ∧ n < 256 then (bytesL r).map (n.toNat :: ·) else none
  | _ => none

def semR : AO V → H → Option V
  | .ld a, h => match a with
    | .p B o => match h.get B with | some (.c cs _ _) => cs[o]? | _ => none
    | _ => none
  | .ldn n a, h => match a with
    | .p B o => (cellsAt h B o n).map .ag
    | _ => none
  | .lenm x, h => match x with
    | .mn => some (.i .i64 0)
    | .m B => match h.get B with | some (.mp es _) => some (.i .i64 es.length) | _ => none
    | _ => none
  | .lk kc z ok x k, h => if keyOk kc k then
      match (match x with | .mn => some [] | .m B => (match h.get B with | some (.mp es _) => some es | _ => none) | _ => none : Option (List (V × V × Nat))) with
      | none => none
      | some es => match findE kc k es 0 with
        | none => none
        | some r => let v := match r with | some (_, v) => v | none => z
          some (if ok then .tu [v, .b r.isSome] else v)
    else none
  | .b2s x, h => match x with
    | .sn => some (.s [])
    | .sl B o len _ _ => match cellsAt h B o len with | some cs => (bytesL cs).map .s | none => none
    | _ => none
  | .cvr any qs x, h => match x with
    | .pn => some .pn
    | .p B o => match h.get B with | some (.c cs _ q') => if o < cs.length ∧ (any = true ∨ o = 0 ∧ qs.any (fun p => q' / 4 * 4 == p.1 && Nat.ble p.2 cs.length) = true) then some (.p B o) else none | _ => none
    | _ => none
  | _, _ => none

/-- What is appended: its cells, their number as elements. -/
def srcOf (h : H) (sz : Nat) : V → Option (Nat × List V)
  | .sn => some (0, [])
  | .sl B o len _ _ => (cellsAt h B o (len * sz)).map (len, ·)
  | .s l => if sz = 1 then some (l.length, l.map fun (c : Nat) => .i .u8 c) else none
  | _ => none

def stAt (h : H) (B o : Nat) (vs : List V) : Option H :=
  match vs with
  | [] => some h
  | vs => match h.get B with
    | some (.c cs fz q) => if 2 ≤ q % 4 ∨ o < fz ∨ cs.length < o + vs.length ∨ !(vs.all V.one) then none else some (h.put B (some (.c (layAt cs o vs) fz q)))
    | _ => none

/-- the kind of the block behind an append that asked for more than it had. -/
def regrowQ (tg q o : Nat) : Nat := if q / 4 * 4 = tg ∧ o = 0 then q else q % 4

def setE (es : List (V × V × Nat)) (j : Nat) (f : V × V × Nat → V × V × Nat) : List (V × V × Nat) := es.modify j f

def semE : AO V → H → Option (V × H)
  | .st a x, h => match a with
    | .p B o => (stAt h B o [x]).map (.tu [], ·)
    | _ => none
  | .stn n a x, h => match a, x with
    | .p B o, .ag xs => if xs.length = n ∧ 0 < n then (stAt h B o xs).map (.tu [], ·) else none
    | _, _ => none
  | .app tg sz bytes s x, h => match srcOf h sz x with
    | none => none
    | some (n, news) => if sz = 0 ∨ bytes = 0 ∨ 65536 < bytes ∨ tg % 4 ≠ 0 then none else match s with
      | .sn => if n = 0 then some (.sn, h)
        else if 1073741824 < n then none else some (.sl h.nx 0 n n sz, h.new (.c news 0 tg))
      | .sl B o len cap xf =>
        if len + n ≤ cap then (stAt h B (o + len * sz) news).map (.sl B o (len + n) cap xf, ·)
        else if 1073741824 < len + n then none
        else match cellsAt h B o (len * sz) with
          | none => none
          | some old =>
            if xf = 0 then some (.sl h.nx 0 (len + n) (len + n) sz, h.new (.c (old ++ news) 0 tg))
            else if xf = sz then match h.get B with
              | some (.c _ fz q) => if 2 ≤ q % 4 ∨ o + len * sz < fz then none
                else some (.sl h.nx 0 (len + n) (len + n) sz, (h.put B none).new (.c (old ++ news) (fz - o) (regrowQ tg q o)))
              | _ => none
            else none
      | _ => none
  | .ustr q x n, h => match x, n with
    | .pn, .i .i64 n => if n = 0 then some (.s [], h) else none
    | .p B o, .i .i64 n => if n = 0 then some (.s [], h) else if n < 0 ∨ o ≠ 0 then none
      else match h.get B with
        | some (.c cs fz q') => if q' / 4 * 4 = q ∧ 0 < q ∧ q' % 4 = 0 ∧ n ≤ cs.length ∧ n ≤ 1099511627776 then
            (match bytesL (cs.take n.toNat) with
              | some l => some (.s l, h.put B (some (.c cs (max fz n.toNat) q')))
              | none => none) else none
        | _ => none
    | _, _ => none
  | .cpy sz d s, h => match srcOf h sz s with
    | none => none
    | some (n, cs) => match d with
      | .sn => some (.i .i64 0, h)
      | .sl B o len _ _ => (stAt h B o (cs.take (min n len * sz))).map (.i .i64 (min n len : Nat), ·)
      | _ => none
  | .clrm x, h => match x with
    | .mn => some (.tu [], h)
    | .m B => match h.get B with | some (.mp _ clk) => some (.tu [], h.put B (some (.mp [] clk))) | _ => none
    | _ => none
  | .mup kc m k v, h => match m with
    | .m B => if keyOk kc k then match h.get B with
      | some (.mp es clk) => match findE kc k es 0 with
        | none => none
        | some (some (j, _)) => some (.tu [], h.put B (some (.mp (setE es j fun (_, _, b) => (k, v, b)) clk)))
        | some none => some (.tu [], h.put B (some (.mp (es ++ [(k, v, clk)]) (clk + 1))))
      | _ => none
      else none
    | _ => none
  | .mpe kc z m k, h => match m with
    | .m B => if keyOk kc k then match h.get B with
      | some (.mp es clk) => match findE kc k es 0 with
        | none => none
        | some (some (j, v)) => match es[j]? with
          | some (_, _, b) => some (.tu [v, .i .i64 b], h.put B (some (.mp (setE es j fun (_, v, b) => (k, v, b)) clk)))
          | none => none
        | some none => some (.tu [z, .i .i64 clk], h.put B (some (.mp (es ++ [(k, z, clk)]) (clk + 1))))
      | _ => none
      else none
    | _ => none
  | .mst m s v, h => match m, s with
    | .m B, .i _ b => match h.get B with
      | some (.mp es clk) => match es.findIdx? (fun e => (e.2.2 : Int) == b) with
        | some j => some (.tu [], h.put B (some (.mp (setE es j fun (k, _, b) => (k, v, b)) clk)))
        | none => none
      | _ => none
    | _, _ => none
  | .nxs it, h => match it with
    | .p B 0 => match h.get B with
      | some (.it l pos) => match l[pos]? with
        | none => if pos = l.length then some (.tu [.b false], h) else none
        | some c => if c < 128 then some (.tu [.b true, .i .i64 pos, .i .i32 c], h.put B (some (.it l (pos + 1)))) else none
      | _ => none
    | _ => none
  | _, _ => none

end Go.Ev

/-! The types of operations resolved. -/
namespace Go.Ev

/-- What is known of a type: its shape, cells, bytes, zero cells. -/
structure TI where
  d : TypeDesc
  size : Nat
  bytes : Nat
  zero : List V

/-- A constant of one cell. -/
def V.of1 : Value → Option V
  | .bool x1 => some (.b x1)
  | .int x1 x2 => some (.i x1 x2)
  | .string x1 => some (.s (x1.data.toList.map UInt8.toNat))
  | .pointer none => some .pn
  | .slice none 0 0 => some .sn
  | .map none => some .mn
  | .nilFunc => some .fn
  | .nilIface => some .inn
  | _ => none
def V.ofL : List Value → Option (List V)
  | [] => some []
  | x :: r => match V.of1 x, V.ofL r with
    | some v, some vs => some (v :: vs)
    | _, _ => none
def V.of : Value → Option V
  | .agg cs => (V.ofL cs.toList).map .ag
  | .tuple cs => (V.ofL cs.toList).map .tu
  | x => V.of1 x
theorem V.of1_rel (ι : Iota) {x : Value} {v : V} (h : V.of1 x = some v) : VR ι v x := by
  unfold V.of1 at h
  split at h <;> first | (injection h with h; subst h; constructor) | cases h
  rfl
theorem V.ofL_rel (ι : Iota) : ∀ {xs : List Value} {vs : List V}, V.ofL xs = some vs → VRs ι vs xs
  | [], vs, h => by simp [V.ofL] at h; subst h; exact .nil
  | x :: xs, vs, h => by
    simp only [V.ofL] at h
    split at h
    · rename_i v vs' h1 h2
      injection h with h; subst h
      exact .cons _ _ _ _ (V.of1_rel ι h1) (V.ofL_rel ι h2)
    · cases h
theorem V.of_rel (ι : Iota) {x : Value} {v : V} (h : V.of x = some v) : VR ι v x := by
  unfold V.of at h
  split at h
  · simp only [Option.map_eq_some_iff] at h; obtain ⟨vs, h1, rfl⟩ := h; exact .ag _ _ (V.ofL_rel ι h1)
  · simp only [Option.map_eq_some_iff] at h; obtain ⟨vs, h1, rfl⟩ := h; exact .tu _ _ (V.ofL_rel ι h1)
  · exact V.of1_rel ι h

/-- The program's tables, as far as they are known. -/
structure TT where
  ty : Nat → Option TI
  /-- the cells of a type whose values are compared cell by cell, as 'shp' has it (0: it is not known to be one) -/
  flat : Nat → Nat
  /-- internal/bytealg.IndexByteString -/
  ixb : Nat → Bool
  /-- internal/abi.NoEscape -/
  nesc : Nat → Bool
  /-- internal/bytealg.MakeNoZero, and the type of a byte -/
  mnz : Nat → Option Nat
  /-- rows (their elements' types and sizes) at whose head a variable of a type lies -/
  lies : Nat → List (Nat × Nat)
  /-- how many package-level variables there are -/
  ng : Nat

def X.of : Operand → Option X
  | .tmp x1 => some (.t x1)
  | .const x1 => (V.of x1).map .k
  | .global x1 => some (.k (.p x1 0))
  | .func x1 => some (.k (.f x1 [] []))
def X.ofO : Option Operand → Option (Option X)
  | none => some none
  | some x => (X.of x).map some
def X.ofL : List Operand → Option (List X)
  | [] => some []
  | x :: r => match X.of x, X.ofL r with
    | some y, some ys => some (y :: ys)
    | _, _ => none

def isConstO : Operand → Bool
  | .const _ => true
  | _ => false

def TypeDesc.agg : TypeDesc → Bool
  | .struct _ | .array .. => true
  | _ => false

/-- The places of parts. -/
def partsOf (pl : Nat → Option (Nat × Nat)) : List (Nat × Operand) → Option (List (Nat × Nat × X))
  | [] => some []
  | (j, x) :: r => match pl j, X.of x, partsOf pl r with
    | some (off, sz), some y, some ys => some ((off, sz, y) :: ys)
    | _, _, _ => none

/-- where a struct's parts lie. -/
def structPl (T : TT) (fs : Array Field) (j : Nat) : Option (Nat × Nat) :=
  match fs[j]? with
  | some f => (match T.ty f.type with | some fi => some (f.offset, fi.size) | none => none)
  | none => none

/-- The kind of a map's keys. -/
def kcOf (T : TT) (t : Nat) : Option Nat :=
  match T.ty t with
  | some i => match i.d with
    | .int _ => some 0
    | .string => some 1
    | .bool => some 2
    | .struct _ => if T.flat t = 0 then none else some (T.flat t + 3)
    | _ => none
  | none => none
/-- A zero value. -/
def zvOf (i : TI) : Option V := if TypeDesc.agg i.d then some (.ag i.zero) else match i.zero with | [v] => some v | _ => none

def eqOp (cls : Nat) (op : BinOp) (a b : X) : Option (AO X) :=
  match op with | .eql => some (.eq cls false a b) | .neq => some (.eq cls true a b) | _ => none

def resBin (T : TT) (op : BinOp) (t : Nat) (x y : Operand) (a b : X) : Option (AO X) :=
  match T.ty t with
  | none => none
  | some i =>
    match i.d with
    | .int _ => some (.bin op a b)
    | .string => some (.bin op a b)
    | .bool => eqOp 0 op a b
    | .pointer e => match T.ty e with
      | some ei => if ei.size = 0 then none else eqOp 1 op a b
      | none => none
    | .slice _ => eqOp 2 op a b
    | .map .. => eqOp 3 op a b
    | .func .. => eqOp 4 op a b
    | .interface _ => if isConstO x || isConstO y then eqOp 5 op a b else eqOp 6 op a b
    | .struct _ => if T.flat t = 0 then none else match op with | .eql => some (.eqs false (T.flat t) a b) | .neq => some (.eqs true (T.flat t) a b) | _ => none
    | _ => none

def resConv (T : TT) (s d : Nat) (x : X) : Option (AO X) :=
  match T.ty s, T.ty d with
  | some i, some j => match i.d, j.d with
    | .int _, .int k => some (.cvi k x)
    | .string, .string => some (.cvs x)
    | .slice e, .string => match T.ty e with | some ei => (match ei.d with | .int .u8 => some (.b2s x) | _ => none) | none => none
    | .string, .slice e => match T.ty e with | some ei => (match ei.d with | .int .u8 => some (.s2b x) | _ => none) | none => none
    | .pointer t, .unsafePointer => match T.ty t with | some ti => if ti.size = 0 then none else some (.cvr true [] x) | none => none
    | .unsafePointer, .pointer u => match T.ty u with | some ti => if ti.size = 0 then none else some (.cvr false ((T.lies u).map fun p => (4 * (p.1 + 1), p.2)) x) | none => none
    | _, _ => none
  | _, _ => none

def resCall (T : TT) (c : Call) : Option (AO X) :=
  match c.callee with
  | .builtin b => match b, X.ofL c.args.toList, c.argTypes.toList with
    | .append, some [s, x], [t, u] => match T.ty t, T.ty u with
      | some i, some j => match i.d, j.d with
        | .slice e, .slice _ => match T.ty e with | some ei => if ei.zero.length = ei.size then some (.app (4 * (e + 1)) ei.size ei.bytes s x) else none | none => none
        | .slice e, .string => match T.ty e with | some ei => if ei.zero.length = ei.size then some (.app (4 * (e + 1)) ei.size ei.bytes s x) else none | none => none
        | _, _ => none
      | _, _ => none
    | .len, some [x], t :: _ => match T.ty t with
      | some i => match i.d with
        | .string => some (.len true x)
        | .slice _ => some (.len false x)
        | .map .. => some (.lenm x)
        | _ => none
      | none => none
    | .cap, some [x], t :: _ => match T.ty t with
      | some i => match i.d with | .slice _ => some (.cap x) | _ => none
      | none => none
    | .copy, some [d, s], t :: _ => match T.ty t with
      | some i => match i.d with
        | .slice e => match T.ty e with | some ei => some (.cpy ei.size d s) | none => none
        | _ => none
      | none => none
    | .clear, some [x], t :: _ => match T.ty t with
      | some i => match i.d with | .map .. => some (.clrm x) | _ => none
      | none => none
    | .unsafeSliceData, some [x], _ => some (.sd x)
    | .unsafeString, some [x, n], [t, _] => match T.ty t with
      | some i => match i.d with
        | .pointer e => match T.ty e with | some ei => if ei.size = 1 then some (.ustr (4 * (e + 1)) x n) else none | none => none
        | _ => none
      | none => none
    | .max, some (x :: ys), _ => some (.mm true x ys)
    | .min, some (x :: ys), _ => some (.mm false x ys)
    | _, _, _ => none
  | .value (.func f) => match X.ofL c.args.toList with
    | some as => if T.nesc f then (match as with | [x] => some (.mv x) | _ => none) else match T.mnz f with
      | some e => (match as with | [x] => some (.mnz (4 * (e + 1)) x) | _ => none)
      | none => if T.ixb f then (match as with | [x, y] => some (.ixb x y) | _ => none) else some (.call f as)
    | none => none
  | .value x => match X.of x, X.ofL c.args.toList with
    | some y, some as => some (.callv y as)
    | _, _ => none
  | .invoke .. => none

/-- An operation, resolved. -/
def res (T : TT) (o : Oper) : Option (AO X) :=
  match o.op with
  | .move x | .assign x => (X.of x).map .mv
  | .pick c a b => match X.of c, X.of a, X.of b with | some c, some a, some b => some (.pick c a b) | _, _, _ => none
  | .alloc e => match T.ty e with | some i => some (.alloc (4 * (e + 1)) i.zero) | none => none
  | .box e x => (X.of x).map (.box (4 * (e + 1)))
  | .build t ps => match T.ty t with
    | some i => match i.d with
      | .struct fs => if fs.toList.all (fun f => (T.ty f.type).isSome) then (partsOf (structPl T fs) ps.toList).map (.build i.zero) else none
      | .array _ e => match T.ty e with | some ei => (partsOf (fun j => some (j * ei.size, ei.size)) ps.toList).map (.build i.zero) | none => none
      | _ => none
    | none => none
  | .buildSlice t n ps => match T.ty t with
    | some i => match i.d with
      | .slice e => match T.ty e with
        | some ei => if n * ei.size ≤ 16777216 ∧ ei.zero.length = ei.size then (partsOf (fun j => some (j * ei.size, ei.size)) ps.toList).map (.bsl n ei.size ei.zero) else none
        | none => none
      | _ => none
    | none => none
  | .load t a => match T.ty t, X.of a with
    | some i, some a => if TypeDesc.agg i.d then some (.ldn i.size a) else some (.ld a)
    | _, _ => none
  | .store t a x => match T.ty t, X.of a, X.of x with
    | some i, some a, some x => if TypeDesc.agg i.d then some (.stn i.size a x) else if i.size = 1 then some (.st a x) else none
    | _, _, _ => none
  | .nilCheck x => (X.of x).map .nck
  | .binOp op t x y _ => match X.of x, X.of y with | some a, some b => resBin T op t x y a b | _, _ => none
  | .unOp op _ x => (X.of x).map (.un op)
  | .convert s d x => match X.of x with | some x => resConv T s d x | none => none
  | .makeInterface t x => match T.ty t, X.of x with
    | some i, some x => match i.d with | .interface _ => none | _ => some (.mki t x)
    | _, _ => none
  | .makeFunc (.func g) a b => match X.ofL a.toList, X.ofL b.toList with | some a, some b => some (.mkf g a b) | _, _ => none
  | .makeMap _ none => some .mkm
  | .makeSlice t l c => match T.ty t, X.of l, X.of c with
    | some i, some l, some c => match i.d with
      | .slice e => match T.ty e with | some ei => if ei.zero.length = ei.size ∧ 0 < ei.size ∧ 0 < ei.bytes then some (.mks ei.size ei.bytes ei.zero l c) else none | none => none
      | _ => none
    | _, _, _ => none
  | .slice t x lo hi none => match T.ty t, X.of x, X.ofO lo, X.ofO hi with
    | some i, some x, some lo, some hi => match i.d with
      | .string => some (.sls x lo hi)
      | .slice e => match T.ty e with | some ei => if ei.size = 0 then none else some (.slv ei.size x lo hi) | none => none
      | .array n e => match T.ty e with | some ei => some (.sla n ei.size x lo hi) | none => none
      | _ => none
    | _, _, _, _ => none
  | .fieldAddr t x j => match T.ty t, X.of x with
    | some i, some x => match i.d with
      | .struct fs => match fs[j]? with
        | some f => (match T.ty f.type with | some fi => if fi.size = 0 then none else some (.fa f.offset x) | none => none)
        | none => none
      | _ => none
    | _, _ => none
  | .field t x j => match T.ty t, X.of x with
    | some i, some x => match i.d with
      | .struct fs => match fs[j]? with
        | some f => (match T.ty f.type with | some fi => some (.fld f.offset fi.size (TypeDesc.agg fi.d) x) | none => none)
        | none => none
      | _ => none
    | _, _ => none
  | .indexAddr t x ix => match T.ty t, X.of x, X.of ix with
    | some i, some x, some ix => match i.d with
      | .slice e => match T.ty e with | some ei => if ei.size = 0 then none else some (.ia ei.size x ix) | none => none
      | .array n e => match T.ty e with | some ei => if 1 < n then some (.iaa n ei.size x ix) else none | none => none
      | _ => none
    | _, _, _ => none
  | .index t x ix => match T.ty t, X.of x, X.of ix with
    | some i, some x, some ix => match i.d with
      | .string => some (.ix x ix)
      | .array n e => match T.ty e with | some ei => some (.ixa n ei.size (TypeDesc.agg ei.d) x ix) | none => none
      | _ => none
    | _, _, _ => none
  | .lookup t x k ok => match T.ty t, X.of x, X.of k with
    | some i, some x, some k => match i.d with
      | .map kt e => match kcOf T kt, T.ty e with
        | some kc, some ei => match zvOf ei with | some z => some (.lk kc z ok x k) | none => none
        | _, _ => none
      | _ => none
    | _, _, _ => none
  | .mapUpdate t m k v | .insert t m k v => match T.ty t, X.of m, X.of k, X.of v with
    | some i, some m, some k, some v => match i.d with
      | .map kt _ => match kcOf T kt with | some kc => some (.mup kc m k v) | none => none
      | _ => none
    | _, _, _, _ => none
  | .mapEntry t m k => match T.ty t, X.of m, X.of k with
    | some i, some m, some k => match i.d with
      | .map kt e => match kcOf T kt, T.ty e with
        | some kc, some ei => match zvOf ei with | some z => some (.mpe kc z m k) | none => none
        | _, _ => none
      | _ => none
    | _, _, _ => none
  | .entryStore _ m s v => match X.of m, X.of s, X.of v with | some m, some s, some v => some (.mst m s v) | _, _, _ => none
  | .range t x => match T.ty t, X.of x with
    | some i, some x => match i.d with | .string => some (.rgs x) | _ => none
    | _, _ => none
  | .next it true => (X.of it).map .nxs
  | .extract t j => (X.of t).map (.ext j)
  | .call c => resCall T c
  | _ => none

/-- The tables are the program's. -/
structure TOK (P : Program) (T : TT) : Prop where
  ng : T.ng ≤ P.globals.size
  ty : ∀ t i, T.ty t = some i → ∃ j : TypeInfo, P.info? t = some j ∧ P.underlying t = some i.d ∧ j.size = i.size ∧ j.bytes = i.bytes ∧ ∃ z, j.zero = some z ∧ V.ofL z.cells.toList = some i.zero ∧ (TypeDesc.agg i.d = true → ∃ cs, z = .agg cs) ∧ (TypeDesc.agg i.d = false → z.oneCell = true)
  ixb : ∀ f, T.ixb f = true → ∀ (s : ByteArray) (c : Int) (w : World), 0 ≤ c → c < 256 → (callFunc f #[.string s, .int .u8 c]).run P w = .ok (.value (.int .i64 (findB c.toNat (s.data.toList.map UInt8.toNat) 0))) w
  nesc : ∀ f, T.nesc f = true → ∀ (x : Value) (w : World), (callFunc f #[x]).run P w = .ok (.value x) w
  mnz : ∀ f e, T.mnz f = some e → ∀ (n : Nat) (w : World), n ≤ 1073741824 → ∃ (cs : Array Value) (k : Nat), (callFunc f #[.int .i64 n]).run P w = .ok (.value (.slice (some ⟨w.heap.size, 0, none⟩) n cs.size)) { w with drawn := k, heap := w.heap.push (.cells cs e) } ∧ n ≤ cs.size ∧ ∀ x ∈ cs, x.oneCell = true
  lies : ∀ u p, p ∈ T.lies u → ∀ count, 1 ≤ count → liesAt P P.depth p.1 count 0 u 1 = true ∧ P.cellsOf p.1 = p.2 ∧ p.2 ≠ 0
  eqs : ∀ t n, T.flat t = n + 1 → ∀ (ι : Iota) (xs ys : Array Value) (a b : List V) (r : Bool) (w : World), VRs ι a xs.toList → VRs ι b ys.toList → shp (n + 1) a = true → shp (n + 1) b = true → eqC a b = some r →
    (Op.equal t (.agg xs) (.agg ys)).run P w = .ok r w
  eqg : ∀ t n, T.flat t = n + 1 → P.eqGuardType P.depth t = false
  ckey : ∀ t n, T.flat t = n + 1 → ∀ (e : Bool) (ι : Iota) (a : List V) (xs : Array Value) (w : World), VRs ι a xs.toList → shp (n + 1) a = true → (Instr.checkKey e 10000 t (.agg xs)).run P w = .ok () w

def evX (tm : Nat → V) : X → V
  | .k v => v
  | .t n => tm n

end Go.Ev

/-! What the operations of values alone come to in the model. -/
namespace Go.Ev
variable {P : Program} {T : TT} {ι : Iota} {tm : Nat → V} {a : Act} {o : Oper}

/-- The operands stand for the model's. -/
def OR (ι : Iota) (tm : Nat → V) (a : Act) (o : Oper) : Prop := ∀ x ∈ o.op.operands, ∀ y, X.of x = some y → VR ι (evX tm y) (a.eval x)

/-- The run of an operation that comes to a value. -/
def Vals (P : Program) (a : Act) (o : Oper) (w : World) (ι : Iota) (v : V) : Prop := ∃ x, (execOp a.eval o).run P w = .ok (.value x) w ∧ VR ι v x

theorem ofO_ev {x : Option Operand} {y : Option X} (h : X.ofO x = some y) : (x = none ∧ y = none) ∨ ∃ x' y', x = some x' ∧ y = some y' ∧ X.of x' = some y' := by
  cases x with
  | none => simp [X.ofO] at h; exact .inl ⟨rfl, h.symm ▸ rfl⟩
  | some x => simp [X.ofO] at h; obtain ⟨y', h1, h2⟩ := h; exact .inr ⟨x, y', rfl, h2.symm, h1⟩

theorem ofL_rel {a : Act} : ∀ {l : List Operand} {ys : List X}, X.ofL l = some ys → (∀ x ∈ l, ∀ y, X.of x = some y → VR ι (evX tm y) (a.eval x)) → VRs ι (ys.map (evX tm)) (l.map a.eval)
  | [], ys, h, _ => by simp [X.ofL] at h; subst h; exact .nil
  | x :: l, ys, h, hO => by
    simp only [X.ofL] at h
    split at h
    · rename_i y ys' h1 h2
      injection h with h; subst h
      exact .cons _ _ _ _ (hO x (by simp) y h1) (ofL_rel h2 fun z hz => hO z (by simp [hz]))
    · cases h

theorem sim_mv (ho : (∃ x, o.op = .move x) ∨ (∃ x, o.op = .assign x)) {ao : AO X} (hr : res T o = some ao) (hO : OR ι tm a o) {v : V} (hs : semP (ao.map (evX tm)) = some v) (w : World) :
    Vals P a o w ι v := by
  rcases ho with ⟨x, ho⟩ | ⟨x, ho⟩ <;>
  · simp only [res, ho, Option.map_eq_some_iff] at hr
    obtain ⟨y, hy, rfl⟩ := hr
    simp only [AO.map, semP, Option.some.injEq] at hs
    subst hs
    exact ⟨a.eval x, by simp [execOp, ho], hO x (by simp [ho, Op.operands]) y hy⟩

theorem sim_pick {c x y : Operand} (ho : o.op = .pick c x y) {ao : AO X} (hr : res T o = some ao) (hO : OR ι tm a o) {v : V} (hs : semP (ao.map (evX tm)) = some v) (w : World) : Vals P a o w ι v := by
  simp only [res, ho] at hr
  split at hr
  · rename_i c' x' y' hc hx hy
    injection hr with hr; subst hr
    have h1 := hO c (by simp [ho, Op.operands]) _ hc
    have h2 := hO x (by simp [ho, Op.operands]) _ hx
    have h3 := hO y (by simp [ho, Op.operands]) _ hy
    simp only [AO.map, semP] at hs
    split at hs
    · rename_i t ht
      rw [ht] at h1
      injection hs with hs; subst hs
      cases t with
      | true => cases hcv : a.eval c <;> rw [hcv] at h1 <;> cases h1; exact ⟨a.eval x, by simp [execOp, ho, hcv, asBool], by simpa using h2⟩
      | false => cases hcv : a.eval c <;> rw [hcv] at h1 <;> cases h1; exact ⟨a.eval y, by simp [execOp, ho, hcv, asBool], by simpa using h3⟩
    · cases hs
  · cases hr

/-! ### bytes -/
theorem bytesLess_lt : ∀ (x y : List UInt8), Op.bytesLess x y = ltL (x.map UInt8.toNat) (y.map UInt8.toNat)
  | [], [] => rfl
  | _ :: _, [] => rfl
  | [], _ :: _ => rfl
  | a :: x, b :: y => by
    simp only [Op.bytesLess, ltL, List.map_cons, bytesLess_lt x y]
    congr 1
    · rw [Bool.eq_iff_iff]; simp [UInt8.lt_iff_toNat_lt]
    · congr 1
      rw [Bool.eq_iff_iff]; simp [UInt8.toNat_inj]
theorem bytes_beq (x y : List UInt8) : (x == y) = (x.map UInt8.toNat == y.map UInt8.toNat) := by
  rw [Bool.eq_iff_iff]; simp only [beq_iff_eq]
  constructor
  · intro h; rw [h]
  · intro h
    have : ∀ (x y : List UInt8), x.map UInt8.toNat = y.map UInt8.toNat → x = y := by
      intro x
      induction x with
      | nil => intro y h; cases y <;> simp_all
      | cons a x ih =>
        intro y h
        cases y with
        | nil => simp at h
        | cons b y => simp at h; rw [ih y h.2, UInt8.toNat_inj.1 h.1]
    exact this x y h

theorem toList_data (x : ByteArray) : x.toList = x.data.toList := by
  have hl : ∀ (n : Nat) (i : Nat) (r : List UInt8), x.size - i = n → ByteArray.toList.loop x i r = r.reverse ++ x.data.toList.drop i := by
    intro n
    induction n with
    | zero =>
      intro i r h
      unfold ByteArray.toList.loop
      have : ¬ i < x.size := by omega
      have h2 : x.data.toList.length ≤ i := by simpa using (by omega : x.size ≤ i)
      simp [this, List.drop_eq_nil_of_le h2]
    | succ n ih =>
      intro i r h
      unfold ByteArray.toList.loop
      have h1 : i < x.size := by omega
      rw [if_pos h1, ih (i + 1) _ (by omega)]
      have h2 : i < x.data.toList.length := by simpa using h1
      rw [List.drop_eq_getElem_cons h2]
      simp [ByteArray.get!, h1]
  have := hl _ 0 [] rfl
  simpa [ByteArray.toList] using this

/-! ### binary operations -/
theorem bitsI_run {k : IntKind} {op : BinOp} {x y : Int} {v : V} (h : bitsI k op x y = some v) (w : World) : ∃ n, v = .i k n ∧ (Op.intBits op k x y).run P w = .ok (.int k n) w := by
  unfold bitsI at h
  cases op <;> first | (cases h; done) | (injection h with h; subst h; exact ⟨_, rfl, by simp [Op.intBits]⟩)

theorem eqGuard_int {op : BinOp} {t : TypeId} {x y : Operand} {k k' : IntKind} {m n : Int} (w : World) : (eqGuard op t x y (.int k m) (.int k' n)).run P w = .ok () w := by
  unfold eqGuard; split <;> simp
theorem eqGuard_str {op : BinOp} {t : TypeId} {x y : Operand} {m n : ByteArray} (w : World) : (eqGuard op t x y (.string m) (.string n)).run P w = .ok () w := by
  unfold eqGuard; split <;> simp

theorem binI_run {k : IntKind} {op : BinOp} {x y : Int} {v : V} (h : binI k op x y = some v) (ι : Iota) (t : TypeId) (w : World) (h1 : op ≠ .shl) (h2 : op ≠ .shr) :
    ∃ z, (binOp op t (.int k x) (.int k y)).run P w = .ok z w ∧ VR ι v z := by
  cases op with
  | add => simp only [binI, Option.some.injEq] at h; subst h; exact ⟨_, by simp [binOp, Op.intArith], .i _ _⟩
  | sub => simp only [binI, Option.some.injEq] at h; subst h; exact ⟨_, by simp [binOp, Op.intArith], .i _ _⟩
  | mul => simp only [binI, Option.some.injEq] at h; subst h; exact ⟨_, by simp [binOp, Op.intArith], .i _ _⟩
  | quo =>
    simp only [binI] at h
    split at h
    · cases h
    · rename_i h0; injection h with h; subst h; exact ⟨_, by simp [binOp, Op.intDiv, h0], .i _ _⟩
  | rem =>
    simp only [binI] at h
    split at h
    · cases h
    · rename_i h0; injection h with h; subst h; exact ⟨_, by simp [binOp, Op.intDiv, h0], .i _ _⟩
  | eql => simp only [binI, Option.some.injEq] at h; subst h; exact ⟨_, by simp [binOp, Op.intCmp], .b _⟩
  | neq => simp only [binI, Option.some.injEq] at h; subst h; exact ⟨_, by simp [binOp, Op.intCmp], .b _⟩
  | lss => simp only [binI, Option.some.injEq] at h; subst h; exact ⟨_, by simp [binOp, Op.intCmp], .b _⟩
  | leq => simp only [binI, Option.some.injEq] at h; subst h; exact ⟨_, by simp [binOp, Op.intCmp], .b _⟩
  | gtr => simp only [binI, Option.some.injEq] at h; subst h; exact ⟨_, by simp [binOp, Op.intCmp], .b _⟩
  | geq => simp only [binI, Option.some.injEq] at h; subst h; exact ⟨_, by simp [binOp, Op.intCmp], .b _⟩
  | shl => exact absurd rfl h1
  | shr => exact absurd rfl h2
  | and | or | xor | andNot =>
    simp only [binI] at h
    obtain ⟨n, rfl, hn⟩ := bitsI_run (P := P) h w
    exact ⟨_, by simp only [binOp, ne_eq, not_true_eq_false, if_false]; exact hn, .i _ _⟩

theorem binS_run {op : BinOp} {x y : ByteArray} {v : V} (h : binS op (x.data.toList.map UInt8.toNat) (y.data.toList.map UInt8.toNat) = some v) (ι : Iota) (t : TypeId) (w : World) :
    ∃ z, (binOp op t (.string x) (.string y)).run P w = .ok z w ∧ VR ι v z := by
  have e : (binOp op t (.string x) (.string y)) = Op.stringOp op x y := by cases op <;> rfl
  rw [e]
  cases op with
  | add =>
    simp only [binS] at h
    split at h
    · rename_i hl
      injection h with h; subst h
      have hl' : ¬ ((x.size + y.size : Nat) : Int) > IntKind.i64.max := by
        have : IntKind.i64.max = 9223372036854775807 := by decide
        rw [this]
        simp at hl
        omega
      refine ⟨.string (x ++ y), ?_, ?_⟩
      · simp only [Op.stringOp, if_neg hl']; rfl
      · exact .s _ _ (by simp)
    · cases h
  | eql => simp only [binS, Option.some.injEq] at h; subst h; exact ⟨_, by simp only [Op.stringOp]; rfl, by rw [toList_data, toList_data, bytes_beq]; exact .b _⟩
  | neq => simp only [binS, Option.some.injEq] at h; subst h; exact ⟨_, by simp only [Op.stringOp]; rfl, by rw [toList_data, toList_data, bytes_beq]; exact .b _⟩
  | lss => simp only [binS, Option.some.injEq] at h; subst h; exact ⟨_, by simp only [Op.stringOp]; rfl, by rw [toList_data, toList_data, bytesLess_lt]; exact .b _⟩
  | leq => simp only [binS, Option.some.injEq] at h; subst h; exact ⟨_, by simp only [Op.stringOp]; rfl, by rw [toList_data, toList_data, bytesLess_lt, bytes_beq]; exact .b _⟩
  | gtr => simp only [binS, Option.some.injEq] at h; subst h; exact ⟨_, by simp only [Op.stringOp]; rfl, by rw [toList_data, toList_data, bytesLess_lt, bytes_beq]; exact .b _⟩
  | geq => simp only [binS, Option.some.injEq] at h; subst h; exact ⟨_, by simp only [Op.stringOp]; rfl, by rw [toList_data, toList_data, bytesLess_lt]; exact .b _⟩
  | _ => cases h

theorem binV_run {op : BinOp} {c d : V} {x y : Value} {r : V} (h : binV op c d = some r) (hu : VR ι c x) (hv : VR ι d y) (t : TypeId) (p q : Operand) (w : World) :
    ∃ z, (do eqGuard op t p q x y; binOp op t x y : Sem Value).run P w = .ok z w ∧ VR ι r z := by
  unfold binV at h
  split at h
  · rename_i k m k' n
    cases hu with
    | i => cases hv with
      | i =>
        simp only [Sem.run_bind, eqGuard_int, Result.andThen_ok]
        split at h
        · split at h
          · cases h
          · rename_i h0; injection h with h; subst h; exact ⟨_, by simp [binOp, Op.shift, h0], .i _ _⟩
        · split at h
          · cases h
          · rename_i h0; injection h with h; subst h; exact ⟨_, by simp [binOp, Op.shift, h0], .i _ _⟩
        · split at h
          · rename_i hk; subst hk
            rename_i h1 h2
            exact binI_run h ι t w h1 h2
          · cases h
  · cases hu with
    | s _ _ e1 => cases hv with
      | s _ _ e2 =>
        simp only [Sem.run_bind, eqGuard_str, Result.andThen_ok]
        subst e1; subst e2
        exact binS_run h ι t w
  · cases h

end Go.Ev

namespace Go.Ev
variable {P : Program} {T : TT} {ι : Iota} {tm : Nat → V} {a : Act} {o : Oper}

theorem vals_of {s : Sem Value} {w : World} {v : V} (he : execOp a.eval o = (do pure (Next.value (← s)))) (h : ∃ x, s.run P w = .ok x w ∧ VR ι v x) : Vals P a o w ι v := by
  obtain ⟨x, hx, hv⟩ := h
  exact ⟨x, by rw [he]; simp [hx], hv⟩

theorem und {t : Nat} {i : TI} (hT : TOK P T) (h : T.ty t = some i) : P.underlying t = some i.d := (hT.ty t i h).elim fun _ h => h.2.1
theorem run_und {t : Nat} {i : TI} (hT : TOK P T) (h : T.ty t = some i) (w : World) : (underlying t).run P w = .ok i.d w := run_underlying (und hT h) w
theorem run_size {t : Nat} {i : TI} (hT : TOK P T) (h : T.ty t = some i) (w : World) : (sizeOf t).run P w = .ok i.size w := by
  obtain ⟨j, h1, _, h3, _⟩ := hT.ty t i h
  simp [sizeOf, typeInfo, h1, h3]
theorem run_isAgg {t : Nat} {i : TI} (hT : TOK P T) (h : T.ty t = some i) (w : World) : (isAgg t).run P w = .ok (TypeDesc.agg i.d) w := by
  simp only [isAgg, Sem.run_bind, run_und hT h, Result.andThen_ok]
  cases i.d <;> rfl

theorem sim_bin {op : BinOp} {t yt : Nat} {x y : Operand} (ho : o.op = .binOp op t x y yt) {b c : X} (hx : X.of x = some b) (hy : X.of y = some c) (hO : OR ι tm a o) {v : V}
    (hs : semP (.bin op (evX tm b) (evX tm c)) = some v) (w : World) : Vals P a o w ι v := by
  refine vals_of (s := do eqGuard op t x y (a.eval x) (a.eval y); binOp op t (a.eval x) (a.eval y)) (by simp only [execOp, ho]) ?_
  exact binV_run hs (hO x (by simp [ho, Op.operands]) _ hx) (hO y (by simp [ho, Op.operands]) _ hy) t x y w

/-- What the class of an '==' says of the type. -/
def Cls (T : TT) (cls : Nat) (d : TypeDesc) : Prop :=
  match cls with
  | 0 => d = .bool
  | 1 => ∃ e ei, d = .pointer e ∧ T.ty e = some ei ∧ ei.size ≠ 0
  | 2 => ∃ e, d = .slice e
  | 3 => ∃ k e, d = .map k e
  | 4 => ∃ p q b, d = .func p q b
  | 5 => ∃ ms, d = .interface ms
  | 6 => ∃ ms, d = .interface ms
  | _ => False

theorem sameAddr_block (a b : Addr) (h : a.block = b.block) (w : World) : (sameAddr a b).run P w = .ok (a == b) w := by
  simp [sameAddr, h]

/-- '==' on values of the types that 'eqV' knows. -/
theorem eqV_runIn {cls : Nat} {c d : V} {x y : Value} {r : Bool} (h : eqV cls c d = some r) (hu : VR ι c x) (hv : VR ι d y) {t : Nat} {i : TI} (hT : TOK P T) (ht : T.ty t = some i)
    (hd : Cls T cls i.d) (n : Nat) (w : World) : (Op.equalIn (n + 1) t x y).run P w = .ok r w := by
  have hund := run_und hT ht w
  unfold eqV at h
  split at h <;> first | (injection h with h; subst h) | skip
  all_goals first | (cases h; done) | skip
  · have hd' : i.d = .bool := hd
    rw [hd'] at hund
    cases hu; cases hv
    simp only [Op.equalIn, Sem.run_bind, hund, Result.andThen_ok]; rfl
  · obtain ⟨e, ei, hd', he, hz⟩ := hd
    rw [hd'] at hund
    cases hu; cases hv
    simp only [Op.equalIn, Sem.run_bind, hund, Result.andThen_ok]; rfl
  · obtain ⟨e, ei, hd', he, hz⟩ := hd
    rw [hd'] at hund
    cases hu; cases hv
    simp only [Op.equalIn, Sem.run_bind, hund, Result.andThen_ok]; rfl
  · obtain ⟨e, ei, hd', he, hz⟩ := hd
    rw [hd'] at hund
    cases hu; cases hv
    simp only [Op.equalIn, Sem.run_bind, hund, Result.andThen_ok]; rfl
  · rename_i B o B' o'
    obtain ⟨e, ei, hd', he, hz⟩ := hd
    rw [hd'] at hund
    split at h
    · rename_i hB
      subst hB
      injection h with h; subst h
      cases hu with
      | p _ _ e1 h1 => cases hv with
        | p _ _ e2 h2 =>
          rw [h1] at h2; injection h2 with h2; subst h2
          simp only [Op.equalIn, Sem.run_bind, hund, Result.andThen_ok, run_size hT he, ne_eq, hz, not_false_eq_true, if_true]
          rw [sameAddr_block ⟨e1.r, e1.o + o, none⟩ ⟨e1.r, e1.o + o', none⟩ rfl]
          congr 1
          rw [Bool.eq_iff_iff]
          simp
    · cases h
  all_goals first
    | (obtain ⟨e, hd'⟩ := hd; rw [hd'] at hund; cases hu <;> cases hv <;> (simp only [Op.equalIn, Sem.run_bind, hund, Result.andThen_ok]; rfl); done)
    | (obtain ⟨k, e, hd'⟩ := hd; rw [hd'] at hund; cases hu <;> cases hv <;> (simp only [Op.equalIn, Sem.run_bind, hund, Result.andThen_ok]; rfl); done)
    | (obtain ⟨p, q, b, hd'⟩ := hd; rw [hd'] at hund; cases hu <;> cases hv <;> (simp only [Op.equalIn, Sem.run_bind, hund, Result.andThen_ok]; rfl); done)
theorem eqV_run {cls : Nat} {c d : V} {x y : Value} {r : Bool} (h : eqV cls c d = some r) (hu : VR ι c x) (hv : VR ι d y) {t : Nat} {i : TI} (hT : TOK P T) (ht : T.ty t = some i)
    (hd : Cls T cls i.d) (w : World) : (Op.equal t x y).run P w = .ok r w := eqV_runIn h hu hv hT ht hd 9999 w

theorem eqGuard_eqV {cls : Nat} {c d : V} {x y : Value} {r : Bool} (h : eqV cls c d = some r) (hu : VR ι c x) (hv : VR ι d y) (op : BinOp) (t : Nat) (p q : Operand) (hc : cls = 5 → isConstO p = true ∨ isConstO q = true) (w : World) :
    (eqGuard op t p q x y).run P w = .ok () w := by
  unfold eqV at h
  split at h <;> first | (cases h; done) | skip
  all_goals (cases hu <;> cases hv <;> unfold eqGuard <;> split)
  all_goals first | rfl | skip
  all_goals first
    | (rcases hc rfl with h1 | h1 <;> (cases p <;> cases q <;> first | rfl | (simp [isConstO] at h1; done)))
    | (cases op <;> rfl)

theorem binOp_eql {cls : Nat} {c d : V} {x y : Value} {r : Bool} (h : eqV cls c d = some r) (hu : VR ι c x) (hv : VR ι d y) (t : Nat) :
    binOp .eql t x y = (do pure (.bool (← Op.equal t x y))) ∧ binOp .neq t x y = (do pure (.bool (!(← Op.equal t x y)))) := by
  unfold eqV at h
  split at h <;> first | (cases h; done) | skip
  all_goals (cases hu <;> cases hv <;> exact ⟨rfl, rfl⟩)

theorem sim_eq {op : BinOp} {t yt : Nat} {x y : Operand} (ho : o.op = .binOp op t x y yt) {b c : X} (hx : X.of x = some b) (hy : X.of y = some c) (hO : OR ι tm a o) {v : V} {cls : Nat} {neg : Bool}
    (hop : op = if neg then .neq else .eql) {i : TI} (hT : TOK P T) (ht : T.ty t = some i) (hd : Cls T cls i.d) (hc : cls = 5 → isConstO x = true ∨ isConstO y = true)
    (hs : semP (.eq cls neg (evX tm b) (evX tm c)) = some v) (w : World) : Vals P a o w ι v := by
  refine vals_of (s := do eqGuard op t x y (a.eval x) (a.eval y); binOp op t (a.eval x) (a.eval y)) (by simp only [execOp, ho]) ?_
  have h1 := hO x (by simp [ho, Op.operands]) _ hx
  have h2 := hO y (by simp [ho, Op.operands]) _ hy
  simp only [semP] at hs
  split at hs
  · rename_i r hr
    injection hs with hs; subst hs
    simp only [Sem.run_bind, eqGuard_eqV hr h1 h2 op t x y hc, Result.andThen_ok]
    obtain ⟨e1, e2⟩ := binOp_eql hr h1 h2 t
    have e3 := eqV_run hr h1 h2 hT ht hd w
    cases neg with
    | true => rw [hop]; simp only [if_true, e2, Sem.run_bind, e3, Result.andThen_ok]; exact ⟨_, rfl, .b _⟩
    | false => rw [hop]; simp only [Bool.false_eq_true, if_false, e1, Sem.run_bind, e3, Result.andThen_ok]; exact ⟨_, rfl, .b _⟩
  · cases hs

theorem sim_eqs {op : BinOp} {t yt : Nat} {x y : Operand} (ho : o.op = .binOp op t x y yt) {b c : X} (hx : X.of x = some b) (hy : X.of y = some c) (hO : OR ι tm a o) {v : V} {neg : Bool}
    (hop : op = if neg then .neq else .eql) (hT : TOK P T) {n : Nat} (hf : T.flat t = n + 1)
    (hs : semP (.eqs neg (n + 1) (evX tm b) (evX tm c)) = some v) (w : World) : Vals P a o w ι v := by
  refine vals_of (s := do eqGuard op t x y (a.eval x) (a.eval y); binOp op t (a.eval x) (a.eval y)) (by simp only [execOp, ho]) ?_
  have h1 := hO x (by simp [ho, Op.operands]) _ hx
  have h2 := hO y (by simp [ho, Op.operands]) _ hy
  simp only [semP] at hs
  split at hs
  · rename_i p q hp hq
    rw [hp] at h1; rw [hq] at h2
    split at hs
    · rename_i hl
      split at hs
      · rename_i r hr
        injection hs with hs; subst hs
        generalize a.eval x = x' at h1
        generalize a.eval y = y' at h2
        cases h1 with
        | ag _ xs g1 => cases h2 with
          | ag _ ys g2 =>
            have e1 := hT.eqs t n hf ι xs ys p q r w g1 g2 hl.1 hl.2 hr
            have e2 := hT.eqg t n hf
            cases neg with
            | true =>
              subst hop
              have e3 : (eqGuard .neq t x y (.agg xs) (.agg ys)).run P w = .ok () w := by simp [eqGuard, e2]
              simp only [if_true, binOp, Sem.run_bind, e3, e1, Result.andThen_ok]; exact ⟨_, rfl, .b _⟩
            | false =>
              subst hop
              have e3 : (eqGuard .eql t x y (.agg xs) (.agg ys)).run P w = .ok () w := by simp [eqGuard, e2]
              simp only [Bool.false_eq_true, if_false, binOp, Sem.run_bind, e3, e1, Result.andThen_ok]; exact ⟨_, rfl, .b _⟩
      · cases hs
    · cases hs
  · cases hs

end Go.Ev

namespace Go.Ev
variable {P : Program} {T : TT} {ι : Iota} {tm : Nat → V} {a : Act} {o : Oper}

theorem VR.int_inv {ι : Iota} {k : IntKind} {n : Int} {x : Value} (h : VR ι (.i k n) x) : x = .int k n := by cases h; rfl
theorem VR.bool_inv {ι : Iota} {t : Bool} {x : Value} (h : VR ι (.b t) x) : x = .bool t := by cases h; rfl

theorem sim_un {op : UnOp} {t : Nat} {x : Operand} (ho : o.op = .unOp op t x) {b : X} (hx : X.of x = some b) (hO : OR ι tm a o) {v : V}
    (hs : semP (.un op (evX tm b)) = some v) (w : World) : Vals P a o w ι v := by
  refine vals_of (s := Op.unary op (a.eval x)) (by simp only [execOp, ho]) ?_
  have h1 := hO x (by simp [ho, Op.operands]) _ hx
  simp only [semP, unV] at hs
  split at hs
  · rename_i k n hk
    rw [hk] at h1; rw [h1.int_inv]
    cases op with
    | neg => injection hs with hs; subst hs; exact ⟨_, rfl, .i _ _⟩
    | xor =>
      obtain ⟨m, rfl, hm⟩ := bitsI_run (P := P) hs w
      exact ⟨_, hm, .i _ _⟩
    | _ => cases hs
  · rename_i y hk
    rw [hk] at h1; rw [h1.bool_inv]
    cases op with
    | not => injection hs with hs; subst hs; exact ⟨_, rfl, .b _⟩
    | _ => cases hs
  · cases hs

theorem sim_cvi {s d : Nat} {x : Operand} (ho : o.op = .convert s d x) {b : X} (hx : X.of x = some b) (hO : OR ι tm a o) {v : V} {k : IntKind} (hT : TOK P T) {i j : TI} (hi : T.ty s = some i) (hj : T.ty d = some j)
    (hjd : j.d = .int k) (hs : semP (.cvi k (evX tm b)) = some v) (w : World) : Vals P a o w ι v := by
  refine vals_of (s := convert s d (a.eval x)) (by simp only [execOp, ho]) ?_
  have h1 := hO x (by simp [ho, Op.operands]) _ hx
  simp only [semP] at hs
  split at hs
  · rename_i k' n hk
    rw [hk] at h1; rw [h1.int_inv]
    injection hs with hs; subst hs
    have e1 := run_und hT hi w
    have e2 := run_und hT hj w
    rw [hjd] at e2
    refine ⟨.int k (k.wrap n), ?_, .i _ _⟩
    unfold convert
    simp only [Sem.run_bind, e1, e2, Result.andThen_ok]
    rfl
  · cases hs

theorem sim_cvs {s d : Nat} {x : Operand} (ho : o.op = .convert s d x) {b : X} (hx : X.of x = some b) (hO : OR ι tm a o) {v : V} (hT : TOK P T) {i j : TI} (hi : T.ty s = some i) (hj : T.ty d = some j)
    (hjd : j.d = .string) (hs : semP (.cvs (evX tm b)) = some v) (w : World) : Vals P a o w ι v := by
  refine vals_of (s := convert s d (a.eval x)) (by simp only [execOp, ho]) ?_
  have h1 := hO x (by simp [ho, Op.operands]) _ hx
  simp only [semP] at hs
  split at hs
  · rename_i l hk
    rw [hk] at h1
    injection hs with hs; subst hs
    generalize a.eval x = y at h1
    cases h1 with
    | s y _ e0 =>
      have e1 := run_und hT hi w
      have e2 := run_und hT hj w
      rw [hjd] at e2
      refine ⟨.string y, ?_, .s _ _ e0⟩
      unfold convert
      simp only [Sem.run_bind, e1, e2, Result.andThen_ok]
      rfl
  · cases hs

theorem sim_nck {x : Operand} (ho : o.op = .nilCheck x) {b : X} (hx : X.of x = some b) (hO : OR ι tm a o) {v : V}
    (hs : semP (.nck (evX tm b)) = some v) (w : World) : Vals P a o w ι v := by
  have h1 := hO x (by simp [ho, Op.operands]) _ hx
  simp only [semP] at hs
  split at hs
  · rename_i B of hk
    rw [hk] at h1
    injection hs with hs; subst hs
    refine ⟨a.eval x, ?_, h1⟩
    simp only [execOp, ho]
    generalize a.eval x = y at h1
    cases h1; rfl
  · rename_i g p q hk
    rw [hk] at h1
    injection hs with hs; subst hs
    refine ⟨a.eval x, ?_, h1⟩
    simp only [execOp, ho]
    generalize a.eval x = y at h1
    cases h1; rfl
  · cases hs

theorem add_none (r o n : Nat) : Addr.add ⟨r, o, none⟩ n = ⟨r, o + n, none⟩ := by unfold Addr.add; split <;> simp_all

theorem sim_fa {t j : Nat} {x : Operand} (ho : o.op = .fieldAddr t x j) {b : X} (hx : X.of x = some b) (hO : OR ι tm a o) {v : V} (hT : TOK P T) {i fi : TI} {fs : Array Field} {f : Field} (hi : T.ty t = some i)
    (hd : i.d = .struct fs) (hf : fs[j]? = some f) (hfi : T.ty f.type = some fi) (hz : fi.size ≠ 0)
    (hs : semP (.fa f.offset (evX tm b)) = some v) (w : World) : Vals P a o w ι v := by
  refine vals_of (s := Instr.fieldAt t (a.eval x) j) (by simp only [execOp, ho]) ?_
  have h1 := hO x (by simp [ho, Op.operands]) _ hx
  simp only [semP] at hs
  split at hs
  · rename_i B of hk
    rw [hk] at h1
    injection hs with hs; subst hs
    generalize a.eval x = y at h1
    cases h1 with
    | p _ _ e he =>
      have e1 := run_und hT hi w
      rw [hd] at e1
      refine ⟨.pointer (some ⟨e.r, e.o + (of + f.offset), none⟩), ?_, .p _ _ e he⟩
      unfold Instr.fieldAt
      simp only [Sem.run_bind, e1, Result.andThen_ok, hf, Instr.sureAddr, Sem.run_pure, fieldPlace, run_size hT hfi, if_neg hz, add_none, Nat.add_assoc]
  · cases hs

theorem idx_inv {n : Int} {len j : Nat} (h : idx n len = some j) : 0 ≤ n ∧ n < len ∧ j = n.toNat := by
  unfold idx at h; split at h
  · rename_i h0; injection h with h; exact ⟨h0.1, h0.2, h.symm⟩
  · cases h

theorem sim_ia {t : Nat} {x ix : Operand} (ho : o.op = .indexAddr t x ix) {b c : X} (hx : X.of x = some b) (hi : X.of ix = some c) (hO : OR ι tm a o) {v : V} (hT : TOK P T) {i ei : TI} {e : Nat} (ht : T.ty t = some i)
    (hd : i.d = .slice e) (he : T.ty e = some ei)
    (hs : semP (.ia ei.size (evX tm b) (evX tm c)) = some v) (w : World) : Vals P a o w ι v := by
  refine vals_of (s := Instr.indexAt t (a.eval x) (a.eval ix)) (by simp only [execOp, ho]) ?_
  have h1 := hO x (by simp [ho, Op.operands]) _ hx
  have h2 := hO ix (by simp [ho, Op.operands]) _ hi
  simp only [semP] at hs
  split at hs
  · rename_i B of len cap xf k n hk hn
    rw [hk] at h1; rw [hn] at h2; rw [h2.int_inv]
    split at hs
    · rename_i j hj
      obtain ⟨g1, g2, g3⟩ := idx_inv hj
      injection hs with hs; subst hs
      have e1 := run_und hT ht w
      rw [hd] at e1
      generalize a.eval x = y at h1
      cases h1 with
      | sx _ _ _ _ l hl hle =>
        refine ⟨.pointer (some ⟨l.r, l.o + (of + j * ei.size), none⟩), ?_, .p _ _ l hl⟩
        unfold Instr.indexAt
        simp only [Sem.run_bind, asIntOf, Sem.run_pure, e1, Result.andThen_ok, if_pos (And.intro g1 g2), run_size hT he, add_none, g3, Nat.add_assoc]
      | si _ _ _ _ _ cap' off l hl hx0 hle hle2 hor =>
        have hoff : off = l.o + of := by
          rcases hor with h | h
          · omega
          · exact h.1
        subst hoff
        refine ⟨.pointer (some ⟨l.r, l.o + (of + j * ei.size), none⟩), ?_, .p _ _ l hl⟩
        unfold Instr.indexAt
        simp only [Sem.run_bind, asIntOf, Sem.run_pure, e1, Result.andThen_ok, if_pos (And.intro g1 g2), run_size hT he, add_none, g3, Nat.add_assoc]
    · cases hs
  · cases hs

theorem sim_iaa {t : Nat} {x ix : Operand} (ho : o.op = .indexAddr t x ix) {b c : X} (hx : X.of x = some b) (hi : X.of ix = some c) (hO : OR ι tm a o) {v : V} (hT : TOK P T) {i ei : TI} {e n : Nat} (ht : T.ty t = some i)
    (hd : i.d = .array n e) (he : T.ty e = some ei)
    (hs : semP (.iaa n ei.size (evX tm b) (evX tm c)) = some v) (w : World) : Vals P a o w ι v := by
  refine vals_of (s := Instr.indexAt t (a.eval x) (a.eval ix)) (by simp only [execOp, ho]) ?_
  have h1 := hO x (by simp [ho, Op.operands]) _ hx
  have h2 := hO ix (by simp [ho, Op.operands]) _ hi
  simp only [semP] at hs
  split at hs
  · rename_i B of k m hk hn
    rw [hk] at h1; rw [hn] at h2; rw [h2.int_inv]
    split at hs
    · rename_i j hj
      obtain ⟨g1, g2, g3⟩ := idx_inv hj
      injection hs with hs; subst hs
      have e1 := run_und hT ht w
      rw [hd] at e1
      generalize a.eval x = y at h1
      cases h1 with
      | p _ _ l hl =>
        refine ⟨.pointer (some ⟨l.r, l.o + (of + j * ei.size), none⟩), ?_, .p _ _ l hl⟩
        unfold Instr.indexAt
        simp only [Sem.run_bind, asIntOf, Sem.run_pure, e1, Result.andThen_ok, Instr.sureAddr, if_pos (And.intro g1 g2), run_size hT he, add_none, g3, Nat.add_assoc]
    · cases hs
  · cases hs

theorem sim_ix {t : Nat} {x ix : Operand} (ho : o.op = .index t x ix) {b c : X} (hx : X.of x = some b) (hi : X.of ix = some c) (hO : OR ι tm a o) {v : V} (hT : TOK P T) {i : TI} (ht : T.ty t = some i)
    (hd : i.d = .string)
    (hs : semP (.ix (evX tm b) (evX tm c)) = some v) (w : World) : Vals P a o w ι v := by
  refine vals_of (s := Instr.index t (a.eval x) (a.eval ix)) (by simp only [execOp, ho]) ?_
  have h1 := hO x (by simp [ho, Op.operands]) _ hx
  have h2 := hO ix (by simp [ho, Op.operands]) _ hi
  simp only [semP] at hs
  split at hs
  · rename_i l k n hk hn
    rw [hk] at h1; rw [hn] at h2; rw [h2.int_inv]
    split at hs
    · rename_i j hj
      obtain ⟨g1, g2, g3⟩ := idx_inv hj
      split at hs
      · rename_i ch hch
        injection hs with hs; subst hs
        have e1 := run_und hT ht w
        rw [hd] at e1
        generalize a.eval x = y at h1
        cases h1 with
        | s s _ e0 =>
          subst e0
          simp only [List.getElem?_map, Option.map_eq_some_iff] at hch
          obtain ⟨u, hu, hc⟩ := hch
          refine ⟨.int .u8 ch, ?_, .i _ _⟩
          unfold Instr.index
          have hs2 : s[n.toNat]? = some u := by
            rw [← g3]
            have hlt : j < s.data.toList.length := (List.getElem?_eq_some_iff.1 hu).1
            have : s.data[j]? = some u := by rw [← Array.getElem?_toList]; exact hu
            have hlt' : j < s.size := by simpa using hlt
            rw [getElem?_pos s j hlt']
            have h3 := (Array.getElem?_eq_some_iff.1 this).2
            exact congrArg some h3
          simp only [Sem.run_bind, asIntOf, Sem.run_pure, e1, Result.andThen_ok, if_pos g1, hs2, ← hc]
      · cases hs
    · cases hs
  · cases hs

theorem run_part {cs : List V} {xs : Array Value} (h : VRs ι cs xs.toList) {t off : Nat} {fi : TI} (hT : TOK P T) (ht : T.ty t = some fi) {v : V}
    (hs : (if TypeDesc.agg fi.d then (if off + fi.size ≤ cs.length then some (.ag ((cs.drop off).take fi.size)) else none) else cs[off]?) = some v) (w : World) :
    ∃ x, (part t xs off).run P w = .ok x w ∧ VR ι v x := by
  unfold part
  simp only [Sem.run_bind, run_isAgg hT ht, Result.andThen_ok]
  cases hg : TypeDesc.agg fi.d with
  | true =>
    rw [hg] at hs
    simp only [if_true] at hs ⊢
    split at hs
    · rename_i hle
      injection hs with hs; subst hs
      refine ⟨.agg (xs.extract off (off + fi.size)), by simp [run_size hT ht], .ag _ _ ?_⟩
      have hl := h.length
      refine VRs.of_get ?_ fun j v hv => ?_
      · simp at hl ⊢; omega
      · simp only [List.getElem?_take, List.getElem?_drop] at hv
        split at hv
        · rename_i hj
          obtain ⟨x, hx, hvx⟩ := h.get _ _ hv
          refine ⟨x, ?_, hvx⟩
          simp only [Array.toList_extract, List.extract_eq_take_drop, List.getElem?_take, List.getElem?_drop]
          rw [if_pos (by omega)]; exact hx
        · cases hv
    · cases hs
  | false =>
    rw [hg] at hs
    simp only [Bool.false_eq_true, if_false] at hs ⊢
    obtain ⟨x, hx, hvx⟩ := h.get _ _ hs
    have : xs[off]? = some x := by rw [← Array.getElem?_toList]; exact hx
    exact ⟨x, by simp [this], hvx⟩

theorem sim_ixa {t : Nat} {x ix : Operand} (ho : o.op = .index t x ix) {b c : X} (hx : X.of x = some b) (hi : X.of ix = some c) (hO : OR ι tm a o) {v : V} (hT : TOK P T) {i ei : TI} {e n : Nat} (ht : T.ty t = some i)
    (hd : i.d = .array n e) (he : T.ty e = some ei)
    (hs : semP (.ixa n ei.size (TypeDesc.agg ei.d) (evX tm b) (evX tm c)) = some v) (w : World) : Vals P a o w ι v := by
  refine vals_of (s := Instr.index t (a.eval x) (a.eval ix)) (by simp only [execOp, ho]) ?_
  have h1 := hO x (by simp [ho, Op.operands]) _ hx
  have h2 := hO ix (by simp [ho, Op.operands]) _ hi
  simp only [semP] at hs
  split at hs
  · rename_i cs k m hk hn
    rw [hk] at h1; rw [hn] at h2; rw [h2.int_inv]
    split at hs
    · rename_i j hj
      obtain ⟨g1, g2, g3⟩ := idx_inv hj
      have e1 := run_und hT ht w
      rw [hd] at e1
      generalize a.eval x = y at h1
      cases h1 with
      | ag _ xs hxs =>
        obtain ⟨z, hz, hv⟩ := run_part hxs hT he (off := j * ei.size) hs w
        refine ⟨z, ?_, hv⟩
        unfold Instr.index
        simp only [Sem.run_bind, asIntOf, Sem.run_pure, e1, Result.andThen_ok, if_pos (And.intro g1 g2), run_size hT he, ← g3]
        exact hz
    · cases hs
  · cases hs

theorem sim_fld {t j : Nat} {x : Operand} (ho : o.op = .field t x j) {b : X} (hx : X.of x = some b) (hO : OR ι tm a o) {v : V} (hT : TOK P T) {i fi : TI} {fs : Array Field} {f : Field} (hi : T.ty t = some i)
    (hd : i.d = .struct fs) (hf : fs[j]? = some f) (hfi : T.ty f.type = some fi)
    (hs : semP (.fld f.offset fi.size (TypeDesc.agg fi.d) (evX tm b)) = some v) (w : World) : Vals P a o w ι v := by
  refine vals_of (s := Instr.field t (a.eval x) j) (by simp only [execOp, ho]) ?_
  have h1 := hO x (by simp [ho, Op.operands]) _ hx
  simp only [semP] at hs
  split at hs
  · rename_i cs hk
    rw [hk] at h1
    generalize a.eval x = y at h1
    cases h1 with
    | ag _ xs hxs =>
      have e1 := run_und hT hi w
      rw [hd] at e1
      obtain ⟨z, hz, hv⟩ := run_part hxs hT hfi (off := f.offset) hs w
      refine ⟨z, ?_, hv⟩
      unfold Instr.field
      simp only [Sem.run_bind, e1, Result.andThen_ok, hf, asAgg, Sem.run_pure]
      exact hz
  · cases hs

theorem sim_ext {j : Nat} {x : Operand} (ho : o.op = .extract x j) {b : X} (hx : X.of x = some b) (hO : OR ι tm a o) {v : V}
    (hs : semP (.ext j (evX tm b)) = some v) (w : World) : Vals P a o w ι v := by
  refine vals_of (s := Instr.extract (a.eval x) j) (by simp only [execOp, ho]) ?_
  have h1 := hO x (by simp [ho, Op.operands]) _ hx
  simp only [semP] at hs
  split at hs
  · rename_i cs hk
    rw [hk] at h1
    generalize a.eval x = y at h1
    cases h1 with
    | tu _ xs hxs =>
      obtain ⟨z, hz, hv⟩ := hxs.get _ _ hs
      have : xs[j]? = some z := by rw [← Array.getElem?_toList]; exact hz
      exact ⟨z, by simp [Instr.extract, this], hv⟩
  · cases hs

theorem sim_mkf {g : Nat} {p q : Array Operand} (ho : o.op = .makeFunc (.func g) p q) {b c : List X} (hx : X.ofL p.toList = some b) (hy : X.ofL q.toList = some c) (hO : OR ι tm a o) {v : V}
    (hs : semP (.mkf g (b.map (evX tm)) (c.map (evX tm))) = some v) (w : World) : Vals P a o w ι v := by
  refine vals_of (s := Instr.makeFunc (.func g) (p.map a.eval) (q.map a.eval)) (by simp only [execOp, ho]) ?_
  have h1 := ofL_rel hx fun z hz => hO z (by simp [ho, Op.operands]; exact .inl (by simpa using hz))
  have h2 := ofL_rel hy fun z hz => hO z (by simp [ho, Op.operands]; exact .inr (by simpa using hz))
  simp only [semP, Option.some.injEq] at hs
  subst hs
  exact ⟨_, rfl, .f _ _ _ _ _ (by simpa using h1) (by simpa using h2)⟩

theorem sim_mki {t : Nat} {x : Operand} (ho : o.op = .makeInterface t x) {b : X} (hx : X.of x = some b) (hO : OR ι tm a o) {v : V} (hT : TOK P T) {i : TI} (hi : T.ty t = some i) (hd : ∀ ms, i.d ≠ .interface ms)
    (hs : semP (.mki t (evX tm b)) = some v) (w : World) : Vals P a o w ι v := by
  refine vals_of (s := Instr.makeInterface t (a.eval x)) (by simp only [execOp, ho]) ?_
  have h1 := hO x (by simp [ho, Op.operands]) _ hx
  simp only [semP, Option.some.injEq] at hs
  subst hs
  refine ⟨_, ?_, .ic _ _ _ h1⟩
  unfold Instr.makeInterface
  simp only [Sem.run_bind, run_und hT hi, Result.andThen_ok, Sem.run_pure]

end Go.Ev

namespace Go.Ev
variable {P : Program} {T : TT} {ι : Iota} {tm : Nat → V} {a : Act} {o : Oper}

theorem loV_run {lo : Option V} {lo' : Option Value} {l h : Nat} (hl : loV h lo = some l) (hlo : (lo = none ∧ lo' = none) ∨ ∃ v x, lo = some v ∧ lo' = some x ∧ VR ι v x) (w : World) :
    (match (generalizing := false) lo' with | some v => Instr.sliceBound v h .sliceB | none => pure 0 : Sem Nat).run P w = .ok l w ∧ l ≤ h := by
  rcases hlo with ⟨rfl, rfl⟩ | ⟨v, x, rfl, rfl, hv⟩
  · simp [loV] at hl; subst hl; exact ⟨rfl, Nat.zero_le _⟩
  · cases v <;> simp only [loV, reduceCtorEq] at hl
    rename_i k n
    obtain rfl := hv.int_inv
    split at hl
    · rename_i g
      injection hl with hl; subst hl
      refine ⟨?_, by omega⟩
      simp [Instr.sliceBound, asIntOf, g]
    · cases hl
/-- bounds of a slice expression, in the model. -/
theorem bnds_run {isS : Bool} {len cap cap' : Nat} (hc : cap ≤ cap') (hlc : len ≤ cap) {lo hi : Option V} {lo' hi' : Option Value} {l h : Nat} (hb : bnds len cap lo hi = some (l, h))
    (hlo : (lo = none ∧ lo' = none) ∨ ∃ v x, lo = some v ∧ lo' = some x ∧ VR ι v x) (hhi : (hi = none ∧ hi' = none) ∨ ∃ v x, hi = some v ∧ hi' = some x ∧ VR ι v x) (w : World) :
    (Instr.sliceBounds isS len cap' lo' hi' none).run P w = .ok (l, h, cap') w ∧ l ≤ h ∧ h ≤ cap := by
  unfold bnds at hb
  split at hb
  · cases hb
  · rename_i h0 hh
    split at hb
    · cases hb
    · rename_i l0 hl
      simp only [Option.some.injEq, Prod.mk.injEq] at hb
      obtain ⟨rfl, rfl⟩ := hb
      obtain ⟨k1, k2⟩ := loV_run (P := P) hl hlo w
      rcases hhi with ⟨rfl, rfl⟩ | ⟨v, x, rfl, rfl, hv⟩
      · simp [hiV] at hh; subst hh
        refine ⟨?_, k2, hlc⟩
        unfold Instr.sliceBounds
        simp only [Sem.run_bind, Sem.run_pure, Result.andThen_ok, Option.isSome_none, Bool.false_eq_true, if_false]
        cases lo' with
        | none => simp only [Sem.run_pure, Result.ok.injEq, and_true] at k1 ⊢; subst k1; rfl
        | some z => simp only [Sem.run_bind, k1, Result.andThen_ok, Sem.run_pure]
      · cases v <;> simp only [hiV, reduceCtorEq] at hh
        rename_i k n
        obtain rfl := hv.int_inv
        split at hh
        · rename_i g
          injection hh with hh; subst hh
          refine ⟨?_, k2, by omega⟩
          have e2 : (Instr.sliceBound (.int k n) cap' (if isS then .sliceAcap else .sliceAlen)).run P w = .ok n.toNat w := by
            simp [Instr.sliceBound, asIntOf, g.1, show n ≤ (cap' : Int) by omega]
          unfold Instr.sliceBounds
          simp only [Sem.run_bind, Sem.run_pure, Result.andThen_ok, Option.isSome_none, Bool.false_eq_true, if_false, e2]
          cases lo' with
          | none => simp only [Sem.run_pure, Result.ok.injEq, and_true] at k1 ⊢; subst k1; rfl
          | some z => simp only [Sem.run_bind, k1, Result.andThen_ok, Sem.run_pure]
        · cases hh

theorem optRel {x : Option Operand} {y : Option X} (h : X.ofO x = some y) (hO : ∀ z, x = some z → ∀ y, X.of z = some y → VR ι (evX tm y) (a.eval z)) :
    (y.map (evX tm) = none ∧ x.map a.eval = none) ∨ ∃ v z, y.map (evX tm) = some v ∧ x.map a.eval = some z ∧ VR ι v z := by
  rcases ofO_ev h with ⟨rfl, rfl⟩ | ⟨x', y', rfl, rfl, h1⟩
  · exact .inl ⟨rfl, rfl⟩
  · exact .inr ⟨_, _, rfl, rfl, hO x' rfl _ h1⟩

theorem sim_sls {t : Nat} {x : Operand} {lo hi : Option Operand} (ho : o.op = .slice t x lo hi none) {b : X} {l h : Option X} (hx : X.of x = some b) (hl : X.ofO lo = some l) (hh : X.ofO hi = some h) (hO : OR ι tm a o) {v : V}
    (hT : TOK P T) {i : TI} (hi' : T.ty t = some i) (hd : i.d = .string) (hs : semP (.sls (evX tm b) (l.map (evX tm)) (h.map (evX tm))) = some v) (w : World) : Vals P a o w ι v := by
  refine vals_of (s := Instr.sliceAt t (a.eval x) (lo.map a.eval) (hi.map a.eval) none) (by simp only [execOp, ho, Option.map_none]) ?_
  have h1 := hO x (by simp [ho, Op.operands]) _ hx
  have h2 := optRel hl fun z hz => hO z (by subst hz; simp [ho, Op.operands])
  have h3 := optRel hh fun z hz => hO z (by subst hz; simp [ho, Op.operands])
  simp only [semP] at hs
  split at hs
  · rename_i s hk
    rw [hk] at h1
    split at hs
    · rename_i p q hb
      injection hs with hs; subst hs
      have e1 := run_und hT hi' w
      rw [hd] at e1
      generalize a.eval x = y at h1
      cases h1 with
      | s s _ e0 =>
        have el : (List.map UInt8.toNat s.data.toList).length = s.size := by simp
        subst e0
        rw [el] at hb
        obtain ⟨k1, k2, k3⟩ := bnds_run (P := P) (isS := false) (Nat.le_refl _) (Nat.le_refl _) hb h2 h3 w
        refine ⟨.string (s.extract p q), ?_, .s _ _ ?_⟩
        · unfold Instr.sliceAt
          simp only [Sem.run_bind, e1, Result.andThen_ok]
          unfold Instr.slice
          simp only [Sem.run_bind, e1, Result.andThen_ok, Option.isSome_none, Bool.false_eq_true, if_false, k1, Sem.run_pure]
        · simp [ByteArray.data_extract, List.map_take, List.map_drop]
    · cases hs
  · cases hs

theorem sim_slv {t : Nat} {x : Operand} {lo hi : Option Operand} (ho : o.op = .slice t x lo hi none) {b : X} {l h : Option X} (hx : X.of x = some b) (hl : X.ofO lo = some l) (hh : X.ofO hi = some h) (hO : OR ι tm a o) {v : V}
    (hT : TOK P T) {i ei : TI} {e : Nat} (hi' : T.ty t = some i) (hd : i.d = .slice e) (he : T.ty e = some ei)
    (hs : semP (.slv ei.size (evX tm b) (l.map (evX tm)) (h.map (evX tm))) = some v) (w : World) : Vals P a o w ι v := by
  refine vals_of (s := Instr.sliceAt t (a.eval x) (lo.map a.eval) (hi.map a.eval) none) (by simp only [execOp, ho, Option.map_none]) ?_
  have h1 := hO x (by simp [ho, Op.operands]) _ hx
  have h2 := optRel hl fun z hz => hO z (by subst hz; simp [ho, Op.operands])
  have h3 := optRel hh fun z hz => hO z (by subst hz; simp [ho, Op.operands])
  have e1 := run_und hT hi' w
  rw [hd] at e1
  simp only [semP] at hs
  split at hs
  · rename_i B of len cap xf hk
    rw [hk] at h1
    split at hs
    · rename_i p q hb
      generalize a.eval x = y at h1
      cases h1 with
      | sx _ _ _ _ L hL hle =>
        obtain ⟨k1, k2, k3⟩ := bnds_run (P := P) (isS := true) (Nat.le_refl _) hle hb h2 h3 w
        simp only [if_true] at hs
        injection hs with hs
        have er : (Instr.sliceAt t (.slice (some ⟨L.r, L.o + of, none⟩) len cap) (lo.map a.eval) (hi.map a.eval) none).run P w =
            .ok (.slice (if cap = p then some ⟨L.r, L.o + of, none⟩ else (some ⟨L.r, L.o + of, none⟩ : Option Addr).map (·.add (p * ei.size))) (q - p) (cap - p)) w := by
          unfold Instr.sliceAt
          simp only [Sem.run_bind, e1, Result.andThen_ok]
          unfold Instr.slice
          simp only [Sem.run_bind, e1, Result.andThen_ok, k1, run_size hT he, Sem.run_pure]
        rw [er]
        split at hs
        · rename_i hcp
          subst hs
          rw [if_pos hcp]
          exact ⟨_, rfl, .sx _ _ _ _ L hL (by omega)⟩
        · rename_i hcp
          subst hs
          rw [if_neg hcp]
          refine ⟨_, rfl, ?_⟩
          simp only [Option.map_some, add_none, Nat.add_assoc]
          exact .sx _ _ _ _ L hL (by omega)
      | si _ _ _ _ _ cap' off L hL hx0 hle hle2 hor =>
        obtain ⟨k1, k2, k3⟩ := bnds_run (P := P) (isS := true) hle2 hle hb h2 h3 w
        rw [if_neg (by omega)] at hs
        split at hs
        · rename_i hxf
          injection hs with hs; subst hs
          have er : (Instr.sliceAt t (.slice (some ⟨L.r, off, none⟩) len cap') (lo.map a.eval) (hi.map a.eval) none).run P w =
              .ok (.slice (if cap' = p then some ⟨L.r, off, none⟩ else (some ⟨L.r, off, none⟩ : Option Addr).map (·.add (p * ei.size))) (q - p) (cap' - p)) w := by
            unfold Instr.sliceAt
            simp only [Sem.run_bind, e1, Result.andThen_ok]
            unfold Instr.slice
            simp only [Sem.run_bind, e1, Result.andThen_ok, k1, run_size hT he, Sem.run_pure]
          rw [er]
          split
          · rename_i hcp
            exact ⟨_, rfl, .si _ _ _ _ _ _ _ L hL hx0 (by omega) (by omega) (.inl (by omega))⟩
          · rename_i hcp
            refine ⟨_, rfl, ?_⟩
            simp only [Option.map_some, add_none]
            refine .si _ _ _ _ _ _ _ L hL hx0 (by omega) (by omega) (.inr ?_)
            rcases hor with g | ⟨g1, g2⟩
            · omega
            · refine ⟨by rw [g1]; omega, ?_⟩
              rw [hxf] at g2 ⊢
              have : p * ei.size + (cap' - p) * ei.size = cap' * ei.size := by rw [← Nat.add_mul]; congr 1; omega
              omega
        · cases hs
    · cases hs
  · rename_i hk
    rw [hk] at h1
    split at hs
    · rename_i pq hb
      obtain ⟨p, q⟩ := pq
      injection hs with hs; subst hs
      generalize a.eval x = y at h1
      cases h1 with
      | sn =>
        obtain ⟨k1, k2, k3⟩ := bnds_run (P := P) (isS := true) (Nat.le_refl _) (Nat.le_refl _) hb h2 h3 w
        have hp : p = 0 := by omega
        have hq : q = 0 := by omega
        subst hp; subst hq
        refine ⟨.slice none 0 0, ?_, .sn⟩
        unfold Instr.sliceAt
        simp only [Sem.run_bind, e1, Result.andThen_ok]
        unfold Instr.slice
        simp only [Sem.run_bind, e1, Result.andThen_ok, k1, run_size hT he, Sem.run_pure, if_true]
    · cases hs
  · cases hs

theorem sim_sla {t : Nat} {x : Operand} {lo hi : Option Operand} (ho : o.op = .slice t x lo hi none) {b : X} {l h : Option X} (hx : X.of x = some b) (hl : X.ofO lo = some l) (hh : X.ofO hi = some h) (hO : OR ι tm a o) {v : V}
    (hT : TOK P T) {i ei : TI} {e n : Nat} (hi' : T.ty t = some i) (hd : i.d = .array n e) (he : T.ty e = some ei)
    (hs : semP (.sla n ei.size (evX tm b) (l.map (evX tm)) (h.map (evX tm))) = some v) (w : World) : Vals P a o w ι v := by
  refine vals_of (s := Instr.sliceAt t (a.eval x) (lo.map a.eval) (hi.map a.eval) none) (by simp only [execOp, ho, Option.map_none]) ?_
  have h1 := hO x (by simp [ho, Op.operands]) _ hx
  have h2 := optRel hl fun z hz => hO z (by subst hz; simp [ho, Op.operands])
  have h3 := optRel hh fun z hz => hO z (by subst hz; simp [ho, Op.operands])
  have e1 := run_und hT hi' w
  rw [hd] at e1
  simp only [semP] at hs
  split at hs
  · rename_i B of hk
    rw [hk] at h1
    split at hs
    · rename_i p q hb
      generalize a.eval x = y at h1
      cases h1 with
      | p _ _ L hL =>
        obtain ⟨k1, k2, k3⟩ := bnds_run (P := P) (isS := false) (Nat.le_refl _) (Nat.le_refl _) hb h2 h3 w
        injection hs with hs
        have er : (Instr.sliceAt t (.pointer (some ⟨L.r, L.o + of, none⟩)) (lo.map a.eval) (hi.map a.eval) none).run P w =
            .ok (.slice (some (if n = p then ⟨L.r, L.o + of, none⟩ else (⟨L.r, L.o + of, none⟩ : Addr).add (p * ei.size))) (q - p) (n - p)) w := by
          unfold Instr.sliceAt
          simp only [Sem.run_bind, e1, Result.andThen_ok, Instr.sureAddr, k1, run_size hT he, Sem.run_pure]
        rw [er]
        split at hs
        · rename_i hcp
          subst hs
          rw [if_pos hcp]
          exact ⟨_, rfl, .sx _ _ _ _ L hL (by omega)⟩
        · rename_i hcp
          subst hs
          rw [if_neg hcp]
          refine ⟨_, rfl, ?_⟩
          simp only [add_none, Nat.add_assoc]
          exact .sx _ _ _ _ L hL (by omega)
    · cases hs
  · cases hs

/-! ### what a literal is made of -/
theorem layAt_length : ∀ (vs : List V) (cs : List V) (off : Nat), (layAt cs off vs).length = cs.length
  | [], _, _ => rfl
  | _ :: vs, cs, off => by simp [layAt, layAt_length vs]
theorem layAt_get : ∀ (vs : List V) (cs : List V) (off j : Nat), off + vs.length ≤ cs.length → (layAt cs off vs)[j]? = if off ≤ j ∧ j < off + vs.length then vs[j - off]? else cs[j]?
  | [], cs, off, j, _ => by simp only [layAt, List.length_nil]; rw [if_neg (by omega)]
  | v :: vs, cs, off, j, h => by
    simp only [layAt, List.length_cons] at h ⊢
    rw [layAt_get vs _ _ _ (by simp; omega)]
    by_cases h1 : off + 1 ≤ j ∧ j < off + 1 + vs.length
    · rw [if_pos h1, if_pos (by omega), show j - off = (j - (off + 1)) + 1 from by omega, List.getElem?_cons_succ]
    · rw [if_neg h1]
      by_cases h2 : j = off
      · subst h2; rw [if_pos (by omega), List.getElem?_set_self (by omega)]; simp
      · rw [List.getElem?_set_ne (by omega), if_neg (by omega)]

/-- the model's own laying. -/
theorem foldl_set_get (l : List Value) : ∀ (cs : Array Value) (off k j : Nat), off + k + l.length ≤ cs.size →
    ((l.zipIdx k).foldl (fun (cs : Array Value) (p : Value × Nat) => cs.setIfInBounds (off + p.2) p.1) cs).size = cs.size ∧
    ((l.zipIdx k).foldl (fun (cs : Array Value) (p : Value × Nat) => cs.setIfInBounds (off + p.2) p.1) cs)[j]? = if off + k ≤ j ∧ j < off + k + l.length then l[j - (off + k)]? else cs[j]? := by
  induction l with
  | nil => intro cs off k j h; simp only [List.zipIdx_nil, List.foldl_nil, List.length_nil]; rw [if_neg (by omega)]; exact ⟨trivial, rfl⟩
  | cons v l ih =>
    intro cs off k j h
    simp only [List.zipIdx_cons, List.foldl_cons, List.length_cons] at h ⊢
    obtain ⟨i1, i2⟩ := ih (cs.setIfInBounds (off + k) v) off (k + 1) j (by simp; omega)
    refine ⟨by rw [i1]; simp, ?_⟩
    rw [i2]
    by_cases h1 : off + (k + 1) ≤ j ∧ j < off + (k + 1) + l.length
    · rw [if_pos h1, if_pos (by omega), show j - (off + k) = (j - (off + (k + 1))) + 1 from by omega, List.getElem?_cons_succ]
    · rw [if_neg h1]
      by_cases h2 : j = off + k
      · subst h2; rw [if_pos (by omega), Array.getElem?_setIfInBounds_self_of_lt (by omega)]; simp
      · rw [Array.getElem?_setIfInBounds_ne (by omega), if_neg (by omega)]

theorem VR.cells {v : V} {x : Value} (h : VR ι v x) (hu : v ≠ .u) : VRs ι v.cells x.cells.toList := by
  cases h <;> first | exact absurd rfl hu | (exact .cons _ _ _ _ (by constructor <;> assumption) .nil) | assumption

theorem VR.cells_u {x : Value} (h : VR ι .u x) : x.cells = #[x] := by
  cases h with
  | u _ h => cases x <;> first | rfl | (simp [Value.oneCell] at h; done)

theorem VR.cells' {v : V} {x : Value} (h : VR ι v x) : VRs ι v.cells x.cells.toList := by
  by_cases hu : v = .u
  · subst hu; rw [VR.cells_u h]; exact .cons _ _ _ _ h .nil
  · exact h.cells hu

/-- the model's parts. -/
theorem partsOf_rel {pl : Nat → Option (Nat × Nat)} : ∀ {ps : List (Nat × Operand)} {ys : List (Nat × Nat × X)}, partsOf pl ps = some ys → (∀ p ∈ ps, ∀ y, X.of p.2 = some y → VR ι (evX tm y) (a.eval p.2)) →
    ∀ {cs : List V} {cells : Array Value} {ds : List V}, VRs ι cs cells.toList → fillV cs (ys.map fun (o, s, x) => (o, s, evX tm x)) = some ds →
      ∃ out, Instr.fill pl cells (ps.map fun (i, x) => (i, a.eval x)) = some out ∧ VRs ι ds out.toList
  | [], ys, h, _, cs, cells, ds, hc, hf => by
    simp [partsOf] at h; subst h
    simp [fillV] at hf; subst hf
    exact ⟨cells, rfl, hc⟩
  | (j, x) :: ps, ys, h, hO, cs, cells, ds, hc, hf => by
    simp only [partsOf] at h
    split at h
    · rename_i off sz y ys' h1 h2 h3
      injection h with h; subst h
      simp only [List.map_cons, fillV] at hf
      split at hf
      · rename_i hl
        have hv := hO (j, x) (by simp) y h2
        have hvc := hv.cells'
        have hlen := hvc.length
        have hcl := hc.length
        have hsz : (a.eval x).cells.size = sz := by rw [← hl.1, hlen]; simp
        have hin : off + (a.eval x).cells.size ≤ cells.size := by rw [hsz]; have := hl.2; simpa [hcl] using this
        have key : VRs ι (layAt cs off (evX tm y).cells) ((a.eval x).cells.zipIdx.foldl (fun cs (p : Value × Nat) => cs.setIfInBounds (off + p.2) p.1) cells).toList := by
          have hz : (a.eval x).cells.zipIdx.foldl (fun cs (p : Value × Nat) => cs.setIfInBounds (off + p.2) p.1) cells =
              ((a.eval x).cells.toList.zipIdx 0).foldl (fun (cs : Array Value) (p : Value × Nat) => cs.setIfInBounds (off + p.2) p.1) cells := by
            rw [← Array.foldl_toList, Array.toList_zipIdx]
          rw [hz]
          have hfs := foldl_set_get (a.eval x).cells.toList cells off 0
          refine VRs.of_get ?_ fun k uu hu => ?_
          · rw [layAt_length, hcl]; simpa using (hfs 0 (by simpa using hin)).1.symm
          · rw [layAt_get _ _ _ _ (by rw [hl.1]; exact hl.2)] at hu
            rw [Array.getElem?_toList, (hfs k (by simpa using hin)).2]
            split at hu
            · rename_i hk
              obtain ⟨z, hz1, hz2⟩ := hvc.get _ _ hu
              refine ⟨z, ?_, hz2⟩
              rw [if_pos (by rw [← hlen]; omega)]
              simpa using hz1
            · rename_i hk
              obtain ⟨z, hz1, hz2⟩ := hc.get _ _ hu
              refine ⟨z, ?_, hz2⟩
              rw [if_neg (by rw [← hlen]; omega)]
              simpa using hz1
        obtain ⟨out, e1, e2⟩ := partsOf_rel h3 (fun p hp => hO p (by simp [hp])) key hf
        refine ⟨out, ?_, e2⟩
        simp only [List.map_cons, Instr.fill, h1]
        rw [if_neg (by simp only [hsz, ne_eq, not_true_eq_false, decide_false, Bool.false_or, decide_eq_true_eq, Nat.not_lt, gt_iff_lt]; rw [← hsz]; simpa using hin)]
        exact e1
      · cases hf
    · cases h

end Go.Ev

namespace Go.Ev
variable {P : Program} {T : TT} {ι : Iota} {tm : Nat → V} {a : Act} {o : Oper}

/-- the zero cells of a type. -/
theorem zero_rel {t : Nat} {i : TI} (hT : TOK P T) (h : T.ty t = some i) (ι : Iota) : ∃ z, (∀ w, (zeroValue t).run P w = .ok z w) ∧ VRs ι i.zero z.cells.toList ∧ (TypeDesc.agg i.d = true → ∃ cs, z = .agg cs) ∧ (TypeDesc.agg i.d = false → z.oneCell = true) := by
  obtain ⟨j, h1, _, _, _, z, h2, h3, h4, h5⟩ := hT.ty t i h
  exact ⟨z, fun w => by simp [zeroValue, typeInfo, h1, h2], V.ofL_rel ι h3, h4, h5⟩

theorem mapM_places (fs : Array Field) (hall : ∀ f ∈ fs.toList, ∃ n, ∀ w, (sizeOf f.type).run P w = .ok n w) (w : World) :
    ∃ pl : Array (Nat × Nat), (fs.mapM fun f => do pure (f.offset, ← sizeOf f.type) : Sem (Array (Nat × Nat))).run P w = .ok pl w ∧ ∀ (j : Nat) f n, fs[j]? = some f → (∀ w, (sizeOf f.type).run P w = .ok n w) → pl[j]? = some (f.offset, n) := by
  have key : ∀ (l : List Field), (∀ f ∈ l, ∃ n, ∀ w, (sizeOf f.type).run P w = .ok n w) → ∃ pl : List (Nat × Nat), (l.mapM fun f => do pure (f.offset, ← sizeOf f.type) : Sem (List (Nat × Nat))).run P w = .ok pl w ∧
      ∀ (j : Nat) f n, l[j]? = some f → (∀ w, (sizeOf f.type).run P w = .ok n w) → pl[j]? = some (f.offset, n) := by
    intro l
    induction l with
    | nil => intro _; exact ⟨[], by simp, fun j f n h => by simp at h⟩
    | cons f l ih =>
      intro hl
      obtain ⟨pl, e1, e2⟩ := ih fun g hg => hl g (by simp [hg])
      obtain ⟨n, hn⟩ := hl f (by simp)
      refine ⟨(f.offset, n) :: pl, by simp only [List.mapM_cons, Sem.run_bind, hn, e1, Result.andThen_ok, Sem.run_pure], ?_⟩
      intro j g m hj hm
      cases j with
      | zero =>
        simp at hj; subst hj
        have : n = m := by have h1 := hn w; rw [hm w] at h1; injection h1 with h1; exact h1.symm
        simp [this]
      | succ j => simp at hj; simpa using e2 j g m hj hm
  obtain ⟨pl, e1, e2⟩ := key fs.toList hall
  refine ⟨pl.toArray, ?_, fun j f n h hn => ?_⟩
  · rw [Array.mapM_eq_mapM_toList]
    simp only [Sem.run_map, e1, Result.andThen_ok]
  · simpa using e2 j f n (by simpa using h) hn

theorem fill_mono {pl pl' : Nat → Option (Nat × Nat)} (h : ∀ j x, pl j = some x → pl' j = some x) : ∀ (ps : List (Nat × Value)) (cs out : Array Value), Instr.fill pl cs ps = some out → Instr.fill pl' cs ps = some out
  | [], _, _, e => e
  | (j, v) :: ps, cs, out, e => by
    simp only [Instr.fill] at e ⊢
    cases hp : pl j with
    | none => simp [hp] at e
    | some x =>
      obtain ⟨off, sz⟩ := x
      rw [hp] at e
      rw [h j _ hp]
      simp only at e ⊢
      split at e
      · cases e
      · rename_i hc
        rw [if_neg hc]
        exact fill_mono h ps _ _ e

theorem sim_build_struct {t : Nat} {ps : Array (Nat × Operand)} (ho : o.op = .build t ps) {i : TI} {fs : Array Field} (hT : TOK P T) (ht : T.ty t = some i) (hd : i.d = .struct fs)
    (hall : ∀ f ∈ fs.toList, ∃ fi, T.ty f.type = some fi) {ys : List (Nat × Nat × X)} (hp : partsOf (structPl T fs) ps.toList = some ys) (hO : OR ι tm a o) {v : V}
    (hs : semP (.build i.zero (ys.map fun (o, s, x) => (o, s, evX tm x))) = some v) (w : World) : Vals P a o w ι v := by
  refine vals_of (s := Instr.build t (ps.map fun (i, x) => (i, a.eval x))) (by simp only [execOp, ho]) ?_
  obtain ⟨z, hz, hzr, _⟩ := zero_rel hT ht ι
  simp only [semP] at hs
  split at hs
  · rename_i cs hf
    injection hs with hs; subst hs
    obtain ⟨out, e1, e2⟩ := partsOf_rel hp (fun p hp => hO p.2 (by simp [ho, Op.operands]; exact ⟨p.1, by simpa using hp⟩)) hzr hf
    obtain ⟨pl, e3, e4⟩ := mapM_places (P := P) fs (fun f hf => (hall f hf).elim fun fi h => ⟨fi.size, run_size hT h⟩) w
    have e5 : Instr.fill (pl[·]?) z.cells (ps.map fun (i, x) => (i, a.eval x)).toList = some out := by
      rw [Array.toList_map]
      refine fill_mono (fun j x hx => ?_) _ _ _ e1
      unfold structPl at hx
      split at hx
      · rename_i f hf
        split at hx
        · rename_i fi hfi
          injection hx with hx; subst hx
          exact e4 j f fi.size hf (run_size hT hfi)
        · cases hx
      · cases hx
    have eu := run_und hT ht w
    rw [hd] at eu
    refine ⟨.agg out, ?_, .ag _ _ e2⟩
    unfold Instr.build
    simp only [Sem.run_bind, hz, Result.andThen_ok, eu, e3, e5, Sem.run_pure]
  · cases hs

theorem sim_build_array {t : Nat} {ps : Array (Nat × Operand)} (ho : o.op = .build t ps) {i ei : TI} {n e : Nat} (hT : TOK P T) (ht : T.ty t = some i) (hd : i.d = .array n e)
    (he : T.ty e = some ei) {ys : List (Nat × Nat × X)} (hp : partsOf (fun j => some (j * ei.size, ei.size)) ps.toList = some ys) (hO : OR ι tm a o) {v : V}
    (hs : semP (.build i.zero (ys.map fun (o, s, x) => (o, s, evX tm x))) = some v) (w : World) : Vals P a o w ι v := by
  refine vals_of (s := Instr.build t (ps.map fun (i, x) => (i, a.eval x))) (by simp only [execOp, ho]) ?_
  obtain ⟨z, hz, hzr, _⟩ := zero_rel hT ht ι
  simp only [semP] at hs
  split at hs
  · rename_i cs hf
    injection hs with hs; subst hs
    obtain ⟨out, e1, e2⟩ := partsOf_rel hp (fun p hp => hO p.2 (by simp [ho, Op.operands]; exact ⟨p.1, by simpa using hp⟩)) hzr hf
    rw [← Array.toList_map] at e1
    have eu := run_und hT ht w
    rw [hd] at eu
    refine ⟨.agg out, ?_, .ag _ _ e2⟩
    unfold Instr.build
    simp only [Sem.run_bind, hz, Result.andThen_ok, eu, run_size hT he, e1, Sem.run_pure]
  · cases hs

/-- The run of a builtin's call. -/
theorem exec_builtin {c : Call} {b : Builtin} (ho : o.op = .call c) (hc : c.callee = .builtin b) :
    execOp a.eval o = builtin b c.argTypes o.type (c.args.map fun | .const _ => true | _ => false) (c.args.map a.eval) := by
  simp only [execOp, ho, resolve, hc]
  rfl

theorem opnd_args {c : Call} (ho : o.op = .call c) : ∀ x ∈ c.args.toList, x ∈ o.op.operands := by
  intro x hx
  rw [ho]
  simp [Op.operands, Call.operands]
  exact .inr (by simpa using hx)

/-- The arguments of a builtin. -/
theorem args_rel {c : Call} (ho : o.op = .call c) {ys : List X} (ha : X.ofL c.args.toList = some ys) (hO : OR ι tm a o) : VRs ι (ys.map (evX tm)) (c.args.map a.eval).toList := by
  have hrel := ofL_rel (a := a) ha fun z hz => hO z (opnd_args ho z hz)
  simpa using hrel

theorem sim_len {c : Call} (ho : o.op = .call c) (hc : c.callee = .builtin .len) {y : X} {ts : List TypeId} {t : TypeId} (ha : X.ofL c.args.toList = some [y]) (ht : c.argTypes.toList = t :: ts) (hO : OR ι tm a o) {v : V}
    {i : TI} {str : Bool} (hT : TOK P T) (hi : T.ty t = some i) (hd : if str then i.d = .string else ∃ e, i.d = .slice e) (hs : semP (.len str (evX tm y)) = some v) (w : World) : Vals P a o w ι v := by
  have hrel := args_rel ho ha hO
  have ht0 : c.argTypes[0]? = some t := by rw [← Array.getElem?_toList, ht]; rfl
  simp only [List.map_cons, List.map_nil] at hrel
  refine vals_of (s := Builtin.len_ c.argTypes o.type (c.args.map a.eval)) (by rw [exec_builtin ho hc]; rfl) ?_
  generalize c.args.map a.eval = args at *
  obtain ⟨x, hx0, hv⟩ := hrel.get 0 _ rfl
  have hx : args[0]? = some x := by rw [← Array.getElem?_toList]; exact hx0
  have eu := run_und hT hi w
  simp only [semP] at hs
  split at hs
  · rename_i l hl
    injection hs with hs; subst hs
    rw [hl] at hv
    cases hv with
    | s b _ e =>
      subst e
      simp only [if_true] at hd
      rw [hd] at eu
      refine ⟨goInt b.size, ?_, ?_⟩
      · unfold Builtin.len_; simp only [ht0, hx, Sem.run_bind, eu, Result.andThen_ok, Sem.run_pure]
      · have : ((List.map UInt8.toNat b.data.toList).length : Int) = b.size := by simp
        rw [this]; exact .i _ _
  · rename_i B of len cap xf hl
    injection hs with hs; subst hs
    rw [hl] at hv
    simp only [Bool.false_eq_true, if_false] at hd
    obtain ⟨e, hd⟩ := hd
    rw [hd] at eu
    cases hv <;> exact ⟨goInt len, by unfold Builtin.len_; simp only [ht0, hx, Sem.run_bind, eu, Result.andThen_ok, Sem.run_pure], .i _ _⟩
  · rename_i hl
    injection hs with hs; subst hs
    rw [hl] at hv
    simp only [Bool.false_eq_true, if_false] at hd
    obtain ⟨e, hd⟩ := hd
    rw [hd] at eu
    cases hv; exact ⟨goInt 0, by unfold Builtin.len_; simp only [ht0, hx, Sem.run_bind, eu, Result.andThen_ok, Sem.run_pure]; rfl, .i _ _⟩
  · cases hs

theorem sim_cap {c : Call} (ho : o.op = .call c) (hc : c.callee = .builtin .cap) {y : X} {ts : List TypeId} {t : TypeId} (ha : X.ofL c.args.toList = some [y]) (ht : c.argTypes.toList = t :: ts) (hO : OR ι tm a o) {v : V}
    {i : TI} {e : Nat} (hT : TOK P T) (hi : T.ty t = some i) (hd : i.d = .slice e) (hs : semP (.cap (evX tm y)) = some v) (w : World) : Vals P a o w ι v := by
  have hrel := args_rel ho ha hO
  have ht0 : c.argTypes[0]? = some t := by rw [← Array.getElem?_toList, ht]; rfl
  simp only [List.map_cons, List.map_nil] at hrel
  refine vals_of (s := Builtin.cap_ c.argTypes o.type (c.args.map a.eval)) (by rw [exec_builtin ho hc]; rfl) ?_
  generalize c.args.map a.eval = args at *
  obtain ⟨x, hx0, hv⟩ := hrel.get 0 _ rfl
  have hx : args[0]? = some x := by rw [← Array.getElem?_toList]; exact hx0
  have eu := run_und hT hi w
  rw [hd] at eu
  simp only [semP] at hs
  split at hs
  · rename_i B of len cap hl
    injection hs with hs; subst hs
    rw [hl] at hv
    cases hv with
    | sx => exact ⟨goInt cap, by unfold Builtin.cap_; simp only [ht0, hx, Sem.run_bind, eu, Result.andThen_ok, Sem.run_pure], .i _ _⟩
    | si => omega
  · rename_i hl
    injection hs with hs; subst hs
    rw [hl] at hv
    cases hv; exact ⟨goInt 0, by unfold Builtin.cap_; simp only [ht0, hx, Sem.run_bind, eu, Result.andThen_ok, Sem.run_pure]; rfl, .i _ _⟩
  · cases hs

theorem mm_run {mx : Bool} : ∀ (ys : List V) (v r : V) (x : Value) (xs : List Value), VR ι v x → VRs ι ys xs → mmV mx v ys = some r → ∀ w, ∃ z, (xs.foldlM (if mx then Builtin.max2 else Builtin.min2) x).run P w = .ok z w ∧ VR ι r z
  | [], v, r, x, xs, hv, hs, h, w => by
    simp only [mmV, Option.some.injEq] at h; subst h
    cases hs
    exact ⟨x, by simp, hv⟩
  | y :: ys, v, r, x, xs, hv, hs, h, w => by
    cases hs with
    | cons _ z _ zs hz hzs =>
      have hv' : ∃ k n, v = .i k n := by cases v <;> first | exact ⟨_, _, rfl⟩ | (simp only [mmV, reduceCtorEq] at h; done)
      obtain ⟨k, n, rfl⟩ := hv'
      have hy' : ∃ k n, y = .i k n := by cases y <;> first | exact ⟨_, _, rfl⟩ | (simp only [mmV, reduceCtorEq] at h; done)
      obtain ⟨k', m, rfl⟩ := hy'
      simp only [mmV] at h
      obtain rfl := hv.int_inv
      obtain rfl := hz.int_inv
      obtain ⟨q, e1, e2⟩ := mm_run ys _ r _ zs (VR.i k (if mx then (if m > n then m else n) else (if m < n then m else n))) hzs h w
      refine ⟨q, ?_, e2⟩
      cases mx with
      | true => simp only [if_true] at e1; simp only [if_true]; simp only [List.foldlM_cons, Sem.run_bind, Builtin.max2, Sem.run_pure, Result.andThen_ok]; exact e1
      | false => simp only [Bool.false_eq_true, if_false] at e1; simp only [Bool.false_eq_true, if_false]; simp only [List.foldlM_cons, Sem.run_bind, Builtin.min2, Sem.run_pure, Result.andThen_ok]; exact e1

theorem sim_mm {c : Call} {mx : Bool} (ho : o.op = .call c) (hc : c.callee = .builtin (if mx then .max else .min)) {y : X} {ys : List X} (ha : X.ofL c.args.toList = some (y :: ys)) (hO : OR ι tm a o) {v : V}
    (hs : semP (.mm mx (evX tm y) (ys.map (evX tm))) = some v) (w : World) : Vals P a o w ι v := by
  have hrel := args_rel ho ha hO
  simp only [List.map_cons] at hrel
  have hx := exec_builtin (a := a) ho hc
  generalize (c.args.map fun | .const _ => true | _ => false) = cs at hx
  generalize c.args.map a.eval = args at *
  simp only [semP] at hs
  cases hal : args.toList with
  | nil => rw [hal] at hrel; cases hrel
  | cons x xs =>
    rw [hal] at hrel
    cases hrel with
    | cons _ _ _ _ h1 h2 =>
      obtain ⟨z, e1, e2⟩ := mm_run (P := P) _ _ _ _ _ h1 h2 hs w
      cases mx with
      | true =>
        refine vals_of (s := Builtin.max_ c.argTypes o.type args) (by rw [hx]; rfl) ⟨z, ?_, e2⟩
        unfold Builtin.max_; rw [hal]; exact e1
      | false =>
        refine vals_of (s := Builtin.min_ c.argTypes o.type args) (by rw [hx]; rfl) ⟨z, ?_, e2⟩
        unfold Builtin.min_; rw [hal]; exact e1

theorem exec_call {c : Call} {f : FuncId} (ho : o.op = .call c) (hc : c.callee = .value (.func f)) : execOp a.eval o = callFunc f (c.args.map a.eval) := by
  simp only [execOp, ho, resolve, hc, Act.eval, Deferred.ofValue]
  simp only [pure_bind, invoke, Array.append_empty, Array.empty_append]

theorem sim_ixb {c : Call} {f : FuncId} (ho : o.op = .call c) (hc : c.callee = .value (.func f)) (hT : TOK P T) (hf : T.ixb f = true) {y z : X} (ha : X.ofL c.args.toList = some [y, z]) (hO : OR ι tm a o) {v : V}
    (hs : semP (.ixb (evX tm y) (evX tm z)) = some v) (w : World) : Vals P a o w ι v := by
  have hrel := args_rel ho ha hO
  simp only [List.map_cons, List.map_nil] at hrel
  unfold Vals
  rw [exec_call ho hc]
  generalize hargs : c.args.map a.eval = args at *
  simp only [semP] at hs
  split at hs
  · rename_i l n h1 h2
    rw [h1, h2] at hrel
    split at hs
    · rename_i hn
      injection hs with hs; subst hs
      cases hal : args.toList with
      | nil => rw [hal] at hrel; cases hrel
      | cons x xs =>
        rw [hal] at hrel
        cases hrel with
        | cons _ _ _ _ g1 g2 =>
          cases g2 with
          | cons _ x2 _ xs2 g2 g3 =>
            cases g3
            obtain rfl := g2.int_inv
            cases g1 with
            | s b _ e =>
              subst e
              have : args = #[.string b, .int .u8 n] := by rw [← Array.toArray_toList (xs := args), hal]
              rw [this]
              exact ⟨_, hT.ixb f hf b n w hn.1 hn.2, .i _ _⟩
    · cases hs
  · cases hs


theorem sim_nesc {c : Call} {f : FuncId} (ho : o.op = .call c) (hc : c.callee = .value (.func f)) (hT : TOK P T) (hf : T.nesc f = true) {y : X} (ha : X.ofL c.args.toList = some [y]) (hO : OR ι tm a o) {v : V}
    (hs : semP (.mv (evX tm y)) = some v) (w : World) : Vals P a o w ι v := by
  have hrel := args_rel ho ha hO
  simp only [List.map_cons, List.map_nil] at hrel
  unfold Vals
  rw [exec_call ho hc]
  generalize hargs : c.args.map a.eval = args at *
  simp only [semP, Option.some.injEq] at hs
  subst hs
  cases hal : args.toList with
  | nil => rw [hal] at hrel; cases hrel
  | cons x xs =>
    rw [hal] at hrel
    cases hrel with
    | cons _ _ _ _ g1 g2 =>
      cases g2
      have : args = #[x] := by rw [← Array.toArray_toList (xs := args), hal]
      rw [this]
      exact ⟨_, hT.nesc f hf x w, g1⟩

theorem sim_sd {c : Call} (ho : o.op = .call c) (hc : c.callee = .builtin .unsafeSliceData) {y : X} (ha : X.ofL c.args.toList = some [y]) (hO : OR ι tm a o) {v : V}
    (hs : semP (.sd (evX tm y)) = some v) (w : World) : Vals P a o w ι v := by
  have hrel := args_rel ho ha hO
  simp only [List.map_cons, List.map_nil] at hrel
  refine vals_of (s := Builtin.unsafeSliceData_ c.argTypes o.type (c.args.map a.eval)) (by rw [exec_builtin ho hc]; rfl) ?_
  generalize c.args.map a.eval = args at *
  cases hal : args.toList with
  | nil => rw [hal] at hrel; cases hrel
  | cons x xs =>
    rw [hal] at hrel
    cases hrel with
    | cons _ _ _ _ g1 g2 =>
      cases g2
      have : args = #[x] := by rw [← Array.toArray_toList (xs := args), hal]
      rw [this]
      simp only [semP] at hs
      split at hs
      · rename_i h1
        rw [h1] at g1; cases g1
        injection hs with hs; subst hs
        exact ⟨.pointer none, rfl, .pn⟩
      · rename_i B of len cap xf h1
        rw [h1] at g1
        split at hs
        · cases hs
        · rename_i hcap
          injection hs with hs; subst hs
          cases g1 with
          | sx _ _ _ _ L hL hle =>
            obtain ⟨k, rfl⟩ : ∃ k, cap = k + 1 := ⟨cap - 1, by omega⟩
            exact ⟨_, rfl, .p _ _ _ hL⟩
          | si _ _ _ _ _ cap' off L hL hx0 hle hle2 hor =>
            obtain ⟨k, rfl⟩ : ∃ k, cap' = k + 1 := ⟨cap' - 1, by omega⟩
            refine ⟨_, rfl, ?_⟩
            rcases hor with g | ⟨g, _⟩
            · omega
            · subst g; exact .p _ _ _ hL
      · cases hs

end Go.Ev
