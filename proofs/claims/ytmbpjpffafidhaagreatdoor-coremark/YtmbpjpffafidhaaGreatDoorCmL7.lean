import Derived.Test.YtmbpjpffafidhaaGreatDoorCmL6
import Derived.IntWalk
import Derived.Deep.Slices
import Derived.WideKeyArgs
/-! A call that makes blocks, known by a run of its own, wherever its blocks are named from. -/
namespace Go.Ev
variable {P : Program}

def shN (NA m B : Nat) : Nat := if B < NA then B else B - NA + m
mutual
def shV (NA m : Nat) : V → V
  | .p B o => .p (shN NA m B) o
  | .sl B o l c x => .sl (shN NA m B) o l c x
  | .m B => .m (shN NA m B)
  | .f g a b => .f g (shVs NA m a) (shVs NA m b)
  | .ic t v => .ic t (shV NA m v)
  | .ag cs => .ag (shVs NA m cs)
  | .tu cs => .tu (shVs NA m cs)
  | v => v
def shVs (NA m : Nat) : List V → List V
  | [] => []
  | v :: vs => shV NA m v :: shVs NA m vs
end
theorem shVs_map (NA m : Nat) : ∀ l : List V, shVs NA m l = l.map (shV NA m)
  | [] => rfl
  | v :: l => by simp only [shVs, List.map_cons, shVs_map NA m l]

section
variable {ι' ι2 : Iota} {NA m : Nat}
mutual
theorem VR_shift (hs : ∀ B e, ι' B = some e → ι2 (shN NA m B) = some e) : ∀ {v : V} {x : Value}, VR ι' v x → VR ι2 (shV NA m v) x
  | _, _, .b x => .b x
  | _, _, .i k n => .i k n
  | _, _, .s x l e => .s x l e
  | _, _, .p B o e he => .p _ o e (hs _ _ he)
  | _, _, .pn => .pn
  | _, _, .sx B o len cap e he hl => .sx _ o len cap e (hs _ _ he) hl
  | _, _, .si B o len cap x cap' off e he h1 h2 h3 h4 => .si _ o len cap x cap' off e (hs _ _ he) h1 h2 h3 h4
  | _, _, .sn => .sn
  | _, _, .m B e he => .m _ e (hs _ _ he)
  | _, _, .mn => .mn
  | _, _, .f g fst cap xs ys h1 h2 => .f g _ _ xs ys (VRs_shift hs h1) (VRs_shift hs h2)
  | _, _, .fn => .fn
  | _, _, .ic t v x hv => .ic t _ x (VR_shift hs hv)
  | _, _, .inn => .inn
  | _, _, .ag cs xs h => .ag _ xs (VRs_shift hs h)
  | _, _, .tu cs xs h => .tu _ xs (VRs_shift hs h)
  | _, _, .u x hx => .u x hx
theorem VRs_shift (hs : ∀ B e, ι' B = some e → ι2 (shN NA m B) = some e) : ∀ {vs : List V} {xs : List Value}, VRs ι' vs xs → VRs ι2 (shVs NA m vs) xs
  | _, _, .nil => .nil
  | _, _, .cons v x vs xs hv h => .cons _ x _ xs (VR_shift hs hv) (VRs_shift hs h)
end
end
theorem shV_one (NA m : Nat) (v : V) : (shV NA m v).one = v.one := by cases v <;> rfl

/-- Blocks of cells alone. -/
def cellsOnly (l : List (Nat × Blk)) : Bool := l.all fun p => match p.2 with | .c .. => true | _ => false
def shL (NA m : Nat) : List (Nat × Blk) → List (Nat × Blk)
  | [] => []
  | (B, .c cs fz q) :: r => (shN NA m B, .c (shVs NA m cs) fz q) :: shL NA m r
  | p :: r => p :: shL NA m r
theorem shL_mem {NA m : Nat} : ∀ {l : List (Nat × Blk)}, cellsOnly l = true → ∀ {B : Nat} {b : Blk}, (B, b) ∈ shL NA m l → ∃ B0 cs fz q, (B0, Blk.c cs fz q) ∈ l ∧ B = shN NA m B0 ∧ b = .c (shVs NA m cs) fz q
  | [], _, B, b, h => by cases h
  | (B1, .c cs fz q) :: r, hc, B, b, h => by
    simp only [cellsOnly, List.all_cons, Bool.true_and] at hc
    rcases List.mem_cons.1 h with e | h
    · injection e with e1 e2
      exact ⟨B1, cs, fz, q, List.mem_cons_self .., e1, e2⟩
    · obtain ⟨B0, cs', fz', q', h1, h2, h3⟩ := shL_mem (l := r) hc h
      exact ⟨B0, cs', fz', q', List.mem_cons_of_mem _ h1, h2, h3⟩
  | (B1, .mp es clk) :: r, hc, B, b, h => by simp [cellsOnly] at hc
  | (B1, .it s pos) :: r, hc, B, b, h => by simp [cellsOnly] at hc

theorem BR_shift {ι' ι2 : Iota} {NA m : Nat} (hs : ∀ B e, ι' B = some e → ι2 (shN NA m B) = some e) {e : Loc} {w : World} {cs : List V} {fz q : Nat} (h : BR ι' e w (.c cs fz q)) : BR ι2 e w (.c (shVs NA m cs) fz q) := by
  obtain ⟨c, el, f, g1, g2, g3, g4, g5, g6⟩ := h
  refine ⟨c, el, f, g1, fun j v hj => ?_, fun v hv => ?_, by rw [shVs_map, List.length_map]; exact g4, g5, g6⟩
  · rw [shVs_map, List.getElem?_map, Option.map_eq_some_iff] at hj
    obtain ⟨v0, h1, rfl⟩ := hj
    obtain ⟨x, hx, hr⟩ := g2 j v0 h1
    exact ⟨x, hx, VR_shift hs hr⟩
  · rw [shVs_map, List.mem_map] at hv
    obtain ⟨v0, h1, rfl⟩ := hv
    rw [shV_one]
    exact g3 v0 h1

section
variable {ι ι' : Iota} {h h' : H} {w w' : World} {la ln : List (Nat × Blk)} {NA NX : Nat}

theorem moved (hh : HRel ι h w) (hnx : h.nx ≤ NA) (ha : hasAll h la = true) (hc : cellsOnly la = true) (hcn : cellsOnly ln = true) (hh' : HRel ι' h' w') (hE : Ext ι (hOf NA la) w ι' h' w') (ha' : hasAll h' la = true) (hn : hasAll h' ln = true) (hx : h'.nx ≤ NX) (hk : namesOK la ln NA NX = true) :
    ∃ ι2 : Iota, (∀ B e, ι' B = some e → ι2 (shN NA h.nx B) = some e) ∧ HRel ι2 ⟨h.nx + (NX - NA), putL (shL NA h.nx ln) h.t⟩ w' ∧ Ext ι h w ι2 ⟨h.nx + (NX - NA), putL (shL NA h.nx ln) h.t⟩ w' := by
  simp only [namesOK, Bool.and_eq_true, List.all_eq_true] at hk
  obtain ⟨_, hk2, hk3⟩ := hk
  have hk3 := Nat.le_of_ble_eq_true hk3
  let ι2 : Iota := fun B => if B < h.nx then ι B else ι' (B - h.nx + NA)
  have i2a : ∀ {B : Nat}, B < h.nx → ι2 B = ι B := fun hB => if_pos hB
  have i2b : ∀ {B : Nat}, ¬ B < h.nx → ι2 B = ι' (B - h.nx + NA) := fun hB => if_neg hB
  have old : ∀ {B : Nat}, B < NA → ι' B = ι B := fun {B} hB => hE.old B hB
  have hle : ι.le ι2 := fun B e he => by rw [i2a (hh.lt B e he)]; exact he
  have hs : ∀ B e, ι' B = some e → ι2 (shN NA h.nx B) = some e := by
    intro B e he
    by_cases hB : B < NA
    · have e1 : shN NA h.nx B = B := if_pos hB
      rw [old hB] at he
      rw [e1, i2a (hh.lt B e he)]
      exact he
    · have e1 : shN NA h.nx B = B - NA + h.nx := if_neg hB
      rw [e1, i2b (by omega)]
      have e2 : B - NA + h.nx - h.nx + NA = B := by omega
      rw [e2]
      exact he
  have new : ∀ {B : Nat} {b : Blk}, (B, b) ∈ shL NA h.nx ln → ∃ B0 cs fz q, h'.get B0 = some (.c cs fz q) ∧ b = .c (shVs NA h.nx cs) fz q ∧ h.nx ≤ B ∧ B0 = B - h.nx + NA ∧ B0 < NX ∧ Blk.own (.c cs fz q) = true := fun {B b} hm => by
    obtain ⟨B0, cs, fz, q, h1, h2, h3⟩ := shL_mem hcn hm
    have h4 := hk2 _ h1
    have h5 := Nat.le_of_ble_eq_true h4.1
    have h6 := Nat.le_of_ble_eq_true h4.2.1
    simp only at h5 h6
    have e1 : shN NA h.nx B0 = B0 - NA + h.nx := if_neg (by omega)
    exact ⟨B0, cs, fz, q, hasAll_get hn h1, h3, by omega, by omega, h6, h4.2.2⟩
  have own2 : ∀ {cs : List V} {fz q : Nat}, Blk.own (.c (shVs NA h.nx cs) fz q) = Blk.own (.c cs fz q) := rfl
  have get : ∀ {B : Nat} {b : Blk}, (⟨h.nx + (NX - NA), putL (shL NA h.nx ln) h.t⟩ : H).get B = some b → (B, b) ∈ shL NA h.nx ln ∨ h.get B = some b := fun hg => putL_get hg
  have same : ∀ {B : Nat} {b : Blk}, h.get B = some b → ι2 B = ι B := fun {B b} hb => i2a (hh.dom B b hb)
  have apart : ∀ {B B' : Nat} {b b' : Blk} {e e' : Loc}, (B, b) ∈ shL NA h.nx ln → h.get B' = some b' → ι2 B = some e → ι B' = some e' → e.r ≠ e'.r := fun {B B' b b' e e'} hm hb' he he' => by
    obtain ⟨B0, cs, fz, q, g1, g2, g3, g4, g5, g6⟩ := new hm
    rw [i2b (by omega), ← g4] at he
    have hlt := hh.dom B' b' hb'
    cases hno : (hOf NA la).get B' with
    | some b2 =>
      have hm2 := hOf_get hno
      have hb2 := hasAll_get ha hm2
      rw [hb'] at hb2
      injection hb2 with hb2
      subst hb2
      exact hh'.inj B0 B' _ b' e e' (by omega) g1 (hasAll_get ha' hm2) he ((old (by omega)).trans he') g6
    | none =>
      rcases hE.own B0 _ e g1 g6 he with h1 | ⟨B1, b1, e1, h1, h2, h3, h4⟩
      · have := BR.lt (hh.br B' b' e' hb' he')
        omega
      · rw [← h4]
        refine hh.inj B1 B' b1 b' e1 e' (fun e2 => ?_) (hasAll_get ha (hOf_get h1)) hb' h3 he' h2
        subst e2
        rw [hno] at h1
        cases h1
  refine ⟨ι2, hs, ?_, ?_⟩
  · constructor
    · intro B b e hb he
      rcases get hb with hm | hb
      · obtain ⟨B0, cs, fz, q, g1, g2, g3, g4, g5, g6⟩ := new hm
        rw [i2b (by omega), ← g4] at he
        rw [g2]
        exact BR_shift hs (hh'.br B0 _ e g1 he)
      · rw [same hb] at he
        cases hno : (hOf NA la).get B with
        | some b2 =>
          have hm2 := hOf_get hno
          have hb2 := hasAll_get ha hm2
          rw [hb] at hb2
          injection hb2 with hb2
          subst hb2
          have h1 := List.all_eq_true.1 hc _ hm2
          have hB := hh.dom B b hb
          have h2 := hh'.br B b e (hasAll_get ha' hm2) ((old (by omega)).trans he)
          have h3 := hh.br B b e hb he
          cases b with
          | c cs fz q => exact (BR.back hE.le h3 h2).mono hle rfl
          | mp es clk => cases h1
          | it s pos => cases h1
        | none => exact (hh.br B b e hb he).mono hle (old_kept hh ha hE hb he hno)
    · intro B B' b b' e e' hne hb hb' he he' ho
      rcases get hb with hm | hb
      · rcases get hb' with hm' | hb'
        · obtain ⟨B0, cs, fz, q, g1, g2, g3, g4, g5, g6⟩ := new hm
          obtain ⟨B0', cs', fz', q', g1', g2', g3', g4', g5', g6'⟩ := new hm'
          rw [i2b (by omega), ← g4] at he
          rw [i2b (by omega), ← g4'] at he'
          exact hh'.inj B0 B0' _ _ e e' (by omega) g1 g1' he he' g6
        · rw [same hb'] at he'
          exact apart hm hb' he he'
      · rcases get hb' with hm' | hb'
        · rw [same hb] at he
          exact (apart hm' hb he' he).symm
        · rw [same hb] at he
          rw [same hb'] at he'
          exact hh.inj B B' b b' e e' hne hb hb' he he' ho
    · intro B e he
      show B < h.nx + (NX - NA)
      by_cases hB : B < h.nx
      · omega
      · rw [i2b hB] at he
        have := hh'.lt _ _ he
        omega
    · intro B b hb
      show B < h.nx + (NX - NA)
      rcases get hb with hm | hb
      · obtain ⟨B0, cs, fz, q, g1, g2, g3, g4, g5, g6⟩ := new hm
        omega
      · have := hh.dom B b hb
        omega
  · constructor
    · exact hle
    · intro B hB
      exact i2a hB
    · show h.nx ≤ h.nx + (NX - NA)
      omega
    · exact hE.size
    · intro B b e hb ho he
      rcases get hb with hm | hb
      · obtain ⟨B0, cs, fz, q, g1, g2, g3, g4, g5, g6⟩ := new hm
        rw [i2b (by omega), ← g4] at he
        rcases hE.own B0 _ e g1 g6 he with h1 | ⟨B1, b1, e1, h1, h2, h3, h4⟩
        · exact .inl h1
        · exact .inr ⟨B1, b1, e1, hasAll_get ha (hOf_get h1), h2, h3, h4⟩
      · rw [same hb] at he
        exact .inr ⟨B, b, e, hb, ho, he, rfl⟩
    · intro r hr hno
      exact hE.frame r hr fun B b e hg ho he => hno B b e (hasAll_get ha (hOf_get hg)) ho he
    · exact hE.os
    · exact hE.output
end

/-! ### what stands for such a call -/
/-- Names worked out. -/
noncomputable def fLn : List (Nat × Blk) → (List (Nat × Blk) → R) → R
  | [], k => k []
  | (B, b) :: r, k => fN B fun B => Blk.rec (motive := fun _ => R) (fun cs fz q => fVs cs fun cs => fLn r fun r => k ((B, .c cs fz q) :: r)) (fun es c => fLn r fun r => k ((B, .mp es c) :: r)) (fun l p => fLn r fun r => k ((B, .it l p) :: r)) b
theorem fLn_eq : ∀ (l : List (Nat × Blk)) (k : List (Nat × Blk) → R), fLn l k = k l
  | [], _ => rfl
  | (B, b) :: r, k => by
    simp only [fLn]
    rw [fN_eq]
    cases b with
    | c cs fz q =>
      show fVs cs (fun cs => fLn r fun r => k ((B, .c cs fz q) :: r)) = _
      rw [fVs_eq, fLn_eq r]
    | mp es c =>
      show fLn r (fun r => k ((B, .mp es c) :: r)) = _
      rw [fLn_eq r]
    | it l p =>
      show fLn r (fun r => k ((B, .it l p) :: r)) = _
      rw [fLn_eq r]

noncomputable def primS (args : List V) (la : List (Nat × Blk)) (NA : Nat) (v : V) (ln : List (Nat × Blk)) (NX : Nat) (args' : List V) (h : H) : R :=
  ifB (eqvs args' args) (ifB (Nat.ble h.nx NA) (ifB (hasAll h la) (fLn (shL NA h.nx ln) fun l => putLF l h.t fun t => fV (shV NA h.nx v) fun v => fN (h.nx + (NX - NA)) fun nx => some (v, ⟨nx, t⟩)) none) none) none

variable {T : TT} {FT : Tr FN}
theorem primS_ok (hT : TOK P T) (hmix : P.follows .mixedOrders = true) (hF : TrAll (FGood P T) FT id) {n d g : Nat} {args : List V} {la ln : List (Nat × Blk)} {NA NX : Nat} {v : V}
    (hr : isS (callF FT n d g args (hOf NA la) (kM v la ln NX)) = true) (hk : namesOK la ln NA NX = true) (hc : cellsOnly la = true) (hcn : cellsOnly ln = true) : PrimOK P g (primS args la NA v ln NX) := by
  intro args' h v' h' hf ι xs w hg hargs hh
  obtain ⟨h1, hf⟩ := ifB_some hf
  obtain ⟨h2, hf⟩ := ifB_some hf
  obtain ⟨h3, hf⟩ := ifB_some hf
  rw [fLn_eq, putLF_eq, fV_eq, fN_eq] at hf
  injection hf with hf
  injection hf with e1 e2
  subst e1; subst e2
  have h1 := eqvs_eq h1
  subst h1
  have h2 := Nat.le_of_ble_eq_true h2
  obtain ⟨r, hr⟩ := isS_some hr
  refine (calls_of_callF hT hmix hF hr hg hargs (hh.sub h2 h3)).mono fun e w' ⟨v2, h2', hk2, x, ι', he, hv, g1, g2⟩ => ?_
  obtain ⟨k1, k2, k3, k4⟩ := kM_some hk2
  subst k1
  obtain ⟨ι2, m0, m1, m2⟩ := moved hh h2 h3 hc hcn g1 g2 k2 k3 k4 hk
  exact ⟨x, ι2, he, VR_shift m0 hv, m1, m2⟩

end Go.Ev

/-! A function's code run with calls known by others' runs. -/
namespace Go.Ev
variable {P : Program} {T : TT}

theorem code_ok (hT : TOK P T) (hmix : P.follows .mixedOrders = true) {call : CallF} (hcall : CallsOK P call) (hent : ∀ (g : Nat) (args : List V) (h : H) (v : V) (h' : H), call g args h = some (v, h') → Enters P g) {n g np : Nat} {b : BC} {fn : Func} {hint : BC}
    (hfn : P.funcs[g]? = some fn) (hcomp : compF T fn np hint = some b) {args : List V} {h h' : H} {v : V} (hlen : args.length = np)
    (hc : (match execD call n b args h with | some (.ret v, h') => some (v, h') | _ => none) = some (v, h')) {ι : Iota} {xs : Array Value} {w : World} (hg : Globs P ι) (hargs : VRs ι args xs.toList) (hh : HRel ι h w) :
    Calls P g xs w fun e w' => ∃ x ι', e = .returned x ∧ VR ι' v x ∧ HRel ι' h' w' ∧ Ext ι h w ι' h' w' := by
  unfold compF at hcomp
  split at hcomp
  · cases hcomp
  · rename_i c hbody
    split at hcomp
    · rename_i hnp
      have hsz : xs.size = np := by
        have := hargs.length
        rw [hlen] at this
        simpa using this.symm
      have hnp' : np ≤ fn.ntmps := by simpa using hnp
      refine calls_of_wp hfn hbody ?_
      have hrel0 : Rel fn.ntmps ι (fun t => args.getD t (.tu [])) { tmps := xs ++ Array.replicate (fn.ntmps - xs.size) undef, defers := [] } := by
        refine ⟨by simp; omega, fun t => ?_, rfl⟩
        by_cases ht : t < xs.size
        · have h1 : t < args.length := by omega
          obtain ⟨x, e1, e2⟩ := hargs.get t _ (List.getElem?_eq_getElem h1)
          have e3 : xs[t]? = some x := by rw [← Array.getElem?_toList]; exact e1
          have e4 : (xs ++ Array.replicate (fn.ntmps - xs.size) undef).getD t undef = x := by
            rw [Array.getD_eq_getD_getElem?, Array.getElem?_append_left ht, e3]; rfl
          simp only [e4]
          rw [List.getD_eq_getElem?_getD, List.getElem?_eq_getElem h1]
          exact e2
        · have h1 : args.length ≤ t := by omega
          have e4 : (xs ++ Array.replicate (fn.ntmps - xs.size) undef).getD t undef = undef := by
            rw [Array.getD_eq_getD_getElem?, Array.getElem?_append_right (by omega)]
            rw [Array.getElem?_replicate]
            split <;> rfl
          simp only [e4]
          rw [List.getD_eq_getElem?_getD, List.getElem?_eq_none h1]
          exact .tu _ _ .nil
      have hag0 : Agree ((List.range np).map ([·])) (fun t => args.getD t (.tu [])) args := by
        intro t p hp
        rw [List.range_eq_range'] at hp
        obtain ⟨h1, h2⟩ := posOf_range' hp
        have h3 : t = p := by omega
        subst h3
        have : t < args.length := by omega
        simp [List.getD_eq_getElem?_getD, this]
      -- what is wanted of the end
      have hpost : ∀ (lo : Option Lay) (b' : BC) (ex : EX) (hE : H), execD (call) n b' args h = some (ex, hE) → (compC T fn.ntmps fn.results.toList hint c [] ((List.range np).map ([·])) = some (b', lo)) →
          (match ex with
            | .nrm env' => ∃ L rs vs, lo = some L ∧ retP T L fn.results.toList = some rs ∧ retsD rs env' hE = some vs ∧ v = retV vs ∧ h' = hE
            | .exit _ _ => True
            | .ret v' => v' = v ∧ hE = h') →
          c.wp P (bodyPost P fn fun e w' => ∃ x ι', e = .returned x ∧ VR ι' v x ∧ HRel ι' h' w' ∧ Ext ι h w ι' h' w') { tmps := xs ++ Array.replicate (fn.ntmps - xs.size) undef, defers := [] } w := by
        intro lo b' ex hE hex hcc hend
        refine code_wp hT hmix hcall hent hint c [] _ b' lo hcc args h ex hE hex ι _ _ w hg hag0 hrel0 hh _ fun ι1 tm1 a1 w1 r1 r2 r3 => ?_
        cases ex with
        | nrm env1 =>
          rintro ⟨L', e1, e2⟩
          obtain ⟨L, rs, vs, e3, e4, e5, rfl, rfl⟩ := hend
          rw [e1] at e3; injection e3 with e3; subst e3
          obtain ⟨x, e6, e7⟩ := retP_results hT e2 r1 r2 e4 e5
          exact ⟨r1.defers, x, e6, x, ι1, rfl, e7, r2, r3⟩
        | exit id env1 =>
          rintro ⟨L', e1, e2⟩
          simp [cxOf] at e1
        | ret v1 =>
          rintro ⟨x, e1, e2⟩
          obtain ⟨rfl, rfl⟩ := hend
          exact ⟨r1.defers, x, e1, x, ι1, rfl, e2, r2, r3⟩
      split at hc
      · rename_i v1 h1 hex
        simp only [Option.some.injEq, Prod.mk.injEq] at hc
        obtain ⟨rfl, rfl⟩ := hc
        split at hcomp
        · cases hcomp
        · rename_i b' hcc
          injection hcomp with hcomp; subst hcomp
          exact hpost none b' _ h1 hex hcc ⟨rfl, rfl⟩
        · rename_i b' L hcc
          split at hcomp
          · rename_i rs hrs
            injection hcomp with hcomp; subst hcomp
            simp only [execD] at hex
            split at hex
            · rename_i env1 h2 he
              split at hex
              · rename_i vs hvs
                simp only [Option.some.injEq, Prod.mk.injEq, EX.ret.injEq] at hex
                obtain ⟨rfl, rfl⟩ := hex
                exact hpost (some L) b' _ h2 he hcc ⟨L, rs, vs, rfl, hrs, hvs, rfl, rfl⟩
              · cases hex
            · exact hpost (some L) b' _ h1 hex hcc ⟨rfl, rfl⟩
          · cases hcomp
      · cases hc
    · cases hcomp

noncomputable def codeB (FT : Tr FN) (n d np : Nat) (b : BC) (args : List V) (h : H) : R :=
  ifB (Nat.beq args.length np) (execF (callF FT n d) n b args h (fun _ _ => none) (fun _ _ _ => none) fun v h => some (v, h)) none
theorem codeB_ok {FT : Tr FN} (hT : TOK P T) (hmix : P.follows .mixedOrders = true) (hF : TrAll (FGood P T) FT id) {n d g np : Nat} {b : BC} (hG : FGood P T g (.code np b)) : PrimOK P g (codeB FT n d np b) := by
  intro args h v h' hf ι xs w hg hargs hh
  obtain ⟨_, fn, hint, hfn, hcomp⟩ := hG
  obtain ⟨h1, hf⟩ := ifB_some hf
  obtain ⟨ex, h2, h3, h4⟩ := execF_some (callF_some d) b args h _ _ _ _ hf
  have hlen : args.length = np := by simpa using h1
  cases ex with
  | nrm env' => cases h4
  | exit id env' => cases h4
  | ret v1 =>
    injection h4 with h4
    injection h4 with e1 e2
    subst e1; subst e2
    exact code_ok hT hmix (callD_ok hT hmix (FTOK.of_tree hF) d) (callD_enters (FTOK.of_tree hF) d) hfn hcomp hlen (by rw [h3]) hg hargs hh

end Go.Ev

/-! A run with a number that came in: the code is parted where the number is brought down to a few. -/
namespace Go.Ev
variable {P : Program}

def nest : List BC → BC → BC
  | [], x => x
  | a :: l, x => .seq a (nest l x)
def spine : Nat → BC → List BC × BC
  | n + 1, .seq a b => (a :: (spine n b).1, (spine n b).2)
  | _, b => ([], b)
theorem nest_spine : ∀ (n : Nat) (b : BC), nest (spine n b).1 (spine n b).2 = b
  | 0, b => rfl
  | n + 1, b => by
    cases b <;> first | rfl | skip
    rename_i a b
    exact congrArg (BC.seq a) (nest_spine n b)

def seqL : BC → BC
  | .seq a _ => a
  | b => b
def seqR : BC → BC
  | .seq _ b => b
  | b => b

theorem nest_run {call : CallF} {n : Nat} : ∀ {l : List BC} {x : BC} {env env' : List V} {h h' : H}, execD call n (nest l .skip) env h = some (.nrm env', h') → execD call n (nest l x) env h = execD call n x env' h'
  | [], x, env, env', h, h', hr => by
    simp only [nest, execD, Option.some.injEq, Prod.mk.injEq, EX.nrm.injEq] at hr
    rw [hr.1, hr.2]
    rfl
  | a :: l, x, env, env', h, h', hr => by
    simp only [nest, execD] at hr ⊢
    cases ha : execD call n a env h with
    | none => rw [ha] at hr; cases hr
    | some p =>
      obtain ⟨ex, h1⟩ := p
      rw [ha] at hr
      cases ex with
      | nrm env1 => exact nest_run (l := l) hr
      | exit id env1 => cases hr
      | ret v => cases hr

theorem runB_nil (call : CallF) (env : List V) (h : H) : runB call [] env h = some (env, h) := rfl

theorem runB_op (call : CallF) (r : RO) (l : List BS) (env : List V) (h : H) : runB call (.op r :: l) env h = match stepB call r env h with | none => none | some (env, h) => runB call l env h := rfl

/-- One operation's step. -/
theorem stepB_bin {call : CallF} {d : Nat} {op : BinOp} {x y : X} {env : List V} {h : H} {v : V} (hv : binV op (evX (tmE env) x) (evX (tmE env) y) = some v) :
    stepB call ⟨some d, none, .bin op x y⟩ env h = some (v :: env, h) := by
  have h1 : semAll call (AO.map (evX (tmE env)) (.bin op x y)) h = some (v, h) := by
    have : semAll call (AO.map (evX (tmE env)) (.bin op x y)) h = (semP (AO.map (evX (tmE env)) (.bin op x y))).map (·, h) := rfl
    rw [this]
    show (binV op (evX (tmE env) x) (evX (tmE env) y)).map (·, h) = _
    rw [hv]
    rfl
  simp only [stepB, guardA, h1, pushE]

/-- (x % c + c) % c, as Go has it. -/
def md (x c : Int) : Int := (x.tmod c + c).tmod c
theorem md_lt (x : Int) {c : Int} (hc : 0 < c) : 0 ≤ md x c ∧ md x c < c := by
  have h1 := Int.tmod_lt_of_pos x hc
  have h2 := Int.lt_tmod_of_pos x hc
  have h3 : 0 ≤ x.tmod c + c := by omega
  exact ⟨Int.tmod_nonneg _ h3, Int.tmod_lt_of_pos _ hc⟩
theorem wrap_mid {a : Int} (h1 : -1000000 < a) (h2 : a < 1000000) : IntKind.i64.wrap a = a := IntWalk.i64_in a (by omega)
theorem md_run {call : CallF} {d1 d2 d3 p : Nat} {x c : Int} {env : List V} {h : H} (hc : 0 < c) (hc2 : c < 1000) (hp : env[p]? = some (.i .i64 x)) :
    runB call [.op ⟨some d1, none, .bin .rem (.t p) (.k (.i .i64 c))⟩, .op ⟨some d2, none, .bin .add (.t 0) (.k (.i .i64 c))⟩, .op ⟨some d3, none, .bin .rem (.t 0) (.k (.i .i64 c))⟩] env h =
      some (.i .i64 (md x c) :: .i .i64 (x.tmod c + c) :: .i .i64 (x.tmod c) :: env, h) := by
  have h1 := Int.tmod_lt_of_pos x hc
  have h2 := Int.lt_tmod_of_pos x hc
  have hne : ¬ c = 0 := by omega
  have hx : tmE env p = .i .i64 x := tmE_get hp
  have e1 : binV .rem (evX (tmE env) (.t p)) (evX (tmE env) (.k (.i .i64 c))) = some (.i .i64 (x.tmod c)) := by
    simp only [evX, hx, binV, binI, if_true, hne, if_false]
  have e2 : binV .add (evX (tmE (.i .i64 (x.tmod c) :: env)) (.t 0)) (evX (tmE (.i .i64 (x.tmod c) :: env)) (.k (.i .i64 c))) = some (.i .i64 (x.tmod c + c)) := by
    have : tmE (.i .i64 (x.tmod c) :: env) 0 = .i .i64 (x.tmod c) := rfl
    simp only [evX, this, binV, binI, if_true]
    rw [wrap_mid (by omega) (by omega)]
  have e3 : binV .rem (evX (tmE (.i .i64 (x.tmod c + c) :: .i .i64 (x.tmod c) :: env)) (.t 0)) (evX (tmE (.i .i64 (x.tmod c + c) :: .i .i64 (x.tmod c) :: env)) (.k (.i .i64 c))) = some (.i .i64 (md x c)) := by
    have : tmE (.i .i64 (x.tmod c + c) :: .i .i64 (x.tmod c) :: env) 0 = .i .i64 (x.tmod c + c) := rfl
    simp only [evX, this, binV, binI, if_true, hne, if_false]
    rfl
  simp only [runB, stepB_bin e1, stepB_bin e2, stepB_bin e3]

theorem rem_step {call : CallF} {d : Nat} {x y : X} {env : List V} {h : H} {a c : Int} (hx : evX (tmE env) x = .i .i64 a) (hy : evX (tmE env) y = .i .i64 c) (hc : 0 < c) :
    ∃ r : Int, -c < r ∧ r < c ∧ (0 ≤ a → 0 ≤ r) ∧ stepB call ⟨some d, none, .bin .rem x y⟩ env h = some (.i .i64 r :: env, h) := by
  refine ⟨a.tmod c, Int.lt_tmod_of_pos a hc, Int.tmod_lt_of_pos a hc, fun h => Int.tmod_nonneg _ h, stepB_bin ?_⟩
  have hne : ¬ c = 0 := by omega
  rw [hx, hy]
  simp only [binV, binI, if_true, hne, if_false]
theorem add_step {call : CallF} {d : Nat} {x y : X} {env : List V} {h : H} {a b : Int} (hx : evX (tmE env) x = .i .i64 a) (hy : evX (tmE env) y = .i .i64 b) (h1 : -1000000 < a + b) (h2 : a + b < 1000000) :
    stepB call ⟨some d, none, .bin .add x y⟩ env h = some (.i .i64 (a + b) :: env, h) := by
  refine stepB_bin ?_
  rw [hx, hy]
  simp only [binV, binI, if_true]
  rw [wrap_mid h1 h2]
theorem sub_step {call : CallF} {d : Nat} {x y : X} {env : List V} {h : H} {a b : Int} (hx : evX (tmE env) x = .i .i64 a) (hy : evX (tmE env) y = .i .i64 b) (h1 : -1000000 < a - b) (h2 : a - b < 1000000) :
    stepB call ⟨some d, none, .bin .sub x y⟩ env h = some (.i .i64 (a - b) :: env, h) := by
  refine stepB_bin ?_
  rw [hx, hy]
  simp only [binV, binI, if_true]
  rw [wrap_mid h1 h2]
theorem same_end {call : CallF} {n : Nat} {b : BC} {env e1 e2 : List V} {h h1 h2 : H} (a : execD call n b env h = some (.nrm e1, h1)) (c : execD call n b env h = some (.nrm e2, h2)) : e1 = e2 ∧ h1 = h2 := by
  rw [a] at c
  injection c with c
  injection c with c d
  injection c with c
  exact ⟨c, d⟩

/-- The end of a run of a piece. -/
def kI (env : List V) (h : H) : R := some (.tu env, h)
noncomputable def kP (p : Nat) (env : List V) (_ : H) : R := getE p env fun v => some (v, ⟨0, .lf⟩)
def noE : Nat → KE := fun _ _ _ => none
def noR : V → H → R := fun _ _ => none
def noN : KE := fun _ _ => none

/-- The run of the code ahead: it ends at its end; what lies at a place. -/
theorem ahead_at {call : CallF} {ck : CallK} (hc : CSnd call ck) {n p : Nat} {b : BC} {env : List V} {h : H} {v : V}
    (hr : execF ck n b env h (kP p) noE noR = some (v, ⟨0, .lf⟩)) : ∃ env' h', execD call n b env h = some (.nrm env', h') ∧ env'[p]? = some v := by
  obtain ⟨ex, h', h1, h2⟩ := execF_some hc b env h _ _ _ _ hr
  cases ex with
  | nrm env' =>
    obtain ⟨w, h3, h4⟩ := getE_some (n := p) (env := env') h2
    injection h4 with h4
    injection h4 with h4 _
    subst h4
    exact ⟨env', h', h1, h3⟩
  | exit id env' => cases h2
  | ret w => cases h2

/-- The run of the code ahead, then another piece's with some values more. -/
theorem ahead_then {call : CallF} {ck : CallK} (hc : CSnd call ck) {n : Nat} {b x : BC} {env : List V} {h : H} {vs : List V}
    (hr : isS (execF ck n b env h (fun env h => execF ck n x (vs ++ env) h noN noE kT) noE noR) = true) {env' : List V} {h' : H} (hb : execD call n b env h = some (.nrm env', h')) :
    ∃ h'', execD call n x (vs ++ env') h' = some (.ret (.b true), h'') := by
  obtain ⟨r, hr⟩ := isS_some hr
  obtain ⟨ex, h1, h2, h3⟩ := execF_some hc b env h _ _ _ _ hr
  rw [hb] at h2
  injection h2 with h2
  injection h2 with h2 h4
  subst h2; subst h4
  obtain ⟨ex2, h5, h6, h7⟩ := execF_some hc x _ _ _ _ _ _ h3
  cases ex2 with
  | nrm env2 => cases h7
  | exit id env2 => cases h7
  | ret w =>
    have := kT_some (h := h5) h7
    subst this
    exact ⟨h5, h6⟩

theorem callD_code {FT : Nat → Option FN} {n d g np : Nat} {b : BC} (hg : FT g = some (.code np b)) {args : List V} (hl : args.length = np) {h h' : H} {v : V} (hx : execD (callD FT n d) n b args h = some (.ret v, h')) :
    callD FT n (d + 1) g args h = some (v, h') := by
  simp only [callD, hg, hl, if_true, hx]

/-- What stands for a call, by a run in general. -/
theorem prim_of_callD {T : TT} {FT : Tr FN} (hT : TOK P T) (hmix : P.follows .mixedOrders = true) (hF : TrAll (FGood P T) FT id) {g : Nat} {f : List V → H → R}
    (hf : ∀ args h v h', f args h = some (v, h') → ∃ n d, callD (fun g => FT.get g) n d g args h = some (v, h')) : PrimOK P g f := by
  intro args h v h' hr ι xs w hg hargs hh
  obtain ⟨n, d, h1⟩ := hf args h v h' hr
  exact callD_ok hT hmix (FTOK.of_tree hF) d g args h v h' h1 ι xs w hg hargs hh

/-- What a run gives the row. -/
theorem calls_of_callD {T : TT} {FT : Tr FN} (hT : TOK P T) (hmix : P.follows .mixedOrders = true) (hF : TrAll (FGood P T) FT id) {n d g : Nat} {args : List V} {h h' : H}
    (hr : callD (fun g => FT.get g) n d g args h = some (.b true, h')) {ι : Iota} {xs : Array Value} {w : World} (hg : Globs P ι) (hargs : VRs ι args xs.toList) (hh : HRel ι h w) :
    Calls P g xs w fun e w' => e = .returned (.bool true) ∧ ∃ ι' h', HRel ι' h' w' ∧ Ext ι h w ι' h' w' := by
  refine (callD_ok hT hmix (FTOK.of_tree hF) d g args h _ h' hr ι xs w hg hargs hh).mono fun e w' ⟨x, ι', he, hv, h1, h2⟩ => ?_
  cases hv
  exact ⟨he, ι', h', h1, h2⟩

end Go.Ev

/-! Reasoning by hand over compiled code: rows that grow. -/
namespace Go.Ev

theorem loopD_one (body : List V → H → Option (EX × H)) (n : Nat) (env : List V) (h : H) : loopD body (n + 1) env h = match body env h with | some (.nrm e, h') => loopD body n e h' | r => r := rfl

/-- vs laid over cs from off on. -/
theorem layU_len : ∀ (vs cs : List V) (off : Nat), (layAt cs off vs).length = cs.length
  | [], _, _ => rfl
  | v :: vs, cs, off => by
    simp only [layAt]
    rw [layU_len vs]
    simp
theorem layU_get : ∀ (vs cs : List V) (off : Nat), off + vs.length ≤ cs.length → ∀ j, (layAt cs off vs)[j]? = if off ≤ j ∧ j < off + vs.length then vs[j - off]? else cs[j]?
  | [], cs, off, h, j => by
    have hn : ¬ (off ≤ j ∧ j < off + ([] : List V).length) := fun hh => by have := hh.2; simp at this; omega
    rw [if_neg hn]
    rfl
  | v :: vs, cs, off, h, j => by
    simp only [layAt]
    simp only [List.length_cons] at h
    rw [layU_get vs _ _ (by simp; omega)]
    by_cases h1 : off + 1 ≤ j ∧ j < off + 1 + vs.length
    · have h2 : off ≤ j ∧ j < off + (v :: vs).length := by simp; omega
      rw [if_pos h1, if_pos h2]
      have : j - off = (j - (off + 1)) + 1 := by omega
      rw [this]
      rfl
    · rw [if_neg h1]
      by_cases h3 : j = off
      · subst h3
        have h2 : j ≤ j ∧ j < j + (v :: vs).length := by simp
        rw [if_pos h2]
        have : j < cs.length := by omega
        simp [this]
      · have h2 : ¬ (off ≤ j ∧ j < off + (v :: vs).length) := by simp; omega
        rw [if_neg h2, List.getElem?_set_ne (by omega)]
/-- What is laid right behind the first cells: they grow by it. -/
theorem layAt_take {vs cs : List V} {off : Nat} (h : off + vs.length ≤ cs.length) : (layAt cs off vs).take (off + vs.length) = cs.take off ++ vs := by
  apply List.ext_getElem?
  intro j
  rw [List.getElem?_take]
  by_cases h1 : j < off + vs.length
  · rw [if_pos h1, layU_get vs cs off h]
    by_cases h2 : off ≤ j
    · rw [if_pos ⟨h2, h1⟩, List.getElem?_append_right (by simp; omega)]
      congr 1
      simp
      omega
    · rw [if_neg (by omega), List.getElem?_append_left (by simp; omega), List.getElem?_take, if_pos (by omega)]
  · rw [if_neg h1, List.getElem?_eq_none]
    simp
    omega

/-- A row of the function's own that grows by append: its block, its first cells. -/
structure AR (h : H) (v : V) (sz : Nat) (cells : List V) (B : Nat) : Prop where
  ex : ∃ len cap xf cs q, v = .sl B 0 len cap xf ∧ h.get B = some (.c cs 0 q) ∧ q % 4 < 2 ∧ (xf = 0 ∨ xf = sz) ∧ len ≤ cap ∧ cs.length = cap * sz ∧ cs.take (len * sz) = cells ∧ cells.length = len * sz

theorem AR.frame {h h' : H} {v : V} {sz : Nat} {cells : List V} {B : Nat} (a : AR h v sz cells B) (hg : h'.get B = h.get B) : AR h' v sz cells B := by
  obtain ⟨len, cap, xf, cs, q, h1, h2, h3⟩ := a.ex
  exact ⟨⟨len, cap, xf, cs, q, h1, hg.trans h2, h3⟩⟩

/-- One element appended. -/
theorem AR.app {h : H} {v : V} {sz tg bytes : Nat} {cells news : List V} {B Bn : Nat} (a : AR h v sz cells B) (hsz : 0 < sz) (hb : 0 < bytes) (hb2 : bytes ≤ 65536) (htg : tg % 4 = 0) (hlen : cells.length < 1000000)
    (hn : h.get Bn = some (.c news 0 0)) (hnl : news.length = sz) (hone : news.all V.one = true) (hB : B < h.nx) :
    ∃ v' h' B', semE (.app tg sz bytes v (.sl Bn 0 1 1 0)) h = some (v', h') ∧ AR h' v' sz (cells ++ news) B' ∧ (B' = B ∨ B' = h.nx) ∧ B' < h'.nx ∧ h.nx ≤ h'.nx ∧ ∀ j, j ≠ B → j < h.nx → h'.get j = h.get j := by
  obtain ⟨len, cap, xf, cs, q, rfl, hg, hq, hxf, hlc, hcs, htk, hcl⟩ := a.ex
  have hsrc : srcOf h sz (.sl Bn 0 1 1 0) = some (1, news) := by
    have ht : news.take sz = news := List.take_of_length_le (by omega)
    simp [srcOf, cellsAt, hn, hnl, ht]
  have hlen2 : len < 1000000 := by
    rw [hcl] at hlen
    have : len * 1 ≤ len * sz := Nat.mul_le_mul_left len hsz
    omega
  have c1 : ¬ (sz = 0 ∨ bytes = 0 ∨ 65536 < bytes ∨ tg % 4 ≠ 0) := by omega
  by_cases hfit : len + 1 ≤ cap
  · have hroom : len * sz + news.length ≤ cs.length := by
      rw [hnl, hcs]
      have := Nat.mul_le_mul_right sz hfit
      rw [Nat.add_mul, Nat.one_mul] at this
      exact this
    have hst : stAt h B (0 + len * sz) news = some (h.put B (some (.c (layAt cs (len * sz) news) 0 q))) := by
      have c2 : ¬ (2 ≤ q % 4 ∨ 0 + len * sz < 0 ∨ cs.length < 0 + len * sz + news.length ∨ (!(news.all V.one)) = true) := by
        rw [hone]
        simp
        omega
      cases news with
      | nil => simp at hnl; omega
      | cons v0 vs =>
        show (match h.get B with | some (.c cs fz q) => if 2 ≤ q % 4 ∨ 0 + len * sz < fz ∨ cs.length < 0 + len * sz + (v0 :: vs).length ∨ (!((v0 :: vs).all V.one)) = true then none else some (h.put B (some (.c (layAt cs (0 + len * sz) (v0 :: vs)) fz q))) | _ => none) = _
        rw [hg]
        simp only [if_neg c2]
        rw [Nat.zero_add]
    refine ⟨.sl B 0 (len + 1) cap xf, h.put B (some (.c (layAt cs (len * sz) news) 0 q)), B, ?_, ?_, .inl rfl, hB, Nat.le_refl _, ?_⟩
    · simp only [semE, hsrc, if_neg c1, if_pos hfit, hst, Option.map_some]
    · refine ⟨len + 1, cap, xf, layAt cs (len * sz) news, q, rfl, by rw [H.get_put, if_pos rfl], hq, hxf, hfit, by rw [layU_len, hcs], ?_, ?_⟩
      · have e : (len + 1) * sz = len * sz + news.length := by rw [hnl, Nat.add_mul, Nat.one_mul]
        rw [e, layAt_take hroom, htk]
      · rw [List.length_append, hcl, hnl, Nat.add_mul, Nat.one_mul]
    · intro j hj _
      rw [H.get_put, if_neg hj]
  · have hcap : cap = len := by omega
    subst hcap
    have c3 : ¬ 1073741824 < cap + 1 := by omega
    have hold : cellsAt h B 0 (cap * sz) = some cells := by
      unfold cellsAt
      rw [hg]
      have : 0 + cap * sz ≤ cs.length := by omega
      simp only [if_pos this, List.drop_zero, htk]
    rcases hxf with rfl | rfl
    · refine ⟨.sl h.nx 0 (cap + 1) (cap + 1) sz, h.new (.c (cells ++ news) 0 tg), h.nx, ?_, ?_, .inr rfl, by simp, by simp, ?_⟩
      · simp only [semE, hsrc, if_neg c1, if_neg hfit, if_neg c3, hold, if_true]
      · refine ⟨cap + 1, cap + 1, sz, cells ++ news, tg, rfl, by rw [H.get_new, if_pos rfl], by omega, .inr rfl, Nat.le_refl _, ?_, ?_, ?_⟩
        · rw [List.length_append, hcl, hnl, Nat.add_mul, Nat.one_mul]
        · apply List.take_of_length_le
          rw [List.length_append, hcl, hnl, Nat.add_mul, Nat.one_mul]
          omega
        · rw [List.length_append, hcl, hnl, Nat.add_mul, Nat.one_mul]
      · intro j _ hj
        rw [H.get_new, if_neg (by omega)]
    · have c4 : ¬ xf = 0 := by omega
      have c5 : ¬ (2 ≤ q % 4 ∨ 0 + cap * xf < 0) := by omega
      refine ⟨.sl h.nx 0 (cap + 1) (cap + 1) xf, (h.put B none).new (.c (cells ++ news) (0 - 0) (regrowQ tg q 0)), h.nx, ?_, ?_, .inr rfl, by simp, by simp, ?_⟩
      · simp only [semE, hsrc, if_neg c1, if_neg hfit, if_neg c3, hold, if_neg c4, if_true, hg, if_neg c5]
      · refine ⟨cap + 1, cap + 1, xf, cells ++ news, regrowQ tg q 0, rfl, ?_, ?_, .inr rfl, Nat.le_refl _, ?_, ?_, ?_⟩
        · rw [H.get_new]
          exact if_pos rfl
        · unfold regrowQ
          split <;> omega
        · rw [List.length_append, hcl, hnl, Nat.add_mul, Nat.one_mul]
        · apply List.take_of_length_le
          rw [List.length_append, hcl, hnl, Nat.add_mul, Nat.one_mul]
          omega
        · rw [List.length_append, hcl, hnl, Nat.add_mul, Nat.one_mul]
      · intro j hj hjn
        rw [H.get_new]
        rw [if_neg (by simp; omega), H.get_put, if_neg hj]

end Go.Ev

/-! Arguments that are slices: what of their rows stands in the first heap. -/
namespace Go.Ev
open Go.ChangeShapes Go.WideShapes Go.Deep
variable {P : Program}

def Iota.put (ι : Iota) (B : Nat) (e : Loc) : Iota := fun j => if j = B then some e else ι j
theorem Iota.le_put {ι : Iota} {h : H} {w : World} (hh : HRel ι h w) (e : Loc) : ι.le (ι.put h.nx e) := by
  intro B e' he
  have hB := hh.lt B e' he
  unfold Iota.put
  rw [if_neg (by omega)]
  exact he
/-- No block of the call's own yet. -/
def NoOwn (h : H) : Prop := ∀ B b, h.get B = some b → b.own = true → False

theorem HRel.name {ι : Iota} {h : H} {w : World} (hh : HRel ι h w) (e : Loc) : HRel (ι.put h.nx e) ⟨h.nx + 1, h.t⟩ w where
  br B b e' hb he := by
    have hB : B < h.nx := hh.dom B b hb
    have h1 : ι B = some e' := by
      unfold Iota.put at he
      rwa [if_neg (by omega)] at he
    exact (hh.br B b e' hb h1).mono (Iota.le_put hh e) rfl
  inj B B' b b' e1 e2 hne hb hb' he he' ho := by
    have hB : B < h.nx := hh.dom B b hb
    have hB' : B' < h.nx := hh.dom B' b' hb'
    unfold Iota.put at he he'
    rw [if_neg (by omega)] at he he'
    exact hh.inj B B' b b' e1 e2 hne hb hb' he he' ho
  lt B e' he := by
    show B < h.nx + 1
    unfold Iota.put at he
    split at he
    · omega
    · have := hh.lt B e' he
      omega
  dom B b hb := by
    have : B < h.nx := hh.dom B b hb
    show B < h.nx + 1
    omega
theorem HRel.arg {ι : Iota} {h : H} {w : World} (hh : HRel ι h w) (hno : NoOwn h) {cs : List V} {e : Loc} (hb : BR (ι.put h.nx e) e w (.c cs 0 2)) : HRel (ι.put h.nx e) (h.new (.c cs 0 2)) w where
  br B b e' hg he := by
    rw [H.get_new] at hg
    by_cases hB : B = h.nx
    · rw [if_pos hB] at hg
      injection hg with hg
      subst hg
      unfold Iota.put at he
      rw [if_pos hB] at he
      injection he with he
      subst he
      exact hb
    · rw [if_neg hB] at hg
      unfold Iota.put at he
      rw [if_neg hB] at he
      exact (hh.br B b e' hg he).mono (Iota.le_put hh e) rfl
  inj B B' b b' e1 e2 hne hg hg' he he' ho := by
    rw [H.get_new] at hg
    split at hg
    · injection hg with hg
      subst hg
      simp [Blk.own] at ho
    · exact (hno B b hg ho).elim
  lt B e' he := by
    show B < h.nx + 1
    unfold Iota.put at he
    split at he
    · omega
    · have := hh.lt B e' he
      omega
  dom B b hg := by
    show B < h.nx + 1
    rw [H.get_new] at hg
    split at hg
    · omega
    · have := hh.dom B b hg
      omega
theorem NoOwn.new {h : H} (hno : NoOwn h) (cs : List V) : NoOwn (h.new (.c cs 0 2)) := by
  intro B b hg ho
  rw [H.get_new] at hg
  split at hg
  · injection hg with hg
    subst hg
    simp [Blk.own] at ho
  · exact hno B b hg ho
theorem Globs.le {ι ι' : Iota} (hg : Globs P ι) (hl : ι.le ι') : Globs P ι' := fun g h => let ⟨e, he⟩ := hg g h; ⟨e, hl _ _ he⟩

/-- A slice that is read alone: its cells, sz of an element. -/
def ArgS (h : H) (sz : Nat) (v : V) (cells : List V) : Prop :=
  (v = .sn ∧ cells = []) ∨ ∃ B len cap, v = .sl B 0 len cap 0 ∧ cells.length = len * sz ∧ len ≤ cap ∧ B < h.nx ∧ (cells = [] ∨ h.get B = some (.c cells 0 2))
theorem ArgS.ext {h h' : H} {sz : Nat} {v : V} {cells : List V} (a : ArgS h sz v cells) (hn : h.nx ≤ h'.nx) (hg : ∀ j, j < h.nx → h'.get j = h.get j) : ArgS h' sz v cells := by
  rcases a with a | ⟨B, len, cap, h1, h2, h3, h4, h5⟩
  · exact .inl a
  · refine .inr ⟨B, len, cap, h1, h2, h3, by omega, ?_⟩
    rcases h5 with h5 | h5
    · exact .inl h5
    · exact .inr (by rw [hg B h4]; exact h5)

theorem flatL_len {K : Nat} : ∀ (xs : List (List V)), (∀ x ∈ xs, x.length = K) → xs.flatten.length = xs.length * K
  | [], _ => by simp
  | x :: xs, h => by
    have h1 := h x (List.mem_cons_self ..)
    have h2 := flatL_len xs fun y hy => h y (List.mem_cons_of_mem _ hy)
    rw [List.flatten_cons, List.length_append, h1, h2, List.length_cons, Nat.add_mul, Nat.one_mul, Nat.add_comm]
theorem flatL_get {K : Nat} : ∀ (xs : List (List V)), (∀ x ∈ xs, x.length = K) → ∀ (j : Nat) (v : V), xs.flatten[j]? = some v → ∃ i r x, xs[i]? = some x ∧ x[r]? = some v ∧ j = i * K + r
  | [], _, j, v, hj => by simp at hj
  | x :: xs, h, j, v, hj => by
    have h1 := h x (List.mem_cons_self ..)
    rw [List.flatten_cons] at hj
    by_cases hjx : j < x.length
    · rw [List.getElem?_append_left hjx] at hj
      exact ⟨0, j, x, rfl, hj, by omega⟩
    · rw [List.getElem?_append_right (by omega)] at hj
      obtain ⟨i, r, y, h2, h3, h4⟩ := flatL_get xs (fun y hy => h y (List.mem_cons_of_mem _ hy)) _ v hj
      refine ⟨i + 1, r, y, by simpa using h2, h3, ?_⟩
      rw [Nat.add_mul, Nat.one_mul]
      omega

section
variable {H' : Type} {enc : TypeId × Value → H'} {W : World}
/-- An argument that is a slice: its value, its cells in the first heap. Q: what is known of an element's cells. -/
theorem arg_slice {ι : Iota} {h : H} (hh : HRel ι h W) (hno : NoOwn h) {t e : TypeId} (ht : P.underlying t = some (.slice e)) {K base : Nat} (hc : P.cellsOf e = K) (hK : 0 < K) {Q : List V → Prop}
    (hel : ∀ n cs x, DataW.trod enc P W 0 (fun _ => true) true n e cs = some x → ∃ vs, (∀ ι, VRs ι vs cs) ∧ (∀ v ∈ vs, v.one = true) ∧ Q vs)
    {v : Value} {d : DataW H'} {ps : List MemPlace} (hval : Value.okWide P W .any base t v) (hd : DataW.Trod enc P W 0 (fun _ => true) true t v d ps) :
    ∃ (a : V) (xs : List (List V)) (ι' : Iota) (h' : H), VR ι' a v ∧ ι.le ι' ∧ HRel ι' h' W ∧ NoOwn h' ∧ ArgS h' K a xs.flatten ∧ (∀ x ∈ xs, Q x ∧ x.length = K) ∧ (∀ j, j < h.nx → h'.get j = h.get j) ∧ h.nx ≤ h'.nx ∧ h'.nx ≤ h.nx + 1 := by
  obtain ⟨fuel, hf⟩ := hd
  have hv := okWide_slice ht hval
  obtain ⟨a0, len0, cap0, rfl⟩ := hv
  have hv' := hval
  simp only [Value.okWide, ht, Cell.okWide] at hv'
  rcases open_slice ht hf with ⟨hcs, _⟩ | ⟨a, len, cap, m, n, D, Pl, hcs, hb, hl, hm, hmm, _, hx⟩
  · simp only [Value.cells, List.cons.injEq, and_true, Value.slice.injEq] at hcs
    obtain ⟨rfl, rfl, rfl⟩ := hcs
    exact ⟨.sn, [], ι, h, .sn, Iota.le_refl _, hh, hno, .inl ⟨rfl, rfl⟩, by simp, fun _ _ => rfl, Nat.le_refl _, by omega⟩
  · simp only [Value.cells, List.cons.injEq, and_true, Value.slice.injEq] at hcs
    obtain ⟨rfl, rfl, rfl⟩ := hcs
    have hsp : a.spot = none := by
      simp only [Cell.ok, ht] at hv'
      exact hv'.2.2.2.1
    obtain ⟨b, off, sp⟩ := a
    simp only at hsp
    subst hsp
    simp only [if_true] at hmm
    subst hmm
    by_cases hl0 : len0 = 0
    · subst hl0
      refine ⟨.sl h.nx 0 0 m 0, [], ι.put h.nx ⟨b, off, off⟩, ⟨h.nx + 1, h.t⟩, ?_, Iota.le_put hh _, hh.name _, fun B b hg => hno B b hg, .inr ⟨h.nx, 0, m, rfl, by simp, by omega, by simp, .inl rfl⟩, by simp, fun _ _ => rfl, by simp, Nat.le_refl _⟩
      exact VR.sx h.nx 0 0 m ⟨b, off, off⟩ (by unfold Iota.put; rw [if_pos rfl]) (by omega)
    · have key : ∀ i, i < len0 → ∃ vs : List V, vs.length = K ∧ (∀ v ∈ vs, v.one = true) ∧ Q vs ∧ ∀ r v, vs[r]? = some v → ∃ x, W.cell? ⟨b, off + (i * K + r), none⟩ = some x ∧ ∀ ι, VR ι v x := by
        intro i hi
        obtain ⟨cs', h1, h2⟩ := hx i (by omega)
        rw [hc] at h1
        obtain ⟨_, h3, h4⟩ := World.cells?_some h1
        obtain ⟨vs, h5, h6, h7⟩ := hel _ _ _ h2
        have h8 : vs.length = cs'.length := (h5 (fun _ => none)).length
        refine ⟨vs, by omega, h6, h7, fun r v hr => ?_⟩
        have hrl : r < vs.length := (List.getElem?_eq_some_iff.1 hr).1
        have h9 := h4 r (by omega)
        have h10 : r < cs'.length := by omega
        refine ⟨cs'[r], ?_, fun ι => ?_⟩
        · rw [add_plain, add_plain, List.getElem?_eq_getElem h10] at h9
          rw [← h9, Nat.add_assoc]
        · obtain ⟨x, h11, h12⟩ := (h5 ι).get r v hr
          rw [List.getElem?_eq_getElem h10] at h11
          injection h11 with h11
          rw [h11]
          exact h12
      obtain ⟨f, hfk⟩ := choose_lt (α := List V) key
      let xs := (List.range len0).map f
      have hxl : xs.length = len0 := by simp [xs]
      have hxK : ∀ x ∈ xs, x.length = K := by
        intro x hxm
        obtain ⟨i, hi, rfl⟩ := List.mem_map.1 hxm
        exact (hfk i (List.mem_range.1 hi)).1
      have hfl : xs.flatten.length = len0 * K := by rw [flatL_len xs hxK, hxl]
      -- the real block
      have hlast : ∀ j, j < len0 * K → ∃ v x, xs.flatten[j]? = some v ∧ W.cell? ⟨b, off + j, none⟩ = some x ∧ ∀ ι, VR ι v x := by
        intro j hj
        have hj' : j < xs.flatten.length := by omega
        obtain ⟨i, r, x, g1, g2, g3⟩ := flatL_get xs hxK j _ (List.getElem?_eq_getElem hj')
        have hi : i < len0 := by
          have := (List.getElem?_eq_some_iff.1 g1).1
          omega
        have hxe : x = f i := by
          simp only [xs, List.getElem?_map, List.getElem?_range hi, Option.map_some, Option.some.injEq] at g1
          exact g1.symm
        subst hxe
        obtain ⟨y, k1, k2⟩ := (hfk i hi).2.2.2 r _ g2
        exact ⟨_, y, List.getElem?_eq_getElem hj', by rw [g3]; exact k1, k2⟩
      have hpos : 0 < len0 * K := Nat.mul_pos (by omega) hK
      have hblk : ∃ c el fr, W.heap[b]? = some (.cells c el fr) := by
        obtain ⟨v, x, _, g2, _⟩ := hlast 0 hpos
        unfold World.cell? at g2
        split at g2
        · rename_i c el fr hw
          exact ⟨c, el, fr, hw⟩
        · cases g2
      obtain ⟨c, el, fr, hw⟩ := hblk
      have hcell : ∀ j, j < len0 * K → ∃ v x, xs.flatten[j]? = some v ∧ c[off + j]? = some x ∧ ∀ ι, VR ι v x := by
        intro j hj
        obtain ⟨v, x, g1, g2, g3⟩ := hlast j hj
        refine ⟨v, x, g1, ?_, g3⟩
        unfold World.cell? at g2
        simp only [hw] at g2
        simpa using g2
      have hsz : off + len0 * K ≤ c.size := by
        obtain ⟨v, x, _, g2, _⟩ := hcell (len0 * K - 1) (by omega)
        have := (Array.getElem?_eq_some_iff.1 g2).1
        omega
      have hone : ∀ v ∈ xs.flatten, v.one = true := by
        intro v hv
        obtain ⟨x, hx1, hx2⟩ := List.mem_flatten.1 hv
        obtain ⟨i, hi, rfl⟩ := List.mem_map.1 hx1
        exact (hfk i (List.mem_range.1 hi)).2.1 v hx2
      have hbr : BR (ι.put h.nx ⟨b, off, off + len0 * K⟩) ⟨b, off, off + len0 * K⟩ W (.c xs.flatten 0 2) := by
        refine ⟨c, el, fr, hw, fun j v hj => ?_, hone, by rw [hfl]; exact Nat.le_refl _, hsz, .inl rfl, trivial⟩
        have hjl := (List.getElem?_eq_some_iff.1 hj).1
        obtain ⟨v', x, g1, g2, g3⟩ := hcell j (by omega)
        rw [hj] at g1
        injection g1 with g1
        subst g1
        exact ⟨x, g2, g3 _⟩
      refine ⟨.sl h.nx 0 len0 m 0, xs, ι.put h.nx ⟨b, off, off + len0 * K⟩, h.new (.c xs.flatten 0 2), ?_, Iota.le_put hh _, hh.arg hno hbr, hno.new _, .inr ⟨h.nx, len0, m, rfl, hfl, hl, by simp, .inr ?_⟩, ?_, fun j hj => ?_, by simp, by simp⟩
      · exact VR.sx h.nx 0 len0 m ⟨b, off, off + len0 * K⟩ (by unfold Iota.put; rw [if_pos rfl]) hl
      · rw [H.get_new, if_pos rfl]
      · intro x hxm
        refine ⟨?_, hxK x hxm⟩
        obtain ⟨i, hi, rfl⟩ := List.mem_map.1 hxm
        exact (hfk i (List.mem_range.1 hi)).2.2.1
      · rw [H.get_new, if_neg (by omega)]
theorem el_int {e : TypeId} {k : IntKind} (he : P.underlying e = some (.int k)) {base : Nat} {sp : Nat → Bool} {held : Bool} (n : Nat) (cs : List Value) (x : DataW H' × List MemPlace) (hx : DataW.trod enc P W base sp held n e cs = some x) :
    ∃ vs, (∀ ι, VRs ι vs cs) ∧ (∀ v ∈ vs, v.one = true) ∧ ∃ z, vs = [.i k z] ∧ k.has z := by
  obtain ⟨z, rfl, _, hz⟩ := DataW.trod_int he hx
  refine ⟨[.i k z], fun ι => .cons _ _ _ _ (.i _ _) .nil, by simp [V.one], z, rfl, ?_⟩
  simpa [Lit.wf, IntKind.has] using hz
theorem el_string {e : TypeId} (he : P.underlying e = some .string) {base : Nat} {sp : Nat → Bool} {held : Bool} (n : Nat) (cs : List Value) (x : DataW H' × List MemPlace) (hx : DataW.trod enc P W base sp held n e cs = some x) :
    ∃ vs, (∀ ι, VRs ι vs cs) ∧ (∀ v ∈ vs, v.one = true) ∧ ∃ l, vs = [.s l] := by
  obtain ⟨s, rfl, _, _⟩ := DataW.trod_string he hx
  exact ⟨[.s (s.data.toList.map UInt8.toNat)], fun ι => .cons _ _ _ _ (.s _ _ rfl) .nil, by simp [V.one], _, rfl⟩
theorem el_bool {e : TypeId} (he : P.underlying e = some .bool) {base : Nat} {sp : Nat → Bool} {held : Bool} (n : Nat) (cs : List Value) (x : DataW H' × List MemPlace) (hx : DataW.trod enc P W base sp held n e cs = some x) :
    ∃ vs, (∀ ι, VRs ι vs cs) ∧ (∀ v ∈ vs, v.one = true) ∧ ∃ b, vs = [.b b] := by
  obtain ⟨b, rfl, _⟩ := DataW.trod_bool he hx
  exact ⟨[.b b], fun ι => .cons _ _ _ _ (.b _) .nil, by simp [V.one], _, rfl⟩
/-- The arguments read behind the call as they did. -/
theorem trodAll_stays {W' : World} {sp : Nat → Bool} (hl : laidOutB P = true) : ∀ {ts : List TypeId} {vs : List Value} {ds : List (DataW H')} {ps : List MemPlace}, (∀ t ∈ ts, P.readableRec t = true ∧ t < P.types.size) →
    DataW.TrodAll enc P W 0 (fun _ => true) true ts vs ds ps → (∀ p ∈ ps, W.sameAt W' p) → (∀ p ∈ ps, sp p.block = true) → DataW.TrodAll enc P W' 0 sp true ts vs ds ps
  | [], [], [], _, _, h, _, _ => h
  | _ :: _, _ :: _, _ :: _, _, hT, ⟨p, q, h1, h2, e⟩, hs, hp => ⟨p, q, WideElems.Trod_stays hl (hT _ (List.mem_cons_self ..)).1 (hT _ (List.mem_cons_self ..)).2 h1 (fun x hx => hs x (by rw [e]; exact List.mem_append_left _ hx)) (fun x hx => hp x (by rw [e]; exact List.mem_append_left _ hx)),
      trodAll_stays hl (fun t ht => hT t (List.mem_cons_of_mem _ ht)) h2 (fun x hx => hs x (by rw [e]; exact List.mem_append_right _ hx)) (fun x hx => hp x (by rw [e]; exact List.mem_append_right _ hx)), e⟩
end
theorem Ext.same {ι ι' : Iota} {h h' : H} {w w' : World} (hE : Ext ι h w ι' h' w') (hno : NoOwn h) {p : MemPlace} (hp : p.block < w.heap.size) : w.sameAt w' p := by
  have e := hE.frame p.block hp fun B b _ hb ho _ => (hno B b hb ho).elim
  cases p with
  | cell b o => exact World.cell?_of_block (w := w) e
  | map b => exact e
theorem hasAll_ext {h h' : H} : ∀ {l : List (Nat × Blk)}, hasAll h l = true → (∀ p ∈ l, h'.get p.1 = h.get p.1) → hasAll h' l = true
  | [], _, _ => rfl
  | (B, b) :: r, ha, hg => by
    have h1 := hg (B, b) (List.mem_cons_self ..)
    simp only at h1
    simp only [hasAll] at ha ⊢
    rw [h1]
    cases hb : h.get B with
    | none => rw [hb] at ha; exact absurd ha (by simp)
    | some x =>
      rw [hb] at ha
      simp only [Bool.and_eq_true] at ha ⊢
      exact ⟨ha.1, hasAll_ext ha.2 fun p hp => hg p (List.mem_cons_of_mem _ hp)⟩
theorem flat_ints {k : IntKind} : ∀ {xs : List (List V)}, (∀ x ∈ xs, (∃ z, x = [.i k z] ∧ k.has z) ∧ x.length = 1) → ∃ zs : List Int, xs.flatten = (zs.map fun z => V.i k z) ∧ ∀ z ∈ zs, k.has z
  | [], _ => ⟨[], rfl, by simp⟩
  | x :: xs, h => by
    obtain ⟨⟨z, rfl, hz⟩, _⟩ := h x (List.mem_cons_self ..)
    obtain ⟨zs, h1, h2⟩ := flat_ints fun y hy => h y (List.mem_cons_of_mem _ hy)
    refine ⟨z :: zs, by rw [List.flatten_cons, h1]; rfl, fun y hy => ?_⟩
    rcases List.mem_cons.1 hy with rfl | hy
    · exact hz
    · exact h2 y hy
theorem flat_strings : ∀ {xs : List (List V)}, (∀ x ∈ xs, (∃ l, x = [.s l]) ∧ x.length = 1) → ∃ ss : List (List Nat), xs.flatten = ss.map V.s
  | [], _ => ⟨[], rfl⟩
  | x :: xs, h => by
    obtain ⟨⟨l, rfl⟩, _⟩ := h x (List.mem_cons_self ..)
    obtain ⟨ss, h1⟩ := flat_strings fun y hy => h y (List.mem_cons_of_mem _ hy)
    exact ⟨l :: ss, by rw [List.flatten_cons, h1]; rfl⟩
theorem flat_bools : ∀ {xs : List (List V)}, (∀ x ∈ xs, (∃ b, x = [.b b]) ∧ x.length = 1) → ∃ bs : List Bool, xs.flatten = bs.map V.b
  | [], _ => ⟨[], rfl⟩
  | x :: xs, h => by
    obtain ⟨⟨l, rfl⟩, _⟩ := h x (List.mem_cons_self ..)
    obtain ⟨ss, h1⟩ := flat_bools fun y hy => h y (List.mem_cons_of_mem _ hy)
    exact ⟨l :: ss, by rw [List.flatten_cons, h1]; rfl⟩
/-- A closed run's answer, wherever its blocks are. -/
theorem primQ_at {la : List (Nat × Blk)} {NA : Nat} {v : V} {h : H} (hx : h.nx ≤ NA) (ha : hasAll h la = true) : primQ [] la NA v [] h = some (v, h) := by
  have h1 : Nat.ble h.nx NA = true := by rw [Nat.ble_eq]; exact hx
  unfold primQ
  rw [h1, ha]
  rfl
theorem orF_left {f g : List V → H → R} {args : List V} {h : H} {r : V × H} (hf : f args h = some r) : orF f g args h = some r := by
  unfold orF
  rw [hf]
end Go.Ev

/-! A call known by a run of its own over a few blocks, wherever these blocks lie, whatever else there is. -/
namespace Go.Ev
variable {P : Program}

mutual
/-- Names turned. -/
def rnV (σ : Nat → Nat) : V → V
  | .p B o => .p (σ B) o
  | .sl B o l c x => .sl (σ B) o l c x
  | .m B => .m (σ B)
  | .f g a b => .f g (rnVs σ a) (rnVs σ b)
  | .ic t v => .ic t (rnV σ v)
  | .ag cs => .ag (rnVs σ cs)
  | .tu cs => .tu (rnVs σ cs)
  | v => v
def rnVs (σ : Nat → Nat) : List V → List V
  | [] => []
  | v :: vs => rnV σ v :: rnVs σ vs
end
theorem rnVs_map (σ : Nat → Nat) : ∀ l : List V, rnVs σ l = l.map (rnV σ)
  | [] => rfl
  | v :: l => by simp only [rnVs, List.map_cons, rnVs_map σ l]
theorem rnV_one (σ : Nat → Nat) (v : V) : (rnV σ v).one = v.one := by cases v <;> rfl
mutual
/-- The names in a value. -/
def nsV : V → List Nat
  | .p B _ => [B]
  | .sl B _ _ _ _ => [B]
  | .m B => [B]
  | .f _ a b => nsVs a ++ nsVs b
  | .ic _ v => nsV v
  | .ag cs => nsVs cs
  | .tu cs => nsVs cs
  | _ => []
def nsVs : List V → List Nat
  | [] => []
  | v :: vs => nsV v ++ nsVs vs
end
theorem nsVs_mem {v : V} {B : Nat} : ∀ {l : List V}, v ∈ l → B ∈ nsV v → B ∈ nsVs l
  | [], h, _ => by cases h
  | x :: l, h, hB => by
    simp only [nsVs, List.mem_append]
    rcases List.mem_cons.1 h with e | h
    · subst e
      exact .inl hB
    · exact .inr (nsVs_mem h hB)
mutual
theorem rn_congr {σ σ' : Nat → Nat} : ∀ {v : V}, (∀ B ∈ nsV v, σ B = σ' B) → rnV σ v = rnV σ' v
  | .b _, _ => rfl
  | .i _ _, _ => rfl
  | .s _, _ => rfl
  | .p B o, h => by simp only [rnV]; rw [h B (by simp [nsV])]
  | .pn, _ => rfl
  | .sl B o l c x, h => by simp only [rnV]; rw [h B (by simp [nsV])]
  | .sn, _ => rfl
  | .m B, h => by simp only [rnV]; rw [h B (by simp [nsV])]
  | .mn, _ => rfl
  | .f g a b, h => by
    simp only [rnV]
    rw [rns_congr (v := a) fun B hB => h B (by simp [nsV, hB]), rns_congr (v := b) fun B hB => h B (by simp [nsV, hB])]
  | .fn, _ => rfl
  | .ic t v, h => by
    simp only [rnV]
    rw [rn_congr (v := v) fun B hB => h B (by simp [nsV, hB])]
  | .inn, _ => rfl
  | .ag cs, h => by
    simp only [rnV]
    rw [rns_congr (v := cs) fun B hB => h B (by simp [nsV, hB])]
  | .tu cs, h => by
    simp only [rnV]
    rw [rns_congr (v := cs) fun B hB => h B (by simp [nsV, hB])]
  | .u, _ => rfl
theorem rns_congr {σ σ' : Nat → Nat} : ∀ {v : List V}, (∀ B ∈ nsVs v, σ B = σ' B) → rnVs σ v = rnVs σ' v
  | [], _ => rfl
  | v :: vs, h => by
    simp only [rnVs]
    rw [rn_congr (v := v) fun B hB => h B (by simp [nsVs, hB]), rns_congr (v := vs) fun B hB => h B (by simp [nsVs, hB])]
end
mutual
theorem rn_agree {σ σ' : Nat → Nat} : ∀ {v : V}, rnV σ v = rnV σ' v → ∀ B ∈ nsV v, σ B = σ' B
  | .b _, _, B, hB => by simp [nsV] at hB
  | .i _ _, _, B, hB => by simp [nsV] at hB
  | .s _, _, B, hB => by simp [nsV] at hB
  | .p B0 o, h, B, hB => by
    simp only [nsV, List.mem_singleton] at hB
    simp only [rnV, V.p.injEq] at h
    rw [hB]; exact h.1
  | .pn, _, B, hB => by simp [nsV] at hB
  | .sl B0 o l c x, h, B, hB => by
    simp only [nsV, List.mem_singleton] at hB
    simp only [rnV, V.sl.injEq] at h
    rw [hB]; exact h.1
  | .sn, _, B, hB => by simp [nsV] at hB
  | .m B0, h, B, hB => by
    simp only [nsV, List.mem_singleton] at hB
    simp only [rnV, V.m.injEq] at h
    rw [hB]; exact h
  | .mn, _, B, hB => by simp [nsV] at hB
  | .f g a b, h, B, hB => by
    simp only [nsV, List.mem_append] at hB
    simp only [rnV, V.f.injEq] at h
    rcases hB with hB | hB
    · exact rns_agree h.2.1 B hB
    · exact rns_agree h.2.2 B hB
  | .fn, _, B, hB => by simp [nsV] at hB
  | .ic t v, h, B, hB => by
    simp only [nsV] at hB
    simp only [rnV, V.ic.injEq] at h
    exact rn_agree h.2 B hB
  | .inn, _, B, hB => by simp [nsV] at hB
  | .ag cs, h, B, hB => by
    simp only [nsV] at hB
    simp only [rnV, V.ag.injEq] at h
    exact rns_agree h B hB
  | .tu cs, h, B, hB => by
    simp only [nsV] at hB
    simp only [rnV, V.tu.injEq] at h
    exact rns_agree h B hB
  | .u, _, B, hB => by simp [nsV] at hB
theorem rns_agree {σ σ' : Nat → Nat} : ∀ {v : List V}, rnVs σ v = rnVs σ' v → ∀ B ∈ nsVs v, σ B = σ' B
  | [], _, B, hB => by simp [nsVs] at hB
  | v :: vs, h, B, hB => by
    simp only [nsVs, List.mem_append] at hB
    simp only [rnVs, List.cons.injEq] at h
    rcases hB with hB | hB
    · exact rn_agree h.1 B hB
    · exact rns_agree h.2 B hB
end

section
variable {ι' ι2 : Iota} {σ : Nat → Nat}
mutual
theorem VR_rn (hs : ∀ B e, ι' B = some e → ι2 (σ B) = some e) : ∀ {v : V} {x : Value}, VR ι' v x → VR ι2 (rnV σ v) x
  | _, _, .b x => .b x
  | _, _, .i k n => .i k n
  | _, _, .s x l e => .s x l e
  | _, _, .p B o e he => .p _ o e (hs _ _ he)
  | _, _, .pn => .pn
  | _, _, .sx B o len cap e he hl => .sx _ o len cap e (hs _ _ he) hl
  | _, _, .si B o len cap x cap' off e he h1 h2 h3 h4 => .si _ o len cap x cap' off e (hs _ _ he) h1 h2 h3 h4
  | _, _, .sn => .sn
  | _, _, .m B e he => .m _ e (hs _ _ he)
  | _, _, .mn => .mn
  | _, _, .f g fst cap xs ys h1 h2 => .f g _ _ xs ys (VRs_rn hs h1) (VRs_rn hs h2)
  | _, _, .fn => .fn
  | _, _, .ic t v x hv => .ic t _ x (VR_rn hs hv)
  | _, _, .inn => .inn
  | _, _, .ag cs xs h => .ag _ xs (VRs_rn hs h)
  | _, _, .tu cs xs h => .tu _ xs (VRs_rn hs h)
  | _, _, .u x hx => .u x hx
theorem VRs_rn (hs : ∀ B e, ι' B = some e → ι2 (σ B) = some e) : ∀ {vs : List V} {xs : List Value}, VRs ι' vs xs → VRs ι2 (rnVs σ vs) xs
  | _, _, .nil => .nil
  | _, _, .cons v x vs xs hv h => .cons _ x _ xs (VR_rn hs hv) (VRs_rn hs h)
end
mutual
theorem VR_nr : ∀ {v : V} {x : Value}, (∀ B ∈ nsV v, ∀ e, ι2 (σ B) = some e → ι' B = some e) → VR ι2 (rnV σ v) x → VR ι' v x
  | .b _, _, _, h => by cases h; exact .b _
  | .i _ _, _, _, h => by cases h; exact .i _ _
  | .s l0, _, _, h => by
    simp only [rnV] at h
    cases h
    rename_i e
    exact .s _ l0 e
  | .p B o, _, hs, h => by cases h with | p B o e he => exact .p _ o e (hs _ (by simp [nsV]) _ he)
  | .pn, _, _, h => by cases h; exact .pn
  | .sl B o l c x, _, hs, h => by
    cases h with
    | sx B o len cap e he hl => exact .sx _ o _ _ e (hs _ (by simp [nsV]) _ he) hl
    | si B o len cap x cap' off e he h1 h2 h3 h4 => exact .si _ o _ _ _ cap' off e (hs _ (by simp [nsV]) _ he) h1 h2 h3 h4
  | .sn, _, _, h => by cases h; exact .sn
  | .m B, _, hs, h => by cases h with | m B e he => exact .m _ e (hs _ (by simp [nsV]) _ he)
  | .mn, _, _, h => by cases h; exact .mn
  | .f g a b, _, hs, h => by
    cases h with
    | f g fst cap xs ys h1 h2 => exact .f g a b xs ys (VRs_nr (fun B hB => hs B (by simp [nsV, hB])) h1) (VRs_nr (fun B hB => hs B (by simp [nsV, hB])) h2)
  | .fn, _, _, h => by cases h; exact .fn
  | .ic t v, _, hs, h => by cases h with | ic t v x hv => exact .ic t _ x (VR_nr (fun B hB => hs B (by simp [nsV, hB])) hv)
  | .inn, _, _, h => by cases h; exact .inn
  | .ag cs, _, hs, h => by cases h with | ag cs xs hv => exact .ag _ xs (VRs_nr (fun B hB => hs B (by simp [nsV, hB])) hv)
  | .tu cs, _, hs, h => by cases h with | tu cs xs hv => exact .tu _ xs (VRs_nr (fun B hB => hs B (by simp [nsV, hB])) hv)
  | .u, _, _, h => by
    simp only [rnV] at h
    cases h
    rename_i hx
    exact .u _ hx
theorem VRs_nr : ∀ {vs : List V} {xs : List Value}, (∀ B ∈ nsVs vs, ∀ e, ι2 (σ B) = some e → ι' B = some e) → VRs ι2 (rnVs σ vs) xs → VRs ι' vs xs
  | [], _, _, h => by cases h; exact .nil
  | v :: vs, _, hs, h => by
    cases h with
    | cons v x vs xs hv h => exact .cons _ x _ xs (VR_nr (fun B hB => hs B (by simp [nsVs, hB])) hv) (VRs_nr (fun B hB => hs B (by simp [nsVs, hB])) h)
end
end

def rnE (σ : Nat → Nat) (p : V × V × Nat) : V × V × Nat := (rnV σ p.1, rnV σ p.2.1, p.2.2)
def rnB (σ : Nat → Nat) : Blk → Blk
  | .c cs fz q => .c (rnVs σ cs) fz q
  | .mp es clk => .mp (es.map (rnE σ)) clk
  | .it s pos => .it s pos
def nsB : Blk → List Nat
  | .c cs _ _ => nsVs cs
  | .mp es _ => nsVs (es.map (·.1)) ++ nsVs (es.map (·.2.1))
  | .it .. => []
theorem rnB_own (σ : Nat → Nat) (b : Blk) : (rnB σ b).own = b.own := by cases b <;> rfl
theorem rnE_fst (σ : Nat → Nat) (es : List (V × V × Nat)) : (es.map (rnE σ)).map (·.1) = rnVs σ (es.map (·.1)) := by rw [rnVs_map, List.map_map, List.map_map]; rfl
theorem rnE_snd (σ : Nat → Nat) (es : List (V × V × Nat)) : (es.map (rnE σ)).map (·.2.1) = rnVs σ (es.map (·.2.1)) := by rw [rnVs_map, List.map_map, List.map_map]; rfl
theorem rnE_born (σ : Nat → Nat) (es : List (V × V × Nat)) : (es.map (rnE σ)).map (·.2.2) = es.map (·.2.2) := by rw [List.map_map]; rfl
theorem rnB_congr {σ σ' : Nat → Nat} {b : Blk} (h : ∀ B ∈ nsB b, σ B = σ' B) : rnB σ b = rnB σ' b := by
  cases b with
  | c cs fz q => simp only [rnB]; rw [rns_congr h]
  | mp es clk =>
    simp only [rnB]
    congr 1
    refine List.map_congr_left fun p hp => ?_
    simp only [rnE]
    rw [rn_congr fun B hB => h B (by simp only [nsB, List.mem_append]; exact .inl (nsVs_mem (List.mem_map_of_mem hp) hB)), rn_congr fun B hB => h B (by simp only [nsB, List.mem_append]; exact .inr (nsVs_mem (List.mem_map_of_mem hp) hB))]
  | it s pos => rfl
theorem rnB_agree {σ σ' : Nat → Nat} {b : Blk} (h : rnB σ b = rnB σ' b) : ∀ B ∈ nsB b, σ B = σ' B := by
  cases b with
  | c cs fz q =>
    simp only [rnB, Blk.c.injEq] at h
    exact rns_agree h.1
  | mp es clk =>
    simp only [rnB, Blk.mp.injEq, and_true] at h
    intro B hB
    simp only [nsB, List.mem_append] at hB
    rcases hB with hB | hB
    · exact rns_agree (v := es.map (·.1)) (by rw [← rnE_fst, h, rnE_fst]) B hB
    · exact rns_agree (v := es.map (·.2.1)) (by rw [← rnE_snd, h, rnE_snd]) B hB
  | it s pos =>
    intro B hB
    simp [nsB] at hB

theorem BR_rn {ι' ι2 : Iota} {σ : Nat → Nat} (hs : ∀ B e, ι' B = some e → ι2 (σ B) = some e) {e : Loc} {w : World} : ∀ {b : Blk}, BR ι' e w b → BR ι2 e w (rnB σ b)
  | .c cs fz q, h => by
    obtain ⟨c, el, f, g1, g2, g3, g4, g5, g6⟩ := h
    refine ⟨c, el, f, g1, fun j v hj => ?_, fun v hv => ?_, by rw [rnVs_map, List.length_map]; exact g4, g5, g6⟩
    · rw [rnVs_map, List.getElem?_map, Option.map_eq_some_iff] at hj
      obtain ⟨v0, h1, rfl⟩ := hj
      obtain ⟨x, hx, hr⟩ := g2 j v0 h1
      exact ⟨x, hx, VR_rn hs hr⟩
    · rw [rnVs_map, List.mem_map] at hv
      obtain ⟨v0, h1, rfl⟩ := hv
      rw [rnV_one]
      exact g3 v0 h1
  | .mp es clk, h => by
    obtain ⟨en, h1, h2, h3, h4⟩ := h
    exact ⟨en, h1, by rw [rnE_fst]; exact VRs_rn hs h2, by rw [rnE_snd]; exact VRs_rn hs h3, by rw [rnE_born]; exact h4⟩
  | .it s pos, h => h
theorem BR_nr {ι' ι2 : Iota} {σ : Nat → Nat} {e : Loc} {w : World} : ∀ {b : Blk}, (∀ B ∈ nsB b, ∀ e, ι2 (σ B) = some e → ι' B = some e) → BR ι2 e w (rnB σ b) → BR ι' e w b
  | .c cs fz q, hs, h => by
    obtain ⟨c, el, f, g1, g2, g3, g4, g5, g6⟩ := h
    rw [rnVs_map, List.length_map] at g4
    refine ⟨c, el, f, g1, fun j v hj => ?_, fun v hv => ?_, g4, g5, g6⟩
    · obtain ⟨x, hx, hr⟩ := g2 j (rnV σ v) (by rw [rnVs_map, List.getElem?_map, hj]; rfl)
      exact ⟨x, hx, VR_nr (fun B hB => hs B (nsVs_mem (List.mem_of_getElem? hj) hB)) hr⟩
    · rw [← rnV_one σ]
      exact g3 _ (by rw [rnVs_map]; exact List.mem_map_of_mem hv)
  | .mp es clk, hs, h => by
    obtain ⟨en, h1, h2, h3, h4⟩ := h
    rw [rnE_fst] at h2
    rw [rnE_snd] at h3
    rw [rnE_born] at h4
    exact ⟨en, h1, VRs_nr (fun B hB => hs B (by simp only [nsB, List.mem_append]; exact .inl hB)) h2, VRs_nr (fun B hB => hs B (by simp only [nsB, List.mem_append]; exact .inr hB)) h3, h4⟩
  | .it s pos, hs, h => h

/-- Blocks taken out. -/
def takL : List Nat → Tr Blk → Tr Blk
  | [], t => t
  | B :: r, t => takL r (Tr.put (B + 1) t B none)
theorem takL_get : ∀ {l : List Nat} {t : Tr Blk} {j : Nat}, (takL l t).get j = if j ∈ l then none else t.get j
  | [], t, j => by simp [takL]
  | B :: r, t, j => by
    rw [takL, takL_get, Tr.get_put _ _ _ _ _ (Nat.lt_succ_self _)]
    by_cases h1 : j ∈ r
    · simp [h1]
    · by_cases h2 : j = B <;> simp [h1, h2]
theorem putL_get_eq : ∀ {l : List (Nat × Blk)} {t : Tr Blk} {j : Nat}, (∀ p ∈ l, p.1 ≠ j) → (putL l t).get j = t.get j
  | [], _, _, _ => rfl
  | (B, b) :: r, t, j, h => by
    rw [putL, putL_get_eq fun p hp => h p (List.mem_cons_of_mem _ hp), Tr.get_put _ _ _ _ _ (Nat.lt_succ_self _), if_neg fun e => h (B, b) (List.mem_cons_self ..) e.symm]
theorem putL_get_in : ∀ {l : List (Nat × Blk)} {t : Tr Blk} {B : Nat} {b : Blk}, (B, b) ∈ l → (l.map (·.1)).Nodup → (putL l t).get B = some b
  | [], _, _, _, h, _ => by cases h
  | (B0, b0) :: r, t, B, b, h, hn => by
    simp only [List.map_cons, List.nodup_cons] at hn
    rcases List.mem_cons.1 h with e | h
    · injection e with e1 e2
      subst e1; subst e2
      rw [putL, putL_get_eq fun p hp e => hn.1 (by rw [← e]; exact List.mem_map_of_mem hp), Tr.get_put _ _ _ _ _ (Nat.lt_succ_self _), if_pos rfl]
    · rw [putL]
      exact putL_get_in h hn.2

/-- Names in the run to names in the heap: those below NA by ρ, the run's own behind m. -/
def sg (NA m : Nat) (ρ : Nat → Nat) (B : Nat) : Nat := if B < NA then ρ B else B - NA + m
/-- The heap behind the call. -/
def frH (NA NX : Nat) (ρ : Nat → Nat) (la la' : List (Nat × Blk)) (h : H) : H :=
  ⟨h.nx + (NX - NA), putL (la'.map fun p => (sg NA h.nx ρ p.1, rnB (sg NA h.nx ρ) p.2)) (takL (la.map fun p => ρ p.1) h.t)⟩
/-- How the run's blocks lie in a heap. -/
structure Fits (gs : Nat) (args : List V) (la : List (Nat × Blk)) (ρ : Nat → Nat) (args' : List V) (h : H) : Prop where
  g : ∀ g, g < gs → ρ g = g
  args : args' = rnVs ρ args
  blk : ∀ p ∈ la, h.get (ρ p.1) = some (rnB ρ p.2)
  inj : ∀ p ∈ la, ∀ q ∈ la, p.1 ≠ q.1 → ρ p.1 ≠ ρ q.1
/-- The names are in order. -/
def framesOK (args : List V) (la la' : List (Nat × Blk)) (NA NX : Nat) : Bool :=
  (nsVs args).all (Nat.blt · NA) && (la.all (fun p => Nat.blt p.1 NA && (nsB p.2).all (Nat.blt · NA)) && (la'.all (fun p => Nat.blt p.1 NX && ((Nat.ble NA p.1 || (la.map (·.1)).contains p.1) && p.2.own || la.any fun q => q.1 == p.1 && Blk.beq q.2 p.2)) && Nat.ble NA NX))

section
variable {ι ι' : Iota} {h h' : H} {w w' : World} {la la' : List (Nat × Blk)} {NA NX gs : Nat} {ρ : Nat → Nat} {args args' : List V}
def iotaR (NA : Nat) (ρ : Nat → Nat) (ι : Iota) : Iota := fun B => if B < NA then ι (ρ B) else none

theorem HRel.part (hh : HRel ι h w) (F : Fits gs args la ρ args' h) (hk : framesOK args la la' NA NX = true) : HRel (iotaR NA ρ ι) (hOf NA la) w := by
  simp only [framesOK, Bool.and_eq_true, List.all_eq_true] at hk
  obtain ⟨_, hk2, _⟩ := hk
  have i0 : ∀ {B : Nat} {e : Loc}, iotaR NA ρ ι B = some e → B < NA ∧ ι (ρ B) = some e := fun {B e} he => by
    unfold iotaR at he
    split at he
    · exact ⟨by assumption, he⟩
    · cases he
  refine ⟨fun B b e hg he => ?_, fun B B' b b' e e' hne hb hb' he he' ho => ?_, fun B e he => (i0 he).1, fun B b hg => ?_⟩
  · have hm := hOf_get hg
    refine BR_nr (σ := ρ) (fun B' hB' e' he' => ?_) (hh.br (ρ B) (rnB ρ b) e (F.blk _ hm) (i0 he).2)
    have h1 := (hk2 _ hm).2 B' hB'
    have h2 : B' < NA := Nat.le_of_ble_eq_true h1
    unfold iotaR
    rw [if_pos h2]
    exact he'
  · have hm := hOf_get hb
    have hm' := hOf_get hb'
    exact hh.inj (ρ B) (ρ B') (rnB ρ b) (rnB ρ b') e e' (F.inj _ hm _ hm' hne) (F.blk _ hm) (F.blk _ hm') (i0 he).2 (i0 he').2 (by rw [rnB_own]; exact ho)
  · exact Nat.le_of_ble_eq_true (hk2 _ (hOf_get hg)).1

theorem framed (hh : HRel ι h w) (F : Fits gs args la ρ args' h) (hk : framesOK args la la' NA NX = true) (hh' : HRel ι' h' w') (hE : Ext (iotaR NA ρ ι) (hOf NA la) w ι' h' w') (ha' : ∀ p ∈ la', h'.get p.1 = some p.2) (hx : h'.nx ≤ NX) :
    ∃ ι2 : Iota, (∀ B e, ι' B = some e → ι2 (sg NA h.nx ρ B) = some e) ∧ HRel ι2 (frH NA NX ρ la la' h) w' ∧ Ext ι h w ι2 (frH NA NX ρ la la' h) w' := by
  have hk0 := hk
  simp only [framesOK, Bool.and_eq_true, List.all_eq_true] at hk
  obtain ⟨_, hk2, hk3, hk4⟩ := hk
  have hk4 := Nat.le_of_ble_eq_true hk4
  let ι2 : Iota := fun B => if B < h.nx then ι B else ι' (B - h.nx + NA)
  have i2a : ∀ {B : Nat}, B < h.nx → ι2 B = ι B := fun hB => if_pos hB
  have i2b : ∀ {B : Nat}, ¬ B < h.nx → ι2 B = ι' (B - h.nx + NA) := fun hB => if_neg hB
  have i0 : ∀ {B : Nat} {e : Loc}, iotaR NA ρ ι B = some e → B < NA ∧ ι (ρ B) = some e := fun {B e} he => by
    unfold iotaR at he
    split at he
    · exact ⟨by assumption, he⟩
    · cases he
  have old : ∀ {B : Nat}, B < NA → ι' B = ι (ρ B) := fun {B} hB => by
    rw [hE.old B hB]
    unfold iotaR
    rw [if_pos hB]
  have hle : ι.le ι2 := fun B e he => by rw [i2a (hh.lt B e he)]; exact he
  have hs : ∀ B e, ι' B = some e → ι2 (sg NA h.nx ρ B) = some e := by
    intro B e he
    by_cases hB : B < NA
    · have e1 : sg NA h.nx ρ B = ρ B := if_pos hB
      rw [old hB] at he
      rw [e1, i2a (hh.lt _ e he)]
      exact he
    · have e1 : sg NA h.nx ρ B = B - NA + h.nx := if_neg hB
      rw [e1, i2b (by omega)]
      have e2 : B - NA + h.nx - h.nx + NA = B := by omega
      rw [e2]
      exact he
  have laNA : ∀ {p : Nat × Blk}, p ∈ la → p.1 < NA := fun hp => Nat.le_of_ble_eq_true (hk2 _ hp).1
  have laNX : ∀ {p : Nat × Blk}, p ∈ la → ρ p.1 < h.nx := fun hp => hh.dom _ _ (F.blk _ hp)
  -- a block of the run's end: its name
  have fin : ∀ {p : Nat × Blk}, p ∈ la' → p.1 < NX ∧ (NA ≤ p.1 ∨ p.1 < NA ∧ ρ p.1 < h.nx ∧ ∃ q ∈ la, q.1 = p.1) ∧ (p.2.own = true ∨ p ∈ la) := fun {p} hp => by
    have h1 := hk3 _ hp
    have h2 : p.1 < NX := Nat.le_of_ble_eq_true h1.1
    have h3 := h1.2
    rw [Bool.or_eq_true] at h3
    rcases h3 with h3 | h3
    · rw [Bool.and_eq_true, Bool.or_eq_true] at h3
      refine ⟨h2, ?_, .inl h3.2⟩
      rcases h3.1 with h4 | h4
      · exact .inl (Nat.le_of_ble_eq_true h4)
      · rw [List.contains_iff_mem, List.mem_map] at h4
        obtain ⟨q, hq, e⟩ := h4
        exact .inr ⟨by rw [← e]; exact laNA hq, by rw [← e]; exact laNX hq, q, hq, e⟩
    · rw [List.any_eq_true] at h3
      obtain ⟨q, hq, h4⟩ := h3
      rw [Bool.and_eq_true] at h4
      have e1 : q.1 = p.1 := by simpa using h4.1
      have e2 := Blk.beq_eq h4.2
      have e3 : q = p := Prod.ext e1 e2
      subst e3
      exact ⟨h2, .inr ⟨laNA hq, laNX hq, q, hq, rfl⟩, .inr hq⟩
  have back : ∀ {p : Nat × Blk} {e : Loc}, p ∈ la' → ι2 (sg NA h.nx ρ p.1) = some e → ι' p.1 = some e := fun {p e} hp he => by
    rcases (fin hp).2.1 with h1 | ⟨h1, h2, _⟩
    · have e1 : sg NA h.nx ρ p.1 = p.1 - NA + h.nx := if_neg (by omega)
      rw [e1, i2b (by omega)] at he
      have e2 : p.1 - NA + h.nx - h.nx + NA = p.1 := by omega
      rw [e2] at he
      exact he
    · have e1 : sg NA h.nx ρ p.1 = ρ p.1 := if_pos h1
      rw [e1, i2a h2] at he
      rw [old h1]
      exact he
  have get : ∀ {B : Nat} {b : Blk}, (frH NA NX ρ la la' h).get B = some b → (∃ p ∈ la', B = sg NA h.nx ρ p.1 ∧ b = rnB (sg NA h.nx ρ) p.2) ∨ h.get B = some b ∧ ∀ p ∈ la, B ≠ ρ p.1 := fun {B b} hg => by
    have hg0 : (putL (la'.map fun p => (sg NA h.nx ρ p.1, rnB (sg NA h.nx ρ) p.2)) (takL (la.map fun p => ρ p.1) h.t)).get B = some b := hg
    rcases putL_get hg0 with hm | hg
    · obtain ⟨p, hp, e⟩ := List.mem_map.1 hm
      injection e with e1 e2
      exact .inl ⟨p, hp, e1.symm, e2.symm⟩
    · rw [takL_get] at hg
      split at hg
      · cases hg
      · rename_i hnm
        exact .inr ⟨hg, fun p hp e => hnm (List.mem_map.2 ⟨p, hp, e.symm⟩)⟩
  have same : ∀ {B : Nat} {b : Blk}, h.get B = some b → ι2 B = ι B := fun {B b} hb => i2a (hh.dom B b hb)
  have apart : ∀ {p : Nat × Blk} {B' : Nat} {b' : Blk} {e e' : Loc}, p ∈ la' → p.2.own = true → h.get B' = some b' → (∀ q ∈ la, B' ≠ ρ q.1) → ι' p.1 = some e → ι B' = some e' → e.r ≠ e'.r := fun {p B' b' e e'} hp ho hb' hn he he' => by
    rcases hE.own p.1 p.2 e (ha' _ hp) ho he with h1 | ⟨B1, b1, e1, h1, h2, h3, h4⟩
    · have := BR.lt (hh.br B' b' e' hb' he')
      omega
    · rw [← h4]
      have hm := hOf_get h1
      exact hh.inj (ρ B1) B' (rnB ρ b1) b' e1 e' (fun e2 => hn _ hm e2.symm) (F.blk _ hm) hb' (i0 h3).2 he' (by rw [rnB_own]; exact h2)
  refine ⟨ι2, hs, ⟨?_, ?_, ?_, ?_⟩, ⟨hle, fun B hB => i2a hB, ?_, hE.size, ?_, ?_, hE.os, hE.output⟩⟩
  · intro B b e hb he
    rcases get hb with ⟨p, hp, rfl, rfl⟩ | ⟨hb, hn⟩
    · exact BR_rn hs (hh'.br p.1 p.2 e (ha' _ hp) (back hp he))
    · rw [same hb] at he
      refine (hh.br B b e hb he).mono hle (hE.frame e.r (BR.lt (hh.br B b e hb he)) fun B0 b0 e0 h0 ho he0 => ?_)
      have hm := hOf_get h0
      exact hh.inj (ρ B0) B (rnB ρ b0) b e0 e (fun e1 => hn _ hm e1.symm) (F.blk _ hm) hb (i0 he0).2 he (by rw [rnB_own]; exact ho)
  · intro B B' b b' e e' hne hb hb' he he' ho
    rcases get hb with ⟨p, hp, rfl, rfl⟩ | ⟨hb, hn⟩
    · rw [rnB_own] at ho
      rcases get hb' with ⟨q, hq, rfl, rfl⟩ | ⟨hb', hn'⟩
      · exact hh'.inj p.1 q.1 p.2 q.2 e e' (fun e1 => hne (by rw [e1])) (ha' _ hp) (ha' _ hq) (back hp he) (back hq he') ho
      · rw [same hb'] at he'
        exact apart hp ho hb' hn' (back hp he) he'
    · rw [same hb] at he
      rcases get hb' with ⟨q, hq, rfl, rfl⟩ | ⟨hb', hn'⟩
      · rcases (fin hq).2.2 with ho' | hqa
        · exact (apart hq ho' hb hn (back hq he') he).symm
        · have h1 := back hq he'
          rw [old (laNA hqa)] at h1
          exact hh.inj B (ρ q.1) b (rnB ρ q.2) e e' (hn _ hqa) hb (F.blk _ hqa) he h1 ho
      · rw [same hb'] at he'
        exact hh.inj B B' b b' e e' hne hb hb' he he' ho
  · intro B e he
    show B < h.nx + (NX - NA)
    by_cases hB : B < h.nx
    · omega
    · rw [i2b hB] at he
      have := hh'.lt _ _ he
      omega
  · intro B b hb
    show B < h.nx + (NX - NA)
    rcases get hb with ⟨p, hp, rfl, rfl⟩ | ⟨hb, _⟩
    · obtain ⟨h1, h2, _⟩ := fin hp
      unfold sg
      split
      · rcases h2 with h2 | ⟨_, h2, _⟩ <;> omega
      · omega
    · have := hh.dom B b hb
      omega
  · show h.nx ≤ h.nx + (NX - NA)
    omega
  · intro B b e hb ho he
    rcases get hb with ⟨p, hp, rfl, rfl⟩ | ⟨hb, _⟩
    · rw [rnB_own] at ho
      rcases hE.own p.1 p.2 e (ha' _ hp) ho (back hp he) with h1 | ⟨B1, b1, e1, h1, h2, h3, h4⟩
      · exact .inl h1
      · exact .inr ⟨ρ B1, rnB ρ b1, e1, F.blk _ (hOf_get h1), by rw [rnB_own]; exact h2, (i0 h3).2, h4⟩
    · rw [same hb] at he
      exact .inr ⟨B, b, e, hb, ho, he, rfl⟩
  · intro r hr hno
    exact hE.frame r hr fun B b e hg ho he => hno (ρ B) (rnB ρ b) e (F.blk _ (hOf_get hg)) (by rw [rnB_own]; exact ho) (i0 he).2
end

/-! ### what stands for such a call -/
open Classical in
noncomputable def primR (gs : Nat) (args : List V) (la : List (Nat × Blk)) (NA : Nat) (v : V) (la' : List (Nat × Blk)) (NX : Nat) (args' : List V) (h : H) : R :=
  if hx : ∃ ρ, Fits gs args la ρ args' h then some (rnV (sg NA h.nx (Classical.choose hx)) v, frH NA NX (Classical.choose hx) la la' h) else none

theorem primR_ok {call : CallF} (hcall : CallsOK P call) {g gs : Nat} {args : List V} {la la' : List (Nat × Blk)} {NA NX : Nat} {v : V} {h1 : H} (hgs : P.globals.size ≤ gs) (hgn : gs ≤ NA)
    (hr : call g args (hOf NA la) = some (v, h1)) (ha : ∀ p ∈ la', h1.get p.1 = some p.2) (hx : h1.nx ≤ NX) (hk : framesOK args la la' NA NX = true) : PrimOK P g (primR gs args la NA v la' NX) := by
  intro args' h v' h' hf ι xs w hg hargs hh
  unfold primR at hf
  split at hf
  case isFalse => cases hf
  rename_i hρ
  have F := Classical.choose_spec hρ
  injection hf with hf
  injection hf with e1 e2
  subst e1; subst e2
  generalize Classical.choose hρ = ρ at F ⊢
  have hg0 : Globs P (iotaR NA ρ ι) := fun g hgl => by
    obtain ⟨e, he⟩ := hg g hgl
    refine ⟨e, ?_⟩
    unfold iotaR
    rw [if_pos (by omega), F.g g (by omega)]
    exact he
  have hk0 := hk
  simp only [framesOK, Bool.and_eq_true, List.all_eq_true] at hk0
  have hargs0 : VRs (iotaR NA ρ ι) args xs.toList := by
    have h2 := hargs
    rw [F.args] at h2
    refine VRs_nr (σ := ρ) (fun B hB e he => ?_) h2
    have h3 : B < NA := Nat.le_of_ble_eq_true (hk0.1 B hB)
    unfold iotaR
    rw [if_pos h3]
    exact he
  refine (hcall g args (hOf NA la) v h1 hr _ xs w hg0 hargs0 (hh.part F hk)).mono fun e w' ⟨x, ι', he, hv, g1, g2⟩ => ?_
  obtain ⟨ι2, m0, m1, m2⟩ := framed hh F hk g1 g2 ha hx
  exact ⟨x, ι2, he, VR_rn m0 hv, m1, m2⟩

/-- Are all names of the blocks known from the arguments on? -/
def reach : List Nat → List (Nat × Blk) → Bool
  | _, [] => true
  | kn, (B, b) :: r => kn.contains B && reach (nsB b ++ kn) r
def knownL : List Nat → List (Nat × Blk) → List Nat
  | kn, [] => kn
  | kn, (_, b) :: r => knownL (nsB b ++ kn) r
theorem reach_agree {h : H} {ρ ρ' : Nat → Nat} : ∀ {la : List (Nat × Blk)} {kn : List Nat}, reach kn la = true → (∀ B ∈ kn, ρ B = ρ' B) → (∀ p ∈ la, h.get (ρ p.1) = some (rnB ρ p.2)) → (∀ p ∈ la, h.get (ρ' p.1) = some (rnB ρ' p.2)) →
    (∀ B ∈ knownL kn la, ρ B = ρ' B) ∧ ∀ p ∈ la, ρ p.1 = ρ' p.1
  | [], kn, _, hkn, _, _ => ⟨hkn, fun p hp => by cases hp⟩
  | (B, b) :: r, kn, hr, hkn, h1, h2 => by
    simp only [reach, Bool.and_eq_true] at hr
    have hB : ρ B = ρ' B := hkn B (by simpa using hr.1)
    have g1 := h1 (B, b) (List.mem_cons_self ..)
    have g2 := h2 (B, b) (List.mem_cons_self ..)
    simp only at g1 g2
    rw [← hB, g1] at g2
    injection g2 with g2
    have hb := rnB_agree g2
    have := reach_agree (h := h) (ρ := ρ) (ρ' := ρ') hr.2 (fun B' hB' => by
      rcases List.mem_append.1 hB' with h3 | h3
      · exact hb B' h3
      · exact hkn B' h3) (fun p hp => h1 p (List.mem_cons_of_mem _ hp)) (fun p hp => h2 p (List.mem_cons_of_mem _ hp))
    refine ⟨this.1, fun p hp => ?_⟩
    rcases List.mem_cons.1 hp with rfl | hp
    · exact hB
    · exact this.2 p hp
/-- The names of the answer and of the last blocks are known or new. -/
def outOK (args : List V) (la : List (Nat × Blk)) (NA : Nat) (v : V) (la' : List (Nat × Blk)) : Bool :=
  reach (nsVs args) la && ((nsV v ++ (la'.map (·.1) ++ la'.flatMap fun p => nsB p.2)).all fun B => Nat.ble NA B || (knownL (nsVs args) la).contains B)
theorem primR_eq {gs : Nat} {args : List V} {la la' : List (Nat × Blk)} {NA NX : Nat} {v : V} {args' : List V} {h : H} {ρ : Nat → Nat} (F : Fits gs args la ρ args' h) (ho : outOK args la NA v la' = true) :
    primR gs args la NA v la' NX args' h = some (rnV (sg NA h.nx ρ) v, frH NA NX ρ la la' h) := by
  have hx : ∃ ρ, Fits gs args la ρ args' h := ⟨ρ, F⟩
  unfold primR
  rw [dif_pos hx]
  have F' := Classical.choose_spec hx
  generalize Classical.choose hx = ρ' at F'
  simp only [outOK, Bool.and_eq_true, List.all_eq_true] at ho
  have hargs : ∀ B ∈ nsVs args, ρ' B = ρ B := rns_agree (by rw [← F'.args, ← F.args])
  obtain ⟨k1, k2⟩ := reach_agree (h := h) (ρ := ρ') (ρ' := ρ) ho.1 hargs F'.blk F.blk
  have hsg : ∀ B ∈ nsV v ++ (la'.map (·.1) ++ la'.flatMap fun p => nsB p.2), sg NA h.nx ρ' B = sg NA h.nx ρ B := fun B hB => by
    have h1 := ho.2 B hB
    unfold sg
    split
    · rename_i hlt
      rw [Bool.or_eq_true] at h1
      rcases h1 with h1 | h1
      · have := Nat.le_of_ble_eq_true h1
        omega
      · exact k1 B (by simpa using h1)
    · rfl
  have e1 : rnV (sg NA h.nx ρ') v = rnV (sg NA h.nx ρ) v := rn_congr fun B hB => hsg B (List.mem_append_left _ hB)
  have e2 : (la'.map fun p => (sg NA h.nx ρ' p.1, rnB (sg NA h.nx ρ') p.2)) = la'.map fun p => (sg NA h.nx ρ p.1, rnB (sg NA h.nx ρ) p.2) := by
    refine List.map_congr_left fun p hp => ?_
    rw [hsg p.1 (List.mem_append_right _ (List.mem_append_left _ (List.mem_map_of_mem hp))), rnB_congr fun B hB => hsg B (List.mem_append_right _ (List.mem_append_right _ (List.mem_flatMap.2 ⟨p, hp, hB⟩)))]
  have e3 : (la.map fun p => ρ' p.1) = la.map fun p => ρ p.1 := List.map_congr_left fun p hp => k2 p hp
  rw [e1]
  unfold frH
  rw [e2, e3]

/-- What the heap behind the call holds. -/
theorem frH_new {NA NX : Nat} {ρ : Nat → Nat} {la la' : List (Nat × Blk)} {h : H} {p : Nat × Blk} (hp : p ∈ la') (hn : ((la'.map (·.1)).map (sg NA h.nx ρ)).Nodup) : (frH NA NX ρ la la' h).get (sg NA h.nx ρ p.1) = some (rnB (sg NA h.nx ρ) p.2) := by
  refine putL_get_in (l := la'.map fun p => (sg NA h.nx ρ p.1, rnB (sg NA h.nx ρ) p.2)) (List.mem_map.2 ⟨p, hp, rfl⟩) ?_
  rw [List.map_map] at hn ⊢
  exact hn
theorem frH_old {NA NX : Nat} {ρ : Nat → Nat} {la la' : List (Nat × Blk)} {h : H} {B : Nat} (h1 : ∀ p ∈ la', sg NA h.nx ρ p.1 ≠ B) (h2 : ∀ p ∈ la, ρ p.1 ≠ B) : (frH NA NX ρ la la' h).get B = h.get B := by
  unfold frH H.get
  simp only
  rw [putL_get_eq fun p hp => ?_, takL_get, if_neg fun hm => ?_]
  · obtain ⟨q, hq, e⟩ := List.mem_map.1 hm
    exact h2 q hq e
  · obtain ⟨q, hq, rfl⟩ := List.mem_map.1 hp
    exact h1 q hq
end Go.Ev
