import Derived.Test.YtmbpjpffafidhaaGreatDoorWaL6
import Derived.IntWalk
/-! A call that makes blocks, known by a run of its own, wherever its blocks are named from. -/
namespace Go.Ev
variable {P : Program}

def shN (NA m B : Nat) : Nat := if B < NA then B else B - NA + m
mutual
def shV (NA m : Nat) : V → V
  | .p B o => .p (shN NA m B) o
  | .sl B o l c x => .sl (shN NA m B) o l c x
  | .m B => .m (shN NA m B)
  | .f g a b => .f g (shVs NA m a) (shVs NA m b)
  | .ic t v => .ic t (shV NA m v)
  | .ag cs => .ag (shVs NA m cs)
  | .tu cs => .tu (shVs NA m cs)
  | v => v
def shVs (NA m : Nat) : List V → List V
  | [] => []
  | v :: vs => shV NA m v :: shVs NA m vs
end
theorem shVs_map (NA m : Nat) : ∀ l : List V, shVs NA m l = l.map (shV NA m)
  | [] => rfl
  | v :: l => by simp only [shVs, List.map_cons, shVs_map NA m l]

section
variable {ι' ι2 : Iota} {NA m : Nat}
mutual
theorem VR_shift (hs : ∀ B e, ι' B = some e → ι2 (shN NA m B) = some e) : ∀ {v : V} {x : Value}, VR ι' v x → VR ι2 (shV NA m v) x
  | _, _, .b x => .b x
  | _, _, .i k n => .i k n
  | _, _, .s x l e => .s x l e
  | _, _, .p B o e he => .p _ o e (hs _ _ he)
  | _, _, .pn => .pn
  | _, _, .sx B o len cap e he hl => .sx _ o len cap e (hs _ _ he) hl
  | _, _, .si B o len cap x cap' off e he h1 h2 h3 h4 => .si _ o len cap x cap' off e (hs _ _ he) h1 h2 h3 h4
  | _, _, .sn => .sn
  | _, _, .m B e he => .m _ e (hs _ _ he)
  | _, _, .mn => .mn
  | _, _, .f g fst cap xs ys h1 h2 => .f g _ _ xs ys (VRs_shift hs h1) (VRs_shift hs h2)
  | _, _, .fn => .fn
  | _, _, .ic t v x hv => .ic t _ x (VR_shift hs hv)
  | _, _, .inn => .inn
  | _, _, .ag cs xs h => .ag _ xs (VRs_shift hs h)
  | _, _, .tu cs xs h => .tu _ xs (VRs_shift hs h)
  | _, _, .u x hx => .u x hx
theorem VRs_shift (hs : ∀ B e, ι' B = some e → ι2 (shN NA m B) = some e) : ∀ {vs : List V} {xs : List Value}, VRs ι' vs xs → VRs ι2 (shVs NA m vs) xs
  | _, _, .nil => .nil
  | _, _, .cons v x vs xs hv h => .cons _ x _ xs (VR_shift hs hv) (VRs_shift hs h)
end
end
theorem shV_one (NA m : Nat) (v : V) : (shV NA m v).one = v.one := by cases v <;> rfl

/-- Blocks of cells alone. -/
def cellsOnly (l : List (Nat × Blk)) : Bool := l.all fun p => match p.2 with | .c .. => true | _ => false
def shL (NA m : Nat) : List (Nat × Blk) → List (Nat × Blk)
  | [] => []
  | (B, .c cs fz q) :: r => (shN NA m B, .c (shVs NA m cs) fz q) :: shL NA m r
  | p :: r => p :: shL NA m r
theorem shL_mem {NA m : Nat} : ∀ {l : List (Nat × Blk)}, cellsOnly l = true → ∀ {B : Nat} {b : Blk}, (B, b) ∈ shL NA m l → ∃ B0 cs fz q, (B0, Blk.c cs fz q) ∈ l ∧ B = shN NA m B0 ∧ b = .c (shVs NA m cs) fz q
  | [], _, B, b, h => by cases h
  | (B1, .c cs fz q) :: r, hc, B, b, h => by
    simp only [cellsOnly, List.all_cons, Bool.true_and] at hc
    rcases List.mem_cons.1 h with e | h
    · injection e with e1 e2
      exact ⟨B1, cs, fz, q, List.mem_cons_self .., e1, e2⟩
    · obtain ⟨B0, cs', fz', q', h1, h2, h3⟩ := shL_mem (l := r) hc h
      exact ⟨B0, cs', fz', q', List.mem_cons_of_mem _ h1, h2, h3⟩
  | (B1, .mp es clk) :: r, hc, B, b, h => by simp [cellsOnly] at hc
  | (B1, .it s pos) :: r, hc, B, b, h => by simp [cellsOnly] at hc

theorem BR_shift {ι' ι2 : Iota} {NA m : Nat} (hs : ∀ B e, ι' B = some e → ι2 (shN NA m B) = some e) {e : Loc} {w : World} {cs : List V} {fz q : Nat} (h : BR ι' e w (.c cs fz q)) : BR ι2 e w (.c (shVs NA m cs) fz q) := by
  obtain ⟨c, el, f, g1, g2, g3, g4, g5, g6⟩ := h
  refine ⟨c, el, f, g1, fun j v hj => ?_, fun v hv => ?_, by rw [shVs_map, List.length_map]; exact g4, g5, g6⟩
  · rw [shVs_map, List.getElem?_map, Option.map_eq_some_iff] at hj
    obtain ⟨v0, h1, rfl⟩ := hj
    obtain ⟨x, hx, hr⟩ := g2 j v0 h1
    exact ⟨x, hx, VR_shift hs hr⟩
  · rw [shVs_map, List.mem_map] at hv
    obtain ⟨v0, h1, rfl⟩ := hv
    rw [shV_one]
    exact g3 v0 h1

section
variable {ι ι' : Iota} {h h' : H} {w w' : World} {la ln : List (Nat × Blk)} {NA NX : Nat}

theorem moved (hh : HRel ι h w) (hnx : h.nx ≤ NA) (ha : hasAll h la = true) (hc : cellsOnly la = true) (hcn : cellsOnly ln = true) (hh' : HRel ι' h' w') (hE : Ext ι (hOf NA la) w ι' h' w') (ha' : hasAll h' la = true) (hn : hasAll h' ln = true) (hx : h'.nx ≤ NX) (hk : namesOK la ln NA NX = true) :
    ∃ ι2 : Iota, (∀ B e, ι' B = some e → ι2 (shN NA h.nx B) = some e) ∧ HRel ι2 ⟨h.nx + (NX - NA), putL (shL NA h.nx ln) h.t⟩ w' ∧ Ext ι h w ι2 ⟨h.nx + (NX - NA), putL (shL NA h.nx ln) h.t⟩ w' := by
  simp only [namesOK, Bool.and_eq_true, List.all_eq_true] at hk
  obtain ⟨_, hk2, hk3⟩ := hk
  have hk3 := Nat.le_of_ble_eq_true hk3
  let ι2 : Iota := fun B => if B < h.nx then ι B else ι' (B - h.nx + NA)
  have i2a : ∀ {B : Nat}, B < h.nx → ι2 B = ι B := fun hB => if_pos hB
  have i2b : ∀ {B : Nat}, ¬ B < h.nx → ι2 B = ι' (B - h.nx + NA) := fun hB => if_neg hB
  have old : ∀ {B : Nat}, B < NA → ι' B = ι B := fun {B} hB => hE.old B hB
  have hle : ι.le ι2 := fun B e he => by rw [i2a (hh.lt B e he)]; exact he
  have hs : ∀ B e, ι' B = some e → ι2 (shN NA h.nx B) = some e := by
    intro B e he
    by_cases hB : B < NA
    · have e1 : shN NA h.nx B = B := if_pos hB
      rw [old hB] at he
      rw [e1, i2a (hh.lt B e he)]
      exact he
    · have e1 : shN NA h.nx B = B - NA + h.nx := if_neg hB
      rw [e1, i2b (by omega)]
      have e2 : B - NA + h.nx - h.nx + NA = B := by omega
      rw [e2]
      exact he
  have new : ∀ {B : Nat} {b : Blk}, (B, b) ∈ shL NA h.nx ln → ∃ B0 cs fz q, h'.get B0 = some (.c cs fz q) ∧ b = .c (shVs NA h.nx cs) fz q ∧ h.nx ≤ B ∧ B0 = B - h.nx + NA ∧ B0 < NX ∧ Blk.own (.c cs fz q) = true := fun {B b} hm => by
    obtain ⟨B0, cs, fz, q, h1, h2, h3⟩ := shL_mem hcn hm
    have h4 := hk2 _ h1
    have h5 := Nat.le_of_ble_eq_true h4.1
    have h6 := Nat.le_of_ble_eq_true h4.2.1
    simp only at h5 h6
    have e1 : shN NA h.nx B0 = B0 - NA + h.nx := if_neg (by omega)
    exact ⟨B0, cs, fz, q, hasAll_get hn h1, h3, by omega, by omega, h6, h4.2.2⟩
  have own2 : ∀ {cs : List V} {fz q : Nat}, Blk.own (.c (shVs NA h.nx cs) fz q) = Blk.own (.c cs fz q) := rfl
  have get : ∀ {B : Nat} {b : Blk}, (⟨h.nx + (NX - NA), putL (shL NA h.nx ln) h.t⟩ : H).get B = some b → (B, b) ∈ shL NA h.nx ln ∨ h.get B = some b := fun hg => putL_get hg
  have same : ∀ {B : Nat} {b : Blk}, h.get B = some b → ι2 B = ι B := fun {B b} hb => i2a (hh.dom B b hb)
  have apart : ∀ {B B' : Nat} {b b' : Blk} {e e' : Loc}, (B, b) ∈ shL NA h.nx ln → h.get B' = some b' → ι2 B = some e → ι B' = some e' → e.r ≠ e'.r := fun {B B' b b' e e'} hm hb' he he' => by
    obtain ⟨B0, cs, fz, q, g1, g2, g3, g4, g5, g6⟩ := new hm
    rw [i2b (by omega), ← g4] at he
    have hlt := hh.dom B' b' hb'
    cases hno : (hOf NA la).get B' with
    | some b2 =>
      have hm2 := hOf_get hno
      have hb2 := hasAll_get ha hm2
      rw [hb'] at hb2
      injection hb2 with hb2
      subst hb2
      exact hh'.inj B0 B' _ b' e e' (by omega) g1 (hasAll_get ha' hm2) he ((old (by omega)).trans he') g6
    | none =>
      rcases hE.own B0 _ e g1 g6 he with h1 | ⟨B1, b1, e1, h1, h2, h3, h4⟩
      · have := BR.lt (hh.br B' b' e' hb' he')
        omega
      · rw [← h4]
        refine hh.inj B1 B' b1 b' e1 e' (fun e2 => ?_) (hasAll_get ha (hOf_get h1)) hb' h3 he' h2
        subst e2
        rw [hno] at h1
        cases h1
  refine ⟨ι2, hs, ?_, ?_⟩
  · constructor
    · intro B b e hb he
      rcases get hb with hm | hb
      · obtain ⟨B0, cs, fz, q, g1, g2, g3, g4, g5, g6⟩ := new hm
        rw [i2b (by omega), ← g4] at he
        rw [g2]
        exact BR_shift hs (hh'.br B0 _ e g1 he)
      · rw [same hb] at he
        cases hno : (hOf NA la).get B with
        | some b2 =>
          have hm2 := hOf_get hno
          have hb2 := hasAll_get ha hm2
          rw [hb] at hb2
          injection hb2 with hb2
          subst hb2
          have h1 := List.all_eq_true.1 hc _ hm2
          have hB := hh.dom B b hb
          have h2 := hh'.br B b e (hasAll_get ha' hm2) ((old (by omega)).trans he)
          have h3 := hh.br B b e hb he
          cases b with
          | c cs fz q => exact (BR.back hE.le h3 h2).mono hle rfl
          | mp es clk => cases h1
          | it s pos => cases h1
        | none => exact (hh.br B b e hb he).mono hle (old_kept hh ha hE hb he hno)
    · intro B B' b b' e e' hne hb hb' he he' ho
      rcases get hb with hm | hb
      · rcases get hb' with hm' | hb'
        · obtain ⟨B0, cs, fz, q, g1, g2, g3, g4, g5, g6⟩ := new hm
          obtain ⟨B0', cs', fz', q', g1', g2', g3', g4', g5', g6'⟩ := new hm'
          rw [i2b (by omega), ← g4] at he
          rw [i2b (by omega), ← g4'] at he'
          exact hh'.inj B0 B0' _ _ e e' (by omega) g1 g1' he he' g6
        · rw [same hb'] at he'
          exact apart hm hb' he he'
      · rcases get hb' with hm' | hb'
        · rw [same hb] at he
          exact (apart hm' hb he' he).symm
        · rw [same hb] at he
          rw [same hb'] at he'
          exact hh.inj B B' b b' e e' hne hb hb' he he' ho
    · intro B e he
      show B < h.nx + (NX - NA)
      by_cases hB : B < h.nx
      · omega
      · rw [i2b hB] at he
        have := hh'.lt _ _ he
        omega
    · intro B b hb
      show B < h.nx + (NX - NA)
      rcases get hb with hm | hb
      · obtain ⟨B0, cs, fz, q, g1, g2, g3, g4, g5, g6⟩ := new hm
        omega
      · have := hh.dom B b hb
        omega
  · constructor
    · exact hle
    · intro B hB
      exact i2a hB
    · show h.nx ≤ h.nx + (NX - NA)
      omega
    · exact hE.size
    · intro B b e hb ho he
      rcases get hb with hm | hb
      · obtain ⟨B0, cs, fz, q, g1, g2, g3, g4, g5, g6⟩ := new hm
        rw [i2b (by omega), ← g4] at he
        rcases hE.own B0 _ e g1 g6 he with h1 | ⟨B1, b1, e1, h1, h2, h3, h4⟩
        · exact .inl h1
        · exact .inr ⟨B1, b1, e1, hasAll_get ha (hOf_get h1), h2, h3, h4⟩
      · rw [same hb] at he
        exact .inr ⟨B, b, e, hb, ho, he, rfl⟩
    · intro r hr hno
      exact hE.frame r hr fun B b e hg ho he => hno B b e (hasAll_get ha (hOf_get hg)) ho he
    · exact hE.os
    · exact hE.output
end

/-! ### what stands for such a call -/
/-- Names worked out. -/
noncomputable def fLn : List (Nat × Blk) → (List (Nat × Blk) → R) → R
  | [], k => k []
  | (B, b) :: r, k => fN B fun B => Blk.rec (motive := fun _ => R) (fun cs fz q => fVs cs fun cs => fLn r fun r => k ((B, .c cs fz q) :: r)) (fun es c => fLn r fun r => k ((B, .mp es c) :: r)) (fun l p => fLn r fun r => k ((B, .it l p) :: r)) b
theorem fLn_eq : ∀ (l : List (Nat × Blk)) (k : List (Nat × Blk) → R), fLn l k = k l
  | [], _ => rfl
  | (B, b) :: r, k => by
    simp only [fLn]
    rw [fN_eq]
    cases b with
    | c cs fz q =>
      show fVs cs (fun cs => fLn r fun r => k ((B, .c cs fz q) :: r)) = _
      rw [fVs_eq, fLn_eq r]
    | mp es c =>
      show fLn r (fun r => k ((B, .mp es c) :: r)) = _
      rw [fLn_eq r]
    | it l p =>
      show fLn r (fun r => k ((B, .it l p) :: r)) = _
      rw [fLn_eq r]

noncomputable def primS (args : List V) (la : List (Nat × Blk)) (NA : Nat) (v : V) (ln : List (Nat × Blk)) (NX : Nat) (args' : List V) (h : H) : R :=
  ifB (eqvs args' args) (ifB (Nat.ble h.nx NA) (ifB (hasAll h la) (fLn (shL NA h.nx ln) fun l => putLF l h.t fun t => fV (shV NA h.nx v) fun v => fN (h.nx + (NX - NA)) fun nx => some (v, ⟨nx, t⟩)) none) none) none

variable {T : TT} {FT : Tr FN}
theorem primS_ok (hT : TOK P T) (hmix : P.follows .mixedOrders = true) (hF : TrAll (FGood P T) FT id) {n d g : Nat} {args : List V} {la ln : List (Nat × Blk)} {NA NX : Nat} {v : V}
    (hr : isS (callF FT n d g args (hOf NA la) (kM v la ln NX)) = true) (hk : namesOK la ln NA NX = true) (hc : cellsOnly la = true) (hcn : cellsOnly ln = true) : PrimOK P g (primS args la NA v ln NX) := by
  intro args' h v' h' hf ι xs w hg hargs hh
  obtain ⟨h1, hf⟩ := ifB_some hf
  obtain ⟨h2, hf⟩ := ifB_some hf
  obtain ⟨h3, hf⟩ := ifB_some hf
  rw [fLn_eq, putLF_eq, fV_eq, fN_eq] at hf
  injection hf with hf
  injection hf with e1 e2
  subst e1; subst e2
  have h1 := eqvs_eq h1
  subst h1
  have h2 := Nat.le_of_ble_eq_true h2
  obtain ⟨r, hr⟩ := isS_some hr
  refine (calls_of_callF hT hmix hF hr hg hargs (hh.sub h2 h3)).mono fun e w' ⟨v2, h2', hk2, x, ι', he, hv, g1, g2⟩ => ?_
  obtain ⟨k1, k2, k3, k4⟩ := kM_some hk2
  subst k1
  obtain ⟨ι2, m0, m1, m2⟩ := moved hh h2 h3 hc hcn g1 g2 k2 k3 k4 hk
  exact ⟨x, ι2, he, VR_shift m0 hv, m1, m2⟩

end Go.Ev

/-! A function's code run with calls known by others' runs. -/
namespace Go.Ev
variable {P : Program} {T : TT}

theorem code_ok (hT : TOK P T) (hmix : P.follows .mixedOrders = true) {call : CallF} (hcall : CallsOK P call) (hent : ∀ (g : Nat) (args : List V) (h : H) (v : V) (h' : H), call g args h = some (v, h') → Enters P g) {n g np : Nat} {b : BC} {fn : Func} {hint : BC}
    (hfn : P.funcs[g]? = some fn) (hcomp : compF T fn np hint = some b) {args : List V} {h h' : H} {v : V} (hlen : args.length = np)
    (hc : (match execD call n b args h with | some (.ret v, h') => some (v, h') | _ => none) = some (v, h')) {ι : Iota} {xs : Array Value} {w : World} (hg : Globs P ι) (hargs : VRs ι args xs.toList) (hh : HRel ι h w) :
    Calls P g xs w fun e w' => ∃ x ι', e = .returned x ∧ VR ι' v x ∧ HRel ι' h' w' ∧ Ext ι h w ι' h' w' := by
  unfold compF at hcomp
  split at hcomp
  · cases hcomp
  · rename_i c hbody
    split at hcomp
    · rename_i hnp
      have hsz : xs.size = np := by
        have := hargs.length
        rw [hlen] at this
        simpa using this.symm
      have hnp' : np ≤ fn.ntmps := by simpa using hnp
      refine calls_of_wp hfn hbody ?_
      have hrel0 : Rel fn.ntmps ι (fun t => args.getD t (.tu [])) { tmps := xs ++ Array.replicate (fn.ntmps - xs.size) undef, defers := [] } := by
        refine ⟨by simp; omega, fun t => ?_, rfl⟩
        by_cases ht : t < xs.size
        · have h1 : t < args.length := by omega
          obtain ⟨x, e1, e2⟩ := hargs.get t _ (List.getElem?_eq_getElem h1)
          have e3 : xs[t]? = some x := by rw [← Array.getElem?_toList]; exact e1
          have e4 : (xs ++ Array.replicate (fn.ntmps - xs.size) undef).getD t undef = x := by
            rw [Array.getD_eq_getD_getElem?, Array.getElem?_append_left ht, e3]; rfl
          simp only [e4]
          rw [List.getD_eq_getElem?_getD, List.getElem?_eq_getElem h1]
          exact e2
        · have h1 : args.length ≤ t := by omega
          have e4 : (xs ++ Array.replicate (fn.ntmps - xs.size) undef).getD t undef = undef := by
            rw [Array.getD_eq_getD_getElem?, Array.getElem?_append_right (by omega)]
            rw [Array.getElem?_replicate]
            split <;> rfl
          simp only [e4]
          rw [List.getD_eq_getElem?_getD, List.getElem?_eq_none h1]
          exact .tu _ _ .nil
      have hag0 : Agree ((List.range np).map ([·])) (fun t => args.getD t (.tu [])) args := by
        intro t p hp
        rw [List.range_eq_range'] at hp
        obtain ⟨h1, h2⟩ := posOf_range' hp
        have h3 : t = p := by omega
        subst h3
        have : t < args.length := by omega
        simp [List.getD_eq_getElem?_getD, this]
      -- what is wanted of the end
      have hpost : ∀ (lo : Option Lay) (b' : BC) (ex : EX) (hE : H), execD (call) n b' args h = some (ex, hE) → (compC T fn.ntmps fn.results.toList hint c [] ((List.range np).map ([·])) = some (b', lo)) →
          (match ex with
            | .nrm env' => ∃ L rs vs, lo = some L ∧ retP T L fn.results.toList = some rs ∧ retsD rs env' hE = some vs ∧ v = retV vs ∧ h' = hE
            | .exit _ _ => True
            | .ret v' => v' = v ∧ hE = h') →
          c.wp P (bodyPost P fn fun e w' => ∃ x ι', e = .returned x ∧ VR ι' v x ∧ HRel ι' h' w' ∧ Ext ι h w ι' h' w') { tmps := xs ++ Array.replicate (fn.ntmps - xs.size) undef, defers := [] } w := by
        intro lo b' ex hE hex hcc hend
        refine code_wp hT hmix hcall hent hint c [] _ b' lo hcc args h ex hE hex ι _ _ w hg hag0 hrel0 hh _ fun ι1 tm1 a1 w1 r1 r2 r3 => ?_
        cases ex with
        | nrm env1 =>
          rintro ⟨L', e1, e2⟩
          obtain ⟨L, rs, vs, e3, e4, e5, rfl, rfl⟩ := hend
          rw [e1] at e3; injection e3 with e3; subst e3
          obtain ⟨x, e6, e7⟩ := retP_results hT e2 r1 r2 e4 e5
          exact ⟨r1.defers, x, e6, x, ι1, rfl, e7, r2, r3⟩
        | exit id env1 =>
          rintro ⟨L', e1, e2⟩
          simp [cxOf] at e1
        | ret v1 =>
          rintro ⟨x, e1, e2⟩
          obtain ⟨rfl, rfl⟩ := hend
          exact ⟨r1.defers, x, e1, x, ι1, rfl, e2, r2, r3⟩
      split at hc
      · rename_i v1 h1 hex
        simp only [Option.some.injEq, Prod.mk.injEq] at hc
        obtain ⟨rfl, rfl⟩ := hc
        split at hcomp
        · cases hcomp
        · rename_i b' hcc
          injection hcomp with hcomp; subst hcomp
          exact hpost none b' _ h1 hex hcc ⟨rfl, rfl⟩
        · rename_i b' L hcc
          split at hcomp
          · rename_i rs hrs
            injection hcomp with hcomp; subst hcomp
            simp only [execD] at hex
            split at hex
            · rename_i env1 h2 he
              split at hex
              · rename_i vs hvs
                simp only [Option.some.injEq, Prod.mk.injEq, EX.ret.injEq] at hex
                obtain ⟨rfl, rfl⟩ := hex
                exact hpost (some L) b' _ h2 he hcc ⟨L, rs, vs, rfl, hrs, hvs, rfl, rfl⟩
              · cases hex
            · exact hpost (some L) b' _ h1 hex hcc ⟨rfl, rfl⟩
          · cases hcomp
      · cases hc
    · cases hcomp

noncomputable def codeB (FT : Tr FN) (n d np : Nat) (b : BC) (args : List V) (h : H) : R :=
  ifB (Nat.beq args.length np) (execF (callF FT n d) n b args h (fun _ _ => none) (fun _ _ _ => none) fun v h => some (v, h)) none
theorem codeB_ok {FT : Tr FN} (hT : TOK P T) (hmix : P.follows .mixedOrders = true) (hF : TrAll (FGood P T) FT id) {n d g np : Nat} {b : BC} (hG : FGood P T g (.code np b)) : PrimOK P g (codeB FT n d np b) := by
  intro args h v h' hf ι xs w hg hargs hh
  obtain ⟨_, fn, hint, hfn, hcomp⟩ := hG
  obtain ⟨h1, hf⟩ := ifB_some hf
  obtain ⟨ex, h2, h3, h4⟩ := execF_some (callF_some d) b args h _ _ _ _ hf
  have hlen : args.length = np := by simpa using h1
  cases ex with
  | nrm env' => cases h4
  | exit id env' => cases h4
  | ret v1 =>
    injection h4 with h4
    injection h4 with e1 e2
    subst e1; subst e2
    exact code_ok hT hmix (callD_ok hT hmix (FTOK.of_tree hF) d) (callD_enters (FTOK.of_tree hF) d) hfn hcomp hlen (by rw [h3]) hg hargs hh

end Go.Ev

/-! A run with a number that came in: the code is parted where the number is brought down to a few. -/
namespace Go.Ev
variable {P : Program}

def nest : List BC → BC → BC
  | [], x => x
  | a :: l, x => .seq a (nest l x)
def spine : Nat → BC → List BC × BC
  | n + 1, .seq a b => (a :: (spine n b).1, (spine n b).2)
  | _, b => ([], b)
theorem nest_spine : ∀ (n : Nat) (b : BC), nest (spine n b).1 (spine n b).2 = b
  | 0, b => rfl
  | n + 1, b => by
    cases b <;> first | rfl | skip
    rename_i a b
    exact congrArg (BC.seq a) (nest_spine n b)

def seqL : BC → BC
  | .seq a _ => a
  | b => b
def seqR : BC → BC
  | .seq _ b => b
  | b => b

theorem nest_run {call : CallF} {n : Nat} : ∀ {l : List BC} {x : BC} {env env' : List V} {h h' : H}, execD call n (nest l .skip) env h = some (.nrm env', h') → execD call n (nest l x) env h = execD call n x env' h'
  | [], x, env, env', h, h', hr => by
    simp only [nest, execD, Option.some.injEq, Prod.mk.injEq, EX.nrm.injEq] at hr
    rw [hr.1, hr.2]
    rfl
  | a :: l, x, env, env', h, h', hr => by
    simp only [nest, execD] at hr ⊢
    cases ha : execD call n a env h with
    | none => rw [ha] at hr; cases hr
    | some p =>
      obtain ⟨ex, h1⟩ := p
      rw [ha] at hr
      cases ex with
      | nrm env1 => exact nest_run (l := l) hr
      | exit id env1 => cases hr
      | ret v => cases hr

theorem runB_nil (call : CallF) (env : List V) (h : H) : runB call [] env h = some (env, h) := rfl

theorem runB_op (call : CallF) (r : RO) (l : List BS) (env : List V) (h : H) : runB call (.op r :: l) env h = match stepB call r env h with | none => none | some (env, h) => runB call l env h := rfl

/-- One operation's step. -/
theorem stepB_bin {call : CallF} {d : Nat} {op : BinOp} {x y : X} {env : List V} {h : H} {v : V} (hv : binV op (evX (tmE env) x) (evX (tmE env) y) = some v) :
    stepB call ⟨some d, none, .bin op x y⟩ env h = some (v :: env, h) := by
  have h1 : semAll call (AO.map (evX (tmE env)) (.bin op x y)) h = some (v, h) := by
    have : semAll call (AO.map (evX (tmE env)) (.bin op x y)) h = (semP (AO.map (evX (tmE env)) (.bin op x y))).map (·, h) := rfl
    rw [this]
    show (binV op (evX (tmE env) x) (evX (tmE env) y)).map (·, h) = _
    rw [hv]
    rfl
  simp only [stepB, guardA, h1, pushE]

/-- (x % c + c) % c, as Go has it. -/
def md (x c : Int) : Int := (x.tmod c + c).tmod c
theorem md_lt (x : Int) {c : Int} (hc : 0 < c) : 0 ≤ md x c ∧ md x c < c := by
  have h1 := Int.tmod_lt_of_pos x hc
  have h2 := Int.lt_tmod_of_pos x hc
  have h3 : 0 ≤ x.tmod c + c := by omega
  exact ⟨Int.tmod_nonneg _ h3, Int.tmod_lt_of_pos _ hc⟩
theorem wrap_mid {a : Int} (h1 : -1000000 < a) (h2 : a < 1000000) : IntKind.i64.wrap a = a := IntWalk.i64_in a (by omega)
theorem md_run {call : CallF} {d1 d2 d3 p : Nat} {x c : Int} {env : List V} {h : H} (hc : 0 < c) (hc2 : c < 1000) (hp : env[p]? = some (.i .i64 x)) :
    runB call [.op ⟨some d1, none, .bin .rem (.t p) (.k (.i .i64 c))⟩, .op ⟨some d2, none, .bin .add (.t 0) (.k (.i .i64 c))⟩, .op ⟨some d3, none, .bin .rem (.t 0) (.k (.i .i64 c))⟩] env h =
      some (.i .i64 (md x c) :: .i .i64 (x.tmod c + c) :: .i .i64 (x.tmod c) :: env, h) := by
  have h1 := Int.tmod_lt_of_pos x hc
  have h2 := Int.lt_tmod_of_pos x hc
  have hne : ¬ c = 0 := by omega
  have hx : tmE env p = .i .i64 x := tmE_get hp
  have e1 : binV .rem (evX (tmE env) (.t p)) (evX (tmE env) (.k (.i .i64 c))) = some (.i .i64 (x.tmod c)) := by
    simp only [evX, hx, binV, binI, if_true, hne, if_false]
  have e2 : binV .add (evX (tmE (.i .i64 (x.tmod c) :: env)) (.t 0)) (evX (tmE (.i .i64 (x.tmod c) :: env)) (.k (.i .i64 c))) = some (.i .i64 (x.tmod c + c)) := by
    have : tmE (.i .i64 (x.tmod c) :: env) 0 = .i .i64 (x.tmod c) := rfl
    simp only [evX, this, binV, binI, if_true]
    rw [wrap_mid (by omega) (by omega)]
  have e3 : binV .rem (evX (tmE (.i .i64 (x.tmod c + c) :: .i .i64 (x.tmod c) :: env)) (.t 0)) (evX (tmE (.i .i64 (x.tmod c + c) :: .i .i64 (x.tmod c) :: env)) (.k (.i .i64 c))) = some (.i .i64 (md x c)) := by
    have : tmE (.i .i64 (x.tmod c + c) :: .i .i64 (x.tmod c) :: env) 0 = .i .i64 (x.tmod c + c) := rfl
    simp only [evX, this, binV, binI, if_true, hne, if_false]
    rfl
  simp only [runB, stepB_bin e1, stepB_bin e2, stepB_bin e3]

theorem rem_step {call : CallF} {d : Nat} {x y : X} {env : List V} {h : H} {a c : Int} (hx : evX (tmE env) x = .i .i64 a) (hy : evX (tmE env) y = .i .i64 c) (hc : 0 < c) :
    ∃ r : Int, -c < r ∧ r < c ∧ (0 ≤ a → 0 ≤ r) ∧ stepB call ⟨some d, none, .bin .rem x y⟩ env h = some (.i .i64 r :: env, h) := by
  refine ⟨a.tmod c, Int.lt_tmod_of_pos a hc, Int.tmod_lt_of_pos a hc, fun h => Int.tmod_nonneg _ h, stepB_bin ?_⟩
  have hne : ¬ c = 0 := by omega
  rw [hx, hy]
  simp only [binV, binI, if_true, hne, if_false]
theorem add_step {call : CallF} {d : Nat} {x y : X} {env : List V} {h : H} {a b : Int} (hx : evX (tmE env) x = .i .i64 a) (hy : evX (tmE env) y = .i .i64 b) (h1 : -1000000 < a + b) (h2 : a + b < 1000000) :
    stepB call ⟨some d, none, .bin .add x y⟩ env h = some (.i .i64 (a + b) :: env, h) := by
  refine stepB_bin ?_
  rw [hx, hy]
  simp only [binV, binI, if_true]
  rw [wrap_mid h1 h2]
theorem sub_step {call : CallF} {d : Nat} {x y : X} {env : List V} {h : H} {a b : Int} (hx : evX (tmE env) x = .i .i64 a) (hy : evX (tmE env) y = .i .i64 b) (h1 : -1000000 < a - b) (h2 : a - b < 1000000) :
    stepB call ⟨some d, none, .bin .sub x y⟩ env h = some (.i .i64 (a - b) :: env, h) := by
  refine stepB_bin ?_
  rw [hx, hy]
  simp only [binV, binI, if_true]
  rw [wrap_mid h1 h2]
theorem same_end {call : CallF} {n : Nat} {b : BC} {env e1 e2 : List V} {h h1 h2 : H} (a : execD call n b env h = some (.nrm e1, h1)) (c : execD call n b env h = some (.nrm e2, h2)) : e1 = e2 ∧ h1 = h2 := by
  rw [a] at c
  injection c with c
  injection c with c d
  injection c with c
  exact ⟨c, d⟩

/-- The end of a run of a piece. -/
def kI (env : List V) (h : H) : R := some (.tu env, h)
noncomputable def kP (p : Nat) (env : List V) (_ : H) : R := getE p env fun v => some (v, ⟨0, .lf⟩)
def noE : Nat → KE := fun _ _ _ => none
def noR : V → H → R := fun _ _ => none
def noN : KE := fun _ _ => none

/-- The run of the code ahead: it ends at its end; what lies at a place. -/
theorem ahead_at {call : CallF} {ck : CallK} (hc : CSnd call ck) {n p : Nat} {b : BC} {env : List V} {h : H} {v : V}
    (hr : execF ck n b env h (kP p) noE noR = some (v, ⟨0, .lf⟩)) : ∃ env' h', execD call n b env h = some (.nrm env', h') ∧ env'[p]? = some v := by
  obtain ⟨ex, h', h1, h2⟩ := execF_some hc b env h _ _ _ _ hr
  cases ex with
  | nrm env' =>
    obtain ⟨w, h3, h4⟩ := getE_some (n := p) (env := env') h2
    injection h4 with h4
    injection h4 with h4 _
    subst h4
    exact ⟨env', h', h1, h3⟩
  | exit id env' => cases h2
  | ret w => cases h2

/-- The run of the code ahead, then another piece's with some values more. -/
theorem ahead_then {call : CallF} {ck : CallK} (hc : CSnd call ck) {n : Nat} {b x : BC} {env : List V} {h : H} {vs : List V}
    (hr : isS (execF ck n b env h (fun env h => execF ck n x (vs ++ env) h noN noE kT) noE noR) = true) {env' : List V} {h' : H} (hb : execD call n b env h = some (.nrm env', h')) :
    ∃ h'', execD call n x (vs ++ env') h' = some (.ret (.b true), h'') := by
  obtain ⟨r, hr⟩ := isS_some hr
  obtain ⟨ex, h1, h2, h3⟩ := execF_some hc b env h _ _ _ _ hr
  rw [hb] at h2
  injection h2 with h2
  injection h2 with h2 h4
  subst h2; subst h4
  obtain ⟨ex2, h5, h6, h7⟩ := execF_some hc x _ _ _ _ _ _ h3
  cases ex2 with
  | nrm env2 => cases h7
  | exit id env2 => cases h7
  | ret w =>
    have := kT_some (h := h5) h7
    subst this
    exact ⟨h5, h6⟩

theorem callD_code {FT : Nat → Option FN} {n d g np : Nat} {b : BC} (hg : FT g = some (.code np b)) {args : List V} (hl : args.length = np) {h h' : H} {v : V} (hx : execD (callD FT n d) n b args h = some (.ret v, h')) :
    callD FT n (d + 1) g args h = some (v, h') := by
  simp only [callD, hg, hl, if_true, hx]

/-- What stands for a call, by a run in general. -/
theorem prim_of_callD {T : TT} {FT : Tr FN} (hT : TOK P T) (hmix : P.follows .mixedOrders = true) (hF : TrAll (FGood P T) FT id) {g : Nat} {f : List V → H → R}
    (hf : ∀ args h v h', f args h = some (v, h') → ∃ n d, callD (fun g => FT.get g) n d g args h = some (v, h')) : PrimOK P g f := by
  intro args h v h' hr ι xs w hg hargs hh
  obtain ⟨n, d, h1⟩ := hf args h v h' hr
  exact callD_ok hT hmix (FTOK.of_tree hF) d g args h v h' h1 ι xs w hg hargs hh

/-- What a run gives the row. -/
theorem calls_of_callD {T : TT} {FT : Tr FN} (hT : TOK P T) (hmix : P.follows .mixedOrders = true) (hF : TrAll (FGood P T) FT id) {n d g : Nat} {args : List V} {h h' : H}
    (hr : callD (fun g => FT.get g) n d g args h = some (.b true, h')) {ι : Iota} {xs : Array Value} {w : World} (hg : Globs P ι) (hargs : VRs ι args xs.toList) (hh : HRel ι h w) :
    Calls P g xs w fun e w' => e = .returned (.bool true) ∧ ∃ ι' h', HRel ι' h' w' ∧ Ext ι h w ι' h' w' := by
  refine (callD_ok hT hmix (FTOK.of_tree hF) d g args h _ h' hr ι xs w hg hargs hh).mono fun e w' ⟨x, ι', he, hv, h1, h2⟩ => ?_
  cases hv
  exact ⟨he, ι', h', h1, h2⟩

end Go.Ev

/-! Reasoning by hand over compiled code: rows that grow. -/
namespace Go.Ev

theorem loopD_one (body : List V → H → Option (EX × H)) (n : Nat) (env : List V) (h : H) : loopD body (n + 1) env h = match body env h with | some (.nrm e, h') => loopD body n e h' | r => r := rfl

/-- vs laid over cs from off on. -/
theorem layU_len : ∀ (vs cs : List V) (off : Nat), (layAt cs off vs).length = cs.length
  | [], _, _ => rfl
  | v :: vs, cs, off => by
    simp only [layAt]
    rw [layU_len vs]
    simp
theorem layU_get : ∀ (vs cs : List V) (off : Nat), off + vs.length ≤ cs.length → ∀ j, (layAt cs off vs)[j]? = if off ≤ j ∧ j < off + vs.length then vs[j - off]? else cs[j]?
  | [], cs, off, h, j => by
    have hn : ¬ (off ≤ j ∧ j < off + ([] : List V).length) := fun hh => by have := hh.2; simp at this; omega
    rw [if_neg hn]
    rfl
  | v :: vs, cs, off, h, j => by
    simp only [layAt]
    simp only [List.length_cons] at h
    rw [layU_get vs _ _ (by simp; omega)]
    by_cases h1 : off + 1 ≤ j ∧ j < off + 1 + vs.length
    · have h2 : off ≤ j ∧ j < off + (v :: vs).length := by simp; omega
      rw [if_pos h1, if_pos h2]
      have : j - off = (j - (off + 1)) + 1 := by omega
      rw [this]
      rfl
    · rw [if_neg h1]
      by_cases h3 : j = off
      · subst h3
        have h2 : j ≤ j ∧ j < j + (v :: vs).length := by simp
        rw [if_pos h2]
        have : j < cs.length := by omega
        simp [this]
      · have h2 : ¬ (off ≤ j ∧ j < off + (v :: vs).length) := by simp; omega
        rw [if_neg h2, List.getElem?_set_ne (by omega)]
/-- What is laid right behind the first cells: they grow by it. -/
theorem layAt_take {vs cs : List V} {off : Nat} (h : off + vs.length ≤ cs.length) : (layAt cs off vs).take (off + vs.length) = cs.take off ++ vs := by
  apply List.ext_getElem?
  intro j
  rw [List.getElem?_take]
  by_cases h1 : j < off + vs.length
  · rw [if_pos h1, layU_get vs cs off h]
    by_cases h2 : off ≤ j
    · rw [if_pos ⟨h2, h1⟩, List.getElem?_append_right (by simp; omega)]
      congr 1
      simp
      omega
    · rw [if_neg (by omega), List.getElem?_append_left (by simp; omega), List.getElem?_take, if_pos (by omega)]
  · rw [if_neg h1, List.getElem?_eq_none]
    simp
    omega

/-- A row of the function's own that grows by append: its block, its first cells. -/
structure AR (h : H) (v : V) (sz : Nat) (cells : List V) (B : Nat) : Prop where
  ex : ∃ len cap xf cs q, v = .sl B 0 len cap xf ∧ h.get B = some (.c cs 0 q) ∧ q % 4 < 2 ∧ (xf = 0 ∨ xf = sz) ∧ len ≤ cap ∧ cs.length = cap * sz ∧ cs.take (len * sz) = cells ∧ cells.length = len * sz

theorem AR.frame {h h' : H} {v : V} {sz : Nat} {cells : List V} {B : Nat} (a : AR h v sz cells B) (hg : h'.get B = h.get B) : AR h' v sz cells B := by
  obtain ⟨len, cap, xf, cs, q, h1, h2, h3⟩ := a.ex
  exact ⟨⟨len, cap, xf, cs, q, h1, hg.trans h2, h3⟩⟩

/-- One element appended. -/
theorem AR.app {h : H} {v : V} {sz tg bytes : Nat} {cells news : List V} {B Bn : Nat} (a : AR h v sz cells B) (hsz : 0 < sz) (hb : 0 < bytes) (hb2 : bytes ≤ 65536) (htg : tg % 4 = 0) (hlen : cells.length < 1000000)
    (hn : h.get Bn = some (.c news 0 0)) (hnl : news.length = sz) (hone : news.all V.one = true) (hB : B < h.nx) :
    ∃ v' h' B', semE (.app tg sz bytes v (.sl Bn 0 1 1 0)) h = some (v', h') ∧ AR h' v' sz (cells ++ news) B' ∧ (B' = B ∨ B' = h.nx) ∧ B' < h'.nx ∧ h.nx ≤ h'.nx ∧ ∀ j, j ≠ B → j < h.nx → h'.get j = h.get j := by
  obtain ⟨len, cap, xf, cs, q, rfl, hg, hq, hxf, hlc, hcs, htk, hcl⟩ := a.ex
  have hsrc : srcOf h sz (.sl Bn 0 1 1 0) = some (1, news) := by
    have ht : news.take sz = news := List.take_of_length_le (by omega)
    simp [srcOf, cellsAt, hn, hnl, ht]
  have hlen2 : len < 1000000 := by
    rw [hcl] at hlen
    have : len * 1 ≤ len * sz := Nat.mul_le_mul_left len hsz
    omega
  have c1 : ¬ (sz = 0 ∨ bytes = 0 ∨ 65536 < bytes ∨ tg % 4 ≠ 0) := by omega
  by_cases hfit : len + 1 ≤ cap
  · have hroom : len * sz + news.length ≤ cs.length := by
      rw [hnl, hcs]
      have := Nat.mul_le_mul_right sz hfit
      rw [Nat.add_mul, Nat.one_mul] at this
      exact this
    have hst : stAt h B (0 + len * sz) news = some (h.put B (some (.c (layAt cs (len * sz) news) 0 q))) := by
      have c2 : ¬ (2 ≤ q % 4 ∨ 0 + len * sz < 0 ∨ cs.length < 0 + len * sz + news.length ∨ (!(news.all V.one)) = true) := by
        rw [hone]
        simp
        omega
      cases news with
      | nil => simp at hnl; omega
      | cons v0 vs =>
        show (match h.get B with | some (.c cs fz q) => if 2 ≤ q % 4 ∨ 0 + len * sz < fz ∨ cs.length < 0 + len * sz + (v0 :: vs).length ∨ (!((v0 :: vs).all V.one)) = true then none else some (h.put B (some (.c (layAt cs (0 + len * sz) (v0 :: vs)) fz q))) | _ => none) = _
        rw [hg]
        simp only [if_neg c2]
        rw [Nat.zero_add]
    refine ⟨.sl B 0 (len + 1) cap xf, h.put B (some (.c (layAt cs (len * sz) news) 0 q)), B, ?_, ?_, .inl rfl, hB, Nat.le_refl _, ?_⟩
    · simp only [semE, hsrc, if_neg c1, if_pos hfit, hst, Option.map_some]
    · refine ⟨len + 1, cap, xf, layAt cs (len * sz) news, q, rfl, by rw [H.get_put, if_pos rfl], hq, hxf, hfit, by rw [layU_len, hcs], ?_, ?_⟩
      · have e : (len + 1) * sz = len * sz + news.length := by rw [hnl, Nat.add_mul, Nat.one_mul]
        rw [e, layAt_take hroom, htk]
      · rw [List.length_append, hcl, hnl, Nat.add_mul, Nat.one_mul]
    · intro j hj _
      rw [H.get_put, if_neg hj]
  · have hcap : cap = len := by omega
    subst hcap
    have c3 : ¬ 1073741824 < cap + 1 := by omega
    have hold : cellsAt h B 0 (cap * sz) = some cells := by
      unfold cellsAt
      rw [hg]
      have : 0 + cap * sz ≤ cs.length := by omega
      simp only [if_pos this, List.drop_zero, htk]
    rcases hxf with rfl | rfl
    · refine ⟨.sl h.nx 0 (cap + 1) (cap + 1) sz, h.new (.c (cells ++ news) 0 tg), h.nx, ?_, ?_, .inr rfl, by simp, by simp, ?_⟩
      · simp only [semE, hsrc, if_neg c1, if_neg hfit, if_neg c3, hold, if_true]
      · refine ⟨cap + 1, cap + 1, sz, cells ++ news, tg, rfl, by rw [H.get_new, if_pos rfl], by omega, .inr rfl, Nat.le_refl _, ?_, ?_, ?_⟩
        · rw [List.length_append, hcl, hnl, Nat.add_mul, Nat.one_mul]
        · apply List.take_of_length_le
          rw [List.length_append, hcl, hnl, Nat.add_mul, Nat.one_mul]
          omega
        · rw [List.length_append, hcl, hnl, Nat.add_mul, Nat.one_mul]
      · intro j _ hj
        rw [H.get_new, if_neg (by omega)]
    · have c4 : ¬ xf = 0 := by omega
      have c5 : ¬ (2 ≤ q % 4 ∨ 0 + cap * xf < 0) := by omega
      refine ⟨.sl h.nx 0 (cap + 1) (cap + 1) xf, (h.put B none).new (.c (cells ++ news) (0 - 0) (regrowQ tg q 0)), h.nx, ?_, ?_, .inr rfl, by simp, by simp, ?_⟩
      · simp only [semE, hsrc, if_neg c1, if_neg hfit, if_neg c3, hold, if_neg c4, if_true, hg, if_neg c5]
      · refine ⟨cap + 1, cap + 1, xf, cells ++ news, regrowQ tg q 0, rfl, ?_, ?_, .inr rfl, Nat.le_refl _, ?_, ?_, ?_⟩
        · rw [H.get_new]
          exact if_pos rfl
        · unfold regrowQ
          split <;> omega
        · rw [List.length_append, hcl, hnl, Nat.add_mul, Nat.one_mul]
        · apply List.take_of_length_le
          rw [List.length_append, hcl, hnl, Nat.add_mul, Nat.one_mul]
          omega
        · rw [List.length_append, hcl, hnl, Nat.add_mul, Nat.one_mul]
      · intro j hj hjn
        rw [H.get_new]
        rw [if_neg (by simp; omega), H.get_put, if_neg hj]

end Go.Ev
