import Derived.Test.YtmbpjpffafidhaaGreatDoorCmL4
/-! The same, for the kernel: recursors, continuations, all numbers forced. -/
namespace Go.Ev

abbrev R := Option (V × H)

/-- A number, worked out. -/
noncomputable def fN (n : Nat) (k : Nat → R) : R := Nat.rec (motive := fun _ => R) (k Nat.zero) (fun m _ => k (Nat.succ m)) n
noncomputable def fI (n : Int) (k : Int → R) : R := Int.rec (motive := fun _ => R) (fun m => fN m fun m => k (Int.ofNat m)) (fun m => fN m fun m => k (Int.negSucc m)) n
noncomputable def fB (b : Bool) (k : Bool → R) : R := Bool.rec (motive := fun _ => R) (k false) (k true) b
noncomputable def ifB (b : Bool) (x y : R) : R := Bool.rec (motive := fun _ => R) y x b
noncomputable def fL (l : List Nat) (k : List Nat → R) : R :=
  List.rec (motive := fun _ => (List Nat → R) → R) (fun k => k []) (fun x _ ih k => fN x fun x => ih fun l => k (x :: l)) l k
noncomputable def fV (v : V) (k : V → R) : R :=
  V.rec (motive_1 := fun _ => (V → R) → R) (motive_2 := fun _ => (List V → R) → R)
    (fun x k => fB x fun x => k (.b x))
    (fun ik n k => fI n fun n => k (.i ik n))
    (fun l k => fL l fun l => k (.s l))
    (fun B o k => fN B fun B => fN o fun o => k (.p B o))
    (fun k => k .pn)
    (fun B o len cap x k => fN B fun B => fN o fun o => fN len fun len => fN cap fun cap => fN x fun x => k (.sl B o len cap x))
    (fun k => k .sn)
    (fun B k => fN B fun B => k (.m B))
    (fun k => k .mn)
    (fun g _ _ ih1 ih2 k => ih1 fun a => ih2 fun b => k (.f g a b))
    (fun k => k .fn)
    (fun t _ ih k => ih fun v => k (.ic t v))
    (fun k => k .inn)
    (fun _ ih k => ih fun cs => k (.ag cs))
    (fun _ ih k => ih fun cs => k (.tu cs))
    (fun k => k .u)
    (fun k => k [])
    (fun _ _ ih1 ih2 k => ih1 fun v => ih2 fun vs => k (v :: vs))
    v k
noncomputable def fVs (l : List V) (k : List V → R) : R :=
  List.rec (motive := fun _ => (List V → R) → R) (fun k => k []) (fun x _ ih k => fV x fun x => ih fun l => k (x :: l)) l k

noncomputable def getE (n : Nat) (env : List V) (k : V → R) : R :=
  Nat.rec (motive := fun _ => List V → (V → R) → R)
    (fun env k => List.rec (motive := fun _ => R) none (fun v _ _ => k v) env)
    (fun _ ih env k => List.rec (motive := fun _ => R) none (fun _ tl _ => ih tl k) env) n env k
noncomputable def xF (x : X) (env : List V) (k : V → R) : R := X.rec (motive := fun _ => R) (fun v => k v) (fun n => getE n env k) x

noncomputable def trGet {α : Type} (t : Tr α) (key : Nat) (k : α → R) : R :=
  Tr.rec (motive := fun _ => Nat → (α → R) → R) (fun _ _ => none)
    (fun _ x _ ihl ihr key k => Nat.rec (motive := fun _ => R) (Option.rec (motive := fun _ => R) none k x)
      (fun m _ => ifB (Nat.beq (Nat.mod m 2) 0) (ihl (Nat.div m 2) k) (ihr (Nat.div m 2) k)) key) t key k
noncomputable def putF (f : Nat) (v : Option Blk) (t : Tr Blk) (key : Nat) (k : Tr Blk → R) : R :=
  Nat.rec (motive := fun _ => Tr Blk → Nat → (Tr Blk → R) → R) (fun t _ k => k t)
    (fun _ ih t key k => Tr.rec (motive := fun _ => R)
      (Nat.rec (motive := fun _ => R) (k (.nd .lf v .lf)) (fun m _ => ifB (Nat.beq (Nat.mod m 2) 0) (ih .lf (Nat.div m 2) fun l => k (.nd l none .lf)) (ih .lf (Nat.div m 2) fun r => k (.nd .lf none r))) key)
      (fun l x r _ _ => Nat.rec (motive := fun _ => R) (k (.nd l v r)) (fun m _ => ifB (Nat.beq (Nat.mod m 2) 0) (ih l (Nat.div m 2) fun l => k (.nd l x r)) (ih r (Nat.div m 2) fun r => k (.nd l x r))) key) t) f t key k
noncomputable def hGet (h : H) (B : Nat) (k : Blk → R) : R := H.rec (motive := fun _ => R) (fun _ t => trGet t B k) h
noncomputable def hPut (h : H) (B : Nat) (v : Option Blk) (k : H → R) : R := H.rec (motive := fun _ => R) (fun nx t => putF (Nat.succ B) v t B fun t => k (.mk nx t)) h
noncomputable def hNew (h : H) (b : Blk) (k : Nat → H → R) : R := H.rec (motive := fun _ => R) (fun nx t => putF (Nat.succ nx) (some b) t nx fun t => fN (Nat.succ nx) fun nx' => k nx (.mk nx' t)) h

abbrev K := List V → H → (V → H → R) → R

/-- The slow road: the meaning itself. -/
def slow (ao : AO X) : K := fun env h k => match semAll (fun _ _ _ => none) (ao.map (evX (tmE env))) h with
  | some (v, h') => k v h'
  | none => none
noncomputable def slowF (ao : AO X) : K := fun env h k => slow ao env h fun v h => fV v fun v => k v h

noncomputable def asI (v : V) (k : IntKind → Int → R) : R :=
  V.rec (motive_1 := fun _ => R) (motive_2 := fun _ => R) (fun _ => none) (fun ik n => k ik n) (fun _ => none) (fun _ _ => none) none (fun _ _ _ _ _ => none) none (fun _ => none) none (fun _ _ _ _ _ => none) none (fun _ _ _ => none) none (fun _ _ => none) (fun _ _ => none) none none (fun _ _ _ _ => none) v
noncomputable def asB (v : V) (k : Bool → R) : R :=
  V.rec (motive_1 := fun _ => R) (motive_2 := fun _ => R) (fun b => k b) (fun _ _ => none) (fun _ => none) (fun _ _ => none) none (fun _ _ _ _ _ => none) none (fun _ => none) none (fun _ _ _ _ _ => none) none (fun _ _ _ => none) none (fun _ _ => none) (fun _ _ => none) none none (fun _ _ _ _ => none) v
noncomputable def asP (v : V) (k : Nat → Nat → R) : R :=
  V.rec (motive_1 := fun _ => R) (motive_2 := fun _ => R) (fun _ => none) (fun _ _ => none) (fun _ => none) (fun B o => k B o) none (fun _ _ _ _ _ => none) none (fun _ => none) none (fun _ _ _ _ _ => none) none (fun _ _ _ => none) none (fun _ _ => none) (fun _ _ => none) none none (fun _ _ _ _ => none) v
noncomputable def asTu (v : V) (k : List V → R) : R :=
  V.rec (motive_1 := fun _ => R) (motive_2 := fun _ => R) (fun _ => none) (fun _ _ => none) (fun _ => none) (fun _ _ => none) none (fun _ _ _ _ _ => none) none (fun _ => none) none (fun _ _ _ _ _ => none) none (fun _ _ _ => none) none (fun _ _ => none) (fun vs _ => k vs) none none (fun _ _ _ _ => none) v
noncomputable def asSl (v : V) (k : Nat → Nat → Nat → Nat → Nat → R) (kn e : R) : R :=
  V.rec (motive_1 := fun _ => R) (motive_2 := fun _ => R) (fun _ => e) (fun _ _ => e) (fun _ => e) (fun _ _ => e) e (fun B o len cap x => k B o len cap x) kn (fun _ => e) e (fun _ _ _ _ _ => e) e (fun _ _ _ => e) e (fun _ _ => e) (fun _ _ => e) e e (fun _ _ _ _ => e) v

noncomputable def maxN (ik : IntKind) : Nat := IntKind.rec (motive := fun _ => Nat) 127 32767 2147483647 9223372036854775807 255 65535 4294967295 18446744073709551615 ik

noncomputable def optF (o : Option V) (k : V → R) : R := Option.rec (motive := fun _ => R) none (fun v => fV v k) o
noncomputable def slowI (op : BinOp) (ik : IntKind) (a : Int) (ik' : IntKind) (b : Int) (k : V → R) : R := optF (binV op (.i ik a) (.i ik' b)) k
noncomputable def clampN (ik : IntKind) (s : Nat) (k : V → R) (e : R) : R := ifB (Nat.ble s (maxN ik)) (fN s fun s => k (.i ik (Int.ofNat s))) e

noncomputable def ikN (ik : IntKind) : Nat := IntKind.rec (motive := fun _ => Nat) 0 1 2 3 4 5 6 7 ik
abbrev KI := IntKind → Int → IntKind → Int → (V → R) → R
noncomputable def nat2' (op : BinOp) (f : IntKind → Nat → Nat → (V → R) → R → R) : KI := fun ik a ik' b k =>
  Int.rec (motive := fun _ => R) (fun m => Int.rec (motive := fun _ => R) (fun n => f ik m n k (slowI op ik (.ofNat m) ik' (.ofNat n) k)) (fun n => slowI op ik (.ofNat m) ik' (.negSucc n) k) b) (fun m => slowI op ik (.negSucc m) ik' b k) a
noncomputable def nat2 (op : BinOp) (f : IntKind → Nat → Nat → (V → R) → R → R) : KI := fun ik a ik' b k => ifB (Nat.beq (ikN ik) (ikN ik')) (nat2' op f ik a ik' b k) none
noncomputable def iAdd : KI := nat2 .add fun ik m n k e => clampN ik (Nat.add m n) k e
noncomputable def iSub : KI := nat2 .sub fun ik m n k e => ifB (Nat.ble n m) (clampN ik (Nat.sub m n) k e) e
noncomputable def iMul : KI := nat2 .mul fun ik m n k e => clampN ik (Nat.mul m n) k e
noncomputable def iQuo : KI := nat2 .quo fun ik m n k e => ifB (Nat.beq n 0) e (clampN ik (Nat.div m n) k e)
noncomputable def iRem : KI := nat2 .rem fun ik m n k e => ifB (Nat.beq n 0) e (fN (Nat.mod m n) fun r => k (.i ik (Int.ofNat r)))
noncomputable def bV (b : Bool) (k : V → R) : R := Bool.rec (motive := fun _ => R) (k (.b false)) (k (.b true)) b
noncomputable def iEql : KI := nat2 .eql fun _ m n k _ => bV (Nat.beq m n) k
noncomputable def iNeq : KI := nat2 .neq fun _ m n k _ => Bool.rec (motive := fun _ => R) (k (.b true)) (k (.b false)) (Nat.beq m n)
noncomputable def iLss : KI := nat2 .lss fun _ m n k _ => bV (Nat.ble (Nat.succ m) n) k
noncomputable def iLeq : KI := nat2 .leq fun _ m n k _ => bV (Nat.ble m n) k
noncomputable def iGtr : KI := nat2 .gtr fun _ m n k _ => bV (Nat.ble (Nat.succ n) m) k
noncomputable def iGeq : KI := nat2 .geq fun _ m n k _ => bV (Nat.ble n m) k
noncomputable def iAnd : KI := nat2 .and fun ik m n k e => clampN ik (Nat.land m n) k e
noncomputable def iOr : KI := nat2 .or fun ik m n k e => clampN ik (Nat.lor m n) k e
noncomputable def iXor : KI := nat2 .xor fun ik m n k e => clampN ik (Nat.xor m n) k e
noncomputable def bitsN (ik : IntKind) : Nat := IntKind.rec (motive := fun _ => Nat) 8 16 32 64 8 16 32 64 ik
noncomputable def iShl : KI := nat2' .shl fun ik m n k e => ifB (Nat.ble n (bitsN ik)) (clampN ik (Nat.shiftLeft m n) k e) e
noncomputable def iShr : KI := nat2' .shr fun ik m n k e => ifB (Nat.ble n (bitsN ik)) (fN (Nat.shiftRight m n) fun r => k (.i ik (Int.ofNat r))) e
noncomputable def iAnt : KI := slowI .andNot
noncomputable def binI' (op : BinOp) : KI := BinOp.rec (motive := fun _ => KI) iAdd iSub iMul iQuo iRem iAnd iOr iXor iShl iShr iAnt iEql iNeq iLss iLeq iGtr iGeq op

noncomputable def hBin (op : BinOp) (x y : X) : K := fun env h k => xF x env fun a => xF y env fun b =>
  V.rec (motive_1 := fun _ => R) (motive_2 := fun _ => R) (fun _ => none) (fun ik n => asI b fun ik' m => binI' op ik n ik' m fun v => k v h) (fun _ => optF (binV op a b) fun v => k v h) (fun _ _ => none) none (fun _ _ _ _ _ => none) none (fun _ => none) none (fun _ _ _ _ _ => none) none (fun _ _ _ => none) none (fun _ _ => none) (fun _ _ => none) none none (fun _ _ _ _ => none) a

noncomputable def hMv (x : X) : K := fun env h k => xF x env fun v => k v h
noncomputable def hPick (c a b : X) : K := fun env h k => xF c env fun c => asB c fun c => ifB c (xF a env fun v => k v h) (xF b env fun v => k v h)
noncomputable def hExt (j : Nat) (x : X) : K := fun env h k => xF x env fun x => asTu x fun vs => getE j vs fun v => k v h
noncomputable def hVal (ao : AO X) : K := fun env h k => optF (semP (ao.map (evX (tmE env)))) fun v => k v h
noncomputable def hLen (s : Bool) (x : X) : K := Bool.rec (motive := fun _ => K) (fun env h k => xF x env fun x => asSl x (fun _ _ len _ _ => k (.i .i64 (Int.ofNat len)) h) (k (.i .i64 (Int.ofNat Nat.zero)) h) none) (hVal (.len true x)) s
noncomputable def hFa (off : Nat) (x : X) : K := fun env h k => xF x env fun x => asP x fun B o => fN (Nat.add o off) fun o => k (.p B o) h
noncomputable def hIa (sz : Nat) (x ix : X) : K := fun env h k => xF x env fun x => xF ix env fun ix => asSl x (fun B o len _ _ => asI ix fun _ n => Int.rec (motive := fun _ => R) (fun n => ifB (Nat.ble (Nat.succ n) len) (fN (Nat.add o (Nat.mul n sz)) fun o => k (.p B o) h) none) (fun _ => none) n) none none
noncomputable def hIaa (n sz : Nat) (x ix : X) : K := fun env h k => xF x env fun x => xF ix env fun ix => asP x fun B o => asI ix fun _ j => Int.rec (motive := fun _ => R) (fun j => ifB (Nat.ble (Nat.succ j) n) (fN (Nat.add o (Nat.mul j sz)) fun o => k (.p B o) h) none) (fun _ => none) j
noncomputable def hNck (x : X) : K := fun env h k => xF x env fun x => optF (semP (.nck x)) fun v => k v h
noncomputable def hLd (a : X) : K := fun env h k => xF a env fun a => asP a fun B o => hGet h B fun b => Blk.rec (motive := fun _ => R) (fun cs _ _ => getE o cs fun v => k v h) (fun _ _ => none) (fun _ _ => none) b
noncomputable def setC (cs : List V) (o : Nat) (v : V) (k : List V → R) : R :=
  Nat.rec (motive := fun _ => List V → (List V → R) → R)
    (fun cs k => List.rec (motive := fun _ => R) none (fun _ tl _ => k (v :: tl)) cs)
    (fun _ ih cs k => List.rec (motive := fun _ => R) none (fun x tl _ => ih tl fun tl => k (x :: tl)) cs) o cs k
noncomputable def oneB (v : V) (k : R) : R :=
  V.rec (motive_1 := fun _ => R) (motive_2 := fun _ => R) (fun _ => k) (fun _ _ => k) (fun _ => k) (fun _ _ => k) k (fun _ _ _ _ _ => k) k (fun _ => k) k (fun _ _ _ _ _ => k) k (fun _ _ _ => k) k (fun _ _ => none) (fun _ _ => none) k k (fun _ _ _ _ => k) v
noncomputable def hSt (a x : X) : K := fun env h k => xF a env fun a => xF x env fun x => oneB x (asP a fun B o => hGet h B fun b => Blk.rec (motive := fun _ => R)
  (fun cs fz q => ifB (Nat.ble 2 (Nat.mod q 4)) none (ifB (Nat.ble (Nat.succ o) fz) none (setC cs o x fun cs => hPut h B (some (.c cs fz q)) fun h => k (.tu []) h))) (fun _ _ => none) (fun _ _ => none) b)
noncomputable def hNewB (ao : AO X) : K := fun env h k => Option.rec (motive := fun _ => R) none (fun p => Prod.rec (motive := fun _ => R) (fun b mk => Blk.rec (motive := fun _ => R) (fun cs fz q => fVs cs fun cs => fN q fun q => hNew h (.c cs fz q) fun n h => fV (mk n) fun v => k v h) (fun es c => hNew h (.mp es c) fun n h => k (mk n) h) (fun l p => hNew h (.it l p) fun n h => k (mk n) h) b) p) (semN (ao.map (evX (tmE env))))
noncomputable def hEff (ao : AO X) : K := fun env h k => Option.rec (motive := fun _ => R) none (fun p => Prod.rec (motive := fun _ => R) (fun v h' => fV v fun v => H.rec (motive := fun _ => R) (fun nx t => fN nx fun nx => k v (.mk nx t)) h') p) (semE (ao.map (evX (tmE env))) h)
noncomputable def hRd (ao : AO X) : K := fun env h k => optF (semR (ao.map (evX (tmE env))) h) fun v => k v h

noncomputable def mapX (l : List X) (env : List V) (k : List V → R) : R :=
  List.rec (motive := fun _ => (List V → R) → R) (fun k => k []) (fun x _ ih k => xF x env fun v => ih fun vs => k (v :: vs)) l k

abbrev CallK := Nat → List V → H → (V → H → R) → R
noncomputable def hCall (g : Nat) (as : List X) (call : CallK) : K := fun env h k => mapX as env fun as => call g as h k
noncomputable def hCallv (x : X) (as : List X) (call : CallK) : K := fun env h k => xF x env fun x => mapX as env fun as =>
  V.rec (motive_1 := fun _ => R) (motive_2 := fun _ => R) (fun _ => none) (fun _ _ => none) (fun _ => none) (fun _ _ => none) none (fun _ _ _ _ _ => none) none (fun _ => none) none (fun g p q _ _ => call g (p ++ as ++ q) h k) none (fun _ _ _ => none) none (fun _ _ => none) (fun _ _ => none) none none (fun _ _ _ _ => none) x

abbrev KK := CallK → K
noncomputable def opF (ao : AO X) : KK := AO.rec (motive := fun _ => KK)
  (fun x _ => hMv x) -- mv
  (fun c a b _ => hPick c a b)
  (fun op x y _ => hBin op x y)
  (fun cls neg x y _ => hVal (.eq cls neg x y))
  (fun neg n x y _ => hVal (.eqs neg n x y))
  (fun op x _ => hVal (.un op x))
  (fun kk x _ => hVal (.cvi kk x))
  (fun x _ => hVal (.cvs x))
  (fun x _ => hNck x)
  (fun off x _ => hFa off x)
  (fun sz x ix _ => hIa sz x ix)
  (fun n sz x ix _ => hIaa n sz x ix)
  (fun x ix _ => hVal (.ix x ix))
  (fun n sz agg x ix _ => hVal (.ixa n sz agg x ix))
  (fun off sz agg x _ => hVal (.fld off sz agg x))
  (fun x lo hi _ => hVal (.sls x lo hi))
  (fun sz x lo hi _ => hVal (.slv sz x lo hi))
  (fun n sz x lo hi _ => hVal (.sla n sz x lo hi))
  (fun j x _ => hExt j x)
  (fun zs ps _ => hVal (.build zs ps))
  (fun g a b _ => hVal (.mkf g a b))
  (fun t x _ => hVal (.mki t x))
  (fun s x _ => hLen s x)
  (fun x _ => hVal (.cap x))
  (fun mx x ys _ => hVal (.mm mx x ys))
  (fun x c _ => hVal (.ixb x c))
  (fun x _ => hVal (.sd x))
  (fun q zs _ => hNewB (.alloc q zs))
  (fun q x _ => hNewB (.box q x))
  (fun n sz zs ps _ => hNewB (.bsl n sz zs ps))
  (fun sz by_ zs l c _ => hNewB (.mks sz by_ zs l c))
  (fun _ => hNewB .mkm)
  (fun x _ => hNewB (.s2b x))
  (fun x _ => hNewB (.rgs x))
  (fun q n _ => hNewB (.mnz q n))
  (fun a _ => hLd a)
  (fun n a _ => hRd (.ldn n a))
  (fun x _ => hRd (.lenm x))
  (fun kc z ok x kk _ => hRd (.lk kc z ok x kk))
  (fun x _ => hRd (.b2s x))
  (fun y qs x _ => hRd (.cvr y qs x))
  (fun a x _ => hSt a x)
  (fun n a x _ => hEff (.stn n a x))
  (fun q sz by_ s x _ => hEff (.app q sz by_ s x))
  (fun q x n _ => hEff (.ustr q x n))
  (fun sz d s _ => hEff (.cpy sz d s))
  (fun x _ => hEff (.clrm x))
  (fun kc m kk v _ => hEff (.mup kc m kk v))
  (fun kc z m kk _ => hEff (.mpe kc z m kk))
  (fun m s v _ => hEff (.mst m s v))
  (fun it _ => hEff (.nxs it))
  (fun g as call => hCall g as call)
  (fun x as call => hCallv x as call)
  ao

abbrev KE := List V → H → R
noncomputable def pushF (d : Option Nat) (v : V) (env : List V) (k : List V → R) : R := Option.rec (motive := fun _ => R) (k env) (fun _ => k (v :: env)) d
noncomputable def stepF (r : RO) (call : CallK) (env : List V) (h : H) (k : KE) : R :=
  RO.rec (motive := fun _ => R) (fun dst gd op => Option.rec (motive := fun _ => R)
    (opF op call env h fun v h => pushF dst v env fun env => k env h)
    (fun g => Prod.rec (motive := fun _ => R) (fun d want => getE d env fun v =>
      V.rec (motive_1 := fun _ => R) (motive_2 := fun _ => R) (fun b => Bool.rec (motive := fun _ => R) (Bool.rec (motive := fun _ => R) (opF op call env h fun v h => pushF dst v env fun env => k env h) (pushF dst (.tu []) env fun env => k env h) want) (Bool.rec (motive := fun _ => R) (pushF dst (.tu []) env fun env => k env h) (opF op call env h fun v h => pushF dst v env fun env => k env h) want) b) (fun _ _ => none) (fun _ => none) (fun _ _ => none) none (fun _ _ _ _ _ => none) none (fun _ => none) none (fun _ _ _ _ _ => none) none (fun _ _ _ => none) none (fun _ _ => none)
        (fun vs _ => List.rec (motive := fun _ => R) (pushF dst (.tu []) env fun env => k env h) (fun _ _ _ => none) vs) none none (fun _ _ _ _ => none) v) g) gd) r
noncomputable def runF (l : List BS) (call : CallK) (env : List V) (h : H) (k : KE) : R :=
  List.rec (motive := fun _ => List V → H → KE → R) (fun env h k => k env h)
    (fun b _ ih env h k => BS.rec (motive := fun _ => R) (fun r => stepF r call env h fun env h => ih env h k) (fun r => ifB (chkA r (tmE env) h) (ih env h k) none) b) l env h k
noncomputable def pickF (ps : List Nat) (env : List V) (k : List V → R) : R :=
  List.rec (motive := fun _ => (List V → R) → R) (fun k => k []) (fun p _ ih k => getE p env fun v => ih fun vs => k (v :: vs)) ps k
def retOK : AO X → Bool
  | .mv _ => true
  | .ld _ => true
  | .ldn .. => true
  | _ => false
noncomputable def retsF (rs : List (AO X)) (env : List V) (h : H) (k : List V → R) : R :=
  List.rec (motive := fun _ => (List V → R) → R) (fun k => k []) (fun r _ ih k => ifB (retOK r) (opF r (fun _ _ _ _ => none) env h fun v _ => ih fun vs => k (v :: vs)) none) rs k
noncomputable def retF (vs : List V) (k : V → R) : R :=
  List.rec (motive := fun _ => R) (k (.tu [])) (fun v vs _ => List.rec (motive := fun _ => R) (k v) (fun w ws _ => k (.tu (v :: w :: ws))) vs) vs

abbrev KX := List V → H → KE → (Nat → KE) → (V → H → R) → R
noncomputable def execF (call : CallK) (n : Nat) (b : BC) : KX := BC.rec (motive := fun _ => KX)
  (fun env h kN _ _ => kN env h)
  (fun l env h kN _ _ => runF l call env h kN)
  (fun _ _ ia ib env h kN kE kR => ia env h (fun env h => ib env h kN kE kR) kE kR)
  (fun x _ _ ia ib env h kN kE kR => xF x env fun v => asB v fun v => Bool.rec (motive := fun _ => R) (ib env h kN kE kR) (ia env h kN kE kR) v)
  (fun id _ _ ib env h kN kE kR => ib env h kN (fun i env h => ifB (Nat.beq i id) (kN env h) (kE i env h)) kR)
  (fun _ ib env h _ kE kR => Nat.rec (motive := fun _ => List V → H → R) (fun _ _ => none) (fun _ ih env h => ib env h ih kE kR) n env h)
  (fun id env h _ kE _ => kE id env h)
  (fun rs env h _ _ kR => retsF rs env h fun vs => retF vs fun v => kR v h)
  (fun _ ps _ ib env h kN kE kR => pickF ps env fun env => ib env h kN kE kR)
  (fun _ _ ps ib env h kN kE kR => ib env h (fun env h => pickF ps env fun env => kN env h) kE kR)
  (fun _ _ _ _ _ => none)
  b

noncomputable def callF (FT : Tr FN) (n : Nat) (d : Nat) : CallK := Nat.rec (motive := fun _ => CallK)
  (fun _ _ _ _ => none)
  (fun _ ih g args h k => trGet FT g fun f => FN.rec (motive := fun _ => R)
    (fun np b => ifB (Nat.beq args.length np) (execF ih n b args h (fun _ _ => none) (fun _ _ _ => none) k) none)
    (fun f => Option.rec (motive := fun _ => R) none (fun p => Prod.rec (motive := fun _ => R) (fun v h => k v h) p) (f args h)) f) d

end Go.Ev

/-! What the kernel's form answers, the meaning answers. -/
namespace Go.Ev

theorem fN_eq (n : Nat) (k : Nat → R) : fN n k = k n := by cases n <;> rfl
theorem fI_eq (n : Int) (k : Int → R) : fI n k = k n := by
  cases n with
  | ofNat m => exact fN_eq m fun m => k (Int.ofNat m)
  | negSucc m => exact fN_eq m fun m => k (Int.negSucc m)
theorem fB_eq (b : Bool) (k : Bool → R) : fB b k = k b := by cases b <;> rfl
theorem ifB_eq (b : Bool) (x y : R) : ifB b x y = if b then x else y := by cases b <;> rfl
theorem fL_eq : ∀ (l : List Nat) (k : List Nat → R), fL l k = k l
  | [], _k => rfl
  | x :: l, k => (fN_eq x fun x => fL l fun l => k (x :: l)).trans (fL_eq l fun l => k (x :: l))

theorem fV_eq (v : V) : ∀ k : V → R, fV v k = k v := by
  refine V.rec (motive_1 := fun v => ∀ k : V → R, fV v k = k v) (motive_2 := fun vs => ∀ k : List V → R, (V.rec_1 (motive_1 := fun _ => (V → R) → R) (motive_2 := fun _ => (List V → R) → R)
    (fun x k => fB x fun x => k (.b x))
    (fun ik n k => fI n fun n => k (.i ik n))
    (fun l k => fL l fun l => k (.s l))
    (fun B o k => fN B fun B => fN o fun o => k (.p B o))
    (fun k => k .pn)
    (fun B o len cap x k => fN B fun B => fN o fun o => fN len fun len => fN cap fun cap => fN x fun x => k (.sl B o len cap x))
    (fun k => k .sn)
    (fun B k => fN B fun B => k (.m B))
    (fun k => k .mn)
    (fun g _ _ ih1 ih2 k => ih1 fun a => ih2 fun b => k (.f g a b))
    (fun k => k .fn)
    (fun t _ ih k => ih fun v => k (.ic t v))
    (fun k => k .inn)
    (fun _ ih k => ih fun cs => k (.ag cs))
    (fun _ ih k => ih fun cs => k (.tu cs))
    (fun k => k .u)
    (fun k => k [])
    (fun _ _ ih1 ih2 k => ih1 fun v => ih2 fun vs => k (v :: vs)) vs k : R) = k vs) ?_ ?_ ?_ ?_ ?_ ?_ ?_ ?_ ?_ ?_ ?_ ?_ ?_ ?_ ?_ ?_ ?_ ?_ v
  · intro x k; exact fB_eq x fun x => k (.b x)
  · intro ik n k; exact fI_eq n fun n => k (.i ik n)
  · intro l k; exact fL_eq l fun l => k (.s l)
  · intro B o k; exact (fN_eq B fun B => fN o fun o => k (.p B o)).trans (fN_eq o fun o => k (.p B o))
  · intro k; rfl
  · intro B o len cap x k
    show fN B (fun B => fN o fun o => fN len fun len => fN cap fun cap => fN x fun x => k (.sl B o len cap x)) = _
    simp only [fN_eq]
  · intro k; rfl
  · intro B k; exact fN_eq B fun B => k (.m B)
  · intro k; rfl
  · intro g a b ih1 ih2 k; exact (ih1 _).trans (ih2 _)
  · intro k; rfl
  · intro t v ih k; exact ih _
  · intro k; rfl
  · intro cs ih k; exact ih _
  · intro cs ih k; exact ih _
  · intro k; rfl
  · intro k; rfl
  · intro v vs ih1 ih2 k; exact (ih1 _).trans (ih2 _)
theorem fVs_eq : ∀ (vs : List V) (k : List V → R), fVs vs k = k vs
  | [], _k => rfl
  | v :: vs, k => (fV_eq v fun v => fVs vs fun vs => k (v :: vs)).trans (fVs_eq vs fun vs => k (v :: vs))

theorem getE_some : ∀ {n : Nat} {env : List V} {k : V → R} {r : V × H}, getE n env k = some r → ∃ v, env[n]? = some v ∧ k v = some r
  | 0, [], k, r, h => by cases h
  | 0, v :: env, k, r, h => ⟨v, rfl, h⟩
  | n + 1, [], k, r, h => by cases h
  | n + 1, v :: env, k, r, h => by
    obtain ⟨w, h1, h2⟩ := getE_some (n := n) (env := env) (k := k) h
    exact ⟨w, by simpa using h1, h2⟩
theorem tmE_get {env : List V} {n : Nat} {v : V} (h : env[n]? = some v) : tmE env n = v := by simp [tmE, List.getD_eq_getElem?_getD, h]
theorem xF_some {x : X} {env : List V} {k : V → R} {r : V × H} (h : xF x env k = some r) : k (evX (tmE env) x) = some r := by
  cases x with
  | k v => exact h
  | t n =>
    obtain ⟨v, h1, h2⟩ := getE_some (n := n) (env := env) (k := k) h
    simpa [evX, tmE_get h1] using h2

theorem trGet_some {α : Type} : ∀ {t : Tr α} {key : Nat} {k : α → R} {r : V × H}, trGet t key k = some r → ∃ b, t.get key = some b ∧ k b = some r
  | .lf, key, k, r, h => by cases h
  | .nd l x rt, 0, k, r, h => by
    cases x with
    | none => cases h
    | some b => exact ⟨b, rfl, h⟩
  | .nd l x rt, key + 1, k, r, h => by
    have h' : ifB (Nat.beq (Nat.mod key 2) 0) (trGet l (Nat.div key 2) k) (trGet rt (Nat.div key 2) k) = some r := h
    rw [ifB_eq] at h'
    simp only [Tr.get]
    split at h'
    · rename_i hc
      have hc' : key % 2 = 0 := Nat.eq_of_beq_eq_true hc
      obtain ⟨b, h1, h2⟩ := trGet_some h'
      exact ⟨b, by rw [hc']; exact h1, h2⟩
    · rename_i hc
      have hc' : ¬ key % 2 = 0 := fun h => hc (by show Nat.beq (key % 2) 0 = true; rw [h]; rfl)
      obtain ⟨b, h1, h2⟩ := trGet_some h'
      refine ⟨b, ?_, h2⟩
      split
      · rename_i h0; exact absurd h0 hc'
      · exact h1

theorem putF_eq (v : Option Blk) : ∀ (f : Nat) (t : Tr Blk) (key : Nat) (k : Tr Blk → R), putF f v t key k = k (Tr.put f t key v)
  | 0, t, key, k => rfl
  | f + 1, .lf, 0, k => rfl
  | f + 1, .nd l x r, 0, k => rfl
  | f + 1, .lf, key + 1, k => by
    show ifB (Nat.beq (Nat.mod key 2) 0) (putF f v .lf (Nat.div key 2) fun l => k (.nd l none .lf)) (putF f v .lf (Nat.div key 2) fun r => k (.nd .lf none r)) = _
    rw [ifB_eq, putF_eq v f, putF_eq v f]
    simp only [Tr.put]
    split
    · rename_i hc
      have hc' : key % 2 = 0 := Nat.eq_of_beq_eq_true hc
      rw [hc']; rfl
    · rename_i hc
      have hc' : ¬ key % 2 = 0 := fun h => hc (by show Nat.beq (key % 2) 0 = true; rw [h]; rfl)
      split
      · rename_i h0; exact absurd h0 hc'
      · rfl
  | f + 1, .nd l x r, key + 1, k => by
    show ifB (Nat.beq (Nat.mod key 2) 0) (putF f v l (Nat.div key 2) fun l => k (.nd l x r)) (putF f v r (Nat.div key 2) fun r => k (.nd l x r)) = _
    rw [ifB_eq, putF_eq v f, putF_eq v f]
    simp only [Tr.put]
    split
    · rename_i hc
      have hc' : key % 2 = 0 := Nat.eq_of_beq_eq_true hc
      rw [hc']; rfl
    · rename_i hc
      have hc' : ¬ key % 2 = 0 := fun h => hc (by show Nat.beq (key % 2) 0 = true; rw [h]; rfl)
      split
      · rename_i h0; exact absurd h0 hc'
      · rfl

theorem hGet_some {h : H} {B : Nat} {k : Blk → R} {r : V × H} (hr : hGet h B k = some r) : ∃ b, h.get B = some b ∧ k b = some r := by
  cases h with | mk nx t => exact trGet_some (t := t) hr
theorem hPut_eq (h : H) (B : Nat) (v : Option Blk) (k : H → R) : hPut h B v k = k (h.put B v) := by
  cases h with | mk nx t => exact putF_eq v (Nat.succ B) t B fun t => k (.mk nx t)
theorem hNew_eq (h : H) (b : Blk) (k : Nat → H → R) : hNew h b k = k h.nx (h.new b) := by
  cases h with | mk nx t =>
    exact (putF_eq (some b) (Nat.succ nx) t nx fun t => fN (Nat.succ nx) fun nx' => k nx (.mk nx' t)).trans (fN_eq _ _)

theorem optF_some {o : Option V} {k : V → R} {r : V × H} (h : optF o k = some r) : ∃ v, o = some v ∧ k v = some r := by
  cases o with
  | none => cases h
  | some v => exact ⟨v, rfl, by have := fV_eq v k; unfold optF at h; exact this ▸ h⟩
theorem asI_some {v : V} {k : IntKind → Int → R} {r : V × H} (h : asI v k = some r) : ∃ ik n, v = .i ik n ∧ k ik n = some r := by
  cases v <;> first | (cases h; done) | exact ⟨_, _, rfl, h⟩
theorem asB_some {v : V} {k : Bool → R} {r : V × H} (h : asB v k = some r) : ∃ b, v = .b b ∧ k b = some r := by
  cases v <;> first | (cases h; done) | exact ⟨_, rfl, h⟩
theorem asP_some {v : V} {k : Nat → Nat → R} {r : V × H} (h : asP v k = some r) : ∃ B o, v = .p B o ∧ k B o = some r := by
  cases v <;> first | (cases h; done) | exact ⟨_, _, rfl, h⟩
theorem asTu_some {v : V} {k : List V → R} {r : V × H} (h : asTu v k = some r) : ∃ vs, v = .tu vs ∧ k vs = some r := by
  cases v <;> first | (cases h; done) | exact ⟨_, rfl, h⟩
theorem asSl_some {v : V} {k : Nat → Nat → Nat → Nat → Nat → R} {kn e : R} {r : V × H} (h : asSl v k kn e = some r) : (∃ B o len cap x, v = .sl B o len cap x ∧ k B o len cap x = some r) ∨ (v = .sn ∧ kn = some r) ∨ e = some r := by
  cases v <;> first | exact .inr (.inr h) | exact .inr (.inl ⟨rfl, h⟩) | exact .inl ⟨_, _, _, _, _, rfl, h⟩

end Go.Ev

/-! The kernel's form of each operation. -/
namespace Go.Ev

def Snd (call : CallF) (ao : AO X) (f : K) : Prop := ∀ env h k r, f env h k = some r → ∃ v h', semAll call (ao.map (evX (tmE env))) h = some (v, h') ∧ k v h' = some r

variable {call : CallF}

theorem semAll0 {ao : AO X} (f : X → V) (hc : ao.cls = 0) (h : H) : semAll call (ao.map f) h = (semP (ao.map f)).map (·, h) := by
  rw [semAll_ne (by rw [AO.cls_map, hc]; decide), AO.cls_map, hc]
  rfl
theorem semAll1 {ao : AO X} (f : X → V) (hc : ao.cls = 1) (h : H) : semAll call (ao.map f) h = (semN (ao.map f)).map fun (b, mk) => (mk h.nx, h.new b) := by
  rw [semAll_ne (by rw [AO.cls_map, hc]; decide), AO.cls_map, hc]
  rfl
theorem semAll2 {ao : AO X} (f : X → V) (hc : ao.cls = 2) (h : H) : semAll call (ao.map f) h = (semR (ao.map f) h).map (·, h) := by
  rw [semAll_ne (by rw [AO.cls_map, hc]; decide), AO.cls_map, hc]
  rfl
theorem semAll3 {ao : AO X} (f : X → V) (hc : ao.cls = 3) (h : H) : semAll call (ao.map f) h = semE (ao.map f) h := by
  rw [semAll_ne (by rw [AO.cls_map, hc]; decide), AO.cls_map, hc]
  rfl

theorem snd_val {ao : AO X} (hc : ao.cls = 0) : Snd call ao (hVal ao) := by
  intro env h k r hr
  obtain ⟨v, h1, h2⟩ := optF_some hr
  exact ⟨v, h, by rw [semAll0 _ hc]; simp only [h1, Option.map_some], h2⟩
theorem snd_rd {ao : AO X} (hc : ao.cls = 2) : Snd call ao (hRd ao) := by
  intro env h k r hr
  obtain ⟨v, h1, h2⟩ := optF_some hr
  exact ⟨v, h, by rw [semAll2 _ hc]; simp only [h1, Option.map_some], h2⟩
theorem snd_new {ao : AO X} (hc : ao.cls = 1) : Snd call ao (hNewB ao) := by
  intro env h k r hr
  unfold hNewB at hr
  cases hs : semN (ao.map (evX (tmE env))) with
  | none => rw [hs] at hr; cases hr
  | some p =>
    obtain ⟨b, mk⟩ := p
    rw [hs] at hr
    refine ⟨mk h.nx, h.new b, by rw [semAll1 _ hc]; simp only [hs, Option.map_some], ?_⟩
    cases b with
    | c cs fz q =>
      have hr' : (fVs cs fun cs => fN q fun q => hNew h (.c cs fz q) fun n h => fV (mk n) fun v => k v h) = some r := hr
      rw [fVs_eq, fN_eq, hNew_eq, fV_eq] at hr'
      exact hr'
    | mp es c =>
      have hr' : (hNew h (.mp es c) fun n h => k (mk n) h) = some r := hr
      rw [hNew_eq] at hr'
      exact hr'
    | it l p =>
      have hr' : (hNew h (.it l p) fun n h => k (mk n) h) = some r := hr
      rw [hNew_eq] at hr'
      exact hr'
theorem snd_eff {ao : AO X} (hc : ao.cls = 3) : Snd call ao (hEff ao) := by
  intro env h k r hr
  unfold hEff at hr
  cases hs : semE (ao.map (evX (tmE env))) h with
  | none => rw [hs] at hr; cases hr
  | some p =>
    obtain ⟨v, h'⟩ := p
    rw [hs] at hr
    refine ⟨v, h', by rw [semAll3 _ hc]; exact hs, ?_⟩
    cases h' with
    | mk nx t =>
      have hr' : (fV v fun v => fN nx fun nx => k v (.mk nx t)) = some r := hr
      rw [fV_eq, fN_eq] at hr'
      exact hr'

theorem snd_mv (x : X) : Snd call (.mv x) (hMv x) := fun _env h _k _r hr => ⟨_, h, rfl, xF_some hr⟩
theorem snd_pick (c a b : X) : Snd call (.pick c a b) (hPick c a b) := by
  intro env h k r hr
  obtain ⟨t, h1, h2⟩ := asB_some (xF_some hr)
  rw [ifB_eq] at h2
  cases t with
  | true =>
    refine ⟨evX (tmE env) a, h, ?_, xF_some h2⟩
    rw [semAll0 _ rfl]
    simp only [AO.map, semP, h1, if_true, Option.map_some]
  | false =>
    refine ⟨evX (tmE env) b, h, ?_, xF_some h2⟩
    rw [semAll0 _ rfl]
    simp only [AO.map, semP, h1, Bool.false_eq_true, if_false, Option.map_some]
theorem snd_ext (j : Nat) (x : X) : Snd call (.ext j x) (hExt j x) := by
  intro env h k r hr
  obtain ⟨vs, h1, h2⟩ := asTu_some (xF_some hr)
  obtain ⟨v, h3, h4⟩ := getE_some h2
  refine ⟨v, h, ?_, h4⟩
  rw [semAll0 _ rfl]
  simp only [AO.map, semP, h1, h3, Option.map_some]
theorem snd_len (s : Bool) (x : X) : Snd call (.len s x) (hLen s x) := by
  cases s with
  | true => exact snd_val rfl
  | false =>
    intro env h k r hr
    rcases asSl_some (xF_some (k := fun x => asSl x (fun _ _ len _ _ => k (.i .i64 (Int.ofNat len)) h) (k (.i .i64 (Int.ofNat Nat.zero)) h) none) hr) with ⟨B, o, len, cap, y, h1, h2⟩ | ⟨h1, h2⟩ | h1
    · refine ⟨_, h, ?_, h2⟩
      rw [semAll0 _ rfl]
      simp only [AO.map, semP, h1, Option.map_some]
      rfl
    · refine ⟨_, h, ?_, h2⟩
      rw [semAll0 _ rfl]
      simp only [AO.map, semP, h1, Option.map_some]
      rfl
    · cases h1
theorem snd_fa (off : Nat) (x : X) : Snd call (.fa off x) (hFa off x) := by
  intro env h k r hr
  obtain ⟨B, o, h1, h2⟩ := asP_some (xF_some hr)
  rw [fN_eq] at h2
  refine ⟨_, h, ?_, h2⟩
  rw [semAll0 _ rfl]
  simp only [AO.map, semP, h1, Option.map_some]
  rfl
theorem snd_nck (x : X) : Snd call (.nck x) (hNck x) := by
  intro env h k r hr
  obtain ⟨v, h1, h2⟩ := optF_some (xF_some hr)
  refine ⟨v, h, ?_, h2⟩
  rw [semAll0 _ rfl]
  simp only [AO.map, semP] at h1 ⊢
  simp only [h1, Option.map_some]
theorem ble_lt {n m : Nat} (h : Nat.ble (Nat.succ n) m = true) : n < m := Nat.le_of_ble_eq_true h
theorem snd_ia (sz : Nat) (x ix : X) : Snd call (.ia sz x ix) (hIa sz x ix) := by
  intro env h k r hr
  have hr1 := xF_some hr
  have hr2 := xF_some hr1
  rcases asSl_some hr2 with ⟨B, o, len, cap, y, h1, h2⟩ | ⟨h1, h2⟩ | h1
  · obtain ⟨ik, n, h3, h4⟩ := asI_some h2
    cases n with
    | ofNat n =>
      have h5 : ifB (Nat.ble (Nat.succ n) len) (fN (Nat.add o (Nat.mul n sz)) fun o => k (.p B o) h) none = some r := h4
      rw [ifB_eq] at h5
      split at h5
      · rename_i hlt
        rw [fN_eq] at h5
        refine ⟨_, h, ?_, h5⟩
        rw [semAll0 _ rfl]
        have hid : idx (Int.ofNat n) len = some n := by
          unfold idx
          have := ble_lt hlt
          rw [if_pos ⟨Int.natCast_nonneg n, by simpa using this⟩]
          rfl
        simp only [AO.map, semP, h1, h3, hid, Option.map_some]
        rfl
      · cases h5
    | negSucc n => cases h4
  · cases h2
  · cases h1
theorem snd_iaa (m sz : Nat) (x ix : X) : Snd call (.iaa m sz x ix) (hIaa m sz x ix) := by
  intro env h k r hr
  have hr1 := xF_some hr
  have hr2 := xF_some hr1
  obtain ⟨B, o, h1, h2⟩ := asP_some hr2
  obtain ⟨ik, n, h3, h4⟩ := asI_some h2
  cases n with
  | ofNat n =>
    have h5 : ifB (Nat.ble (Nat.succ n) m) (fN (Nat.add o (Nat.mul n sz)) fun o => k (.p B o) h) none = some r := h4
    rw [ifB_eq] at h5
    split at h5
    · rename_i hlt
      rw [fN_eq] at h5
      refine ⟨_, h, ?_, h5⟩
      rw [semAll0 _ rfl]
      have hid : idx (Int.ofNat n) m = some n := by
        unfold idx
        have := ble_lt hlt
        rw [if_pos ⟨Int.natCast_nonneg n, by simpa using this⟩]
        rfl
      simp only [AO.map, semP, h1, h3, hid, Option.map_some]
      rfl
    · cases h5
  | negSucc n => cases h4
theorem snd_ld (a : X) : Snd call (.ld a) (hLd a) := by
  intro env h k r hr
  obtain ⟨B, o, h1, h2⟩ := asP_some (xF_some hr)
  obtain ⟨b, h3, h4⟩ := hGet_some h2
  cases b with
  | c cs fz q =>
    obtain ⟨v, h5, h6⟩ := getE_some (n := o) (env := cs) (k := fun v => k v h) h4
    refine ⟨v, h, ?_, h6⟩
    rw [semAll2 _ rfl]
    simp only [AO.map, semR, h1, h3, h5, Option.map_some]
  | mp es c => cases h4
  | it l p => cases h4
theorem setC_some : ∀ {cs : List V} {o : Nat} {v : V} {k : List V → R} {r : V × H}, setC cs o v k = some r → o < cs.length ∧ k (cs.set o v) = some r
  | [], 0, v, k, r, h => by cases h
  | x :: cs, 0, v, k, r, h => ⟨by simp, h⟩
  | [], o + 1, v, k, r, h => by cases h
  | x :: cs, o + 1, v, k, r, h => by
    obtain ⟨h1, h2⟩ := setC_some (cs := cs) (o := o) (v := v) (k := fun tl => k (x :: tl)) h
    exact ⟨by simpa using h1, h2⟩
theorem oneB_some {v : V} {k : R} {r : V × H} (h : oneB v k = some r) : v.one = true ∧ k = some r := by
  cases v <;> first | (cases h; done) | exact ⟨rfl, h⟩
theorem snd_st (a x : X) : Snd call (.st a x) (hSt a x) := by
  intro env h k r hr
  have hr1 := xF_some hr
  have hr2 := xF_some hr1
  obtain ⟨h0, hr⟩ := oneB_some hr2
  obtain ⟨B, o, h1, h2⟩ := asP_some hr
  obtain ⟨b, h3, h4⟩ := hGet_some h2
  cases b with
  | c cs fz q =>
    have h5 : ifB (Nat.ble 2 (Nat.mod q 4)) none (ifB (Nat.ble (Nat.succ o) fz) none (setC cs o (evX (tmE env) x) fun cs => hPut h B (some (.c cs fz q)) fun h => k (.tu []) h)) = some r := h4
    rw [ifB_eq, ifB_eq] at h5
    split at h5
    · cases h5
    · rename_i hq
      split at h5
      · cases h5
      · rename_i hf
        obtain ⟨h6, h7⟩ := setC_some h5
        rw [hPut_eq] at h7
        refine ⟨_, _, ?_, h7⟩
        rw [semAll3 _ rfl]
        have hq' : ¬ 2 ≤ q % 4 := fun h => hq (Nat.ble_eq_true_of_le h)
        have hf' : ¬ o < fz := fun h => hf (Nat.ble_eq_true_of_le h)
        simp only [AO.map, semE, h1, stAt, h3]
        rw [if_neg (by simp only [List.length_cons, List.length_nil, List.all_cons, List.all_nil, h0, Bool.and_true, Bool.not_true, Bool.false_eq_true, or_false, not_or]; exact ⟨hq', hf', by omega⟩)]
        simp only [layAt, Option.map_some]
  | mp es c => cases h4
  | it l p => cases h4

end Go.Ev

/-! Numbers. -/
namespace Go.Ev
variable {call : CallF}

theorem ikN_inj {a b : IntKind} (h : Nat.beq (ikN a) (ikN b) = true) : a = b := by
  cases a <;> cases b <;> first | rfl | (exact absurd h (by decide))

theorem wrap_small (ik : IntKind) (n : Nat) (h : n ≤ maxN ik) : ik.wrap (n : Int) = n := by
  cases ik <;> simp only [maxN] at h <;> simp only [IntKind.wrap, IntKind.bits, IntKind.signed, Bool.true_and, Bool.false_and] <;> (first | (split <;> rename_i hc <;> (try simp at hc) <;> omega) | omega)

theorem slowI_some {op : BinOp} {ik ik' : IntKind} {a b : Int} {k : V → R} {r : V × H} (h : slowI op ik a ik' b k = some r) : ∃ v, binV op (.i ik a) (.i ik' b) = some v ∧ k v = some r := optF_some h

theorem clampN_some {ik : IntKind} {s : Nat} {k : V → R} {e : R} {r : V × H} (h : clampN ik s k e = some r) : (s ≤ maxN ik ∧ k (.i ik (Int.ofNat s)) = some r) ∨ e = some r := by
  unfold clampN at h
  rw [ifB_eq] at h
  split at h
  · rename_i hs
    rw [fN_eq] at h
    exact .inl ⟨Nat.le_of_ble_eq_true hs, h⟩
  · exact .inr h

/-- What an operation on numbers must do. -/
def IOK (op : BinOp) (f : KI) : Prop := ∀ ik a ik' b k r, f ik a ik' b k = some r → ∃ v, binV op (.i ik a) (.i ik' b) = some v ∧ k v = some r

theorem nat2'_ok {op : BinOp} {f : IntKind → Nat → Nat → (V → R) → R → R} (P : IntKind → IntKind → Prop)
    (hf : ∀ ik ik' m n k e r, P ik ik' → f ik m n k e = some r → (∃ v, binV op (.i ik (Int.ofNat m)) (.i ik' (Int.ofNat n)) = some v ∧ k v = some r) ∨ e = some r) :
    ∀ ik a ik' b k r, P ik ik' → nat2' op f ik a ik' b k = some r → ∃ v, binV op (.i ik a) (.i ik' b) = some v ∧ k v = some r := by
  intro ik a ik' b k r hp h
  cases a with
  | negSucc m => exact slowI_some h
  | ofNat m =>
    cases b with
    | negSucc n => exact slowI_some h
    | ofNat n =>
      rcases hf ik ik' m n k _ r hp h with h1 | h1
      · exact h1
      · exact slowI_some h1

theorem nat2_ok {op : BinOp} {f : IntKind → Nat → Nat → (V → R) → R → R}
    (hf : ∀ ik m n k e r, f ik m n k e = some r → (∃ v, binV op (.i ik (Int.ofNat m)) (.i ik (Int.ofNat n)) = some v ∧ k v = some r) ∨ e = some r) : IOK op (nat2 op f) := by
  intro ik a ik' b k r h
  unfold nat2 at h
  rw [ifB_eq] at h
  split at h
  · rename_i hk
    have := ikN_inj hk
    subst this
    exact nat2'_ok (fun x y => x = y) (fun ik ik' m n k e r hp h => by subst hp; exact hf ik m n k e r h) ik a ik b k r rfl h
  · cases h

theorem bV_some {b : Bool} {k : V → R} {r : V × H} (h : bV b k = some r) : k (.b b) = some r := by cases b <;> exact h

theorem iAdd_ok : IOK .add iAdd := nat2_ok fun ik m n k e r h => by
  rcases clampN_some h with ⟨h1, h2⟩ | h1
  · refine .inl ⟨_, ?_, h2⟩
    simp only [binV, if_true, binI]
    have := wrap_small ik (m + n) h1
    simp only [Int.ofNat_eq_natCast, ← Int.natCast_add, this]
    rfl
  · exact .inr h1
theorem iMul_ok : IOK .mul iMul := nat2_ok fun ik m n k e r h => by
  rcases clampN_some h with ⟨h1, h2⟩ | h1
  · refine .inl ⟨_, ?_, h2⟩
    simp only [binV, if_true, binI]
    have := wrap_small ik (m * n) h1
    simp only [Int.ofNat_eq_natCast, ← Int.natCast_mul, this]
    rfl
  · exact .inr h1
theorem iSub_ok : IOK .sub iSub := nat2_ok fun ik m n k e r h => by
  rw [ifB_eq] at h
  split at h
  · rename_i hle
    have hle' := Nat.le_of_ble_eq_true hle
    rcases clampN_some h with ⟨h1, h2⟩ | h1
    · refine .inl ⟨_, ?_, h2⟩
      simp only [binV, if_true, binI]
      have := wrap_small ik (m - n) h1
      have e1 : (Int.ofNat m - Int.ofNat n : Int) = ((m - n : Nat) : Int) := by simp only [Int.ofNat_eq_natCast]; omega
      rw [e1, this]
      rfl
    · exact .inr h1
  · exact .inr h
theorem iQuo_ok : IOK .quo iQuo := nat2_ok fun ik m n k e r h => by
  rw [ifB_eq] at h
  split at h
  · exact .inr h
  · rename_i hn
    have hn' : n ≠ 0 := fun h => hn (by rw [h]; rfl)
    rcases clampN_some h with ⟨h1, h2⟩ | h1
    · refine .inl ⟨_, ?_, h2⟩
      have hn0 : ¬ Int.ofNat n = 0 := by simp only [Int.ofNat_eq_natCast]; omega
      simp only [binV, if_true, binI]
      rw [if_neg hn0]
      have := wrap_small ik (m / n) h1
      have e1 : (Int.ofNat m).tdiv (Int.ofNat n) = ((m / n : Nat) : Int) := rfl
      rw [e1, this]
      rfl
    · exact .inr h1
theorem iRem_ok : IOK .rem iRem := nat2_ok fun ik m n k e r h => by
  rw [ifB_eq] at h
  split at h
  · exact .inr h
  · rename_i hn
    have hn' : n ≠ 0 := fun h => hn (by rw [h]; rfl)
    rw [fN_eq] at h
    refine .inl ⟨_, ?_, h⟩
    have hn0 : ¬ Int.ofNat n = 0 := by simp only [Int.ofNat_eq_natCast]; omega
    simp only [binV, if_true, binI]
    rw [if_neg hn0]
    rfl
theorem cmp_ok {op : BinOp} (c : Nat → Nat → Bool) (hc : ∀ ik m n, binV op (.i ik (Int.ofNat m)) (.i ik (Int.ofNat n)) = some (.b (c m n))) : IOK op (nat2 op fun _ m n k _ => bV (c m n) k) :=
  nat2_ok fun ik m n _k _ _r h => .inl ⟨_, hc ik m n, bV_some h⟩
theorem natbeq {m n : Nat} : (Int.ofNat m = Int.ofNat n) ↔ Nat.beq m n = true := by
  rw [Nat.beq_eq]
  exact ⟨fun h => by simp only [Int.ofNat_eq_natCast] at h; omega, fun h => by rw [h]⟩
theorem iEql_ok : IOK .eql iEql := cmp_ok (fun m n => Nat.beq m n) fun ik m n => by
  simp only [binV, if_true, binI]
  congr 2
  rw [Bool.eq_iff_iff, beq_iff_eq]; exact natbeq
theorem iLss_ok : IOK .lss iLss := cmp_ok (fun m n => Nat.ble (Nat.succ m) n) fun ik m n => by
  simp only [binV, if_true, binI]
  congr 2
  rw [Bool.eq_iff_iff, decide_eq_true_eq, Nat.ble_eq]; simp only [Int.ofNat_eq_natCast]; omega
theorem iLeq_ok : IOK .leq iLeq := cmp_ok (fun m n => Nat.ble m n) fun ik m n => by
  simp only [binV, if_true, binI]
  congr 2
  rw [Bool.eq_iff_iff, decide_eq_true_eq, Nat.ble_eq]; simp only [Int.ofNat_eq_natCast]; omega
theorem iGtr_ok : IOK .gtr iGtr := cmp_ok (fun m n => Nat.ble (Nat.succ n) m) fun ik m n => by
  simp only [binV, if_true, binI]
  congr 2
  rw [Bool.eq_iff_iff, decide_eq_true_eq, Nat.ble_eq]; simp only [Int.ofNat_eq_natCast]; omega
theorem iGeq_ok : IOK .geq iGeq := cmp_ok (fun m n => Nat.ble n m) fun ik m n => by
  simp only [binV, if_true, binI]
  congr 2
  rw [Bool.eq_iff_iff, decide_eq_true_eq, Nat.ble_eq]; simp only [Int.ofNat_eq_natCast]; omega
theorem iNeq_ok : IOK .neq iNeq := nat2_ok fun ik m n k _ r h => by
  refine .inl ⟨.b (!Nat.beq m n), ?_, ?_⟩
  · simp only [binV, if_true, binI]
    congr 2
    rw [Bool.eq_iff_iff, bne_iff_ne, ne_eq, natbeq]
    cases Nat.beq m n <;> simp
  · generalize Nat.beq m n = b at *
    cases b <;> exact h


theorem maxN_lt (ik : IntKind) : maxN ik < 2 ^ ik.bits := by cases ik <;> decide
theorem bitsN_eq (ik : IntKind) : bitsN ik = ik.bits := by cases ik <;> rfl

theorem ofInt_toNat (w n : Nat) : (BitVec.ofInt w (Int.ofNat n)).toNat = n % 2 ^ w := by
  have h1 : (BitVec.ofInt w (Int.ofNat n)).toNat = ((Int.ofNat n) % ((2 ^ w : Nat) : Int)).toNat := by
    rw [BitVec.toNat_ofInt]
  rw [h1, Int.ofNat_eq_natCast, ← Int.natCast_emod, Int.toNat_natCast]

theorem iAnd_ok : IOK .and iAnd := nat2_ok fun ik m n k e r h => by
  rcases clampN_some h with ⟨h1, h2⟩ | h1
  · refine .inl ⟨_, ?_, h2⟩
    have h3 : (BitVec.ofInt ik.bits (Int.ofNat m) &&& BitVec.ofInt ik.bits (Int.ofNat n)).toNat = Nat.land m n := by
      rw [BitVec.toNat_and, ofInt_toNat, ofInt_toNat, ← Nat.and_mod_two_pow]
      exact Nat.mod_eq_of_lt (Nat.lt_of_le_of_lt h1 (maxN_lt ik))
    simp only [binV, if_true, binI, bitsI, h3]
    rw [wrap_small ik _ h1]
    rfl
  · exact .inr h1
theorem iOr_ok : IOK .or iOr := nat2_ok fun ik m n k e r h => by
  rcases clampN_some h with ⟨h1, h2⟩ | h1
  · refine .inl ⟨_, ?_, h2⟩
    have h3 : (BitVec.ofInt ik.bits (Int.ofNat m) ||| BitVec.ofInt ik.bits (Int.ofNat n)).toNat = Nat.lor m n := by
      rw [BitVec.toNat_or, ofInt_toNat, ofInt_toNat, ← Nat.or_mod_two_pow]
      exact Nat.mod_eq_of_lt (Nat.lt_of_le_of_lt h1 (maxN_lt ik))
    simp only [binV, if_true, binI, bitsI, h3]
    rw [wrap_small ik _ h1]
    rfl
  · exact .inr h1
theorem iXor_ok : IOK .xor iXor := nat2_ok fun ik m n k e r h => by
  rcases clampN_some h with ⟨h1, h2⟩ | h1
  · refine .inl ⟨_, ?_, h2⟩
    have h3 : (BitVec.ofInt ik.bits (Int.ofNat m) ^^^ BitVec.ofInt ik.bits (Int.ofNat n)).toNat = Nat.xor m n := by
      rw [BitVec.toNat_xor, ofInt_toNat, ofInt_toNat, ← Nat.xor_mod_two_pow]
      exact Nat.mod_eq_of_lt (Nat.lt_of_le_of_lt h1 (maxN_lt ik))
    simp only [binV, if_true, binI, bitsI, h3]
    rw [wrap_small ik _ h1]
    rfl
  · exact .inr h1
theorem nat2s_ok {op : BinOp} {f : IntKind → Nat → Nat → (V → R) → R → R}
    (hf : ∀ ik ik' m n k e r, f ik m n k e = some r → (∃ v, binV op (.i ik (Int.ofNat m)) (.i ik' (Int.ofNat n)) = some v ∧ k v = some r) ∨ e = some r) : IOK op (nat2' op f) :=
  fun ik a ik' b k r h => nat2'_ok (fun _ _ => True) (fun ik ik' m n k e r _ h => hf ik ik' m n k e r h) ik a ik' b k r trivial h
theorem iShl_ok : IOK .shl iShl := nat2s_ok fun ik ik' m n k e r h => by
  rw [ifB_eq] at h
  split at h
  · rename_i hn
    have hn' := Nat.le_of_ble_eq_true hn
    rw [bitsN_eq] at hn'
    rcases clampN_some h with ⟨h1, h2⟩ | h1
    · refine .inl ⟨_, ?_, h2⟩
      have h0 : ¬ Int.ofNat n < 0 := by simp only [Int.ofNat_eq_natCast]; omega
      have hmin : min (Int.ofNat n).toNat ik.bits = n := by simp only [Int.ofNat_eq_natCast, Int.toNat_natCast]; omega
      have e1 : (Int.ofNat m * 2 ^ n : Int) = ((Nat.shiftLeft m n : Nat) : Int) := by
        have : Nat.shiftLeft m n = m * 2 ^ n := Nat.shiftLeft_eq m n
        rw [this]; simp
      simp only [binV]
      rw [if_neg h0, hmin, e1, wrap_small ik _ h1]
      rfl
    · exact .inr h1
  · exact .inr h
theorem iShr_ok : IOK .shr iShr := nat2s_ok fun ik ik' m n k e r h => by
  rw [ifB_eq] at h
  split at h
  · rename_i hn
    have hn' := Nat.le_of_ble_eq_true hn
    rw [bitsN_eq] at hn'
    rw [fN_eq] at h
    refine .inl ⟨_, ?_, h⟩
    have h0 : ¬ Int.ofNat n < 0 := by simp only [Int.ofNat_eq_natCast]; omega
    have hmin : min (Int.ofNat n).toNat ik.bits = n := by simp only [Int.ofNat_eq_natCast, Int.toNat_natCast]; omega
    have e1 : (Int.ofNat m).fdiv (2 ^ n) = ((Nat.shiftRight m n : Nat) : Int) := by
      have h1 : Nat.shiftRight m n = m / 2 ^ n := Nat.shiftRight_eq_div_pow m n
      have h2 : (2 ^ n : Int) = ((2 ^ n : Nat) : Int) := by simp
      rw [h1, h2, Int.ofNat_eq_natCast, Int.fdiv_eq_ediv_of_nonneg _ (Int.natCast_nonneg _)]
      exact (Int.natCast_ediv m (2 ^ n)).symm
    simp only [binV]
    rw [if_neg h0, hmin, e1]
    rfl
  · exact .inr h
theorem iAnt_ok : IOK .andNot iAnt := fun _ik _a _ik' _b _k _r h => slowI_some h

theorem binI'_ok (op : BinOp) : IOK op (binI' op) := by
  cases op
  · exact iAdd_ok
  · exact iSub_ok
  · exact iMul_ok
  · exact iQuo_ok
  · exact iRem_ok
  · exact iAnd_ok
  · exact iOr_ok
  · exact iXor_ok
  · exact iShl_ok
  · exact iShr_ok
  · exact iAnt_ok
  · exact iEql_ok
  · exact iNeq_ok
  · exact iLss_ok
  · exact iLeq_ok
  · exact iGtr_ok
  · exact iGeq_ok

theorem snd_bin (op : BinOp) (x y : X) : Snd call (.bin op x y) (hBin op x y) := by
  intro env h k r hr
  have hr1 := xF_some hr
  have hr2 := xF_some hr1
  generalize ha : evX (tmE env) x = a at *
  have fin : ∀ v, binV op a (evX (tmE env) y) = some v → k v h = some r → ∃ v h', semAll call ((AO.bin op x y).map (evX (tmE env))) h = some (v, h') ∧ k v h' = some r := fun v h1 h2 => by
    refine ⟨v, h, ?_, h2⟩
    rw [semAll0 _ rfl]
    simp only [AO.map, semP, ha, h1, Option.map_some]
  cases a with
  | i ik n =>
    obtain ⟨ik', m, h1, h2⟩ := asI_some hr2
    obtain ⟨v, h3, h4⟩ := binI'_ok op _ _ _ _ _ _ h2
    exact fin v (by rw [h1]; exact h3) h4
  | s l =>
    obtain ⟨v, h1, h2⟩ := optF_some hr2
    exact fin v h1 h2
  | _ => cases hr2

end Go.Ev

/-! The kernel's form of code. -/
namespace Go.Ev

/-- What the kernel's form of calls must do. -/
def CSnd (call : CallF) (ck : CallK) : Prop := ∀ g as h k r, ck g as h k = some r → ∃ v h', call g as h = some (v, h') ∧ k v h' = some r

theorem mapX_some : ∀ {l : List X} {env : List V} {k : List V → R} {r : V × H}, mapX l env k = some r → k (l.map (evX (tmE env))) = some r
  | [], env, k, r, h => h
  | x :: l, env, k, r, h => by
    have h1 : xF x env (fun v => mapX l env fun vs => k (v :: vs)) = some r := h
    exact mapX_some (l := l) (xF_some h1)

theorem opF_ok {call : CallF} {ck : CallK} (hc : CSnd call ck) (ao : AO X) : Snd call ao (opF ao ck) := by
  cases ao with
  | mv x => exact snd_mv x
  | pick c a b => exact snd_pick c a b
  | bin op x y => exact snd_bin op x y
  | nck x => exact snd_nck x
  | fa off x => exact snd_fa off x
  | ia sz x ix => exact snd_ia sz x ix
  | iaa n sz x ix => exact snd_iaa n sz x ix
  | ext j x => exact snd_ext j x
  | len s x => exact snd_len s x
  | ld a => exact snd_ld a
  | st a x => exact snd_st a x
  | call g as =>
    intro env h k r hr
    have h1 := mapX_some (l := as) (k := fun as => ck g as h k) hr
    obtain ⟨v, h', h2, h3⟩ := hc _ _ _ _ _ h1
    exact ⟨v, h', h2, h3⟩
  | callv x as =>
    intro env h k r hr
    have h0 := xF_some (x := x) hr
    have h1 := mapX_some h0
    generalize hx : evX (tmE env) x = y at *
    cases y with
    | f g p q =>
      obtain ⟨v, h', h2, h3⟩ := hc _ _ _ _ _ h1
      refine ⟨v, h', ?_, h3⟩
      simp only [AO.map, semAll, hx]
      exact h2
    | _ => cases h1
  | _ => first
    | exact snd_val rfl
    | exact snd_rd rfl
    | exact snd_new rfl
    | exact snd_eff rfl

theorem pushF_eq (d : Option Nat) (v : V) (env : List V) (k : List V → R) : pushF d v env k = k (pushE d v env) := by cases d <;> rfl

theorem stepF_some {call : CallF} {ck : CallK} (hc : CSnd call ck) {ro : RO} {env : List V} {h : H} {k : KE} {r : V × H} (hr : stepF ro ck env h k = some r) : ∃ env' h', stepB call ro env h = some (env', h') ∧ k env' h' = some r := by
  obtain ⟨dst, gd, op⟩ := ro
  have run : (opF op ck env h fun v h => pushF dst v env fun env => k env h) = some r → guardA gd (tmE env) = some true → ∃ env' h', stepB call ⟨dst, gd, op⟩ env h = some (env', h') ∧ k env' h' = some r := by
    intro h1 hg
    obtain ⟨v, h', h2, h3⟩ := opF_ok hc op env h _ r h1
    rw [pushF_eq] at h3
    exact ⟨_, h', by simp only [stepB, hg, h2], h3⟩
  have skip : (pushF dst (.tu []) env fun env => k env h) = some r → guardA gd (tmE env) = some false → ∃ env' h', stepB call ⟨dst, gd, op⟩ env h = some (env', h') ∧ k env' h' = some r := by
    intro h1 hg
    rw [pushF_eq] at h1
    exact ⟨_, h, by simp only [stepB, hg], h1⟩
  cases gd with
  | none => exact run hr rfl
  | some g =>
    obtain ⟨d, want⟩ := g
    obtain ⟨v, h1, h2⟩ := getE_some (n := d) (env := env) hr
    have hv := tmE_get h1
    cases v with
    | b x =>
      have hg : guardA (some (d, want)) (tmE env) = some (x == want) := by simp only [guardA, hv]
      cases x <;> cases want
      · exact run h2 hg
      · exact skip h2 hg
      · exact skip h2 hg
      · exact run h2 hg
    | tu vs =>
      cases vs with
      | nil => exact skip h2 (by simp only [guardA, hv])
      | cons a b => cases h2
    | _ => cases h2

theorem runF_some {call : CallF} {ck : CallK} (hc : CSnd call ck) : ∀ {l : List BS} {env : List V} {h : H} {k : KE} {r : V × H}, runF l ck env h k = some r → ∃ env' h', runB call l env h = some (env', h') ∧ k env' h' = some r
  | [], env, h, k, r, hr => ⟨env, h, rfl, hr⟩
  | .op ro :: l, env, h, k, r, hr => by
    have h1 : stepF ro ck env h (fun env h => runF l ck env h k) = some r := hr
    obtain ⟨env1, h', h2, h3⟩ := stepF_some hc h1
    obtain ⟨env2, h4, h5, h6⟩ := runF_some hc h3
    exact ⟨env2, h4, by simp only [runB, h2, h5], h6⟩
  | .chk ro :: l, env, h, k, r, hr => by
    have h1 : ifB (chkA ro (tmE env) h) (runF l ck env h k) none = some r := hr
    rw [ifB_eq] at h1
    split at h1
    · rename_i hch
      obtain ⟨env2, h4, h5, h6⟩ := runF_some hc h1
      exact ⟨env2, h4, by simp only [runB, hch, if_true, h5], h6⟩
    · cases h1

theorem pickF_some : ∀ {ps : List Nat} {env : List V} {k : List V → R} {r : V × H}, pickF ps env k = some r → ∃ vs, pickE env ps = some vs ∧ k vs = some r
  | [], env, k, r, h => ⟨[], rfl, h⟩
  | p :: ps, env, k, r, h => by
    have h1 : getE p env (fun v => pickF ps env fun vs => k (v :: vs)) = some r := h
    obtain ⟨v, h2, h3⟩ := getE_some h1
    obtain ⟨vs, h4, h5⟩ := pickF_some h3
    exact ⟨v :: vs, by simp only [pickE, h2, h4], h5⟩

theorem retF_eq (vs : List V) (k : V → R) : retF vs k = k (retV vs) := by
  cases vs with
  | nil => rfl
  | cons v vs => cases vs <;> rfl

theorem retOK_cases {a : AO X} (h : retOK a = true) : (∃ x, a = .mv x) ∨ (∃ x, a = .ld x) ∨ ∃ n x, a = .ldn n x := by
  cases a <;> first | exact .inl ⟨_, rfl⟩ | exact .inr (.inl ⟨_, rfl⟩) | exact .inr (.inr ⟨_, _, rfl⟩) | (cases h; done)
theorem retsF_some : ∀ {rs : List (AO X)} {env : List V} {h : H} {k : List V → R} {r : V × H}, retsF rs env h k = some r → ∃ vs, retsD rs env h = some vs ∧ k vs = some r
  | [], env, h, k, r, hr => ⟨[], rfl, hr⟩
  | a :: rs, env, h, k, r, hr => by
    have h0 : ifB (retOK a) (opF a (fun _ _ _ _ => none) env h (fun v _ => retsF rs env h fun vs => k (v :: vs))) none = some r := hr
    rw [ifB_eq] at h0
    split at h0
    · rename_i hok
      obtain ⟨v, h', h2, h3⟩ := opF_ok (call := fun _ _ _ => none) (fun _ _ _ _ _ h => by cases h) a env h _ r h0
      obtain ⟨vs, h4, h5⟩ := retsF_some h3
      refine ⟨v :: vs, ?_, h5⟩
      rcases retOK_cases hok with ⟨x, rfl⟩ | ⟨x, rfl⟩ | ⟨n, x, rfl⟩
      · have : v = evX (tmE env) x := by
          have h6 : some (evX (tmE env) x, h) = some (v, h') := h2
          injection h6 with h6; injection h6 with h6 _; exact h6.symm
        simp only [retsD, h4, this]
      · rw [semAll2 _ rfl] at h2
        simp only [Option.map_eq_some_iff, Prod.mk.injEq] at h2
        obtain ⟨w, h6, rfl, _⟩ := h2
        simp only [retsD, h6, h4]
      · rw [semAll2 _ rfl] at h2
        simp only [Option.map_eq_some_iff, Prod.mk.injEq] at h2
        obtain ⟨w, h6, rfl, _⟩ := h2
        simp only [retsD, h6, h4]
    · cases h0

/-- What stands behind, by how it ended. -/
def onEX (kN : KE) (kE : Nat → KE) (kR : V → H → R) : EX → H → R
  | .nrm env, h => kN env h
  | .exit id env, h => kE id env h
  | .ret v, h => kR v h

theorem execF_some {call : CallF} {ck : CallK} (hc : CSnd call ck) {n : Nat} : ∀ (b : BC) (env : List V) (h : H) (kN : KE) (kE : Nat → KE) (kR : V → H → R) (r : V × H), execF ck n b env h kN kE kR = some r →
    ∃ ex h', execD call n b env h = some (ex, h') ∧ onEX kN kE kR ex h' = some r := by
  intro b
  induction b with
  | skip => intro env h kN kE kR r hr; exact ⟨.nrm env, h, rfl, hr⟩
  | reg l =>
    intro env h kN kE kR r hr
    obtain ⟨env', h', h1, h2⟩ := runF_some hc (l := l) hr
    exact ⟨.nrm env', h', by simp only [execD, h1], h2⟩
  | seq a b iha ihb =>
    intro env h kN kE kR r hr
    obtain ⟨ex, h', h1, h2⟩ := iha env h (fun env h => execF ck n b env h kN kE kR) kE kR r hr
    cases ex with
    | nrm env' =>
      obtain ⟨ex, h'', h3, h4⟩ := ihb env' h' kN kE kR r h2
      exact ⟨ex, h'', by simp only [execD, h1, h3], h4⟩
    | exit id env' => exact ⟨.exit id env', h', by simp only [execD, h1], h2⟩
    | ret v => exact ⟨.ret v, h', by simp only [execD, h1], h2⟩
  | cond x a b iha ihb =>
    intro env h kN kE kR r hr
    obtain ⟨t, h1, h2⟩ := asB_some (xF_some (x := x) hr)
    cases t with
    | true =>
      obtain ⟨ex, h', h3, h4⟩ := iha env h kN kE kR r h2
      exact ⟨ex, h', by simp only [execD, h1, h3], h4⟩
    | false =>
      obtain ⟨ex, h', h3, h4⟩ := ihb env h kN kE kR r h2
      exact ⟨ex, h', by simp only [execD, h1, h3], h4⟩
  | block id L b ih =>
    intro env h kN kE kR r hr
    obtain ⟨ex, h', h1, h2⟩ := ih env h kN (fun i env h => ifB (Nat.beq i id) (kN env h) (kE i env h)) kR r hr
    cases ex with
    | nrm env' => exact ⟨.nrm env', h', by simp only [execD, h1], h2⟩
    | exit i env' =>
      have h3 : ifB (Nat.beq i id) (kN env' h') (kE i env' h') = some r := h2
      rw [ifB_eq] at h3
      by_cases hi : i = id
      · rw [if_pos (by rw [Nat.beq_eq]; exact hi)] at h3
        exact ⟨.nrm env', h', by simp only [execD, h1, hi, if_true], h3⟩
      · rw [if_neg (by rw [Nat.beq_eq]; exact hi)] at h3
        exact ⟨.exit i env', h', by simp only [execD, h1, hi, if_false], h3⟩
    | ret v => exact ⟨.ret v, h', by simp only [execD, h1], h2⟩
  | loop b ih =>
    intro env h kN kE kR r hr
    have key : ∀ (m : Nat) (env : List V) (h : H), (Nat.rec (motive := fun _ => List V → H → R) (fun _ _ => none) (fun _ ihm env h => execF ck n b env h ihm kE kR) m env h : R) = some r →
        ∃ ex h', loopD (execD call n b) m env h = some (ex, h') ∧ onEX kN kE kR ex h' = some r := by
      intro m
      induction m with
      | zero => intro env h h1; cases h1
      | succ m ihm =>
        intro env h h1
        obtain ⟨ex, h', h2, h3⟩ := ih env h _ kE kR r h1
        cases ex with
        | nrm env' =>
          obtain ⟨ex, h'', h4, h5⟩ := ihm env' h' h3
          exact ⟨ex, h'', by simp only [loopD, h2, h4], h5⟩
        | exit id env' => exact ⟨.exit id env', h', by simp only [loopD, h2], h3⟩
        | ret v => exact ⟨.ret v, h', by simp only [loopD, h2], h3⟩
    obtain ⟨ex, h', h1, h2⟩ := key n env h hr
    exact ⟨ex, h', by simp only [execD, h1], h2⟩
  | exit id => intro env h kN kE kR r hr; exact ⟨.exit id env, h, rfl, hr⟩
  | ret rs =>
    intro env h kN kE kR r hr
    obtain ⟨vs, h1, h2⟩ := retsF_some (rs := rs) hr
    rw [retF_eq] at h2
    exact ⟨.ret (retV vs), h, by simp only [execD, h1], h2⟩
  | pre ts ps b ih =>
    intro env h kN kE kR r hr
    obtain ⟨vs, h1, h2⟩ := pickF_some (ps := ps) hr
    obtain ⟨ex, h', h3, h4⟩ := ih vs h kN kE kR r h2
    exact ⟨ex, h', by simp only [execD, h1, h3], h4⟩
  | post b ts ps ih =>
    intro env h kN kE kR r hr
    obtain ⟨ex, h', h1, h2⟩ := ih env h (fun env h => pickF ps env fun env => kN env h) kE kR r hr
    cases ex with
    | nrm env' =>
      obtain ⟨vs, h3, h4⟩ := pickF_some (ps := ps) h2
      exact ⟨.nrm vs, h', by simp only [execD, h1, h3], h4⟩
    | exit id env' => exact ⟨.exit id env', h', by simp only [execD, h1], h2⟩
    | ret v => exact ⟨.ret v, h', by simp only [execD, h1], h2⟩
  | bad => intro env h kN kE kR r hr; cases hr


theorem callF_some {FT : Tr FN} {n : Nat} : ∀ d, CSnd (callD (fun g => FT.get g) n d) (callF FT n d)
  | 0 => fun g as h k r hr => by cases hr
  | d + 1 => fun g as h k r hr => by
    have ih := callF_some (FT := FT) (n := n) d
    obtain ⟨f, h1, h2⟩ := trGet_some (t := FT) (key := g) hr
    cases f with
    | code np b =>
      have h3 : ifB (Nat.beq as.length np) (execF (callF FT n d) n b as h (fun _ _ => none) (fun _ _ _ => none) k) none = some r := h2
      rw [ifB_eq] at h3
      split at h3
      · rename_i hl
        obtain ⟨ex, h', h4, h5⟩ := execF_some ih b as h _ _ k r h3
        cases ex with
        | nrm env' => cases h5
        | exit id env' => cases h5
        | ret v => exact ⟨v, h', by simp only [callD, h1, h4]; rw [if_pos (by rw [← Nat.beq_eq]; exact hl)], h5⟩
      · cases h3
    | prim f =>
      cases hf : f as h with
      | none =>
        have h3 : (Option.rec (motive := fun _ => R) none (fun p => Prod.rec (motive := fun _ => R) (fun v h => k v h) p) (f as h) : R) = some r := h2
        rw [hf] at h3; cases h3
      | some p =>
        have h3 : (Option.rec (motive := fun _ => R) none (fun p => Prod.rec (motive := fun _ => R) (fun v h => k v h) p) (f as h) : R) = some r := h2
        rw [hf] at h3
        exact ⟨p.1, p.2, by simp only [callD, h1, hf], h3⟩

end Go.Ev

/-! Tables of a program, as trees. -/
namespace Go.Ev

/-- What holds of all that a tree holds. -/
def TrAll {α : Type} (Q : Nat → α → Prop) : Tr α → (Nat → Nat) → Prop
  | .lf, _ => True
  | .nd l x r, f => TrAll Q l (fun k => f (2 * k + 1)) ∧ (match x with | none => True | some a => Q (f 0) a) ∧ TrAll Q r (fun k => f (2 * k + 2))

theorem TrAll.get {α : Type} {Q : Nat → α → Prop} : ∀ {t : Tr α} {f : Nat → Nat}, TrAll Q t f → ∀ {k : Nat} {a : α}, t.get k = some a → Q (f k) a
  | .lf, f, _, k, a, h => by cases k <;> cases h
  | .nd l x r, f, ⟨h1, h2, h3⟩, 0, a, h => by
    simp only [Tr.get] at h
    subst h
    exact h2
  | .nd l x r, f, ⟨h1, h2, h3⟩, k + 1, a, h => by
    simp only [Tr.get] at h
    split at h
    · rename_i hk
      have := h1.get h
      have e : 2 * (k / 2) + 1 = k + 1 := by omega
      simpa only [e] using this
    · rename_i hk
      have := h3.get h
      have hk' : ¬ k % 2 = 0 := hk
      have e : 2 * (k / 2) + 2 = k + 1 := by omega
      simpa only [e] using this

/-- What must be known of a function. -/
def FGood (P : Program) (T : TT) (g : Nat) : FN → Prop
  | .code np b => Enters P g ∧ ∃ fn hint, P.funcs[g]? = some fn ∧ compF T fn np hint = some b
  | .prim f => Enters P g ∧ PrimOK P g f

theorem FTOK.of_tree {P : Program} {T : TT} {FT : Tr FN} (h : TrAll (FGood P T) FT id) : FTOK P T fun g => FT.get g where
  code g np b hg := (h.get hg).2
  prim g f hg := (h.get hg).2
  ent g f hg := by
    have := h.get hg
    cases f with
    | code np b => exact this.1
    | prim f => exact this.1

/-- What must be known of a type. -/
def TGood (P : Program) (t : Nat) (i : TI) : Prop := ∃ j : TypeInfo, P.info? t = some j ∧ P.underlying t = some i.d ∧ j.size = i.size ∧ j.bytes = i.bytes ∧ ∃ z, j.zero = some z ∧ V.ofL z.cells.toList = some i.zero ∧ (TypeDesc.agg i.d = true → ∃ cs, z = .agg cs) ∧ (TypeDesc.agg i.d = false → z.oneCell = true)

/-- What the kernel's form answers, a call answers. -/
theorem calls_of_callF {P : Program} {T : TT} {FT : Tr FN} (hT : TOK P T) (hmix : P.follows .mixedOrders = true) (hF : TrAll (FGood P T) FT id) {n d g : Nat} {args : List V} {h : H} {k : V → H → R} {r : V × H}
    (hr : callF FT n d g args h k = some r) {ι : Iota} {xs : Array Value} {w : World} (hg : Globs P ι) (hargs : VRs ι args xs.toList) (hh : HRel ι h w) :
    Calls P g xs w fun e w' => ∃ v h', k v h' = some r ∧ ∃ x ι', e = .returned x ∧ VR ι' v x ∧ HRel ι' h' w' ∧ Ext ι h w ι' h' w' := by
  obtain ⟨v, h', h1, h2⟩ := callF_some d g args h k r hr
  exact (callD_ok hT hmix (FTOK.of_tree hF) d g args h v h' h1 ι xs w hg hargs hh).mono fun e w' ⟨x, ι', h3⟩ => ⟨v, h', h2, x, ι', h3⟩

end Go.Ev
