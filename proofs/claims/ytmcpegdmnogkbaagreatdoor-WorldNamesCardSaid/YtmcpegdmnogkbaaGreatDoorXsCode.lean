/- The layer 'XS': a program that runs code over abstract memory, for the kernel: regions, code, functions. -/
import Derived.Test.YtmcpegdmnogkbaaGreatDoorXsDen
set_option linter.unusedSimpArgs false
set_option linter.unusedVariables false
namespace Go.XS
open Go Go.TS
noncomputable section
variable {ρ : Type}

def pEq (p q : P) : Bool := P.rec (motive := fun _ => P → Bool)
  (fun q => P.rec (motive := fun _ => Bool) true (fun _ _ => false) (fun _ _ => false) q)
  (fun _ ih q => P.rec (motive := fun _ => Bool) false (fun q _ => ih q) (fun _ _ => false) q)
  (fun _ ih q => P.rec (motive := fun _ => Bool) false (fun _ _ => false) (fun q _ => ih q) q) p q
def eqAd : Option Ad → Option Ad → Bool
  | none, none => true
  | some a, some b => match Nat.beq a.o b.o with
    | true => pEq a.b b.b
    | false => false
  | _, _ => false
/-- are two values the same? -/
def eqV1 (a b : AV) : Bool := match a with
  | .int k n => match b with
    | .int k' m => match ikEq k k' with
      | true => iEq n m
      | false => false
    | _ => false
  | .bool x => match b with
    | .bool y => eqBo x y
    | _ => false
  | .ptr p => match b with
    | .ptr q => eqAd p q
    | _ => false
  | .sl s => match b with
    | .sl t => match eqAd s.base t.base with
      | true => match Nat.beq s.len t.len with
        | true => match Nat.beq s.cap t.cap with
          | true => Nat.beq s.e t.e
          | false => false
        | false => false
      | false => false
    | _ => false
  | .str s => match b with
    | .str t => eqAt s t
    | _ => false
  | .map r => match b with
    | .map none => isNone r
    | .map (some q) => match r with
      | some p => pEq p q
      | none => false
    | _ => false
  | .nilf => match b with
    | .nilf => true
    | _ => false
  | .nilI => match b with
    | .nilI => true
    | _ => false
  | _ => false
def eqVL0 (a : List AV) : List AV → Bool :=
  List.rec (motive := fun _ => List AV → Bool) (fun b => match b with | [] => true | _ => false) (fun x _ ih b => match b with
    | y :: s => match eqV1 x y with
      | true => ih s
      | false => false
    | [] => false) a
def fnEq : Fn → Fn → Bool
  | .func f, .func g => Nat.beq f g
  | _, _ => false
/-- closures, too -/
def eqV2 (a b : AV) : Bool := match a with
  | .fn f xs ys => match b with
    | .fn g us vs => match fnEq f g with
      | true => match eqVL0 xs us with
        | true => eqVL0 ys vs
        | false => false
      | false => false
    | _ => false
  | a => eqV1 a b
def eqVL (a : List AV) : List AV → Bool :=
  List.rec (motive := fun _ => List AV → Bool) (fun b => match b with | [] => true | _ => false) (fun x _ ih b => match b with
    | y :: s => match eqV2 x y with
      | true => ih s
      | false => false
    | [] => false) a
def eqV0 (a b : AV) : Bool := match a with
  | .agg l => match b with
    | .agg m => eqVL l m
    | _ => false
  | .aggb n len => match b with
    | .aggb m k => match Nat.beq n m with
      | true => Nat.beq len k
      | false => false
    | _ => false
  | a => eqV2 a b
def eqVT (a : List AV) : List AV → Bool :=
  List.rec (motive := fun _ => List AV → Bool) (fun b => match b with | [] => true | _ => false) (fun x _ ih b => match b with
    | y :: s => match eqV0 x y with
      | true => ih s
      | false => false
    | [] => false) a
def eqV (a b : AV) : Bool := match a with
  | .tup l => match b with
    | .tup m => eqVT l m
    | _ => false
  | .ifc t v => match b with
    | .ifc u w => match Nat.beq t u with
      | true => eqV0 v w
      | false => false
    | _ => false
  | a => eqV0 a b

abbrev Rg (ρ : Type) := AE → List ADef → Am → Option ρ

/-- One operation that is wanted. -/
def doOp (tys : Tys) (cf : CF) (o : Oper) (e : AE) (ds : List ADef) (h : Am) (K : Rg ρ) : Option ρ :=
  match o.op with
  | .defer ⟨.value f, args, _⟩ => withV e f fun f => evL e args.toList fun vs => match f with
    | .fn fn first cap => K (bindE o.dst undefA e) (⟨fn, cap, catL first vs, none⟩ :: ds) h
    | _ => none
  | op => match isStill op && !isFreeze tys op with
    | true => still tys e h op fun v => K (bindE o.dst v e) ds h
    | false => eff tys cf e h op fun v h => K (bindE o.dst v e) ds h
/-- The operations of a region, one behind the other. -/
def denL (tys : Tys) (cf : CF) (all : List Oper) (l : List Oper) : AE → List ADef → Am → Rg ρ → Option ρ :=
  List.rec (motive := fun _ => AE → List ADef → Am → Rg ρ → Option ρ) (fun e ds h K => K e ds h)
    (fun o _ ih e ds h K => grd all o e fun w => match w with
      | false => ih (bindE o.dst undefA e) ds h K
      | true => doOp tys cf o e ds h fun e ds h => ih e ds h K) l

/-- a load that was done: does it hold still? -/
def again (tys : Tys) (all : List Oper) (o : Oper) (e : AE) (h : Am) (K : Option ρ) : Option ρ :=
  grd all o e fun w => match w with
    | false => K
    | true => match o.op with
      | .load t x => sLoad tys e h t x fun v => match o.dst with
        | some d => match eget e d with
          | some u => match eqV u v with
            | true => K
            | false => none
          | none => none
        | none => none
      | _ => none
def againL (tys : Tys) (all : List Oper) (l : List Oper) (e : AE) (h : Am) (K : Option ρ) : Option ρ :=
  List.rec (motive := fun _ => Option ρ → Option ρ) (fun K => K) (fun o _ ih K => again tys all o e h (ih K)) l K
structure It where
  o : Oper
  eff : Bool
  re : List Oper
/-- The operations of a region that draws, in one of its orders. -/
def denI (tys : Tys) (cf : CF) (all : List Oper) (l : List It) : AE → List ADef → Am → Rg ρ → Option ρ :=
  List.rec (motive := fun _ => AE → List ADef → Am → Rg ρ → Option ρ) (fun e ds h K => K e ds h)
    (fun i _ ih e ds h K => grd all i.o e fun w => match w with
      | false => ih (bindE i.o.dst undefA e) ds h K
      | true => match i.eff with
        | false => still tys e h i.o.op fun v => ih (bindE i.o.dst v e) ds h K
        | true => match isStill i.o.op && !isFreeze tys i.o.op with
          | true => still tys e h i.o.op fun v => ih (bindE i.o.dst v e) ds h K
          | false => eff tys cf e h i.o.op fun v h => againL tys all i.re e h (ih (bindE i.o.dst v e) ds h K)) l
def keepN (M : List Nat) (i : Nat) : List Nat → List Nat
  | [] => []
  | j :: r => match ancB M j i with
    | true => keepN M i r
    | false => j :: keepN M i r
def pickL (ops : List Oper) : List Nat → List Oper
  | [] => []
  | j :: r => match ops[j]? with
    | some o => o :: pickL ops r
    | none => pickL ops r
/-- the order that is run -/
def ordF (tys : Tys) (M : List Nat) (ops : List Oper) : Nat → Array Bool → List Nat → Option (List It)
  | 0, listed, _ => match Region.ready .any ops.toArray listed with
    | [] => some []
    | _ => none
  | n + 1, listed, R =>
    match (Region.ready .any ops.toArray listed).find? (fun i => match ops[i]? with | some o => isQuiet tys o.op | none => false) with
    | some i => match ops[i]? with
      | none => none
      | some o => match ordF tys M ops n (listed.setIfInBounds i true) (match isLoad o.op with | true => i :: R | false => R) with
        | some r => some (⟨o, false, []⟩ :: r)
        | none => none
    | none => match Region.ready .any ops.toArray listed with
      | [] => some []
      | [i] => match ops[i]? with
        | none => none
        | some o => match ordF tys M ops n (listed.setIfInBounds i true) (keepN M i R) with
          | some r => some (⟨o, true, pickL ops (keepN M i R)⟩ :: r)
          | none => none
      | _ => none
/-- no operation behind writes what one ahead looked at or wrote -/
def itsOk (ops : List Oper) : List It → Bool
  | [] => true
  | i :: r => (!(isLoad i.o.op) || ((r.all fun j => match j.o.dst with
      | some d => (match i.o.dst with | some d' => !(Nat.beq d d') | none => true) && !(i.o.looksAt ops.toArray).contains d
      | none => true) && (match i.o.dst with | some d => !(i.o.looksAt ops.toArray).contains d | none => true))) && itsOk ops r
def ordOf (tys : Tys) (M : List Nat) (ops : List Oper) : Option (List It) :=
  match ordF tys M ops ops.length (Array.replicate ops.length false) [] with
  | some l => match itsOk ops l with
    | true => some l
    | false => none
  | none => none


-- regions in which several may come first: all sets of operations that may have been done, each step once, what is reached is compared
structure LS where
  listed : Array Bool
  rn : Nat
  ae : AE
  t : PT AO
  log : List P
abbrev Bd := List (Nat × P × P)
def quietAt (tys : Tys) (ops : List Oper) (i : Nat) : Bool := match ops[i]? with | some o => isQuiet tys o.op | none => false
def nextsOf (tys : Tys) (ops : List Oper) (listed : Array Bool) : List (Nat × Bool) :=
  match (Region.ready .any ops.toArray listed).find? (fun i => match ops[i]? with | some o => isQuiet tys o.op | none => false) with
  | some i => [(i, false)]
  | none => (Region.ready .any ops.toArray listed).map fun i => (i, true)
def keepB (M : List Nat) (i : Nat) (rn : Nat) : Nat := Nat.xor rn (Nat.land rn (M.getD i 0))
def pickB (ops : List Oper) (rn : Nat) : List Oper := pickL ops ((List.range ops.length).filter fun j => rn.testBit j)
def eqAOp : Option AV → Option AV → Bool
  | none, none => true
  | some a, some b => eqV a b
  | _, _ => false
def eqCs (a b : Cs) : Bool := match a with
  | .l xs => match b with
    | .l ys => eqVL xs ys
    | _ => false
  | .b n len => match b with
    | .b m k => match Nat.beq n m with
      | true => Nat.beq len k
      | false => false
    | _ => false
def eqML (a : List (Int × AV)) : List (Int × AV) → Bool :=
  List.rec (motive := fun _ => List (Int × AV) → Bool) (fun b => match b with | [] => true | _ => false) (fun x _ ih b => match b with
    | y :: s => match iEq x.1 y.1 with
      | true => match eqV0 x.2 y.2 with
        | true => ih s
        | false => false
      | false => false
    | [] => false) a
def stEq : LoopState → LoopState → Bool
  | .ready, .ready | .busy, .busy | .done, .done | .exhausted, .exhausted => true
  | _, _ => false
def jpEq : Option Jp → Option Jp → Bool
  | none, none => true
  | some .ret, some .ret => true
  | some (.exit i), some (.exit j) => Nat.beq i j
  | _, _ => false
def eqO (a b : Option AO) : Bool := match a with
  | none => match b with
    | none => true
    | some _ => false
  | some (.cells c) => match b with
    | some (.cells d) => eqCs c d
    | _ => false
  | some (.map kk mk m) => match b with
    | some (.map kk' mk' m') => match kcEq kk kk' with
      | true => match mkEq mk mk' with
        | true => eqML m m'
        | false => false
      | false => false
    | _ => false
  | some (.loop a) => match b with
    | some (.loop b) => match stEq a.st b.st with
      | true => jpEq a.pend b.pend
      | false => false
    | _ => false
  | some .defd => match b with
    | some .defd => true
    | _ => false
def dstsOf (ops : List Oper) : List Nat := writesO ops
def allL {α : Type} (l : List α) (f : α → Bool) : Bool := List.rec (motive := fun _ => Bool) true (fun a _ ih => match f a with | true => ih | false => false) l
/-- do two runs come to the same? -/
def eqLS (ops : List Oper) (a b : LS) : Bool := match Nat.beq a.rn b.rn with
  | true => match allL (dstsOf ops) (fun d => eqAOp (eget a.ae d) (eget b.ae d)) with
    | true => match allL a.log (fun p => eqO (PT.get a.t p) (PT.get b.t p)) with
      | true => allL b.log (fun p => eqO (PT.get a.t p) (PT.get b.t p))
      | false => false
    | false => false
  | false => false
def lookB (l : Bd) (i : Nat) : Option (P × P) := List.rec (motive := fun _ => Option (P × P)) none (fun q _ ih => match Nat.beq q.1 i with | true => some q.2 | false => ih) l
def stepE (tys : Tys) (cf : CF) (M : List Nat) (ops : List Oper) (s : LS) (i : Nat) (f : Bool) (nx : P) (hi : Option P) : Option (AE × Am) :=
  match ops[i]? with
  | none => none
  | some o => grd ops o s.ae fun w => match w with
    | false => some (bindE o.dst undefA s.ae, ⟨s.t, nx, hi, s.log⟩)
    | true => match f with
      | false => still tys s.ae ⟨s.t, nx, hi, s.log⟩ o.op fun v => some (bindE o.dst v s.ae, ⟨s.t, nx, hi, s.log⟩)
      | true => match isStill o.op && !isFreeze tys o.op with
        | true => still tys s.ae ⟨s.t, nx, hi, s.log⟩ o.op fun v => some (bindE o.dst v s.ae, ⟨s.t, nx, hi, s.log⟩)
        | false => eff tys cf s.ae ⟨s.t, nx, hi, s.log⟩ o.op fun v h => againL tys ops (pickB ops (keepB M i s.rn)) s.ae h (some (bindE o.dst v s.ae, h))
def rnOf (ops : List Oper) (M : List Nat) (i : Nat) (f : Bool) (rn : Nat) : Nat := match f with
  | true => keepB M i rn
  | false => match ops[i]? with
    | some o => match isLoad o.op with
      | true => Nat.lor rn (Nat.pow 2 i)
      | false => rn
    | none => rn
def nextLS (ops : List Oper) (M : List Nat) (s : LS) (i : Nat) (f : Bool) (q : AE × Am) : LS := ⟨s.listed.setIfInBounds i true, rnOf ops M i f s.rn, q.1, q.2.t, q.2.log⟩
def hiOk (e : P) (hi : Option P) : Bool := match hi with
  | none => true
  | some q => Nat.ble e.num q.num
def runEdge (tys : Tys) (cf : CF) (M : List Nat) (ops : List Oper) (hi0 : Option P) (s : LS) (i : Nat) (f : Bool) (g : P) (B : Bd) : Option (LS × P × Bd) :=
  match lookB B i with
  | some q => match stepE tys cf M ops s i f q.1 (some q.2) with
    | some x => some (nextLS ops M s i f x, g, B)
    | none => none
  | none => match stepE tys cf M ops s i f g hi0 with
    | some x => match hiOk x.2.nx hi0 with
      | true => some (nextLS ops M s i f x, x.2.nx, (i, g, x.2.nx) :: B)
      | false => none
    | none => none
def insS (ops : List Oper) (t : LS) : List LS → Option (List LS)
  | [] => some [t]
  | s :: r => match decide (s.listed.toList = t.listed.toList) with
    | true => match eqLS ops s t with
      | true => some (s :: r)
      | false => none
    | false => match insS ops t r with
      | some r' => some (s :: r')
      | none => none
def lvlE (tys : Tys) (cf : CF) (M : List Nat) (ops : List Oper) (hi0 : Option P) : List (LS × Nat × Bool) → P → Bd → List LS → Option (List LS × P × Bd)
  | [], g, B, L => some (L, g, B)
  | x :: r, g, B, L => match runEdge tys cf M ops hi0 x.1 x.2.1 x.2.2 g B with
    | some q => match insS ops q.1 L with
      | some L' => lvlE tys cf M ops hi0 r q.2.1 q.2.2 L'
      | none => none
    | none => none
def edgesOf (tys : Tys) (ops : List Oper) : List LS → List (LS × Nat × Bool)
  | [] => []
  | s :: r => catL ((nextsOf tys ops s.listed).map fun q => (s, q.1, q.2)) (edgesOf tys ops r)
def latN (tys : Tys) (cf : CF) (M : List Nat) (ops : List Oper) (hi0 : Option P) : Nat → P → Bd → List LS → Option (LS × P)
  | 0, g, _, L => match L with
    | [s] => match Region.ready .any ops.toArray s.listed with
      | [] => some (s, g)
      | _ => none
    | _ => none
  | n + 1, g, B, L => match allL L (fun s => match nextsOf tys ops s.listed with | [] => false | _ => true) with
    | false => none
    | true => match lvlE tys cf M ops hi0 (edgesOf tys ops L) g B [] with
      | some q => latN tys cf M ops hi0 n q.2.1 q.2.2 q.1
      | none => none
def ancL (M : List Nat) (ops : List Oper) : Bool := (List.range ops.length).all fun i => match ops[i]? with
  | some o => (preds o).all (fun k => Nat.blt k i) && (List.range ops.length).all fun j => !(ancB M j i) || (preds o).any fun k => Nat.beq k j || ancB M j k
  | none => true
/-- what is read lies apart from what is written -/
def latOk (M : List Nat) (ops : List Oper) : Bool := (List.range ops.length).all fun j => match ops[j]? with
  | some o => !(isLoad o.op) || (List.range ops.length).all fun i => match ops[i]? with
    | some o' => match o'.dst with
      | some d => (Nat.beq i j || (match o.dst with | some d' => !(Nat.beq d d') | none => true)) && (!(o.looksAt ops.toArray).contains d || ancB M i j)
      | none => true
    | none => true
  | none => true
def denJ (tys : Tys) (cf : CF) (M : List Nat) (ops : List Oper) (e : AE) (ds : List ADef) (h : Am) (K : Rg ρ) : Option ρ :=
  match ancL M ops && latOk M ops with
  | false => none
  | true => match latN tys cf M ops h.hi ops.length h.nx [] [⟨Array.replicate ops.length false, 0, e, h.t, []⟩] with
    | some q => K q.1.ae ds ⟨q.1.t, q.2, h.hi, catL q.1.log h.log⟩
    | none => none

/-- code that is run, in the model's way -/
abbrev D (ρ : Type) := AE → List ADef → Am → Rg ρ → (Nat → Rg ρ) → Rg ρ → Option ρ
def dRegion (tys : Tys) (cf : CF) (ops : Array Oper) (draw : Bool) : D ρ := fun e ds h N _ _ => match draw with
  | false => denL tys cf ops.toList ops.toList e ds h N
  | true => match ordOf tys (Region.before ops).toList ops.toList with
    | some l => denI tys cf ops.toList l e ds h N
    | none => denJ tys cf (Region.before ops).toList ops.toList e ds h N
def dCond (c : Operand) (a b : D ρ) : D ρ := fun e ds h N X R => withV e c fun c => match c with
  | .bool c => ifB c (a e ds h N X R) (b e ds h N X R)
  | _ => none
def dBlock (id : Nat) (b : D ρ) : D ρ := fun e ds h N X R => b e ds h N (fun i => match Nat.beq i id with | true => N | false => X i) R
def dLoop (nd : Bool) (b : D ρ) : D ρ := fun e ds h _ X R => match nd with
  | false => none
  | true => LoopP (σ := AE) (fun next e h => b e ds h (fun e' _ h' => next e' h') X R) e h
def putL (ps : List Tmp) : List AV → AE → AE :=
  List.rec (motive := fun _ => List AV → AE → AE) (fun _ e => e) (fun p _ ih vs e => match vs with
    | v :: vs => ih vs (eput e p v)
    | [] => e) ps
def loopAt (h : Am) (b : P) (K : ALoop → Option ρ) : Option ρ := match h.get b with
  | some (.loop a) => K a
  | _ => none
def isReady (a : ALoop) (K : Option ρ) : Option ρ := match a.st with
  | .ready => match a.pend with
    | none => K
    | some _ => none
  | _ => none
def isBusy (a : ALoop) (K : Option ρ) : Option ρ := match a.st with
  | .busy => match a.pend with
    | none => K
    | some _ => none
  | _ => none
/-- a round of a range over a function -/
def xyield (dA dB : D (AV × Am)) (e : AE) (ps : List Tmp) (b : P) : XCall := fun vs h => match Nat.beq (lenL vs) (lenL ps) with
  | true => loopAt h b fun a => isReady a (dA (putL ps vs e) [] h (fun e _ h => loopAt h b fun a => isReady a
      (dB e [] (h.put b (.loop ⟨.busy, none⟩))
        (fun _ _ h => loopAt h b fun a => isBusy a (some (.bool true, h.put b (.loop ⟨.ready, none⟩))))
        (fun i _ _ h => loopAt h b fun a => isBusy a (some (.bool false, h.put b (.loop ⟨.done, some (.exit i)⟩))))
        (fun _ _ h => loopAt h b fun a => isBusy a (some (.bool false, h.put b (.loop ⟨.done, some .ret⟩))))))
      (fun _ _ _ _ => none) (fun _ _ _ => none))
  | false => none
def addY (ys : P → Option XCall) (b : P) (y : XCall) : P → Option XCall := fun c => match pEq c b with
  | true => some y
  | false => ys c
def dRange (cf : CF) (g : Operand) (ps : Array Tmp) (dA dB : D (AV × Am)) : D (AV × Am) := fun e ds h N X R => withV e g fun v => match v with
  | .fn (.func f) first cap => al .defd h fun d h => al (.loop ⟨.ready, none⟩) h fun l h =>
    match cf.it (addY cf.ys l (xyield dA dB e ps.toList l)) f (catL first (catL [.yld l] cap)) h with
    | some q => loopAt q.2 l fun a => match a.st with
      | .busy => none
      | _ => match a.pend with
        | none => N e (⟨.yield 0, [], [], some d⟩ :: ds) (q.2.put l (.loop ⟨.exhausted, none⟩))
        | some .ret => R e (⟨.yield 0, [], [], some d⟩ :: ds) (q.2.put l (.loop ⟨.exhausted, some .ret⟩))
        | some (.exit i) => X i e (⟨.yield 0, [], [], some d⟩ :: ds) (q.2.put l (.loop ⟨.exhausted, some (.exit i)⟩))
    | none => none
  | _ => none
def den (tys : Tys) (cf : CF) (c : Code) : D (AV × Am) :=
  Code.rec (motive := fun _ => D (AV × Am))
    (fun e ds h N _ _ => N e ds h)
    (fun _ ops draw => dRegion tys cf ops draw)
    (fun _ _ a b e ds h N X R => a e ds h (fun e ds h => b e ds h N X R) X R)
    (fun c _ _ a b => dCond c a b)
    (fun id _ b => dBlock id b)
    (fun b d => dLoop (noDefer b) d)
    (fun g ps _ _ a b => dRange cf g ps a b)
    (fun i e ds h _ X _ => X i e ds h)
    (fun _ b => b)
    (fun _ e ds h N _ _ => N e ds h)
    (fun _ _ _ _ _ _ _ => none)
    (fun e ds h _ _ R => R e ds h)
    (fun _ _ _ _ _ _ _ => none) c

/-- The results. -/
def resL (tys : Tys) (e : AE) (h : Am) (l : List ResultVar) (K : List AV → Option ρ) : Option ρ :=
  List.rec (motive := fun _ => (List AV → Option ρ) → Option ρ) (fun K => K []) (fun r _ ih K => match r with
    | .tmp t => match eget e t with
      | some v => ih fun vs => K (v :: vs)
      | none => none
    | .cell a t => match eget e a with
      | some (.ptr (some a)) => match tyOf tys t with
        | some ti => ldT ti.lk a h fun v => ih fun vs => K (v :: vs)
        | none => none
      | _ => none) l K
def resV : List AV → AV
  | [v] => v
  | vs => .tup vs
def fin (tys : Tys) (dcf : Nat → XCall) (rs : List ResultVar) (e : AE) (K : AV → Am → Option ρ) (ds : List ADef) : Am → Option ρ :=
  List.rec (motive := fun _ => Am → Option ρ) (fun h => resL tys e h rs fun vs => K (resV vs) h) (fun d _ ih h => match d.mark with
    | none => match d.fn with
      | .func f => match dcf f (catL d.args d.cap) h with
        | some q => ih q.2
        | none => none
      | _ => none
    | some b => match h.get b with
      | some .defd => ih (h.del b)
      | _ => none) ds
def argsE (l : List AV) : Nat → AE := List.rec (motive := fun _ => Nat → AE) (fun _ => e0) (fun v _ ih i => eput (ih (Nat.succ i)) i v) l
def denF (tys : Tys) (cf : CF) (dcf : Nat → XCall) (c : Code) (rs : List ResultVar) (args : List AV) (h : Am) : Option (AV × Am) :=
  den tys cf c (argsE args 0) [] h (fun e ds h => fin tys dcf rs e (fun v h => some (v, h)) ds h) (fun _ _ _ _ => none) (fun e ds h => fin tys dcf rs e (fun v h => some (v, h)) ds h)

/-- A function: its code, or a contract. -/
inductive FI where
  | code (c : Code) (rs : List ResultVar) (m : Nat)
  | intr (i : XCall)
def noCall : XCall := fun _ _ => none
def runFI (tys : Tys) (cf : CF) (dcf : Nat → XCall) (o : Option FI) : XCall := fun args h => match o with
  | some (.code c rs m) => match Nat.ble (lenL args) m with
    | true => denF tys cf dcf c rs args h
    | false => none
  | some (.intr i) => i args h
  | none => none
def runFD (tys : Tys) (cf : CF) (o : Option FI) : XCall := fun args h => match o with
  | some (.code c rs m) => match noDefer c with
    | true => match Nat.ble (lenL args) m with
      | true => denF tys cf (fun _ => noCall) c rs args h
      | false => none
    | false => none
  | _ => none
/-- Functions that call each other, n deep. -/
def itOf (fns : Nat → Option FI) (X : (P → Option XCall) → Nat → XCall) : (P → Option XCall) → Nat → XCall := fun Y f => match fns f with
  | some (.code ..) => X Y f
  | _ => noCall
def noY : P → Option XCall := fun _ => none
def XF (tys : Tys) (fns : Nat → Option FI) (n : Nat) : (P → Option XCall) → Nat → XCall :=
  Nat.rec (motive := fun _ => (P → Option XCall) → Nat → XCall) (fun _ _ _ _ => none) (fun _ ih Y f => runFI tys ⟨ih Y, itOf fns ih, Y⟩ (fun f => runFD tys ⟨ih noY, itOf fns ih, noY⟩ (fns f)) (fns f)) n
end
end Go.XS
