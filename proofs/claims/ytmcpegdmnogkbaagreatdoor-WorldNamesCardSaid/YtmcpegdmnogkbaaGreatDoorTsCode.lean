/- The layer 'TS': regions that draw their order, code, functions. -/
import Derived.Test.YtmcpegdmnogkbaaGreatDoorTsDen
set_option linter.unusedSimpArgs false
set_option linter.unusedVariables false
namespace Go.TS
open Go

def isPure (tys : Tys) : Op → Bool
  | .load .. | .lookup .. => false
  | .convert _ dst _ => match tyOf tys dst with
    | some ⟨.int _, _, _, _, _⟩ => true
    | _ => false
  | .call ⟨.builtin .len, _, ts⟩ => match ts.toList with
    | t :: _ => match tyOf tys t with
      | some ⟨.slice _, _, _, _, _⟩ => true
      | some ⟨.string, _, _, _, _⟩ => true
      | _ => false
    | _ => false
  | op => isStill op
def isQuiet (tys : Tys) (op : Op) : Bool := match op with | .load .. => true | op => isPure tys op

def preds (o : Oper) : List Nat := o.after.toList.filterMap fun x => match Region.binds .any x with | true => some x.on | false => none
/-- is j ahead of i, by the region's edges? -/
def ancB (M : List Nat) (j i : Nat) : Bool := (M.getD i 0).testBit j

/-- what a load that was done says of memory -/
abbrev Fact := Mem → Prop
def factOf (e : Env) (op : Op) (v : Value) : Fact := fun h => match op with
  | .load _ x => match ev e x with
    | some (.pointer (some a)) => match v with
      | .agg cs => cellsAt h a cs.toList
      | v => rd h a = some v
    | _ => False
  | _ => True
def keepR (M : List Nat) (i : Nat) : List (Nat × Fact) → List (Nat × Fact)
  | [] => []
  | (j, f) :: r => match ancB M j i with
    | true => keepR M i r
    | false => (j, f) :: keepR M i r
def facts (h : Mem) : List (Nat × Fact) → Prop → Prop
  | [], X => X
  | (_, f) :: r, X => f h ∧ facts h r X
def isLoad : Op → Bool
  | .load .. => true
  | _ => false

def allP (l : List Nat) (f : Nat → Prop) : Prop := match l with
  | [] => True
  | [i] => f i
  | i :: j :: r => f i ∧ allP (j :: r) f

/-- The operations of a region that draws its order. -/
def denA (tys : Tys) (cs : Calls') (M : List Nat) (ops : List Oper) : Nat → Array Bool → List (Nat × Fact) → Env → Mem → (Env → Mem → Prop) → Prop
  | 0, listed, _, e, h, K => match Region.ready .any ops.toArray listed with
    | [] => K e h
    | _ => False
  | n + 1, listed, R, e, h, K =>
    match (Region.ready .any ops.toArray listed).find? (fun i => match ops[i]? with | some o => isQuiet tys o.op | none => false) with
    | some i => match ops[i]? with
      | none => False
      | some o => grd ops o e fun e w => match w with
        | false => denA tys cs M ops n (listed.setIfInBounds i true) R (bindE o.dst undef e) h K
        | true => still tys e h o.op fun v => denA tys cs M ops n (listed.setIfInBounds i true) (match isLoad o.op with | true => (i, factOf e o.op v) :: R | false => R) (bindE o.dst v e) h K
    | none => match Region.ready .any ops.toArray listed with
      | [] => K e h
      | l => allP l fun i => match ops[i]? with
        | none => False
        | some o => grd ops o e fun e w => match w with
          | false => denA tys cs M ops n (listed.setIfInBounds i true) (keepR M i R) (bindE o.dst undef e) h K
          | true => match isStill o.op && !isFreeze tys o.op with
            | true => still tys e h o.op fun v => denA tys cs M ops n (listed.setIfInBounds i true) (keepR M i R) (bindE o.dst v e) h K
            | false => eff tys cs e h o.op fun v h' => facts h' (keepR M i R) (denA tys cs M ops n (listed.setIfInBounds i true) (keepR M i R) (bindE o.dst v e) h' K)

def writesO : List Oper → List Nat
  | [] => []
  | o :: r => match o.dst with | some d => d :: writesO r | none => writesO r
def writes : Code → List Nat
  | .region _ ops _ => writesO ops.toList
  | .seq a b => writes a ++ writes b
  | .cond _ a b => writes a ++ writes b
  | .block _ b => writes b
  | .loop b => writes b
  | .scope b => writes b
  | _ => []
def firstR : Code → Nat
  | .region id _ _ => id
  | .seq a _ => firstR a
  | .block _ b => firstR b
  | .loop b => firstR b
  | _ => 0
def without : List Nat → Env → Env
  | [], e => e
  | i :: r, e => without r (Tr.del e i)
def noDefer : Code → Bool
  | .region _ ops _ => ops.toList.all fun o => match o.op with | .defer _ => false | _ => true
  | .seq a b => noDefer a && noDefer b
  | .cond _ a b => noDefer a && noDefer b
  | .block _ b => noDefer b
  | .loop b => noDefer b
  | .scope b => noDefer b
  | .rangeFunc .. => false
  | _ => true

structure Hints where
  loops : List (Nat × List (Nat × Kind))
  masks : List (Nat × List Nat)
  /-- slots whose kind is held behind a region -/
  chks : List (Nat × List (Nat × Kind))
def pick {α : Type} (d : α) : List (Nat × α) → Nat → α
  | [], _ => d
  | (i, l) :: r, t => match Nat.beq i t with | true => l | false => pick d r t
def pickO {α : Type} : List (Nat × α) → Nat → Option α
  | [], _ => none
  | (i, l) :: r, t => match Nat.beq i t with | true => some l | false => pickO r t
def hintOf (hn : Hints) (t : Nat) : Option (List (Nat × Kind)) := pickO hn.loops t
def maskOf (hn : Hints) (t : Nat) (ops : Array Oper) : List Nat := match pickO hn.masks t with
  | some m => m
  | none => (Region.before ops).toList

/-- slots of known kinds -/
def chk : List (Nat × Kind) → Env → (Env → Prop) → Prop
  | [], e, K => K e
  | (i, k) :: r, e, K => ∃ x : k.ty, Env.get e i = some (k.enc x) ∧ chk r (Env.put e i (k.enc x)) K
def chkN (hn : Hints) (t : Nat) (N : Rg) : Rg := match pickO hn.chks t with
  | none => N
  | some l => fun e ds h => chk l e fun e => N e ds h
def putL : Env → List Nat → List Value → Env
  | e, p :: ps, v :: vs => putL (Env.put e p v) ps vs
  | e, _, _ => e
/-- a round of a range over a function -/
def yieldP (dA dB : Env → List Deferred → Mem → Rg → (Nat → Rg) → Rg → Prop) (e : Env) (r : Loop) (l : Nat) : CallP := fun vs h K =>
  vs.length = r.params.size ∧ h[l]? = some (.loop { r with state := .ready, pending := none }) ∧
  dA (putL e r.params.toList vs) [] h (fun e _ h => h[l]? = some (.loop { r with state := .ready, pending := none }) ∧
    dB e [] (h.setIfInBounds l (.loop { r with state := .busy, pending := none }))
      (fun _ _ h => h[l]? = some (.loop { r with state := .busy, pending := none }) ∧ K (.bool true) (h.setIfInBounds l (.loop { r with state := .ready, pending := none })))
      (fun i _ _ h => h[l]? = some (.loop { r with state := .busy, pending := none }) ∧ K (.bool false) (h.setIfInBounds l (.loop { r with state := .done, pending := some (.exit i) })))
      (fun _ _ h => h[l]? = some (.loop { r with state := .busy, pending := none }) ∧ K (.bool false) (h.setIfInBounds l (.loop { r with state := .done, pending := some .ret }))))
    (fun _ _ _ _ => False) (fun _ _ _ => False)
def jmp (pend : Option Code) (N : Mem → Prop) (X : Nat → Mem → Prop) (R : Mem → Prop) (h : Mem) : Prop := match pend with
  | none => N h
  | some .ret => R h
  | some (.exit i) => X i h
  | _ => False
/-- What code asks. -/
def den (tys : Tys) (cs : Calls') (hn : Hints) : Code → Env → List Deferred → Mem → Rg → (Nat → Rg) → Rg → Prop
  | .skip, e, ds, h, N, _, _ => N e ds h
  | .label _, e, ds, h, N, _, _ => N e ds h
  | .region id ops draw, e, ds, h, N, _, _ => match draw with
    | false => denL tys cs ops.toList ops.toList e ds h (chkN hn id N)
    | true => denA tys cs (maskOf hn id ops) ops.toList ops.toList.length (Array.replicate ops.toList.length false) [] e h fun e h => N e ds h
  | .seq a b, e, ds, h, N, X, R => den tys cs hn a e ds h (fun e ds h => den tys cs hn b e ds h N X R) X R
  | .cond c a b, e, ds, h, N, X, R => withV e c fun c => match c with
    | .bool c => ifB c (den tys cs hn a e ds h N X R) (den tys cs hn b e ds h N X R)
    | _ => False
  | .block id b, e, ds, h, N, X, R => den tys cs hn b e ds h N (fun i => match Nat.beq i id with | true => N | false => X i) R
  | .loop b, e, ds, h, _, X, R => match noDefer b with
    | false => False
    | true => match hintOf hn (firstR b) with
      | none => LoopP (σ := Env) (fun next e h => den tys cs hn b e ds h (fun e' _ h' => next e' h') X R) e h
      | some l => match decSt l e with
        | none => False
        | some s => LoopP (σ := St l) (fun next s h =>
            den tys cs hn b (encOn l s (without (writes b) e)) ds h
              (fun e' _ h' => match decSt l e' with | some s' => next s' h' | none => False) X R) s h
  | .exit i, e, ds, h, _, X, _ => X i e ds h
  | .ret, e, ds, h, _, _, R => R e ds h
  | .scope b, e, ds, h, N, X, R => den tys cs hn b e ds h N X R
  | .rangeFunc g ps assign body, e, ds, h, N, X, R => match ev e g with
    | some (.func (.func f) first cap) => ∀ (fn : FuncId) (tmps : Array Value), (∀ t v, Env.get e t = some v → tmps[t]? = some v) →
      al (.deferred (some [])) h fun D h => al (.loop { state := .ready, pending := none, fn, tmps, params := ps, assign, body, defers := D }) h fun l h =>
        match cs.it (addY cs.ys l (yieldP (den tys cs hn assign) (den tys cs hn body) e { state := .ready, pending := none, fn, tmps, params := ps, assign, body, defers := D } l)) f with
        | some p => p (first.toList ++ [.func (.yield l) #[] #[]] ++ cap.toList) h fun _ h => ∃ st pend, h[l]? = some (.loop { state := st, pending := pend, fn, tmps, params := ps, assign, body, defers := D }) ∧ st ≠ .busy ∧
            jmp pend (N e ({ target := .collected D, args := #[] } :: ds)) (fun i => X i e ({ target := .collected D, args := #[] } :: ds)) (R e ({ target := .collected D, args := #[] } :: ds))
              (h.setIfInBounds l (.loop { state := .exhausted, pending := pend, fn, tmps, params := ps, assign, body, defers := D }))
        | none => False
    | _ => False
  | _, _, _, _, _, _, _ => False

/-- The results. -/
def resL (tys : Tys) (e : Env) (h : Mem) : List ResultVar → (List Value → Prop) → Prop
  | [], K => K []
  | .tmp t :: r, K => match Env.get e t with
    | some v => resL tys e h r fun vs => K (v :: vs)
    | none => False
  | .cell a t :: r, K => match Env.get e a with
    | some (.pointer (some a)) => match tyOf tys t with
      | some ti => ldT ti.lk a h fun v => resL tys e h r fun vs => K (v :: vs)
      | none => False
    | _ => False
def resV : List Value → Value
  | [v] => v
  | vs => .tuple vs.toArray
def fin (tys : Tys) (dcs : Calls') (rs : List ResultVar) (e : Env) (K : Value → Mem → Prop) : List Deferred → Mem → Prop
  | [], h => resL tys e h rs fun vs => K (resV vs) h
  | d :: ds, h => match d.target with
    | .fn (.func f) cap => match callOf dcs f with
      | some p => p (d.args.toList ++ cap.toList) h fun _ h => fin tys dcs rs e K ds h
      | none => False
    | .collected D => h[D]? = some (.deferred (some [])) ∧ fin tys dcs rs e K ds (h.setIfInBounds D (.deferred none))
    | _ => False
def argsE : Nat → List Value → Env
  | _, [] => .nil
  | i, v :: vs => Env.put (argsE (i + 1) vs) i v
/-- What a function asks. -/
def denF (tys : Tys) (cs dcs : Calls') (hn : Hints) (c : Code) (rs : List ResultVar) (args : List Value) (h : Mem) (K : Value → Mem → Prop) : Prop :=
  den tys cs hn c (argsE 0 args) [] h (fun e ds h => fin tys dcs rs e K ds h) (fun _ _ _ _ => False) (fun e ds h => fin tys dcs rs e K ds h)
theorem keep {p : Prop} (h : p) : p := h
end Go.TS
