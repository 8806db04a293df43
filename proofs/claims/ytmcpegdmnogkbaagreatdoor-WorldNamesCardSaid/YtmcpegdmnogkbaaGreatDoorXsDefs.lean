/- The layer 'XS': a program that runs code over abstract memory, for the kernel: definitions. -/
import Derived.Test.YtmcpegdmnogkbaaGreatDoorTsCode
set_option linter.unusedSimpArgs false
set_option linter.unusedVariables false
namespace Go.XS
open Go Go.TS
noncomputable section
variable {ρ : Type}

/-- block names -/
inductive P where
  | one
  | dbl (p : P)
  | odd (p : P)
  deriving DecidableEq
def P.num (p : P) : Nat := P.rec (motive := fun _ => Nat) 1 (fun _ ih => Nat.mul 2 ih) (fun _ ih => Nat.succ (Nat.mul 2 ih)) p
def P.succ (p : P) : P := P.rec (motive := fun _ => P) (.dbl .one) (fun p _ => .odd p) (fun _ ih => .dbl ih) p
/-- the name of a number -/
def pOfF (f : Nat) : Nat → P :=
  Nat.rec (motive := fun _ => Nat → P) (fun _ => .one) (fun _ ih n => match Nat.beq n 0 with
    | true => .one
    | false => match Nat.beq (Nat.mod n 2) 0 with
      | true => .odd (ih (Nat.sub (Nat.div n 2) 1))
      | false => .dbl (ih (Nat.div n 2))) f
def pOf (n : Nat) : P := pOfF 20 n

inductive PT (α : Type) where
  | lf
  | nd (l : PT α) (v : Option α) (r : PT α)
def PT.get {α : Type} (t : PT α) (p : P) : Option α :=
  P.rec (motive := fun _ => PT α → Option α)
    (fun t => PT.rec (motive := fun _ => Option α) none (fun _ v _ _ _ => v) t)
    (fun _ ih t => PT.rec (motive := fun _ => Option α) none (fun l _ _ _ _ => ih l) t)
    (fun _ ih t => PT.rec (motive := fun _ => Option α) none (fun _ _ r _ _ => ih r) t) p t
def PT.set {α : Type} (t : PT α) (p : P) (x : Option α) : PT α :=
  P.rec (motive := fun _ => PT α → PT α)
    (fun t => PT.rec (motive := fun _ => PT α) (.nd .lf x .lf) (fun l _ r _ _ => .nd l x r) t)
    (fun _ ih t => PT.rec (motive := fun _ => PT α) (.nd (ih .lf) none .lf) (fun l v r _ _ => .nd (ih l) v r) t)
    (fun _ ih t => PT.rec (motive := fun _ => PT α) (.nd .lf none (ih .lf)) (fun l v r _ _ => .nd l v (ih r)) t) p t
def PT.put {α : Type} (t : PT α) (p : P) (x : α) : PT α := PT.set t p (some x)
def PT.del {α : Type} (t : PT α) (p : P) : PT α := PT.set t p none

/-- an address -/
structure Ad where
  b : P
  o : Nat
def Ad.add (a : Ad) (n : Nat) : Ad := ⟨a.b, Nat.add a.o n⟩
/-- a slice. e = 0: cap is its capacity; else: cap is no more than its capacity, its block ends where the capacity ends, its elements have e cells. -/
structure As where
  base : Option Ad
  len : Nat
  cap : Nat
  e : Nat
/-- a string: its bytes, the first one the lowest -/
structure At where
  n : Nat
  len : Nat

/-- abstract values -/
inductive AV where
  | int (k : IntKind) (n : Int)
  | bool (b : Bool)
  | ptr (p : Option Ad)
  | sl (s : As)
  | str (s : At)
  | map (r : Option P)
  | fn (f : Fn) (xs ys : List AV)
  | yld (b : P)
  | nilf
  | agg (l : List AV)
  | aggb (n len : Nat)
  | tup (l : List AV)
  | ifc (t : Nat) (v : AV)
  | nilI
  deriving Inhabited

/-- cells: a list, or bytes ags one number -/
inductive Cs where
  | l (xs : List AV)
  | b (n len : Nat)

def dig (n i : Nat) : Nat := Nat.mod (Nat.shiftRight n (Nat.mul 8 i)) 256
def bytesL (n len : Nat) : List AV := (List.range len).map fun i => .int .u8 (Int.ofNat (dig n i))
def Cs.list : Cs → List AV
  | .l xs => xs
  | .b n len => bytesL n len

def lenL {α : Type} (l : List α) : Nat := List.rec (motive := fun _ => Nat) 0 (fun _ _ ih => Nat.succ ih) l
def nth {α : Type} (l : List α) : Nat → Option α :=
  List.rec (motive := fun _ => Nat → Option α) (fun _ => none) (fun a _ ih n => Nat.rec (motive := fun _ => Option α) (some a) (fun m _ => ih m) n) l
def setL {α : Type} (l : List α) : Nat → α → List α :=
  List.rec (motive := fun _ => Nat → α → List α) (fun _ _ => []) (fun a r ih n x => Nat.rec (motive := fun _ => List α) (x :: r) (fun m _ => a :: ih m x) n) l
def catL {α : Type} (a b : List α) : List α := List.rec (motive := fun _ => List α) b (fun x _ ih => x :: ih) a
def dropL {α : Type} (l : List α) : Nat → List α :=
  List.rec (motive := fun _ => Nat → List α) (fun _ => []) (fun a r ih n => Nat.rec (motive := fun _ => List α) (a :: r) (fun m _ => ih m) n) l
def takeL {α : Type} (l : List α) : Nat → List α :=
  List.rec (motive := fun _ => Nat → List α) (fun _ => []) (fun a _ ih n => Nat.rec (motive := fun _ => List α) [] (fun m _ => a :: ih m) n) l

def Cs.isB : Cs → Bool
  | .l _ => false
  | .b _ _ => true
/-- a row of bytes stays one -/
def okB (a b : Cs) : Bool := match a with
  | .l _ => true
  | .b _ _ => Cs.isB b
def Cs.len : Cs → Nat
  | .l xs => lenL xs
  | .b _ n => n
def Cs.nth (c : Cs) (i : Nat) : Option AV :=
  match c with
  | .l xs => XS.nth xs i
  | .b n len => match Nat.blt i len with
    | true => some (.int .u8 (Int.ofNat (dig n i)))
    | false => none
/-- does the value lie in one cell? -/
def oneA : AV → Bool
  | .agg _ | .aggb _ _ | .tup _ => false
  | _ => true
def allA (l : List AV) : Bool := List.rec (motive := fun _ => Bool) true (fun a _ ih => match oneA a with | true => ih | false => false) l
/-- a byte's number -/
def byteOf : AV → Option Nat
  | .int .u8 (.ofNat n) => match Nat.blt n 256 with
    | true => some n
    | false => none
  | _ => none
def pw (len : Nat) : Nat := Nat.pow 2 (Nat.mul 8 len)
/-- bytes from lo on -/
def bsub (n lo len : Nat) : Nat := Nat.mod (Nat.shiftRight n (Nat.mul 8 lo)) (pw len)
def bcat (a la b : Nat) : Nat := Nat.add a (Nat.shiftLeft b (Nat.mul 8 la))
/-- bytes of d laid over n, from o on -/
def bput (n len o d ld : Nat) : Nat := bcat (bsub n 0 o) o (bcat d ld (bsub n (Nat.add o ld) (Nat.sub len (Nat.add o ld))))
def Cs.set (c : Cs) (i : Nat) (v : AV) : Option Cs :=
  match c with
  | .l xs => match oneA v with
    | true => match Nat.blt i (lenL xs) with
      | true => some (.l (setL xs i v))
      | false => none
    | false => none
  | .b n len => match byteOf v with
    | some x => match Nat.blt i len with
      | true => some (.b (bput n len i x 1) len)
      | false => none
    | none => none
/-- n cells from o on -/
def Cs.sub (c : Cs) (o n : Nat) : Option Cs :=
  match c with
  | .l xs => match Nat.ble (Nat.add o n) (lenL xs) with
    | true => some (.l (takeL (dropL xs o) n))
    | false => none
  | .b m len => match Nat.ble (Nat.add o n) len with
    | true => some (.b (bsub m o n) n)
    | false => none
/-- is it empty? -/
def Cs.none? : Cs → Bool
  | .l xs => match xs with
    | [] => true
    | _ => false
  | .b _ n => Nat.beq n 0
def Cs.cat (a b : Cs) : Cs :=
  match a, b with
  | .l xs, .l ys => .l (catL xs ys)
  | .b n la, .b m lb => .b (bcat n la m) (Nat.add la lb)
  | .l xs, .b m lb => match xs with
    | [] => .b m lb
    | _ => .l (catL xs (bytesL m lb))
  | .b n la, .l ys => match ys with
    | [] => .b n la
    | _ => match Nat.beq la 0 with
      | true => .l ys
      | false => .l (catL (bytesL n la) ys)
/-- the cells of d laid over c, from o on -/
def Cs.put (c : Cs) (o : Nat) (d : Cs) : Option Cs :=
  match Nat.ble (Nat.add o d.len) c.len with
  | false => none
  | true => match c, d with
    | .b n len, .b m ld => some (.b (bput n len o m ld) len)
    | .l xs, .l ys => match allA ys with
      | true => some (.l (catL (takeL xs o) (catL ys (dropL xs (Nat.add o (lenL ys))))))
      | false => none
    | .l xs, .b m ld => some (.l (catL (takeL xs o) (catL (bytesL m ld) (dropL xs (Nat.add o ld)))))
    | .b n len, .l ys => match ys with
      | [] => some (.b n len)
      | _ => none
/-- bytes out of a list of values -/
def packL (l : List AV) : Option Nat :=
  List.rec (motive := fun _ => Option Nat) (some 0) (fun a _ ih => match byteOf a with
    | some x => match ih with
      | some n => some (Nat.add x (Nat.mul 256 n))
      | none => none
    | none => none) l
def mkCs (l : List AV) : Cs :=
  match l with
  | [] => .l []
  | _ => match packL l with
    | some n => .b n (lenL l)
    | none => .l l
def repL (n : Nat) (l : List AV) : List AV := Nat.rec (motive := fun _ => List AV) [] (fun _ ih => catL l ih) n
/-- n elements of noughts -/
def zeroCs (z : List AV) (n : Nat) : Cs :=
  match z with
  | [.int .u8 (.ofNat 0)] => .b 0 n
  | _ => .l (repL n z)

/-- a jump out of a loop's body -/
inductive Jp where
  | ret
  | exit (i : Nat)
/-- the record of a range over a function -/
structure ALoop where
  st : LoopState
  pend : Option Jp
structure ADef where
  fn : Fn
  cap : List AV
  args : List AV
  /-- a block of deferred calls -/
  mark : Option P
/-- what lies in abstract memory -/
inductive AO where
  | cells (c : Cs)
  | map (kk : KeyC) (mk : Option Kind) (m : List (Int × AV))
  | loop (l : ALoop)
  | defd
/-- abstract memory: blocks by their names; the next name, the end of the names that may be taken; the names that were laid -/
structure Am where
  t : PT AO
  nx : P
  hi : Option P
  log : List P
def Am.get (h : Am) (b : P) : Option AO := PT.get h.t b
def Am.put (h : Am) (b : P) (o : AO) : Am := Am.rec (motive := fun _ => Am) (fun t nx hi log => ⟨PT.put t b o, nx, hi, b :: log⟩) h
def Am.del (h : Am) (b : P) : Am := Am.rec (motive := fun _ => Am) (fun t nx hi log => ⟨PT.del t b, nx, hi, b :: log⟩) h
def Am.new (h : Am) (o : AO) : Am := Am.rec (motive := fun _ => Am) (fun t nx hi log => ⟨PT.put t nx o, nx.succ, hi, nx :: log⟩) h

@[reducible] def aty : Kind → Type
  | .int _ => Int
  | .bool => Bool
  | .ptr => Option Ad
  | .sl => As
  | .str => At
  | .map => Option P
  | .any => AV
def aenc : (k : Kind) → aty k → AV
  | .int k, n => .int k n
  | .bool, b => .bool b
  | .ptr, p => .ptr p
  | .sl, s => .sl s
  | .str, s => .str s
  | .map, r => .map r
  | .any, v => v
def ikEq : IntKind → IntKind → Bool
  | .i8, .i8 | .i16, .i16 | .i32, .i32 | .i64, .i64 | .u8, .u8 | .u16, .u16 | .u32, .u32 | .u64, .u64 => true
  | _, _ => false
def adec : (k : Kind) → AV → Option (aty k)
  | .int k, .int k' n => match ikEq k k' with
    | true => some n
    | false => none
  | .bool, .bool b => some b
  | .ptr, .ptr p => some p
  | .sl, .sl s => some s
  | .str, .str s => some s
  | .map, .map r => some r
  | .any, v => some v
  | _, _ => none

-- the words, over abstract memory
def ifB (c : Bool) (A B : Option ρ) : Option ρ := match c with | true => A | false => B
def nn (p : Option Ad) (K : Ad → Option ρ) : Option ρ := match p with | some a => K a | none => none
def nm (r : Option P) (K : P → Option ρ) : Option ρ := match r with | some r => K r | none => none
/-- a number is worked out before it is handed on -/
def sN (n : Nat) (K : Nat → Option ρ) : Option ρ := Nat.rec (motive := fun _ => Option ρ) (K 0) (fun m _ => K (Nat.succ m)) n
def sI (n : Int) (K : Int → Option ρ) : Option ρ := match n with
  | .ofNat m => sN m fun m => K (.ofNat m)
  | .negSucc m => sN m fun m => K (.negSucc m)
def cellsOf (h : Am) (b : P) (K : Cs → Option ρ) : Option ρ := match h.get b with
  | some (.cells c) => K c
  | _ => none
def frzS (_a : Ad) (h : Am) (K : Am → Option ρ) : Option ρ := K h
def ld (k : Kind) (a : Ad) (h : Am) (K : aty k → Option ρ) : Option ρ := cellsOf h a.b fun c => match c.nth a.o with
  | some v => match adec k v with
    | some x => K x
    | none => none
  | none => none
def ldL (ks : List Kind) (a : Ad) : Nat → Am → (List AV → Option ρ) → Option ρ :=
  List.rec (motive := fun _ => Nat → Am → (List AV → Option ρ) → Option ρ) (fun _ _ K => K []) (fun k _ ih i h K => ld k (a.add i) h fun x => ih (Nat.succ i) h fun vs => K (aenc k x :: vs)) ks
def aggC : Cs → AV
  | .l xs => .agg xs
  | .b n len => .aggb n len
def ldA (n : Nat) (a : Ad) (h : Am) (K : AV → Option ρ) : Option ρ := cellsOf h a.b fun c => match c.sub a.o n with
  | some d => K (aggC d)
  | none => none
def st (a : Ad) (v : AV) (h : Am) (K : Am → Option ρ) : Option ρ := cellsOf h a.b fun c => match c.set a.o v with
  | some d => K (h.put a.b (.cells d))
  | none => none
def stL (vs : List AV) (a : Ad) : Nat → Am → (Am → Option ρ) → Option ρ :=
  List.rec (motive := fun _ => Nat → Am → (Am → Option ρ) → Option ρ) (fun _ h K => K h) (fun v _ ih i h K => st (a.add i) v h fun h => ih (Nat.succ i) h K) vs
def stA (d : Cs) (a : Ad) (h : Am) (K : Am → Option ρ) : Option ρ := cellsOf h a.b fun c => match c.put a.o d with
  | some d => K (h.put a.b (.cells d))
  | none => none
def al (o : AO) (h : Am) (K : P → Am → Option ρ) : Option ρ := match h.hi with
  | none => K h.nx (h.new o)
  | some q => match Nat.blt h.nx.num q.num with
    | true => K h.nx (h.new o)
    | false => none
def loopN {σ : Type} (n : Nat) (body : (σ → Am → Option ρ) → σ → Am → Option ρ) : σ → Am → Option ρ :=
  Nat.rec (motive := fun _ => σ → Am → Option ρ) (fun _ _ => none) (fun _ ih s h => body ih s h) n
def LoopP {σ : Type} (body : (σ → Am → Option ρ) → σ → Am → Option ρ) (s : σ) (h : Am) : Option ρ := loopN 1000000 body s h
def ixS (s : As) (i : Int) (sz : Nat) (K : Ad → Option ρ) : Option ρ := match s.base with
  | some a => match i with
    | .ofNat n => match Nat.blt n s.len with
      | true => sN (Nat.add a.o (Nat.mul n sz)) fun o => K ⟨a.b, o⟩
      | false => none
    | .negSucc _ => none
  | none => none
def ixA (a : Ad) (n : Nat) (i : Int) (sz : Nat) (K : Ad → Option ρ) : Option ρ := match i with
  | .ofNat m => match Nat.blt m n with
    | true => sN (Nat.add a.o (Nat.mul m sz)) fun o => K ⟨a.b, o⟩
    | false => none
  | .negSucc _ => none
/-- the first n cells of a slice -/
def slC (h : Am) (s : As) (n : Nat) (K : Cs → Option ρ) : Option ρ := match Nat.beq n 0 with
  | true => K (.l [])
  | false => match s.base with
    | some a => cellsOf h a.b fun c => match c.sub a.o n with
      | some d => K d
      | none => none
    | none => none
def ldStr (s : As) (h : Am) (K : At → Option ρ) : Option ρ := slC h s s.len fun c => match c with
  | .b n len => K ⟨n, len⟩
  | .l [] => K ⟨0, 0⟩
  | _ => none
def okE (s : As) (sz : Nat) : Bool := match Nat.beq s.e 0 with
  | true => true
  | false => Nat.beq s.e sz
def natI (i : Int) (K : Nat → Option ρ) : Option ρ := match i with
  | .ofNat n => K n
  | .negSucc _ => none
def cutB (s : As) (lo sz : Nat) (K : Option Ad → Option ρ) : Option ρ := match Nat.beq lo 0 with
  | true => K s.base
  | false => match s.base with
    | none => none
    | some a => match Nat.beq lo s.cap with
      | true => match Nat.beq s.e 0 with
        | true => K s.base
        | false => none
      | false => sN (Nat.add a.o (Nat.mul lo sz)) fun o => K (some ⟨a.b, o⟩)
def slc (s : As) (lo hi : Int) (sz : Nat) (K : As → Option ρ) : Option ρ := natI lo fun lo => natI hi fun hi => match Nat.ble lo hi with
  | true => match Nat.ble hi s.cap with
    | true => match okE s sz with
      | true => cutB s lo sz fun b => sN (Nat.sub hi lo) fun l => sN (Nat.sub s.cap lo) fun c => K ⟨b, l, c, s.e⟩
      | false => none
    | false => none
  | false => none
def slc3 (s : As) (lo hi mx : Int) (sz : Nat) (K : As → Option ρ) : Option ρ := natI lo fun lo => natI hi fun hi => natI mx fun mx => match Nat.ble lo hi with
  | true => match Nat.ble hi mx with
    | true => match Nat.ble mx s.cap with
      | true => match s.base with
        | none => K ⟨none, Nat.sub hi lo, Nat.sub mx lo, 0⟩
        | some a => match Nat.beq mx lo with
          | true => sN (Nat.sub hi lo) fun l => sN (Nat.sub mx lo) fun c => K ⟨some a, l, c, 0⟩
          | false => sN (Nat.add a.o (Nat.mul lo sz)) fun o => sN (Nat.sub hi lo) fun l => sN (Nat.sub mx lo) fun c => K ⟨some ⟨a.b, o⟩, l, c, 0⟩
      | false => none
    | false => none
  | false => none
def slcA (a : Ad) (n : Nat) (lo hi : Int) (sz : Nat) (K : As → Option ρ) : Option ρ := natI lo fun lo => natI hi fun hi => match Nat.ble lo hi with
  | true => match Nat.ble hi n with
    | true => match Nat.beq n lo with
      | true => K ⟨some a, Nat.sub hi lo, Nat.sub n lo, 0⟩
      | false => sN (Nat.add a.o (Nat.mul lo sz)) fun o => sN (Nat.sub hi lo) fun l => sN (Nat.sub n lo) fun c => K ⟨some ⟨a.b, o⟩, l, c, 0⟩
    | false => none
  | false => none
-- maps with whole numbers ags keys
def iEq : Int → Int → Bool
  | .ofNat a, .ofNat b => Nat.beq a b
  | .negSucc a, .negSucc b => Nat.beq a b
  | _, _ => false
def mgetE (m : List (Int × AV)) (k : Int) : Option AV := List.rec (motive := fun _ => Option AV) none (fun q _ ih => match iEq k q.1 with | true => some q.2 | false => ih) m
def msetE (m : List (Int × AV)) (k : Int) (v : AV) : List (Int × AV) := List.rec (motive := fun _ => List (Int × AV)) [(k, v)] (fun q r ih => match iEq k q.1 with | true => (q.1, v) :: r | false => q :: ih) m
def kEq : Kind → Kind → Bool
  | .int k, .int k' => ikEq k k'
  | .bool, .bool | .ptr, .ptr | .sl, .sl | .str, .str | .map, .map | .any, .any => true
  | _, _ => false
def mkEq : Option Kind → Option Kind → Bool
  | some k, some k' => kEq k k'
  | none, none => true
  | _, _ => false
def mkOf : Lk → Option (Option Kind)
  | .leaf k => some (some k)
  | .agg [] => some none
  | _ => none
def iksEq : List IntKind → List IntKind → Bool
  | [], [] => true
  | k :: r, k' :: s => match ikEq k k' with
    | true => iksEq r s
    | false => false
  | _, _ => false
def kcEq : KeyC → KeyC → Bool
  | .int k, .int k' => ikEq k k'
  | .str, .str => true
  | .ints r, .ints s => iksEq r s
  | _, _ => false
def codeL : List IntKind → List AV → (Nat → Option ρ) → Option ρ
  | [], [], K => K 0
  | k :: ks, .int k' (.ofNat n) :: vs, K => match ikEq k k' with
    | true => match Nat.blt n 18446744073709551616 with
      | true => match iEq (k.wrap (.ofNat n)) (.ofNat n) with
        | true => codeL ks vs fun r => K (Nat.add n (Nat.mul 18446744073709551616 r))
        | false => none
      | false => none
    | false => none
  | _, _, _ => none
/-- a key's code -/
def codeA (kc : KeyC) (v : AV) (K : Int → Option ρ) : Option ρ := match kc with
  | .int kk => match v with
    | .int kk' n => match ikEq kk kk' with
      | true => K n
      | false => none
    | _ => none
  | .str => match v with
    | .str s => sN (bcat s.n s.len 1) fun c => K (.ofNat c)
    | _ => none
  | .ints ks => match v with
    | .agg l => codeL ks l fun c => sN c fun c => K (.ofNat c)
    | _ => none
def mapOf (h : Am) (r : P) (K : KeyC → Option Kind → List (Int × AV) → Option ρ) : Option ρ := match h.get r with
  | some (.map kk mk m) => K kk mk m
  | _ => none
def mnI (x y : Int) : Int := if y < x then y else x
def mxI (x y : Int) : Int := if y > x then y else x
def lim : Nat := 1099511627776
/-- append -/
def appC (sz bytes : Nat) (s : As) (x : Cs) (n : Nat) (h : Am) (K : As → Am → Option ρ) : Option ρ :=
  sN (Nat.add s.len n) fun l => match Nat.ble l s.cap with
    | true => match s.base with
      | some a => stA x ⟨a.b, Nat.add a.o (Nat.mul s.len sz)⟩ h fun h => K ⟨some a, l, s.cap, s.e⟩ h
      | none => K ⟨none, l, s.cap, s.e⟩ h
    | false => match Nat.ble l lim with
      | false => none
      | true => match Nat.ble (Nat.mul l bytes) lim with
        | false => none
        | true => match Nat.blt 0 sz with
          | false => none
          | true => slC h s (Nat.mul s.len sz) fun old => match Nat.beq s.e 0 with
            | true => al (.cells (old.cat x)) h fun b h => K ⟨some ⟨b, 0⟩, l, l, sz⟩ h
            | false => match Nat.beq s.e sz with
              | false => none
              | true => match s.base with
                | none => none
                | some a => match Nat.beq a.o 0 with
                  | false => none
                  | true => cellsOf h a.b fun c => match okB c (old.cat x) with
                    | false => none
                    | true => al (.cells (old.cat x)) (h.del a.b) fun b h => K ⟨some ⟨b, 0⟩, l, l, sz⟩ h
def app (sz bytes : Nat) (s x : As) (h : Am) (K : As → Am → Option ρ) : Option ρ :=
  slC h x (Nat.mul x.len sz) fun xs => match (match xs with | .l l => allA l | .b _ _ => true) with
    | true => appC sz bytes s xs x.len h K
    | false => none
def app0 (zero : List AV) (sz bytes : Nat) (s : As) (n : Int) (h : Am) (K : As → Am → Option ρ) : Option ρ :=
  natI n fun n => match Nat.ble n lim with
    | false => none
    | true => match Nat.ble (Nat.mul n bytes) lim with
      | false => none
      | true => match allA zero with
        | false => none
        | true => match Nat.beq (lenL zero) sz with
          | false => none
          | true => match Nat.blt 0 sz with
            | false => none
            | true => appC sz bytes s (zeroCs zero n) n h K
def mnN (a b : Nat) : Nat := match Nat.ble a b with
  | true => a
  | false => b
/-- copy -/
def cpy (sz : Nat) (d x : As) (h : Am) (K : Nat → Am → Option ρ) : Option ρ :=
  sN (mnN x.len d.len) fun n =>
    match Nat.beq n 0 with
    | true => K 0 h
    | false => slC h x (Nat.mul n sz) fun xs => match d.base with
      | some a => stA xs a h fun h => K n h
      | none => none
def clr (zero : List AV) (s : As) (h : Am) (K : Am → Option ρ) : Option ρ :=
  match s.base with
  | some a => stA (zeroCs zero s.len) a h K
  | none => K h
def mks (zero : List AV) (sz bytes : Nat) (n c : Int) (h : Am) (K : As → Am → Option ρ) : Option ρ :=
  natI n fun n => natI c fun c => match Nat.ble n c with
    | false => none
    | true => match Nat.ble c lim with
      | false => none
      | true => match Nat.ble (Nat.mul bytes c) lim with
        | false => none
        | true => match Nat.blt 0 sz with
          | false => none
          | true => match Nat.beq (lenL zero) sz with
            | false => none
            | true => al (.cells (zeroCs zero c)) h fun b h => K ⟨some ⟨b, 0⟩, n, c, 0⟩ h
end
end Go.XS
