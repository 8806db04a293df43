/- The layer 'XS': a program that runs code over abstract memory, for the kernel: the operations. -/
import Derived.Test.YtmcpegdmnogkbaaGreatDoorXsDefs
set_option linter.unusedSimpArgs false
set_option linter.unusedVariables false
namespace Go.XS
open Go Go.TS
noncomputable section
variable {ρ : Type}

def packB (l : List UInt8) : Nat := List.rec (motive := fun _ => Nat) 0 (fun a _ ih => Nat.add a.toNat (Nat.mul 256 ih)) l
def ofS (s : ByteArray) : At := ⟨packB s.data.toList, s.data.toList.length⟩
/-- values without memory -/
def ofV1 : Value → Option AV
  | .int k n => some (.int k n)
  | .bool b => some (.bool b)
  | .pointer none => some (.ptr none)
  | .slice none 0 0 => some (.sl ⟨none, 0, 0, 0⟩)
  | .map none => some (.map none)
  | .string s => some (.str (ofS s))
  | .nilFunc => some .nilf
  | .nilIface => some .nilI
  | _ => none
def ofVL (l : List Value) : Option (List AV) := List.rec (motive := fun _ => Option (List AV)) (some []) (fun v _ ih => match ofV1 v with
  | some a => match ih with
    | some r => some (a :: r)
    | none => none
  | none => none) l
def ofV : Value → Option AV
  | .agg cs => match ofVL cs.toList with
    | some l => some (.agg l)
    | none => none
  | .tuple cs => match ofVL cs.toList with
    | some l => some (.tup l)
    | none => none
  | v => ofV1 v
def undefA : AV := .tup []

/-- a digit -/
inductive O8 where
  | o0 | o1 | o2 | o3 | o4 | o5 | o6 | o7
def o8 (n : Nat) : O8 := match n with
  | 0 => .o0 | 1 => .o1 | 2 => .o2 | 3 => .o3 | 4 => .o4 | 5 => .o5 | 6 => .o6 | _ => .o7
structure N1 where
  x0 : Option AV
  x1 : Option AV
  x2 : Option AV
  x3 : Option AV
  x4 : Option AV
  x5 : Option AV
  x6 : Option AV
  x7 : Option AV
def N1.get (d : O8) : N1 → Option AV := O8.rec (motive := fun _ => N1 → Option AV) N1.x0 N1.x1 N1.x2 N1.x3 N1.x4 N1.x5 N1.x6 N1.x7 d
def N1.u0 (f : Option AV → Option AV) (n : N1) : N1 := N1.rec (motive := fun _ => N1) (fun a b c d e g h i => ⟨f a, b, c, d, e, g, h, i⟩) n
def N1.u1 (f : Option AV → Option AV) (n : N1) : N1 := N1.rec (motive := fun _ => N1) (fun a b c d e g h i => ⟨a, f b, c, d, e, g, h, i⟩) n
def N1.u2 (f : Option AV → Option AV) (n : N1) : N1 := N1.rec (motive := fun _ => N1) (fun a b c d e g h i => ⟨a, b, f c, d, e, g, h, i⟩) n
def N1.u3 (f : Option AV → Option AV) (n : N1) : N1 := N1.rec (motive := fun _ => N1) (fun a b c d e g h i => ⟨a, b, c, f d, e, g, h, i⟩) n
def N1.u4 (f : Option AV → Option AV) (n : N1) : N1 := N1.rec (motive := fun _ => N1) (fun a b c d e g h i => ⟨a, b, c, d, f e, g, h, i⟩) n
def N1.u5 (f : Option AV → Option AV) (n : N1) : N1 := N1.rec (motive := fun _ => N1) (fun a b c d e g h i => ⟨a, b, c, d, e, f g, h, i⟩) n
def N1.u6 (f : Option AV → Option AV) (n : N1) : N1 := N1.rec (motive := fun _ => N1) (fun a b c d e g h i => ⟨a, b, c, d, e, g, f h, i⟩) n
def N1.u7 (f : Option AV → Option AV) (n : N1) : N1 := N1.rec (motive := fun _ => N1) (fun a b c d e g h i => ⟨a, b, c, d, e, g, h, f i⟩) n
def N1.upd (d : O8) : (Option AV → Option AV) → N1 → N1 := O8.rec (motive := fun _ => (Option AV → Option AV) → N1 → N1) N1.u0 N1.u1 N1.u2 N1.u3 N1.u4 N1.u5 N1.u6 N1.u7 d
structure N2 where
  x0 : N1
  x1 : N1
  x2 : N1
  x3 : N1
  x4 : N1
  x5 : N1
  x6 : N1
  x7 : N1
def N2.get (d : O8) : N2 → N1 := O8.rec (motive := fun _ => N2 → N1) N2.x0 N2.x1 N2.x2 N2.x3 N2.x4 N2.x5 N2.x6 N2.x7 d
def N2.u0 (f : N1 → N1) (n : N2) : N2 := N2.rec (motive := fun _ => N2) (fun a b c d e g h i => ⟨f a, b, c, d, e, g, h, i⟩) n
def N2.u1 (f : N1 → N1) (n : N2) : N2 := N2.rec (motive := fun _ => N2) (fun a b c d e g h i => ⟨a, f b, c, d, e, g, h, i⟩) n
def N2.u2 (f : N1 → N1) (n : N2) : N2 := N2.rec (motive := fun _ => N2) (fun a b c d e g h i => ⟨a, b, f c, d, e, g, h, i⟩) n
def N2.u3 (f : N1 → N1) (n : N2) : N2 := N2.rec (motive := fun _ => N2) (fun a b c d e g h i => ⟨a, b, c, f d, e, g, h, i⟩) n
def N2.u4 (f : N1 → N1) (n : N2) : N2 := N2.rec (motive := fun _ => N2) (fun a b c d e g h i => ⟨a, b, c, d, f e, g, h, i⟩) n
def N2.u5 (f : N1 → N1) (n : N2) : N2 := N2.rec (motive := fun _ => N2) (fun a b c d e g h i => ⟨a, b, c, d, e, f g, h, i⟩) n
def N2.u6 (f : N1 → N1) (n : N2) : N2 := N2.rec (motive := fun _ => N2) (fun a b c d e g h i => ⟨a, b, c, d, e, g, f h, i⟩) n
def N2.u7 (f : N1 → N1) (n : N2) : N2 := N2.rec (motive := fun _ => N2) (fun a b c d e g h i => ⟨a, b, c, d, e, g, h, f i⟩) n
def N2.upd (d : O8) : (N1 → N1) → N2 → N2 := O8.rec (motive := fun _ => (N1 → N1) → N2 → N2) N2.u0 N2.u1 N2.u2 N2.u3 N2.u4 N2.u5 N2.u6 N2.u7 d
structure N3 where
  x0 : N2
  x1 : N2
  x2 : N2
  x3 : N2
  x4 : N2
  x5 : N2
  x6 : N2
  x7 : N2
def N3.get (d : O8) : N3 → N2 := O8.rec (motive := fun _ => N3 → N2) N3.x0 N3.x1 N3.x2 N3.x3 N3.x4 N3.x5 N3.x6 N3.x7 d
def N3.u0 (f : N2 → N2) (n : N3) : N3 := N3.rec (motive := fun _ => N3) (fun a b c d e g h i => ⟨f a, b, c, d, e, g, h, i⟩) n
def N3.u1 (f : N2 → N2) (n : N3) : N3 := N3.rec (motive := fun _ => N3) (fun a b c d e g h i => ⟨a, f b, c, d, e, g, h, i⟩) n
def N3.u2 (f : N2 → N2) (n : N3) : N3 := N3.rec (motive := fun _ => N3) (fun a b c d e g h i => ⟨a, b, f c, d, e, g, h, i⟩) n
def N3.u3 (f : N2 → N2) (n : N3) : N3 := N3.rec (motive := fun _ => N3) (fun a b c d e g h i => ⟨a, b, c, f d, e, g, h, i⟩) n
def N3.u4 (f : N2 → N2) (n : N3) : N3 := N3.rec (motive := fun _ => N3) (fun a b c d e g h i => ⟨a, b, c, d, f e, g, h, i⟩) n
def N3.u5 (f : N2 → N2) (n : N3) : N3 := N3.rec (motive := fun _ => N3) (fun a b c d e g h i => ⟨a, b, c, d, e, f g, h, i⟩) n
def N3.u6 (f : N2 → N2) (n : N3) : N3 := N3.rec (motive := fun _ => N3) (fun a b c d e g h i => ⟨a, b, c, d, e, g, f h, i⟩) n
def N3.u7 (f : N2 → N2) (n : N3) : N3 := N3.rec (motive := fun _ => N3) (fun a b c d e g h i => ⟨a, b, c, d, e, g, h, f i⟩) n
def N3.upd (d : O8) : (N2 → N2) → N3 → N3 := O8.rec (motive := fun _ => (N2 → N2) → N3 → N3) N3.u0 N3.u1 N3.u2 N3.u3 N3.u4 N3.u5 N3.u6 N3.u7 d
/-- the values of the temporaries: the first 512 lie close by -/
structure AE where
  lo : N3
  hi : PT AV
def n1 : N1 := ⟨none, none, none, none, none, none, none, none⟩
def n2 : N2 := ⟨n1, n1, n1, n1, n1, n1, n1, n1⟩
def n3 : N3 := ⟨n2, n2, n2, n2, n2, n2, n2, n2⟩
def e0 : AE := ⟨n3, .lf⟩
def N3.at' (n : N3) (t : Nat) : Option AV := N1.get (o8 (Nat.mod t 8)) (N2.get (o8 (Nat.mod (Nat.div t 8) 8)) (N3.get (o8 (Nat.div t 64)) n))
def N3.put (n : N3) (t : Nat) (v : Option AV) : N3 := N3.upd (o8 (Nat.div t 64)) (N2.upd (o8 (Nat.mod (Nat.div t 8) 8)) (N1.upd (o8 (Nat.mod t 8)) (fun _ => v))) n
def eget (e : AE) (t : Nat) : Option AV := match Nat.blt t 512 with
  | true => N3.at' e.lo t
  | false => match Nat.blt t 16383 with
    | true => PT.get e.hi (pOf t)
    | false => none
def eput (e : AE) (t : Nat) (v : AV) : AE := match Nat.blt t 512 with
  | true => ⟨N3.put e.lo t (some v), e.hi⟩
  | false => match Nat.blt t 16383 with
    | true => ⟨e.lo, PT.put e.hi (pOf t) v⟩
    | false => e
def ev (e : AE) : Operand → Option AV
  | .tmp t => eget e t
  | .const v => ofV v
  | .global _ => none
  | .func f => some (.fn (.func f) [] [])
def withV (e : AE) (x : Operand) (K : AV → Option ρ) : Option ρ := match ev e x with | some v => K v | none => none
def evL (e : AE) (l : List Operand) (K : List AV → Option ρ) : Option ρ :=
  List.rec (motive := fun _ => (List AV → Option ρ) → Option ρ) (fun K => K []) (fun x _ ih K => withV e x fun v => ih fun vs => K (v :: vs)) l K

/-- a type's noughts -/
def zlOf (ti : TI) : Option (List AV) := match ofV ti.zero with
  | some (.agg l) => some l
  | some v => some [v]
  | none => none
def zcOf (tys : Tys) (ti : TI) : Option Cs := match ti.lk with
  | .arr _ => match ti.desc with
    | .array n el => match tyOf tys el with
      | some te => match zlOf te with
        | some [z] => some (zeroCs [z] n)
        | _ => none
      | none => none
    | _ => none
  | _ => match zlOf ti with
    | some l => some (mkCs l)
    | none => none
/-- a type's value nought -/
def zvOf (tys : Tys) (ti : TI) : Option AV := match ti.lk with
  | .leaf _ => ofV ti.zero
  | .agg _ => match zlOf ti with
    | some l => some (.agg l)
    | none => none
  | .arr _ => match zcOf tys ti with
    | some c => some (aggC c)
    | none => none
def cellsA : AV → Cs
  | .agg l => .l l
  | .aggb n len => .b n len
  | v => .l [v]

def ldT (l : Lk) (a : Ad) (h : Am) (K : AV → Option ρ) : Option ρ :=
  match l with
  | .leaf .any => ld .any a h fun x => match oneA x with
    | true => K x
    | false => none
  | .leaf k => ld k a h fun x => K (aenc k x)
  | .agg ks => ldL ks a 0 h fun vs => K (.agg vs)
  | .arr n => ldA n a h K

/-- the half of a kind's range -/
def halfK : IntKind → Nat
  | .i8 => 128 | .u8 => 256
  | .i16 => 32768 | .u16 => 65536
  | .i32 => 2147483648 | .u32 => 4294967296
  | .i64 => 9223372036854775808 | .u64 => 18446744073709551616
def sgnK : IntKind → Bool
  | .i8 | .i16 | .i32 | .i64 => true
  | _ => false
def inK (k : IntKind) (n : Int) : Bool := match n with
  | .ofNat m => Nat.blt m (halfK k)
  | .negSucc m => match sgnK k with
    | true => Nat.blt m (halfK k)
    | false => false
def wrapA (k : IntKind) (n : Int) : Int := match inK k n with
  | true => n
  | false => k.wrap n
def addI (a b : Int) : Int := match a, b with
  | .ofNat x, .ofNat y => .ofNat (Nat.add x y)
  | a, b => Int.add a b
def subI (a b : Int) : Int := match a, b with
  | .ofNat x, .ofNat y => match Nat.ble y x with
    | true => .ofNat (Nat.sub x y)
    | false => .negSucc (Nat.sub (Nat.sub y x) 1)
  | a, b => Int.sub a b
def mulI (a b : Int) : Int := match a, b with
  | .ofNat x, .ofNat y => .ofNat (Nat.mul x y)
  | a, b => Int.mul a b
def divI (a b : Int) : Int := match a, b with
  | .ofNat x, .ofNat y => .ofNat (Nat.div x y)
  | a, b => Int.tdiv a b
def remI (a b : Int) : Int := match a, b with
  | .ofNat x, .ofNat y => .ofNat (Nat.mod x y)
  | a, b => Int.tmod a b
def ltI (a b : Int) : Bool := match a, b with
  | .ofNat x, .ofNat y => Nat.blt x y
  | .negSucc x, .negSucc y => Nat.blt y x
  | .negSucc _, .ofNat _ => true
  | .ofNat _, .negSucc _ => false
def leI (a b : Int) : Bool := match ltI b a with | true => false | false => true
def ntB : Bool → Bool
  | true => false
  | false => true
def eqBo : Bool → Bool → Bool
  | true, b => b
  | false, b => ntB b
def eqAt (a b : At) : Bool := match Nat.beq a.len b.len with
  | true => Nat.beq a.n b.n
  | false => false
def andI (k : IntKind) (a b : Int) : Int := match a, b with
  | .ofNat x, .ofNat y => match Nat.blt x (halfK k) with
    | true => match Nat.blt y (halfK k) with
      | true => .ofNat (Nat.land x y)
      | false => bits .and k a b
    | false => bits .and k a b
  | a, b => bits .and k a b
def orI (k : IntKind) (a b : Int) : Int := match a, b with
  | .ofNat x, .ofNat y => match Nat.blt x (halfK k) with
    | true => match Nat.blt y (halfK k) with
      | true => .ofNat (Nat.lor x y)
      | false => bits .or k a b
    | false => bits .or k a b
  | a, b => bits .or k a b
def xorI (k : IntKind) (a b : Int) : Int := match a, b with
  | .ofNat x, .ofNat y => match Nat.blt x (halfK k) with
    | true => match Nat.blt y (halfK k) with
      | true => .ofNat (Nat.xor x y)
      | false => bits .xor k a b
    | false => bits .xor k a b
  | a, b => bits .xor k a b
def andNotI (k : IntKind) (a b : Int) : Int := match a, b with
  | .ofNat x, .ofNat y => match Nat.blt x (halfK k) with
    | true => match Nat.blt y (halfK k) with
      | true => .ofNat (Nat.xor x (Nat.land x y))
      | false => bits .andNot k a b
    | false => bits .andNot k a b
  | a, b => bits .andNot k a b
def kI (k : IntKind) (n : Int) (K : AV → Option ρ) : Option ρ := sI n fun n => K (.int k n)
def shlI (k : IntKind) (a : Int) (b : Nat) : Int := match a with
  | .ofNat x => .ofNat (Nat.shiftLeft x (mnN b k.bits))
  | a => a * 2 ^ (min b k.bits)
def shrI (k : IntKind) (a : Int) (b : Nat) : Int := match a with
  | .ofNat x => .ofNat (Nat.shiftRight x (mnN b k.bits))
  | a => a.fdiv (2 ^ (min b k.bits))
def binI (op : BinOp) (k : IntKind) (a b : Int) (K : AV → Option ρ) : Option ρ := match op with
  | .add => kI k (wrapA k (addI a b)) K
  | .sub => kI k (wrapA k (subI a b)) K
  | .mul => kI k (wrapA k (mulI a b)) K
  | .quo => match iEq b 0 with
    | true => none
    | false => kI k (wrapA k (divI a b)) K
  | .rem => match iEq b 0 with
    | true => none
    | false => kI k (remI a b) K
  | .and => kI k (andI k a b) K
  | .or => kI k (orI k a b) K
  | .xor => kI k (xorI k a b) K
  | .andNot => kI k (andNotI k a b) K
  | .eql => K (.bool (iEq a b))
  | .neq => K (.bool (ntB (iEq a b)))
  | .lss => K (.bool (ltI a b))
  | .leq => K (.bool (leI a b))
  | .gtr => K (.bool (ltI b a))
  | .geq => K (.bool (leI b a))
  | _ => none
def shI (op : BinOp) (k : IntKind) (a b : Int) (K : AV → Option ρ) (other : Option ρ) : Option ρ := match op with
  | .shl => natI b fun b => kI k (wrapA k (shlI k a b)) K
  | .shr => natI b fun b => kI k (shrI k a b) K
  | _ => other
/-- '==' of two structs of whole numbers, field by field -/
def eqI (tys : Tys) (xs ys : List AV) (fs : List Field) : Option Bool :=
  List.rec (motive := fun _ => Option Bool) (some true) (fun f _ ih => match decide (f.name = "_") with
    | true => none
    | false => match tyOf tys f.type with
      | some ⟨.int _, _, _, _, .leaf _⟩ => match nth xs f.offset, nth ys f.offset with
        | some (.int k a), some (.int k' b) => match ikEq k k' with
          | true => match ih with
            | some r => some (match iEq a b with | true => r | false => false)
            | none => none
          | false => none
        | _, _ => none
      | _ => none) fs
def eqF (tys : Tys) (xs ys : List AV) (fs : List Field) : Option Bool :=
  List.rec (motive := fun _ => Option Bool) (some true) (fun f _ ih => match decide (f.name = "_") with
    | true => none
    | false => match tyOf tys f.type with
      | some ⟨.int _, _, _, _, .leaf _⟩ => match nth xs f.offset, nth ys f.offset with
        | some (.int k a), some (.int k' b) => match ikEq k k' with
          | true => match ih with
            | some r => some (match iEq a b with | true => r | false => false)
            | none => none
          | false => none
        | _, _ => none
      | some ⟨.bool, _, _, _, .leaf _⟩ => match nth xs f.offset, nth ys f.offset with
        | some (.bool a), some (.bool b) => match ih with
          | some r => some (match eqBo a b with | true => r | false => false)
          | none => none
        | _, _ => none
      | some ⟨.struct gs, _, sz, _, .agg _⟩ => match eqI tys (takeL (dropL xs f.offset) sz) (takeL (dropL ys f.offset) sz) gs.toList with
        | some q => match ih with
          | some r => some (match q with | true => r | false => false)
          | none => none
        | none => none
      | _ => none) fs
def eqv (op : BinOp) (r : Bool) (K : AV → Option ρ) : Option ρ := match op with
  | .eql => K (.bool r)
  | .neq => K (.bool (ntB r))
  | _ => none
/-- '==', '!=', '+' of strings -/
def strB (op : BinOp) (a b : At) (K : AV → Option ρ) : Option ρ := match op with
  | .add => match Nat.ble (Nat.add a.len b.len) 1099511627776 with
    | true => K (.str ⟨bcat a.n a.len b.n, Nat.add a.len b.len⟩)
    | false => none
  | op => eqv op (eqAt a b) K
def isNone {α : Type} : Option α → Bool
  | none => true
  | some _ => false
def bin (tys : Tys) (op : BinOp) (t : TypeId) (x y : AV) (K : AV → Option ρ) : Option ρ :=
  match x with
  | .int k a => match y with
    | .int k' b => shI op k a b K (match ikEq k k' with
      | true => binI op k a b K
      | false => none)
    | _ => none
  | .str a => match y with
    | .str b => strB op a b K
    | _ => none
  | .bool a => match y with
    | .bool b => match tyOf tys t with
      | some ⟨.bool, _, _, _, _⟩ => eqv op (eqBo a b) K
      | _ => none
    | _ => none
  | .agg xs => match y with
    | .agg ys => match tyOf tys t with
      | some ⟨.struct fs, _, _, _, _⟩ => match eqF tys xs ys fs.toList with
        | some r => eqv op r K
        | none => none
      | _ => none
    | _ => none
  | .ptr p => match y with
    | .ptr none => match tyOf tys t with
      | some ⟨.pointer _, _, _, _, _⟩ => eqv op (isNone p) K
      | _ => none
    | _ => none
  | .sl s => match y with
    | .sl ⟨none, 0, 0, 0⟩ => match tyOf tys t with
      | some ⟨.slice _, _, _, _, _⟩ => eqv op (isNone s.base) K
      | _ => none
    | _ => none
  | .map r => match y with
    | .map none => match tyOf tys t with
      | some ⟨.map _ _, _, _, _, _⟩ => eqv op (isNone r) K
      | _ => none
    | _ => none
  | _ => none

def bnd (e : AE) (d : Int) (o : Option Operand) (K : Int → Option ρ) : Option ρ := match o with
  | none => K d
  | some x => withV e x fun v => match v with
    | .int _ n => K n
    | _ => none

def putPart (c : List AV) (off size : Nat) (v : AV) : Option (List AV) := match cellsA v with
  | .l xs => match Nat.beq (lenL xs) size with
    | true => match Nat.ble (Nat.add off size) (lenL c) with
      | true => some (catL (takeL c off) (catL xs (dropL c (Nat.add off size))))
      | false => none
    | false => none
  | .b _ _ => none
def fillA (place : Nat → Option (Nat × Nat)) (ps : List (Nat × Operand)) (c : List AV) (vs : List AV) (K : List AV → Option ρ) : Option ρ :=
  List.rec (motive := fun _ => List AV → List AV → Option ρ) (fun c _ => K c) (fun p _ ih c vs => match vs with
    | [] => K c
    | v :: vs => match place p.1 with
      | some q => match putPart c q.1 q.2 v with
        | some c => ih c vs
        | none => none
      | none => none) ps c vs

def sBuild (tys : Tys) (e : AE) (t : TypeId) (ps : Array (Nat × Operand)) (K : AV → Option ρ) : Option ρ := evL e (ps.toList.map (·.2)) fun vs => match tyOf tys t with
  | some ti => match ti.desc with
    | .struct fs => match zlOf ti with
      | some z => match places tys fs.toList with
        | some pl => fillA (fun i => nth pl i) ps.toList z vs fun c => K (.agg c)
        | none => none
      | none => none
    | .array _ el => match zlOf ti with
      | some z => match tyOf tys el with
        | some te => fillA (fun i => some (Nat.mul i te.size, te.size)) ps.toList z vs fun c => K (.agg c)
        | none => none
      | none => none
    | _ => none
  | none => none
def sLoad (tys : Tys) (e : AE) (h : Am) (t : TypeId) (x : Operand) (K : AV → Option ρ) : Option ρ := withV e x fun p => match p with
  | .ptr (some a) => match tyOf tys t with
    | some ti => ldT ti.lk a h K
    | none => none
  | _ => none
def sNilM (tys : Tys) (f : Fn) (first : List AV) (p : AV) (K : AV → Option ρ) : Option ρ := match f with
  | .method name => match first with
    | v :: _ => match v with
      | .ifc t _ => match mtOf tys name t with
        | some _ => K p
        | none => none
      | _ => none
    | [] => none
  | _ => none
def sNil (tys : Tys) (e : AE) (x : Operand) (K : AV → Option ρ) : Option ρ := withV e x fun p => match p with
  | .ptr p => nn p fun a => K (.ptr (some a))
  | .fn f first _ => sNilM tys f first p K
  | _ => none
def sPick (e : AE) (c a b : Operand) (K : AV → Option ρ) : Option ρ := withV e c fun c => match c with
  | .bool c => ifB c (withV e a K) (withV e b K)
  | _ => none
def sUn (e : AE) (op : UnOp) (x : Operand) (K : AV → Option ρ) : Option ρ := withV e x fun a => match op with
  | .not => match a with
    | .bool b => K (.bool (ntB b))
    | _ => none
  | .xor => match a with
    | .int k n => kI k (bits .xor k (if k.signed then -1 else k.max) n) K
    | _ => none
  | .neg => match a with
    | .int k n => kI k (wrapA k (subI 0 n)) K
    | _ => none
  | _ => none
def sConv (tys : Tys) (e : AE) (h : Am) (src dst : TypeId) (x : Operand) (K : AV → Option ρ) : Option ρ := withV e x fun a => match tyOf tys src with
  | some s => match tyOf tys dst with
    | some d => match d.desc with
      | .int k => match a with
        | .int _ n => kI k (wrapA k n) K
        | _ => none
      | .string => match a with
        | .sl b => match s.desc with
          | .slice el => match tyOf tys el with
            | some ⟨.int .u8, _, _, _, _⟩ => ldStr b h fun s => K (.str s)
            | _ => none
          | _ => none
        | _ => none
      | _ => none
    | none => none
  | none => none
def sSlice (tys : Tys) (e : AE) (t : TypeId) (x : Operand) (lo hi mx : Option Operand) (K : AV → Option ρ) : Option ρ := withV e x fun x => match tyOf tys t with
  | some ti => match ti.desc with
    | .slice el => match tyOf tys el with
      | some te => match x with
        | .sl s => bnd e 0 lo fun lo => bnd e (Int.ofNat s.len) hi fun hi' => match mx with
          | none => slc s lo hi' te.size fun s => K (.sl s)
          | some mx => match hi with
            | some _ => withV e mx fun m => match m with
              | .int _ m => slc3 s lo hi' m te.size fun s => K (.sl s)
              | _ => none
            | none => none
        | _ => none
      | none => none
    | .array n el => match tyOf tys el with
      | some te => match x with
        | .ptr (some a) => match mx with
          | none => bnd e 0 lo fun lo => bnd e (Int.ofNat n) hi fun hi => slcA a n lo hi te.size fun s => K (.sl s)
          | some _ => none
        | _ => none
      | none => none
    | .string => match x with
      | .str s => match mx with
        | none => bnd e 0 lo fun lo => bnd e (Int.ofNat s.len) hi fun hi => natI lo fun lo => natI hi fun hi => match Nat.ble lo hi with
          | true => match Nat.ble hi s.len with
            | true => K (.str ⟨bsub s.n lo (Nat.sub hi lo), Nat.sub hi lo⟩)
            | false => none
          | false => none
        | some _ => none
      | _ => none
    | _ => none
  | none => none
def sFieldAddr (tys : Tys) (e : AE) (t : TypeId) (x : Operand) (f : Nat) (K : AV → Option ρ) : Option ρ := withV e x fun x => match x with
  | .ptr (some a) => match fldOff tys t f with
    | some q => match q.2.size with
      | 0 => none
      | _ + 1 => sN (Nat.add a.o q.1) fun o => K (.ptr (some ⟨a.b, o⟩))
    | none => none
  | _ => none
def sField (tys : Tys) (e : AE) (t : TypeId) (x : Operand) (f : Nat) (K : AV → Option ρ) : Option ρ := withV e x fun x => match x with
  | .agg cs => match fldOff tys t f with
    | some q => match q.2.lk with
      | .leaf _ => match nth cs q.1 with
        | some v => K v
        | none => none
      | _ => match Nat.ble (Nat.add q.1 q.2.size) (lenL cs) with
        | true => K (.agg (takeL (dropL cs q.1) q.2.size))
        | false => none
    | none => none
  | _ => none
def sIndexAddr (tys : Tys) (e : AE) (t : TypeId) (x i : Operand) (K : AV → Option ρ) : Option ρ := withV e x fun x => withV e i fun i => match i with
  | .int _ i => match tyOf tys t with
    | some ti => match ti.desc with
      | .slice el => match tyOf tys el with
        | some te => match x with
          | .sl s => ixS s i te.size fun a => K (.ptr (some a))
          | _ => none
        | none => none
      | .array n el => match tyOf tys el with
        | some te => match x with
          | .ptr (some a) => ixA a n i te.size fun a => K (.ptr (some a))
          | _ => none
        | none => none
      | _ => none
    | none => none
  | _ => none
def sIndex (tys : Tys) (e : AE) (t : TypeId) (x i : Operand) (K : AV → Option ρ) : Option ρ := withV e x fun x => withV e i fun i => match i with
  | .int _ i => match tyOf tys t with
    | some ti => match ti.desc with
      | .array n el => match tyOf tys el with
        | some te => match te.lk with
          | .leaf k => match Nat.beq te.size 1 with
            | true => natI i fun i => match Nat.blt i n with
              | true => match (cellsA x).nth i with
                | some v => match adec k v with
                  | some y => match x with
                    | .agg _ => K (aenc k y)
                    | .aggb _ _ => K (aenc k y)
                    | _ => none
                  | none => none
                | none => none
              | false => none
            | false => none
          | _ => none
        | none => none
      | .string => match x with
        | .str s => natI i fun i => match Nat.blt i s.len with
          | true => K (.int .u8 (Int.ofNat (dig s.n i)))
          | false => none
        | _ => none
      | _ => none
    | none => none
  | _ => none
/-- the keys' kind of a map -/
def kcOf (tys : Tys) (t : TypeId) (K : KeyC → Option ρ) : Option ρ := match tyOf tys t with
  | some ti => match ti.desc with
    | .int k => K (.int k)
    | .string => K .str
    | .struct fs => match keyFs tys fs.toList 0 with
      | some ks => K (.ints ks)
      | none => none
    | _ => none
  | none => none
def sLookup (tys : Tys) (e : AE) (h : Am) (t : TypeId) (x k : Operand) (ok : Bool) (K : AV → Option ρ) : Option ρ := withV e x fun x => withV e k fun k => match tyOf tys t with
  | some ti => match ti.desc with
    | .map kt vt => kcOf tys kt fun kc => match tyOf tys vt with
      | some tv => match x with
        | .map r => codeA kc k fun n => nm r fun r => mapOf h r fun kq mk m => match kcEq kc kq with
          | true => match mkOf tv.lk with
            | some mk' => match mkEq mk' mk with
              | true => match mgetE m n with
                | some v => match ok with
                  | true => K (.tup [v, .bool true])
                  | false => K v
                | none => match zvOf tys tv with
                  | some z => match ok with
                    | true => K (.tup [z, .bool false])
                    | false => K z
                  | none => none
              | false => none
            | none => none
          | false => none
        | _ => none
      | none => none
    | _ => none
  | none => none
def sExtract (e : AE) (x : Operand) (i : Nat) (K : AV → Option ρ) : Option ρ := withV e x fun x => match x with
  | .tup vs => match nth vs i with
    | some v => K v
    | none => none
  | _ => none
def sToArr (tys : Tys) (e : AE) (t : TypeId) (x : Operand) (K : AV → Option ρ) : Option ρ := withV e x fun x => match tyOf tys t with
  | some ti => match ti.desc with
    | .array n _ => match x with
      | .sl s => match Nat.ble n s.len with
        | true => K (.ptr s.base)
        | false => none
      | _ => none
    | _ => none
  | none => none
def sMkI (tys : Tys) (e : AE) (t : TypeId) (x : Operand) (K : AV → Option ρ) : Option ρ := withV e x fun v => match tyOf tys t with
  | some ti => match isIface ti.desc with
    | false => K (.ifc t v)
    | true => none
  | none => none
def sTA (tys : Tys) (e : AE) (x : Operand) (t : TypeId) (ok : Bool) (K : AV → Option ρ) : Option ρ := withV e x fun v => match tyOf tys t with
  | some ti => match isIface ti.desc with
    | false => match v with
      | .ifc u w => match Nat.beq u t with
        | true => match ok with
          | true => K (.tup [w, .bool true])
          | false => K w
        | false => match ok with
          | true => match zvOf tys ti with
            | some z => K (.tup [z, .bool false])
            | none => none
          | false => none
      | .nilI => match ok with
        | true => match zvOf tys ti with
          | some z => K (.tup [z, .bool false])
          | none => none
        | false => none
      | _ => none
    | true => none
  | none => none
def sMakeFunc (e : AE) (fn : Fn) (first cap : Array Operand) (K : AV → Option ρ) : Option ρ := evL e first.toList fun f => evL e cap.toList fun c => K (.fn fn f c)
def sLen (tys : Tys) (e : AE) (h : Am) (args : List Operand) (ts : List TypeId) (K : AV → Option ρ) : Option ρ := match args with
  | [x] => withV e x fun x => match ts with
    | t :: _ => match tyOf tys t with
      | some ti => match ti.desc with
        | .slice _ => match x with
          | .sl s => K (.int .i64 (Int.ofNat s.len))
          | _ => none
        | .string => match x with
          | .str s => K (.int .i64 (Int.ofNat s.len))
          | _ => none
        | .map _ _ => match x with
          | .map r => nm r fun r => mapOf h r fun _ _ m => K (.int .i64 (Int.ofNat (lenL m)))
          | _ => none
        | _ => none
      | none => none
    | [] => none
  | _ => none
def sCap (tys : Tys) (e : AE) (args : List Operand) (ts : List TypeId) (K : AV → Option ρ) : Option ρ := match args with
  | [x] => withV e x fun x => match ts with
    | t :: _ => match tyOf tys t with
      | some ti => match ti.desc with
        | .slice _ => match x with
          | .sl s => match Nat.beq s.e 0 with
            | true => K (.int .i64 (Int.ofNat s.cap))
            | false => none
          | _ => none
        | _ => none
      | none => none
    | [] => none
  | _ => none
def sMn (e : AE) (args : List Operand) (mx : Bool) (K : AV → Option ρ) : Option ρ := match args with
  | [x, y] => withV e x fun x => withV e y fun y => match x with
    | .int k a => match y with
      | .int _ b => match mx with
        | false => match ltI b a with
          | true => K (.int k b)
          | false => K (.int k a)
        | true => match ltI a b with
          | true => K (.int k b)
          | false => K (.int k a)
      | _ => none
    | _ => none
  | _ => none

def sCallB (tys : Tys) (e : AE) (h : Am) (b : Builtin) (args : List Operand) (ts : List TypeId) (K : AV → Option ρ) : Option ρ := match b with
  | .len => sLen tys e h args ts K
  | .cap => sCap tys e args ts K
  | .min => sMn e args false K
  | .max => sMn e args true K
  | _ => none
/-- What only reads. -/
def still (tys : Tys) (e : AE) (h : Am) (op : Op) (K : AV → Option ρ) : Option ρ :=
  match op with
  | .move x => withV e x K
  | .assign x => withV e x K
  | .pick c a b => sPick e c a b K
  | .build t ps => sBuild tys e t ps K
  | .load t x => sLoad tys e h t x K
  | .nilCheck x => sNil tys e x K
  | .binOp op t x y _ => withV e x fun a => withV e y fun b => bin tys op t a b K
  | .unOp op _ x => sUn e op x K
  | .convert src dst x => sConv tys e h src dst x K
  | .slice t x lo hi mx => sSlice tys e t x lo hi mx K
  | .fieldAddr t x f => sFieldAddr tys e t x f K
  | .field t x f => sField tys e t x f K
  | .indexAddr t x i => sIndexAddr tys e t x i K
  | .index t x i => sIndex tys e t x i K
  | .lookup t x k ok => sLookup tys e h t x k ok K
  | .extract x i => sExtract e x i K
  | .sliceToArrayPointer t x => sToArr tys e t x K
  | .makeInterface t x => sMkI tys e t x K
  | .typeAssert x _ t ok => sTA tys e x t ok K
  | .makeFunc fn first cap => sMakeFunc e fn first cap K
  | .call ⟨.builtin b, args, ts⟩ => sCallB tys e h b args.toList ts.toList K
  | _ => none

abbrev XCall := List AV → Am → Option (AV × Am)
/-- what may be called: functions, functions that are ranged over (by the loops' bodies), the loops' bodies -/
structure CF where
  fn : Nat → XCall
  it : (P → Option XCall) → Nat → XCall
  ys : P → Option XCall
def eBox (e : AE) (x : Operand) (h : Am) (K : AV → Am → Option ρ) : Option ρ := withV e x fun x => al (.cells (match cellsA x with | .l xs => mkCs xs | c => c)) h fun b h => K (.ptr (some ⟨b, 0⟩)) h
def eAlloc (tys : Tys) (t : TypeId) (h : Am) (K : AV → Am → Option ρ) : Option ρ := match tyOf tys t with
  | some ti => match zcOf tys ti with
    | some c => al (.cells c) h fun b h => K (.ptr (some ⟨b, 0⟩)) h
    | none => none
  | none => none
def eBuildSlice (tys : Tys) (e : AE) (t : TypeId) (n : Nat) (ps : Array (Nat × Operand)) (h : Am) (K : AV → Am → Option ρ) : Option ρ := evL e (ps.toList.map (·.2)) fun vs => match tyOf tys t with
  | some ti => match ti.desc with
    | .slice el => match tyOf tys el with
      | some te => match Nat.ble (Nat.mul n te.size) 16777216 with
        | true => match zlOf te with
          | some z => match Nat.beq (lenL z) te.size with
            | true => fillA (fun i => some (Nat.mul i te.size, te.size)) ps.toList (repL n z) vs fun c => al (.cells (mkCs c)) h fun b h => K (.sl ⟨some ⟨b, 0⟩, n, n, 0⟩) h
            | false => none
          | none => none
        | false => none
      | none => none
    | _ => none
  | none => none
def eStore (tys : Tys) (e : AE) (t : TypeId) (p x : Operand) (h : Am) (K : AV → Am → Option ρ) : Option ρ := withV e p fun p => withV e x fun x => match p with
  | .ptr (some a) => match tyOf tys t with
    | some ti => match ti.lk with
      | .leaf _ => st a x h fun h => K undefA h
      | .agg _ => match x with
        | .agg l => match Nat.beq (lenL l) ti.size with
          | true => stL l a 0 h fun h => K undefA h
          | false => none
        | _ => none
      | .arr n => match x with
        | .agg l => match Nat.beq (lenL l) n with
          | true => stA (.l l) a h fun h => K undefA h
          | false => none
        | .aggb m len => match Nat.beq len n with
          | true => stA (.b m len) a h fun h => K undefA h
          | false => none
        | _ => none
    | none => none
  | _ => none
def eMakeSlice (tys : Tys) (e : AE) (t : TypeId) (l c : Operand) (h : Am) (K : AV → Am → Option ρ) : Option ρ := withV e l fun l => withV e c fun c => match l with
  | .int _ l => match c with
    | .int _ c => match tyOf tys t with
      | some ti => match ti.desc with
        | .slice el => match tyOf tys el with
          | some te => match zlOf te with
            | some z => mks z te.size te.bytes l c h fun s h => K (.sl s) h
            | none => none
          | none => none
        | _ => none
      | none => none
    | _ => none
  | _ => none
/-- may the value lie in such a map? -/
def valOk (mk : Option Kind) (v : AV) : Bool := match mk with
  | some k => match adec k v with
    | some _ => true
    | none => false
  | none => match v with
    | .agg [] => true
    | _ => false
def eMapUpdate (tys : Tys) (e : AE) (t : TypeId) (m k v : Operand) (h : Am) (K : AV → Am → Option ρ) : Option ρ := withV e m fun m => withV e k fun k => withV e v fun v => match tyOf tys t with
  | some ti => match ti.desc with
    | .map kt vt => kcOf tys kt fun kc => match tyOf tys vt with
      | some tv => match m with
        | .map r => codeA kc k fun n => nm r fun r => mapOf h r fun kq mk es => match kcEq kc kq with
          | true => match mkOf tv.lk with
            | some mk' => match mkEq mk' mk with
              | true => match valOk mk v with
                | true => K undefA (h.put r (.map kc mk (msetE es n v)))
                | false => none
              | false => none
            | none => none
          | false => none
        | _ => none
      | none => none
    | _ => none
  | none => none
def eFrz (tys : Tys) (e : AE) (src dst : TypeId) (x : Operand) (h : Am) (K : AV → Am → Option ρ) : Option ρ := withV e x fun x => match tyOf tys src with
  | some ts => match ts.desc with
    | .slice _ => match tyOf tys dst with
      | some td => match td.desc with
        | .slice el => match Nat.beq src dst with
          | true => match x with
            | .sl s => match s.base with
              | some a => match tyOf tys el with
                | some ⟨.int .u8, _, _, _, _⟩ => cellsOf h a.b fun c => match c with
                  | .b _ _ => K (.sl s) h
                  | .l _ => none
                | _ => none
              | none => none
            | _ => none
          | false => none
        | _ => none
      | none => none
    | .string => match tyOf tys dst with
      | some td => match td.desc with
        | .slice el => match Nat.beq src dst with
          | false => match x with
            | .str s => match tyOf tys el with
              | some ⟨.int .u8, _, _, _, _⟩ => al (.cells (.b s.n s.len)) h fun b h => K (.sl ⟨some ⟨b, 0⟩, s.len, s.len, 1⟩) h
              | _ => none
            | _ => none
          | true => none
        | _ => none
      | none => none
    | _ => none
  | none => none
def eInvoke (tys : Tys) (cf : CF) (e : AE) (x : Operand) (name : String) (args : List Operand) (h : Am) (K : AV → Am → Option ρ) : Option ρ := withV e x fun v => evL e args fun vs => match v with
  | .ifc t w => match mtOf tys name t with
    | some f => match cf.fn f (w :: vs) h with
      | some q => K q.1 q.2
      | none => none
    | none => none
  | _ => none
def eAppend (tys : Tys) (x y : AV) (t u : TypeId) (h : Am) (K : AV → Am → Option ρ) : Option ρ := match x with
  | .sl s => match tyOf tys t with
    | some ti => match ti.desc with
      | .slice el => match tyOf tys el with
        | some te => match tyOf tys u with
          | some tu => match tu.desc with
            | .slice _ => match y with
              | .sl x => match zlOf te with
                | some z => match Nat.beq (lenL z) te.size with
                  | true => app te.size te.bytes s x h fun s h => K (.sl s) h
                  | false => none
                | none => none
              | _ => none
            | .int _ => match y with
              | .int .i64 n => match zlOf te with
                | some z => app0 z te.size te.bytes s n h fun s h => K (.sl s) h
                | none => none
              | _ => none
            | _ => none
          | none => none
        | none => none
      | _ => none
    | none => none
  | _ => none
def eCopy (tys : Tys) (x y : AV) (t : TypeId) (h : Am) (K : AV → Am → Option ρ) : Option ρ := match x with
  | .sl d => match y with
    | .sl s => match tyOf tys t with
      | some ti => match ti.desc with
        | .slice el => match tyOf tys el with
          | some te => cpy te.size d s h fun n h => K (.int .i64 (Int.ofNat n)) h
          | none => none
        | _ => none
      | none => none
    | _ => none
  | _ => none
def eClear (tys : Tys) (x : AV) (t : TypeId) (h : Am) (K : AV → Am → Option ρ) : Option ρ := match tyOf tys t with
  | some ti => match ti.desc with
    | .slice el => match tyOf tys el with
      | some te => match zlOf te with
        | some z => match x with
          | .sl s => match Nat.beq (lenL z) te.size with
            | true => match allA z with
              | true => clr z s h fun h => K undefA h
              | false => none
            | false => none
          | _ => none
        | none => none
      | none => none
    | .map _ _ => match x with
      | .map r => nm r fun r => mapOf h r fun kk mk _ => K undefA (h.put r (.map kk mk []))
      | _ => none
    | _ => none
  | none => none
def eCallB (tys : Tys) (b : Builtin) (vs : List AV) (ts : List TypeId) (h : Am) (K : AV → Am → Option ρ) : Option ρ := match b with
  | .append => match vs with
    | [x, y] => match ts with
      | t :: u :: _ => eAppend tys x y t u h K
      | _ => none
    | _ => none
  | .copy => match vs with
    | [x, y] => match ts with
      | t :: _ => eCopy tys x y t h K
      | _ => none
    | _ => none
  | .clear => match vs with
    | [x] => match ts with
      | t :: _ => eClear tys x t h K
      | _ => none
    | _ => none
  | _ => none
def eMakeMap (tys : Tys) (t : TypeId) (h : Am) (K : AV → Am → Option ρ) : Option ρ := match tyOf tys t with
  | some ti => match ti.desc with
    | .map kt vt => kcOf tys kt fun kc => match tyOf tys vt with
      | some tv => match mkOf tv.lk with
        | some mk => al (.map kc mk []) h fun b h => K (.map (some b)) h
        | none => none
      | none => none
    | _ => none
  | none => none
/-- What writes or makes memory. -/
def eff (tys : Tys) (cf : CF) (e : AE) (h : Am) (op : Op) (K : AV → Am → Option ρ) : Option ρ :=
  match op with
  | .alloc t => eAlloc tys t h K
  | .box _ x => eBox e x h K
  | .buildSlice t n ps => eBuildSlice tys e t n ps h K
  | .store t p x => eStore tys e t p x h K
  | .makeSlice t l c => eMakeSlice tys e t l c h K
  | .makeMap t none => eMakeMap tys t h K
  | .mapUpdate t m k v => eMapUpdate tys e t m k v h K
  | .insert t m k v => eMapUpdate tys e t m k v h K
  | .convert src dst x => eFrz tys e src dst x h K
  | .call ⟨.invoke x name, args, _⟩ => eInvoke tys cf e x name args.toList h K
  | .call ⟨.value f, args, _⟩ => withV e f fun f => evL e args.toList fun vs => match f with
    | .fn (.func f) first cap => match cf.fn f (catL first (catL vs cap)) h with
      | some q => K q.1 q.2
      | none => none
    | .yld b => match cf.ys b with
      | some y => match y vs h with
        | some q => K q.1 q.2
        | none => none
      | none => none
    | _ => none
  | .call ⟨.builtin b, args, ts⟩ => evL e args.toList fun vs => eCallB tys b vs ts.toList h K
  | _ => none

def bindE (dst : Option Tmp) (v : AV) (e : AE) : AE := match dst with | some d => eput e d v | none => e
/-- Is the operation wanted? (its guard) -/
def grd (ops : List Oper) (o : Oper) (e : AE) (K : Bool → Option ρ) : Option ρ :=
  match o.guard with
  | none => K true
  | some q => match nth ops q.1 with
    | none => none
    | some og => match og.dst with
      | none => none
      | some d => match eget e d with
        | some (.bool c) => K (eqBo c q.2)
        | some (.tup _) => K false
        | _ => none
end
end Go.XS
