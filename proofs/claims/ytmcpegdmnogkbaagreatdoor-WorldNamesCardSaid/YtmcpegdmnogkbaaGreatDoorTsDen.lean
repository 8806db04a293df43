/- The layer 'TS': what a function's code asks of a heap, as a readable Prop: the reading of code. -/
import Derived.Test.YtmcpegdmnogkbaaGreatDoorTsDefs
set_option linter.unusedSimpArgs false
set_option linter.unusedVariables false
namespace Go.TS
open Go

/-- types, and of methods by their names: which function that is, of which type -/
structure Tys where
  tr : Tr TI
  mt : String → List (Nat × Nat)
def tyOf (tys : Tys) (t : Nat) : Option TI := Tr.get tys.tr t
def mtL : List (Nat × Nat) → Nat → Option Nat
  | [], _ => none
  | q :: r, t => match Nat.beq q.1 t with
    | true => some q.2
    | false => mtL r t
def mtOf (tys : Tys) (name : String) (t : Nat) : Option Nat := mtL (tys.mt name) t
def noMt : String → List (Nat × Nat) := fun _ => []
def isIface : TypeDesc → Bool
  | .interface _ => true
  | _ => false

def ev (e : Env) : Operand → Option Value
  | .tmp t => Env.get e t
  | .const v => some v
  | .global g => some (.pointer (some ⟨g, 0, none⟩))
  | .func f => some (.func (.func f) #[] #[])
def withV (e : Env) (x : Operand) (K : Value → Prop) : Prop := match ev e x with | some v => K v | none => False
def evL (e : Env) : List Operand → Option (List Value)
  | [] => some []
  | x :: r => match ev e x with
    | some v => match evL e r with
      | some vs => some (v :: vs)
      | none => none
    | none => none

/-- a function, an interface value: a value of one cell -/
def ldAny (a : Addr) (h : Mem) (K : Value → Prop) : Prop := ∃ x, rd h a = some x ∧ oneC x = true ∧ K x
def ldT (l : Lk) (a : Addr) (h : Mem) (K : Value → Prop) : Prop :=
  match l with
  | .leaf .any => ldAny a h K
  | .leaf k => ld k a h fun x => K (k.enc x)
  | .agg ks => ldL ks a 0 h fun vs => K (.agg vs.toArray)
  | .arr n => ldA n a h fun cs => K (.agg cs)

/-- '==' of two rows of whole numbers, and what follows -/
def eqA (xs ys : Array Value) (o : Option Bool) : Nat → Nat → Option Bool
  | _, 0 => o
  | i, n + 1 => match xs[i]?, ys[i]? with
    | some (.int k a), some (.int k' b) => match decide (k = k') with
      | true => match eqA xs ys o (i + 1) n with
        | some r => some ((a == b) && r)
        | none => none
      | false => none
    | _, _ => none
/-- '==' of two structs of whole numbers -/
def eqI (tys : Tys) (xs ys : Array Value) : List Field → Option Bool
  | [] => some true
  | f :: fs => match decide (f.name = "_") with
    | true => none
    | false => match tyOf tys f.type with
      | some ⟨.int _, _, _, _, .leaf _⟩ => match xs[f.offset]?, ys[f.offset]? with
        | some (.int k a), some (.int k' b) => match decide (k = k') with
          | true => match eqI tys xs ys fs with
            | some r => some ((a == b) && r)
            | none => none
          | false => none
        | _, _ => none
      | _ => none
/-- '==' of two structs of whole numbers and rows of whole numbers -/
def eqF (tys : Tys) (xs ys : Array Value) : List Field → Option Bool
  | [] => some true
  | f :: fs => match decide (f.name = "_") with
    | true => none
    | false => match tyOf tys f.type with
      | some ⟨.int _, _, _, _, .leaf _⟩ => match xs[f.offset]?, ys[f.offset]? with
        | some (.int k a), some (.int k' b) => match decide (k = k') with
          | true => match eqF tys xs ys fs with
            | some r => some ((a == b) && r)
            | none => none
          | false => none
        | _, _ => none
      | some ⟨.bool, _, _, _, .leaf _⟩ => match xs[f.offset]?, ys[f.offset]? with
        | some (.bool a), some (.bool b) => match eqF tys xs ys fs with
          | some r => some ((a == b) && r)
          | none => none
        | _, _ => none
      | some ⟨.struct gs, _, sz, _, .agg _⟩ => match eqI tys (xs.extract f.offset (f.offset + sz)) (ys.extract f.offset (f.offset + sz)) gs.toList with
        | some q => match eqF tys xs ys fs with
          | some r => some (q && r)
          | none => none
        | none => none
      | some ⟨.array n e, _, sz, _, _⟩ => match tyOf tys e with
        | some ⟨.int _, _, _, _, .leaf _⟩ => match decide (n = sz) with
          | true => eqA xs ys (eqF tys xs ys fs) f.offset n
          | false => none
        | _ => none
      | _ => none

def bin (tys : Tys) (op : BinOp) (t : TypeId) (x y : Value) (K : Value → Prop) : Prop :=
  match x, y with
  | .int k a, .int k' b =>
    match op with
    | .shl => ifB (decide (0 ≤ b)) (K (.int k (k.wrap (a * 2 ^ (min b.toNat k.bits))))) False
    | .shr => ifB (decide (0 ≤ b)) (K (.int k (a.fdiv (2 ^ (min b.toNat k.bits))))) False
    | _ => match decide (k = k') with
      | false => False
      | true => match op with
        | .add => K (.int k (k.wrap (a + b)))
        | .sub => K (.int k (k.wrap (a - b)))
        | .mul => K (.int k (k.wrap (a * b)))
        | .quo => ifB (decide (b = 0)) False (K (.int k (k.wrap (a.tdiv b))))
        | .rem => ifB (decide (b = 0)) False (K (.int k (a.tmod b)))
        | .and => K (.int k (bits .and k a b))
        | .or => K (.int k (bits .or k a b))
        | .xor => K (.int k (bits .xor k a b))
        | .andNot => K (.int k (bits .andNot k a b))
        | .eql => K (.bool (a == b))
        | .neq => K (.bool (a != b))
        | .lss => K (.bool (decide (a < b)))
        | .leq => K (.bool (decide (a ≤ b)))
        | .gtr => K (.bool (decide (a > b)))
        | .geq => K (.bool (decide (a ≥ b)))
        | _ => False
  | .string a, .string b => match op with
    | .eql => K (.bool (a.toList == b.toList))
    | .neq => K (.bool (!(a.toList == b.toList)))
    | .add => a.size + b.size ≤ 2 ^ 40 ∧ K (.string (a ++ b))
    | _ => False
  | .bool a, .bool b => match tyOf tys t with
    | some ⟨.bool, _, _, _, _⟩ => match op with
      | .eql => K (.bool (a == b))
      | .neq => K (.bool (!(a == b)))
      | _ => False
    | _ => False
  | .agg xs, .agg ys => match tyOf tys t with
    | some ⟨.struct fs, _, _, _, _⟩ => match eqF tys xs ys fs.toList with
      | some r => match op with
        | .eql => K (.bool r)
        | .neq => K (.bool (!r))
        | _ => False
      | none => False
    | _ => False
  | .pointer p, .pointer none => match tyOf tys t with
    | some ⟨.pointer _, _, _, _, _⟩ => match op with
      | .eql => K (.bool p.isNone)
      | .neq => K (.bool (!p.isNone))
      | _ => False
    | _ => False
  | .slice b _ _, .slice none 0 0 => match tyOf tys t with
    | some ⟨.slice _, _, _, _, _⟩ => match op with
      | .eql => K (.bool b.isNone)
      | .neq => K (.bool (!b.isNone))
      | _ => False
    | _ => False
  | .map r, .map none => match tyOf tys t with
    | some ⟨.map _ _, _, _, _, _⟩ => match op with
      | .eql => K (.bool r.isNone)
      | .neq => K (.bool (!r.isNone))
      | _ => False
    | _ => False
  | _, _ => False

def bnd (e : Env) (d : Int) : Option Operand → Option Int
  | none => some d
  | some x => match ev e x with
    | some (.int _ n) => some n
    | _ => none

/-- the whole numbers of a struct that may be a key, its fields one behind the other -/
def keyFs (tys : Tys) : List Field → Nat → Option (List IntKind)
  | [], _ => some []
  | f :: fs, i => match decide (f.name = "_") with
    | true => none
    | false => match tyOf tys f.type with
      | some ⟨.int k, _, _, _, .leaf _⟩ => match Nat.beq f.offset i with
        | true => match keyFs tys fs (i + 1) with
          | some r => some (k :: r)
          | none => none
        | false => none
      | _ => none
def keyC (tys : Tys) (t : Nat) : Option KeyC := match tyOf tys t with
  | some ⟨.int k, _, _, _, _⟩ => some (.int k)
  | some ⟨.string, _, _, _, _⟩ => some .str
  | some ⟨.struct fs, _, _, _, _⟩ => match keyFs tys fs.toList 0 with
    | some ks => some (.ints ks)
    | none => none
  | _ => none
def fldOff (tys : Tys) (t f : Nat) : Option (Nat × TI) :=
  match tyOf tys t with
  | some ⟨.struct fs, _, _, _, _⟩ => match fs[f]? with
    | some fl => match tyOf tys fl.type with
      | some ti => some (fl.offset, ti)
      | none => none
    | none => none
  | _ => none

def places (tys : Tys) : List Field → Option (List (Nat × Nat))
  | [] => some []
  | f :: r => match tyOf tys f.type with
    | some ti => match places tys r with
      | some ps => some ((f.offset, ti.size) :: ps)
      | none => none
    | none => none

def zipV : List (Nat × Operand) → List Value → List (Nat × Value)
  | (i, _) :: r, v :: vs => (i, v) :: zipV r vs
  | _, _ => []

/-- What only reads. -/
def still (tys : Tys) (e : Env) (h : Mem) (op : Op) (K : Value → Prop) : Prop :=
  match op with
  | .move x | .assign x => withV e x K
  | .pick c a b => withV e c fun c => match c with
    | .bool c => ifB c (withV e a K) (withV e b K)
    | _ => False
  | .build t ps => match evL e (ps.toList.map (·.2)) with
    | none => False
    | some vs => match tyOf tys t with
      | some ⟨.struct fs, z, _, _, _⟩ => match places tys fs.toList with
        | some pl => match Instr.fill (pl.toArray[·]?) z.cells (zipV ps.toList vs) with
          | some cs => K (.agg cs)
          | none => False
        | none => False
      | some ⟨.array _ el, z, _, _, _⟩ => match tyOf tys el with
        | some ti => match Instr.fill (fun i => some (i * ti.size, ti.size)) z.cells (zipV ps.toList vs) with
          | some cs => K (.agg cs)
          | none => False
        | none => False
      | _ => False
  | .load t x => withV e x fun p => match p with
    | .pointer (some a) => match tyOf tys t with
      | some ti => ldT ti.lk a h K
      | none => False
    | _ => False
  | .nilCheck x => withV e x fun p => match p with
    | .pointer p => nn p fun a => K (.pointer (some a))
    | .func (.method name) first cap => match (first[0]? : Option Value) with
      | some (.iface t _) => (mtOf tys name t).isSome = true ∧ K (.func (.method name) first cap)
      | _ => False
    | _ => False
  | .binOp op t x y _ => withV e x fun a => withV e y fun b => bin tys op t a b K
  | .unOp op _ x => withV e x fun a => match op, a with
    | .not, .bool b => K (.bool !b)
    | .xor, .int k n => K (.int k (bits .xor k (if k.signed then -1 else k.max) n))
    | .neg, .int k n => K (.int k (k.wrap (0 - n)))
    | _, _ => False
  | .convert src dst x => withV e x fun a => match tyOf tys src, tyOf tys dst with
    | some s, some d => match d.desc, a with
      | .int k, .int _ n => K (.int k (k.wrap n))
      | .string, .slice b l c => match s.desc with
        | .slice el => match tyOf tys el with
          | some ⟨.int .u8, _, _, _, _⟩ => ldStr ⟨b, l, c⟩ h fun s => K (.string s)
          | _ => False
        | _ => False
      | _, _ => False
    | _, _ => False
  | .slice t x lo hi mx => withV e x fun x => match tyOf tys t with
    | some ⟨.slice el, _, _, _, _⟩ => match tyOf tys el, x with
      | some ti, .slice b l c => match bnd e 0 lo, bnd e l hi with
        | some lo', some hi' => match mx with
          | none => slc ⟨b, l, c⟩ lo' hi' ti.size fun s => K (.slice s.base s.len s.cap)
          | some mx => match hi, ev e mx with
            | some _, some (.int _ m) => slc3 ⟨b, l, c⟩ lo' hi' m ti.size fun s => K (.slice s.base s.len s.cap)
            | _, _ => False
        | _, _ => False
      | _, _ => False
    | some ⟨.array n el, _, _, _, _⟩ => match tyOf tys el, x with
      | some ti, .pointer (some a) => match bnd e 0 lo, bnd e n hi, mx with
        | some lo', some hi', none => slcA a n lo' hi' ti.size fun s => K (.slice s.base s.len s.cap)
        | _, _, _ => False
      | _, _ => False
    | some ⟨.string, _, _, _, _⟩ => match x, mx with
      | .string s, none => match bnd e 0 lo, bnd e s.size hi with
        | some lo', some hi' => 0 ≤ lo' ∧ lo' ≤ hi' ∧ hi' ≤ s.size ∧ K (.string (s.extract lo'.toNat hi'.toNat))
        | _, _ => False
      | _, _ => False
    | _ => False
  | .fieldAddr t x f => withV e x fun x => match x with
    | .pointer (some a) => match fldOff tys t f with
      | some (off, ti) => match ti.size with
        | 0 => False
        | _ + 1 => K (.pointer (some (a.add off)))
      | none => False
    | _ => False
  | .field t x f => withV e x fun x => match x with
    | .agg cs => match fldOff tys t f with
      | some (off, ti) => match ti.lk with
        | .leaf _ => match cs[off]? with
          | some v => K v
          | none => False
        | _ => K (.agg (cs.extract off (off + ti.size)))
      | none => False
    | _ => False
  | .indexAddr t x i => withV e x fun x => withV e i fun i => match i with
    | .int _ i => match tyOf tys t with
      | some ⟨.slice el, _, _, _, _⟩ => match tyOf tys el, x with
        | some ti, .slice b l c => ixS ⟨b, l, c⟩ i ti.size fun a => K (.pointer (some a))
        | _, _ => False
      | some ⟨.array n el, _, _, _, _⟩ => match tyOf tys el, x with
        | some ti, .pointer (some a) => ixA a n i ti.size fun a => K (.pointer (some a))
        | _, _ => False
      | _ => False
    | _ => False
  | .index t x i => withV e x fun x => withV e i fun i => match i with
    | .int _ i => match tyOf tys t with
      | some ⟨.array n el, _, _, _, _⟩ => match tyOf tys el, x with
        | some ti, .agg cs => match ti.lk, ti.size with
          | .leaf k, 1 => 0 ≤ i ∧ i < n ∧ ∃ x, cs[i.toNat]? = some (k.enc x) ∧ K (k.enc x)
          | _, _ => False
        | _, _ => False
      | some ⟨.string, _, _, _, _⟩ => match x with
        | .string s => 0 ≤ i ∧ ∃ c : UInt8, s[i.toNat]? = some c ∧ K (.int .u8 c.toNat)
        | _ => False
      | _ => False
    | _ => False
  | .lookup t x k ok => withV e x fun x => withV e k fun k => match tyOf tys t with
    | some ⟨.map kt vt, _, _, _, _⟩ => match keyC tys kt, tyOf tys vt, x with
      | some kc, some ti, .map r => match codeK kc k with
        | some n => nm r fun r => mget kc ti.lk r n h fun o => match o with
          | some v => K (match ok with | true => .tuple #[ti.lk.enc v, .bool true] | false => ti.lk.enc v)
          | none => K (match ok with | true => .tuple #[ti.zero, .bool false] | false => ti.zero)
        | none => False
      | _, _, _ => False
    | _ => False
  | .extract x i => withV e x fun x => match x with
    | .tuple vs => match vs[i]? with
      | some v => K v
      | none => False
    | _ => False
  | .sliceToArrayPointer t x => withV e x fun x => match tyOf tys t, x with
    | some ⟨.array n _, _, _, _, _⟩, .slice b l _ => n ≤ l ∧ K (.pointer b)
    | _, _ => False
  | .makeInterface t x => withV e x fun v => match tyOf tys t with
    | some ti => match isIface ti.desc with
      | false => K (.iface t v)
      | true => False
    | none => False
  | .typeAssert x _ t ok => withV e x fun v => match tyOf tys t with
    | some ti => match isIface ti.desc with
      | false => match v with
        | .iface u w => match decide (u = t) with
          | true => K (match ok with | true => .tuple #[w, .bool true] | false => w)
          | false => match ok with
            | true => K (.tuple #[ti.zero, .bool false])
            | false => False
        | .nilIface => match ok with
          | true => K (.tuple #[ti.zero, .bool false])
          | false => False
        | _ => False
      | true => False
    | none => False
  | .makeFunc fn first cap => match evL e first.toList, evL e cap.toList with
    | some f, some c => K (.func fn f.toArray c.toArray)
    | _, _ => False
  | .call ⟨.builtin b, args, tys'⟩ => match b, evL e args.toList, tys'.toList with
    | .len, some [x], t :: _ => match tyOf tys t with
      | some ⟨d, _, _, _, _⟩ => match d, x with
        | .slice _, .slice _ n _ => K (.int .i64 n)
        | .string, .string s => K (.int .i64 s.size)
        | .map _ _, .map r => nm r fun r => mlen r h fun n => K (.int .i64 n)
        | _, _ => False
      | none => False
    | .cap, some [.slice _ _ c], t :: _ => match tyOf tys t with
      | some ⟨.slice _, _, _, _, _⟩ => K (.int .i64 c)
      | _ => False
    | .min, some [.int k a, .int _ b], _ => K (.int k (mnI a b))
    | .max, some [.int k a, .int _ b], _ => K (.int k (mxI a b))
    | _, _, _ => False
  | _ => False

def isStill : Op → Bool
  | .move _ | .assign _ | .pick .. | .build .. | .load .. | .nilCheck _ | .binOp .. | .unOp .. | .slice .. | .fieldAddr .. | .field .. | .indexAddr .. | .index .. | .lookup .. | .extract .. | .makeFunc .. | .sliceToArrayPointer .. | .makeInterface .. | .typeAssert .. => true
  | .convert .. => true
  | .call ⟨.builtin .len, _, _⟩ | .call ⟨.builtin .cap, _, _⟩ | .call ⟨.builtin .min, _, _⟩ | .call ⟨.builtin .max, _, _⟩ => true
  | _ => false

/-- A function that may be called: its number, what it asks. -/
abbrev CallP := List Value → Mem → (Value → Mem → Prop) → Prop
/-- what may be called: functions, by what the loops' bodies ask that they are handed (yields, by the blocks of the loops' records) -/
structure Calls' where
  fn : (Nat → Option CallP) → Nat → Option CallP
  it : (Nat → Option CallP) → Nat → Option CallP
  ys : Nat → Option CallP
def callOf (cs : Calls') (t : Nat) : Option CallP := cs.fn cs.ys t
def callsT (l : List (Nat × CallP)) : Calls' := ⟨fun _ t => Tr.get (trOf l) t, fun _ _ => none, fun _ => none⟩
def noCalls : Calls' := ⟨fun _ _ => none, fun _ _ => none, fun _ => none⟩
def addY (ys : Nat → Option CallP) (l : Nat) (p : CallP) : Nat → Option CallP := fun m => match Nat.beq m l with | true => some p | false => ys m

/-- a string's bytes, and so many noughts -/
def bytesC (s : ByteArray) (n : Nat) : Array Value := (s.data.map fun b => Value.int .u8 b.toNat) ++ Array.replicate n (.int .u8 0)
/-- What writes or makes memory. -/
def eff (tys : Tys) (cs : Calls') (e : Env) (h : Mem) (op : Op) (K : Value → Mem → Prop) : Prop :=
  match op with
  | .alloc t => match tyOf tys t with
    | some ti => al (.cells ti.zero.cells t) h fun b h => K (.pointer (some ⟨b, 0, none⟩)) h
    | none => False
  | .box t x => withV e x fun x => al (.cells x.cells t) h fun b h => K (.pointer (some ⟨b, 0, none⟩)) h
  | .buildSlice t n ps => match evL e (ps.toList.map (·.2)), tyOf tys t with
    | some vs, some ⟨.slice el, _, _, _, _⟩ => match tyOf tys el with
      | some ti => match decide (n * ti.size ≤ 2 ^ 24) with
        | true => match Instr.fill (fun i => some (i * ti.size, ti.size)) (zeros ti.zero.cells (n * ti.size)) (zipV ps.toList vs) with
          | some cs => al (.cells cs el) h fun b h => K (.slice (some ⟨b, 0, none⟩) n n) h
          | none => False
        | false => False
      | none => False
    | _, _ => False
  | .store t p x => withV e p fun p => withV e x fun x => match p, tyOf tys t with
    | .pointer (some a), some ti => match ti.lk with
      | .leaf _ => match oneC x with
        | true => st a x h fun h => K undef h
        | false => False
      | .agg _ => match x with
        | .agg cs => match Nat.beq cs.size ti.size with
          | true => stL cs.toList a 0 h fun h => K undef h
          | false => False
        | _ => False
      | .arr n => match x with
        | .agg cs => cs.size = n ∧ stA cs.toList a h fun h => K undef h
        | _ => False
    | _, _ => False
  | .makeSlice t l c => withV e l fun l => withV e c fun c => match l, c, tyOf tys t with
    | .int _ l, .int _ c, some ⟨.slice el, _, _, _, _⟩ => match tyOf tys el with
      | some ti => mks el ti.zero.cells ti.size ti.bytes l c h fun s h => K (.slice s.base s.len s.cap) h
      | none => False
    | _, _, _ => False
  | .makeMap _ none => al (.map #[] 0) h fun b h => K (.map (some b)) h
  | .mapUpdate t m k v => withV e m fun m => withV e k fun k => withV e v fun v => match tyOf tys t with
    | some ⟨.map kt vt, _, _, _, _⟩ => match keyC tys kt, tyOf tys vt, m with
      | some kc, some ti, .map r => match codeK kc k with
        | some n => nm r fun r => match ti.lk with
          | .leaf k => match k.dec v with
            | some x => mset kc (.leaf k) r n x h fun h => K undef h
            | none => False
          | .agg [] => match v with
            | .agg cs => match Nat.beq cs.size 0 with
              | true => mset kc (.agg []) r n () h fun h => K undef h
              | false => False
            | _ => False
          | _ => False
        | none => False
      | _, _, _ => False
    | _ => False
  | .insert t m k v => withV e m fun m => withV e k fun k => withV e v fun v => match tyOf tys t with
    | some ⟨.map kt vt, _, _, _, _⟩ => match keyC tys kt, tyOf tys vt, m with
      | some kc, some ti, .map r => match codeK kc k with
        | some n => nm r fun r => match ti.lk with
          | .leaf k => match k.dec v with
            | some x => mset kc (.leaf k) r n x h fun h => K undef h
            | none => False
          | .agg [] => match v with
            | .agg cs => match Nat.beq cs.size 0 with
              | true => mset kc (.agg []) r n () h fun h => K undef h
              | false => False
            | _ => False
          | _ => False
        | none => False
      | _, _, _ => False
    | _ => False
  | .range t x => withV e x fun x => match tyOf tys t, x with
    | some ⟨.map _ _, _, _, _, _⟩, .map r => nm r fun r => rng r h fun b h => K (.pointer (some ⟨b, 0, none⟩)) h
    | _, _ => False
  | .next x str => match str with
    | true => False
    | false => withV e x fun x => match x with
      | .pointer (some ⟨b, 0, none⟩) => nxt b h (fun h => K (.tuple #[.bool false]) h) (fun k v h => K (.tuple #[.bool true, k, v]) h)
      | _ => False
  | .entry x => withV e x fun x => match x with
    | .pointer (some ⟨b, 0, none⟩) => ent b h fun k v => K (.tuple #[k, v]) h
    | _ => False
  | .convert src dst x => withV e x fun x => match tyOf tys src, tyOf tys dst, Nat.beq src dst, x with
    | some ⟨.slice _, _, _, _, _⟩, some ⟨.slice el, _, _, _, _⟩, true, .slice (some a) l c => match tyOf tys el with
      | some ⟨.int .u8, _, _, _, _⟩ => frzS a h fun h => K (.slice (some a) l c) h
      | _ => False
    | some ⟨.string, _, _, _, _⟩, some ⟨.slice el, _, _, _, _⟩, false, .string s => match tyOf tys el with
      | some ⟨.int .u8, _, _, _, _⟩ => ∀ c, s.size ≤ c → al (.cells (bytesC s (c - s.size)) el ((bytesC s (c - s.size)).size, (bytesC s (c - s.size)).size + 1)) h fun b h => K (.slice (some ⟨b, 0, none⟩) s.size c) h
      | _ => False
    | _, _, _, _ => False
  | .call ⟨.invoke r name, args, _⟩ => withV e r fun r => match r, evL e args.toList with
    | .iface t v, some vs => match mtOf tys name t with
      | some f => match callOf cs f with
        | some p => p (v :: vs) h K
        | none => False
      | none => False
    | _, _ => False
  | .call ⟨.value (.func f), args, _⟩ => match evL e args.toList, callOf cs f with
    | some vs, some p => p vs h K
    | _, _ => False
  | .call ⟨.value (.tmp t), args, _⟩ => match Env.get e t, evL e args.toList with
    | some (.func (.func f) first cap), some vs => match callOf cs f with
      | some p => p (first.toList ++ vs ++ cap.toList) h K
      | none => False
    | some (.func (.yield l) first _), some vs => match cs.ys l with
      | some p => p (first.toList ++ vs) h K
      | none => False
    | _, _ => False
  | .call ⟨.builtin b, args, ts⟩ => match b, evL e args.toList, ts.toList with
    | .append, some [.slice b1 l1 c1, x], t :: u :: _ => match tyOf tys t, tyOf tys u with
      | some ⟨.slice el, _, _, _, _⟩, some ⟨du, _, _, _, _⟩ => match tyOf tys el with
        | some ti => match du, x with
          | .slice _, .slice b2 l2 c2 => app el ti.zero.cells ti.size ti.bytes ⟨b1, l1, c1⟩ ⟨b2, l2, c2⟩ h fun s h => K (.slice s.base s.len s.cap) h
          | .int _, .int .i64 n => app0 el ti.zero.cells ti.size ti.bytes ⟨b1, l1, c1⟩ n h fun s h => K (.slice s.base s.len s.cap) h
          | _, _ => False
        | none => False
      | _, _ => False
    | .copy, some [.slice b1 l1 c1, .slice b2 l2 c2], t :: _ => match tyOf tys t with
      | some ⟨.slice el, _, _, _, _⟩ => match tyOf tys el with
        | some ti => cpy ti.size ⟨b1, l1, c1⟩ ⟨b2, l2, c2⟩ h fun n h => K (.int .i64 n) h
        | none => False
      | _ => False
    | .clear, some [x], t :: _ => match tyOf tys t with
      | some ⟨.slice el, _, _, _, _⟩ => match tyOf tys el, x with
        | some ti, .slice b l c => clr ti.zero.cells ⟨b, l, c⟩ h fun h => K (.tuple #[]) h
        | _, _ => False
      | some ⟨.map _ _, _, _, _, _⟩ => match x with
        | .map r => nm r fun r => mclr r h fun h => K (.tuple #[]) h
        | _ => False
      | _ => False
    | .delete, some [.map r, kv], t :: _ => match tyOf tys t with
      | some ⟨.map kt vt, _, _, _, _⟩ => match keyC tys kt, tyOf tys vt with
        | some kc, some ti => match codeK kc kv with
          | some key => nm r fun r => mdel kc ti.lk r key h fun h => K (.tuple #[]) h
          | none => False
        | _, _ => False
      | _ => False
    | _, _, _ => False
  | _ => False

def isFreeze (tys : Tys) : Op → Bool
  | .convert _ dst _ => match tyOf tys dst with
    | some ⟨.slice _, _, _, _, _⟩ => true
    | _ => false
  | _ => false

def bindE (dst : Option Tmp) (v : Value) (e : Env) : Env := match dst with | some d => Env.put e d v | none => e

/-- Is the operation wanted? (its guard) -/
def grd (ops : List Oper) (o : Oper) (e : Env) (K : Env → Bool → Prop) : Prop :=
  match o.guard with
  | none => K e true
  | some (g, want) => match ops[g]? with
    | none => False
    | some og => match og.dst with
      | none => False
      | some d => match Env.get e d with
        | some (.bool c) => match want with
          | true => ifB c (K (Env.put e d (.bool true)) true) (K (Env.put e d (.bool false)) false)
          | false => ifB c (K (Env.put e d (.bool true)) false) (K (Env.put e d (.bool false)) true)
        | some (.tuple _) => K e false
        | _ => False

abbrev Rg := Env → List Deferred → Mem → Prop

/-- The operations of a region, one behind the other. -/
def denL (tys : Tys) (cs : Calls') (all : List Oper) : List Oper → Env → List Deferred → Mem → Rg → Prop
  | [], e, ds, h, K => K e ds h
  | o :: r, e, ds, h, K => grd all o e fun e w => match w with
    | false => denL tys cs all r (bindE o.dst undef e) ds h K
    | true => match o.op with
      | .defer ⟨.value f, args, _⟩ => match ev e f, evL e args.toList with
        | some (.func fn first cap), some vs => denL tys cs all r (bindE o.dst undef e) ({ target := .fn fn cap, args := first ++ vs.toArray } :: ds) h K
        | _, _ => False
      | _ => match isStill o.op && !isFreeze tys o.op with
        | true => still tys e h o.op fun v => denL tys cs all r (bindE o.dst v e) ds h K
        | false => eff tys cs e h o.op fun v h => denL tys cs all r (bindE o.dst v e) ds h K

end Go.TS
