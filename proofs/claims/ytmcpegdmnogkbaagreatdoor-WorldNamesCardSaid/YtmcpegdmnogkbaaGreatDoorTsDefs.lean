/- The layer 'TS': what a function's code asks of a heap, as a readable Prop: definitions. -/
import Derived.Tactics2
import Derived.Defers
import Derived.Orders
import Derived.KernelRfl
import Derived.RangeFuncLeaves
import Derived.RangeFuncSeq
import Derived.RangeFuncRecord
import Derived.OrdersIn
import Derived.Maps.RangeRun
import Derived.Sort.LoopGhostIn
import Derived.Scope
set_option linter.unusedSimpArgs false
set_option linter.unusedVariables false
namespace Go.TS

abbrev Mem := Array Obj

def rd (h : Mem) (a : Addr) : Option Value :=
  match h[a.block]? with
  | some (.cells c _ _) => if a.spot.isSome then none else c[a.off]?
  | _ => none
def fz (h : Mem) (a : Addr) : Bool :=
  match h[a.block]? with
  | some (.cells _ _ (lo, hi)) => lo ≤ a.off && a.off < hi
  | _ => false
def wr (h : Mem) (a : Addr) (v : Value) : Mem :=
  h.modify a.block fun
    | .cells c elem frozen => .cells (if a.spot.isSome then c else c.setIfInBounds a.off v) elem frozen
    | o => o
def mrk (h : Mem) (a : Addr) (n : Nat) : Mem :=
  if n = 0 then h else
  h.modify a.block fun
    | .cells c elem (lo, hi) => .cells c elem (if lo == hi then (a.off, a.off + n) else (min lo a.off, max hi (a.off + n)))
    | o => o

/-- Does the value lie in one cell? -/
def oneC : Value → Bool
  | .agg _ | .tuple _ => false
  | _ => true

/-- A slice. -/
structure Sl where
  base : Option Addr
  len : Nat
  cap : Nat
def Sl.v (s : Sl) : Value := .slice s.base s.len s.cap

/-- The kinds of values that lie in one cell. -/
inductive Kind where
  | int (k : IntKind) | bool | ptr | sl | str | map | any
@[reducible] def Kind.ty : Kind → Type
  | .int _ => Int
  | .bool => Bool
  | .ptr => Option Addr
  | .sl => Sl
  | .str => ByteArray
  | .map => Option Nat
  | .any => Value
def Kind.enc : (k : Kind) → k.ty → Value
  | .int k, n => .int k n
  | .bool, b => .bool b
  | .ptr, p => .pointer p
  | .sl, s => .slice s.base s.len s.cap
  | .str, s => .string s
  | .map, r => .map r
  | .any, v => v
def Kind.dec : (k : Kind) → Value → Option k.ty
  | .int k, .int k' n => bif decide (k = k') then some n else none
  | .bool, .bool b => some b
  | .ptr, .pointer p => some p
  | .sl, .slice b l c => some ⟨b, l, c⟩
  | .str, .string s => some s
  | .map, .map r => some r
  | .any, v => some v
  | _, _ => none

/-- How a type is read. -/
inductive Lk where
  | leaf (k : Kind)
  | agg (ks : List Kind)
  | arr (n : Nat)

structure TI where
  desc : TypeDesc
  zero : Value
  size : Nat
  bytes : Nat
  lk : Lk

/-- The loop's state: the slots that its body turns. -/
@[reducible] def St : List (Nat × Kind) → Type
  | [] => Unit
  | (_, k) :: [] => k.ty
  | (_, k) :: q :: r => k.ty × St (q :: r)
/-- a tree with numbers as keys -/
inductive Tr (α : Type) where
  | nil
  | node (l : Tr α) (v : Option α) (r : Tr α)
def Tr.get {α : Type} : Tr α → Nat → Option α
  | .nil, _ => none
  | .node l v r, n => match Nat.beq n 0 with
    | true => v
    | false => match Nat.beq (Nat.mod n 2) 0 with
      | true => Tr.get r (Nat.sub (Nat.div n 2) 1)
      | false => Tr.get l (Nat.div n 2)
def Tr.put {α : Type} : Nat → Tr α → Nat → α → Tr α
  | 0, _, _, _ => .nil
  | f + 1, .nil, n, x => match Nat.beq n 0 with
    | true => .node .nil (some x) .nil
    | false => match Nat.beq (Nat.mod n 2) 0 with
      | true => .node .nil none (Tr.put f .nil (Nat.sub (Nat.div n 2) 1) x)
      | false => .node (Tr.put f .nil (Nat.div n 2) x) none .nil
  | f + 1, .node l v r, n, x => match Nat.beq n 0 with
    | true => .node l (some x) r
    | false => match Nat.beq (Nat.mod n 2) 0 with
      | true => .node l v (Tr.put f r (Nat.sub (Nat.div n 2) 1) x)
      | false => .node (Tr.put f l (Nat.div n 2) x) v r
def Tr.del {α : Type} : Tr α → Nat → Tr α
  | .nil, _ => .nil
  | .node l v r, n => match Nat.beq n 0 with
    | true => .node l none r
    | false => match Nat.beq (Nat.mod n 2) 0 with
      | true => .node l v (Tr.del r (Nat.sub (Nat.div n 2) 1))
      | false => .node (Tr.del l (Nat.div n 2)) v r
def trOf {α : Type} : List (Nat × α) → Tr α
  | [] => .nil
  | (i, x) :: r => Tr.put 14 (trOf r) i x
abbrev Env := Tr Value
def Env.get (e : Env) (t : Nat) : Option Value := Tr.get e t
def Env.put (e : Env) (d : Nat) (v : Value) : Env := Tr.put 14 e d v
def encOn : (l : List (Nat × Kind)) → St l → Env → Env
  | [], _, e => e
  | (i, k) :: [], x, e => Env.put e i (k.enc x)
  | (i, k) :: q :: r, x, e => Env.put (encOn (q :: r) x.2 e) i (k.enc x.1)
def getK (e : Env) (i : Nat) (k : Kind) : Option k.ty := match Env.get e i with | some v => k.dec v | none => none
def decSt : (l : List (Nat × Kind)) → Env → Option (St l)
  | [], _ => some ()
  | (i, k) :: [], e => getK e i k
  | (i, k) :: q :: r, e => match getK e i k with
    | some x => match decSt (q :: r) e with
      | some y => some (x, y)
      | none => none
    | none => none

-- the words of the readable text
def ifB (c : Bool) (A B : Prop) : Prop := match c with | true => A | false => B
def nn (p : Option Addr) (K : Addr → Prop) : Prop := match p with | some a => K a | none => False
def nm (r : Option Nat) (K : Nat → Prop) : Prop := match r with | some r => K r | none => False
/-- a literal of bytes that is converted: its block gets a mark -/
def frzS (a : Addr) (h : Mem) (K : Mem → Prop) : Prop := K (match h[a.block]? with | some (.cells cs _ _) => mrk h ⟨a.block, cs.size, none⟩ 1 | _ => h)
def ld (k : Kind) (a : Addr) (h : Mem) (K : k.ty → Prop) : Prop := ∃ x, rd h a = some (k.enc x) ∧ K x
def ldL : List Kind → Addr → Nat → Mem → (List Value → Prop) → Prop
  | [], _, _, _, K => K []
  | k :: ks, a, i, h, K => ld k (a.add i) h fun x => ldL ks a (i + 1) h fun vs => K (k.enc x :: vs)
def ldA (n : Nat) (a : Addr) (h : Mem) (K : Array Value → Prop) : Prop :=
  ∃ cs : Array Value, cs.size = n ∧ (∀ i v, cs[i]? = some v → rd h (a.add i) = some v) ∧ K cs
def st (a : Addr) (v : Value) (h : Mem) (K : Mem → Prop) : Prop := (∃ u, rd h a = some u) ∧ fz h a = false ∧ K (wr h a v)
def stL : List Value → Addr → Nat → Mem → (Mem → Prop) → Prop
  | [], _, _, h, K => K h
  | v :: vs, a, i, h, K => match oneC v with | true => st (a.add i) v h fun h => stL vs a (i + 1) h K | false => False
def wrs : Mem → Addr → Nat → List Value → Mem
  | h, _, _, [] => h
  | h, a, i, v :: vs => wrs (wr h (a.add i) v) a (i + 1) vs
/-- May these cells be written? -/
def room (h : Mem) (a : Addr) (n : Nat) : Prop := ∀ i, i < n → (∃ u, rd h (a.add i) = some u) ∧ fz h (a.add i) = false
def one (vs : List Value) : Prop := ∀ v, v ∈ vs → oneC v = true
/-- cells that are written in one go -/
def stA (vs : List Value) (a : Addr) (h : Mem) (K : Mem → Prop) : Prop := room h a vs.length ∧ one vs ∧ K (wrs h a 0 vs)
def al (o : Obj) (h : Mem) (K : Nat → Mem → Prop) : Prop := K h.size (h.push o)
def LoopP {σ : Type} (body : (σ → Mem → Prop) → σ → Mem → Prop) (s : σ) (h : Mem) : Prop :=
  ∃ (I : σ → Mem → Prop) (μ : σ → Mem → Nat), I s h ∧ ∀ s h, I s h → body (fun s' h' => I s' h' ∧ μ s' h' < μ s h) s h
def cellsAt (h : Mem) (a : Addr) (vs : List Value) : Prop := ∀ i v, vs[i]? = some v → rd h (a.add i) = some v
/-- the first n cells of a slice -/
def slCells (h : Mem) (s : Sl) (n : Nat) (vs : List Value) : Prop := match s.base with | some a => vs.length = n ∧ cellsAt h a vs | none => vs = []
def ixS (s : Sl) (i : Int) (sz : Nat) (K : Addr → Prop) : Prop := ∃ a, s.base = some a ∧ 0 ≤ i ∧ i < s.len ∧ K (a.add (i.toNat * sz))
def ixA (a : Addr) (n : Nat) (i : Int) (sz : Nat) (K : Addr → Prop) : Prop := 0 ≤ i ∧ i < n ∧ K (a.add (i.toNat * sz))
def ldStr (s : Sl) (h : Mem) (K : ByteArray → Prop) : Prop :=
  ∃ b : ByteArray, b.size = s.len ∧ slCells h s s.len (b.data.toList.map fun c => .int .u8 c.toNat) ∧ K b
/-- a slice's piece -/
def Sl.cut (s : Sl) (lo hi sz : Nat) : Sl := ⟨if s.cap = lo then s.base else s.base.map (·.add (lo * sz)), hi - lo, s.cap - lo⟩
def slc (s : Sl) (lo hi : Int) (sz : Nat) (K : Sl → Prop) : Prop := 0 ≤ lo ∧ lo ≤ hi ∧ hi ≤ s.cap ∧ K (s.cut lo.toNat hi.toNat sz)
def slc3 (s : Sl) (lo hi mx : Int) (sz : Nat) (K : Sl → Prop) : Prop :=
  0 ≤ lo ∧ lo ≤ hi ∧ hi ≤ mx ∧ mx ≤ s.cap ∧ K ⟨if mx.toNat = lo.toNat then s.base else s.base.map (·.add (lo.toNat * sz)), hi.toNat - lo.toNat, mx.toNat - lo.toNat⟩
def slcA (a : Addr) (n : Nat) (lo hi : Int) (sz : Nat) (K : Sl → Prop) : Prop :=
  0 ≤ lo ∧ lo ≤ hi ∧ hi ≤ n ∧ K ⟨some (if n = lo.toNat then a else a.add (lo.toNat * sz)), hi.toNat - lo.toNat, n - lo.toNat⟩
-- maps: keys are whole numbers, strings, structs of whole numbers; each key has a number for its code; entries as (code, value, stamp)
inductive KeyC where
  | int (k : IntKind)
  | str
  | ints (ks : List IntKind)
abbrev KeyC.i64 : KeyC := .int .i64
def codeB : List UInt8 → Nat
  | [] => 1
  | b :: r => b.toNat + 256 * codeB r
def decB : Nat → Nat → List UInt8
  | 0, _ => []
  | f + 1, n => match Nat.ble n 1 with
    | true => []
    | false => UInt8.ofNat (n % 256) :: decB f (n / 256)
def codeIs : List IntKind → List Value → Option Int
  | [], [] => some 0
  | k :: ks, .int k' a :: vs => match decide (k = k') with
    | true => match decide (k.wrap (a % 18446744073709551616) = a) with
      | true => match codeIs ks vs with
        | some r => some (a % 18446744073709551616 + 18446744073709551616 * r)
        | none => none
      | false => none
    | false => none
  | _, _ => none
def decIs : List IntKind → Int → List Value
  | [], _ => []
  | k :: ks, c => .int k (k.wrap (c % 18446744073709551616)) :: decIs ks (c / 18446744073709551616)
def codeK : KeyC → Value → Option Int
  | .int k, .int k' n => match decide (k = k') with
    | true => some n
    | false => none
  | .str, .string b => some (codeB b.data.toList : Int)
  | .ints ks, .agg cs => codeIs ks cs.toList
  | _, _ => none
def keyV : KeyC → Int → Value
  | .int k, n => .int k n
  | .str, n => .string ⟨(decB n.toNat n.toNat).toArray⟩
  | .ints ks, n => .agg (decIs ks n).toArray
/-- a key's code -/
def cK (kc : KeyC) (v : Value) (K : Int → Prop) : Prop := match codeK kc v with | some n => K n | none => False
def intsOf : List IntKind → List Value → Bool
  | [], [] => true
  | k :: ks, .int k' _ :: vs => decide (k = k') && intsOf ks vs
  | _, _ => false
def eqIs : List Value → List Value → Bool
  | [], [] => true
  | .int _ a :: r, .int _ b :: s => (a == b) && eqIs r s
  | _, _ => false
/-- is it a key's code? -/
def okK (kc : KeyC) (c : Int) : Prop := codeK kc (keyV kc c) = some c
theorem okK_int (k : IntKind) (c : Int) : okK (.int k) c := by simp [okK, keyV, codeK]
theorem codeB_pos : ∀ l : List UInt8, l.length < codeB l := by
  intro l
  induction l with
  | nil => decide
  | cons b r ih => simp only [codeB, List.length_cons]; omega
theorem decB_code : ∀ (l : List UInt8) (f : Nat), l.length ≤ f → decB f (codeB l) = l := by
  intro l
  induction l with
  | nil => intro f _; cases f <;> rfl
  | cons b r ih =>
    intro f hf
    cases f with
    | zero => simp at hf
    | succ f =>
      have hp := codeB_pos r
      have hb : b.toNat < 256 := b.toNat_lt
      have h1 : Nat.ble (codeB (b :: r)) 1 = false := by
        cases h : Nat.ble (codeB (b :: r)) 1 with
        | false => rfl
        | true => have := Nat.le_of_ble_eq_true h; simp only [codeB] at this; omega
      have e1 : codeB (b :: r) % 256 = b.toNat := by simp only [codeB]; omega
      have e2 : codeB (b :: r) / 256 = codeB r := by simp only [codeB]; omega
      simp only [decB, h1, e1, e2]
      rw [ih f (by simpa using hf)]
      simp
theorem decIs_code : ∀ (ks : List IntKind) (vs : List Value) (c : Int), codeIs ks vs = some c → decIs ks c = vs := by
  intro ks
  induction ks with
  | nil =>
    intro vs c h
    cases vs with
    | nil => rfl
    | cons _ _ => cases h
  | cons k ks ih =>
    intro vs c h
    cases vs with
    | nil => cases h
    | cons v vs =>
      cases v <;> (try (cases h; done))
      rename_i k' a
      simp only [codeIs] at h
      split at h
      · rename_i hk
        simp only [decide_eq_true_eq] at hk
        subst hk
        split at h
        · rename_i hw
          simp only [decide_eq_true_eq] at hw
          split at h
          · rename_i r hr
            cases h
            have h0 : 0 ≤ a % 18446744073709551616 := Int.emod_nonneg _ (by decide)
            have h1 : a % 18446744073709551616 < 18446744073709551616 := Int.emod_lt_of_pos _ (by decide)
            have e1 : (a % 18446744073709551616 + 18446744073709551616 * r) % 18446744073709551616 = a % 18446744073709551616 := by omega
            have e2 : (a % 18446744073709551616 + 18446744073709551616 * r) / 18446744073709551616 = r := by omega
            simp only [decIs, e1, e2, hw]
            rw [ih vs r hr]
          · cases h
        · cases h
      · cases h
theorem codeK_keyV {kc : KeyC} {v : Value} {c : Int} (h : codeK kc v = some c) : keyV kc c = v := by
  cases kc with
  | int k =>
    cases v <;> (try (cases h; done))
    simp only [codeK] at h
    split at h
    · rename_i hk
      simp only [decide_eq_true_eq] at hk
      subst hk
      cases h; rfl
    · cases h
  | str =>
    cases v <;> (try (cases h; done))
    rename_i b
    simp only [codeK, Option.some.injEq] at h
    subst h
    have hp := codeB_pos b.data.toList
    simp only [keyV, Int.toNat_natCast]
    rw [decB_code _ _ (by omega)]
  | ints ks =>
    cases v <;> (try (cases h; done))
    rename_i cs
    simp only [codeK] at h
    simp only [keyV]
    rw [decIs_code _ _ _ h]
theorem codeK_ok {kc : KeyC} {v : Value} {c : Int} (h : codeK kc v = some c) : okK kc c := by
  unfold okK
  rw [codeK_keyV h, h]
theorem keyV_inj {kc : KeyC} {a b : Int} (ha : okK kc a) (hb : okK kc b) (h : keyV kc a = keyV kc b) : a = b := by
  unfold okK at ha hb
  rw [h, hb] at ha
  exact (Option.some.inj ha).symm
abbrev Ents (V : Type) := List (Int × V × Nat)
def okKs {V : Type} (kc : KeyC) (m : Ents V) : Prop := ∀ q, q ∈ m → okK kc q.1
def encM (kc : KeyC) {V : Type} (enc : V → Value) (m : Ents V) : Array MapEntry := (m.map fun (k, v, b) => (⟨keyV kc k, enc v, b⟩ : MapEntry)).toArray
def mgetE {V : Type} (m : Ents V) (k : Int) : Option V := match m with | [] => none | (k', v, _) :: r => if k = k' then some v else mgetE r k
def msetE {V : Type} (m : Ents V) (k : Int) (v : V) (clk : Nat) : Ents V × Nat :=
  match m with
  | [] => ([(k, v, clk)], clk + 1)
  | (k', v', b) :: r => if k = k' then ((k', v, b) :: r, clk) else let q := msetE r k v clk; ((k', v', b) :: q.1, q.2)
@[reducible] def Lk.ty : Lk → Type
  | .leaf k => k.ty
  | .agg [] => Unit
  | .agg _ => Array Value
  | .arr _ => Array Value
def Lk.enc : (l : Lk) → l.ty → Value
  | .leaf k, x => k.enc x
  | .agg [], _ => .agg #[]
  | .agg (_ :: _), x => .agg x
  | .arr _, x => .agg x
def mget (kc : KeyC) (l : Lk) (r : Nat) (k : Int) (h : Mem) (K : Option l.ty → Prop) : Prop :=
  ∃ (m : Ents l.ty) (clk : Nat), h[r]? = some (.map (encM kc l.enc m) clk) ∧ okKs kc m ∧ K (mgetE m k)
def mset (kc : KeyC) (l : Lk) (r : Nat) (k : Int) (v : l.ty) (h : Mem) (K : Mem → Prop) : Prop :=
  ∃ (m : Ents l.ty) (clk : Nat), h[r]? = some (.map (encM kc l.enc m) clk) ∧ okKs kc m ∧ K (h.setIfInBounds r (.map (encM kc l.enc (msetE m k v clk).1) (msetE m k v clk).2))
def mdelE {V : Type} (m : Ents V) (k : Int) : Ents V := match m with | [] => [] | (k', v, b) :: r => if k = k' then r else (k', v, b) :: mdelE r k
def mdel (kc : KeyC) (l : Lk) (r : Nat) (k : Int) (h : Mem) (K : Mem → Prop) : Prop :=
  ∃ (m : Ents l.ty) (clk : Nat), h[r]? = some (.map (encM kc l.enc m) clk) ∧ okKs kc m ∧ K (h.setIfInBounds r (.map (encM kc l.enc (mdelE m k)) clk))
def mlen (r : Nat) (h : Mem) (K : Nat → Prop) : Prop := ∃ es clk, h[r]? = some (.map es clk) ∧ K es.size
def mclr (r : Nat) (h : Mem) (K : Mem → Prop) : Prop := ∃ es clk, h[r]? = some (.map es clk) ∧ K (h.setIfInBounds r (.map #[] clk))
/-- a range over a map begins -/
def rng (r : Nat) (h : Mem) (K : Nat → Mem → Prop) : Prop := ∃ es clk, h[r]? = some (.map es clk) ∧ al (.mapIter (some r) clk #[] clk) h K
/-- its next step; nothing was laid into the map since it began -/
def nxt (b : Nat) (h : Mem) (K0 : Mem → Prop) (K1 : Value → Value → Mem → Prop) : Prop :=
  ∃ (r since : Nat) (seen : Array Nat) (c0 : Nat) (es : Array MapEntry) (clk : Nat), h[b]? = some (.mapIter (some r) since seen c0) ∧ h[r]? = some (.map es clk) ∧ (∀ e, e ∈ es.toList → e.born < since) ∧ since ≤ c0 ∧
    (leftOf es seen = #[] → K0 h) ∧ ∀ e, e ∈ (leftOf es seen).toList → K1 e.key e.val (h.setIfInBounds b (.mapIter (some r) since (seen.push e.born) clk))
/-- the entry of the step -/
def ent (b : Nat) (h : Mem) (K : Value → Value → Prop) : Prop :=
  ∃ (r since : Nat) (seen : Array Nat) (es : Array MapEntry) (clk : Nat) (e : MapEntry), h[b]? = some (.mapIter (some r) since (seen.push e.born) clk) ∧ h[r]? = some (.map es clk) ∧ e ∈ es.toList ∧ (es.toList.map (·.born)).Nodup ∧ K e.key e.val
/-- append: in place where there is room, else into new memory of whatever capacity. -/
def app (t : TypeId) (zero : Array Value) (sz bytes : Nat) (s x : Sl) (h : Mem) (K : Sl → Mem → Prop) : Prop :=
  ∃ xs : List Value, slCells h x (x.len * sz) xs ∧ one xs ∧
    (s.len + x.len ≤ s.cap → match s.base with
      | some a => room h (a.add (s.len * sz)) xs.length ∧ K ⟨some a, s.len + x.len, s.cap⟩ (wrs h (a.add (s.len * sz)) 0 xs)
      | none => K ⟨none, s.len + x.len, s.cap⟩ h) ∧
    (s.cap < s.len + x.len → s.len + x.len ≤ 2 ^ 40 ∧ (s.len + x.len) * bytes ≤ 2 ^ 40 ∧ ∃ old : List Value, slCells h s (s.len * sz) old ∧
      ∀ c, s.len + x.len ≤ c → K ⟨some ⟨h.size, 0, none⟩, s.len + x.len, c⟩ (h.push (.cells (old.toArray ++ xs.toArray ++ Builtin.zeroCells zero (c - (s.len + x.len))) t)))
/-- append of make([]T, n)'s noughts -/
def app0 (t : TypeId) (zero : Array Value) (sz bytes : Nat) (s : Sl) (n : Int) (h : Mem) (K : Sl → Mem → Prop) : Prop :=
  0 ≤ n ∧ n.toNat * bytes ≤ 2 ^ 40 ∧ n ≤ 2 ^ 40 ∧ one (Builtin.zeroCells zero n.toNat).toList ∧ 0 < sz ∧
    (s.len + n.toNat ≤ s.cap → match s.base with
      | some a => room h (a.add (s.len * sz)) (Builtin.zeroCells zero n.toNat).size ∧ K ⟨some a, s.len + n.toNat, s.cap⟩ (wrs h (a.add (s.len * sz)) 0 (Builtin.zeroCells zero n.toNat).toList)
      | none => K ⟨none, s.len + n.toNat, s.cap⟩ h) ∧
    (s.cap < s.len + n.toNat → s.len + n.toNat ≤ 2 ^ 40 ∧ (s.len + n.toNat) * bytes ≤ 2 ^ 40 ∧ ∃ old : List Value, slCells h s (s.len * sz) old ∧
      ∀ c, s.len + n.toNat ≤ c → K ⟨some ⟨h.size, 0, none⟩, s.len + n.toNat, c⟩ (h.push (.cells (old.toArray ++ Builtin.zeroCells zero n.toNat ++ Builtin.zeroCells zero (c - (s.len + n.toNat))) t)))
/-- copy -/
def cpy (sz : Nat) (d x : Sl) (h : Mem) (K : Nat → Mem → Prop) : Prop :=
  ∃ xs : List Value, slCells h x (min x.len d.len * sz) xs ∧ one xs ∧
    match d.base with
    | some a => room h a xs.length ∧ K (min x.len d.len) (wrs h a 0 xs)
    | none => K (min x.len d.len) h
/-- clear of a slice -/
def clr (zero : Array Value) (s : Sl) (h : Mem) (K : Mem → Prop) : Prop :=
  match s.base with
  | some a => one (Builtin.zeroCells zero s.len).toList ∧ room h a (Builtin.zeroCells zero s.len).size ∧ K (wrs h a 0 (Builtin.zeroCells zero s.len).toList)
  | none => K h
def zeros (zero : Array Value) (n : Nat) : Array Value := (Array.range n).map (zero[· % zero.size]!)
def mks (t : TypeId) (zero : Array Value) (sz bytes : Nat) (n c : Int) (h : Mem) (K : Sl → Mem → Prop) : Prop :=
  0 ≤ n ∧ n ≤ c ∧ c ≤ 2 ^ 40 ∧ bytes * c ≤ 2 ^ 40 ∧ 0 < sz ∧ K ⟨some ⟨h.size, 0, none⟩, n.toNat, c.toNat⟩ (h.push (.cells (zeros zero (c.toNat * sz)) t))
def mnI (x y : Int) : Int := if y < x then y else x
def mxI (x y : Int) : Int := if y > x then y else x
end Go.TS
