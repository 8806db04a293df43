/- The layer 'XS': a faster form of the same program: what does not hang on the run is worked out once. -/
import Derived.Test.YtmcpegdmnogkbaaGreatDoorXsTab
set_option linter.unusedSimpArgs false
set_option linter.unusedVariables false
namespace Go.XS
open Go Go.TS
noncomputable section
set_option linter.unusedVariables false
abbrev Q := Option (AV × Am)
abbrev KA := AV → Q
abbrev KM := AV → Am → Q
-- values taken apart
def kInt (v : AV) : (IntKind → Int → Q) → Q → Q := AV.rec (motive_1 := fun _ => (IntKind → Int → Q) → Q → Q) (motive_2 := fun _ => Unit) (fun k n K _ => K k n) (fun _ _ D => D) (fun _ _ D => D) (fun _ _ D => D) (fun _ _ D => D) (fun _ _ D => D) (fun _ _ _ _ _ _ D => D) (fun _ _ D => D) (fun _ D => D) (fun _ _ _ D => D) (fun _ _ _ D => D) (fun _ _ _ D => D) (fun _ _ _ _ D => D) (fun _ D => D) () (fun _ _ _ _ => ()) v
def kBool (v : AV) : (Bool → Q) → Q → Q := AV.rec (motive_1 := fun _ => (Bool → Q) → Q → Q) (motive_2 := fun _ => Unit) (fun _ _ _ D => D) (fun b K _ => K b) (fun _ _ D => D) (fun _ _ D => D) (fun _ _ D => D) (fun _ _ D => D) (fun _ _ _ _ _ _ D => D) (fun _ _ D => D) (fun _ D => D) (fun _ _ _ D => D) (fun _ _ _ D => D) (fun _ _ _ D => D) (fun _ _ _ _ D => D) (fun _ D => D) () (fun _ _ _ _ => ()) v
def kPtr (v : AV) : (Option Ad → Q) → Q → Q := AV.rec (motive_1 := fun _ => (Option Ad → Q) → Q → Q) (motive_2 := fun _ => Unit) (fun _ _ _ D => D) (fun _ _ D => D) (fun p K _ => K p) (fun _ _ D => D) (fun _ _ D => D) (fun _ _ D => D) (fun _ _ _ _ _ _ D => D) (fun _ _ D => D) (fun _ D => D) (fun _ _ _ D => D) (fun _ _ _ D => D) (fun _ _ _ D => D) (fun _ _ _ _ D => D) (fun _ D => D) () (fun _ _ _ _ => ()) v
def kSl (v : AV) : (As → Q) → Q → Q := AV.rec (motive_1 := fun _ => (As → Q) → Q → Q) (motive_2 := fun _ => Unit) (fun _ _ _ D => D) (fun _ _ D => D) (fun _ _ D => D) (fun s K _ => K s) (fun _ _ D => D) (fun _ _ D => D) (fun _ _ _ _ _ _ D => D) (fun _ _ D => D) (fun _ D => D) (fun _ _ _ D => D) (fun _ _ _ D => D) (fun _ _ _ D => D) (fun _ _ _ _ D => D) (fun _ D => D) () (fun _ _ _ _ => ()) v
def kTup (v : AV) : (List AV → Q) → Q → Q := AV.rec (motive_1 := fun _ => (List AV → Q) → Q → Q) (motive_2 := fun _ => Unit) (fun _ _ _ D => D) (fun _ _ D => D) (fun _ _ D => D) (fun _ _ D => D) (fun _ _ D => D) (fun _ _ D => D) (fun _ _ _ _ _ _ D => D) (fun _ _ D => D) (fun _ D => D) (fun _ _ _ D => D) (fun _ _ _ D => D) (fun l _ K _ => K l) (fun _ _ _ _ D => D) (fun _ D => D) () (fun _ _ _ _ => ()) v
def kOp (o : Option AV) (K : KA) : Q := Option.rec (motive := fun _ => Q) none K o
def kOa (o : Option Ad) (K : Ad → Q) : Q := Option.rec (motive := fun _ => Q) none K o
def bB (b : Bool) (A B : Q) : Q := Bool.rec (motive := fun _ => Q) B A b
def kN (n : Nat) (K : Nat → Q) : Q := Nat.rec (motive := fun _ => Q) (K 0) (fun m _ => K (Nat.succ m)) n
def kIn (n : Int) (K : Int → Q) : Q := Int.rec (motive := fun _ => Q) (fun m => kN m fun m => K (.ofNat m)) (fun m => kN m fun m => K (.negSucc m)) n
def kNat (n : Int) (K : Nat → Q) : Q := Int.rec (motive := fun _ => Q) K (fun _ => none) n
-- memory
def kCs (c : Cs) (A : List AV → Q) (B : Nat → Nat → Q) : Q := Cs.rec (motive := fun _ => Q) A B c
def kCells (h : Am) (b : P) (K : Cs → Q) : Q := Option.rec (motive := fun _ => Q) none (fun o => AO.rec (motive := fun _ => Q) K (fun _ _ _ => none) (fun _ => none) none o) (PT.get h.t b)
def fSt (a : Ad) (v : AV) (h : Am) (K : Am → Q) : Q := kCells h a.b fun c => kCs c (fun xs => bB (oneA v) (bB (Nat.blt a.o (lenL xs)) (K (h.put a.b (.cells (.l (setL xs a.o v))))) none) none) (fun _ _ => st a v h K)
def ikT (a b c d e f g h : Bool) (k : IntKind) : Bool := IntKind.rec (motive := fun _ => Bool) a b c d e f g h k
def ikF (k k' : IntKind) : Bool := IntKind.rec (motive := fun _ => IntKind → Bool) (ikT true false false false false false false false) (ikT false true false false false false false false) (ikT false false true false false false false false) (ikT false false false true false false false false) (ikT false false false false true false false false) (ikT false false false false false true false false) (ikT false false false false false false true false) (ikT false false false false false false false true) k k'
/-- is the value of the kind? -/
structure XK where
  run : AV → KA → Q
def kdS (k : Kind) : XK := match k with
  | .int k => ⟨fun v K => kInt v (fun k' n => bB (ikF k k') (K (.int k n)) none) none⟩
  | .bool => ⟨fun v K => kBool v (fun b => K (.bool b)) none⟩
  | .ptr => ⟨fun v K => kPtr v (fun p => K (.ptr p)) none⟩
  | .sl => ⟨fun v K => kSl v (fun s => K (.sl s)) none⟩
  | .any => ⟨fun v K => K v⟩
  | k => ⟨fun v K => match adec k v with
    | some x => K (aenc k x)
    | none => none⟩
-- operands
structure XO where
  run : AE → KA → Q
def opS (x : Operand) : XO := match x with
  | .tmp t => match Nat.blt t 512 with
    | true => ⟨fun e K => kOp (N1.get (o8 (Nat.mod t 8)) (N2.get (o8 (Nat.mod (Nat.div t 8) 8)) (N3.get (o8 (Nat.div t 64)) e.lo))) K⟩
    | false => ⟨fun e K => kOp (eget e t) K⟩
  | .const v => match ofV v with
    | some a => ⟨fun _ K => K a⟩
    | none => ⟨fun _ _ => none⟩
  | .global _ => ⟨fun _ _ => none⟩
  | .func f => ⟨fun _ K => K (.fn (.func f) [] [])⟩
structure XD where
  run : AE → AV → (AE → Q) → Q
def dstS (d : Option Tmp) : XD := match d with
  | none => ⟨fun e _ K => K e⟩
  | some t => match Nat.blt t 512 with
    | true => ⟨fun e v K => K ⟨N3.upd (o8 (Nat.div t 64)) (N2.upd (o8 (Nat.mod (Nat.div t 8) 8)) (N1.upd (o8 (Nat.mod t 8)) (fun _ => some v))) e.lo, e.hi⟩⟩
    | false => ⟨fun e v K => K (eput e t v)⟩
-- operations
structure SO where
  run : AE → Am → KA → Q
structure XL where
  run : Ad → Am → KA → Q
def ldS (l : Lk) : XL := match l with
  | .leaf .any => ⟨fun a h K => ldT (.leaf .any) a h K⟩
  | .leaf k => ⟨fun a h K => kCells h a.b fun c => kCs c (fun xs => kOp (nth xs a.o) fun v => (kdS k).run v K) (fun n len => bB (Nat.blt a.o len) ((kdS k).run (.int .u8 (Int.ofNat (dig n a.o))) K) none)⟩
  | l => ⟨fun a h K => ldT l a h K⟩
structure XB where
  run : IntKind → IntKind → Int → Int → KA → Q
def binS (op : BinOp) : XB := match op with
  | .add => ⟨fun k k' a b K => bB (ikF k k') (kIn (wrapA k (addI a b)) fun n => K (.int k n)) none⟩
  | .sub => ⟨fun k k' a b K => bB (ikF k k') (kIn (wrapA k (subI a b)) fun n => K (.int k n)) none⟩
  | .mul => ⟨fun k k' a b K => bB (ikF k k') (kIn (wrapA k (mulI a b)) fun n => K (.int k n)) none⟩
  | .eql => ⟨fun k k' a b K => bB (ikF k k') (K (.bool (iEq a b))) none⟩
  | .neq => ⟨fun k k' a b K => bB (ikF k k') (K (.bool (ntB (iEq a b)))) none⟩
  | .lss => ⟨fun k k' a b K => bB (ikF k k') (K (.bool (ltI a b))) none⟩
  | .leq => ⟨fun k k' a b K => bB (ikF k k') (K (.bool (leI a b))) none⟩
  | .gtr => ⟨fun k k' a b K => bB (ikF k k') (K (.bool (ltI b a))) none⟩
  | .geq => ⟨fun k k' a b K => bB (ikF k k') (K (.bool (leI b a))) none⟩
  | op => ⟨fun k k' a b K => shI op k a b K (bB (ikF k k') (binI op k a b K) none)⟩
def fIx (s : As) (i : Int) (sz : Nat) (K : Ad → Q) : Q := kOa s.base fun a => kNat i fun n => bB (Nat.blt n s.len) (kN (Nat.add a.o (Nat.mul n sz)) fun o => K ⟨a.b, o⟩) none
def nilD (tys : Tys) (p : AV) (K : KA) : Q := match p with
  | .fn f first _ => sNilM tys f first p K
  | _ => none
def stillS (tys : Tys) (op : Op) : SO := match op with
  | .move x => ⟨fun e _ K => (opS x).run e K⟩
  | .assign x => ⟨fun e _ K => (opS x).run e K⟩
  | .load t x => match tyOf tys t with
    | some ti => ⟨fun e h K => (opS x).run e fun p => kPtr p (fun p => kOa p fun a => (ldS ti.lk).run a h K) none⟩
    | none => ⟨fun _ _ _ => none⟩
  | .binOp op t x y _ => ⟨fun e _ K => (opS x).run e fun a => (opS y).run e fun b => kInt a (fun k m => kInt b (fun k' n => (binS op).run k k' m n K) none) (bin tys op t a b K)⟩
  | .fieldAddr t x f => match fldOff tys t f with
    | some q => match q.2.size with
      | 0 => ⟨fun _ _ _ => none⟩
      | _ + 1 => ⟨fun e _ K => (opS x).run e fun p => kPtr p (fun p => kOa p fun a => kN (Nat.add a.o q.1) fun o => K (.ptr (some ⟨a.b, o⟩))) none⟩
    | none => ⟨fun _ _ _ => none⟩
  | .indexAddr t x i => match tyOf tys t with
    | some ti => match ti.desc with
      | .slice el => match tyOf tys el with
        | some te => ⟨fun e _ K => (opS x).run e fun x => (opS i).run e fun i => kInt i (fun _ i => kSl x (fun s => fIx s i te.size fun a => K (.ptr (some a))) none) none⟩
        | none => ⟨fun _ _ _ => none⟩
      | _ => ⟨fun e _ K => sIndexAddr tys e t x i K⟩
    | none => ⟨fun _ _ _ => none⟩
  | .extract x i => ⟨fun e _ K => (opS x).run e fun x => kTup x (fun vs => kOp (nth vs i) K) none⟩
  | .nilCheck x => ⟨fun e _ K => (opS x).run e fun p => kPtr p (fun p => kOa p fun a => K (.ptr (some a))) (nilD tys p K)⟩
  | .call ⟨.builtin .len, args, ts⟩ => match args.toList, ts.toList with
    | [x], t :: _ => match tyOf tys t with
      | some ti => match ti.desc with
        | .slice _ => ⟨fun e _ K => (opS x).run e fun x => kSl x (fun s => K (.int .i64 (Int.ofNat s.len))) none⟩
        | _ => ⟨fun e h K => still tys e h (.call ⟨.builtin .len, args, ts⟩) K⟩
      | none => ⟨fun _ _ _ => none⟩
    | _, _ => ⟨fun _ _ _ => none⟩
  | .pick c a b => ⟨fun e _ K => sPick e c a b K⟩
  | .build t ps => ⟨fun e _ K => sBuild tys e t ps K⟩
  | .unOp op _ x => ⟨fun e _ K => sUn e op x K⟩
  | .convert src dst x => match tyOf tys src with
    | some s => match tyOf tys dst with
      | some d => match d.desc with
        | .int k => ⟨fun e _ K => (opS x).run e fun a => kInt a (fun _ n => kIn (wrapA k n) fun n => K (.int k n)) none⟩
        | _ => ⟨fun e h K => sConv tys e h src dst x K⟩
      | none => ⟨fun _ _ _ => none⟩
    | none => ⟨fun _ _ _ => none⟩
  | .slice t x lo hi mx => ⟨fun e _ K => sSlice tys e t x lo hi mx K⟩
  | .field t x f => ⟨fun e _ K => sField tys e t x f K⟩
  | .index t x i => ⟨fun e _ K => sIndex tys e t x i K⟩
  | .lookup t x k ok => ⟨fun e h K => sLookup tys e h t x k ok K⟩
  | .sliceToArrayPointer t x => ⟨fun e _ K => sToArr tys e t x K⟩
  | .makeFunc fn first cap => ⟨fun e _ K => sMakeFunc e fn first cap K⟩
  | op => ⟨fun e h K => still tys e h op K⟩
structure EO where
  run : CF → AE → Am → KM → Q
structure XLs where
  run : AE → (List AV → Q) → Q
def evS (l : List Operand) : XLs := List.rec (motive := fun _ => XLs) ⟨fun _ K => K []⟩ (fun x _ ih => ⟨fun e K => (opS x).run e fun v => ih.run e fun vs => K (v :: vs)⟩) l
def kQ (q : Q) (K : KM) : Q := Option.rec (motive := fun _ => Q) none (fun q => K q.1 q.2) q
def effS (tys : Tys) (op : Op) : EO := match op with
  | .store t p x => match tyOf tys t with
    | some ti => match ti.lk with
      | .leaf _ => ⟨fun _ e h K => (opS p).run e fun p => (opS x).run e fun x => kPtr p (fun p => kOa p fun a => fSt a x h fun h => K undefA h) none⟩
      | _ => ⟨fun _ e h K => eStore tys e t p x h K⟩
    | none => ⟨fun _ _ _ _ => none⟩
  | .alloc t => match tyOf tys t with
    | some ti => match zcOf tys ti with
      | some c => ⟨fun _ _ h K => al (.cells c) h fun b h => K (.ptr (some ⟨b, 0⟩)) h⟩
      | none => ⟨fun _ _ _ _ => none⟩
    | none => ⟨fun _ _ _ _ => none⟩
  | .call ⟨.value (.func f), args, _⟩ => ⟨fun cf e h K => (evS args.toList).run e fun vs => kQ (cf.fn f (catL [] (catL vs []))  h) K⟩
  | .call ⟨.builtin b, args, ts⟩ => ⟨fun _ e h K => (evS args.toList).run e fun vs => eCallB tys b vs ts.toList h K⟩
  | .box _ x => ⟨fun _ e h K => eBox e x h K⟩
  | .buildSlice t n ps => ⟨fun _ e h K => eBuildSlice tys e t n ps h K⟩
  | .makeSlice t l c => ⟨fun _ e h K => eMakeSlice tys e t l c h K⟩
  | .makeMap t none => ⟨fun _ _ h K => eMakeMap tys t h K⟩
  | .mapUpdate t m k v => ⟨fun _ e h K => eMapUpdate tys e t m k v h K⟩
  | .convert src dst x => ⟨fun _ e h K => eFrz tys e src dst x h K⟩
  | op => ⟨fun cf e h K => eff tys cf e h op K⟩
abbrev RgQ := AE → List ADef → Am → Q
structure RO where
  run : CF → AE → List ADef → Am → RgQ → Q
def doS2 (tys : Tys) (o : Oper) (op : Op) : RO := match isStill op && !isFreeze tys op with
  | true => ⟨fun _ e ds h K => (stillS tys op).run e h fun v => (dstS o.dst).run e v fun e => K e ds h⟩
  | false => ⟨fun cf e ds h K => (effS tys op).run cf e h fun v h => (dstS o.dst).run e v fun e => K e ds h⟩
def doS (tys : Tys) (o : Oper) : RO := match o.op with
  | .defer _ => ⟨fun cf e ds h K => doOp tys cf o e ds h K⟩
  | op => doS2 tys o op
def grdS (tys : Tys) (ops : List Oper) (o : Oper) : RO := match o.guard with
  | none => doS tys o
  | some _ => ⟨fun cf e ds h K => grd ops o e fun w => bB w ((doS tys o).run cf e ds h K) (K (bindE o.dst undefA e) ds h)⟩
def denS (tys : Tys) (all : List Oper) (l : List Oper) : RO := List.rec (motive := fun _ => RO) ⟨fun _ e ds h K => K e ds h⟩ (fun o _ ih => ⟨fun cf e ds h K => (grdS tys all o).run cf e ds h fun e ds h => ih.run cf e ds h K⟩) l
structure XC where
  run : CF → D (AV × Am)
def regS (tys : Tys) (ops : Array Oper) (draw : Bool) : XC := match draw with
  | false => ⟨fun cf e ds h N _ _ => (denS tys ops.toList ops.toList).run cf e ds h N⟩
  | true => match ordOf tys (Region.before ops).toList ops.toList with
    | some l => ⟨fun cf e ds h N _ _ => denI tys cf ops.toList l e ds h N⟩
    | none => ⟨fun cf e ds h N _ _ => denJ tys cf (Region.before ops).toList ops.toList e ds h N⟩
def denC (tys : Tys) (c : Code) : XC :=
  Code.rec (motive := fun _ => XC)
    ⟨fun _ e ds h N _ _ => N e ds h⟩
    (fun _ ops draw => regS tys ops draw)
    (fun _ _ a b => ⟨fun cf e ds h N X R => a.run cf e ds h (fun e ds h => b.run cf e ds h N X R) X R⟩)
    (fun c _ _ a b => ⟨fun cf e ds h N X R => (opS c).run e fun v => kBool v (fun w => bB w (a.run cf e ds h N X R) (b.run cf e ds h N X R)) none⟩)
    (fun id _ b => ⟨fun cf => dBlock id (b.run cf)⟩)
    (fun b d => match noDefer b with
      | true => ⟨fun cf e ds h N X R => LoopP (σ := AE) (fun next e h => d.run cf e ds h (fun e' _ h' => next e' h') X R) e h⟩
      | false => ⟨fun _ _ _ _ _ _ _ => none⟩)
    (fun g ps _ _ a b => ⟨fun cf => dRange cf g ps (a.run cf) (b.run cf)⟩)
    (fun i => ⟨fun _ e ds h _ X _ => X i e ds h⟩)
    (fun _ b => b)
    (fun _ => ⟨fun _ e ds h N _ _ => N e ds h⟩)
    (fun _ => ⟨fun _ _ _ _ _ _ _ => none⟩)
    ⟨fun _ e ds h _ _ R => R e ds h⟩
    (fun _ => ⟨fun _ _ _ _ _ _ _ => none⟩) c
structure XP where
  run : CF → (Nat → XCall) → List AV → Am → Q
def finS (tys : Tys) (rs : List ResultVar) (dcf : Nat → XCall) (e : AE) (ds : List ADef) (h : Am) : Q := fin tys dcf rs e (fun v h => some (v, h)) ds h
def runS (tys : Tys) (o : Option FI) : XP := match o with
  | some (.code c rs m) => ⟨fun cf dcf args h => bB (Nat.ble (lenL args) m) ((denC tys c).run cf (argsE args 0) [] h (finS tys rs dcf) (fun _ _ _ _ => none) (finS tys rs dcf)) none⟩
  | some (.intr i) => ⟨fun _ _ args h => i args h⟩
  | none => ⟨fun _ _ _ _ => none⟩
def XFS (tys : Tys) (fns : Nat → Option FI) (n : Nat) : (P → Option XCall) → Nat → XCall :=
  Nat.rec (motive := fun _ => (P → Option XCall) → Nat → XCall) (fun _ _ _ _ => none) (fun _ ih Y f args h => (runS tys (fns f)).run ⟨ih Y, itOf fns ih, Y⟩ (fun f => runFD tys ⟨ih noY, itOf fns ih, noY⟩ (fns f)) args h) n
end
end Go.XS
