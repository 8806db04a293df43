/- The layer 'XS': the faster form does the same. -/
import Derived.Test.YtmcpegdmnogkbaaGreatDoorXsFast
import Derived.Test.YtmcpegdmnogkbaaGreatDoorXsClosed
import Derived.Test.YtmcpegdmnogkbaaGreatDoorXsMemo
set_option linter.unusedSimpArgs false
set_option linter.unusedVariables false
namespace Go.XS
open Go Go.TS
theorem kInt_eq (v : AV) (K : IntKind → Int → Q) (D : Q) : kInt v K D = match v with | .int k n => K k n | _ => D := by cases v <;> rfl
theorem kBool_eq (v : AV) (K : Bool → Q) (D : Q) : kBool v K D = match v with | .bool b => K b | _ => D := by cases v <;> rfl
theorem kPtr_eq (v : AV) (K : Option Ad → Q) (D : Q) : kPtr v K D = match v with | .ptr p => K p | _ => D := by cases v <;> rfl
theorem kSl_eq (v : AV) (K : As → Q) (D : Q) : kSl v K D = match v with | .sl s => K s | _ => D := by cases v <;> rfl
theorem kTup_eq (v : AV) (K : List AV → Q) (D : Q) : kTup v K D = match v with | .tup l => K l | _ => D := by cases v <;> rfl
theorem bB_eq (b : Bool) (A B : Q) : bB b A B = match b with | true => A | false => B := by cases b <;> rfl
theorem kN_eq (n : Nat) (K : Nat → Q) : kN n K = K n := by cases n <;> rfl
theorem kIn_eq (n : Int) (K : Int → Q) : kIn n K = K n := by
  cases n with
  | ofNat m => exact kN_eq m fun m => K (.ofNat m)
  | negSucc m => exact kN_eq m fun m => K (.negSucc m)
theorem ikF_eq (k k' : IntKind) : ikF k k' = ikEq k k' := by cases k <;> cases k' <;> rfl
theorem kCells_eq (h : Am) (b : P) (K : Cs → Q) : kCells h b K = cellsOf h b K := by
  unfold kCells cellsOf Am.get
  cases PT.get h.t b with
  | none => rfl
  | some o => cases o <;> rfl
theorem kdS_eq (k : Kind) (v : AV) (K : KA) : (kdS k).run v K = match adec k v with | some x => K (aenc k x) | none => none := by
  cases k with
  | int k =>
    show kInt v _ _ = _
    rw [kInt_eq]
    cases v <;> first | rfl | skip
    rename_i k' n
    simp only [ikF_eq, adec, bB_eq]
    cases ikEq k k' <;> rfl
  | bool => show kBool v _ _ = _; cases v <;> rfl
  | ptr => show kPtr v _ _ = _; cases v <;> rfl
  | sl => show kSl v _ _ = _; cases v <;> rfl
  | any => rfl
  | str => rfl
  | map => rfl
theorem opS_eq (x : Operand) (e : AE) (K : KA) : (opS x).run e K = withV e x K := by
  cases x with
  | tmp t =>
    unfold opS withV ev
    simp only []
    cases h : Nat.blt t 512 with
    | true =>
      have he : eget e t = N1.get (o8 (Nat.mod t 8)) (N2.get (o8 (Nat.mod (Nat.div t 8) 8)) (N3.get (o8 (Nat.div t 64)) e.lo)) := by unfold eget; rw [h]; rfl
      rw [he]
      simp only [kOp]
      cases N1.get (o8 (Nat.mod t 8)) (N2.get (o8 (Nat.mod (Nat.div t 8) 8)) (N3.get (o8 (Nat.div t 64)) e.lo)) <;> rfl
    | false => simp only [kOp]; cases eget e t <;> rfl
  | const v => unfold opS withV ev; simp only []; cases ofV v <;> rfl
  | global g => rfl
  | func f => rfl
theorem dstS_eq (d : Option Tmp) (e : AE) (v : AV) (K : AE → Q) : (dstS d).run e v K = K (bindE d v e) := by
  cases d with
  | none => rfl
  | some t =>
    unfold dstS bindE eput
    simp only []
    cases Nat.blt t 512 <;> rfl
theorem kOp_eq (o : Option AV) (K : KA) : kOp o K = match o with | some v => K v | none => none := by cases o <;> rfl
theorem kOa_eq (o : Option Ad) (K : Ad → Q) : kOa o K = match o with | some v => K v | none => none := by cases o <;> rfl
theorem ldS_eq (l : Lk) (a : Ad) (h : Am) (K : KA) : (ldS l).run a h K = ldT l a h K := by
  cases l with
  | leaf k =>
    by_cases hk : k = .any
    · subst hk; rfl
    have e1 : ldT (.leaf k) a h K = ld k a h fun x => K (aenc k x) := by cases k <;> first | rfl | exact absurd rfl hk
    have e2 : (ldS (.leaf k)).run a h K = kCells h a.b fun c => kCs c (fun xs => kOp (nth xs a.o) fun v => (kdS k).run v K) (fun n len => bB (Nat.blt a.o len) ((kdS k).run (.int .u8 (Int.ofNat (dig n a.o))) K) none) := by cases k <;> first | rfl | exact absurd rfl hk
    rw [e1, e2, kCells_eq]
    unfold ld
    congr 1
    funext c
    cases c with
    | l xs =>
      show kOp (nth xs a.o) _ = _
      rw [kOp_eq]
      show _ = match nth xs a.o with | some v => _ | none => none
      cases nth xs a.o with
      | none => rfl
      | some v => exact kdS_eq k v K
    | b n len =>
      show bB (Nat.blt a.o len) _ _ = _
      rw [bB_eq]
      show _ = match (match Nat.blt a.o len with | true => some (AV.int .u8 (Int.ofNat (dig n a.o))) | false => none) with | some v => _ | none => none
      cases Nat.blt a.o len with
      | false => rfl
      | true => exact kdS_eq k _ K
  | agg ks => rfl
  | arr n => rfl
theorem fSt_eq (a : Ad) (v : AV) (h : Am) (K : Am → Q) : fSt a v h K = st a v h K := by
  unfold fSt
  rw [kCells_eq]
  unfold cellsOf st
  unfold cellsOf
  cases h.get a.b with
  | none => rfl
  | some o =>
    cases o with
    | cells c =>
      cases c with
      | l xs =>
        show bB (oneA v) _ _ = _
        rw [bB_eq]
        show _ = match (match oneA v with | true => (match Nat.blt a.o (lenL xs) with | true => some (Cs.l (setL xs a.o v)) | false => none) | false => none) with | some d => K (h.put a.b (.cells d)) | none => none
        cases oneA v with
        | false => rfl
        | true => simp only [bB_eq]; cases Nat.blt a.o (lenL xs) <;> rfl
      | b n len => rfl
    | _ => rfl
theorem binS_eq (op : BinOp) (k k' : IntKind) (a b : Int) (K : KA) : (binS op).run k k' a b K = shI op k a b K (match ikEq k k' with | true => binI op k a b K | false => none) := by
  cases op
  case shl => simp only [binS, shI, bB_eq, ikF_eq]
  case shr => simp only [binS, shI, bB_eq, ikF_eq]
  case add =>
    show bB (ikF k k') _ _ = _
    rw [bB_eq, ikF_eq, kIn_eq]
    simp only [shI]
    cases ikEq k k' with
    | false => rfl
    | true => exact (sI_eq (wrapA k (addI a b)) fun n => K (.int k n)).symm
  case sub =>
    show bB (ikF k k') _ _ = _
    rw [bB_eq, ikF_eq, kIn_eq]
    simp only [shI]
    cases ikEq k k' with
    | false => rfl
    | true => exact (sI_eq (wrapA k (subI a b)) fun n => K (.int k n)).symm
  case mul =>
    show bB (ikF k k') _ _ = _
    rw [bB_eq, ikF_eq, kIn_eq]
    simp only [shI]
    cases ikEq k k' with
    | false => rfl
    | true => exact (sI_eq (wrapA k (mulI a b)) fun n => K (.int k n)).symm
  all_goals (show bB (ikF k k') _ _ = _; rw [bB_eq, ikF_eq]; rfl)
theorem fIx_eq (s : As) (i : Int) (sz : Nat) (K : Ad → Q) : fIx s i sz K = ixS s i sz K := by
  unfold fIx ixS
  rw [kOa_eq]
  cases s.base with
  | none => rfl
  | some a =>
    cases i with
    | ofNat n =>
      show bB (Nat.blt n s.len) _ _ = _
      rw [bB_eq]
      simp only [kN_eq, sN_eq]
      cases Nat.blt n s.len <;> rfl
    | negSucc n => rfl
theorem withV_none (e : AE) (x : Operand) : withV (ρ := AV × Am) e x (fun _ => none) = none := by unfold withV; cases ev e x <;> rfl
theorem opS_fun (x : Operand) (e : AE) : (opS x).run e = withV e x := funext fun K => opS_eq x e K
theorem still_load (tys : Tys) (t : TypeId) (x : Operand) (e : AE) (h : Am) (K : KA) : (stillS tys (.load t x)).run e h K = still tys e h (.load t x) K := by
  show _ = sLoad tys e h t x K
  unfold stillS sLoad
  simp only []
  cases tyOf tys t with
  | none =>
    show none = withV e x _
    unfold withV
    cases ev e x with
    | none => rfl
    | some p => cases p <;> first | rfl | skip
                rename_i p; cases p <;> rfl
  | some ti =>
    show (opS x).run e _ = _
    rw [opS_eq]
    congr 1
    funext p
    rw [kPtr_eq]
    cases p <;> first | rfl | skip
    rename_i p
    cases p with
    | none => rfl
    | some a => exact ldS_eq _ _ _ _
theorem still_bin (tys : Tys) (op : BinOp) (t u : TypeId) (x y : Operand) (e : AE) (h : Am) (K : KA) : (stillS tys (.binOp op t x y u)).run e h K = still tys e h (.binOp op t x y u) K := by
  show (opS x).run e _ = withV e x _
  rw [opS_eq]
  congr 1
  funext a
  show (opS y).run e _ = withV e y _
  rw [opS_eq]
  congr 1
  funext b
  rw [kInt_eq]
  cases a <;> first | rfl | skip
  rename_i k m
  show kInt b _ _ = _
  rw [kInt_eq]
  cases b <;> first | rfl | skip
  rename_i k' n
  exact binS_eq op k k' m n K
theorem still_fa (tys : Tys) (t : TypeId) (x : Operand) (f : Nat) (e : AE) (h : Am) (K : KA) : (stillS tys (.fieldAddr t x f)).run e h K = still tys e h (.fieldAddr t x f) K := by
  show _ = sFieldAddr tys e t x f K
  unfold stillS sFieldAddr
  simp only []
  cases fldOff tys t f with
  | none =>
    show none = withV e x _
    unfold withV
    cases ev e x with
    | none => rfl
    | some p => cases p <;> first | rfl | skip
                rename_i p; cases p <;> rfl
  | some q =>
    simp only []
    cases q.2.size with
    | zero =>
      show none = withV e x _
      unfold withV
      cases ev e x with
      | none => rfl
      | some p => cases p <;> first | rfl | skip
                  rename_i p; cases p <;> rfl
    | succ m =>
      show (opS x).run e _ = _
      rw [opS_eq]
      congr 1
      funext p
      rw [kPtr_eq]
      cases p <;> first | rfl | skip
      rename_i p
      cases p with
      | none => rfl
      | some a =>
        exact (kN_eq (Nat.add a.o q.1) fun o => K (.ptr (some ⟨a.b, o⟩))).trans (sN_eq (Nat.add a.o q.1) fun o => K (.ptr (some ⟨a.b, o⟩))).symm
theorem withV_nn {e : AE} {x : Operand} {f : AV → Q} (h : ∀ v, f v = none) : withV e x f = none := by unfold withV; cases ev e x <;> first | rfl | exact h _
theorem still_ia (tys : Tys) (t : TypeId) (x i : Operand) (e : AE) (h : Am) (K : KA) : (stillS tys (.indexAddr t x i)).run e h K = still tys e h (.indexAddr t x i) K := by
  show _ = sIndexAddr tys e t x i K
  unfold stillS
  simp only []
  cases ht : tyOf tys t with
  | none =>
    unfold sIndexAddr
    rw [ht]
    exact (withV_nn fun v => withV_nn fun w => by cases w <;> rfl).symm
  | some ti =>
    obtain ⟨d, z, sz, bs, lk⟩ := ti
    cases d with
    | slice el =>
      simp only []
      cases he : tyOf tys el with
      | none =>
        unfold sIndexAddr
        rw [ht]
        simp only [he]
        exact (withV_nn fun v => withV_nn fun w => by cases w <;> rfl).symm
      | some te =>
        show (opS x).run e _ = _
        unfold sIndexAddr
        rw [opS_eq, ht]
        congr 1
        funext p
        show (opS i).run e _ = _
        rw [opS_eq]
        congr 1
        funext w
        rw [kInt_eq]
        cases w <;> first | rfl | skip
        rename_i k n
        show kSl p _ _ = _
        rw [kSl_eq]
        simp only [he]
        cases p <;> first | rfl | skip
        exact fIx_eq _ _ _ _
    | _ => rfl
theorem still_ext (tys : Tys) (x : Operand) (i : Nat) (e : AE) (h : Am) (K : KA) : (stillS tys (.extract x i)).run e h K = still tys e h (.extract x i) K := by
  show (opS x).run e _ = withV e x _
  rw [opS_eq]
  congr 1
  funext v
  rw [kTup_eq]
  cases v <;> first | rfl | skip
  exact kOp_eq _ _
theorem still_nil (tys : Tys) (x : Operand) (e : AE) (h : Am) (K : KA) : (stillS tys (.nilCheck x)).run e h K = still tys e h (.nilCheck x) K := by
  show (opS x).run e _ = withV e x _
  rw [opS_eq]
  congr 1
  funext v
  rw [kPtr_eq]
  cases v <;> first | rfl | skip
  rename_i p
  cases p <;> rfl
theorem still_conv (tys : Tys) (s d : TypeId) (x : Operand) (e : AE) (h : Am) (K : KA) : (stillS tys (.convert s d x)).run e h K = still tys e h (.convert s d x) K := by
  show _ = sConv tys e h s d x K
  unfold stillS
  simp only []
  cases hs : tyOf tys s with
  | none =>
    unfold sConv
    rw [hs]
    exact (withV_nn fun v => rfl).symm
  | some si =>
    simp only []
    cases hd : tyOf tys d with
    | none =>
      unfold sConv
      rw [hs]
      simp only [hd]
      exact (withV_nn fun v => rfl).symm
    | some di =>
      obtain ⟨dd, z, sz, bs, lk⟩ := di
      cases dd with
      | int k =>
        show (opS x).run e _ = _
        unfold sConv
        rw [opS_eq, hs]
        simp only [hd]
        congr 1
        funext v
        rw [kInt_eq]
        cases v <;> first | rfl | skip
        rename_i k' n
        exact (kIn_eq (wrapA k n) fun n => K (.int k n)).trans (sI_eq (wrapA k n) fun n => K (.int k n)).symm
      | _ => rfl
theorem still_len (tys : Tys) (ags : Array Operand) (ts : Array TypeId) (e : AE) (h : Am) (K : KA) : (stillS tys (.call ⟨.builtin .len, ags, ts⟩)).run e h K = still tys e h (.call ⟨.builtin .len, ags, ts⟩) K := by
  show _ = sLen tys e h ags.toList ts.toList K
  unfold stillS
  simp only []
  obtain ⟨la⟩ := ags
  obtain ⟨lt⟩ := ts
  simp only []
  cases la with
  | nil => rfl
  | cons x la =>
    cases la with
    | cons _ _ => rfl
    | nil =>
      cases lt with
      | nil => exact (withV_nn fun v => rfl).symm
      | cons t lt =>
        simp only []
        cases ht : tyOf tys t with
        | none =>
          unfold sLen
          simp only [ht]
          exact (withV_nn fun v => rfl).symm
        | some ti =>
          obtain ⟨d, z, sz, bs, lk⟩ := ti
          cases d with
          | slice el =>
            show (opS x).run e _ = _
            unfold sLen
            simp only [ht]
            rw [opS_eq]
            congr 1
            funext v
            rw [kSl_eq]
            cases v <;> rfl
          | _ => rfl
theorem stillS_eq (tys : Tys) (op : Op) (e : AE) (h : Am) (K : KA) : (stillS tys op).run e h K = still tys e h op K := by
  cases op with
  | move x => exact opS_eq x e K
  | assign x => exact opS_eq x e K
  | load t x => exact still_load tys t x e h K
  | binOp op t x y u => exact still_bin tys op t u x y e h K
  | fieldAddr t x f => exact still_fa tys t x f e h K
  | indexAddr t x i => exact still_ia tys t x i e h K
  | extract x i => exact still_ext tys x i e h K
  | nilCheck x => exact still_nil tys x e h K
  | convert s d x => exact still_conv tys s d x e h K
  | call c =>
    obtain ⟨cl, ags, ts⟩ := c
    cases cl with
    | builtin b => cases b <;> first | rfl | exact still_len tys ags ts e h K
    | _ => rfl
  | _ => rfl
theorem evS_eq (l : List Operand) (e : AE) (K : List AV → Q) : (evS l).run e K = evL e l K := by
  induction l generalizing K with
  | nil => rfl
  | cons x l ih =>
    show (opS x).run e (fun v => (evS l).run e fun vs => K (v :: vs)) = withV e x fun v => evL e l fun vs => K (v :: vs)
    rw [opS_eq]
    congr 1
    funext v
    exact ih _
theorem kQ_eq (q : Q) (K : KM) : kQ q K = match q with | some q => K q.1 q.2 | none => none := by cases q <;> rfl
theorem eff_store (tys : Tys) (cf : CF) (t : TypeId) (p x : Operand) (e : AE) (h : Am) (K : KM) : (effS tys (.store t p x)).run cf e h K = eff tys cf e h (.store t p x) K := by
  show _ = eStore tys e t p x h K
  unfold effS
  simp only []
  cases ht : tyOf tys t with
  | none =>
    unfold eStore
    rw [ht]
    refine (withV_nn fun v => withV_nn fun w => ?_).symm
    cases v <;> first | rfl | skip
    rename_i q
    cases q <;> rfl
  | some ti =>
    obtain ⟨d, z, sz, bs, lk⟩ := ti
    cases lk with
    | leaf k =>
      show (opS p).run e _ = _
      unfold eStore
      rw [opS_eq, ht]
      congr 1
      funext a
      show (opS x).run e _ = _
      rw [opS_eq]
      congr 1
      funext v
      rw [kPtr_eq]
      cases a <;> first | rfl | skip
      rename_i q
      cases q with
      | none => rfl
      | some a => exact fSt_eq a v h _
    | agg ks => rfl
    | arr n => rfl
theorem effS_eq (tys : Tys) (cf : CF) (op : Op) (e : AE) (h : Am) (K : KM) : (effS tys op).run cf e h K = eff tys cf e h op K := by
  cases op with
  | store t p x => exact eff_store tys cf t p x e h K
  | alloc t =>
    show _ = eAlloc tys t h K
    unfold effS eAlloc
    simp only []
    cases tyOf tys t with
    | none => rfl
    | some ti =>
      simp only []
      cases zcOf tys ti <;> rfl
  | makeMap t r => cases r <;> rfl
  | call c =>
    obtain ⟨cl, ags, ts⟩ := c
    cases cl with
    | value f =>
      cases f with
      | func f =>
        show (evS ags.toList).run e _ = evL e ags.toList _
        rw [evS_eq]
        congr 1
        funext vs
        exact kQ_eq _ _
      | _ => rfl
    | builtin b =>
      show (evS ags.toList).run e _ = evL e ags.toList _
      rw [evS_eq]
    | _ => rfl
  | _ => rfl
theorem doS_eq (tys : Tys) (cf : CF) (o : Oper) (e : AE) (ds : List ADef) (h : Am) (K : RgQ) : (doS tys o).run cf e ds h K = doOp tys cf o e ds h K := by
  have key : ∀ op, o.op = op → (∀ c, op ≠ .defer c) → doOp tys cf o e ds h K = (match isStill op && !isFreeze tys op with
      | true => still tys e h op fun v => K (bindE o.dst v e) ds h
      | false => eff tys cf e h op fun v h => K (bindE o.dst v e) ds h) := by
    intro op ho hd
    unfold doOp
    rw [ho]
    cases op <;> first | rfl | exact absurd rfl (hd _)
  have key2 : ∀ op, o.op = op → (∀ c, op ≠ .defer c) → (doS tys o).run cf e ds h K = (match isStill op && !isFreeze tys op with
      | true => (stillS tys op).run e h fun v => (dstS o.dst).run e v fun e => K e ds h
      | false => (effS tys op).run cf e h fun v h => (dstS o.dst).run e v fun e => K e ds h) := by
    intro op ho hd
    have e1 : doS tys o = doS2 tys o op := by
      unfold doS
      rw [ho]
      cases op <;> first | exact absurd rfl (hd _) | rfl
    rw [e1]
    unfold doS2
    cases isStill op && !isFreeze tys op <;> rfl
  by_cases hd : ∃ c, o.op = .defer c
  · obtain ⟨c, hc⟩ := hd
    unfold doS
    rw [hc]
  · have hd' : ∀ c, o.op ≠ .defer c := fun c hc => hd ⟨c, hc⟩
    rw [key o.op rfl hd', key2 o.op rfl hd']
    split
    · rw [stillS_eq]; congr 1; funext v; exact dstS_eq _ _ _ _
    · rw [effS_eq]; congr 1; funext v h; exact dstS_eq _ _ _ _
theorem denS_eq (tys : Tys) (cf : CF) (all l : List Oper) (e : AE) (ds : List ADef) (h : Am) (K : RgQ) : (denS tys all l).run cf e ds h K = denL tys cf all l e ds h K := by
  induction l generalizing e ds h with
  | nil => rfl
  | cons o l ih =>
    show (grdS tys all o).run cf e ds h (fun e ds h => (denS tys all l).run cf e ds h K) = grd all o e fun w => match w with
      | false => denL tys cf all l (bindE o.dst undefA e) ds h K
      | true => doOp tys cf o e ds h fun e ds h => denL tys cf all l e ds h K
    have hf : (fun e ds h => (denS tys all l).run cf e ds h K) = fun e ds h => denL tys cf all l e ds h K := by funext e ds h; exact ih e ds h
    rw [hf]
    unfold grdS
    split
    · rename_i hg
      unfold grd
      rw [hg]
      exact doS_eq _ _ _ _ _ _ _
    · rename_i q hg
      show grd all o e _ = _
      congr 1
      funext w
      cases w with
      | false => rfl
      | true => exact doS_eq _ _ _ _ _ _ _
theorem regS_eq (tys : Tys) (cf : CF) (ops : Array Oper) (draw : Bool) : (regS tys ops draw).run cf = dRegion tys cf ops draw := by
  funext e ds h N X R
  cases draw with
  | false => exact denS_eq _ _ _ _ _ _ _ _
  | true =>
    unfold regS dRegion
    simp only []
    split
    · rename_i l hl; rw [hl]
    · rename_i hl; rw [hl]
theorem denC_eq (tys : Tys) (cf : CF) (c : Code) : (denC tys c).run cf = den tys cf c := by
  induction c with
  | skip => rfl
  | region id ops draw => exact regS_eq tys cf ops draw
  | seq a b iha ihb =>
    funext e ds h N X R
    show (denC tys a).run cf e ds h (fun e ds h => (denC tys b).run cf e ds h N X R) X R = den tys cf a e ds h (fun e ds h => den tys cf b e ds h N X R) X R
    rw [iha, ihb]
  | cond c a b iha ihb =>
    funext e ds h N X R
    show (opS c).run e (fun v => kBool v (fun w => bB w ((denC tys a).run cf e ds h N X R) ((denC tys b).run cf e ds h N X R)) none) = dCond c (den tys cf a) (den tys cf b) e ds h N X R
    rw [opS_eq, iha, ihb]
    unfold dCond
    congr 1
    funext v
    rw [kBool_eq]
    cases v <;> first | rfl | skip
    rename_i w
    cases w <;> rfl
  | block id b ih =>
    show dBlock id ((denC tys b).run cf) = dBlock id (den tys cf b)
    rw [ih]
  | loop b ih =>
    have e1 : (denC tys (.loop b)).run cf = dLoop (noDefer b) ((denC tys b).run cf) := by
      funext e ds h N X R
      show (XC.run (match noDefer b with
        | true => ⟨fun cf e ds h N X R => LoopP (σ := AE) (fun next e h => (denC tys b).run cf e ds h (fun e' _ h' => next e' h') X R) e h⟩
        | false => ⟨fun _ _ _ _ _ _ _ => none⟩) cf) e ds h N X R = _
      unfold dLoop
      cases noDefer b <;> rfl
    rw [e1, ih]
    rfl
  | rangeFunc g ps a b iha ihb =>
    show dRange cf g ps ((denC tys a).run cf) ((denC tys b).run cf) = dRange cf g ps (den tys cf a) (den tys cf b)
    rw [iha, ihb]
  | exit i => rfl
  | scope b ih => exact ih
  | label l => rfl
  | goto l => rfl
  | ret => rfl
  | refuse w => rfl
theorem XFS_eq (tys : Tys) (fns : Nat → Option FI) (n : Nat) : XFS tys fns n = XF tys fns n := by
  induction n with
  | zero => rfl
  | succ n ih =>
    funext Y f ags h
    show (runS tys (fns f)).run ⟨XFS tys fns n Y, itOf fns (XFS tys fns n), Y⟩ (fun f => runFD tys ⟨XFS tys fns n noY, itOf fns (XFS tys fns n), noY⟩ (fns f)) ags h = runFI tys ⟨XF tys fns n Y, itOf fns (XF tys fns n), Y⟩ (fun f => runFD tys ⟨XF tys fns n noY, itOf fns (XF tys fns n), noY⟩ (fns f)) (fns f) ags h
    rw [ih]
    cases fns f with
    | none => rfl
    | some x =>
      cases x with
      | intr i => rfl
      | code c rs m =>
        show bB (Nat.ble (lenL ags) m) _ none = _
        rw [bB_eq, denC_eq]
        show _ = match Nat.ble (lenL ags) m with | true => denF _ _ _ _ _ _ _ | false => none
        cases Nat.ble (lenL ags) m <;> rfl
theorem okRun_fast {tys : Tys} {fns : Nat → Option FI} {n : Nat} {Y : P → Option XCall} {f : Nat} {ags : List AV} {h : Am} (hx : okRun (XFS tys fns n Y f ags h) = true) : okRun (XF tys fns n Y f ags h) = true := by
  rw [← XFS_eq]; exact hx
end Go.XS
/- The layer 'XS': calls run by the faster form. -/
namespace Go.XS
open Go Go.TS
theorem endM_fast {tys : Tys} {fns : Nat → Option FI} {n f : Nat} {m : ME} (hx : endM m (XFS tys fns n noY f m.ags (startM m)) = true) : endM m (XF tys fns n noY f m.ags (startM m)) = true := by
  rw [← XFS_eq]; exact hx
end Go.XS
