/- The layer 'TS': soundness, the operations that only read. -/
import Derived.WalkKit
import Derived.WalkSpells
import Derived.Lib.LazyBuf
import Derived.Laws.Pointers
import Derived.Laws.Small
import Derived.Laws.StructEq
import Derived.ChangeKeysEq
import Derived.Laws.Strings
import Derived.Test.YtmcpegdmnogkbaaGreatDoorTsCode
set_option linter.unusedSimpArgs false
set_option linter.unusedVariables false
namespace Go.TS
open Go

def lkOk (ti : TI) : Bool := match ti.lk, ti.desc with
  | .leaf _, .struct _ => false
  | .leaf _, .array _ _ => false
  | .leaf .any, .func .. => ti.size == 1
  | .leaf .any, .interface _ => ti.size == 1
  | .leaf .any, _ => false
  | .leaf _, _ => ti.size == 1
  | .agg ks, .struct _ => ks.length == ti.size
  | .agg ks, .array _ _ => ks.length == ti.size
  | .agg _, _ => false
  | .arr n, .array _ _ => n == ti.size
  | .arr _, _ => false
structure TyOk (P : Program) (t : Nat) (ti : TI) : Prop where
  und : P.underlying t = some ti.desc
  info : (P.info? t).map (fun i => (i.zero, i.size, i.bytes)) = some (some ti.zero, ti.size, ti.bytes)
  lk : lkOk ti = true
  stood : match ti.desc with | .struct _ => P.stoodInHeld t = false ∧ P.eqGuardType P.depth t = false | _ => True
/-- a method's call is a function's -/
structure MethOk (P : Program) (name : String) (t f : Nat) : Prop where
  call : ∀ v args w, (callMethod (.iface t v) name args).run P w = (callFunc f (#[v] ++ args)).run P w
  bound : ∀ v w, (nilAhead (P.types.size + Made.depth) t v name).run P w = .ok (some false) w
structure TysOk (P : Program) (tys : Tys) : Prop where
  ty : ∀ t ti, tyOf tys t = some ti → TyOk P t ti
  mt : ∀ name t f, mtOf tys name t = some f → MethOk P name t f
instance {P : Program} {tys : Tys} : CoeFun (TysOk P tys) (fun _ => ∀ t ti, tyOf tys t = some ti → TyOk P t ti) := ⟨TysOk.ty⟩
def Ok (e : Env) (a : Act) : Prop := ∀ t v, Env.get e t = some v → a.tmps[t]? = some v

theorem tr_put {α : Type} : ∀ (f : Nat) (e : Tr α) (n : Nat) (x : α) (t : Nat) (u : α), (Tr.put f e n x).get t = some u → (t = n ∧ u = x) ∨ (t ≠ n ∧ e.get t = some u) := by
  intro f
  induction f with
  | zero => intro e n x t u h; simp [Tr.put, Tr.get] at h
  | succ f ih =>
    -- a node with these parts
    have key : ∀ (l : Tr α) (v : Option α) (r : Tr α) (n : Nat) (x : α) (t : Nat) (u : α),
        Tr.get (match Nat.beq n 0 with
          | true => Tr.node l (some x) r
          | false => match Nat.beq (Nat.mod n 2) 0 with
            | true => Tr.node l v (Tr.put f r (Nat.sub (Nat.div n 2) 1) x)
            | false => Tr.node (Tr.put f l (Nat.div n 2) x) v r) t = some u → (t = n ∧ u = x) ∨ (t ≠ n ∧ Tr.get (.node l v r) t = some u) := by
      intro l v r n x t u h
      have bt : ∀ m : Nat, Nat.beq m 0 = true ↔ m = 0 := fun m => ⟨Nat.eq_of_beq_eq_true, fun h => by subst h; rfl⟩
      have bf : ∀ m : Nat, Nat.beq m 0 = false ↔ m ≠ 0 := fun m => by
        cases hb : Nat.beq m 0 with
        | true => simp [(bt m).1 hb]
        | false => simp; exact fun hm => by rw [(bt m).2 hm] at hb; cases hb
      have hdiv : ∀ m : Nat, Nat.div m 2 = m / 2 := fun _ => rfl
      have hmod : ∀ m : Nat, Nat.mod m 2 = m % 2 := fun _ => rfl
      have hsub : ∀ m : Nat, Nat.sub m 1 = m - 1 := fun _ => rfl
      by_cases h0 : n = 0
      · rw [(bt n).2 h0] at h
        simp only [Tr.get] at h ⊢
        by_cases t0 : t = 0
        · rw [(bt t).2 t0] at h; simp at h; exact .inl ⟨by omega, h.symm⟩
        · rw [(bf t).2 t0] at h ⊢; exact .inr ⟨by omega, h⟩
      · rw [(bf n).2 h0] at h
        by_cases t0 : t = 0
        · refine .inr ⟨by omega, ?_⟩
          subst t0
          simp only [Tr.get]
          cases hm : Nat.beq (Nat.mod n 2) 0 <;> rw [hm] at h <;> simpa [Tr.get] using h
        · cases hm : Nat.beq (Nat.mod n 2) 0 with
          | true =>
            rw [hm] at h
            have hm' := (bt _).1 hm
            simp only [Tr.get, (bf t).2 t0] at h ⊢
            cases ht : Nat.beq (Nat.mod t 2) 0 with
            | true =>
              rw [ht] at h
              have ht' := (bt _).1 ht
              simp only [hdiv, hmod, hsub] at *
              rcases ih _ _ _ _ _ h with ⟨h1, h2⟩ | ⟨h1, h2⟩
              · exact .inl ⟨by omega, h2⟩
              · exact .inr ⟨by omega, h2⟩
            | false =>
              rw [ht] at h
              have ht' := (bf _).1 ht
              simp only [hdiv, hmod, hsub] at *
              exact .inr ⟨by intro hh; subst hh; omega, h⟩
          | false =>
            rw [hm] at h
            have hm' := (bf _).1 hm
            simp only [Tr.get, (bf t).2 t0] at h ⊢
            cases ht : Nat.beq (Nat.mod t 2) 0 with
            | true =>
              rw [ht] at h
              have ht' := (bt _).1 ht
              simp only [hdiv, hmod, hsub] at *
              exact .inr ⟨by intro hh; subst hh; omega, h⟩
            | false =>
              rw [ht] at h
              have ht' := (bf _).1 ht
              simp only [hdiv, hmod, hsub] at *
              rcases ih _ _ _ _ _ h with ⟨h1, h2⟩ | ⟨h1, h2⟩
              · exact .inl ⟨by omega, h2⟩
              · exact .inr ⟨by omega, h2⟩
    intro e n x t u h
    cases e with
    | nil =>
      rcases key .nil none .nil n x t u h with h | ⟨h1, h2⟩
      · exact .inl h
      · simp only [Tr.get] at h2
        split at h2
        · cases h2
        · split at h2 <;> cases h2
    | node l v r => exact key l v r n x t u h

theorem tr_del {α : Type} : ∀ (e : Tr α) (n t : Nat) (u : α), (Tr.del e n).get t = some u → t ≠ n ∧ e.get t = some u := by
  intro e
  induction e with
  | nil => intro n t u h; simp [Tr.del, Tr.get] at h
  | node l v r ihl ihr =>
    intro n t u h
    have bt : ∀ m : Nat, Nat.beq m 0 = true ↔ m = 0 := fun m => ⟨Nat.eq_of_beq_eq_true, fun h => by subst h; rfl⟩
    have bf : ∀ m : Nat, Nat.beq m 0 = false ↔ m ≠ 0 := fun m => by
      cases hb : Nat.beq m 0 with
      | true => simp [(bt m).1 hb]
      | false => simp; exact fun hm => by rw [(bt m).2 hm] at hb; cases hb
    have hdiv : ∀ m : Nat, Nat.div m 2 = m / 2 := fun _ => rfl
    have hmod : ∀ m : Nat, Nat.mod m 2 = m % 2 := fun _ => rfl
    have hsub : ∀ m : Nat, Nat.sub m 1 = m - 1 := fun _ => rfl
    simp only [Tr.del] at h
    by_cases h0 : n = 0
    · rw [(bt n).2 h0] at h
      simp only [Tr.get] at h ⊢
      by_cases t0 : t = 0
      · rw [(bt t).2 t0] at h; cases h
      · rw [(bf t).2 t0] at h ⊢; exact ⟨by omega, h⟩
    · rw [(bf n).2 h0] at h
      by_cases t0 : t = 0
      · refine ⟨by omega, ?_⟩
        subst t0
        simp only [Tr.get]
        cases hm : Nat.beq (Nat.mod n 2) 0 <;> rw [hm] at h <;> simpa [Tr.get] using h
      · cases hm : Nat.beq (Nat.mod n 2) 0 with
        | true =>
          rw [hm] at h
          have hm' := (bt _).1 hm
          simp only [Tr.get, (bf t).2 t0] at h ⊢
          cases ht : Nat.beq (Nat.mod t 2) 0 with
          | true =>
            rw [ht] at h
            have ht' := (bt _).1 ht
            simp only [hdiv, hmod, hsub] at *
            obtain ⟨h1, h2⟩ := ihr _ _ _ h
            exact ⟨by omega, h2⟩
          | false =>
            rw [ht] at h
            have ht' := (bf _).1 ht
            simp only [hdiv, hmod, hsub] at *
            exact ⟨by intro hh; subst hh; omega, h⟩
        | false =>
          rw [hm] at h
          have hm' := (bf _).1 hm
          simp only [Tr.get, (bf t).2 t0] at h ⊢
          cases ht : Nat.beq (Nat.mod t 2) 0 with
          | true =>
            rw [ht] at h
            have ht' := (bt _).1 ht
            simp only [hdiv, hmod, hsub] at *
            exact ⟨by intro hh; subst hh; omega, h⟩
          | false =>
            rw [ht] at h
            have ht' := (bf _).1 ht
            simp only [hdiv, hmod, hsub] at *
            obtain ⟨h1, h2⟩ := ihl _ _ _ h
            exact ⟨by omega, h2⟩

theorem tr_of {α : Type} : ∀ (l : List (Nat × α)) (t : Nat) (x : α), (trOf l).get t = some x → (t, x) ∈ l := by
  intro l
  induction l with
  | nil => intro t x h; simp [trOf, Tr.get] at h
  | cons p l ih =>
    obtain ⟨i, y⟩ := p
    intro t x h
    rcases tr_put _ _ _ _ _ _ h with ⟨rfl, rfl⟩ | ⟨_, h⟩
    · simp
    · exact List.mem_cons_of_mem _ (ih t x h)

/-- types, one by one -/
inductive TyAll (P : Program) : List (Nat × TI) → Prop where
  | nil : TyAll P []
  | cons {t : Nat} {ti : TI} {r : List (Nat × TI)} (h : TyOk P t ti) (hr : TyAll P r) : TyAll P ((t, ti) :: r)
theorem TyAll.mem {P : Program} {l : List (Nat × TI)} (h : TyAll P l) : ∀ t ti, (t, ti) ∈ l → TyOk P t ti := by
  induction h with
  | nil => intro t ti h; cases h
  | cons h _ ih =>
    intro t ti hm
    cases hm with
    | head => exact h
    | tail _ hm => exact ih t ti hm
theorem tysOk_ofM {P : Program} {l : List (Nat × TI)} {mt : String → List (Nat × Nat)} (h : TyAll P l) (hm : ∀ name t f, mtL (mt name) t = some f → MethOk P name t f) : TysOk P ⟨trOf l, mt⟩ :=
  ⟨fun t ti ht => h.mem t ti (tr_of l t ti ht), hm⟩
theorem tysOk_of {P : Program} {l : List (Nat × TI)} (h : TyAll P l) : TysOk P ⟨trOf l, noMt⟩ := tysOk_ofM h fun _ _ _ hh => by cases hh
theorem mtL_mem {l : List (Nat × Nat)} {t f : Nat} (h : mtL l t = some f) : (t, f) ∈ l := by
  induction l with
  | nil => cases h
  | cons q l ih =>
    simp only [mtL] at h
    split at h
    · rename_i hb; cases h; rw [← Nat.eq_of_beq_eq_true hb]; simp
    · exact List.mem_cons_of_mem _ (ih h)
/-- a method of a pointer or a value, declared there -/
theorem methOk {P : Program} {name : String} {t f : Nat} {i : TypeInfo} {m : Method} {pr : Bool} {d : TypeDesc} (hi : P.info? t = some i) (hm : i.methods.find? (·.name == name) = some m) (hp : m.path.toList = []) (hf : m.func = some (f, pr))
    (hu : P.underlying t = some d) (hd : (match (generalizing := false) d with | .pointer _ => pr | _ => !pr) = true) : MethOk P name t f := by
  have h3 : P.types.size + Made.depth = (P.types.size + (Made.depth - 1)) + 1 := by unfold Made.depth; omega
  refine ⟨fun v args w => ?_, fun v w => ?_⟩
  · have h1 : ∀ n, (method (n + 1) t v name).run P w = .ok (f, v) w := by
      intro n
      simp only [method, Sem.run_bind, run_typeInfo w hi, Result.andThen_ok, hm, hp, follow, Sem.run_pure, hf, receiverAt, run_underlying hu]
      cases d <;> cases pr <;> simp_all [Place.get]
    have h2 : (callMethod (.iface t v) name args).run P w = ((method (P.types.size + Made.depth) t v name).run P w).andThen fun q w => (callFunc q.1 (#[q.2] ++ args)).run P w := by
      simp only [callMethod, Sem.run_bind]
      rfl
    rw [h2, h3, h1]
    rfl
  · rw [h3]
    simp only [nilAhead, Sem.run_bind, run_typeInfo w hi, Result.andThen_ok, hm, hp, followBlind, Sem.run_pure, hf]
    cases pr with
    | true => simp
    | false =>
      simp only [run_underlying hu, Result.andThen_ok, Sem.run_bind]
      cases d <;> simp_all
/-- a method's row, looked at -/
def methCk (P : Program) (name : String) (t f : Nat) : Bool := match P.info? t with
  | some i => match i.methods.find? (·.name == name) with
    | some m => match m.path.toList with
      | [] => match m.func with
        | some (g, pr) => match P.underlying t with
          | some d => Nat.beq g f && (match (generalizing := false) d with | .pointer _ => pr | _ => !pr)
          | none => false
        | none => false
      | _ => false
    | none => false
  | none => false
theorem methOk_of {P : Program} {name : String} {t f : Nat} (h : methCk P name t f = true) : MethOk P name t f := by
  unfold methCk at h
  split at h
  · rename_i i hi
    split at h
    · rename_i m hm
      split at h
      · rename_i hp
        split at h
        · rename_i g pr hf
          split at h
          · rename_i d hu
            rw [Bool.and_eq_true] at h
            obtain ⟨h1, h2⟩ := h
            have := Nat.eq_of_beq_eq_true h1
            subst this
            exact methOk hi hm hp hf hu h2
          · cases h
        · cases h
      · cases h
    · cases h
  · cases h
/-- the rows of methods, one by one -/
def mtAll (P : Program) : List (String × Nat × Nat) → Bool
  | [] => true
  | q :: r => methCk P q.1 q.2.1 q.2.2 && mtAll P r
theorem mtAll_mem {P : Program} {l : List (String × Nat × Nat)} (h : mtAll P l = true) : ∀ n t f, (n, t, f) ∈ l → MethOk P n t f := by
  induction l with
  | nil => intro n t f hh; cases hh
  | cons q l ih =>
    simp only [mtAll, Bool.and_eq_true] at h
    intro n t f hh
    cases hh with
    | head => exact methOk_of h.1
    | tail _ hh => exact ih h.2 n t f hh
/-- the table of such rows -/
def mtT : List (String × Nat × Nat) → String → List (Nat × Nat)
  | [], _ => []
  | q :: r, n => match decide (n = q.1) with
    | true => (q.2.1, q.2.2) :: mtT r n
    | false => mtT r n
theorem mtT_mem {l : List (String × Nat × Nat)} {n : String} {t f : Nat} (h : (t, f) ∈ mtT l n) : (n, t, f) ∈ l := by
  induction l with
  | nil => cases h
  | cons q l ih =>
    simp only [mtT] at h
    split at h
    · rename_i hn
      simp only [decide_eq_true_eq] at hn
      rw [List.mem_cons] at h
      rcases h with h | h
      · cases h; subst hn; simp
      · exact List.mem_cons_of_mem _ (ih h)
    · exact List.mem_cons_of_mem _ (ih h)
theorem tysOk_ofT {P : Program} {l : List (Nat × TI)} {m : List (String × Nat × Nat)} (h : TyAll P l) (hm : mtAll P m = true) : TysOk P ⟨trOf l, mtT m⟩ :=
  tysOk_ofM h fun name t f hf => mtAll_mem hm name t f (mtT_mem (mtL_mem hf))

section
variable {P : Program} {tys : Tys} {e : Env} {a : Act} {w : World}

theorem rd_heap (w : World) (x : Addr) : w.cell? x = rd w.heap x := rfl
theorem fz_heap (w : World) (x : Addr) : w.frozen? x = fz w.heap x := rfl
theorem wr_heap (w : World) (x : Addr) (v : Value) : (w.setCell x v).heap = wr w.heap x v := rfl

theorem ev_ok (he : Ok e a) {x : Operand} {v : Value} (h : ev e x = some v) : a.eval x = v := by
  cases x with
  | tmp t => simp only [ev] at h; simp only [Act.eval, Array.getD_eq_getD_getElem?, he t v h, Option.getD_some]
  | const c => simp only [ev, Option.some.injEq] at h; exact h
  | global g => simp only [ev, Option.some.injEq] at h; exact h
  | func f => simp only [ev, Option.some.injEq] at h; exact h
theorem withV_ok (he : Ok e a) {x : Operand} {K : Value → Prop} (h : withV e x K) : K (a.eval x) := by
  unfold withV at h
  split at h
  · rename_i v hv; rw [ev_ok he hv]; exact h
  · exact h.elim
theorem evL_ok (he : Ok e a) : ∀ (l : List Operand) (vs : List Value), evL e l = some vs → l.map a.eval = vs := by
  intro l
  induction l with
  | nil => intro vs h; simp only [evL, Option.some.injEq] at h; exact h
  | cons x l ih =>
    intro vs h
    simp only [evL] at h
    split at h
    · rename_i v hv
      split at h
      · rename_i us hus
        cases h
        rw [List.map_cons, ev_ok he hv, ih _ hus]
      · cases h
    · cases h

theorem und_run {t : Nat} {ti : TI} (ht : TyOk P t ti) (w : World) : (underlying t).run P w = .ok ti.desc w := run_underlying ht.und w
theorem info_some {t : Nat} {ti : TI} (ht : TyOk P t ti) : ∃ i, P.info? t = some i ∧ i.zero = some ti.zero ∧ i.size = ti.size ∧ i.bytes = ti.bytes := by
  have := ht.info
  cases hi : P.info? t with
  | none => simp [hi] at this
  | some i => simp [hi] at this; exact ⟨i, rfl, this⟩
theorem size_run {t : Nat} {ti : TI} (ht : TyOk P t ti) (w : World) : (sizeOf t).run P w = .ok ti.size w := by
  obtain ⟨i, hi, _, hs, _⟩ := info_some ht
  simp [sizeOf, run_typeInfo w hi, hs]
theorem zero_run {t : Nat} {ti : TI} (ht : TyOk P t ti) (w : World) : (zeroValue t).run P w = .ok ti.zero w := by
  obtain ⟨i, hi, hz, _, _⟩ := info_some ht
  simp [zeroValue, run_typeInfo w hi, hz]
theorem bytes_run {t : Nat} {ti : TI} (ht : TyOk P t ti) (w : World) : ∃ i, (typeInfo t).run P w = .ok i w ∧ i.bytes = ti.bytes := by
  obtain ⟨i, hi, _, _, hb⟩ := info_some ht
  exact ⟨i, run_typeInfo w hi, hb⟩
theorem isAgg_run {t : Nat} {ti : TI} (ht : TyOk P t ti) (w : World) : (isAgg t).run P w = .ok (match ti.lk with | .leaf _ => false | _ => true) w := by
  have h := ht.lk
  simp only [isAgg, Sem.run_bind, und_run ht, Result.andThen_ok]
  unfold lkOk at h
  split at h <;> simp_all

theorem load_run {x : Addr} {v : Value} (h : rd w.heap x = some v) : (load x .plain).run P w = .ok v w := by
  rw [run_load, rd_heap, h]

theorem loadCellsFrom_run (x : Addr) : ∀ (vs : List Value) (i : Nat) (acc : Array Value), (∀ j v, vs[j]? = some v → rd w.heap (x.add (i + j)) = some v) →
    (loadCellsFrom x i vs.length acc).run P w = .ok (acc ++ vs.toArray) w := by
  intro vs
  induction vs with
  | nil => intro i acc _; simp [loadCellsFrom]
  | cons v vs ih =>
    intro i acc h
    have h0 := h 0 v (by simp)
    simp only [Nat.add_zero] at h0
    have h1 := ih (i + 1) (acc.push v) (fun j u hj => by have := h (j + 1) u (by simpa using hj); rwa [Nat.add_comm j 1, ← Nat.add_assoc] at this)
    simp only [List.length_cons, loadCellsFrom, Sem.run_bind, load_run h0, Result.andThen_ok, h1]
    simp
theorem loadCells_run {x : Addr} {vs : List Value} (h : cellsAt w.heap x vs) : (loadCells x vs.length).run P w = .ok vs.toArray w := by
  have := loadCellsFrom_run (P := P) (w := w) x vs 0 #[] (fun j v hj => by simpa using h j v hj)
  simpa [loadCells] using this

theorem ldL_ok (x : Addr) (h : Mem) : ∀ (ks : List Kind) (i : Nat) (K : List Value → Prop), ldL ks x i h K →
    ∃ vs : List Value, vs.length = ks.length ∧ (∀ j v, vs[j]? = some v → rd h (x.add (i + j)) = some v) ∧ K vs := by
  intro ks
  induction ks with
  | nil => intro i K hK; exact ⟨[], rfl, by simp, hK⟩
  | cons k ks ih =>
    intro i K hK
    obtain ⟨y, hy, hK⟩ := hK
    obtain ⟨vs, hl, hc, hK⟩ := ih _ _ hK
    refine ⟨k.enc y :: vs, by simp [hl], ?_, hK⟩
    intro j v hj
    cases j with
    | zero => simp at hj; subst hj; simpa using hy
    | succ j => have := hc j v (by simpa using hj); rwa [Nat.add_assoc, Nat.add_comm 1 j] at this

def at' (h : Mem) (x : Addr) (v : Value) : Prop := match v with | .agg cs => cellsAt h x cs.toList | v => rd h x = some v
theorem at'_leaf {h : Mem} {x : Addr} {v : Value} (hv : oneC v = true) : at' h x v ↔ rd h x = some v := by
  cases v <;> first | exact Iff.rfl | cases hv
theorem at'_agg {h : Mem} {x : Addr} {cs : Array Value} : at' h x (.agg cs) ↔ cellsAt h x cs.toList := Iff.rfl
theorem enc_one {k : Kind} (hk : k ≠ .any) (y : k.ty) : oneC (k.enc y) = true := by cases k <;> first | rfl | exact absurd rfl hk
theorem ldT_leaf {k : Kind} (hk : k ≠ .any) (x : Addr) (h : Mem) (K : Value → Prop) : ldT (.leaf k) x h K = ld k x h fun y => K (k.enc y) := by cases k <;> first | rfl | exact absurd rfl hk
/-- what a load gives -/
theorem ldT_ok {t : Nat} {ti : TI} (ht : TyOk P t ti) {x : Addr} {K : Value → Prop} (h : ldT ti.lk x w.heap K) :
    ∃ v, (∀ w' : World, at' w'.heap x v → (loadVar t x).run P w' = .ok v w') ∧ at' w.heap x v ∧ K v := by
  have hag := fun w => isAgg_run ht w
  have hlk := ht.lk
  unfold lkOk at hlk
  cases hl : ti.lk with
  | leaf k =>
    rw [hl] at h hlk
    have hag0 : ∀ w' : World, (isAgg t).run P w' = .ok false w' := fun w' => by rw [hag, hl]
    by_cases hk : k = .any
    · subst hk
      obtain ⟨y, hy, ho, hK⟩ := h
      refine ⟨y, ?_, (at'_leaf ho).2 hy, hK⟩
      intro w' hw'
      simp only [loadVar, Sem.run_bind, hag0 w', Result.andThen_ok]
      simpa using load_run (P := P) ((at'_leaf ho).1 hw')
    rw [ldT_leaf hk] at h
    obtain ⟨y, hy, hK⟩ := h
    refine ⟨k.enc y, ?_, (at'_leaf (enc_one hk y)).2 hy, hK⟩
    intro w' hw'
    have : (isAgg t).run P w' = .ok false w' := by rw [hag, hl]
    simp only [loadVar, Sem.run_bind, this, Result.andThen_ok]
    simpa using load_run (P := P) ((at'_leaf (enc_one hk y)).1 hw')
  | agg ks =>
    rw [hl] at h hlk
    obtain ⟨vs, hn, hc, hK⟩ := ldL_ok x _ ks 0 _ h
    have hs : ks.length = ti.size := by revert hlk; cases ti.desc <;> simp
    refine ⟨.agg vs.toArray, ?_, at'_agg.2 (fun i v hv => by simpa using hc i v (by simpa using hv)), hK⟩
    intro w' hw'
    have : (isAgg t).run P w' = .ok true w' := by rw [hag, hl]
    have hcell : cellsAt w'.heap x vs := at'_agg.1 hw'
    simp only [loadVar, Sem.run_bind, this, Result.andThen_ok]
    have h2 := loadCells_run (P := P) hcell
    rw [hn, hs] at h2
    simp [size_run ht, h2]
  | arr n =>
    rw [hl] at h hlk
    obtain ⟨cs, hn, hc, hK⟩ := h
    have hs : n = ti.size := by revert hlk; cases ti.desc <;> simp
    refine ⟨.agg cs, ?_, at'_agg.2 (fun i v hv => hc i v (by simpa using hv)), hK⟩
    intro w' hw'
    have : (isAgg t).run P w' = .ok true w' := by rw [hag, hl]
    have hcell : cellsAt w'.heap x cs.toList := at'_agg.1 hw'
    simp only [loadVar, Sem.run_bind, this, Result.andThen_ok]
    have h2 := loadCells_run (P := P) hcell
    rw [Array.length_toList, hn, hs] at h2
    simp [size_run ht, h2]

theorem elem_eq {t e : Nat} {ti : TI} (ht : TyOk P t ti) (hd : ti.desc = .pointer e) : P.underlying t = some (.pointer (P.pointee t)) := by
  have := ht.und
  rw [hd] at this
  simp [Program.pointee, this]
theorem part_leaf {t : Nat} {ds : TypeDesc} {z : Value} {sz b : Nat} {kd : Kind} (h : TyOk P t ⟨ds, z, sz, b, .leaf kd⟩) {cs : Array Value} {off : Nat} {v : Value} (hv : cs[off]? = some v) (w : World) : (part t cs off).run P w = .ok v w := by
  have hag := isAgg_run h w
  simp only [part, Sem.run_bind, hag, Result.andThen_ok, hv]
  simp
theorem leaf_size {kd : Kind} {d : TypeDesc} {z : Value} {sz b : Nat} {t : Nat} (h : TyOk P t ⟨d, z, sz, b, .leaf kd⟩) (hd : ∃ k, d = .int k) : sz = 1 := by
  obtain ⟨k, rfl⟩ := hd
  have := h.lk
  cases kd <;> simp [lkOk] at this <;> exact this
theorem eqA_run {t : Nat} {k0 : IntKind} {z : Value} {b : Nat} {kd : Kind} (hT : TyOk P t ⟨.int k0, z, 1, b, .leaf kd⟩) (d : Nat) (w : World) (X Y xs ys : Array Value) (o : Option Bool) (off : Nat) :
    ∀ (n i : Nat) (r : Bool), (∀ j, j < i + n → X[j]? = xs[off + j]? ∧ Y[j]? = ys[off + j]?) → eqA xs ys o (off + i) n = some r → ∃ q r0, o = some r0 ∧ r = (q && r0) ∧ (Op.eqItems (d + 1) t 1 X Y (List.range' i n)).run P w = .ok q w := by
  intro n
  induction n with
  | zero => intro i r _ h; simp only [eqA] at h; exact ⟨true, r, h, by simp, by simp [Op.eqItems]⟩
  | succ n ih =>
    intro i r hXY h
    simp only [eqA] at h
    split at h
    · rename_i k a k' b hx hy
      split at h
      · rename_i hk
        simp only [decide_eq_true_eq] at hk
        subst hk
        split at h
        · rename_i r' hr
          cases h
          obtain ⟨hX, hY⟩ := hXY i (by omega)
          rw [hx] at hX; rw [hy] at hY
          have e1 := run_equalIn_int w d t k k0 a b hT.und
          obtain ⟨q, r0, h0, hq, hi⟩ := ih (i + 1) r' (fun j hj => hXY j (by omega)) (by rw [← Nat.add_assoc]; exact hr)
          refine ⟨(a == b) && q, r0, h0, by rw [hq, Bool.and_assoc], ?_⟩
          rw [List.range'_succ]
          simp only [Op.eqItems, Nat.mul_one, Sem.run_bind, part_leaf hT hX, part_leaf hT hY, Result.andThen_ok, e1, Sem.run_ite, hi]
          cases hab : (a == b) <;> simp
        · cases h
      · cases h
    · cases h
theorem eqI_run (hty : TysOk P tys) (d : Nat) (w : World) (xs ys : Array Value) : ∀ (fs : List Field) (r : Bool), eqI tys xs ys fs = some r → (Op.eqFields (d + 1) xs ys fs).run P w = .ok r w := by
  intro fs
  induction fs with
  | nil => intro r h; simp only [eqI, Option.some.injEq] at h; subst h; simp [Op.eqFields]
  | cons f fs ih =>
    intro r h
    simp only [eqI] at h
    split at h
    · cases h
    · rename_i hn
      simp only [decide_eq_false_iff_not] at hn
      split at h
      · rename_i k0 _ _ _ kd hti
        split at h
        · rename_i k a k' b hx hy
          split at h
          · rename_i hk
            simp only [decide_eq_true_eq] at hk
            subst hk
            split at h
            · rename_i r' hr
              cases h
              have hT := hty _ _ hti
              have e1 := run_equalIn_int w d f.type k k0 a b hT.und
              simp only [Op.eqFields, ne_eq, hn, not_false_eq_true, if_true, Sem.run_bind, part_leaf hT hx, part_leaf hT hy, Result.andThen_ok, e1, Sem.run_ite, ih _ hr]
              cases hab : (a == b) <;> simp
            · cases h
          · cases h
        · cases h
      · cases h
theorem part_agg {t : Nat} {ds : TypeDesc} {z : Value} {sz b : Nat} {ks : List Kind} (h : TyOk P t ⟨ds, z, sz, b, .agg ks⟩) (cs : Array Value) (off : Nat) (w : World) : (part t cs off).run P w = .ok (.agg (cs.extract off (off + sz))) w := by
  have hag := isAgg_run h w
  simp only [part, Sem.run_bind, hag, Result.andThen_ok]
  simp [Sem.run_bind, size_run h]
theorem eqF_run (hty : TysOk P tys) (d : Nat) (w : World) (xs ys : Array Value) : ∀ (fs : List Field) (r : Bool), eqF tys xs ys fs = some r → (Op.eqFields (d + 2) xs ys fs).run P w = .ok r w := by
  intro fs
  induction fs with
  | nil => intro r h; simp only [eqF, Option.some.injEq] at h; subst h; simp [Op.eqFields]
  | cons f fs ih =>
    intro r h
    simp only [eqF] at h
    split at h
    · cases h
    · rename_i hn
      simp only [decide_eq_false_iff_not] at hn
      split at h
      · rename_i k0 _ _ _ kd hti
        split at h
        · rename_i k a k' b hx hy
          split at h
          · rename_i hk
            simp only [decide_eq_true_eq] at hk
            subst hk
            split at h
            · rename_i r' hr
              cases h
              have hT := hty _ _ hti
              have e1 := run_equalIn_int w (d + 1) f.type k k0 a b hT.und
              simp only [Op.eqFields, ne_eq, hn, not_false_eq_true, if_true, Sem.run_bind, part_leaf hT hx, part_leaf hT hy, Result.andThen_ok, e1, Sem.run_ite, ih _ hr]
              cases hab : (a == b) <;> simp
            · cases h
          · cases h
        · cases h
      · rename_i _ _ _ kd hti
        split at h
        · rename_i a b hx hy
          split at h
          · rename_i r' hr
            cases h
            have hT := hty _ _ hti
            have e1 := run_equalIn_bool (P := P) (w := w) (d + 1) f.type a b hT.und
            simp only [Op.eqFields, ne_eq, hn, not_false_eq_true, if_true, Sem.run_bind, part_leaf hT hx, part_leaf hT hy, Result.andThen_ok, e1, Sem.run_ite, ih _ hr]
            cases hab : (a == b) <;> simp
          · cases h
        · cases h
      · rename_i gs z sz bb ks hti
        split at h
        · rename_i q hq
          split at h
          · rename_i r' hr
            cases h
            have hT := hty _ _ hti
            have hst := hT.stood
            simp only at hst
            have hu : P.underlying f.type = some (.struct (P.fieldsOf f.type)) := by
              have := hT.und
              simp only at this
              simp [Program.fieldsOf, this]
            have hfs : P.fieldsOf f.type = gs := by
              have := hT.und
              simp only at this
              simp [Program.fieldsOf, this]
            have e1 := run_equalIn_struct (P := P) w (d + 1) f.type (xs.extract f.offset (f.offset + sz)) (ys.extract f.offset (f.offset + sz)) hu hst.1
            rw [hfs, eqI_run hty d w _ _ _ _ hq] at e1
            simp only [Op.eqFields, ne_eq, hn, not_false_eq_true, if_true, Sem.run_bind, part_agg hT, Result.andThen_ok, e1, Sem.run_ite, ih _ hr]
            cases q <;> simp
          · cases h
        · cases h
      · rename_i n e z sz bb lk hti
        split at h
        · rename_i k0 z1 sz1 b1 kd hte
          split at h
          · rename_i hsz
            simp only [decide_eq_true_eq] at hsz
            subst hsz
            have hT := hty _ _ hti
            have hE := hty _ _ hte
            have h1 : sz1 = 1 := leaf_size hE ⟨_, rfl⟩
            subst h1
            obtain ⟨ie, hie, hie2⟩ : ∃ i, P.info? e = some i ∧ i.size = 1 := by
              have := hE.info
              cases hh : P.info? e with
              | none => rw [hh] at this; cases this
              | some i => rw [hh] at this; simp at this; exact ⟨i, rfl, this.2.1⟩
            have hce : P.cellsOf e = 1 := by simp [Program.cellsOf, hie, hie2]
            have hp : ∀ (zs : Array Value), (part f.type zs f.offset).run P w = .ok (.agg (zs.extract f.offset (f.offset + n))) w := by
              intro zs
              have hag := isAgg_run hT w
              have hl := hT.lk
              cases lk with
              | leaf k => cases k <;> simp [lkOk] at hl
              | agg ks =>
                simp only [part, Sem.run_bind, hag, Result.andThen_ok]
                simp [Sem.run_bind, size_run hT]
              | arr m =>
                simp only [part, Sem.run_bind, hag, Result.andThen_ok]
                simp [Sem.run_bind, size_run hT]
            have hX : ∀ (zs : Array Value) (j : Nat), j < 0 + n → (zs.extract f.offset (f.offset + n))[j]? = zs[f.offset + j]? := by
              intro zs j hj
              rw [Array.getElem?_extract]
              by_cases hlt : j < min (f.offset + n) zs.size - f.offset
              · rw [if_pos hlt]
              · rw [if_neg hlt, Array.getElem?_eq_none (by omega)]
            have e1 := run_equalIn_array w (d + 1) (xs.extract f.offset (f.offset + n)) (ys.extract f.offset (f.offset + n)) hT.und hie
            obtain ⟨q, r', hr, hq, hi⟩ := eqA_run hE d w (xs.extract f.offset (f.offset + n)) (ys.extract f.offset (f.offset + n)) xs ys _ f.offset n 0 r (fun j hj => ⟨hX xs j hj, hX ys j hj⟩) h
            rw [hce, List.range_eq_range', hi] at e1
            subst hq
            simp only [Op.eqFields, ne_eq, hn, not_false_eq_true, if_true, Sem.run_bind, hp, Result.andThen_ok, e1, Sem.run_ite, ih _ hr]
            cases q <;> simp
          · cases h
        · cases h
      · cases h

theorem run_equalIn_sl (w : World) (d : Nat) {t el : TypeId} (b : Option Addr) (n c : Nat) (h : P.underlying t = some (.slice el)) :
    (Op.equalIn (d + 1) t (.slice b n c) (.slice none 0 0)).run P w = .ok b.isNone w := by
  cases b <;> simp [Op.equalIn, run_underlying h]
theorem run_eql_sl (w : World) {t el : TypeId} (b : Option Addr) (n c : Nat) (h : P.underlying t = some (.slice el)) :
    (binOp .eql t (.slice b n c) (.slice none 0 0)).run P w = .ok (.bool b.isNone) w := by
  simp only [binOp]
  have : (Op.equal t (.slice b n c) (.slice none 0 0)).run P w = .ok b.isNone w := run_equalIn_sl w 9999 b n c h
  simp [this]
theorem bin_ok (hty : TysOk P tys) {op : BinOp} {t : TypeId} {xo yo : Operand} {x y : Value} {K : Value → Prop} (h : bin tys op t x y K) :
    ∃ v, (∀ w' : World, (do eqGuard op t xo yo x y; binOp op t x y : Sem Value).run P w' = .ok v w') ∧ K v := by
  unfold bin at h
  split at h
  · rename_i k a k' b
    split at h
    · unfold ifB at h
      split at h
      · rename_i hb
        simp only [decide_eq_true_eq] at hb
        refine ⟨_, fun w' => ?_, h⟩
        have : ¬ b < 0 := by omega
        simp [eqGuard_at_int, binOp_shl, Op.shift, this]
      · exact h.elim
    · unfold ifB at h
      split at h
      · rename_i hb
        simp only [decide_eq_true_eq] at hb
        refine ⟨_, fun w' => ?_, h⟩
        have : ¬ b < 0 := by omega
        simp [eqGuard_at_int, binOp_shr, Op.shift, this]
      · exact h.elim
    · split at h
      · exact h.elim
      · rename_i hk
        simp only [decide_eq_true_eq] at hk
        subst hk
        split at h <;> first
          | exact h.elim
          | exact ⟨_, fun w' => by simp [eqGuard_at_int, binOp_add, binOp_sub, binOp_mul, Op.intArith, binOp_and, binOp_or, binOp_xor, binOp_andNot, intBits_and, intBits_or, intBits_xor, intBits_andNot, binOp_eql, binOp_neq, binOp_lss, binOp_leq, binOp_gtr, binOp_geq], h⟩
          | (unfold ifB at h
             split at h
             · exact h.elim
             · rename_i hb
               simp only [decide_eq_false_iff_not] at hb
               exact ⟨_, fun w' => by simp [eqGuard_at_int, binOp_quo, binOp_rem, Op.intDiv, hb], h⟩)
  · rename_i a b
    split at h
    · refine ⟨_, fun w' => ?_, h⟩
      simp only [Sem.run_bind, eqGuard_at_string, Sem.run_pure, Result.andThen_ok, binOp_string_eql]
    · refine ⟨_, fun w' => ?_, h⟩
      simp only [Sem.run_bind, eqGuard_at_string, Sem.run_pure, Result.andThen_ok, binOp_string_neq]
    · obtain ⟨hle, h⟩ := h
      refine ⟨_, fun w' => ?_, h⟩
      have h40 : (2 : Nat) ^ 40 = 1099511627776 := by decide
      rw [h40] at hle
      have hno : ¬ (((a.size + b.size : Nat) : Int) > IntKind.i64.max) := by
        have : IntKind.i64.max = 9223372036854775807 := by decide
        omega
      simp only [Sem.run_bind, eqGuard_at_string, Sem.run_pure, Result.andThen_ok, binOp_string_add, Op.stringOp, hno, if_false]
    · exact h.elim
  · rename_i a b
    split at h
    · rename_i ht
      have hu := (hty _ _ ht).und
      split at h
      · refine ⟨_, fun w' => ?_, h⟩
        simp only [Sem.run_bind, eqGuard_at_bool, Sem.run_pure, Result.andThen_ok, run_eql_bool w' _ _ _ hu]
      · refine ⟨_, fun w' => ?_, h⟩
        simp only [Sem.run_bind, eqGuard_at_bool, Sem.run_pure, Result.andThen_ok, run_neq_bool w' _ _ _ hu]
      · exact h.elim
    · exact h.elim
  · rename_i xs ys
    split at h
    · rename_i fs _ _ _ _ ht
      have hT := hty _ _ ht
      have hst := hT.stood
      simp only at hst
      have hu : P.underlying t = some (.struct (P.fieldsOf t)) := by
        have := hT.und
        simp only at this
        simp [Program.fieldsOf, this]
      have hfs : P.fieldsOf t = fs := by
        have := hT.und
        simp only at this
        simp [Program.fieldsOf, this]
      split at h
      · rename_i r hr
        have he : ∀ w', (Op.equalIn 10000 t (.agg xs) (.agg ys)).run P w' = .ok r w' := fun w' => by
          have h1 := run_equalIn_struct (P := P) w' 9999 t xs ys hu hst.1
          rw [h1, hfs]
          exact eqF_run (P := P) hty 9997 w' xs ys fs.toList r hr
        split at h
        · refine ⟨_, fun w' => ?_, h⟩
          simp only [Sem.run_bind, run_eqGuard_agg w' _ _ _ _ _ _ hst.2, Result.andThen_ok, run_eql_struct, he]
        · refine ⟨_, fun w' => ?_, h⟩
          simp only [Sem.run_bind, run_eqGuard_agg w' _ _ _ _ _ _ hst.2, Result.andThen_ok, run_neq_struct, he]
        · exact h.elim
      · exact h.elim
    · exact h.elim
  · rename_i p
    split at h
    · rename_i ht
      have hu := elem_eq (hty _ _ ht) rfl
      split at h
      · refine ⟨_, fun w' => ?_, h⟩
        simp only [Sem.run_bind, eqGuard_at_pointer, Sem.run_pure, Result.andThen_ok, run_eql_pointer_nil w' _ _ hu]
      · refine ⟨_, fun w' => ?_, h⟩
        simp only [Sem.run_bind, eqGuard_at_pointer, Sem.run_pure, Result.andThen_ok, run_neq_pointer_nil w' _ _ hu]
      · exact h.elim
    · exact h.elim
  · rename_i b _ _
    split at h
    · rename_i ht
      have hu := (hty _ _ ht).und
      split at h
      · refine ⟨_, fun w' => ?_, h⟩
        simp only [Sem.run_bind, eqGuard_at_slice, Sem.run_pure, Result.andThen_ok, run_eql_sl w' b _ _ hu]
      · refine ⟨_, fun w' => ?_, h⟩
        simp only [Sem.run_bind, eqGuard_at_slice, Sem.run_pure, Result.andThen_ok, run_neq_slice_nil_any w' _ _ _ _ _ _ _ hu]
      · exact h.elim
    · exact h.elim
  · rename_i r
    split at h
    · rename_i ht
      have hu := (hty _ _ ht).und
      split at h
      · refine ⟨_, fun w' => ?_, h⟩
        simp only [Sem.run_bind, eqGuard_at_map, Sem.run_pure, Result.andThen_ok, run_eql_map_nil w' _ _ _ _ hu]
      · refine ⟨_, fun w' => ?_, h⟩
        simp only [Sem.run_bind, eqGuard_at_map, Sem.run_pure, Result.andThen_ok, run_neq_map_nil w' _ _ _ _ hu]
      · exact h.elim
    · exact h.elim
  · exact h.elim
end
end Go.TS
