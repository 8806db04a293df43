/- The layer 'TS': soundness, regions that draw their order. -/
import Derived.Test.YtmcpegdmnogkbaaGreatDoorTsS7
set_option linter.unusedSimpArgs false
set_option linter.unusedVariables false
namespace Go.TS
open Go

def ancOk (M : List Nat) (ops : List Oper) : Bool := (List.range ops.length).all fun i => match ops[i]? with
  | some o => (preds o).all (fun k => Nat.blt k i) && (List.range ops.length).all fun j => !(ancB M j i) || (preds o).any fun k => Nat.beq k j || ancB M j k
  | none => true
def apOk (M : List Nat) (ops : List Oper) : Bool := (List.range ops.length).all fun i => (List.range ops.length).all fun j => Nat.beq i j || ancB M j i || ancB M i j ||
  match ops[i]?, ops[j]? with
  | some x, some y => x.apart ops.toArray y
  | _, _ => true
def ordOk (M : List Nat) (ops : List Oper) : Bool := Region.noSelect ops.toArray && ancOk M ops && apOk M ops && ops.all fun o => !isDefer o

structure PE where
  i : Nat
  o : Oper
  v : Value
  f : Fact

section
variable {P : Program} {tys : Tys} {cs : Calls'} {ops : List Oper} {M : List Nat} {n : Nat}

def Stp (P : Program) (ops : Array Oper) (a : Act) (p : PE) : Prop :=
  (Region.wanted p.o (yielded ops a.tmps) = true ∧ ∀ w : World, p.f w.heap → (execOp a.eval p.o).run P w = .ok (.value p.v) w) ∨ (Region.wanted p.o (yielded ops a.tmps) = false ∧ p.v = undef)
def Sq (P : Program) (ops : Array Oper) : Act → List PE → Prop
  | _, [] => True
  | a, p :: r => Stp P ops a p ∧ Sq P ops (a.put p.o.dst p.v) r
def finA : Act → List PE → Act
  | a, [] => a
  | a, p :: r => finA (a.put p.o.dst p.v) r
def finL : Array Bool → List PE → Array Bool
  | l, [] => l
  | l, p :: r => finL (l.setIfInBounds p.i true) r
def Pre (ops : Array Oper) : Array Bool → List PE → Prop
  | _, [] => True
  | l, p :: r => (p.i ∈ Region.ready .any ops l ∧ ops[p.i]? = some p.o) ∧ Pre ops (l.setIfInBounds p.i true) r

theorem finA_append (a : Act) (l : List PE) (p : PE) : finA a (l ++ [p]) = (finA a l).put p.o.dst p.v := by
  induction l generalizing a with
  | nil => rfl
  | cons q l ih => exact ih _
theorem finL_append (a : Array Bool) (l : List PE) (p : PE) : finL a (l ++ [p]) = (finL a l).setIfInBounds p.i true := by
  induction l generalizing a with
  | nil => rfl
  | cons q l ih => exact ih _
theorem sq_append {A : Array Oper} (a : Act) (l : List PE) (p : PE) (h : Sq P A a l) (hp : Stp P A (finA a l) p) : Sq P A a (l ++ [p]) := by
  induction l generalizing a with
  | nil => exact ⟨hp, trivial⟩
  | cons q l ih => exact ⟨h.1, ih _ h.2 hp⟩
theorem pre_append {A : Array Oper} (a : Array Bool) (l : List PE) (p : PE) (h : Pre A a l) (hp : p.i ∈ Region.ready .any A (finL a l) ∧ A[p.i]? = some p.o) : Pre A a (l ++ [p]) := by
  induction l generalizing a with
  | nil => exact ⟨hp, trivial⟩
  | cons q l ih => exact ⟨h.1, ih _ h.2 hp⟩

/-- one that is apart from what is pending may go ahead of it -/
theorem stp_put {A : Array Oper} {a : Act} {p : PE} {x : Option Tmp} {v : Value} (hs : ∀ cs b, p.o.op ≠ .select cs b) (h : ∀ d, x = some d → d ∉ p.o.looksAt A) : Stp P A (a.put x v) p ↔ Stp P A a p := by
  unfold Stp
  rw [wanted_put p.o a x v h, execOp_put p.o hs a x v h]

theorem sq_put {A : Array Oper} {o : Oper} {v : Value} : ∀ (l : List PE) (a : Act), (∀ p, p ∈ l → o.apart A p.o = true) → (∀ p, p ∈ l → ∀ cs b, p.o.op ≠ .select cs b) → Sq P A a l → Sq P A (a.put o.dst v) l := by
  intro l
  induction l with
  | nil => intro a _ _ _; trivial
  | cons p l ih =>
    intro a hap hsel h
    have hsp := Oper.apart_spec (hap p (by simp))
    refine ⟨(stp_put (hsel p (by simp)) hsp.1).2 h.1, ?_⟩
    rw [Act.put_comm a v p.v hsp.2.1]
    exact ih _ (fun q hq => hap q (by simp [hq])) (fun q hq => hsel q (by simp [hq])) h.2
theorem finA_put {A : Array Oper} {o : Oper} {v : Value} : ∀ (l : List PE) (a : Act), (∀ p, p ∈ l → o.apart A p.o = true) → finA (a.put o.dst v) l = (finA a l).put o.dst v := by
  intro l
  induction l with
  | nil => intro a _; rfl
  | cons p l ih =>
    intro a hap
    have hsp := Oper.apart_spec (hap p (by simp))
    simp only [finA]
    rw [Act.put_comm a v p.v hsp.2.1]
    exact ih _ (fun q hq => hap q (by simp [hq]))
theorem exec_fin {A : Array Oper} {o : Oper} (hs : ∀ cs b, o.op ≠ .select cs b) : ∀ (l : List PE) (a : Act), (∀ p, p ∈ l → o.apart A p.o = true) → execOp (finA a l).eval o = execOp a.eval o ∧ Region.wanted o (yielded A (finA a l).tmps) = Region.wanted o (yielded A a.tmps) := by
  intro l
  induction l with
  | nil => intro a _; exact ⟨rfl, rfl⟩
  | cons p l ih =>
    intro a hap
    have hsp := Oper.apart_spec (hap p (by simp))
    obtain ⟨h1, h2⟩ := ih (a.put p.o.dst p.v) (fun q hq => hap q (by simp [hq]))
    simp only [finA]
    rw [h1, h2, execOp_put o hs a _ _ hsp.2.2, wanted_put o a _ _ hsp.2.2]
    exact ⟨rfl, rfl⟩

theorem set_comm (l : Array Bool) (i j : Nat) : (l.setIfInBounds i true).setIfInBounds j true = (l.setIfInBounds j true).setIfInBounds i true := by
  by_cases h : i = j
  · subst h; rfl
  · exact Array.setIfInBounds_comm _ _ h
theorem finL_set : ∀ (l : List PE) (L : Array Bool) (i : Nat), finL (L.setIfInBounds i true) l = (finL L l).setIfInBounds i true := by
  intro l
  induction l with
  | nil => intro L i; rfl
  | cons p l ih => intro L i; simp only [finL]; rw [set_comm, ih]
theorem pre_set {A : Array Oper} {i : Nat} : ∀ (l : List PE) (L : Array Bool), (∀ p, p ∈ l → p.i ≠ i) → Pre A L l → Pre A (L.setIfInBounds i true) l := by
  intro l
  induction l with
  | nil => intro L _ _; trivial
  | cons p l ih =>
    intro L hne h
    refine ⟨⟨ready_mono h.1.1 (hne p (by simp)), h.1.2⟩, ?_⟩
    rw [set_comm]
    exact ih _ (fun q hq => hne q (by simp [hq])) h.2
theorem ready_fin {A : Array Oper} {i : Nat} : ∀ (l : List PE) (L : Array Bool), (∀ p, p ∈ l → p.i ≠ i) → i ∈ Region.ready .any A L → i ∈ Region.ready .any A (finL L l) := by
  intro l
  induction l with
  | nil => intro L _ h; exact h
  | cons p l ih =>
    intro L hne h
    exact ih _ (fun q hq => hne q (by simp [hq])) (ready_mono h (Ne.symm (hne p (by simp))))

/-- downward closed -/
def DC (A : Array Oper) (L : Array Bool) : Prop := ∀ i o, A[i]? = some o → L.getD i false = true → ∀ e, e ∈ o.after → Region.binds .any e = true → L.getD e.on false = true
theorem dc_set {A : Array Oper} {L : Array Bool} {i : Nat} (h : DC A L) (hi : i ∈ Region.ready .any A L) : DC A (L.setIfInBounds i true) := by
  intro j o hj hl e he hb
  by_cases hij : i = j
  · subst hij
    obtain ⟨_, o', ho', hall⟩ := mem_ready.1 hi
    rw [hj] at ho'
    cases ho'
    exact getD_set_true (hall e he hb)
  · rw [getD_set_ne false hij] at hl
    exact getD_set_true (h j o hj hl e he hb)
theorem mem_preds {o : Oper} {k : Nat} : k ∈ preds o ↔ ∃ e, e ∈ o.after ∧ Region.binds .any e = true ∧ e.on = k := by
  unfold preds
  rw [List.mem_filterMap]
  constructor
  · rintro ⟨e, he, h⟩
    cases hb : Region.binds .any e
    · rw [hb] at h; simp at h
    · rw [hb] at h; simp at h; exact ⟨e, by simpa using he, hb, h⟩
  · rintro ⟨e, he, hb, h⟩
    exact ⟨e, by simpa using he, by rw [hb]; simp [h]⟩

theorem anc_in {L : Array Bool} (hchk : ancOk M ops = true) (hdc : DC ops.toArray L) : ∀ (i : Nat) (o : Oper), ops[i]? = some o → (∀ e, e ∈ o.after → Region.binds .any e = true → L.getD e.on false = true) →
    ∀ j, j < ops.length → ancB M j i = true → L.getD j false = true := by
  intro i
  induction i using Nat.strongRecOn with
  | _ i ih =>
    intro o ho hp j hj ha
    have hi : i < ops.length := (List.getElem?_eq_some_iff.1 ho).1
    have h1 := List.all_eq_true.1 hchk i (List.mem_range.2 hi)
    rw [ho] at h1
    simp only [Bool.and_eq_true, List.all_eq_true] at h1
    obtain ⟨hlt, h2⟩ := h1
    have h3 := h2 j (List.mem_range.2 hj)
    rw [ha] at h3
    simp only [Bool.not_true, Bool.false_or, List.any_eq_true, Bool.or_eq_true] at h3
    obtain ⟨k, hk, h4⟩ := h3
    obtain ⟨e, he, hb, rfl⟩ := mem_preds.1 hk
    have hL := hp e he hb
    rcases h4 with h4 | h4
    · rw [← Nat.eq_of_beq_eq_true h4]; exact hL
    · have hki : e.on < i := by have := hlt _ hk; rwa [Nat.blt_eq] at this
      obtain ⟨o2, ho2⟩ : ∃ o2, ops[e.on]? = some o2 := ⟨_, List.getElem?_eq_getElem (by omega)⟩
      exact ih e.on hki o2 ho2 (fun e2 he2 hb2 => hdc e.on o2 (by simpa using ho2) hL e2 he2 hb2) j hj h4

theorem not_listed {A : Array Oper} {L : Array Bool} {i : Nat} (h : i ∈ Region.ready .any A L) : L.getD i false = false := by
  obtain ⟨h0, _⟩ := mem_ready.1 h
  have : i < L.size := by
    rcases Nat.lt_or_ge i L.size with hh | hh
    · exact hh
    · simp [Array.getElem?_eq_none hh] at h0
  simp [this] at h0
  simp [this, h0]

/-- what may go next is apart from all that is pending, but itself -/
theorem pend_apart (hord : ordOk M ops = true) {i : Nat} {o : Oper} (ho : ops[i]? = some o) : ∀ (l : List PE) (L : Array Bool), DC ops.toArray L → i ∈ Region.ready .any ops.toArray L → Pre ops.toArray L l → (∀ p, p ∈ l → p.i ≠ i) →
    ∀ p, p ∈ l → o.apart ops.toArray p.o = true := by
  simp only [ordOk, Bool.and_eq_true] at hord
  obtain ⟨⟨⟨_, hanc⟩, hap⟩, _⟩ := hord
  intro l
  induction l with
  | nil => intro L _ _ _ _ p hp; cases hp
  | cons q l ih =>
    intro L hdc hi hpre hne p hp
    cases hp with
    | tail _ hp =>
      exact ih _ (dc_set hdc hpre.1.1) (ready_mono hi (Ne.symm (hne q (by simp)))) hpre.2 (fun r hr => hne r (by simp [hr])) p hp
    | head =>
      have hq : ops[q.i]? = some q.o := by simpa using hpre.1.2
      have hli : i < ops.length := (List.getElem?_eq_some_iff.1 ho).1
      have hlq : q.i < ops.length := (List.getElem?_eq_some_iff.1 hq).1
      have h1 := List.all_eq_true.1 hap i (List.mem_range.2 hli)
      have h2 := List.all_eq_true.1 h1 q.i (List.mem_range.2 hlq)
      rw [ho, hq] at h2
      simp only [Bool.or_eq_true] at h2
      rcases h2 with ((h2 | h2) | h2) | h2
      · exact absurd (Nat.eq_of_beq_eq_true h2).symm (hne q (by simp))
      · obtain ⟨_, o', ho', hall⟩ := mem_ready.1 hi
        have ho2 : ops[i]? = some o' := by simpa using ho'
        have := anc_in hanc hdc i o' ho2 hall q.i hlq h2
        rw [not_listed hpre.1.1] at this
        cases this
      · obtain ⟨_, o', ho', hall⟩ := mem_ready.1 hpre.1.1
        have ho2 : ops[q.i]? = some o' := by simpa using ho'
        have := anc_in hanc hdc q.i o' ho2 hall i hli h2
        rw [not_listed hi] at this
        cases this
      · exact h2

theorem pre_ne {A : Array Oper} {i : Nat} : ∀ (l : List PE) (L : Array Bool), Pre A L l → L.getD i false = true → ∀ p, p ∈ l → p.i ≠ i := by
  intro l
  induction l with
  | nil => intro L _ _ p hp; cases hp
  | cons q l ih =>
    intro L h hi p hp
    cases hp with
    | head => intro hh; have := not_listed h.1.1; rw [hh, hi] at this; cases this
    | tail _ hp => exact ih _ h.2 (getD_set_true hi) p hp
theorem ready_lt {A : Array Oper} {L : Array Bool} {i : Nat} (h : i ∈ Region.ready .any A L) : i < A.size := by
  obtain ⟨_, o, ho, _⟩ := mem_ready.1 h
  exact (Array.getElem?_eq_some_iff.1 ho).1
theorem set_self {L : Array Bool} {i : Nat} (h : i < L.size) : (L.setIfInBounds i true).getD i false = true := by simp [h]
theorem size_finL : ∀ (l : List PE) (L : Array Bool), (finL L l).size = L.size := by
  intro l
  induction l with
  | nil => intro L; rfl
  | cons q l ih => intro L; simp only [finL]; rw [ih]; simp

theorem front (hord : ordOk M ops = true) (p : PE) (post : List PE) (ho : ops[p.i]? = some p.o) : ∀ (pre : List PE) (a : Act) (L : Array Bool), L.size = ops.length → DC ops.toArray L → p.i ∈ Region.ready .any ops.toArray L →
    Pre ops.toArray L (pre ++ p :: post) → Sq P ops.toArray a (pre ++ p :: post) →
    Stp P ops.toArray a p ∧ Sq P ops.toArray (a.put p.o.dst p.v) (pre ++ post) ∧ Pre ops.toArray (L.setIfInBounds p.i true) (pre ++ post) ∧
      finA (a.put p.o.dst p.v) (pre ++ post) = finA a (pre ++ p :: post) ∧ finL (L.setIfInBounds p.i true) (pre ++ post) = finL L (pre ++ p :: post) := by
  have hsel := hord
  simp only [ordOk, Bool.and_eq_true] at hsel
  have hns := hsel.1.1.1
  intro pre
  induction pre with
  | nil => intro a L _ _ _ hpre hsq; exact ⟨hsq.1, hsq.2, hpre.2, rfl, rfl⟩
  | cons q pre ih =>
    intro a L hsz hdc hi hpre hsq
    have hqi : q.i ∈ Region.ready .any ops.toArray L := hpre.1.1
    have hqs : q.i < L.size := by have := ready_lt hqi; simp at this; omega
    have hne : p.i ≠ q.i := pre_ne _ _ hpre.2 (set_self hqs) p (by simp)
    have hap : p.o.apart ops.toArray q.o = true := pend_apart hord ho [q] L hdc hi ⟨hpre.1, trivial⟩ (fun r hr => by simp at hr; subst hr; exact Ne.symm hne) q (by simp)
    have hsp := Oper.apart_spec hap
    have hsp' : ∀ cs b, p.o.op ≠ .select cs b := fun cs b => Region.noSelect_spec hns p.i p.o cs b (by simpa using ho)
    have hsq' : ∀ cs b, q.o.op ≠ .select cs b := fun cs b => Region.noSelect_spec hns q.i q.o cs b hpre.1.2
    obtain ⟨h1, h2, h3, h4, h5⟩ := ih (a.put q.o.dst q.v) (L.setIfInBounds q.i true) (by simpa using hsz) (dc_set hdc hqi) (ready_mono hi hne) hpre.2 hsq.2
    refine ⟨(stp_put hsp' hsp.2.2).1 h1, ⟨(stp_put hsq' hsp.1).2 hsq.1, ?_⟩, ⟨⟨ready_mono hqi (Ne.symm hne), hpre.1.2⟩, ?_⟩, ?_, ?_⟩
    · rw [Act.put_comm a p.v q.v hsp.2.1]; exact h2
    · rw [set_comm]; exact h3
    · show finA ((a.put p.o.dst p.v).put q.o.dst q.v) (pre ++ post) = _
      rw [Act.put_comm a p.v q.v hsp.2.1]; exact h4
    · show finL ((L.setIfInBounds p.i true).setIfInBounds q.i true) (pre ++ post) = _
      rw [set_comm]; exact h5

theorem allP_mem {l : List Nat} {f : Nat → Prop} (h : allP l f) : ∀ i, i ∈ l → f i := by
  induction l with
  | nil => intro i hi; cases hi
  | cons x l ih =>
    intro i hi
    cases l with
    | nil => simp at hi; subst hi; exact h
    | cons y r =>
      cases hi with
      | head => exact h.1
      | tail _ hi => exact ih h.2 i hi

theorem facts_ok {h : Mem} {X : Prop} : ∀ {l : List (Nat × Fact)}, facts h l X → (∀ j f, (j, f) ∈ l → f h) ∧ X := by
  intro l
  induction l with
  | nil => intro hx; exact ⟨fun j f hm => (by cases hm), hx⟩
  | cons q l ih =>
    obtain ⟨j, f⟩ := q
    rintro ⟨hf, hx⟩
    obtain ⟨h1, h2⟩ := ih hx
    refine ⟨fun k g hm => ?_, h2⟩
    cases hm with
    | head => exact hf
    | tail _ hm => exact h1 k g hm

theorem mem_keepR {M : List Nat} {i j : Nat} {f : Fact} : ∀ {R : List (Nat × Fact)}, (j, f) ∈ R → ancB M j i = false → (j, f) ∈ keepR M i R := by
  intro R
  induction R with
  | nil => intro h; cases h
  | cons q R ih =>
    obtain ⟨k, g⟩ := q
    intro h ha
    simp only [keepR]
    cases h with
    | head => rw [ha]; simp
    | tail _ h =>
      split
      · exact ih h ha
      · exact List.mem_cons_of_mem _ (ih h ha)

theorem wpOp_of {ro : Option Nat} {m : Nat} {a : Act} {w : World} {Q : Exit → Act → World → Prop} {p : PE} {N : Act → World → Prop} (hdf : ∀ c, p.o.op ≠ .defer c) (ho : ops[p.i]? = some p.o) (h : Stp P ops.toArray a p) (hf : p.f w.heap) (hn : N (a.put p.o.dst p.v) w) : wpOpIn (Fw ro) m P ops.toArray Q p.i N a w := by
  unfold wpOpIn
  rw [show ops.toArray[p.i]? = some p.o by simpa using ho]
  rcases h with ⟨hw, hr⟩ | ⟨hw, hv⟩
  · simp only [hw, if_true]
    refine ⟨fun _ _ => trivial, ?_⟩
    rw [Oper.semAt_eq _ _ _ hdf, hr w hf]
    exact hn
  · simp only [hw]
    rw [hv] at hn
    exact ⟨fun _ _ => trivial, hn⟩

theorem dst_lt (hd : ∀ o, o ∈ ops → dstOk n o = true) {i : Nat} {o : Oper} (ho : ops[i]? = some o) : ∀ d, o.dst = some d → d < n := by
  intro d hdd
  have := hd o (List.mem_of_getElem? ho)
  simp only [dstOk, hdd] at this
  rwa [Nat.blt_eq] at this
theorem dst_mem {o : Oper} : ∀ {ops : List Oper} (_ : o ∈ ops), ∀ d, o.dst = some d → d ∈ writesO ops := by
  intro ops
  induction ops with
  | nil => intro h; cases h
  | cons x ops ih =>
    intro h d hd
    cases h with
    | head => simp [writesO, hd]
    | tail _ h => simp only [writesO]; split <;> simp [ih h d hd]

theorem quiet_still {op : Op} (h : isQuiet tys op = true) : (isStill op && !isFreeze tys op) = true := by
  cases op with
  | convert src dst x =>
    simp only [isQuiet, isPure] at h
    split at h
    · rename_i hd; simp [isStill, isFreeze, hd]
    · cases h
  | call c =>
    obtain ⟨callee, args, ts⟩ := c
    cases callee with
    | builtin b => cases b <;> simp_all [isQuiet, isPure, isStill, isFreeze]
    | _ => simp_all [isQuiet, isPure, isStill, isFreeze]
  | _ => simp_all [isQuiet, isPure, isStill, isFreeze]
theorem quiet_pure {op : Op} (h : isQuiet tys op = true) (hl : isLoad op = false) : isPure tys op = true := by
  cases op <;> simp_all [isQuiet, isLoad]

theorem pre_mem {A : Array Oper} : ∀ (l : List PE) (L : Array Bool), Pre A L l → ∀ p, p ∈ l → A[p.i]? = some p.o ∧ L.getD p.i false = false := by
  intro l
  induction l with
  | nil => intro L _ p hp; cases hp
  | cons q l ih =>
    intro L h p hp
    cases hp with
    | head => exact ⟨h.1.2, not_listed h.1.1⟩
    | tail _ hp =>
      obtain ⟨h1, h2⟩ := ih _ h.2 p hp
      refine ⟨h1, ?_⟩
      cases hb : L.getD p.i false with
      | false => rfl
      | true => rw [getD_set_true hb] at h2; cases h2

theorem denA_main {ro : Option Nat} {fm : Nat} (hty : TysOk P tys) (hcs : CallsOk P cs) (hord : ordOk M ops = true) (hd : ∀ o, o ∈ ops → dstOk n o = true) {ds : List Deferred} {K : Env → Mem → Prop} {Q : Exit → Act → World → Prop} :
    ∀ (F m : Nat) (L : Array Bool) (R : List (Nat × Fact)) (e : Env) (a : Act) (pend : List PE) (w : World), F = m + pend.length →
    denA tys cs M ops m (finL L pend) R e w.heap K → Rel n e ds (finA a pend) → Sq P ops.toArray a pend → Pre ops.toArray L pend → (∀ p, p ∈ pend → p.f w.heap) → (∀ p, p ∈ pend → (∀ h, p.f h) ∨ (p.i, p.f) ∈ R) →
    L.size = ops.length → DC ops.toArray L →
    (∀ e' a' w', K e' w'.heap → Rel n e' ds a' → Fr (writesO ops) true a a' → Same w w' → Q .normal a' w') →
    wpAnyIn (Fw ro) fm P .any ops.toArray Q F L a w := by
  have hsel := hord
  simp only [ordOk, Bool.and_eq_true] at hsel
  have hns := hsel.1.1.1
  have hanc := hsel.1.1.2
  have hndf : ∀ (i : Nat) (o : Oper), ops[i]? = some o → ∀ c, o.op ≠ .defer c := fun i o ho c hc => by
    have := List.all_eq_true.1 hsel.2 o (List.mem_of_getElem? ho)
    simp [isDefer, hc] at this
  intro F
  induction F with
  | zero =>
    intro m L R e a pend w hF hden hrel hsq hpre hf hfr hsz hdc hq
    have hm : m = 0 := by omega
    have hp : pend = [] := List.length_eq_zero_iff.1 (by omega)
    subst hm
    subst hp
    simp only [denA] at hden
    split at hden
    · rename_i hr
      exact ⟨hr, hq e a w hden hrel (Fr.refl _ _ _) (.refl w)⟩
    · exact hden.elim
  | succ F ihF =>
    -- one that is pending goes now
    have hfront : ∀ (m : Nat) (L : Array Bool) (R : List (Nat × Fact)) (e : Env) (a : Act) (pend : List PE) (w : World), F + 1 = m + pend.length →
        denA tys cs M ops m (finL L pend) R e w.heap K → Rel n e ds (finA a pend) → Sq P ops.toArray a pend → Pre ops.toArray L pend → (∀ p, p ∈ pend → p.f w.heap) → (∀ p, p ∈ pend → (∀ h, p.f h) ∨ (p.i, p.f) ∈ R) →
        L.size = ops.length → DC ops.toArray L →
        (∀ e' a' w', K e' w'.heap → Rel n e' ds a' → Fr (writesO ops) true a a' → Same w w' → Q .normal a' w') →
        ∀ p, p ∈ pend → p.i ∈ Region.ready .any ops.toArray L → wpOpIn (Fw ro) fm P ops.toArray Q p.i (wpAnyIn (Fw ro) fm P .any ops.toArray Q F (L.setIfInBounds p.i true)) a w := by
      intro m L R e a pend w hF hden hrel hsq hpre hf hfr hsz hdc hq p hp hi
      have ho : ops[p.i]? = some p.o := by simpa using (pre_mem pend L hpre p hp).1
      obtain ⟨pre, post, rfl⟩ := List.append_of_mem hp
      obtain ⟨h1, h2, h3, h4, h5⟩ := front hord p post ho pre a L hsz hdc hi hpre hsq
      refine wpOp_of (hndf _ _ ho) ho h1 (hf p hp) ?_
      have sub : ∀ q, q ∈ pre ++ post → q ∈ pre ++ p :: post := fun q hq => by simp at hq ⊢; rcases hq with h | h <;> simp [h]
      refine ihF m _ R e _ (pre ++ post) w (by simp at hF ⊢; omega) (by rw [h5]; exact hden) (by rw [h4]; exact hrel) h2 h3 (fun q hq => hf q (sub q hq)) (fun q hq => hfr q (sub q hq)) (by simpa using hsz) (dc_set hdc hi) ?_
      intro e' a' w' hK hR hFr hS
      exact hq e' a' w' hK hR ((fr_put a p.o.dst p.v _ _ (dst_mem (List.mem_of_getElem? ho))).trans hFr) hS
    have hnil : ∀ (L : Array Bool) (pend : List PE), Pre ops.toArray L pend → Region.ready .any ops.toArray L = [] → pend = [] := by
      intro L pend hpre hr
      cases pend with
      | nil => rfl
      | cons p l => have := hpre.1.1; rw [hr] at this; cases this
    intro m
    induction m with
    | zero =>
      intro L R e a pend w hF hden hrel hsq hpre hf hfr hsz hdc hq
      refine ⟨fun hr => ?_, fun i hi => ?_⟩
      · have := hnil L pend hpre hr; subst this; simp at hF
      · by_cases hin : ∃ p, p ∈ pend ∧ p.i = i
        · obtain ⟨p, hp, rfl⟩ := hin
          exact hfront 0 L R e a pend w hF hden hrel hsq hpre hf hfr hsz hdc hq p hp hi
        · have hr := ready_fin pend L (fun p hp hpi => hin ⟨p, hp, hpi⟩) hi
          simp only [denA] at hden
          split at hden
          · rename_i hnil2; rw [hnil2] at hr; cases hr
          · exact hden.elim
    | succ m ihm =>
      intro L R e a pend w hF hden hrel hsq hpre hf hfr hsz hdc hq
      have hden0 := hden
      simp only [denA] at hden
      split at hden
      · -- a quiet one is ready: it goes at once
        rename_i i hfind
        have hqi := List.find?_some hfind
        have hri := List.mem_of_find?_eq_some hfind
        split at hden
        · exact hden.elim
        · rename_i o ho
          simp only [ho] at hqi
          obtain ⟨e', b, he', hw, hden⟩ := grd_ok hrel.ok hden
          have hrel' : Rel n e' ds (finA a pend) := ⟨hrel.size, hrel.defers, he'⟩
          have hlen : ∀ p : PE, F + 1 = m + (pend ++ [p]).length := fun p => by simp; omega
          have hoA : ops.toArray[i]? = some o := by simpa using ho
          cases b with
          | false =>
            refine ihm L R (bindE o.dst undef e') a (pend ++ [⟨i, o, undef, fun _ => True⟩]) w (hlen _) ?_ ?_ (sq_append _ _ _ hsq (.inr ⟨hw, rfl⟩)) (pre_append _ _ _ hpre ⟨hri, hoA⟩) ?_ ?_ hsz hdc hq
            · rw [finL_append]; exact hden
            · rw [finA_append]; exact rel_put hrel' (dst_lt hd ho)
            · intro p hp; rw [List.mem_append] at hp; rcases hp with hp | hp
              · exact hf p hp
              · simp at hp; subst hp; trivial
            · intro p hp; rw [List.mem_append] at hp; rcases hp with hp | hp
              · exact hfr p hp
              · simp at hp; subst hp; exact .inl fun _ => trivial
          | true =>
            simp only at hden
            obtain ⟨v, hrun, hpure, hload, hK⟩ := still_ok (P := P) (w := w) hty he' o.type (quiet_still hqi) hden
            cases hl : isLoad o.op with
            | false =>
              rw [hl] at hK
              have hp := hpure (quiet_pure hqi hl)
              refine ihm L R (bindE o.dst v e') a (pend ++ [⟨i, o, v, fun _ => True⟩]) w (hlen _) ?_ ?_ (sq_append _ _ _ hsq (.inl ⟨hw, fun w' _ => hp w' _ _ _ _⟩)) (pre_append _ _ _ hpre ⟨hri, hoA⟩) ?_ ?_ hsz hdc hq
              · rw [finL_append]; exact hK
              · rw [finA_append]; exact rel_put hrel' (dst_lt hd ho)
              · intro p hp; rw [List.mem_append] at hp; rcases hp with hp | hp
                · exact hf p hp
                · simp at hp; subst hp; trivial
              · intro p hp; rw [List.mem_append] at hp; rcases hp with hp | hp
                · exact hfr p hp
                · simp at hp; subst hp; exact .inl fun _ => trivial
            | true =>
              rw [hl] at hK
              obtain ⟨hfact, hrf⟩ := hload hl
              refine ihm L ((i, factOf e' o.op v) :: R) (bindE o.dst v e') a (pend ++ [⟨i, o, v, factOf e' o.op v⟩]) w (hlen _) ?_ ?_ (sq_append _ _ _ hsq (.inl ⟨hw, fun w' h => hrf w' h _ _ _ _⟩)) (pre_append _ _ _ hpre ⟨hri, hoA⟩) ?_ ?_ hsz hdc hq
              · rw [finL_append]; exact hK
              · rw [finA_append]; exact rel_put hrel' (dst_lt hd ho)
              · intro p hp; rw [List.mem_append] at hp; rcases hp with hp | hp
                · exact hf p hp
                · simp at hp; subst hp; exact hfact
              · intro p hp; rw [List.mem_append] at hp; rcases hp with hp | hp
                · rcases hfr p hp with h | h
                  · exact .inl h
                  · exact .inr (List.mem_cons_of_mem _ h)
                · simp at hp; subst hp; exact .inr (by simp)
      · -- none is quiet
        split at hden
        · rename_i hr
          refine ⟨fun hrL => ?_, fun i hi => ?_⟩
          · have := hnil L pend hpre hrL
            subst this
            exact hq e a w hden hrel (Fr.refl _ _ _) (.refl w)
          · by_cases hin : ∃ p, p ∈ pend ∧ p.i = i
            · obtain ⟨p, hp, rfl⟩ := hin
              exact hfront (m + 1) L R e a pend w hF hden0 hrel hsq hpre hf hfr hsz hdc hq p hp hi
            · have hr2 := ready_fin pend L (fun p hp hpi => hin ⟨p, hp, hpi⟩) hi
              rw [hr] at hr2; cases hr2
        · rename_i hl
          refine ⟨fun hrL => ?_, fun i hi => ?_⟩
          · have := hnil L pend hpre hrL
            subst this
            exact absurd hrL (fun h => hl h)
          · by_cases hin : ∃ p, p ∈ pend ∧ p.i = i
            · obtain ⟨p, hp, rfl⟩ := hin
              exact hfront (m + 1) L R e a pend w hF hden0 hrel hsq hpre hf hfr hsz hdc hq p hp hi
            · have hne : ∀ p, p ∈ pend → p.i ≠ i := fun p hp hpi => hin ⟨p, hp, hpi⟩
              have hr2 := ready_fin pend L hne hi
              have hden := allP_mem hden i hr2
              split at hden
              · exact hden.elim
              · rename_i o ho
                have hoA : ops.toArray[i]? = some o := by simpa using ho
                have hap := pend_apart hord ho pend L hdc hi hpre hne
                have hsl := fun cs b => Region.noSelect_spec hns i o cs b hoA
                obtain ⟨hex, hwt⟩ := exec_fin (A := ops.toArray) hsl pend a hap
                have hsq' : ∀ v, Sq P ops.toArray (a.put o.dst v) pend := fun v => sq_put pend a hap (fun p hp cs b => Region.noSelect_spec hns p.i p.o cs b (pre_mem pend L hpre p hp).1) hsq
                have hpre' := pre_set (i := i) pend L hne hpre
                obtain ⟨e', b, he', hw, hden⟩ := grd_ok hrel.ok hden
                rw [hwt] at hw
                have hrel' : ∀ v, Rel n (bindE o.dst v e') ds (finA (a.put o.dst v) pend) := fun v => by
                  rw [finA_put pend a hap]
                  exact rel_put ⟨hrel.size, hrel.defers, he'⟩ (dst_lt hd ho)
                have hq' : ∀ (v : Value) (w1 : World), Same w w1 → ∀ e' a' w', K e' w'.heap → Rel n e' ds a' → Fr (writesO ops) true (a.put o.dst v) a' → Same w1 w' → Q .normal a' w' := fun v w1 hS1 e' a' w' hK hR hFr hS =>
                  hq e' a' w' hK hR ((fr_put a o.dst v _ _ (dst_mem (List.mem_of_getElem? ho))).trans hFr) (hS1.trans hS)
                have hkeep : ∀ p, p ∈ pend → (∀ h, p.f h) ∨ (p.i, p.f) ∈ keepR M i R := by
                  intro p hp
                  rcases hfr p hp with h | h
                  · exact .inl h
                  · refine .inr (mem_keepR h ?_)
                    obtain ⟨hpo, hpl⟩ := pre_mem pend L hpre p hp
                    cases hb : ancB M p.i i with
                    | false => rfl
                    | true =>
                      obtain ⟨_, o', ho', hall⟩ := mem_ready.1 hi
                      have ho2 : ops[i]? = some o' := by simpa using ho'
                      have hlt : p.i < ops.length := by have := (Array.getElem?_eq_some_iff.1 hpo).1; simpa using this
                      have := anc_in hanc hdc i o' ho2 hall p.i hlt hb
                      rw [hpl] at this; cases this
                unfold wpOpIn
                rw [hoA]
                cases b with
                | false =>
                  simp only [hw]
                  refine ⟨fun _ _ => trivial, ?_⟩
                  refine ihF m _ (keepR M i R) (bindE o.dst undef e') _ pend w (by omega) ?_ (hrel' _) (hsq' _) hpre' hf hkeep (by simpa using hsz) (dc_set hdc hi) (hq' _ w (.refl w))
                  rw [finL_set]; exact hden
                | true =>
                  simp only [hw, if_true]
                  simp only at hden
                  split at hden
                  · rename_i hst
                    obtain ⟨v, hrun, _, _, hK⟩ := still_ok (P := P) (w := w) hty he' o.type hst hden
                    refine ⟨fun _ _ => trivial, ?_⟩
                    rw [Oper.semAt_eq _ _ _ (hndf i o ho)]
                    have hrun := hrun o.dst o.pos o.after o.guard
                    have : (execOp a.eval o).run P w = .ok (.value v) w := by rw [← hex]; exact hrun
                    rw [this]
                    refine ihF m _ (keepR M i R) (bindE o.dst v e') _ pend w (by omega) ?_ (hrel' _) (hsq' _) hpre' hf hkeep (by simpa using hsz) (dc_set hdc hi) (hq' _ w (.refl w))
                    rw [finL_set]; exact hK
                  · have hg := eff_gives (P := P) (dst := o.dst) (ty := o.type) (pos := o.pos) (aft := o.after) (g := o.guard) hty hcs he' hden
                    rw [show (⟨o.dst, o.op, o.type, o.pos, o.after, o.guard⟩ : Oper) = o from rfl, hex] at hg
                    refine gives_wp (hndf i o ho) hg ?_
                    intro v w' hK hS
                    obtain ⟨hfs, hK⟩ := facts_ok hK
                    refine ihF m _ (keepR M i R) (bindE o.dst v e') _ pend w' (by omega) ?_ (hrel' _) (hsq' _) hpre' ?_ hkeep (by simpa using hsz) (dc_set hdc hi) (hq' _ w' hS)
                    · rw [finL_set]; exact hK
                    · intro p hp
                      rcases hkeep p hp with h | h
                      · exact h _
                      · exact hfs _ _ h
end
end Go.TS
