/- The layer 'XS': calls of a closed run, each run by itself: a call is told by what it starts with and by what it ends with; a longer run takes it as a contract. -/
import Derived.Test.YtmcpegdmnogkbaaGreatDoorXsClosed
set_option linter.unusedSimpArgs false
set_option linter.unusedVariables false
namespace Go.XS
open Go Go.TS
noncomputable section
/-- are two values the same? (closures, too) -/
def eqW1 (a b : AV) : Bool := match a with
  | .fn f xs ys => match b with
    | .fn g us vs => match fnEq f g with
      | true => match eqVL xs us with
        | true => eqVL ys vs
        | false => false
      | false => false
    | _ => false
  | a => eqV a b
def eqWL (a : List AV) : List AV → Bool :=
  List.rec (motive := fun _ => List AV → Bool) (fun b => match b with | [] => true | _ => false) (fun x _ ih b => match b with
    | y :: s => match eqW1 x y with
      | true => ih s
      | false => false
    | [] => false) a
def eqMW (a : List (Int × AV)) : List (Int × AV) → Bool :=
  List.rec (motive := fun _ => List (Int × AV) → Bool) (fun b => match b with | [] => true | _ => false) (fun x _ ih b => match b with
    | y :: s => match iEq x.1 y.1 with
      | true => match eqW1 x.2 y.2 with
        | true => ih s
        | false => false
      | false => false
    | [] => false) a
def eqOW (a : Option AO) (b : AO) : Bool := match a with
  | none => false
  | some (.cells (.l xs)) => match b with
    | .cells (.l ys) => eqWL xs ys
    | _ => false
  | some (.map kk mk m) => match b with
    | .map kk' mk' m' => match kcEq kk kk' with
      | true => match mkEq mk mk' with
        | true => eqMW m m'
        | false => false
      | false => false
    | _ => false
  | some a => eqO (some a) (some b)
/-- a call: its arguments; the name that is taken next; blocks that it leaves as they are, blocks that it changes; its result, the name that is taken next, blocks that it changed or made -/
structure ME where
  ags : List AV
  nx : P
  ks : List (P × AO)
  cs : List (P × AO)
  v : AV
  nx' : P
  ts : List (P × AO)
def putA (l : List (P × AO)) (t : PT AO) : PT AO := List.rec (motive := fun _ => PT AO) t (fun q _ ih => PT.put ih q.1 q.2) l
def delA (l : List (P × AO)) (t : PT AO) : PT AO := List.rec (motive := fun _ => PT AO) t (fun q _ ih => PT.del ih q.1) l
def nmA (l : List (P × AO)) (r : List P) : List P := List.rec (motive := fun _ => List P) r (fun q _ ih => q.1 :: ih) l
def hasA (l : List (P × AO)) (t : PT AO) : Bool := allL l fun q => eqOW (PT.get t q.1) q.2
def startM (m : ME) : Am := ⟨putA m.cs (putA m.ks .lf), m.nx, none, []⟩
def endM (m : ME) (o : Option (AV × Am)) : Bool := match o with
  | some q => match eqW1 q.1 m.v with
    | true => match pEq q.2.nx m.nx' with
      | true => match hasA m.ks q.2.t with
        | true => hasA m.ts q.2.t
        | false => false
      | false => false
    | false => false
  | none => false
def findM (l : List ME) (p : P) : Option ME := List.rec (motive := fun _ => Option ME) none (fun m _ ih => match pEq p m.nx with | true => some m | false => ih) l
def iMemo (l : List ME) : XCall := fun ags h => match findM l h.nx with
  | none => none
  | some m => match hiOk m.nx' h.hi with
    | false => none
    | true => match eqWL ags m.ags with
      | false => none
      | true => match hasA m.ks h.t with
        | false => none
        | true => match hasA m.cs h.t with
          | false => none
          | true => match Nat.ble m.nx.num m.nx'.num with
            | false => none
            | true => some (m.v, ⟨putA m.ts (delA m.cs h.t), m.nx', h.hi, nmA m.ts (nmA m.cs h.log)⟩)
end
theorem eqW1_eq {a b : AV} (h : eqW1 a b = true) : a = b := by
  unfold eqW1 at h
  split at h
  · split at h
    · split at h
      · rename_i h1
        split at h
        · rename_i h2; rw [fnEq_eq h1, eqVL_eq h2, eqVL_eq h]
        · cases h
      · cases h
    · cases h
  · exact eqV_eq h
theorem eqWL_eq : ∀ {a b : List AV}, eqWL a b = true → a = b := by
  intro a
  induction a with
  | nil => intro b h; cases b with
    | nil => rfl
    | cons _ _ => cases h
  | cons x a ih =>
    intro b h
    cases b with
    | nil => cases h
    | cons y b =>
      have h' : (match eqW1 x y with | true => eqWL a b | false => false) = true := h
      split at h'
      · rename_i h1; rw [eqW1_eq h1, ih h']
      · cases h'
theorem eqMW_eq : ∀ {a b : List (Int × AV)}, eqMW a b = true → a = b := by
  intro a
  induction a with
  | nil => intro b h; cases b with
    | nil => rfl
    | cons _ _ => cases h
  | cons x a ih =>
    intro b h
    cases b with
    | nil => cases h
    | cons y b =>
      have h' : (match iEq x.1 y.1 with
        | true => match eqW1 x.2 y.2 with
          | true => eqMW a b
          | false => false
        | false => false) = true := h
      split at h'
      · rename_i h1
        split at h'
        · rename_i h2
          rw [iEq_iff] at h1
          have h3 := eqW1_eq h2
          obtain ⟨x1, x2⟩ := x
          obtain ⟨y1, y2⟩ := y
          simp only at h1 h3
          rw [h1, h3, ih h']
        · cases h'
      · cases h'
theorem eqOW_eq {a : Option AO} {b : AO} (h : eqOW a b = true) : a = some b := by
  unfold eqOW at h
  split at h
  · cases h
  · split at h
    · rw [eqWL_eq h]
    · cases h
  · split at h
    · split at h
      · rename_i h1
        split at h
        · rename_i h2
          rw [kcEq_iff] at h1
          rw [h1, mkEq_eq h2, eqMW_eq h]
        · cases h
      · cases h
    · cases h
  · exact eqO_eq h
theorem hasA_get {l : List (P × AO)} {t : PT AO} (h : hasA l t = true) : ∀ b o, (b, o) ∈ l → PT.get t b = some o := by
  intro b o hm
  have := (allL_iff.1 h) (b, o) hm
  exact eqOW_eq this
theorem get_putA {l : List (P × AO)} {t : PT AO} {b : P} {o : AO} (h : PT.get (putA l t) b = some o) : (b, o) ∈ l ∨ ((∀ o', (b, o') ∉ l) ∧ PT.get t b = some o) := by
  induction l with
  | nil => exact .inr ⟨fun _ hh => (by cases hh), h⟩
  | cons q l ih =>
    have h' : PT.get (PT.put (putA l t) q.1 q.2) b = some o := h
    rw [get_put] at h'
    split at h'
    · rename_i e; cases h'; subst e; exact .inl (by simp)
    · rename_i e
      rcases ih h' with h1 | ⟨h1, h2⟩
      · exact .inl (by simp [h1])
      · refine .inr ⟨fun o' hh => ?_, h2⟩
        cases hh with
        | head => exact e rfl
        | tail _ hh => exact h1 o' hh
theorem get_putA_none {l : List (P × AO)} {t : PT AO} {b : P} (h : ∀ o, (b, o) ∉ l) : PT.get (putA l t) b = PT.get t b := by
  induction l with
  | nil => rfl
  | cons q l ih =>
    show PT.get (PT.put (putA l t) q.1 q.2) b = _
    rw [get_put, if_neg (fun e => h q.2 (by subst e; simp))]
    exact ih fun o hh => h o (by simp [hh])
theorem get_delA {l : List (P × AO)} {t : PT AO} {b : P} {o : AO} (h : PT.get (delA l t) b = some o) : (∀ o', (b, o') ∉ l) ∧ PT.get t b = some o := by
  induction l with
  | nil => exact ⟨fun _ hh => (by cases hh), h⟩
  | cons q l ih =>
    have h' : PT.get (PT.del (delA l t) q.1) b = some o := h
    rw [get_del] at h'
    split at h'
    · cases h'
    · rename_i e
      obtain ⟨h1, h2⟩ := ih h'
      refine ⟨fun o' hh => ?_, h2⟩
      cases hh with
      | head => exact e rfl
      | tail _ hh => exact h1 o' hh
theorem get_delA_none {l : List (P × AO)} {t : PT AO} {b : P} (h : ∀ o, (b, o) ∉ l) : PT.get (delA l t) b = PT.get t b := by
  induction l with
  | nil => rfl
  | cons q l ih =>
    show PT.get (PT.del (delA l t) q.1) b = _
    rw [get_del, if_neg (fun e => h q.2 (by subst e; simp))]
    exact ih fun o hh => h o (by simp [hh])
theorem mem_nmA {l : List (P × AO)} {r : List P} {b : P} : b ∈ nmA l r ↔ (∃ o, (b, o) ∈ l) ∨ b ∈ r := by
  induction l with
  | nil => simp [nmA]
  | cons q l ih =>
    have : nmA (q :: l) r = q.1 :: nmA l r := rfl
    rw [this, List.mem_cons, ih]
    constructor
    · rintro (h | ⟨o, h⟩ | h)
      · exact .inl ⟨q.2, by subst h; simp⟩
      · exact .inl ⟨o, by simp [h]⟩
      · exact .inr h
    · rintro (⟨o, h⟩ | h)
      · cases h with
        | head => exact .inl rfl
        | tail _ h => exact .inr (.inl ⟨o, h⟩)
      · exact .inr (.inr h)
theorem findM_mem {l : List ME} {p : P} {m : ME} (h : findM l p = some m) : m ∈ l ∧ p = m.nx := by
  induction l with
  | nil => cases h
  | cons x l ih =>
    have h' : (match pEq p x.nx with | true => some x | false => findM l p) = some m := h
    split at h'
    · rename_i hp; cases h'; rw [pEq_iff] at hp; exact ⟨by simp, hp⟩
    · obtain ⟨h1, h2⟩ := ih h'; exact ⟨by simp [h1], h2⟩

/-! names below a bound -/
mutual
noncomputable def lowV (n : Nat) : AV → Bool
  | .ptr (some a) => Nat.blt a.b.num n
  | .sl ⟨some a, _, _, _⟩ => Nat.blt a.b.num n
  | .map (some r) => Nat.blt r.num n
  | .fn _ xs ys => lowL n xs && lowL n ys
  | .yld b => Nat.blt b.num n
  | .agg l => lowL n l
  | .tup l => lowL n l
  | .ifc _ a => lowV n a
  | _ => true
noncomputable def lowL (n : Nat) : List AV → Bool
  | [] => true
  | a :: r => lowV n a && lowL n r
end
noncomputable def lowOb (n : Nat) : AO → Bool
  | .cells (.l xs) => lowL n xs
  | .map _ _ m => m.all fun q => lowV n q.2
  | _ => true
noncomputable def lowA (n : Nat) (l : List (P × AO)) : Bool := l.all fun q => Nat.blt q.1.num n && lowOb n q.2
noncomputable def okM (m : ME) : Bool := lowL m.nx.num m.ags && lowA m.nx.num m.ks && lowA m.nx.num m.cs
/-- what is known of names below a bound -/
noncomputable def lowG (n : Nat) (γ : G) : G := fun b => if b.num < n then γ b else none
theorem lowG_le (n : Nat) (γ : G) : G.le (lowG n γ) γ := by
  intro b x h
  unfold lowG at h
  split at h
  · exact h
  · cases h
theorem lowG_at {n : Nat} {γ : G} {b : P} {x : Nat × Nat} (hb : Nat.blt b.num n = true) (h : γ b = some x) : lowG n γ b = some x := by
  unfold lowG
  rw [if_pos (blt_iff.1 hb)]; exact h
mutual
theorem VR.low {n : Nat} {γ : G} : ∀ (a : AV) (v : Value), lowV n a = true → VR γ a v → VR (lowG n γ) a v
  | .int k i, v, _, h => by simp only [VR] at h ⊢; exact h
  | .bool b, v, _, h => by simp only [VR] at h ⊢; exact h
  | .ptr none, v, _, h => by
    simp only [VR] at h ⊢
    obtain ⟨q, h, e⟩ := h
    refine ⟨q, ?_, e⟩
    cases q <;> simp only [OAdR] at h ⊢
  | .ptr (some a), v, hl, h => by
    simp only [VR] at h ⊢
    obtain ⟨q, h, e⟩ := h
    refine ⟨q, ?_, e⟩
    cases q with
    | none => simp only [OAdR] at h
    | some A =>
      simp only [OAdR] at h ⊢
      obtain ⟨B, N, hg, e⟩ := h
      exact ⟨B, N, lowG_at (by simpa only [lowV] using hl) hg, e⟩
  | .sl ⟨none, l, c, e⟩, v, _, h => by
    simp only [VR] at h ⊢
    obtain ⟨q, h, e⟩ := h
    exact ⟨q, h, e⟩
  | .sl ⟨some a, l, c, e⟩, v, hl, h => by
    simp only [VR] at h ⊢
    obtain ⟨q, ⟨h1, h2, h3, B, N, hg, h5⟩, e⟩ := h
    exact ⟨q, ⟨h1, h2, h3, B, N, lowG_at (by simpa only [lowV] using hl) hg, h5⟩, e⟩
  | .str s, v, _, h => by simp only [VR] at h ⊢; exact h
  | .map none, v, _, h => by
    simp only [VR] at h ⊢
    obtain ⟨q, h, e⟩ := h
    refine ⟨q, ?_, e⟩
    cases q <;> simp only [OMR] at h ⊢
  | .map (some r), v, hl, h => by
    simp only [VR] at h ⊢
    obtain ⟨q, h, e⟩ := h
    refine ⟨q, ?_, e⟩
    cases q with
    | none => simp only [OMR] at h
    | some A =>
      simp only [OMR] at h ⊢
      obtain ⟨N, hg⟩ := h
      exact ⟨N, lowG_at (by simpa only [lowV] using hl) hg⟩
  | .fn f xs ys, v, hl, h => by
    simp only [VR] at h ⊢
    simp only [lowV, Bool.and_eq_true] at hl
    obtain ⟨us, vs, h1, h2, e⟩ := h
    exact ⟨us, vs, VRL.low xs us hl.1 h1, VRL.low ys vs hl.2 h2, e⟩
  | .yld b, v, hl, h => by
    simp only [VR] at h ⊢
    obtain ⟨B, N, h, e⟩ := h
    exact ⟨B, N, lowG_at (by simpa only [lowV] using hl) h, e⟩
  | .nilf, v, _, h => by simp only [VR] at h ⊢; exact h
  | .agg l, v, hl, h => by
    simp only [VR] at h ⊢
    obtain ⟨us, h1, e⟩ := h
    exact ⟨us, VRL.low l us (by simpa only [lowV] using hl) h1, e⟩
  | .aggb n len, v, _, h => by simp only [VR] at h ⊢; exact h
  | .tup l, v, hl, h => by
    simp only [VR] at h ⊢
    obtain ⟨us, h1, e⟩ := h
    exact ⟨us, VRL.low l us (by simpa only [lowV] using hl) h1, e⟩
  | .ifc t a, v, hl, h => by
    simp only [VR] at h ⊢
    obtain ⟨w, h1, e⟩ := h
    exact ⟨w, VR.low a w (by simpa only [lowV] using hl) h1, e⟩
  | .nilI, v, _, h => by simp only [VR] at h ⊢; exact h
theorem VRL.low {n : Nat} {γ : G} : ∀ (l : List AV) (vs : List Value), lowL n l = true → VRL γ l vs → VRL (lowG n γ) l vs
  | [], vs, _, h => by simp only [VRL] at h ⊢; exact h
  | a :: r, vs, hl, h => by
    simp only [VRL] at h ⊢
    simp only [lowL, Bool.and_eq_true] at hl
    obtain ⟨v, vs', e, h1, h2⟩ := h
    exact ⟨v, vs', e, VR.low a v hl.1 h1, VRL.low r vs' hl.2 h2⟩
end
theorem lowL_of {n : Nat} : ∀ {l : List AV}, (∀ a, a ∈ l → lowV n a = true) → lowL n l = true
  | [], _ => by simp only [lowL]
  | a :: r, h => by
    simp only [lowL, Bool.and_eq_true]
    exact ⟨h a (by simp), lowL_of fun x hx => h x (by simp [hx])⟩
theorem OR.low {n : Nat} {γ : G} {o : AO} {N : Nat} {ob : Obj} (hl : lowOb n o = true) (h : OR γ o N ob) : OR (lowG n γ) o N ob := by
  cases o with
  | cells c => cases ob with
    | cells cs el fr =>
      simp only [OR] at h ⊢
      refine ⟨h.1, h.2.1, h.2.2.1, h.2.2.2.1, VRL.low _ _ ?_ h.2.2.2.2⟩
      cases c with
      | l xs => simpa only [lowOb, Cs.list] using hl
      | b k len =>
        refine lowL_of fun a ha => ?_
        simp only [Cs.list, bytesL, List.mem_map] at ha
        obtain ⟨i, _, rfl⟩ := ha
        simp only [lowV]
    | _ => simp only [OR] at h
  | map kk mk m => cases ob with
    | map es clk =>
      simp only [OR] at h ⊢
      obtain ⟨m', h1, h2, h3, h4⟩ := h
      refine ⟨m', h1, h2, fun i q hq => ?_, h4⟩
      obtain ⟨q', a, b, c, d⟩ := h3 i q hq
      simp only [lowOb, List.all_eq_true] at hl
      exact ⟨q', a, b, VR.low _ _ (hl q (List.mem_of_getElem? hq)) c, d⟩
    | _ => simp only [OR] at h
  | loop a => cases ob <;> simp only [OR] at h ⊢ <;> exact h
  | defd => cases ob <;> simp only [OR] at h ⊢ <;> exact h
theorem lowA_mem {n : Nat} {l : List (P × AO)} (h : lowA n l = true) {b : P} {o : AO} (hb : (b, o) ∈ l) : Nat.blt b.num n = true ∧ lowOb n o = true := by
  unfold lowA at h
  rw [List.all_eq_true] at h
  simpa using h _ hb
/-- what a function that is called does, whatever it is -/
def pSem (P : Program) (f : FuncId) : CallP := fun vs h K => ∀ w : World, w.heap = h → Calls P f vs.toArray w (Ret K w)
theorem pSem_sound {P : Program} {f : FuncId} (he : ∀ args w, (callFunc f args).run P w = .ok (.enter f args) w) : Sound P f (pSem P f) :=
  ⟨he, fun vs w K h => h w rfl⟩
/-- the call was run -/
def RunOf (P : Program) (f : FuncId) (m : ME) : Prop := ∃ q : AV × Am, endM m (some q) = true ∧ q.2.hi = none ∧ okM m = true ∧
  ∀ (γ : G) (φ : Fx) (h : Mem) (vs : List Value) (K' : Value → Mem → Prop), HR γ φ (startM m) h → VRL γ m.ags vs → (∀ γ' v h', G.le γ γ' → HR γ' φ q.2 h' → VR γ' q.1 v → K' v h') → pSem P f vs h K'
theorem run_of {P : Program} {tys : Tys} {fns : Nat → Option FI} {ix : Nat → Option CallP} (hm : P.follows .mixedOrders = true) (hty : TysOk P tys) (hT : TyR tys) (hF : FnsOk P fns) (hX : IxOk P ix) (hI : IxR fns ix) {n f : Nat} {c : Code} {rs : List ResultVar} {k : Nat} {m : ME}
    (hf : fns f = some (.code c rs k)) (hlow : okM m = true) (hx : endM m (XF tys fns n noY f m.ags (startM m)) = true) : RunOf P f m := by
  cases hq : XF tys fns n noY f m.ags (startM m) with
  | none => rw [hq] at hx; cases hx
  | some q =>
    rw [hq] at hx
    refine ⟨q, hx, (XF_ch (fun f i hf => (hI f i hf).elim fun _ h => h.2.1) n noY noY_ch f _ _ _ hq).2.2.1, hlow, ?_⟩
    intro γ φ h vs K' hR hv hK w hw
    subst hw
    obtain ⟨p, p1, p2⟩ := XF_R hT hI n ⟨fun _ => none, fun _ => none⟩ noY noYs noY_ch noY_R f m.ags _ q hq
    have key := p2 γ φ w.heap vs K' ⟨fun _ _ hh => (by cases hh), fun _ _ hh => (by cases hh)⟩ hR hv hK
    have hok := (PF_ok hm hty hF hX n noYs noYs_ok).1 f p p1
    rcases hok with hs | hs
    · exact hs.calls vs w _ key
    · exfalso
      obtain ⟨fn, g1, g2, g3, g4, g5, g6⟩ := hF f c rs k hf
      obtain ⟨v, w', h1, _⟩ := hs.gives vs w _ key
      rw [g6] at h1
      cases h1
/-- a closed call -/
theorem RunOf.closed {P : Program} {f : FuncId} {m : ME} (h : RunOf P f m) (ha : m.ags = []) (hk : m.ks = []) (hc : m.cs = []) (hv : m.v = .bool true) (w : World) :
    Calls P f #[] w (Ret (fun v h => v = .bool true ∧ ∀ B, B < w.heap.size → h[B]? = w.heap[B]?) w) := by
  obtain ⟨q, hq, _, _, hrun⟩ := h
  have hs : startM m = ⟨.lf, m.nx, none, []⟩ := by unfold startM; rw [hk, hc]; rfl
  have hR : HR (fun _ => none) ⟨fun B => w.heap[B]?, fun _ => False, ⟨fun _ => none, fun _ => none⟩⟩ (startM m) w.heap := by
    rw [hs]
    refine ⟨fun b x h => by simp at h, fun _ _ => rfl, fun _ hh => hh.elim, fun b o h => ?_, fun b b' o o' B N N' h => ?_, fun B ob h => ⟨h, fun b o N hh => by simp⟩, fun _ _ h => h, fun B s h => by cases h⟩
    · have : (⟨.lf, m.nx, none, []⟩ : Am).get b = none := get_lf b
      rw [this] at h; cases h
    · have : (⟨.lf, m.nx, none, []⟩ : Am).get b = none := get_lf b
      rw [this] at h; cases h
  have hv' : eqW1 q.1 m.v = true := by
    unfold endM at hq
    simp only [] at hq
    split at hq
    · rename_i e; exact e
    · cases hq
  refine hrun _ _ w.heap [] (fun v h => v = .bool true ∧ ∀ B, B < w.heap.size → h[B]? = w.heap[B]?) hR (by rw [ha]; exact VRL.nil) (fun γ' v h' _ hR' hvv => ?_) w rfl
  rw [eqW1_eq hv', hv] at hvv
  refine ⟨dBool hvv, fun B hB => ?_⟩
  obtain ⟨g1, _⟩ := hR'.far B w.heap[B] (by simp [hB])
  rw [g1]; simp [hB]
open Classical in
theorem iMemo_R1 {P : Program} {f : FuncId} {l : List ME} (hl : ∀ m, m ∈ l → RunOf P f m) : IxR1 (iMemo l) (pSem P f) := by
  have inv : ∀ ags H q, iMemo l ags H = some q → ∃ m, m ∈ l ∧ hiOk m.nx' H.hi = true ∧ H.nx = m.nx ∧ ags = m.ags ∧ hasA m.ks H.t = true ∧ hasA m.cs H.t = true ∧ m.nx.num ≤ m.nx'.num ∧
      q = (m.v, ⟨putA m.ts (delA m.cs H.t), m.nx', H.hi, nmA m.ts (nmA m.cs H.log)⟩) := by
    intro ags H q hx
    unfold iMemo at hx
    split at hx
    · cases hx
    · rename_i m hm
      obtain ⟨m1, m2⟩ := findM_mem hm
      split at hx
      · cases hx
      · rename_i hhi
        split at hx
        · cases hx
        · rename_i h1
          split at hx
          · cases hx
          · rename_i h2
            split at hx
            · cases hx
            · rename_i h3
              split at hx
              · cases hx
              · rename_i h4
                cases hx
                exact ⟨m, m1, hhi, m2, eqWL_eq h1, h2, h3, ble_iff.1 h4, rfl⟩
  refine ⟨fun ags H q hx => ?_, fun γ φ ags H h vs q K' hx hR hv hK => ?_⟩
  · obtain ⟨m, _, _, hnx, _, _, _, hle, rfl⟩ := inv ags H q hx
    refine ⟨fun b hb => ?_, fun b hb => ?_, rfl, by rw [hnx]; exact hle⟩
    · exact mem_nmA.2 (.inr (mem_nmA.2 (.inr hb)))
    · have h1 : ∀ o, (b, o) ∉ m.ts := fun o ho => hb (mem_nmA.2 (.inl ⟨o, ho⟩))
      have h2 : ∀ o, (b, o) ∉ m.cs := fun o ho => hb (mem_nmA.2 (.inr (mem_nmA.2 (.inl ⟨o, ho⟩))))
      show PT.get (putA m.ts (delA m.cs H.t)) b = PT.get H.t b
      rw [get_putA_none h1, get_delA_none h2]
  · obtain ⟨m, hm, hhi, hnx, rfl, hks, hcs, hle, rfl⟩ := inv ags H q hx
    obtain ⟨q, hq, hqhi, hok, hrun⟩ := hl m hm
    have hhi' : ∀ p, H.hi = some p → m.nx'.num ≤ p.num := by
      intro p hp
      unfold hiOk at hhi
      rw [hp] at hhi
      exact ble_iff.1 hhi
    unfold okM at hok
    simp only [Bool.and_eq_true] at hok
    obtain ⟨⟨lags, lks⟩, lcs⟩ := hok
    -- the end
    unfold endM at hq
    simp only [] at hq
    split at hq
    · rename_i e1
      split at hq
      · rename_i e2
        split at hq
        · rename_i e3
          have hv' := eqW1_eq e1
          have hnx' := (pEq_iff _ _).1 e2
          have gk := hasA_get hks
          have gc := hasA_get hcs
          have ek := hasA_get e3
          have et := hasA_get hq
          -- what the start has
          have hs : ∀ b o, (startM m).get b = some o → H.get b = some o := by
            intro b o hb
            have hb' : PT.get (putA m.cs (putA m.ks .lf)) b = some o := hb
            rcases get_putA hb' with h1 | ⟨_, h1⟩
            · exact gc b o h1
            · rcases get_putA h1 with h2 | ⟨_, h2⟩
              · exact gk b o h2
              · rw [get_lf] at h2; cases h2
          have hsl : ∀ b o, (startM m).get b = some o → Nat.blt b.num m.nx.num = true ∧ lowOb m.nx.num o = true := by
            intro b o hb
            have hb' : PT.get (putA m.cs (putA m.ks .lf)) b = some o := hb
            rcases get_putA hb' with h1 | ⟨_, h1⟩
            · exact lowA_mem lcs h1
            · rcases get_putA h1 with h2 | ⟨_, h2⟩
              · exact lowA_mem lks h2
              · rw [get_lf] at h2; cases h2
          have hsk : ∀ b o, H.get b = some o → (∃ o', (b, o') ∈ m.ks) ∨ (∃ o', (b, o') ∈ m.cs) ∨ (startM m).get b = none := by
            intro b o hb
            by_cases h1 : ∃ o', (b, o') ∈ m.ks
            · exact .inl h1
            · by_cases h2 : ∃ o', (b, o') ∈ m.cs
              · exact .inr (.inl h2)
              · refine .inr (.inr ?_)
                show PT.get (putA m.cs (putA m.ks .lf)) b = none
                rw [get_putA_none (fun o hh => h2 ⟨o, hh⟩), get_putA_none (fun o hh => h1 ⟨o, hh⟩), get_lf]
          have hB0 : ∀ b : Go.XS.P, m.nx.num ≤ b.num → b.num < m.nx'.num → inB H b := fun b h1 h2 => ⟨by rw [hnx]; exact h1, fun p hp => by have := hhi' p hp; omega⟩
          -- the blocks that are far: all that no name of the start tells
          let γ0 : G := lowG m.nx.num γ
          let isFar : Nat → Prop := fun B => ∀ b o N, (startM m).get b = some o → γ0 b ≠ some (B, N)
          let φ' : Fx := ⟨fun B => if isFar B then h[B]? else none, fun b => φ.free b ∧ b.num < m.nx.num, ⟨fun _ => none, φ.top.stat⟩⟩
          have hg0 : G.le γ0 γ := lowG_le _ _
          have hR' : HR γ0 φ' (startM m) h := by
            refine ⟨fun b x hb => hR.dom b x (hg0 b x hb), fun b hb => ?_, fun b hb => ?_, fun b o hb => ?_, fun b b' o o' B N N' h1 h2 h3 h4 => hR.inj b b' o o' B N N' (hs _ _ h1) (hs _ _ h2) (hg0 _ _ h3) (hg0 _ _ h4), fun B ob hB => ?_, fun _ _ hb => (by cases hb), hR.stat⟩
            · have h1 : m.nx.num ≤ b.num := hb.1
              exact if_neg (by omega)
            · obtain ⟨f1, f2⟩ := hb
              refine ⟨?_, fun hh => ?_⟩
              · show (if b.num < m.nx.num then γ b else none) = none
                rw [if_pos f2]; exact (hR.free b f1).1
              · have h1 : m.nx.num ≤ b.num := hh.1
                omega
            · obtain ⟨B, N, ob, g1, g2, g3⟩ := hR.obj b o (hs b o hb)
              obtain ⟨l1, l2⟩ := hsl b o hb
              exact ⟨B, N, ob, lowG_at l1 g1, g2, g3.low l2⟩
            · have hB' : (if isFar B then h[B]? else none) = some ob := hB
              split at hB'
              · rename_i hf
                exact ⟨hB', hf⟩
              · cases hB'
          refine hrun γ0 φ' h vs K' hR' (VRL.low _ _ lags hv) fun γ1 v h' hle' hRq hvq => ?_
          have farN : ∀ B ob, isFar B → h[B]? = some ob → h'[B]? = some ob ∧ ∀ b o N, q.2.get b = some o → γ1 b ≠ some (B, N) := by
            intro B ob hf hb
            refine hRq.far B ob ?_
            show (if isFar B then h[B]? else none) = some ob
            rw [if_pos hf]; exact hb
          have hsz : h.size ≤ h'.size := by
            rcases Nat.lt_or_ge h'.size h.size with hlt | hge
            · exfalso
              by_cases hf : isFar h'.size
              · have := (farN h'.size h[h'.size] hf (by simp [hlt])).1
                simp at this
              · have hf' : ∃ b o N, (startM m).get b = some o ∧ γ0 b = some (h'.size, N) := by
                  apply Classical.byContradiction
                  intro hn
                  exact hf fun b o N h1 h2 => hn ⟨b, o, N, h1, h2⟩
                obtain ⟨b, o, N, h1, h2⟩ := hf'
                have := hRq.dom b _ (hle' _ _ h2)
                exact absurd this (Nat.lt_irrefl _)
            · exact hge
          -- what is known at the end
          let γ' : G := fun b => match γ b with
            | some x => some x
            | none => if b.num < m.nx'.num ∧ ¬ φ.free b then γ1 b else none
          have eγ : ∀ b, γ' b = match γ b with
            | some x => some x
            | none => if b.num < m.nx'.num ∧ ¬ φ.free b then γ1 b else none := fun _ => rfl
          have hle2 : G.le γ γ' := by
            intro b x hb
            rw [eγ, hb]
          have hle1 : G.le γ1 γ' := by
            intro b x hb
            have hlt : b.num < m.nx'.num := by
              rcases Nat.lt_or_ge b.num m.nx'.num with h1 | h1
              · exact h1
              · have := hRq.band b ⟨by rw [hnx']; exact h1, fun p hp => by rw [hqhi] at hp; cases hp⟩
                rw [hb] at this; cases this
            rw [eγ]
            cases hg : γ b with
            | some y =>
              by_cases hb2 : b.num < m.nx.num
              · have := hle' b y (by show (if b.num < m.nx.num then γ b else none) = some y; rw [if_pos hb2]; exact hg)
                rw [hb] at this; exact this.symm
              · have := hR.band b (hB0 b (by omega) hlt)
                rw [hg] at this; cases this
            | none =>
              have hc : b.num < m.nx'.num ∧ ¬ φ.free b := by
                refine ⟨hlt, fun hf => ?_⟩
                by_cases hb2 : b.num < m.nx.num
                · have := (hRq.free b ⟨hf, hb2⟩).1
                  rw [hb] at this; cases this
                · exact (hR.free b hf).2 (hB0 b (by omega) hlt)
              dsimp only
              rw [if_pos hc]
              exact hb
          have hnone : ∀ b, γ b = none → ¬ (b.num < m.nx'.num ∧ ¬ φ.free b) → γ' b = none := by
            intro b hb hn
            rw [eγ, hb]
            dsimp only
            rw [if_neg hn]
          have hfin : ∀ b, inB ⟨putA m.ts (delA m.cs H.t), m.nx', H.hi, nmA m.ts (nmA m.cs H.log)⟩ b → inB H b ∧ m.nx'.num ≤ b.num := fun b hb => ⟨⟨by rw [hnx]; exact Nat.le_trans hle hb.1, hb.2⟩, hb.1⟩
          refine hK γ' v h' hle2 ?_ (by rw [← hv']; exact hvq.mono hle1 _ _)
          -- a block of the end: of the run's, or far
          have cls : ∀ b o, PT.get (putA m.ts (delA m.cs H.t)) b = some o → q.2.get b = some o ∨ (H.get b = some o ∧ (startM m).get b = none) := by
            intro b o hb
            rcases get_putA hb with h1 | ⟨_, h1⟩
            · exact .inl (et b o h1)
            · obtain ⟨h2, h3⟩ := get_delA h1
              rcases hsk b o h3 with ⟨o', h4⟩ | ⟨o', h4⟩ | h4
              · have := gk b o' h4
                have h3' : PT.get H.t b = some o := h3
                rw [h3'] at this; cases this
                exact .inl (ek b o h4)
              · exact absurd h4 (h2 o')
              · exact .inr ⟨h3, h4⟩
          have farB : ∀ b o, H.get b = some o → (startM m).get b = none → ∃ B N ob, γ b = some (B, N) ∧ h[B]? = some ob ∧ isFar B ∧ OR γ o N ob := by
            intro b o h1 h2
            obtain ⟨B, N, ob, g1, g2, g3⟩ := hR.obj b o h1
            refine ⟨B, N, ob, g1, g2, fun b2 o2 N2 h3 h4 => ?_, g3⟩
            have := hR.inj b b2 o o2 B N N2 h1 (hs _ _ h3) g1 (hg0 _ _ h4)
            subst this
            rw [h2] at h3; cases h3
          have runG : ∀ b o B N, q.2.get b = some o → γ' b = some (B, N) → γ1 b = some (B, N) := by
            intro b o B N h1 h2
            obtain ⟨B1, N1, ob1, g1, _⟩ := hRq.obj b o h1
            have := hle1 _ _ g1
            rw [h2] at this; cases this
            exact g1
          refine ⟨fun b x hb => ?_, fun b hb => ?_, fun b hb => ?_, fun b o hb => ?_, fun b b' o o' B N N' h1 h2 h3 h4 => ?_, fun B ob hB => ?_, hR.le0.trans hle2, hRq.stat⟩
          · rw [eγ] at hb
            split at hb
            · rename_i y hy
              cases hb
              exact Nat.lt_of_lt_of_le (hR.dom b _ hy) hsz
            · split at hb
              · exact hRq.dom b x hb
              · cases hb
          · obtain ⟨k1, k2⟩ := hfin b hb
            exact hnone b (hR.band b k1) (fun hh => by omega)
          · obtain ⟨f1, f2⟩ := hR.free b hb
            exact ⟨hnone b f1 (fun hh => hh.2 hb), fun hh => f2 (hfin b hh).1⟩
          · rcases cls b o hb with h1 | ⟨h1, h2⟩
            · obtain ⟨B, N, ob, g1, g2, g3⟩ := hRq.obj b o h1
              exact ⟨B, N, ob, hle1 _ _ g1, g2, g3.mono hle1⟩
            · obtain ⟨B, N, ob, g1, g2, g3, g4⟩ := farB b o h1 h2
              exact ⟨B, N, ob, hle2 _ _ g1, (farN B ob g3 g2).1, g4.mono hle2⟩
          · rcases cls b o h1 with k1 | ⟨k1, k1'⟩ <;> rcases cls b' o' h2 with k2 | ⟨k2, k2'⟩
            · exact hRq.inj b b' o o' B N N' k1 k2 (runG _ _ _ _ k1 h3) (runG _ _ _ _ k2 h4)
            · obtain ⟨B', N0, ob, g1, g2, g3, g4⟩ := farB b' o' k2 k2'
              have e := hle2 _ _ g1
              rw [h4] at e; cases e
              exact absurd (runG _ _ _ _ k1 h3) ((farN _ ob g3 g2).2 b o N k1)
            · obtain ⟨B', N0, ob, g1, g2, g3, g4⟩ := farB b o k1 k1'
              have e := hle2 _ _ g1
              rw [h3] at e; cases e
              exact absurd (runG _ _ _ _ k2 h4) ((farN _ ob g3 g2).2 b' o' N' k2)
            · obtain ⟨B1, N1, ob1, g1, _⟩ := farB b o k1 k1'
              obtain ⟨B2, N2, ob2, g2, _⟩ := farB b' o' k2 k2'
              have e1' := hle2 _ _ g1
              have e2' := hle2 _ _ g2
              rw [h3] at e1'; cases e1'
              rw [h4] at e2'; cases e2'
              exact hR.inj b b' o o' B N N' k1 k2 g1 g2
          · obtain ⟨f1, f2⟩ := hR.far B ob hB
            have hf : isFar B := fun b o N h1 h2 => f2 b o N (hs _ _ h1) (hg0 _ _ h2)
            obtain ⟨r1, r2⟩ := farN B ob hf f1
            refine ⟨r1, fun b o N hb hγ => ?_⟩
            rcases cls b o hb with k1 | ⟨k1, k1'⟩
            · exact r2 b o N k1 (runG _ _ _ _ k1 hγ)
            · obtain ⟨B', N0, ob', g1, g2, g4, _⟩ := farB b o k1 k1'
              have e := hle2 _ _ g1
              rw [hγ] at e; cases e
              exact f2 b o N k1 g1
        · cases hq
      · cases hq
    · cases hq
end Go.XS
