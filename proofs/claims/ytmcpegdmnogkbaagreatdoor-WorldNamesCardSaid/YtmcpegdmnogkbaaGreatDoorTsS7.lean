/- The layer 'TS': soundness, regions in the text's order. -/
import Derived.Test.YtmcpegdmnogkbaaGreatDoorTsS6
set_option linter.unusedSimpArgs false
set_option linter.unusedVariables false
namespace Go.TS
open Go

structure Rel (n : Nat) (e : Env) (ds : List Deferred) (a : Act) : Prop where
  size : a.tmps.size = n
  defers : a.defers = ds
  ok : Ok e a
theorem Rel.env {n : Nat} {e e' : Env} {ds : List Deferred} {a : Act} (h : Rel n e ds a) (hs : ∀ t v, Env.get e' t = some v → Env.get e t = some v) : Rel n e' ds a := ⟨h.size, h.defers, fun t v ht => h.ok t v (hs t v ht)⟩
structure Fr (W : List Nat) (nd : Bool) (a a' : Act) : Prop where
  tmps : ∀ t, t ∉ W → a'.tmps[t]? = a.tmps[t]?
  defers : nd = true → a'.defers = a.defers
theorem Fr.refl (W : List Nat) (nd : Bool) (a : Act) : Fr W nd a a := ⟨fun _ _ => rfl, fun _ => rfl⟩
theorem Fr.trans {W : List Nat} {nd : Bool} {a b c : Act} (h : Fr W nd a b) (h' : Fr W nd b c) : Fr W nd a c :=
  ⟨fun t ht => (h'.tmps t ht).trans (h.tmps t ht), fun hn => (h'.defers hn).trans (h.defers hn)⟩
theorem Fr.weaken {W W' : List Nat} {nd nd' : Bool} {a b : Act} (h : Fr W nd a b) (hw : ∀ t, t ∈ W → t ∈ W') (hn : nd' = true → nd = true) : Fr W' nd' a b :=
  ⟨fun t ht => h.tmps t (fun hh => ht (hw t hh)), fun hh => h.defers (hn hh)⟩

def dstOk (n : Nat) (o : Oper) : Bool := match o.dst with | some d => Nat.blt d n | none => true

section
variable {P : Program} {tys : Tys} {cs : Calls'} {e : Env} {a : Act} {w : World} {n : Nat}

theorem ok_bind {d : Nat} {v : Value} (he : Ok e a) (hv : a.tmps[d]? = some v) : Ok (Env.put e d v) a := by
  intro t u h
  rcases tr_put _ _ _ _ _ _ h with ⟨rfl, rfl⟩ | ⟨_, h⟩
  · exact hv
  · exact he t u h

theorem ok_put {dst : Option Tmp} {v : Value} (he : Ok e a) (hn : a.tmps.size = n) (hd : ∀ d, dst = some d → d < n) : Ok (bindE dst v e) (a.put dst v) := by
  cases dst with
  | none => exact he
  | some d =>
    have hlt := hd d rfl
    intro t u h
    simp only [Act.put]
    rcases tr_put _ _ _ _ _ _ h with ⟨rfl, rfl⟩ | ⟨hne, h⟩
    · simp [hn, hlt]
    · rw [Array.getElem?_setIfInBounds_ne (Ne.symm hne)]
      exact he t u h

theorem rel_put {ds : List Deferred} {dst : Option Tmp} {v : Value} (h : Rel n e ds a) (hd : ∀ d, dst = some d → d < n) : Rel n (bindE dst v e) ds (a.put dst v) :=
  ⟨by cases dst <;> simp [Act.put, h.size], by cases dst <;> exact h.defers, ok_put h.ok h.size hd⟩

theorem fr_put (a : Act) (dst : Option Tmp) (v : Value) (W : List Nat) (nd : Bool) (hd : ∀ d, dst = some d → d ∈ W) : Fr W nd a (a.put dst v) := by
  cases dst with
  | none => exact Fr.refl _ _ _
  | some d =>
    refine ⟨fun t ht => ?_, fun _ => rfl⟩
    have : d ≠ t := fun h => ht (h ▸ hd d rfl)
    simp only [Act.put]
    exact Array.getElem?_setIfInBounds_ne this

theorem grd_ok {ops : List Oper} {o : Oper} {K : Env → Bool → Prop} (he : Ok e a) (h : grd ops o e K) :
    ∃ e' b, Ok e' a ∧ Region.wanted o (yielded ops.toArray a.tmps) = b ∧ K e' b := by
  unfold grd at h
  split at h
  · rename_i hg
    exact ⟨e, true, he, by simp [Region.wanted, hg], h⟩
  · rename_i g want hg
    split at h
    · exact h.elim
    · rename_i og hog
      split at h
      · exact h.elim
      · rename_i d hd
        split at h
        · rename_i c hc
          have ht := he d _ hc
          have hy : yielded ops.toArray a.tmps g = some c := by
            simp [yielded, hog, hd, ht]
          have hw : Region.wanted o (yielded ops.toArray a.tmps) = (c == want) := by
            simp [Region.wanted, hg, hy]
          rw [hw]
          cases c with
          | true =>
            have hb : Ok (Env.put e d (.bool true)) a := ok_bind he ht
            cases want with
            | true => exact ⟨_, true, hb, rfl, h⟩
            | false => exact ⟨_, false, hb, rfl, h⟩
          | false =>
            have hb : Ok (Env.put e d (.bool false)) a := ok_bind he ht
            cases want with
            | true => exact ⟨_, false, hb, rfl, h⟩
            | false => exact ⟨_, true, hb, rfl, h⟩
        · rename_i vs hc
          have ht := he d _ hc
          have hy : yielded ops.toArray a.tmps g = none := by
            simp [yielded, hog, hd, ht]
          exact ⟨e, false, he, by simp [Region.wanted, hg, hy], h⟩
        · exact h.elim

def isDefer (o : Oper) : Bool := match o.op with | .defer _ => true | _ => false

theorem wpList_yes {ro : Option Nat} {m : Nat} {ops : Array Oper} {Q : Exit → Act → World → Prop} {o : Oper} {r : List Oper} (hw : Region.wanted o (yielded ops a.tmps) = true) (h : o.wpIn (Fw ro) m P a w (wpListIn (Fw ro) m P ops Q r) Q) : wpListIn (Fw ro) m P ops Q (o :: r) a w := by
  unfold wpListIn
  rw [if_pos hw]
  exact h
theorem wpList_no {ro : Option Nat} {m : Nat} {ops : Array Oper} {Q : Exit → Act → World → Prop} {o : Oper} {r : List Oper} (hw : Region.wanted o (yielded ops a.tmps) = false) (h : wpListIn (Fw ro) m P ops Q r (a.put o.dst undef) w) : wpListIn (Fw ro) m P ops Q (o :: r) a w := by
  unfold wpListIn
  rw [if_neg (by simp [hw])]
  exact ⟨fun _ _ => trivial, h⟩

theorem denL_ok {ro : Option Nat} {m : Nat} (hty : TysOk P tys) (hcs : CallsOk P cs) (all : List Oper) {K : Rg} {Q : Exit → Act → World → Prop} : ∀ (l : List Oper) (e : Env) (ds : List Deferred) (a : Act) (w : World),
    (ro = none ∨ (l.all fun o => !isDefer o) = true) → (∀ o, o ∈ l → dstOk n o = true) → denL tys cs all l e ds w.heap K → Rel n e ds a →
    (∀ e' ds' a' w', K e' ds' w'.heap → Rel n e' ds' a' → Fr (writesO l) (l.all fun o => !isDefer o) a a' → Same w w' → Q .normal a' w') → wpListIn (Fw ro) m P all.toArray Q l a w := by
  intro l
  induction l with
  | nil =>
    intro e ds a w _ _ h hr hq
    exact hq e ds a w h hr (Fr.refl _ _ _) (.refl w)
  | cons o r ih =>
    intro e ds a w hro hd h hr hq
    simp only [denL] at h
    obtain ⟨e', b, he', hw, h⟩ := grd_ok hr.ok h
    have hr' : Rel n e' ds a := ⟨hr.size, hr.defers, he'⟩
    have hdo : ∀ d, o.dst = some d → d < n := by
      intro d hdd
      have := hd o (by simp)
      simp only [dstOk, hdd] at this
      rwa [Nat.blt_eq] at this
    have hdr : ∀ o, o ∈ r → dstOk n o = true := fun o' ho => hd o' (by simp [ho])
    have hWo : ∀ d, o.dst = some d → d ∈ writesO (o :: r) := by
      intro d hdd
      simp [writesO, hdd]
    have hWr : ∀ t, t ∈ writesO r → t ∈ writesO (o :: r) := by
      intro t ht
      simp only [writesO]
      split <;> simp [ht]
    have hror : ro = none ∨ (r.all fun o => !isDefer o) = true := hro.imp id fun h => by simp only [List.all_cons, Bool.and_eq_true] at h; exact h.2
    have step : ∀ (v : Value) (w' : World), denL tys cs all r (bindE o.dst v e') ds w'.heap K → Same w w' → wpListIn (Fw ro) m P all.toArray Q r (a.put o.dst v) w' := by
      intro v w' hk hS
      refine ih _ _ _ _ hror hdr hk (rel_put hr' hdo) ?_
      intro e2 ds2 a2 w2 hK2 hR2 hF2 hS2
      refine hq e2 ds2 a2 w2 hK2 hR2 ?_ (hS.trans hS2)
      exact (fr_put a o.dst v _ _ hWo).trans (hF2.weaken hWr (by simp only [List.all_cons, Bool.and_eq_true]; exact fun hh => hh.2))
    cases b with
    | false => exact wpList_no hw (step undef w h (.refl w))
    | true =>
      refine wpList_yes hw ?_
      simp only at h
      split at h
      · rename_i f args ts hop
        split at h
        · rename_i fn first cap vs hf hvs
          have hargs : args.map a.eval = vs.toArray := by
            apply Array.ext'
            simp [evL_ok he' _ _ hvs]
          obtain ⟨dst, op, ty, pos, aft, g⟩ := o
          simp only at hop
          subst hop
          have hrn : ro = none := by
            rcases hro with h | h
            · exact h
            · simp [isDefer] at h
          subst hrn
          refine ⟨fun _ _ => trivial, ?_⟩
          rw [Oper.semAt_none]
          have hx : (execOp a.eval ⟨dst, .defer ⟨.value f, args, ts⟩, ty, pos, aft, g⟩).run P w = .ok (.defer { target := .fn fn cap, args := first ++ vs.toArray }) w := by
            simp [execOp, resolve, ev_ok he' hf, Deferred.ofValue, hargs]
          rw [hx, Oper.uponIn_defer]
          have hr2 : Rel n e' ({ target := .fn fn cap, args := first ++ vs.toArray } :: ds) { a with defers := { target := .fn fn cap, args := first ++ vs.toArray } :: a.defers } := ⟨hr.size, by simp [hr.defers], he'⟩
          refine ih _ _ _ _ hror hdr h (rel_put hr2 hdo) ?_
          intro e2 ds2 a2 w2 hK2 hR2 hF2 hS2
          refine hq e2 ds2 a2 w2 hK2 hR2 ⟨fun t ht => ?_, fun hh => ?_⟩ hS2
          · have h1 := hF2.tmps t (fun hh => ht (hWr t hh))
            rw [h1]
            have := (fr_put { a with defers := { target := .fn fn cap, args := first ++ vs.toArray } :: a.defers } dst undef _ true hWo).tmps t ht
            exact this
          · simp [isDefer] at hh
        · exact h.elim
      · split at h
        · rename_i hst
          obtain ⟨v, hrun, _, _, hk⟩ := still_ok (P := P) hty he' o.type hst h
          refine ⟨fun _ _ => trivial, ?_⟩
          rw [Oper.semAt_eq _ _ _ (fun c hc => by simp [hc, isStill] at hst)]
          have := hrun o.dst o.pos o.after o.guard
          rw [this]
          exact step v w hk (.refl w)
        · exact eff_ok hty hcs he' h (fun v w' hk hS => step v w' hk hS)
end
end Go.TS
