/- The layer 'TS': soundness of a whole function: from what it asks to what a call does. -/
import Derived.Test.YtmcpegdmnogkbaaGreatDoorTsS9
set_option linter.unusedSimpArgs false
set_option linter.unusedVariables false
namespace Go.TS
open Go

/-- a function that may be deferred -/
structure SoundD (P : Program) (f : FuncId) (p : CallP) : Prop where
  enters : ∀ args w, (callFunc f args).run P w = .ok (.enter f args) w
  calls : ∀ vs w K u, p vs w.heap K → CallsDIn Fence.wide 0 P f vs.toArray u w (fun e u' w' => u' = u ∧ Ret K w e w')
def DefsOk (P : Program) (cs : Calls') : Prop := ∀ f p, callOf cs f = some p → SoundD P f p

/-- callees, one by one -/
inductive CallsAll (P : Program) : List (Nat × CallP) → Prop where
  | nil : CallsAll P []
  | cons {f : Nat} {p : CallP} {r : List (Nat × CallP)} (h : Sound P f p) (hr : CallsAll P r) : CallsAll P ((f, p) :: r)
  | consX {f : Nat} {p : CallP} {r : List (Nat × CallP)} (h : SoundX P f p) (hr : CallsAll P r) : CallsAll P ((f, p) :: r)
theorem CallsAll.mem {P : Program} {l : List (Nat × CallP)} (h : CallsAll P l) : ∀ f p, (f, p) ∈ l → Sound P f p ∨ SoundX P f p := by
  induction h with
  | nil => intro f p h; cases h
  | cons h _ ih =>
    intro f p hm
    cases hm with
    | head => exact .inl h
    | tail _ hm => exact ih f p hm
  | consX h _ ih =>
    intro f p hm
    cases hm with
    | head => exact .inr h
    | tail _ hm => exact ih f p hm
theorem callsOk_of {P : Program} {l : List (Nat × CallP)} (h : CallsAll P l) : CallsOk P (callsT l) := ⟨fun _ _ f p hp => h.mem f p (tr_of l f p hp), fun _ _ f p hp => (by cases hp), fun l p hp => (by cases hp)⟩
inductive DefsAll (P : Program) : List (Nat × CallP) → Prop where
  | nil : DefsAll P []
  | cons {f : Nat} {p : CallP} {r : List (Nat × CallP)} (h : SoundD P f p) (hr : DefsAll P r) : DefsAll P ((f, p) :: r)
theorem DefsAll.mem {P : Program} {l : List (Nat × CallP)} (h : DefsAll P l) : ∀ f p, (f, p) ∈ l → SoundD P f p := by
  induction h with
  | nil => intro f p h; cases h
  | cons h _ ih =>
    intro f p hm
    cases hm with
    | head => exact h
    | tail _ hm => exact ih f p hm
theorem defsOk_of {P : Program} {l : List (Nat × CallP)} (h : DefsAll P l) : DefsOk P (callsT l) := fun f p hp => h.mem f p (tr_of l f p hp)
theorem defsOk_nil (P : Program) : DefsOk P noCalls := fun _ _ h => by simp [callOf, noCalls] at h

section
variable {P : Program} {tys : Tys} {cs dcs : Calls'} {hn : Hints} {n : Nat}

def resF (tmps : Array Value) : ResultVar → Sem Value
  | .tmp t => pure (tmps.getD t undef)
  | .cell x t => do loadVar t (← asAddr (tmps.getD x undef))
theorem results_eq (fn : Func) (tmps : Array Value) : results fn tmps = (fn.results.mapM (resF tmps) >>= fun vs => pure (if h : vs.size = 1 then vs[0] else .tuple vs)) := by
  unfold results
  congr 2

theorem resL_ok (hty : TysOk P tys) {e : Env} {a : Act} {w : World} (he : Ok e a) : ∀ (rs : List ResultVar) (K : List Value → Prop), resL tys e w.heap rs K →
    ∃ vs, (rs.mapM (resF a.tmps)).run P w = .ok vs w ∧ K vs := by
  intro rs
  induction rs with
  | nil => intro K h; exact ⟨[], by simp, h⟩
  | cons r rs ih =>
    intro K h
    cases r with
    | tmp t =>
      simp only [resL] at h
      split at h
      · rename_i v hv
        obtain ⟨vs, hr, hK⟩ := ih _ h
        refine ⟨v :: vs, ?_, hK⟩
        have : a.tmps.getD t undef = v := by simp [he t v hv]
        have hF : (resF a.tmps (.tmp t)).run P w = .ok v w := by simp only [resF, this, Sem.run_pure]
        simp only [List.mapM_cons, Sem.run_bind, Sem.run_pure, Result.andThen_ok, hF, hr]
      · exact h.elim
    | cell x t =>
      simp only [resL] at h
      split at h
      · rename_i aa hx
        split at h
        · rename_i ti hti
          obtain ⟨v, hrun, hat, h⟩ := ldT_ok (P := P) (hty _ _ hti) h
          obtain ⟨vs, hr, hK⟩ := ih _ h
          refine ⟨v :: vs, ?_, hK⟩
          have : a.tmps.getD x undef = .pointer (some aa) := by simp [he x _ hx]
          have hA : (asAddr (.pointer (some aa))).run P w = .ok aa w := rfl
          have hF : (resF a.tmps (.cell x t)).run P w = .ok v w := by simp only [resF, Sem.run_bind, this, hA, Result.andThen_ok, hrun w hat]
          simp only [List.mapM_cons, Sem.run_bind, Sem.run_pure, Result.andThen_ok, hF, hr]
        · exact h.elim
      · exact h.elim

theorem results_ok (hty : TysOk P tys) {e : Env} {a : Act} {w : World} (he : Ok e a) {fn : Func} {K : List Value → Prop} (h : resL tys e w.heap fn.results.toList K) :
    ∃ vs, (results fn a.tmps).run P w = .ok (resV vs) w ∧ K vs := by
  obtain ⟨vs, hr, hK⟩ := resL_ok (P := P) hty he _ _ h
  refine ⟨vs, ?_, hK⟩
  have h2 : (fn.results.mapM (resF a.tmps)).run P w = .ok vs.toArray w := by
    rw [Array.mapM_eq_mapM_toList]
    simp only [Sem.run_map, hr, Result.andThen_ok]
  rw [results_eq]
  simp only [Sem.run_bind]
  rw [h2]
  simp only [Result.andThen_ok, Sem.run_pure]
  congr 1
  cases vs with
  | nil => simp [resV]
  | cons v vs => cases vs <;> simp [resV]

theorem fin_ok (hty : TysOk P tys) (hds : DefsOk P dcs) {e : Env} {a : Act} (he : Ok e a) {fn : Func} {K : Value → Mem → Prop} {w0 : World} : ∀ (ds : List Deferred) (w : World), fin tys dcs fn.results.toList e K ds w.heap → Same w0 w →
    LeavesInM Fence.wide 0 P fn a.tmps (Ret K w0) ds .returning w := by
  intro ds
  induction ds with
  | nil =>
    intro w h hS
    obtain ⟨vs, hr, hK⟩ := results_ok (P := P) hty he h
    exact ⟨_, hr, _, rfl, hK, hS⟩
  | cons d ds ih =>
    intro w h hS
    simp only [fin] at h
    split at h
    · rename_i f cap ht
      split at h
      · rename_i p hp
        have hs := hds f p hp
        refine ⟨by simp, .inr ⟨fun h => by simp [Fence.wide] at h, .func f, cap, f, d.args ++ cap, ht, ?_, fun _ _ => trivial, ?_⟩⟩
        · rw [ht]
          simp only [invoke]
          exact hs.enters _ _
        · have := hs.calls _ w _ .returning h
          have hargs : (d.args.toList ++ cap.toList).toArray = d.args ++ cap := by
            apply Array.ext'; simp
          rw [hargs] at this
          refine this.mono ?_
          rintro e' u' w' ⟨rfl, v, rfl, hK, hS'⟩
          exact ih w' hK (hS.trans hS')
      · exact h.elim
    · rename_i D ht
      obtain ⟨hD, h⟩ := h
      refine ⟨by simp, .inl ⟨D, _, ht, run_takeDeferred hD, ih _ h ⟨hS.1, hS.2, hS.3⟩⟩⟩
    · exact h.elim

theorem argsE_ok : ∀ (vs : List Value) (i : Nat) (t : Nat) (v : Value), Env.get (argsE i vs) t = some v → i ≤ t ∧ vs[t - i]? = some v := by
  intro vs
  induction vs with
  | nil => intro i t v h; simp [argsE, Env.get, Tr.get] at h
  | cons x vs ih =>
    intro i t v h
    rcases tr_put _ _ _ _ _ _ h with ⟨rfl, rfl⟩ | ⟨hne, h⟩
    · simp
    · obtain ⟨h1, h2⟩ := ih (i + 1) t v h
      refine ⟨by omega, ?_⟩
      rw [show t - i = (t - (i + 1)) + 1 by omega]
      simpa using h2

theorem denF_wp (hm : P.follows .mixedOrders = true) (hty : TysOk P tys) (hcs : CallsOk P cs) (hds : DefsOk P dcs) {fn : Func} {c : Code} {vs : List Value} {w : World} {K : Value → Mem → Prop}
    (hok : codeOk hn fn.ntmps c = true) (hlen : vs.length ≤ fn.ntmps) (h : denF tys cs dcs hn c fn.results.toList vs w.heap K) :
    c.wpIn Fence.wide 0 P (bodyPostM Fence.wide 0 P fn (Ret K w)) { tmps := vs.toArray ++ Array.replicate (fn.ntmps - vs.toArray.size) undef, defers := [] } w := by
  have hrel : Rel fn.ntmps (argsE 0 vs) [] ({ tmps := vs.toArray ++ Array.replicate (fn.ntmps - vs.toArray.size) undef, defers := [] } : Act) := by
    refine ⟨by simp; omega, rfl, ?_⟩
    intro t v ht
    obtain ⟨_, h2⟩ := argsE_ok vs 0 t v ht
    simp only [Nat.sub_zero] at h2
    have hlt : t < vs.length := (List.getElem?_eq_some_iff.1 h2).1
    rw [Array.getElem?_append_left (by simpa using hlt)]
    simpa using h2
  refine den_ok (fm := 0) hm hty hcs c none _ [] _ w _ _ _ _ (.inl rfl) hok h hrel ?_ ?_ ?_
  · intro e' ds' a' w' hN hr _ hS
    show LeavesInM Fence.wide 0 P fn a'.tmps (Ret K w) a'.defers .returning w'
    rw [hr.defers]
    exact fin_ok hty hds hr.ok ds' w' hN hS
  · intro i e' ds' a' w' hX; exact hX.elim
  · intro e' ds' a' w' hN hr _ hS
    show LeavesInM Fence.wide 0 P fn a'.tmps (Ret K w) a'.defers .returning w'
    rw [hr.defers]
    exact fin_ok hty hds hr.ok ds' w' hN hS

/-- THE LINK: what a function asks, met, gives what its call does. -/
theorem denF_calls (hm : P.follows .mixedOrders = true) (hty : TysOk P tys) (hcs : CallsOk P cs) (hds : DefsOk P dcs) {f : FuncId} {fn : Func} {c : Code} {vs : List Value} {w : World} {K : Value → Mem → Prop}
    (hf : P.funcs[f]? = some fn) (hb : fn.body = some c) (hok : codeOk hn fn.ntmps c = true) (hlen : vs.length ≤ fn.ntmps) (h : denF tys cs dcs hn c fn.results.toList vs w.heap K) : Calls P f vs.toArray w (Ret K w) :=
  callsIn_wide.1 (callsIn_of_wp_marks hf hb trivial (denF_wp hm hty hcs hds hok hlen h))

theorem leaves_nil {fn : Func} {tmps : Array Value} {R : Ending → World → Prop} {w : World} (h : LeavesInM Fence.wide 0 P fn tmps R [] .returning w) : ∃ v, (results fn tmps).run P w = .ok v w ∧ R (.returned v) w := h

/-- THE LINK of a function that is deferred and defers nothing itself. -/
theorem denF_callsD (hm : P.follows .mixedOrders = true) (hty : TysOk P tys) (hcs : CallsOk P cs) {f : FuncId} {fn : Func} {c : Code} {vs : List Value} {w : World} {K : Value → Mem → Prop} {u : FrameMode}
    (hf : P.funcs[f]? = some fn) (hb : fn.body = some c) (hok : codeOk hn fn.ntmps c = true) (hnd : noDefer c = true) (hlen : vs.length ≤ fn.ntmps) (h : denF tys cs noCalls hn c fn.results.toList vs w.heap K) :
    CallsDIn Fence.wide 0 P f vs.toArray u w (fun e u' w' => u' = u ∧ Ret K w e w') := by
  refine callsDIn_of_wp hf hb trivial ?_
  have hrel : Rel fn.ntmps (argsE 0 vs) [] ({ tmps := vs.toArray ++ Array.replicate (fn.ntmps - vs.toArray.size) undef, defers := [] } : Act) := by
    refine ⟨by simp; omega, rfl, ?_⟩
    intro t v ht
    obtain ⟨_, h2⟩ := argsE_ok vs 0 t v ht
    simp only [Nat.sub_zero] at h2
    have hlt : t < vs.length := (List.getElem?_eq_some_iff.1 h2).1
    rw [Array.getElem?_append_left (by simpa using hlt)]
    simpa using h2
  have key : ∀ e' ds' a' w', fin tys noCalls fn.results.toList e' K ds' w'.heap → Rel fn.ntmps e' ds' a' → Fr (writes c) (noDefer c) ({ tmps := vs.toArray ++ Array.replicate (fn.ntmps - vs.toArray.size) undef, defers := [] } : Act) a' → Same w w' →
      a'.defers = [] ∧ ∃ v, (results fn a'.tmps).run P w' = .ok v w' ∧ Ret K w (.returned v) w' := by
    intro e' ds' a' w' hN hr hF hS
    have hd : a'.defers = [] := hF.defers hnd
    have hl := fin_ok (P := P) (dcs := noCalls) (w0 := w) hty (defsOk_nil P) hr.ok ds' w' hN hS
    rw [← hr.defers, hd] at hl
    exact ⟨hd, leaves_nil hl⟩
  refine den_ok (fm := 0) hm hty hcs c none _ [] _ w _ _ _ _ (.inl rfl) hok h hrel ?_ ?_ ?_
  · intro e' ds' a' w' hN hr hF hS; exact key e' ds' a' w' hN hr hF hS
  · intro i e' ds' a' w' hX; exact hX.elim
  · intro e' ds' a' w' hN hr hF hS; exact key e' ds' a' w' hN hr hF hS
end
end Go.TS
