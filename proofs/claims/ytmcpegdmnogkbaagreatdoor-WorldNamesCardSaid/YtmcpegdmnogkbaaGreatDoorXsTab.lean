/- The layer 'XS': tables. -/
import Derived.Test.YtmcpegdmnogkbaaGreatDoorXsSound2
set_option linter.unusedSimpArgs false
set_option linter.unusedVariables false
namespace Go.XS
open Go Go.TS

theorem HR.growN {γ : G} {φ : Fx} {H : Am} {h h' : Mem} (hR : HR γ φ H h) (hs : h.size ≤ h'.size) (hE : ∀ B, B < h.size → h'[B]? = h[B]?) : HR γ φ H h' := by
  refine ⟨fun b x hb => Nat.lt_of_lt_of_le (hR.dom b x hb) hs, hR.band, hR.free, fun b o hb => ?_, hR.inj, fun B ob hφ => ?_, hR.le0, fun B s hh => ?_⟩
  · obtain ⟨B, N, ob, h1, h2, h3⟩ := hR.obj b o hb
    exact ⟨B, N, ob, h1, by rw [hE B (lt_of_get h2)]; exact h2, h3⟩
  · obtain ⟨h1, h2⟩ := hR.far B ob hφ
    exact ⟨by rw [hE B (lt_of_get h1)]; exact h1, h2⟩
  · obtain ⟨st, pd, h1⟩ := hR.stat B s hh
    exact ⟨st, pd, by rw [hE B (lt_of_get h1)]; exact h1⟩
/-- is the type's nought plain? -/
def flatOk (ti : TI) : Bool := lkOk ti && match ti.lk with
  | .arr _ => false
  | .agg _ => match ti.zero with | .agg _ => true | _ => false
  | .leaf _ => true
inductive TyAllR (tys : Tys) : List (Nat × TI) → Prop where
  | nil : TyAllR tys []
  | flat {t : Nat} {ti : TI} {r : List (Nat × TI)} (h : flatOk ti = true) (h' : lkOk ti = true) (hr : TyAllR tys r) : TyAllR tys ((t, ti) :: r)
  | arr {t : Nat} {ti te : TI} {m el : Nat} {r : List (Nat × TI)} (h1 : ti.desc = .array m el) (h2 : tyOf tys el = some te) (h3 : ti.zero = .agg (Array.replicate m te.zero)) (h4 : te.zero.cells = #[te.zero]) (h5 : lkOk ti = true) (hr : TyAllR tys r) : TyAllR tys ((t, ti) :: r)
theorem TyAllR.mem {tys : Tys} {l : List (Nat × TI)} (h : TyAllR tys l) : ∀ t ti, (t, ti) ∈ l → lkOk ti = true ∧ (flatOk ti = true ∨ ∃ m el te, ti.desc = .array m el ∧ tyOf tys el = some te ∧ ti.zero = .agg (Array.replicate m te.zero) ∧ te.zero.cells = #[te.zero]) := by
  induction h with
  | nil => intro t ti h; cases h
  | flat h h' _ ih =>
    intro t ti hm
    cases hm with
    | head => exact ⟨h', .inl h⟩
    | tail _ hm => exact ih t ti hm
  | arr h1 h2 h3 h4 h5 _ ih =>
    intro t ti hm
    cases hm with
    | head => exact ⟨h5, .inr ⟨_, _, _, h1, h2, h3, h4⟩⟩
    | tail _ hm => exact ih t ti hm
theorem tyR_of {l : List (Nat × TI)} {mt : String → List (Nat × Nat)} (h : TyAllR ⟨trOf l, mt⟩ l) : TyR ⟨trOf l, mt⟩ := by
  have key : ∀ t ti, tyOf ⟨trOf l, mt⟩ t = some ti → lkOk ti = true ∧ (flatOk ti = true ∨ ∃ m el te, ti.desc = .array m el ∧ tyOf ⟨trOf l, mt⟩ el = some te ∧ ti.zero = .agg (Array.replicate m te.zero) ∧ te.zero.cells = #[te.zero]) :=
    fun t ti ht => h.mem t ti (tr_of l t ti ht)
  refine ⟨?_, fun t ti ht => (key t ti ht).1, ?_⟩
  · intro t ti n ht hl m el te hd hte _
    rcases (key t ti ht).2 with h1 | ⟨m', el', te', h1, h2, h3, h4⟩
    · unfold flatOk at h1
      rw [hl] at h1
      simp at h1
    · rw [hd] at h1
      cases h1
      rw [hte] at h2
      cases h2
      exact ⟨h3, h4⟩
  · intro t ti ht
    rcases (key t ti ht).2 with h1 | ⟨m', el', te', h1, h2, h3, h4⟩
    · unfold flatOk at h1
      rw [Bool.and_eq_true] at h1
      refine ⟨fun n hl => ?_, fun ks hl => ?_⟩
      · rw [hl] at h1; simp at h1
      · rw [hl] at h1
        have h2 := h1.2
        simp only at h2
        split at h2
        · rename_i cs hc; exact ⟨cs, hc⟩
        · cases h2
    · exact ⟨fun _ _ => ⟨_, h3⟩, fun _ _ => ⟨_, h3⟩⟩
noncomputable def fiOf (fn : Func) : FI := .code (fn.body.getD .skip) fn.results.toList fn.ntmps
noncomputable def fnTree (l : List (Nat × FI)) : PT FI := List.rec (motive := fun _ => PT FI) .lf (fun q _ ih => PT.put ih (pOf q.1) q.2) l
noncomputable def fnGet (t : PT FI) (f : Nat) : Option FI := match Nat.blt f 16383 with
  | true => PT.get t (pOf f)
  | false => none
theorem fnTree_get {l : List (Nat × FI)} {p : P} {x : FI} (h : PT.get (fnTree l) p = some x) : ∃ k, (k, x) ∈ l ∧ pOf k = p := by
  induction l with
  | nil => have h' : PT.get (.lf : PT FI) p = some x := h; rw [get_lf] at h'; cases h'
  | cons q l ih =>
    have h' : PT.get (PT.put (fnTree l) (pOf q.1) q.2) p = some x := h
    rw [get_put] at h'
    split at h'
    · rename_i e; cases h'; exact ⟨q.1, by simp, e.symm⟩
    · obtain ⟨k, h1, h2⟩ := ih h'; exact ⟨k, by simp [h1], h2⟩
theorem fnGet_mem {l : List (Nat × FI)} (hl : ∀ q, q ∈ l → q.1 < 16383) {f : Nat} {x : FI} (h : fnGet (fnTree l) f = some x) : (f, x) ∈ l := by
  unfold fnGet at h
  split at h
  · rename_i hb
    rw [blt_iff] at hb
    obtain ⟨k, h1, h2⟩ := fnTree_get h
    have := hl _ h1
    have : k = f := pOf_inj (by omega) (by omega) h2
    subst this; exact h1
  · cases h
/-- the program's functions, one by one -/
inductive FnAll (P : Program) : List (Nat × FI) → Prop where
  | nil : FnAll P []
  | code {k : Nat} {fn : Func} {c : Code} {r : List (Nat × FI)} (h1 : P.funcs[k]? = some fn) (h2 : fn.body = some c) (h3 : codeOk hn0 fn.ntmps c = true) (h4 : ∀ args w, (callFunc k args).run P w = .ok (.enter k args) w) (hr : FnAll P r) : FnAll P ((k, fiOf fn) :: r)
  | intr {k : Nat} {i : XCall} {r : List (Nat × FI)} (hr : FnAll P r) : FnAll P ((k, .intr i) :: r)
theorem FnAll.mem {P : Program} {l : List (Nat × FI)} (h : FnAll P l) : ∀ f c rs m, (f, FI.code c rs m) ∈ l → ∃ fn, P.funcs[f]? = some fn ∧ fn.body = some c ∧ fn.results.toList = rs ∧ codeOk hn0 fn.ntmps c = true ∧ m ≤ fn.ntmps ∧
    ∀ args w, (callFunc f args).run P w = .ok (.enter f args) w := by
  induction h with
  | nil => intro f c rs m h; cases h
  | code h1 h2 h3 h4 _ ih =>
    intro f c rs m h
    cases h with
    | head => rw [h2]; exact ⟨_, h1, h2, rfl, h3, Nat.le_refl _, h4⟩
    | tail _ h => exact ih f c rs m h
  | intr _ ih =>
    intro f c rs m h
    cases h with
    | tail _ h => exact ih f c rs m h
theorem fnsOk_of {P : Program} {l : List (Nat × FI)} (h : FnAll P l) (hl : ∀ q, q ∈ l → q.1 < 16383) : FnsOk P (fnGet (fnTree l)) := fun f c rs m hf => h.mem f c rs m (fnGet_mem hl hf)
noncomputable def bltAll (l : List (Nat × FI)) : Bool := List.rec (motive := fun _ => Bool) true (fun q _ ih => match Nat.blt q.1 16383 with | true => ih | false => false) l
theorem of_blt {l : List (Nat × FI)} (h : bltAll l = true) : ∀ q, q ∈ l → q.1 < 16383 := by
  induction l with
  | nil => intro q hq; cases hq
  | cons x l ih =>
    have h' : (match Nat.blt x.1 16383 with | true => bltAll l | false => false) = true := h
    intro q hq
    split at h'
    · rename_i hb
      cases hq with
      | head => exact blt_iff.1 hb
      | tail _ hq => exact ih h' q hq
    · cases h'
end Go.XS
