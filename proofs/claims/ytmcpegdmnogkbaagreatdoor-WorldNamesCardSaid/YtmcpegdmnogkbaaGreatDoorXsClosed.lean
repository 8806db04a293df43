/- The layer 'XS': closed laws: functions without parameters whose run is true. -/
import Derived.RowKit
import Derived.ChangeSame
import Derived.Test.YtmcpegdmnogkbaaGreatDoorXsTab
set_option linter.unusedSimpArgs false
set_option linter.unusedVariables false
namespace Go.XS
open Go Go.TS
noncomputable def h0 : Am := ⟨.lf, .one, none, []⟩
noncomputable def okRun (o : Option (AV × Am)) : Bool := match o with
  | some q => match q.1 with
    | .bool true => true
    | _ => false
  | none => false
theorem okRun_ok {o : Option (AV × Am)} (h : okRun o = true) : ∃ q, o = some q ∧ q.1 = .bool true := by
  unfold okRun at h
  split at h
  · rename_i q
    split at h
    · rename_i hq; exact ⟨q, rfl, hq⟩
    · cases h
  · cases h
/-- one function more is a contract -/
def overF (fns : Nat → Option FI) (k : Nat) (i : XCall) : Nat → Option FI := fun f => match Nat.beq f k with
  | true => some (.intr i)
  | false => fns f
def overI (ix : Nat → Option CallP) (k : Nat) (p : CallP) : Nat → Option CallP := fun f => match Nat.beq f k with
  | true => some p
  | false => ix f
theorem FnsOk.over {P : Program} {fns : Nat → Option FI} (h : FnsOk P fns) (k : Nat) (i : XCall) : FnsOk P (overF fns k i) := by
  intro f c rs m hf
  unfold overF at hf
  split at hf
  · cases hf
  · exact h f c rs m hf
theorem IxOk.over {P : Program} {ix : Nat → Option CallP} (h : IxOk P ix) {k : Nat} {p : CallP} (hp : Sound P k p) : IxOk P (overI ix k p) := by
  intro f q hf
  unfold overI at hf
  split at hf
  · rename_i hb; cases hf; rw [Nat.eq_of_beq_eq_true hb]; exact .inl hp
  · exact h f q hf
def IxR1 (i : XCall) (p : CallP) : Prop := (∀ ags H q, i ags H = some q → Ch H q.2) ∧ ∀ (γ : G) (φ : Fx) ags H h vs q (K' : Value → Mem → Prop), i ags H = some q → HR γ φ H h → VRL γ ags vs → FinR γ φ q K' → p vs h K'
theorem IxR.over {fns : Nat → Option FI} {ix : Nat → Option CallP} (h : IxR fns ix) {k : Nat} {i : XCall} {p : CallP} (hp : IxR1 i p) : IxR (overF fns k i) (overI ix k p) := by
  intro f j hf
  unfold overF at hf
  unfold overI
  split at hf
  · cases hf; exact ⟨p, rfl, hp⟩
  · exact h f j hf
/-- the contracts of a table, one by one -/
inductive IxAll (ix : Nat → Option CallP) : List (Nat × FI) → Prop where
  | nil : IxAll ix []
  | code {k : Nat} {c : Code} {rs : List ResultVar} {m : Nat} {r : List (Nat × FI)} (hr : IxAll ix r) : IxAll ix ((k, .code c rs m) :: r)
  | intr {k : Nat} {i : XCall} {p : CallP} {r : List (Nat × FI)} (h1 : ix k = some p) (h2 : IxR1 i p) (hr : IxAll ix r) : IxAll ix ((k, .intr i) :: r)
theorem IxAll.mem {ix : Nat → Option CallP} {l : List (Nat × FI)} (h : IxAll ix l) : ∀ f i, (f, FI.intr i) ∈ l → ∃ p, ix f = some p ∧ IxR1 i p := by
  induction h with
  | nil => intro f i h; cases h
  | code _ ih =>
    intro f i h
    cases h with
    | tail _ h => exact ih f i h
  | intr h1 h2 _ ih =>
    intro f i h
    cases h with
    | head => exact ⟨_, h1, h2⟩
    | tail _ h => exact ih f i h
theorem ixR_of {ix : Nat → Option CallP} {l : List (Nat × FI)} (h : IxAll ix l) (hl : ∀ q, q ∈ l → q.1 < 16383) : IxR (fnGet (fnTree l)) ix := fun f i hf => h.mem f i (fnGet_mem hl hf)
def ixGet (l : List (Nat × CallP)) : Nat → Option CallP := fun f => pickO l f
theorem pickO_mem {α : Type} {l : List (Nat × α)} {f : Nat} {p : α} (h : pickO l f = some p) : (f, p) ∈ l := by
  induction l with
  | nil => cases h
  | cons q l ih =>
    obtain ⟨k, x⟩ := q
    simp only [pickO] at h
    split at h
    · rename_i hb; cases h; rw [Nat.eq_of_beq_eq_true hb]; simp
    · exact List.mem_cons_of_mem _ (ih h)
theorem ixOk_of {P : Program} {l : List (Nat × CallP)} (h : CallsAll P l) : IxOk P (ixGet l) := fun f p hp => h.mem f p (pickO_mem hp)
/-- what a closed law asks: it is true, and touches nothing that was there -/
def pTrue : CallP := fun vs h K => vs = [] ∧ ∀ h' : Mem, h.size ≤ h'.size → (∀ B, B < h.size → h'[B]? = h[B]?) → K (.bool true) h'
def iTrue : XCall := fun ags h => match ags with
  | [] => some (.bool true, h)
  | _ => none
theorem iTrue_R1 : IxR1 iTrue pTrue := by
  refine ⟨fun ags H q hx => ?_, fun γ φ ags H h vs q K' hx hR hv hK => ?_⟩
  · unfold iTrue at hx
    split at hx
    · cases hx; exact .refl _
    · cases hx
  · unfold iTrue at hx
    split at hx
    · cases hx
      simp only [VRL] at hv
      subst hv
      refine ⟨rfl, fun h' hs hE => hK γ _ _ (.refl γ) (hR.growN hs hE) (by simp only [VR])⟩
    · cases hx
theorem size_le {h h' : Mem} (hE : ∀ B, B < h.size → h'[B]? = h[B]?) : h.size ≤ h'.size := by
  rcases Nat.lt_or_ge h'.size h.size with e | e
  · exfalso
    have h1 := hE (h.size - 1) (by omega)
    have h2 : h[h.size - 1]? = some (h[h.size - 1]'(by omega)) := Array.getElem?_eq_getElem (by omega)
    rw [h2] at h1
    have := lt_of_get h1
    omega
  · exact e
theorem sound_true {P : Program} {f : Nat} (he : ∀ args w, (callFunc f args).run P w = .ok (.enter f args) w)
    (h : ∀ w, Calls P f #[] w (Ret (fun v h => v = .bool true ∧ ∀ B, B < w.heap.size → h[B]? = w.heap[B]?) w)) : Sound P f pTrue := by
  refine ⟨he, fun vs w K hK => ?_⟩
  obtain ⟨rfl, hK⟩ := hK
  refine (h w).mono fun e w' hw => ?_
  obtain ⟨v, rfl, ⟨rfl, hE⟩, hs⟩ := hw
  exact ⟨_, rfl, hK _ (size_le hE) hE, hs⟩
/-- a closed law's run, in the row's words -/
theorem run_true {P : Program} {tys : Tys} {fns : Nat → Option FI} {ix : Nat → Option CallP} (hm : P.follows .mixedOrders = true) (hty : TysOk P tys) (hT : TyR tys) (hF : FnsOk P fns) (hX : IxOk P ix) (hI : IxR fns ix) {n f : Nat} {c : Code} {rs : List ResultVar} {m : Nat}
    (hf : fns f = some (.code c rs m)) (hx : okRun (XF tys fns n noY f [] h0) = true) (w : World) : Calls P f #[] w (Ret (fun v h => v = .bool true ∧ ∀ B, B < w.heap.size → h[B]? = w.heap[B]?) w) := by
  obtain ⟨q, h1, h2⟩ := okRun_ok hx
  exact run_calls hm hty hT hF hX hI hf h1 h2 w
def Old (w w' : World) : Prop := w'.os = w.os ∧ w'.output = w.output ∧ ∀ B, B < w.heap.size → w'.heap[B]? = w.heap[B]?
theorem Old.kept {w w' : World} (h : Old w w') (may : MemPlace → Prop) : w.keptBut w' may := by
  refine ⟨h.1, h.2.1, fun i hi => ?_⟩
  rw [h.2.2 i hi, Array.getElem?_eq_getElem hi]
  cases w.heap[i] <;> simp
theorem run_old {P : Program} {f : Nat} {w : World} (h : Calls P f #[] w (Ret (fun v h => v = .bool true ∧ ∀ B, B < w.heap.size → h[B]? = w.heap[B]?) w)) : Calls P f #[] w fun e w' => e = .returned (.bool true) ∧ Old w w' := by
  refine h.mono fun e w' hw => ?_
  obtain ⟨v, rfl, ⟨rfl, hE⟩, hs⟩ := hw
  exact ⟨rfl, hs.os, hs.output, hE⟩
end Go.XS
/- The layer 'XS': what a row asks behind a closed law's run. -/
namespace Go.XS
open Go Go.TS Go.ChangeShapes Go.WideShapes
theorem post_closed {H : Type} {enc : TypeId × Value → H} {P : Program} {f : Func} {s : ChangeSpec} {apart fresh handsOn again : Bool} {W W' : World} {v : Value}
    (hW : DataW.Whole enc P f.params.toList s.vars apart W (#[] : Array Value).toList [] [] []) (hg : Old W W')
    (hres : ∀ (b : Nat) (sp : Nat → Bool) (hd : Bool), DataW.TrodAll enc P W' b sp hd f.resultTypes.toList (v.resultList f.resultTypes.size) (s.fn H ([] ++ [])).results [])
    (hargs : ∀ sp : Nat → Bool, DataW.TrodAll enc P W' 0 sp true f.params.toList (#[] : Array Value).toList (s.fn H ([] ++ [])).args [])
    (hargs' : ∀ sp : Nat → Bool, DataW.TrodAll enc P W' 0 sp true f.params.toList (#[] : Array Value).toList (s.fn H ([] ++ [])).args [])
    (hvars : ∀ sp : Nat → Bool, DataW.TrodVars enc P W' sp s.vars (s.fn H ([] ++ [])).vars []) (hvars' : ∀ sp : Nat → Bool, DataW.TrodVars enc P W' sp s.vars (s.fn H ([] ++ [])).vars [])
    (hok : ∀ (j : Nat) (t : TypeId) (r : Value), f.resultTypes[j]? = some t → (v.resultList f.resultTypes.size)[j]? = some r → Value.okWide P W' .any 0 t r) :
    s.post enc P f apart fresh handsOn again W #[] v W' := by
  refine ⟨[], [], [], [], [], [], hW, hres _ _ _, hargs _, hvars _, hg.kept _, fun _ => ⟨hok, _, _, [], ⟨[], [], trodAll_append (hargs' _) (hres _ _ _), hvars' _, rfl, ?_, fun _ => List.nodup_nil⟩, fun p hp => by cases hp⟩⟩
  intro b off hp
  cases hp
end Go.XS
