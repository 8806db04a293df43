/- The layer 'XS': regions, code, functions: what a run says of what is asked. -/
import Derived.Test.YtmcpegdmnogkbaaGreatDoorXsEff
import Derived.Test.YtmcpegdmnogkbaaGreatDoorTsS10
set_option linter.unusedSimpArgs false
set_option linter.unusedVariables false
namespace Go.XS
open Go Go.TS

def hn0 : Hints := ⟨[], [], []⟩
section
variable {γ : G} {φ : Fx} {H : Am} {h : Mem} {ρ : Type} {r : ρ} {tys : Tys} {ae : AE} {e : Env} {cf : CF} {dcf : Nat → XCall} {cs dcs : Calls'}

inductive DsR (γ : G) : List ADef → List Deferred → Prop
  | nil : DsR γ [] []
  | cons {fn : Fn} {cap args : List AV} {us vs : List Value} {l : List ADef} {m : List Deferred} (h1 : VRL γ cap us) (h2 : VRL γ args vs) (hm : DsR γ l m) :
      DsR γ (⟨fn, cap, args, none⟩ :: l) ({ target := .fn fn us.toArray, args := vs.toArray } :: m)
  | mark {b : P} {B N : Nat} {l : List ADef} {m : List Deferred} (hb : γ b = some (B, N)) (hm : DsR γ l m) :
      DsR γ (⟨.yield 0, [], [], some b⟩ :: l) ({ target := .collected B, args := #[] } :: m)
theorem DsR.mono {γ γ' : G} (hl : G.le γ γ') {l : List ADef} {m : List Deferred} (h : DsR γ l m) : DsR γ' l m := by
  induction h with
  | nil => exact .nil
  | cons h1 h2 _ ih => exact .cons (h1.mono hl) (h2.mono hl) ih
  | mark hb _ ih => exact .mark (hl _ _ hb) ih
def RgR (γ : G) (φ : Fx) (r : ρ) (K : Rg ρ) (K' : TS.Rg) : Prop :=
  ∀ γ' ae ads H e ds h, G.le γ γ' → HR γ' φ H h → ER γ' ae e → DsR γ' ads ds → K ae ads H = some r → K' e ds h
theorem RgR.mono {γ γ' : G} {K : Rg ρ} {K' : TS.Rg} (hl : G.le γ γ') (h : RgR γ φ r K K') : RgR γ' φ r K K' := fun γ2 ae ads H e ds h' hle => h γ2 ae ads H e ds h' (hl.trans hle)

theorem env_get_put (e : Env) (d t : Nat) (v : Value) (ht : t < 16383) : Env.get (Env.put e d v) t = if t = d then some v else Env.get e t := tr_put2 14 e d v t (by omega)
theorem grd_R {all : List Oper} {o : Oper} {K : Bool → Option ρ} (he : ER γ ae e) (hx : grd all o ae K = some r) :
    ∃ e' b, (∀ t, t < 16383 → Env.get e' t = Env.get e t) ∧ K b = some r ∧ (∀ K' : Env → Bool → Prop, TS.grd all o e K' = K' e' b) ∧ (∀ K2 : Bool → Option ρ, grd all o ae K2 = K2 b) := by
  have hg0 : ∀ K2 : Bool → Option ρ, grd all o ae K2 = match o.guard with
    | none => K2 true
    | some q => match nth all q.1 with
      | none => none
      | some og => match og.dst with
        | none => none
        | some d => match eget ae d with
          | some (.bool c) => K2 (eqBo c q.2)
          | some (.tup _) => K2 false
          | _ => none := fun _ => rfl
  unfold grd at hx
  split at hx
  · rename_i hg
    exact ⟨e, true, fun _ _ => rfl, hx, fun K' => by simp only [TS.grd, hg], fun K2 => by rw [hg0, hg]⟩
  · rename_i q hg
    obtain ⟨g, want⟩ := q
    simp only at hx
    rw [nth_eq] at hx
    split at hx
    · cases hx
    · rename_i og hog
      split at hx
      · cases hx
      · rename_i d hd
        split at hx
        · rename_i c hc
          obtain ⟨v, h1, h2⟩ := he d _ hc
          rw [dBool h2] at h1
          have hsame : ∀ t, t < 16383 → Env.get (Env.put e d (.bool c)) t = Env.get e t := by
            intro t ht
            rw [env_get_put _ _ _ _ ht]
            split
            · rename_i e; rw [e, h1]
            · rfl
          refine ⟨Env.put e d (.bool c), eqBo c want, hsame, hx, fun K' => ?_, fun K2 => by rw [hg0, hg]; simp only [nth_eq, hog, hd, hc]⟩
          simp only [TS.grd, hg, hog, hd, h1]
          cases c <;> cases want <;> rfl
        · rename_i vs hc
          obtain ⟨v, h1, h2⟩ := he d _ hc
          obtain ⟨us, _, rfl⟩ := dTup h2
          exact ⟨e, false, fun _ _ => rfl, hx, fun K' => by simp only [TS.grd, hg, hog, hd, h1], fun K2 => by rw [hg0, hg]; simp only [nth_eq, hog, hd, hc]⟩
        · cases hx
theorem ER.same {e' : Env} (he : ER γ ae e) (hs : ∀ t, t < 16383 → Env.get e' t = Env.get e t) : ER γ ae e' := fun t x hx => by
  obtain ⟨v, h1, h2⟩ := he t x hx
  exact ⟨v, by rw [hs t (eget_lt hx)]; exact h1, h2⟩

theorem denL_R (hT : TyR tys) (hC : CfR φ.top cf cs) {all : List Oper} : ∀ (l : List Oper) {γ : G} {ae : AE} {ads : List ADef} {H : Am} {e : Env} {ds : List Deferred} {h : Mem} {K : Rg ρ} {K' : TS.Rg}, HR γ φ H h → ER γ ae e → DsR γ ads ds →
    denL tys cf all l ae ads H K = some r → RgR γ φ r K K' → TS.denL tys cs all l e ds h K' := by
  intro l
  induction l with
  | nil => intro γ ae ads H e ds h K K' hR he hd hx hK; exact hK γ _ _ _ _ _ _ (.refl γ) hR he hd hx
  | cons o l ih =>
    intro γ ae ads H e ds h K K' hR he hd hx hK
    have hx' : (grd all o ae fun w => match w with
      | false => denL tys cf all l (bindE o.dst undefA ae) ads H K
      | true => doOp tys cf o ae ads H fun e ds h => denL tys cf all l e ds h K) = some r := hx
    obtain ⟨e', b, hs, hx, hg, hg2⟩ := grd_R he hx'
    have he' := he.same hs
    simp only [TS.denL]
    rw [hg]
    cases b with
    | false => exact ih hR (he'.bind _ vUndef) hd hx hK
    | true =>
      simp only []
      have hx : doOp tys cf o ae ads H (fun e ds h => denL tys cf all l e ds h K) = some r := hx
      unfold doOp at hx
      split at hx
      · rename_i f args ts hop
        obtain ⟨a, v, h1, h2, hx1⟩ := withV_R he' hx
        obtain ⟨ags, vs, g1, g2, hx2⟩ := evL_R he' hx1
        clear hx hx1
        simp only [hop]
        split at hx2
        · rename_i fn first cap
          simp only [VR] at h2
          obtain ⟨us, ws, u1, u2, rfl⟩ := h2
          simp only [h1, g1]
          have hvl : VRL γ (catL first ags) (us ++ vs) := by rw [catL_eq]; exact u1.append g2
          have e1 : us.toArray ++ vs.toArray = (us ++ vs).toArray := by simp
          rw [e1]
          exact ih hR (he'.bind _ vUndef) (.cons u2 hvl hd) hx2 hK
        · cases hx2
      · rename_i hnd
        split
        · rename_i f args ts hop; exact (hnd f args ts hop).elim
        · skip
          split at hx
          · rename_i hst
            rw [hst]
            exact still_R hT hR he' hx fun x y hxy hx => ih hR (he'.bind _ hxy) hd hx hK
          · rename_i hst
            rw [hst]
            exact eff_R hT hC hR he' hx fun γ' a v H' h' hle hR' hv hx => ih hR' ((he'.mono hle).bind _ hv) (hd.mono hle) hx (hK.mono hle)

-- regions that draw
theorem ldT_at {ti : TI} {A : Addr} {K : Value → Prop} (hl : lkOk ti = true) (hx : TS.ldT ti.lk A h K) : ∃ v, at' h A v ∧ K v := by
  cases hk : ti.lk with
  | leaf k =>
    rw [hk] at hx
    by_cases hne : k = .any
    · subst hne
      obtain ⟨y, h1, h2, h3⟩ := hx
      exact ⟨y, (at'_leaf h2).2 h1, h3⟩
    rw [TS.ldT_leaf hne] at hx
    obtain ⟨y, h1, h2⟩ := hx
    exact ⟨_, (at'_leaf (enc_one hne y)).2 h1, h2⟩
  | agg ks =>
    rw [hk] at hx
    have key : ∀ (ks : List Kind) (i : Nat) (K : List Value → Prop), TS.ldL ks A i h K → ∃ vs : List Value, (∀ (j : Nat) v, vs[j]? = some v → rd h (A.add (i + j)) = some v) ∧ K vs := by
      intro ks
      induction ks with
      | nil => intro i K hx; exact ⟨[], fun j v hj => by simp at hj, hx⟩
      | cons k ks ih =>
        intro i K hx
        obtain ⟨y, h1, h2⟩ := hx
        obtain ⟨vs, h3, h4⟩ := ih (i + 1) _ h2
        refine ⟨_, ?_, h4⟩
        intro j v hj
        cases j with
        | zero => simp at hj; subst hj; exact h1
        | succ j => rw [show i + (j + 1) = i + 1 + j by omega]; exact h3 j v (by simpa using hj)
    obtain ⟨vs, h1, h2⟩ := key ks 0 _ hx
    refine ⟨_, at'_agg.2 ?_, h2⟩
    intro i v hv
    have := h1 i v (by simpa using hv)
    simpa using this
  | arr n =>
    rw [hk] at hx
    obtain ⟨cs, h1, h2, h3⟩ := hx
    refine ⟨_, at'_agg.2 ?_, h3⟩
    intro i v hv
    exact h2 i v (by simpa using hv)
theorem pEq_iff : ∀ (p q : P), pEq p q = true ↔ p = q := by
  intro p
  induction p with
  | one => intro q; cases q <;> simp [pEq]
  | dbl p ih => intro q; cases q with
    | dbl q => show pEq p q = true ↔ _; rw [ih]; simp
    | one => simp [pEq]
    | odd q => simp [pEq]
  | odd p ih => intro q; cases q with
    | odd q => show pEq p q = true ↔ _; rw [ih]; simp
    | one => simp [pEq]
    | dbl q => simp [pEq]
theorem eqAd_eq {a b : Option Ad} (h : eqAd a b = true) : a = b := by
  unfold eqAd at h
  split at h
  · rfl
  · rename_i a b
    split at h
    · rename_i ho
      rw [beq_iff] at ho
      rw [pEq_iff] at h
      cases a; cases b; simp only at ho h; subst ho h; rfl
    · cases h
  · cases h
theorem eqAt_eq {a b : At} (h : eqAt a b = true) : a = b := by
  unfold eqAt at h
  split at h
  · rename_i h1
    rw [beq_iff] at h1 h
    cases a; cases b; simp only at h1 h; subst h1 h; rfl
  · cases h
theorem eqV1_eq {a b : AV} (h : eqV1 a b = true) : a = b := by
  unfold eqV1 at h
  split at h
  · split at h
    · split at h
      · rename_i hk; rw [ikEq_iff] at hk; rw [iEq_iff] at h; rw [hk, h]
      · cases h
    · cases h
  · split at h
    · rw [eqBo_eq] at h; simp at h; rw [h]
    · cases h
  · split at h
    · rw [eqAd_eq h]
    · cases h
  · rename_i s
    split at h
    · rename_i t
      split at h
      · rename_i h1
        split at h
        · rename_i h2
          split at h
          · rename_i h3
            rw [beq_iff] at h2 h3 h
            have := eqAd_eq h1
            cases s; cases t; simp only at this h2 h3 h; subst this h2 h3 h; rfl
          · cases h
        · cases h
      · cases h
    · cases h
  · split at h
    · rw [eqAt_eq h]
    · cases h
  · rename_i q
    split at h
    · cases q with
      | none => rfl
      | some _ => cases h
    · split at h
      · rw [pEq_iff] at h; rw [h]
      · cases h
    · cases h
  · split at h
    · rfl
    · cases h
  · split at h
    · rfl
    · cases h
  · cases h
theorem eqVL0_eq : ∀ {a b : List AV}, eqVL0 a b = true → a = b := by
  intro a
  induction a with
  | nil => intro b h; cases b with
    | nil => rfl
    | cons _ _ => cases h
  | cons x a ih =>
    intro b h
    cases b with
    | nil => cases h
    | cons y b =>
      have h' : (match eqV1 x y with | true => eqVL0 a b | false => false) = true := h
      split at h'
      · rename_i h1; rw [eqV1_eq h1, ih h']
      · cases h'
theorem fnEq_eq {f g : Fn} (h : fnEq f g = true) : f = g := by
  unfold fnEq at h
  split at h
  · rw [beq_iff] at h; rw [h]
  · cases h
theorem eqV2_eq {a b : AV} (h : eqV2 a b = true) : a = b := by
  unfold eqV2 at h
  split at h
  · split at h
    · split at h
      · rename_i h1
        split at h
        · rename_i h2; rw [fnEq_eq h1, eqVL0_eq h2, eqVL0_eq h]
        · cases h
      · cases h
    · cases h
  · exact eqV1_eq h
theorem eqVL_eq : ∀ {a b : List AV}, eqVL a b = true → a = b := by
  intro a
  induction a with
  | nil => intro b h; cases b with
    | nil => rfl
    | cons _ _ => cases h
  | cons x a ih =>
    intro b h
    cases b with
    | nil => cases h
    | cons y b =>
      have h' : (match eqV2 x y with | true => eqVL a b | false => false) = true := h
      split at h'
      · rename_i h1; rw [eqV2_eq h1, ih h']
      · cases h'
theorem eqV0_eq {a b : AV} (h : eqV0 a b = true) : a = b := by
  unfold eqV0 at h
  split at h
  · split at h
    · rw [eqVL_eq h]
    · cases h
  · split at h
    · split at h
      · rename_i h1; rw [beq_iff] at h1 h; rw [h1, h]
      · cases h
    · cases h
  · exact eqV2_eq h
theorem eqVT_eq : ∀ {a b : List AV}, eqVT a b = true → a = b := by
  intro a
  induction a with
  | nil => intro b h; cases b with
    | nil => rfl
    | cons _ _ => cases h
  | cons x a ih =>
    intro b h
    cases b with
    | nil => cases h
    | cons y b =>
      have h' : (match eqV0 x y with | true => eqVT a b | false => false) = true := h
      split at h'
      · rename_i h1; rw [eqV0_eq h1, ih h']
      · cases h'
theorem eqV_eq {a b : AV} (h : eqV a b = true) : a = b := by
  unfold eqV at h
  split at h
  · split at h
    · rw [eqVT_eq h]
    · cases h
  · split at h
    · split at h
      · rename_i h1; rw [beq_iff] at h1; rw [h1, eqV0_eq h]
      · cases h
    · cases h
  · exact eqV0_eq h
theorem cellsOf_inv {b : P} {K : Cs → Option ρ} (h : cellsOf H b K = some r) : ∃ c, K c = some r := by
  unfold cellsOf at h
  split at h
  · exact ⟨_, h⟩
  · cases h
theorem withV_inv {x : Operand} {K : AV → Option ρ} (h : withV ae x K = some r) : ∃ v, K v = some r := by
  unfold withV at h
  split at h
  · exact ⟨_, h⟩
  · cases h
theorem ld_inv {k : Kind} {a : Ad} {K : aty k → Option ρ} (h : ld k a H K = some r) : ∃ x, K x = some r := by
  obtain ⟨c, h⟩ := cellsOf_inv h
  split at h
  · split at h
    · exact ⟨_, h⟩
    · cases h
  · cases h
theorem ldL_inv : ∀ (ks : List Kind) {a : Ad} (i : Nat) {K : List AV → Option ρ}, ldL ks a i H K = some r → ∃ x, K x = some r := by
  intro ks
  induction ks with
  | nil => intro a i K h; exact ⟨[], h⟩
  | cons k ks ih =>
    intro a i K h
    have h' : ld k (a.add i) H (fun x => ldL ks a (Nat.succ i) H fun vs => K (aenc k x :: vs)) = some r := h
    obtain ⟨x, hx⟩ := ld_inv h'
    obtain ⟨y, hy⟩ := ih _ hx
    exact ⟨_, hy⟩
theorem ldT_inv {l : Lk} {a : Ad} {K : AV → Option ρ} (h : ldT l a H K = some r) : ∃ x, K x = some r := by
  cases l with
  | leaf k =>
    by_cases hk : k = .any
    · subst hk
      obtain ⟨x, hx⟩ := ld_inv (k := .any) h
      split at hx
      · exact ⟨_, hx⟩
      · cases hx
    · have h' : ld k a H (fun x => K (aenc k x)) = some r := by
        revert h
        cases k <;> first | exact id | exact absurd rfl hk
      obtain ⟨x, hx⟩ := ld_inv (k := k) h'; exact ⟨_, hx⟩
  | agg ks => obtain ⟨x, hx⟩ := ldL_inv ks 0 h; exact ⟨_, hx⟩
  | arr n =>
    have h' : ldA n a H K = some r := h
    obtain ⟨c, h'⟩ := cellsOf_inv h'
    split at h'
    · exact ⟨_, h'⟩
    · cases h'
theorem sLoad_inv {t : TypeId} {x : Operand} {K : AV → Option ρ} (h : sLoad tys ae H t x K = some r) : ∃ v, K v = some r := by
  obtain ⟨p, h⟩ := withV_inv h
  split at h
  · split at h
    · exact ldT_inv h
    · cases h
  · cases h
theorem grd_inv {all : List Oper} {o : Oper} {K : Bool → Option ρ} (h : grd all o ae K = some r) : ∃ b, K b = some r := by
  unfold grd at h
  split at h
  · exact ⟨_, h⟩
  · split at h
    · cases h
    · split at h
      · cases h
      · split at h
        · exact ⟨_, h⟩
        · exact ⟨_, h⟩
        · cases h
theorem again_inv {all : List Oper} {o : Oper} {K : Option ρ} (h : again tys all o ae H K = some r) : K = some r := by
  unfold again at h
  obtain ⟨b, h⟩ := grd_inv h
  cases b with
  | false => exact h
  | true =>
    have h' : (match o.op with
      | .load t x => sLoad tys ae H t x fun v => match o.dst with
        | some d => match eget ae d with
          | some u => match eqV u v with
            | true => K
            | false => none
          | none => none
        | none => none
      | _ => none) = some r := h
    split at h'
    · obtain ⟨v, h'⟩ := sLoad_inv h'
      split at h'
      · split at h'
        · split at h'
          · exact h'
          · cases h'
        · cases h'
      · cases h'
    · cases h'
theorem againL_ok {all : List Oper} : ∀ {l : List Oper} {K : Option ρ}, againL tys all l ae H K = some r → K = some r ∧ ∀ o, o ∈ l → ∃ K0, again tys all o ae H K0 = some r := by
  intro l
  induction l with
  | nil => intro K h; exact ⟨h, fun o ho => by simp at ho⟩
  | cons o l ih =>
    intro K h
    have h' : again tys all o ae H (againL tys all l ae H K) = some r := h
    obtain ⟨h1, h2⟩ := ih (again_inv h')
    refine ⟨h1, fun o' ho' => ?_⟩
    simp only [List.mem_cons] at ho'
    rcases ho' with rfl | ho'
    · exact ⟨_, h'⟩
    · exact h2 o' ho'
/-- a load that was done and may be pending -/
def Pn (γ : G) (ops : List Oper) (ae : AE) (e : Env) (its : List It) (q : Nat × Fact) : Prop :=
  ∃ o t x v A, ops[q.1]? = some o ∧ o.op = .load t x ∧ TS.ev e x = some (.pointer (some A)) ∧ q.2 = (fun h => at' h A v) ∧ (∃ av, ev ae x = some av) ∧
    (∀ d av, o.dst = some d → eget ae d = some av → VR γ av v) ∧ (∀ K : Bool → Option ρ, grd ops o ae K = K true) ∧
    (∀ it, it ∈ its → ∀ d2, it.o.dst = some d2 → o.dst ≠ some d2 ∧ d2 ∉ o.looksAt ops.toArray)
theorem Pn.mono {ops : List Oper} {its : List It} {q : Nat × Fact} {γ' : G} (hle : G.le γ γ') (h : Pn (ρ := ρ) γ ops ae e its q) : Pn (ρ := ρ) γ' ops ae e its q := by
  obtain ⟨o, t, x, u, A, h1, h2, h3, h4, h5, h6, h7, h8⟩ := h
  exact ⟨o, t, x, u, A, h1, h2, h3, h4, h5, fun d av hd hg => (h6 d av hd hg).mono hle, h7, h8⟩
theorem Pn.step2 {ops : List Oper} {e' : Env} {it : It} {its0 its : List It} {q : Nat × Fact} {av : AV} {v : Value} {γ' : G} (hle : G.le γ γ') (hs : ∀ t, t < 16383 → Env.get e' t = Env.get e t) (hit : it ∈ its0) (hsub : ∀ i, i ∈ its → i ∈ its0)
    (h : Pn (ρ := ρ) γ ops ae e its0 q) : Pn (ρ := ρ) γ' ops (bindE it.o.dst av ae) (TS.bindE it.o.dst v e') its q := by
  obtain ⟨o, t, x, u, A, h1, h2, h3, h4, ⟨av0, h5⟩, h6, h7, h8⟩ := h
  have h8' := h8 it hit
  have look : ∀ t, t ∈ o.looksAt ops.toArray → (eget (bindE it.o.dst av ae) t = eget ae t) ∧ (t < 16383 → Env.get (TS.bindE it.o.dst v e') t = Env.get e t) := by
    intro t ht
    cases hd : it.o.dst with
    | none => exact ⟨rfl, hs t⟩
    | some d2 =>
      have hne : t ≠ d2 := fun hh => (h8' d2 hd).2 (hh ▸ ht)
      refine ⟨eget_put_ne ae hne, fun hlt => ?_⟩
      show Env.get (Env.put e' d2 v) t = _
      rw [env_get_put _ _ _ _ hlt, if_neg hne, hs t hlt]
  have opnd : ∀ tt, x = .tmp tt → tt ∈ o.looksAt ops.toArray := by
    intro tt hx
    unfold Oper.looksAt
    rw [h2, hx]
    simp [Op.operands]
  refine ⟨o, t, x, u, A, h1, h2, ?_, h4, ?_, ?_, ?_, fun i hi => h8 i (hsub i hi)⟩
  · cases x with
    | tmp tt =>
      have hl := look tt (opnd tt rfl)
      have h5' : eget ae tt = some av0 := h5
      have := hl.2 (eget_lt h5')
      show Env.get _ tt = _
      rw [this]; exact h3
    | const c => exact h3
    | global g => exact h3
    | func f => exact h3
  · cases x with
    | tmp tt => exact ⟨av0, (look tt (opnd tt rfl)).1.trans h5⟩
    | const c => exact ⟨av0, h5⟩
    | global g => exact ⟨av0, h5⟩
    | func f => exact ⟨av0, h5⟩
  · intro d a2 hd g1
    refine (h6 d a2 hd ?_).mono hle
    cases hd2 : it.o.dst with
    | none => rw [hd2] at g1; exact g1
    | some d2 =>
      have hne : d ≠ d2 := fun hh => (h8' d2 hd2).1 (hh ▸ hd)
      rw [hd2] at g1
      exact (eget_put_ne ae hne).symm.trans g1
  · intro K
    have h7' := h7 K
    unfold grd at h7' ⊢
    split
    · rfl
    · rename_i q hg
      rw [hg] at h7'
      simp only at h7'
      rw [nth_eq] at h7' ⊢
      split
      · rename_i hn; rw [hn] at h7'; exact h7'
      · rename_i og hog
        rw [hog] at h7'
        simp only at h7'
        split
        · rename_i hn; rw [hn] at h7'; exact h7'
        · rename_i d hd
          rw [hd] at h7'
          simp only at h7'
          have hin : d ∈ o.looksAt ops.toArray := by
            unfold Oper.looksAt
            rw [hg]
            simp [hog, hd]
          rw [(look d hin).1]
          exact h7'
theorem Pn.step {ops : List Oper} {e' : Env} {it : It} {its : List It} {q : Nat × Fact} {av : AV} {v : Value} {γ' : G} (hle : G.le γ γ') (hs : ∀ t, t < 16383 → Env.get e' t = Env.get e t)
    (h : Pn (ρ := ρ) γ ops ae e (it :: its) q) : Pn (ρ := ρ) γ' ops (bindE it.o.dst av ae) (TS.bindE it.o.dst v e') its q := h.step2 hle hs (by simp) (fun i hi => by simp [hi])
theorem Pn.fact (hT : TyR tys) {ops : List Oper} {its : List It} {q : Nat × Fact} {K0 : Option ρ} {o : Oper} (hR : HR γ φ H h) (he : ER γ ae e) (hp : Pn (ρ := ρ) γ ops ae e its q) (ho : ops[q.1]? = some o) (ha : again tys ops o ae H K0 = some r) : q.2 h := by
  obtain ⟨o', t, x, v, A, h1, h2, h3, h4, ⟨av0, h5⟩, h6, h7, h8⟩ := hp
  rw [ho] at h1; cases h1
  unfold again at ha
  rw [h7] at ha
  simp only [h2] at ha
  unfold sLoad at ha
  obtain ⟨a, w, g1, g2, ha⟩ := withV_R he ha
  rw [h3] at g1; cases g1
  split at ha
  · rename_i ad
    obtain ⟨A', hA, he2⟩ := dPtrS g2
    simp only [Value.pointer.injEq, Option.some.injEq] at he2
    subst he2
    split at ha
    · rename_i ti hti
      have hl := ldT_ok' (K' := fun y => y = v) hR hA ha fun x y hxy hx => by
        split at hx
        · rename_i d hd
          split at hx
          · rename_i u hu
            split at hx
            · rename_i hq
              have k2 := h6 d u hd hu
              rw [eqV_eq hq] at k2
              exact VR.func _ _ _ hxy k2
            · cases hx
          · cases hx
        · cases hx
      obtain ⟨v', m1, m2⟩ := ldT_at (hT.lk _ _ hti) hl
      rw [h4, ← m2]; exact m1
    · cases ha
  · cases ha
theorem mem_keep {M : List Nat} {i j : Nat} {f : Fact} : ∀ {R : List (Nat × Fact)}, (j, f) ∈ keepR M i R → (j, f) ∈ R ∧ ancB M j i = false := by
  intro R
  induction R with
  | nil => intro h; simp [keepR] at h
  | cons q R ih =>
    intro h
    obtain ⟨j', f'⟩ := q
    simp only [keepR] at h
    split at h
    · obtain ⟨a, b⟩ := ih h; exact ⟨by simp [a], b⟩
    · rename_i hb
      simp only [List.mem_cons] at h
      rcases h with h | h
      · cases h; exact ⟨by simp, hb⟩
      · obtain ⟨a, b⟩ := ih h; exact ⟨by simp [a], b⟩
theorem mem_keepN {M : List Nat} {i j : Nat} : ∀ {R : List Nat}, j ∈ R → ancB M j i = false → j ∈ keepN M i R := by
  intro R
  induction R with
  | nil => intro h; simp at h
  | cons q R ih =>
    intro h hb
    simp only [keepN]
    simp only [List.mem_cons] at h
    rcases h with rfl | h
    · rw [hb]; simp
    · split
      · exact ih h hb
      · simp [ih h hb]
theorem mem_pickL {ops : List Oper} {j : Nat} {o : Oper} (ho : ops[j]? = some o) : ∀ {R : List Nat}, j ∈ R → o ∈ pickL ops R := by
  intro R
  induction R with
  | nil => intro h; simp at h
  | cons q R ih =>
    intro h
    simp only [List.mem_cons] at h
    simp only [pickL]
    rcases h with rfl | h
    · rw [ho]; simp
    · split
      · simp [ih h]
      · exact ih h
theorem facts_of {X : Prop} {h : Mem} : ∀ {R : List (Nat × Fact)}, (∀ q, q ∈ R → q.2 h) → X → facts h R X := by
  intro R
  induction R with
  | nil => intro _ hX; exact hX
  | cons q R ih =>
    intro hq hX
    obtain ⟨j, f⟩ := q
    exact ⟨hq (j, f) (by simp), ih (fun q hq' => hq q (by simp [hq'])) hX⟩
theorem itsOk_cons {ops : List Oper} {i : It} {l : List It} (h : itsOk ops (i :: l) = true) :
    (isLoad i.o.op = true → ∀ it, it ∈ l → ∀ d2, it.o.dst = some d2 → i.o.dst ≠ some d2 ∧ d2 ∉ i.o.looksAt ops.toArray) ∧ itsOk ops l = true ∧ (isLoad i.o.op = true → ∀ d2, i.o.dst = some d2 → d2 ∉ i.o.looksAt ops.toArray) := by
  simp only [itsOk, Bool.and_eq_true, Bool.or_eq_true, Bool.not_eq_true', List.all_eq_true] at h
  refine ⟨fun hl it hit d2 hd2 => ?_, h.2, fun hl d2 hd2 => ?_⟩
  · have hh := h.1.resolve_left (by rw [hl]; simp)
    have := hh.1 it hit
    rw [hd2] at this
    simp only [Bool.and_eq_true, Bool.not_eq_true', List.contains_eq_mem, decide_eq_false_iff_not] at this
    refine ⟨fun hh => ?_, this.2⟩
    rw [hh] at this
    simp [Nat.beq_refl] at this
  · have hh := h.1.resolve_left (by rw [hl]; simp)
    have := hh.2
    rw [hd2] at this
    simpa using this
theorem Pn.newload {ops : List Oper} {e' : Env} {its : List It} {o : Oper} {i : Nat} {a : AV} {v : Value} {K : AV → Option ρ} (hoo : ops[i]? = some o) (hld : isLoad o.op = true) (he' : ER γ ae e') (hx : still tys ae H o.op K = some r) (hav : VR γ a v)
    (hg2 : ∀ K2 : Bool → Option ρ, grd ops o ae K2 = K2 true) (self0 : ∀ d2, o.dst = some d2 → d2 ∉ o.looksAt ops.toArray) (ok1 : ∀ it, it ∈ its → ∀ d2, it.o.dst = some d2 → o.dst ≠ some d2 ∧ d2 ∉ o.looksAt ops.toArray) :
    Pn (ρ := ρ) γ ops (bindE o.dst a ae) (TS.bindE o.dst v e') its (i, factOf e' o.op v) := by
  cases hop : o.op with
  | load t x =>
    rw [hop] at hx
    have hx3 : sLoad tys ae H t x _ = some r := hx
    unfold sLoad at hx3
    obtain ⟨a0, v0, g1, g2, hx4⟩ := withV_R he' hx3
    have hev : ∃ av, ev ae x = some av := by
      unfold withV at hx3
      split at hx3
      · rename_i av hav'; exact ⟨av, hav'⟩
      · cases hx3
    split at hx4
    · rename_i ad
      obtain ⟨A, hA, rfl⟩ := dPtrS g2
      have self : ∀ d2, o.dst = some d2 → d2 ∉ o.looksAt ops.toArray := self0
      obtain ⟨av0, hav0⟩ := hev
      have lk : ∀ tt, tt ∈ o.looksAt ops.toArray → (eget (bindE o.dst a ae) tt = eget ae tt) ∧ (tt < 16383 → Env.get (TS.bindE o.dst v e') tt = Env.get e' tt) := by
        intro tt htt
        cases hd2 : o.dst with
        | none => exact ⟨rfl, fun _ => rfl⟩
        | some d2 =>
          have hne : tt ≠ d2 := fun hh => self d2 hd2 (hh ▸ htt)
          refine ⟨eget_put_ne ae hne, fun hlt => ?_⟩
          show Env.get (Env.put e' d2 v) tt = _
          rw [env_get_put _ _ _ _ hlt, if_neg hne]
      have opnd : ∀ tt, x = .tmp tt → tt ∈ o.looksAt ops.toArray := by
        intro tt hxx
        unfold Oper.looksAt
        rw [hop, hxx]
        simp [Op.operands]
      refine ⟨o, t, x, v, A, hoo, hop, ?_, ?_, ?_, ?_, ?_, ok1⟩
      · cases x with
        | tmp tt =>
          have hlt : tt < 16383 := eget_lt (ae := ae) (a := av0) hav0
          show Env.get _ tt = _
          rw [(lk tt (opnd tt rfl)).2 hlt]; exact g1
        | const c => exact g1
        | global g => exact g1
        | func f => exact g1
      · funext h2
        simp only [factOf, g1]
        rfl
      · cases x with
        | tmp tt => exact ⟨av0, (lk tt (opnd tt rfl)).1.trans hav0⟩
        | const c => exact ⟨av0, hav0⟩
        | global g => exact ⟨av0, hav0⟩
        | func f => exact ⟨av0, hav0⟩
      · intro d av hd2 hg3
        rw [hd2] at hg3
        have : av = a := by
          have hg4 : eget (eput ae d a) d = some av := hg3
          rw [eget_put_eq _ _ (eget_lt hg4)] at hg4
          cases hg4; rfl
        rw [this]; exact hav
      · intro K2
        have := hg2 K2
        unfold grd at this ⊢
        split
        · rfl
        · rename_i q hgq
          rw [hgq] at this
          simp only at this
          rw [nth_eq] at this ⊢
          split
          · rename_i hn; rw [hn] at this; exact this
          · rename_i og hog
            rw [hog] at this
            simp only at this
            split
            · rename_i hn; rw [hn] at this; exact this
            · rename_i d hd2
              rw [hd2] at this
              simp only at this
              have hin : d ∈ o.looksAt ops.toArray := by
                unfold Oper.looksAt
                rw [hgq]
                simp [hog, hd2]
              rw [(lk d hin).1]
              exact this
    · cases hx4
  | _ => rw [hop] at hld; cases hld

theorem denA_R (hT : TyR tys) (hC : CfR φ.top cf cs) {M : List Nat} {ops : List Oper} : ∀ (n : Nat) (listed : Array Bool) (RN : List Nat) (its : List It) {γ : G} {ae : AE} {ads : List ADef} {H : Am} {e : Env} {ds : List Deferred} {h : Mem} {RT : List (Nat × Fact)} {K : Rg ρ} {K' : TS.Rg},
    ordF tys M ops n listed RN = some its → itsOk ops its = true → HR γ φ H h → ER γ ae e → DsR γ ads ds → (∀ q, q ∈ RT → q.1 ∈ RN ∧ Pn (ρ := ρ) γ ops ae e its q) →
    denI tys cf ops its ae ads H K = some r → RgR γ φ r K K' → TS.denA tys cs M ops n listed RT e h fun e h => K' e ds h := by
  intro n
  induction n with
  | zero =>
    intro listed RN its γ ae ads H e ds h RT K K' ho hok hR he hd hP hx hK
    simp only [ordF] at ho
    split at ho
    · rename_i hr
      cases ho
      simp only [TS.denA, hr]
      exact hK γ _ _ _ _ _ _ (.refl γ) hR he hd hx
    · cases ho
  | succ n ih =>
    intro listed RN its γ ae ads H e ds h RT K K' ho hok hR he hd hP hx hK
    simp only [ordF] at ho
    simp only [TS.denA]
    split at ho
    · -- a quiet one
      rename_i i hi
      split
      rotate_left
      · rename_i hi2; exact absurd (hi2.symm.trans hi) (by simp)
      rename_i i2 hi2
      have hii : i2 = i := Option.some.inj (hi2.symm.trans hi)
      subst hii
      split at ho
      · cases ho
      · rename_i o hoo
        split at ho
        · rename_i l hl
          cases ho
          simp only [hoo]
          obtain ⟨ok1, ok2, ok3⟩ := itsOk_cons hok
          have hx' : (grd ops o ae fun w => match w with
            | false => denI tys cf ops l (bindE o.dst undefA ae) ads H K
            | true => still tys ae H o.op fun v => denI tys cf ops l (bindE o.dst v ae) ads H K) = some r := hx
          -- its guard
          obtain ⟨e', b, hs, hx, hg, hg2⟩ := grd_R he hx'
          have he' := he.same hs
          rw [hg]
          have sub : ∀ {j : Nat}, j ∈ RN → j ∈ (match isLoad o.op with | true => i2 :: RN | false => RN) := by
            intro j hj
            cases isLoad o.op with
            | true => simp [hj]
            | false => exact hj
          cases b with
          | false =>
            exact ih _ _ l hl ok2 hR (he'.bind _ vUndef) hd (fun q hq => ⟨sub (hP q hq).1, (hP q hq).2.step (.refl γ) hs⟩) hx hK
          | true =>
            have hx : still tys ae H o.op (fun v => denI tys cf ops l (bindE o.dst v ae) ads H K) = some r := hx
            simp only []
            refine still_R hT hR he' hx fun a v hav hx2 => ?_
            refine ih _ _ l hl ok2 hR (he'.bind _ hav) hd ?_ hx2 hK
            intro q hq
            cases hld : isLoad o.op with
            | false =>
              rw [hld] at hq
              exact ⟨(hP q hq).1, (hP q hq).2.step (.refl γ) hs⟩
            | true =>
              rw [hld] at hq
              simp only [List.mem_cons] at hq
              rcases hq with rfl | hq
              · refine ⟨by simp, ?_⟩
                exact Pn.newload hoo hld he' hx hav hg2 (ok3 hld) (ok1 hld)
              · exact ⟨by simp [(hP q hq).1], (hP q hq).2.step (.refl γ) hs⟩
        · cases ho
    · -- what may write
      rename_i hi
      split
      · rename_i i2 hi2; exact absurd (hi2.symm.trans hi) (by simp)
      split at ho
      · rename_i hr
        cases ho
        simp only [hr]
        exact hK γ _ _ _ _ _ _ (.refl γ) hR he hd hx
      · rename_i i hr
        split at ho
        · cases ho
        · rename_i o hoo
          split at ho
          · rename_i l hl
            cases ho
            obtain ⟨ok1, ok2, ok3⟩ := itsOk_cons hok
            simp only [hr, allP, hoo]
            have hx' : (grd ops o ae fun w => match w with
              | false => denI tys cf ops l (bindE o.dst undefA ae) ads H K
              | true => match isStill o.op && !isFreeze tys o.op with
                | true => still tys ae H o.op fun v => denI tys cf ops l (bindE o.dst v ae) ads H K
                | false => eff tys cf ae H o.op fun v h => againL tys ops (pickL ops (keepN M i RN)) ae h (denI tys cf ops l (bindE o.dst v ae) ads h K)) = some r := hx
            obtain ⟨e', b, hs, hx, hg, hg2⟩ := grd_R he hx'
            have he' := he.same hs
            rw [hg]
            have kp : ∀ q, q ∈ keepR M i RT → q.1 ∈ keepN M i RN ∧ Pn (ρ := ρ) γ ops ae e (⟨o, true, pickL ops (keepN M i RN)⟩ :: l) q := by
              intro q hq
              obtain ⟨j, f⟩ := q
              obtain ⟨q1, q2⟩ := mem_keep hq
              exact ⟨mem_keepN (hP _ q1).1 q2, (hP _ q1).2⟩
            cases b with
            | false =>
              simp only []
              exact ih _ _ l hl ok2 hR (he'.bind _ vUndef) hd (fun q hq => ⟨(kp q hq).1, (kp q hq).2.step (.refl γ) hs⟩) hx hK
            | true =>
              simp only []
              have hxT : (match isStill o.op && !isFreeze tys o.op with
                | true => still tys ae H o.op fun v => denI tys cf ops l (bindE o.dst v ae) ads H K
                | false => eff tys cf ae H o.op fun v h => againL tys ops (pickL ops (keepN M i RN)) ae h (denI tys cf ops l (bindE o.dst v ae) ads h K)) = some r := hx
              clear hx
              split at hxT
              · rename_i hst
                rw [hst]
                exact still_R hT hR he' hxT fun a v hav hx2 => ih _ _ l hl ok2 hR (he'.bind _ hav) hd (fun q hq => ⟨(kp q hq).1, (kp q hq).2.step (.refl γ) hs⟩) hx2 hK
              · rename_i hst
                rw [hst]
                refine eff_R hT hC hR he' hxT fun γ' a v H' h' hle hR' hav hx2 => ?_
                obtain ⟨hx3, hag⟩ := againL_ok hx2
                refine facts_of (fun q hq => ?_) (ih _ _ l hl ok2 hR' ((he'.mono hle).bind _ hav) (hd.mono hle) (fun q hq => ⟨(kp q hq).1, (kp q hq).2.step hle hs⟩) hx3 (hK.mono hle))
                obtain ⟨k1, k2⟩ := kp q hq
                obtain ⟨o2, t2, x2, v2, A2, m1, m2⟩ := k2
                obtain ⟨K0, hK0⟩ := hag o2 (mem_pickL m1 k1)
                have k3 := (kp q hq).2
                exact Pn.fact hT hR' ((he.mono hle)) (Pn.mono hle k3) m1 hK0
          · cases ho
      · cases ho
end
end Go.XS
