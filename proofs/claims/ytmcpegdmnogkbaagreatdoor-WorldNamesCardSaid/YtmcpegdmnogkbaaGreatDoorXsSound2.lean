/- The layer 'XS': code, functions: what a run says of what is asked. -/
import Derived.Test.YtmcpegdmnogkbaaGreatDoorXsLat2
set_option linter.unusedSimpArgs false
set_option linter.unusedVariables false
namespace Go.XS
open Go Go.TS

theorem exists_min {p : Nat → Prop} (h : ∃ n, p n) : ∃ n, p n ∧ ∀ m, m < n → ¬ p m := by
  obtain ⟨n, hn⟩ := h
  induction n using Nat.strongRecOn with
  | _ n ih =>
    by_cases hm : ∃ m, m < n ∧ p m
    · obtain ⟨m, h1, h2⟩ := hm; exact ih m h1 h2
    · exact ⟨n, hn, fun m h1 h2 => hm ⟨m, h1, h2⟩⟩
section
variable {φ : Fx} {ρ : Type} {r : ρ} {tys : Tys} {cf : CF} {dcf : Nat → XCall} {cs dcs : Calls'}

theorem loopAt_inv {H : Am} {b : P} {K : ALoop → Option ρ} (h : loopAt H b K = some r) : ∃ a, H.get b = some (.loop a) ∧ K a = some r := by
  unfold loopAt at h
  split at h
  · rename_i a ha; exact ⟨a, ha, h⟩
  · cases h
theorem isReady_inv {a : ALoop} {K : Option ρ} (h : isReady a K = some r) : a = ⟨.ready, none⟩ ∧ K = some r := by
  obtain ⟨st, pend⟩ := a
  unfold isReady at h
  cases st <;> cases pend <;> first | cases h; done | exact ⟨rfl, h⟩
theorem isBusy_inv {a : ALoop} {K : Option ρ} (h : isBusy a K = some r) : a = ⟨.busy, none⟩ ∧ K = some r := by
  obtain ⟨st, pend⟩ := a
  unfold isBusy at h
  cases st <;> cases pend <;> first | cases h; done | exact ⟨rfl, h⟩
-- a run lays no name but those of its log
theorem latN_ch (hF : ChF cf) {M : List Nat} {ops : List Oper} {hi0 : Option P} {ae0 : AE} {t0 : PT AO} {nx0 : P} {q : LS × P} : ∀ (n : Nat) (g : P) (B : Bd) (L : List LS), latN tys cf M ops hi0 n g B L = some q → (∀ s, s ∈ L → St0 ops ae0 t0 s) → BOk hi0 nx0 B g →
    St0 ops ae0 t0 q.1 ∧ nx0.num ≤ q.2.num := by
  intro n
  induction n with
  | zero =>
    intro g B L hx hL hB
    simp only [latN] at hx
    split at hx
    · split at hx
      · cases hx; exact ⟨hL _ (by simp), hB.le⟩
      · cases hx
    · cases hx
  | succ n ih =>
    intro g B L hx hL hB
    simp only [latN] at hx
    split at hx
    · cases hx
    · split at hx
      · rename_i p hp
        obtain ⟨LE, gE, BE⟩ := p
        obtain ⟨_, c2, c3, _⟩ := lvlE_ok hF (edgesOf tys ops L) (edges_st hL) (fun s hs => by cases hs) hB hp
        exact ih gE BE LE hx c2 c3
      · cases hx
theorem denJ_ch (hF : ChF cf) {M : List Nat} {ops : List Oper} {ae : AE} {ads : List ADef} {H : Am} {K : Rg ρ} (hx : denJ tys cf M ops ae ads H K = some r) : ∃ ae' ads' H', Ch H H' ∧ K ae' ads' H' = some r := by
  unfold denJ at hx
  split at hx
  · cases hx
  · split at hx
    · rename_i q hq
      obtain ⟨h1, h2⟩ := latN_ch (ae0 := ae) (t0 := H.t) (nx0 := H.nx) hF ops.length H.nx [] _ hq (fun s hs => by
        simp only [List.mem_singleton] at hs
        subst hs
        exact ⟨fun _ _ => rfl, fun _ _ => rfl⟩) (Nat.le_refl _)
      refine ⟨q.1.ae, ads, ⟨q.1.t, q.2, H.hi, catL q.1.log H.log⟩, ⟨fun b hb => ?_, fun b hb => ?_, rfl, h2⟩, hx⟩
      · show b ∈ catL q.1.log H.log
        rw [catL_eq]; simp [hb]
      · have hb' : b ∉ q.1.log := fun hh => hb (by show b ∈ catL q.1.log H.log; rw [catL_eq]; simp [hh])
        exact h1.2 b hb'
    · cases hx
/-- a run of code lays no name but those of its log -/
def ChD (d : D (AV × Am)) : Prop := ∀ {ae : AE} {ads : List ADef} {H : Am} {r : AV × Am} {N : Rg (AV × Am)} {X : Nat → Rg (AV × Am)} {R : Rg (AV × Am)}, d ae ads H N X R = some r →
    ∃ ae' ads' H', Ch H H' ∧ (N ae' ads' H' = some r ∨ (∃ i, X i ae' ads' H' = some r) ∨ R ae' ads' H' = some r)
theorem xyield_ch {dA dB : D (AV × Am)} (hA : ChD dA) (hB : ChD dB) {ae : AE} {ps : List Tmp} {l : P} {ags : List AV} {H : Am} {q : AV × Am} (hq : xyield dA dB ae ps l ags H = some q) : Ch H q.2 := by
  unfold xyield at hq
  split at hq
  · obtain ⟨a0, _, hq⟩ := loopAt_inv hq
    obtain ⟨_, hq⟩ := isReady_inv hq
    obtain ⟨ae1, ads1, H1, c1, h⟩ := hA hq
    rcases h with h | ⟨_, h⟩ | h
    · obtain ⟨a1, _, h⟩ := loopAt_inv h
      obtain ⟨_, h⟩ := isReady_inv h
      obtain ⟨ae2, ads2, H2, c2, h⟩ := hB h
      rcases h with h | ⟨_, h⟩ | h <;>
      · obtain ⟨a2, _, h⟩ := loopAt_inv h
        obtain ⟨_, h⟩ := isBusy_inv h
        cases h
        exact (c1.trans (Ch.put _ _ _)).trans (c2.trans (Ch.put _ _ _))
    · cases h
    · cases h
  · cases hq
theorem addY_ch {Y : P → Option XCall} {b : P} {y : XCall} (hY : ChY Y) (hy : ∀ ags H q, y ags H = some q → Ch H q.2) : ChY (addY Y b y) := by
  intro c z hz
  unfold addY at hz
  split at hz
  · cases hz; exact hy
  · exact hY c z hz
theorem den_ch (hF : ChF cf) : ∀ (c : Code) {ae : AE} {ads : List ADef} {H : Am} {r : AV × Am} {N : Rg (AV × Am)} {X : Nat → Rg (AV × Am)} {R : Rg (AV × Am)}, den tys cf c ae ads H N X R = some r →
    ∃ ae' ads' H', Ch H H' ∧ (N ae' ads' H' = some r ∨ (∃ i, X i ae' ads' H' = some r) ∨ R ae' ads' H' = some r) := by
  intro c
  induction c with
  | skip => intro ae ads H r N X R hx; exact ⟨_, _, _, .refl _, .inl hx⟩
  | label l => intro ae ads H r N X R hx; exact ⟨_, _, _, .refl _, .inl hx⟩
  | exit i => intro ae ads H r N X R hx; exact ⟨_, _, _, .refl _, .inr (.inl ⟨i, hx⟩)⟩
  | ret => intro ae ads H r N X R hx; exact ⟨_, _, _, .refl _, .inr (.inr hx)⟩
  | goto l => intro ae ads H r N X R hx; cases hx
  | refuse w => intro ae ads H r N X R hx; cases hx
  | rangeFunc g ps a b iha ihb =>
    intro ae ads H r N X R hx
    have hx : dRange cf g ps (den tys cf a) (den tys cf b) ae ads H N X R = some r := hx
    unfold dRange at hx
    obtain ⟨v, hx⟩ := withV_inv hx
    split at hx
    · obtain ⟨d, H1, c1, hx⟩ := al_ch hx
      obtain ⟨l, H2, c2, hx⟩ := al_ch hx
      split at hx
      · rename_i q hq
        have c3 := hF.it _ (addY_ch hF.ys fun ags H q hq => xyield_ch (fun h => iha h) (fun h => ihb h) hq) _ _ _ _ hq
        obtain ⟨A, hA, hx⟩ := loopAt_inv hx
        have cc := (c1.trans c2).trans c3
        obtain ⟨st, pend⟩ := A
        cases pend with
        | none => cases st <;> first | (cases hx; done) | exact ⟨_, _, _, cc.trans (Ch.put _ _ _), .inl hx⟩
        | some j => cases j with
          | ret => cases st <;> first | (cases hx; done) | exact ⟨_, _, _, cc.trans (Ch.put _ _ _), .inr (.inr hx)⟩
          | exit i => cases st <;> first | (cases hx; done) | exact ⟨_, _, _, cc.trans (Ch.put _ _ _), .inr (.inl ⟨i, hx⟩)⟩
      · cases hx
    · cases hx
  | region id ops draw =>
    intro ae ads H r N X R hx
    have hx' : dRegion tys cf ops draw ae ads H N X R = some r := hx
    unfold dRegion at hx'
    cases draw with
    | false => obtain ⟨a, b, c, d, e⟩ := denL_ch hF _ hx'; exact ⟨a, b, c, d, .inl e⟩
    | true =>
      simp only [] at hx'
      split at hx'
      · obtain ⟨a, b, c, d, e⟩ := denI_ch hF _ hx'; exact ⟨a, b, c, d, .inl e⟩
      · obtain ⟨a, b, c, d, e⟩ := denJ_ch hF hx'; exact ⟨a, b, c, d, .inl e⟩
  | seq a b iha ihb =>
    intro ae ads H r N X R hx
    have hx' : den tys cf a ae ads H (fun e ds h => den tys cf b e ds h N X R) X R = some r := hx
    obtain ⟨ae1, ads1, H1, c1, h⟩ := iha hx'
    rcases h with h | h | h
    · obtain ⟨ae2, ads2, H2, c2, h⟩ := ihb h
      exact ⟨ae2, ads2, H2, c1.trans c2, h⟩
    · exact ⟨_, _, _, c1, .inr (.inl h)⟩
    · exact ⟨_, _, _, c1, .inr (.inr h)⟩
  | cond c a b iha ihb =>
    intro ae ads H r N X R hx
    have hx' : dCond c (den tys cf a) (den tys cf b) ae ads H N X R = some r := hx
    unfold dCond at hx'
    obtain ⟨v, hx'⟩ := withV_inv hx'
    split at hx'
    · rcases ifB_inv hx' with h | h
      · exact iha h
      · exact ihb h
    · cases hx'
  | block id b ih =>
    intro ae ads H r N X R hx
    have hx' : den tys cf b ae ads H N (fun i => match Nat.beq i id with | true => N | false => X i) R = some r := hx
    obtain ⟨ae1, ads1, H1, c1, h⟩ := ih hx'
    rcases h with h | ⟨i, h⟩ | h
    · exact ⟨_, _, _, c1, .inl h⟩
    · cases hb : Nat.beq i id with
      | true => rw [hb] at h; exact ⟨_, _, _, c1, .inl h⟩
      | false => rw [hb] at h; exact ⟨_, _, _, c1, .inr (.inl ⟨i, h⟩)⟩
    · exact ⟨_, _, _, c1, .inr (.inr h)⟩
  | scope b ih =>
    intro ae ads H r N X R hx
    have hx' : den tys cf b ae ads H N X R = some r := hx
    exact ih hx'
  | loop b ih =>
    intro ae ads H r N X R hx
    have hx' : dLoop (noDefer b) (den tys cf b) ae ads H N X R = some r := hx
    unfold dLoop at hx'
    split at hx'
    · cases hx'
    · have key : ∀ n (ae : AE) (H : Am), loopN n (fun next e h => den tys cf b e ads h (fun e' _ h' => next e' h') X R) ae H = some r → ∃ ae' ads' H', Ch H H' ∧ (N ae' ads' H' = some r ∨ (∃ i, X i ae' ads' H' = some r) ∨ R ae' ads' H' = some r) := by
        intro n
        induction n with
        | zero => intro ae H h; cases h
        | succ n ihn =>
          intro ae H h
          have h' : den tys cf b ae ads H (fun e' _ h' => loopN n (fun next e h => den tys cf b e ads h (fun e' _ h' => next e' h') X R) e' h') X R = some r := h
          obtain ⟨ae1, ads1, H1, c1, h⟩ := ih h'
          rcases h with h | h | h
          · obtain ⟨a2, b2, H2, c2, h⟩ := ihn _ _ h
            exact ⟨a2, b2, H2, c1.trans c2, h⟩
          · exact ⟨_, _, _, c1, .inr (.inl h)⟩
          · exact ⟨_, _, _, c1, .inr (.inr h)⟩
      exact key _ _ _ hx'
theorem putL_R {γ : G} : ∀ (ps : List Nat) {ags : List AV} {vs : List Value} {ae : AE} {e : Env}, ER γ ae e → VRL γ ags vs → ER γ (putL ps ags ae) (TS.putL e ps vs) := by
  intro ps
  induction ps with
  | nil => intro ags vs ae e he _; exact he
  | cons p ps ih =>
    intro ags vs ae e he hv
    cases ags with
    | nil => simp only [VRL] at hv; subst hv; exact he
    | cons a ags =>
      obtain ⟨v, vs', rfl, h1, h2⟩ := hv.uncons
      exact ih (he.put p h1) h2
/-- a run of code stands for what it asks -/
def DR (τ : Tp) (d : D (AV × Am)) (t : Env → List Deferred → Mem → TS.Rg → (Nat → TS.Rg) → TS.Rg → Prop) : Prop :=
  ∀ (γ : G) (φ : Fx) (ae : AE) (ads : List ADef) (H : Am) (e : Env) (ds : List Deferred) (h : Mem) (N : Rg (AV × Am)) (X : Nat → Rg (AV × Am)) (R : Rg (AV × Am)) (N' : TS.Rg) (X' : Nat → TS.Rg) (R' : TS.Rg) (q : AV × Am), Tp.le τ φ.top →
    HR γ φ H h → ER γ ae e → DsR γ ads ds → d ae ads H N X R = some q → RgR γ φ q N N' → (∀ i, RgR γ φ q (X i) (X' i)) → RgR γ φ q R R' → t e ds h N' X' R'
theorem xyield_R {τ : Tp} {s : Loop} {l : P} {B N0 : Nat} {ps : List Tmp} {dA dB : D (AV × Am)} {tA tB : Env → List Deferred → Mem → TS.Rg → (Nat → TS.Rg) → TS.Rg → Prop} {ae : AE} {e : Env}
    (hl : τ.g0 l = some (B, N0)) (hs : τ.stat B = some s) (hps : s.params.toList = ps) (hA : DR τ dA tA) (hB : DR τ dB tB) (he : ER τ.g0 ae e) (ags : List AV) (H : Am) (q : AV × Am)
    (hq : xyield dA dB ae ps l ags H = some q) : PR τ ags H q (yieldP tA tB e s B) := by
  intro γ φ h vs K' hle hR hv hK
  unfold xyield at hq
  split at hq
  · rename_i hlen
    rw [beq_iff, lenL_eq, lenL_eq] at hlen
    have hgl : ∀ γ', G.le γ γ' → γ' l = some (B, N0) := fun γ' h' => h' _ _ (hR.le0 _ _ (hle.g0 _ _ hl))
    have hst := hle.stat _ _ hs
    obtain ⟨a0, ha0, hq⟩ := loopAt_inv hq
    obtain ⟨rfl, hq⟩ := isReady_inv hq
    have h0 := hR.loopO ha0 (hgl γ (.refl _)) hst
    refine ⟨by rw [← hv.len, hlen, ← hps]; simp, h0, ?_⟩
    have he0 : ER γ ae e := he.mono (hle.g0.trans hR.le0)
    refine hA γ φ _ _ _ _ _ _ _ _ _ _ _ _ q hle hR (hps ▸ putL_R _ he0 hv) .nil hq ?_ (fun i γ2 ae2 ads2 H2 e2 ds2 h2 _ _ _ _ hx => by cases hx) (fun γ2 ae2 ads2 H2 e2 ds2 h2 _ _ _ _ hx => by cases hx)
    intro γ1 ae1 ads1 H1 e1 ds1 h1 hle1 hR1 he1 _ hq1
    obtain ⟨a1, ha1, hq1⟩ := loopAt_inv hq1
    obtain ⟨rfl, hq1⟩ := isReady_inv hq1
    have hl1 := hR1.loopO ha1 (hgl γ1 hle1) hst
    refine ⟨hl1, ?_⟩
    have hU := hR1.updL ⟨.busy, none⟩ ha1 (hgl γ1 hle1) hst
    have fin : ∀ (st : LoopState) (pd : Option Jp) (bo : Bool), RgR γ1 φ q (fun _ _ h => loopAt h l fun a => isBusy a (some (.bool bo, h.put l (.loop ⟨st, pd⟩))))
        (fun _ _ h => h[B]? = some (.loop { s with state := .busy, pending := none }) ∧ K' (.bool bo) (h.setIfInBounds B (.loop { s with state := st, pending := pd.map jpC }))) := by
      intro st pd bo γ2 ae2 ads2 H2 e2 ds2 h2 hle2 hR2 he2 _ hx2
      obtain ⟨a2, ha2, hx2⟩ := loopAt_inv hx2
      obtain ⟨rfl, hx2⟩ := isBusy_inv hx2
      cases hx2
      have hl2 := hR2.loopO ha2 (hgl γ2 (hle1.trans hle2)) hst
      exact ⟨hl2, hK γ2 _ _ (hle1.trans hle2) (hR2.updL ⟨st, pd⟩ ha2 (hgl γ2 (hle1.trans hle2)) hst) (by simp only [VR])⟩
    exact hB γ1 φ _ _ _ _ _ _ _ _ _ _ _ _ q hle hU he1 .nil hq1 (fin .ready none true) (fun i => fin .done (some (.exit i)) false) (fin .done (some .ret) false)
  · cases hq

theorem den_R (hT : TyR tys) (hF : ChF cf) : ∀ (c : Code) {φ : Fx} (_ : CfR φ.top cf cs) {r : AV × Am} {γ : G} {ae : AE} {ads : List ADef} {H : Am} {e : Env} {ds : List Deferred} {h : Mem} {N : Rg (AV × Am)} {X : Nat → Rg (AV × Am)} {R : Rg (AV × Am)} {N' : TS.Rg} {X' : Nat → TS.Rg} {R' : TS.Rg},
    HR γ φ H h → ER γ ae e → DsR γ ads ds → den tys cf c ae ads H N X R = some r → RgR γ φ r N N' → (∀ i, RgR γ φ r (X i) (X' i)) → RgR γ φ r R R' → TS.den tys cs hn0 c e ds h N' X' R' := by
  intro c
  induction c with
  | skip => intro φ hC r γ ae ads H e ds h N X R N' X' R' hR he hd hx hN _ _; exact hN γ _ _ _ _ _ _ (.refl γ) hR he hd hx
  | label l => intro φ hC r γ ae ads H e ds h N X R N' X' R' hR he hd hx hN _ _; exact hN γ _ _ _ _ _ _ (.refl γ) hR he hd hx
  | exit i => intro φ hC r γ ae ads H e ds h N X R N' X' R' hR he hd hx _ hX _; exact hX i γ _ _ _ _ _ _ (.refl γ) hR he hd hx
  | ret => intro φ hC r γ ae ads H e ds h N X R N' X' R' hR he hd hx _ _ hRt; exact hRt γ _ _ _ _ _ _ (.refl γ) hR he hd hx
  | goto l => intro φ hC r γ ae ads H e ds h N X R N' X' R' hR he hd hx _ _ _; cases hx
  | refuse w => intro φ hC r γ ae ads H e ds h N X R N' X' R' hR he hd hx _ _ _; cases hx
  | rangeFunc g ps a b iha ihb =>
    intro φ hC r γ ae ads H e ds h N X R N' X' R' hR he hd hx hN hX hRt
    have hx : dRange cf g ps (den tys cf a) (den tys cf b) ae ads H N X R = some r := hx
    unfold dRange at hx
    obtain ⟨v, V, h1, h2, hx⟩ := withV_R he hx
    split at hx
    · rename_i f first cap
      simp only [VR] at h2
      obtain ⟨us, ws, u1, u2, rfl⟩ := h2
      obtain ⟨hn1, hx⟩ := al_in hx
      obtain ⟨hn2, hx⟩ := al_in hx
      simp only [TS.den, h1, TS.al, Array.size_push]
      intro fn tmps htm
      have hle1 := hR.le_ext hn1 (h.size, 0)
      have hR1 : HR (ext γ H.nx (h.size, 0)) φ (H.new .defd) (h.push (.deferred (some []))) := hR.new hn1 (o := .defd) (N := 0) (by simp [OR])
      have hle2 := hR1.le_ext hn2 ((h.push (.deferred (some []))).size, 0)
      have hR2 := hR1.new hn2 (o := .loop ⟨.ready, none⟩) (N := 0) (ob := .loop { state := .ready, pending := none, fn, tmps, params := ps, assign := a, body := b, defers := h.size }) (by simp [OR])
      simp only [Array.size_push] at hle2 hR2
      generalize hs : ({ state := .ready, pending := none, fn, tmps, params := ps, assign := a, body := b, defers := h.size } : Loop) = s at hR2 ⊢
      have hsz : ∀ B s', φ.top.stat B = some s' → B < h.size := fun B s' h' => by
        obtain ⟨_, _, h2⟩ := hR.stat B s' h'
        exact lt_of_get h2
      generalize hγ : ext (ext γ H.nx (h.size, 0)) (H.new .defd).nx (h.size + 1, 0) = γ2 at hR2 hle2
      have hgl : γ2 (H.new .defd).nx = some (h.size + 1, 0) := by rw [← hγ]; exact ext_same _ _ _
      have hgd : γ2 H.nx = some (h.size, 0) := hle2 _ _ (ext_same _ _ _)
      have hle : G.le γ γ2 := hle1.trans hle2
      let τ : Tp := ⟨γ2, fun B => if B = h.size + 1 then some s else φ.top.stat B⟩
      have hτ : Tp.le φ.top τ := ⟨hR.le0.trans hle, fun B s' h' => by
        have := hsz B s' h'
        show (if B = h.size + 1 then some s else φ.top.stat B) = some s'
        rw [if_neg (by omega)]; exact h'⟩
      have hst : τ.stat (h.size + 1) = some s := if_pos rfl
      have hRτ : HR γ2 ⟨φ.far, φ.free, τ⟩ ((H.new .defd).new (.loop ⟨.ready, none⟩)) ((h.push (.deferred (some []))).push (.loop s)) := by
        refine hR2.toTop τ (.refl _) fun B s' h' => ?_
        have h' : (if B = h.size + 1 then some s else φ.top.stat B) = some s' := h'
        split at h'
        · rename_i e; cases h'; subst e
          refine ⟨.ready, none, ?_⟩
          rw [← hs]
          have e : h.size + 1 = (h.push (Obj.deferred (some []))).size := by simp
          show ((h.push (Obj.deferred (some []))).push _)[h.size + 1]? = _
          rw [e, Array.getElem?_push_size]
        · exact hR2.stat B s' h'
      have hps : s.params = ps := by rw [← hs]
      have hY : YR τ (addY cf.ys (H.new .defd).nx (xyield (den tys cf a) (den tys cf b) ae ps.toList (H.new .defd).nx)) (TS.addY cs.ys (h.size + 1) (yieldP (TS.den tys cs hn0 a) (TS.den tys cs hn0 b) e s (h.size + 1))) := by
        intro b' y hy
        unfold addY at hy
        split at hy
        · rename_i hb
          rw [pEq_iff] at hb
          subst hb
          cases hy
          refine ⟨h.size + 1, 0, _, hgl, by simp only [TS.addY, Nat.beq_refl]; rfl, fun ags H' q hq => ?_⟩
          refine xyield_R hgl hst (by rw [hps]) ?_ ?_ (he.mono hle) ags H' q hq
          · intro γ' φ' ae' ads' H2 e' ds' h' N X R N' X' R' q' hle' hR' he' hd' hx' hN hX hRt
            exact iha (hC.mono (hτ.trans hle')) hR' he' hd' hx' hN hX hRt
          · intro γ' φ' ae' ads' H2 e' ds' h' N X R N' X' R' q' hle' hR' he' hd' hx' hN hX hRt
            exact ihb (hC.mono (hτ.trans hle')) hR' he' hd' hx' hN hX hRt
        · obtain ⟨B', N', p, p0, p1, p2⟩ := hC.ys _ _ hy
          have hB := hR.dom _ _ (hR.le0 _ _ p0)
          refine ⟨B', N', p, hτ.g0 _ _ p0, ?_, fun ags H' q hq => (p2 ags H' q hq).mono hτ⟩
          have hB' : B' < h.size := hB
          have hne : Nat.beq B' (h.size + 1) = false := by
            cases hb : Nat.beq B' (h.size + 1) with
            | false => rfl
            | true => rw [beq_iff] at hb; omega
          simp only [TS.addY, hne]; exact p1
      split at hx
      · rename_i q hq
        obtain ⟨p, p1, p2⟩ := hC.it τ _ _ hτ (addY_ch hF.ys fun ags H q hq => xyield_ch (fun h => den_ch hF a h) (fun h => den_ch hF b h) hq) hY _ _ _ _ hq
        simp only [p1]
        have hvl : VRL γ2 (catL first (catL [.yld (H.new .defd).nx] cap)) (us.toArray.toList ++ [.func (.yield (h.size + 1)) #[] #[]] ++ ws.toArray.toList) := by
          rw [catL_eq, catL_eq]
          simp only [List.append_assoc]
          exact (u1.mono hle).append ((VRL.cons (by simp only [VR]; exact ⟨_, _, hgl, rfl⟩) VRL.nil).append (u2.mono hle))
        refine p2 γ2 ⟨φ.far, φ.free, τ⟩ _ _ _ (.refl _) hRτ hvl ?_
        intro γ3 v3 h3 hle3 hR3 hv3
        obtain ⟨A, hA, hx⟩ := loopAt_inv hx
        have hgl3 := hle3 _ _ hgl
        have hl3 := hR3.loopO hA hgl3 hst
        have hU := hR3.updL ⟨.exhausted, A.pend⟩ hA hgl3 hst
        have hU' : HR γ3 φ (q.2.put (H.new .defd).nx (.loop ⟨.exhausted, A.pend⟩)) (h3.setIfInBounds (h.size + 1) (.loop { s with state := .exhausted, pending := A.pend.map jpC })) :=
          hU.toTop φ.top (hR.le0.trans (hle.trans hle3)) fun B s' h' => hU.stat B s' (hτ.stat B s' h')
        have hds : DsR γ3 (⟨.yield 0, [], [], some H.nx⟩ :: ads) ({ target := .collected h.size, args := #[] } :: ds) := .mark (hle3 _ _ hgd) (hd.mono (hle.trans hle3))
        have he3 : ER γ3 ae e := he.mono (hle.trans hle3)
        have hle4 := hle.trans hle3
        refine ⟨A.st, A.pend.map jpC, ?_, ?_, ?_⟩
        · rw [hl3, ← hs]
        · intro hb
          rw [hb] at hx
          cases hx
        · have hU2 : h3.setIfInBounds (h.size + 1) (.loop { s with state := .exhausted, pending := A.pend.map jpC }) =
              h3.setIfInBounds (h.size + 1) (.loop { state := .exhausted, pending := A.pend.map jpC, fn, tmps, params := ps, assign := a, body := b, defers := h.size }) := by rw [← hs]
          rw [hU2] at hU'
          obtain ⟨st, pend⟩ := A
          cases pend with
          | none => cases st <;> first | (cases hx; done) | exact hN γ3 _ _ _ _ _ _ hle4 hU' he3 hds hx
          | some j => cases j with
            | ret => cases st <;> first | (cases hx; done) | exact hRt γ3 _ _ _ _ _ _ hle4 hU' he3 hds hx
            | exit i => cases st <;> first | (cases hx; done) | exact hX i γ3 _ _ _ _ _ _ hle4 hU' he3 hds hx
      · cases hx
    · cases hx
  | region id ops draw =>
    intro φ hC r γ ae ads H e ds h N X R N' X' R' hR he hd hx hN _ _
    have hx' : dRegion tys cf ops draw ae ads H N X R = some r := hx
    unfold dRegion at hx'
    cases draw with
    | false =>
      simp only [TS.den]
      exact denL_R hT hC _ hR he hd hx' hN
    | true =>
      simp only [] at hx'
      split at hx'
      · rename_i its hits
        unfold ordOf at hits
        split at hits
        · rename_i l hl
          split at hits
          · rename_i hok
            cases hits
            simp only [TS.den]
            exact denA_R hT hC _ _ _ _ hl hok hR he hd (fun q hq => by simp at hq) hx' hN
          · cases hits
        · cases hits
      · simp only [TS.den]
        exact denJ_R hT hC hF hR he hd hx' hN
  | seq a b iha ihb =>
    intro φ hC r γ ae ads H e ds h N X R N' X' R' hR he hd hx hN hX hRt
    have hx' : den tys cf a ae ads H (fun e ds h => den tys cf b e ds h N X R) X R = some r := hx
    simp only [TS.den]
    exact iha hC hR he hd hx' (fun γ2 ae2 ads2 H2 e2 ds2 h2 hle hR2 he2 hd2 hx2 => ihb hC hR2 he2 hd2 hx2 (hN.mono hle) (fun i => (hX i).mono hle) (hRt.mono hle)) hX hRt
  | cond c a b iha ihb =>
    intro φ hC r γ ae ads H e ds h N X R N' X' R' hR he hd hx hN hX hRt
    have hx' : dCond c (den tys cf a) (den tys cf b) ae ads H N X R = some r := hx
    unfold dCond at hx'
    obtain ⟨v, w, h1, h2, hx'⟩ := withV_R he hx'
    simp only [TS.den]
    rw [withV_eq h1]
    split at hx'
    · rename_i c
      rw [dBool h2]
      cases c with
      | true => exact iha hC hR he hd hx' hN hX hRt
      | false => exact ihb hC hR he hd hx' hN hX hRt
    · cases hx'
  | block id b ih =>
    intro φ hC r γ ae ads H e ds h N X R N' X' R' hR he hd hx hN hX hRt
    have hx' : den tys cf b ae ads H N (fun i => match Nat.beq i id with | true => N | false => X i) R = some r := hx
    simp only [TS.den]
    refine ih hC hR he hd hx' hN (fun i => ?_) hRt
    cases Nat.beq i id with
    | true => exact hN
    | false => exact hX i
  | scope b ih =>
    intro φ hC r γ ae ads H e ds h N X R N' X' R' hR he hd hx hN hX hRt
    have hx' : den tys cf b ae ads H N X R = some r := hx
    simp only [TS.den]
    exact ih hC hR he hd hx' hN hX hRt
  | loop b ih =>
    intro φ hC r γ ae ads H e ds h N X R N' X' R' hR he hd hx hN hX hRt
    have hx' : dLoop (noDefer b) (den tys cf b) ae ads H N X R = some r := hx
    unfold dLoop at hx'
    simp only [TS.den]
    cases hnd : noDefer b with
    | false => rw [hnd] at hx'; cases hx'
    | true =>
      rw [hnd] at hx'
      have hx2 : loopN 1000000 (fun next e h => den tys cf b e ads h (fun e' _ h' => next e' h') X R) ae H = some r := hx'
      simp only [hintOf, hn0, pickO]
      -- n rounds are left
      let p : Env → Mem → Nat → Prop := fun e h n => ∃ γ' ae' H', G.le γ γ' ∧ HR γ' φ H' h ∧ ER γ' ae' e ∧ loopN n (fun next e h => den tys cf b e ads h (fun e' _ h' => next e' h') X R) ae' H' = some r
      refine ⟨fun e h => ∃ n, p e h n, fun e h => open Classical in if hp : ∃ n, p e h n then Classical.choose (exists_min hp) else 0, ⟨1000000, γ, ae, H, .refl γ, hR, he, hx2⟩, ?_⟩
      intro e1 h1 hI
      have hmin := Classical.choose_spec (exists_min hI)
      simp only [dif_pos hI]
      generalize Classical.choose (exists_min hI) = n at hmin
      obtain ⟨⟨γ1, ae1, H1, hle1, hR1, he1, hl1⟩, _⟩ := hmin
      cases n with
      | zero => cases hl1
      | succ n =>
        have hl2 : den tys cf b ae1 ads H1 (fun e' _ h' => loopN n (fun next e h => den tys cf b e ads h (fun e' _ h' => next e' h') X R) e' h') X R = some r := hl1
        refine ih hC hR1 he1 (hd.mono hle1) hl2 ?_ (fun i => (hX i).mono hle1) (hRt.mono hle1)
        intro γ2 ae2 ads2 H2 e2 ds2 h2 hle2 hR2 he2 _ hx3
        have hp2 : p e2 h2 n := ⟨γ2, ae2, H2, hle1.trans hle2, hR2, he2, hx3⟩
        refine ⟨⟨n, hp2⟩, ?_⟩
        have hI2 : ∃ n, p e2 h2 n := ⟨n, hp2⟩
        rw [dif_pos hI2]
        have hm2 := (Classical.choose_spec (exists_min hI2)).2
        rcases Nat.lt_or_ge n (Classical.choose (exists_min hI2)) with hlt | hge
        · exact absurd hp2 (hm2 n hlt)
        · omega

theorem resL_R {γ : G} {ae : AE} {H : Am} {e : Env} {h : Mem} (hR : HR γ φ H h) (he : ER γ ae e) : ∀ (rs : List ResultVar) {K : List AV → Option ρ} {K' : List Value → Prop}, resL tys ae H rs K = some r →
    (∀ x y, VRL γ x y → K x = some r → K' y) → TS.resL tys e h rs K' := by
  intro rs
  induction rs with
  | nil => intro K K' hx hK; exact hK [] [] VRL.nil hx
  | cons rv rs ih =>
    intro K K' hx hK
    cases rv with
    | tmp t =>
      have hx' : (match eget ae t with
        | some v => resL tys ae H rs fun vs => K (v :: vs)
        | none => none) = some r := hx
      split at hx'
      · rename_i a ha
        obtain ⟨v, h1, h2⟩ := he t a ha
        simp only [TS.resL, h1]
        exact ih hx' fun x y hxy hx2 => hK _ _ (VRL.cons h2 hxy) hx2
      · cases hx'
    | cell a t =>
      have hx' : (match eget ae a with
        | some (.ptr (some a)) => match tyOf tys t with
          | some ti => ldT ti.lk a H fun v => resL tys ae H rs fun vs => K (v :: vs)
          | none => none
        | _ => none) = some r := hx
      split at hx'
      · rename_i ad ha
        obtain ⟨v, h1, h2⟩ := he _ _ ha
        obtain ⟨A, hA, rfl⟩ := dPtrS h2
        split at hx'
        · rename_i ti hti
          simp only [TS.resL, h1, hti]
          exact ldT_ok' hR hA hx' fun x y hxy hx2 => ih hx2 fun xs ys hxys hx3 => hK _ _ (VRL.cons hxy hxys) hx3
        · cases hx'
      · cases hx'
theorem resV_R {γ : G} {ags : List AV} {vs : List Value} (h : VRL γ ags vs) : VR γ (resV ags) (TS.resV vs) := by
  cases ags with
  | nil => simp only [VRL] at h; subst h; exact vTup VRL.nil
  | cons a ags =>
    obtain ⟨v, vs', rfl, h1, h2⟩ := h.uncons
    cases ags with
    | nil => simp only [VRL] at h2; subst h2; exact h1
    | cons b bs =>
      obtain ⟨w, ws, rfl, h3, h4⟩ := h2.uncons
      exact vTup (VRL.cons h1 (VRL.cons h3 h4))
/-- the world's heap behind a call -/
def FinR (γ : G) (φ : Fx) (q : AV × Am) (K' : Value → Mem → Prop) : Prop := ∀ γ' v h', G.le γ γ' → HR γ' φ q.2 h' → VR γ' q.1 v → K' v h'
theorem fin_R (hD : FnR φ.top dcf (callOf dcs)) {rs : List ResultVar} {q : AV × Am} {K' : Value → Mem → Prop} : ∀ (ads : List ADef) {γ : G} {ae : AE} {H : Am} {e : Env} {ds : List Deferred} {h : Mem}, HR γ φ H h → ER γ ae e → DsR γ ads ds →
    fin tys dcf rs ae (fun v h => some (v, h)) ads H = some q → FinR γ φ q K' → TS.fin tys dcs rs e K' ds h := by
  intro ads
  induction ads with
  | nil =>
    intro γ ae H e ds h hR he hd hx hK
    cases hd
    have hx' : resL tys ae H rs (fun vs => some (resV vs, H)) = some q := hx
    simp only [TS.fin]
    refine resL_R hR he rs hx' fun x y hxy hx2 => ?_
    cases hx2
    exact hK γ _ _ (.refl γ) hR (resV_R hxy)
  | cons d ads ih =>
    intro γ ae H e ds h hR he hd hx hK
    cases hd with
    | cons h1 h2 hm =>
      rename_i fn cap args us vs m
      have hx' : (match (generalizing := false) fn with
        | .func f => match dcf f (catL args cap) H with
            | some q => fin tys dcf rs ae (fun v h => some (v, h)) ads q.2
            | none => none
        | _ => none) = some q := hx
      split at hx'
      · rename_i f
        split at hx'
        · rename_i q2 hq2
          obtain ⟨p, p1, p2⟩ := hD _ _ _ _ hq2
          simp only [TS.fin, p1]
          have hvl : VRL γ (catL args cap) (vs ++ us) := by rw [catL_eq]; exact h2.append h1
          have := p2 γ φ h _ (fun _ h => TS.fin tys dcs rs e K' m h) (.refl _) hR hvl fun γ' v h' hle hR' _ => ih hR' (he.mono hle) (hm.mono hle) hx' fun γ2 v2 h2 hle2 => hK γ2 v2 h2 (hle.trans hle2)
          simpa using this
        · cases hx'
      · cases hx'
    | mark hb hm =>
      rename_i b B N m
      have hx' : (match (generalizing := false) H.get b with
        | some .defd => fin tys dcf rs ae (fun v h => some (v, h)) ads (H.del b)
        | _ => none) = some q := hx
      split at hx'
      · rename_i hg
        obtain ⟨B', N', ob, g1, g2, g3⟩ := hR.obj b _ hg
        rw [hb] at g1; cases g1
        have hob : ob = .deferred (some []) := by
          cases ob with
          | deferred d => simp only [OR] at g3; rw [g3]
          | _ => simp only [OR] at g3
        subst hob
        simp only [TS.fin]
        refine ⟨g2, ih (hR.kill hg hb (by simp) (fun B' hne => Array.getElem?_setIfInBounds_ne (Ne.symm hne))) he hm hx' hK⟩
      · cases hx'
theorem argsE_R {γ : G} : ∀ (ags : List AV) (vs : List Value) (i : Nat), VRL γ ags vs → ER γ (argsE ags i) (TS.argsE i vs) := by
  intro ags
  induction ags with
  | nil =>
    intro vs i h t x hx
    have : eget (argsE [] i) t = none := eget_e0 t
    rw [this] at hx; cases hx
  | cons a ags ih =>
    intro vs i h
    obtain ⟨v, vs', rfl, h1, h2⟩ := h.uncons
    show ER γ (eput (argsE ags (Nat.succ i)) i a) (Env.put (TS.argsE (i + 1) vs') i v)
    exact (ih vs' (i + 1) h2).put i h1
theorem denF_R (hT : TyR tys) (hC : CfR φ.top cf cs) (hF : ChF cf) (hD : FnR φ.top dcf (callOf dcs)) {c : Code} {rs : List ResultVar} {γ : G} {ags : List AV} {vs : List Value} {H : Am} {h : Mem} {q : AV × Am} {K' : Value → Mem → Prop} (hR : HR γ φ H h) (hv : VRL γ ags vs)
    (hx : denF tys cf dcf c rs ags H = some q) (hK : FinR γ φ q K') : TS.denF tys cs dcs hn0 c rs vs h K' := by
  unfold denF at hx
  unfold TS.denF
  have fin : RgR γ φ q (fun e ds h => fin tys dcf rs e (fun v h => some (v, h)) ds h) (fun e ds h => TS.fin tys dcs rs e K' ds h) := by
    intro γ2 ae2 ads2 H2 e2 ds2 h2 hle2 hR2 he2 hd2 hx2
    exact fin_R hD ads2 hR2 he2 hd2 hx2 fun γ3 v3 h3 hle3 => hK γ3 v3 h3 (hle2.trans hle3)
  refine den_R hT hF c hC hR (argsE_R ags vs 0 hv) .nil hx fin (fun i => ?_) fin
  intro γ2 ae2 ads2 H2 e2 ds2 h2 _ _ _ _ hx2
  cases hx2

theorem resL_inv {ae : AE} {H : Am} : ∀ (rs : List ResultVar) {K : List AV → Option ρ}, resL tys ae H rs K = some r → ∃ vs, K vs = some r := by
  intro rs
  induction rs with
  | nil => intro K h; exact ⟨[], h⟩
  | cons rv rs ih =>
    intro K hx
    cases rv with
    | tmp t =>
      have hx' : (match eget ae t with
        | some v => resL tys ae H rs fun vs => K (v :: vs)
        | none => none) = some r := hx
      split at hx'
      · obtain ⟨vs, h⟩ := ih hx'; exact ⟨_, h⟩
      · cases hx'
    | cell a t =>
      have hx' : (match eget ae a with
        | some (.ptr (some a)) => match tyOf tys t with
          | some ti => ldT ti.lk a H fun v => resL tys ae H rs fun vs => K (v :: vs)
          | none => none
        | _ => none) = some r := hx
      split at hx'
      · split at hx'
        · obtain ⟨v, hx'⟩ := ldT_inv hx'
          obtain ⟨vs, h⟩ := ih hx'; exact ⟨_, h⟩
        · cases hx'
      · cases hx'
theorem fin_ch (hD : Ch1 dcf) {rs : List ResultVar} {ae : AE} {q : AV × Am} : ∀ (ads : List ADef) {H : Am}, fin tys dcf rs ae (fun v h => some (v, h)) ads H = some q → Ch H q.2 := by
  intro ads
  induction ads with
  | nil =>
    intro H hx
    have hx' : resL tys ae H rs (fun vs => some (resV vs, H)) = some q := hx
    obtain ⟨vs, h⟩ := resL_inv rs hx'
    cases h
    exact .refl _
  | cons d ads ih =>
    intro H hx
    have hx' : (match d.mark with
      | none => match d.fn with
        | .func f => match dcf f (catL d.args d.cap) H with
          | some q => fin tys dcf rs ae (fun v h => some (v, h)) ads q.2
          | none => none
        | _ => none
      | some b => match H.get b with
        | some .defd => fin tys dcf rs ae (fun v h => some (v, h)) ads (H.del b)
        | _ => none) = some q := hx
    split at hx'
    · split at hx'
      · split at hx'
        · rename_i q2 hq2
          exact (hD _ _ _ _ hq2).trans (ih hx')
        · cases hx'
      · cases hx'
    · split at hx'
      · exact (Ch.del _ _).trans (ih hx')
      · cases hx'
theorem denF_ch (hF : ChF cf) (hD : Ch1 dcf) {c : Code} {rs : List ResultVar} {ags : List AV} {H : Am} {q : AV × Am} (hx : denF tys cf dcf c rs ags H = some q) : Ch H q.2 := by
  unfold denF at hx
  obtain ⟨ae1, ads1, H1, c1, h⟩ := den_ch hF c hx
  rcases h with h | ⟨i, h⟩ | h
  · exact c1.trans (fin_ch hD _ h)
  · cases h
  · exact c1.trans (fin_ch hD _ h)
end
theorem noCall_ch : Ch1 (fun _ => noCall) := by
  intro f ags H q hx
  cases hx
theorem runFD_ch {tys : Tys} {cf : CF} {fns : Nat → Option FI} (hF : ChF cf) : Ch1 (fun f => runFD tys cf (fns f)) := by
  intro f ags H q hx
  have hx' : runFD tys cf (fns f) ags H = some q := hx
  unfold runFD at hx'
  split at hx'
  · split at hx'
    · split at hx'
      · exact denF_ch hF noCall_ch hx'
      · cases hx'
    · cases hx'
  · cases hx'
theorem noY_ch : ChY noY := fun b y h => by cases h
theorem itOf_ch {fns : Nat → Option FI} {X : (P → Option XCall) → Nat → XCall} (hX : ∀ Y, ChY Y → Ch1 (X Y)) : ∀ Y, ChY Y → Ch1 (itOf fns X Y) := by
  intro Y hY f ags H q hx
  unfold itOf at hx
  cases hf : fns f with
  | none => rw [hf] at hx; cases hx
  | some x => cases x with
    | code c rs m => rw [hf] at hx; exact hX Y hY f ags H q hx
    | intr i => rw [hf] at hx; cases hx
theorem XF_ch {tys : Tys} {fns : Nat → Option FI} (hI : ∀ f i, fns f = some (.intr i) → ∀ ags H q, i ags H = some q → Ch H q.2) : ∀ n Y, ChY Y → Ch1 (XF tys fns n Y) := by
  intro n
  induction n with
  | zero => intro Y _ f ags H q hx; cases hx
  | succ n ih =>
    intro Y hY f ags H q hx
    have hx' : runFI tys ⟨XF tys fns n Y, itOf fns (XF tys fns n), Y⟩ (fun f => runFD tys ⟨XF tys fns n noY, itOf fns (XF tys fns n), noY⟩ (fns f)) (fns f) ags H = some q := hx
    unfold runFI at hx'
    split at hx'
    · split at hx'
      · exact denF_ch ⟨ih Y hY, itOf_ch ih, hY⟩ (runFD_ch ⟨ih noY noY_ch, itOf_ch ih, noY_ch⟩) hx'
      · cases hx'
    · rename_i i hf
      exact hI f i hf _ _ _ hx'
    · cases hx'

-- functions
abbrev Ys := Nat → Option CallP
def noYs : Ys := fun _ => none
def itP (fns : Nat → Option FI) (X : Ys → Nat → Option CallP) : Ys → Nat → Option CallP := fun ys f => match fns f with
  | some (.code ..) => X ys f
  | _ => none
/-- what functions ask, n deep; ix: the contracts -/
def PFd (tys : Tys) (fns : Nat → Option FI) (pf : Calls') : Nat → Option CallP := fun f => match fns f with
  | some (.code c rs m) => match noDefer c with
    | true => some fun vs h K => vs.length ≤ m ∧ TS.denF tys pf noCalls hn0 c rs vs h K
    | false => none
  | _ => none
def dOf (d : Nat → Option CallP) : Calls' := ⟨fun _ => d, fun _ _ => none, noYs⟩
def PF (tys : Tys) (fns : Nat → Option FI) (ix : Nat → Option CallP) : Nat → Ys → Nat → Option CallP
  | 0 => fun _ _ => none
  | n + 1 => fun ys f => match fns f with
    | some (.code c rs m) => some fun vs h K => vs.length ≤ m ∧ TS.denF tys ⟨PF tys fns ix n, itP fns (PF tys fns ix n), ys⟩ (dOf (PFd tys fns ⟨PF tys fns ix n, itP fns (PF tys fns ix n), noYs⟩)) hn0 c rs vs h K
    | some (.intr _) => ix f
    | none => none
/-- a contract that is run -/
def IxR (fns : Nat → Option FI) (ix : Nat → Option CallP) : Prop := ∀ f i, fns f = some (.intr i) → ∃ p, ix f = some p ∧ (∀ ags H q, i ags H = some q → Ch H q.2) ∧ ∀ (γ : G) (φ : Fx) ags H h vs q (K' : Value → Mem → Prop), i ags H = some q → HR γ φ H h → VRL γ ags vs → FinR γ φ q K' → p vs h K'
theorem noCall_R {τ : Tp} : FnR τ (fun _ => noCall) (callOf noCalls) := by
  intro f ags H q hx
  cases hx
theorem noY_R {τ : Tp} : YR τ noY noYs := fun b y h => by cases h
theorem itOf_R {τ : Tp} {fns : Nat → Option FI} {X : (P → Option XCall) → Nat → XCall} {C : Ys → Nat → Option CallP} (hX : ∀ τ Y ys, ChY Y → YR τ Y ys → FnR τ (X Y) (C ys)) (τ' : Tp) (Y : P → Option XCall) (ys : Ys) (_ : Tp.le τ τ') (hc : ChY Y) (hY : YR τ' Y ys) :
    FnR τ' (itOf fns X Y) (itP fns C ys) := by
  intro f ags H q hx
  unfold itOf at hx
  unfold itP
  cases hf : fns f with
  | none => rw [hf] at hx; cases hx
  | some x => cases x with
    | code c rs m => rw [hf] at hx; exact hX τ' Y ys hc hY f ags H q hx
    | intr i => rw [hf] at hx; cases hx
theorem XF_R {tys : Tys} {fns : Nat → Option FI} {ix : Nat → Option CallP} (hT : TyR tys) (hI : IxR fns ix) : ∀ n τ Y ys, ChY Y → YR τ Y ys → FnR τ (XF tys fns n Y) (PF tys fns ix n ys) := by
  have hch := XF_ch (tys := tys) (fns := fns) fun f i hf => (hI f i hf).elim fun _ h => h.2.1
  intro n
  induction n with
  | zero => intro τ Y ys _ _ f ags H q hx; cases hx
  | succ n ih =>
    intro τ Y ys hcY hY
    have hC : ∀ τ Y ys, ChY Y → YR τ Y ys → CfR τ ⟨XF tys fns n Y, itOf fns (XF tys fns n), Y⟩ ⟨PF tys fns ix n, itP fns (PF tys fns ix n), ys⟩ := fun τ Y ys h1 h2 => ⟨ih τ Y ys h1 h2, itOf_R ih, h2⟩
    have hF : ∀ Y, ChY Y → ChF ⟨XF tys fns n Y, itOf fns (XF tys fns n), Y⟩ := fun Y h => ⟨hch n Y h, itOf_ch (hch n), h⟩
    have hD : ∀ τ, FnR τ (fun f => runFD tys ⟨XF tys fns n noY, itOf fns (XF tys fns n), noY⟩ (fns f)) (callOf (dOf (PFd tys fns ⟨PF tys fns ix n, itP fns (PF tys fns ix n), noYs⟩))) := by
      intro τ f ags H q hx
      have hx' : runFD tys ⟨XF tys fns n noY, itOf fns (XF tys fns n), noY⟩ (fns f) ags H = some q := hx
      unfold runFD at hx'
      split at hx'
      · rename_i c rs m hf
        split at hx'
        · rename_i hnd
          split at hx'
          · rename_i hb
            rw [ble_iff, lenL_eq] at hb
            refine ⟨_, by unfold callOf dOf PFd; simp only [hf, hnd]; rfl, ?_⟩
            intro γ φ h vs K' hle hR hv hK
            exact ⟨by rw [← hv.len]; exact hb, denF_R hT (hC _ _ _ noY_ch noY_R) (hF _ noY_ch) noCall_R hR hv hx' hK⟩
          · cases hx'
        · cases hx'
      · cases hx'
    intro f ags H q hx
    have hx' : runFI tys ⟨XF tys fns n Y, itOf fns (XF tys fns n), Y⟩ (fun f => runFD tys ⟨XF tys fns n noY, itOf fns (XF tys fns n), noY⟩ (fns f)) (fns f) ags H = some q := hx
    unfold runFI at hx'
    split at hx'
    · rename_i c rs m hf
      split at hx'
      · rename_i hb
        rw [ble_iff, lenL_eq] at hb
        refine ⟨_, by unfold PF; simp only [hf]; rfl, ?_⟩
        intro γ φ h vs K' hle hR hv hK
        exact ⟨by rw [← hv.len]; exact hb, denF_R hT ((hC _ _ _ hcY hY).mono hle) (hF _ hcY) (hD _) hR hv hx' hK⟩
      · cases hx'
    · rename_i i hf
      obtain ⟨p, p1, _, p2⟩ := hI f i hf
      refine ⟨p, by unfold PF; simp only [hf]; exact p1, ?_⟩
      intro γ φ h vs K' _ hR hv hK
      exact p2 γ φ ags H h vs q K' hx' hR hv hK
    · cases hx'
/-- the program's functions are these -/
def FnsOk (P : Program) (fns : Nat → Option FI) : Prop := ∀ f c rs m, fns f = some (.code c rs m) → ∃ fn, P.funcs[f]? = some fn ∧ fn.body = some c ∧ fn.results.toList = rs ∧ codeOk hn0 fn.ntmps c = true ∧ m ≤ fn.ntmps ∧
  ∀ args w, (callFunc f args).run P w = .ok (.enter f args) w
def IxOk (P : Program) (ix : Nat → Option CallP) : Prop := ∀ f p, ix f = some p → Sound P f p ∨ SoundX P f p
theorem noYs_ok {P : Program} : YldOk P noYs := fun l p h => by cases h
theorem PF_ok {P : Program} {tys : Tys} {fns : Nat → Option FI} {ix : Nat → Option CallP} (hm : P.follows .mixedOrders = true) (hty : TysOk P tys) (hF : FnsOk P fns) (hX : IxOk P ix) : ∀ n ys, YldOk P ys →
    (∀ f p, PF tys fns ix n ys f = some p → Sound P f p ∨ SoundX P f p) ∧ ∀ f p, itP fns (PF tys fns ix n) ys f = some p → Sound P f p := by
  intro n
  induction n with
  | zero =>
    intro ys _
    refine ⟨fun f p hp => (by cases hp), fun f p hp => ?_⟩
    unfold itP at hp
    cases hf : fns f with
    | none => rw [hf] at hp; cases hp
    | some x => cases x with
      | code c rs m => rw [hf] at hp; cases hp
      | intr i => rw [hf] at hp; cases hp
  | succ n ih =>
    have hC : ∀ ys, YldOk P ys → CallsOk P ⟨PF tys fns ix n, itP fns (PF tys fns ix n), ys⟩ := fun ys h => ⟨fun ys h => (ih ys h).1, fun ys h => (ih ys h).2, h⟩
    have hD : DefsOk P (dOf (PFd tys fns ⟨PF tys fns ix n, itP fns (PF tys fns ix n), noYs⟩)) := by
      intro f p hp
      unfold callOf dOf PFd at hp
      simp only [] at hp
      cases hf : fns f with
      | none => rw [hf] at hp; cases hp
      | some x => cases x with
        | intr i => rw [hf] at hp; cases hp
        | code c rs m =>
          rw [hf] at hp
          simp only [] at hp
          split at hp
          · rename_i hnd
            cases hp
            obtain ⟨fn, g1, g2, g3, g4, g5, g6⟩ := hF f c rs m hf
            refine ⟨g6, fun vs w K u hh => ?_⟩
            obtain ⟨h1, h2⟩ := hh
            subst g3
            exact denF_callsD hm hty (hC _ noYs_ok) g1 g2 g4 hnd (by omega) h2
          · cases hp
    intro ys hys
    have key : ∀ f c rs m p, fns f = some (.code c rs m) → PF tys fns ix (n + 1) ys f = some p → Sound P f p := by
      intro f c rs m p hf hp
      unfold PF at hp
      rw [hf] at hp
      cases hp
      obtain ⟨fn, g1, g2, g3, g4, g5, g6⟩ := hF f c rs m hf
      refine ⟨g6, fun vs w K hh => ?_⟩
      obtain ⟨h1, h2⟩ := hh
      subst g3
      exact denF_calls hm hty (hC ys hys) hD g1 g2 g4 (by omega) h2
    refine ⟨fun f p hp => ?_, fun f p hp => ?_⟩
    · cases hf : fns f with
      | none => unfold PF at hp; rw [hf] at hp; cases hp
      | some x => cases x with
        | code c rs m => exact .inl (key f c rs m p hf hp)
        | intr i => unfold PF at hp; rw [hf] at hp; exact hX f p hp
    · unfold itP at hp
      cases hf : fns f with
      | none => rw [hf] at hp; cases hp
      | some x => cases x with
        | intr i => rw [hf] at hp; cases hp
        | code c rs m => rw [hf] at hp; exact key f c rs m p hf hp
/-- A RUN OVER ABSTRACT MEMORY: the call does what it told. -/
theorem run_calls {P : Program} {tys : Tys} {fns : Nat → Option FI} {ix : Nat → Option CallP} (hm : P.follows .mixedOrders = true) (hty : TysOk P tys) (hT : TyR tys) (hF : FnsOk P fns) (hX : IxOk P ix) (hI : IxR fns ix) {n f : Nat} {q : AV × Am} {b : Bool} {c : Code} {rs : List ResultVar} {m : Nat}
    (hf : fns f = some (.code c rs m)) (hx : XF tys fns n noY f [] ⟨.lf, .one, none, []⟩ = some q) (hb : q.1 = .bool b) (w : World) :
    Calls P f #[] w (Ret (fun v h => v = .bool b ∧ ∀ B, B < w.heap.size → h[B]? = w.heap[B]?) w) := by
  have hR : HR (fun _ => none) ⟨fun B => w.heap[B]?, fun _ => False, ⟨fun _ => none, fun _ => none⟩⟩ ⟨.lf, .one, none, []⟩ w.heap := by
    refine ⟨fun b x h => by simp at h, fun _ _ => rfl, fun _ hh => hh.elim, fun b o h => ?_, fun b b' o o' B N N' h => ?_, fun B ob h => ⟨h, fun b o N hh => by simp⟩, fun _ _ h => h, fun B s h => by cases h⟩
    · have : (⟨.lf, .one, none, []⟩ : Am).get b = none := get_lf b
      rw [this] at h; cases h
    · have : (⟨.lf, .one, none, []⟩ : Am).get b = none := get_lf b
      rw [this] at h; cases h
  obtain ⟨p, p1, p2⟩ := XF_R hT hI n ⟨fun _ => none, fun _ => none⟩ noY noYs noY_ch noY_R f [] _ q hx
  have key := p2 _ _ w.heap [] (fun v h => v = .bool b ∧ ∀ B, B < w.heap.size → h[B]? = w.heap[B]?) (.refl _) hR VRL.nil fun γ' v h' _ hR' hv => by
    rw [hb] at hv
    refine ⟨dBool hv, fun B hB => ?_⟩
    obtain ⟨g1, _⟩ := hR'.far B w.heap[B] (by simp [hB])
    rw [g1]; simp [hB]
  have hok := (PF_ok hm hty hF hX n noYs noYs_ok).1 f p p1
  rcases hok with hs | hs
  · exact hs.calls [] w _ key
  · exfalso
    cases n with
    | zero => cases hx
    | succ n =>
      obtain ⟨fn, g1, g2, g3, g4, g5, g6⟩ := hF f c rs m hf
      obtain ⟨v, w', h1, _⟩ := hs.gives [] w _ key
      rw [g6] at h1
      cases h1
end Go.XS
