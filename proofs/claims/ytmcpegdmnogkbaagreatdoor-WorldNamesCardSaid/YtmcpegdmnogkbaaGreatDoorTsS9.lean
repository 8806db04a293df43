/- The layer 'TS': soundness, code and functions. -/
import Derived.Deep.LoopGhost
import Derived.Scope
import Derived.Test.YtmcpegdmnogkbaaGreatDoorTsS8
set_option linter.unusedSimpArgs false
set_option linter.unusedVariables false
namespace Go.TS
open Go

def codeOk (hn : Hints) (n : Nat) : Code → Bool
  | .region id ops draw => ops.toList.all (dstOk n) && (!draw || ordOk (maskOf hn id ops) ops.toList)
  | .seq a b => codeOk hn n a && codeOk hn n b
  | .cond _ a b => codeOk hn n a && codeOk hn n b
  | .block _ b => codeOk hn n b
  | .loop b => codeOk hn n b
  | .scope b => codeOk hn n b
  | .rangeFunc _ ps x y => ps.toList.all (fun p => Nat.blt p n) && codeOk hn n x && codeOk hn n y && noDefer x && noDefer y
  | _ => true

section
variable {F : Fence} {n : Nat} {P : Program} {b : Frame} {a : Act} {k : List Item} {cs : List Frame} {w : World} {Q : Exit → Act → World → Prop}
theorem stepR_scope {c : Code} : step P (lone (b.atR a (.code (.scope c) :: k)) cs w) = .next (lone (b.atR a (.code c :: .inScope c :: k)) cs w) :=
  step_lone_go (by simp [stepG, stepG.exec, Frame.atR])
theorem stepR_inScope {c : Code} : step P (lone (b.atR a (.inScope c :: k)) cs w) = .next (lone (b.atR a k) cs w) :=
  step_lone_go (by simp [stepG, stepG.exec, Frame.atR])
theorem wpIn_scope_straight {c : Code} (h : c.wpIn F n P (Exit.noGoto Q) a w) : (Code.scope c).wpIn F n P Q a w := by
  intro b k cs hro hb hr
  obtain ⟨e, a₁, w₁, hq, harr⟩ := h b (.inScope c :: k) cs hro hb hr
  have h1 : StepsIn (Machine.fenced P F) P (lone (b.atR a (.code (.scope c) :: k)) cs w) (lone (b.atR a (.code c :: .inScope c :: k)) cs w) := .one (fenced_calm hb hr rfl) stepR_scope
  cases e with
  | normal => exact ⟨.normal, a₁, w₁, hq, StepsIn.trans h1 (StepsIn.trans harr (.one (fenced_calm hb hr rfl) stepR_inScope))⟩
  | exit id => exact ⟨.exit id, a₁, w₁, hq, .of_steps h1 ⟨fun k' hk => harr.1 k' (by simp [exitTo, hk]), fun hr hk => harr.2 hr (by simp [exitTo, hk])⟩⟩
  | goto l => exact hq.elim
  | ret => exact ⟨_, a₁, w₁, hq, .of_steps h1 harr⟩
  | panic ch => exact ⟨_, a₁, w₁, hq, .of_steps h1 harr⟩
  | outgrown => exact ⟨_, a₁, w₁, hq, .of_steps h1 harr⟩
end
section
variable {P : Program} {tys : Tys} {cs : Calls'} {hn : Hints} {n : Nat}

theorem encOn_ok : ∀ (l : List (Nat × Kind)) (e' e : Env) (s : St l), decSt l e' = some s → ∀ t v, Env.get (encOn l s e) t = some v → Env.get e' t = some v ∨ Env.get e t = some v := by
  intro l
  induction l with
  | nil => intro e' e s _ t v h; exact .inr h
  | cons x l ih =>
    obtain ⟨i, k⟩ := x
    have key : ∀ (e' : Env) (y : k.ty), getK e' i k = some y → ∀ t v (r : Env), Env.get (Env.put r i (k.enc y)) t = some v → Env.get e' t = some v ∨ Env.get r t = some v := by
      intro e' y hy t v r h
      unfold getK at hy
      split at hy
      · rename_i u hu
        have hde := dec_enc hy
        rcases tr_put _ _ _ _ _ _ h with ⟨rfl, rfl⟩ | ⟨_, h⟩
        · exact .inl (by rw [hu, hde])
        · exact .inr h
      · cases hy
    intro e' e s hs t v h
    cases l with
    | nil =>
      simp only [decSt] at hs
      exact key e' s hs t v e h
    | cons q r =>
      simp only [decSt] at hs
      split at hs
      · rename_i y hy
        split at hs
        · rename_i z hz
          cases hs
          rcases key e' y hy t v _ h with h | h
          · exact .inl h
          · exact ih e' e z hz t v h
        · cases hs
      · cases hs

theorem get_without : ∀ (W : List Nat) (e : Env) (t : Nat) (v : Value), Env.get (without W e) t = some v → t ∉ W ∧ Env.get e t = some v := by
  intro W
  induction W with
  | nil => intro e t v h; exact ⟨by simp, h⟩
  | cons i W ih =>
    intro e t v h
    obtain ⟨h1, h2⟩ := ih _ t v h
    obtain ⟨h3, h4⟩ := tr_del _ _ _ _ h2
    exact ⟨by simp [h1, h3], h4⟩

theorem getD_replicate_false' (m j : Nat) : (Array.replicate m false).getD j false = false := by
  by_cases h : j < m <;> simp [h]
theorem isDefer_all (ops : List Oper) : (ops.all fun o => match o.op with | .defer _ => false | _ => true) = ops.all fun o => !isDefer o := by
  congr 1
  funext o
  unfold isDefer
  cases o.op <;> rfl

theorem putL_ok : ∀ (ps : List Nat) (vs : List Value) (e : Env) (T : Array Value), (∀ p, p ∈ ps → p < T.size) → (∀ t v, Env.get e t = some v → T[t]? = some v) →
    (∀ t v, Env.get (putL e ps vs) t = some v → ((ps.zip vs).foldl (fun T x => T.setIfInBounds x.1 x.2) T)[t]? = some v) ∧ ((ps.zip vs).foldl (fun T x => T.setIfInBounds x.1 x.2) T).size = T.size := by
  intro ps
  induction ps with
  | nil => intro vs e T _ h; exact ⟨by simpa [putL] using h, rfl⟩
  | cons p ps ih =>
    intro vs e T hp h
    cases vs with
    | nil => exact ⟨by simpa [putL] using h, rfl⟩
    | cons v vs =>
      have := ih vs (Env.put e p v) (T.setIfInBounds p v) (fun q hq => by simpa using hp q (by simp [hq])) (fun t u hu => by
        rcases tr_put _ _ _ _ _ _ hu with ⟨rfl, rfl⟩ | ⟨hne, hu⟩
        · have := hp t (by simp); simp [this]
        · rw [Array.getElem?_setIfInBounds_ne (Ne.symm hne)]; exact h t u hu)
      simp only [putL, List.zip_cons_cons, List.foldl_cons]
      exact ⟨this.1, by rw [this.2]; simp⟩

/-- what 'den_ok' says of code in a round -/
def InRound (P : Program) (n : Nat) (l : Nat) (c : Code) (d : Env → List Deferred → Mem → Rg → (Nat → Rg) → Rg → Prop) : Prop :=
  ∀ (e : Env) (a : Act) (w : World) (N : Rg) (X : Nat → Rg) (R : Rg) (Q : Exit → Act → World → Prop), d e [] w.heap N X R → Rel n e [] a →
    (∀ e' a' w', N e' [] w'.heap → Rel n e' [] a' → Same w w' → Q .normal a' w') →
    (∀ i e' a' w', X i e' [] w'.heap → Rel n e' [] a' → Same w w' → Q (.exit i) a' w') →
    (∀ e' a' w', R e' [] w'.heap → Rel n e' [] a' → Same w w' → Q .ret a' w') → c.wpIn (Fw (some l)) 0 P Q a w

theorem yieldP_ok {dA dB : Env → List Deferred → Mem → Rg → (Nat → Rg) → Rg → Prop} {e : Env} {r : Loop} {l : Nat} (hps : ∀ p, p ∈ r.params.toList → p < r.tmps.size) (he : ∀ t v, Env.get e t = some v → r.tmps[t]? = some v)
    (hA : InRound P r.tmps.size l r.assign dA) (hB : InRound P r.tmps.size l r.body dB) : SoundY P l (yieldP dA dB e r l) := by
  intro vs w K h
  obtain ⟨hlen, hl, h⟩ := h
  obtain ⟨g1, g2⟩ := putL_ok r.params.toList vs e r.tmps hps he
  have hy := run_yield (P := P) (args := vs.toArray) hl (by simpa using hlen)
  have hT : (r.params.zip vs.toArray).foldl (fun tmps (t, a) => tmps.setIfInBounds t a) r.tmps = (r.params.toList.zip vs).foldl (fun T x => T.setIfInBounds x.1 x.2) r.tmps := by
    rw [← Array.foldl_toList]; simp
  refine ⟨_, _, _, _, hy, roundIn_of_wpIn trivial ?_⟩
  simp only [] at hy ⊢
  rw [hT]
  refine hA _ _ w _ _ _ _ h ⟨g2, rfl, g1⟩ ?_ (fun i e' a' w' hX => hX.elim) (fun e' a' w' hX => hX.elim)
  rintro e1 a1 w1 ⟨hl1, h1⟩ hr1 hS1
  have hlt : l < w1.heap.size := (Array.getElem?_eq_some_iff.1 hl1).1
  refine ⟨_, run_beginRound hl1 rfl, ?_⟩
  refine hB e1 a1 _ _ _ _ _ h1 hr1 ?_ ?_ ?_
  · rintro e2 a2 w2 ⟨hl2, hK⟩ _ hS2
    exact ⟨_, _, run_endRound none hl2, _, rfl, hK, ⟨hS2.1.trans hS1.1, hS2.2.trans hS1.2, hS2.3.trans hS1.3⟩⟩
  · rintro i e2 a2 w2 ⟨hl2, hK⟩ _ hS2
    exact ⟨_, _, run_endRound (some (.exit i)) hl2, _, rfl, hK, ⟨hS2.1.trans hS1.1, hS2.2.trans hS1.2, hS2.3.trans hS1.3⟩⟩
  · rintro e2 a2 w2 ⟨hl2, hK⟩ _ hS2
    exact ⟨_, _, run_endRound (some .ret) hl2, _, rfl, hK, ⟨hS2.1.trans hS1.1, hS2.2.trans hS1.2, hS2.3.trans hS1.3⟩⟩

theorem yldOk_add {ys : Nat → Option CallP} {l : Nat} {p : CallP} (h : YldOk P ys) (hp : SoundY P l p) : YldOk P (addY ys l p) := by
  intro m q hq
  unfold addY at hq
  split at hq
  · rename_i hb
    cases hq
    rw [Nat.eq_of_beq_eq_true hb]
    exact hp
  · exact h m q hq

theorem chk_ok {K : Env → Prop} : ∀ (l : List (Nat × Kind)) (e : Env), chk l e K → ∃ e', K e' ∧ ∀ t v, Env.get e' t = some v → Env.get e t = some v := by
  intro l
  induction l with
  | nil => intro e h; exact ⟨e, h, fun _ _ h => h⟩
  | cons q r ih =>
    obtain ⟨i, k⟩ := q
    intro e h
    obtain ⟨x, h1, h2⟩ := h
    obtain ⟨e', h3, h4⟩ := ih _ h2
    refine ⟨e', h3, fun t v ht => ?_⟩
    have := h4 t v ht
    rcases tr_put _ _ _ _ _ _ this with ⟨rfl, rfl⟩ | ⟨_, h5⟩
    · exact h1
    · exact h5
theorem chkN_ok {id : Nat} {N : Rg} {e : Env} {ds : List Deferred} {h : Mem} (hc : chkN hn id N e ds h) : ∃ e', N e' ds h ∧ ∀ t v, Env.get e' t = some v → Env.get e t = some v := by
  unfold chkN at hc
  cases hp : pickO hn.chks id with
  | none => rw [hp] at hc; exact ⟨e, hc, fun _ _ h => h⟩
  | some l => rw [hp] at hc; exact chk_ok _ _ hc

theorem den_ok (hm : P.follows .mixedOrders = true) (hty : TysOk P tys) (hcs : CallsOk P cs) {fm : Nat} : ∀ (c : Code) (ro : Option Nat) (e : Env) (ds : List Deferred) (a : Act) (w : World) (N : Rg) (X : Nat → Rg) (R : Rg) (Q : Exit → Act → World → Prop),
    (ro = none ∨ noDefer c = true) → codeOk hn n c = true → den tys cs hn c e ds w.heap N X R → Rel n e ds a →
    (∀ e' ds' a' w', N e' ds' w'.heap → Rel n e' ds' a' → Fr (writes c) (noDefer c) a a' → Same w w' → Q .normal a' w') →
    (∀ i e' ds' a' w', X i e' ds' w'.heap → Rel n e' ds' a' → Fr (writes c) (noDefer c) a a' → Same w w' → Q (.exit i) a' w') →
    (∀ e' ds' a' w', R e' ds' w'.heap → Rel n e' ds' a' → Fr (writes c) (noDefer c) a a' → Same w w' → Q .ret a' w') → c.wpIn (Fw ro) fm P Q a w := by
  intro c
  induction c with
  | skip => intro ro e ds a w N X R Q hro _ h hr hN _ _; exact wpIn_skip (hN e ds a w h hr (Fr.refl _ _ _) (.refl w))
  | label l => intro ro e ds a w N X R Q hro _ h hr hN _ _; exact wpIn_label (hN e ds a w h hr (Fr.refl _ _ _) (.refl w))
  | exit i => intro ro e ds a w N X R Q hro _ h hr _ hX _; exact wpIn_exit (hX i e ds a w h hr (Fr.refl _ _ _) (.refl w))
  | ret => intro ro e ds a w N X R Q hro _ h hr _ _ hR; exact wpIn_ret (hR e ds a w h hr (Fr.refl _ _ _) (.refl w))
  | region id ops draw =>
    intro ro e ds a w N X R Q hro hok h hr hN _ _
    simp only [codeOk, Bool.and_eq_true, List.all_eq_true] at hok
    obtain ⟨hd, hdr⟩ := hok
    cases draw with
    | false =>
      simp only [den] at h
      refine wpIn_region_list ?_
      have := denL_ok (P := P) (Q := Q) (ro := ro) (m := fm) hty hcs ops.toList ops.toList e ds a w (hro.imp (fun h => h) fun h => by rw [← isDefer_all]; exact h) hd h hr (fun e' ds' a' w' hK hR hF hS => by
        obtain ⟨e2, hK, hsub⟩ := chkN_ok hK
        exact hN e2 ds' a' w' hK (hR.env hsub) (by
        have e1 : noDefer (.region id ops false) = ops.toList.all fun o => !isDefer o := isDefer_all ops.toList
        rw [e1]; exact hF) hS)
      simpa using this
    | true =>
      simp only [den] at h
      simp only [Bool.not_true, Bool.false_or] at hdr
      refine wpIn_region_any hm ?_
      have hdc : DC ops.toList.toArray (Array.replicate ops.toList.length false) := by
        intro i o _ hl
        have := getD_replicate_false' ops.toList.length i
        rw [this] at hl; cases hl
      have h' : denA tys cs (maskOf hn id ops) ops.toList ops.toList.length (finL (Array.replicate ops.toList.length false) []) [] e ({ w with drawn := w.drawn + 1 } : World).heap fun e h => N e ds h := h
      have := denA_main (P := P) (Q := Q) (n := n) (ro := ro) (fm := fm) hty hcs hdr hd (ds := ds) ops.toList.length ops.toList.length (Array.replicate ops.toList.length false) [] e a [] { w with drawn := w.drawn + 1 } rfl h' hr trivial trivial
        (fun p hp => by cases hp) (fun p hp => by cases hp) (by simp) hdc
        (fun e' a' w' hK hR hF hS => hN e' ds a' w' hK hR (by simp only [writes]; exact ⟨hF.tmps, fun _ => hF.defers rfl⟩) ⟨hS.1, hS.2, hS.3⟩)
      simpa using this
  | seq x y ihx ihy =>
    intro ro e ds a w N X R Q hro hok h hr hN hX hR
    simp only [codeOk, Bool.and_eq_true] at hok
    have wx : ∀ t, t ∈ writes x → t ∈ writes (.seq x y) := fun t ht => by simp [writes, ht]
    have wy : ∀ t, t ∈ writes y → t ∈ writes (.seq x y) := fun t ht => by simp [writes, ht]
    have nx : noDefer (.seq x y) = true → noDefer x = true := fun hh => by simp only [noDefer, Bool.and_eq_true] at hh; exact hh.1
    have ny : noDefer (.seq x y) = true → noDefer y = true := fun hh => by simp only [noDefer, Bool.and_eq_true] at hh; exact hh.2
    refine wpIn_seq (ihx ro e ds a w _ X R _ (hro.imp (fun h => h) nx) hok.1 h hr ?_ ?_ ?_)
    · intro e1 ds1 a1 w1 h1 hr1 hf1 hs1
      refine ihy ro e1 ds1 a1 w1 N X R Q (hro.imp (fun h => h) ny) hok.2 h1 hr1 ?_ ?_ ?_
      · intro e2 ds2 a2 w2 h2 hr2 hf2 hs2
        exact hN e2 ds2 a2 w2 h2 hr2 ((hf1.weaken wx nx).trans (hf2.weaken wy ny)) (hs1.trans hs2)
      · intro i e2 ds2 a2 w2 h2 hr2 hf2 hs2
        exact hX i e2 ds2 a2 w2 h2 hr2 ((hf1.weaken wx nx).trans (hf2.weaken wy ny)) (hs1.trans hs2)
      · intro e2 ds2 a2 w2 h2 hr2 hf2 hs2
        exact hR e2 ds2 a2 w2 h2 hr2 ((hf1.weaken wx nx).trans (hf2.weaken wy ny)) (hs1.trans hs2)
    · intro i e1 ds1 a1 w1 h1 hr1 hf1 hs1
      exact hX i e1 ds1 a1 w1 h1 hr1 (hf1.weaken wx nx) hs1
    · intro e1 ds1 a1 w1 h1 hr1 hf1 hs1
      exact hR e1 ds1 a1 w1 h1 hr1 (hf1.weaken wx nx) hs1
  | cond c x y ihx ihy =>
    intro ro e ds a w N X R Q hro hok h hr hN hX hR
    simp only [codeOk, Bool.and_eq_true] at hok
    have wx : ∀ t, t ∈ writes x → t ∈ writes (.cond c x y) := fun t ht => by simp [writes, ht]
    have wy : ∀ t, t ∈ writes y → t ∈ writes (.cond c x y) := fun t ht => by simp [writes, ht]
    have nx : noDefer (.cond c x y) = true → noDefer x = true := fun hh => by simp only [noDefer, Bool.and_eq_true] at hh; exact hh.1
    have ny : noDefer (.cond c x y) = true → noDefer y = true := fun hh => by simp only [noDefer, Bool.and_eq_true] at hh; exact hh.2
    have h := withV_ok hr.ok h
    split at h
    · rename_i b hb
      cases b with
      | true =>
        refine wpIn_cond_true hb (ihx ro e ds a w N X R Q (hro.imp (fun h => h) nx) hok.1 h hr ?_ ?_ ?_)
        · intro e2 ds2 a2 w2 h2 hr2 hf2 hs2; exact hN e2 ds2 a2 w2 h2 hr2 (hf2.weaken wx nx) hs2
        · intro i e2 ds2 a2 w2 h2 hr2 hf2 hs2; exact hX i e2 ds2 a2 w2 h2 hr2 (hf2.weaken wx nx) hs2
        · intro e2 ds2 a2 w2 h2 hr2 hf2 hs2; exact hR e2 ds2 a2 w2 h2 hr2 (hf2.weaken wx nx) hs2
      | false =>
        refine wpIn_cond_false hb (ihy ro e ds a w N X R Q (hro.imp (fun h => h) ny) hok.2 h hr ?_ ?_ ?_)
        · intro e2 ds2 a2 w2 h2 hr2 hf2 hs2; exact hN e2 ds2 a2 w2 h2 hr2 (hf2.weaken wy ny) hs2
        · intro i e2 ds2 a2 w2 h2 hr2 hf2 hs2; exact hX i e2 ds2 a2 w2 h2 hr2 (hf2.weaken wy ny) hs2
        · intro e2 ds2 a2 w2 h2 hr2 hf2 hs2; exact hR e2 ds2 a2 w2 h2 hr2 (hf2.weaken wy ny) hs2
    · exact h.elim
  | block id b ih =>
    intro ro e ds a w N X R Q hro hok h hr hN hX hR
    refine wpIn_block (ih ro e ds a w N _ R _ hro hok h hr (fun e2 ds2 a2 w2 h2 hr2 hf2 hs2 => hN e2 ds2 a2 w2 h2 hr2 hf2 hs2) ?_ (fun e2 ds2 a2 w2 h2 hr2 hf2 hs2 => hR e2 ds2 a2 w2 h2 hr2 hf2 hs2))
    intro i e2 ds2 a2 w2 h2 hr2 hf2 hs2
    simp only [Exit.inBlock]
    cases hb : Nat.beq i id with
    | true =>
      rw [hb] at h2
      rw [if_pos (Nat.eq_of_beq_eq_true hb)]
      exact hN e2 ds2 a2 w2 h2 hr2 hf2 hs2
    | false =>
      rw [hb] at h2
      have hne : i ≠ id := fun hh => by subst hh; rw [Nat.beq_refl] at hb; cases hb
      rw [if_neg hne]
      exact hX i e2 ds2 a2 w2 h2 hr2 hf2 hs2
  | scope b ih => intro ro e ds a w N X R Q hro hok h hr hN hX hR; exact wpIn_scope_straight (ih ro e ds a w N X R (Exit.noGoto Q) hro hok h hr (fun e2 ds2 a2 w2 h2 hr2 hf2 hs2 => hN e2 ds2 a2 w2 h2 hr2 hf2 hs2) (fun i e2 ds2 a2 w2 h2 hr2 hf2 hs2 => hX i e2 ds2 a2 w2 h2 hr2 hf2 hs2) (fun e2 ds2 a2 w2 h2 hr2 hf2 hs2 => hR e2 ds2 a2 w2 h2 hr2 hf2 hs2))
  | loop b ih =>
    intro ro e ds a w N X R Q hro hok h hr hN hX hR
    simp only [den] at h
    split at h
    · exact h.elim
    · rename_i hnd
      split at h
      · obtain ⟨I, μ, hI, hround⟩ := h
        refine wpIn_loop_ghost (fun k a' w' => ∃ s, μ s w'.heap = k ∧ I s w'.heap ∧ Rel n s ds a' ∧ Fr (writes b) true a a' ∧ Same w w') (μ e w.heap) ⟨e, rfl, hI, hr, Fr.refl _ _ _, .refl w⟩ ?_
        rintro k a1 w1 ⟨s1, hk, hI1, hr1, hf1, hs1⟩
        have hb := hround s1 w1.heap hI1
        refine ih ro _ ds a1 w1 _ X R _ hro hok hb hr1 ?_ ?_ ?_
        · intro e2 ds2 a2 w2 h2 hr2 hf2 hs2
          obtain ⟨hI2, hlt⟩ := h2
          have hf2' : Fr (writes b) true a1 a2 := hf2.weaken (fun t ht => ht) (fun _ => hnd)
          have hf12 := hf1.trans hf2'
          refine ⟨μ e2 w2.heap, by rw [← hk]; exact hlt, e2, rfl, hI2, ⟨hr2.size, ?_, hr2.ok⟩, hf12, hs1.trans hs2⟩
          rw [hf12.defers rfl]; exact hr.defers
        · intro i e2 ds2 a2 w2 h2 hr2 hf2 hs2
          exact hX i e2 ds2 a2 w2 h2 hr2 ((hf1.weaken (fun t ht => ht) (fun _ => rfl)).trans hf2) (hs1.trans hs2)
        · intro e2 ds2 a2 w2 h2 hr2 hf2 hs2
          exact hR e2 ds2 a2 w2 h2 hr2 ((hf1.weaken (fun t ht => ht) (fun _ => rfl)).trans hf2) (hs1.trans hs2)
      · split at h
        · exact h.elim
        · rename_i s hs
          obtain ⟨I, μ, hI, hround⟩ := h
          refine wpIn_loop_ghost (fun k a' w' => ∃ s, μ s w'.heap = k ∧ I s w'.heap ∧ Rel n (encOn _ s (without (writes b) e)) ds a' ∧ Fr (writes b) true a a' ∧ Same w w') (μ s w.heap) ⟨s, rfl, hI, ⟨hr.size, hr.defers, ?_⟩, Fr.refl _ _ _, .refl w⟩ ?_
          · intro t v ht
            rcases encOn_ok _ _ _ _ hs t v ht with ht | ht
            · exact hr.ok t v ht
            · exact hr.ok t v (get_without _ _ _ _ ht).2
          · rintro k a1 w1 ⟨s1, hk, hI1, hr1, hf1, hs1⟩
            have hb := hround s1 w1.heap hI1
            refine ih ro _ ds a1 w1 _ X R _ hro hok hb hr1 ?_ ?_ ?_
            · intro e2 ds2 a2 w2 h2 hr2 hf2 hs2
              split at h2
              · rename_i s2 hs2'
                obtain ⟨hI2, hlt⟩ := h2
                have hf2' : Fr (writes b) true a1 a2 := hf2.weaken (fun t ht => ht) (fun _ => hnd)
                have hf12 := hf1.trans hf2'
                refine ⟨μ s2 w2.heap, by rw [← hk]; exact hlt, s2, rfl, hI2, ⟨hr2.size, ?_, ?_⟩, hf12, hs1.trans hs2⟩
                · rw [hf12.defers rfl]; exact hr.defers
                · intro t v ht
                  rcases encOn_ok _ _ _ _ hs2' t v ht with ht | ht
                  · exact hr2.ok t v ht
                  · obtain ⟨hnw, hg⟩ := get_without _ _ _ _ ht
                    rw [hf12.tmps t hnw]
                    exact hr.ok t v hg
              · exact h2.elim
            · intro i e2 ds2 a2 w2 h2 hr2 hf2 hs2
              exact hX i e2 ds2 a2 w2 h2 hr2 ((hf1.weaken (fun t ht => ht) (fun _ => rfl)).trans hf2) (hs1.trans hs2)
            · intro e2 ds2 a2 w2 h2 hr2 hf2 hs2
              exact hR e2 ds2 a2 w2 h2 hr2 ((hf1.weaken (fun t ht => ht) (fun _ => rfl)).trans hf2) (hs1.trans hs2)
  | rangeFunc g ps x y ihx ihy =>
    intro ro e ds a w N X R Q hro hok h hr hN hX hR
    have hrn : ro = none := by
      rcases hro with h | h
      · exact h
      · simp [noDefer] at h
    subst hrn
    simp only [codeOk, Bool.and_eq_true, List.all_eq_true] at hok
    obtain ⟨⟨⟨⟨hps, hox⟩, hoy⟩, hnx⟩, hny⟩ := hok
    have h : (match ev e g with
      | some (.func (.func f) first cap) => ∀ (fn : FuncId) (tmps : Array Value), (∀ t v, Env.get e t = some v → tmps[t]? = some v) →
        (match cs.it (addY cs.ys (w.heap.size + 1) (yieldP (den tys cs hn x) (den tys cs hn y) e { state := .ready, pending := none, fn, tmps, params := ps, assign := x, body := y, defers := w.heap.size } (w.heap.size + 1))) f with
        | some p => p (first.toList ++ [.func (.yield (w.heap.size + 1)) #[] #[]] ++ cap.toList) ((w.heap.push (.deferred (some []))).push (.loop { state := .ready, pending := none, fn, tmps, params := ps, assign := x, body := y, defers := w.heap.size }))
            fun _ h => ∃ st pend, h[w.heap.size + 1]? = some (.loop { state := st, pending := pend, fn, tmps, params := ps, assign := x, body := y, defers := w.heap.size }) ∧ st ≠ .busy ∧
            jmp pend (N e ({ target := .collected w.heap.size, args := #[] } :: ds)) (fun i => X i e ({ target := .collected w.heap.size, args := #[] } :: ds)) (R e ({ target := .collected w.heap.size, args := #[] } :: ds))
              (h.setIfInBounds (w.heap.size + 1) (.loop { state := .exhausted, pending := pend, fn, tmps, params := ps, assign := x, body := y, defers := w.heap.size }))
        | none => False)
      | _ => False) := by
      simp only [den, al, Array.size_push] at h
      exact h
    split at h
    · rename_i f first cap hg
      refine wpIn_rangeFunc ?_
      intro fn _
      have h := h fn a.tmps hr.ok
      split at h
      · rename_i p hp
        have hro' : ∀ (l : Nat) (c : Code), noDefer c = true → codeOk hn n c = true →
            (∀ (ro : Option Nat) (e : Env) (ds : List Deferred) (a : Act) (w : World) (N : Rg) (X : Nat → Rg) (R : Rg) (Q : Exit → Act → World → Prop),
              (ro = none ∨ noDefer c = true) → codeOk hn n c = true → den tys cs hn c e ds w.heap N X R → Rel n e ds a →
              (∀ e' ds' a' w', N e' ds' w'.heap → Rel n e' ds' a' → Fr (writes c) (noDefer c) a a' → Same w w' → Q .normal a' w') →
              (∀ i e' ds' a' w', X i e' ds' w'.heap → Rel n e' ds' a' → Fr (writes c) (noDefer c) a a' → Same w w' → Q (.exit i) a' w') →
              (∀ e' ds' a' w', R e' ds' w'.heap → Rel n e' ds' a' → Fr (writes c) (noDefer c) a a' → Same w w' → Q .ret a' w') → c.wpIn (Fw ro) fm P Q a w) →
            InRound P n l c (den tys cs hn c) := by
          intro l c hnd hoc ihc e a w N X R Q hd hr hN hX hR
          have key : ∀ (a' : Act) (ds' : List Deferred) (e' : Env), Rel n e' ds' a' → Fr (writes c) (noDefer c) a a' → ds' = [] := fun a' ds' e' h1 h2 => by rw [← h1.defers, h2.defers hnd, hr.defers]
          have := ihc (some l) e [] a w N X R Q (.inr hnd) hoc hd hr
            (fun e' ds' a' w' h1 h2 h3 h4 => by have := key _ _ _ h2 h3; subst this; exact hN e' a' w' h1 h2 h4)
            (fun i e' ds' a' w' h1 h2 h3 h4 => by have := key _ _ _ h2 h3; subst this; exact hX i e' a' w' h1 h2 h4)
            (fun e' ds' a' w' h1 h2 h3 h4 => by have := key _ _ _ h2 h3; subst this; exact hR e' a' w' h1 h2 h4)
          intro b k cs h1 h2 h3
          exact this b k cs h1 trivial (room_wide _)
        have hsz := hr.size
        have hY : SoundY P (w.heap.size + 1) (yieldP (den tys cs hn x) (den tys cs hn y) e { state := .ready, pending := none, fn, tmps := a.tmps, params := ps, assign := x, body := y, defers := w.heap.size } (w.heap.size + 1)) := by
          refine yieldP_ok (fun p hp => ?_) hr.ok ?_ ?_
          · have := hps p hp
            rw [Nat.blt_eq] at this
            simpa [hsz] using this
          · simp only [hsz]; exact hro' _ x hnx hox ihx
          · simp only [hsz]; exact hro' _ y hny hoy ihy
        have hS := hcs.it _ (yldOk_add hcs.ys hY) f p hp
        have hev : a.eval g = .func (.func f) first cap := ev_ok hr.ok hg
        have hc := hS.calls _ ((w.alloc (.deferred (some []))).alloc (.loop { state := .ready, pending := none, fn, tmps := a.tmps, params := ps, assign := x, body := y, defers := w.heap.size })) _ h
        refine ⟨_, _, _, { target := .fn (.func f) cap, args := first ++ #[.func (.yield (w.heap.size + 1)) #[] #[]] }, ((w.alloc (.deferred (some []))).alloc (.loop { state := .ready, pending := none, fn, tmps := a.tmps, params := ps, assign := x, body := y, defers := w.heap.size })), f, first ++ #[.func (.yield (w.heap.size + 1)) #[] #[]] ++ cap, ((w.alloc (.deferred (some []))).alloc (.loop { state := .ready, pending := none, fn, tmps := a.tmps, params := ps, assign := x, body := y, defers := w.heap.size })), run_enterLoop_outer _ _ _ _ _, ?_, fun _ _ => trivial, ?_, fun h => by simp [Fence.wide] at h, ?_⟩
        · simp only [resolve, rangeCall, hev]
          simp [Deferred.ofValue, Act.eval]
        · simp only [invoke]
          exact hS.enters _ _
        · have harr : (first.toList ++ [Value.func (.yield (w.heap.size + 1)) #[] #[]] ++ cap.toList).toArray = first ++ #[.func (.yield (w.heap.size + 1)) #[] #[]] ++ cap := by apply Array.ext'; simp
          rw [harr] at hc
          refine (callsIn_fw hc).mono ?_
          rintro e' w' ⟨v, rfl, ⟨st, pend, hl, hst, hj⟩, hS'⟩
          refine ⟨_, _, run_endLoop hl hst, ?_⟩
          have hrel : Rel n e ({ target := .collected w.heap.size, args := #[] } :: ds) { a with defers := { target := .collected w.heap.size, args := #[] } :: a.defers } := ⟨hr.size, by simp [hr.defers], hr.ok⟩
          have hfr : Fr (writes (.rangeFunc g ps x y)) (noDefer (.rangeFunc g ps x y)) a { a with defers := { target := .collected w.heap.size, args := #[] } :: a.defers } := ⟨fun _ _ => rfl, fun hh => by simp [noDefer] at hh⟩
          have hsm : ∀ o, Same w (w'.putObj (w.heap.size + 1) o) := fun o => ⟨hS'.1, hS'.2, hS'.3⟩
          simp only []
          unfold jmp at hj
          split at hj
          · exact hN _ _ _ _ hj hrel hfr (hsm _)
          · exact wpIn_ret (hR _ _ _ _ hj hrel hfr (hsm _))
          · exact wpIn_exit (hX _ _ _ _ _ hj hrel hfr (hsm _))
          · exact hj.elim
      · exact h.elim
    · exact h.elim
  | goto l => intro ro e ds a w N X R Q _ _ h; exact (h : False).elim
  | refuse l => intro ro e ds a w N X R Q _ _ h; exact (h : False).elim
end
end Go.TS
