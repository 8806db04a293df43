/- The layer 'XS': regions in which several operations may come first: what a run says. -/
import Derived.Test.YtmcpegdmnogkbaaGreatDoorXsLat
import Derived.Test.YtmcpegdmnogkbaaGreatDoorTsS8
set_option linter.unusedSimpArgs false
set_option linter.unusedVariables false
namespace Go.XS
open Go Go.TS

section
variable {φ : Fx} {tys : Tys} {cf : CF} {cs : Calls'} {M : List Nat} {ops : List Oper} {hi0 : Option P}
theorem Pn.congr {ρ : Type} {γ : G} {ae ae' : AE} {e : Env} {its : List It} {q : Nat × Fact} (hc : ∀ x, eget ae' x = eget ae x) (h : Pn (ρ := ρ) γ ops ae e its q) : Pn (ρ := ρ) γ ops ae' e its q := by
  obtain ⟨o, t, x, u, A, h1, h2, h3, h4, ⟨av0, h5⟩, h6, h7, h8⟩ := h
  refine ⟨o, t, x, u, A, h1, h2, h3, h4, ?_, fun d av hd hg => h6 d av hd ((hc d).symm.trans hg), fun K => ?_, h8⟩
  · cases x with
    | tmp tt => exact ⟨av0, (hc tt).trans h5⟩
    | const c => exact ⟨av0, h5⟩
    | global g => exact ⟨av0, h5⟩
    | func f => exact ⟨av0, h5⟩
  · have := h7 K
    unfold grd at this ⊢
    split
    · rfl
    · rename_i q hgq
      rw [hgq] at this
      simp only at this
      split
      · rename_i hn; rw [hn] at this; exact this
      · rename_i og hog
        rw [hog] at this
        simp only at this
        split
        · rename_i hn; rw [hn] at this; exact this
        · rename_i d hd2
          rw [hd2] at this
          simp only at this
          rw [hc d]; exact this
def restI (ops : List Oper) (listed : Array Bool) : List It := (List.range ops.length).filterMap fun i => if listed.getD i false then none else (ops[i]?).map fun o => ⟨o, false, []⟩
theorem mem_rest {listed : Array Bool} {it : It} : it ∈ restI ops listed ↔ ∃ (i : Nat) (o : Oper), ops[i]? = some o ∧ listed.getD i false = false ∧ it = ⟨o, false, []⟩ := by
  unfold restI
  rw [List.mem_filterMap]
  constructor
  · rintro ⟨i, _, h⟩
    split at h
    · cases h
    · rename_i hl
      cases ho : ops[i]? with
      | none => rw [ho] at h; cases h
      | some o => rw [ho] at h; cases h; exact ⟨i, o, ho, by simpa using hl, rfl⟩
  · rintro ⟨i, o, ho, hl, rfl⟩
    exact ⟨i, List.mem_range.2 (List.getElem?_eq_some_iff.1 ho).1, by rw [if_neg (by simp [hl]), ho]; rfl⟩
theorem allP_of {l : List Nat} {f : Nat → Prop} (h : ∀ i, i ∈ l → f i) : allP l f := by
  induction l with
  | nil => trivial
  | cons i l ih =>
    cases l with
    | nil => exact h i (by simp)
    | cons j l => exact ⟨h i (by simp), ih (fun k hk => h k (by simp [hk]))⟩
theorem getD_set_self {L : Array Bool} {i : Nat} (h : i < L.size) : (L.setIfInBounds i true).getD i false = true := by simp [h]
theorem getD_set_of {L : Array Bool} {i j : Nat} (h : (L.setIfInBounds i true).getD j false = false) (hi : i < L.size) : j ≠ i ∧ L.getD j false = false := by
  by_cases e : j = i
  · subst e; rw [getD_set_self hi] at h; cases h
  · refine ⟨e, ?_⟩
    simpa [Array.getElem?_setIfInBounds_ne (Ne.symm e)] using h
theorem rest_sub {L : Array Bool} {i : Nat} (hi : i < L.size) : ∀ it, it ∈ restI ops (L.setIfInBounds i true) → it ∈ restI ops L := by
  intro it hit
  rw [mem_rest] at hit ⊢
  obtain ⟨j, o, h1, h2, h3⟩ := hit
  exact ⟨j, o, h1, (getD_set_of h2 hi).2, h3⟩
theorem bit_keep {i j rn : Nat} (h1 : rn.testBit j = true) (h2 : ancB M j i = false) : (keepB M i rn).testBit j = true := by
  have h2' : (M.getD i 0).testBit j = false := h2
  show (rn ^^^ (rn &&& M.getD i 0)).testBit j = true
  rw [Nat.testBit_xor, Nat.testBit_and, h1, h2']
  rfl
theorem mem_pickB {j rn : Nat} {o : Oper} (h : rn.testBit j = true) (ho : ops[j]? = some o) : o ∈ pickB ops rn := by
  unfold pickB
  refine mem_pickL ho ?_
  rw [List.mem_filter]
  exact ⟨List.mem_range.2 (List.getElem?_eq_some_iff.1 ho).1, h⟩
theorem edges_mem {L : List LS} {s : LS} {i : Nat} {f : Bool} (hs : s ∈ L) (hn : (i, f) ∈ nextsOf tys ops s.listed) : (s, i, f) ∈ edgesOf tys ops L := by
  induction L with
  | nil => cases hs
  | cons a L ih =>
    simp only [edgesOf, catL_eq, List.mem_append, List.mem_map]
    simp only [List.mem_cons] at hs
    rcases hs with rfl | hs
    · exact .inl ⟨(i, f), hn, rfl⟩
    · exact .inr (ih hs)
theorem edges_st {L : List LS} {p : LS → Prop} (h : ∀ s, s ∈ L → p s) : ∀ x, x ∈ edgesOf tys ops L → p x.1 := by
  induction L with
  | nil => intro x hx; cases hx
  | cons a L ih =>
    intro x hx
    simp only [edgesOf, catL_eq, List.mem_append, List.mem_map] at hx
    rcases hx with ⟨q, _, rfl⟩ | hx
    · exact h a (by simp)
    · exact ih (fun s hs => h s (by simp [hs])) x hx
theorem latOk_spec (h : latOk M ops = true) {i j : Nat} {o o' : Oper} {d : Nat} (hj : ops[j]? = some o) (hi : ops[i]? = some o') (hd : o'.dst = some d) (hld : isLoad o.op = true) :
    (i = j ∨ o.dst ≠ some d) ∧ (d ∉ o.looksAt ops.toArray ∨ ancB M i j = true) := by
  unfold latOk at h
  rw [List.all_eq_true] at h
  have h1 := h j (List.mem_range.2 (List.getElem?_eq_some_iff.1 hj).1)
  rw [hj] at h1
  simp only [hld, Bool.not_true, Bool.false_or, List.all_eq_true] at h1
  have h2 := h1 i (List.mem_range.2 (List.getElem?_eq_some_iff.1 hi).1)
  rw [hi] at h2
  simp only [hd, Bool.and_eq_true, Bool.or_eq_true, Bool.not_eq_true', List.contains_eq_mem, decide_eq_false_iff_not] at h2
  refine ⟨?_, h2.2⟩
  rcases h2.1 with h3 | h3
  · exact .inl (Nat.eq_of_beq_eq_true h3)
  · refine .inr fun hh => ?_
    rw [hh] at h3
    simp only at h3
    rw [Nat.beq_refl] at h3; cases h3

theorem lat_R (hT : TyR tys) (hC : CfR φ.top cf cs) (hF : ChF cf) (hanc : ancOk M ops = true) (hlat : latOk M ops = true) {ae0 : AE} {t0 : PT AO} {nx0 : P} {sF : LS} {gF : P} {K' : Env → Mem → Prop} (hnf : ∀ y, φ.free y → ¬ (nx0.num ≤ y.num ∧ ∀ q, hi0 = some q → y.num < q.num)) :
    ∀ (n : Nat) (g : P) (B : Bd) (L : List LS), latN tys cf M ops hi0 n g B L = some (sF, gF) → (∀ s, s ∈ L → St0 ops ae0 t0 s) → BOk hi0 nx0 B g → ∀ s, s ∈ L → s.listed.size = ops.length → DC ops.toArray s.listed →
    ∀ (γ : G) (e : Env) (h : Mem) (RT : List (Nat × Fact)), SI γ φ hi0 s g B e h → (∀ q, q ∈ RT → s.rn.testBit q.1 = true ∧ Pn (ρ := AE × Am) γ ops s.ae e (restI ops s.listed) q) →
    (∀ γ' e' h', G.le γ γ' → HR γ' φ ⟨sF.t, gF, hi0, sF.log⟩ h' → ER γ' sF.ae e' → K' e' h') → TS.denA tys cs M ops n s.listed RT e h K' := by
  intro n
  induction n with
  | zero =>
    intro g B L hx _ _ s hs _ _ γ e h RT hI _ hK
    simp only [latN] at hx
    split at hx
    · rename_i s1
      split at hx
      · rename_i hr
        simp only [Option.some.injEq, Prod.mk.injEq] at hx
        obtain ⟨rfl, rfl⟩ := hx
        simp only [List.mem_singleton] at hs
        subst hs
        simp only [TS.denA, hr]
        exact hK γ e h (.refl γ) hI.hr hI.er
      · cases hx
    · cases hx
  | succ n ih =>
    intro g B L hx hL hB s hs hsz hdc γ e h RT hI hP hK
    simp only [latN] at hx
    split at hx
    · cases hx
    · rename_i hall
      rw [allL_iff] at hall
      split at hx
      · rename_i q hq
        obtain ⟨LE, gE, BE⟩ := q
        simp only at hx
        obtain ⟨_, c2, c3, c4, _, _, c7⟩ := lvlE_ok hF (edgesOf tys ops L) (edges_st hL) (fun s hs => by cases hs) hB hq
        -- one step of the run
        have edge : ∀ (i : Nat) (f : Bool) (o : Oper), (i, f) ∈ nextsOf tys ops s.listed → i ∈ Region.ready .any ops.toArray s.listed → ops[i]? = some o →
            ∃ gc Bc x, stepE tys cf M ops s i f (stepB hi0 gc Bc i).1 (stepB hi0 gc Bc i).2 = some x ∧
              HR γ (φ1 φ γ ⟨s.t, (stepB hi0 gc Bc i).1, (stepB hi0 gc Bc i).2, s.log⟩) ⟨s.t, (stepB hi0 gc Bc i).1, (stepB hi0 gc Bc i).2, s.log⟩ h ∧
              ∀ (γ' : G) (e' : Env) (h' : Mem) (RT' : List (Nat × Fact)), G.le γ γ' → HR γ' (φ1 φ γ ⟨s.t, (stepB hi0 gc Bc i).1, (stepB hi0 gc Bc i).2, s.log⟩) x.2 h' → ER γ' x.1 e' →
                (∀ q, q ∈ RT' → (rnOf ops M i f s.rn).testBit q.1 = true ∧ Pn (ρ := AE × Am) γ' ops x.1 e' (restI ops (s.listed.setIfInBounds i true)) q) →
                TS.denA tys cs M ops n (s.listed.setIfInBounds i true) RT' e' h' K' := by
          intro i f o hn hi ho
          have hil : i < s.listed.size := by rw [hsz]; exact (List.getElem?_eq_some_iff.1 ho).1
          have hnl := not_listed hi
          obtain ⟨gc, Bc, g', B', t, t', d1, d2, d3, d4, d5, d6, d7, d8, d9, d10, d11, d12⟩ := c7 (s, i, f) (edges_mem hs hn)
          obtain ⟨x, x1, x2, x3⟩ := runEdge_cases d1
          obtain ⟨y1, y2⟩ := hI.ctx (i := i) hnl d2 d4 d5
          refine ⟨gc, Bc, x, x1, y2, ?_⟩
          intro γ' e' h' RT' hle hR' he' hP'
          have hch := (stepE_ch hF x1).1
          have htl : t'.listed = s.listed.setIfInBounds i true := by rw [d9, x2]; rfl
          have htr : t'.rn = rnOf ops M i f s.rn := by rw [d10, x2]; rfl
          have hta : ∀ y, eget t'.ae y = eget x.1 y := fun y => by rw [d11, x2]; rfl
          have htt : ∀ p, PT.get t'.t p = PT.get x.2.t p := fun p => by rw [d12, x2]; rfl
          have hSI : SI γ' φ hi0 t' gE BE e' h' := hI.back hil d2 d4 hnf hch x3 d5 d3 c3 d6 d7 htl hta htt hR' he'
          have := ih gE BE LE hx c2 c3 t' d8 (by rw [htl]; simpa using hsz) (by rw [htl]; exact dc_set hdc hi) γ' e' h' RT' hSI (fun q hq => ?_) (fun γ2 e2 h2 hle2 => hK γ2 e2 h2 (hle.trans hle2))
          · rw [htl] at this; exact this
          · obtain ⟨z1, z2⟩ := hP' q hq
            rw [htr, htl]
            exact ⟨z1, z2.congr hta⟩
        -- pending loads behind a step
        have pstep : ∀ (i : Nat) (o : Oper) {γ' : G} {e' : Env} {av : AV} {v : Value} {q : Nat × Fact}, ops[i]? = some o → i ∈ Region.ready .any ops.toArray s.listed → G.le γ γ' → (∀ t, t < 16383 → Env.get e' t = Env.get e t) → q ∈ RT →
            Pn (ρ := AE × Am) γ' ops (bindE o.dst av s.ae) (TS.bindE o.dst v e') (restI ops (s.listed.setIfInBounds i true)) q := by
          intro i o γ' e' av v q ho hi hle hs' hq
          have hil : i < s.listed.size := by rw [hsz]; exact (List.getElem?_eq_some_iff.1 ho).1
          exact (hP q hq).2.step2 (it := ⟨o, false, []⟩) hle hs' (mem_rest.2 ⟨i, o, ho, not_listed hi, rfl⟩) (rest_sub hil)
        simp only [TS.denA]
        split
        · -- a quiet one
          rename_i i hi
          have hn : (i, false) ∈ nextsOf tys ops s.listed := by
            unfold nextsOf
            split
            · rename_i i2 hi2
              have : i2 = i := Option.some.inj (hi2.symm.trans hi)
              subst this; simp
            · rename_i hi2; exact absurd (hi2.symm.trans hi) (by simp)
          have hir : i ∈ Region.ready .any ops.toArray s.listed := List.mem_of_find?_eq_some hi
          split
          · rename_i ho
            have := hall s hs
            obtain ⟨gc, Bc, g', B', t, t', d1, _⟩ := c7 (s, i, false) (edges_mem hs hn)
            obtain ⟨x, x1, _⟩ := runEdge_cases d1
            unfold stepE at x1
            rw [ho] at x1
            cases x1
          · rename_i o ho
            obtain ⟨gc, Bc, x, x1, x2, x3⟩ := edge i false o hn hir ho
            unfold stepE at x1
            rw [ho] at x1
            simp only [] at x1
            obtain ⟨e', b, hs', hx1, hg, hg2⟩ := grd_R hI.er x1
            have he' := hI.er.same hs'
            rw [hg]
            have hil : i < s.listed.size := by rw [hsz]; exact (List.getElem?_eq_some_iff.1 ho).1
            have sub : ∀ {j : Nat}, s.rn.testBit j = true → (rnOf ops M i false s.rn).testBit j = true := by
              intro j hj
              unfold rnOf
              simp only [ho]
              cases isLoad o.op with
              | true =>
                show (s.rn ||| 2 ^ i).testBit j = true
                rw [Nat.testBit_or, hj]; rfl
              | false => exact hj
            cases b with
            | false =>
              simp only [Option.some.injEq] at hx1
              subst hx1
              exact x3 γ _ h RT (.refl γ) x2 (he'.bind _ vUndef) (fun q hq => ⟨sub (hP q hq).1, pstep i o ho hir (.refl γ) hs' hq⟩)
            | true =>
              simp only [] at hx1 ⊢
              refine still_R hT x2 he' hx1 fun a v hav hx2 => ?_
              simp only [Option.some.injEq] at hx2
              subst hx2
              refine x3 γ _ h _ (.refl γ) x2 (he'.bind _ hav) ?_
              intro q hq
              cases hld : isLoad o.op with
              | false => rw [hld] at hq; exact ⟨sub (hP q hq).1, pstep i o ho hir (.refl γ) hs' hq⟩
              | true =>
                rw [hld] at hq
                simp only [List.mem_cons] at hq
                rcases hq with rfl | hq
                · refine ⟨?_, Pn.newload ho hld he' hx1 hav hg2 ?_ ?_⟩
                  · unfold rnOf
                    simp only [ho, hld]
                    show (s.rn ||| 2 ^ i).testBit i = true
                    rw [Nat.testBit_or, Nat.testBit_two_pow_self]; simp
                  · intro d2 hd2
                    rcases (latOk_spec hlat ho ho hd2 hld).2 with h1 | h1
                    · exact h1
                    · exfalso
                      have hdi := anc_in hanc hdc i o ho (by
                        obtain ⟨_, o', ho', hall'⟩ := mem_ready.1 hir
                        have : ops[i]? = some o' := by simpa using ho'
                        rw [ho] at this; cases this
                        exact hall') i (List.getElem?_eq_some_iff.1 ho).1 h1
                      rw [not_listed hir] at hdi; cases hdi
                  · intro it hit d2 hd2
                    rw [mem_rest] at hit
                    obtain ⟨k, o2, k1, k2, rfl⟩ := hit
                    obtain ⟨k3, k4⟩ := getD_set_of k2 hil
                    obtain ⟨l1, l2⟩ := latOk_spec hlat ho k1 hd2 hld
                    refine ⟨l1.resolve_left k3, ?_⟩
                    rcases l2 with h1 | h1
                    · exact h1
                    · exfalso
                      have hdi := anc_in hanc hdc i o ho (by
                        obtain ⟨_, o', ho', hall'⟩ := mem_ready.1 hir
                        have : ops[i]? = some o' := by simpa using ho'
                        rw [ho] at this; cases this
                        exact hall') k (List.getElem?_eq_some_iff.1 k1).1 h1
                      rw [k4] at hdi; cases hdi
                · exact ⟨sub (hP q hq).1, pstep i o ho hir (.refl γ) hs' hq⟩
        · -- what may write
          rename_i hi
          have hnx : nextsOf tys ops s.listed = (Region.ready .any ops.toArray s.listed).map fun i => (i, true) := by
            unfold nextsOf
            split
            · rename_i i2 hi2; exact absurd (hi2.symm.trans hi) (by simp)
            · rfl
          split
          · rename_i hr
            exfalso
            have := hall s hs
            rw [hnx, hr] at this
            cases this
          · refine allP_of fun i hir => ?_
            have hn : (i, true) ∈ nextsOf tys ops s.listed := by rw [hnx]; exact List.mem_map.2 ⟨i, hir, rfl⟩
            split
            · rename_i ho
              obtain ⟨gc, Bc, g', B', t, t', d1, _⟩ := c7 (s, i, true) (edges_mem hs hn)
              obtain ⟨x, x1, _⟩ := runEdge_cases d1
              unfold stepE at x1
              rw [ho] at x1
              cases x1
            · rename_i o ho
              obtain ⟨gc, Bc, x, x1, x2, x3⟩ := edge i true o hn hir ho
              unfold stepE at x1
              rw [ho] at x1
              simp only [] at x1
              obtain ⟨e', b, hs', hx1, hg, hg2⟩ := grd_R hI.er x1
              have he' := hI.er.same hs'
              rw [hg]
              have kp : ∀ q, q ∈ keepR M i RT → (rnOf ops M i true s.rn).testBit q.1 = true ∧ q ∈ RT := by
                intro q hq
                obtain ⟨j, f⟩ := q
                obtain ⟨q1, q2⟩ := mem_keep hq
                exact ⟨bit_keep (hP _ q1).1 q2, q1⟩
              cases b with
              | false =>
                simp only [Option.some.injEq] at hx1
                subst hx1
                exact x3 γ _ h _ (.refl γ) x2 (he'.bind _ vUndef) (fun q hq => ⟨(kp q hq).1, pstep i o ho hir (.refl γ) hs' (kp q hq).2⟩)
              | true =>
                simp only [] at hx1 ⊢
                split at hx1
                · rename_i hst
                  rw [hst]
                  refine still_R hT x2 he' hx1 fun a v hav hx2 => ?_
                  simp only [Option.some.injEq] at hx2
                  subst hx2
                  exact x3 γ _ h _ (.refl γ) x2 (he'.bind _ hav) (fun q hq => ⟨(kp q hq).1, pstep i o ho hir (.refl γ) hs' (kp q hq).2⟩)
                · rename_i hst
                  rw [hst]
                  have hC1 : CfR (φ1 φ γ { t := s.t, nx := (stepB hi0 gc Bc i).fst, hi := (stepB hi0 gc Bc i).snd, log := s.log }).top cf cs := hC
                  refine eff_R hT hC1 x2 he' hx1 fun γ' a v H' h' hle hR' hav hx2 => ?_
                  obtain ⟨hx3, hag⟩ := againL_ok hx2
                  simp only [Option.some.injEq] at hx3
                  subst hx3
                  refine facts_of (fun q hq => ?_) (x3 γ' _ h' _ hle hR' ((he'.mono hle).bind _ hav) (fun q hq => ⟨(kp q hq).1, pstep i o ho hir hle hs' (kp q hq).2⟩))
                  obtain ⟨k1, k2⟩ := kp q hq
                  have hp := (hP q k2).2
                  obtain ⟨o2, t2, x2', v2, A2, m1, m2⟩ := hp
                  obtain ⟨K0, hK0⟩ := hag o2 (mem_pickB k1 m1)
                  exact Pn.fact hT hR' (hI.er.mono hle) (Pn.mono hle (hP q k2).2) m1 hK0
      · cases hx
theorem denJ_R {ρ : Type} {r : ρ} (hT : TyR tys) (hC : CfR φ.top cf cs) (hF : ChF cf) {γ : G} {ae : AE} {ads : List ADef} {H : Am} {e : Env} {ds : List Deferred} {h : Mem} {K : Rg ρ} {K' : TS.Rg} (hR : HR γ φ H h) (he : ER γ ae e) (hd : DsR γ ads ds)
    (hx : denJ tys cf M ops ae ads H K = some r) (hK : RgR γ φ r K K') : TS.denA tys cs M ops ops.length (Array.replicate ops.length false) [] e h fun e h => K' e ds h := by
  unfold denJ at hx
  split at hx
  · cases hx
  · rename_i hok
    rw [Bool.and_eq_true] at hok
    split at hx
    · rename_i q hq
      obtain ⟨sF, gF⟩ := q
      have hdc : DC ops.toArray (Array.replicate ops.length false) := by
        intro i o _ hl
        rw [show (Array.replicate ops.length false).getD i false = false by by_cases h : i < ops.length <;> simp [h]] at hl
        cases hl
      refine lat_R (φ := φ) (nx0 := H.nx) (ae0 := ae) (t0 := H.t) hT hC hF hok.1 hok.2 (fun y hy => (hR.free y hy).2) ops.length H.nx [] _ hq ?_ (Nat.le_refl _) ⟨Array.replicate ops.length false, 0, ae, H.t, []⟩ (by simp) (by simp) hdc γ e h [] ?_ (fun q hq => by cases hq) ?_
      · intro s hs
        simp only [List.mem_singleton] at hs
        subst hs
        exact ⟨fun _ _ => rfl, fun _ _ => rfl⟩
      · exact ⟨⟨hR.dom, hR.band, hR.free, hR.obj, hR.inj, hR.far, hR.le0, hR.stat⟩, he, fun q hq => by cases hq⟩
      · intro γ' e' h' hle hR' he'
        exact hK γ' _ _ ⟨sF.t, gF, H.hi, catL sF.log H.log⟩ _ _ _ hle ⟨hR'.dom, hR'.band, hR'.free, hR'.obj, hR'.inj, hR'.far, hR'.le0, hR'.stat⟩ he' (hd.mono hle) hx
    · cases hx
end
end Go.XS
