/- The layer 'XS': regions in which several operations may come first. -/
import Derived.Test.YtmcpegdmnogkbaaGreatDoorXsFrame
set_option linter.unusedSimpArgs false
set_option linter.unusedVariables false
namespace Go.XS
open Go Go.TS

section
variable {φ : Fx} {ρ : Type} {r : ρ} {tys : Tys} {cf : CF} {cs : Calls'} {M : List Nat} {ops : List Oper} {hi0 : Option P}

/-- bands of names, the last first -/
def BOk (hi : Option P) (nx : P) : Bd → P → Prop
  | [], g => nx.num ≤ g.num
  | q :: B, g => q.2.1.num ≤ q.2.2.num ∧ q.2.2.num ≤ g.num ∧ hiOk q.2.2 hi = true ∧ BOk hi nx B q.2.1
theorem BOk.mono {nx g g' : P} : ∀ {B : Bd}, BOk hi0 nx B g → g.num ≤ g'.num → BOk hi0 nx B g' := by
  intro B
  cases B with
  | nil => intro h h'; simp only [BOk] at h ⊢; omega
  | cons q B => intro h h'; simp only [BOk] at h ⊢; exact ⟨h.1, by omega, h.2.2⟩
theorem BOk.le {nx g : P} : ∀ {B : Bd}, BOk hi0 nx B g → nx.num ≤ g.num := by
  intro B
  induction B generalizing g with
  | nil => intro h; exact h
  | cons q B ih => intro h; simp only [BOk] at h; have := ih h.2.2.2; omega
theorem BOk.mem {nx g : P} : ∀ {B : Bd} {q : Nat × P × P}, BOk hi0 nx B g → q ∈ B → nx.num ≤ q.2.1.num ∧ q.2.1.num ≤ q.2.2.num ∧ q.2.2.num ≤ g.num ∧ hiOk q.2.2 hi0 = true := by
  intro B
  induction B generalizing g with
  | nil => intro q h hq; cases hq
  | cons p B ih =>
    intro q h hq
    simp only [BOk] at h
    simp only [List.mem_cons] at hq
    rcases hq with rfl | hq
    · exact ⟨h.2.2.2.le, h.1, h.2.1, h.2.2.1⟩
    · have := ih h.2.2.2 hq
      exact ⟨this.1, this.2.1, by omega, this.2.2.2⟩
theorem BOk.apart {nx g : P} : ∀ {B : Bd} {q q' : Nat × P × P}, BOk hi0 nx B g → q ∈ B → q' ∈ B → q = q' ∨ q.2.2.num ≤ q'.2.1.num ∨ q'.2.2.num ≤ q.2.1.num := by
  intro B
  induction B generalizing g with
  | nil => intro q q' h hq; cases hq
  | cons p B ih =>
    intro q q' h hq hq'
    simp only [BOk] at h
    simp only [List.mem_cons] at hq hq'
    rcases hq with rfl | hq
    · rcases hq' with rfl | hq'
      · exact .inl rfl
      · exact .inr (.inr (h.2.2.2.mem hq').2.2.1)
    · rcases hq' with rfl | hq'
      · exact .inr (.inl (h.2.2.2.mem hq).2.2.1)
      · exact ih h.2.2.2 hq hq'
theorem lookB_mem {i : Nat} {q : P × P} : ∀ {B : Bd}, lookB B i = some q → (i, q) ∈ B := by
  intro B
  induction B with
  | nil => intro h; cases h
  | cons p B ih =>
    intro h
    have h' : (match Nat.beq p.1 i with | true => some p.2 | false => lookB B i) = some q := h
    split at h'
    · rename_i hb
      rw [beq_iff] at hb
      cases h'
      obtain ⟨a, b⟩ := p
      simp only at hb; subst hb; simp
    · exact List.mem_cons_of_mem _ (ih h')
theorem allL_iff {α : Type} {f : α → Bool} {l : List α} : allL l f = true ↔ ∀ a, a ∈ l → f a = true := by
  induction l with
  | nil => simp [allL]
  | cons a l ih =>
    have : allL (a :: l) f = match f a with | true => allL l f | false => false := rfl
    rw [this]
    cases h : f a with
    | true => simp [ih, h]
    | false => simp [h]
theorem eqCs_eq {a b : Cs} (h : eqCs a b = true) : a = b := by
  unfold eqCs at h
  split at h
  · split at h
    · rw [eqVL_eq h]
    · cases h
  · split at h
    · split at h
      · rename_i h1; rw [beq_iff] at h1 h; rw [h1, h]
      · cases h
    · cases h
theorem eqML_eq : ∀ {a b : List (Int × AV)}, eqML a b = true → a = b := by
  intro a
  induction a with
  | nil => intro b h; cases b with
    | nil => rfl
    | cons _ _ => cases h
  | cons x a ih =>
    intro b h
    cases b with
    | nil => cases h
    | cons y b =>
      have h' : (match iEq x.1 y.1 with
        | true => match eqV0 x.2 y.2 with
          | true => eqML a b
          | false => false
        | false => false) = true := h
      split at h'
      · rename_i h1
        split at h'
        · rename_i h2
          rw [iEq_iff] at h1
          have h3 := eqV0_eq h2
          obtain ⟨x1, x2⟩ := x
          obtain ⟨y1, y2⟩ := y
          simp only at h1 h3
          rw [h1, h3, ih h']
        · cases h'
      · cases h'
theorem eqO_eq {a b : Option AO} (h : eqO a b = true) : a = b := by
  unfold eqO at h
  split at h
  · split at h
    · rfl
    · cases h
  · split at h
    · rw [eqCs_eq h]
    · cases h
  · split at h
    · split at h
      · rename_i h1
        split at h
        · rename_i h2
          rw [kcEq_iff] at h1
          rw [h1, mkEq_eq h2, eqML_eq h]
        · cases h
      · cases h
    · cases h
  · split at h
    · split at h
      · rename_i a _ b _ h1
        have h1' : a.st = b.st := by
          unfold stEq at h1
          split at h1 <;> first | (cases h1; done) | (rename_i e1 e2; rw [e1, e2])
        have h2' : a.pend = b.pend := by
          unfold jpEq at h
          split at h
          · rename_i e1 e2; rw [e1, e2]
          · rename_i e1 e2; rw [e1, e2]
          · rename_i e1 e2; rw [e1, e2, beq_iff.1 h]
          · cases h
        cases a; cases b; simp only at h1' h2'; rw [h1', h2']
      · cases h
    · cases h
  · split at h
    · rfl
    · cases h
theorem eqAOp_eq {a b : Option AV} (h : eqAOp a b = true) : a = b := by
  unfold eqAOp at h
  split at h
  · rfl
  · rw [eqV_eq h]
  · cases h
/-- what each state that is reached has -/
def St0 (ops : List Oper) (ae0 : AE) (t0 : PT AO) (s : LS) : Prop := (∀ x, x ∉ dstsOf ops → eget s.ae x = eget ae0 x) ∧ (∀ b, b ∉ s.log → PT.get s.t b = PT.get t0 b)
theorem eqLS_spec {ae0 : AE} {t0 : PT AO} {a b : LS} (ha : St0 ops ae0 t0 a) (hb : St0 ops ae0 t0 b) (h : eqLS ops a b = true) : a.rn = b.rn ∧ (∀ x, eget a.ae x = eget b.ae x) ∧ (∀ p, PT.get a.t p = PT.get b.t p) := by
  unfold eqLS at h
  split at h
  · rename_i h1
    split at h
    · rename_i h2
      split at h
      · rename_i h3
        rw [beq_iff] at h1
        rw [allL_iff] at h2 h3 h
        refine ⟨h1, fun x => ?_, fun p => ?_⟩
        · by_cases hx : x ∈ dstsOf ops
          · exact eqAOp_eq (h2 x hx)
          · rw [ha.1 x hx, hb.1 x hx]
        · by_cases hp : p ∈ a.log
          · exact eqO_eq (h3 p hp)
          · by_cases hq : p ∈ b.log
            · exact eqO_eq (h p hq)
            · rw [ha.2 p hp, hb.2 p hq]
      · cases h
    · cases h
  · cases h
theorem mem_dsts {o : Oper} {d : Nat} : ∀ {ops : List Oper}, o ∈ ops → o.dst = some d → d ∈ dstsOf ops := fun h hd => dst_mem h d hd
theorem stepE_ch (hC : ChF cf) {s : LS} {i : Nat} {f : Bool} {nx : P} {hi : Option P} {x : AE × Am} (h : stepE tys cf M ops s i f nx hi = some x) :
    Ch ⟨s.t, nx, hi, s.log⟩ x.2 ∧ (∀ y, y ∉ dstsOf ops → eget x.1 y = eget s.ae y) := by
  unfold stepE at h
  split at h
  · cases h
  · rename_i o ho
    have hb : ∀ v y, y ∉ dstsOf ops → eget (bindE o.dst v s.ae) y = eget s.ae y := by
      intro v y hy
      cases hd : o.dst with
      | none => rfl
      | some d =>
        have : y ≠ d := fun e => hy (e ▸ mem_dsts (List.mem_of_getElem? ho) hd)
        exact eget_put_ne s.ae this
    obtain ⟨b, h⟩ := grd_inv h
    cases b with
    | false => cases h; exact ⟨.refl _, hb _⟩
    | true =>
      simp only [] at h
      split at h
      · obtain ⟨v, h⟩ := still_inv h; cases h; exact ⟨.refl _, hb _⟩
      · split at h
        · obtain ⟨v, h⟩ := still_inv h; cases h; exact ⟨.refl _, hb _⟩
        · obtain ⟨v, H', c, h⟩ := eff_ch hC h
          have := (againL_ok h).1
          cases this
          exact ⟨c, hb _⟩
theorem runEdge_ok (hC : ChF cf) {ae0 : AE} {t0 : PT AO} {nx0 : P} {s t : LS} {i : Nat} {f : Bool} {g g' : P} {B B' : Bd} (hs : St0 ops ae0 t0 s) (hB : BOk hi0 nx0 B g) (h : runEdge tys cf M ops hi0 s i f g B = some (t, g', B')) :
    St0 ops ae0 t0 t ∧ BOk hi0 nx0 B' g' ∧ g.num ≤ g'.num ∧ (∀ q, q ∈ B → q ∈ B') ∧ (∀ q, q ∈ B' → q ∈ B ∨ g.num ≤ q.2.1.num) := by
  have st : ∀ {nx : P} {hi : Option P} {x : AE × Am}, stepE tys cf M ops s i f nx hi = some x → St0 ops ae0 t0 (nextLS ops M s i f x) ∧ nx.num ≤ x.2.nx.num := by
    intro nx hi x hx
    obtain ⟨c, e⟩ := stepE_ch hC hx
    refine ⟨⟨fun y hy => (e y hy).trans (hs.1 y hy), fun b hb => ?_⟩, c.2.2.2⟩
    have h1 : x.2.get b = PT.get s.t b := c.2.1 b hb
    have h2 : b ∉ s.log := fun hh => hb (c.1 b hh)
    exact h1.trans (hs.2 b h2)
  unfold runEdge at h
  split at h
  · rename_i q hq
    split at h
    · rename_i x hx
      simp only [Option.some.injEq, Prod.mk.injEq] at h
      obtain ⟨rfl, rfl, rfl⟩ := h
      exact ⟨(st hx).1, hB, Nat.le_refl _, fun _ h => h, fun _ h => .inl h⟩
    · cases h
  · split at h
    · rename_i x hx
      split at h
      · rename_i hh
        simp only [Option.some.injEq, Prod.mk.injEq] at h
        obtain ⟨rfl, rfl, rfl⟩ := h
        have h1 := (st hx).2
        refine ⟨(st hx).1, ⟨h1, Nat.le_refl _, hh, hB⟩, h1, fun _ h => by simp [h], fun q hq => ?_⟩
        simp only [List.mem_cons] at hq
        rcases hq with rfl | hq
        · exact .inr (Nat.le_refl _)
        · exact .inl hq
      · cases h
    · cases h
theorem insS_ok {ae0 : AE} {t0 : PT AO} {t : LS} (ht : St0 ops ae0 t0 t) : ∀ {L L' : List LS}, (∀ s, s ∈ L → St0 ops ae0 t0 s) → insS ops t L = some L' → (∀ s, s ∈ L → s ∈ L') ∧ (∀ s, s ∈ L' → St0 ops ae0 t0 s) ∧
    ∃ t', t' ∈ L' ∧ t'.listed = t.listed ∧ t'.rn = t.rn ∧ (∀ x, eget t'.ae x = eget t.ae x) ∧ (∀ p, PT.get t'.t p = PT.get t.t p) := by
  intro L
  induction L with
  | nil =>
    intro L' _ h
    cases h
    exact ⟨fun s hs => (by cases hs), fun s hs => (by simp at hs; rw [hs]; exact ht), t, by simp, rfl, rfl, fun _ => rfl, fun _ => rfl⟩
  | cons s L ih =>
    intro L' hL h
    simp only [insS] at h
    split at h
    · rename_i hl
      split at h
      · rename_i he
        cases h
        obtain ⟨h1, h2, h3⟩ := eqLS_spec (hL s (by simp)) ht he
        exact ⟨fun _ h => h, hL, s, by simp, Array.ext' (of_decide_eq_true hl), h1, h2, h3⟩
      · cases h
    · split at h
      · rename_i L2 hL2
        cases h
        obtain ⟨h1, h2, t', h3, h4⟩ := ih (fun s hs => hL s (by simp [hs])) hL2
        refine ⟨fun x hx => ?_, fun x hx => ?_, t', by simp [h3], h4⟩
        · simp only [List.mem_cons] at hx ⊢
          rcases hx with rfl | hx
          · exact .inl rfl
          · exact .inr (h1 x hx)
        · simp only [List.mem_cons] at hx
          rcases hx with rfl | hx
          · exact hL _ (by simp)
          · exact h2 x hx
      · cases h
theorem lvlE_ok (hC : ChF cf) {ae0 : AE} {t0 : PT AO} {nx0 : P} : ∀ (E : List (LS × Nat × Bool)) {g gE : P} {B BE : Bd} {L LE : List LS}, (∀ x, x ∈ E → St0 ops ae0 t0 x.1) → (∀ s, s ∈ L → St0 ops ae0 t0 s) → BOk hi0 nx0 B g → lvlE tys cf M ops hi0 E g B L = some (LE, gE, BE) →
    (∀ s, s ∈ L → s ∈ LE) ∧ (∀ s, s ∈ LE → St0 ops ae0 t0 s) ∧ BOk hi0 nx0 BE gE ∧ g.num ≤ gE.num ∧ (∀ q, q ∈ B → q ∈ BE) ∧ (∀ q, q ∈ BE → q ∈ B ∨ g.num ≤ q.2.1.num) ∧
    ∀ x, x ∈ E → ∃ gc Bc g' B' t t', runEdge tys cf M ops hi0 x.1 x.2.1 x.2.2 gc Bc = some (t, g', B') ∧ g.num ≤ gc.num ∧ g'.num ≤ gE.num ∧ BOk hi0 nx0 Bc gc ∧ (∀ q, q ∈ Bc → q ∈ B ∨ g.num ≤ q.2.1.num) ∧ (∀ q, q ∈ B' → q ∈ BE) ∧ (∀ q, q ∈ BE → q ∈ B' ∨ g'.num ≤ q.2.1.num) ∧
      t' ∈ LE ∧ t'.listed = t.listed ∧ t'.rn = t.rn ∧ (∀ x, eget t'.ae x = eget t.ae x) ∧ (∀ p, PT.get t'.t p = PT.get t.t p) := by
  intro E
  induction E with
  | nil =>
    intro g gE B BE L LE _ hL hB h
    simp only [lvlE, Option.some.injEq, Prod.mk.injEq] at h
    obtain ⟨rfl, rfl, rfl⟩ := h
    exact ⟨fun _ h => h, hL, hB, Nat.le_refl _, fun _ h => h, fun _ h => .inl h, fun x hx => by cases hx⟩
  | cons x E ih =>
    intro g gE B BE L LE hE hL hB h
    simp only [lvlE] at h
    split at h
    · rename_i q hq
      obtain ⟨t, g1, B1⟩ := q
      split at h
      · rename_i L1 hL1
        obtain ⟨a1, a2, a3, a4, a5⟩ := runEdge_ok hC (hE x (by simp)) hB hq
        obtain ⟨b1, b2, t', b3, b4, b5, b6, b7⟩ := insS_ok a1 hL hL1
        obtain ⟨c1, c2, c3, c4, c5, c6, c7⟩ := ih (fun y hy => hE y (by simp [hy])) b2 a2 h
        refine ⟨fun s hs => c1 s (b1 s hs), c2, c3, by omega, fun q hq => c5 q (a4 q hq), fun q hq => ?_, fun y hy => ?_⟩
        · rcases c6 q hq with hq | hq
          · exact a5 q hq
          · exact .inr (by omega)
        · simp only [List.mem_cons] at hy
          rcases hy with rfl | hy
          · exact ⟨g, B, g1, B1, t, t', hq, Nat.le_refl _, c4, hB, fun q hq => .inl hq, c5, c6, c1 t' b3, b4, b5, b6, b7⟩
          · obtain ⟨gc, Bc, g', B', u, u', d1, d2, d3, d4, d5, d6⟩ := c7 y hy
            refine ⟨gc, Bc, g', B', u, u', d1, by omega, d3, d4, fun q hq => ?_, d6⟩
            rcases d5 q hq with hq | hq
            · exact a5 q hq
            · exact .inr (by omega)
      · cases h
    · cases h
/-- a state stands for memory -/
structure SI (γ : G) (φ : Fx) (hi : Option P) (s : LS) (g : P) (B : Bd) (e : Env) (h : Mem) : Prop where
  hr : HR γ φ ⟨s.t, g, hi, s.log⟩ h
  er : ER γ s.ae e
  free : ∀ q, q ∈ B → s.listed.getD q.1 false = false → ∀ x : P, q.2.1.num ≤ x.num → x.num < q.2.2.num → γ x = none
/-- the band in which an operation takes its names -/
noncomputable def stepB (hi0 : Option P) (gc : P) (Bc : Bd) (i : Nat) : P × Option P := match lookB Bc i with
  | some q => (q.1, some q.2)
  | none => (gc, hi0)
def φ1 (φ : Fx) (γ : G) (H : Am) : Fx := ⟨φ.far, fun y => γ y = none ∧ ¬ inB H y, φ.top⟩
theorem hi_in {e : P} {x : P} (h : hiOk e hi0 = true) (hx : x.num < e.num) : ∀ q, hi0 = some q → x.num < q.num := by
  intro q hq
  subst hq
  simp only [hiOk, ble_iff] at h
  omega
theorem SI.ctx {γ : G} {s : LS} {g0 gc nx0 : P} {B0 Bc : Bd} {i : Nat} {e : Env} {h : Mem} (hs : SI γ φ hi0 s g0 B0 e h) (hi : s.listed.getD i false = false) (hg : g0.num ≤ gc.num) (hB : BOk hi0 nx0 Bc gc) (hb : ∀ q, q ∈ Bc → q ∈ B0 ∨ g0.num ≤ q.2.1.num) :
    (∀ y, inB ⟨s.t, (stepB hi0 gc Bc i).1, (stepB hi0 gc Bc i).2, s.log⟩ y → γ y = none) ∧
    HR γ (φ1 φ γ ⟨s.t, (stepB hi0 gc Bc i).1, (stepB hi0 gc Bc i).2, s.log⟩) ⟨s.t, (stepB hi0 gc Bc i).1, (stepB hi0 gc Bc i).2, s.log⟩ h := by
  have hband : ∀ y, inB ⟨s.t, (stepB hi0 gc Bc i).1, (stepB hi0 gc Bc i).2, s.log⟩ y → γ y = none := by
    intro y hy
    unfold stepB at hy
    split at hy
    · rename_i q hq
      have hm := lookB_mem hq
      have h1 : q.1.num ≤ y.num := hy.1
      have h2 : y.num < q.2.num := hy.2 q.2 rfl
      rcases hb _ hm with h3 | h3
      · exact hs.free _ h3 hi y h1 h2
      · have h3' : g0.num ≤ q.1.num := h3
        exact hs.hr.band y ⟨by show g0.num ≤ y.num; omega, hi_in (hB.mem hm).2.2.2 h2⟩
    · have h1 : gc.num ≤ y.num := hy.1
      exact hs.hr.band y ⟨by show g0.num ≤ y.num; omega, hy.2⟩
  exact ⟨hband, hs.hr.dom, hband, fun b hb => hb, hs.hr.obj, hs.hr.inj, hs.hr.far, hs.hr.le0, hs.hr.stat⟩
theorem runEdge_cases {s t : LS} {i : Nat} {f : Bool} {gc g' : P} {Bc B' : Bd} (h : runEdge tys cf M ops hi0 s i f gc Bc = some (t, g', B')) :
    ∃ x, stepE tys cf M ops s i f (stepB hi0 gc Bc i).1 (stepB hi0 gc Bc i).2 = some x ∧ t = nextLS ops M s i f x ∧
      ((∃ q, lookB Bc i = some q ∧ g' = gc ∧ B' = Bc) ∨ (lookB Bc i = none ∧ g' = x.2.nx ∧ B' = (i, gc, g') :: Bc ∧ hiOk g' hi0 = true)) := by
  unfold runEdge at h
  unfold stepB
  split at h
  · rename_i q hq
    rw [hq]
    simp only []
    split at h
    · rename_i x hx
      simp only [Option.some.injEq, Prod.mk.injEq] at h
      obtain ⟨rfl, rfl, rfl⟩ := h
      exact ⟨x, hx, rfl, .inl ⟨q, rfl, rfl, rfl⟩⟩
    · cases h
  · rename_i hq
    rw [hq]
    simp only []
    split at h
    · rename_i x hx
      split at h
      · rename_i hh
        simp only [Option.some.injEq, Prod.mk.injEq] at h
        obtain ⟨rfl, rfl, rfl⟩ := h
        exact ⟨x, hx, rfl, .inr ⟨by trivial, rfl, rfl, hh⟩⟩
      · cases h
    · cases h
theorem SI.back {γ γ' : G} {s t : LS} {g0 gc g' gE nx0 : P} {B0 Bc B' BE : Bd} {i : Nat} {e e' : Env} {h h' : Mem} {x : AE × Am} (hs : SI γ φ hi0 s g0 B0 e h) (hil : i < s.listed.size) (hg : g0.num ≤ gc.num) (hB : BOk hi0 nx0 Bc gc)
    (hnf : ∀ y, φ.free y → ¬ (nx0.num ≤ y.num ∧ ∀ q, hi0 = some q → y.num < q.num))
    (hch : Ch ⟨s.t, (stepB hi0 gc Bc i).1, (stepB hi0 gc Bc i).2, s.log⟩ x.2)
    (hcase : (∃ q, lookB Bc i = some q ∧ g' = gc ∧ B' = Bc) ∨ (lookB Bc i = none ∧ g' = x.2.nx ∧ B' = (i, gc, g') :: Bc ∧ hiOk g' hi0 = true))
    (hb : ∀ q, q ∈ Bc → q ∈ B0 ∨ g0.num ≤ q.2.1.num) (hgE : g'.num ≤ gE.num) (hBE : BOk hi0 nx0 BE gE)
    (hsub : ∀ q, q ∈ B' → q ∈ BE) (hnew : ∀ q, q ∈ BE → q ∈ B' ∨ g'.num ≤ q.2.1.num)
    (hl : t.listed = s.listed.setIfInBounds i true) (hae : ∀ y, eget t.ae y = eget x.1 y) (ht : ∀ p, PT.get t.t p = PT.get x.2.t p)
    (hR : HR γ' (φ1 φ γ ⟨s.t, (stepB hi0 gc Bc i).1, (stepB hi0 gc Bc i).2, s.log⟩) x.2 h') (he : ER γ' x.1 e') : SI γ' φ hi0 t gE BE e' h' := by
  -- the band that was taken
  have hgc : gc.num ≤ g'.num := by
    rcases hcase with ⟨q, h1, h2, h3⟩ | ⟨h1, h2, h3, h4⟩
    · rw [h2]; exact Nat.le_refl _
    · rw [h2]
      have := hch.2.2.2
      unfold stepB at this
      rw [h1] at this
      exact this
  -- a name that was free and lies in no part of the band stays free
  have stays : ∀ y : P, γ y = none → (∀ q, lookB Bc i = some q → ¬ (q.1.num ≤ y.num ∧ y.num < q.2.num)) → (lookB Bc i = none → ¬ (gc.num ≤ y.num ∧ ∀ q, hi0 = some q → y.num < q.num) ∨ (g'.num ≤ y.num ∧ ∀ q, hi0 = some q → y.num < q.num)) → γ' y = none := by
    intro y hy h1 h2
    rcases hcase with ⟨q, a1, a2, a3⟩ | ⟨a1, a2, a3, a4⟩
    · refine (hR.free y ⟨hy, fun hin => ?_⟩).1
      unfold stepB at hin
      rw [a1] at hin
      exact h1 q a1 ⟨hin.1, hin.2 q.2 rfl⟩
    · rcases h2 a1 with h3 | ⟨h3, h4⟩
      · refine (hR.free y ⟨hy, fun hin => ?_⟩).1
        unfold stepB at hin
        rw [a1] at hin
        exact h3 ⟨hin.1, hin.2⟩
      · refine hR.band y ⟨by rw [← a2]; exact h3, fun q hq => h4 q ?_⟩
        have h5 := hch.2.2.1
        unfold stepB at h5
        rw [a1] at h5
        have h6 : x.2.hi = hi0 := h5
        rw [← h6]; exact hq
  have hin0 : ∀ y : P, g0.num ≤ y.num → (∀ q, hi0 = some q → y.num < q.num) → γ y = none := fun y h1 h2 => hs.hr.band y ⟨h1, h2⟩
  refine ⟨⟨hR.dom, ?_, ?_, ?_, ?_, ?_, hR.le0, hR.stat⟩, ?_, ?_⟩
  · intro y hy
    have h1 : gE.num ≤ y.num := hy.1
    have h2 : ∀ q, hi0 = some q → y.num < q.num := hy.2
    refine stays y (hin0 y (by omega) h2) (fun q hq hh => ?_) (fun _ => .inr ⟨by omega, h2⟩)
    have := (hB.mem (lookB_mem hq)).2.2.1
    have h3 : q.2.num ≤ gc.num := this
    omega
  · intro y hy
    have h1 := (hs.hr.free y hy).1
    have h2 := hnf y hy
    refine ⟨stays y h1 (fun q hq hh => h2 ?_) (fun hn => ?_), fun hin => h2 ?_⟩
    · have hm := hB.mem (lookB_mem hq)
      have m1 : nx0.num ≤ q.1.num := hm.1
      exact ⟨by omega, hi_in hm.2.2.2 hh.2⟩
    · refine .inl fun h3 => h2 ⟨?_, h3.2⟩
      have := hB.le
      omega
    · have h3 : gE.num ≤ y.num := hin.1
      exact ⟨by have := hBE.le; omega, hin.2⟩
  · intro b o hb
    have hb' : x.2.get b = some o := (ht b).symm.trans hb
    exact hR.obj b o hb'
  · intro b b' o o' Bk N N' h1 h2
    exact hR.inj b b' o o' Bk N N' ((ht b).symm.trans h1) ((ht b').symm.trans h2)
  · intro Bk ob hφ
    obtain ⟨h1, h2⟩ := hR.far Bk ob hφ
    exact ⟨h1, fun b o N hb => h2 b o N ((ht b).symm.trans hb)⟩
  · intro y a hy
    rw [hae] at hy
    exact he y a hy
  · intro q hq hlq y h1 h2
    have hne : q.1 ≠ i := by
      intro e
      rw [hl, e] at hlq
      simp [hil] at hlq
    have hls : s.listed.getD q.1 false = false := by
      rw [hl] at hlq
      simpa [Array.getElem?_setIfInBounds_ne (Ne.symm hne)] using hlq
    have hmE := hBE.mem hq
    have hγ : γ y = none := by
      rcases hnew q hq with h3 | h3
      · have h4 : q ∈ Bc ∨ q = (i, gc, g') := by
          rcases hcase with ⟨_, _, _, a3⟩ | ⟨_, _, a3, _⟩
          · rw [a3] at h3; exact .inl h3
          · rw [a3] at h3; simp only [List.mem_cons] at h3; exact h3.symm
        rcases h4 with h4 | h4
        · rcases hb q h4 with h5 | h5
          · exact hs.free q h5 hls y h1 h2
          · exact hin0 y (by omega) (hi_in hmE.2.2.2 h2)
        · exact absurd (by rw [h4]) hne
      · exact hin0 y (by omega) (hi_in hmE.2.2.2 h2)
    refine stays y hγ (fun p hp hh => ?_) (fun hn => ?_)
    · have hpE : (i, p) ∈ BE := by
        refine hsub _ ?_
        rcases hcase with ⟨_, _, _, a3⟩ | ⟨a1, _, _, _⟩
        · rw [a3]; exact lookB_mem hp
        · rw [a1] at hp; cases hp
      rcases hBE.apart hq hpE with h3 | h3 | h3
      · exact hne (by rw [h3])
      · have h3' : q.2.2.num ≤ p.1.num := h3
        omega
      · have h3' : p.2.num ≤ q.2.1.num := h3
        omega
    · rcases hcase with ⟨_, a1, _, _⟩ | ⟨_, _, a3, _⟩
      · rw [a1] at hn; cases hn
      · have hpE : (i, gc, g') ∈ BE := hsub _ (by rw [a3]; simp)
        rcases hBE.apart hq hpE with h3 | h3 | h3
        · exact absurd (by rw [h3]) hne
        · have h3' : q.2.2.num ≤ gc.num := h3
          exact .inl fun h5 => by omega
        · have h3' : g'.num ≤ q.2.1.num := h3
          exact .inr ⟨by omega, hi_in hmE.2.2.2 h2⟩
end
end Go.XS
