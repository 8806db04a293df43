/- The layer 'XS': a run lays no name but those of its log. -/
import Derived.Test.YtmcpegdmnogkbaaGreatDoorXsSound
set_option linter.unusedSimpArgs false
set_option linter.unusedVariables false
namespace Go.XS
open Go Go.TS

theorem Ch.refl (H : Am) : Ch H H := ⟨fun _ h => h, fun _ _ => rfl, rfl, Nat.le_refl _⟩
theorem Ch.trans {H H1 H2 : Am} (h : Ch H H1) (h' : Ch H1 H2) : Ch H H2 :=
  ⟨fun b hb => h'.1 b (h.1 b hb), fun b hb => (h'.2.1 b hb).trans (h.2.1 b fun hh => hb (h'.1 b hh)), h'.2.2.1.trans h.2.2.1, Nat.le_trans h.2.2.2 h'.2.2.2⟩
theorem Ch.put (H : Am) (b : P) (o : AO) : Ch H (H.put b o) := by
  refine ⟨fun c hc => by simp [Am.put, hc], fun c hc => ?_, rfl, Nat.le_refl _⟩
  have hne : c ≠ b := fun e => hc (by simp [Am.put, e])
  show (PT.put H.t b o).get c = _
  rw [get_put, if_neg hne]; rfl
theorem Ch.del (H : Am) (b : P) : Ch H (H.del b) := by
  refine ⟨fun c hc => by simp [Am.del, hc], fun c hc => ?_, rfl, Nat.le_refl _⟩
  have hne : c ≠ b := fun e => hc (by simp [Am.del, e])
  show (PT.del H.t b).get c = _
  rw [get_del, if_neg hne]; rfl
theorem Ch.new (H : Am) (o : AO) : Ch H (H.new o) := by
  refine ⟨fun c hc => by simp [Am.new, hc], fun c hc => ?_, rfl, ?_⟩
  · have hne : c ≠ H.nx := fun e => hc (by simp [Am.new, e])
    show (PT.put H.t H.nx o).get c = _
    rw [get_put, if_neg hne]; rfl
  · show H.nx.num ≤ H.nx.succ.num
    rw [num_succ]; omega
theorem none_some {α : Type} {r : α} {p : Prop} (h : (none : Option α) = some r) : p := by cases h
section
variable {H : Am} {ρ : Type} {r : ρ} {tys : Tys} {ae : AE} {cf : CF} {dcf : Nat → XCall}

theorem natI_inv {i : Int} {K : Nat → Option ρ} (h : natI i K = some r) : ∃ n, K n = some r := let ⟨n, _, h⟩ := natI_eq h; ⟨n, h⟩
theorem sN_inv {i : Nat} {K : Nat → Option ρ} (h : sN i K = some r) : ∃ n, K n = some r := by rw [sN_eq] at h; exact ⟨_, h⟩
theorem sI_inv {i : Int} {K : Int → Option ρ} (h : sI i K = some r) : ∃ n, K n = some r := by rw [sI_eq] at h; exact ⟨_, h⟩
theorem kI_inv {k : IntKind} {i : Int} {K : AV → Option ρ} (h : kI k i K = some r) : ∃ n, K n = some r := by rw [kI_eq] at h; exact ⟨_, h⟩
theorem nn_inv {p : Option Ad} {K : Ad → Option ρ} (h : nn p K = some r) : ∃ n, K n = some r := by
  cases p with
  | none => cases h
  | some a => exact ⟨a, h⟩
theorem nm_inv {p : Option P} {K : P → Option ρ} (h : nm p K = some r) : ∃ n, K n = some r := by
  cases p with
  | none => cases h
  | some a => exact ⟨a, h⟩
theorem ifB_inv {c : Bool} {A B : Option ρ} (h : ifB c A B = some r) : A = some r ∨ B = some r := by
  cases c with
  | true => exact .inl h
  | false => exact .inr h
theorem evL_inv : ∀ {l : List Operand} {K : List AV → Option ρ}, evL ae l K = some r → ∃ vs, K vs = some r := by
  intro l
  induction l with
  | nil => intro K h; exact ⟨[], h⟩
  | cons x l ih =>
    intro K h
    have h' : withV ae x (fun v => evL ae l fun vs => K (v :: vs)) = some r := h
    obtain ⟨v, h'⟩ := withV_inv h'
    obtain ⟨vs, h'⟩ := ih h'
    exact ⟨_, h'⟩
theorem slC_inv {s : As} {n : Nat} {K : Cs → Option ρ} (h : slC H s n K = some r) : ∃ c, K c = some r := by
  unfold slC at h
  repeat' first | exact none_some h | exact ⟨_, h⟩ | (have hq := cellsOf_inv h; obtain ⟨_, h⟩ := hq) | (split at h)
theorem kcOf_inv {t : TypeId} {K : KeyC → Option ρ} (h : kcOf tys t K = some r) : ∃ c, K c = some r := by
  unfold kcOf at h
  repeat' first | exact none_some h | exact ⟨_, h⟩ | (split at h)
theorem codeL_inv : ∀ (ks : List IntKind) (l : List AV) (K : Nat → Option ρ), codeL ks l K = some r → ∃ c, K c = some r := by
  intro ks
  induction ks with
  | nil =>
    intro l K h
    cases l with
    | nil => exact ⟨_, h⟩
    | cons _ _ => simp only [codeL] at h; cases h
  | cons k ks ih =>
    intro l K h
    cases l with
    | nil => simp only [codeL] at h; cases h
    | cons v l =>
      cases v <;> (try (simp only [codeL] at h; cases h; done))
      rename_i k' a
      cases a with
      | negSucc _ => simp only [codeL] at h; cases h
      | ofNat n =>
        simp only [codeL] at h
        split at h
        · split at h
          · split at h
            · obtain ⟨_, h⟩ := ih l _ h
              exact ⟨_, h⟩
            · cases h
          · cases h
        · cases h
theorem codeA_inv {kc : KeyC} {v : AV} {K : Int → Option ρ} (h : codeA kc v K = some r) : ∃ c, K c = some r := by
  unfold codeA at h
  repeat' first | exact none_some h | (have hq := sN_inv h; obtain ⟨_, h⟩ := hq) | (have hq := codeL_inv _ _ _ h; obtain ⟨_, h⟩ := hq) | exact ⟨_, h⟩ | (split at h)
theorem mapOf_inv {p : P} {K : KeyC → Option Kind → List (Int × AV) → Option ρ} (h : mapOf H p K = some r) : ∃ a b c, K a b c = some r := by
  unfold mapOf at h
  repeat' first | exact none_some h | exact ⟨_, _, _, h⟩ | (split at h)
theorem cutB_inv {s : As} {lo sz : Nat} {K : Option Ad → Option ρ} (h : cutB s lo sz K = some r) : ∃ c, K c = some r := by
  unfold cutB at h
  repeat' first | exact none_some h | exact ⟨_, h⟩ | (have hq := sN_inv h; obtain ⟨_, h⟩ := hq) | (split at h)
theorem slc_inv {s : As} {lo hi : Int} {sz : Nat} {K : As → Option ρ} (h : slc s lo hi sz K = some r) : ∃ c, K c = some r := by
  unfold slc at h
  repeat' first | exact none_some h | exact ⟨_, h⟩ | (have hq := natI_inv h; obtain ⟨_, h⟩ := hq) | (have hq := sN_inv h; obtain ⟨_, h⟩ := hq) | (have hq := cutB_inv h; obtain ⟨_, h⟩ := hq) | (split at h)
theorem slc3_inv {s : As} {lo hi mx : Int} {sz : Nat} {K : As → Option ρ} (h : slc3 s lo hi mx sz K = some r) : ∃ c, K c = some r := by
  unfold slc3 at h
  repeat' first | exact none_some h | exact ⟨_, h⟩ | (have hq := natI_inv h; obtain ⟨_, h⟩ := hq) | (have hq := sN_inv h; obtain ⟨_, h⟩ := hq) | (split at h)
theorem slcA_inv {a : Ad} {n : Nat} {lo hi : Int} {sz : Nat} {K : As → Option ρ} (h : slcA a n lo hi sz K = some r) : ∃ c, K c = some r := by
  unfold slcA at h
  repeat' first | exact none_some h | exact ⟨_, h⟩ | (have hq := natI_inv h; obtain ⟨_, h⟩ := hq) | (have hq := sN_inv h; obtain ⟨_, h⟩ := hq) | (split at h)
theorem ixS_inv {s : As} {i : Int} {sz : Nat} {K : Ad → Option ρ} (h : ixS s i sz K = some r) : ∃ c, K c = some r := by
  unfold ixS at h
  repeat' first | exact none_some h | exact ⟨_, h⟩ | (have hq := sN_inv h; obtain ⟨_, h⟩ := hq) | (split at h)
theorem ixA_inv {a : Ad} {n : Nat} {i : Int} {sz : Nat} {K : Ad → Option ρ} (h : ixA a n i sz K = some r) : ∃ c, K c = some r := by
  unfold ixA at h
  repeat' first | exact none_some h | exact ⟨_, h⟩ | (have hq := sN_inv h; obtain ⟨_, h⟩ := hq) | (split at h)
theorem ldStr_inv {s : As} {K : At → Option ρ} (h : ldStr s H K = some r) : ∃ c, K c = some r := by
  obtain ⟨c, h⟩ := slC_inv h
  repeat' first | exact none_some h | exact ⟨_, h⟩ | (split at h)
theorem bnd_inv {d : Int} {o : Option Operand} {K : Int → Option ρ} (h : bnd ae d o K = some r) : ∃ c, K c = some r := by
  unfold bnd at h
  repeat' first | exact none_some h | exact ⟨_, h⟩ | (have hq := withV_inv h; obtain ⟨_, h⟩ := hq) | (split at h)
theorem fillA_inv {place : Nat → Option (Nat × Nat)} : ∀ (ps : List (Nat × Operand)) {c : List AV} {vs : List AV} {K : List AV → Option ρ}, fillA place ps c vs K = some r → ∃ c, K c = some r := by
  intro ps
  induction ps with
  | nil => intro c vs K h; exact ⟨_, h⟩
  | cons p ps ih =>
    intro c vs K h
    cases vs with
    | nil => exact ⟨_, h⟩
    | cons v vs =>
      have h' : (match place p.1 with
        | some q => match putPart c q.1 q.2 v with
          | some c => fillA place ps c vs K
          | none => none
        | none => none) = some r := h
      split at h'
      · split at h'
        · exact ih h'
        · cases h'
      · cases h'
theorem eqv_inv {op : BinOp} {b : Bool} {K : AV → Option ρ} (h : eqv op b K = some r) : ∃ v, K v = some r := by
  unfold eqv at h
  repeat' first | exact none_some h | exact ⟨_, h⟩ | (split at h)
theorem strB_inv {op : BinOp} {a b : At} {K : AV → Option ρ} (h : strB op a b K = some r) : ∃ v, K v = some r := by
  unfold strB at h
  split at h
  · split at h
    · exact ⟨_, h⟩
    · cases h
  · exact eqv_inv h
theorem binI_inv {op : BinOp} {k : IntKind} {a b : Int} {K : AV → Option ρ} (h : binI op k a b K = some r) : ∃ v, K v = some r := by
  unfold binI at h
  repeat' first | exact none_some h | exact ⟨_, h⟩ | (have hq := kI_inv h; obtain ⟨_, h⟩ := hq) | (split at h)
theorem bin_inv {op : BinOp} {t : TypeId} {x y : AV} {K : AV → Option ρ} (h : bin tys op t x y K = some r) : ∃ v, K v = some r := by
  unfold bin at h
  split at h
  · split at h
    · unfold shI at h
      repeat' first | exact none_some h | exact ⟨_, h⟩ | (have hq := natI_inv h; obtain ⟨_, h⟩ := hq) | (have hq := kI_inv h; obtain ⟨_, h⟩ := hq) | exact binI_inv h | exact strB_inv h | (split at h)
    · cases h
  all_goals (repeat' first | exact none_some h | exact ⟨_, h⟩ | exact eqv_inv h | exact strB_inv h | (split at h))
theorem still_inv {op : Op} {K : AV → Option ρ} (h : still tys ae H op K = some r) : ∃ v, K v = some r := by
  cases op with
  | move x => exact withV_inv (x := x) h
  | assign x => exact withV_inv (x := x) h
  | pick c a b =>
    have h : sPick ae c a b K = some r := h
    obtain ⟨v, h⟩ := withV_inv h
    split at h
    · rcases ifB_inv h with h | h
      · exact withV_inv (x := a) h
      · exact withV_inv (x := b) h
    · cases h
  | build t ps =>
    have h : sBuild tys ae t ps K = some r := h
    obtain ⟨v, h⟩ := evL_inv h
    repeat' first | exact none_some h | (have hq := fillA_inv _ h; obtain ⟨_, h⟩ := hq; exact ⟨_, h⟩) | (split at h)
  | load t x => exact sLoad_inv h
  | nilCheck x =>
    have h : sNil tys ae x K = some r := h
    obtain ⟨v, h⟩ := withV_inv h
    repeat' first | exact none_some h | (have hq := nn_inv h; obtain ⟨_, h⟩ := hq; exact ⟨_, h⟩) | exact ⟨_, h⟩ | (unfold sNilM at h) | (split at h)
  | binOp op t x y t' =>
    obtain ⟨a, h⟩ := withV_inv (x := x) h
    obtain ⟨b, h⟩ := withV_inv (x := y) h
    exact bin_inv h
  | unOp op t x =>
    have h : sUn ae op x K = some r := h
    obtain ⟨v, h⟩ := withV_inv h
    repeat' first | exact none_some h | exact ⟨_, h⟩ | (have hq := kI_inv h; obtain ⟨_, h⟩ := hq) | (split at h)
  | convert src dst x =>
    have h : sConv tys ae H src dst x K = some r := h
    obtain ⟨v, h⟩ := withV_inv h
    repeat' first | exact none_some h | exact ⟨_, h⟩ | (have hq := kI_inv h; obtain ⟨_, h⟩ := hq) | (have hq := ldStr_inv h; obtain ⟨_, h⟩ := hq) | (split at h)
  | slice t x lo hi mx =>
    have h : sSlice tys ae t x lo hi mx K = some r := h
    obtain ⟨v, h⟩ := withV_inv h
    repeat' first | exact none_some h | exact ⟨_, h⟩ | (have hq := bnd_inv h; obtain ⟨_, h⟩ := hq) | (have hq := withV_inv h; obtain ⟨_, h⟩ := hq) | (have hq := slc_inv h; obtain ⟨_, h⟩ := hq) | (have hq := slc3_inv h; obtain ⟨_, h⟩ := hq) | (have hq := slcA_inv h; obtain ⟨_, h⟩ := hq) | (have hq := natI_inv h; obtain ⟨_, h⟩ := hq) | (split at h)
  | fieldAddr t x f =>
    have h : sFieldAddr tys ae t x f K = some r := h
    obtain ⟨v, h⟩ := withV_inv h
    repeat' first | exact none_some h | exact ⟨_, h⟩ | (have hq := sN_inv h; obtain ⟨_, h⟩ := hq) | (split at h)
  | field t x f =>
    have h : sField tys ae t x f K = some r := h
    obtain ⟨v, h⟩ := withV_inv h
    repeat' first | exact none_some h | exact ⟨_, h⟩ | (split at h)
  | indexAddr t x i =>
    have h : sIndexAddr tys ae t x i K = some r := h
    obtain ⟨v, h⟩ := withV_inv h
    obtain ⟨w, h⟩ := withV_inv h
    repeat' first | exact none_some h | exact ⟨_, h⟩ | (have hq := ixS_inv h; obtain ⟨_, h⟩ := hq) | (have hq := ixA_inv h; obtain ⟨_, h⟩ := hq) | (split at h)
  | index t x i =>
    have h : sIndex tys ae t x i K = some r := h
    obtain ⟨v, h⟩ := withV_inv h
    obtain ⟨w, h⟩ := withV_inv h
    repeat' first | exact none_some h | exact ⟨_, h⟩ | (have hq := natI_inv h; obtain ⟨_, h⟩ := hq) | (split at h)
  | lookup t x k ok =>
    have h : sLookup tys ae H t x k ok K = some r := h
    obtain ⟨v, h⟩ := withV_inv h
    obtain ⟨w, h⟩ := withV_inv h
    repeat' first | exact none_some h | exact ⟨_, h⟩ | (have hq := kcOf_inv h; obtain ⟨_, h⟩ := hq) | (have hq := codeA_inv h; obtain ⟨_, h⟩ := hq) | (have hq := nm_inv h; obtain ⟨_, h⟩ := hq) | (have hq := mapOf_inv h; obtain ⟨_, _, _, h⟩ := hq) | (split at h)
  | extract x i =>
    have h : sExtract ae x i K = some r := h
    obtain ⟨v, h⟩ := withV_inv h
    repeat' first | exact none_some h | exact ⟨_, h⟩ | (split at h)
  | sliceToArrayPointer t x =>
    have h : sToArr tys ae t x K = some r := h
    obtain ⟨v, h⟩ := withV_inv h
    repeat' first | exact none_some h | exact ⟨_, h⟩ | (split at h)
  | makeInterface t x =>
    have h : sMkI tys ae t x K = some r := h
    obtain ⟨v, h⟩ := withV_inv h
    repeat' first | exact none_some h | exact ⟨_, h⟩ | (split at h)
  | typeAssert x xt t ok =>
    have h : sTA tys ae x t ok K = some r := h
    obtain ⟨v, h⟩ := withV_inv h
    repeat' first | exact none_some h | exact ⟨_, h⟩ | (split at h)
  | makeFunc fn first cap =>
    have h : sMakeFunc ae fn first cap K = some r := h
    obtain ⟨v, h⟩ := evL_inv h
    obtain ⟨w, h⟩ := evL_inv h
    exact ⟨_, h⟩
  | call c =>
    obtain ⟨callee, args, ts⟩ := c
    cases callee with
    | builtin b =>
      have h : sCallB tys ae H b args.toList ts.toList K = some r := h
      unfold sCallB at h
      split at h
      · unfold sLen at h
        repeat' first | exact none_some h | exact ⟨_, h⟩ | (have hq := withV_inv h; obtain ⟨_, h⟩ := hq) | (have hq := kcOf_inv h; obtain ⟨_, h⟩ := hq) | (have hq := codeA_inv h; obtain ⟨_, h⟩ := hq) | (have hq := nm_inv h; obtain ⟨_, h⟩ := hq) | (have hq := mapOf_inv h; obtain ⟨_, _, _, h⟩ := hq) | (split at h)
      · unfold sCap at h
        repeat' first | exact none_some h | exact ⟨_, h⟩ | (have hq := withV_inv h; obtain ⟨_, h⟩ := hq) | (split at h)
      · unfold sMn at h
        repeat' first | exact none_some h | exact ⟨_, h⟩ | (have hq := withV_inv h; obtain ⟨_, h⟩ := hq) | (split at h)
      · unfold sMn at h
        repeat' first | exact none_some h | exact ⟨_, h⟩ | (have hq := withV_inv h; obtain ⟨_, h⟩ := hq) | (split at h)
      · cases h
    | _ => cases h
  | _ => cases h

-- what lays memory
theorem st_ch {a : Ad} {v : AV} {K : Am → Option ρ} (h : st a v H K = some r) : ∃ H', Ch H H' ∧ K H' = some r := by
  obtain ⟨c, h⟩ := cellsOf_inv h
  split at h
  · exact ⟨_, Ch.put _ _ _, h⟩
  · cases h
theorem stL_ch : ∀ (vs : List AV) {H : Am} {a : Ad} (i : Nat) {K : Am → Option ρ}, stL vs a i H K = some r → ∃ H', Ch H H' ∧ K H' = some r := by
  intro vs
  induction vs with
  | nil => intro H a i K h; exact ⟨H, .refl H, h⟩
  | cons v vs ih =>
    intro H a i K h
    have h' : st (a.add i) v H (fun h => stL vs a (Nat.succ i) h K) = some r := h
    obtain ⟨H1, c1, h'⟩ := st_ch h'
    obtain ⟨H2, c2, h'⟩ := ih _ h'
    exact ⟨H2, c1.trans c2, h'⟩
theorem stA_ch {d : Cs} {a : Ad} {K : Am → Option ρ} (h : stA d a H K = some r) : ∃ H', Ch H H' ∧ K H' = some r := by
  obtain ⟨c, h⟩ := cellsOf_inv h
  split at h
  · exact ⟨_, Ch.put _ _ _, h⟩
  · cases h
theorem al_ch {o : AO} {K : P → Am → Option ρ} (h : al o H K = some r) : ∃ b H', Ch H H' ∧ K b H' = some r := by
  obtain ⟨_, h⟩ := al_in h
  exact ⟨_, _, Ch.new _ _, h⟩
theorem appC_ch {sz bytes : Nat} {s : As} {x : Cs} {n : Nat} {K : As → Am → Option ρ} (h : appC sz bytes s x n H K = some r) : ∃ s' H', Ch H H' ∧ K s' H' = some r := by
  unfold appC at h
  obtain ⟨l, h⟩ := sN_inv h
  repeat' first | exact none_some h | exact ⟨_, _, .refl _, h⟩ | (have hq := stA_ch h; obtain ⟨_, c, h⟩ := hq; exact ⟨_, _, c, h⟩) | (have hq := slC_inv h; obtain ⟨_, h⟩ := hq) | (have hq := cellsOf_inv h; obtain ⟨_, h⟩ := hq) | (have hq := al_ch h; obtain ⟨_, _, c, h⟩ := hq; first | exact ⟨_, _, c, h⟩ | exact ⟨_, _, (Ch.del _ _).trans c, h⟩) | (split at h)
theorem app_ch {sz bytes : Nat} {s x : As} {K : As → Am → Option ρ} (h : app sz bytes s x H K = some r) : ∃ s' H', Ch H H' ∧ K s' H' = some r := by
  obtain ⟨c, h⟩ := slC_inv h
  split at h
  · exact appC_ch h
  · cases h
theorem app0_ch {z : List AV} {sz bytes : Nat} {s : As} {n : Int} {K : As → Am → Option ρ} (h : app0 z sz bytes s n H K = some r) : ∃ s' H', Ch H H' ∧ K s' H' = some r := by
  unfold app0 at h
  obtain ⟨c, h⟩ := natI_inv h
  repeat' first | exact none_some h | exact appC_ch h | (split at h)
theorem cpy_ch {sz : Nat} {d x : As} {K : Nat → Am → Option ρ} (h : cpy sz d x H K = some r) : ∃ s' H', Ch H H' ∧ K s' H' = some r := by
  unfold cpy at h
  obtain ⟨c, h⟩ := sN_inv h
  repeat' first | exact none_some h | exact ⟨_, _, .refl _, h⟩ | (have hq := stA_ch h; obtain ⟨_, c, h⟩ := hq; exact ⟨_, _, c, h⟩) | (have hq := slC_inv h; obtain ⟨_, h⟩ := hq) | (split at h)
theorem clr_ch {z : List AV} {s : As} {K : Am → Option ρ} (h : clr z s H K = some r) : ∃ H', Ch H H' ∧ K H' = some r := by
  unfold clr at h
  repeat' first | exact none_some h | exact ⟨_, .refl _, h⟩ | exact stA_ch h | (split at h)
theorem mks_ch {z : List AV} {sz bytes : Nat} {n c : Int} {K : As → Am → Option ρ} (h : mks z sz bytes n c H K = some r) : ∃ s' H', Ch H H' ∧ K s' H' = some r := by
  unfold mks at h
  repeat' first | exact none_some h | (have hq := natI_inv h; obtain ⟨_, h⟩ := hq) | (have hq := al_ch h; obtain ⟨_, _, c, h⟩ := hq; exact ⟨_, _, c, h⟩) | (split at h)
structure ChF (cf : CF) : Prop where
  fn : Ch1 cf.fn
  it : ∀ Y, ChY Y → Ch1 (cf.it Y)
  ys : ChY cf.ys
theorem eff_ch (hC : ChF cf) {op : Op} {K : AV → Am → Option ρ} (h : eff tys cf ae H op K = some r) : ∃ v H', Ch H H' ∧ K v H' = some r := by
  cases op with
  | alloc t =>
    have h : eAlloc tys t H K = some r := h
    unfold eAlloc at h
    repeat' first | exact none_some h | (have hq := al_ch h; obtain ⟨_, _, c, h⟩ := hq; exact ⟨_, _, c, h⟩) | (split at h)
  | box t x =>
    have h : eBox ae x H K = some r := h
    obtain ⟨v, h⟩ := withV_inv h
    obtain ⟨_, _, c, h⟩ := al_ch h
    exact ⟨_, _, c, h⟩
  | buildSlice t n ps =>
    have h : eBuildSlice tys ae t n ps H K = some r := h
    obtain ⟨v, h⟩ := evL_inv h
    repeat' first | exact none_some h | (have hq := fillA_inv _ h; obtain ⟨_, h⟩ := hq) | (have hq := al_ch h; obtain ⟨_, _, c, h⟩ := hq; exact ⟨_, _, c, h⟩) | (split at h)
  | store t p x =>
    have h : eStore tys ae t p x H K = some r := h
    obtain ⟨v, h⟩ := withV_inv h
    obtain ⟨w, h⟩ := withV_inv h
    repeat' first | exact none_some h | (have hq := st_ch h; obtain ⟨_, c, h⟩ := hq; exact ⟨_, _, c, h⟩) | (have hq := stL_ch _ _ h; obtain ⟨_, c, h⟩ := hq; exact ⟨_, _, c, h⟩) | (have hq := stA_ch h; obtain ⟨_, c, h⟩ := hq; exact ⟨_, _, c, h⟩) | (split at h)
  | makeSlice t l c =>
    have h : eMakeSlice tys ae t l c H K = some r := h
    obtain ⟨v, h⟩ := withV_inv h
    obtain ⟨w, h⟩ := withV_inv h
    repeat' first | exact none_some h | (have hq := mks_ch h; obtain ⟨_, _, c, h⟩ := hq; exact ⟨_, _, c, h⟩) | (split at h)
  | makeMap t o => cases o with
    | none =>
      have h : eMakeMap tys t H K = some r := h
      unfold eMakeMap at h
      repeat' first | exact none_some h | (have hq := al_ch h; obtain ⟨_, _, c, h⟩ := hq; exact ⟨_, _, c, h⟩) | (have hq := kcOf_inv h; obtain ⟨_, h⟩ := hq) | (split at h)
    | some _ => cases h
  | mapUpdate t m k v =>
    have h : eMapUpdate tys ae t m k v H K = some r := h
    obtain ⟨a1, h⟩ := withV_inv h
    obtain ⟨a2, h⟩ := withV_inv h
    obtain ⟨a3, h⟩ := withV_inv h
    repeat' first | exact none_some h | exact ⟨_, _, Ch.put _ _ _, h⟩ | (have hq := kcOf_inv h; obtain ⟨_, h⟩ := hq) | (have hq := codeA_inv h; obtain ⟨_, h⟩ := hq) | (have hq := nm_inv h; obtain ⟨_, h⟩ := hq) | (have hq := mapOf_inv h; obtain ⟨_, _, _, h⟩ := hq) | (split at h)
  | insert t m k v =>
    have h : eMapUpdate tys ae t m k v H K = some r := h
    obtain ⟨a1, h⟩ := withV_inv h
    obtain ⟨a2, h⟩ := withV_inv h
    obtain ⟨a3, h⟩ := withV_inv h
    repeat' first | exact none_some h | exact ⟨_, _, Ch.put _ _ _, h⟩ | (have hq := kcOf_inv h; obtain ⟨_, h⟩ := hq) | (have hq := codeA_inv h; obtain ⟨_, h⟩ := hq) | (have hq := nm_inv h; obtain ⟨_, h⟩ := hq) | (have hq := mapOf_inv h; obtain ⟨_, _, _, h⟩ := hq) | (split at h)
  | convert src dst x =>
    have h : eFrz tys ae src dst x H K = some r := h
    obtain ⟨a1, h⟩ := withV_inv h
    repeat' first | exact none_some h | exact ⟨_, _, .refl _, h⟩ | (have hq := cellsOf_inv h; obtain ⟨_, h⟩ := hq) | (have hq := al_ch h; obtain ⟨_, _, c, h⟩ := hq; exact ⟨_, _, c, h⟩) | (split at h)
  | call c =>
    obtain ⟨callee, args, ts⟩ := c
    cases callee with
    | value f =>
      obtain ⟨a, h⟩ := withV_inv (x := f) h
      obtain ⟨ags, h⟩ := evL_inv h
      split at h
      · split at h
        · rename_i q hq; exact ⟨_, _, hC.fn _ _ _ _ hq, h⟩
        · cases h
      · split at h
        · rename_i y hy
          split at h
          · rename_i q hq; exact ⟨_, _, hC.ys _ _ hy _ _ _ hq, h⟩
          · cases h
        · cases h
      · cases h
    | invoke x name =>
      have h : eInvoke tys cf ae x name args.toList H K = some r := h
      obtain ⟨a, h⟩ := withV_inv h
      obtain ⟨ags, h⟩ := evL_inv h
      split at h
      · split at h
        · split at h
          · rename_i q hq; exact ⟨_, _, hC.fn _ _ _ _ hq, h⟩
          · cases h
        · cases h
      · cases h
    | builtin b =>
      obtain ⟨ags, h⟩ := evL_inv (l := args.toList) h
      unfold eCallB at h
      split at h
      · split at h
        · split at h
          · unfold eAppend at h
            repeat' first | exact none_some h | (have hq := app_ch h; obtain ⟨_, _, c, h⟩ := hq; exact ⟨_, _, c, h⟩) | (have hq := app0_ch h; obtain ⟨_, _, c, h⟩ := hq; exact ⟨_, _, c, h⟩) | (split at h)
          · cases h
        · cases h
      · split at h
        · split at h
          · unfold eCopy at h
            repeat' first | exact none_some h | (have hq := cpy_ch h; obtain ⟨_, _, c, h⟩ := hq; exact ⟨_, _, c, h⟩) | (split at h)
          · cases h
        · cases h
      · split at h
        · split at h
          · unfold eClear at h
            repeat' first | exact none_some h | (have hq := clr_ch h; obtain ⟨_, c, h⟩ := hq; exact ⟨_, _, c, h⟩) | exact ⟨_, _, Ch.put _ _ _, h⟩ | (have hq := kcOf_inv h; obtain ⟨_, h⟩ := hq) | (have hq := codeA_inv h; obtain ⟨_, h⟩ := hq) | (have hq := nm_inv h; obtain ⟨_, h⟩ := hq) | (have hq := mapOf_inv h; obtain ⟨_, _, _, h⟩ := hq) | (split at h)
          · cases h
        · cases h
      · cases h
  | _ => cases h
theorem doOp_ch (hC : ChF cf) {o : Oper} {ads : List ADef} {K : Rg ρ} (h : doOp tys cf o ae ads H K = some r) : ∃ ae' ads' H', Ch H H' ∧ K ae' ads' H' = some r := by
  unfold doOp at h
  split at h
  · obtain ⟨a, h⟩ := withV_inv h
    obtain ⟨ags, h⟩ := evL_inv h
    split at h
    · exact ⟨_, _, _, .refl _, h⟩
    · cases h
  · split at h
    · obtain ⟨v, h⟩ := still_inv h
      exact ⟨_, _, _, .refl _, h⟩
    · obtain ⟨v, H', c, h⟩ := eff_ch hC h
      exact ⟨_, _, _, c, h⟩
theorem denL_ch (hC : ChF cf) {all : List Oper} : ∀ (l : List Oper) {ae : AE} {ads : List ADef} {H : Am} {K : Rg ρ}, denL tys cf all l ae ads H K = some r → ∃ ae' ads' H', Ch H H' ∧ K ae' ads' H' = some r := by
  intro l
  induction l with
  | nil => intro ae ads H K h; exact ⟨_, _, _, .refl _, h⟩
  | cons o l ih =>
    intro ae ads H K h
    have h' : (grd all o ae fun w => match w with
      | false => denL tys cf all l (bindE o.dst undefA ae) ads H K
      | true => doOp tys cf o ae ads H fun e ds h => denL tys cf all l e ds h K) = some r := h
    obtain ⟨b, h'⟩ := grd_inv h'
    cases b with
    | false => exact ih h'
    | true =>
      obtain ⟨ae1, ads1, H1, c1, h'⟩ := doOp_ch hC h'
      obtain ⟨ae2, ads2, H2, c2, h'⟩ := ih h'
      exact ⟨ae2, ads2, H2, c1.trans c2, h'⟩
theorem denI_ch (hC : ChF cf) {all : List Oper} : ∀ (l : List It) {ae : AE} {ads : List ADef} {H : Am} {K : Rg ρ}, denI tys cf all l ae ads H K = some r → ∃ ae' ads' H', Ch H H' ∧ K ae' ads' H' = some r := by
  intro l
  induction l with
  | nil => intro ae ads H K h; exact ⟨_, _, _, .refl _, h⟩
  | cons i l ih =>
    intro ae ads H K h
    have h' : (grd all i.o ae fun w => match w with
      | false => denI tys cf all l (bindE i.o.dst undefA ae) ads H K
      | true => match i.eff with
        | false => still tys ae H i.o.op fun v => denI tys cf all l (bindE i.o.dst v ae) ads H K
        | true => match isStill i.o.op && !isFreeze tys i.o.op with
          | true => still tys ae H i.o.op fun v => denI tys cf all l (bindE i.o.dst v ae) ads H K
          | false => eff tys cf ae H i.o.op fun v h => againL tys all i.re ae h (denI tys cf all l (bindE i.o.dst v ae) ads h K)) = some r := h
    obtain ⟨b, h'⟩ := grd_inv h'
    cases b with
    | false => exact ih h'
    | true =>
      simp only [] at h'
      split at h'
      · obtain ⟨v, h'⟩ := still_inv h'; exact ih h'
      · split at h'
        · obtain ⟨v, h'⟩ := still_inv h'; exact ih h'
        · obtain ⟨v, H1, c1, h'⟩ := eff_ch hC h'
          obtain ⟨ae2, ads2, H2, c2, h'⟩ := ih (againL_ok h').1
          exact ⟨ae2, ads2, H2, c1.trans c2, h'⟩
end
end Go.XS
