/- The layer 'XS': append, copy, clear, make, maps. -/
import Derived.Test.YtmcpegdmnogkbaaGreatDoorXsSl
set_option linter.unusedSimpArgs false
set_option linter.unusedVariables false
namespace Go.XS
open Go Go.TS

section
variable {γ : G} {φ : Fx} {H : Am} {h : Mem} {ρ : Type} {r : ρ}

theorem zeroCells_R {z : List AV} {zero : Array Value} (hz : VRL γ z zero.toList) (n : Nat) : VRL γ (repL n z) (Builtin.zeroCells zero n).toList := by
  have hl := hz.len
  simp at hl
  refine VRL.of_get (by rw [len_repL, hl]; simp [Builtin.zeroCells]) ?_
  intro i a ha
  by_cases h0 : 0 < z.length
  · have hi : i < n * z.length := by
      rw [← len_repL]
      rcases Nat.lt_or_ge i (repL n z).length with h' | h'
      · exact h'
      · rw [List.getElem?_eq_none h'] at ha; cases ha
    rw [get_repL z h0 n i hi] at ha
    obtain ⟨v, hv, hr⟩ := hz.get ha
    refine ⟨v, ?_, hr⟩
    have hlt : i % zero.size < zero.size := Nat.mod_lt _ (by omega)
    rw [hl] at hi hv
    simp only [Builtin.zeroCells, Array.toList_map, Array.toList_range, List.getElem?_map, List.getElem?_range hi, Option.map_some]
    rw [Array.getElem?_toList] at hv
    rw [getElem!_pos zero _ hlt]
    rw [Array.getElem?_eq_getElem hlt] at hv
    exact hv
  · have : repL n z = [] := List.length_eq_zero_iff.1 (by rw [len_repL]; have : z.length = 0 := by omega
                                                          rw [this, Nat.mul_zero])
    rw [this] at ha; simp at ha
theorem size_zeroCells (zero : Array Value) (n : Nat) : (Builtin.zeroCells zero n).size = n * zero.size := by simp [Builtin.zeroCells]
theorem zeros_eq {zero : Array Value} {c sz : Nat} (hz : zero.size = sz) : zeros zero (c * sz) = Builtin.zeroCells zero c := by
  unfold zeros Builtin.zeroCells; rw [hz]
theorem zeroCs_R {z : List AV} {zero : Array Value} (hz : VRL γ z zero.toList) (n : Nat) : VRL γ (zeroCs z n).list (Builtin.zeroCells zero n).toList ∧ CsOk (zeroCs z n) := by
  obtain ⟨h1, h2⟩ := zeroCs_ok z n
  rw [h1]; exact ⟨zeroCells_R hz n, h2⟩
theorem app_ok {t : TypeId} {zero : Array Value} {sz bytes : Nat} {s x : As} {S X : Sl} {K : As → Am → Option ρ} {K' : Sl → Mem → Prop} (hz : zero.size = sz) (hR : HR γ φ H h) (hs : SlR γ s S) (hX : SlR γ x X)
    (hx : app sz bytes s x H K = some r) (hK : ∀ γ' s' S' H' h', G.le γ γ' → HR γ' φ H' h' → SlR γ' s' S' → K s' H' = some r → K' S' h') : TS.app t zero sz bytes S X h K' := by
  obtain ⟨c, vs, h1, h2, h3, h4, hx⟩ := slC_ok hR hX hx
  have h4' : c.list.length = x.len * sz := h4
  have hone : ∀ a, a ∈ c.list → oneA a = true := by
    split at hx
    · rename_i ho
      cases c with
      | l xs => exact allA_iff.1 ho
      | b n len => exact oneA_bytes _ _
    · cases hx
  split at hx
  · have := appC_ok (t := t) hR hs h3 h2 h4' hone hx hK
    rw [← hX.1] at this
    refine ⟨vs, by rw [hX.1]; exact h1, one_ofL h2 hone, this.1, fun hh => ?_⟩
    obtain ⟨g1, g2, old, g3, g4⟩ := this.2 hh
    refine ⟨g1, g2, old, g3, fun c hle => g4 c _ hle ?_⟩
    rw [size_zeroCells, hz]
  · cases hx
theorem app0_ok {t : TypeId} {z : List AV} {zero : Array Value} {sz bytes : Nat} {s : As} {S : Sl} {n : Int} {K : As → Am → Option ρ} {K' : Sl → Mem → Prop} (hz : VRL γ z zero.toList) (hR : HR γ φ H h) (hs : SlR γ s S)
    (hx : app0 z sz bytes s n H K = some r) (hK : ∀ γ' s' S' H' h', G.le γ γ' → HR γ' φ H' h' → SlR γ' s' S' → K s' H' = some r → K' S' h') : TS.app0 t zero sz bytes S n h K' := by
  unfold app0 at hx
  obtain ⟨n, e1, hx1⟩ := natI_eq hx
  clear hx; subst e1
  split at hx1
  · cases hx1
  · rename_i h1
    split at hx1
    · cases hx1
    · rename_i h2
      split at hx1
      · cases hx1
      · rename_i h3
        split at hx1
        · cases hx1
        · rename_i h4
          split at hx1
          · cases hx1
          · rename_i h5
            rw [ble_iff] at h1 h2
            rw [beq_iff, lenL_eq] at h4
            rw [blt_iff] at h5
            obtain ⟨g1, g2⟩ := zeroCs_R hz n
            have hzl := hz.len
            simp at hzl
            have hone : ∀ a, a ∈ (zeroCs z n).list → oneA a = true := by
              intro a ha
              rw [(zeroCs_ok z n).1] at ha
              exact allA_iff.1 h3 a (mem_repL ha)
            have hlen : (zeroCs z n).list.length = n * sz := by rw [(zeroCs_ok z n).1, len_repL, h4]
            have := appC_ok (t := t) hR hs g2 g1 hlen hone hx1 hK
            refine ⟨by simp, h2, ?_, one_ofL g1 hone, h5, ?_, ?_⟩
            · have : (n : Int) ≤ (lim : Nat) := by exact_mod_cast h1
              exact this
            · intro hh
              have := this.1 hh
              simp only [Array.length_toList] at this
              exact this
            · intro hh
              obtain ⟨k1, k2, old, k3, k4⟩ := this.2 hh
              refine ⟨k1, k2, old, k3, fun c hle => ?_⟩
              have := k4 c (Builtin.zeroCells zero (c - (S.len + n))) hle (by rw [size_zeroCells, ← hzl, h4])
              simp only [Array.toArray_toList] at this
              exact this
theorem cpy_ok {sz : Nat} {d x : As} {D X : Sl} {K : Nat → Am → Option ρ} {K' : Nat → Mem → Prop} (hR : HR γ φ H h) (hd : SlR γ d D) (hX : SlR γ x X)
    (hx : cpy sz d x H K = some r) (hK : ∀ n H' h', HR γ φ H' h' → K n H' = some r → K' n h') : TS.cpy sz D X h K' := by
  unfold cpy at hx
  rw [sN_eq] at hx
  have hm : mnN x.len d.len = min X.len D.len := by
    rw [hX.1, hd.1]
    unfold mnN
    cases hb : Nat.ble x.len d.len with
    | true => rw [ble_iff] at hb; simp only []; omega
    | false =>
      have : ¬ x.len ≤ d.len := fun hh => by rw [ble_iff.2 hh] at hb; cases hb
      simp only []; omega
  rw [hm] at hx
  split at hx
  · rename_i h0
    rw [beq_iff] at h0
    refine ⟨[], ?_, fun v hv => by simp at hv, ?_⟩
    · rw [h0, Nat.zero_mul]
      unfold slCells
      split
      · exact ⟨rfl, fun i v hv => by simp at hv⟩
      · rfl
    · rw [h0]
      split
      · exact ⟨fun i hi => by simp at hi, hK 0 H h hR hx⟩
      · exact hK 0 H h hR hx
  · obtain ⟨c, vs, h1, h2, h3, h4, hx⟩ := slC_ok hR hX hx
    split at hx
    · rename_i a hb
      obtain ⟨B, N, hg, hB, _⟩ := hd.base_some hb
      obtain ⟨g1, g2, g3⟩ := stA_ok' (A := ⟨B, a.o, none⟩) (K' := fun h' => K' (min X.len D.len) h') hR ⟨B, N, hg, rfl⟩ h3 h2 hx fun H' h' hR' hx' => hK _ _ _ hR' hx'
      refine ⟨vs, h1, g2, ?_⟩
      rw [hB]
      exact ⟨g1, g3⟩
    · cases hx
theorem clr_ok {z : List AV} {zero : Array Value} {s : As} {S : Sl} {K : Am → Option ρ} {K' : Mem → Prop} (hz : VRL γ z zero.toList) (hone : allA z = true) (hR : HR γ φ H h) (hs : SlR γ s S)
    (hx : clr z s H K = some r) (hK : ∀ H' h', HR γ φ H' h' → K H' = some r → K' h') : TS.clr zero S h K' := by
  unfold clr at hx
  unfold TS.clr
  obtain ⟨g1, g2⟩ := zeroCs_R hz s.len
  split at hx
  · rename_i a hb
    obtain ⟨B, N, hg, hB, _⟩ := hs.base_some hb
    rw [hB]
    simp only []
    rw [hs.1]
    obtain ⟨k1, k2, k3⟩ := stA_ok' (A := ⟨B, a.o, none⟩) (K' := K') hR ⟨B, N, hg, rfl⟩ g2 g1 hx hK
    exact ⟨k2, by simpa using k1, k3⟩
  · rename_i hb
    rw [(hs.base_none hb).1]
    exact hK _ _ hR hx
theorem mks_ok {t : TypeId} {z : List AV} {zero : Array Value} {sz bytes : Nat} {n c : Int} {K : As → Am → Option ρ} {K' : Sl → Mem → Prop} (hz : VRL γ z zero.toList) (hR : HR γ φ H h)
    (hx : mks z sz bytes n c H K = some r) (hK : ∀ γ' s' S' H' h', G.le γ γ' → HR γ' φ H' h' → SlR γ' s' S' → K s' H' = some r → K' S' h') : TS.mks t zero sz bytes n c h K' := by
  unfold mks at hx
  obtain ⟨n, e1, hx1⟩ := natI_eq hx
  obtain ⟨c, e2, hx2⟩ := natI_eq hx1
  clear hx hx1; subst e1 e2
  split at hx2
  · cases hx2
  · rename_i h1
    split at hx2
    · cases hx2
    · rename_i h2
      split at hx2
      · cases hx2
      · rename_i h3
        split at hx2
        · cases hx2
        · rename_i h4
          split at hx2
          · cases hx2
          · rename_i h5
            rw [ble_iff] at h1 h2 h3
            rw [blt_iff] at h4
            rw [beq_iff, lenL_eq] at h5
            obtain ⟨g1, g2⟩ := zeroCs_R hz c
            have hzl := hz.len
            simp at hzl
            have h3' : bytes * c ≤ 2 ^ 40 := h3
            refine ⟨by simp, by simpa using h1, ?_, Int.ofNat_le.2 h3', h4, ?_⟩
            · have : (c : Int) ≤ (lim : Nat) := by exact_mod_cast h2
              exact this
            · simp only [toNat_of]
              rw [zeros_eq (by omega)]
              refine al_ok (K' := fun B h' => K' ⟨some ⟨B, 0, none⟩, n, c⟩ h') hR g2 g1 hx2 fun γ' b B N H' h' hle hg hN hR' hx' => hK _ _ _ _ _ hle hR' ?_ hx'
              exact SlR.mk' rfl (Nat.le_refl _) (fun _ => rfl) ⟨B, N, hg, rfl, fun hh => (hh rfl).elim⟩

-- maps
theorem kEq_eq {k k' : Kind} (h : kEq k k' = true) : k = k' := by
  cases k <;> cases k' <;> simp only [kEq] at h <;> first | rfl | (cases h; done) | (rw [ikEq_iff] at h; rw [h])
theorem mkEq_eq {k k' : Option Kind} (h : mkEq k k' = true) : k = k' := by
  cases k <;> cases k' <;> simp only [mkEq] at h <;> first | rfl | (cases h; done) | (rw [kEq_eq h])
theorem iEq_iff {a b : Int} : iEq a b = true ↔ a = b := by
  cases a <;> cases b <;> simp only [iEq, beq_iff, Int.ofNat.injEq, Int.negSucc.injEq] <;> simp
/-- entries, typed -/
inductive MR (γ : G) (l : Lk) : List (Int × AV) → Ents l.ty → Prop
  | nil : MR γ l [] []
  | cons {k : Int} {a : AV} {v : l.ty} {b : Nat} {m : List (Int × AV)} {M : Ents l.ty} (h : VR γ a (l.enc v)) (hm : MR γ l m M) : MR γ l ((k, a) :: m) ((k, v, b) :: M)
theorem valOk_enc {l : Lk} {mk : Option Kind} {a : AV} {v : Value} (hl : mkOf l = some mk) (hv : valOk mk a = true) (h : VR γ a v) : ∃ y : l.ty, v = l.enc y := by
  unfold mkOf at hl
  split at hl
  · rename_i k
    cases hl
    simp only [valOk] at hv
    split at hv
    · rename_i x hx
      obtain ⟨y, e, _⟩ := KR.dec h hx
      exact ⟨y, e⟩
    · cases hv
  · cases hl
    simp only [valOk] at hv
    split at hv
    · simp only [VR] at h
      obtain ⟨vs, h1, rfl⟩ := h
      simp only [VRL] at h1; subst h1
      exact ⟨(), rfl⟩
    · cases hv
  · cases hl
theorem MR.of_OR {kk : KeyC} {l : Lk} {mk : Option Kind} (hl : mkOf l = some mk) : ∀ {m : List (Int × AV)} {m' : List (Int × Value × Nat)}, m.length = m'.length →
    (∀ (i : Nat) (q : Int × AV), m[i]? = some q → ∃ q', m'[i]? = some q' ∧ q'.1 = q.1 ∧ VR γ q.2 q'.2.1 ∧ valOk mk q.2 = true) →
    ∃ M : Ents l.ty, (m'.map fun q => (⟨keyV kk q.1, q.2.1, q.2.2⟩ : MapEntry)).toArray = encM kk l.enc M ∧ MR γ l m M ∧ M.map (·.1) = m'.map (·.1) ∧ M.map (·.2.2) = m'.map (·.2.2) := by
  intro m
  induction m with
  | nil =>
    intro m' hlen _
    have : m' = [] := List.length_eq_zero_iff.1 hlen.symm
    subst this
    exact ⟨[], rfl, .nil, rfl, rfl⟩
  | cons q m ih =>
    intro m' hlen h
    cases m' with
    | nil => simp at hlen
    | cons q' m' =>
      obtain ⟨M, h1, h2, h3, h4⟩ := ih (m' := m') (by simpa using hlen) (fun i x hx => by simpa using h (i + 1) x (by simpa using hx))
      obtain ⟨q2, e1, e2, e3, e4⟩ := h 0 q (by simp)
      simp at e1; subst e1
      obtain ⟨y, hy⟩ := valOk_enc hl e4 e3
      obtain ⟨k, a⟩ := q
      obtain ⟨k', v, b⟩ := q'
      simp only at e2 e3 hy e4
      subst e2 hy
      refine ⟨(k', y, b) :: M, ?_, .cons e3 h2, by rw [List.map_cons, List.map_cons, h3], by rw [List.map_cons, List.map_cons, h4]⟩
      have := congrArg Array.toList h1
      simp only [encM] at this ⊢
      rw [List.map_cons, List.map_cons]
      apply Array.ext'
      simpa using this
theorem MR.to_OR {kk : KeyC} {l : Lk} {mk : Option Kind} {m : List (Int × AV)} {M : Ents l.ty} (h : MR γ l m M) (hv : ∀ q, q ∈ m → valOk mk q.2 = true) {N clk : Nat} (hst : StOk kk M clk) : OR γ (.map kk mk m) N (.map (encM kk l.enc M) clk) := by
  refine ⟨M.map fun q => (q.1, l.enc q.2.1, q.2.2), ?_, ?_, ?_, hst.to (by simp) (by simp)⟩ <;> clear hst
  · simp [encM, Function.comp_def]
  · induction h with
    | nil => rfl
    | cons _ _ ih => simp only [List.length_cons, List.map_cons]; rw [ih (fun q hq => hv q (by simp [hq]))]
  · induction h with
    | nil => intro i q hi; simp at hi
    | cons h1 _ ih =>
      intro i q hi
      cases i with
      | zero => simp at hi; subst hi; exact ⟨_, rfl, rfl, h1, hv _ (by simp)⟩
      | succ i => simpa using ih (fun q hq => hv q (by simp [hq])) i q (by simpa using hi)
theorem MR.get {l : Lk} {m : List (Int × AV)} {M : Ents l.ty} (h : MR γ l m M) (k : Int) : match mgetE m k with
    | some a => ∃ v, TS.mgetE M k = some v ∧ VR γ a (l.enc v)
    | none => TS.mgetE M k = none := by
  induction h with
  | nil => rfl
  | @cons k' a v b m M h1 _ ih =>
    have hs : mgetE ((k', a) :: m) k = match iEq k k' with | true => some a | false => mgetE m k := rfl
    rw [hs]
    simp only [TS.mgetE]
    cases hk : iEq k k' with
    | true => rw [iEq_iff] at hk; rw [if_pos hk]; exact ⟨v, rfl, h1⟩
    | false =>
      have : k ≠ k' := fun hh => by rw [iEq_iff.2 hh] at hk; cases hk
      rw [if_neg this]; exact ih
theorem MR.set {l : Lk} {m : List (Int × AV)} {M : Ents l.ty} (h : MR γ l m M) (k : Int) {a : AV} {v : l.ty} (ha : VR γ a (l.enc v)) (clk : Nat) : MR γ l (msetE m k a) (TS.msetE M k v clk).1 := by
  induction h with
  | nil => exact .cons ha .nil
  | @cons k' a' v' b m M h1 hm ih =>
    have hs : msetE ((k', a') :: m) k a = match iEq k k' with | true => (k', a) :: m | false => (k', a') :: msetE m k a := rfl
    rw [hs]
    simp only [TS.msetE]
    cases hk : iEq k k' with
    | true => rw [iEq_iff] at hk; rw [if_pos hk]; exact .cons ha hm
    | false =>
      have : k ≠ k' := fun hh => by rw [iEq_iff.2 hh] at hk; cases hk
      rw [if_neg this]; exact .cons h1 ih
theorem StOk.set {V : Type} {M : Ents V} {clk : Nat} {kk : KeyC} (k : Int) (v : V) (hko : okK kk k) : StOk kk M clk → StOk kk (TS.msetE M k v clk).1 (TS.msetE M k v clk).2 := by
  have key : ∀ M : Ents V, StOk0 M clk → StOk0 (TS.msetE M k v clk).1 (TS.msetE M k v clk).2 ∧ (∀ x, x ∈ (TS.msetE M k v clk).1.map (·.1) → x = k ∨ x ∈ M.map (·.1)) ∧ (∀ x, x ∈ (TS.msetE M k v clk).1.map (·.2.2) → x = clk ∨ x ∈ M.map (·.2.2)) := by
    intro M
    induction M with
    | nil => intro _; exact ⟨⟨by simp [TS.msetE], by simp [TS.msetE], by simp [TS.msetE]⟩, by simp [TS.msetE], by simp [TS.msetE]⟩
    | cons q M ih =>
      obtain ⟨k', v', b⟩ := q
      intro h
      simp only [TS.msetE]
      by_cases hk : k = k'
      · rw [if_pos hk]; exact ⟨h, fun x hx => .inr hx, fun x hx => .inr hx⟩
      · rw [if_neg hk]
        obtain ⟨h1, h2, h3⟩ := h
        simp only [List.map_cons, List.nodup_cons, List.mem_cons] at h1 h2 h3
        obtain ⟨i1, i2, i3⟩ := ih ⟨h1.2, h2.2, fun s hs => h3 s (.inr hs)⟩
        have hb := h3 b (.inl rfl)
        have hc : clk ≤ (TS.msetE M k v clk).2 := by
          clear ih h1 h2 h3 i1 i2 i3 hb hk
          induction M with
          | nil => simp [TS.msetE]
          | cons q M ih => simp only [TS.msetE]; split <;> simp [*]
        refine ⟨⟨?_, ?_, ?_⟩, ?_, ?_⟩
        · simp only [List.map_cons, List.nodup_cons]
          refine ⟨fun hm => ?_, i1.1⟩
          rcases i2 _ hm with e | e
          · exact hk e.symm
          · exact h1.1 e
        · simp only [List.map_cons, List.nodup_cons]
          refine ⟨fun hm => ?_, i1.2.1⟩
          rcases i3 _ hm with e | e
          · omega
          · exact h2.1 e
        · intro s hs
          simp only [List.map_cons, List.mem_cons] at hs
          rcases hs with rfl | hs
          · simp only; omega
          · exact i1.2.2 s hs
        · intro x hx
          simp only [List.map_cons, List.mem_cons] at hx ⊢
          rcases hx with rfl | hx
          · exact .inr (.inl rfl)
          · exact (i2 x hx).imp id .inr
        · intro x hx
          simp only [List.map_cons, List.mem_cons] at hx ⊢
          rcases hx with rfl | hx
          · exact .inr (.inl rfl)
          · exact (i3 x hx).imp id .inr
  exact fun h => ⟨(key M h.1).1, fun x hx => ((key M h.1).2.1 x hx).elim (fun e => e ▸ hko) (h.2 x)⟩
theorem mem_mset {m : List (Int × AV)} {k : Int} {a : AV} {q : Int × AV} (h : q ∈ msetE m k a) : q ∈ m ∨ q.2 = a := by
  induction m with
  | nil => simp [msetE] at h; right; rw [h]
  | cons p m ih =>
    have hs : msetE (p :: m) k a = match iEq k p.1 with | true => (p.1, a) :: m | false => p :: msetE m k a := rfl
    rw [hs] at h
    cases hk : iEq k p.1 with
    | true =>
      rw [hk] at h; simp only [List.mem_cons] at h
      rcases h with h | h
      · right; rw [h]
      · left; simp [h]
    | false =>
      rw [hk] at h; simp only [List.mem_cons] at h
      rcases h with h | h
      · left; simp [h]
      · rcases ih h with h | h
        · left; simp [h]
        · exact .inr h
theorem mapOf_ok {p : P} {q : Nat} {K : KeyC → Option Kind → List (Int × AV) → Option ρ} (hR : HR γ φ H h) (hp : OMR γ (some p) (some q)) (hx : mapOf H p K = some r) :
    ∃ kk mk m N es clk, H.get p = some (.map kk mk m) ∧ γ p = some (q, N) ∧ h[q]? = some (.map es clk) ∧ OR γ (.map kk mk m) N (.map es clk) ∧ K kk mk m = some r := by
  unfold mapOf at hx
  split at hx
  · rename_i kk mk m hm
    obtain ⟨B, N, ob, h1, h2, h3⟩ := hR.obj p _ hm
    simp only [OMR] at hp
    obtain ⟨N', hp⟩ := hp
    rw [h1] at hp; cases hp
    cases ob with
    | map es clk => exact ⟨kk, mk, m, N, es, clk, hm, h1, h2, h3, hx⟩
    | _ => simp only [OR] at h3
  · cases hx
theorem valOks {kk : KeyC} {mk : Option Kind} {m : List (Int × AV)} {N : Nat} {ob : Obj} (h : OR γ (.map kk mk m) N ob) : ∀ q, q ∈ m → valOk mk q.2 = true := by
  intro q hq
  obtain ⟨i, hi⟩ := List.getElem?_of_mem hq
  cases ob with
  | map es clk =>
    simp only [OR] at h
    obtain ⟨m', _, _, h3, _⟩ := h
    obtain ⟨_, _, _, _, h4⟩ := h3 i q hi
    exact h4
  | _ => simp only [OR] at h
end
end Go.XS
