/- The layer 'XS': slices, strings, append, maps: what the words over abstract memory say of memory. -/
import Derived.Test.YtmcpegdmnogkbaaGreatDoorXsMem
set_option linter.unusedSimpArgs false
set_option linter.unusedVariables false
namespace Go.XS
open Go Go.TS

theorem sN_eq {ρ : Type} (n : Nat) (K : Nat → Option ρ) : sN n K = K n := by cases n <;> rfl
theorem sI_eq {ρ : Type} (n : Int) (K : Int → Option ρ) : sI n K = K n := by
  cases n with
  | ofNat m => exact sN_eq m (fun m => K (.ofNat m))
  | negSucc m => exact sN_eq m (fun m => K (.negSucc m))
theorem natI_eq {ρ : Type} {i : Int} {K : Nat → Option ρ} {r : ρ} (h : natI i K = some r) : ∃ n : Nat, i = Int.ofNat n ∧ K n = some r := by
  cases i with
  | ofNat n => exact ⟨n, rfl, h⟩
  | negSucc n => cases h

section
variable {γ : G} {φ : Fx} {H : Am} {h : Mem} {ρ : Type} {r : ρ}

theorem SlR.base_some {s : As} {S : Sl} {a : Ad} (hs : SlR γ s S) (hb : s.base = some a) : ∃ B N, γ a.b = some (B, N) ∧ S.base = some ⟨B, a.o, none⟩ ∧ (s.e ≠ 0 → a.o + S.cap * s.e = N) := by
  have := hs.2.2.2; rw [hb] at this; exact this
theorem SlR.base_none {s : As} {S : Sl} (hs : SlR γ s S) (hb : s.base = none) : S.base = none ∧ s.e = 0 := by
  have := hs.2.2.2; rw [hb] at this; exact this
theorem SlR.mk' {b : Option Ad} {l c e L C : Nat} {A : Option Addr} (h1 : L = l) (h2 : c ≤ C) (h3 : e = 0 → C = c)
    (h4 : match b with | none => A = none ∧ e = 0 | some a => ∃ B N, γ a.b = some (B, N) ∧ A = some ⟨B, a.o, none⟩ ∧ (e ≠ 0 → a.o + C * e = N)) : SlR γ ⟨b, l, c, e⟩ ⟨A, L, C⟩ := by
  refine ⟨h1, h2, h3, ?_⟩
  cases b <;> exact h4
theorem ixS_ok {s : As} {S : Sl} {i : Int} {sz : Nat} {K : Ad → Option ρ} {K' : Addr → Prop} (hs : SlR γ s S) (hx : ixS s i sz K = some r)
    (hK : ∀ a A, AdR γ a A → K a = some r → K' A) : TS.ixS S i sz K' := by
  unfold ixS at hx
  split at hx
  · rename_i a hb
    obtain ⟨B, N, hg, hB, _⟩ := hs.base_some hb
    split at hx
    · rename_i n
      split at hx
      · rename_i hlt
        simp only [sN_eq] at hx
        rw [blt_iff, ← hs.1] at hlt
        refine ⟨_, hB, by simp, by simpa using hlt, ?_⟩
        refine hK _ _ ?_ hx
        exact ⟨B, N, hg, by rw [add_at]; rfl⟩
      · cases hx
    · cases hx
  · cases hx
theorem ixA_ok {a : Ad} {A : Addr} {n : Nat} {i : Int} {sz : Nat} {K : Ad → Option ρ} {K' : Addr → Prop} (ha : AdR γ a A) (hx : ixA a n i sz K = some r)
    (hK : ∀ a A, AdR γ a A → K a = some r → K' A) : TS.ixA A n i sz K' := by
  unfold ixA at hx
  split at hx
  · rename_i m
    split at hx
    · rename_i hlt
      simp only [sN_eq] at hx
      rw [blt_iff] at hlt
      obtain ⟨B, N, hg, rfl⟩ := ha
      refine ⟨by simp, by simpa using hlt, hK ⟨a.b, Nat.add a.o (Nat.mul m sz)⟩ _ ⟨B, N, hg, ?_⟩ hx⟩
      rw [add_at]; rfl
    · cases hx
  · cases hx
theorem slC_ok {s : As} {S : Sl} {n : Nat} {K : Cs → Option ρ} (hR : HR γ φ H h) (hs : SlR γ s S) (hx : slC H s n K = some r) :
    ∃ c vs, slCells h S n vs ∧ VRL γ c.list vs ∧ CsOk c ∧ c.list.length = n ∧ K c = some r := by
  unfold slC at hx
  split at hx
  · rename_i h0
    rw [beq_iff] at h0; subst h0
    refine ⟨.l [], [], ?_, VRL.nil, trivial, rfl, hx⟩
    unfold slCells
    split
    · exact ⟨rfl, fun i v hv => by simp at hv⟩
    · rfl
  · split at hx
    · rename_i a hb
      obtain ⟨B, N, hg, hB, _⟩ := hs.base_some hb
      obtain ⟨c, B', N', cs, el, fr, h1, h2, h3, h4, hx⟩ := cellsOf_ok hR hx
      rw [h2] at hg; cases hg
      split at hx
      · rename_i d hd
        obtain ⟨g1, g2, g3, g4⟩ := cs_sub h4 hd
        refine ⟨d, _, ?_, g4, g1, g2, hx⟩
        unfold slCells
        rw [hB]
        exact ⟨by rw [← g4.len, g2], cells_at h3⟩
      · cases hx
    · cases hx
theorem bytesV_str {n len : Nat} : bytesV n len = ((⟨((List.range len).map fun i => UInt8.ofNat (dig n i)).toArray⟩ : ByteArray).data.toList.map fun c => (.int .u8 c.toNat : Value)) := by
  unfold bytesV
  simp only [List.map_map]
  apply List.map_congr_left
  intro i _
  simp only [Function.comp, UInt8.toNat_ofNat']
  congr 1
  rw [Nat.mod_eq_of_lt (by have := dig_lt n i; omega)]; rfl
theorem ldStr_ok {s : As} {S : Sl} {K : At → Option ρ} {K' : ByteArray → Prop} (hR : HR γ φ H h) (hs : SlR γ s S) (hx : ldStr s H K = some r)
    (hK : ∀ x y, AtR x y → K x = some r → K' y) : TS.ldStr S h K' := by
  obtain ⟨c, vs, h1, h2, h3, h4, hx⟩ := slC_ok hR hs hx
  have main : ∀ n len, CsOk (.b n len) → VRL γ (bytesL n len) vs → len = s.len → K ⟨n, len⟩ = some r → TS.ldStr S h K' := by
    intro n len hc hv hl hx
    have e := VRL.func _ _ _ hv (VRL.bytes n len)
    refine ⟨⟨((List.range len).map fun i => UInt8.ofNat (dig n i)).toArray⟩, ?_, ?_, hK ⟨n, len⟩ _ ⟨?_, hc⟩ hx⟩
    · rw [hs.1, ← hl]; simp [ByteArray.size]
    · rw [← bytesV_str, ← e, hs.1]; exact h1
    · simp only [List.map_map]
      apply List.map_congr_left
      intro i _
      simp only [Function.comp, UInt8.toNat_ofNat']
      rw [Nat.mod_eq_of_lt (by have := dig_lt n i; omega)]
  split at hx
  · rename_i n len
    exact main n len h3 h2 (by simpa [Cs.list, len_bytesL] using h4) hx
  · simp only [Cs.list, List.length_nil] at h4
    refine main 0 0 (pw_pos 0) h2 h4 hx
  · cases hx
theorem okE_ok {s : As} {sz : Nat} (h : okE s sz = true) : s.e = 0 ∨ s.e = sz := by
  unfold okE at h
  split at h
  · rename_i h0; exact .inl (beq_iff.1 h0)
  · exact .inr (beq_iff.1 h)
theorem toNat_of (n : Nat) : (Int.ofNat n).toNat = n := rfl
theorem slc_ok {s : As} {S : Sl} {lo hi : Int} {sz : Nat} {K : As → Option ρ} {K' : Sl → Prop} (hs : SlR γ s S) (hx : slc s lo hi sz K = some r)
    (hK : ∀ x y, SlR γ x y → K x = some r → K' y) : TS.slc S lo hi sz K' := by
  unfold slc at hx
  obtain ⟨lo, e1, hx1⟩ := natI_eq hx
  obtain ⟨hi, e2, hx2⟩ := natI_eq hx1
  clear hx hx1
  subst e1 e2
  have hx := hx2
  clear hx2
  split at hx
  · rename_i h1
    split at hx
    · rename_i h2
      split at hx
      · rename_i h3
        rw [ble_iff] at h1 h2
        have hE := okE_ok h3
        have hcap := hs.2.1
        refine ⟨by simp, by simpa using h1, by simp; omega, ?_⟩
        simp only [toNat_of]
        unfold cutB at hx
        split at hx
        · rename_i h0
          rw [beq_iff] at h0; subst h0
          simp only [sN_eq] at hx
          refine hK _ _ ?_ hx
          unfold Sl.cut
          refine SlR.mk' rfl (by show s.cap - 0 ≤ S.cap - 0; omega) (fun h => by show S.cap - 0 = s.cap - 0; rw [hs.2.2.1 h]) ?_
          cases hb : s.base with
          | none => obtain ⟨g1, g2⟩ := hs.base_none hb; refine ⟨?_, g2⟩; rw [g1]; split <;> rfl
          | some a =>
            obtain ⟨B, N, hg, hB, he⟩ := hs.base_some hb
            refine ⟨B, N, hg, ?_, fun hh => by have := he hh; simpa using this⟩
            rw [hB]
            split
            · rfl
            · simp [add_at]
        · rename_i h0
          have hlo : lo ≠ 0 := fun hh => by rw [beq_iff.2 hh] at h0; cases h0
          split at hx
          · cases hx
          · rename_i a hb
            obtain ⟨B, N, hg, hB, he⟩ := hs.base_some hb
            split at hx
            · rename_i hq
              rw [beq_iff] at hq
              split at hx
              · rename_i hz
                rw [beq_iff] at hz
                simp only [sN_eq] at hx
                refine hK _ _ ?_ hx
                unfold Sl.cut
                have hc := hs.2.2.1 hz
                rw [if_pos (by omega)]
                refine SlR.mk' rfl (by show s.cap - lo ≤ S.cap - lo; omega) (fun _ => by show S.cap - lo = s.cap - lo; omega) ?_
                rw [hb]
                exact ⟨B, N, hg, hB, fun hh => (hh hz).elim⟩
              · cases hx
            · rename_i hq
              have hne : lo ≠ s.cap := fun hh => by rw [beq_iff.2 hh] at hq; cases hq
              simp only [sN_eq] at hx
              refine hK _ _ ?_ hx
              unfold Sl.cut
              rw [if_neg (by omega), hB]
              refine SlR.mk' rfl (by show s.cap - lo ≤ S.cap - lo; omega) (fun h => by have := hs.2.2.1 h; show S.cap - lo = s.cap - lo; omega) ?_
              refine ⟨B, N, hg, by simp [add_at], fun hh => ?_⟩
              rcases hE with hE | hE
              · exact (hh hE).elim
              · have := he hh
                show a.o + lo * sz + (S.cap - lo) * s.e = N
                rw [← this, hE, Nat.add_assoc, ← Nat.add_mul]
                congr 2; omega
      · cases hx
    · cases hx
  · cases hx
theorem slc3_ok {s : As} {S : Sl} {lo hi mx : Int} {sz : Nat} {K : As → Option ρ} {K' : Sl → Prop} (hs : SlR γ s S) (hx : slc3 s lo hi mx sz K = some r)
    (hK : ∀ x y, SlR γ x y → K x = some r → K' y) : TS.slc3 S lo hi mx sz K' := by
  unfold slc3 at hx
  obtain ⟨lo, e1, hx1⟩ := natI_eq hx
  obtain ⟨hi, e2, hx2⟩ := natI_eq hx1
  obtain ⟨mx, e3, hx3⟩ := natI_eq hx2
  clear hx hx1 hx2
  subst e1 e2 e3
  have hx := hx3
  clear hx3
  split at hx
  · rename_i h1
    split at hx
    · rename_i h2
      split at hx
      · rename_i h3
        rw [ble_iff] at h1 h2 h3
        have hcap := hs.2.1
        refine ⟨by simp, by simpa using h1, by simpa using h2, by simp; omega, ?_⟩
        simp only [toNat_of]
        split at hx
        · rename_i hb
          refine hK _ _ ?_ hx
          obtain ⟨g1, g2⟩ := hs.base_none hb
          refine SlR.mk' rfl (Nat.le_refl _) (fun _ => rfl) ?_
          refine ⟨?_, rfl⟩
          rw [g1]; split <;> rfl
        · rename_i a hb
          obtain ⟨B, N, hg, hB, he⟩ := hs.base_some hb
          split at hx
          · rename_i hq
            rw [beq_iff] at hq
            simp only [sN_eq] at hx
            refine hK _ _ ?_ hx
            rw [if_pos hq]
            exact SlR.mk' rfl (Nat.le_refl _) (fun _ => rfl) ⟨B, N, hg, hB, fun hh => (hh rfl).elim⟩
          · rename_i hq
            have hne : mx ≠ lo := fun hh => by rw [beq_iff.2 hh] at hq; cases hq
            simp only [sN_eq] at hx
            refine hK _ _ ?_ hx
            rw [if_neg hne, hB]
            exact SlR.mk' rfl (Nat.le_refl _) (fun _ => rfl) ⟨B, N, hg, by simp [add_at], fun hh => (hh rfl).elim⟩
      · cases hx
    · cases hx
  · cases hx
theorem slcA_ok {a : Ad} {A : Addr} {n : Nat} {lo hi : Int} {sz : Nat} {K : As → Option ρ} {K' : Sl → Prop} (ha : AdR γ a A) (hx : slcA a n lo hi sz K = some r)
    (hK : ∀ x y, SlR γ x y → K x = some r → K' y) : TS.slcA A n lo hi sz K' := by
  unfold slcA at hx
  obtain ⟨lo, e1, hx1⟩ := natI_eq hx
  obtain ⟨hi, e2, hx2⟩ := natI_eq hx1
  clear hx hx1
  subst e1 e2
  have hx := hx2
  clear hx2
  obtain ⟨B, N, hg, rfl⟩ := ha
  split at hx
  · rename_i h1
    split at hx
    · rename_i h2
      rw [ble_iff] at h1 h2
      refine ⟨by simp, by simpa using h1, by simpa using h2, ?_⟩
      simp only [toNat_of]
      split at hx
      · rename_i hq
        rw [beq_iff] at hq
        refine hK _ _ ?_ hx
        rw [if_pos hq]
        exact SlR.mk' rfl (Nat.le_refl _) (fun _ => rfl) ⟨B, N, hg, rfl, fun hh => (hh rfl).elim⟩
      · rename_i hq
        have hne : n ≠ lo := fun hh => by rw [beq_iff.2 hh] at hq; cases hq
        simp only [sN_eq] at hx
        refine hK _ _ ?_ hx
        rw [if_neg hne]
        exact SlR.mk' rfl (Nat.le_refl _) (fun _ => rfl) ⟨B, N, hg, by simp [add_at], fun hh => (hh rfl).elim⟩
    · cases hx
  · cases hx

/-- append: what both of its forms come to. n elements, whose cells are xs. -/
theorem appC_ok {sz bytes : Nat} {s : As} {S : Sl} {x : Cs} {xs : List Value} {n : Nat} {K : As → Am → Option ρ} {K' : Sl → Mem → Prop} {t : TypeId} (hR : HR γ φ H h) (hs : SlR γ s S) (hc : CsOk x) (hv : VRL γ x.list xs)
    (hn : x.list.length = n * sz) (hone : ∀ a, a ∈ x.list → oneA a = true) (hx : appC sz bytes s x n H K = some r)
    (hK : ∀ γ' s' S' H' h', G.le γ γ' → HR γ' φ H' h' → SlR γ' s' S' → K s' H' = some r → K' S' h') :
    (S.len + n ≤ S.cap → match S.base with
      | some a => room h (a.add (S.len * sz)) xs.length ∧ K' ⟨some a, S.len + n, S.cap⟩ (wrs h (a.add (S.len * sz)) 0 xs)
      | none => K' ⟨none, S.len + n, S.cap⟩ h) ∧
    (S.cap < S.len + n → S.len + n ≤ 2 ^ 40 ∧ (S.len + n) * bytes ≤ 2 ^ 40 ∧ ∃ old : List Value, slCells h S (S.len * sz) old ∧
      ∀ c (slack : Array Value), S.len + n ≤ c → slack.size = (c - (S.len + n)) * sz → K' ⟨some ⟨h.size, 0, none⟩, S.len + n, c⟩ (h.push (.cells (old.toArray ++ xs.toArray ++ slack) t))) := by
  unfold appC at hx
  simp only [sN_eq] at hx
  have hl := hs.1
  have hcap := hs.2.1
  have hxl := hv.len
  split at hx
  · -- there is room
    rename_i h1
    rw [ble_iff] at h1
    have h1' : s.len + n ≤ s.cap := h1
    refine ⟨fun _ => ?_, fun hh => by omega⟩
    split at hx
    · rename_i a hb
      obtain ⟨B, N, hg, hB, he⟩ := hs.base_some hb
      rw [hB]
      have ha : AdR γ ⟨a.b, Nat.add a.o (Nat.mul s.len sz)⟩ ((⟨B, a.o, none⟩ : Addr).add (S.len * sz)) := ⟨B, N, hg, by rw [add_at, hl]; rfl⟩
      obtain ⟨g1, g2, g3⟩ := stA_ok' (K' := fun h' => K' ⟨some ⟨B, a.o, none⟩, S.len + n, S.cap⟩ h') hR ha hc hv hx fun H' h' hR' hx' => by
        refine hK γ _ _ _ _ (.refl γ) hR' ?_ hx'
        exact SlR.mk' (by rw [hl]; rfl) hcap hs.2.2.1 ⟨B, N, hg, rfl, he⟩
      exact ⟨g1, g3⟩
    · rename_i hb
      obtain ⟨g1, g2⟩ := hs.base_none hb
      rw [g1]
      exact hK γ ⟨none, Nat.add s.len n, s.cap, s.e⟩ ⟨none, S.len + n, S.cap⟩ _ _ (.refl γ) hR (SlR.mk' (by rw [hl]; rfl) hcap hs.2.2.1 ⟨rfl, g2⟩) hx
  · rename_i h1
    split at hx
    · cases hx
    · rename_i h2
      split at hx
      · cases hx
      · rename_i h3
        split at hx
        · cases hx
        · rename_i h4
          rw [ble_iff] at h2 h3
          rw [blt_iff] at h4
          have h1' : ¬ (s.len + n ≤ s.cap) := fun hh => by have : Nat.ble (Nat.add s.len n) s.cap = true := ble_iff.2 hh; rw [this] at h1; cases h1
          have h2' : S.len + n ≤ 2 ^ 40 := by rw [hl]; exact h2
          have h3' : (S.len + n) * bytes ≤ 2 ^ 40 := by rw [hl]; exact h3
          obtain ⟨old, ovs, k1, k2, k3, k4, hx⟩ := slC_ok hR hs hx
          have hol := k2.len
          obtain ⟨c1, c2⟩ := Cs.cat_ok k3 hc
          have hcl : (old.cat x).list.length = (s.len + n) * sz := by rw [c1, List.length_append, k4, hn]; exact (Nat.add_mul _ _ _).symm
          have k1' : slCells h S (S.len * sz) ovs := by rw [hl]; exact k1
          -- into new memory
          have grow : ∀ (H0 : Am), HR γ φ H0 h → inB H0 H0.nx → (∀ c (slack : Array Value), S.len + n ≤ c → slack.size = (c - (S.len + n)) * sz →
              (K ⟨some ⟨H0.nx, 0⟩, Nat.add s.len n, Nat.add s.len n, sz⟩ (H0.new (.cells (old.cat x))) = some r) →
              K' ⟨some ⟨h.size, 0, none⟩, S.len + n, c⟩ (h.push (.cells (ovs.toArray ++ xs.toArray ++ slack) t))) := by
            intro H0 hR0 hnb c slack hle hsl hx
            have hsz : (ovs.toArray ++ xs.toArray ++ slack).size = c * sz := by
              simp only [Array.size_append, List.size_toArray, hsl, ← hol, k4, ← hxl, hn]
              have k4' : s.len.mul sz = S.len * sz := by rw [hl]; rfl
              rw [k4', ← Nat.add_mul, ← Nat.add_mul]; congr 1; omega
            refine hK _ _ _ _ _ (hR0.le_ext hnb (h.size, c * sz)) (hR0.new hnb (o := .cells (old.cat x)) ?_) ?_ hx
            · refine ⟨hsz, c2, by rw [hcl, ← hl]; exact Nat.mul_le_mul_right _ hle, .inl rfl, ?_⟩
              rw [hcl, c1]
              have : (ovs.toArray ++ xs.toArray ++ slack).toList.take ((s.len + n) * sz) = ovs ++ xs := by
                simp only [Array.toList_append]
                rw [List.take_append_of_le_length (by simp [← hol, k4, ← hxl, hn]; exact Nat.le_of_eq (Nat.add_mul _ _ _)), List.take_of_length_le (by simp [← hol, k4, ← hxl, hn]; exact Nat.le_of_eq (Nat.add_mul _ _ _).symm)]
              rw [this]
              exact (k2.append hv).mono (hR0.le_ext hnb _)
            · refine SlR.mk' (by rw [hl]; rfl) (by rw [← hl]; exact hle) (fun hh => by omega) ⟨h.size, c * sz, ext_same _ _ _, rfl, fun _ => by simp⟩
          split at hx
          · rename_i h5
            rw [beq_iff] at h5
            have hce := hs.2.2.1 h5
            obtain ⟨hnb, hx⟩ := al_in hx
            refine ⟨fun hh => by omega, fun _ => ⟨h2', h3', ovs, k1', fun c slack hle hsl => grow H hR hnb c slack hle hsl hx⟩⟩
          · split at hx
            · cases hx
            · rename_i h6
              rw [beq_iff] at h6
              split at hx
              · cases hx
              · rename_i a hb
                split at hx
                · cases hx
                · rename_i h7
                  rw [beq_iff] at h7
                  obtain ⟨B, N, hg, hB, he⟩ := hs.base_some hb
                  obtain ⟨c0, B0, N0, cs, el, fr, ho, q1, q2, q3, hx⟩ := cellsOf_ok hR hx
                  rw [hg] at q1; cases q1
                  split at hx
                  · cases hx
                  rename_i hokB
                  obtain ⟨hnb, hx⟩ := al_in hx
                  have hn' : inB H H.nx := hnb
                  refine ⟨fun hroom => ?_, fun _ => ⟨h2', h3', ovs, k1', fun c slack hle hsl => grow (H.del a.b) (hR.del a.b) hnb c slack hle hsl hx⟩⟩
                  -- in place
                  have hN := he (by omega)
                  rw [h7, h6] at hN
                  simp only [Nat.zero_add] at hN
                  rw [hB]
                  obtain ⟨o1, o2, o3, o4, o5⟩ := q3
                  have hSz : S.len * sz + xs.length = (S.len + n) * sz := by rw [← hxl, hn, Nat.add_mul]
                  have hfit : (S.len + n) * sz ≤ N := by rw [← hN]; exact Nat.mul_le_mul_right _ hroom
                  have hadd : ((⟨B, a.o, none⟩ : Addr).add (S.len * sz)) = ⟨B, S.len * sz, none⟩ := by rw [add_at, h7, Nat.zero_add]
                  simp only []
                  rw [hadd]
                  obtain ⟨cs', w1, w2, w3, w4, w5⟩ := wrs_at xs h B (S.len * sz) 0 cs el fr q2 (by omega)
                  refine ⟨room_at q2 o1 o4.old (by omega), ?_⟩
                  refine hK _ _ _ _ _ (hR.le_ext hn' (B, N)) (hR.move hn' ho hg w4 w1 ?_ w5) ?_ hx
                  · refine ⟨w2.trans o1, c2, by rw [hcl, ← hl]; exact hfit, o4.cat hokB, ?_⟩
                    rw [hcl, c1, w3]
                    have hov : ovs = cs.toList.take (S.len * sz) := by
                      have : slCells h S (S.len * sz) ovs := k1'
                      unfold slCells at this
                      rw [hB] at this
                      obtain ⟨t1, t2⟩ := this
                      rw [h7] at t2
                      apply List.ext_getElem?
                      intro i
                      rw [List.getElem?_take]
                      split
                      · rename_i hi
                        have := t2 i (ovs[i]'(by omega)) (by simp)
                        rw [add_at, rd_at q2, Nat.zero_add] at this
                        rw [List.getElem?_eq_getElem (by omega)]
                        simpa using this.symm
                      · rename_i hi
                        exact List.getElem?_eq_none (by omega)
                    have ht : (cs.toList.take (S.len * sz + 0) ++ (xs ++ cs.toList.drop (S.len * sz + 0 + xs.length))).take ((s.len + n) * sz) = ovs ++ xs := by
                      rw [Nat.add_zero, ← hov, ← List.append_assoc, List.take_append_of_le_length (by simp [← hol, k4, ← hxl, hn]; exact Nat.le_of_eq (Nat.add_mul _ _ _)),
                        List.take_of_length_le (by simp [← hol, k4, ← hxl, hn]; exact Nat.le_of_eq (Nat.add_mul _ _ _).symm)]
                    rw [ht]
                    exact (k2.append hv).mono (hR.le_ext hn' _)
                  · refine SlR.mk' (by rw [hl]; rfl) (by rw [← hl]; exact hroom) (fun hh => by omega) ⟨B, N, ext_same _ _ _, by rw [h7], fun _ => by rw [Nat.zero_add]; exact hN⟩
end
end Go.XS
