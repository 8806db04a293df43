/- The layer 'XS': contracts that are run: are all bytes nought? -/
import Derived.Test.YtgdkafimnpjghaaGreatXiCrc
namespace Go.TS
open Go
theorem noughts_ct {τ : Nat → Nat} {s : Sl} {h : Mem} {K : Bool → Mem → Prop} {bs : List Int} (q : Holds h s (By bs)) (hl : bs.length ≤ 2 ^ 40) (h1 : (∃ b, b ∈ bs ∧ b ≠ 0) → K false h) (h2 : (∀ b, b ∈ bs → b = 0) → K true h) : slots_noughts τ s h K := by
  have hlen : s.len = bs.length := by rw [q.1, By_len]
  refine loop_ct (fun l h' => h' = h ∧ ∃ k : Nat, l = k ∧ k ≤ bs.length ∧ ∀ b, b ∈ bs.take k → b = 0) (fun l _ => (bs.length - l).toNat) ⟨rfl, 0, rfl, by omega, by simp⟩ ?_
  rintro l h2' ⟨hh, k, rfl, hk, hz⟩
  subst hh
  dsimp only
  refine ifB_c (fun hc => ?_) (fun hc => ?_)
  · have hkl : k < bs.length := by simp [hlen] at hc; omega
    refine ixld_ct (k := .int .u8) q (by omega) bs[k] (by simp [encL, hkl, Kind.enc]) ?_
    refine ifB_c (fun hn => ?_) (fun hn => ?_)
    · refine h1 ⟨bs[k], by simp, by simpa using hn⟩
    · have h0 : bs[k] = 0 := by simpa using hn
      rw [w64 (by omega) (by omega)]
      refine ⟨⟨rfl, k + 1, by omega, by omega, ?_⟩, by omega⟩
      intro b hb
      rw [List.take_add_one, List.getElem?_eq_getElem hkl] at hb
      simp only [Option.toList_some, List.mem_append, List.mem_singleton] at hb
      rcases hb with hb | hb
      · exact hz b hb
      · rw [hb]; exact h0
  · have hkl : k = bs.length := by simp [hlen] at hc; omega
    subst hkl
    rw [List.take_length] at hz
    exact h2 hz
end Go.TS
namespace Go.XS
open Go Go.TS
noncomputable section
def iNoughts : XCall := fun ags h => match ags with
  | [.sl s] => slC h s s.len fun c => match c with
    | .b n len => match Nat.ble len 1000000 with
      | true => some (.bool (Nat.beq n 0), h)
      | false => none
    | .l [] => some (.bool true, h)
    | _ => none
  | _ => none
end
theorem iNoughts_ch (ags : List AV) (H : Am) (q : AV × Am) (hx : iNoughts ags H = some q) : Ch H q.2 := by
  unfold iNoughts at hx
  split at hx
  · obtain ⟨c, hx⟩ := slC_inv hx
    split at hx
    · split at hx
      · cases hx; exact .refl _
      · cases hx
    · cases hx; exact .refl _
    · cases hx
  · cases hx
theorem iNoughts_R {τ : Nat → Nat} {p : CallP} (hp : ∀ (s : Sl) (h : Mem) (K : Value → Mem → Prop), slots_noughts τ s h (fun r h => K (.bool r) h) → p [.slice s.base s.len s.cap] h K)
    (γ : G) (φ : Fx) (ags : List AV) (H : Am) (h : Mem) (vs : List Value) (q : AV × Am) (K' : Value → Mem → Prop) (hx : iNoughts ags H = some q) (hR : HR γ φ H h) (hv : VRL γ ags vs) (hK : FinR γ φ q K') : p vs h K' := by
  unfold iNoughts at hx
  split at hx
  · rename_i s
    obtain ⟨V, vs', rfl, h1, h2⟩ := hv.uncons
    simp only [VRL] at h2
    subst h2
    obtain ⟨S, hS, rfl⟩ := dSl h1
    obtain ⟨c, ws, g1, g2, g3, g4, hx⟩ := slC_ok hR hS hx
    have fin : ∀ b, q = (.bool b, H) → K' (.bool b) h := fun b e => hK γ _ _ (.refl γ) (by rw [e]; exact hR) (by rw [e]; simp only [VR])
    have hl : S.len = s.len := hS.1
    split at hx
    · rename_i n len
      split at hx
      · rename_i hle
        rw [ble_iff] at hle
        cases hx
        simp only [Cs.list, len_bytesL] at g4
        have e := VRL.func _ _ _ g2 (VRL.bytes n len)
        rw [bytesV_By] at e
        have hB : (By (digL n len)).length = len := by simp [digL, encL]
        have hz : n = 0 ↔ ∀ b, b ∈ digL n len → b = 0 := by
          constructor
          · rintro rfl b hb
            simp only [digL, List.mem_map, List.mem_range] at hb
            obtain ⟨i, _, rfl⟩ := hb
            simp [dig_eq]
          · intro hb
            refine dig_ext len n 0 g3 (pw_pos _) fun i hi => ?_
            have := hb (dig n i : Int) (by simp only [digL, List.mem_map, List.mem_range]; exact ⟨i, hi, rfl⟩)
            have h0 : dig 0 i = 0 := by simp [dig_eq]
            rw [h0]; exact_mod_cast this
        refine hp S h K' (noughts_ct (bs := digL n len) ⟨by rw [hl, hB]; exact g4.symm, ?_⟩ (by simp only [digL, List.length_map, List.length_range]; omega) (fun hx => ?_) (fun hx => ?_))
        · rw [hB, ← e, g4]; exact g1
        · refine fin false ?_
          have : Nat.beq n 0 = false := by
            cases hb : Nat.beq n 0 with
            | false => rfl
            | true =>
              rw [beq_iff] at hb
              obtain ⟨b, hb1, hb2⟩ := hx
              exact absurd (hz.1 hb b hb1) hb2
          rw [this]
        · refine fin true ?_
          rw [beq_iff.2 (hz.2 hx)]
      · cases hx
    · cases hx
      simp only [Cs.list, List.length_nil] at g4
      simp only [Cs.list, VRL] at g2
      subst g2
      refine hp S h K' (noughts_ct (bs := []) ⟨by rw [hl, ← g4]; rfl, ?_⟩ (by simp) (fun hx => ?_) (fun _ => fin true rfl))
      · rw [← g4] at g1; exact g1
      · obtain ⟨b, hb, _⟩ := hx; cases hb
    · cases hx
  · cases hx
end Go.XS
