/- The layer 'XS': contracts that are run: bytes.Trim's right half: bytes at the end that are nought are cut off. -/
import Derived.Test.YtmcpegdmnogkbaaGreatDoorXiBase
import Derived.Test.YtmcpegdmnogkbaaGreatDoorTcBase
set_option linter.unusedSimpArgs false
set_option linter.unusedVariables false
namespace Go.TS
open Go
theorem trimR_ct {τ : Nat → Nat} {a : Addr} {n c t : Nat} {h : Mem} {K : Sl → Mem → Prop} {bs : List Int} (ha : a.spot = none) (q : Holds h ⟨some a, n, c⟩ (By bs)) (hl : n ≤ 2 ^ 40) (hc : n ≤ c) (ht : t ≤ n)
    (hz : ∀ j, t ≤ j → j < n → bs[j]? = some 0) (hnz : t = 0 ∨ ∃ x, bs[t - 1]? = some x ∧ x ≠ 0) (hK : K ⟨some a, t, c⟩ h) : bytes_trimRightByte τ ⟨some a, n, c⟩ 0 h K := by
  have hn : n = bs.length := by have := q.1; rw [By_len] at this; exact this
  have hcells : cellsAt h a (By bs) := q.2.2
  refine loop_ct (σ := Sl) (fun l h' => h' = h ∧ ∃ k, l = ⟨some a, k, c⟩ ∧ t ≤ k ∧ k ≤ n) (fun l _ => l.len) ⟨rfl, n, rfl, ht, Nat.le_refl _⟩ ?_
  rintro l h2 ⟨hh, k, rfl, h1, h3⟩
  subst hh
  dsimp only
  refine ifB_c (fun hk => ?_) (fun hk => ?_)
  · have hkp : 0 < k := by simpa using hk
    have hw : IntKind.i64.wrap ((k : Int) - 1) = ((k - 1 : Nat) : Int) := by rw [w64 (by omega) (by omega)]; omega
    rw [hw]
    have hlt : k - 1 < bs.length := by omega
    refine ⟨a, rfl, by omega, by dsimp only; omega, ?_⟩
    refine ⟨bs[k - 1], ?_, ?_⟩
    · have := hcells (k - 1) (.int .u8 bs[k - 1]) (by simp [By, encL, hlt, Kind.enc])
      rw [Int.toNat_natCast, Nat.mul_one]
      exact this
    · refine ifB_c (fun hx => ?_) (fun hx => ?_)
      · have hx0 : bs[k - 1] = 0 := by simpa using hx
        have htk : t ≤ k - 1 := by
          rcases hnz with e | ⟨x, hx1, hx2⟩
          · omega
          · rcases Nat.lt_or_ge t k with hlt2 | hge
            · omega
            · have : t = k := by omega
              subst this
              rw [List.getElem?_eq_getElem hlt] at hx1
              cases hx1
              exact absurd hx0 hx2
        refine ⟨by omega, by omega, by dsimp only; omega, ?_⟩
        have hcut : (⟨some a, k, c⟩ : Sl).cut (0 : Int).toNat ((k - 1 : Nat) : Int).toNat 1 = ⟨some a, k - 1, c⟩ := by
          unfold Sl.cut
          have e1 : ((0 : Int).toNat) = 0 := rfl
          rw [e1, Int.toNat_natCast]
          have ea : a.add (0 * 1) = a := by
            cases a with
            | mk b o s => simp only at ha; subst ha; rw [add_n]; simp
          split <;> simp [ea]
        rw [hcut]
        exact ⟨⟨rfl, k - 1, rfl, htk, by omega⟩, by dsimp only; omega⟩
      · have hx0 : bs[k - 1] ≠ 0 := by simpa using hx
        have : k = t := by
          rcases Nat.lt_or_ge t k with hlt2 | hge
          · have := hz (k - 1) (by omega) (by omega)
            rw [List.getElem?_eq_getElem hlt] at this
            exact absurd (by simpa using this) hx0
          · omega
        subst this; exact hK
  · have hk0 : k = 0 := by simpa using hk
    refine ifB_f rfl ?_
    have : k = t := by omega
    subst this; exact hK
end Go.TS
namespace Go.XS
open Go Go.TS
noncomputable section
def trimN (n : Nat) : Nat := match Nat.beq n 0 with
  | true => 0
  | false => Nat.succ (Nat.div (Nat.log2 n) 8)
def trimOk (n len t : Nat) : Bool := match Nat.ble t len with
  | false => false
  | true => match Nat.beq (Nat.shiftRight n (Nat.mul 8 t)) 0 with
    | false => false
    | true => match Nat.beq t 0 with
      | true => true
      | false => match Nat.beq (dig n (Nat.sub t 1)) 0 with
        | true => false
        | false => true
def iTrimR : XCall := fun ags h => match ags with
  | [.sl s, .int .u8 (.ofNat c)] => match Nat.beq c 0 with
    | false => none
    | true => match s.base with
      | none => none
      | some a => slC h s s.len fun c => match c with
        | .l _ => none
        | .b n len => match Nat.ble len 1000000 with
          | false => none
          | true => match Nat.ble len s.cap with
            | false => none
            | true => sN (trimN n) fun t => match trimOk n len t with
              | false => none
              | true => some (.sl ⟨some a, t, s.cap, s.e⟩, h)
  | _ => none
end
theorem iTrimR_ch (ags : List AV) (H : Am) (q : AV × Am) (hx : iTrimR ags H = some q) : Ch H q.2 := by
  unfold iTrimR at hx
  repeat' first | exact none_some hx | (cases hx; exact .refl _) | (have hq := sN_inv hx; obtain ⟨_, hx⟩ := hq) | (have hq := slC_inv hx; obtain ⟨_, hx⟩ := hq) | (split at hx)
theorem trimOk_ok {n len t : Nat} (h : trimOk n len t = true) : t ≤ len ∧ (∀ j, t ≤ j → dig n j = 0) ∧ (t = 0 ∨ dig n (t - 1) ≠ 0) := by
  unfold trimOk at h
  split at h
  · cases h
  rename_i h1
  rw [ble_iff] at h1
  split at h
  · cases h
  rename_i h2
  rw [beq_iff] at h2
  refine ⟨h1, fun j hj => ?_, ?_⟩
  · have e : j = t + (j - t) := by omega
    rw [e, ← dig_shr, h2, dig_eq]; simp
  · split at h
    · rename_i h3; rw [beq_iff] at h3; exact .inl h3
    · split at h
      · cases h
      · rename_i h4
        refine .inr fun e => ?_
        have h5 : Nat.sub t 1 = t - 1 := rfl
        rw [h5, beq_iff.2 e] at h4; cases h4
theorem iTrimR_R {τ : Nat → Nat} {p : CallP} (hp : ∀ (s : Sl) (n : Int) (h : Mem) (K : Value → Mem → Prop), bytes_trimRightByte τ s n h (fun r h => K (.slice r.base r.len r.cap) h) → p [.slice s.base s.len s.cap, .int .u8 n] h K)
    (γ : G) (φ : Fx) (ags : List AV) (H : Am) (h : Mem) (vs : List Value) (q : AV × Am) (K' : Value → Mem → Prop) (hx : iTrimR ags H = some q) (hR : HR γ φ H h) (hv : VRL γ ags vs) (hK : FinR γ φ q K') : p vs h K' := by
  unfold iTrimR at hx
  split at hx
  rotate_left
  · cases hx
  rename_i s c
  obtain ⟨V1, vs1, rfl, h1, hv⟩ := hv.uncons
  obtain ⟨V2, vs2, rfl, h2, hv⟩ := hv.uncons
  simp only [VRL] at hv
  subst hv
  obtain ⟨S, hS, rfl⟩ := dSl h1
  rw [dInt h2]
  split at hx
  · cases hx
  rename_i hc0
  rw [beq_iff] at hc0
  split at hx
  · cases hx
  rename_i a hb
  obtain ⟨cc, ws, g1, g2, g3, g4, hx⟩ := slC_ok hR hS hx
  split at hx
  · cases hx
  rename_i n len
  split at hx
  · cases hx
  rename_i hle
  rw [ble_iff] at hle
  split at hx
  · cases hx
  rename_i hcp
  rw [ble_iff] at hcp
  rw [sN_eq] at hx
  split at hx
  · cases hx
  rename_i hok
  cases hx
  obtain ⟨t1, t2, t3⟩ := trimOk_ok hok
  simp only [Cs.list, len_bytesL] at g4
  have e := VRL.func _ _ _ g2 (VRL.bytes n len)
  rw [bytesV_By] at e
  have hBl : (digL n len).length = len := by simp [digL]
  obtain ⟨B, N, k1, k2, k3⟩ := hS.base_some hb
  have hSl : S.len = len := by rw [hS.1, g4]
  have hScap : len ≤ S.cap := Nat.le_trans hcp hS.2.1
  have hget : ∀ j, j < len → (digL n len)[j]? = some ((dig n j : Nat) : Int) := by
    intro j hj
    simp [digL, hj]
  have hSe : S = ⟨some ⟨B, a.o, none⟩, len, S.cap⟩ := by
    cases S; simp only at k2 hSl ⊢; rw [k2, hSl]
  refine hp S _ h K' ?_
  rw [hc0]
  rw [hSe]
  refine trimR_ct (bs := digL n len) (t := trimN n) rfl ⟨by rw [By_len, hBl], ?_⟩ (by omega) hScap t1 (fun j hj hjn => by rw [hget j hjn, t2 j hj]; rfl) ?_ ?_
  · rw [By_len, hBl, ← e]
    have h9 : slCells h S s.len ws := g1
    unfold slCells at h9 ⊢
    rw [k2] at h9
    dsimp only
    rw [g4]; exact h9
  · rcases t3 with e0 | e0
    · exact .inl e0
    · rcases Nat.eq_zero_or_pos (trimN n) with z | z
      · exact .inl z
      · refine .inr ⟨_, hget _ (by omega), ?_⟩
        exact_mod_cast e0
  · refine hK γ _ _ (.refl γ) hR (vSl (SlR.mk' (b := some a) rfl hS.2.1 hS.2.2.1 ⟨B, N, k1, rfl, k3⟩))
end Go.XS
