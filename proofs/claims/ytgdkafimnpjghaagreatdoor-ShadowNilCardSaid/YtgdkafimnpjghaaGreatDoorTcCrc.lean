/- Contracts: crc. -/
import Derived.Laws.Bits64
import Derived.Test.YtgdkafimnpjghaaGreatDoorTcOctet
namespace Go.TS
open Go
set_option linter.unusedVariables false

theorem bits_u8 (op : BinOp) (a b : Int) : 0 ≤ bits op .u8 a b ∧ bits op .u8 a b < 256 := by unfold bits; rw [IntKind.wrap_u8]; omega
theorem bits_u32 (op : BinOp) (a b : Int) : 0 ≤ bits op .u32 a b ∧ bits op .u32 a b < 4294967296 := by unfold bits; rw [IntKind.wrap_u32]; omega

/-- one round of the table -/
def crcT1 (w : Int) : Int := if (bits .and .u32 w 1 == 1) = true then bits .xor .u32 (w.fdiv (2 ^ 1)) 2197175160 else w.fdiv (2 ^ 1)
def crcW : Nat → Int → Int
  | 0, w => w
  | k + 1, w => crcT1 (crcW k w)
def crcTab : List Int := (List.range 256).map fun i => crcW 8 (IntKind.u32.wrap (i : Nat))
theorem crcTab_len : crcTab.length = 256 := by simp [crcTab]
theorem crcTab_get {k : Nat} (hk : k < 256) : crcTab[k]? = some (crcW 8 (IntKind.u32.wrap k)) := by simp [crcTab, hk]
abbrev crcArr : Array Value := (encL (.int .u32) crcTab).toArray

theorem ixA_ct {b n : Nat} {i : Int} {K : Addr → Prop} (h0 : 0 ≤ i) (hn : i < n) (hK : K ⟨b, i.toNat, none⟩) : ixA ⟨b, 0, none⟩ n i 1 K := by
  refine ⟨h0, hn, ?_⟩; rw [add_n, Nat.zero_add, Nat.mul_one]; exact hK
theorem ldA_ct {b n : Nat} {h : Mem} {K : Array Value → Prop} {cs : List Value} (p : Blk h b cs) (hn : cs.length = n) (hK : K cs.toArray) : ldA n ⟨b, 0, none⟩ h K :=
  ⟨cs.toArray, by simpa using hn, fun i v hv => by rw [add_n, Nat.zero_add, p.rd]; simpa using hv, hK⟩
theorem stA_ct {b : Nat} {h : Mem} {K : Mem → Prop} {cs vs : List Value} (p : Blk h b cs) (hn : vs.length = cs.length) (ho : Ones vs) (hK : ∀ h', Blk h' b vs → Upd (· = b) h h' → h'.size = h.size → K h') : stA vs ⟨b, 0, none⟩ h K := by
  obtain ⟨h1, h2, h3⟩ := wrs_blk (o := 0) vs 0 p (by omega)
  refine ⟨room_blk p (by omega), ho, hK _ ?_ h2 h3⟩
  have : over cs (0 + 0) vs = vs := by simp [over, hn]
  rw [this] at h1; exact h1

theorem rep_arr (n : Nat) (z : Value) : Array.replicate n z = (List.replicate n z).toArray := (List.toArray_replicate ..).symm
set_option maxRecDepth 20000 in
theorem table_crc_ct {τ : Nat → Nat} {h : Mem} {K : Array Value → Mem → Prop} (hK : ∀ h', Ext h h' → K crcArr h') : crc_Table τ h K := by
  refine al_ct fun h1 hb1 hE1 hs1 => ?_
  rw [rep_arr] at hb1
  obtain ⟨N, hN⟩ : ∃ N : Nat, N = 256 := ⟨_, rfl⟩
  have hblk0 : Blk h1 h.size (List.replicate (N - 0) (.int .u32 0)) := ⟨τ 9, by rw [hN]; exact hb1⟩
  refine loop_ct (fun l h' => ∃ k : Nat, l = k ∧ k ≤ 256 ∧ Blk h' h.size (encL (.int .u32) (crcTab.take k) ++ List.replicate (N - k) (.int .u32 0)) ∧ Ext h h') (fun l _ => (256 - l).toNat)
    ⟨0, rfl, by omega, by rw [List.take_zero]; exact hblk0, hE1⟩ ?_
  rintro l h2 ⟨k, rfl, hk, hb, hE⟩
  refine ifB_c (fun hc => ?_) (fun hc => ?_)
  · have hk' : k < 256 := by simp at hc; omega
    refine loop_ct (fun l h' => h' = h2 ∧ ∃ j : Nat, l.2 = j ∧ j ≤ 8 ∧ l.1 = crcW j (IntKind.u32.wrap k)) (fun l _ => (8 - l.2).toNat) ⟨rfl, 0, rfl, by omega, rfl⟩ ?_
    rintro ⟨w, j'⟩ h3 ⟨hh, j, rfl, hj, rfl⟩
    subst hh
    dsimp only
    refine ifB_c (fun hc => ?_) (fun hc => ?_)
    · have hj8 : j < 8 := by simp at hc; omega
      rw [w64 (by omega) (by omega)]
      refine ifB_c (fun hc => ?_) (fun hc => ?_)
      · exact ⟨⟨rfl, j + 1, by omega, by omega, by simp only [crcW, crcT1]; rw [if_pos hc]⟩, by omega⟩
      · exact ⟨⟨rfl, j + 1, by omega, by omega, by simp only [crcW, crcT1]; rw [if_neg (by rw [hc]; simp)]⟩, by omega⟩
    · have hj8 : j = 8 := by simp at hc; omega
      subst hj8
      refine ixA_ct (by omega) (by omega) ?_
      refine st_ct hb (by simp [encL, crcTab_len]; omega) fun h4 hb4 hu4 hs4 => ?_
      rw [w64 (by omega) (by omega)]
      refine ⟨⟨k + 1, by omega, by omega, ?_, hE.trans hu4 (fun b hb' hbb => by omega)⟩, by omega⟩
      have : (encL (.int .u32) (crcTab.take k) ++ List.replicate (N - k) (Value.int .u32 0)).set (k : Int).toNat (Value.int .u32 (crcW 8 (IntKind.u32.wrap k))) = encL (.int .u32) (crcTab.take (k + 1)) ++ List.replicate (N - (k + 1)) (.int .u32 0) := by
        rw [List.take_add_one, crcTab_get hk']
        have hl : (encL (.int .u32) (crcTab.take k)).length = k := by simp [encL, crcTab_len]; omega
        rw [List.set_append_right _ _ (by rw [hl]; simp), hl, show N - k = (N - (k + 1)) + 1 by omega, List.replicate_succ]
        simp [encL, Kind.enc]
      rw [this] at hb4; exact hb4
  · have hk' : k = 256 := by simp at hc; omega
    subst hk'
    have hb' : Blk h2 h.size (encL (.int .u32) crcTab) := by
      have : crcTab.take 256 = crcTab := List.take_of_length_le (by rw [crcTab_len]; exact Nat.le_refl _)
      rw [this, hN] at hb; simpa using hb
    have hlen : (encL (.int .u32) crcTab).length = 256 := by simp [encL, crcTab_len]
    refine ldA_ct hb' hlen ⟨by simpa using hlen, ?_⟩
    refine stA_ct hb' rfl (ones_enc _ _ (by simp)) fun h3 hb3 hu3 hs3 => ?_
    refine ldA_ct hb3 hlen (hK h3 (hE.trans hu3 (fun b hb' hbb => by omega)))

def crcStep (T : List Int) (s b : Int) : Int := bits .xor .u32 (T.getD (bits .xor .u8 (IntKind.u8.wrap s) b).toNat 0) (s.fdiv (2 ^ 8))
def crcOn (T : List Int) (n : Int) (bs : List Int) : Int := bits .xor .u32 4294967295 (bs.foldl (crcStep T) (bits .xor .u32 4294967295 n))
def crcAll (T : List Int) (L : List (List Int)) : Int := L.foldl (crcOn T) 0
theorem on1_ct {τ : Nat → Nat} {T : List Int} {n : Int} {s : Sl} {h : Mem} {K : Int → Mem → Prop} {bs : List Int} (hT : T.length = 256) (q : Holds h s (By bs)) (hl : bs.length ≤ 2 ^ 40)
    (hK : ∀ h', Ext h h' → K (crcOn T n bs) h') : crc_On τ (encL (.int .u32) T).toArray n s h K := by
  refine al_ct fun h1 hb1 hE1 hs1 => ?_
  have hblk : Blk h1 h.size (encL (.int .u32) T) := ⟨τ 9, hb1⟩
  have hlen : s.len = bs.length := by rw [q.1, By_len]
  refine loop_ct (fun l h' => h' = h1 ∧ ∃ k : Nat, l.2 = k ∧ k ≤ bs.length ∧ l.1 = (bs.take k).foldl (crcStep T) (bits .xor .u32 4294967295 n)) (fun l _ => (bs.length - l.2).toNat) ⟨rfl, 0, rfl, by omega, rfl⟩ ?_
  rintro ⟨st, k'⟩ h2 ⟨hh, k, rfl, hk, rfl⟩
  subst hh
  dsimp only
  refine ifB_c (fun hc => ?_) (fun hc => ?_)
  · have hkl : k < bs.length := by simp [hlen] at hc; omega
    refine ixld_ct (k := .int .u8) (q.gete hE1) (by omega) bs[k] (by simp [encL, hkl, Kind.enc]) ?_
    have hr := bits_u8 .xor (IntKind.u8.wrap ((bs.take k).foldl (crcStep T) (bits .xor .u32 4294967295 n))) bs[k]
    refine ixA_ct hr.1 (by omega) ?_
    refine ld_ct (k := .int .u32) (T.getD (bits .xor .u8 (IntKind.u8.wrap ((bs.take k).foldl (crcStep T) (bits .xor .u32 4294967295 n))) bs[k]).toNat 0) ?_ ?_
    · rw [hblk.rd]
      simp only [encL, List.getElem?_map]
      rw [List.getD_eq_getElem?_getD, List.getElem?_eq_getElem (by omega)]
      rfl
    · rw [w64 (by omega) (by omega)]
      refine ⟨⟨rfl, k + 1, by omega, by omega, ?_⟩, by omega⟩
      rw [List.take_add_one, List.getElem?_eq_getElem hkl]
      simp only [Option.toList_some, List.foldl_append, List.foldl_cons, List.foldl_nil]
      rfl
  · have hkl : k = bs.length := by simp [hlen] at hc; omega
    subst hkl
    rw [List.take_length]
    exact hK _ hE1

def Bl (L : List (Sl × List Int)) : List (Sl × List Value) := L.map fun p => (p.1, By p.2)
theorem on_ct {τ : Nat → Nat} {T : List Int} {s : Sl} {h : Mem} {K : Int → Mem → Prop} {L : List (Sl × List Int)} (hT : T.length = 256) (q : Lists h s (Bl L)) (hl : L.length ≤ 2 ^ 40) (hl2 : ∀ p, p ∈ L → p.2.length ≤ 2 ^ 40)
    (hK : ∀ h', Ext h h' → K (crcAll T (L.map (·.2))) h') : crc_on τ (encL (.int .u32) T).toArray s h K := by
  refine al_ct fun h1 hb1 hE1 hs1 => ?_
  have hblk : Blk h1 h.size (encL (.int .u32) T) := ⟨τ 9, hb1⟩
  have hlen : s.len = L.length := by rw [q.1.1]; simp [Bl]
  refine loop_ct (fun l h' => Ext h1 h' ∧ ∃ k : Nat, l.2 = k ∧ k ≤ L.length ∧ l.1 = crcAll T ((L.map (·.2)).take k)) (fun l _ => (L.length - l.2).toNat) ⟨Upd.refl _ _, 0, rfl, by omega, rfl⟩ ?_
  rintro ⟨st, k'⟩ h2 ⟨hE2, k, rfl, hk, rfl⟩
  dsimp only
  refine ifB_c (fun hc => ?_) (fun hc => ?_)
  · have hkl : k < L.length := by simp [hlen] at hc; omega
    refine ixld_ct (k := .sl) (q.1.gete (hE1.ext hE2)) (by omega) L[k].1 (by simp [Bl, hkl, Kind.enc]) ?_
    refine ldA_ct (hblk.gete hE2) (by simp [encL, hT]) ?_
    have hmem : (L[k].1, By L[k].2) ∈ Bl L := List.mem_map.2 ⟨L[k], List.getElem_mem hkl, rfl⟩
    refine on1_ct hT ((q.2 _ hmem).gete (hE1.ext hE2)) (hl2 _ (List.getElem_mem hkl)) fun h3 hE3 => ?_
    rw [w64 (by omega) (by omega)]
    refine ⟨⟨hE2.ext hE3, k + 1, by omega, by omega, ?_⟩, by omega⟩
    rw [List.take_add_one, List.getElem?_map, List.getElem?_eq_getElem hkl]
    simp only [Option.map_some, Option.toList_some, crcAll, List.foldl_append, List.foldl_cons, List.foldl_nil]
  · have hkl : k = L.length := by simp [hlen] at hc; omega
    subst hkl
    rw [List.take_of_length_le (by simp)]
    exact hK _ (hE1.ext hE2)
/-- the check sum of pieces -/
def crcSum (L : List (List Int)) : Int := crcAll crcTab L
theorem parts_ct {τ : Nat → Nat} {s : Sl} {h : Mem} {K : Int → Mem → Prop} {L : List (Sl × List Int)} (q : Lists h s (Bl L)) (hl : L.length ≤ 2 ^ 40) (hl2 : ∀ p, p ∈ L → p.2.length ≤ 2 ^ 40)
    (hK : ∀ h', Ext h h' → K (crcSum (L.map (·.2))) h') : crc_Parts τ s h K := by
  refine table_crc_ct fun h1 hE1 => ?_
  exact on_ct crcTab_len (q.gete hE1) hl hl2 fun h2 hE2 => hK h2 (hE1.ext hE2)
end Go.TS
