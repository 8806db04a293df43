/- Contracts: pages' bytes. -/
import Derived.Test.YtgdkafimnpjghaaGreatDoorTcCrc
namespace Go.TS
open Go
set_option linter.unusedVariables false

theorem add_add' (a : Addr) (m n : Nat) : (a.add m).add n = a.add (m + n) := by
  unfold Addr.add
  by_cases hm : m = 0 <;> by_cases hn : n = 0 <;> simp [hm, hn, Nat.add_assoc]
theorem slc_ct {s : Sl} {lo hi : Int} {h : Mem} {K : Sl → Prop} {xs : List Value} (q : Holds h s xs) (hc : s.len ≤ s.cap) (h0 : 0 ≤ lo) (h1 : lo ≤ hi) (h2 : hi.toNat ≤ xs.length)
    (hK : ∀ s', Holds h s' ((xs.drop lo.toNat).take (hi.toNat - lo.toNat)) → s'.len = hi.toNat - lo.toNat → s'.len ≤ s'.cap → (∀ b, At s' b → At s b) → K s') : slc s lo hi 1 K := by
  have hl := q.1
  refine ⟨h0, h1, by omega, hK _ ⟨?_, ?_⟩ rfl ?_ ?_⟩
  · simp [Sl.cut]; omega
  · have h3 := q.2
    unfold slCells at h3 ⊢
    cases hb : s.base with
    | none =>
      rw [hb] at h3
      have : (s.cut lo.toNat hi.toNat 1).base = none := by simp [Sl.cut, hb]
      rw [this]; dsimp only at h3 ⊢; subst h3; simp
    | some a =>
      rw [hb] at h3
      dsimp only at h3
      by_cases hcap : s.cap = lo.toNat
      · have : (s.cut lo.toNat hi.toNat 1).base = some a := by simp [Sl.cut, hb, hcap]
        rw [this]
        dsimp only
        refine ⟨rfl, fun i v hv => ?_⟩
        have := (List.getElem?_eq_some_iff.1 hv).1
        simp at this; omega
      · have : (s.cut lo.toNat hi.toNat 1).base = some (a.add lo.toNat) := by simp [Sl.cut, hb, hcap]
        rw [this]
        dsimp only
        refine ⟨rfl, fun i v hv => ?_⟩
        have hi' := (List.getElem?_eq_some_iff.1 hv).1
        simp only [List.length_take, List.length_drop] at hi'
        rw [List.getElem?_take_of_lt (by omega), List.getElem?_drop] at hv
        have := h3.2 _ _ hv
        rw [add_add']; exact this
  · simp [Sl.cut]; omega
  · rintro b ⟨a, ha, rfl⟩
    simp only [Sl.cut] at ha
    split at ha
    · exact ⟨a, ha, rfl⟩
    · cases hb : s.base with
      | none => rw [hb] at ha; cases ha
      | some a0 =>
        rw [hb] at ha
        simp only [Option.map_some, Option.some.injEq] at ha
        subst ha
        exact ⟨a0, hb, by rw [add_block]⟩
theorem slc_blk {b o l c : Nat} {lo hi : Int} {K : Sl → Prop} (h0 : 0 ≤ lo) (h1 : lo ≤ hi) (h2 : hi ≤ c) (h3 : lo.toNat < c) (hK : K ⟨some ⟨b, o + lo.toNat, none⟩, hi.toNat - lo.toNat, c - lo.toNat⟩) : slc ⟨some ⟨b, o, none⟩, l, c⟩ lo hi 1 K := by
  refine ⟨h0, h1, h2, ?_⟩
  have : (⟨some ⟨b, o, none⟩, l, c⟩ : Sl).cut lo.toNat hi.toNat 1 = ⟨some ⟨b, o + lo.toNat, none⟩, hi.toNat - lo.toNat, c - lo.toNat⟩ := by
    simp only [Sl.cut]
    rw [if_neg (by omega)]
    simp only [Option.map_some, add_n, Nat.mul_one]
  rw [this]; exact hK
theorem zeros_eq (z : Value) (n : Nat) : zeros #[z] n = (List.replicate n z).toArray := by
  apply Array.ext'
  rw [← zeroCells_eq]
  simp [zeros, Builtin.zeroCells]
theorem mks_ct {t : TypeId} {z : Value} {bytes : Nat} {n : Int} {h : Mem} {K : Sl → Mem → Prop} (h0 : 0 ≤ n) (h1 : n ≤ 2 ^ 40) (h2 : bytes * n ≤ 2 ^ 40)
    (hK : ∀ h', Blk h' h.size (List.replicate n.toNat z) → Ext h h' → h'.size = h.size + 1 → K ⟨some ⟨h.size, 0, none⟩, n.toNat, n.toNat⟩ h') : mks t #[z] 1 bytes n n h K := by
  refine ⟨h0, by omega, h1, h2, by omega, ?_⟩
  rw [Nat.mul_one, zeros_eq]
  refine hK _ ⟨t, by simp⟩ ⟨by simp, fun b hb _ => ?_⟩ (by simp)
  rw [Array.getElem?_push_lt hb]; simp [hb]
theorem cpy_ct {b o dl dc : Nat} {x : Sl} {h : Mem} {K : Nat → Mem → Prop} {cs xs : List Value} (p : Blk h b cs) (q : Holds h x xs) (ho : Ones xs) (hl : o + min xs.length dl ≤ cs.length)
    (hK : ∀ h', Blk h' b (over cs o (xs.take (min xs.length dl))) → Upd (· = b) h h' → h'.size = h.size → K (min xs.length dl) h') : cpy 1 ⟨some ⟨b, o, none⟩, dl, dc⟩ x h K := by
  have hlen := q.1
  refine ⟨xs.take (min xs.length dl), ?_, fun v hv => ho v (List.mem_of_mem_take hv), ?_⟩
  · have h3 := q.2
    unfold slCells at h3 ⊢
    split
    · rename_i a ha
      rw [ha] at h3
      dsimp only at h3
      refine ⟨by rw [List.length_take, hlen]; dsimp only; omega, fun i v hv => ?_⟩
      have hi := (List.getElem?_eq_some_iff.1 hv).1
      rw [List.length_take] at hi
      rw [List.getElem?_take_of_lt (by omega)] at hv
      exact h3.2 i v hv
    · rename_i ha; rw [ha] at h3; dsimp only at h3; subst h3; simp
  · dsimp only
    have hl' : (xs.take (min xs.length dl)).length = min xs.length dl := by rw [List.length_take]; omega
    obtain ⟨h1, h2, h3⟩ := wrs_blk (o := o) (xs.take (min xs.length dl)) 0 p (by rw [hl']; omega)
    rw [hlen]
    exact ⟨room_blk p (by rw [hl']; omega), hK _ h1 h2 h3⟩

theorem By_take (l : List Int) (k : Nat) : (By l).take k = By (l.take k) := by simp [encL, List.map_take]
theorem By_drop (l : List Int) (k : Nat) : (By l).drop k = By (l.drop k) := by simp [encL, List.map_drop]
theorem By_rep (n : Nat) : List.replicate n (Value.int .u8 0) = By (List.replicate n 0) := by simp [encL, Kind.enc]
/-- of the bytes of a page: those that its check sum is of -/
def crcOfB (bs : List Int) : Int := crcSum [bs.take 12, [0, 0, 0, 0], bs.drop 16]
theorem crcOf_ct {τ : Nat → Nat} {s : Sl} {h : Mem} {K : Int → Mem → Prop} {bs : List Int} (q : Holds h s (By bs)) (hc : s.len ≤ s.cap) (hl : 16 ≤ bs.length) (hl2 : bs.length ≤ 2 ^ 36)
    (hK : ∀ h', Ext h h' → K (crcOfB bs) h') : page_crcOf τ s h K := by
  have hlen : s.len = bs.length := by rw [q.1, By_len]
  refine slc_ct q hc (by omega) (by omega) (by rw [By_len]; omega) fun s3 q3 _ _ a3 => ?_
  refine slc_ct q hc (by omega) (by omega) (by rw [By_len]; omega) fun s4 q4 _ _ a4 => ?_
  refine mks_ct (by omega) (by omega) (by omega) fun h1 hb1 hE1 hs1 => ?_
  refine al_ct fun h2 hb2 hE2 hs2 => ?_
  have q5 : Holds h1 ⟨some ⟨h.size, 0, none⟩, 4, 4⟩ (By [0, 0, 0, 0]) := by
    obtain ⟨e, he⟩ := hb1
    exact holds_new 4 he
  have e3 : ((By bs).drop (0 : Int).toNat).take ((12 : Int).toNat - (0 : Int).toNat) = By (bs.take 12) := by simp [By_take]
  have e4 : ((By bs).drop (16 : Int).toNat).take (((s.len : Int)).toNat - (16 : Int).toNat) = By (bs.drop 16) := by
    rw [By_drop, List.take_of_length_le]; rfl
    rw [By_len, List.length_drop, hlen]; simp
  rw [e3] at q3
  rw [e4] at q4
  refine parts_ct (L := [(s3, bs.take 12), (⟨some ⟨h.size, 0, none⟩, 4, 4⟩, [0, 0, 0, 0]), (s4, bs.drop 16)]) ⟨holds_new 3 hb2, ?_⟩ (by simp) ?_ fun h3 hE3 => hK h3 ((hE1.ext hE2).ext hE3)
  · intro p hp
    simp only [Bl, List.map_cons, List.map_nil, List.mem_cons, List.not_mem_nil, or_false] at hp
    rcases hp with rfl | rfl | rfl
    · exact q3.gete (hE1.ext hE2)
    · exact q5.gete hE2
    · exact q4.gete (hE1.ext hE2)
  · intro p hp
    simp only [List.mem_cons, List.not_mem_nil, or_false] at hp
    rcases hp with rfl | rfl | rfl
    · simp; omega
    · simp
    · simp; omega

def pgHead (k n : Int) : List Int := [84, 77, 1, IntKind.u8.wrap k] ++ leB 4 (IntKind.u64.wrap n) ++ List.replicate 4 0
def pgTail (bs : List Int) : List Int := bs ++ List.replicate (4080 - bs.length) 0
/-- a page's bytes -/
def pageB (k n : Int) (bs : List Int) : List Int := pgHead k n ++ leB 4 (IntKind.u64.wrap (crcSum [pgHead k n, [0, 0, 0, 0], pgTail bs])) ++ pgTail bs
theorem pgHead_len (k n : Int) : (pgHead k n).length = 12 := by simp [pgHead, leB_len]
theorem pgTail_len {bs : List Int} (h : bs.length ≤ 4080) : (pgTail bs).length = 4080 := by simp [pgTail]; omega
theorem pageB_len (k n : Int) {bs : List Int} (h : bs.length ≤ 4080) : (pageB k n bs).length = 4096 := by simp only [pageB, List.length_append, pgHead_len, leB_len, pgTail_len h]
theorem over_mid {a m b x : List Value} {i : Nat} (hi : i = a.length) (hx : x.length = m.length) : over (a ++ m ++ b) i x = a ++ x ++ b := by
  subst hi
  simp only [over, List.append_assoc, List.take_left', List.append_cancel_left_eq]
  rw [List.drop_append, List.drop_of_length_le (by omega)]
  simp [hx]

theorem pageBytes_ct {τ : Nat → Nat} {k n : Int} {s : Sl} {h : Mem} {K : Sl → Int → Mem → Prop} {bs : List Int} (q : Holds h s (By bs))
    (hbad : (k < 1 ∨ 7 < k ∨ 4080 < bs.length) → ∀ h', Ext h h' → K ⟨none, 0, 0⟩ 2 h')
    (hK : 1 ≤ k → k ≤ 7 → bs.length ≤ 4080 → ∀ r h', Vec h' r (By (pageB k n bs)) → New h r → Ext h h' → K r 0 h') : page_Bytes τ k n s h K := by
  have hlen : s.len = bs.length := by rw [q.1, By_len]
  refine al_ct fun h1 hb1 hE1 hs1 => ?_
  have hB : Blk h1 h.size [.int .i64 k, .int .u32 n, .slice s.base s.len s.cap] := ⟨τ 10, hb1⟩
  intro J1
  have hT : (k < 1 ∨ 7 < k ∨ 4080 < bs.length) → J1 true h1 := fun hb => ifB_t rfl (hbad hb h1 hE1)
  have hF : 1 ≤ k → k ≤ 7 → bs.length ≤ 4080 → J1 false h1 := by
    intro hk1 hk7 hbl
    refine ifB_f rfl ?_
    refine ld_ct (k := .int .i64) k (by rw [hB.rd]; rfl) ?_
    refine al_ct fun h2 hb2 hE2 hs2 => ?_
    refine ld_ct (k := .int .u32) n (by rw [(hB.gete hE2).rd]; rfl) ?_
    refine word_ct (.inr (.inl rfl)) (holds_new 4 hb2) (By_ones [84, 77, 1, IntKind.u8.wrap k]) (by simp) fun s14 h3 hv14 hn14 hE3 => ?_
    have hl14 : s14.len = 8 := by rw [hv14.len]; simp [encL, leB_len]
    have e14 : ([Value.int .u8 84, .int .u8 77, .int .u8 1, .int .u8 (IntKind.u8.wrap k)] : List Value) ++ By (leB (4 : Int).toNat (IntKind.u64.wrap n)) = By ([84, 77, 1, IntKind.u8.wrap k] ++ leB 4 (IntKind.u64.wrap n)) := by rw [By_app]; rfl
    rw [e14] at hv14
    obtain ⟨hd, hhd⟩ : ∃ hd, hd = [84, 77, 1, IntKind.u8.wrap k] ++ leB 4 (IntKind.u64.wrap n) := ⟨_, rfl⟩
    have hhdl : hd.length = 8 := by rw [hhd]; simp [leB_len]
    rw [← hhd] at hv14
    rw [hl14, w64 (by omega) (by omega)]
    obtain ⟨N, hN⟩ : ∃ N : Nat, N = 4088 := ⟨_, rfl⟩
    refine app0_ct hv14 rfl (by omega) (by rw [By_len]; omega) (by rw [By_len]; omega) fun s15 h4 hv15 hu4 hat15 => ?_
    have hNt : (4096 - ((8 : Nat) : Int)).toNat = N := by omega
    rw [hNt] at hv15
    have hx24 : Ext h2 h4 := Upd.above hE3 hu4 hn14
    rcases hv15 with ⟨_, hnil⟩ | ⟨b, js, hs15, hb15⟩
    · exfalso
      have := congrArg List.length hnil
      simp only [List.length_append, By_len, List.length_nil] at this; omega
    have hbn : h2.size ≤ b := by
      rcases hat15 b (by rw [hs15]; exact ⟨_, rfl, rfl⟩) with h | h
      · exact hn14 b h
      · have := hE3.sz; omega
    have hl15 : (By hd ++ List.replicate N (Value.int .u8 0)).length = 4096 := by rw [List.length_append, By_len, List.length_replicate]; omega
    rw [hl15] at hs15
    subst hs15
    refine slc_blk (by omega) (by dsimp only; omega) (by dsimp only; omega) (by omega) ?_
    refine ld_ct (k := .sl) s (by rw [(hB.gete (hE2.ext hx24)).rd]; rfl) ?_
    have hcs : By hd ++ List.replicate N (Value.int .u8 0) ++ js = (By hd ++ List.replicate 8 (Value.int .u8 0)) ++ List.replicate bs.length (Value.int .u8 0) ++ (List.replicate (4080 - bs.length) (Value.int .u8 0) ++ js) := by
      simp only [List.append_assoc, List.append_cancel_left_eq]
      rw [← List.append_assoc, ← List.append_assoc, List.replicate_append_replicate, List.replicate_append_replicate]
      congr 2; omega
    have hmin : min (By bs).length ((((4096 : Nat) : Int)).toNat - (16 : Int).toNat) = bs.length := by rw [By_len]; simp; omega
    refine cpy_ct hb15 (q.gete ((hE1.ext hE2).ext hx24)) (By_ones bs) (by rw [hmin, List.length_append, hl15]; simp; omega) fun h5 hb5 hu5 hs5 => ?_
    rw [hmin, List.take_of_length_le (by rw [By_len]; exact Nat.le_refl _), hcs, over_mid (by simp [By_len, hhdl]) (by simp [By_len])] at hb5
    have hpg : By hd ++ List.replicate 8 (Value.int .u8 0) ++ By bs ++ (List.replicate (4080 - bs.length) (Value.int .u8 0) ++ js) = By (pgHead k n ++ List.replicate 4 0 ++ pgTail bs) ++ js := by
      rw [By_rep, By_rep, pgHead, ← hhd]
      simp only [By_app, pgTail, ← List.append_assoc]
      congr 3
      simp only [List.append_assoc, ← By_app, List.replicate_append_replicate]
    rw [hpg] at hb5
    have hx25 : Ext h2 h5 := Upd.above hx24 hu5 (fun k hk => by omega)
    refine slc_blk (by omega) (by omega) (by omega) (by omega) ?_
    have hpl : (pgHead k n ++ List.replicate 4 0 ++ pgTail bs).length = 4096 := by simp [pgHead_len, pgTail_len hbl]
    have hv5 : Vec h5 ⟨some ⟨b, 0, none⟩, 4096, 4096 + js.length⟩ (By (pgHead k n ++ List.replicate 4 0 ++ pgTail bs)) := .inr ⟨b, js, by rw [By_len, hpl], hb5⟩
    refine crcOf_ct hv5.holds (by dsimp only; omega) (by omega) (by omega) fun h6 hE6 => ?_
    have hcrc : crcOfB (pgHead k n ++ List.replicate 4 0 ++ pgTail bs) = crcSum [pgHead k n, [0, 0, 0, 0], pgTail bs] := by
      unfold crcOfB
      rw [List.append_assoc, List.take_left' (pgHead_len k n)]
      congr 3
    rw [hcrc]
    refine word_ct (.inr (.inl rfl)) (holds_nil h6) ones_nil (by simp) fun s21 h7 hv21 hn21 hE7 => ?_
    rw [List.nil_append] at hv21
    have hb7 := hb5.gete (hE6.ext hE7)
    have hbl5 := hb5.lt
    have hmin2 : min (By (leB (4 : Int).toNat (IntKind.u64.wrap (crcSum [pgHead k n, [0, 0, 0, 0], pgTail bs])))).length ((16 : Int).toNat - (12 : Int).toNat) = 4 := by rw [By_len, leB_len]; rfl
    refine cpy_ct hb7 hv21.holds (By_ones _) (by rw [hmin2, List.length_append, By_len, hpl]; simp; omega) fun h8 hb8 hu8 hs8 => ?_
    refine hK hk1 hk7 hbl _ h8 (.inr ⟨b, js, by rw [By_len, pageB_len _ _ hbl], ?_⟩) ?_ ?_
    · rw [hmin2, List.take_of_length_le (by rw [By_len, leB_len]; exact Nat.le_refl _)] at hb8
      have : By (pgHead k n ++ List.replicate 4 0 ++ pgTail bs) ++ js = By (pgHead k n) ++ By (List.replicate 4 0) ++ (By (pgTail bs) ++ js) := by simp only [By_app, List.append_assoc]
      rw [this, over_mid (by rw [By_len, pgHead_len]; rfl) (by rw [By_len, By_len, leB_len, List.length_replicate]; rfl)] at hb8
      simp only [pageB, By_app, List.append_assoc] at hb8 ⊢; exact hb8
    · intro k hk; have := at_lit hk; have := hE1.sz; have := hE2.sz; omega
    · exact (hE1.ext hE2).ext (Upd.above (hx25.ext (hE6.ext hE7)) hu8 (fun k hk => by omega))
  refine ld_ct (k := .int .i64) k (by rw [hB.rd]; rfl) ?_
  refine ifB_c (fun hc => hT (.inl (by simpa using hc))) (fun hc1 => ?_)
  refine ld_ct (k := .int .i64) k (by rw [hB.rd]; rfl) ?_
  refine ifB_c (fun hc => hT (.inr (.inl (by simpa using hc)))) (fun hc2 => ?_)
  refine ld_ct (k := .sl) s (by rw [hB.rd]; rfl) ?_
  simp only [decide_eq_false_iff_not, Int.not_lt] at hc1 hc2
  by_cases hb : 4080 < bs.length
  · rw [decide_eq_true (by omega)]; exact hT (.inr (.inr hb))
  · rw [decide_eq_false (by omega)]; exact hF (by omega) (by omega) (by omega)
end Go.TS
