/- Contracts: pages' bytes. -/
import Derived.Laws.IdiomRangeMap
import Derived.Test.YtpgpdmbhlpadmaaGreatTcSlices
import Derived.Test.YtpgpdmbhlpadmaaGreatXsMem
namespace Go.TS
open Go
set_option linter.unusedVariables false

theorem add_add' (a : Addr) (m n : Nat) : (a.add m).add n = a.add (m + n) := by
  unfold Addr.add
  by_cases hm : m = 0 <;> by_cases hn : n = 0 <;> simp [hm, hn, Nat.add_assoc]
theorem slc_ct {s : Sl} {lo hi : Int} {h : Mem} {K : Sl → Prop} {xs : List Value} (q : Holds h s xs) (hc : s.len ≤ s.cap) (h0 : 0 ≤ lo) (h1 : lo ≤ hi) (h2 : hi.toNat ≤ xs.length)
    (hK : ∀ s', Holds h s' ((xs.drop lo.toNat).take (hi.toNat - lo.toNat)) → s'.len = hi.toNat - lo.toNat → s'.len ≤ s'.cap → (∀ b, At s' b → At s b) → K s') : slc s lo hi 1 K := by
  have hl := q.1
  refine ⟨h0, h1, by omega, hK _ ⟨?_, ?_⟩ rfl ?_ ?_⟩
  · simp [Sl.cut]; omega
  · have h3 := q.2
    unfold slCells at h3 ⊢
    cases hb : s.base with
    | none =>
      rw [hb] at h3
      have : (s.cut lo.toNat hi.toNat 1).base = none := by simp [Sl.cut, hb]
      rw [this]; dsimp only at h3 ⊢; subst h3; simp
    | some a =>
      rw [hb] at h3
      dsimp only at h3
      by_cases hcap : s.cap = lo.toNat
      · have : (s.cut lo.toNat hi.toNat 1).base = some a := by simp [Sl.cut, hb, hcap]
        rw [this]
        dsimp only
        refine ⟨rfl, fun i v hv => ?_⟩
        have := (List.getElem?_eq_some_iff.1 hv).1
        simp at this; omega
      · have : (s.cut lo.toNat hi.toNat 1).base = some (a.add lo.toNat) := by simp [Sl.cut, hb, hcap]
        rw [this]
        dsimp only
        refine ⟨rfl, fun i v hv => ?_⟩
        have hi' := (List.getElem?_eq_some_iff.1 hv).1
        simp only [List.length_take, List.length_drop] at hi'
        rw [List.getElem?_take_of_lt (by omega), List.getElem?_drop] at hv
        have := h3.2 _ _ hv
        rw [add_add']; exact this
  · simp [Sl.cut]; omega
  · rintro b ⟨a, ha, rfl⟩
    simp only [Sl.cut] at ha
    split at ha
    · exact ⟨a, ha, rfl⟩
    · cases hb : s.base with
      | none => rw [hb] at ha; cases ha
      | some a0 =>
        rw [hb] at ha
        simp only [Option.map_some, Option.some.injEq] at ha
        subst ha
        exact ⟨a0, hb, by rw [add_block]⟩
theorem slc_blk {b o l c : Nat} {lo hi : Int} {K : Sl → Prop} (h0 : 0 ≤ lo) (h1 : lo ≤ hi) (h2 : hi ≤ c) (h3 : lo.toNat < c) (hK : K ⟨some ⟨b, o + lo.toNat, none⟩, hi.toNat - lo.toNat, c - lo.toNat⟩) : slc ⟨some ⟨b, o, none⟩, l, c⟩ lo hi 1 K := by
  refine ⟨h0, h1, h2, ?_⟩
  have : (⟨some ⟨b, o, none⟩, l, c⟩ : Sl).cut lo.toNat hi.toNat 1 = ⟨some ⟨b, o + lo.toNat, none⟩, hi.toNat - lo.toNat, c - lo.toNat⟩ := by
    simp only [Sl.cut]
    rw [if_neg (by omega)]
    simp only [Option.map_some, add_n, Nat.mul_one]
  rw [this]; exact hK
theorem zeros_eq (z : Value) (n : Nat) : zeros #[z] n = (List.replicate n z).toArray := by
  apply Array.ext'
  rw [← zeroCells_eq]
  simp [zeros, Builtin.zeroCells]
theorem mks_ct {t : TypeId} {z : Value} {bytes : Nat} {n : Int} {h : Mem} {K : Sl → Mem → Prop} (h0 : 0 ≤ n) (h1 : n ≤ 2 ^ 40) (h2 : bytes * n ≤ 2 ^ 40)
    (hK : ∀ h', Blk h' h.size (List.replicate n.toNat z) → Ext h h' → h'.size = h.size + 1 → K ⟨some ⟨h.size, 0, none⟩, n.toNat, n.toNat⟩ h') : mks t #[z] 1 bytes n n h K := by
  refine ⟨h0, by omega, h1, h2, by omega, ?_⟩
  rw [Nat.mul_one, zeros_eq]
  refine hK _ ⟨t, by simp⟩ ⟨by simp, fun b hb _ => ?_⟩ (by simp)
  rw [Array.getElem?_push_lt hb]; simp [hb]
theorem cpy_ct {b o dl dc : Nat} {x : Sl} {h : Mem} {K : Nat → Mem → Prop} {cs xs : List Value} (p : Blk h b cs) (q : Holds h x xs) (ho : Ones xs) (hl : o + min xs.length dl ≤ cs.length)
    (hK : ∀ h', Blk h' b (over cs o (xs.take (min xs.length dl))) → Upd (· = b) h h' → h'.size = h.size → K (min xs.length dl) h') : cpy 1 ⟨some ⟨b, o, none⟩, dl, dc⟩ x h K := by
  have hlen := q.1
  refine ⟨xs.take (min xs.length dl), ?_, fun v hv => ho v (List.mem_of_mem_take hv), ?_⟩
  · have h3 := q.2
    unfold slCells at h3 ⊢
    split
    · rename_i a ha
      rw [ha] at h3
      dsimp only at h3
      refine ⟨by rw [List.length_take, hlen]; dsimp only; omega, fun i v hv => ?_⟩
      have hi := (List.getElem?_eq_some_iff.1 hv).1
      rw [List.length_take] at hi
      rw [List.getElem?_take_of_lt (by omega)] at hv
      exact h3.2 i v hv
    · rename_i ha; rw [ha] at h3; dsimp only at h3; subst h3; simp
  · dsimp only
    have hl' : (xs.take (min xs.length dl)).length = min xs.length dl := by rw [List.length_take]; omega
    obtain ⟨h1, h2, h3⟩ := wrs_blk (o := o) (xs.take (min xs.length dl)) 0 p (by rw [hl']; omega)
    rw [hlen]
    exact ⟨room_blk p (by rw [hl']; omega), hK _ h1 h2 h3⟩

theorem By_take (l : List Int) (k : Nat) : (By l).take k = By (l.take k) := by simp [encL, List.map_take]
theorem By_drop (l : List Int) (k : Nat) : (By l).drop k = By (l.drop k) := by simp [encL, List.map_drop]
theorem By_rep (n : Nat) : List.replicate n (Value.int .u8 0) = By (List.replicate n 0) := by simp [encL, Kind.enc]
/-- of the bytes of a page: those that its check sum is of -/
def crcOfB (bs : List Int) : Int := crcSum [bs.take 12, [0, 0, 0, 0], bs.drop 16]
theorem crcOf_ct {τ : Nat → Nat} {s : Sl} {h : Mem} {K : Int → Mem → Prop} {bs : List Int} (q : Holds h s (By bs)) (hc : s.len ≤ s.cap) (hl : 16 ≤ bs.length) (hl2 : bs.length ≤ 2 ^ 36)
    (hK : ∀ h', Ext h h' → K (crcOfB bs) h') : page_crcOf τ s h K := by
  have hlen : s.len = bs.length := by rw [q.1, By_len]
  refine slc_ct q hc (by omega) (by omega) (by rw [By_len]; omega) fun s3 q3 _ _ a3 => ?_
  refine slc_ct q hc (by omega) (by omega) (by rw [By_len]; omega) fun s4 q4 _ _ a4 => ?_
  refine mks_ct (by omega) (by omega) (by omega) fun h1 hb1 hE1 hs1 => ?_
  refine al_ct fun h2 hb2 hE2 hs2 => ?_
  have q5 : Holds h1 ⟨some ⟨h.size, 0, none⟩, 4, 4⟩ (By [0, 0, 0, 0]) := by
    obtain ⟨e, he⟩ := hb1
    exact holds_new 4 he
  have e3 : ((By bs).drop (0 : Int).toNat).take ((12 : Int).toNat - (0 : Int).toNat) = By (bs.take 12) := by simp [By_take]
  have e4 : ((By bs).drop (16 : Int).toNat).take (((s.len : Int)).toNat - (16 : Int).toNat) = By (bs.drop 16) := by
    rw [By_drop, List.take_of_length_le]; rfl
    rw [By_len, List.length_drop, hlen]; simp
  rw [e3] at q3
  rw [e4] at q4
  refine parts_ct (L := [(s3, bs.take 12), (⟨some ⟨h.size, 0, none⟩, 4, 4⟩, [0, 0, 0, 0]), (s4, bs.drop 16)]) ⟨holds_new 3 hb2, ?_⟩ (by simp) ?_ fun h3 hE3 => hK h3 ((hE1.ext hE2).ext hE3)
  · intro p hp
    simp only [Bl, List.map_cons, List.map_nil, List.mem_cons, List.not_mem_nil, or_false] at hp
    rcases hp with rfl | rfl | rfl
    · exact q3.gete (hE1.ext hE2)
    · exact q5.gete hE2
    · exact q4.gete (hE1.ext hE2)
  · intro p hp
    simp only [List.mem_cons, List.not_mem_nil, or_false] at hp
    rcases hp with rfl | rfl | rfl
    · simp; omega
    · simp
    · simp; omega

def pgHead (k n : Int) : List Int := [84, 77, 1, IntKind.u8.wrap k] ++ leB 4 (IntKind.u64.wrap n) ++ List.replicate 4 0
def pgTail (bs : List Int) : List Int := bs ++ List.replicate (4080 - bs.length) 0
/-- a page's bytes -/
def pageB (k n : Int) (bs : List Int) : List Int := pgHead k n ++ leB 4 (IntKind.u64.wrap (crcSum [pgHead k n, [0, 0, 0, 0], pgTail bs])) ++ pgTail bs
theorem pgHead_len (k n : Int) : (pgHead k n).length = 12 := by simp [pgHead, leB_len]
theorem pgTail_len {bs : List Int} (h : bs.length ≤ 4080) : (pgTail bs).length = 4080 := by simp [pgTail]; omega
theorem pageB_len (k n : Int) {bs : List Int} (h : bs.length ≤ 4080) : (pageB k n bs).length = 4096 := by simp only [pageB, List.length_append, pgHead_len, leB_len, pgTail_len h]
theorem over_mid {a m b x : List Value} {i : Nat} (hi : i = a.length) (hx : x.length = m.length) : over (a ++ m ++ b) i x = a ++ x ++ b := by
  subst hi
  simp only [over, List.append_assoc, List.take_left', List.append_cancel_left_eq]
  rw [List.drop_append, List.drop_of_length_le (by omega)]
  simp [hx]

theorem pageBytes_ct {τ : Nat → Nat} {k n : Int} {s : Sl} {h : Mem} {K : Sl → Int → Mem → Prop} {bs : List Int} (q : Holds h s (By bs))
    (hbad : (k < 1 ∨ 7 < k ∨ 4080 < bs.length) → ∀ h', Ext h h' → K ⟨none, 0, 0⟩ 2 h')
    (hK : 1 ≤ k → k ≤ 7 → bs.length ≤ 4080 → ∀ r h', Vec h' r (By (pageB k n bs)) → New h r → Ext h h' → K r 0 h') : page_Bytes τ k n s h K := by
  have hlen : s.len = bs.length := by rw [q.1, By_len]
  refine al_ct fun h1 hb1 hE1 hs1 => ?_
  have hB : Blk h1 h.size [.int .i64 k, .int .u32 n, .slice s.base s.len s.cap] := ⟨τ 10, hb1⟩
  intro J1
  have hT : (k < 1 ∨ 7 < k ∨ 4080 < bs.length) → J1 true h1 := fun hb => ifB_t rfl (hbad hb h1 hE1)
  have hF : 1 ≤ k → k ≤ 7 → bs.length ≤ 4080 → J1 false h1 := by
    intro hk1 hk7 hbl
    refine ifB_f rfl ?_
    refine ld_ct (k := .int .i64) k (by rw [hB.rd]; rfl) ?_
    refine al_ct fun h2 hb2 hE2 hs2 => ?_
    refine ld_ct (k := .int .u32) n (by rw [(hB.gete hE2).rd]; rfl) ?_
    refine word_ct (.inr (.inl rfl)) (holds_new 4 hb2) (By_ones [84, 77, 1, IntKind.u8.wrap k]) (by simp) fun s14 h3 hv14 hn14 hE3 => ?_
    have hl14 : s14.len = 8 := by rw [hv14.len]; simp [encL, leB_len]
    have e14 : ([Value.int .u8 84, .int .u8 77, .int .u8 1, .int .u8 (IntKind.u8.wrap k)] : List Value) ++ By (leB (4 : Int).toNat (IntKind.u64.wrap n)) = By ([84, 77, 1, IntKind.u8.wrap k] ++ leB 4 (IntKind.u64.wrap n)) := by rw [By_app]; rfl
    rw [e14] at hv14
    obtain ⟨hd, hhd⟩ : ∃ hd, hd = [84, 77, 1, IntKind.u8.wrap k] ++ leB 4 (IntKind.u64.wrap n) := ⟨_, rfl⟩
    have hhdl : hd.length = 8 := by rw [hhd]; simp [leB_len]
    rw [← hhd] at hv14
    rw [hl14, w64 (by omega) (by omega)]
    obtain ⟨N, hN⟩ : ∃ N : Nat, N = 4088 := ⟨_, rfl⟩
    refine app0_ct hv14 rfl (by omega) (by rw [By_len]; omega) (by rw [By_len]; omega) fun s15 h4 hv15 hu4 hat15 => ?_
    have hNt : (4096 - ((8 : Nat) : Int)).toNat = N := by omega
    rw [hNt] at hv15
    have hx24 : Ext h2 h4 := Upd.above hE3 hu4 hn14
    rcases hv15 with ⟨_, hnil⟩ | ⟨b, js, hs15, hb15⟩
    · exfalso
      have := congrArg List.length hnil
      simp only [List.length_append, By_len, List.length_nil] at this; omega
    have hbn : h2.size ≤ b := by
      rcases hat15 b (by rw [hs15]; exact ⟨_, rfl, rfl⟩) with h | h
      · exact hn14 b h
      · have := hE3.sz; omega
    have hl15 : (By hd ++ List.replicate N (Value.int .u8 0)).length = 4096 := by rw [List.length_append, By_len, List.length_replicate]; omega
    rw [hl15] at hs15
    subst hs15
    refine slc_blk (by omega) (by dsimp only; omega) (by dsimp only; omega) (by omega) ?_
    refine ld_ct (k := .sl) s (by rw [(hB.gete (hE2.ext hx24)).rd]; rfl) ?_
    have hcs : By hd ++ List.replicate N (Value.int .u8 0) ++ js = (By hd ++ List.replicate 8 (Value.int .u8 0)) ++ List.replicate bs.length (Value.int .u8 0) ++ (List.replicate (4080 - bs.length) (Value.int .u8 0) ++ js) := by
      simp only [List.append_assoc, List.append_cancel_left_eq]
      rw [← List.append_assoc, ← List.append_assoc, List.replicate_append_replicate, List.replicate_append_replicate]
      congr 2; omega
    have hmin : min (By bs).length ((((4096 : Nat) : Int)).toNat - (16 : Int).toNat) = bs.length := by rw [By_len]; simp; omega
    refine cpy_ct hb15 (q.gete ((hE1.ext hE2).ext hx24)) (By_ones bs) (by rw [hmin, List.length_append, hl15]; simp; omega) fun h5 hb5 hu5 hs5 => ?_
    rw [hmin, List.take_of_length_le (by rw [By_len]; exact Nat.le_refl _), hcs, over_mid (by simp [By_len, hhdl]) (by simp [By_len])] at hb5
    have hpg : By hd ++ List.replicate 8 (Value.int .u8 0) ++ By bs ++ (List.replicate (4080 - bs.length) (Value.int .u8 0) ++ js) = By (pgHead k n ++ List.replicate 4 0 ++ pgTail bs) ++ js := by
      rw [By_rep, By_rep, pgHead, ← hhd]
      simp only [By_app, pgTail, ← List.append_assoc]
      congr 3
      simp only [List.append_assoc, ← By_app, List.replicate_append_replicate]
    rw [hpg] at hb5
    have hx25 : Ext h2 h5 := Upd.above hx24 hu5 (fun k hk => by omega)
    refine slc_blk (by omega) (by omega) (by omega) (by omega) ?_
    have hpl : (pgHead k n ++ List.replicate 4 0 ++ pgTail bs).length = 4096 := by simp [pgHead_len, pgTail_len hbl]
    have hv5 : Vec h5 ⟨some ⟨b, 0, none⟩, 4096, 4096 + js.length⟩ (By (pgHead k n ++ List.replicate 4 0 ++ pgTail bs)) := .inr ⟨b, js, by rw [By_len, hpl], hb5⟩
    refine crcOf_ct hv5.holds (by dsimp only; omega) (by omega) (by omega) fun h6 hE6 => ?_
    have hcrc : crcOfB (pgHead k n ++ List.replicate 4 0 ++ pgTail bs) = crcSum [pgHead k n, [0, 0, 0, 0], pgTail bs] := by
      unfold crcOfB
      rw [List.append_assoc, List.take_left' (pgHead_len k n)]
      congr 3
    rw [hcrc]
    refine word_ct (.inr (.inl rfl)) (holds_nil h6) ones_nil (by simp) fun s21 h7 hv21 hn21 hE7 => ?_
    rw [List.nil_append] at hv21
    have hb7 := hb5.gete (hE6.ext hE7)
    have hbl5 := hb5.lt
    have hmin2 : min (By (leB (4 : Int).toNat (IntKind.u64.wrap (crcSum [pgHead k n, [0, 0, 0, 0], pgTail bs])))).length ((16 : Int).toNat - (12 : Int).toNat) = 4 := by rw [By_len, leB_len]; rfl
    refine cpy_ct hb7 hv21.holds (By_ones _) (by rw [hmin2, List.length_append, By_len, hpl]; simp; omega) fun h8 hb8 hu8 hs8 => ?_
    refine hK hk1 hk7 hbl _ h8 (.inr ⟨b, js, by rw [By_len, pageB_len _ _ hbl], ?_⟩) ?_ ?_
    · rw [hmin2, List.take_of_length_le (by rw [By_len, leB_len]; exact Nat.le_refl _)] at hb8
      have : By (pgHead k n ++ List.replicate 4 0 ++ pgTail bs) ++ js = By (pgHead k n) ++ By (List.replicate 4 0) ++ (By (pgTail bs) ++ js) := by simp only [By_app, List.append_assoc]
      rw [this, over_mid (by rw [By_len, pgHead_len]; rfl) (by rw [By_len, By_len, leB_len, List.length_replicate]; rfl)] at hb8
      simp only [pageB, By_app, List.append_assoc] at hb8 ⊢; exact hb8
    · intro k hk; have := at_lit hk; have := hE1.sz; have := hE2.sz; omega
    · exact (hE1.ext hE2).ext (Upd.above (hx25.ext (hE6.ext hE7)) hu8 (fun k hk => by omega))
  refine ld_ct (k := .int .i64) k (by rw [hB.rd]; rfl) ?_
  refine ifB_c (fun hc => hT (.inl (by simpa using hc))) (fun hc1 => ?_)
  refine ld_ct (k := .int .i64) k (by rw [hB.rd]; rfl) ?_
  refine ifB_c (fun hc => hT (.inr (.inl (by simpa using hc)))) (fun hc2 => ?_)
  refine ld_ct (k := .sl) s (by rw [hB.rd]; rfl) ?_
  simp only [decide_eq_false_iff_not, Int.not_lt] at hc1 hc2
  by_cases hb : 4080 < bs.length
  · rw [decide_eq_true (by omega)]; exact hT (.inr (.inr hb))
  · rw [decide_eq_false (by omega)]; exact hF (by omega) (by omega) (by omega)
end Go.TS
/- Contracts: slices.Delete of one element. -/
namespace Go.TS
open Go
set_option linter.unusedVariables false

theorem app_room_ct {t : TypeId} {z : Value} {bytes : Nat} {b l c : Nat} {x : Sl} {h : Mem} {K : Sl → Mem → Prop} {cs ys : List Value} (p : Blk h b cs) (q : Holds h x ys) (hone : Ones ys) (hl : l + ys.length ≤ c) (hc : c ≤ cs.length)
    (hK : ∀ h', Blk h' b (over cs l ys) → Upd (· = b) h h' → h'.size = h.size → K ⟨some ⟨b, 0, none⟩, l + ys.length, c⟩ h') : app t #[z] 1 bytes ⟨some ⟨b, 0, none⟩, l, c⟩ x h K := by
  obtain ⟨hql, hqc⟩ := q
  refine ⟨ys, by simpa [hql] using hqc, hone, fun _ => ?_, fun hg => by dsimp only at hg; omega⟩
  dsimp only
  rw [add_n, Nat.zero_add, Nat.mul_one, hql]
  obtain ⟨h1, h2, h3⟩ := wrs_blk (o := l) ys 0 p (by omega)
  exact ⟨room_blk p (by omega), hK _ h1 h2 h3⟩
theorem clr_ct {b o l c : Nat} {z : Value} {h : Mem} {K : Mem → Prop} {cs : List Value} (p : Blk h b cs) (hz : oneC z = true) (hl : o + l ≤ cs.length)
    (hK : ∀ h', Blk h' b (over cs o (List.replicate l z)) → Upd (· = b) h h' → h'.size = h.size → K h') : clr #[z] ⟨some ⟨b, o, none⟩, l, c⟩ h K := by
  unfold clr
  dsimp only
  have hsz : (Builtin.zeroCells #[z] l).size = l := by rw [← Array.length_toList, zeroCells_len]
  rw [hsz, zeroCells_eq]
  obtain ⟨h1, h2, h3⟩ := wrs_blk (o := o) (List.replicate l z) 0 p (by rw [List.length_replicate]; omega)
  exact ⟨fun v hv => by rw [List.eq_of_mem_replicate hv]; exact hz, room_blk p hl, hK _ h1 h2 h3⟩
theorem delete_ct {τ : Nat → Nat} {s : Sl} {n : Nat} {h : Mem} {K : Sl → Mem → Prop} {xs : List Value} (p : Vec h s xs) (ho : Ones xs) (hn : n < xs.length) (hl : xs.length ≤ 2 ^ 37)
    (hK : ∀ r h', Vec h' r (xs.take n ++ xs.drop (n + 1)) → Upd (At s) h h' → (∀ b, At r b → At s b) → r.base ≠ none → K r h') : slices_Delete_int_int τ s n (n + 1 : Nat) h K := by
  rcases p with ⟨_, rfl⟩ | ⟨b, js, rfl, hb⟩
  · simp at hn
  · refine ⟨by omega, by omega, by dsimp only; omega, by dsimp only; omega, ?_⟩
    refine ifB_f (by simp; omega) ?_
    refine slc_blk (by omega) (by omega) (by omega) (by simp; omega) ?_
    have hv : Vec h ⟨some ⟨b, 0, none⟩, xs.length, xs.length + js.length⟩ xs := .inr ⟨b, js, rfl, hb⟩
    refine slc_ct hv.holds (by dsimp only; omega) (by omega) (by dsimp only; omega) (by dsimp only; omega) fun s7 q7 _ _ _ => ?_
    have e7 : (xs.drop ((n + 1 : Nat) : Int).toNat).take ((((xs.length : Nat) : Int)).toNat - ((n + 1 : Nat) : Int).toNat) = xs.drop (n + 1) := by
      simp only [Int.toNat_natCast]
      rw [List.take_of_length_le (by rw [List.length_drop]; omega)]
    rw [e7] at q7
    have hdl : (xs.drop (n + 1)).length = xs.length - (n + 1) := List.length_drop
    have hcl : (xs ++ js).length = xs.length + js.length := List.length_append
    refine app_room_ct hb q7 (fun v hv => ho v (List.mem_of_mem_drop hv)) (by rw [hdl]; omega) (by rw [hcl]; omega) fun h1 hb1 hu1 hs1 => ?_
    rw [hdl]
    refine slc_blk (by omega) (by dsimp only; omega) (by dsimp only; omega) (by dsimp only; omega) ?_
    have hol : (over (xs ++ js) ((n : Int).toNat - (0 : Int).toNat) (xs.drop (n + 1))).length = xs.length + js.length := by rw [over_len (by rw [hdl, hcl]; omega), hcl]
    refine clr_ct hb1 rfl (by rw [hol]; dsimp only; omega) fun h2 hb2 hu2 hs2 => ?_
    refine hK _ h2 (.inr ⟨b, (Value.int .i64 0) :: js, ?_, ?_⟩) ((hu1.trans hu2 (fun _ _ h => h)).mono (fun k _ hk => ⟨_, rfl, hk.symm⟩)) (fun k hk => ⟨_, rfl, (at_lit hk).symm⟩) (by simp)
    · have : (xs.take n ++ xs.drop (n + 1)).length = xs.length - 1 := by rw [List.length_append, List.length_take, hdl]; omega
      rw [this]
      simp only [Sl.mk.injEq, Option.some.injEq, Addr.mk.injEq, List.length_cons, true_and, and_true]
      omega
    · have hln : (xs.take n).length = n := by rw [List.length_take]; omega
      have e1 : over (xs ++ js) ((n : Int).toNat - (0 : Int).toNat) (xs.drop (n + 1)) = (xs.take n ++ xs.drop (n + 1)) ++ [xs[xs.length - 1]] ++ js := by
        unfold over
        rw [Int.toNat_natCast, show n - (0 : Int).toNat = n from rfl, hdl, List.take_append_of_le_length (by omega)]
        have : n + (xs.length - (n + 1)) = xs.length - 1 := by omega
        rw [this, List.drop_append_of_le_length (by omega)]
        have h3 : xs.drop (xs.length - 1) = [xs[xs.length - 1]] := by
          rw [List.drop_eq_getElem_cons (by omega)]
          have : xs.length - 1 + 1 = xs.length := by omega
          rw [this, List.drop_length]
        rw [h3, List.append_assoc]
        simp only [List.append_assoc]
      rw [e1] at hb2
      dsimp only at hb2
      have hlen2 : (xs.take n ++ xs.drop (n + 1)).length = xs.length - 1 := by rw [List.length_append, hln, hdl]; omega
      rw [over_mid (by rw [hlen2]; omega) (by rw [List.length_replicate]; simp; omega)] at hb2
      have h1r : ((xs.length : Nat) : Int).toNat - (((n : Int).toNat - (0 : Int).toNat + (xs.length - (n + 1)) : Nat) : Int).toNat = 1 := by omega
      rw [h1r] at hb2
      simpa using hb2
end Go.TS
/- Contracts: slices.Insert, slices.Delete. -/
namespace Go.TS
open Go
set_option linter.unusedVariables false

theorem app0_new_ct {t : TypeId} {z : Value} {bytes : Nat} {s : Sl} {n : Int} {h : Mem} {K : Sl → Mem → Prop} {xs : List Value} (p : Vec h s xs) (hz : oneC z = true) (hn : 0 ≤ n)
    (hb : (xs.length + n.toNat) * bytes ≤ 2 ^ 40) (hb1 : xs.length + n.toNat ≤ 2 ^ 40) (hg : s.cap < xs.length + n.toNat)
    (hK : ∀ b c h', (∃ js, Blk h' b (xs ++ List.replicate n.toNat z ++ js) ∧ c = xs.length + n.toNat + js.length) → h.size ≤ b → Ext h h' → K ⟨some ⟨b, 0, none⟩, xs.length + n.toNat, c⟩ h') : app0 t #[z] 1 bytes s n h K := by
  have hones : one (Builtin.zeroCells #[z] n.toNat).toList := by
    rw [zeroCells_eq]; intro v hv; rw [List.eq_of_mem_replicate hv]; exact hz
  have hlen : s.len = xs.length := p.len
  refine ⟨hn, Nat.le_trans (Nat.mul_le_mul_right _ (by omega)) hb, by omega, hones, Nat.one_pos, fun hroom => by omega, fun hgrow => ?_⟩
  rw [hlen]
  refine ⟨hb1, hb, xs, ?_, ?_⟩
  · have := p.holds.2; rw [Nat.mul_one]; exact this
  · intro c hc
    refine hK h.size c _ ⟨(Builtin.zeroCells #[z] (c - (xs.length + n.toNat))).toList, ⟨t, ?_⟩, ?_⟩ (Nat.le_refl _) ⟨by simp, fun b hb _ => ?_⟩
    · rw [← zeroCells_eq]; simp
    · rw [zeroCells_len]; omega
    · rw [Array.getElem?_push_lt hb]; simp [hb]

theorem cpyN_ct {b o dl dc : Nat} {x : Sl} {a : Addr} {h : Mem} {K : Nat → Mem → Prop} {cs vs : List Value} (p : Blk h b cs) (hxb : x.base = some a) (hk : min x.len dl = vs.length) (q : cellsAt h a vs) (ho : Ones vs) (hl : o + vs.length ≤ cs.length)
    (hK : ∀ h', Blk h' b (over cs o vs) → Upd (· = b) h h' → h'.size = h.size → K vs.length h') : cpy 1 ⟨some ⟨b, o, none⟩, dl, dc⟩ x h K := by
  refine ⟨vs, ?_, ho, ?_⟩
  · unfold slCells
    rw [hxb]
    dsimp only
    exact ⟨by omega, q⟩
  · dsimp only
    obtain ⟨h1, h2, h3⟩ := wrs_blk (o := o) vs 0 p (by omega)
    rw [hk]
    exact ⟨room_blk p (by omega), hK _ h1 h2 h3⟩
theorem insert_ct {τ : Nat → Nat} {s x : Sl} {n : Nat} {h : Mem} {K : Sl → Mem → Prop} {xs ys : List Value} {ax : Addr} {bx : Nat} {cx : List Value} (p : Vec h s xs) (ho : Ones xs) (hn : n ≤ xs.length)
    (hq : Holds h x ys) (hax : x.base = some ax) (hab : ax.block = bx) (hbx : Blk h bx cx) (hcx : cx ≠ []) (hoy : Ones ys) (hy : ys ≠ []) (hd : ¬ At s bx) (hl : xs.length + ys.length ≤ 2 ^ 37)
    (hK : ∀ r h', Vec h' r (xs.take n ++ ys ++ xs.drop n) → Upd (At s) h h' → (∀ b, At r b → At s b ∨ h.size ≤ b) → K r h') : slices_Insert_int_int τ s n x h K := by
  have hyp : 0 < ys.length := by cases ys with | nil => exact absurd rfl hy | cons a l => simp
  have hsl := p.len
  have hxl : x.len = ys.length := hq.1
  have hcap : s.len ≤ s.cap := by
    rcases p with ⟨rfl, rfl⟩ | ⟨b, js, rfl, hb⟩
    · exact Nat.le_refl _
    · dsimp only; omega
  refine ⟨by omega, by omega, by omega, ?_⟩
  refine ifB_f (by rw [hxl]; simp; omega) ?_
  refine ifB_c (fun hc => ?_) (fun hc => ?_)
  · have hne : n = xs.length := by simp at hc; omega
    refine app_ct p hq hoy (by omega) (by omega) fun r h1 hr hu hat => ?_
    refine hK r h1 ?_ hu hat
    subst hne
    rw [List.take_length, List.drop_length, List.append_nil]; exact hr
  · have hne : n ≠ xs.length := by simp at hc; omega
    rcases p with ⟨_, rfl⟩ | ⟨b, js, rfl, hb⟩
    · simp at hn; subst hn; simp at hne
    · have hbne : bx ≠ b := fun h => hd (h ▸ ⟨_, rfl, rfl⟩)
      dsimp only at hc ⊢
      rw [hxl, w64 (by omega) (by omega)]
      refine ifB_c (fun hc2 => ?_) (fun hc2 => ?_)
      · have hgrow : xs.length + js.length < xs.length + ys.length := by simp at hc2; omega
        refine slc_blk (by omega) (by omega) (by omega) (by simp; omega) ?_
        have h7 : Vec h ⟨some ⟨b, 0 + (0 : Int).toNat, none⟩, (n : Int).toNat - (0 : Int).toNat, xs.length + js.length - (0 : Int).toNat⟩ (xs.take n) := by
          refine .inr ⟨b, xs.drop n ++ js, ?_, ?_⟩
          · simp; omega
          · rw [← List.append_assoc, List.take_append_drop]; exact hb
        have hln : (xs.take n).length = n := by rw [List.length_take]; omega
        rw [w64 (by omega) (by omega)]
        have hnt : ((xs.length : Int) + (ys.length : Int) - (n : Int)).toNat = xs.length + ys.length - n := by omega
        refine app0_new_ct h7 rfl (by omega) (by rw [hln]; omega) (by rw [hln]; omega) (by rw [hln]; simp; omega) fun b8 c8 h1 hj hb8 hE => ?_
        obtain ⟨js8, hB8, hc8⟩ := hj
        simp only [hln, hnt] at hc8 hB8 ⊢
        have htot : n + (xs.length + ys.length - n) = xs.length + ys.length := by omega
        rw [htot] at hc8 ⊢
        refine slc_blk (by omega) (by omega) (by omega) (by omega) ?_
        have hlen8 : (xs.take n ++ List.replicate (xs.length + ys.length - n) (Value.int .i64 0) ++ js8).length = xs.length + ys.length + js8.length := by simp; omega
        have hmin : min ys.length (((xs.length + ys.length : Nat) : Int).toNat - (n : Int).toNat) = ys.length := by omega
        refine cpy_ct hB8 (hq.gete hE) hoy (by rw [hmin, hlen8]; simp; omega) fun h2 hB2 hu2 hs2 => ?_
        rw [hmin, List.take_length] at hB2
        rw [w64 (by omega) (by omega)]
        refine slc_blk (by omega) (by omega) (by omega) (by omega) ?_
        refine slc_blk (by omega) (by omega) (by omega) (by simp; omega) ?_
        have hE2 : Ext h h2 := Upd.above hE hu2 (fun k hk => by omega)
        have hold : Holds h2 ⟨some ⟨b, 0 + (n : Int).toNat, none⟩, ((xs.length : Nat) : Int).toNat - (n : Int).toNat, xs.length + js.length - (n : Int).toNat⟩ (xs.drop n) := by
          have hb2 := hb.gete hE2
          have hdl : (xs.drop n).length = xs.length - n := List.length_drop
          refine ⟨by dsimp only; omega, rfl, fun i v hv => ?_⟩
          have hi := (List.getElem?_eq_some_iff.1 hv).1
          rw [add_n, hb2.rd]
          rw [List.getElem?_drop] at hv
          rw [List.getElem?_append_left (by omega)]
          have : 0 + (n : Int).toNat + i = n + i := by omega
          rw [this]; exact hv
        have hmin2 : min (xs.drop n).length (((xs.length + ys.length : Nat) : Int).toNat - ((n : Int) + (ys.length : Int)).toNat) = (xs.drop n).length := by rw [List.length_drop]; omega
        refine cpy_ct hB2 hold (fun v hv => ho v (List.mem_of_mem_drop hv)) (by rw [hmin2, over_len (by rw [hlen8]; simp; omega), hlen8, List.length_drop]; omega) fun h3 hB3 hu3 hs3 => ?_
        rw [hmin2, List.take_length] at hB3
        have hfinal : over (over (xs.take n ++ List.replicate (xs.length + ys.length - n) (Value.int .i64 0) ++ js8) (0 + (n : Int).toNat) ys) (0 + ((n : Int) + (ys.length : Int)).toNat) (xs.drop n) = xs.take n ++ ys ++ xs.drop n ++ js8 := by
          have e1 : List.replicate (xs.length + ys.length - n) (Value.int .i64 0) = List.replicate ys.length (Value.int .i64 0) ++ List.replicate (xs.length - n) (Value.int .i64 0) := by
            rw [List.replicate_append_replicate]; congr 1; omega
          have e2 : xs.take n ++ List.replicate (xs.length + ys.length - n) (Value.int .i64 0) ++ js8 = xs.take n ++ List.replicate ys.length (Value.int .i64 0) ++ (List.replicate (xs.length - n) (Value.int .i64 0) ++ js8) := by
            rw [e1]; simp only [List.append_assoc]
          rw [e2, over_mid (by rw [hln]; omega) (by simp), ← List.append_assoc, over_mid (by rw [List.length_append, hln]; omega) (by simp)]
        rw [hfinal] at hB3
        have hE3 : Ext h h3 := Upd.above hE2 hu3 (fun k hk => by omega)
        refine hK _ h3 (.inr ⟨b8, js8, ?_, hB3⟩) (hE3.mono (fun _ _ h => h.elim)) (fun k hk => by have := at_lit hk; omega)
        have hll : (xs.take n ++ ys ++ xs.drop n).length = xs.length + ys.length := by simp; omega
        rw [hll, hc8]
      · have hroom : xs.length + ys.length ≤ xs.length + js.length := by simp at hc2; omega
        refine slc_blk (by omega) (by omega) (by omega) (by simp; omega) ?_
        rw [w64 (by omega) (by omega)]
        refine slc_blk (by omega) (by dsimp only; omega) (by dsimp only; omega) (by omega) ?_
        obtain ⟨e1, he1⟩ := hbx
        obtain ⟨e2, he2⟩ := hb
        have hb : Blk h b (xs ++ js) := ⟨e2, he2⟩
        refine ⟨ax, _, _, e1, _, e2, hax, rfl, by rw [hab]; exact hbne, by rw [hab]; exact he1, he2, by rw [List.size_toArray, List.length_append]; omega, ?_⟩
        refine ifB_t rfl ?_
        refine slc_blk (by omega) (by dsimp only; omega) (by dsimp only; omega) (by omega) ?_
        refine slc_blk (by omega) (by dsimp only; omega) (by dsimp only; omega) (by omega) ?_
        have hln : (xs.take n).length = n := by rw [List.length_take]; omega
        have hdl : (xs.drop n).length = xs.length - n := List.length_drop
        have hCl : (xs ++ js).length = xs.length + js.length := List.length_append
        refine cpyN_ct (vs := xs.drop n) hb rfl (by dsimp only; rw [hdl]; omega) (fun i v hv => ?_) (fun v hv => ho v (List.mem_of_mem_drop hv)) (by rw [hdl, hCl]; omega) fun h2 hB2 hu2 hs2 => ?_
        · have hi := (List.getElem?_eq_some_iff.1 hv).1
          rw [add_n, hb.rd, List.getElem?_append_left (by omega)]
          rw [List.getElem?_drop] at hv
          have h0 : 0 + (0 : Int).toNat + (n : Int).toNat + i = n + i := by omega
          rw [h0]; exact hv
        refine slc_blk (by omega) (by dsimp only; omega) (by dsimp only; omega) (by omega) ?_
        have hol : (over (xs ++ js) (0 + (0 : Int).toNat + ((n : Int) + (ys.length : Int)).toNat) (xs.drop n)).length = xs.length + js.length := by rw [over_len (by rw [hdl, hCl]; omega), hCl]
        have hqx := hq.get hu2 (fun k hk hkb => by
          obtain ⟨a', ha', hk'⟩ := hk
          rw [hax] at ha'; cases ha'
          exact hbne (by rw [← hab, hk', hkb]))
        refine cpyN_ct (vs := ys) hB2 hax (by dsimp only; omega) ?_ hoy (by rw [hol]; omega) fun h3 hB3 hu3 hs3 => ?_
        · have h9 := hqx.2
          unfold slCells at h9
          rw [hax] at h9
          exact h9.2
        have hfin : over (over (xs ++ js) (0 + (0 : Int).toNat + ((n : Int) + (ys.length : Int)).toNat) (xs.drop n)) (0 + (0 : Int).toNat + (n : Int).toNat) ys = xs.take n ++ ys ++ xs.drop n ++ js.drop ys.length := by
          have hi : 0 + (0 : Int).toNat + ((n : Int) + (ys.length : Int)).toNat = n + ys.length := by omega
          rw [hi]
          have e3 : over (xs ++ js) (n + ys.length) (xs.drop n) = xs.take n ++ (xs.drop n ++ js).take ys.length ++ (xs.drop n ++ js.drop ys.length) := by
            unfold over
            have t1 : (xs ++ js).take (n + ys.length) = xs.take n ++ (xs.drop n ++ js).take ys.length := by
              conv => lhs; rw [← List.take_append_drop n xs, List.append_assoc]
              rw [List.take_append, hln, List.take_of_length_le (by omega)]
              congr 2; omega
            have t2 : (xs ++ js).drop (n + ys.length + (xs.drop n).length) = js.drop ys.length := by
              rw [List.drop_append, List.drop_of_length_le (by omega), hdl, List.nil_append]
              congr 1; omega
            rw [t1, t2]; simp only [List.append_assoc]
          rw [e3, over_mid (by rw [hln]; omega) (by rw [List.length_take, List.length_append, hdl]; omega)]; simp only [List.append_assoc]
        rw [hfin] at hB3
        have hu : Upd (At ⟨some ⟨b, 0, none⟩, xs.length, xs.length + js.length⟩) h h3 := (hu2.trans hu3 (fun _ _ h => h)).mono (fun k _ hk => ⟨_, rfl, hk.symm⟩)
        refine hK _ h3 (.inr ⟨b, js.drop ys.length, ?_, hB3⟩) hu (fun k hk => .inl ⟨_, rfl, (at_lit hk).symm⟩)
        simp only [List.length_append, List.length_drop, hln, Sl.mk.injEq, Option.some.injEq, Addr.mk.injEq, true_and, and_true]
        omega
end Go.TS
/- Contracts: Disk.Flush: all sectors that are cached are laid over the disk's bytes, whatever order the map is gone through in. -/
namespace Go.TS
open Go
set_option linter.unusedVariables false

/-- cells laid over cells -/
def ovF (F : Nat → Value) (q : Nat × List Value) : Nat → Value := fun j => if q.1 ≤ j ∧ j < q.1 + q.2.length then (q.2[j - q.1]?).getD undef else F j
theorem ovF_in (F : Nat → Value) (q : Nat × List Value) {j : Nat} (h : q.1 ≤ j ∧ j < q.1 + q.2.length) : ovF F q j = (q.2[j - q.1]?).getD undef := if_pos h
theorem ovF_out (F : Nat → Value) (q : Nat × List Value) {j : Nat} (h : ¬ (q.1 ≤ j ∧ j < q.1 + q.2.length)) : ovF F q j = F j := if_neg h
theorem ovF_comm (F : Nat → Value) (x y : Nat × List Value) (h : x = y ∨ x.1 + x.2.length ≤ y.1 ∨ y.1 + y.2.length ≤ x.1) : ovF (ovF F x) y = ovF (ovF F y) x := by
  rcases h with rfl | h
  · rfl
  funext j
  unfold ovF
  by_cases h1 : y.1 ≤ j ∧ j < y.1 + y.2.length
  · by_cases h2 : x.1 ≤ j ∧ j < x.1 + x.2.length
    · omega
    · rw [if_pos h1, if_neg h2, if_pos h1]
  · by_cases h2 : x.1 ≤ j ∧ j < x.1 + x.2.length
    · rw [if_neg h1, if_pos h2, if_pos h2]
    · rw [if_neg h1, if_neg h2, if_neg h2, if_neg h1]
/-- an entry of the cache: its key, its slice, its stamp, its bytes -/
abbrev FlQ := (Int × Sl × Nat) × List Value
def flT (ob : Nat) (q : FlQ) : Nat × List Value := (ob + q.1.1.toNat * 512, q.2)
structure FlOk (h : Mem) (B cap : Nat) (q : FlQ) : Prop where
  lo : 0 ≤ q.1.1
  hi : (q.1.1.toNat + 1) * 512 ≤ cap
  sm : (q.1.1.toNat + 1) * 512 ≤ 2 ^ 40
  len : q.2.length = 512
  sl : q.1.2.1.len = 512
  cells : slCells h q.1.2.1 512 q.2
  ones : Ones q.2
  ne : ∀ a, q.1.2.1.base = some a → a.block ≠ B ∧ a.block < h.size
theorem rd_same {h h' : Mem} {a : Addr} (hs : h'[a.block]? = h[a.block]?) : rd h' a = rd h a := by unfold rd; rw [hs]
theorem rd_cells {h : Mem} {a : Addr} {v : Value} (hr : rd h a = some v) : ∃ cs e f, h[a.block]? = some (.cells cs e f) := by
  unfold rd at hr
  split at hr
  · rename_i cs e f hc; exact ⟨cs, e, f, hc⟩
  · cases hr
theorem inj_of_nodup_map {α β : Type} {f : α → β} : ∀ {l : List α}, (l.map f).Nodup → ∀ {x y : α}, x ∈ l → y ∈ l → f x = f y → x = y := by
  intro l
  induction l with
  | nil => intro _ x y hx; cases hx
  | cons a l ih =>
    intro h x y hx hy e
    simp only [List.map_cons, List.nodup_cons, List.mem_map, not_exists, not_and] at h
    rcases List.mem_cons.1 hx with ex | hx2
    · rcases List.mem_cons.1 hy with ey | hy2
      · rw [ex, ey]
      · exact absurd (by rw [← ex, e]) (h.1 y hy2)
    · rcases List.mem_cons.1 hy with ey | hy2
      · exact absurd (by rw [← ey, e]) (h.1 x hx2)
      · exact ih h.2 hx2 hy2 e
theorem flush_ct {τ : Nat → Nat} {d : Addr} {r B ob N clk : Nat} {sb : Sl} {m : Ents Sl} {Q : List FlQ} {cs : Array Value} {el : TypeId} {fr : Nat × Nat} {h : Mem} {K : Int → Mem → Prop}
    (hd0 : rd h d = some (Value.slice sb.base sb.len sb.cap)) (hd1 : rd h (d.add 1) = some (.map (some r))) (hd3 : rd h (d.add 3) = some (.pointer none))
    (hr : h[r]? = some (.map (encM .i64 Kind.sl.enc m) clk)) (hkeys : (m.map (·.1)).Nodup) (hst : (m.map (·.2.2)).Nodup) (hclk : ∀ s, s ∈ m.map (·.2.2) → s < clk)
    (hb : sb.base = some ⟨B, ob, none⟩) (hB : h[B]? = some (.cells cs el fr)) (hN : cs.size = N) (hfr : fr.1 = fr.2 ∨ N ≤ fr.1) (hin : ob + sb.cap ≤ N) (hdB : d.block ≠ B)
    (hQ : Q.map (·.1) = m) (hok : ∀ q, q ∈ Q → FlOk h B sb.cap q)
    (hK : ∀ h' cs', h'.size = h.size + 1 → h'[B]? = some (.cells cs' el fr) → cs'.size = N → (∀ j, j < N → cs'[j]? = some ((Q.map (flT ob)).foldl ovF (fun i => (cs[i]?).getD undef) j)) →
      h'[r]? = some (.map #[] clk) → (∀ x, x < h.size → x ≠ B → x ≠ r → h'[x]? = h[x]?) → st (d.add 2) (Value.slice none 0 0) h' fun h => K 0 h) :
    sector_Disk_Flush τ (some d) h K := by
  have hrB : r ≠ B := fun e => by rw [e, hB] at hr; cases hr
  have hrlt : r < h.size := lt_of_some hr
  have hBlt : B < h.size := lt_of_some hB
  obtain ⟨dc, de, df, hdc⟩ := rd_cells hd0
  have hdlt : d.block < h.size := lt_of_some hdc
  have hdr : d.block ≠ r := fun e => by rw [e, hr] at hdc; cases hdc
  have ab : ∀ n, (d.add n).block = d.block := fun n => add_block d n
  -- made, fails
  unfold sector_Disk_Flush sector_Disk_made
  refine ifB_t rfl ?_
  refine ld_ct (k := .map) (some r) hd1 ?_
  refine ifB_f rfl ?_
  unfold sector_Disk_fails
  refine ld_ct (k := .ptr) none hd3 ?_
  refine ifB_t rfl ?_
  refine ifB_f rfl ?_
  refine ⟨some r, hd1, ?_⟩
  refine ⟨_, clk, hr, ?_⟩
  -- the round's relation
  have hQn : (Q.map (·.1.2.2)).Nodup := by rw [← hQ, List.map_map] at hst; exact hst
  have hQk : (Q.map (·.1.1)).Nodup := by rw [← hQ, List.map_map] at hkeys; exact hkeys
  have hQnd : Q.Nodup := List.Pairwise.of_map _ (fun a b h e => h (by rw [e])) hQn
  have hes : ∀ e, e ∈ (encM .i64 Kind.sl.enc m).toList ↔ ∃ q, q ∈ Q ∧ e = ⟨.int .i64 q.1.1, Kind.sl.enc q.1.2.1, q.1.2.2⟩ := by
    intro e
    rw [← hQ]
    simp only [encM, List.map_map, List.mem_map, List.mem_toArray, Array.mem_toList_iff]
    constructor
    · rintro ⟨q, hq, rfl⟩; exact ⟨q, hq, rfl⟩
    · rintro ⟨q, hq, rfl⟩; exact ⟨q, hq, rfl⟩
  have hborn : ∀ e, e ∈ (encM .i64 Kind.sl.enc m).toList → e.born < clk := by
    intro e he
    obtain ⟨q, hq, rfl⟩ := (hes e).1 he
    exact hclk _ (by rw [← hQ, List.map_map]; exact List.mem_map_of_mem hq)
  have hbn : ((encM .i64 Kind.sl.enc m).toList.map (·.born)).Nodup := by
    have : (encM .i64 Kind.sl.enc m).toList.map (·.born) = m.map (·.2.2) := by simp [encM, Function.comp_def]
    rw [this]; exact hst
  have disj : ∀ x, x ∈ Q → ∀ y, y ∈ Q → x = y ∨ (flT ob x).1 + (flT ob x).2.length ≤ (flT ob y).1 ∨ (flT ob y).1 + (flT ob y).2.length ≤ (flT ob x).1 := by
    intro x hx y hy
    by_cases e : x.1.1 = y.1.1
    · left
      exact inj_of_nodup_map hQk hx hy e
    · right
      have := (hok x hx).lo
      have := (hok y hy).lo
      have h1 := (hok x hx).len
      have h2 := (hok y hy).len
      simp only [flT, h1, h2]
      omega
  unfold al
  refine loop_ct (σ := Unit) (fun _ h' => ∃ (S : List FlQ) (c0 : Nat) (cs' : Array Value), S.Nodup ∧ (∀ q, q ∈ S → q ∈ Q) ∧ h'.size = h.size + 1 ∧ clk ≤ c0 ∧ h'[h.size]? = some (.mapIter (some r) clk (S.map (·.1.2.2)).toArray c0) ∧
      h'[B]? = some (.cells cs' el fr) ∧ cs'.size = N ∧ (∀ j, j < N → cs'[j]? = some ((S.map (flT ob)).foldl ovF (fun i => (cs[i]?).getD undef) j)) ∧ (∀ x, x < h.size → x ≠ B → h'[x]? = h[x]?))
    (fun _ h' => match h'[h.size]? with | some (.mapIter _ _ seen _) => (leftOf (encM .i64 Kind.sl.enc m) seen).size | _ => 0) ?_ ?_
  · refine ⟨[], clk, cs, by simp, by simp, by simp, Nat.le_refl _, by simp, ?_, hN, ?_, ?_⟩
    · rw [Array.getElem?_push_lt hBlt, ← hB, Array.getElem?_eq_getElem hBlt]
    · intro j hj
      simp only [List.map_nil, List.foldl_nil]
      rw [Array.getElem?_eq_getElem (by omega)]; rfl
    · intro x hx _
      rw [Array.getElem?_push_lt hx, Array.getElem?_eq_getElem hx]
  rintro _ h' ⟨S, c0, cs', s1, s2, s3, s4, s5, s6, s7, s8, s9⟩
  have hr' : h'[r]? = some (.map (encM .i64 Kind.sl.enc m) clk) := by rw [s9 r hrlt hrB]; exact hr
  dsimp only
  refine ⟨r, clk, _, c0, _, clk, s5, hr', hborn, s4, fun hl => ?_, fun e he => ?_⟩
  · -- all is done
    refine ifB_f rfl ?_
    refine ⟨some r, by rw [rd_same (h := h) (by rw [ab, s9 _ hdlt hdB])]; exact hd1, ?_⟩
    refine ⟨_, clk, hr', ?_⟩
    have hperm : S.Perm Q := by
      refine (List.perm_ext_iff_of_nodup s1 hQnd).2 fun q => ⟨s2 q, fun hq => ?_⟩
      have hmem : (⟨.int .i64 q.1.1, Kind.sl.enc q.1.2.1, q.1.2.2⟩ : MapEntry) ∈ (encM .i64 Kind.sl.enc m).toList := (hes _).2 ⟨q, hq, rfl⟩
      have hnl : ¬ (⟨.int .i64 q.1.1, Kind.sl.enc q.1.2.1, q.1.2.2⟩ : MapEntry) ∈ leftOf (encM .i64 Kind.sl.enc m) (S.map (·.1.2.2)).toArray := by rw [hl]; simp
      simp only [leftOf, Array.mem_filter, not_and] at hnl
      have := hnl (by simpa using hmem)
      simp only [Bool.not_eq_true', Bool.not_eq_false, List.contains_toArray, List.contains_iff_mem, List.mem_map, decide_eq_true_eq, Bool.not_not] at this
      obtain ⟨q', hq', e⟩ : ∃ q', q' ∈ S ∧ q'.1.2.2 = q.1.2.2 := by simpa using this
      have := inj_of_nodup_map hQn (s2 q' hq') hq e
      rw [← this]; exact hq'
    refine hK _ cs' (by simp [s3]) (by rw [Array.getElem?_setIfInBounds_ne hrB]; exact s6) s7 ?_ (by rw [Array.getElem?_setIfInBounds_self_of_lt (by omega)]) ?_
    · intro j hj
      rw [s8 j hj]
      congr 1
      have := List.Perm.foldl_eq' (f := ovF) (hperm.map (flT ob)) (fun x hx y hy z => by
        obtain ⟨x', hx', rfl⟩ := List.mem_map.1 hx
        obtain ⟨y', hy', rfl⟩ := List.mem_map.1 hy
        refine ovF_comm z _ _ ?_
        rcases disj x' (s2 _ hx') y' (s2 _ hy') with e | e
        · exact .inl (by rw [e])
        · exact .inr e) (fun i => (cs[i]?).getD undef)
      rw [this]
    · intro x hx h1 h2
      rw [Array.getElem?_setIfInBounds_ne (Ne.symm h2)]; exact s9 x hx h1
  · -- a round
    refine ifB_t rfl ?_
    obtain ⟨hem, hec⟩ := mem_left he
    obtain ⟨q, hq, rfl⟩ := (hes e).1 hem
    have hqo := hok q hq
    have hqS : q ∉ S := fun hh => by
      have : (S.map (·.1.2.2)).toArray.contains q.1.2.2 = true := by simp; exact ⟨_, _, _, hh⟩
      simp only at hec
      rw [this] at hec; cases hec
    have hiter : (h'.setIfInBounds h.size (.mapIter (some r) clk ((S.map (·.1.2.2)).toArray.push q.1.2.2) clk))[h.size]? = some (.mapIter (some r) clk ((S.map (·.1.2.2)).toArray.push q.1.2.2) clk) := by
      rw [Array.getElem?_setIfInBounds_self_of_lt (by omega)]
    have hoth : ∀ x, x ≠ h.size → (h'.setIfInBounds h.size (.mapIter (some r) clk ((S.map (·.1.2.2)).toArray.push q.1.2.2) clk))[x]? = h'[x]? := fun x hx => Array.getElem?_setIfInBounds_ne (Ne.symm hx)
    generalize hh2 : h'.setIfInBounds h.size (.mapIter (some r) clk ((S.map (·.1.2.2)).toArray.push q.1.2.2) clk) = h2 at hiter hoth
    have hsz2 : h2.size = h.size + 1 := by rw [← hh2]; simp [s3]
    have hold : ∀ x, x < h.size → x ≠ B → h2[x]? = h[x]? := fun x hx hne => by rw [hoth x (by omega)]; exact s9 x hx hne
    have hB2 : h2[B]? = some (.cells cs' el fr) := by rw [hoth B (by omega)]; exact s6
    refine ⟨r, clk, _, _, clk, _, hiter, by rw [hold r hrlt hrB]; exact hr, hem, hbn, ?_⟩
    refine ⟨q.1.1, rfl, q.1.2.1, rfl, ?_⟩
    -- the sector
    have h0 := hqo.lo
    have h1 := hqo.hi
    have hsm := hqo.sm
    have hkk : (q.1.1.toNat : Int) = q.1.1 := Int.toNat_of_nonneg h0
    have e1 : IntKind.i64.wrap (q.1.1 * 512) = q.1.1 * 512 := w64 (by omega) (by omega)
    have e2 : IntKind.i64.wrap ((IntKind.i64.wrap (q.1.1 + 1)) * 512) = (q.1.1 + 1) * 512 := by rw [w64 (x := q.1.1 + 1) (by omega) (by omega), w64 (by omega) (by omega)]
    refine ⟨sb, by rw [rd_same (h := h) (hold _ hdlt hdB)]; exact hd0, ?_⟩
    rw [e1, e2]
    refine ⟨by omega, by omega, by omega, ?_⟩
    have hcut : sb.cut (q.1.1 * 512).toNat ((q.1.1 + 1) * 512).toNat 1 = ⟨some ⟨B, ob + q.1.1.toNat * 512, none⟩, 512, sb.cap - q.1.1.toNat * 512⟩ := by
      have t1 : (q.1.1 * 512).toNat = q.1.1.toNat * 512 := by omega
      have t2 : ((q.1.1 + 1) * 512).toNat = q.1.1.toNat * 512 + 512 := by omega
      unfold Sl.cut
      rw [t1, t2, if_neg (by omega), hb]
      have t3 : q.1.1.toNat * 512 + 512 - q.1.1.toNat * 512 = 512 := by omega
      rw [t3]
      simp only [Option.map_some, add_n, Nat.mul_one]
    rw [hcut]
    have hlen := hqo.len
    refine ⟨q.2, ?_, hqo.ones, ?_⟩
    · rw [hqo.sl]
      have hc := hqo.cells
      have hmn : min 512 512 * 1 = 512 := rfl
      show slCells h2 q.1.2.1 (min 512 512 * 1) q.2
      rw [hmn]
      unfold slCells at hc ⊢
      cases hbs : q.1.2.1.base with
      | none => rw [hbs] at hc; exact hc
      | some a =>
        rw [hbs] at hc
        obtain ⟨n1, n2⟩ := hqo.ne a hbs
        refine ⟨hc.1, fun i v hv => ?_⟩
        rw [rd_same (h := h) (by rw [add_block]; exact hold _ n2 n1)]
        exact hc.2 i v hv
    · dsimp only
      have hoff : ob + q.1.1.toNat * 512 + 512 ≤ N := by omega
      obtain ⟨cs2, w1, w2, w3, w4, w5⟩ := Go.XS.wrs_at q.2 h2 B (ob + q.1.1.toNat * 512) 0 cs' el fr hB2 (by omega)
      simp only [Nat.add_zero] at w3
      refine ⟨Go.XS.room_at hB2 s7 hfr (by omega), ?_⟩
      refine ⟨⟨S ++ [q], clk, cs2, ?_, ?_, ?_, Nat.le_refl _, ?_, w1, by omega, ?_, ?_⟩, ?_⟩
      · rw [List.nodup_append]
        refine ⟨s1, by simp, fun a ha b hb => ?_⟩
        simp at hb; subst hb
        intro e; subst e; exact hqS ha
      · intro x hx
        rcases List.mem_append.1 hx with hx | hx
        · exact s2 x hx
        · simp at hx; rw [hx]; exact hq
      · rw [w4]; exact hsz2
      · rw [w5 _ (by omega), hiter]
        simp
      · intro j hj
        rw [List.map_append, List.foldl_append]
        simp only [List.map_cons, List.map_nil, List.foldl_cons, List.foldl_nil]
        rw [← Array.getElem?_toList, w3]
        have hj8 := s8 j hj
        rw [← Array.getElem?_toList] at hj8
        have hl' : cs'.toList.length = N := by simp [s7]
        by_cases hc : ob + q.1.1.toNat * 512 ≤ j ∧ j < ob + q.1.1.toNat * 512 + 512
        · rw [ovF_in _ _ (by simp only [flT, hlen]; exact hc), List.getElem?_append_right (by rw [List.length_take]; omega), List.length_take, List.getElem?_append_left (by omega)]
          have : j - min (ob + q.1.1.toNat * 512) cs'.toList.length = j - (ob + q.1.1.toNat * 512) := by omega
          rw [this]
          simp only [flT]
          rw [List.getElem?_eq_getElem (by omega)]; rfl
        · rw [ovF_out _ _ (by simp only [flT, hlen]; exact hc)]
          rw [← hj8]
          by_cases hlt : j < ob + q.1.1.toNat * 512
          · rw [List.getElem?_append_left (by rw [List.length_take]; omega), List.getElem?_take, if_pos hlt]
          · rw [List.getElem?_append_right (by rw [List.length_take]; omega), List.getElem?_append_right (by rw [List.length_take]; omega), List.getElem?_drop]
            congr 1
            rw [List.length_take]; omega
      · intro x hx hne
        rw [w5 x hne]; exact hold x hx hne
      · rw [s5, w5 _ (by omega), hiter]
        have := left_shrinks _ _ _ he
        exact this
end Go.TS
