/- Contracts: octet's reader. -/
import Derived.Test.YtgdkafimnpjghaaGreatDoorTcPage
namespace Go.TS
open Go
set_option linter.unusedVariables false

/-- a sound reader: its object, what is left to read -/
def RdrJ (h : Mem) (b : Nat) (s : Sl) (bs : List Int) (pos : Nat) (js : List Value) : Prop :=
  Blk h b (.slice s.base s.len s.cap :: .int .i64 pos :: .int .i64 0 :: .bool true :: js) ∧ Holds h s (By bs) ∧ s.len ≤ s.cap ∧ ¬ At s b ∧ pos ≤ bs.length ∧ bs.length ≤ 2 ^ 36
abbrev Rdr (h : Mem) (b : Nat) (s : Sl) (bs : List Int) (pos : Nat) : Prop := RdrJ h b s bs pos []
theorem octetNew_ct {τ : Nat → Nat} {s : Sl} {h : Mem} {K : Option Addr → Mem → Prop} {bs : List Int} (q : Holds h s (By bs)) (hl : bs.length ≤ 2 ^ 36)
    (hK : ∀ b s' h', Rdr h' b s' bs 0 → h.size ≤ b → Ext h h' → K (some ⟨b, 0, none⟩) h') : octet_New τ s h K := by
  refine clone_byte_ct q (By_ones _) (by rw [By_len]; omega) fun r h1 hv hn hE _ => ?_
  refine al_ct fun h2 hb2 hE2 hs2 => ?_
  have hc : r.len ≤ r.cap := by
    rcases hv with ⟨rfl, _⟩ | ⟨b, js, rfl, _⟩
    · exact Nat.le_refl _
    · dsimp only; omega
  refine hK h1.size r h2 ⟨⟨τ 19, hb2⟩, hv.holds.gete hE2, hc, fun ha => ?_, by omega, hl⟩ hE.sz (hE.ext hE2)
  have := hv.lt _ ha; omega
theorem ready_ct {τ : Nat → Nat} {b : Nat} {s : Sl} {bs : List Int} {pos : Nat} {js : List Value} {h : Mem} {K : Bool → Mem → Prop} (q : RdrJ h b s bs pos js) (hK : K true h) : octet_Reader_ready τ (some ⟨b, 0, none⟩) h K := by
  unfold octet_Reader_ready octet_Reader_made
  refine ifB_t (B := _) rfl ?_
  refine ld_ct (k := .bool) true (by rw [add_n, q.1.rd]; rfl) ?_
  refine ifB_t rfl ?_
  refine ld_ct (k := .int .i64) 0 (by rw [add_n, q.1.rd]; rfl) ?_
  exact hK
theorem fixed_ct {τ : Nat → Nat} {b : Nat} {s : Sl} {bs : List Int} {pos : Nat} {js : List Value} {m : Nat} {h : Mem} {K : Sl → Mem → Prop} (q : RdrJ h b s bs pos js) (hm : pos + m ≤ bs.length)
    (hK : ∀ r h', Vec h' r (By ((bs.drop pos).take m)) → New h r → RdrJ h' b s bs (pos + m) js → Upd (· = b) h h' → K r h') : octet_Reader_Fixed τ (some ⟨b, 0, none⟩) m h K := by
  refine ready_ct q ?_
  obtain ⟨hB, hH, hc, hat, hp, hl⟩ := q
  have hlen : s.len = bs.length := by rw [hH.1, By_len]
  have hmx : mxI 0 (m : Int) = m := by unfold mxI; split <;> omega
  refine ifB_f rfl ?_
  refine ld_ct (k := .sl) s (by rw [hB.rd]; rfl) ?_
  refine ld_ct (k := .int .i64) pos (by rw [add_n, hB.rd]; rfl) ?_
  rw [hmx, w64 (by omega) (by omega)]
  refine ifB_f (by simp; omega) ?_
  refine ld_ct (k := .sl) s (by rw [hB.rd]; rfl) ?_
  refine ld_ct (k := .int .i64) pos (by rw [add_n, hB.rd]; rfl) ?_
  refine ld_ct (k := .int .i64) pos (by rw [add_n, hB.rd]; rfl) ?_
  rw [w64 (by omega) (by omega)]
  refine slc_ct hH hc (by omega) (by omega) (by rw [By_len]; omega) fun s15 q15 _ _ _ => ?_
  have e15 : ((By bs).drop (pos : Int).toNat).take (((pos : Int) + (m : Int)).toNat - (pos : Int).toNat) = By ((bs.drop pos).take m) := by
    rw [By_drop, By_take]
    congr 3; omega
  rw [e15] at q15
  refine al_ct fun h1 hb1 hE1 hs1 => ?_
  have hB1 := hB.gete hE1
  refine ⟨by rw [add_n, hB1.rd]; rfl, by rw [add_n, hB1.rd]; rfl, by rw [hB1.rd]; rfl, ?_⟩
  have hv1 : Vec h1 ⟨some ⟨h.size, 0, none⟩, 0, 0⟩ [] := .inr ⟨h.size, [], rfl, τ 0, hb1⟩
  have htl : ((bs.drop pos).take m).length = m := by rw [List.length_take, List.length_drop]; omega
  refine app_ct hv1 (q15.gete hE1) (By_ones _) (by rw [By_len, htl]; simp; omega) (by rw [By_len, htl]; simp; omega) fun r h2 hr2 hu2 hat2 => ?_
  rw [List.nil_append] at hr2
  have hE2 : Ext h h2 := Upd.above hE1 hu2 (fun k hk => by have := at_lit hk; omega)
  have hnr : New h r := fun k hk => by
    rcases hat2 k hk with h | h
    · have := at_lit h; omega
    · omega
  have hB2 := hB.gete hE2
  refine ld_ct (k := .int .i64) pos (by rw [add_n, hB2.rd]; rfl) ?_
  rw [w64 (by omega) (by omega)]
  show st (Addr.add ⟨b, 0, none⟩ 1) _ h2 _
  rw [add_n]
  refine st_ct hB2 (by simp) fun h3 hb3 hu3 hs3 => ?_
  have hbn := hB.lt
  refine hK r h3 (hr2.get hu3 (fun k hk hkb => by have := hnr k hk; omega)) hnr ⟨?_, (hH.gete hE2).get hu3 (fun k hk hkb => hat (hkb ▸ hk)), hc, hat, by omega, hl⟩ (Upd.of_ext hE2 hu3)
  have : ((pos : Int) + (m : Int)) = ((pos + m : Nat) : Int) := by omega
  simp only [this] at hb3
  exact hb3

/-- the number that octets make, the lowest first -/
def rdW (bs : List Int) : Int := (List.range bs.length).foldl (fun n i => bits .or .u64 n (IntKind.u64.wrap ((IntKind.u64.wrap (bs.getD i 0)) * 2 ^ (min (8 * i) 64)))) 0
theorem rword_ct {τ : Nat → Nat} {b : Nat} {s : Sl} {bs : List Int} {pos : Nat} {js : List Value} {m : Nat} {h : Mem} {K : Int → Mem → Prop} (q : RdrJ h b s bs pos js) (h248 : m = 2 ∨ m = 4 ∨ m = 8) (hm : pos + m ≤ bs.length)
    (hK : ∀ h', RdrJ h' b s bs (pos + m) js → Upd (· = b) h h' → K (rdW ((bs.drop pos).take m)) h') : octet_Reader_Word τ (some ⟨b, 0, none⟩) m h K := by
  refine ready_ct q ?_
  refine ifB_f rfl ?_
  have key : ∀ (J : Bool → Mem → Prop), J true h → ifB ((m : Int) == 2) (J ((m : Int) == 2) h) (ifB ((m : Int) == 4) (J ((m : Int) == 4) h) (J ((m : Int) == 8) h)) := by
    intro J hJ
    rcases h248 with rfl | rfl | rfl
    · exact hJ
    · exact hJ
    · exact hJ
  intro J1
  refine key J1 (ifB_t rfl ?_)
  refine fixed_ct q hm fun r h1 hv1 hn1 hq1 hu1 => ?_
  obtain ⟨xs, hxs⟩ : ∃ xs, xs = (bs.drop pos).take m := ⟨_, rfl⟩
  have htl : xs.length = m := by rw [hxs, List.length_take, List.length_drop]; omega
  rw [← hxs] at hv1 hK
  have hlr : r.len = m := by rw [hv1.len, By_len, htl]
  refine loop_ct (fun l h' => h' = h1 ∧ ∃ k : Nat, l.2 = k ∧ k ≤ m ∧ l.1 = (List.range k).foldl (fun n i => bits .or .u64 n (IntKind.u64.wrap ((IntKind.u64.wrap (xs.getD i 0)) * 2 ^ (min (8 * i) 64)))) 0) (fun (l : Int × Int) _ => ((m : Int) - l.2).toNat) ⟨rfl, 0, rfl, by omega, rfl⟩ ?_
  rintro ⟨l1, l2⟩ h2 ⟨hh, k, rfl, hk, rfl⟩
  subst hh
  dsimp only
  refine ifB_c (fun hc => ?_) (fun hc => ?_)
  · have hkm : k < m := by simp [hlr] at hc; omega
    refine ixld_ct (k := .int .u8) hv1.holds (by omega) (xs[k]'(by omega)) (by simp [encL, htl, hkm, Kind.enc]) ?_
    have hw : IntKind.i64.wrap (8 * (k : Int)) = ((8 * k : Nat) : Int) := by rw [w64 (by omega) (by omega)]; omega
    rw [hw]
    refine ifB_t (decide_eq_true (by omega)) ?_
    rw [w64 (by omega) (by omega), Int.toNat_natCast]
    refine ⟨⟨rfl, k + 1, by omega, by omega, ?_⟩, by omega⟩
    rw [List.range_succ, List.foldl_append]
    simp only [List.foldl_cons, List.foldl_nil]
    rw [show xs.getD k 0 = xs[k]'(by omega) by rw [List.getD_eq_getElem?_getD, List.getElem?_eq_getElem (by omega)]; rfl]
  · have hkm : k = m := by simp [hlr] at hc; omega
    have := hK h2 hq1 hu1
    unfold rdW at this
    rw [htl] at this
    rw [hkm]; exact this
end Go.TS
