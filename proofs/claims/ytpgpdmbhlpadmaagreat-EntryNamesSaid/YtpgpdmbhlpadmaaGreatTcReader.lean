/- Contracts: octet's reader. -/
import Derived.Test.YtpgpdmbhlpadmaaGreatTcPage
namespace Go.TS
open Go
set_option linter.unusedVariables false

/-- a sound reader: its object, what is left to read -/
def RdrJ (h : Mem) (b : Nat) (s : Sl) (bs : List Int) (pos : Nat) (js : List Value) : Prop :=
  Blk h b (.slice s.base s.len s.cap :: .int .i64 pos :: .int .i64 0 :: .bool true :: js) ∧ Holds h s (By bs) ∧ s.len ≤ s.cap ∧ ¬ At s b ∧ pos ≤ bs.length ∧ bs.length ≤ 2 ^ 36
abbrev Rdr (h : Mem) (b : Nat) (s : Sl) (bs : List Int) (pos : Nat) : Prop := RdrJ h b s bs pos []
theorem octetNew_ct {τ : Nat → Nat} {s : Sl} {h : Mem} {K : Option Addr → Mem → Prop} {bs : List Int} (q : Holds h s (By bs)) (hl : bs.length ≤ 2 ^ 36)
    (hK : ∀ b s' h', Rdr h' b s' bs 0 → h.size ≤ b → Ext h h' → K (some ⟨b, 0, none⟩) h') : octet_New τ s h K := by
  refine clone_byte_ct q (By_ones _) (by rw [By_len]; omega) fun r h1 hv hn hE _ => ?_
  refine al_ct fun h2 hb2 hE2 hs2 => ?_
  have hc : r.len ≤ r.cap := by
    rcases hv with ⟨rfl, _⟩ | ⟨b, js, rfl, _⟩
    · exact Nat.le_refl _
    · dsimp only; omega
  refine hK h1.size r h2 ⟨⟨τ 19, hb2⟩, hv.holds.gete hE2, hc, fun ha => ?_, by omega, hl⟩ hE.sz (hE.ext hE2)
  have := hv.lt _ ha; omega
theorem ready_ct {τ : Nat → Nat} {b : Nat} {s : Sl} {bs : List Int} {pos : Nat} {js : List Value} {h : Mem} {K : Bool → Mem → Prop} (q : RdrJ h b s bs pos js) (hK : K true h) : octet_Reader_ready τ (some ⟨b, 0, none⟩) h K := by
  unfold octet_Reader_ready octet_Reader_made
  refine ifB_t (B := _) rfl ?_
  refine ld_ct (k := .bool) true (by rw [add_n, q.1.rd]; rfl) ?_
  refine ifB_t rfl ?_
  refine ld_ct (k := .int .i64) 0 (by rw [add_n, q.1.rd]; rfl) ?_
  exact hK
theorem fixed_ct {τ : Nat → Nat} {b : Nat} {s : Sl} {bs : List Int} {pos : Nat} {js : List Value} {m : Nat} {h : Mem} {K : Sl → Mem → Prop} (q : RdrJ h b s bs pos js) (hm : pos + m ≤ bs.length)
    (hK : ∀ r h', Vec h' r (By ((bs.drop pos).take m)) → New h r → RdrJ h' b s bs (pos + m) js → Upd (· = b) h h' → K r h') : octet_Reader_Fixed τ (some ⟨b, 0, none⟩) m h K := by
  refine ready_ct q ?_
  obtain ⟨hB, hH, hc, hat, hp, hl⟩ := q
  have hlen : s.len = bs.length := by rw [hH.1, By_len]
  have hmx : mxI 0 (m : Int) = m := by unfold mxI; split <;> omega
  refine ifB_f rfl ?_
  refine ld_ct (k := .sl) s (by rw [hB.rd]; rfl) ?_
  refine ld_ct (k := .int .i64) pos (by rw [add_n, hB.rd]; rfl) ?_
  rw [hmx, w64 (by omega) (by omega)]
  refine ifB_f (by simp; omega) ?_
  refine ld_ct (k := .sl) s (by rw [hB.rd]; rfl) ?_
  refine ld_ct (k := .int .i64) pos (by rw [add_n, hB.rd]; rfl) ?_
  refine ld_ct (k := .int .i64) pos (by rw [add_n, hB.rd]; rfl) ?_
  rw [w64 (by omega) (by omega)]
  refine slc_ct hH hc (by omega) (by omega) (by rw [By_len]; omega) fun s15 q15 _ _ _ => ?_
  have e15 : ((By bs).drop (pos : Int).toNat).take (((pos : Int) + (m : Int)).toNat - (pos : Int).toNat) = By ((bs.drop pos).take m) := by
    rw [By_drop, By_take]
    congr 3; omega
  rw [e15] at q15
  refine al_ct fun h1 hb1 hE1 hs1 => ?_
  have hB1 := hB.gete hE1
  refine ⟨by rw [add_n, hB1.rd]; rfl, by rw [add_n, hB1.rd]; rfl, by rw [hB1.rd]; rfl, ?_⟩
  have hv1 : Vec h1 ⟨some ⟨h.size, 0, none⟩, 0, 0⟩ [] := .inr ⟨h.size, [], rfl, τ 0, hb1⟩
  have htl : ((bs.drop pos).take m).length = m := by rw [List.length_take, List.length_drop]; omega
  refine app_ct hv1 (q15.gete hE1) (By_ones _) (by rw [By_len, htl]; simp; omega) (by rw [By_len, htl]; simp; omega) fun r h2 hr2 hu2 hat2 => ?_
  rw [List.nil_append] at hr2
  have hE2 : Ext h h2 := Upd.above hE1 hu2 (fun k hk => by have := at_lit hk; omega)
  have hnr : New h r := fun k hk => by
    rcases hat2 k hk with h | h
    · have := at_lit h; omega
    · omega
  have hB2 := hB.gete hE2
  refine ld_ct (k := .int .i64) pos (by rw [add_n, hB2.rd]; rfl) ?_
  rw [w64 (by omega) (by omega)]
  show st (Addr.add ⟨b, 0, none⟩ 1) _ h2 _
  rw [add_n]
  refine st_ct hB2 (by simp) fun h3 hb3 hu3 hs3 => ?_
  have hbn := hB.lt
  refine hK r h3 (hr2.get hu3 (fun k hk hkb => by have := hnr k hk; omega)) hnr ⟨?_, (hH.gete hE2).get hu3 (fun k hk hkb => hat (hkb ▸ hk)), hc, hat, by omega, hl⟩ (Upd.of_ext hE2 hu3)
  have : ((pos : Int) + (m : Int)) = ((pos + m : Nat) : Int) := by omega
  simp only [this] at hb3
  exact hb3

/-- the number that octets make, the lowest first -/
def rdW (bs : List Int) : Int := (List.range bs.length).foldl (fun n i => bits .or .u64 n (IntKind.u64.wrap ((IntKind.u64.wrap (bs.getD i 0)) * 2 ^ (min (8 * i) 64)))) 0
theorem rword_ct {τ : Nat → Nat} {b : Nat} {s : Sl} {bs : List Int} {pos : Nat} {js : List Value} {m : Nat} {h : Mem} {K : Int → Mem → Prop} (q : RdrJ h b s bs pos js) (h248 : m = 2 ∨ m = 4 ∨ m = 8) (hm : pos + m ≤ bs.length)
    (hK : ∀ h', RdrJ h' b s bs (pos + m) js → Upd (· = b) h h' → K (rdW ((bs.drop pos).take m)) h') : octet_Reader_Word τ (some ⟨b, 0, none⟩) m h K := by
  refine ready_ct q ?_
  refine ifB_f rfl ?_
  have key : ∀ (J : Bool → Mem → Prop), J true h → ifB ((m : Int) == 2) (J ((m : Int) == 2) h) (ifB ((m : Int) == 4) (J ((m : Int) == 4) h) (J ((m : Int) == 8) h)) := by
    intro J hJ
    rcases h248 with rfl | rfl | rfl
    · exact hJ
    · exact hJ
    · exact hJ
  intro J1
  refine key J1 (ifB_t rfl ?_)
  refine fixed_ct q hm fun r h1 hv1 hn1 hq1 hu1 => ?_
  obtain ⟨xs, hxs⟩ : ∃ xs, xs = (bs.drop pos).take m := ⟨_, rfl⟩
  have htl : xs.length = m := by rw [hxs, List.length_take, List.length_drop]; omega
  rw [← hxs] at hv1 hK
  have hlr : r.len = m := by rw [hv1.len, By_len, htl]
  refine loop_ct (fun l h' => h' = h1 ∧ ∃ k : Nat, l.2 = k ∧ k ≤ m ∧ l.1 = (List.range k).foldl (fun n i => bits .or .u64 n (IntKind.u64.wrap ((IntKind.u64.wrap (xs.getD i 0)) * 2 ^ (min (8 * i) 64)))) 0) (fun (l : Int × Int) _ => ((m : Int) - l.2).toNat) ⟨rfl, 0, rfl, by omega, rfl⟩ ?_
  rintro ⟨l1, l2⟩ h2 ⟨hh, k, rfl, hk, rfl⟩
  subst hh
  dsimp only
  refine ifB_c (fun hc => ?_) (fun hc => ?_)
  · have hkm : k < m := by simp [hlr] at hc; omega
    refine ixld_ct (k := .int .u8) hv1.holds (by omega) (xs[k]'(by omega)) (by simp [encL, htl, hkm, Kind.enc]) ?_
    have hw : IntKind.i64.wrap (8 * (k : Int)) = ((8 * k : Nat) : Int) := by rw [w64 (by omega) (by omega)]; omega
    rw [hw]
    refine ifB_t (decide_eq_true (by omega)) ?_
    rw [w64 (by omega) (by omega), Int.toNat_natCast]
    refine ⟨⟨rfl, k + 1, by omega, by omega, ?_⟩, by omega⟩
    rw [List.range_succ, List.foldl_append]
    simp only [List.foldl_cons, List.foldl_nil]
    rw [show xs.getD k 0 = xs[k]'(by omega) by rw [List.getD_eq_getElem?_getD, List.getElem?_eq_getElem (by omega)]; rfl]
  · have hkm : k = m := by simp [hlr] at hc; omega
    have := hK h2 hq1 hu1
    unfold rdW at this
    rw [htl] at this
    rw [hkm]; exact this
end Go.TS
/- Contracts: buckets that are read. -/
namespace Go.TS
open Go
set_option linter.unusedVariables false

/-- a vector of our own, of elements of sz cells -/
def VecN (sz : Nat) (h : Mem) (s : Sl) (xs : List Value) : Prop :=
  (s = ⟨none, 0, 0⟩ ∧ xs = []) ∨ ∃ b js n m, s = ⟨some ⟨b, 0, none⟩, n, n + m⟩ ∧ xs.length = n * sz ∧ js.length = m * sz ∧ Blk h b (xs ++ js)
theorem vecN_nil (sz : Nat) (h : Mem) : VecN sz h ⟨none, 0, 0⟩ [] := .inl ⟨rfl, rfl⟩
theorem VecN.lt {sz : Nat} {h : Mem} {s : Sl} {xs : List Value} (p : VecN sz h s xs) : ∀ b, At s b → b < h.size := by
  rintro b ⟨a, ha, rfl⟩
  rcases p with ⟨rfl, rfl⟩ | ⟨b, js, n, m, rfl, _, _, hb⟩
  · cases ha
  · simp only [Option.some.injEq] at ha; subst ha; exact hb.lt
theorem VecN.get {sz : Nat} {S : Nat → Prop} {h h' : Mem} {s : Sl} {xs : List Value} (p : VecN sz h s xs) (u : Upd S h h') (hs : ∀ b, At s b → ¬ S b) : VecN sz h' s xs := by
  rcases p with ⟨rfl, rfl⟩ | ⟨b, js, n, m, rfl, h1, h2, hb⟩
  · exact vecN_nil sz h'
  · exact .inr ⟨b, js, n, m, rfl, h1, h2, hb.get u (hs b ⟨_, rfl, rfl⟩)⟩
theorem VecN.gete {sz : Nat} {h h' : Mem} {s : Sl} {xs : List Value} (p : VecN sz h s xs) (u : Ext h h') : VecN sz h' s xs := p.get u (fun _ _ h => h)
theorem VecN.len {sz : Nat} {h : Mem} {s : Sl} {xs : List Value} (p : VecN sz h s xs) : s.len * sz = xs.length := by
  rcases p with ⟨rfl, rfl⟩ | ⟨b, js, n, m, rfl, h1, _, _⟩
  · simp
  · exact h1.symm
theorem VecN.cells {sz : Nat} {h : Mem} {s : Sl} {xs : List Value} (p : VecN sz h s xs) : slCells h s (s.len * sz) xs := by
  rw [p.len]
  rcases p with ⟨rfl, rfl⟩ | ⟨b, js, n, m, rfl, _, _, hb⟩
  · exact rfl
  · refine ⟨rfl, fun i v hv => ?_⟩
    have hi : i < xs.length := (List.getElem?_eq_some_iff.1 hv).1
    rw [add_n, Nat.zero_add, hb.rd, List.getElem?_append_left hi]; exact hv
theorem VecN.rd {sz : Nat} {h : Mem} {s : Sl} {xs : List Value} (p : VecN sz h s xs) {i j : Nat} {v : Value} (hv : xs[i * sz + j]? = some v) : ∃ a, s.base = some a ∧ rd h ((a.add (i * sz)).add j) = some v := by
  rcases p with ⟨rfl, rfl⟩ | ⟨b, js, n, m, rfl, _, _, hb⟩
  · simp at hv
  · refine ⟨_, rfl, ?_⟩
    have hi : i * sz + j < xs.length := (List.getElem?_eq_some_iff.1 hv).1
    rw [add_n, add_n, Nat.zero_add, hb.rd, List.getElem?_append_left hi]; exact hv
theorem zeroCellsN_len (z : Array Value) (n : Nat) : (Builtin.zeroCells z n).toList.length = n * z.size := by simp [Builtin.zeroCells]
theorem appN_ct {t : TypeId} {z : Array Value} {sz bytes : Nat} {s x : Sl} {h : Mem} {K : Sl → Mem → Prop} {xs ys : List Value} (hz : z.size = sz) (p : VecN sz h s xs) (q : slCells h x (x.len * sz) ys) (hq : ys.length = x.len * sz) (hone : ∀ v, v ∈ ys → oneC v = true)
    (hb : (s.len + x.len) * bytes ≤ 2 ^ 40) (hb1 : s.len + x.len ≤ 2 ^ 40)
    (hK : ∀ s' h', VecN sz h' s' (xs ++ ys) → s'.len = s.len + x.len → Upd (At s) h h' → (∀ b, At s' b → At s b ∨ h.size ≤ b) → K s' h') : app t z sz bytes s x h K := by
  refine ⟨ys, q, hone, ?_, ?_⟩
  · intro hroom
    rcases p with ⟨rfl, rfl⟩ | ⟨b, js, n, m, rfl, h1, h2, hbk⟩
    · simp only [Nat.zero_add, Nat.le_zero_eq] at hroom
      have : ys = [] := by
        have := hq
        rw [hroom, Nat.zero_mul] at this
        exact List.length_eq_zero_iff.1 this
      subst this
      simp only [hroom]
      exact hK _ _ (vecN_nil sz h) (by simp [hroom]) (Upd.refl _ _) (fun b hb => .inl hb)
    · simp only at hroom ⊢
      simp only [add_n, Nat.zero_add]
      have hxm : x.len ≤ m := by omega
      have hle : x.len * sz ≤ m * sz := Nat.mul_le_mul_right _ hxm
      have hl : xs.length + ys.length ≤ (xs ++ js).length := by rw [List.length_append, h2, hq]; omega
      rw [← h1]
      refine ⟨room_blk hbk hl, ?_⟩
      obtain ⟨g1, g2, g3⟩ := wrs_blk (o := xs.length) ys 0 hbk (by simpa using hl)
      refine hK _ _ (.inr ⟨b, js.drop ys.length, n + x.len, m - x.len, ?_, ?_, ?_, ?_⟩) rfl (g2.mono ?_) ?_
      · congr 1; omega
      · rw [List.length_append, h1, hq, Nat.add_mul]
      · rw [List.length_drop, h2, hq, ← Nat.sub_mul]
      · have : over (xs ++ js) (xs.length + 0) ys = xs ++ ys ++ js.drop ys.length := by simp [over, List.drop_append]
        rw [this] at g1; exact g1
      · rintro k _ rfl; exact ⟨_, rfl, rfl⟩
      · rintro k ⟨a, ha, rfl⟩
        exact .inl ⟨a, ha, rfl⟩
  · intro hgrow
    refine ⟨hb1, hb, xs, p.cells, ?_⟩
    intro c hc
    have hK' := hK ⟨some ⟨h.size, 0, none⟩, s.len + x.len, c⟩ (h.push (.cells (xs.toArray ++ ys.toArray ++ Builtin.zeroCells z (c - (s.len + x.len))) t))
    refine hK' (.inr ⟨h.size, (Builtin.zeroCells z (c - (s.len + x.len))).toList, s.len + x.len, c - (s.len + x.len), ?_, ?_, ?_, t, ?_⟩) rfl ⟨by simp, fun b hb _ => ?_⟩ ?_
    · congr 1; omega
    · rw [List.length_append, ← p.len, hq, Nat.add_mul]
    · rw [zeroCellsN_len, hz]
    · simp
    · rw [Array.getElem?_push_lt hb]; simp [hb]
    · rintro k ⟨a, ha, rfl⟩
      simp only [Option.some.injEq] at ha
      subst ha; exact .inr (Nat.le_refl _)

abbrev RefT := Int × Int × Int
def refC (r : RefT) : List Value := [.int .u64 r.1, .int .i64 r.2.1, .int .i64 r.2.2]
def refsC (l : List RefT) : List Value := l.flatMap refC
theorem refsC_len (l : List RefT) : (refsC l).length = l.length * 3 := by
  induction l with
  | nil => rfl
  | cons a l ih => simp only [refsC, List.flatMap_cons, List.length_append] at ih ⊢; rw [ih]; simp [refC]; omega
theorem refsC_get : ∀ (l : List RefT) (i : Nat) (r : RefT), l[i]? = some r → (refsC l)[i * 3 + 0]? = some (.int .u64 r.1) ∧ (refsC l)[i * 3 + 1]? = some (.int .i64 r.2.1) ∧ (refsC l)[i * 3 + 2]? = some (.int .i64 r.2.2) := by
  intro l
  induction l with
  | nil => intro i r h; simp at h
  | cons a l ih =>
    intro i r h
    cases i with
    | zero => simp at h; subst h; exact ⟨rfl, rfl, rfl⟩
    | succ i =>
      have := ih i r (by simpa using h)
      have e : ∀ j, (refsC (a :: l))[(i + 1) * 3 + j]? = (refsC l)[i * 3 + j]? := by
        intro j
        show (refC a ++ refsC l)[(i + 1) * 3 + j]? = _
        rw [List.getElem?_append_right (by simp [refC]; omega)]
        congr 1
        simp [refC]; omega
      rw [e, e, e]; exact this
theorem refsC_app (a b : List RefT) : refsC (a ++ b) = refsC a ++ refsC b := by simp [refsC]
/-- lesser -/
def refLt (a b : RefT) : Prop := a.1 < b.1 ∨ (a.1 = b.1 ∧ (a.2.1 < b.2.1 ∨ (a.2.1 = b.2.1 ∧ a.2.2 < b.2.2)))
def refMay (r : RefT) : Prop := 0 ≤ r.2.1 ∧ r.2.1 < 65536 ∧ 0 ≤ r.2.2 ∧ r.2.2 ≤ 1023
theorem may_ct {τ : Nat → Nat} {r : RefT} {h : Mem} {K : Bool → Mem → Prop} (hm : refMay r) (hK : ∀ h', Ext h h' → K true h') : bucket_may τ r.2.1 r.2.2 h K := by
  refine al_ct fun h1 hb1 hE1 _ => ?_
  have B : Blk h1 h.size [.int .i64 r.2.1, .int .i64 r.2.2] := ⟨_, hb1⟩
  intro J1
  obtain ⟨m1, m2, m3, m4⟩ := hm
  refine ld_ct (k := .int .i64) r.2.1 (by rw [B.rd]; rfl) (ifB_t (decide_eq_true (by omega)) ?_)
  refine ld_ct (k := .int .i64) r.2.1 (by rw [B.rd]; rfl) (ifB_t (decide_eq_true (by omega)) ?_)
  refine ld_ct (k := .int .i64) r.2.2 (by rw [B.rd]; rfl) (ifB_t (decide_eq_true (by omega)) ?_)
  refine ld_ct (k := .int .i64) r.2.2 (by rw [B.rd]; rfl) ?_
  rw [decide_eq_true (by omega)]
  exact hK h1 hE1
def cmpZ (a b : Int) : Int := if a < b then -1 else if b < a then 1 else 0
theorem cmpU_ct {τ : Nat → Nat} {a b : Int} {h : Mem} {K : Int → Mem → Prop} (hK : K (cmpZ a b) h) : cmp_Compare_uint64 τ a b h K := by
  show ifB (a != a) _ _
  refine ifB_f (by simp) (ifB_f (by simp) ?_)
  unfold cmpZ at hK
  refine ifB_c (fun hc => ?_) (fun hc => ?_)
  · rw [if_pos (of_decide_eq_true hc)] at hK; exact hK
  · have hc' := of_decide_eq_false hc
    rw [if_neg hc'] at hK
    refine ifB_c (fun hd => ?_) (fun hd => ?_)
    · rw [if_pos (of_decide_eq_true hd)] at hK; exact hK
    · rw [if_neg (of_decide_eq_false hd)] at hK; exact hK
theorem cmpI_ct {τ : Nat → Nat} {a b : Int} {h : Mem} {K : Int → Mem → Prop} (hK : K (cmpZ a b) h) : cmp_Compare_int τ a b h K := by
  show ifB (a != a) _ _
  refine ifB_f (by simp) (ifB_f (by simp) ?_)
  unfold cmpZ at hK
  refine ifB_c (fun hc => ?_) (fun hc => ?_)
  · rw [if_pos (of_decide_eq_true hc)] at hK; exact hK
  · have hc' := of_decide_eq_false hc
    rw [if_neg hc'] at hK
    refine ifB_c (fun hd => ?_) (fun hd => ?_)
    · rw [if_pos (of_decide_eq_true hd)] at hK; exact hK
    · rw [if_neg (of_decide_eq_false hd)] at hK; exact hK
/-- the first that is not nought -/
def orZ : List Int → Int
  | [] => 0
  | a :: r => if a = 0 then orZ r else a
theorem orZ_drop (l : List Int) (i : Nat) (x : Int) (h : l[i]? = some x) : orZ (l.drop i) = if x = 0 then orZ (l.drop (i + 1)) else x := by
  have hi : i < l.length := (List.getElem?_eq_some_iff.1 h).1
  have hx : l[i] = x := (List.getElem?_eq_some_iff.1 h).2
  rw [List.drop_eq_getElem_cons hi, hx]; rfl
theorem or_ct {τ : Nat → Nat} {s : Sl} {l : List Int} {h : Mem} {K : Int → Mem → Prop} (q : Holds h s (Is l)) (hl : l.length ≤ 1000) (hK : K (orZ l) h) : cmp_Or_int τ s h K := by
  have hn : s.len = l.length := by have := q.1; rw [Is_len] at this; exact this
  refine loop_ct (σ := Int) (fun p h' => h' = h ∧ ∃ i : Nat, p = i ∧ i ≤ l.length ∧ orZ (l.drop i) = orZ l) (fun p _ => l.length - p.toNat) ⟨rfl, 0, rfl, Nat.zero_le _, rfl⟩ ?_
  rintro p h2 ⟨hh, i, rfl, hi, ho⟩
  subst hh
  refine ifB_c (fun hc => ?_) (fun hc => ?_)
  · have hlt : i < l.length := by have := of_decide_eq_true hc; rw [hn] at this; omega
    refine ixld_ct (k := .int .i64) q (by omega) l[i] (by simp [encL, Kind.enc, hlt]) ?_
    rw [orZ_drop l i l[i] (by simp [hlt])] at ho
    refine ifB_c (fun hx => ?_) (fun hx => ?_)
    · have : l[i] ≠ 0 := by simpa using hx
      rw [if_neg this] at ho
      rw [ho]; exact hK
    · have : l[i] = 0 := by simpa using hx
      rw [if_pos this] at ho
      rw [w64 (by omega) (by omega)]
      exact ⟨⟨rfl, i + 1, by omega, by omega, ho⟩, by omega⟩
  · have : ¬ ((i : Int) < (s.len : Int)) := of_decide_eq_false hc
    have : i = l.length := by omega
    subst this
    rw [List.drop_length] at ho
    have ho' : 0 = orZ l := ho
    rw [ho']; exact hK
theorem compare_ct {τ : Nat → Nat} {a b : RefT} {h : Mem} {K : Int → Mem → Prop} (hlt : refLt a b) (hK : ∀ h', Ext h h' → K (-1) h') : bucket_Compare τ a.1 a.2.1 a.2.2 b.1 b.2.1 b.2.2 h K := by
  refine al_ct fun h1 hb1 hE1 hs1 => al_ct fun h2 hb2 hE2 hs2 => ?_
  have A : Blk h1 h.size [.int .u64 a.1, .int .i64 a.2.1, .int .i64 a.2.2] := ⟨_, hb1⟩
  have B : Blk h2 h1.size [.int .u64 b.1, .int .i64 b.2.1, .int .i64 b.2.2] := ⟨_, hb2⟩
  have A2 := A.gete hE2
  refine ld_ct (k := .int .u64) a.1 (by rw [A2.rd]; rfl) ?_
  refine ld_ct (k := .int .u64) b.1 (by rw [B.rd]; rfl) ?_
  refine ld_ct (k := .int .i64) a.2.1 (by rw [A2.rd]; rfl) ?_
  refine ld_ct (k := .int .i64) b.2.1 (by rw [B.rd]; rfl) ?_
  refine ld_ct (k := .int .i64) a.2.2 (by rw [A2.rd]; rfl) ?_
  refine ld_ct (k := .int .i64) b.2.2 (by rw [B.rd]; rfl) ?_
  refine cmpU_ct ⟨by rw [B.rd]; rfl, by rw [A2.rd]; rfl, by rw [B.rd]; rfl, by rw [A2.rd]; rfl, ?_⟩
  refine cmpI_ct ⟨by rw [B.rd]; rfl, by rw [A2.rd]; rfl, ?_⟩
  refine cmpI_ct ?_
  refine al_ct fun h3 hb3 hE3 hs3 => ?_
  refine or_ct (l := [cmpZ a.1 b.1, cmpZ a.2.1 b.2.1, cmpZ a.2.2 b.2.2]) (holds_new 3 hb3) (by simp) ?_
  have : orZ [cmpZ a.1 b.1, cmpZ a.2.1 b.2.1, cmpZ a.2.2 b.2.2] = -1 := by
    unfold refLt at hlt
    simp only [orZ, cmpZ]
    rcases hlt with h1 | ⟨h1, h2 | ⟨h2, h3⟩⟩
    · simp [h1]
    · simp [h1, h2]
    · simp [h1, h2, h3]
  rw [this]
  exact hK h3 ((hE1.ext hE2).ext hE3)
end Go.TS
/- Contracts: slices.Insert of refs. -/
namespace Go.TS
open Go
set_option linter.unusedVariables false

theorem slcN_blk {sz b o l c : Nat} {lo hi : Int} {K : Sl → Prop} (h0 : 0 ≤ lo) (h1 : lo ≤ hi) (h2 : hi ≤ c) (h3 : lo.toNat < c) (hK : K ⟨some ⟨b, o + lo.toNat * sz, none⟩, hi.toNat - lo.toNat, c - lo.toNat⟩) : slc ⟨some ⟨b, o, none⟩, l, c⟩ lo hi sz K := by
  refine ⟨h0, h1, h2, ?_⟩
  have : (⟨some ⟨b, o, none⟩, l, c⟩ : Sl).cut lo.toNat hi.toNat sz = ⟨some ⟨b, o + lo.toNat * sz, none⟩, hi.toNat - lo.toNat, c - lo.toNat⟩ := by
    simp only [Sl.cut]
    rw [if_neg (by omega)]
    simp only [Option.map_some, add_n]
  rw [this]; exact hK
theorem cpyS_ct {sz b o dl dc : Nat} {x : Sl} {a : Addr} {h : Mem} {K : Nat → Mem → Prop} {cs vs : List Value} (p : Blk h b cs) (hxb : x.base = some a) (hk : min x.len dl * sz = vs.length) (q : cellsAt h a vs) (ho : Ones vs) (hl : o + vs.length ≤ cs.length)
    (hK : ∀ h', Blk h' b (over cs o vs) → Upd (· = b) h h' → h'.size = h.size → K (min x.len dl) h') : cpy sz ⟨some ⟨b, o, none⟩, dl, dc⟩ x h K := by
  refine ⟨vs, ?_, ho, ?_⟩
  · unfold slCells
    rw [hxb]
    dsimp only
    exact ⟨hk.symm, q⟩
  · dsimp only
    obtain ⟨h1, h2, h3⟩ := wrs_blk (o := o) vs 0 p (by omega)
    exact ⟨room_blk p (by omega), hK _ h1 h2 h3⟩
theorem app0N_new_ct {t : TypeId} {z : Array Value} {sz bytes : Nat} {s : Sl} {n : Int} {h : Mem} {K : Sl → Mem → Prop} {xs : List Value} (p : VecN sz h s xs) (hsz : z.size = sz) (hz : ∀ v, v ∈ (Builtin.zeroCells z n.toNat).toList → oneC v = true) (hn : 0 ≤ n) (h0 : 0 < sz)
    (hb : (s.len + n.toNat) * bytes ≤ 2 ^ 40) (hb1 : s.len + n.toNat ≤ 2 ^ 40) (hg : s.cap < s.len + n.toNat)
    (hK : ∀ b m h', (∃ zs js, zs.length = n.toNat * sz ∧ js.length = m * sz ∧ Blk h' b (xs ++ zs ++ js)) → h.size ≤ b → Ext h h' → K ⟨some ⟨b, 0, none⟩, s.len + n.toNat, s.len + n.toNat + m⟩ h') : app0 t z sz bytes s n h K := by
  refine ⟨hn, Nat.le_trans (Nat.mul_le_mul_right _ (by omega)) hb, by omega, hz, h0, fun hroom => by omega, fun hgrow => ?_⟩
  refine ⟨hb1, hb, xs, p.cells, ?_⟩
  intro c hc
  have hc' : s.len + n.toNat + (c - (s.len + n.toNat)) = c := by omega
  have := hK h.size (c - (s.len + n.toNat)) (h.push (.cells (xs.toArray ++ Builtin.zeroCells z n.toNat ++ Builtin.zeroCells z (c - (s.len + n.toNat))) t))
    ⟨(Builtin.zeroCells z n.toNat).toList, (Builtin.zeroCells z (c - (s.len + n.toNat))).toList, by rw [zeroCellsN_len, hsz], by rw [zeroCellsN_len, hsz], t, by simp⟩ (Nat.le_refl _) ⟨by simp, fun b hb _ => by rw [Array.getElem?_push_lt hb]; simp [hb]⟩
  rw [hc'] at this
  exact this
theorem insertR_ct {τ : Nat → Nat} {s x : Sl} {n X Y : Nat} {h : Mem} {K : Sl → Mem → Prop} {xs ys : List Value} {ax : Addr} {bx : Nat} {cx : List Value} (p : VecN 3 h s xs) (hX : xs.length = X * 3) (hY : ys.length = Y * 3) (ho : Ones xs) (hn : n ≤ X)
    (hxl : x.len = Y) (hq : cellsAt h ax ys) (hax : x.base = some ax) (hab : ax.block = bx) (hbx : Blk h bx cx) (hcx : cx ≠ []) (hoy : Ones ys) (hy : 0 < Y) (hd : ¬ At s bx) (hl : X + Y ≤ 2 ^ 30)
    (hK : ∀ r h', VecN 3 h' r (xs.take (n * 3) ++ ys ++ xs.drop (n * 3)) → r.len = X + Y → Upd (At s) h h' → (∀ b, At r b → At s b ∨ h.size ≤ b) → K r h') : slices_Insert_api_Ref_api_Ref τ s n x h K := by
  have hsl : s.len = X := by have := p.len; omega
  have hcap : s.len ≤ s.cap := by
    rcases p with ⟨rfl, rfl⟩ | ⟨b, js, n, m, rfl, _, _, hb⟩
    · exact Nat.le_refl _
    · dsimp only; omega
  refine ⟨by omega, by omega, by omega, ?_⟩
  refine ifB_f (by rw [hxl]; simp; omega) ?_
  refine ifB_c (fun hc => ?_) (fun hc => ?_)
  · have hne : n = X := by simp at hc; omega
    refine appN_ct (z := #[Value.int .u64 0, Value.int .i64 0, Value.int .i64 0]) rfl p (ys := ys) ?_ (by omega) hoy (by omega) (by omega) fun r h1 hr hrl hu hat => ?_
    · unfold slCells; rw [hax]; exact ⟨by omega, hq⟩
    refine hK r h1 ?_ (by omega) hu hat
    subst hne
    rw [← hX, List.take_length, List.drop_length, List.append_nil]; exact hr
  · have hne : n ≠ X := by simp at hc; omega
    rcases p with ⟨_, rfl⟩ | ⟨b, js, n0, m, rfl, hx0, hjs, hb⟩
    · simp at hX; omega
    · have hbne : bx ≠ b := fun h => hd (h ▸ ⟨_, rfl, rfl⟩)
      dsimp only at hc hsl hcap ⊢
      subst hsl
      rw [hxl, w64 (by omega) (by omega)]
      have hCl : (xs ++ js).length = n0 * 3 + m * 3 := by rw [List.length_append]; omega
      have hln : (xs.take (n * 3)).length = n * 3 := by rw [List.length_take]; omega
      have hdl : (xs.drop (n * 3)).length = n0 * 3 - n * 3 := by rw [List.length_drop]; omega
      refine ifB_c (fun hc2 => ?_) (fun hc2 => ?_)
      · have hgrow : m < Y := by simp at hc2; omega
        refine slcN_blk (by omega) (by omega) (by omega) (by simp; omega) ?_
        have h7 : VecN 3 h ⟨some ⟨b, 0 + (0 : Int).toNat * 3, none⟩, (n : Int).toNat - (0 : Int).toNat, n0 + m - (0 : Int).toNat⟩ (xs.take (n * 3)) := by
          refine .inr ⟨b, xs.drop (n * 3) ++ js, n, n0 - n + m, ?_, hln, by rw [List.length_append]; omega, ?_⟩
          · simp; omega
          · rw [← List.append_assoc, List.take_append_drop]; exact hb
        rw [w64 (by omega) (by omega)]
        have hnt : ((n0 : Int) + (Y : Int) - (n : Int)).toNat = n0 + Y - n := by omega
        refine app0N_new_ct h7 rfl ?_ (by omega) (by omega) (by first | omega | (dsimp only; omega)) (by first | omega | (dsimp only; omega)) (by first | omega | (dsimp only; omega)) fun b8 m8 h1 hj hb8 hE => ?_
        · intro v hv
          simp [Builtin.zeroCells] at hv
          obtain ⟨i, hi, rfl⟩ := hv
          have : i % 3 = 0 ∨ i % 3 = 1 ∨ i % 3 = 2 := by omega
          rcases this with e | e | e <;> simp [e] <;> rfl
        obtain ⟨zs, js8, hzs, hjs8, hB8⟩ := hj
        have htot : (n : Int).toNat - (0 : Int).toNat + ((n0 : Int) + (Y : Int) - (n : Int)).toNat = n0 + Y := by omega
        simp only [htot]
        have hzl : zs.length = n0 * 3 + Y * 3 - n * 3 := by omega
        refine slcN_blk (by omega) (by omega) (by omega) (by omega) ?_
        have hlen8 : (xs.take (n * 3) ++ zs ++ js8).length = n0 * 3 + Y * 3 + m8 * 3 := by simp only [List.length_append]; omega
        refine cpyS_ct (vs := ys) hB8 hax (by omega) ?_ hoy (by rw [hlen8]; omega) fun h2 hB2 hu2 hs2 => ?_
        · intro i v hv
          have h9 := hq i v hv
          have hr : rd h1 (ax.add i) = rd h (ax.add i) := by
            have : h1[ax.block]? = h[ax.block]? := hE.same _ (by rw [hab]; exact hbx.lt) (fun h => h)
            have hbk : (ax.add i).block = ax.block := by unfold Addr.add; split <;> rfl
            simp only [rd, hbk, this]
          rw [hr]; exact h9
        rw [w64 (by omega) (by omega)]
        refine slcN_blk (by omega) (by omega) (by omega) (by omega) ?_
        refine slcN_blk (by omega) (by omega) (by omega) (by simp; omega) ?_
        have hE2 : Ext h h2 := Upd.above hE hu2 (fun k hk => by omega)
        have hb2 := hb.gete hE2
        refine cpyS_ct (vs := xs.drop (n * 3)) hB2 rfl (by dsimp only; rw [hdl]; omega) (fun i v hv => ?_) (fun v hv => ho v (List.mem_of_mem_drop hv)) (by rw [over_len (by rw [hlen8]; omega), hlen8, hdl]; omega) fun h3 hB3 hu3 hs3 => ?_
        · have hi := (List.getElem?_eq_some_iff.1 hv).1
          rw [add_n, hb2.rd]
          rw [List.getElem?_drop] at hv
          rw [List.getElem?_append_left (by omega)]
          have : 0 + (n : Int).toNat * 3 + i = n * 3 + i := by omega
          rw [this]; exact hv
        have hfinal : over (over (xs.take (n * 3) ++ zs ++ js8) (0 + (n : Int).toNat * 3) ys) (0 + ((n : Int) + (Y : Int)).toNat * 3) (xs.drop (n * 3)) = xs.take (n * 3) ++ ys ++ xs.drop (n * 3) ++ js8 := by
          have e2 : xs.take (n * 3) ++ zs ++ js8 = xs.take (n * 3) ++ zs.take ys.length ++ (zs.drop ys.length ++ js8) := by
            conv => lhs; rw [← List.take_append_drop ys.length zs]
            simp only [List.append_assoc]
          rw [e2, over_mid (by rw [hln]; omega) (by rw [List.length_take]; omega), ← List.append_assoc, over_mid (by rw [List.length_append, hln]; omega) (by rw [List.length_drop, List.length_drop]; omega)]
        rw [hfinal] at hB3
        have hE3 : Ext h h3 := Upd.above hE2 hu3 (fun k hk => by omega)
        refine hK _ h3 (.inr ⟨b8, js8, n0 + Y, m8, ?_, by simp only [List.length_append]; omega, hjs8, hB3⟩) rfl (hE3.mono (fun _ _ h => h.elim)) (fun k hk => by have := at_lit hk; omega)
        simp
      · have hroom : n0 + Y ≤ n0 + m := by simp at hc2; omega
        refine slcN_blk (by omega) (by omega) (by omega) (by simp; omega) ?_
        rw [w64 (by omega) (by omega)]
        refine slcN_blk (by omega) (by dsimp only; omega) (by dsimp only; omega) (by omega) ?_
        obtain ⟨e1, he1⟩ := hbx
        obtain ⟨e2, he2⟩ := hb
        have hb : Blk h b (xs ++ js) := ⟨e2, he2⟩
        refine ⟨ax, _, _, e1, _, e2, hax, rfl, by rw [hab]; exact hbne, by rw [hab]; exact he1, he2, by rw [List.size_toArray, hCl]; omega, ?_⟩
        refine ifB_t rfl ?_
        refine slcN_blk (by omega) (by dsimp only; omega) (by dsimp only; omega) (by omega) ?_
        refine slcN_blk (by omega) (by dsimp only; omega) (by dsimp only; omega) (by omega) ?_
        refine cpyS_ct (vs := xs.drop (n * 3)) hb rfl (by dsimp only; rw [hdl]; omega) (fun i v hv => ?_) (fun v hv => ho v (List.mem_of_mem_drop hv)) (by rw [hdl, hCl]; omega) fun h2 hB2 hu2 hs2 => ?_
        · have hi := (List.getElem?_eq_some_iff.1 hv).1
          rw [add_n, hb.rd, List.getElem?_append_left (by omega)]
          rw [List.getElem?_drop] at hv
          have h0 : 0 + (0 : Int).toNat * 3 + (n : Int).toNat * 3 + i = n * 3 + i := by omega
          rw [h0]; exact hv
        refine slcN_blk (by omega) (by dsimp only; omega) (by dsimp only; omega) (by omega) ?_
        have hol : (over (xs ++ js) (0 + (0 : Int).toNat * 3 + ((n : Int) + (Y : Int)).toNat * 3) (xs.drop (n * 3))).length = n0 * 3 + m * 3 := by rw [over_len (by rw [hdl, hCl]; omega), hCl]
        refine cpyS_ct (vs := ys) hB2 hax (by dsimp only; omega) ?_ hoy (by rw [hol]; omega) fun h3 hB3 hu3 hs3 => ?_
        · intro i v hv
          have h9 := hq i v hv
          have hr : rd h2 (ax.add i) = rd h (ax.add i) := by
            have : h2[ax.block]? = h[ax.block]? := hu2.same _ (by rw [hab]; exact (Array.getElem?_eq_some_iff.1 he1).1) (by rw [hab]; exact hbne)
            have hbk : (ax.add i).block = ax.block := by unfold Addr.add; split <;> rfl
            simp only [rd, hbk, this]
          rw [hr]; exact h9
        have hfin : over (over (xs ++ js) (0 + (0 : Int).toNat * 3 + ((n : Int) + (Y : Int)).toNat * 3) (xs.drop (n * 3))) (0 + (0 : Int).toNat * 3 + (n : Int).toNat * 3) ys = xs.take (n * 3) ++ ys ++ xs.drop (n * 3) ++ js.drop ys.length := by
          have hi : 0 + (0 : Int).toNat * 3 + ((n : Int) + (Y : Int)).toNat * 3 = n * 3 + ys.length := by omega
          rw [hi]
          have e3 : over (xs ++ js) (n * 3 + ys.length) (xs.drop (n * 3)) = xs.take (n * 3) ++ (xs.drop (n * 3) ++ js).take ys.length ++ (xs.drop (n * 3) ++ js.drop ys.length) := by
            unfold over
            have t1 : (xs ++ js).take (n * 3 + ys.length) = xs.take (n * 3) ++ (xs.drop (n * 3) ++ js).take ys.length := by
              conv => lhs; rw [← List.take_append_drop (n * 3) xs, List.append_assoc]
              rw [List.take_append, hln, List.take_of_length_le (by omega)]
              congr 2; omega
            have t2 : (xs ++ js).drop (n * 3 + ys.length + (xs.drop (n * 3)).length) = js.drop ys.length := by
              rw [List.drop_append, List.drop_of_length_le (by omega), hdl, List.nil_append]
              congr 1; omega
            rw [t1, t2]; simp only [List.append_assoc]
          rw [e3, over_mid (by rw [hln]; omega) (by rw [List.length_take, List.length_append, hdl]; omega)]; simp only [List.append_assoc]
        rw [hfin] at hB3
        have hu : Upd (At ⟨some ⟨b, 0, none⟩, n0, n0 + m⟩) h h3 := (hu2.trans hu3 (fun _ _ h => h)).mono (fun k _ hk => ⟨_, rfl, hk.symm⟩)
        refine hK _ h3 (.inr ⟨b, js.drop ys.length, n0 + Y, m - Y, ?_, by simp only [List.length_append]; omega, by rw [List.length_drop]; omega, hB3⟩) (by dsimp only; omega) hu (fun k hk => .inl ⟨_, rfl, (at_lit hk).symm⟩)
        simp only [Sl.mk.injEq, Option.some.injEq, Addr.mk.injEq, true_and, and_true]
        omega
end Go.TS
/- Contracts: slices.Delete of one ref. -/
namespace Go.TS
open Go
set_option linter.unusedVariables false

theorem appS_room_ct {t : TypeId} {z : Array Value} {sz bytes : Nat} {b l c : Nat} {x : Sl} {h : Mem} {K : Sl → Mem → Prop} {cs ys : List Value} (p : Blk h b cs) (q : slCells h x (x.len * sz) ys) (hyl : ys.length = x.len * sz) (hone : Ones ys) (hl : l + x.len ≤ c) (hc : c * sz ≤ cs.length)
    (hK : ∀ h', Blk h' b (over cs (l * sz) ys) → Upd (· = b) h h' → h'.size = h.size → K ⟨some ⟨b, 0, none⟩, l + x.len, c⟩ h') : app t z sz bytes ⟨some ⟨b, 0, none⟩, l, c⟩ x h K := by
  refine ⟨ys, q, hone, fun _ => ?_, fun hg => by dsimp only at hg; omega⟩
  dsimp only
  rw [add_n, Nat.zero_add]
  have hle : l * sz + ys.length ≤ cs.length := by
    rw [hyl, ← Nat.add_mul]; exact Nat.le_trans (Nat.mul_le_mul_right _ hl) hc
  obtain ⟨h1, h2, h3⟩ := wrs_blk (o := l * sz) ys 0 p (by omega)
  exact ⟨room_blk p hle, hK _ h1 h2 h3⟩
theorem clrN_ct {b o l c : Nat} {z : Array Value} {h : Mem} {K : Mem → Prop} {cs : List Value} (p : Blk h b cs) (hz : ∀ v, v ∈ (Builtin.zeroCells z l).toList → oneC v = true) (hl : o + l * z.size ≤ cs.length)
    (hK : ∀ h', Blk h' b (over cs o (Builtin.zeroCells z l).toList) → Upd (· = b) h h' → h'.size = h.size → K h') : clr z ⟨some ⟨b, o, none⟩, l, c⟩ h K := by
  unfold clr
  dsimp only
  have hsz : (Builtin.zeroCells z l).size = l * z.size := by rw [← Array.length_toList, zeroCellsN_len]
  rw [hsz]
  obtain ⟨h1, h2, h3⟩ := wrs_blk (o := o) (Builtin.zeroCells z l).toList 0 p (by rw [zeroCellsN_len]; omega)
  exact ⟨hz, room_blk p hl, hK _ h1 h2 h3⟩
theorem deleteR_ct {τ : Nat → Nat} {s : Sl} {n : Nat} {h : Mem} {K : Sl → Mem → Prop} {xs : List Value} (p : VecN 3 h s xs) (ho : Ones xs) (hn : n < s.len) (hl : s.len ≤ 2 ^ 30)
    (hK : ∀ r h', VecN 3 h' r (xs.take (n * 3) ++ xs.drop ((n + 1) * 3)) → r.len = s.len - 1 → Upd (At s) h h' → (∀ b, At r b → At s b) → r.base ≠ none → K r h') : slices_Delete_api_Ref_api_Ref τ s n (n + 1 : Nat) h K := by
  have hx3 := p.len
  rcases p with ⟨rfl, rfl⟩ | ⟨b, js, n0, m, rfl, hx0, hjs, hb⟩
  · simp at hn
  · dsimp only at hn hl hx3 hK
    refine ⟨by omega, by omega, by dsimp only; omega, by dsimp only; omega, ?_⟩
    refine ifB_f (by simp; omega) ?_
    refine slcN_blk (by omega) (by omega) (by omega) (by simp; omega) ?_
    refine ⟨by omega, by dsimp only; omega, by dsimp only; omega, ?_⟩
    have hdl : (xs.drop ((n + 1) * 3)).length = n0 * 3 - (n + 1) * 3 := by rw [List.length_drop]; omega
    have hcl : (xs ++ js).length = n0 * 3 + m * 3 := by rw [List.length_append]; omega
    have hln : (xs.take (n * 3)).length = n * 3 := by rw [List.length_take]; omega
    have h7l : ((⟨some ⟨b, 0, none⟩, n0, n0 + m⟩ : Sl).cut ((n + 1 : Nat) : Int).toNat ((n0 : Nat) : Int).toNat 3).len = n0 - (n + 1) := by
      simp only [Sl.cut]; omega
    have q7 : slCells h ((⟨some ⟨b, 0, none⟩, n0, n0 + m⟩ : Sl).cut ((n + 1 : Nat) : Int).toNat ((n0 : Nat) : Int).toNat 3) ((n0 - (n + 1)) * 3) (xs.drop ((n + 1) * 3)) := by
      by_cases hcc : n0 + m = n + 1
      · have e : (⟨some ⟨b, 0, none⟩, n0, n0 + m⟩ : Sl).cut ((n + 1 : Nat) : Int).toNat ((n0 : Nat) : Int).toNat 3 = ⟨some ⟨b, 0, none⟩, n0 - (n + 1), n0 + m - (n + 1)⟩ := by
          simp only [Sl.cut, Int.toNat_natCast]
          rw [if_pos hcc]
        rw [e]
        refine ⟨by rw [hdl]; omega, fun i v hv => ?_⟩
        have hi := (List.getElem?_eq_some_iff.1 hv).1
        rw [hdl] at hi; omega
      · have e : (⟨some ⟨b, 0, none⟩, n0, n0 + m⟩ : Sl).cut ((n + 1 : Nat) : Int).toNat ((n0 : Nat) : Int).toNat 3 = ⟨some ⟨b, 0 + (n + 1) * 3, none⟩, n0 - (n + 1), n0 + m - (n + 1)⟩ := by
          simp only [Sl.cut, Int.toNat_natCast]
          rw [if_neg hcc]
          simp only [Option.map_some, add_n]
        rw [e]
        refine ⟨by rw [hdl]; omega, fun i v hv => ?_⟩
        have hi := (List.getElem?_eq_some_iff.1 hv).1
        rw [add_n, hb.rd, List.getElem?_append_left (by omega), Nat.zero_add]
        rw [List.getElem?_drop] at hv
        exact hv
    refine appS_room_ct hb (by rw [h7l]; exact q7) (by rw [h7l, hdl]; omega) (fun v hv => ho v (List.mem_of_mem_drop hv)) (by rw [h7l]; omega) (by rw [hcl]; omega) fun h1 hb1 hu1 hs1 => ?_
    rw [h7l]
    refine slcN_blk (by omega) (by dsimp only; omega) (by dsimp only; omega) (by dsimp only; omega) ?_
    have hol : (over (xs ++ js) (((n : Int).toNat - (0 : Int).toNat) * 3) (xs.drop ((n + 1) * 3))).length = n0 * 3 + m * 3 := by rw [over_len (by rw [hdl, hcl]; omega), hcl]
    have h1r : (((n0 : Nat) : Int).toNat - (((n : Int).toNat - (0 : Int).toNat + (n0 - (n + 1)) : Nat) : Int).toNat) = 1 := by omega
    dsimp only
    rw [h1r]
    refine clrN_ct hb1 ?_ (by rw [hol]; simp only [List.size_toArray, List.length_cons, List.length_nil]; omega) fun h2 hb2 hu2 hs2 => ?_
    · intro v hv
      simp [Builtin.zeroCells] at hv
      obtain ⟨i, hi, rfl⟩ := hv
      have : i % 3 = 0 ∨ i % 3 = 1 ∨ i % 3 = 2 := by omega
      rcases this with e | e | e <;> simp [e] <;> rfl
    have hzl : (Builtin.zeroCells #[Value.int .u64 0, Value.int .i64 0, Value.int .i64 0] 1).toList.length = 3 := zeroCellsN_len _ _
    refine hK _ h2 (.inr ⟨b, (Builtin.zeroCells #[Value.int .u64 0, Value.int .i64 0, Value.int .i64 0] 1).toList ++ js, n0 - 1, m + 1, ?_, by rw [List.length_append, hln, hdl]; omega, by rw [List.length_append, hzl, hjs]; omega, ?_⟩) (by dsimp only; omega) ((hu1.trans hu2 (fun _ _ h => h)).mono (fun k _ hk => ⟨_, rfl, hk.symm⟩)) (fun k hk => ⟨_, rfl, (at_lit hk).symm⟩) (by simp)
    · simp only [Sl.mk.injEq, Option.some.injEq, Addr.mk.injEq, true_and, and_true]
      omega
    · have hy : (xs.drop ((n0 - 1) * 3)).length = 3 := by rw [List.length_drop]; omega
      have e1 : over (xs ++ js) (((n : Int).toNat - (0 : Int).toNat) * 3) (xs.drop ((n + 1) * 3)) = (xs.take (n * 3) ++ xs.drop ((n + 1) * 3)) ++ xs.drop ((n0 - 1) * 3) ++ js := by
        unfold over
        rw [Int.toNat_natCast, show n - (0 : Int).toNat = n from rfl, hdl, List.take_append_of_le_length (by omega)]
        have : n * 3 + (n0 * 3 - (n + 1) * 3) = (n0 - 1) * 3 := by omega
        rw [this, List.drop_append_of_le_length (by omega)]
        simp only [List.append_assoc]
      rw [e1] at hb2
      have hlen2 : (xs.take (n * 3) ++ xs.drop ((n + 1) * 3)).length = (n0 - 1) * 3 := by rw [List.length_append, hln, hdl]; omega
      rw [over_mid (by rw [hlen2]; omega) (by rw [hzl, hy])] at hb2
      rw [← List.append_assoc]
      exact hb2
end Go.TS
