/- The layer 'XS': contracts that are run: slices.Insert of refs. -/
import Derived.Test.YtpgpdmbhlpadmaaGreatXiIns
import Derived.Test.YtpgpdmbhlpadmaaGreatTcReader
import Derived.Test.YtpgpdmbhlpadmaaGreatTcBase
import Derived.Test.YtpgpdmbhlpadmaaGreatXiCrcZ
import Derived.Test.YtpgpdmbhlpadmaaGreatTcPage
namespace Go.XS
open Go Go.TS
noncomputable section
def iInsR0 (n : Nat) (s : As) (m : Nat) (ys : List AV) (h : Am) : Option (AV × Am) := match Nat.beq s.len 0 with
  | false => none
  | true => match Nat.beq s.cap 0 with
    | false => none
    | true => match Nat.beq n 0 with
      | false => none
      | true => sN m fun l => al (.cells (.l ys)) h fun b h => some (.sl ⟨some ⟨b, 0⟩, l, l, 3⟩, h)
def iInsR1 (n : Nat) (s : As) (x : As) (ys : List AV) (h : Am) : Option (AV × Am) := match Nat.beq s.e 3 with
  | false => none
  | true => match s.base with
    | none => none
    | some a => match Nat.beq a.o 0 with
      | false => none
      | true => match x.base with
        | none => none
        | some ax => match pEq ax.b a.b with
          | true => none
          | false => cellsOf h ax.b fun c1 => match isL c1 with
            | false => none
            | true => cellsOf h a.b fun c0 => match isL c0 with
              | false => none
              | true => slC h s (Nat.mul s.len 3) fun c => match c with
                | .b _ _ => none
                | .l xs => match allA xs with
                  | false => none
                  | true => match Nat.ble n s.len with
                    | false => none
                    | true => match Nat.ble (Nat.add s.len x.len) 1000000 with
                      | false => none
                      | true => sN (Nat.add s.len x.len) fun l => al (.cells (.l (insL (Nat.mul n 3) xs ys))) (h.del a.b) fun b h => some (.sl ⟨some ⟨b, 0⟩, l, l, 3⟩, h)
def iInsertR : XCall := fun ags h => match ags with
  | [.sl s, .int .i64 (.ofNat n), .sl x] => slC h x (Nat.mul x.len 3) fun cx => match cx with
    | .b _ _ => none
    | .l ys => match ys with
      | [] => none
      | _ :: _ => match allA ys with
        | false => none
        | true => match Nat.ble x.len 1000000 with
          | false => none
          | true => match Nat.beq s.e 0 with
            | true => iInsR0 n s x.len ys h
            | false => iInsR1 n s x ys h
  | _ => none
end
theorem iInsertR_ch (ags : List AV) (H : Am) (q : AV × Am) (hx : iInsertR ags H = some q) : Ch H q.2 := by
  unfold iInsertR at hx
  split at hx
  · obtain ⟨c, hx⟩ := slC_inv hx
    split at hx
    · cases hx
    · split at hx
      · cases hx
      · split at hx
        · cases hx
        · split at hx
          · cases hx
          · split at hx
            · unfold iInsR0 at hx
              repeat' first | exact none_some hx | (have hq := sN_inv hx; obtain ⟨_, hx⟩ := hq) | (have hq := al_ch hx; obtain ⟨_, _, c, hx⟩ := hq; cases hx; exact c) | (split at hx)
            · unfold iInsR1 at hx
              repeat' first | exact none_some hx | (have hq := sN_inv hx; obtain ⟨_, hx⟩ := hq) | (have hq := slC_inv hx; obtain ⟨_, hx⟩ := hq) | (have hq := cellsOf_inv hx; obtain ⟨_, hx⟩ := hq) | (have hq := al_ch hx; obtain ⟨_, _, c, hx⟩ := hq; cases hx; exact (Ch.del _ _).trans c) | (split at hx)
  · cases hx
theorem mul3 (n : Nat) : Nat.mul n 3 = n * 3 := rfl
theorem iInsertR_R {τ : Nat → Nat} {p : CallP} (hp : ∀ (s x : Sl) (n : Int) (h : Mem) (K : Value → Mem → Prop), slices_Insert_api_Ref_api_Ref τ s n x h (fun r h => K (.slice r.base r.len r.cap) h) → p [.slice s.base s.len s.cap, .int .i64 n, .slice x.base x.len x.cap] h K)
    (γ : G) (φ : Fx) (ags : List AV) (H : Am) (h : Mem) (vs : List Value) (q : AV × Am) (K' : Value → Mem → Prop) (hx : iInsertR ags H = some q) (hR : HR γ φ H h) (hv : VRL γ ags vs) (hK : FinR γ φ q K') : p vs h K' := by
  unfold iInsertR at hx
  split at hx
  rotate_left
  · cases hx
  rename_i s n x
  obtain ⟨V1, vs1, rfl, h1, hv⟩ := hv.uncons
  obtain ⟨V2, vs2, rfl, h2, hv⟩ := hv.uncons
  obtain ⟨V3, vs3, rfl, h3, hv⟩ := hv.uncons
  simp only [VRL] at hv
  subst hv
  obtain ⟨S, hS, rfl⟩ := dSl h1
  obtain ⟨X, hX, rfl⟩ := dSl h3
  rw [dInt h2]
  obtain ⟨cx, ws, g1, g2, g3, g4, hx⟩ := slC_ok hR hX hx
  split at hx
  · cases hx
  rename_i ys
  simp only [Cs.list] at g2 g4
  split at hx
  · cases hx
  rename_i y0 yr
  generalize hys : y0 :: yr = ys at *
  split at hx
  · cases hx
  rename_i hay
  rw [allA_iff] at hay
  split at hx
  · cases hx
  rename_i hly
  rw [ble_iff] at hly
  have hones : Ones ws := one_ofL g2 hay
  have hwl := g2.len
  have hXl : ws.length = X.len * 3 := by rw [hX.1, ← hwl]; exact g4
  have hy1 : 0 < ws.length := by rw [← hwl, ← hys]; simp
  have hXe : X.len = x.len := hX.1
  have hX0 : 0 < X.len := by omega
  have hqc : slCells h X (X.len * 3) ws := by rw [hXe]; exact g1
  split at hx
  · -- an empty one without room
    rename_i he
    rw [beq_iff] at he
    unfold iInsR0 at hx
    split at hx
    · cases hx
    rename_i hl0
    split at hx
    · cases hx
    rename_i hc0
    split at hx
    · cases hx
    rename_i hn0
    rw [beq_iff] at hl0 hc0 hn0
    rw [sN_eq] at hx
    obtain ⟨hnb, hx⟩ := al_in hx
    cases hx
    subst hn0
    have hSl : S.len = 0 := by rw [hS.1, hl0]
    have hSc : S.cap = 0 := by rw [hS.2.2.1 he, hc0]
    refine hp S X _ h K' ?_
    refine ⟨by decide, by rw [hSl]; decide, by rw [hSl, hSc]; decide, ?_⟩
    refine ifB_f (beq_false_of_ne (by omega)) ?_
    refine ifB_t (by rw [hSl]; rfl) ?_
    refine ⟨ws, ?_, hones, fun hh => by omega, fun _ => ⟨by omega, by omega, [], ?_, fun c hc => ?_⟩⟩
    · exact hqc
    · rw [hSl]
      unfold slCells
      split
      · exact ⟨rfl, fun i v hi => by simp at hi⟩
      · rfl
    · rw [hSl] at hc ⊢
      simp only [Nat.zero_add] at hc ⊢
      have hzl : (Builtin.zeroCells #[Value.int .u64 0, Value.int .i64 0, Value.int .i64 0] (c - X.len)).toList.length = (c - X.len) * 3 := zeroCellsN_len _ _
      have hsz : (([] : List Value).toArray ++ ws.toArray ++ Builtin.zeroCells #[Value.int .u64 0, Value.int .i64 0, Value.int .i64 0] (c - X.len)).size = c * 3 := by
        rw [Array.size_append, Array.size_append, ← Array.length_toList (xs := Builtin.zeroCells _ _), hzl]
        simp only [List.size_toArray, List.length_nil]; omega
      have hle := hR.le_ext hnb (h.size, c * 3)
      refine hK _ _ _ hle (hR.new hnb (N := c * 3) (o := .cells (.l ys)) ?_) ?_
      · refine ⟨hsz, trivial, by simp only [Cs.list]; omega, .inl rfl, ?_⟩
        simp only [Cs.list]
        have : (([] : List Value).toArray ++ ws.toArray ++ Builtin.zeroCells #[Value.int .u64 0, Value.int .i64 0, Value.int .i64 0] (c - X.len)).toList.take ys.length = ws := by
          rw [hwl]; simp [List.take_append]
        rw [this]
        exact g2.mono hle
      · refine vSl (SlR.mk' (b := some ⟨H.nx, 0⟩) (by omega) (by omega) (fun hh => by cases hh) ⟨h.size, c * 3, ext_same _ _ _, rfl, fun _ => by simp⟩)
  · -- an own one
    rename_i he0
    unfold iInsR1 at hx
    split at hx
    · cases hx
    rename_i he
    rw [beq_iff] at he
    split at hx
    · cases hx
    rename_i a hb
    split at hx
    · cases hx
    rename_i ho
    rw [beq_iff] at ho
    split at hx
    · cases hx
    rename_i ax hxb
    split at hx
    · cases hx
    rename_i hne
    obtain ⟨cx1, B1, N1, cs1, el1, fr1, k1, k2, k3, k4, hx⟩ := cellsOf_ok hR hx
    split at hx
    · cases hx
    rename_i hL1
    obtain ⟨c0, B, N, cs, el, fr, l1, l2, l3, l4, hx⟩ := cellsOf_ok hR hx
    split at hx
    · cases hx
    rename_i hL0
    obtain ⟨c, os, m1, m2, m3, m4, hx⟩ := slC_ok hR hS hx
    split at hx
    · cases hx
    rename_i xs
    simp only [Cs.list] at m2 m4
    split at hx
    · cases hx
    rename_i hax
    rw [allA_iff] at hax
    split at hx
    · cases hx
    rename_i hn
    rw [ble_iff] at hn
    split at hx
    · cases hx
    rename_i hlen
    rw [ble_iff] at hlen
    have hlen : s.len + x.len ≤ 1000000 := hlen
    rw [sN_eq] at hx
    obtain ⟨hnb, hx⟩ := al_in hx
    cases hx
    have hnb' : inB H H.nx := hnb
    have notB : ∀ c : Cs, isL c = true → c.isB = false := fun c hc => by cases c <;> simp_all [isL, Cs.isB]
    have fr0 : fr = (0, 0) := by
      rcases l4.2.2.2.1 with e | ⟨_, e⟩
      · exact e
      · rw [notB _ hL0] at e; cases e
    have fr10 : fr1 = (0, 0) := by
      rcases k4.2.2.2.1 with e | ⟨_, e⟩
      · exact e
      · rw [notB _ hL1] at e; cases e
    subst fr0 fr10
    obtain ⟨B', N', q1, q2, q3⟩ := hS.base_some hb
    rw [l2] at q1; cases q1
    obtain ⟨B1', N1', r1, r2, _⟩ := hX.base_some hxb
    rw [k2] at r1; cases r1
    rw [ho] at q2
    have hcap := q3 (by rw [he]; decide)
    rw [ho, he, Nat.zero_add] at hcap
    have hSe : S.len = s.len := hS.1
    have hsz : cs.size = N := l4.1
    have hol := m2.len
    have m4' : os.length = S.len * 3 := by rw [← hol, hSe]; exact m4
    have m1' : cellsAt h ⟨B, 0, none⟩ os := by
      have : slCells h S (Nat.mul s.len 3) os := m1
      unfold slCells at this
      rw [q2] at this
      exact this.2
    have hll : S.len * 3 ≤ cs.size := by
      rcases Nat.lt_or_ge cs.size (S.len * 3) with hlt | hge
      · exfalso
        have := m1' cs.size (os[cs.size]'(by omega)) (by simp)
        rw [add_at, rd_at l3] at this
        simp at this
      · exact hge
    have hos : os = cs.toList.take (S.len * 3) := by
      apply List.ext_getElem?
      intro i
      rw [List.getElem?_take]
      split
      · rename_i hi
        have := m1' i (os[i]'(by omega)) (by simp)
        rw [add_at, rd_at l3, Nat.zero_add] at this
        rw [List.getElem?_eq_getElem (by omega)]
        simpa using this.symm
      · rename_i hi
        exact List.getElem?_eq_none (by omega)
    have hvec : VecN 3 h S os := by
      refine .inr ⟨B, cs.toList.drop (S.len * 3), S.len, S.cap - S.len, ?_, m4', ?_, el, ?_⟩
      · cases S with
        | mk b l c =>
          simp only at q2 hcap hll ⊢
          subst q2
          have : l + (c - l) = c := by omega
          rw [this]
      · rw [List.length_drop, Array.length_toList]; omega
      · rw [hos, List.take_append_drop]; exact l3
    have hBne : B1 ≠ B := by
      intro e
      subst e
      have := hR.inj _ _ _ _ _ _ _ k1 l1 k2 l2
      have hpe : ∀ p : P, pEq p p = true := by
        intro p
        induction p with
        | one => rfl
        | dbl p ih => exact ih
        | odd p ih => exact ih
      rw [this, hpe] at hne; cases hne
    refine hp S X _ h K' ?_
    have hxsl : xs.length = os.length := hol
    have hqx : cellsAt h ⟨B1, ax.o, none⟩ ws := by
      have h6 := hqc
      unfold slCells at h6
      rw [r2] at h6
      exact h6.2
    have hcsx : cs1.toList ≠ [] := by
      intro e
      have := hqx 0 (ws[0]'hy1) (by simp)
      rw [add_at, rd_at k3] at this
      have e2 : cs1 = #[] := Array.toList_eq_nil_iff.1 e
      rw [e2] at this; simp at this
    refine insertR_ct (n := n) (X := S.len) (Y := X.len) (xs := os) (ys := ws) (ax := ⟨B1, ax.o, none⟩) (bx := B1) (cx := cs1.toList) hvec m4' hXl (one_ofL m2 hax) (by omega) rfl hqx r2 rfl ⟨el1, k3⟩ hcsx hones hX0 ?_ (by omega) ?_
    · rintro ⟨a', ha', hb'⟩
      rw [q2] at ha'; cases ha'
      exact hBne hb'.symm
    · intro r h' hvr hrl hu hat
      have hlr : (os.take (n * 3) ++ ws ++ os.drop (n * 3)).length = (S.len + X.len) * 3 := by simp only [List.length_append, List.length_take, List.length_drop]; omega
      rcases hvr with ⟨_, e⟩ | ⟨b', js, n', m', rfl, hn', hm', el', hb'⟩
      · rw [e] at hlr; simp at hlr; omega
      dsimp only at hrl
      subst hrl
      have hSB : ∀ k, TS.At S k → k = B := by
        rintro k ⟨a', ha', hk⟩
        rw [q2] at ha'; cases ha'
        exact hk.symm
      have hbb : b' = B ∨ h.size ≤ b' := by
        rcases hat b' ⟨_, rfl, rfl⟩ with h9 | h9
        · exact .inl (hSB _ h9)
        · exact .inr h9
      have hst := hR.stat_ne l1 l2 rfl
      have hfar : φ.far B = none := by
        cases hf : φ.far B with
        | none => rfl
        | some ob => exact absurd l2 ((hR.far B ob hf).2 _ _ N l1)
      have hle := hR.le_ext hnb' (b', (os.take (n * 3) ++ ws ++ os.drop (n * 3) ++ js).length)
      have hrn := hR.renew (H0 := H.del a.b) hnb' (S := fun k => k = B) (fun k o hk => by
          have hg : (H.del a.b).get k = if k = a.b then none else H.get k := get_del _ _ _
          rw [hg] at hk
          split at hk
          · cases hk
          · rename_i hne2
            refine ⟨hk, fun B2 N2 hg2 e => ?_⟩
            subst e
            exact hne2 (hR.inj _ _ _ _ _ _ _ hk l1 hg2 l2)) rfl rfl (fun k hk => by subst hk; exact ⟨hst, hfar⟩)
        hu.sz (fun k hk hne3 => hu.same k hk (fun h10 => hne3 (hSB _ h10))) (o' := .cells (.l (insL (Nat.mul n 3) xs ys))) (B' := b') (N' := (os.take (n * 3) ++ ws ++ os.drop (n * 3) ++ js).length) (ob' := .cells (os.take (n * 3) ++ ws ++ os.drop (n * 3) ++ js).toArray el' (0, 0)) hbb hb' ?_
      · refine hK _ _ _ hle hrn ?_
        refine vSl (SlR.mk' (b := some ⟨H.nx, 0⟩) (by show S.len + X.len = s.len + x.len; omega) (by show s.len + x.len ≤ _; omega) (fun hh => by cases hh) ⟨b', _, ext_same _ _ _, rfl, fun _ => by rw [List.length_append, hlr]; simp only []; omega⟩)
      · refine ⟨by simp, trivial, ?_, .inl rfl, ?_⟩
        · simp only [Cs.list, insL_eq, mul3, List.length_append, List.length_take, List.length_drop]; omega
        · simp only [Cs.list, insL_eq, mul3]
          have e2 : (os.take (n * 3) ++ ws ++ os.drop (n * 3) ++ js).toArray.toList.take (xs.take (n * 3) ++ (ys ++ xs.drop (n * 3))).length = os.take (n * 3) ++ (ws ++ os.drop (n * 3)) := by
            have e3 : (xs.take (n * 3) ++ (ys ++ xs.drop (n * 3))).length = (os.take (n * 3) ++ ws ++ os.drop (n * 3)).length := by simp only [List.length_append, List.length_take, List.length_drop]; omega
            rw [e3]
            show List.take _ (os.take (n * 3) ++ ws ++ os.drop (n * 3) ++ js) = _
            rw [List.take_left, List.append_assoc]
          rw [e2]
          exact ((m2.take (n * 3)).append (g2.append (m2.drop (n * 3)))).mono hle
end Go.XS
/- The layer 'XS': contracts that are run: slices.Delete of one ref. -/
namespace Go.XS
open Go Go.TS
noncomputable section
def delR (n : Nat) (xs : List AV) : List AV := catL (takeL xs (Nat.mul n 3)) (dropL xs (Nat.mul (Nat.succ n) 3))
def iDelR1 (n : Nat) (s : As) (h : Am) : Option (AV × Am) := match Nat.beq s.e 3 with
  | false => none
  | true => match s.base with
    | none => none
    | some a => match Nat.beq a.o 0 with
      | false => none
      | true => cellsOf h a.b fun c0 => match isL c0 with
        | false => none
        | true => slC h s (Nat.mul s.len 3) fun c => match c with
          | .b _ _ => none
          | .l xs => match allA xs with
            | false => none
            | true => match Nat.blt n s.len with
              | false => none
              | true => match Nat.ble s.len 1000000 with
                | false => none
                | true => sN (Nat.sub s.len 1) fun l => al (.cells (.l (delR n xs))) (h.del a.b) fun b h => some (.sl ⟨some ⟨b, 0⟩, l, l, 3⟩, h)
def iDelR : XCall := fun ags h => match ags with
  | [.sl s, .int .i64 (.ofNat n), .int .i64 (.ofNat m)] => match Nat.beq m (Nat.succ n) with
    | false => none
    | true => iDelR1 n s h
  | _ => none
end
theorem iDelR_ch (ags : List AV) (H : Am) (q : AV × Am) (hx : iDelR ags H = some q) : Ch H q.2 := by
  unfold iDelR at hx
  split at hx
  · split at hx
    · cases hx
    · unfold iDelR1 at hx
      repeat' first | exact none_some hx | (have hq := sN_inv hx; obtain ⟨_, hx⟩ := hq) | (have hq := slC_inv hx; obtain ⟨_, hx⟩ := hq) | (have hq := cellsOf_inv hx; obtain ⟨_, hx⟩ := hq) | (have hq := al_ch hx; obtain ⟨_, _, c, hx⟩ := hq; cases hx; exact (Ch.del _ _).trans c) | (split at hx)
  · cases hx
theorem delR_eq (n : Nat) (xs : List AV) : delR n xs = xs.take (n * 3) ++ xs.drop ((n + 1) * 3) := by
  unfold delR; rw [catL_eq, takeL_eq, dropL_eq]; rfl
theorem iDelR_R {τ : Nat → Nat} {p : CallP} (hp : ∀ (s : Sl) (n m : Int) (h : Mem) (K : Value → Mem → Prop), slices_Delete_api_Ref_api_Ref τ s n m h (fun r h => K (.slice r.base r.len r.cap) h) → p [.slice s.base s.len s.cap, .int .i64 n, .int .i64 m] h K)
    (γ : G) (φ : Fx) (ags : List AV) (H : Am) (h : Mem) (vs : List Value) (q : AV × Am) (K' : Value → Mem → Prop) (hx : iDelR ags H = some q) (hR : HR γ φ H h) (hv : VRL γ ags vs) (hK : FinR γ φ q K') : p vs h K' := by
  unfold iDelR at hx
  split at hx
  rotate_left
  · cases hx
  rename_i s n m
  obtain ⟨V1, vs1, rfl, h1, hv⟩ := hv.uncons
  obtain ⟨V2, vs2, rfl, h2, hv⟩ := hv.uncons
  obtain ⟨V3, vs3, rfl, h3, hv⟩ := hv.uncons
  simp only [VRL] at hv
  subst hv
  obtain ⟨S, hS, rfl⟩ := dSl h1
  rw [dInt h2, dInt h3]
  split at hx
  · cases hx
  rename_i hm
  rw [beq_iff] at hm
  unfold iDelR1 at hx
  split at hx
  · cases hx
  rename_i he
  rw [beq_iff] at he
  split at hx
  · cases hx
  rename_i a hb
  split at hx
  · cases hx
  rename_i ho
  rw [beq_iff] at ho
  obtain ⟨c0, B, N, cs, el, fr, l1, l2, l3, l4, hx⟩ := cellsOf_ok hR hx
  split at hx
  · cases hx
  rename_i hL0
  obtain ⟨c, os, m1, m2, m3, m4, hx⟩ := slC_ok hR hS hx
  split at hx
  · cases hx
  rename_i xs
  simp only [Cs.list] at m2 m4
  split at hx
  · cases hx
  rename_i hax
  rw [allA_iff] at hax
  split at hx
  · cases hx
  rename_i hn
  rw [blt_iff] at hn
  split at hx
  · cases hx
  rename_i hlen
  rw [ble_iff] at hlen
  rw [sN_eq] at hx
  obtain ⟨hnb, hx⟩ := al_in hx
  cases hx
  have hnb' : inB H H.nx := hnb
  have fr0 : fr = (0, 0) := by
    rcases l4.2.2.2.1 with e | ⟨_, e⟩
    · exact e
    · cases c0 with
      | l xs => cases e
      | b n len => cases hL0
  subst fr0
  obtain ⟨B', N', q1, q2, q3⟩ := hS.base_some hb
  rw [l2] at q1; cases q1
  rw [ho] at q2
  have hcap := q3 (by rw [he]; decide)
  rw [ho, he, Nat.zero_add] at hcap
  have hSe : S.len = s.len := hS.1
  have hsz : cs.size = N := l4.1
  have hol := m2.len
  have m4' : os.length = S.len * 3 := by rw [← hol, hSe]; exact m4
  have m1' : cellsAt h ⟨B, 0, none⟩ os := by
    have : slCells h S (Nat.mul s.len 3) os := m1
    unfold slCells at this
    rw [q2] at this
    exact this.2
  have hll : S.len * 3 ≤ cs.size := by
    rcases Nat.lt_or_ge cs.size (S.len * 3) with hlt | hge
    · exfalso
      have := m1' cs.size (os[cs.size]'(by omega)) (by simp)
      rw [add_at, rd_at l3] at this
      simp at this
    · exact hge
  have hos : os = cs.toList.take (S.len * 3) := by
    apply List.ext_getElem?
    intro i
    rw [List.getElem?_take]
    split
    · rename_i hi
      have := m1' i (os[i]'(by omega)) (by simp)
      rw [add_at, rd_at l3, Nat.zero_add] at this
      rw [List.getElem?_eq_getElem (by omega)]
      simpa using this.symm
    · rename_i hi
      exact List.getElem?_eq_none (by omega)
  have hvec : VecN 3 h S os := by
    refine .inr ⟨B, cs.toList.drop (S.len * 3), S.len, S.cap - S.len, ?_, m4', ?_, el, ?_⟩
    · cases S with
      | mk b l c =>
        simp only at q2 hcap hll ⊢
        subst q2
        have : l + (c - l) = c := by omega
        rw [this]
    · rw [List.length_drop, Array.length_toList]; omega
    · rw [hos, List.take_append_drop]; exact l3
  have hxsl : xs.length = os.length := hol
  have hn' : n < s.len := hn
  refine hp S _ _ h K' ?_
  have e0 : (Int.ofNat m) = ((n + 1 : Nat) : Int) := by rw [hm]; rfl
  rw [e0]
  refine deleteR_ct (n := n) (xs := os) hvec (one_ofL m2 hax) (by omega) (by omega) ?_
  intro r h' hvr hrl hu hat hrb
  have hlr : (os.take (n * 3) ++ os.drop ((n + 1) * 3)).length = (s.len - 1) * 3 := by simp only [List.length_append, List.length_take, List.length_drop]; omega
  have hSB : ∀ k, TS.At S k → k = B := by
    rintro k ⟨a', ha', hk⟩
    rw [q2] at ha'; cases ha'
    exact hk.symm
  have hst := hR.stat_ne l1 l2 rfl
  have hfar : φ.far B = none := by
    cases hf : φ.far B with
    | none => rfl
    | some ob => exact absurd l2 ((hR.far B ob hf).2 _ _ N l1)
  rcases hvr with ⟨e, _⟩ | ⟨b', js, n', m', rfl, hn3, hm3, el', hb'⟩
  · rw [e] at hrb; exact absurd rfl hrb
  dsimp only at hrl
  subst hrl
  have hbb : b' = B ∨ h.size ≤ b' := .inl (hSB _ (hat b' ⟨_, rfl, rfl⟩))
  have hle := hR.le_ext hnb' (b', (os.take (n * 3) ++ os.drop ((n + 1) * 3) ++ js).length)
  have hrn := hR.renew (H0 := H.del a.b) hnb' (S := fun k => k = B) (fun k o hk => by
      have hg : (H.del a.b).get k = if k = a.b then none else H.get k := get_del _ _ _
      rw [hg] at hk
      split at hk
      · cases hk
      · rename_i hne2
        refine ⟨hk, fun B2 N2 hg2 e => ?_⟩
        subst e
        exact hne2 (hR.inj _ _ _ _ _ _ _ hk l1 hg2 l2)) rfl rfl (fun k hk => by subst hk; exact ⟨hst, hfar⟩)
    hu.sz (fun k hk hne3 => hu.same k hk (fun h10 => hne3 (hSB _ h10))) (o' := .cells (.l (delR n xs))) (B' := b') (N' := (os.take (n * 3) ++ os.drop ((n + 1) * 3) ++ js).length) (ob' := .cells (os.take (n * 3) ++ os.drop ((n + 1) * 3) ++ js).toArray el' (0, 0)) hbb hb' ?_
  · refine hK _ _ _ hle hrn ?_
    refine vSl (SlR.mk' (b := some ⟨H.nx, 0⟩) (by show S.len - 1 = s.len - 1; omega) (by show s.len - 1 ≤ _; omega) (fun hh => by cases hh) ⟨b', _, ext_same _ _ _, rfl, fun _ => by rw [List.length_append, hlr]; simp only []; omega⟩)
  · refine ⟨by simp, trivial, ?_, .inl rfl, ?_⟩
    · simp only [Cs.list, delR_eq, List.length_append, List.length_take, List.length_drop]; omega
    · simp only [Cs.list, delR_eq]
      have e2 : (os.take (n * 3) ++ os.drop ((n + 1) * 3) ++ js).toArray.toList.take (xs.take (n * 3) ++ xs.drop ((n + 1) * 3)).length = os.take (n * 3) ++ os.drop ((n + 1) * 3) := by
        have e3 : (xs.take (n * 3) ++ xs.drop ((n + 1) * 3)).length = (os.take (n * 3) ++ os.drop ((n + 1) * 3)).length := by simp only [List.length_append, List.length_take, List.length_drop]; omega
        rw [e3]
        show List.take _ (os.take (n * 3) ++ os.drop ((n + 1) * 3) ++ js) = _
        rw [List.take_left]
      rw [e2]
      exact ((m2.take (n * 3)).append (m2.drop ((n + 1) * 3))).mono hle
end Go.XS
/- The layer 'XS': contracts that are run: is a byte that is not nought among some? -/
namespace Go.TS
open Go
theorem idxZ_ct {τ : Nat → Nat} {s : Sl} {h : Mem} {K : Int → Mem → Prop} {bs : List Int} (q : Holds h s (By bs)) (hl : bs.length ≤ 2 ^ 40) (hz : ∀ i : Nat, i < bs.length → bs[i]? = some 0) (hK : K (-1) h) : slices_IndexFunc_byte_byte τ s h K := by
  have hn : s.len = bs.length := by have := q.1; rw [By_len] at this; exact this
  refine loop_ct (σ := Int) (fun l h' => h' = h ∧ ∃ i : Nat, l = i ∧ i ≤ bs.length) (fun l _ => bs.length - l.toNat) ⟨rfl, 0, rfl, Nat.zero_le _⟩ ?_
  rintro l h2 ⟨hh, i, rfl, hi⟩
  subst hh
  refine ifB_c (fun hc => ?_) (fun _ => hK)
  have hlt : i < bs.length := by
    have := of_decide_eq_true hc
    rw [hn] at this
    omega
  refine ixld_ct (k := .int .u8) q (by omega) (0 : Int) ?_ ?_
  · have := hz i hlt
    simp [encL, Kind.enc, this]
  · refine ifB_f (A := K (i : Int) h2) rfl ?_
    rw [w64 (by omega) (by omega)]
    exact ⟨⟨rfl, i + 1, by omega, by omega⟩, by omega⟩
end Go.TS
namespace Go.XS
open Go Go.TS
noncomputable section
def iZeros (k : Nat) : XCall := fun ags h => match ags with
  | [.sl s, .fn (.func f) [] []] => match Nat.beq f k with
    | true => match Nat.ble s.len 1048576 with
      | true => slC h s s.len fun c => numOf c fun n _ => match Nat.beq n 0 with
        | true => some (.int .i64 (.negSucc 0), h)
        | false => none
      | false => none
    | false => none
  | _ => none
end
theorem iZeros_ch (k : Nat) (ags : List AV) (H : Am) (q : AV × Am) (hx : iZeros k ags H = some q) : Ch H q.2 := by
  unfold iZeros at hx
  split at hx
  · split at hx
    · split at hx
      · obtain ⟨c, hx⟩ := slC_inv hx
        obtain ⟨_, _, hx⟩ := numOf_inv hx
        split at hx
        · cases hx; exact .refl _
        · cases hx
      · cases hx
    · cases hx
  · cases hx
theorem iZeros_R {τ : Nat → Nat} {p : CallP} {k : Nat} (hp : ∀ (s : Sl) (h : Mem) (K : Value → Mem → Prop), slices_IndexFunc_byte_byte τ s h (fun r h => K (.int .i64 r) h) → p [.slice s.base s.len s.cap, .func (.func k) #[] #[]] h K)
    (γ : G) (φ : Fx) (ags : List AV) (H : Am) (h : Mem) (vs : List Value) (q : AV × Am) (K' : Value → Mem → Prop) (hx : iZeros k ags H = some q) (hR : HR γ φ H h) (hv : VRL γ ags vs) (hK : FinR γ φ q K') : p vs h K' := by
  unfold iZeros at hx
  split at hx
  · rename_i s f
    split at hx
    · rename_i hf
      rw [beq_iff] at hf
      subst hf
      split at hx
      rotate_left
      · cases hx
      rename_i hle
      rw [ble_iff] at hle
      obtain ⟨V1, vs1, rfl, h1, hv⟩ := hv.uncons
      obtain ⟨V2, vs2, rfl, h2, hv⟩ := hv.uncons
      simp only [VRL] at hv
      subst hv
      obtain ⟨S, hS, rfl⟩ := dSl h1
      simp only [VR, VRL] at h2
      obtain ⟨us, ws, rfl, rfl, rfl⟩ := h2
      rcases slB_ok hR hS hx with ⟨n, g1, hx⟩ | ⟨_, g1, hx⟩ | ⟨y, ys, hx⟩
      · have hx : (match Nat.beq n 0 with | true => some (AV.int .i64 (.negSucc 0), H) | false => none) = some q := hx
        split at hx
        · rename_i h0
          rw [beq_iff] at h0
          subst h0
          cases hx
          refine hp S h K' (idxZ_ct g1 ?_ ?_ ?_)
          · simp only [digL, List.length_map, List.length_range]
            have : (2 : Nat) ^ 40 = 1099511627776 := by decide
            omega
          · intro i hi
            simp only [digL, List.length_map, List.length_range] at hi
            simp [digL, hi, dig_zero]
          · exact hK γ _ _ (.refl γ) hR (by simp only [VR]; rfl)
        · cases hx
      · have hx : some (AV.int .i64 (.negSucc 0), H) = some q := hx
        cases hx
        refine hp S h K' (idxZ_ct (bs := []) g1 (by simp) (fun i hi => by simp at hi) ?_)
        exact hK γ _ _ (.refl γ) hR (by simp only [VR]; rfl)
      · cases hx
    · cases hx
  · cases hx
end Go.XS
