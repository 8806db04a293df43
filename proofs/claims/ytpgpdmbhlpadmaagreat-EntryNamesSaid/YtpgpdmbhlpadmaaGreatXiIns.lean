/- The layer 'XS': contracts that are run: slices.Delete of one whole number. -/
import Derived.Test.YtpgpdmbhlpadmaaGreatTcBase
import Derived.Test.YtpgpdmbhlpadmaaGreatTcPage
import Derived.Test.YtpgpdmbhlpadmaaGreatXiCrcZ
import Derived.Test.YtpgpdmbhlpadmaaGreatTcSlices
namespace Go.XS
open Go Go.TS
noncomputable section
def isL' : Cs → Bool
  | .l _ => true
  | .b _ _ => false
def delL (n : Nat) (xs : List AV) : List AV := catL (takeL xs n) (dropL xs (Nat.succ n))
def iDelete1 (n : Nat) (s : As) (h : Am) : Option (AV × Am) := match Nat.beq s.e 1 with
  | false => none
  | true => match s.base with
    | none => none
    | some a => match Nat.beq a.o 0 with
      | false => none
      | true => cellsOf h a.b fun c0 => match isL' c0 with
        | false => none
        | true => slC h s s.len fun c => match c with
          | .b _ _ => none
          | .l xs => match allA xs with
            | false => none
            | true => match Nat.blt n (lenL xs) with
              | false => none
              | true => match Nat.ble (lenL xs) 1000000 with
                | false => none
                | true => sN (Nat.sub (lenL xs) 1) fun l => al (.cells (.l (delL n xs))) (h.del a.b) fun b h => some (.sl ⟨some ⟨b, 0⟩, l, l, 1⟩, h)
def iDelete : XCall := fun ags h => match ags with
  | [.sl s, .int .i64 (.ofNat n), .int .i64 (.ofNat m)] => match Nat.beq m (Nat.succ n) with
    | false => none
    | true => iDelete1 n s h
  | _ => none
end
theorem iDelete_ch (ags : List AV) (H : Am) (q : AV × Am) (hx : iDelete ags H = some q) : Ch H q.2 := by
  unfold iDelete at hx
  split at hx
  · split at hx
    · cases hx
    · unfold iDelete1 at hx
      repeat' first | exact none_some hx | (have hq := sN_inv hx; obtain ⟨_, hx⟩ := hq) | (have hq := slC_inv hx; obtain ⟨_, hx⟩ := hq) | (have hq := cellsOf_inv hx; obtain ⟨_, hx⟩ := hq) | (have hq := al_ch hx; obtain ⟨_, _, c, hx⟩ := hq; cases hx; exact (Ch.del _ _).trans c) | (split at hx)
  · cases hx
theorem delL_eq (n : Nat) (xs : List AV) : delL n xs = xs.take n ++ xs.drop (n + 1) := by
  unfold delL; rw [catL_eq, takeL_eq, dropL_eq]
theorem iDelete_R {τ : Nat → Nat} {p : CallP} (hp : ∀ (s : Sl) (n m : Int) (h : Mem) (K : Value → Mem → Prop), slices_Delete_int_int τ s n m h (fun r h => K (.slice r.base r.len r.cap) h) → p [.slice s.base s.len s.cap, .int .i64 n, .int .i64 m] h K)
    (γ : G) (φ : Fx) (ags : List AV) (H : Am) (h : Mem) (vs : List Value) (q : AV × Am) (K' : Value → Mem → Prop) (hx : iDelete ags H = some q) (hR : HR γ φ H h) (hv : VRL γ ags vs) (hK : FinR γ φ q K') : p vs h K' := by
  unfold iDelete at hx
  split at hx
  rotate_left
  · cases hx
  rename_i s n m
  obtain ⟨V1, vs1, rfl, h1, hv⟩ := hv.uncons
  obtain ⟨V2, vs2, rfl, h2, hv⟩ := hv.uncons
  obtain ⟨V3, vs3, rfl, h3, hv⟩ := hv.uncons
  simp only [VRL] at hv
  subst hv
  obtain ⟨S, hS, rfl⟩ := dSl h1
  rw [dInt h2, dInt h3]
  split at hx
  · cases hx
  rename_i hm
  rw [beq_iff] at hm
  unfold iDelete1 at hx
  split at hx
  · cases hx
  rename_i he
  rw [beq_iff] at he
  split at hx
  · cases hx
  rename_i a hb
  split at hx
  · cases hx
  rename_i ho
  rw [beq_iff] at ho
  obtain ⟨c0, B, N, cs, el, fr, l1, l2, l3, l4, hx⟩ := cellsOf_ok hR hx
  split at hx
  · cases hx
  rename_i hL0
  obtain ⟨c, os, m1, m2, m3, m4, hx⟩ := slC_ok hR hS hx
  split at hx
  · cases hx
  rename_i xs
  simp only [Cs.list] at m2 m4
  split at hx
  · cases hx
  rename_i hax
  rw [allA_iff] at hax
  split at hx
  · cases hx
  rename_i hn
  rw [blt_iff, lenL_eq] at hn
  split at hx
  · cases hx
  rename_i hlen
  rw [ble_iff, lenL_eq] at hlen
  rw [sN_eq] at hx
  obtain ⟨hnb, hx⟩ := al_in hx
  cases hx
  have hnb' : inB H H.nx := hnb
  have fr0 : fr = (0, 0) := by
    rcases l4.2.2.2.1 with e | ⟨_, e⟩
    · exact e
    · cases c0 with
      | l xs => cases e
      | b n len => cases hL0
  subst fr0
  obtain ⟨B', N', q1, q2, q3⟩ := hS.base_some hb
  rw [l2] at q1; cases q1
  rw [ho] at q2
  have hcap := q3 (by rw [he]; decide)
  rw [ho, he, Nat.zero_add, Nat.mul_one] at hcap
  have hsz : cs.size = N := l4.1
  have hol := m2.len
  have hos : os = cs.toList.take S.len := by
    have : slCells h S (s.len) os := m1
    unfold slCells at this
    rw [q2] at this
    obtain ⟨t1, t2⟩ := this
    have hll : S.len ≤ cs.size := by
      rcases Nat.lt_or_ge cs.size S.len with hlt | hge
      · exfalso
        have hlt' : cs.size < os.length := by rw [t1, ← hS.1]; exact hlt
        have := t2 cs.size os[cs.size] (by simp)
        rw [add_at, rd_at l3] at this
        simp at this
      · exact hge
    have hl2 : os.length = S.len := by rw [t1, hS.1]
    apply List.ext_getElem?
    intro i
    rw [List.getElem?_take]
    split
    · rename_i hi
      have := t2 i (os[i]'(by omega)) (by simp)
      rw [add_at, rd_at l3, Nat.zero_add] at this
      rw [List.getElem?_eq_getElem (by omega)]
      simpa using this.symm
    · rename_i hi
      exact List.getElem?_eq_none (by omega)
  have hSlen : S.len = os.length := by rw [← hol, m4]; exact hS.1
  have hSle : S.len ≤ S.cap := by
    have h5 : os.length ≤ cs.size := by rw [hos, List.length_take]; simp; omega
    omega
  have hvec : Vec h S os := by
    refine .inr ⟨B, cs.toList.drop S.len, ?_, el, ?_⟩
    · cases S with
      | mk b l c =>
        simp only at q2 hSlen hcap hSle ⊢
        subst q2
        simp only [List.length_drop, Array.length_toList]
        rw [← hSlen]
        have : l + (cs.size - l) = c := by omega
        rw [this]
    · rw [hos, List.take_append_drop]; exact l3
  have hxsl : xs.length = os.length := hol
  have hn' : n < xs.length := hn
  refine hp S _ _ h K' ?_
  have e0 : (Int.ofNat m) = ((n + 1 : Nat) : Int) := by rw [hm]; rfl
  rw [e0]
  refine delete_ct (n := n) (xs := os) hvec (one_ofL m2 hax) (by omega) (by omega) ?_
  intro r h' hvr hu hat hrb
  have hlr : (os.take n ++ os.drop (n + 1)).length = os.length - 1 := by simp; omega
  have hSB : ∀ k, TS.At S k → k = B := by
    rintro k ⟨a', ha', hk⟩
    rw [q2] at ha'; cases ha'
    exact hk.symm
  have hst := hR.stat_ne l1 l2 rfl
  have hfar : φ.far B = none := by
    cases hf : φ.far B with
    | none => rfl
    | some ob => exact absurd l2 ((hR.far B ob hf).2 _ _ N l1)
  rcases hvr with ⟨e, _⟩ | ⟨b', js, rfl, el', hb'⟩
  · rw [e] at hrb; exact absurd rfl hrb
  have hbb : b' = B ∨ h.size ≤ b' := .inl (hSB _ (hat b' ⟨_, rfl, rfl⟩))
  have hle := hR.le_ext hnb' (b', (os.take n ++ os.drop (n + 1) ++ js).length)
  have hrn := hR.renew (H0 := H.del a.b) hnb' (S := fun k => k = B) (fun k o hk => by
      have hg : (H.del a.b).get k = if k = a.b then none else H.get k := get_del _ _ _
      rw [hg] at hk
      split at hk
      · cases hk
      · rename_i hne2
        refine ⟨hk, fun B2 N2 hg2 e => ?_⟩
        subst e
        exact hne2 (hR.inj _ _ _ _ _ _ _ hk l1 hg2 l2)) rfl rfl (fun k hk => by subst hk; exact ⟨hst, hfar⟩)
    hu.sz (fun k hk hne3 => hu.same k hk (fun h10 => hne3 (hSB _ h10))) (o' := .cells (.l (delL n xs))) (B' := b') (N' := (os.take n ++ os.drop (n + 1) ++ js).length) (ob' := .cells (os.take n ++ os.drop (n + 1) ++ js).toArray el' (0, 0)) hbb hb' ?_
  · refine hK _ _ _ hle hrn ?_
    have e1 : Nat.sub (lenL xs) 1 = (os.take n ++ os.drop (n + 1)).length := by rw [lenL_eq, hlr]; show xs.length - 1 = _; omega
    refine vSl (SlR.mk' (b := some ⟨H.nx, 0⟩) (by rw [e1]) (by rw [e1]; omega) (fun hh => by cases hh) ⟨b', _, ext_same _ _ _, rfl, fun _ => by simp only [List.length_append]; omega⟩)
  · refine ⟨by simp, trivial, ?_, .inl rfl, ?_⟩
    · simp only [Cs.list, delL_eq, List.length_append, List.length_take, List.length_drop]; omega
    · simp only [Cs.list, delL_eq]
      have e2 : (os.take n ++ os.drop (n + 1) ++ js).toArray.toList.take (xs.take n ++ xs.drop (n + 1)).length = os.take n ++ os.drop (n + 1) := by
        have e3 : (xs.take n ++ xs.drop (n + 1)).length = (os.take n ++ os.drop (n + 1)).length := by simp only [List.length_append, List.length_take, List.length_drop]; omega
        rw [e3]
        show List.take _ (os.take n ++ os.drop (n + 1) ++ js) = _
        rw [List.take_left]
      rw [e2]
      exact ((m2.take n).append (m2.drop (n + 1))).mono hle
end Go.XS
/- The layer 'XS': contracts that are run: slices.Insert of whole numbers. -/
namespace Go.XS
open Go Go.TS
noncomputable section
def isL : Cs → Bool
  | .l _ => true
  | .b _ _ => false
def insL (n : Nat) (xs ys : List AV) : List AV := catL (takeL xs n) (catL ys (dropL xs n))
def iInsert0 (n : Nat) (s : As) (ys : List AV) (h : Am) : Option (AV × Am) := match Nat.beq s.len 0 with
  | false => none
  | true => match Nat.beq s.cap 0 with
    | false => none
    | true => match Nat.beq n 0 with
      | false => none
      | true => sN (lenL ys) fun l => al (.cells (.l ys)) h fun b h => some (.sl ⟨some ⟨b, 0⟩, l, l, 1⟩, h)
def iInsert1 (n : Nat) (s : As) (x : As) (ys : List AV) (h : Am) : Option (AV × Am) := match Nat.beq s.e 1 with
  | false => none
  | true => match s.base with
    | none => none
    | some a => match Nat.beq a.o 0 with
      | false => none
      | true => match x.base with
        | none => none
        | some ax => match pEq ax.b a.b with
          | true => none
          | false => cellsOf h ax.b fun c1 => match isL c1 with
            | false => none
            | true => cellsOf h a.b fun c0 => match isL c0 with
              | false => none
              | true => slC h s s.len fun c => match c with
                | .b _ _ => none
                | .l xs => match allA xs with
                  | false => none
                  | true => match Nat.ble n (lenL xs) with
                    | false => none
                    | true => match Nat.ble (Nat.add (lenL xs) (lenL ys)) 1000000 with
                      | false => none
                      | true => sN (Nat.add (lenL xs) (lenL ys)) fun l => al (.cells (.l (insL n xs ys))) (h.del a.b) fun b h => some (.sl ⟨some ⟨b, 0⟩, l, l, 1⟩, h)
def iInsert : XCall := fun ags h => match ags with
  | [.sl s, .int .i64 (.ofNat n), .sl x] => slC h x x.len fun cx => match cx with
    | .b _ _ => none
    | .l ys => match ys with
      | [] => none
      | _ :: _ => match allA ys with
        | false => none
        | true => match Nat.ble (lenL ys) 1000000 with
          | false => none
          | true => match Nat.beq s.e 0 with
            | true => iInsert0 n s ys h
            | false => iInsert1 n s x ys h
  | _ => none
end
theorem iInsert_ch (ags : List AV) (H : Am) (q : AV × Am) (hx : iInsert ags H = some q) : Ch H q.2 := by
  unfold iInsert at hx
  split at hx
  · obtain ⟨c, hx⟩ := slC_inv hx
    split at hx
    · cases hx
    · split at hx
      · cases hx
      · split at hx
        · cases hx
        · split at hx
          · cases hx
          · split at hx
            · unfold iInsert0 at hx
              repeat' first | exact none_some hx | (have hq := sN_inv hx; obtain ⟨_, hx⟩ := hq) | (have hq := al_ch hx; obtain ⟨_, _, c, hx⟩ := hq; cases hx; exact c) | (split at hx)
            · unfold iInsert1 at hx
              repeat' first | exact none_some hx | (have hq := sN_inv hx; obtain ⟨_, hx⟩ := hq) | (have hq := slC_inv hx; obtain ⟨_, hx⟩ := hq) | (have hq := cellsOf_inv hx; obtain ⟨_, hx⟩ := hq) | (have hq := al_ch hx; obtain ⟨_, _, c, hx⟩ := hq; cases hx; exact (Ch.del _ _).trans c) | (split at hx)
  · cases hx
theorem insL_eq (n : Nat) (xs ys : List AV) : insL n xs ys = xs.take n ++ (ys ++ xs.drop n) := by
  unfold insL; rw [catL_eq, catL_eq, takeL_eq, dropL_eq]
theorem iInsert_R {τ : Nat → Nat} {p : CallP} (hp : ∀ (s x : Sl) (n : Int) (h : Mem) (K : Value → Mem → Prop), slices_Insert_int_int τ s n x h (fun r h => K (.slice r.base r.len r.cap) h) → p [.slice s.base s.len s.cap, .int .i64 n, .slice x.base x.len x.cap] h K)
    (γ : G) (φ : Fx) (ags : List AV) (H : Am) (h : Mem) (vs : List Value) (q : AV × Am) (K' : Value → Mem → Prop) (hx : iInsert ags H = some q) (hR : HR γ φ H h) (hv : VRL γ ags vs) (hK : FinR γ φ q K') : p vs h K' := by
  unfold iInsert at hx
  split at hx
  rotate_left
  · cases hx
  rename_i s n x
  obtain ⟨V1, vs1, rfl, h1, hv⟩ := hv.uncons
  obtain ⟨V2, vs2, rfl, h2, hv⟩ := hv.uncons
  obtain ⟨V3, vs3, rfl, h3, hv⟩ := hv.uncons
  simp only [VRL] at hv
  subst hv
  obtain ⟨S, hS, rfl⟩ := dSl h1
  obtain ⟨X, hX, rfl⟩ := dSl h3
  rw [dInt h2]
  obtain ⟨cx, ws, g1, g2, g3, g4, hx⟩ := slC_ok hR hX hx
  split at hx
  · cases hx
  rename_i ys
  simp only [Cs.list] at g2 g4
  split at hx
  · cases hx
  rename_i y0 yr
  generalize hys : y0 :: yr = ys at *
  split at hx
  · cases hx
  rename_i hay
  rw [allA_iff] at hay
  split at hx
  · cases hx
  rename_i hly
  rw [ble_iff, lenL_eq] at hly
  have hones : Ones ws := one_ofL g2 hay
  have hwl := g2.len
  have hXl : X.len = ws.length := by rw [hX.1, ← g4, hwl]
  have hy1 : 0 < ws.length := by rw [← hwl, ← hys]; simp
  have hq : Holds h X ws := ⟨hXl, by rw [← hwl, g4]; exact g1⟩
  split at hx
  · -- an empty one without room
    rename_i he
    rw [beq_iff] at he
    unfold iInsert0 at hx
    split at hx
    · cases hx
    rename_i hl0
    split at hx
    · cases hx
    rename_i hc0
    split at hx
    · cases hx
    rename_i hn0
    rw [beq_iff] at hl0 hc0 hn0
    rw [sN_eq] at hx
    obtain ⟨hnb, hx⟩ := al_in hx
    cases hx
    subst hn0
    have hSl : S.len = 0 := by rw [hS.1, hl0]
    have hSc : S.cap = 0 := by rw [hS.2.2.1 he, hc0]
    refine hp S X _ h K' ?_
    refine ⟨by decide, by rw [hSl]; decide, by rw [hSl, hSc]; decide, ?_⟩
    refine ifB_f (by rw [hXl]; exact beq_false_of_ne (by omega)) ?_
    refine ifB_t (by rw [hSl]; rfl) ?_
    refine ⟨ws, ?_, hones, fun hh => by omega, fun _ => ⟨by omega, by omega, [], ?_, fun c hc => ?_⟩⟩
    · rw [Nat.mul_one, hXl]; exact hq.2
    · rw [hSl]
      unfold slCells
      split
      · exact ⟨rfl, fun i v hi => by simp at hi⟩
      · rfl
    · rw [hSl, hXl] at hc ⊢
      simp only [Nat.zero_add] at hc ⊢
      have hsz : (([] : List Value).toArray ++ ws.toArray ++ Builtin.zeroCells #[Value.int .i64 0] (c - ws.length)).size = c := by simp [Builtin.zeroCells]; omega
      have hle := hR.le_ext hnb (h.size, c)
      refine hK _ _ _ hle (hR.new hnb (N := c) (o := .cells (.l ys)) ?_) ?_
      · refine ⟨hsz, trivial, by simp only [Cs.list]; omega, .inl rfl, ?_⟩
        simp only [Cs.list]
        have : (([] : List Value).toArray ++ ws.toArray ++ Builtin.zeroCells #[Value.int .i64 0] (c - ws.length)).toList.take ys.length = ws := by
          rw [hwl]; simp [List.take_append]
        rw [this]
        exact g2.mono hle
      · refine vSl (SlR.mk' (b := some ⟨H.nx, 0⟩) (by rw [lenL_eq]; omega) (by rw [lenL_eq]; omega) (fun hh => by cases hh) ⟨h.size, c, ext_same _ _ _, rfl, fun _ => by simp⟩)
  · -- an own one
    rename_i he0
    unfold iInsert1 at hx
    split at hx
    · cases hx
    rename_i he
    rw [beq_iff] at he
    split at hx
    · cases hx
    rename_i a hb
    split at hx
    · cases hx
    rename_i ho
    rw [beq_iff] at ho
    split at hx
    · cases hx
    rename_i ax hxb
    split at hx
    · cases hx
    rename_i hne
    obtain ⟨cx1, B1, N1, cs1, el1, fr1, k1, k2, k3, k4, hx⟩ := cellsOf_ok hR hx
    split at hx
    · cases hx
    rename_i hL1
    obtain ⟨c0, B, N, cs, el, fr, l1, l2, l3, l4, hx⟩ := cellsOf_ok hR hx
    split at hx
    · cases hx
    rename_i hL0
    obtain ⟨c, os, m1, m2, m3, m4, hx⟩ := slC_ok hR hS hx
    split at hx
    · cases hx
    rename_i xs
    simp only [Cs.list] at m2 m4
    split at hx
    · cases hx
    rename_i hax
    rw [allA_iff] at hax
    split at hx
    · cases hx
    rename_i hn
    rw [ble_iff, lenL_eq] at hn
    split at hx
    · cases hx
    rename_i hlen
    rw [ble_iff, lenL_eq, lenL_eq] at hlen
    have hlen : xs.length + ys.length ≤ 1000000 := hlen
    rw [sN_eq] at hx
    obtain ⟨hnb, hx⟩ := al_in hx
    cases hx
    have hnb' : inB H H.nx := hnb
    have notB : ∀ c : Cs, isL c = true → c.isB = false := fun c hc => by cases c <;> simp_all [isL, Cs.isB]
    have fr0 : fr = (0, 0) := by
      rcases l4.2.2.2.1 with e | ⟨_, e⟩
      · exact e
      · rw [notB _ hL0] at e; cases e
    have fr10 : fr1 = (0, 0) := by
      rcases k4.2.2.2.1 with e | ⟨_, e⟩
      · exact e
      · rw [notB _ hL1] at e; cases e
    subst fr0 fr10
    obtain ⟨B', N', q1, q2, q3⟩ := hS.base_some hb
    rw [l2] at q1; cases q1
    obtain ⟨B1', N1', r1, r2, _⟩ := hX.base_some hxb
    rw [k2] at r1; cases r1
    rw [ho] at q2
    have hcap := q3 (by rw [he]; decide)
    rw [ho, he, Nat.zero_add, Nat.mul_one] at hcap
    have hsz : cs.size = N := l4.1
    have hol := m2.len
    have hos : os = cs.toList.take S.len := by
      have : slCells h S (s.len) os := m1
      unfold slCells at this
      rw [q2] at this
      obtain ⟨t1, t2⟩ := this
      have hll : S.len ≤ cs.size := by
        rcases Nat.lt_or_ge cs.size S.len with hlt | hge
        · exfalso
          have hlt' : cs.size < os.length := by rw [t1, ← hS.1]; exact hlt
          have := t2 cs.size os[cs.size] (by simp)
          rw [add_at, rd_at l3] at this
          simp at this
        · exact hge
      have hl2 : os.length = S.len := by rw [t1, hS.1]
      apply List.ext_getElem?
      intro i
      rw [List.getElem?_take]
      split
      · rename_i hi
        have := t2 i (os[i]'(by omega)) (by simp)
        rw [add_at, rd_at l3, Nat.zero_add] at this
        rw [List.getElem?_eq_getElem (by omega)]
        simpa using this.symm
      · rename_i hi
        exact List.getElem?_eq_none (by omega)
    have hSlen : S.len = os.length := by rw [← hol, m4]; exact hS.1
    have hSle : S.len ≤ S.cap := by
      have h5 : os.length ≤ cs.size := by rw [hos, List.length_take]; simp; omega
      omega
    have hvec : Vec h S os := by
      refine .inr ⟨B, cs.toList.drop S.len, ?_, el, ?_⟩
      · cases S with
        | mk b l c =>
          simp only at q2 hSlen hcap hSle ⊢
          subst q2
          simp only [List.length_drop, Array.length_toList]
          rw [← hSlen]
          have : l + (cs.size - l) = c := by omega
          rw [this]
      · rw [hos, List.take_append_drop]; exact l3
    have hBne : B1 ≠ B := by
      intro e
      subst e
      have := hR.inj _ _ _ _ _ _ _ k1 l1 k2 l2
      have hpe : ∀ p : P, pEq p p = true := by
        intro p
        induction p with
        | one => rfl
        | dbl p ih => exact ih
        | odd p ih => exact ih
      rw [this, hpe] at hne; cases hne
    refine hp S X _ h K' ?_
    have hxsl : xs.length = os.length := hol
    have hcsx : cs1.toList ≠ [] := by
      intro e
      have h6 := hq.2
      unfold slCells at h6
      rw [r2] at h6
      have := h6.2 0 (ws[0]'hy1) (by simp)
      rw [add_at, rd_at k3] at this
      have e2 : cs1 = #[] := Array.toList_eq_nil_iff.1 e
      rw [e2] at this; simp at this
    refine insert_ct (n := n) (xs := os) (ys := ws) (ax := ⟨B1, ax.o, none⟩) (bx := B1) (cx := cs1.toList) hvec (one_ofL m2 hax) (by have h7 : n ≤ xs.length := hn; omega) hq r2 rfl ⟨el1, k3⟩ hcsx hones (by intro e; rw [e] at hy1; simp at hy1) ?_ (by omega) ?_
    · rintro ⟨a', ha', hb'⟩
      rw [q2] at ha'; cases ha'
      exact hBne hb'.symm
    · intro r h' hvr hu hat
      have hlr : (os.take n ++ ws ++ os.drop n).length = os.length + ws.length := by simp; omega
      rcases hvr with ⟨_, e⟩ | ⟨b', js, rfl, el', hb'⟩
      · rw [e] at hlr; simp at hlr; omega
      have hSB : ∀ k, TS.At S k → k = B := by
        rintro k ⟨a', ha', hk⟩
        rw [q2] at ha'; cases ha'
        exact hk.symm
      have hbb : b' = B ∨ h.size ≤ b' := by
        rcases hat b' ⟨_, rfl, rfl⟩ with h9 | h9
        · exact .inl (hSB _ h9)
        · exact .inr h9
      have hst := hR.stat_ne l1 l2 rfl
      have hfar : φ.far B = none := by
        cases hf : φ.far B with
        | none => rfl
        | some ob => exact absurd l2 ((hR.far B ob hf).2 _ _ N l1)
      have hle := hR.le_ext hnb' (b', (os.take n ++ ws ++ os.drop n ++ js).length)
      have hrn := hR.renew (H0 := H.del a.b) hnb' (S := fun k => k = B) (fun k o hk => by
          have hg : (H.del a.b).get k = if k = a.b then none else H.get k := get_del _ _ _
          rw [hg] at hk
          split at hk
          · cases hk
          · rename_i hne2
            refine ⟨hk, fun B2 N2 hg2 e => ?_⟩
            subst e
            exact hne2 (hR.inj _ _ _ _ _ _ _ hk l1 hg2 l2)) rfl rfl (fun k hk => by subst hk; exact ⟨hst, hfar⟩)
        hu.sz (fun k hk hne3 => hu.same k hk (fun h10 => hne3 (hSB _ h10))) (o' := .cells (.l (insL n xs ys))) (B' := b') (N' := (os.take n ++ ws ++ os.drop n ++ js).length) (ob' := .cells (os.take n ++ ws ++ os.drop n ++ js).toArray el' (0, 0)) hbb hb' ?_
      · refine hK _ _ _ hle hrn ?_
        have e1 : Nat.add (lenL xs) (lenL ys) = (os.take n ++ ws ++ os.drop n).length := by rw [lenL_eq, lenL_eq, hlr]; show xs.length + ys.length = _; omega
        refine vSl (SlR.mk' (b := some ⟨H.nx, 0⟩) (by rw [e1]) (by rw [e1]; omega) (fun hh => by cases hh) ⟨b', _, ext_same _ _ _, rfl, fun _ => by simp; omega⟩)
      · refine ⟨by simp, trivial, ?_, .inl rfl, ?_⟩
        · simp only [Cs.list, insL_eq, List.length_append, List.length_take, List.length_drop]; omega
        · simp only [Cs.list, insL_eq]
          have e2 : (os.take n ++ ws ++ os.drop n ++ js).toArray.toList.take (xs.take n ++ (ys ++ xs.drop n)).length = os.take n ++ (ws ++ os.drop n) := by
            have e3 : (xs.take n ++ (ys ++ xs.drop n)).length = (os.take n ++ ws ++ os.drop n).length := by simp only [List.length_append, List.length_take, List.length_drop]; omega
            rw [e3]
            show List.take _ (os.take n ++ ws ++ os.drop n ++ js) = _
            rw [List.take_left, List.append_assoc]
          rw [e2]
          exact ((m2.take n).append (g2.append (m2.drop n))).mono hle
end Go.XS
/- The layer 'XS': contracts that are run: octet.Word. -/
namespace Go.XS
open Go Go.TS
noncomputable section
def okW (m : Nat) : Bool := match Nat.beq m 2 with
  | true => true
  | false => match Nat.beq m 4 with
    | true => true
    | false => Nat.beq m 8
def iWord1 (n m x len : Nat) (h : Am) : Option (AV × Am) := match okW m with
  | false => none
  | true => match Nat.ble len 1000000 with
    | false => none
    | true => sN (Nat.add len m) fun l => sN (bcat x len (bsub n 0 m)) fun y => al (.cells (.b y l)) h fun b h => some (.sl ⟨some ⟨b, 0⟩, l, l, 1⟩, h)
def iWord : XCall := fun ags h => match ags with
  | [.sl s, .int .u64 (.ofNat n), .int .i64 (.ofNat m)] => slC h s s.len fun c => match c with
    | .b x len => iWord1 n m x len h
    | .l [] => iWord1 n m 0 0 h
    | _ => none
  | _ => none
end
theorem okW_ok {m : Nat} (h : okW m = true) : m = 2 ∨ m = 4 ∨ m = 8 := by
  unfold okW at h
  split at h
  · rename_i e; rw [beq_iff] at e; exact .inl e
  · split at h
    · rename_i e; rw [beq_iff] at e; exact .inr (.inl e)
    · rw [beq_iff] at h; exact .inr (.inr h)
theorem iWord_ch (ags : List AV) (H : Am) (q : AV × Am) (hx : iWord ags H = some q) : Ch H q.2 := by
  have key : ∀ n m x len, iWord1 n m x len H = some q → Ch H q.2 := by
    intro n m x len hx
    unfold iWord1 at hx
    repeat' first | exact none_some hx | (have hq := sN_inv hx; obtain ⟨_, hx⟩ := hq) | (have hq := al_ch hx; obtain ⟨_, _, c, hx⟩ := hq; cases hx; exact c) | (split at hx)
  unfold iWord at hx
  split at hx
  · obtain ⟨_, hx⟩ := slC_inv hx
    split at hx
    · exact key _ _ _ _ hx
    · exact key _ _ _ _ hx
    · cases hx
  · cases hx
theorem sh_eq (n k : Nat) : sh (n : Int) k = ((n / 256 ^ k : Nat) : Int) := by
  induction k with
  | zero => simp [sh]
  | succ k ih =>
    simp only [sh, ih]
    rw [Int.fdiv_eq_ediv_of_nonneg _ (by decide)]
    have : (2 : Int) ^ 8 = ((256 : Nat) : Int) := rfl
    rw [this, ← Int.natCast_ediv, Nat.pow_succ, Nat.div_div_eq_div_mul]
theorem leB_dig (n m : Nat) : leB m (n : Int) = digL (bsub n 0 m) m := by
  unfold leB digL
  apply List.map_congr_left
  intro i hi
  rw [List.mem_range] at hi
  rw [sh_eq, IntKind.wrap_u8, dig_bsub _ _ _ _ hi, Nat.zero_add, dig_eq]
  simp
theorem iWord1_R {τ : Nat → Nat} {γ : G} {φ : Fx} {H : Am} {h : Mem} {q : AV × Am} {K' : Value → Mem → Prop} {n m x len : Nat} {S : Sl} {ws : List Value} (hR : HR γ φ H h) (hx : iWord1 n m x len H = some q) (hb : x < pw len) (hl : S.len = len) (hw : slCells h S len ws) (he : ws = bytesV x len) (hK : FinR γ φ q K') :
    octet_Word τ S n m h fun r h => K' (.slice r.base r.len r.cap) h := by
  unfold iWord1 at hx
  split at hx
  · cases hx
  rename_i hm
  split at hx
  · cases hx
  rename_i hle
  rw [ble_iff] at hle
  rw [sN_eq, sN_eq] at hx
  obtain ⟨hnb, hx⟩ := al_in hx
  cases hx
  have h248 := okW_ok hm
  have hwl : ws.length = len := by rw [he]; simp [bytesV]
  refine word_ct (xs := ws) (by rcases h248 with e | e | e <;> subst e <;> simp) ⟨by rw [hl, hwl], by rw [hwl]; exact hw⟩ ?_ (by omega) ?_
  · rw [he, bytesV_By]; exact By_ones _
  · intro r h' hv hn hE
    rw [Int.toNat_natCast, leB_dig] at hv
    have hbl : bsub n 0 m < pw m := bsub_lt n 0 m
    have hcat : ws ++ By (digL (bsub n 0 m) m) = bytesV (bcat x len (bsub n 0 m)) (len + m) := by
      rw [he, ← bytesV_By]
      have hR2 : VRL γ (bytesL x len ++ bytesL (bsub n 0 m) m) (bytesV x len ++ bytesV (bsub n 0 m) m) := (VRL.bytes _ _).append (VRL.bytes _ _)
      rw [bytesL_cat _ _ _ _ hb] at hR2
      exact VRL.func _ _ _ hR2 (VRL.bytes _ _)
    rw [hcat] at hv
    have hm0 : 0 < m := by rcases h248 with e | e | e <;> omega
    have hll : (bytesV (bcat x len (bsub n 0 m)) (len + m)).length = len + m := by simp [bytesV]
    rcases hv with ⟨_, e⟩ | ⟨b', js, rfl, el', hb'⟩
    · rw [e] at hll; simp at hll; omega
    have hle2 := hR.le_ext hnb (b', (bytesV (bcat x len (bsub n 0 m)) (len + m) ++ js).length)
    have hrn := hR.renew (H0 := H) hnb (S := fun _ => False) (fun k o hk => ⟨hk, fun _ _ _ hh => hh⟩) rfl rfl (fun _ hh => hh.elim) hE.sz (fun k hk _ => hE.same k hk (fun hh => hh)) (o' := .cells (.b (bcat x len (bsub n 0 m)) (Nat.add len m))) (B' := b')
      (N' := (bytesV (bcat x len (bsub n 0 m)) (len + m) ++ js).length) (ob' := .cells (bytesV (bcat x len (bsub n 0 m)) (len + m) ++ js).toArray el' (0, 0)) (.inr (hn b' ⟨_, rfl, rfl⟩)) hb' ?_
    · refine hK _ _ _ hle2 hrn ?_
      have e1 : Nat.add len m = (bytesV (bcat x len (bsub n 0 m)) (len + m)).length := by rw [hll]; rfl
      refine vSl (SlR.mk' (b := some ⟨H.nx, 0⟩) (by rw [e1]) (by rw [e1]; omega) (fun hh => by cases hh) ⟨b', _, ext_same _ _ _, rfl, fun _ => by simp⟩)
    · refine ⟨by simp, bcat_lt _ _ _ _ hb hbl, ?_, .inl rfl, ?_⟩
      · simp only [Cs.list, len_bytesL, List.length_append, hll]; exact Nat.le_add_right _ _
      · simp only [Cs.list, len_bytesL]
        have e2 : (bytesV (bcat x len (bsub n 0 m)) (len + m) ++ js).toArray.toList.take (Nat.add len m) = bytesV (bcat x len (bsub n 0 m)) (len + m) := by
          show List.take _ (bytesV (bcat x len (bsub n 0 m)) (len + m) ++ js) = _
          rw [List.take_left' (by rw [hll]; rfl)]
        rw [e2]
        exact VRL.bytes _ _
theorem iWord_R {τ : Nat → Nat} {p : CallP} (hp : ∀ (s : Sl) (n m : Int) (h : Mem) (K : Value → Mem → Prop), octet_Word τ s n m h (fun r h => K (.slice r.base r.len r.cap) h) → p [.slice s.base s.len s.cap, .int .u64 n, .int .i64 m] h K)
    (γ : G) (φ : Fx) (ags : List AV) (H : Am) (h : Mem) (vs : List Value) (q : AV × Am) (K' : Value → Mem → Prop) (hx : iWord ags H = some q) (hR : HR γ φ H h) (hv : VRL γ ags vs) (hK : FinR γ φ q K') : p vs h K' := by
  unfold iWord at hx
  split at hx
  rotate_left
  · cases hx
  rename_i s n m
  obtain ⟨V1, vs1, rfl, h1, hv⟩ := hv.uncons
  obtain ⟨V2, vs2, rfl, h2, hv⟩ := hv.uncons
  obtain ⟨V3, vs3, rfl, h3, hv⟩ := hv.uncons
  simp only [VRL] at hv
  subst hv
  obtain ⟨S, hS, rfl⟩ := dSl h1
  rw [dInt h2, dInt h3]
  obtain ⟨c, ws, g1, g2, g3, g4, hx⟩ := slC_ok hR hS hx
  refine hp S _ _ h K' ?_
  split at hx
  · rename_i x len
    simp only [Cs.list, len_bytesL] at g4
    exact iWord1_R hR hx g3 (by rw [hS.1, g4]) (by rw [g4]; exact g1) (VRL.func _ _ _ g2 (VRL.bytes _ _)) hK
  · simp only [Cs.list, List.length_nil] at g4
    simp only [Cs.list, VRL] at g2
    refine iWord1_R (x := 0) (len := 0) (ws := ws) hR hx (by rw [pw_zero]; decide) (by rw [hS.1, ← g4]) (by rw [← g4] at g1; exact g1) (by rw [g2]; rfl) hK
  · cases hx
end Go.XS
