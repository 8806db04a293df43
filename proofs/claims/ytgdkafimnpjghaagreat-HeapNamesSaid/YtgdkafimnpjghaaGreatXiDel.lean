/- The layer 'XS': contracts that are run: slices.Delete of one whole number. -/
import Derived.Test.YtgdkafimnpjghaaGreatTcBase
import Derived.Test.YtgdkafimnpjghaaGreatTcDel
namespace Go.XS
open Go Go.TS
noncomputable section
def isL' : Cs → Bool
  | .l _ => true
  | .b _ _ => false
def delL (n : Nat) (xs : List AV) : List AV := catL (takeL xs n) (dropL xs (Nat.succ n))
def iDelete1 (n : Nat) (s : As) (h : Am) : Option (AV × Am) := match Nat.beq s.e 1 with
  | false => none
  | true => match s.base with
    | none => none
    | some a => match Nat.beq a.o 0 with
      | false => none
      | true => cellsOf h a.b fun c0 => match isL' c0 with
        | false => none
        | true => slC h s s.len fun c => match c with
          | .b _ _ => none
          | .l xs => match allA xs with
            | false => none
            | true => match Nat.blt n (lenL xs) with
              | false => none
              | true => match Nat.ble (lenL xs) 1000000 with
                | false => none
                | true => sN (Nat.sub (lenL xs) 1) fun l => al (.cells (.l (delL n xs))) (h.del a.b) fun b h => some (.sl ⟨some ⟨b, 0⟩, l, l, 1⟩, h)
def iDelete : XCall := fun ags h => match ags with
  | [.sl s, .int .i64 (.ofNat n), .int .i64 (.ofNat m)] => match Nat.beq m (Nat.succ n) with
    | false => none
    | true => iDelete1 n s h
  | _ => none
end
theorem iDelete_ch (ags : List AV) (H : Am) (q : AV × Am) (hx : iDelete ags H = some q) : Ch H q.2 := by
  unfold iDelete at hx
  split at hx
  · split at hx
    · cases hx
    · unfold iDelete1 at hx
      repeat' first | exact none_some hx | (have hq := sN_inv hx; obtain ⟨_, hx⟩ := hq) | (have hq := slC_inv hx; obtain ⟨_, hx⟩ := hq) | (have hq := cellsOf_inv hx; obtain ⟨_, hx⟩ := hq) | (have hq := al_ch hx; obtain ⟨_, _, c, hx⟩ := hq; cases hx; exact (Ch.del _ _).trans c) | (split at hx)
  · cases hx
theorem delL_eq (n : Nat) (xs : List AV) : delL n xs = xs.take n ++ xs.drop (n + 1) := by
  unfold delL; rw [catL_eq, takeL_eq, dropL_eq]
theorem iDelete_R {τ : Nat → Nat} {p : CallP} (hp : ∀ (s : Sl) (n m : Int) (h : Mem) (K : Value → Mem → Prop), slices_Delete_int_int τ s n m h (fun r h => K (.slice r.base r.len r.cap) h) → p [.slice s.base s.len s.cap, .int .i64 n, .int .i64 m] h K)
    (γ : G) (φ : Fx) (ags : List AV) (H : Am) (h : Mem) (vs : List Value) (q : AV × Am) (K' : Value → Mem → Prop) (hx : iDelete ags H = some q) (hR : HR γ φ H h) (hv : VRL γ ags vs) (hK : FinR γ φ q K') : p vs h K' := by
  unfold iDelete at hx
  split at hx
  rotate_left
  · cases hx
  rename_i s n m
  obtain ⟨V1, vs1, rfl, h1, hv⟩ := hv.uncons
  obtain ⟨V2, vs2, rfl, h2, hv⟩ := hv.uncons
  obtain ⟨V3, vs3, rfl, h3, hv⟩ := hv.uncons
  simp only [VRL] at hv
  subst hv
  obtain ⟨S, hS, rfl⟩ := dSl h1
  rw [dInt h2, dInt h3]
  split at hx
  · cases hx
  rename_i hm
  rw [beq_iff] at hm
  unfold iDelete1 at hx
  split at hx
  · cases hx
  rename_i he
  rw [beq_iff] at he
  split at hx
  · cases hx
  rename_i a hb
  split at hx
  · cases hx
  rename_i ho
  rw [beq_iff] at ho
  obtain ⟨c0, B, N, cs, el, fr, l1, l2, l3, l4, hx⟩ := cellsOf_ok hR hx
  split at hx
  · cases hx
  rename_i hL0
  obtain ⟨c, os, m1, m2, m3, m4, hx⟩ := slC_ok hR hS hx
  split at hx
  · cases hx
  rename_i xs
  simp only [Cs.list] at m2 m4
  split at hx
  · cases hx
  rename_i hax
  rw [allA_iff] at hax
  split at hx
  · cases hx
  rename_i hn
  rw [blt_iff, lenL_eq] at hn
  split at hx
  · cases hx
  rename_i hlen
  rw [ble_iff, lenL_eq] at hlen
  rw [sN_eq] at hx
  obtain ⟨hnb, hx⟩ := al_in hx
  cases hx
  have hnb' : inB H H.nx := hnb
  have fr0 : fr = (0, 0) := by
    rcases l4.2.2.2.1 with e | ⟨_, e⟩
    · exact e
    · cases c0 with
      | l xs => cases e
      | b n len => cases hL0
  subst fr0
  obtain ⟨B', N', q1, q2, q3⟩ := hS.base_some hb
  rw [l2] at q1; cases q1
  rw [ho] at q2
  have hcap := q3 (by rw [he]; decide)
  rw [ho, he, Nat.zero_add, Nat.mul_one] at hcap
  have hsz : cs.size = N := l4.1
  have hol := m2.len
  have hos : os = cs.toList.take S.len := by
    have : slCells h S (s.len) os := m1
    unfold slCells at this
    rw [q2] at this
    obtain ⟨t1, t2⟩ := this
    have hll : S.len ≤ cs.size := by
      rcases Nat.lt_or_ge cs.size S.len with hlt | hge
      · exfalso
        have hlt' : cs.size < os.length := by rw [t1, ← hS.1]; exact hlt
        have := t2 cs.size os[cs.size] (by simp)
        rw [add_at, rd_at l3] at this
        simp at this
      · exact hge
    have hl2 : os.length = S.len := by rw [t1, hS.1]
    apply List.ext_getElem?
    intro i
    rw [List.getElem?_take]
    split
    · rename_i hi
      have := t2 i (os[i]'(by omega)) (by simp)
      rw [add_at, rd_at l3, Nat.zero_add] at this
      rw [List.getElem?_eq_getElem (by omega)]
      simpa using this.symm
    · rename_i hi
      exact List.getElem?_eq_none (by omega)
  have hSlen : S.len = os.length := by rw [← hol, m4]; exact hS.1
  have hSle : S.len ≤ S.cap := by
    have h5 : os.length ≤ cs.size := by rw [hos, List.length_take]; simp; omega
    omega
  have hvec : Vec h S os := by
    refine .inr ⟨B, cs.toList.drop S.len, ?_, el, ?_⟩
    · cases S with
      | mk b l c =>
        simp only at q2 hSlen hcap hSle ⊢
        subst q2
        simp only [List.length_drop, Array.length_toList]
        rw [← hSlen]
        have : l + (cs.size - l) = c := by omega
        rw [this]
    · rw [hos, List.take_append_drop]; exact l3
  have hxsl : xs.length = os.length := hol
  have hn' : n < xs.length := hn
  refine hp S _ _ h K' ?_
  have e0 : (Int.ofNat m) = ((n + 1 : Nat) : Int) := by rw [hm]; rfl
  rw [e0]
  refine delete_ct (n := n) (xs := os) hvec (one_ofL m2 hax) (by omega) (by omega) ?_
  intro r h' hvr hu hat hrb
  have hlr : (os.take n ++ os.drop (n + 1)).length = os.length - 1 := by simp; omega
  have hSB : ∀ k, TS.At S k → k = B := by
    rintro k ⟨a', ha', hk⟩
    rw [q2] at ha'; cases ha'
    exact hk.symm
  have hst := hR.stat_ne l1 l2 rfl
  have hfar : φ.far B = none := by
    cases hf : φ.far B with
    | none => rfl
    | some ob => exact absurd l2 ((hR.far B ob hf).2 _ _ N l1)
  rcases hvr with ⟨e, _⟩ | ⟨b', js, rfl, el', hb'⟩
  · rw [e] at hrb; exact absurd rfl hrb
  have hbb : b' = B ∨ h.size ≤ b' := .inl (hSB _ (hat b' ⟨_, rfl, rfl⟩))
  have hle := hR.le_ext hnb' (b', (os.take n ++ os.drop (n + 1) ++ js).length)
  have hrn := hR.renew (H0 := H.del a.b) hnb' (S := fun k => k = B) (fun k o hk => by
      have hg : (H.del a.b).get k = if k = a.b then none else H.get k := get_del _ _ _
      rw [hg] at hk
      split at hk
      · cases hk
      · rename_i hne2
        refine ⟨hk, fun B2 N2 hg2 e => ?_⟩
        subst e
        exact hne2 (hR.inj _ _ _ _ _ _ _ hk l1 hg2 l2)) rfl rfl (fun k hk => by subst hk; exact ⟨hst, hfar⟩)
    hu.sz (fun k hk hne3 => hu.same k hk (fun h10 => hne3 (hSB _ h10))) (o' := .cells (.l (delL n xs))) (B' := b') (N' := (os.take n ++ os.drop (n + 1) ++ js).length) (ob' := .cells (os.take n ++ os.drop (n + 1) ++ js).toArray el' (0, 0)) hbb hb' ?_
  · refine hK _ _ _ hle hrn ?_
    have e1 : Nat.sub (lenL xs) 1 = (os.take n ++ os.drop (n + 1)).length := by rw [lenL_eq, hlr]; show xs.length - 1 = _; omega
    refine vSl (SlR.mk' (b := some ⟨H.nx, 0⟩) (by rw [e1]) (by rw [e1]; omega) (fun hh => by cases hh) ⟨b', _, ext_same _ _ _, rfl, fun _ => by simp only [List.length_append]; omega⟩)
  · refine ⟨by simp, trivial, ?_, .inl rfl, ?_⟩
    · simp only [Cs.list, delL_eq, List.length_append, List.length_take, List.length_drop]; omega
    · simp only [Cs.list, delL_eq]
      have e2 : (os.take n ++ os.drop (n + 1) ++ js).toArray.toList.take (xs.take n ++ xs.drop (n + 1)).length = os.take n ++ os.drop (n + 1) := by
        have e3 : (xs.take n ++ xs.drop (n + 1)).length = (os.take n ++ os.drop (n + 1)).length := by simp only [List.length_append, List.length_take, List.length_drop]; omega
        rw [e3]
        show List.take _ (os.take n ++ os.drop (n + 1) ++ js) = _
        rw [List.take_left]
      rw [e2]
      exact ((m2.take n).append (m2.drop (n + 1))).mono hle
end Go.XS
