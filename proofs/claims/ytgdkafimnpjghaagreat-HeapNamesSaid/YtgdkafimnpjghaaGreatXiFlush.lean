/- The layer 'XS': contracts that are run: Disk.Flush. -/
import Derived.Test.YtgdkafimnpjghaaGreatTcBase
import Derived.Test.YtgdkafimnpjghaaGreatTcFlush
namespace Go.XS
open Go Go.TS
noncomputable section
variable {ρ : Type}
def flStep (h : Am) (b : P) (ob cap len : Nat) (q : Int × AV) (n : Nat) (K : Nat → Option ρ) : Option ρ := match q.1 with
  | .negSucc _ => none
  | .ofNat k => match q.2 with
    | .sl s => match Nat.beq s.len 512 with
      | false => none
      | true => match Nat.ble (Nat.mul (Nat.succ k) 512) cap with
        | false => none
        | true => match Nat.ble (Nat.mul (Nat.succ k) 512) lim with
          | false => none
          | true => match s.base with
            | none => none
            | some ax => match pEq ax.b b with
              | true => none
              | false => slC h s 512 fun c => match c with
                | .l _ => none
                | .b d ld => match Nat.beq ld 512 with
                  | false => none
                  | true => sN (bput n len (Nat.add ob (Nat.mul k 512)) d 512) K
    | _ => none
def flRun (h : Am) (b : P) (ob cap len : Nat) (m : List (Int × AV)) : Nat → (Nat → Option ρ) → Option ρ :=
  List.rec (motive := fun _ => Nat → (Nat → Option ρ) → Option ρ) (fun n K => K n) (fun q _ ih n K => flStep h b ob cap len q n fun n => ih n K) m
def flMain (a : Ad) (sb : As) (ab : Ad) (r : P) (h : Am) : Option (AV × Am) := match pEq a.b ab.b with
  | true => none
  | false => mapOf h r fun kk mk m => match ikEq .i64 kk with
    | false => none
    | true => match mkEq mk (some .sl) with
      | false => none
      | true => cellsOf h ab.b fun c => match c with
        | .l _ => none
        | .b n len => match Nat.ble (Nat.add ab.o sb.cap) len with
          | false => none
          | true => match Nat.ble sb.e 1 with
            | false => none
            | true => flRun h ab.b ab.o sb.cap len m n fun n => st (a.add 2) (.sl ⟨none, 0, 0, 0⟩) ((h.put ab.b (.cells (.b n len))).put r (.map kk mk [])) fun h => some (.int .i64 0, h)
def iFlush : XCall := fun ags h => match ags with
  | [.ptr (some a)] => ld .sl a h fun sb => ld .map (a.add 1) h fun mr => ld .ptr (a.add 3) h fun lf => match lf with
    | some _ => none
    | none => nm mr fun r => match sb.base with
      | none => none
      | some ab => flMain a sb ab r h
  | _ => none
end
theorem flRun_inv {h : Am} {b : P} {ob cap len : Nat} {ρ : Type} {r : ρ} : ∀ (m : List (Int × AV)) (n : Nat) (K : Nat → Option ρ), flRun h b ob cap len m n K = some r → ∃ n', K n' = some r := by
  intro m
  induction m with
  | nil => intro n K hx; exact ⟨n, hx⟩
  | cons q m ih =>
    intro n K hx
    change flStep h b ob cap len q n (fun n => flRun h b ob cap len m n K) = some r at hx
    unfold flStep at hx
    repeat' first | exact none_some hx | (have hq := slC_inv hx; obtain ⟨_, hx⟩ := hq) | (rw [sN_eq] at hx; exact ih _ _ hx) | (split at hx)
theorem iFlush_ch (ags : List AV) (H : Am) (q : AV × Am) (hx : iFlush ags H = some q) : Ch H q.2 := by
  unfold iFlush at hx
  split at hx
  rotate_left
  · cases hx
  obtain ⟨_, hx⟩ := ld_inv hx
  obtain ⟨_, hx⟩ := ld_inv hx
  obtain ⟨_, hx⟩ := ld_inv hx
  split at hx
  · cases hx
  obtain ⟨r, hx⟩ := nm_inv hx
  split at hx
  · cases hx
  rename_i ab _
  unfold flMain at hx
  split at hx
  · cases hx
  obtain ⟨_, _, _, hx⟩ := mapOf_inv hx
  split at hx
  · cases hx
  split at hx
  · cases hx
  obtain ⟨_, hx⟩ := cellsOf_inv hx
  split at hx
  · cases hx
  split at hx
  · cases hx
  split at hx
  · cases hx
  obtain ⟨n', hx⟩ := flRun_inv _ _ _ hx
  obtain ⟨H', c, hx⟩ := st_ch hx
  cases hx
  exact ((Ch.put _ _ _).trans (Ch.put _ _ _)).trans c
def bv (n j : Nat) : Value := .int .u8 (Int.ofNat (dig n j))
theorem get_bytesV (n len i : Nat) (hi : i < len) : (bytesV n len)[i]? = some (bv n i) := by
  simp [bytesV, bv, hi]
theorem dig_put {n len o d ld j : Nat} (hd : d < pw ld) (h : o + ld ≤ len) (hj : j < len) : dig (bput n len o d ld) j = if o ≤ j ∧ j < o + ld then dig d (j - o) else dig n j := by
  have h1 := bytesL_put n len o d ld hd h
  have h2 := congrArg (fun l => l[j]?) h1
  simp only [get_bytesL, if_pos hj] at h2
  have hl : ((bytesL n len).take o).length = o := by rw [List.length_take, len_bytesL]; omega
  by_cases c1 : j < o
  · rw [if_neg (by omega)]
    rw [List.getElem?_append_left (by omega), List.getElem?_take, if_pos c1, get_bytesL, if_pos hj] at h2
    simp at h2; exact_mod_cast h2
  · rw [List.getElem?_append_right (by omega), hl] at h2
    by_cases c2 : j < o + ld
    · rw [if_pos ⟨by omega, c2⟩]
      rw [List.getElem?_append_left (by rw [len_bytesL]; omega), get_bytesL, if_pos (by omega)] at h2
      simp at h2; exact_mod_cast h2
    · rw [if_neg (by omega)]
      rw [List.getElem?_append_right (by rw [len_bytesL]; omega), len_bytesL, List.getElem?_drop, get_bytesL, if_pos (by omega)] at h2
      have e : o + ld + (j - o - ld) = j := by omega
      rw [e] at h2
      simp at h2; exact_mod_cast h2
theorem pEq_self (p : P) : pEq p p = true := by
  induction p with
  | one => rfl
  | dbl p ih => exact ih
  | odd p ih => exact ih
theorem len_bytesV (n len : Nat) : (bytesV n len).length = len := by simp [bytesV]
theorem bytes_of {γ : G} {d len : Nat} {vs : List Value} (h : VRL γ (Cs.b d len).list vs) : vs = bytesV d len := VRL.func _ _ _ h (VRL.bytes d len)
theorem ld_get {γ : G} {φ : Fx} {H : Am} {h : Mem} {ρ : Type} {r : ρ} {k : Kind} {a : Ad} {A : Addr} {K : aty k → Option ρ} (hR : HR γ φ H h) (ha : AdR γ a A) (hx : ld k a H K = some r) :
    ∃ x y, rd h A = some (k.enc y) ∧ KR γ k x y ∧ K x = some r := by
  obtain ⟨y, h1, x, h2, h3⟩ : TS.ld k A h fun y => ∃ x, KR γ k x y ∧ K x = some r := ld_ok hR ha hx fun x y h1 h2 => ⟨x, h1, h2⟩
  exact ⟨x, y, h1, h2, h3⟩
theorem ld_alive {H : Am} {ρ : Type} {r : ρ} {k : Kind} {a : Ad} {K : aty k → Option ρ} (hx : ld k a H K = some r) : ∃ c, H.get a.b = some (.cells c) := by
  unfold ld cellsOf at hx
  split at hx
  · rename_i c hc; exact ⟨c, hc⟩
  · cases hx
theorem flRun_R {γ : G} {φ : Fx} {H : Am} {h : Mem} (hR : HR γ φ H h) {b : P} {B N ob cap len Cap : Nat} {c0 : Cs} {ρ : Type} {r : ρ} (hb : H.get b = some (.cells c0)) (hg : γ b = some (B, N)) (hc : cap ≤ Cap) (hl : ob + cap ≤ len) :
    ∀ (m : List (Int × AV)) (M : Ents (Lk.leaf .sl).ty) (n : Nat) (K : Nat → Option ρ), @MR γ (.leaf .sl) m M → n < pw len → flRun H b ob cap len m n K = some r →
    ∃ (Q : List FlQ) (n' : Nat), Q.map (·.1) = M ∧ (∀ q, q ∈ Q → FlOk h B Cap q) ∧ n' < pw len ∧ (∀ F : Nat → Value, (∀ j, j < len → F j = bv n j) → ∀ j, (j < len → (Q.map (flT ob)).foldl ovF F j = bv n' j) ∧ (len ≤ j → (Q.map (flT ob)).foldl ovF F j = F j)) ∧ K n' = some r := by
  intro m
  induction m with
  | nil =>
    intro M n K hM hn hx
    cases hM
    exact ⟨[], n, rfl, by simp, hn, fun F hF j => ⟨hF j, fun _ => rfl⟩, hx⟩
  | cons q m ih =>
    intro M n K hM hn hx
    cases hM with
    | @cons k v V stp _ M hv hM =>
    change flStep H b ob cap len (k, v) n (fun n => flRun H b ob cap len m n K) = some r at hx
    unfold flStep at hx
    simp only at hx
    split at hx
    · cases hx
    rename_i k
    split at hx
    rotate_left
    · cases hx
    rename_i s
    split at hx
    · cases hx
    rename_i h512
    rw [beq_iff] at h512
    split at hx
    · cases hx
    rename_i hcp
    rw [ble_iff] at hcp
    have hcp : (k + 1) * 512 ≤ cap := hcp
    split at hx
    · cases hx
    rename_i hlm
    rw [ble_iff] at hlm
    have hlm : (k + 1) * 512 ≤ 2 ^ 40 := hlm
    have hoff : ob + k * 512 + 512 ≤ len := by omega
    have hCap : (k + 1) * 512 ≤ Cap := by omega
    split at hx
    · cases hx
    rename_i ax hax
    split at hx
    · cases hx
    rename_i hne
    have hv' : VR γ (.sl s) (Value.slice V.base V.len V.cap) := hv
    obtain ⟨S, hS, he⟩ := dSl hv'
    have hVS : S = V := by cases S; cases V; simp only [Value.slice.injEq] at he; obtain ⟨e1, e2, e3⟩ := he; simp [e1, e2, e3]
    subst hVS
    obtain ⟨c, vs, g1, g2, g3, g4, hx⟩ := slC_ok hR hS hx
    split at hx
    · cases hx
    rename_i d ld
    split at hx
    · cases hx
    rename_i hld
    rw [beq_iff] at hld
    rw [sN_eq] at hx
    simp only [Nat.add_eq, Nat.mul_eq] at hx
    have hvs : vs = bytesV d ld := bytes_of g2
    have hd : d < pw ld := g3
    have hvl : vs.length = ld := by rw [hvs, len_bytesV]
    rw [hld] at hvs hd hvl
    have hbl : bput n len (ob + k * 512) d 512 < pw len :=
      bput_lt n len (ob + k * 512) d 512 hd hoff
    have hih := ih M (bput n len (ob + k * 512) d 512) K hM hbl
    have hih2 := hih hx
    obtain ⟨Q, n', q1, q2, q3, q4, q5⟩ := hih2
    refine ⟨((Int.ofNat k, S, stp), vs) :: Q, n', by rw [List.map_cons, q1], ?_, q3, ?_, q5⟩
    · intro q hq
      rcases List.mem_cons.1 hq with rfl | hq
      · refine ⟨Int.natCast_nonneg k, ?_, ?_, hvl, by rw [hS.1, h512], g1, ?_, ?_⟩
        · exact hCap
        · exact hlm
        · rw [hvs]; intro v hv
          simp only [bytesV, List.mem_map] at hv
          obtain ⟨i, _, rfl⟩ := hv; rfl
        · intro a' ha'
          obtain ⟨B', N', k1, k2, _⟩ := hS.base_some hax
          rw [k2] at ha'; cases ha'
          refine ⟨fun e => ?_, hR.dom _ _ k1⟩
          simp only at e
          subst e
          have : slC H s 512 (fun c => some c) = some (.b d 512) ∨ True := .inr trivial
          -- the entry's block is alive
          obtain ⟨c5, hc5⟩ : ∃ c5, H.get ax.b = some (.cells c5) := by
            have hs5 := ‹slC H s 512 _ = some r›
            unfold slC at hs5
            rw [hax] at hs5
            simp only at hs5
            have hs6 : cellsOf H ax.b _ = some r := hs5
            obtain ⟨c5, _, _, _, _, _, hg5, _⟩ := cellsOf_ok hR hs6
            exact ⟨c5, hg5⟩
          have := hR.inj _ _ _ _ _ _ _ hc5 hb k1 hg
          rw [this, pEq_self] at hne; cases hne
      · exact q2 q hq
    · intro F hF j
      rw [List.map_cons, List.foldl_cons]
      have hT : flT ob ((Int.ofNat k, S, stp), vs) = (ob + k * 512, vs) := rfl
      have hF2 : ∀ j, j < len → ovF F (flT ob ((Int.ofNat k, S, stp), vs)) j = bv (bput n len (ob + k * 512) d 512) j := by
        intro j hj
        unfold bv
        rw [dig_put hd hoff hj, hT]
        by_cases c : ob + k * 512 ≤ j ∧ j < ob + k * 512 + 512
        · rw [if_pos c, ovF_in _ _ (by simp only [hvl]; exact c)]
          simp only
          rw [hvs, get_bytesV _ _ _ (by omega)]; rfl
        · rw [if_neg c, ovF_out _ _ (by simp only [hvl]; exact c)]
          exact hF j hj
      refine ⟨fun hj => (q4 _ hF2 j).1 hj, fun hj => ?_⟩
      rw [(q4 _ hF2 j).2 hj, hT, ovF_out _ _ (by simp only [hvl]; omega)]
theorem iFlush_R {τ : Nat → Nat} {p : CallP} (hp : ∀ (d : Option Addr) (h : Mem) (K : Value → Mem → Prop), sector_Disk_Flush τ d h (fun r h => K (.int .i64 r) h) → p [.pointer d] h K)
    (γ : G) (φ : Fx) (ags : List AV) (H : Am) (h : Mem) (vs : List Value) (q : AV × Am) (K' : Value → Mem → Prop) (hx : iFlush ags H = some q) (hR : HR γ φ H h) (hv : VRL γ ags vs) (hK : FinR γ φ q K') : p vs h K' := by
  unfold iFlush at hx
  split at hx
  rotate_left
  · cases hx
  rename_i a
  obtain ⟨V1, vs1, rfl, h1, hv⟩ := hv.uncons
  simp only [VRL] at hv
  subst hv
  obtain ⟨D, hD, rfl⟩ := dPtr h1
  cases D with
  | none => exact hD.elim
  | some A =>
  refine hp _ h K' ?_
  have hA : AdR γ a A := hD
  have hal := ld_alive hx
  obtain ⟨sb, SB, r0, hSB, hx⟩ := ld_get hR hA hx
  obtain ⟨mr, MRr, r1, hMR, hx⟩ := ld_get hR (hA.add 1) hx
  obtain ⟨lf, LF, r3, hLF, hx⟩ := ld_get hR (hA.add 3) hx
  split at hx
  · cases hx
  have hLF : OAdR γ none LF := hLF
  cases LF with
  | some _ => exact hLF.elim
  | none =>
  cases mr with
  | none => cases hx
  | some r =>
  have hMR : OMR γ (some r) MRr := hMR
  cases MRr with
  | none => exact hMR.elim
  | some rB =>
  have hx : (match (generalizing := false) sb.base with
    | none => none
    | some ab => flMain a sb ab r H) = some q := hx
  split at hx
  · cases hx
  rename_i ab hab
  unfold flMain at hx
  split at hx
  · cases hx
  rename_i hne
  obtain ⟨kk, mk, m, Nm, es, clk, c1, c2, c3, c4, hx⟩ := mapOf_ok hR hMR hx
  split at hx
  · cases hx
  rename_i hkk
  rw [ikEq_iff] at hkk; subst hkk
  split at hx
  · cases hx
  rename_i hmk
  have := mkEq_eq hmk; subst this
  obtain ⟨c, B, N, cs, el, fr, k1, k2, k3, k4, hx⟩ := cellsOf_ok hR hx
  split at hx
  · cases hx
  rename_i n len
  split at hx
  · cases hx
  rename_i hcl
  rw [ble_iff] at hcl
  have hcl : ab.o + sb.cap ≤ len := hcl
  split at hx
  · cases hx
  rename_i he1
  rw [ble_iff] at he1
  have hSB : SlR γ sb SB := hSB
  obtain ⟨B', N', s1, s2, s3⟩ := hSB.base_some hab
  rw [k2] at s1; cases s1
  have c4' := c4
  simp only [OR] at c4'
  obtain ⟨m', d1, d2, d3, d4⟩ := c4'
  obtain ⟨M, f1, f2, f3, f4⟩ := MR.of_OR (kk := .i64) (l := .leaf .sl) (mk := some .sl) rfl d2 d3
  obtain ⟨o1, o2, o3, o4, o5⟩ := k4
  simp only [Cs.list, len_bytesL] at o3 o5
  have hin : ab.o + SB.cap ≤ N := by
    by_cases e0 : sb.e = 0
    · have := hSB.2.2.1 e0; omega
    · have e1 : sb.e = 1 := by omega
      have := s3 e0; rw [e1, Nat.mul_one] at this; omega
  obtain ⟨Q, n', q1, q2, q3, q4, hx⟩ := flRun_R hR k1 k2 hSB.2.1 hcl m M n _ f2 o2 hx
  have hst := d4.to (m' := M) f3 f4
  have hA0 : A.block ≠ B := by
    obtain ⟨B1, N1, g1, rfl⟩ := hA
    intro e
    simp only at e; subst e
    obtain ⟨cq, hcq⟩ := hal
    have := hR.inj _ _ _ _ _ _ _ hcq k1 g1 k2
    rw [this, pEq_self] at hne; cases hne
  have hold : cs.toList.take len = bytesV n len := VRL.func _ _ _ o5 (VRL.bytes n len)
  have hF0 : ∀ j, j < len → (fun i => (cs[i]?).getD undef) j = bv n j := by
    intro j hj
    have h5 := congrArg (fun l => l[j]?) hold
    simp only [List.getElem?_take, if_pos hj, get_bytesV _ _ _ hj, Array.getElem?_toList] at h5
    simp only [h5]; rfl
  refine flush_ct (r := rB) (B := B) (ob := ab.o) (N := N) (clk := clk) (sb := SB) (m := M) (Q := Q) (cs := cs) (el := el) (fr := fr) r0 r1 r3 (by rw [c3, d1, f1]; rfl) hst.1 hst.2.1 hst.2.2 s2 k3 o1 o4.old hin hA0 q1 q2 ?_
  intro h' cs' g1 g2 g3 g4 g5 g6
  have hBlt := lt_of_get k3
  have hrlt := lt_of_get c3
  have hrB : rB ≠ B := fun e => by rw [e, k3] at c3; cases c3
  have hR1 := hR.upd (o' := .cells (.b n' len)) (ob' := .cells cs' el fr) (h' := h.setIfInBounds B (.cells cs' el fr)) k1 k2 (by simp) (by rw [Array.getElem?_setIfInBounds_self_of_lt hBlt]) ?_ (fun x hx => Array.getElem?_setIfInBounds_ne (Ne.symm hx))
  · have hne2 : r ≠ ab.b := fun e => by rw [e, k1] at c1; cases c1
    have c1' : (H.put ab.b (.cells (.b n' len))).get r = some (.map .i64 (some .sl) m) := by
      show PT.get (PT.put _ _ _) _ = _
      rw [get_put, if_neg hne2]; exact c1
    have hR2 := hR1.upd (o' := .map .i64 (some .sl) []) (ob' := .map #[] clk) (h' := (h.setIfInBounds B (.cells cs' el fr)).setIfInBounds rB (.map #[] clk)) c1' c2 (by simp) (by rw [Array.getElem?_setIfInBounds_self_of_lt (by simpa using hrlt)])
      ⟨[], rfl, rfl, fun i q hq => by simp at hq, StOk.nil _⟩ (fun x hx => Array.getElem?_setIfInBounds_ne (Ne.symm hx))
    have hR3 := hR2.growN (h' := h') (by simp [g1]) (fun x hx => by
      simp only [Array.size_setIfInBounds] at hx
      by_cases e1 : x = rB
      · subst e1; rw [g5, Array.getElem?_setIfInBounds_self_of_lt (by simpa using hrlt)]
      · rw [Array.getElem?_setIfInBounds_ne (Ne.symm e1)]
        by_cases e2 : x = B
        · subst e2; rw [g2, Array.getElem?_setIfInBounds_self_of_lt hBlt]
        · rw [Array.getElem?_setIfInBounds_ne (Ne.symm e2)]; exact g6 x hx e2 e1)
    refine (st_ok hR3 (hA.add 2) (v := .slice none 0 0) (vSl (s := ⟨none, 0, 0, 0⟩) (S := ⟨none, 0, 0⟩) ⟨rfl, Nat.le_refl _, fun _ => rfl, rfl, rfl⟩) hx ?_).2
    intro H' h'' hR' hx'
    cases hx'
    exact hK γ _ _ (.refl γ) hR' (by simp only [VR])
  · refine ⟨g3, q3, by simp only [Cs.list, len_bytesL]; exact o3, o4.cat rfl, ?_⟩
    simp only [Cs.list, len_bytesL]
    have : cs'.toList.take len = bytesV n' len := by
      apply List.ext_getElem?
      intro j
      rw [List.getElem?_take]
      split
      · rename_i hj
        rw [get_bytesV _ _ _ hj, Array.getElem?_toList, g4 j (by omega), (q4 _ hF0 j).1 hj]
      · rename_i hj
        rw [List.getElem?_eq_none (by simp [bytesV]; omega)]
    rw [this]
    exact VRL.bytes n' len
end Go.XS
