/- The layer 'XS': contracts that are run: octet.Word. -/
import Derived.Test.YtmcpegdmnogkbaaGreatDoorXiBase
import Derived.Test.YtmcpegdmnogkbaaGreatDoorTcBase
set_option linter.unusedSimpArgs false
set_option linter.unusedVariables false
namespace Go.XS
open Go Go.TS
noncomputable section
def okW (m : Nat) : Bool := match Nat.beq m 2 with
  | true => true
  | false => match Nat.beq m 4 with
    | true => true
    | false => Nat.beq m 8
def iWord1 (n m x len : Nat) (h : Am) : Option (AV × Am) := match okW m with
  | false => none
  | true => match Nat.ble len 1000000 with
    | false => none
    | true => sN (Nat.add len m) fun l => sN (bcat x len (bsub n 0 m)) fun y => al (.cells (.b y l)) h fun b h => some (.sl ⟨some ⟨b, 0⟩, l, l, 1⟩, h)
def iWord : XCall := fun ags h => match ags with
  | [.sl s, .int .u64 (.ofNat n), .int .i64 (.ofNat m)] => slC h s s.len fun c => match c with
    | .b x len => iWord1 n m x len h
    | .l [] => iWord1 n m 0 0 h
    | _ => none
  | _ => none
end
theorem okW_ok {m : Nat} (h : okW m = true) : m = 2 ∨ m = 4 ∨ m = 8 := by
  unfold okW at h
  split at h
  · rename_i e; rw [beq_iff] at e; exact .inl e
  · split at h
    · rename_i e; rw [beq_iff] at e; exact .inr (.inl e)
    · rw [beq_iff] at h; exact .inr (.inr h)
theorem iWord_ch (ags : List AV) (H : Am) (q : AV × Am) (hx : iWord ags H = some q) : Ch H q.2 := by
  have key : ∀ n m x len, iWord1 n m x len H = some q → Ch H q.2 := by
    intro n m x len hx
    unfold iWord1 at hx
    repeat' first | exact none_some hx | (have hq := sN_inv hx; obtain ⟨_, hx⟩ := hq) | (have hq := al_ch hx; obtain ⟨_, _, c, hx⟩ := hq; cases hx; exact c) | (split at hx)
  unfold iWord at hx
  split at hx
  · obtain ⟨_, hx⟩ := slC_inv hx
    split at hx
    · exact key _ _ _ _ hx
    · exact key _ _ _ _ hx
    · cases hx
  · cases hx
theorem sh_eq (n k : Nat) : sh (n : Int) k = ((n / 256 ^ k : Nat) : Int) := by
  induction k with
  | zero => simp [sh]
  | succ k ih =>
    simp only [sh, ih]
    rw [Int.fdiv_eq_ediv_of_nonneg _ (by decide)]
    have : (2 : Int) ^ 8 = ((256 : Nat) : Int) := rfl
    rw [this, ← Int.natCast_ediv, Nat.pow_succ, Nat.div_div_eq_div_mul]
theorem leB_dig (n m : Nat) : leB m (n : Int) = digL (bsub n 0 m) m := by
  unfold leB digL
  apply List.map_congr_left
  intro i hi
  rw [List.mem_range] at hi
  rw [sh_eq, IntKind.wrap_u8, dig_bsub _ _ _ _ hi, Nat.zero_add, dig_eq]
  simp
theorem iWord1_R {τ : Nat → Nat} {γ : G} {φ : Fx} {H : Am} {h : Mem} {q : AV × Am} {K' : Value → Mem → Prop} {n m x len : Nat} {S : Sl} {ws : List Value} (hR : HR γ φ H h) (hx : iWord1 n m x len H = some q) (hb : x < pw len) (hl : S.len = len) (hw : slCells h S len ws) (he : ws = bytesV x len) (hK : FinR γ φ q K') :
    octet_Word τ S n m h fun r h => K' (.slice r.base r.len r.cap) h := by
  unfold iWord1 at hx
  split at hx
  · cases hx
  rename_i hm
  split at hx
  · cases hx
  rename_i hle
  rw [ble_iff] at hle
  rw [sN_eq, sN_eq] at hx
  obtain ⟨hnb, hx⟩ := al_in hx
  cases hx
  have h248 := okW_ok hm
  have hwl : ws.length = len := by rw [he]; simp [bytesV]
  refine word_ct (xs := ws) (by rcases h248 with e | e | e <;> subst e <;> simp) ⟨by rw [hl, hwl], by rw [hwl]; exact hw⟩ ?_ (by omega) ?_
  · rw [he, bytesV_By]; exact By_ones _
  · intro r h' hv hn hE
    rw [Int.toNat_natCast, leB_dig] at hv
    have hbl : bsub n 0 m < pw m := bsub_lt n 0 m
    have hcat : ws ++ By (digL (bsub n 0 m) m) = bytesV (bcat x len (bsub n 0 m)) (len + m) := by
      rw [he, ← bytesV_By]
      have hR2 : VRL γ (bytesL x len ++ bytesL (bsub n 0 m) m) (bytesV x len ++ bytesV (bsub n 0 m) m) := (VRL.bytes _ _).append (VRL.bytes _ _)
      rw [bytesL_cat _ _ _ _ hb] at hR2
      exact VRL.func _ _ _ hR2 (VRL.bytes _ _)
    rw [hcat] at hv
    have hm0 : 0 < m := by rcases h248 with e | e | e <;> omega
    have hll : (bytesV (bcat x len (bsub n 0 m)) (len + m)).length = len + m := by simp [bytesV]
    rcases hv with ⟨_, e⟩ | ⟨b', js, rfl, el', hb'⟩
    · rw [e] at hll; simp at hll; omega
    have hle2 := hR.le_ext hnb (b', (bytesV (bcat x len (bsub n 0 m)) (len + m) ++ js).length)
    have hrn := hR.renew (H0 := H) hnb (S := fun _ => False) (fun k o hk => ⟨hk, fun _ _ _ hh => hh⟩) rfl rfl (fun _ hh => hh.elim) hE.sz (fun k hk _ => hE.same k hk (fun hh => hh)) (o' := .cells (.b (bcat x len (bsub n 0 m)) (Nat.add len m))) (B' := b')
      (N' := (bytesV (bcat x len (bsub n 0 m)) (len + m) ++ js).length) (ob' := .cells (bytesV (bcat x len (bsub n 0 m)) (len + m) ++ js).toArray el' (0, 0)) (.inr (hn b' ⟨_, rfl, rfl⟩)) hb' ?_
    · refine hK _ _ _ hle2 hrn ?_
      have e1 : Nat.add len m = (bytesV (bcat x len (bsub n 0 m)) (len + m)).length := by rw [hll]; rfl
      refine vSl (SlR.mk' (b := some ⟨H.nx, 0⟩) (by rw [e1]) (by rw [e1]; omega) (fun hh => by cases hh) ⟨b', _, ext_same _ _ _, rfl, fun _ => by simp⟩)
    · refine ⟨by simp, bcat_lt _ _ _ _ hb hbl, ?_, .inl rfl, ?_⟩
      · simp only [Cs.list, len_bytesL, List.length_append, hll]; exact Nat.le_add_right _ _
      · simp only [Cs.list, len_bytesL]
        have e2 : (bytesV (bcat x len (bsub n 0 m)) (len + m) ++ js).toArray.toList.take (Nat.add len m) = bytesV (bcat x len (bsub n 0 m)) (len + m) := by
          show List.take _ (bytesV (bcat x len (bsub n 0 m)) (len + m) ++ js) = _
          rw [List.take_left' (by rw [hll]; rfl)]
        rw [e2]
        exact VRL.bytes _ _
theorem iWord_R {τ : Nat → Nat} {p : CallP} (hp : ∀ (s : Sl) (n m : Int) (h : Mem) (K : Value → Mem → Prop), octet_Word τ s n m h (fun r h => K (.slice r.base r.len r.cap) h) → p [.slice s.base s.len s.cap, .int .u64 n, .int .i64 m] h K)
    (γ : G) (φ : Fx) (ags : List AV) (H : Am) (h : Mem) (vs : List Value) (q : AV × Am) (K' : Value → Mem → Prop) (hx : iWord ags H = some q) (hR : HR γ φ H h) (hv : VRL γ ags vs) (hK : FinR γ φ q K') : p vs h K' := by
  unfold iWord at hx
  split at hx
  rotate_left
  · cases hx
  rename_i s n m
  obtain ⟨V1, vs1, rfl, h1, hv⟩ := hv.uncons
  obtain ⟨V2, vs2, rfl, h2, hv⟩ := hv.uncons
  obtain ⟨V3, vs3, rfl, h3, hv⟩ := hv.uncons
  simp only [VRL] at hv
  subst hv
  obtain ⟨S, hS, rfl⟩ := dSl h1
  rw [dInt h2, dInt h3]
  obtain ⟨c, ws, g1, g2, g3, g4, hx⟩ := slC_ok hR hS hx
  refine hp S _ _ h K' ?_
  split at hx
  · rename_i x len
    simp only [Cs.list, len_bytesL] at g4
    exact iWord1_R hR hx g3 (by rw [hS.1, g4]) (by rw [g4]; exact g1) (VRL.func _ _ _ g2 (VRL.bytes _ _)) hK
  · simp only [Cs.list, List.length_nil] at g4
    simp only [Cs.list, VRL] at g2
    refine iWord1_R (x := 0) (len := 0) (ws := ws) hR hx (by rw [pw_zero]; decide) (by rw [hS.1, ← g4]) (by rw [← g4] at g1; exact g1) (by rw [g2]; rfl) hK
  · cases hx
end Go.XS
/- The layer 'XS': contracts that are run: Disk.Flush. -/
namespace Go.XS
open Go Go.TS
noncomputable section
variable {ρ : Type}
def flStep (h : Am) (b : P) (ob cap len : Nat) (q : Int × AV) (n : Nat) (K : Nat → Option ρ) : Option ρ := match q.1 with
  | .negSucc _ => none
  | .ofNat k => match q.2 with
    | .sl s => match Nat.beq s.len 512 with
      | false => none
      | true => match Nat.ble (Nat.mul (Nat.succ k) 512) cap with
        | false => none
        | true => match Nat.ble (Nat.mul (Nat.succ k) 512) lim with
          | false => none
          | true => match s.base with
            | none => none
            | some ax => match pEq ax.b b with
              | true => none
              | false => slC h s 512 fun c => match c with
                | .l _ => none
                | .b d ld => match Nat.beq ld 512 with
                  | false => none
                  | true => sN (bput n len (Nat.add ob (Nat.mul k 512)) d 512) K
    | _ => none
def flRun (h : Am) (b : P) (ob cap len : Nat) (m : List (Int × AV)) : Nat → (Nat → Option ρ) → Option ρ :=
  List.rec (motive := fun _ => Nat → (Nat → Option ρ) → Option ρ) (fun n K => K n) (fun q _ ih n K => flStep h b ob cap len q n fun n => ih n K) m
def flMain (a : Ad) (sb : As) (ab : Ad) (r : P) (h : Am) : Option (AV × Am) := match pEq a.b ab.b with
  | true => none
  | false => mapOf h r fun kk mk m => match kcEq .i64 kk with
    | false => none
    | true => match mkEq mk (some .sl) with
      | false => none
      | true => cellsOf h ab.b fun c => match c with
        | .l _ => none
        | .b n len => match Nat.ble (Nat.add ab.o sb.cap) len with
          | false => none
          | true => match Nat.ble sb.e 1 with
            | false => none
            | true => flRun h ab.b ab.o sb.cap len m n fun n => st (a.add 2) (.sl ⟨none, 0, 0, 0⟩) ((h.put ab.b (.cells (.b n len))).put r (.map kk mk [])) fun h => some (.int .i64 0, h)
def iFlush : XCall := fun ags h => match ags with
  | [.ptr (some a)] => ld .sl a h fun sb => ld .map (a.add 1) h fun mr => ld .ptr (a.add 3) h fun lf => match lf with
    | some _ => none
    | none => nm mr fun r => match sb.base with
      | none => none
      | some ab => flMain a sb ab r h
  | _ => none
end
theorem flRun_inv {h : Am} {b : P} {ob cap len : Nat} {ρ : Type} {r : ρ} : ∀ (m : List (Int × AV)) (n : Nat) (K : Nat → Option ρ), flRun h b ob cap len m n K = some r → ∃ n', K n' = some r := by
  intro m
  induction m with
  | nil => intro n K hx; exact ⟨n, hx⟩
  | cons q m ih =>
    intro n K hx
    change flStep h b ob cap len q n (fun n => flRun h b ob cap len m n K) = some r at hx
    unfold flStep at hx
    repeat' first | exact none_some hx | (have hq := slC_inv hx; obtain ⟨_, hx⟩ := hq) | (rw [sN_eq] at hx; exact ih _ _ hx) | (split at hx)
theorem iFlush_ch (ags : List AV) (H : Am) (q : AV × Am) (hx : iFlush ags H = some q) : Ch H q.2 := by
  unfold iFlush at hx
  split at hx
  rotate_left
  · cases hx
  obtain ⟨_, hx⟩ := ld_inv hx
  obtain ⟨_, hx⟩ := ld_inv hx
  obtain ⟨_, hx⟩ := ld_inv hx
  split at hx
  · cases hx
  obtain ⟨r, hx⟩ := nm_inv hx
  split at hx
  · cases hx
  rename_i ab _
  unfold flMain at hx
  split at hx
  · cases hx
  obtain ⟨_, _, _, hx⟩ := mapOf_inv hx
  split at hx
  · cases hx
  split at hx
  · cases hx
  obtain ⟨_, hx⟩ := cellsOf_inv hx
  split at hx
  · cases hx
  split at hx
  · cases hx
  split at hx
  · cases hx
  obtain ⟨n', hx⟩ := flRun_inv _ _ _ hx
  obtain ⟨H', c, hx⟩ := st_ch hx
  cases hx
  exact ((Ch.put _ _ _).trans (Ch.put _ _ _)).trans c
def bv (n j : Nat) : Value := .int .u8 (Int.ofNat (dig n j))
theorem get_bytesV (n len i : Nat) (hi : i < len) : (bytesV n len)[i]? = some (bv n i) := by
  simp [bytesV, bv, hi]
theorem dig_put {n len o d ld j : Nat} (hd : d < pw ld) (h : o + ld ≤ len) (hj : j < len) : dig (bput n len o d ld) j = if o ≤ j ∧ j < o + ld then dig d (j - o) else dig n j := by
  have h1 := bytesL_put n len o d ld hd h
  have h2 := congrArg (fun l => l[j]?) h1
  simp only [get_bytesL, if_pos hj] at h2
  have hl : ((bytesL n len).take o).length = o := by rw [List.length_take, len_bytesL]; omega
  by_cases c1 : j < o
  · rw [if_neg (by omega)]
    rw [List.getElem?_append_left (by omega), List.getElem?_take, if_pos c1, get_bytesL, if_pos hj] at h2
    simp at h2; exact_mod_cast h2
  · rw [List.getElem?_append_right (by omega), hl] at h2
    by_cases c2 : j < o + ld
    · rw [if_pos ⟨by omega, c2⟩]
      rw [List.getElem?_append_left (by rw [len_bytesL]; omega), get_bytesL, if_pos (by omega)] at h2
      simp at h2; exact_mod_cast h2
    · rw [if_neg (by omega)]
      rw [List.getElem?_append_right (by rw [len_bytesL]; omega), len_bytesL, List.getElem?_drop, get_bytesL, if_pos (by omega)] at h2
      have e : o + ld + (j - o - ld) = j := by omega
      rw [e] at h2
      simp at h2; exact_mod_cast h2
theorem pEq_self (p : P) : pEq p p = true := by
  induction p with
  | one => rfl
  | dbl p ih => exact ih
  | odd p ih => exact ih
theorem len_bytesV (n len : Nat) : (bytesV n len).length = len := by simp [bytesV]
theorem bytes_of {γ : G} {d len : Nat} {vs : List Value} (h : VRL γ (Cs.b d len).list vs) : vs = bytesV d len := VRL.func _ _ _ h (VRL.bytes d len)
theorem ld_get {γ : G} {φ : Fx} {H : Am} {h : Mem} {ρ : Type} {r : ρ} {k : Kind} {a : Ad} {A : Addr} {K : aty k → Option ρ} (hR : HR γ φ H h) (ha : AdR γ a A) (hx : ld k a H K = some r) :
    ∃ x y, rd h A = some (k.enc y) ∧ KR γ k x y ∧ K x = some r := by
  obtain ⟨y, h1, x, h2, h3⟩ : TS.ld k A h fun y => ∃ x, KR γ k x y ∧ K x = some r := ld_ok hR ha hx fun x y h1 h2 => ⟨x, h1, h2⟩
  exact ⟨x, y, h1, h2, h3⟩
theorem ld_alive {H : Am} {ρ : Type} {r : ρ} {k : Kind} {a : Ad} {K : aty k → Option ρ} (hx : ld k a H K = some r) : ∃ c, H.get a.b = some (.cells c) := by
  unfold ld cellsOf at hx
  split at hx
  · rename_i c hc; exact ⟨c, hc⟩
  · cases hx
theorem cells_alive {H : Am} {ρ : Type} {r : ρ} {b : P} {K : Cs → Option ρ} (hx : cellsOf H b K = some r) : ∃ c, H.get b = some (.cells c) := by
  unfold cellsOf at hx
  split at hx
  · rename_i c hc; exact ⟨c, hc⟩
  · cases hx
theorem flRun_R {γ : G} {φ : Fx} {H : Am} {h : Mem} (hR : HR γ φ H h) {b : P} {B N ob cap len Cap : Nat} {c0 : Cs} {ρ : Type} {r : ρ} (hb : H.get b = some (.cells c0)) (hg : γ b = some (B, N)) (hc : cap ≤ Cap) (hl : ob + cap ≤ len) :
    ∀ (m : List (Int × AV)) (M : Ents (Lk.leaf .sl).ty) (n : Nat) (K : Nat → Option ρ), @MR γ (.leaf .sl) m M → n < pw len → flRun H b ob cap len m n K = some r →
    ∃ (Q : List FlQ) (n' : Nat), Q.map (·.1) = M ∧ (∀ q, q ∈ Q → FlOk h B Cap q) ∧ n' < pw len ∧ (∀ F : Nat → Value, (∀ j, j < len → F j = bv n j) → ∀ j, (j < len → (Q.map (flT ob)).foldl ovF F j = bv n' j) ∧ (len ≤ j → (Q.map (flT ob)).foldl ovF F j = F j)) ∧ K n' = some r := by
  intro m
  induction m with
  | nil =>
    intro M n K hM hn hx
    cases hM
    exact ⟨[], n, rfl, by simp, hn, fun F hF j => ⟨hF j, fun _ => rfl⟩, hx⟩
  | cons q m ih =>
    intro M n K hM hn hx
    cases hM with
    | @cons k v V stp _ M hv hM =>
    change flStep H b ob cap len (k, v) n (fun n => flRun H b ob cap len m n K) = some r at hx
    unfold flStep at hx
    simp only at hx
    split at hx
    · cases hx
    rename_i k
    split at hx
    rotate_left
    · cases hx
    rename_i s
    split at hx
    · cases hx
    rename_i h512
    rw [beq_iff] at h512
    split at hx
    · cases hx
    rename_i hcp
    rw [ble_iff] at hcp
    have hcp : (k + 1) * 512 ≤ cap := hcp
    split at hx
    · cases hx
    rename_i hlm
    rw [ble_iff] at hlm
    have hlm : (k + 1) * 512 ≤ 2 ^ 40 := hlm
    have hoff : ob + k * 512 + 512 ≤ len := by omega
    have hCap : (k + 1) * 512 ≤ Cap := by omega
    split at hx
    · cases hx
    rename_i ax hax
    split at hx
    · cases hx
    rename_i hne
    have hv' : VR γ (.sl s) (Value.slice V.base V.len V.cap) := hv
    obtain ⟨S, hS, he⟩ := dSl hv'
    have hVS : S = V := by cases S; cases V; simp only [Value.slice.injEq] at he; obtain ⟨e1, e2, e3⟩ := he; simp [e1, e2, e3]
    subst hVS
    obtain ⟨c, vs, g1, g2, g3, g4, hx⟩ := slC_ok hR hS hx
    split at hx
    · cases hx
    rename_i d ld
    split at hx
    · cases hx
    rename_i hld
    rw [beq_iff] at hld
    rw [sN_eq] at hx
    simp only [Nat.add_eq, Nat.mul_eq] at hx
    have hvs : vs = bytesV d ld := bytes_of g2
    have hd : d < pw ld := g3
    have hvl : vs.length = ld := by rw [hvs, len_bytesV]
    rw [hld] at hvs hd hvl
    have hbl : bput n len (ob + k * 512) d 512 < pw len :=
      bput_lt n len (ob + k * 512) d 512 hd hoff
    have hih := ih M (bput n len (ob + k * 512) d 512) K hM hbl
    have hih2 := hih hx
    obtain ⟨Q, n', q1, q2, q3, q4, q5⟩ := hih2
    refine ⟨((Int.ofNat k, S, stp), vs) :: Q, n', by rw [List.map_cons, q1], ?_, q3, ?_, q5⟩
    · intro q hq
      rcases List.mem_cons.1 hq with rfl | hq
      · refine ⟨Int.natCast_nonneg k, ?_, ?_, hvl, by rw [hS.1, h512], g1, ?_, ?_⟩
        · exact hCap
        · exact hlm
        · rw [hvs]; intro v hv
          simp only [bytesV, List.mem_map] at hv
          obtain ⟨i, _, rfl⟩ := hv; rfl
        · intro a' ha'
          obtain ⟨B', N', k1, k2, _⟩ := hS.base_some hax
          rw [k2] at ha'; cases ha'
          refine ⟨fun e => ?_, hR.dom _ _ k1⟩
          simp only at e
          subst e
          have : slC H s 512 (fun c => some c) = some (.b d 512) ∨ True := .inr trivial
          -- the entry's block is alive
          obtain ⟨c5, hc5⟩ : ∃ c5, H.get ax.b = some (.cells c5) := by
            have hs5 := ‹slC H s 512 _ = some r›
            unfold slC at hs5
            rw [hax] at hs5
            simp only at hs5
            have hs6 : cellsOf H ax.b _ = some r := hs5
            obtain ⟨c5, _, _, _, _, _, hg5, _⟩ := cellsOf_ok hR hs6
            exact ⟨c5, hg5⟩
          have := hR.inj _ _ _ _ _ _ _ hc5 hb k1 hg
          rw [this, pEq_self] at hne; cases hne
      · exact q2 q hq
    · intro F hF j
      rw [List.map_cons, List.foldl_cons]
      have hT : flT ob ((Int.ofNat k, S, stp), vs) = (ob + k * 512, vs) := rfl
      have hF2 : ∀ j, j < len → ovF F (flT ob ((Int.ofNat k, S, stp), vs)) j = bv (bput n len (ob + k * 512) d 512) j := by
        intro j hj
        unfold bv
        rw [dig_put hd hoff hj, hT]
        by_cases c : ob + k * 512 ≤ j ∧ j < ob + k * 512 + 512
        · rw [if_pos c, ovF_in _ _ (by simp only [hvl]; exact c)]
          simp only
          rw [hvs, get_bytesV _ _ _ (by omega)]; rfl
        · rw [if_neg c, ovF_out _ _ (by simp only [hvl]; exact c)]
          exact hF j hj
      refine ⟨fun hj => (q4 _ hF2 j).1 hj, fun hj => ?_⟩
      rw [(q4 _ hF2 j).2 hj, hT, ovF_out _ _ (by simp only [hvl]; omega)]
theorem iFlush_R {τ : Nat → Nat} {p : CallP} (hp : ∀ (d : Option Addr) (h : Mem) (K : Value → Mem → Prop), sector_Disk_Flush τ d h (fun r h => K (.int .i64 r) h) → p [.pointer d] h K)
    (γ : G) (φ : Fx) (ags : List AV) (H : Am) (h : Mem) (vs : List Value) (q : AV × Am) (K' : Value → Mem → Prop) (hx : iFlush ags H = some q) (hR : HR γ φ H h) (hv : VRL γ ags vs) (hK : FinR γ φ q K') : p vs h K' := by
  unfold iFlush at hx
  split at hx
  rotate_left
  · cases hx
  rename_i a
  obtain ⟨V1, vs1, rfl, h1, hv⟩ := hv.uncons
  simp only [VRL] at hv
  subst hv
  obtain ⟨D, hD, rfl⟩ := dPtr h1
  cases D with
  | none => exact hD.elim
  | some A =>
  refine hp _ h K' ?_
  have hA : AdR γ a A := hD
  have hal := ld_alive hx
  obtain ⟨sb, SB, r0, hSB, hx⟩ := ld_get hR hA hx
  obtain ⟨mr, MRr, r1, hMR, hx⟩ := ld_get hR (hA.add 1) hx
  obtain ⟨lf, LF, r3, hLF, hx⟩ := ld_get hR (hA.add 3) hx
  split at hx
  · cases hx
  have hLF : OAdR γ none LF := hLF
  cases LF with
  | some _ => exact hLF.elim
  | none =>
  cases mr with
  | none => cases hx
  | some r =>
  have hMR : OMR γ (some r) MRr := hMR
  cases MRr with
  | none => exact hMR.elim
  | some rB =>
  have hx : (match (generalizing := false) sb.base with
    | none => none
    | some ab => flMain a sb ab r H) = some q := hx
  split at hx
  · cases hx
  rename_i ab hab
  unfold flMain at hx
  split at hx
  · cases hx
  rename_i hne
  obtain ⟨kk, mk, m, Nm, es, clk, c1, c2, c3, c4, hx⟩ := mapOf_ok hR hMR hx
  split at hx
  · cases hx
  rename_i hkk
  rw [kcEq_iff] at hkk; subst hkk
  split at hx
  · cases hx
  rename_i hmk
  have := mkEq_eq hmk; subst this
  obtain ⟨c, B, N, cs, el, fr, k1, k2, k3, k4, hx⟩ := cellsOf_ok hR hx
  split at hx
  · cases hx
  rename_i n len
  split at hx
  · cases hx
  rename_i hcl
  rw [ble_iff] at hcl
  have hcl : ab.o + sb.cap ≤ len := hcl
  split at hx
  · cases hx
  rename_i he1
  rw [ble_iff] at he1
  have hSB : SlR γ sb SB := hSB
  obtain ⟨B', N', s1, s2, s3⟩ := hSB.base_some hab
  rw [k2] at s1; cases s1
  have c4' := c4
  simp only [OR] at c4'
  obtain ⟨m', d1, d2, d3, d4⟩ := c4'
  obtain ⟨M, f1, f2, f3, f4⟩ := MR.of_OR (kk := .i64) (l := .leaf .sl) (mk := some .sl) rfl d2 d3
  obtain ⟨o1, o2, o3, o4, o5⟩ := k4
  simp only [Cs.list, len_bytesL] at o3 o5
  have hin : ab.o + SB.cap ≤ N := by
    by_cases e0 : sb.e = 0
    · have := hSB.2.2.1 e0; omega
    · have e1 : sb.e = 1 := by omega
      have := s3 e0; rw [e1, Nat.mul_one] at this; omega
  obtain ⟨Q, n', q1, q2, q3, q4, hx⟩ := flRun_R hR k1 k2 hSB.2.1 hcl m M n _ f2 o2 hx
  have hst := d4.to (m' := M) f3 f4
  have hA0 : A.block ≠ B := by
    obtain ⟨B1, N1, g1, rfl⟩ := hA
    intro e
    simp only at e; subst e
    obtain ⟨cq, hcq⟩ := hal
    have := hR.inj _ _ _ _ _ _ _ hcq k1 g1 k2
    rw [this, pEq_self] at hne; cases hne
  have hold : cs.toList.take len = bytesV n len := VRL.func _ _ _ o5 (VRL.bytes n len)
  have hF0 : ∀ j, j < len → (fun i => (cs[i]?).getD undef) j = bv n j := by
    intro j hj
    have h5 := congrArg (fun l => l[j]?) hold
    simp only [List.getElem?_take, if_pos hj, get_bytesV _ _ _ hj, Array.getElem?_toList] at h5
    simp only [h5]; rfl
  refine flush_ct (r := rB) (B := B) (ob := ab.o) (N := N) (clk := clk) (sb := SB) (m := M) (Q := Q) (cs := cs) (el := el) (fr := fr) r0 r1 r3 (by rw [c3, d1, f1]; rfl) hst.1.1 hst.1.2.1 hst.1.2.2 s2 k3 o1 o4.old hin hA0 q1 q2 ?_
  intro h' cs' g1 g2 g3 g4 g5 g6
  have hBlt := lt_of_get k3
  have hrlt := lt_of_get c3
  have hrB : rB ≠ B := fun e => by rw [e, k3] at c3; cases c3
  have hR1 := hR.upd (o' := .cells (.b n' len)) (ob' := .cells cs' el fr) (h' := h.setIfInBounds B (.cells cs' el fr)) k1 k2 (by simp) (by rw [Array.getElem?_setIfInBounds_self_of_lt hBlt]) ?_ (fun x hx => Array.getElem?_setIfInBounds_ne (Ne.symm hx))
  · have hne2 : r ≠ ab.b := fun e => by rw [e, k1] at c1; cases c1
    have c1' : (H.put ab.b (.cells (.b n' len))).get r = some (.map .i64 (some .sl) m) := by
      show PT.get (PT.put _ _ _) _ = _
      rw [get_put, if_neg hne2]; exact c1
    have hR2 := hR1.upd (o' := .map .i64 (some .sl) []) (ob' := .map #[] clk) (h' := (h.setIfInBounds B (.cells cs' el fr)).setIfInBounds rB (.map #[] clk)) c1' c2 (by simp) (by rw [Array.getElem?_setIfInBounds_self_of_lt (by simpa using hrlt)])
      ⟨[], rfl, rfl, fun i q hq => by simp at hq, StOk.nil _⟩ (fun x hx => Array.getElem?_setIfInBounds_ne (Ne.symm hx))
    have hR3 := hR2.growN (h' := h') (by simp [g1]) (fun x hx => by
      simp only [Array.size_setIfInBounds] at hx
      by_cases e1 : x = rB
      · subst e1; rw [g5, Array.getElem?_setIfInBounds_self_of_lt (by simpa using hrlt)]
      · rw [Array.getElem?_setIfInBounds_ne (Ne.symm e1)]
        by_cases e2 : x = B
        · subst e2; rw [g2, Array.getElem?_setIfInBounds_self_of_lt hBlt]
        · rw [Array.getElem?_setIfInBounds_ne (Ne.symm e2)]; exact g6 x hx e2 e1)
    refine (st_ok hR3 (hA.add 2) (v := .slice none 0 0) (vSl (s := ⟨none, 0, 0, 0⟩) (S := ⟨none, 0, 0⟩) ⟨rfl, Nat.le_refl _, fun _ => rfl, rfl, rfl⟩) hx ?_).2
    intro H' h'' hR' hx'
    cases hx'
    exact hK γ _ _ (.refl γ) hR' (by simp only [VR])
  · refine ⟨g3, q3, by simp only [Cs.list, len_bytesL]; exact o3, o4.cat rfl, ?_⟩
    simp only [Cs.list, len_bytesL]
    have : cs'.toList.take len = bytesV n' len := by
      apply List.ext_getElem?
      intro j
      rw [List.getElem?_take]
      split
      · rename_i hj
        rw [get_bytesV _ _ _ hj, Array.getElem?_toList, g4 j (by omega), (q4 _ hF0 j).1 hj]
      · rename_i hj
        rw [List.getElem?_eq_none (by simp [bytesV]; omega)]
    rw [this]
    exact VRL.bytes n' len
end Go.XS
/- The layer 'XS': contracts that are run: octet's reader reads a word. -/
namespace Go.XS
open Go Go.TS
noncomputable section
def iRdWord2 (a : Ad) (s : As) (pos m : Nat) (h : Am) : Option (AV × Am) := match okW m with
  | false => none
  | true => match s.base with
    | none => none
    | some ab => match pEq ab.b a.b with
      | true => none
      | false => match Nat.ble s.len s.cap with
        | false => none
        | true => cellsOf h a.b fun c0 => match c0 with
          | .b _ _ => none
          | .l _ => slC h s s.len fun c => match c with
            | .l _ => none
            | .b n len => match Nat.ble len 1000000 with
              | false => none
              | true => match Nat.ble (Nat.add pos m) len with
                | false => none
                | true => sN (bsub n pos m) fun r => sN (Nat.add pos m) fun p => st (a.add 1) (.int .i64 (.ofNat p)) h fun h => some (.int .u64 (.ofNat r), h)
def iRdWord : XCall := fun ags h => match ags with
  | [.ptr (some a), .int .i64 (.ofNat m)] => match Nat.beq a.o 0 with
    | false => none
    | true => ld .sl a h fun s => ld (.int .i64) (a.add 1) h fun pos => ld (.int .i64) (a.add 2) h fun e => ld .bool (a.add 3) h fun is => match is with
      | false => none
      | true => match iEq e 0 with
        | false => none
        | true => match pos with
          | .ofNat p => iRdWord2 a s p m h
          | .negSucc _ => none
  | _ => none
end
theorem iRdWord_ch (ags : List AV) (H : Am) (q : AV × Am) (hx : iRdWord ags H = some q) : Ch H q.2 := by
  unfold iRdWord iRdWord2 at hx
  repeat' first | exact none_some hx | (have hq := sN_inv hx; obtain ⟨_, hx⟩ := hq) | (have hq := slC_inv hx; obtain ⟨_, hx⟩ := hq) | (have hq := ld_inv hx; obtain ⟨_, hx⟩ := hq) | (have hq := st_ch hx; obtain ⟨_, c, hx⟩ := hq; cases hx; exact c) | (split at hx) | (have hq := cellsOf_inv hx; obtain ⟨_, hx⟩ := hq)
theorem or64 {a b : Nat} (ha : a < 18446744073709551616) (hb : b < 18446744073709551616) : bits .or .u64 (a : Int) (b : Int) = ((a ||| b : Nat) : Int) := by
  have hx : a ||| b < 18446744073709551616 := Nat.or_lt_two_pow (n := 64) ha hb
  show IntKind.u64.wrap ((BitVec.ofInt 64 (a : Int) ||| BitVec.ofInt 64 (b : Int)).toNat : Int) = _
  rw [BitVec.toNat_or, BitVec.ofInt_natCast, BitVec.ofInt_natCast, BitVec.toNat_ofNat, BitVec.toNat_ofNat, IntKind.wrap_u64, Nat.mod_eq_of_lt (a := a) ha, Nat.mod_eq_of_lt (a := b) hb]
  omega
theorem rdW_dig {N m : Nat} (hm : m ≤ 8) (hN : N < 256 ^ m) : rdW (digL N m) = (N : Int) := by
  have hlen : (digL N m).length = m := by simp [digL]
  have key : ∀ k, k ≤ m → (List.range k).foldl (fun n i => bits .or .u64 n (IntKind.u64.wrap ((IntKind.u64.wrap ((digL N m).getD i 0)) * 2 ^ (min (8 * i) 64)))) 0 = ((N % 256 ^ k : Nat) : Int) := by
    intro k
    induction k with
    | zero => intro _; simp [Nat.mod_one]
    | succ k ih =>
      intro hk
      rw [List.range_succ, List.foldl_append, ih (by omega)]
      simp only [List.foldl_cons, List.foldl_nil]
      have hg : (digL N m).getD k 0 = ((dig N k : Nat) : Int) := by
        rw [List.getD_eq_getElem?_getD]
        simp [digL, show k < m by omega]
      have hd := dig_lt N k
      rw [hg]
      have w1 : IntKind.u64.wrap ((dig N k : Nat) : Int) = ((dig N k : Nat) : Int) := by rw [IntKind.wrap_u64]; omega
      rw [w1, show min (8 * k) 64 = 8 * k by omega]
      have hpow : (2 : Nat) ^ (8 * k) = 256 ^ k := by rw [Nat.pow_mul]
      have hle : 256 ^ k ≤ 256 ^ 7 := Nat.pow_le_pow_right (by decide) (by omega)
      have h7 : (256 : Nat) ^ 7 = 72057594037927936 := by decide
      have hpp : 0 < 256 ^ k := Nat.pow_pos (by decide)
      have hprod : dig N k * 256 ^ k < 18446744073709551616 := by
        have h1 : dig N k * 256 ^ k ≤ 255 * 256 ^ 7 := Nat.mul_le_mul (by omega) hle
        rw [h7] at h1; omega
      have w2 : IntKind.u64.wrap (((dig N k : Nat) : Int) * 2 ^ (8 * k)) = ((dig N k * 256 ^ k : Nat) : Int) := by
        have : ((2 : Int) ^ (8 * k)) = ((2 ^ (8 * k) : Nat) : Int) := by norm_cast
        rw [this, hpow, ← Int.natCast_mul, IntKind.wrap_u64]; omega
      rw [w2]
      have hlt : N % 256 ^ k < 256 ^ k := Nat.mod_lt _ hpp
      rw [or64 (by rw [h7] at hle; omega) hprod]
      congr 1
      have hor : 2 ^ (8 * k) * dig N k + N % 256 ^ k = 2 ^ (8 * k) * dig N k ||| N % 256 ^ k := Nat.two_pow_add_eq_or_of_lt (by rw [hpow]; exact hlt) _
      rw [hpow] at hor
      rw [Nat.or_comm, Nat.mul_comm, ← hor, Nat.pow_succ, Nat.mod_mul, dig_eq]
      omega
  have := key m (Nat.le_refl _)
  unfold rdW
  rw [hlen, this, Nat.mod_eq_of_lt hN]
theorem list4 {α : Type} {l : List α} {a b c d : α} (h0 : l[0]? = some a) (h1 : l[1]? = some b) (h2 : l[2]? = some c) (h3 : l[3]? = some d) : l = a :: b :: c :: d :: l.drop 4 := by
  match l, h0, h1, h2, h3 with
  | x0 :: x1 :: x2 :: x3 :: r, h0, h1, h2, h3 => simp at h0 h1 h2 h3; simp [h0, h1, h2, h3]
theorem iRdWord_R {τ : Nat → Nat} {p : CallP} (hp : ∀ (d : Option Addr) (m : Int) (h : Mem) (K : Value → Mem → Prop), octet_Reader_Word τ d m h (fun r h => K (.int .u64 r) h) → p [.pointer d, .int .i64 m] h K)
    (γ : G) (φ : Fx) (ags : List AV) (H : Am) (h : Mem) (vs : List Value) (q : AV × Am) (K' : Value → Mem → Prop) (hx : iRdWord ags H = some q) (hR : HR γ φ H h) (hv : VRL γ ags vs) (hK : FinR γ φ q K') : p vs h K' := by
  unfold iRdWord at hx
  split at hx
  rotate_left
  · cases hx
  rename_i a m
  obtain ⟨V1, vs1, rfl, h1, hv⟩ := hv.uncons
  obtain ⟨V2, vs2, rfl, h2, hv⟩ := hv.uncons
  simp only [VRL] at hv
  subst hv
  obtain ⟨D, hD, rfl⟩ := dPtr h1
  rw [dInt h2]
  cases D with
  | none => exact hD.elim
  | some A =>
  have hA : AdR γ a A := hD
  refine hp _ _ h K' ?_
  split at hx
  · cases hx
  rename_i ho
  rw [beq_iff] at ho
  have hal := ld_alive hx
  obtain ⟨s, S, r0, hS, hx⟩ := ld_get hR hA hx
  obtain ⟨pos, Pos, r1, hPos, hx⟩ := ld_get hR (hA.add 1) hx
  obtain ⟨e, E, r2, hE, hx⟩ := ld_get hR (hA.add 2) hx
  obtain ⟨is, Is', r3, hIs, hx⟩ := ld_get hR (hA.add 3) hx
  have hS : SlR γ s S := hS
  have hPos : pos = Pos := hPos
  have hE : e = E := hE
  have hIs : is = Is' := hIs
  rw [← hPos] at r1
  rw [← hE] at r2
  rw [← hIs] at r3
  clear hPos hE hIs
  split at hx
  · cases hx
  split at hx
  · cases hx
  rename_i he
  rw [iEq_iff] at he
  rw [he] at r2
  cases pos with
  | negSucc _ => cases hx
  | ofNat ps =>
  have hx : iRdWord2 a s ps m H = some q := hx
  unfold iRdWord2 at hx
  split at hx
  · cases hx
  rename_i hm
  split at hx
  · cases hx
  rename_i ab hab
  split at hx
  · cases hx
  rename_i hne
  split at hx
  · cases hx
  rename_i hlc
  rw [ble_iff] at hlc
  obtain ⟨c0, B, N, cs, el, fr, k1, k2, k3, k4, hx⟩ := cellsOf_ok hR hx
  split at hx
  · cases hx
  rename_i xs
  have hal2 : ∃ c5, H.get ab.b = some (.cells c5) := by
    have hx2 := hx
    unfold slC at hx2
    split at hx2
    · cases hx2
    · rw [hab] at hx2
      simp only at hx2
      exact cells_alive hx2
  obtain ⟨cc, ws, g1, g2, g3, g4, hx⟩ := slC_ok hR hS hx
  split at hx
  · cases hx
  rename_i n len
  split at hx
  · cases hx
  rename_i hle
  rw [ble_iff] at hle
  split at hx
  · cases hx
  rename_i hpm
  rw [ble_iff] at hpm
  have hpm : ps + m ≤ len := hpm
  rw [sN_eq, sN_eq] at hx
  simp only [Cs.list, len_bytesL] at g4
  obtain ⟨B', N', q1, rfl⟩ := hA
  rw [k2] at q1; cases q1
  rw [ho] at r0 r1 r2 r3 ⊢
  have fr0 : fr = (0, 0) := by
    rcases k4.2.2.2.1 with e | ⟨_, e⟩
    · exact e
    · cases e
  subst fr0
  simp only [add_at, Nat.zero_add] at r1 r2 r3
  rw [rd_at k3, ← Array.getElem?_toList] at r0 r1 r2 r3
  have h4 := list4 r0 r1 r2 r3
  have h248 := okW_ok hm
  have hwe : ws = bytesV n len := VRL.func _ _ _ g2 (VRL.bytes n len)
  have hbl : (digL n len).length = len := by simp [digL]
  obtain ⟨B2, N2, q2, q3, _⟩ := hS.base_some hab
  have hBne : B2 ≠ B := by
    intro e2
    subst e2
    obtain ⟨c5, hc5⟩ := hal2
    have := hR.inj _ _ _ _ _ _ _ hc5 k1 q2 k2
    rw [this, pEq_self] at hne; cases hne
  have hrdr : RdrJ h B S (digL n len) ps (cs.toList.drop 4) := by
    refine ⟨⟨el, ?_⟩, ⟨by rw [hS.1, By_len, hbl, g4], ?_⟩, ?_, ?_, by omega, by omega⟩
    · rw [k3]
      have e3 : cs = cs.toList.toArray := by simp
      rw [e3, h4]
      simp [Kind.enc]
    · rw [By_len, hbl, ← bytesV_By, ← hwe]
      have g1' : slCells h S s.len ws := g1
      rw [← g4] at g1'
      exact g1'
    · have := hS.1; have := hS.2.1; omega
    · rintro ⟨a', ha', hb'⟩
      rw [q3] at ha'; cases ha'
      exact hBne hb'
  refine rword_ct hrdr h248 (by omega) ?_
  intro h' hr' hu
  have hsub : ((digL n len).drop ps).take m = digL (bsub n ps m) m := by
    apply List.ext_getElem?
    intro i
    rw [List.getElem?_take]
    split
    · rename_i hi
      rw [List.getElem?_drop]
      have e1 : ps + i < len := by omega
      simp [digL, e1, hi, dig_bsub]
    · rename_i hi
      rw [List.getElem?_eq_none (by simp [digL]; omega)]
  rw [hsub, rdW_dig (by rcases h248 with e | e | e <;> omega) (by rw [← pw_eq]; exact bsub_lt _ _ _)]
  -- behind it
  unfold st at hx
  obtain ⟨c1, B3, N3, cs3, el3, fr3, t1, t2, t3, t4, hx⟩ := cellsOf_ok hR hx
  have t1' : H.get a.b = some (.cells c1) := t1
  rw [k1] at t1'; cases t1'
  have t2' : γ a.b = some (B3, N3) := t2
  rw [k2] at t2'; cases t2'
  rw [k3] at t3; cases t3
  split at hx
  rotate_left
  · cases hx
  rename_i c' hc'
  cases hx
  have hc'' : (Cs.l xs).set 1 (.int .i64 (.ofNat (Nat.add ps m))) = some c' := by
    have ea : (a.add 1).o = 1 := by show Nat.add a.o 1 = 1; rw [ho]
    rw [ea] at hc'; exact hc'
  obtain ⟨u1, u2, u3, u4⟩ := Cs.set_ok k4.2.1 hc''
  have hBlt := lt_of_get k3
  obtain ⟨⟨el', hb'⟩, _⟩ := hr'
  have hmid : HR γ φ H (h'.setIfInBounds B (.cells cs el (0, 0))) := by
    refine hR.growN (by simp; exact hu.sz) fun x hx => ?_
    by_cases ex : x = B
    · subst ex; rw [Array.getElem?_setIfInBounds_self_of_lt (Nat.lt_of_lt_of_le hBlt hu.sz), k3]
    · rw [Array.getElem?_setIfInBounds_ne (Ne.symm ex)]; exact hu.same x hx ex
  have hnew := hmid.upd (o' := .cells c') (h' := h') k1 k2 (by simp) hb' ?_ (fun x hx => by rw [Array.getElem?_setIfInBounds_ne (Ne.symm hx)])
  · exact hK γ _ _ (.refl γ) hnew (by simp only [VR]; rfl)
  · have hset : (Value.slice S.base S.len S.cap :: .int .i64 ((ps + m : Nat) : Int) :: .int .i64 0 :: .bool true :: cs.toList.drop 4) = cs.toList.set 1 (.int .i64 ((ps + m : Nat) : Int)) := by
      conv => rhs; rw [h4]
      rfl
    refine ⟨?_, u2, ?_, .inl rfl, ?_⟩
    · have := congrArg List.length hset
      rw [List.length_set] at this
      have h9 := k4.1
      simp only [List.size_toArray]
      rw [this]; simpa using h9
    · rw [u4, List.length_set]; exact k4.2.2.1
    · rw [u4, List.length_set]
      show VRL γ _ (List.take _ (Value.slice S.base S.len S.cap :: .int .i64 ((ps + m : Nat) : Int) :: .int .i64 0 :: .bool true :: cs.toList.drop 4))
      rw [hset, List.take_set]
      exact k4.2.2.2.2.set 1 (by simp only [VR]; rfl)
end Go.XS
/- The layer 'XS': contracts that are run: a bucket's bytes are read. -/
namespace Go.XS
open Go Go.TS
set_option linter.unusedSimpArgs false
abbrev R3 := Nat × Nat × Nat
noncomputable section
def ltR (a b : R3) : Bool := match Nat.blt a.1 b.1 with
  | true => true
  | false => match Nat.beq a.1 b.1 with
    | false => false
    | true => match Nat.blt a.2.1 b.2.1 with
      | true => true
      | false => match Nat.beq a.2.1 b.2.1 with
        | false => false
        | true => Nat.blt a.2.2 b.2.2
def ltO (p : Option R3) (b : R3) : Bool := match p with
  | none => true
  | some a => ltR a b
def bRefs {ρ : Type} (n k : Nat) : Nat → Option R3 → (List AV → Option ρ) → Option ρ :=
  Nat.rec (motive := fun _ => Nat → Option R3 → (List AV → Option ρ) → Option ρ) (fun _ _ K => K [])
    (fun _ ih p pv K => sN (bsub n p 8) fun a => sN (bsub n (Nat.add p 8) 4) fun b => sN (bsub n (Nat.add (Nat.add p 8) 4) 2) fun c => match Nat.blt b 65536 with
      | false => none
      | true => match Nat.ble c 1023 with
        | false => none
        | true => match ltO pv (a, b, c) with
          | false => none
          | true => sN (Nat.add p 14) fun p' => ih p' (some (a, b, c)) fun l => K (.int .u64 (.ofNat a) :: .int .i64 (.ofNat b) :: .int .i64 (.ofNat c) :: l)) k
def bEnd (nx k : Nat) (l : List AV) (h : Am) : Option (AV × Am) := match k with
  | 0 => some (.tup [.agg [.int .i64 (.ofNat nx), .sl ⟨none, 0, 0, 0⟩], .int .i64 (.ofNat 0)], h)
  | _ + 1 => al (.cells (.l l)) h fun b h => some (.tup [.agg [.int .i64 (.ofNat nx), .sl ⟨some ⟨b, 0⟩, k, k, 3⟩], .int .i64 (.ofNat 0)], h)
def iBRead : XCall := fun ags h => match ags with
  | [.sl s] => match Nat.ble s.len s.cap with
    | false => none
    | true => slC h s s.len fun c => match c with
      | .l _ => none
      | .b n len => match Nat.ble len 1000000 with
        | false => none
        | true => sN (bsub n 0 4) fun nx => match Nat.ble nx 65536 with
          | false => none
          | true => sN (bsub n 4 2) fun k => match Nat.ble k 290 with
            | false => none
            | true => sN (Nat.add 6 (Nat.mul 14 k)) fun q => match Nat.ble q len with
              | false => none
              | true => match Nat.beq (Nat.shiftRight n (Nat.mul 8 q)) 0 with
                | false => none
                | true => bRefs n k 6 none fun l => bEnd nx k l h
  | _ => none
end
theorem bRefs_inv {ρ : Type} {n : Nat} {r : ρ} : ∀ (k p : Nat) (pv : Option R3) (K : List AV → Option ρ), bRefs n k p pv K = some r → ∃ l, K l = some r := by
  intro k
  induction k with
  | zero => intro p pv K h; exact ⟨[], h⟩
  | succ k ih =>
    intro p pv K h
    have h : (sN (bsub n p 8) fun a => sN (bsub n (Nat.add p 8) 4) fun b => sN (bsub n (Nat.add (Nat.add p 8) 4) 2) fun c => match Nat.blt b 65536 with
      | false => none
      | true => match Nat.ble c 1023 with
        | false => none
        | true => match ltO pv (a, b, c) with
          | false => none
          | true => sN (Nat.add p 14) fun p' => bRefs n k p' (some (a, b, c)) fun l => K (.int .u64 (.ofNat a) :: .int .i64 (.ofNat b) :: .int .i64 (.ofNat c) :: l)) = some r := h
    simp only [sN_eq] at h
    split at h
    · cases h
    · split at h
      · cases h
      · split at h
        · cases h
        · obtain ⟨l, hl⟩ := ih _ _ _ h
          exact ⟨_, hl⟩
theorem iBRead_ch (ags : List AV) (H : Am) (q : AV × Am) (hx : iBRead ags H = some q) : Ch H q.2 := by
  unfold iBRead at hx
  repeat' first | exact none_some hx | (have hq := sN_inv hx; obtain ⟨_, hx⟩ := hq) | (have hq := slC_inv hx; obtain ⟨_, hx⟩ := hq) | (have hq := bRefs_inv _ _ _ _ hx; obtain ⟨_, hx⟩ := hq; unfold bEnd at hx) | (have hq := al_ch hx; obtain ⟨_, _, c, hx⟩ := hq; cases hx; exact c) | (cases hx; exact .refl _) | (split at hx)

def ref3 (n p : Nat) : R3 := (bsub n p 8, bsub n (p + 8) 4, bsub n (p + 8 + 4) 2)
def refs3 (n p k : Nat) : List R3 := (List.range k).map fun i => ref3 n (p + 14 * i)
def avR (a : R3) : List AV := [.int .u64 (.ofNat a.1), .int .i64 (.ofNat a.2.1), .int .i64 (.ofNat a.2.2)]
theorem refs3_succ (n p k : Nat) : refs3 n p (k + 1) = ref3 n p :: refs3 n (p + 14) k := by
  simp only [refs3, List.range_succ_eq_map, List.map_cons, Nat.mul_zero, Nat.add_zero, List.map_map]
  congr 1
  apply List.map_congr_left
  intro i _
  show ref3 n (p + 14 * (i + 1)) = ref3 n (p + 14 + 14 * i)
  congr 1; omega
theorem bRefs_ok {ρ : Type} {n : Nat} {r : ρ} : ∀ (k p : Nat) (pv : Option R3) (K : List AV → Option ρ), bRefs n k p pv K = some r →
    (∀ x, x ∈ refs3 n p k → x.2.1 < 65536 ∧ x.2.2 ≤ 1023) ∧ (∀ (i : Nat) a b, (refs3 n p k)[i]? = some a → (refs3 n p k)[i + 1]? = some b → ltR a b = true) ∧ (∀ b, (refs3 n p k)[0]? = some b → ltO pv b = true) ∧ K ((refs3 n p k).flatMap avR) = some r := by
  intro k
  induction k with
  | zero => intro p pv K h; exact ⟨fun x hx => by simp [refs3] at hx, fun i a b ha => by simp [refs3] at ha, fun b hb => by simp [refs3] at hb, h⟩
  | succ k ih =>
    intro p pv K h
    have h : (sN (bsub n p 8) fun a => sN (bsub n (Nat.add p 8) 4) fun b => sN (bsub n (Nat.add (Nat.add p 8) 4) 2) fun c => match Nat.blt b 65536 with
      | false => none
      | true => match Nat.ble c 1023 with
        | false => none
        | true => match ltO pv (a, b, c) with
          | false => none
          | true => sN (Nat.add p 14) fun p' => bRefs n k p' (some (a, b, c)) fun l => K (.int .u64 (.ofNat a) :: .int .i64 (.ofNat b) :: .int .i64 (.ofNat c) :: l)) = some r := h
    simp only [sN_eq] at h
    split at h
    · cases h
    rename_i hb
    split at h
    · cases h
    rename_i hc
    split at h
    · cases h
    rename_i hlt
    obtain ⟨h1, h2, h3, h4⟩ := ih _ _ _ h
    have hb' : bsub n (p + 8) 4 < 65536 := Nat.le_of_ble_eq_true hb
    have hc' : bsub n (p + 8 + 4) 2 ≤ 1023 := Nat.le_of_ble_eq_true hc
    have e14 : Nat.add p 14 = p + 14 := rfl
    rw [e14] at h1 h2 h3 h4
    rw [refs3_succ]
    refine ⟨?_, ?_, ?_, ?_⟩
    · intro x hx
      rcases List.mem_cons.1 hx with rfl | hx
      · exact ⟨hb', hc'⟩
      · exact h1 x hx
    · intro i a b ha hb
      cases i with
      | zero =>
        simp only [List.getElem?_cons_zero, Option.some.injEq] at ha
        subst ha
        exact h3 b (by simpa using hb)
      | succ i => exact h2 i a b (by simpa using ha) (by simpa using hb)
    · intro b hb
      simp only [List.getElem?_cons_zero, Option.some.injEq] at hb
      subst hb
      exact hlt
    · exact h4
theorem ltR_ok {a b : R3} (h : ltR a b = true) : a.1 < b.1 ∨ (a.1 = b.1 ∧ (a.2.1 < b.2.1 ∨ (a.2.1 = b.2.1 ∧ a.2.2 < b.2.2))) := by
  have hb : ∀ x y : Nat, Nat.blt x y = true → x < y := fun x y h => Nat.le_of_ble_eq_true h
  unfold ltR at h
  split at h
  · rename_i e; exact .inl (hb _ _ e)
  · split at h
    · cases h
    · rename_i e
      split at h
      · rename_i e2; exact .inr ⟨beq_iff.1 e, .inl (hb _ _ e2)⟩
      · split at h
        · cases h
        · rename_i e2; exact .inr ⟨beq_iff.1 e, .inr ⟨beq_iff.1 e2, hb _ _ h⟩⟩
def toR (a : R3) : RefT := ((a.1 : Int), (a.2.1 : Int), (a.2.2 : Int))
theorem digL_cut {n len ps m : Nat} (h : ps + m ≤ len) : ((digL n len).drop ps).take m = digL (bsub n ps m) m := by
  apply List.ext_getElem?
  intro i
  rw [List.getElem?_take]
  split
  · rename_i hi
    rw [List.getElem?_drop]
    have e1 : ps + i < len := by omega
    simp [digL, e1, hi, dig_bsub]
  · rename_i hi
    rw [List.getElem?_eq_none (by simp [digL]; omega)]
theorem rdW_cut {n len ps m : Nat} (h : ps + m ≤ len) (hm : m ≤ 8) : rdW (((digL n len).drop ps).take m) = ((bsub n ps m : Nat) : Int) := by
  rw [digL_cut h, rdW_dig hm (by rw [← pw_eq]; exact bsub_lt _ _ _)]
theorem bsub4 (n p : Nat) : bsub n p 4 < 4294967296 := by
  have := bsub_lt n p 4
  rw [pw_eq] at this
  exact this
theorem bsub2 (n p : Nat) : bsub n p 2 < 65536 := by
  have := bsub_lt n p 2
  rw [pw_eq] at this
  exact this
theorem refOf_dig {n len p : Nat} (h : p + 14 ≤ len) : refOf (digL n len) p = toR (ref3 n p) := by
  unfold refOf ref3 toR
  rw [rdW_cut (by omega) (by decide), rdW_cut (by omega) (by decide), rdW_cut (by omega) (by decide)]
  have h4 := bsub4 n (p + 8)
  have h2 := bsub2 n (p + 8 + 4)
  rw [w64 (by omega) (by omega), w64 (by omega) (by omega)]
theorem refsOf_dig {n len k : Nat} (h : 6 + 14 * k ≤ len) : refsOf (digL n len) k = (refs3 n 6 k).map toR := by
  unfold refsOf refs3
  rw [List.map_map]
  apply List.map_congr_left
  intro i hi
  rw [List.mem_range] at hi
  exact refOf_dig (by omega)
theorem dig_hi {n q i : Nat} (h : Nat.shiftRight n (Nat.mul 8 q) = 0) (hi : q ≤ i) : dig n i = 0 := by
  rw [dig_eq]
  have h' : n >>> (8 * q) = 0 := h
  rw [Nat.shiftRight_eq_div_pow] at h'
  have h2 : n < 2 ^ (8 * q) := by
    rcases Nat.lt_or_ge n (2 ^ (8 * q)) with h3 | h3
    · exact h3
    · have := Nat.div_pos h3 (Nat.pow_pos (by decide))
      omega
  have h3 : (2 : Nat) ^ (8 * q) ≤ 256 ^ i := by
    rw [Nat.pow_mul]
    exact Nat.pow_le_pow_right (by decide) hi
  rw [Nat.div_eq_of_lt (by omega)]
theorem avs_VRL {γ : G} : ∀ l : List R3, VRL γ (l.flatMap avR) (refsC (l.map toR)) := by
  intro l
  induction l with
  | nil => exact VRL.nil
  | cons a l ih =>
    have e1 : (a :: l).flatMap avR = avR a ++ l.flatMap avR := by simp
    have e2 : refsC ((a :: l).map toR) = refC (toR a) ++ refsC (l.map toR) := by simp [refsC]
    rw [e1, e2]
    refine VRL.append ?_ ih
    refine VRL.cons ?_ (VRL.cons ?_ (VRL.cons ?_ VRL.nil)) <;> (simp only [VR]; rfl)
theorem iBRead_R {τ : Nat → Nat} {p : CallP} (hp : ∀ (s : Sl) (h : Mem) (K : Value → Mem → Prop), bucket_Read τ s h (fun n r e h => K (.tuple #[.agg #[.int .i64 n, .slice r.base r.len r.cap], .int .i64 e]) h) → p [.slice s.base s.len s.cap] h K)
    (γ : G) (φ : Fx) (ags : List AV) (H : Am) (h : Mem) (vs : List Value) (q : AV × Am) (K' : Value → Mem → Prop) (hx : iBRead ags H = some q) (hR : HR γ φ H h) (hv : VRL γ ags vs) (hK : FinR γ φ q K') : p vs h K' := by
  unfold iBRead at hx
  split at hx
  rotate_left
  · cases hx
  rename_i s
  obtain ⟨V1, vs1, rfl, h1, hv⟩ := hv.uncons
  simp only [VRL] at hv
  subst hv
  obtain ⟨S, hS, rfl⟩ := dSl h1
  split at hx
  · cases hx
  rename_i hcap
  rw [ble_iff] at hcap
  refine hp S h K' ?_
  obtain ⟨c, ws, g1, g2, g3, g4, hx⟩ := slC_ok hR hS hx
  split at hx
  · cases hx
  rename_i n len
  split at hx
  · cases hx
  rename_i hle
  rw [ble_iff] at hle
  simp only [sN_eq] at hx
  split at hx
  · cases hx
  rename_i hnx
  rw [ble_iff] at hnx
  split at hx
  · cases hx
  rename_i hk
  rw [ble_iff] at hk
  split at hx
  · cases hx
  rename_i hq
  rw [ble_iff] at hq
  split at hx
  · cases hx
  rename_i hzz
  rw [beq_iff] at hzz
  simp only [Cs.list, len_bytesL] at g4
  generalize hkk : bsub n 4 2 = k at *
  have hq : 6 + 14 * k ≤ len := hq
  have hzz : Nat.shiftRight n (Nat.mul 8 (6 + 14 * k)) = 0 := hzz
  have hx6 := bRefs_ok _ _ _ _ hx
  clear hx
  obtain ⟨b1, b2, b3, hx⟩ := hx6
  have hwe : ws = bytesV n len := VRL.func _ _ _ g2 (VRL.bytes n len)
  have hdl : (digL n len).length = len := by simp [digL]
  have hHolds : Holds h S (By (digL n len)) := by
    refine ⟨by rw [hS.1, By_len, hdl, g4], ?_⟩
    rw [By_len, hdl, ← bytesV_By, ← hwe]
    have g1' : slCells h S s.len ws := g1
    rw [← g4] at g1'
    exact g1'
  have hpow : (2 : Nat) ^ 36 = 68719476736 := by decide
  have hmem : ∀ x, x ∈ refsOf (digL n len) k → ∃ y, y ∈ refs3 n 6 k ∧ x = toR y := by
    intro x hx
    rw [refsOf_dig hq] at hx
    obtain ⟨y, hy, rfl⟩ := List.mem_map.1 hx
    exact ⟨y, hy, rfl⟩
  have hn4 := bsub4 n 0
  refine bRead_ct (n := k) (N := ((bsub n 0 4 : Nat) : Int)) hHolds (by have := hS.1; have := hS.2.1; omega) (by rw [hdl]; omega) hk (by rw [hdl]; exact hq) ?_ (by omega) ?_ ?_ ?_ ?_ ?_
  · rw [rdW_cut (by omega) (by decide), w64 (by omega) (by omega)]
  · rw [rdW_cut (by omega) (by decide), hkk]
  · intro i hi hil
    rw [hdl] at hil
    have := dig_hi hzz hi
    simp [digL, hil, this]
  · intro r hr
    obtain ⟨y, hy, rfl⟩ := hmem r hr
    obtain ⟨c1, c2⟩ := b1 y hy
    unfold refMay toR
    simp only
    omega
  · intro i a b ha hb
    rw [refsOf_dig hq, List.getElem?_map] at ha hb
    cases hy : (refs3 n 6 k)[i]? with
    | none => rw [hy] at ha; cases ha
    | some y =>
      cases hz : (refs3 n 6 k)[i + 1]? with
      | none => rw [hz] at hb; cases hb
      | some z =>
        rw [hy] at ha; rw [hz] at hb
        simp only [Option.map_some, Option.some.injEq] at ha hb
        subst ha hb
        have := ltR_ok (b2 i y z hy hz)
        unfold refLt toR
        simp only
        omega
  · intro s' h' hv' hl' hz0 hn' hE
    rw [refsOf_dig hq] at hv'
    unfold bEnd at hx
    cases k with
    | zero =>
      simp only at hx
      cases hx
      rw [hz0 rfl]
      exact hK γ _ _ (.refl γ) (hR.ext hE) (vTup (VRL.cons (vAgg (VRL.cons vInt (VRL.cons (vSl (S := ⟨none, 0, 0⟩) ⟨rfl, Nat.le_refl _, fun _ => rfl, rfl, rfl⟩) VRL.nil))) (VRL.cons vInt VRL.nil)))
    | succ m =>
      simp only at hx
      obtain ⟨hnb, hx⟩ := al_in hx
      cases hx
      generalize hxs : refs3 n 6 (m + 1) = xs at *
      have hxl : xs.length = m + 1 := by rw [← hxs]; simp [refs3]
      have hA := avs_VRL (γ := γ) xs
      have hAl := hA.len
      have hwl : (refsC (xs.map toR)).length = (m + 1) * 3 := by rw [refsC_len, List.length_map, hxl]
      generalize refsC (xs.map toR) = rs at *
      rcases hv' with ⟨_, e⟩ | ⟨b', js, n', m', rfl, e1, e2, el', hb'⟩
      · rw [e] at hwl; simp at hwl
      · have hl' : n' = m + 1 := hl'
        subst hl'
        have hle2 := hR.le_ext hnb (b', (rs ++ js).length)
        have hrn := hR.renew (H0 := H) hnb (S := fun _ => False) (fun k o hk => ⟨hk, fun _ _ _ hh => hh⟩) rfl rfl (fun _ hh => hh.elim) hE.sz (fun k hk _ => hE.same k hk (fun hh => hh)) (o' := .cells (.l (xs.flatMap avR))) (B' := b')
          (N' := (rs ++ js).length) (ob' := .cells (rs ++ js).toArray el' (0, 0)) (.inr (hn' b' ⟨_, rfl, rfl⟩)) hb' ?_
        · refine hK _ _ _ hle2 hrn (vTup (VRL.cons (vAgg (VRL.cons vInt (VRL.cons (vSl (S := ⟨some ⟨b', 0, none⟩, m + 1, m + 1 + m'⟩) (SlR.mk' (b := some ⟨H.nx, 0⟩) rfl (by omega) (fun hh => by cases hh) ⟨b', _, ext_same _ _ _, rfl, fun _ => by rw [List.length_append]; simp only []; omega⟩)) VRL.nil))) (VRL.cons vInt VRL.nil)))
        · refine ⟨by simp, trivial, ?_, .inl rfl, ?_⟩
          · simp only [Cs.list, List.length_append]; omega
          · simp only [Cs.list]
            have e3 : (rs ++ js).toArray.toList.take (xs.flatMap avR).length = rs := by
              show List.take _ (rs ++ js) = _
              exact List.take_left' hAl.symm
            rw [e3]
            exact hA.mono hle2
end Go.XS
/- The layer 'XS': contracts that are run: slices.Insert of whole numbers. -/
namespace Go.XS
open Go Go.TS
noncomputable section
def isL : Cs → Bool
  | .l _ => true
  | .b _ _ => false
def insL (n : Nat) (xs ys : List AV) : List AV := catL (takeL xs n) (catL ys (dropL xs n))
def iInsert0 (n : Nat) (s : As) (ys : List AV) (h : Am) : Option (AV × Am) := match Nat.beq s.len 0 with
  | false => none
  | true => match Nat.beq s.cap 0 with
    | false => none
    | true => match Nat.beq n 0 with
      | false => none
      | true => sN (lenL ys) fun l => al (.cells (.l ys)) h fun b h => some (.sl ⟨some ⟨b, 0⟩, l, l, 1⟩, h)
def iInsert1 (n : Nat) (s : As) (x : As) (ys : List AV) (h : Am) : Option (AV × Am) := match Nat.beq s.e 1 with
  | false => none
  | true => match s.base with
    | none => none
    | some a => match Nat.beq a.o 0 with
      | false => none
      | true => match x.base with
        | none => none
        | some ax => match pEq ax.b a.b with
          | true => none
          | false => cellsOf h ax.b fun c1 => match isL c1 with
            | false => none
            | true => cellsOf h a.b fun c0 => match isL c0 with
              | false => none
              | true => slC h s s.len fun c => match c with
                | .b _ _ => none
                | .l xs => match allA xs with
                  | false => none
                  | true => match Nat.ble n (lenL xs) with
                    | false => none
                    | true => match Nat.ble (Nat.add (lenL xs) (lenL ys)) 1000000 with
                      | false => none
                      | true => sN (Nat.add (lenL xs) (lenL ys)) fun l => al (.cells (.l (insL n xs ys))) (h.del a.b) fun b h => some (.sl ⟨some ⟨b, 0⟩, l, l, 1⟩, h)
def iInsert : XCall := fun ags h => match ags with
  | [.sl s, .int .i64 (.ofNat n), .sl x] => slC h x x.len fun cx => match cx with
    | .b _ _ => none
    | .l ys => match ys with
      | [] => none
      | _ :: _ => match allA ys with
        | false => none
        | true => match Nat.ble (lenL ys) 1000000 with
          | false => none
          | true => match Nat.beq s.e 0 with
            | true => iInsert0 n s ys h
            | false => iInsert1 n s x ys h
  | _ => none
end
theorem iInsert_ch (ags : List AV) (H : Am) (q : AV × Am) (hx : iInsert ags H = some q) : Ch H q.2 := by
  unfold iInsert at hx
  split at hx
  · obtain ⟨c, hx⟩ := slC_inv hx
    split at hx
    · cases hx
    · split at hx
      · cases hx
      · split at hx
        · cases hx
        · split at hx
          · cases hx
          · split at hx
            · unfold iInsert0 at hx
              repeat' first | exact none_some hx | (have hq := sN_inv hx; obtain ⟨_, hx⟩ := hq) | (have hq := al_ch hx; obtain ⟨_, _, c, hx⟩ := hq; cases hx; exact c) | (split at hx)
            · unfold iInsert1 at hx
              repeat' first | exact none_some hx | (have hq := sN_inv hx; obtain ⟨_, hx⟩ := hq) | (have hq := slC_inv hx; obtain ⟨_, hx⟩ := hq) | (have hq := cellsOf_inv hx; obtain ⟨_, hx⟩ := hq) | (have hq := al_ch hx; obtain ⟨_, _, c, hx⟩ := hq; cases hx; exact (Ch.del _ _).trans c) | (split at hx)
  · cases hx
theorem insL_eq (n : Nat) (xs ys : List AV) : insL n xs ys = xs.take n ++ (ys ++ xs.drop n) := by
  unfold insL; rw [catL_eq, catL_eq, takeL_eq, dropL_eq]
theorem iInsert_R {τ : Nat → Nat} {p : CallP} (hp : ∀ (s x : Sl) (n : Int) (h : Mem) (K : Value → Mem → Prop), slices_Insert_int_int τ s n x h (fun r h => K (.slice r.base r.len r.cap) h) → p [.slice s.base s.len s.cap, .int .i64 n, .slice x.base x.len x.cap] h K)
    (γ : G) (φ : Fx) (ags : List AV) (H : Am) (h : Mem) (vs : List Value) (q : AV × Am) (K' : Value → Mem → Prop) (hx : iInsert ags H = some q) (hR : HR γ φ H h) (hv : VRL γ ags vs) (hK : FinR γ φ q K') : p vs h K' := by
  unfold iInsert at hx
  split at hx
  rotate_left
  · cases hx
  rename_i s n x
  obtain ⟨V1, vs1, rfl, h1, hv⟩ := hv.uncons
  obtain ⟨V2, vs2, rfl, h2, hv⟩ := hv.uncons
  obtain ⟨V3, vs3, rfl, h3, hv⟩ := hv.uncons
  simp only [VRL] at hv
  subst hv
  obtain ⟨S, hS, rfl⟩ := dSl h1
  obtain ⟨X, hX, rfl⟩ := dSl h3
  rw [dInt h2]
  obtain ⟨cx, ws, g1, g2, g3, g4, hx⟩ := slC_ok hR hX hx
  split at hx
  · cases hx
  rename_i ys
  simp only [Cs.list] at g2 g4
  split at hx
  · cases hx
  rename_i y0 yr
  generalize hys : y0 :: yr = ys at *
  split at hx
  · cases hx
  rename_i hay
  rw [allA_iff] at hay
  split at hx
  · cases hx
  rename_i hly
  rw [ble_iff, lenL_eq] at hly
  have hones : Ones ws := one_ofL g2 hay
  have hwl := g2.len
  have hXl : X.len = ws.length := by rw [hX.1, ← g4, hwl]
  have hy1 : 0 < ws.length := by rw [← hwl, ← hys]; simp
  have hq : Holds h X ws := ⟨hXl, by rw [← hwl, g4]; exact g1⟩
  split at hx
  · -- an empty one without room
    rename_i he
    rw [beq_iff] at he
    unfold iInsert0 at hx
    split at hx
    · cases hx
    rename_i hl0
    split at hx
    · cases hx
    rename_i hc0
    split at hx
    · cases hx
    rename_i hn0
    rw [beq_iff] at hl0 hc0 hn0
    rw [sN_eq] at hx
    obtain ⟨hnb, hx⟩ := al_in hx
    cases hx
    subst hn0
    have hSl : S.len = 0 := by rw [hS.1, hl0]
    have hSc : S.cap = 0 := by rw [hS.2.2.1 he, hc0]
    refine hp S X _ h K' ?_
    refine ⟨by decide, by rw [hSl]; decide, by rw [hSl, hSc]; decide, ?_⟩
    refine ifB_f (by rw [hXl]; exact beq_false_of_ne (by omega)) ?_
    refine ifB_t (by rw [hSl]; rfl) ?_
    refine ⟨ws, ?_, hones, fun hh => by omega, fun _ => ⟨by omega, by omega, [], ?_, fun c hc => ?_⟩⟩
    · rw [Nat.mul_one, hXl]; exact hq.2
    · rw [hSl]
      unfold slCells
      split
      · exact ⟨rfl, fun i v hi => by simp at hi⟩
      · rfl
    · rw [hSl, hXl] at hc ⊢
      simp only [Nat.zero_add] at hc ⊢
      have hsz : (([] : List Value).toArray ++ ws.toArray ++ Builtin.zeroCells #[Value.int .i64 0] (c - ws.length)).size = c := by simp [Builtin.zeroCells]; omega
      have hle := hR.le_ext hnb (h.size, c)
      refine hK _ _ _ hle (hR.new hnb (N := c) (o := .cells (.l ys)) ?_) ?_
      · refine ⟨hsz, trivial, by simp only [Cs.list]; omega, .inl rfl, ?_⟩
        simp only [Cs.list]
        have : (([] : List Value).toArray ++ ws.toArray ++ Builtin.zeroCells #[Value.int .i64 0] (c - ws.length)).toList.take ys.length = ws := by
          rw [hwl]; simp [List.take_append]
        rw [this]
        exact g2.mono hle
      · refine vSl (SlR.mk' (b := some ⟨H.nx, 0⟩) (by rw [lenL_eq]; omega) (by rw [lenL_eq]; omega) (fun hh => by cases hh) ⟨h.size, c, ext_same _ _ _, rfl, fun _ => by simp⟩)
  · -- an own one
    rename_i he0
    unfold iInsert1 at hx
    split at hx
    · cases hx
    rename_i he
    rw [beq_iff] at he
    split at hx
    · cases hx
    rename_i a hb
    split at hx
    · cases hx
    rename_i ho
    rw [beq_iff] at ho
    split at hx
    · cases hx
    rename_i ax hxb
    split at hx
    · cases hx
    rename_i hne
    obtain ⟨cx1, B1, N1, cs1, el1, fr1, k1, k2, k3, k4, hx⟩ := cellsOf_ok hR hx
    split at hx
    · cases hx
    rename_i hL1
    obtain ⟨c0, B, N, cs, el, fr, l1, l2, l3, l4, hx⟩ := cellsOf_ok hR hx
    split at hx
    · cases hx
    rename_i hL0
    obtain ⟨c, os, m1, m2, m3, m4, hx⟩ := slC_ok hR hS hx
    split at hx
    · cases hx
    rename_i xs
    simp only [Cs.list] at m2 m4
    split at hx
    · cases hx
    rename_i hax
    rw [allA_iff] at hax
    split at hx
    · cases hx
    rename_i hn
    rw [ble_iff, lenL_eq] at hn
    split at hx
    · cases hx
    rename_i hlen
    rw [ble_iff, lenL_eq, lenL_eq] at hlen
    have hlen : xs.length + ys.length ≤ 1000000 := hlen
    rw [sN_eq] at hx
    obtain ⟨hnb, hx⟩ := al_in hx
    cases hx
    have hnb' : inB H H.nx := hnb
    have notB : ∀ c : Cs, isL c = true → c.isB = false := fun c hc => by cases c <;> simp_all [isL, Cs.isB]
    have fr0 : fr = (0, 0) := by
      rcases l4.2.2.2.1 with e | ⟨_, e⟩
      · exact e
      · rw [notB _ hL0] at e; cases e
    have fr10 : fr1 = (0, 0) := by
      rcases k4.2.2.2.1 with e | ⟨_, e⟩
      · exact e
      · rw [notB _ hL1] at e; cases e
    subst fr0 fr10
    obtain ⟨B', N', q1, q2, q3⟩ := hS.base_some hb
    rw [l2] at q1; cases q1
    obtain ⟨B1', N1', r1, r2, _⟩ := hX.base_some hxb
    rw [k2] at r1; cases r1
    rw [ho] at q2
    have hcap := q3 (by rw [he]; decide)
    rw [ho, he, Nat.zero_add, Nat.mul_one] at hcap
    have hsz : cs.size = N := l4.1
    have hol := m2.len
    have hos : os = cs.toList.take S.len := by
      have : slCells h S (s.len) os := m1
      unfold slCells at this
      rw [q2] at this
      obtain ⟨t1, t2⟩ := this
      have hll : S.len ≤ cs.size := by
        rcases Nat.lt_or_ge cs.size S.len with hlt | hge
        · exfalso
          have hlt' : cs.size < os.length := by rw [t1, ← hS.1]; exact hlt
          have := t2 cs.size os[cs.size] (by simp)
          rw [add_at, rd_at l3] at this
          simp at this
        · exact hge
      have hl2 : os.length = S.len := by rw [t1, hS.1]
      apply List.ext_getElem?
      intro i
      rw [List.getElem?_take]
      split
      · rename_i hi
        have := t2 i (os[i]'(by omega)) (by simp)
        rw [add_at, rd_at l3, Nat.zero_add] at this
        rw [List.getElem?_eq_getElem (by omega)]
        simpa using this.symm
      · rename_i hi
        exact List.getElem?_eq_none (by omega)
    have hSlen : S.len = os.length := by rw [← hol, m4]; exact hS.1
    have hSle : S.len ≤ S.cap := by
      have h5 : os.length ≤ cs.size := by rw [hos, List.length_take]; simp; omega
      omega
    have hvec : Vec h S os := by
      refine .inr ⟨B, cs.toList.drop S.len, ?_, el, ?_⟩
      · cases S with
        | mk b l c =>
          simp only at q2 hSlen hcap hSle ⊢
          subst q2
          simp only [List.length_drop, Array.length_toList]
          rw [← hSlen]
          have : l + (cs.size - l) = c := by omega
          rw [this]
      · rw [hos, List.take_append_drop]; exact l3
    have hBne : B1 ≠ B := by
      intro e
      subst e
      have := hR.inj _ _ _ _ _ _ _ k1 l1 k2 l2
      have hpe : ∀ p : P, pEq p p = true := by
        intro p
        induction p with
        | one => rfl
        | dbl p ih => exact ih
        | odd p ih => exact ih
      rw [this, hpe] at hne; cases hne
    refine hp S X _ h K' ?_
    have hxsl : xs.length = os.length := hol
    have hcsx : cs1.toList ≠ [] := by
      intro e
      have h6 := hq.2
      unfold slCells at h6
      rw [r2] at h6
      have := h6.2 0 (ws[0]'hy1) (by simp)
      rw [add_at, rd_at k3] at this
      have e2 : cs1 = #[] := Array.toList_eq_nil_iff.1 e
      rw [e2] at this; simp at this
    refine insert_ct (n := n) (xs := os) (ys := ws) (ax := ⟨B1, ax.o, none⟩) (bx := B1) (cx := cs1.toList) hvec (one_ofL m2 hax) (by have h7 : n ≤ xs.length := hn; omega) hq r2 rfl ⟨el1, k3⟩ hcsx hones (by intro e; rw [e] at hy1; simp at hy1) ?_ (by omega) ?_
    · rintro ⟨a', ha', hb'⟩
      rw [q2] at ha'; cases ha'
      exact hBne hb'.symm
    · intro r h' hvr hu hat
      have hlr : (os.take n ++ ws ++ os.drop n).length = os.length + ws.length := by simp; omega
      rcases hvr with ⟨_, e⟩ | ⟨b', js, rfl, el', hb'⟩
      · rw [e] at hlr; simp at hlr; omega
      have hSB : ∀ k, TS.At S k → k = B := by
        rintro k ⟨a', ha', hk⟩
        rw [q2] at ha'; cases ha'
        exact hk.symm
      have hbb : b' = B ∨ h.size ≤ b' := by
        rcases hat b' ⟨_, rfl, rfl⟩ with h9 | h9
        · exact .inl (hSB _ h9)
        · exact .inr h9
      have hst := hR.stat_ne l1 l2 rfl
      have hfar : φ.far B = none := by
        cases hf : φ.far B with
        | none => rfl
        | some ob => exact absurd l2 ((hR.far B ob hf).2 _ _ N l1)
      have hle := hR.le_ext hnb' (b', (os.take n ++ ws ++ os.drop n ++ js).length)
      have hrn := hR.renew (H0 := H.del a.b) hnb' (S := fun k => k = B) (fun k o hk => by
          have hg : (H.del a.b).get k = if k = a.b then none else H.get k := get_del _ _ _
          rw [hg] at hk
          split at hk
          · cases hk
          · rename_i hne2
            refine ⟨hk, fun B2 N2 hg2 e => ?_⟩
            subst e
            exact hne2 (hR.inj _ _ _ _ _ _ _ hk l1 hg2 l2)) rfl rfl (fun k hk => by subst hk; exact ⟨hst, hfar⟩)
        hu.sz (fun k hk hne3 => hu.same k hk (fun h10 => hne3 (hSB _ h10))) (o' := .cells (.l (insL n xs ys))) (B' := b') (N' := (os.take n ++ ws ++ os.drop n ++ js).length) (ob' := .cells (os.take n ++ ws ++ os.drop n ++ js).toArray el' (0, 0)) hbb hb' ?_
      · refine hK _ _ _ hle hrn ?_
        have e1 : Nat.add (lenL xs) (lenL ys) = (os.take n ++ ws ++ os.drop n).length := by rw [lenL_eq, lenL_eq, hlr]; show xs.length + ys.length = _; omega
        refine vSl (SlR.mk' (b := some ⟨H.nx, 0⟩) (by rw [e1]) (by rw [e1]; omega) (fun hh => by cases hh) ⟨b', _, ext_same _ _ _, rfl, fun _ => by simp; omega⟩)
      · refine ⟨by simp, trivial, ?_, .inl rfl, ?_⟩
        · simp only [Cs.list, insL_eq, List.length_append, List.length_take, List.length_drop]; omega
        · simp only [Cs.list, insL_eq]
          have e2 : (os.take n ++ ws ++ os.drop n ++ js).toArray.toList.take (xs.take n ++ (ys ++ xs.drop n)).length = os.take n ++ (ws ++ os.drop n) := by
            have e3 : (xs.take n ++ (ys ++ xs.drop n)).length = (os.take n ++ ws ++ os.drop n).length := by simp only [List.length_append, List.length_take, List.length_drop]; omega
            rw [e3]
            show List.take _ (os.take n ++ ws ++ os.drop n ++ js) = _
            rw [List.take_left, List.append_assoc]
          rw [e2]
          exact ((m2.take n).append (g2.append (m2.drop n))).mono hle
end Go.XS
/- The layer 'XS': contracts that are run: slices.Insert of refs. -/
namespace Go.XS
open Go Go.TS
noncomputable section
def iInsR0 (n : Nat) (s : As) (m : Nat) (ys : List AV) (h : Am) : Option (AV × Am) := match Nat.beq s.len 0 with
  | false => none
  | true => match Nat.beq s.cap 0 with
    | false => none
    | true => match Nat.beq n 0 with
      | false => none
      | true => sN m fun l => al (.cells (.l ys)) h fun b h => some (.sl ⟨some ⟨b, 0⟩, l, l, 3⟩, h)
def iInsR1 (n : Nat) (s : As) (x : As) (ys : List AV) (h : Am) : Option (AV × Am) := match Nat.beq s.e 3 with
  | false => none
  | true => match s.base with
    | none => none
    | some a => match Nat.beq a.o 0 with
      | false => none
      | true => match x.base with
        | none => none
        | some ax => match pEq ax.b a.b with
          | true => none
          | false => cellsOf h ax.b fun c1 => match isL c1 with
            | false => none
            | true => cellsOf h a.b fun c0 => match isL c0 with
              | false => none
              | true => slC h s (Nat.mul s.len 3) fun c => match c with
                | .b _ _ => none
                | .l xs => match allA xs with
                  | false => none
                  | true => match Nat.ble n s.len with
                    | false => none
                    | true => match Nat.ble (Nat.add s.len x.len) 1000000 with
                      | false => none
                      | true => sN (Nat.add s.len x.len) fun l => al (.cells (.l (insL (Nat.mul n 3) xs ys))) (h.del a.b) fun b h => some (.sl ⟨some ⟨b, 0⟩, l, l, 3⟩, h)
def iInsertR : XCall := fun ags h => match ags with
  | [.sl s, .int .i64 (.ofNat n), .sl x] => slC h x (Nat.mul x.len 3) fun cx => match cx with
    | .b _ _ => none
    | .l ys => match ys with
      | [] => none
      | _ :: _ => match allA ys with
        | false => none
        | true => match Nat.ble x.len 1000000 with
          | false => none
          | true => match Nat.beq s.e 0 with
            | true => iInsR0 n s x.len ys h
            | false => iInsR1 n s x ys h
  | _ => none
end
theorem iInsertR_ch (ags : List AV) (H : Am) (q : AV × Am) (hx : iInsertR ags H = some q) : Ch H q.2 := by
  unfold iInsertR at hx
  split at hx
  · obtain ⟨c, hx⟩ := slC_inv hx
    split at hx
    · cases hx
    · split at hx
      · cases hx
      · split at hx
        · cases hx
        · split at hx
          · cases hx
          · split at hx
            · unfold iInsR0 at hx
              repeat' first | exact none_some hx | (have hq := sN_inv hx; obtain ⟨_, hx⟩ := hq) | (have hq := al_ch hx; obtain ⟨_, _, c, hx⟩ := hq; cases hx; exact c) | (split at hx)
            · unfold iInsR1 at hx
              repeat' first | exact none_some hx | (have hq := sN_inv hx; obtain ⟨_, hx⟩ := hq) | (have hq := slC_inv hx; obtain ⟨_, hx⟩ := hq) | (have hq := cellsOf_inv hx; obtain ⟨_, hx⟩ := hq) | (have hq := al_ch hx; obtain ⟨_, _, c, hx⟩ := hq; cases hx; exact (Ch.del _ _).trans c) | (split at hx)
  · cases hx
theorem mul3 (n : Nat) : Nat.mul n 3 = n * 3 := rfl
theorem iInsertR_R {τ : Nat → Nat} {p : CallP} (hp : ∀ (s x : Sl) (n : Int) (h : Mem) (K : Value → Mem → Prop), slices_Insert_api_Ref_api_Ref τ s n x h (fun r h => K (.slice r.base r.len r.cap) h) → p [.slice s.base s.len s.cap, .int .i64 n, .slice x.base x.len x.cap] h K)
    (γ : G) (φ : Fx) (ags : List AV) (H : Am) (h : Mem) (vs : List Value) (q : AV × Am) (K' : Value → Mem → Prop) (hx : iInsertR ags H = some q) (hR : HR γ φ H h) (hv : VRL γ ags vs) (hK : FinR γ φ q K') : p vs h K' := by
  unfold iInsertR at hx
  split at hx
  rotate_left
  · cases hx
  rename_i s n x
  obtain ⟨V1, vs1, rfl, h1, hv⟩ := hv.uncons
  obtain ⟨V2, vs2, rfl, h2, hv⟩ := hv.uncons
  obtain ⟨V3, vs3, rfl, h3, hv⟩ := hv.uncons
  simp only [VRL] at hv
  subst hv
  obtain ⟨S, hS, rfl⟩ := dSl h1
  obtain ⟨X, hX, rfl⟩ := dSl h3
  rw [dInt h2]
  obtain ⟨cx, ws, g1, g2, g3, g4, hx⟩ := slC_ok hR hX hx
  split at hx
  · cases hx
  rename_i ys
  simp only [Cs.list] at g2 g4
  split at hx
  · cases hx
  rename_i y0 yr
  generalize hys : y0 :: yr = ys at *
  split at hx
  · cases hx
  rename_i hay
  rw [allA_iff] at hay
  split at hx
  · cases hx
  rename_i hly
  rw [ble_iff] at hly
  have hones : Ones ws := one_ofL g2 hay
  have hwl := g2.len
  have hXl : ws.length = X.len * 3 := by rw [hX.1, ← hwl]; exact g4
  have hy1 : 0 < ws.length := by rw [← hwl, ← hys]; simp
  have hXe : X.len = x.len := hX.1
  have hX0 : 0 < X.len := by omega
  have hqc : slCells h X (X.len * 3) ws := by rw [hXe]; exact g1
  split at hx
  · -- an empty one without room
    rename_i he
    rw [beq_iff] at he
    unfold iInsR0 at hx
    split at hx
    · cases hx
    rename_i hl0
    split at hx
    · cases hx
    rename_i hc0
    split at hx
    · cases hx
    rename_i hn0
    rw [beq_iff] at hl0 hc0 hn0
    rw [sN_eq] at hx
    obtain ⟨hnb, hx⟩ := al_in hx
    cases hx
    subst hn0
    have hSl : S.len = 0 := by rw [hS.1, hl0]
    have hSc : S.cap = 0 := by rw [hS.2.2.1 he, hc0]
    refine hp S X _ h K' ?_
    refine ⟨by decide, by rw [hSl]; decide, by rw [hSl, hSc]; decide, ?_⟩
    refine ifB_f (beq_false_of_ne (by omega)) ?_
    refine ifB_t (by rw [hSl]; rfl) ?_
    refine ⟨ws, ?_, hones, fun hh => by omega, fun _ => ⟨by omega, by omega, [], ?_, fun c hc => ?_⟩⟩
    · exact hqc
    · rw [hSl]
      unfold slCells
      split
      · exact ⟨rfl, fun i v hi => by simp at hi⟩
      · rfl
    · rw [hSl] at hc ⊢
      simp only [Nat.zero_add] at hc ⊢
      have hzl : (Builtin.zeroCells #[Value.int .u64 0, Value.int .i64 0, Value.int .i64 0] (c - X.len)).toList.length = (c - X.len) * 3 := zeroCellsN_len _ _
      have hsz : (([] : List Value).toArray ++ ws.toArray ++ Builtin.zeroCells #[Value.int .u64 0, Value.int .i64 0, Value.int .i64 0] (c - X.len)).size = c * 3 := by
        rw [Array.size_append, Array.size_append, ← Array.length_toList (xs := Builtin.zeroCells _ _), hzl]
        simp only [List.size_toArray, List.length_nil]; omega
      have hle := hR.le_ext hnb (h.size, c * 3)
      refine hK _ _ _ hle (hR.new hnb (N := c * 3) (o := .cells (.l ys)) ?_) ?_
      · refine ⟨hsz, trivial, by simp only [Cs.list]; omega, .inl rfl, ?_⟩
        simp only [Cs.list]
        have : (([] : List Value).toArray ++ ws.toArray ++ Builtin.zeroCells #[Value.int .u64 0, Value.int .i64 0, Value.int .i64 0] (c - X.len)).toList.take ys.length = ws := by
          rw [hwl]; simp [List.take_append]
        rw [this]
        exact g2.mono hle
      · refine vSl (SlR.mk' (b := some ⟨H.nx, 0⟩) (by omega) (by omega) (fun hh => by cases hh) ⟨h.size, c * 3, ext_same _ _ _, rfl, fun _ => by simp⟩)
  · -- an own one
    rename_i he0
    unfold iInsR1 at hx
    split at hx
    · cases hx
    rename_i he
    rw [beq_iff] at he
    split at hx
    · cases hx
    rename_i a hb
    split at hx
    · cases hx
    rename_i ho
    rw [beq_iff] at ho
    split at hx
    · cases hx
    rename_i ax hxb
    split at hx
    · cases hx
    rename_i hne
    obtain ⟨cx1, B1, N1, cs1, el1, fr1, k1, k2, k3, k4, hx⟩ := cellsOf_ok hR hx
    split at hx
    · cases hx
    rename_i hL1
    obtain ⟨c0, B, N, cs, el, fr, l1, l2, l3, l4, hx⟩ := cellsOf_ok hR hx
    split at hx
    · cases hx
    rename_i hL0
    obtain ⟨c, os, m1, m2, m3, m4, hx⟩ := slC_ok hR hS hx
    split at hx
    · cases hx
    rename_i xs
    simp only [Cs.list] at m2 m4
    split at hx
    · cases hx
    rename_i hax
    rw [allA_iff] at hax
    split at hx
    · cases hx
    rename_i hn
    rw [ble_iff] at hn
    split at hx
    · cases hx
    rename_i hlen
    rw [ble_iff] at hlen
    have hlen : s.len + x.len ≤ 1000000 := hlen
    rw [sN_eq] at hx
    obtain ⟨hnb, hx⟩ := al_in hx
    cases hx
    have hnb' : inB H H.nx := hnb
    have notB : ∀ c : Cs, isL c = true → c.isB = false := fun c hc => by cases c <;> simp_all [isL, Cs.isB]
    have fr0 : fr = (0, 0) := by
      rcases l4.2.2.2.1 with e | ⟨_, e⟩
      · exact e
      · rw [notB _ hL0] at e; cases e
    have fr10 : fr1 = (0, 0) := by
      rcases k4.2.2.2.1 with e | ⟨_, e⟩
      · exact e
      · rw [notB _ hL1] at e; cases e
    subst fr0 fr10
    obtain ⟨B', N', q1, q2, q3⟩ := hS.base_some hb
    rw [l2] at q1; cases q1
    obtain ⟨B1', N1', r1, r2, _⟩ := hX.base_some hxb
    rw [k2] at r1; cases r1
    rw [ho] at q2
    have hcap := q3 (by rw [he]; decide)
    rw [ho, he, Nat.zero_add] at hcap
    have hSe : S.len = s.len := hS.1
    have hsz : cs.size = N := l4.1
    have hol := m2.len
    have m4' : os.length = S.len * 3 := by rw [← hol, hSe]; exact m4
    have m1' : cellsAt h ⟨B, 0, none⟩ os := by
      have : slCells h S (Nat.mul s.len 3) os := m1
      unfold slCells at this
      rw [q2] at this
      exact this.2
    have hll : S.len * 3 ≤ cs.size := by
      rcases Nat.lt_or_ge cs.size (S.len * 3) with hlt | hge
      · exfalso
        have := m1' cs.size (os[cs.size]'(by omega)) (by simp)
        rw [add_at, rd_at l3] at this
        simp at this
      · exact hge
    have hos : os = cs.toList.take (S.len * 3) := by
      apply List.ext_getElem?
      intro i
      rw [List.getElem?_take]
      split
      · rename_i hi
        have := m1' i (os[i]'(by omega)) (by simp)
        rw [add_at, rd_at l3, Nat.zero_add] at this
        rw [List.getElem?_eq_getElem (by omega)]
        simpa using this.symm
      · rename_i hi
        exact List.getElem?_eq_none (by omega)
    have hvec : VecN 3 h S os := by
      refine .inr ⟨B, cs.toList.drop (S.len * 3), S.len, S.cap - S.len, ?_, m4', ?_, el, ?_⟩
      · cases S with
        | mk b l c =>
          simp only at q2 hcap hll ⊢
          subst q2
          have : l + (c - l) = c := by omega
          rw [this]
      · rw [List.length_drop, Array.length_toList]; omega
      · rw [hos, List.take_append_drop]; exact l3
    have hBne : B1 ≠ B := by
      intro e
      subst e
      have := hR.inj _ _ _ _ _ _ _ k1 l1 k2 l2
      have hpe : ∀ p : P, pEq p p = true := by
        intro p
        induction p with
        | one => rfl
        | dbl p ih => exact ih
        | odd p ih => exact ih
      rw [this, hpe] at hne; cases hne
    refine hp S X _ h K' ?_
    have hxsl : xs.length = os.length := hol
    have hqx : cellsAt h ⟨B1, ax.o, none⟩ ws := by
      have h6 := hqc
      unfold slCells at h6
      rw [r2] at h6
      exact h6.2
    have hcsx : cs1.toList ≠ [] := by
      intro e
      have := hqx 0 (ws[0]'hy1) (by simp)
      rw [add_at, rd_at k3] at this
      have e2 : cs1 = #[] := Array.toList_eq_nil_iff.1 e
      rw [e2] at this; simp at this
    refine insertR_ct (n := n) (X := S.len) (Y := X.len) (xs := os) (ys := ws) (ax := ⟨B1, ax.o, none⟩) (bx := B1) (cx := cs1.toList) hvec m4' hXl (one_ofL m2 hax) (by omega) rfl hqx r2 rfl ⟨el1, k3⟩ hcsx hones hX0 ?_ (by omega) ?_
    · rintro ⟨a', ha', hb'⟩
      rw [q2] at ha'; cases ha'
      exact hBne hb'.symm
    · intro r h' hvr hrl hu hat
      have hlr : (os.take (n * 3) ++ ws ++ os.drop (n * 3)).length = (S.len + X.len) * 3 := by simp only [List.length_append, List.length_take, List.length_drop]; omega
      rcases hvr with ⟨_, e⟩ | ⟨b', js, n', m', rfl, hn', hm', el', hb'⟩
      · rw [e] at hlr; simp at hlr; omega
      dsimp only at hrl
      subst hrl
      have hSB : ∀ k, TS.At S k → k = B := by
        rintro k ⟨a', ha', hk⟩
        rw [q2] at ha'; cases ha'
        exact hk.symm
      have hbb : b' = B ∨ h.size ≤ b' := by
        rcases hat b' ⟨_, rfl, rfl⟩ with h9 | h9
        · exact .inl (hSB _ h9)
        · exact .inr h9
      have hst := hR.stat_ne l1 l2 rfl
      have hfar : φ.far B = none := by
        cases hf : φ.far B with
        | none => rfl
        | some ob => exact absurd l2 ((hR.far B ob hf).2 _ _ N l1)
      have hle := hR.le_ext hnb' (b', (os.take (n * 3) ++ ws ++ os.drop (n * 3) ++ js).length)
      have hrn := hR.renew (H0 := H.del a.b) hnb' (S := fun k => k = B) (fun k o hk => by
          have hg : (H.del a.b).get k = if k = a.b then none else H.get k := get_del _ _ _
          rw [hg] at hk
          split at hk
          · cases hk
          · rename_i hne2
            refine ⟨hk, fun B2 N2 hg2 e => ?_⟩
            subst e
            exact hne2 (hR.inj _ _ _ _ _ _ _ hk l1 hg2 l2)) rfl rfl (fun k hk => by subst hk; exact ⟨hst, hfar⟩)
        hu.sz (fun k hk hne3 => hu.same k hk (fun h10 => hne3 (hSB _ h10))) (o' := .cells (.l (insL (Nat.mul n 3) xs ys))) (B' := b') (N' := (os.take (n * 3) ++ ws ++ os.drop (n * 3) ++ js).length) (ob' := .cells (os.take (n * 3) ++ ws ++ os.drop (n * 3) ++ js).toArray el' (0, 0)) hbb hb' ?_
      · refine hK _ _ _ hle hrn ?_
        refine vSl (SlR.mk' (b := some ⟨H.nx, 0⟩) (by show S.len + X.len = s.len + x.len; omega) (by show s.len + x.len ≤ _; omega) (fun hh => by cases hh) ⟨b', _, ext_same _ _ _, rfl, fun _ => by rw [List.length_append, hlr]; simp only []; omega⟩)
      · refine ⟨by simp, trivial, ?_, .inl rfl, ?_⟩
        · simp only [Cs.list, insL_eq, mul3, List.length_append, List.length_take, List.length_drop]; omega
        · simp only [Cs.list, insL_eq, mul3]
          have e2 : (os.take (n * 3) ++ ws ++ os.drop (n * 3) ++ js).toArray.toList.take (xs.take (n * 3) ++ (ys ++ xs.drop (n * 3))).length = os.take (n * 3) ++ (ws ++ os.drop (n * 3)) := by
            have e3 : (xs.take (n * 3) ++ (ys ++ xs.drop (n * 3))).length = (os.take (n * 3) ++ ws ++ os.drop (n * 3)).length := by simp only [List.length_append, List.length_take, List.length_drop]; omega
            rw [e3]
            show List.take _ (os.take (n * 3) ++ ws ++ os.drop (n * 3) ++ js) = _
            rw [List.take_left, List.append_assoc]
          rw [e2]
          exact ((m2.take (n * 3)).append (g2.append (m2.drop (n * 3)))).mono hle
end Go.XS
/- The layer 'XS': contracts that are run: are all bytes nought? -/
namespace Go.TS
open Go
theorem noughts_ct {τ : Nat → Nat} {s : Sl} {h : Mem} {K : Bool → Mem → Prop} {bs : List Int} (q : Holds h s (By bs)) (hl : bs.length ≤ 2 ^ 40) (h1 : (∃ b, b ∈ bs ∧ b ≠ 0) → K false h) (h2 : (∀ b, b ∈ bs → b = 0) → K true h) : slots_noughts τ s h K := by
  have hlen : s.len = bs.length := by rw [q.1, By_len]
  refine loop_ct (fun l h' => h' = h ∧ ∃ k : Nat, l = k ∧ k ≤ bs.length ∧ ∀ b, b ∈ bs.take k → b = 0) (fun l _ => (bs.length - l).toNat) ⟨rfl, 0, rfl, by omega, by simp⟩ ?_
  rintro l h2' ⟨hh, k, rfl, hk, hz⟩
  subst hh
  dsimp only
  refine ifB_c (fun hc => ?_) (fun hc => ?_)
  · have hkl : k < bs.length := by simp [hlen] at hc; omega
    refine ixld_ct (k := .int .u8) q (by omega) bs[k] (by simp [encL, hkl, Kind.enc]) ?_
    refine ifB_c (fun hn => ?_) (fun hn => ?_)
    · refine h1 ⟨bs[k], by simp, by simpa using hn⟩
    · have h0 : bs[k] = 0 := by simpa using hn
      rw [w64 (by omega) (by omega)]
      refine ⟨⟨rfl, k + 1, by omega, by omega, ?_⟩, by omega⟩
      intro b hb
      rw [List.take_add_one, List.getElem?_eq_getElem hkl] at hb
      simp only [Option.toList_some, List.mem_append, List.mem_singleton] at hb
      rcases hb with hb | hb
      · exact hz b hb
      · rw [hb]; exact h0
  · have hkl : k = bs.length := by simp [hlen] at hc; omega
    subst hkl
    rw [List.take_length] at hz
    exact h2 hz
end Go.TS
namespace Go.XS
open Go Go.TS
noncomputable section
def iNoughts : XCall := fun ags h => match ags with
  | [.sl s] => slC h s s.len fun c => match c with
    | .b n len => match Nat.ble len 1000000 with
      | true => some (.bool (Nat.beq n 0), h)
      | false => none
    | .l [] => some (.bool true, h)
    | _ => none
  | _ => none
end
theorem iNoughts_ch (ags : List AV) (H : Am) (q : AV × Am) (hx : iNoughts ags H = some q) : Ch H q.2 := by
  unfold iNoughts at hx
  split at hx
  · obtain ⟨c, hx⟩ := slC_inv hx
    split at hx
    · split at hx
      · cases hx; exact .refl _
      · cases hx
    · cases hx; exact .refl _
    · cases hx
  · cases hx
theorem iNoughts_R {τ : Nat → Nat} {p : CallP} (hp : ∀ (s : Sl) (h : Mem) (K : Value → Mem → Prop), slots_noughts τ s h (fun r h => K (.bool r) h) → p [.slice s.base s.len s.cap] h K)
    (γ : G) (φ : Fx) (ags : List AV) (H : Am) (h : Mem) (vs : List Value) (q : AV × Am) (K' : Value → Mem → Prop) (hx : iNoughts ags H = some q) (hR : HR γ φ H h) (hv : VRL γ ags vs) (hK : FinR γ φ q K') : p vs h K' := by
  unfold iNoughts at hx
  split at hx
  · rename_i s
    obtain ⟨V, vs', rfl, h1, h2⟩ := hv.uncons
    simp only [VRL] at h2
    subst h2
    obtain ⟨S, hS, rfl⟩ := dSl h1
    obtain ⟨c, ws, g1, g2, g3, g4, hx⟩ := slC_ok hR hS hx
    have fin : ∀ b, q = (.bool b, H) → K' (.bool b) h := fun b e => hK γ _ _ (.refl γ) (by rw [e]; exact hR) (by rw [e]; simp only [VR])
    have hl : S.len = s.len := hS.1
    split at hx
    · rename_i n len
      split at hx
      · rename_i hle
        rw [ble_iff] at hle
        cases hx
        simp only [Cs.list, len_bytesL] at g4
        have e := VRL.func _ _ _ g2 (VRL.bytes n len)
        rw [bytesV_By] at e
        have hB : (By (digL n len)).length = len := by simp [digL, encL]
        have hz : n = 0 ↔ ∀ b, b ∈ digL n len → b = 0 := by
          constructor
          · rintro rfl b hb
            simp only [digL, List.mem_map, List.mem_range] at hb
            obtain ⟨i, _, rfl⟩ := hb
            simp [dig_eq]
          · intro hb
            refine dig_ext len n 0 g3 (pw_pos _) fun i hi => ?_
            have := hb (dig n i : Int) (by simp only [digL, List.mem_map, List.mem_range]; exact ⟨i, hi, rfl⟩)
            have h0 : dig 0 i = 0 := by simp [dig_eq]
            rw [h0]; exact_mod_cast this
        refine hp S h K' (noughts_ct (bs := digL n len) ⟨by rw [hl, hB]; exact g4.symm, ?_⟩ (by simp only [digL, List.length_map, List.length_range]; omega) (fun hx => ?_) (fun hx => ?_))
        · rw [hB, ← e, g4]; exact g1
        · refine fin false ?_
          have : Nat.beq n 0 = false := by
            cases hb : Nat.beq n 0 with
            | false => rfl
            | true =>
              rw [beq_iff] at hb
              obtain ⟨b, hb1, hb2⟩ := hx
              exact absurd (hz.1 hb b hb1) hb2
          rw [this]
        · refine fin true ?_
          rw [beq_iff.2 (hz.2 hx)]
      · cases hx
    · cases hx
      simp only [Cs.list, List.length_nil] at g4
      simp only [Cs.list, VRL] at g2
      subst g2
      refine hp S h K' (noughts_ct (bs := []) ⟨by rw [hl, ← g4]; rfl, ?_⟩ (by simp) (fun hx => ?_) (fun _ => fin true rfl))
      · rw [← g4] at g1; exact g1
      · obtain ⟨b, hb, _⟩ := hx; cases hb
    · cases hx
  · cases hx
end Go.XS
/- The layer 'XS': contracts that are run: how many sectors a disk has. -/
namespace Go.XS
open Go Go.TS
noncomputable section
def iSectors : XCall := fun ags h => match ags with
  | [.ptr none] => some (.int .i64 (.ofNat 0), h)
  | [.ptr (some a)] => ld .map (a.add 1) h fun m => match m with
    | none => some (.int .i64 (.ofNat 0), h)
    | some _ => ld .sl a h fun s => match Nat.ble s.len lim with
      | true => sN (Nat.div s.len 512) fun n => some (.int .i64 (.ofNat n), h)
      | false => none
  | _ => none
end
theorem iSectors_ch (ags : List AV) (H : Am) (q : AV × Am) (hx : iSectors ags H = some q) : Ch H q.2 := by
  unfold iSectors at hx
  repeat' first | exact none_some hx | (cases hx; exact .refl _) | (have hq := sN_inv hx; obtain ⟨_, hx⟩ := hq) | (have hq := ld_inv hx; obtain ⟨_, hx⟩ := hq) | (split at hx)
theorem iSectors_R {τ : Nat → Nat} {p : CallP} (hp : ∀ (d : Option Addr) (h : Mem) (K : Value → Mem → Prop), sector_Disk_Sectors τ d h (fun r h => K (.int .i64 r) h) → p [.pointer d] h K)
    (γ : G) (φ : Fx) (ags : List AV) (H : Am) (h : Mem) (vs : List Value) (q : AV × Am) (K' : Value → Mem → Prop) (hx : iSectors ags H = some q) (hR : HR γ φ H h) (hv : VRL γ ags vs) (hK : FinR γ φ q K') : p vs h K' := by
  have fin : ∀ n : Int, q = (.int .i64 n, H) → K' (.int .i64 n) h := fun n e => hK γ _ _ (.refl γ) (by rw [e]; exact hR) (by rw [e]; simp only [VR])
  unfold iSectors at hx
  split at hx
  · obtain ⟨V1, vs1, rfl, h1, hv⟩ := hv.uncons
    simp only [VRL] at hv
    subst hv
    obtain ⟨D, hD, rfl⟩ := dPtr h1
    cases D with
    | some _ => exact hD.elim
    | none =>
    cases hx
    refine hp _ h K' ?_
    unfold sector_Disk_Sectors sector_Disk_made
    exact ifB_f rfl (ifB_t rfl (fin 0 rfl))
  · rename_i a
    obtain ⟨V1, vs1, rfl, h1, hv⟩ := hv.uncons
    simp only [VRL] at hv
    subst hv
    obtain ⟨D, hD, rfl⟩ := dPtr h1
    cases D with
    | none => exact hD.elim
    | some A =>
    have hA : AdR γ a A := hD
    refine hp _ h K' ?_
    obtain ⟨m, M, r1, hM, hx⟩ := ld_get hR (hA.add 1) hx
    unfold sector_Disk_Sectors sector_Disk_made
    refine ifB_t rfl ?_
    refine ld_ct (k := .map) M r1 ?_
    split at hx
    · have hM : OMR γ none M := hM
      cases M with
      | some _ => exact hM.elim
      | none => cases hx; exact ifB_t rfl (fin 0 rfl)
    · rename_i r
      have hM : OMR γ (some r) M := hM
      cases M with
      | none => exact hM.elim
      | some rB =>
      refine ifB_f rfl ?_
      obtain ⟨s, S, r0, hS, hx⟩ := ld_get hR hA hx
      refine ld_ct (k := .sl) S r0 ?_
      have hS : SlR γ s S := hS
      split at hx
      · rename_i hl
        rw [ble_iff] at hl
        have hl : s.len ≤ 1099511627776 := hl
        rw [sN_eq] at hx
        cases hx
        have e : IntKind.i64.wrap ((S.len : Int).tdiv 512) = ((s.len / 512 : Nat) : Int) := by
          rw [hS.1, Int.tdiv_eq_ediv_of_nonneg (by omega), w64 (by omega) (by omega)]; omega
        show K' (.int .i64 (IntKind.i64.wrap ((S.len : Int).tdiv 512))) h
        rw [e]
        exact fin _ rfl
      · cases hx
  · cases hx
end Go.XS
/- The layer 'XS': contracts that are run: is a byte that is not nought among some? -/
namespace Go.TS
open Go
theorem idxZ_ct {τ : Nat → Nat} {s : Sl} {h : Mem} {K : Int → Mem → Prop} {bs : List Int} (q : Holds h s (By bs)) (hl : bs.length ≤ 2 ^ 40) (hz : ∀ i : Nat, i < bs.length → bs[i]? = some 0) (hK : K (-1) h) : slices_IndexFunc_byte_byte τ s h K := by
  have hn : s.len = bs.length := by have := q.1; rw [By_len] at this; exact this
  refine loop_ct (σ := Int) (fun l h' => h' = h ∧ ∃ i : Nat, l = i ∧ i ≤ bs.length) (fun l _ => bs.length - l.toNat) ⟨rfl, 0, rfl, Nat.zero_le _⟩ ?_
  rintro l h2 ⟨hh, i, rfl, hi⟩
  subst hh
  refine ifB_c (fun hc => ?_) (fun _ => hK)
  have hlt : i < bs.length := by
    have := of_decide_eq_true hc
    rw [hn] at this
    omega
  refine ixld_ct (k := .int .u8) q (by omega) (0 : Int) ?_ ?_
  · have := hz i hlt
    simp [encL, Kind.enc, this]
  · refine ifB_f (A := K (i : Int) h2) rfl ?_
    rw [w64 (by omega) (by omega)]
    exact ⟨⟨rfl, i + 1, by omega, by omega⟩, by omega⟩
end Go.TS
namespace Go.XS
open Go Go.TS
noncomputable section
def iZeros (k : Nat) : XCall := fun ags h => match ags with
  | [.sl s, .fn (.func f) [] []] => match Nat.beq f k with
    | true => match Nat.ble s.len 1048576 with
      | true => slC h s s.len fun c => numOf c fun n _ => match Nat.beq n 0 with
        | true => some (.int .i64 (.negSucc 0), h)
        | false => none
      | false => none
    | false => none
  | _ => none
end
theorem iZeros_ch (k : Nat) (ags : List AV) (H : Am) (q : AV × Am) (hx : iZeros k ags H = some q) : Ch H q.2 := by
  unfold iZeros at hx
  split at hx
  · split at hx
    · split at hx
      · obtain ⟨c, hx⟩ := slC_inv hx
        obtain ⟨_, _, hx⟩ := numOf_inv hx
        split at hx
        · cases hx; exact .refl _
        · cases hx
      · cases hx
    · cases hx
  · cases hx
theorem iZeros_R {τ : Nat → Nat} {p : CallP} {k : Nat} (hp : ∀ (s : Sl) (h : Mem) (K : Value → Mem → Prop), slices_IndexFunc_byte_byte τ s h (fun r h => K (.int .i64 r) h) → p [.slice s.base s.len s.cap, .func (.func k) #[] #[]] h K)
    (γ : G) (φ : Fx) (ags : List AV) (H : Am) (h : Mem) (vs : List Value) (q : AV × Am) (K' : Value → Mem → Prop) (hx : iZeros k ags H = some q) (hR : HR γ φ H h) (hv : VRL γ ags vs) (hK : FinR γ φ q K') : p vs h K' := by
  unfold iZeros at hx
  split at hx
  · rename_i s f
    split at hx
    · rename_i hf
      rw [beq_iff] at hf
      subst hf
      split at hx
      rotate_left
      · cases hx
      rename_i hle
      rw [ble_iff] at hle
      obtain ⟨V1, vs1, rfl, h1, hv⟩ := hv.uncons
      obtain ⟨V2, vs2, rfl, h2, hv⟩ := hv.uncons
      simp only [VRL] at hv
      subst hv
      obtain ⟨S, hS, rfl⟩ := dSl h1
      simp only [VR, VRL] at h2
      obtain ⟨us, ws, rfl, rfl, rfl⟩ := h2
      rcases slB_ok hR hS hx with ⟨n, g1, hx⟩ | ⟨_, g1, hx⟩ | ⟨y, ys, hx⟩
      · have hx : (match Nat.beq n 0 with | true => some (AV.int .i64 (.negSucc 0), H) | false => none) = some q := hx
        split at hx
        · rename_i h0
          rw [beq_iff] at h0
          subst h0
          cases hx
          refine hp S h K' (idxZ_ct g1 ?_ ?_ ?_)
          · simp only [digL, List.length_map, List.length_range]
            have : (2 : Nat) ^ 40 = 1099511627776 := by decide
            omega
          · intro i hi
            simp only [digL, List.length_map, List.length_range] at hi
            simp [digL, hi, dig_zero]
          · exact hK γ _ _ (.refl γ) hR (by simp only [VR]; rfl)
        · cases hx
      · have hx : some (AV.int .i64 (.negSucc 0), H) = some q := hx
        cases hx
        refine hp S h K' (idxZ_ct (bs := []) g1 (by simp) (fun i hi => by simp at hi) ?_)
        exact hK γ _ _ (.refl γ) hR (by simp only [VR]; rfl)
      · cases hx
    · cases hx
  · cases hx
end Go.XS
