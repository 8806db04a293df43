/- Contracts: copies of slices, joined slices. -/
import Derived.Laws.Bits64
import Derived.Test.YtpgpdmbhlpadmaaGreatTcBase
import Derived.Test.YtpgpdmbhlpadmaaGreatTsExt
namespace Go.TS
open Go
set_option linter.unusedVariables false

theorem w64 {x : Int} (h : -9223372036854775808 ≤ x) (h' : x < 9223372036854775808) : IntKind.i64.wrap x = x := by rw [IntKind.wrap_i64]; omega
theorem loop_ct {σ : Type} {body : (σ → Mem → Prop) → σ → Mem → Prop} {s : σ} {h : Mem} (I : σ → Mem → Prop) (μ : σ → Mem → Nat) (h0 : I s h)
    (hb : ∀ s h, I s h → body (fun s' h' => I s' h' ∧ μ s' h' < μ s h) s h) : LoopP body s h := ⟨I, μ, h0, hb⟩
theorem ifB_t {c : Bool} {A B : Prop} (hc : c = true) (hA : A) : ifB c A B := by subst hc; exact hA
theorem ifB_f {c : Bool} {A B : Prop} (hc : c = false) (hB : B) : ifB c A B := by subst hc; exact hB
theorem ifB_c {c : Bool} {A B : Prop} (hA : c = true → A) (hB : c = false → B) : ifB c A B := by cases c; exact hB rfl; exact hA rfl

/-- values of one cell -/
def Ones (xs : List Value) : Prop := ∀ v, v ∈ xs → oneC v = true
theorem ones_enc (k : Kind) (l : List k.ty) (hk : k ≠ .any) : Ones (encL k l) := by
  intro v hv
  obtain ⟨x, _, rfl⟩ := List.mem_map.1 hv
  cases k <;> first | rfl | exact absurd rfl hk
theorem Ones.app {xs ys : List Value} (a : Ones xs) (b : Ones ys) : Ones (xs ++ ys) := fun v hv => (List.mem_append.1 hv).elim (a v) (b v)
theorem ones_nil : Ones [] := fun v hv => by cases hv

theorem clone_any {t : TypeId} {z : Value} {bytes : Nat} {s : Sl} {h : Mem} {K : Sl → Mem → Prop} {xs : List Value} (q : Holds h s xs) (ho : Ones xs) (hl : xs.length ≤ 2 ^ 40) (hb : xs.length * bytes ≤ 2 ^ 40)
    (hK : ∀ r h', Vec h' r xs → New h r → Ext h h' → (s.base = none → r.base = none) → K r h') :
    ifB (s.base.isNone) (K ⟨none, 0, 0⟩ h) (al (.cells #[] t) h fun q3 h => app t #[z] 1 bytes (⟨(some (⟨q3, 0, none⟩ : Addr)), 0, 0⟩ : Sl) s h fun s4 h => K s4 h) := by
  refine ifB_c (fun hc => ?_) (fun hc => ?_)
  · have hn : s.base = none := by simpa using hc
    have hx : xs = [] := by have := q.2; unfold slCells at this; rw [hn] at this; exact this
    subst hx
    exact hK _ _ (vec_nil h) (new_nil h) (Upd.refl _ _) (fun _ => rfl)
  · refine al_ct fun h1 hb1 hE hs => ?_
    have hv : Vec h1 ⟨some ⟨h.size, 0, none⟩, 0, 0⟩ [] := .inr ⟨h.size, [], rfl, t, hb1⟩
    refine app_ct hv (q.gete hE) ho (by simpa using hb) (by simpa using hl) fun r h' hr hu hn => ?_
    refine hK r h' hr ?_ (Upd.above hE hu ?_) (fun hn => by rw [hn] at hc; cases hc)
    · intro b hb
      rcases hn b hb with ⟨a, ha, rfl⟩ | hle
      · simp only [Option.some.injEq] at ha; subst ha; exact Nat.le_refl _
      · omega
    · rintro b ⟨a, ha, rfl⟩
      simp only [Option.some.injEq] at ha; subst ha; exact Nat.le_refl _
theorem clone_byte_ct {τ : Nat → Nat} {s : Sl} {h : Mem} {K : Sl → Mem → Prop} {xs : List Value} (q : Holds h s xs) (ho : Ones xs) (hl : xs.length ≤ 2 ^ 40)
    (hK : ∀ r h', Vec h' r xs → New h r → Ext h h' → (s.base = none → r.base = none) → K r h') : slices_Clone_byte_byte τ s h K :=
  clone_any q ho hl (by omega) hK
theorem clone_int_ct {τ : Nat → Nat} {s : Sl} {h : Mem} {K : Sl → Mem → Prop} {xs : List Value} (q : Holds h s xs) (ho : Ones xs) (hl : xs.length ≤ 2 ^ 37)
    (hK : ∀ r h', Vec h' r xs → New h r → Ext h h' → (s.base = none → r.base = none) → K r h') : slices_Clone_int_int τ s h K :=
  clone_any q ho (by omega) (by omega) hK

theorem zeroCells_eq (z : Value) (n : Nat) : (Builtin.zeroCells #[z] n).toList = List.replicate n z := by
  apply List.ext_getElem?
  intro i
  simp only [Builtin.zeroCells, List.size_toArray, List.length_cons, List.length_nil, Nat.zero_add, Nat.mul_one, Array.toList_map, Array.toList_range, List.getElem?_map, List.getElem?_range, List.getElem?_replicate, Nat.mod_one]
  by_cases h : i < n
  · simp [List.getElem?_range h, h]
  · simp [h]
theorem app0_ct {t : TypeId} {z : Value} {bytes : Nat} {s : Sl} {n : Int} {h : Mem} {K : Sl → Mem → Prop} {xs : List Value} (p : Vec h s xs) (hz : oneC z = true) (hn : 0 ≤ n)
    (hb : (xs.length + n.toNat) * bytes ≤ 2 ^ 40) (hb1 : xs.length + n.toNat ≤ 2 ^ 40)
    (hK : ∀ s' h', Vec h' s' (xs ++ List.replicate n.toNat z) → Upd (At s) h h' → (∀ b, At s' b → At s b ∨ h.size ≤ b) → K s' h') : app0 t #[z] 1 bytes s n h K := by
  have hones : one (Builtin.zeroCells #[z] n.toNat).toList := by
    rw [zeroCells_eq]; intro v hv; rw [List.eq_of_mem_replicate hv]; exact hz
  have hlen : s.len = xs.length := p.len
  have hbb : n.toNat * bytes ≤ 2 ^ 40 := Nat.le_trans (Nat.mul_le_mul_right _ (by omega)) hb
  refine ⟨hn, hbb, by omega, hones, Nat.one_pos, ?_, ?_⟩
  · intro hroom
    rcases p with ⟨rfl, rfl⟩ | ⟨b, js, rfl, hbk⟩
    · simp only [Nat.zero_add, Nat.le_zero_eq] at hroom
      simp only [hroom, Nat.zero_add]
      refine hK _ _ ?_ (Upd.refl _ _) (fun b hb => .inl hb)
      simp only [hroom, List.replicate_zero, List.append_nil]; exact vec_nil h
    · simp only at hroom ⊢
      simp only [add_n, Nat.zero_add, Nat.mul_one]
      have hsz : (Builtin.zeroCells #[z] n.toNat).size = n.toNat := by rw [← Array.length_toList, zeroCells_len]
      rw [hsz, zeroCells_eq]
      have hl : xs.length + n.toNat ≤ (xs ++ js).length := by simp; omega
      refine ⟨room_blk hbk hl, ?_⟩
      obtain ⟨h1, h2, h3⟩ := wrs_blk (o := xs.length) (List.replicate n.toNat z) 0 hbk (by simpa using hl)
      refine hK _ _ (.inr ⟨b, js.drop n.toNat, ?_, ?_⟩) (h2.mono ?_) ?_
      · simp; omega
      · have : over (xs ++ js) (xs.length + 0) (List.replicate n.toNat z) = xs ++ List.replicate n.toNat z ++ js.drop n.toNat := by simp [over, List.drop_append]
        rw [this] at h1; exact h1
      · rintro k _ rfl; exact ⟨_, rfl, rfl⟩
      · rintro k ⟨a, ha, rfl⟩
        exact .inl ⟨a, ha, rfl⟩
  · intro hgrow
    rw [hlen]
    refine ⟨hb1, hb, xs, ?_, ?_⟩
    · have := p.holds.2; rw [Nat.mul_one]; exact this
    · intro c hc
      refine hK ⟨some ⟨h.size, 0, none⟩, xs.length + n.toNat, c⟩ _ (.inr ⟨h.size, (Builtin.zeroCells #[z] (c - (xs.length + n.toNat))).toList, ?_, t, ?_⟩) ⟨by simp, fun b hb _ => ?_⟩ ?_
      · rw [zeroCells_len, List.length_append, List.length_replicate]
        congr 1; omega
      · rw [← zeroCells_eq]; simp
      · rw [Array.getElem?_push_lt hb]; simp [hb]
      · rintro k ⟨a, ha, rfl⟩
        simp only [Option.some.injEq] at ha
        subst ha; exact .inr (Nat.le_refl _)

theorem ix_ct {s : Sl} {i : Int} {h : Mem} {K : Addr → Prop} {xs : List Value} {v : Value} (q : Holds h s xs) (hi : 0 ≤ i) (hv : xs[i.toNat]? = some v) (hK : ∀ a, rd h a = some v → K a) : ixS s i 1 K := by
  have hlt : i.toNat < xs.length := (List.getElem?_eq_some_iff.1 hv).1
  have h2 := q.2
  unfold slCells at h2
  cases hb : s.base with
  | none => rw [hb] at h2; subst h2; simp at hlt
  | some a =>
    rw [hb] at h2
    refine ⟨a, hb, hi, by rw [q.1]; omega, hK _ ?_⟩
    rw [Nat.mul_one]; exact h2.2 _ _ hv
theorem ixld_ct {k : Kind} {s : Sl} {i : Int} {h : Mem} {K : k.ty → Prop} {xs : List Value} (q : Holds h s xs) (hi : 0 ≤ i) (x : k.ty) (hv : xs[i.toNat]? = some (k.enc x)) (hK : K x) : ixS s i 1 fun a => ld k a h K :=
  ix_ct q hi hv fun a ha => ⟨x, ha, hK⟩

theorem grow_any {t : TypeId} {z : Value} {bytes : Nat} {n : Int} {h : Mem} {K : Sl → Mem → Prop} (hz : oneC z = true) (hn : 0 ≤ n) (hb : n.toNat * bytes ≤ 2 ^ 40) (hb1 : n.toNat ≤ 2 ^ 40)
    (hK : ∀ r h', Vec h' r [] → New h r → Ext h h' → K r h') :
    ifB (decide (n < 0)) False (let J1 : Sl → Mem → Prop := (fun s7 h => K s7 h);
      ifB (decide ((IntKind.i64.wrap (n - (IntKind.i64.wrap (((0 : Nat) : Int) - ((0 : Nat) : Int))))) > 0)) (
        slc (⟨none, 0, 0⟩ : Sl) 0 ((0 : Nat) : Int) 1 fun s4 =>
        app0 t #[z] 1 bytes s4 (IntKind.i64.wrap (n - (IntKind.i64.wrap (((0 : Nat) : Int) - ((0 : Nat) : Int))))) h fun s5 h =>
        slc s5 0 ((0 : Nat) : Int) 1 fun s6 => J1 s6 h) (J1 (⟨none, 0, 0⟩ : Sl) h)) := by
  have hw : IntKind.i64.wrap (n - (IntKind.i64.wrap (((0 : Nat) : Int) - ((0 : Nat) : Int)))) = n := by rw [w64 (x := ((0 : Nat) : Int) - ((0 : Nat) : Int)) (by omega) (by omega), w64] <;> omega
  refine ifB_f (by simp; omega) ?_
  rw [hw]
  refine ifB_c (fun hc => ?_) (fun hc => hK _ _ (vec_nil h) (new_nil h) (Upd.refl _ _))
  refine ⟨by omega, by omega, by simp, ?_⟩
  refine app0_ct (xs := []) (by simpa [Sl.cut] using vec_nil h) hz hn (by simpa using hb) (by simpa using hb1) fun r h' hr hu hnew => ?_
  refine ⟨by omega, by omega, by omega, ?_⟩
  have hat : ∀ b, At r b → h.size ≤ b := fun b hb => (hnew b hb).elim (fun ⟨a, ha, _⟩ => by simp [Sl.cut] at ha) (fun h => h)
  have hcut : r.cut (0 : Int).toNat ((0 : Nat) : Int).toNat 1 = ⟨r.base, 0, r.cap⟩ := by
    simp only [Sl.cut]
    congr 1
    split
    · rfl
    · cases r.base <;> simp [Addr.add]
  rw [hcut]
  refine hK _ h' ?_ hat (hu.mono ?_)
  · rcases hr with ⟨rfl, _⟩ | ⟨b, js, rfl, hbk⟩
    · exact vec_nil h'
    · refine .inr ⟨b, [] ++ List.replicate n.toNat z ++ js, ?_, hbk⟩
      simp
  · rintro b _ ⟨a, ha, _⟩; simp [Sl.cut] at ha
theorem grow_byte_ct {τ : Nat → Nat} {n : Int} {h : Mem} {K : Sl → Mem → Prop} (hn : 0 ≤ n) (hb : n.toNat ≤ 2 ^ 40) (hK : ∀ r h', Vec h' r [] → New h r → Ext h h' → K r h') : slices_Grow_byte_byte τ ⟨none, 0, 0⟩ n h K :=
  grow_any rfl hn (by omega) hb hK
theorem grow_int_ct {τ : Nat → Nat} {n : Int} {h : Mem} {K : Sl → Mem → Prop} (hn : 0 ≤ n) (hb : n.toNat ≤ 2 ^ 37) (hK : ∀ r h', Vec h' r [] → New h r → Ext h h' → K r h') : slices_Grow_int_int τ ⟨none, 0, 0⟩ n h K :=
  grow_any rfl hn (by omega) (by omega) hK

/-- a slice of slices, and what each of them holds -/
def Lists (h : Mem) (s : Sl) (L : List (Sl × List Value)) : Prop := Holds h s (L.map fun p => Value.slice p.1.base p.1.len p.1.cap) ∧ ∀ p, p ∈ L → Holds h p.1 p.2
def total : List (Sl × List Value) → Nat
  | [] => 0
  | p :: L => p.2.length + total L
def joined (L : List (Sl × List Value)) : List Value := L.flatMap (·.2)
theorem Lists.get {S : Nat → Prop} {h h' : Mem} {s : Sl} {L : List (Sl × List Value)} (p : Lists h s L) (u : Upd S h h') (hs : ∀ b, At s b → ¬ S b) (hl : ∀ p, p ∈ L → ∀ b, At p.1 b → ¬ S b) : Lists h' s L :=
  ⟨p.1.get u hs, fun q hq => (p.2 q hq).get u (hl q hq)⟩
theorem Lists.gete {h h' : Mem} {s : Sl} {L : List (Sl × List Value)} (p : Lists h s L) (u : Ext h h') : Lists h' s L := p.get u (fun _ _ h => h) (fun _ _ _ _ h => h)
theorem total_append (A B : List (Sl × List Value)) : total (A ++ B) = total A + total B := by
  induction A with
  | nil => simp [total]
  | cons a A ih => simp only [List.cons_append, total, ih]; omega
theorem total_take_le (L : List (Sl × List Value)) (k : Nat) : total (L.take k) ≤ total L := by
  have := total_append (L.take k) (L.drop k)
  rw [List.take_append_drop] at this; omega
theorem total_take_succ {L : List (Sl × List Value)} {k : Nat} (p : Sl × List Value) (hk : L[k]? = some p) : total (L.take (k + 1)) = total (L.take k) + p.2.length := by
  rw [List.take_add_one, hk, total_append]; simp [total]
theorem joined_take_succ {L : List (Sl × List Value)} {k : Nat} (p : Sl × List Value) (hk : L[k]? = some p) : joined (L.take (k + 1)) = joined (L.take k) ++ p.2 := by
  rw [List.take_add_one, hk]; simp [joined]
theorem joined_len (L : List (Sl × List Value)) : (joined L).length = total L := by
  induction L with
  | nil => rfl
  | cons a L ih => simp only [joined, List.flatMap_cons, List.length_append, total] at *; rw [ih]
theorem Ones.joined {L : List (Sl × List Value)} (h : ∀ p, p ∈ L → Ones p.2) : Ones (Go.TS.joined L) := by
  intro v hv
  obtain ⟨p, hp, hv⟩ := List.mem_flatMap.1 hv
  exact h p hp v hv

theorem concat_any {t : TypeId} {z : Value} {bytes : Nat} {s : Sl} {h : Mem} {K : Sl → Mem → Prop} {L : List (Sl × List Value)} {G : Int → Mem → (Sl → Mem → Prop) → Prop}
    (hG : ∀ (n : Nat) (h : Mem) (K : Sl → Mem → Prop), n ≤ 2 ^ 37 → (∀ r h', Vec h' r [] → New h r → Ext h h' → K r h') → G n h K)
    (q : Lists h s L) (ho : ∀ p, p ∈ L → Ones p.2) (hl : L.length ≤ 2 ^ 40) (ht : total L ≤ 2 ^ 37) (hbytes : bytes ≤ 8)
    (hK : ∀ r h', Vec h' r (joined L) → New h r → Ext h h' → K r h') :
    LoopP (σ := Int × Int) (fun nx1 l1 h =>
      ifB (decide (l1.2 < (s.len : Int))) (
        ixS s l1.2 1 fun a3 => ld (.sl) a3 h fun s4 =>
        ifB (decide ((IntKind.i64.wrap (l1.1 + (s4.len : Int))) < 0)) (False) (nx1 ((IntKind.i64.wrap (l1.1 + (s4.len : Int))), (IntKind.i64.wrap (l1.2 + 1))) h))
      (G l1.1 h fun s5 h =>
        LoopP (σ := Sl × Int) (fun nx2 l2 h =>
          ifB (decide (l2.2 < (s.len : Int))) (
            ixS s l2.2 1 fun a6 => ld (.sl) a6 h fun s7 => app t #[z] 1 bytes l2.1 s7 h fun s8 h => nx2 (s8, (IntKind.i64.wrap (l2.2 + 1))) h)
          (K l2.1 h)) (s5, 0) h)) (0, 0) h := by
  have hlen : s.len = L.length := by rw [q.1.1]; simp
  refine loop_ct (fun l h' => h' = h ∧ ∃ k : Nat, l.2 = k ∧ k ≤ L.length ∧ l.1 = total (L.take k)) (fun l _ => (L.length - l.2).toNat) ⟨rfl, 0, rfl, by omega, by simp [total]⟩ ?_
  rintro ⟨l1, l2⟩ h1 ⟨hh, k, rfl, hk, rfl⟩
  subst hh
  dsimp only
  refine ifB_c (fun hc => ?_) (fun hc => ?_)
  · have hkl : k < L.length := by simp [hlen] at hc; omega
    have hget : L[k]? = some L[k] := by simp [hkl]
    refine ixld_ct (k := .sl) q.1 (by omega) L[k].1 (by simp [hkl, Kind.enc]) ?_
    have htk := total_take_succ _ hget
    have htl := total_take_le L (k + 1)
    have hp : (L[k].1).len = L[k].2.length := (q.2 _ (List.getElem_mem hkl)).1
    rw [hp, w64 (by omega) (by omega), w64 (by omega) (by omega)]
    refine ifB_f (by simp; omega) ⟨⟨rfl, k + 1, by omega, by omega, by omega⟩, by omega⟩
  · have hkl : k = L.length := by simp [hlen] at hc; omega
    subst hkl
    rw [List.take_length]
    refine hG _ _ _ ht fun r h2 hr hn hE => ?_
    refine loop_ct (fun l h' => ∃ k : Nat, l.2 = k ∧ k ≤ L.length ∧ Vec h' l.1 (joined (L.take k)) ∧ New h1 l.1 ∧ Ext h1 h') (fun l _ => (L.length - l.2).toNat) ⟨0, rfl, by omega, by simpa [joined] using hr, hn, hE⟩ ?_
    rintro ⟨l1, l2⟩ h3 ⟨k, rfl, hk, hv, hnw, hx⟩
    dsimp only at hv hnw ⊢
    refine ifB_c (fun hc => ?_) (fun hc => ?_)
    · have hkl : k < L.length := by simp [hlen] at hc; omega
      have hget : L[k]? = some L[k] := by simp [hkl]
      have hjk := joined_take_succ _ hget
      have htk := total_take_succ _ hget
      have htl := total_take_le L (k + 1)
      refine ixld_ct (k := .sl) (q.1.gete hx) (by omega) L[k].1 (by simp [hkl, Kind.enc]) ?_
      have hsum : (joined (L.take k)).length + L[k].2.length ≤ 2 ^ 37 := by rw [joined_len]; omega
      refine app_ct hv ((q.2 _ (List.getElem_mem hkl)).gete hx) (ho _ (List.getElem_mem hkl)) (Nat.le_trans (Nat.mul_le_mul hsum hbytes) (by omega)) (by omega) fun r' h4 hr' hu hat => ?_
      rw [w64 (by omega) (by omega)]
      refine ⟨⟨k + 1, by omega, by omega, by rw [hjk]; exact hr', ?_, Upd.above hx hu hnw⟩, by omega⟩
      intro b hb
      rcases hat b hb with h | h
      · exact hnw b h
      · exact Nat.le_trans hx.sz h
    · have hkl : k = L.length := by simp [hlen] at hc; omega
      subst hkl
      rw [List.take_length] at hv
      exact hK _ _ hv hnw hx
theorem concat_byte_ct {τ : Nat → Nat} {s : Sl} {h : Mem} {K : Sl → Mem → Prop} {L : List (Sl × List Value)} (q : Lists h s L) (ho : ∀ p, p ∈ L → Ones p.2) (hl : L.length ≤ 2 ^ 40) (ht : total L ≤ 2 ^ 37)
    (hK : ∀ r h', Vec h' r (joined L) → New h r → Ext h h' → K r h') : slices_Concat_byte_byte τ s h K :=
  concat_any (G := fun n h K => slices_Grow_byte_byte τ ⟨none, 0, 0⟩ n h K) (fun n h K hn hk => grow_byte_ct (by omega) (by omega) hk) q ho hl ht (by omega) hK
theorem concat_int_ct {τ : Nat → Nat} {s : Sl} {h : Mem} {K : Sl → Mem → Prop} {L : List (Sl × List Value)} (q : Lists h s L) (ho : ∀ p, p ∈ L → Ones p.2) (hl : L.length ≤ 2 ^ 40) (ht : total L ≤ 2 ^ 37)
    (hK : ∀ r h', Vec h' r (joined L) → New h r → Ext h h' → K r h') : slices_Concat_int_int τ s h K :=
  concat_any (G := fun n h K => slices_Grow_int_int τ ⟨none, 0, 0⟩ n h K) (fun n h K hn hk => grow_int_ct (by omega) (by omega) hk) q ho hl ht (by omega) hK
end Go.TS
/- Contracts: octet's writers. -/
namespace Go.TS
open Go
set_option linter.unusedVariables false

theorem holds_new {h : Mem} {b : Nat} {cs : List Value} {e : TypeId} {fr : Nat × Nat} (c : Nat) (hb : h[b]? = some (.cells cs.toArray e fr)) : Holds h ⟨some ⟨b, 0, none⟩, cs.length, c⟩ cs := by
  refine ⟨rfl, rfl, fun i v hv => ?_⟩
  rw [add_n, Nat.zero_add]
  simp only [rd, hb]
  simpa using hv
theorem vec_new {h : Mem} {b : Nat} {cs : List Value} {e : TypeId} (hb : h[b]? = some (.cells cs.toArray e (0, 0))) : Vec h ⟨some ⟨b, 0, none⟩, cs.length, cs.length⟩ cs :=
  .inr ⟨b, [], rfl, e, by simpa using hb⟩
theorem at_lit {b i l c k : Nat} (h : At ⟨some ⟨b, i, none⟩, l, c⟩ k) : k = b := by
  obtain ⟨a, ha, rfl⟩ := h
  simp only [Option.some.injEq] at ha; subst ha; rfl

/-- the number without its lowest octets -/
def sh (n : Int) : Nat → Int
  | 0 => n
  | k + 1 => (sh n k).fdiv (2 ^ 8)
/-- the lowest octets first -/
def leB (k : Nat) (n : Int) : List Int := (List.range k).map fun i => IntKind.u8.wrap (sh n i)
theorem leB_succ (k : Nat) (n : Int) : leB (k + 1) n = leB k n ++ [IntKind.u8.wrap (sh n k)] := by simp [leB, List.range_succ]
theorem leB_len (k : Nat) (n : Int) : (leB k n).length = k := by simp [leB]
abbrev By (l : List Int) : List Value := encL (.int .u8) l
abbrev Is (l : List Int) : List Value := encL (.int .i64) l
theorem By_app (a b : List Int) : By (a ++ b) = By a ++ By b := List.map_append
theorem By_len (a : List Int) : (By a).length = a.length := by simp [encL]
theorem By_ones (a : List Int) : Ones (By a) := ones_enc _ _ (by simp)
theorem Is_ones (a : List Int) : Ones (Is a) := ones_enc _ _ (by simp)
theorem Is_len (a : List Int) : (Is a).length = a.length := by simp [encL]
theorem Is_app (a b : List Int) : Is (a ++ b) = Is a ++ Is b := List.map_append

theorem word_ct {τ : Nat → Nat} {s : Sl} {n m : Int} {h : Mem} {K : Sl → Mem → Prop} {xs : List Value} (hm : m = 2 ∨ m = 4 ∨ m = 8) (q : Holds h s xs) (ho : Ones xs) (hl : xs.length ≤ 2 ^ 36)
    (hK : ∀ r h', Vec h' r (xs ++ By (leB m.toNat n)) → New h r → Ext h h' → K r h') : octet_Word τ s n m h K := by
  have key : LoopP (σ := Int × Sl × Int) (fun nx1 l1 h =>
    ifB (decide (l1.2.2 < m)) (
      al (.cells #[(Value.int .u8 (IntKind.u8.wrap l1.1))] (τ 0)) h fun q7 h =>
      app (τ 0) #[(Value.int .u8 0)] 1 1 l1.2.1 (⟨(some (⟨q7, 0, none⟩ : Addr)), 1, 1⟩ : Sl) h fun s8 h =>
      nx1 ((l1.1.fdiv (2 ^ 8)), s8, (IntKind.i64.wrap (l1.2.2 + 1))) h)
    (al (.cells #[(Value.slice s.base s.len s.cap), (Value.slice l1.2.1.base l1.2.1.len l1.2.1.cap)] (τ 6)) h fun q9 h =>
      slices_Concat_byte_byte τ (⟨(some (⟨q9, 0, none⟩ : Addr)), 2, 2⟩ : Sl) h fun s10 h => K s10 h)) (n, (⟨none, 0, 0⟩ : Sl), 0) h := by
    refine loop_ct (fun l h' => ∃ k : Nat, l.2.2 = k ∧ k ≤ m.toNat ∧ l.1 = sh n k ∧ Vec h' l.2.1 (By (leB k n)) ∧ New h l.2.1 ∧ Ext h h') (fun l _ => (m - l.2.2).toNat)
      ⟨0, rfl, by omega, rfl, vec_nil h, new_nil h, Upd.refl _ _⟩ ?_
    rintro ⟨l1, l2, l3⟩ h1 ⟨k, rfl, hk, rfl, hv, hn, hE⟩
    dsimp only at hv hn ⊢
    refine ifB_c (fun hc => ?_) (fun hc => ?_)
    · have hkm : k < m.toNat := by simp at hc; omega
      refine al_ct fun h2 hb2 hE2 hs2 => ?_
      refine app_ct (hv.gete hE2) (holds_new 1 hb2) (by intro v hv; simp at hv; subst hv; rfl) (by simp [By_len, leB_len]; omega) (by simp [By_len, leB_len]; omega) fun r h3 hr hu hat => ?_
      rw [w64 (by omega) (by omega)]
      have hE13 : Ext h h3 := Upd.above (hE.ext hE2) hu hn
      refine ⟨⟨k + 1, by omega, by omega, rfl, by rw [leB_succ, By_app]; exact hr, ?_, hE13⟩, by omega⟩
      intro b hb
      rcases hat b hb with hb | hb
      · exact hn b hb
      · have := hE.sz; have := hE2.sz; omega
    · have hkm : k = m.toNat := by simp at hc; omega
      subst hkm
      refine al_ct fun h2 hb2 hE2 hs2 => ?_
      refine concat_byte_ct (L := [(s, xs), (l2, By (leB m.toNat n))]) ⟨holds_new 2 hb2, ?_⟩ ?_ (by simp) ?_ fun r h3 hr hnr hE3 => ?_
      · intro p hp
        simp only [List.mem_cons, List.not_mem_nil, or_false] at hp
        rcases hp with rfl | rfl
        · exact q.gete (hE.ext hE2)
        · exact hv.holds.gete hE2
      · intro p hp
        simp only [List.mem_cons, List.not_mem_nil, or_false] at hp
        rcases hp with rfl | rfl
        · exact ho
        · exact By_ones _
      · simp only [total, By_len, leB_len]; omega
      · refine hK r h3 ?_ (hnr.mono ((hE.ext hE2).sz)) ((hE.ext hE2).ext hE3)
        simpa [joined] using hr
  unfold octet_Word
  dsimp only
  rcases hm with rfl | rfl | rfl
  · exact ifB_t rfl (ifB_t rfl key)
  · exact ifB_f rfl (ifB_t rfl (ifB_t rfl key))
  · exact ifB_f rfl (ifB_f rfl (ifB_t rfl key))

/-- a number's octets, seven bits each -/
def numB : Nat → Int → List Int
  | 0, n => [IntKind.u8.wrap n]
  | f + 1, n => if n ≥ 128 then bits .or .u8 (IntKind.u8.wrap n) 128 :: numB f (n.fdiv (2 ^ 7)) else [IntKind.u8.wrap n]
theorem numB_len (f : Nat) : ∀ n, (numB f n).length ≤ f + 1 := by
  induction f with
  | zero => intro n; simp [numB]
  | succ f ih => intro n; simp only [numB]; split <;> simp; exact ih _
theorem number_ct {τ : Nat → Nat} {s : Sl} {n : Int} {h : Mem} {K : Sl → Mem → Prop} {xs : List Value} (h0 : 0 ≤ n) (h1 : n < 18446744073709551616) (q : Holds h s xs) (ho : Ones xs) (hl : xs.length ≤ 2 ^ 36)
    (hK : ∀ r h', Vec h' r (xs ++ By (numB 9 n)) → New h r → Ext h h' → K r h') : octet_Number τ s n h K := by
  refine clone_byte_ct q ho (by omega) fun r0 hh0 hv0 hn0 hE0 _ => ?_
  refine loop_ct (fun l h' => ∃ (k : Nat) (d : List Int), d.length + k = 9 ∧ 0 ≤ l.2 ∧ l.2 < 2 * 128 ^ k ∧ numB 9 n = d ++ numB k l.2 ∧ Vec h' l.1 (xs ++ By d) ∧ New h l.1 ∧ Ext h h') (fun l _ => l.2.toNat)
    ⟨9, [], rfl, h0, by dsimp only; omega, rfl, by simpa [encL] using hv0, hn0, hE0⟩ ?_
  rintro ⟨l1, l2⟩ h2 ⟨k, d, hdk, hl0, hlt, heq, hv, hn, hE⟩
  dsimp only at hl0 hlt heq hv hn ⊢
  have hf : l2.fdiv (2 ^ 7) = l2 / 128 := by rw [Int.fdiv_eq_ediv_of_nonneg]; rfl; omega
  refine ifB_c (fun hc => ?_) (fun hc => ?_)
  · have hc' : l2 ≥ 128 := by simpa using hc
    cases k with
    | zero => simp at hlt; omega
    | succ k =>
      refine al_ct fun h3 hb3 hE3 hs3 => ?_
      refine app_ct (hv.gete hE3) (holds_new 1 hb3) (by intro v hv; simp at hv; subst hv; rfl) (by simp [By_len]; omega) (by simp [By_len]; omega) fun r h4 hr hu hat => ?_
      refine ⟨⟨k, d ++ [bits .or .u8 (IntKind.u8.wrap l2) 128], by simp; omega, by rw [hf]; omega, ?_, ?_, ?_, ?_, Upd.above (hE.ext hE3) hu hn⟩, by rw [hf]; omega⟩
      · rw [hf]; rw [Int.pow_succ] at hlt; omega
      · rw [heq]; simp only [numB, if_pos hc', List.append_assoc, List.cons_append, List.nil_append]
      · rw [By_app, ← List.append_assoc]; exact hr
      · intro b hb
        rcases hat b hb with hb | hb
        · exact hn b hb
        · have := hE.sz; have := hE3.sz; omega
  · have hc' : ¬ l2 ≥ 128 := by simpa using hc
    refine al_ct fun h3 hb3 hE3 hs3 => ?_
    refine app_ct (hv.gete hE3) (holds_new 1 hb3) (by intro v hv; simp at hv; subst hv; rfl) (by simp [By_len]; omega) (by simp [By_len]; omega) fun r h4 hr hu hat => ?_
    refine hK r h4 ?_ ?_ (Upd.above (hE.ext hE3) hu hn)
    · have : numB k l2 = [IntKind.u8.wrap l2] := by cases k <;> simp [numB, hc']
      rw [heq, this, By_app, ← List.append_assoc]; exact hr
    · intro b hb
      rcases hat b hb with hb | hb
      · exact hn b hb
      · have := hE.sz; have := hE3.sz; omega
end Go.TS
/- Contracts: crc. -/
namespace Go.TS
open Go
set_option linter.unusedVariables false

theorem bits_u8 (op : BinOp) (a b : Int) : 0 ≤ bits op .u8 a b ∧ bits op .u8 a b < 256 := by unfold bits; rw [IntKind.wrap_u8]; omega
theorem bits_u32 (op : BinOp) (a b : Int) : 0 ≤ bits op .u32 a b ∧ bits op .u32 a b < 4294967296 := by unfold bits; rw [IntKind.wrap_u32]; omega

/-- one round of the table -/
def crcT1 (w : Int) : Int := if (bits .and .u32 w 1 == 1) = true then bits .xor .u32 (w.fdiv (2 ^ 1)) 2197175160 else w.fdiv (2 ^ 1)
def crcW : Nat → Int → Int
  | 0, w => w
  | k + 1, w => crcT1 (crcW k w)
def crcTab : List Int := (List.range 256).map fun i => crcW 8 (IntKind.u32.wrap (i : Nat))
theorem crcTab_len : crcTab.length = 256 := by simp [crcTab]
theorem crcTab_get {k : Nat} (hk : k < 256) : crcTab[k]? = some (crcW 8 (IntKind.u32.wrap k)) := by simp [crcTab, hk]
abbrev crcArr : Array Value := (encL (.int .u32) crcTab).toArray

theorem ixA_ct {b n : Nat} {i : Int} {K : Addr → Prop} (h0 : 0 ≤ i) (hn : i < n) (hK : K ⟨b, i.toNat, none⟩) : ixA ⟨b, 0, none⟩ n i 1 K := by
  refine ⟨h0, hn, ?_⟩; rw [add_n, Nat.zero_add, Nat.mul_one]; exact hK
theorem ldA_ct {b n : Nat} {h : Mem} {K : Array Value → Prop} {cs : List Value} (p : Blk h b cs) (hn : cs.length = n) (hK : K cs.toArray) : ldA n ⟨b, 0, none⟩ h K :=
  ⟨cs.toArray, by simpa using hn, fun i v hv => by rw [add_n, Nat.zero_add, p.rd]; simpa using hv, hK⟩
theorem stA_ct {b : Nat} {h : Mem} {K : Mem → Prop} {cs vs : List Value} (p : Blk h b cs) (hn : vs.length = cs.length) (ho : Ones vs) (hK : ∀ h', Blk h' b vs → Upd (· = b) h h' → h'.size = h.size → K h') : stA vs ⟨b, 0, none⟩ h K := by
  obtain ⟨h1, h2, h3⟩ := wrs_blk (o := 0) vs 0 p (by omega)
  refine ⟨room_blk p (by omega), ho, hK _ ?_ h2 h3⟩
  have : over cs (0 + 0) vs = vs := by simp [over, hn]
  rw [this] at h1; exact h1

theorem rep_arr (n : Nat) (z : Value) : Array.replicate n z = (List.replicate n z).toArray := (List.toArray_replicate ..).symm
set_option maxRecDepth 20000 in
theorem table_crc_ct {τ : Nat → Nat} {h : Mem} {K : Array Value → Mem → Prop} (hK : ∀ h', Ext h h' → K crcArr h') : crc_Table τ h K := by
  refine al_ct fun h1 hb1 hE1 hs1 => ?_
  rw [rep_arr] at hb1
  obtain ⟨N, hN⟩ : ∃ N : Nat, N = 256 := ⟨_, rfl⟩
  have hblk0 : Blk h1 h.size (List.replicate (N - 0) (.int .u32 0)) := ⟨τ 9, by rw [hN]; exact hb1⟩
  refine loop_ct (fun l h' => ∃ k : Nat, l = k ∧ k ≤ 256 ∧ Blk h' h.size (encL (.int .u32) (crcTab.take k) ++ List.replicate (N - k) (.int .u32 0)) ∧ Ext h h') (fun l _ => (256 - l).toNat)
    ⟨0, rfl, by omega, by rw [List.take_zero]; exact hblk0, hE1⟩ ?_
  rintro l h2 ⟨k, rfl, hk, hb, hE⟩
  refine ifB_c (fun hc => ?_) (fun hc => ?_)
  · have hk' : k < 256 := by simp at hc; omega
    refine loop_ct (fun l h' => h' = h2 ∧ ∃ j : Nat, l.2 = j ∧ j ≤ 8 ∧ l.1 = crcW j (IntKind.u32.wrap k)) (fun l _ => (8 - l.2).toNat) ⟨rfl, 0, rfl, by omega, rfl⟩ ?_
    rintro ⟨w, j'⟩ h3 ⟨hh, j, rfl, hj, rfl⟩
    subst hh
    dsimp only
    refine ifB_c (fun hc => ?_) (fun hc => ?_)
    · have hj8 : j < 8 := by simp at hc; omega
      rw [w64 (by omega) (by omega)]
      refine ifB_c (fun hc => ?_) (fun hc => ?_)
      · exact ⟨⟨rfl, j + 1, by omega, by omega, by simp only [crcW, crcT1]; rw [if_pos hc]⟩, by omega⟩
      · exact ⟨⟨rfl, j + 1, by omega, by omega, by simp only [crcW, crcT1]; rw [if_neg (by rw [hc]; simp)]⟩, by omega⟩
    · have hj8 : j = 8 := by simp at hc; omega
      subst hj8
      refine ixA_ct (by omega) (by omega) ?_
      refine st_ct hb (by simp [encL, crcTab_len]; omega) fun h4 hb4 hu4 hs4 => ?_
      rw [w64 (by omega) (by omega)]
      refine ⟨⟨k + 1, by omega, by omega, ?_, hE.trans hu4 (fun b hb' hbb => by omega)⟩, by omega⟩
      have : (encL (.int .u32) (crcTab.take k) ++ List.replicate (N - k) (Value.int .u32 0)).set (k : Int).toNat (Value.int .u32 (crcW 8 (IntKind.u32.wrap k))) = encL (.int .u32) (crcTab.take (k + 1)) ++ List.replicate (N - (k + 1)) (.int .u32 0) := by
        rw [List.take_add_one, crcTab_get hk']
        have hl : (encL (.int .u32) (crcTab.take k)).length = k := by simp [encL, crcTab_len]; omega
        rw [List.set_append_right _ _ (by rw [hl]; simp), hl, show N - k = (N - (k + 1)) + 1 by omega, List.replicate_succ]
        simp [encL, Kind.enc]
      rw [this] at hb4; exact hb4
  · have hk' : k = 256 := by simp at hc; omega
    subst hk'
    have hb' : Blk h2 h.size (encL (.int .u32) crcTab) := by
      have : crcTab.take 256 = crcTab := List.take_of_length_le (by rw [crcTab_len]; exact Nat.le_refl _)
      rw [this, hN] at hb; simpa using hb
    have hlen : (encL (.int .u32) crcTab).length = 256 := by simp [encL, crcTab_len]
    refine ldA_ct hb' hlen ⟨by simpa using hlen, ?_⟩
    refine stA_ct hb' rfl (ones_enc _ _ (by simp)) fun h3 hb3 hu3 hs3 => ?_
    refine ldA_ct hb3 hlen (hK h3 (hE.trans hu3 (fun b hb' hbb => by omega)))

def crcStep (T : List Int) (s b : Int) : Int := bits .xor .u32 (T.getD (bits .xor .u8 (IntKind.u8.wrap s) b).toNat 0) (s.fdiv (2 ^ 8))
def crcOn (T : List Int) (n : Int) (bs : List Int) : Int := bits .xor .u32 4294967295 (bs.foldl (crcStep T) (bits .xor .u32 4294967295 n))
def crcAll (T : List Int) (L : List (List Int)) : Int := L.foldl (crcOn T) 0
theorem on1_ct {τ : Nat → Nat} {T : List Int} {n : Int} {s : Sl} {h : Mem} {K : Int → Mem → Prop} {bs : List Int} (hT : T.length = 256) (q : Holds h s (By bs)) (hl : bs.length ≤ 2 ^ 40)
    (hK : ∀ h', Ext h h' → K (crcOn T n bs) h') : crc_On τ (encL (.int .u32) T).toArray n s h K := by
  refine al_ct fun h1 hb1 hE1 hs1 => ?_
  have hblk : Blk h1 h.size (encL (.int .u32) T) := ⟨τ 9, hb1⟩
  have hlen : s.len = bs.length := by rw [q.1, By_len]
  refine loop_ct (fun l h' => h' = h1 ∧ ∃ k : Nat, l.2 = k ∧ k ≤ bs.length ∧ l.1 = (bs.take k).foldl (crcStep T) (bits .xor .u32 4294967295 n)) (fun l _ => (bs.length - l.2).toNat) ⟨rfl, 0, rfl, by omega, rfl⟩ ?_
  rintro ⟨st, k'⟩ h2 ⟨hh, k, rfl, hk, rfl⟩
  subst hh
  dsimp only
  refine ifB_c (fun hc => ?_) (fun hc => ?_)
  · have hkl : k < bs.length := by simp [hlen] at hc; omega
    refine ixld_ct (k := .int .u8) (q.gete hE1) (by omega) bs[k] (by simp [encL, hkl, Kind.enc]) ?_
    have hr := bits_u8 .xor (IntKind.u8.wrap ((bs.take k).foldl (crcStep T) (bits .xor .u32 4294967295 n))) bs[k]
    refine ixA_ct hr.1 (by omega) ?_
    refine ld_ct (k := .int .u32) (T.getD (bits .xor .u8 (IntKind.u8.wrap ((bs.take k).foldl (crcStep T) (bits .xor .u32 4294967295 n))) bs[k]).toNat 0) ?_ ?_
    · rw [hblk.rd]
      simp only [encL, List.getElem?_map]
      rw [List.getD_eq_getElem?_getD, List.getElem?_eq_getElem (by omega)]
      rfl
    · rw [w64 (by omega) (by omega)]
      refine ⟨⟨rfl, k + 1, by omega, by omega, ?_⟩, by omega⟩
      rw [List.take_add_one, List.getElem?_eq_getElem hkl]
      simp only [Option.toList_some, List.foldl_append, List.foldl_cons, List.foldl_nil]
      rfl
  · have hkl : k = bs.length := by simp [hlen] at hc; omega
    subst hkl
    rw [List.take_length]
    exact hK _ hE1

def Bl (L : List (Sl × List Int)) : List (Sl × List Value) := L.map fun p => (p.1, By p.2)
theorem on_ct {τ : Nat → Nat} {T : List Int} {s : Sl} {h : Mem} {K : Int → Mem → Prop} {L : List (Sl × List Int)} (hT : T.length = 256) (q : Lists h s (Bl L)) (hl : L.length ≤ 2 ^ 40) (hl2 : ∀ p, p ∈ L → p.2.length ≤ 2 ^ 40)
    (hK : ∀ h', Ext h h' → K (crcAll T (L.map (·.2))) h') : crc_on τ (encL (.int .u32) T).toArray s h K := by
  refine al_ct fun h1 hb1 hE1 hs1 => ?_
  have hblk : Blk h1 h.size (encL (.int .u32) T) := ⟨τ 9, hb1⟩
  have hlen : s.len = L.length := by rw [q.1.1]; simp [Bl]
  refine loop_ct (fun l h' => Ext h1 h' ∧ ∃ k : Nat, l.2 = k ∧ k ≤ L.length ∧ l.1 = crcAll T ((L.map (·.2)).take k)) (fun l _ => (L.length - l.2).toNat) ⟨Upd.refl _ _, 0, rfl, by omega, rfl⟩ ?_
  rintro ⟨st, k'⟩ h2 ⟨hE2, k, rfl, hk, rfl⟩
  dsimp only
  refine ifB_c (fun hc => ?_) (fun hc => ?_)
  · have hkl : k < L.length := by simp [hlen] at hc; omega
    refine ixld_ct (k := .sl) (q.1.gete (hE1.ext hE2)) (by omega) L[k].1 (by simp [Bl, hkl, Kind.enc]) ?_
    refine ldA_ct (hblk.gete hE2) (by simp [encL, hT]) ?_
    have hmem : (L[k].1, By L[k].2) ∈ Bl L := List.mem_map.2 ⟨L[k], List.getElem_mem hkl, rfl⟩
    refine on1_ct hT ((q.2 _ hmem).gete (hE1.ext hE2)) (hl2 _ (List.getElem_mem hkl)) fun h3 hE3 => ?_
    rw [w64 (by omega) (by omega)]
    refine ⟨⟨hE2.ext hE3, k + 1, by omega, by omega, ?_⟩, by omega⟩
    rw [List.take_add_one, List.getElem?_map, List.getElem?_eq_getElem hkl]
    simp only [Option.map_some, Option.toList_some, crcAll, List.foldl_append, List.foldl_cons, List.foldl_nil]
  · have hkl : k = L.length := by simp [hlen] at hc; omega
    subst hkl
    rw [List.take_of_length_le (by simp)]
    exact hK _ (hE1.ext hE2)
/-- the check sum of pieces -/
def crcSum (L : List (List Int)) : Int := crcAll crcTab L
theorem parts_ct {τ : Nat → Nat} {s : Sl} {h : Mem} {K : Int → Mem → Prop} {L : List (Sl × List Int)} (q : Lists h s (Bl L)) (hl : L.length ≤ 2 ^ 40) (hl2 : ∀ p, p ∈ L → p.2.length ≤ 2 ^ 40)
    (hK : ∀ h', Ext h h' → K (crcSum (L.map (·.2))) h') : crc_Parts τ s h K := by
  refine table_crc_ct fun h1 hE1 => ?_
  exact on_ct crcTab_len (q.gete hE1) hl hl2 fun h2 hE2 => hK h2 (hE1.ext hE2)
end Go.TS
