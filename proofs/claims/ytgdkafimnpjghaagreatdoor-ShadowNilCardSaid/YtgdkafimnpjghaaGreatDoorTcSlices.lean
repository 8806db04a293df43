/- Contracts: copies of slices, joined slices. -/
import Derived.Test.YtgdkafimnpjghaaGreatDoorTcBase
import Derived.Test.YtgdkafimnpjghaaGreatDoorTsExt
namespace Go.TS
open Go
set_option linter.unusedVariables false

theorem w64 {x : Int} (h : -9223372036854775808 ≤ x) (h' : x < 9223372036854775808) : IntKind.i64.wrap x = x := by rw [IntKind.wrap_i64]; omega
theorem loop_ct {σ : Type} {body : (σ → Mem → Prop) → σ → Mem → Prop} {s : σ} {h : Mem} (I : σ → Mem → Prop) (μ : σ → Mem → Nat) (h0 : I s h)
    (hb : ∀ s h, I s h → body (fun s' h' => I s' h' ∧ μ s' h' < μ s h) s h) : LoopP body s h := ⟨I, μ, h0, hb⟩
theorem ifB_t {c : Bool} {A B : Prop} (hc : c = true) (hA : A) : ifB c A B := by subst hc; exact hA
theorem ifB_f {c : Bool} {A B : Prop} (hc : c = false) (hB : B) : ifB c A B := by subst hc; exact hB
theorem ifB_c {c : Bool} {A B : Prop} (hA : c = true → A) (hB : c = false → B) : ifB c A B := by cases c; exact hB rfl; exact hA rfl

/-- values of one cell -/
def Ones (xs : List Value) : Prop := ∀ v, v ∈ xs → oneC v = true
theorem ones_enc (k : Kind) (l : List k.ty) (hk : k ≠ .any) : Ones (encL k l) := by
  intro v hv
  obtain ⟨x, _, rfl⟩ := List.mem_map.1 hv
  cases k <;> first | rfl | exact absurd rfl hk
theorem Ones.app {xs ys : List Value} (a : Ones xs) (b : Ones ys) : Ones (xs ++ ys) := fun v hv => (List.mem_append.1 hv).elim (a v) (b v)
theorem ones_nil : Ones [] := fun v hv => by cases hv

theorem clone_any {t : TypeId} {z : Value} {bytes : Nat} {s : Sl} {h : Mem} {K : Sl → Mem → Prop} {xs : List Value} (q : Holds h s xs) (ho : Ones xs) (hl : xs.length ≤ 2 ^ 40) (hb : xs.length * bytes ≤ 2 ^ 40)
    (hK : ∀ r h', Vec h' r xs → New h r → Ext h h' → (s.base = none → r.base = none) → K r h') :
    ifB (s.base.isNone) (K ⟨none, 0, 0⟩ h) (al (.cells #[] t) h fun q3 h => app t #[z] 1 bytes (⟨(some (⟨q3, 0, none⟩ : Addr)), 0, 0⟩ : Sl) s h fun s4 h => K s4 h) := by
  refine ifB_c (fun hc => ?_) (fun hc => ?_)
  · have hn : s.base = none := by simpa using hc
    have hx : xs = [] := by have := q.2; unfold slCells at this; rw [hn] at this; exact this
    subst hx
    exact hK _ _ (vec_nil h) (new_nil h) (Upd.refl _ _) (fun _ => rfl)
  · refine al_ct fun h1 hb1 hE hs => ?_
    have hv : Vec h1 ⟨some ⟨h.size, 0, none⟩, 0, 0⟩ [] := .inr ⟨h.size, [], rfl, t, hb1⟩
    refine app_ct hv (q.gete hE) ho (by simpa using hb) (by simpa using hl) fun r h' hr hu hn => ?_
    refine hK r h' hr ?_ (Upd.above hE hu ?_) (fun hn => by rw [hn] at hc; cases hc)
    · intro b hb
      rcases hn b hb with ⟨a, ha, rfl⟩ | hle
      · simp only [Option.some.injEq] at ha; subst ha; exact Nat.le_refl _
      · omega
    · rintro b ⟨a, ha, rfl⟩
      simp only [Option.some.injEq] at ha; subst ha; exact Nat.le_refl _
theorem clone_byte_ct {τ : Nat → Nat} {s : Sl} {h : Mem} {K : Sl → Mem → Prop} {xs : List Value} (q : Holds h s xs) (ho : Ones xs) (hl : xs.length ≤ 2 ^ 40)
    (hK : ∀ r h', Vec h' r xs → New h r → Ext h h' → (s.base = none → r.base = none) → K r h') : slices_Clone_byte_byte τ s h K :=
  clone_any q ho hl (by omega) hK
theorem clone_int_ct {τ : Nat → Nat} {s : Sl} {h : Mem} {K : Sl → Mem → Prop} {xs : List Value} (q : Holds h s xs) (ho : Ones xs) (hl : xs.length ≤ 2 ^ 37)
    (hK : ∀ r h', Vec h' r xs → New h r → Ext h h' → (s.base = none → r.base = none) → K r h') : slices_Clone_int_int τ s h K :=
  clone_any q ho (by omega) (by omega) hK

theorem zeroCells_eq (z : Value) (n : Nat) : (Builtin.zeroCells #[z] n).toList = List.replicate n z := by
  apply List.ext_getElem?
  intro i
  simp only [Builtin.zeroCells, List.size_toArray, List.length_cons, List.length_nil, Nat.zero_add, Nat.mul_one, Array.toList_map, Array.toList_range, List.getElem?_map, List.getElem?_range, List.getElem?_replicate, Nat.mod_one]
  by_cases h : i < n
  · simp [List.getElem?_range h, h]
  · simp [h]
theorem app0_ct {t : TypeId} {z : Value} {bytes : Nat} {s : Sl} {n : Int} {h : Mem} {K : Sl → Mem → Prop} {xs : List Value} (p : Vec h s xs) (hz : oneC z = true) (hn : 0 ≤ n)
    (hb : (xs.length + n.toNat) * bytes ≤ 2 ^ 40) (hb1 : xs.length + n.toNat ≤ 2 ^ 40)
    (hK : ∀ s' h', Vec h' s' (xs ++ List.replicate n.toNat z) → Upd (At s) h h' → (∀ b, At s' b → At s b ∨ h.size ≤ b) → K s' h') : app0 t #[z] 1 bytes s n h K := by
  have hones : one (Builtin.zeroCells #[z] n.toNat).toList := by
    rw [zeroCells_eq]; intro v hv; rw [List.eq_of_mem_replicate hv]; exact hz
  have hlen : s.len = xs.length := p.len
  have hbb : n.toNat * bytes ≤ 2 ^ 40 := Nat.le_trans (Nat.mul_le_mul_right _ (by omega)) hb
  refine ⟨hn, hbb, by omega, hones, Nat.one_pos, ?_, ?_⟩
  · intro hroom
    rcases p with ⟨rfl, rfl⟩ | ⟨b, js, rfl, hbk⟩
    · simp only [Nat.zero_add, Nat.le_zero_eq] at hroom
      simp only [hroom, Nat.zero_add]
      refine hK _ _ ?_ (Upd.refl _ _) (fun b hb => .inl hb)
      simp only [hroom, List.replicate_zero, List.append_nil]; exact vec_nil h
    · simp only at hroom ⊢
      simp only [add_n, Nat.zero_add, Nat.mul_one]
      have hsz : (Builtin.zeroCells #[z] n.toNat).size = n.toNat := by rw [← Array.length_toList, zeroCells_len]
      rw [hsz, zeroCells_eq]
      have hl : xs.length + n.toNat ≤ (xs ++ js).length := by simp; omega
      refine ⟨room_blk hbk hl, ?_⟩
      obtain ⟨h1, h2, h3⟩ := wrs_blk (o := xs.length) (List.replicate n.toNat z) 0 hbk (by simpa using hl)
      refine hK _ _ (.inr ⟨b, js.drop n.toNat, ?_, ?_⟩) (h2.mono ?_) ?_
      · simp; omega
      · have : over (xs ++ js) (xs.length + 0) (List.replicate n.toNat z) = xs ++ List.replicate n.toNat z ++ js.drop n.toNat := by simp [over, List.drop_append]
        rw [this] at h1; exact h1
      · rintro k _ rfl; exact ⟨_, rfl, rfl⟩
      · rintro k ⟨a, ha, rfl⟩
        exact .inl ⟨a, ha, rfl⟩
  · intro hgrow
    rw [hlen]
    refine ⟨hb1, hb, xs, ?_, ?_⟩
    · have := p.holds.2; rw [Nat.mul_one]; exact this
    · intro c hc
      refine hK ⟨some ⟨h.size, 0, none⟩, xs.length + n.toNat, c⟩ _ (.inr ⟨h.size, (Builtin.zeroCells #[z] (c - (xs.length + n.toNat))).toList, ?_, t, ?_⟩) ⟨by simp, fun b hb _ => ?_⟩ ?_
      · rw [zeroCells_len, List.length_append, List.length_replicate]
        congr 1; omega
      · rw [← zeroCells_eq]; simp
      · rw [Array.getElem?_push_lt hb]; simp [hb]
      · rintro k ⟨a, ha, rfl⟩
        simp only [Option.some.injEq] at ha
        subst ha; exact .inr (Nat.le_refl _)

theorem ix_ct {s : Sl} {i : Int} {h : Mem} {K : Addr → Prop} {xs : List Value} {v : Value} (q : Holds h s xs) (hi : 0 ≤ i) (hv : xs[i.toNat]? = some v) (hK : ∀ a, rd h a = some v → K a) : ixS s i 1 K := by
  have hlt : i.toNat < xs.length := (List.getElem?_eq_some_iff.1 hv).1
  have h2 := q.2
  unfold slCells at h2
  cases hb : s.base with
  | none => rw [hb] at h2; subst h2; simp at hlt
  | some a =>
    rw [hb] at h2
    refine ⟨a, hb, hi, by rw [q.1]; omega, hK _ ?_⟩
    rw [Nat.mul_one]; exact h2.2 _ _ hv
theorem ixld_ct {k : Kind} {s : Sl} {i : Int} {h : Mem} {K : k.ty → Prop} {xs : List Value} (q : Holds h s xs) (hi : 0 ≤ i) (x : k.ty) (hv : xs[i.toNat]? = some (k.enc x)) (hK : K x) : ixS s i 1 fun a => ld k a h K :=
  ix_ct q hi hv fun a ha => ⟨x, ha, hK⟩

theorem grow_any {t : TypeId} {z : Value} {bytes : Nat} {n : Int} {h : Mem} {K : Sl → Mem → Prop} (hz : oneC z = true) (hn : 0 ≤ n) (hb : n.toNat * bytes ≤ 2 ^ 40) (hb1 : n.toNat ≤ 2 ^ 40)
    (hK : ∀ r h', Vec h' r [] → New h r → Ext h h' → K r h') :
    ifB (decide (n < 0)) False (let J1 : Sl → Mem → Prop := (fun s7 h => K s7 h);
      ifB (decide ((IntKind.i64.wrap (n - (IntKind.i64.wrap (((0 : Nat) : Int) - ((0 : Nat) : Int))))) > 0)) (
        slc (⟨none, 0, 0⟩ : Sl) 0 ((0 : Nat) : Int) 1 fun s4 =>
        app0 t #[z] 1 bytes s4 (IntKind.i64.wrap (n - (IntKind.i64.wrap (((0 : Nat) : Int) - ((0 : Nat) : Int))))) h fun s5 h =>
        slc s5 0 ((0 : Nat) : Int) 1 fun s6 => J1 s6 h) (J1 (⟨none, 0, 0⟩ : Sl) h)) := by
  have hw : IntKind.i64.wrap (n - (IntKind.i64.wrap (((0 : Nat) : Int) - ((0 : Nat) : Int)))) = n := by rw [w64 (x := ((0 : Nat) : Int) - ((0 : Nat) : Int)) (by omega) (by omega), w64] <;> omega
  refine ifB_f (by simp; omega) ?_
  rw [hw]
  refine ifB_c (fun hc => ?_) (fun hc => hK _ _ (vec_nil h) (new_nil h) (Upd.refl _ _))
  refine ⟨by omega, by omega, by simp, ?_⟩
  refine app0_ct (xs := []) (by simpa [Sl.cut] using vec_nil h) hz hn (by simpa using hb) (by simpa using hb1) fun r h' hr hu hnew => ?_
  refine ⟨by omega, by omega, by omega, ?_⟩
  have hat : ∀ b, At r b → h.size ≤ b := fun b hb => (hnew b hb).elim (fun ⟨a, ha, _⟩ => by simp [Sl.cut] at ha) (fun h => h)
  have hcut : r.cut (0 : Int).toNat ((0 : Nat) : Int).toNat 1 = ⟨r.base, 0, r.cap⟩ := by
    simp only [Sl.cut]
    congr 1
    split
    · rfl
    · cases r.base <;> simp [Addr.add]
  rw [hcut]
  refine hK _ h' ?_ hat (hu.mono ?_)
  · rcases hr with ⟨rfl, _⟩ | ⟨b, js, rfl, hbk⟩
    · exact vec_nil h'
    · refine .inr ⟨b, [] ++ List.replicate n.toNat z ++ js, ?_, hbk⟩
      simp
  · rintro b _ ⟨a, ha, _⟩; simp [Sl.cut] at ha
theorem grow_byte_ct {τ : Nat → Nat} {n : Int} {h : Mem} {K : Sl → Mem → Prop} (hn : 0 ≤ n) (hb : n.toNat ≤ 2 ^ 40) (hK : ∀ r h', Vec h' r [] → New h r → Ext h h' → K r h') : slices_Grow_byte_byte τ ⟨none, 0, 0⟩ n h K :=
  grow_any rfl hn (by omega) hb hK
theorem grow_int_ct {τ : Nat → Nat} {n : Int} {h : Mem} {K : Sl → Mem → Prop} (hn : 0 ≤ n) (hb : n.toNat ≤ 2 ^ 37) (hK : ∀ r h', Vec h' r [] → New h r → Ext h h' → K r h') : slices_Grow_int_int τ ⟨none, 0, 0⟩ n h K :=
  grow_any rfl hn (by omega) (by omega) hK

/-- a slice of slices, and what each of them holds -/
def Lists (h : Mem) (s : Sl) (L : List (Sl × List Value)) : Prop := Holds h s (L.map fun p => Value.slice p.1.base p.1.len p.1.cap) ∧ ∀ p, p ∈ L → Holds h p.1 p.2
def total : List (Sl × List Value) → Nat
  | [] => 0
  | p :: L => p.2.length + total L
def joined (L : List (Sl × List Value)) : List Value := L.flatMap (·.2)
theorem Lists.get {S : Nat → Prop} {h h' : Mem} {s : Sl} {L : List (Sl × List Value)} (p : Lists h s L) (u : Upd S h h') (hs : ∀ b, At s b → ¬ S b) (hl : ∀ p, p ∈ L → ∀ b, At p.1 b → ¬ S b) : Lists h' s L :=
  ⟨p.1.get u hs, fun q hq => (p.2 q hq).get u (hl q hq)⟩
theorem Lists.gete {h h' : Mem} {s : Sl} {L : List (Sl × List Value)} (p : Lists h s L) (u : Ext h h') : Lists h' s L := p.get u (fun _ _ h => h) (fun _ _ _ _ h => h)
theorem total_append (A B : List (Sl × List Value)) : total (A ++ B) = total A + total B := by
  induction A with
  | nil => simp [total]
  | cons a A ih => simp only [List.cons_append, total, ih]; omega
theorem total_take_le (L : List (Sl × List Value)) (k : Nat) : total (L.take k) ≤ total L := by
  have := total_append (L.take k) (L.drop k)
  rw [List.take_append_drop] at this; omega
theorem total_take_succ {L : List (Sl × List Value)} {k : Nat} (p : Sl × List Value) (hk : L[k]? = some p) : total (L.take (k + 1)) = total (L.take k) + p.2.length := by
  rw [List.take_add_one, hk, total_append]; simp [total]
theorem joined_take_succ {L : List (Sl × List Value)} {k : Nat} (p : Sl × List Value) (hk : L[k]? = some p) : joined (L.take (k + 1)) = joined (L.take k) ++ p.2 := by
  rw [List.take_add_one, hk]; simp [joined]
theorem joined_len (L : List (Sl × List Value)) : (joined L).length = total L := by
  induction L with
  | nil => rfl
  | cons a L ih => simp only [joined, List.flatMap_cons, List.length_append, total] at *; rw [ih]
theorem Ones.joined {L : List (Sl × List Value)} (h : ∀ p, p ∈ L → Ones p.2) : Ones (Go.TS.joined L) := by
  intro v hv
  obtain ⟨p, hp, hv⟩ := List.mem_flatMap.1 hv
  exact h p hp v hv

theorem concat_any {t : TypeId} {z : Value} {bytes : Nat} {s : Sl} {h : Mem} {K : Sl → Mem → Prop} {L : List (Sl × List Value)} {G : Int → Mem → (Sl → Mem → Prop) → Prop}
    (hG : ∀ (n : Nat) (h : Mem) (K : Sl → Mem → Prop), n ≤ 2 ^ 37 → (∀ r h', Vec h' r [] → New h r → Ext h h' → K r h') → G n h K)
    (q : Lists h s L) (ho : ∀ p, p ∈ L → Ones p.2) (hl : L.length ≤ 2 ^ 40) (ht : total L ≤ 2 ^ 37) (hbytes : bytes ≤ 8)
    (hK : ∀ r h', Vec h' r (joined L) → New h r → Ext h h' → K r h') :
    LoopP (σ := Int × Int) (fun nx1 l1 h =>
      ifB (decide (l1.2 < (s.len : Int))) (
        ixS s l1.2 1 fun a3 => ld (.sl) a3 h fun s4 =>
        ifB (decide ((IntKind.i64.wrap (l1.1 + (s4.len : Int))) < 0)) (False) (nx1 ((IntKind.i64.wrap (l1.1 + (s4.len : Int))), (IntKind.i64.wrap (l1.2 + 1))) h))
      (G l1.1 h fun s5 h =>
        LoopP (σ := Sl × Int) (fun nx2 l2 h =>
          ifB (decide (l2.2 < (s.len : Int))) (
            ixS s l2.2 1 fun a6 => ld (.sl) a6 h fun s7 => app t #[z] 1 bytes l2.1 s7 h fun s8 h => nx2 (s8, (IntKind.i64.wrap (l2.2 + 1))) h)
          (K l2.1 h)) (s5, 0) h)) (0, 0) h := by
  have hlen : s.len = L.length := by rw [q.1.1]; simp
  refine loop_ct (fun l h' => h' = h ∧ ∃ k : Nat, l.2 = k ∧ k ≤ L.length ∧ l.1 = total (L.take k)) (fun l _ => (L.length - l.2).toNat) ⟨rfl, 0, rfl, by omega, by simp [total]⟩ ?_
  rintro ⟨l1, l2⟩ h1 ⟨hh, k, rfl, hk, rfl⟩
  subst hh
  dsimp only
  refine ifB_c (fun hc => ?_) (fun hc => ?_)
  · have hkl : k < L.length := by simp [hlen] at hc; omega
    have hget : L[k]? = some L[k] := by simp [hkl]
    refine ixld_ct (k := .sl) q.1 (by omega) L[k].1 (by simp [hkl, Kind.enc]) ?_
    have htk := total_take_succ _ hget
    have htl := total_take_le L (k + 1)
    have hp : (L[k].1).len = L[k].2.length := (q.2 _ (List.getElem_mem hkl)).1
    rw [hp, w64 (by omega) (by omega), w64 (by omega) (by omega)]
    refine ifB_f (by simp; omega) ⟨⟨rfl, k + 1, by omega, by omega, by omega⟩, by omega⟩
  · have hkl : k = L.length := by simp [hlen] at hc; omega
    subst hkl
    rw [List.take_length]
    refine hG _ _ _ ht fun r h2 hr hn hE => ?_
    refine loop_ct (fun l h' => ∃ k : Nat, l.2 = k ∧ k ≤ L.length ∧ Vec h' l.1 (joined (L.take k)) ∧ New h1 l.1 ∧ Ext h1 h') (fun l _ => (L.length - l.2).toNat) ⟨0, rfl, by omega, by simpa [joined] using hr, hn, hE⟩ ?_
    rintro ⟨l1, l2⟩ h3 ⟨k, rfl, hk, hv, hnw, hx⟩
    dsimp only at hv hnw ⊢
    refine ifB_c (fun hc => ?_) (fun hc => ?_)
    · have hkl : k < L.length := by simp [hlen] at hc; omega
      have hget : L[k]? = some L[k] := by simp [hkl]
      have hjk := joined_take_succ _ hget
      have htk := total_take_succ _ hget
      have htl := total_take_le L (k + 1)
      refine ixld_ct (k := .sl) (q.1.gete hx) (by omega) L[k].1 (by simp [hkl, Kind.enc]) ?_
      have hsum : (joined (L.take k)).length + L[k].2.length ≤ 2 ^ 37 := by rw [joined_len]; omega
      refine app_ct hv ((q.2 _ (List.getElem_mem hkl)).gete hx) (ho _ (List.getElem_mem hkl)) (Nat.le_trans (Nat.mul_le_mul hsum hbytes) (by omega)) (by omega) fun r' h4 hr' hu hat => ?_
      rw [w64 (by omega) (by omega)]
      refine ⟨⟨k + 1, by omega, by omega, by rw [hjk]; exact hr', ?_, Upd.above hx hu hnw⟩, by omega⟩
      intro b hb
      rcases hat b hb with h | h
      · exact hnw b h
      · exact Nat.le_trans hx.sz h
    · have hkl : k = L.length := by simp [hlen] at hc; omega
      subst hkl
      rw [List.take_length] at hv
      exact hK _ _ hv hnw hx
theorem concat_byte_ct {τ : Nat → Nat} {s : Sl} {h : Mem} {K : Sl → Mem → Prop} {L : List (Sl × List Value)} (q : Lists h s L) (ho : ∀ p, p ∈ L → Ones p.2) (hl : L.length ≤ 2 ^ 40) (ht : total L ≤ 2 ^ 37)
    (hK : ∀ r h', Vec h' r (joined L) → New h r → Ext h h' → K r h') : slices_Concat_byte_byte τ s h K :=
  concat_any (G := fun n h K => slices_Grow_byte_byte τ ⟨none, 0, 0⟩ n h K) (fun n h K hn hk => grow_byte_ct (by omega) (by omega) hk) q ho hl ht (by omega) hK
theorem concat_int_ct {τ : Nat → Nat} {s : Sl} {h : Mem} {K : Sl → Mem → Prop} {L : List (Sl × List Value)} (q : Lists h s L) (ho : ∀ p, p ∈ L → Ones p.2) (hl : L.length ≤ 2 ^ 40) (ht : total L ≤ 2 ^ 37)
    (hK : ∀ r h', Vec h' r (joined L) → New h r → Ext h h' → K r h') : slices_Concat_int_int τ s h K :=
  concat_any (G := fun n h K => slices_Grow_int_int τ ⟨none, 0, 0⟩ n h K) (fun n h K hn hk => grow_int_ct (by omega) (by omega) hk) q ho hl ht (by omega) hK
end Go.TS
