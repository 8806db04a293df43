/- Contracts, the ground: what stays of a heap, blocks, slices, the words. -/
import Derived.Laws.Bits64
import Derived.Laws.IdiomRangeMap
import Derived.Test.YtmcpegdmnogkbaaGreatDoorTsDefs
import Derived.Test.YtmcpegdmnogkbaaGreatDoorTsExt
import Derived.Test.YtmcpegdmnogkbaaGreatDoorXsMem
set_option linter.unusedSimpArgs false
set_option linter.unusedVariables false
namespace Go.TS
open Go

/-- the heap has grown; below, only blocks of S may differ -/
structure Upd (S : Nat → Prop) (h h' : Mem) : Prop where
  sz : h.size ≤ h'.size
  same : ∀ b, b < h.size → ¬ S b → h'[b]? = h[b]?
def No (_ : Nat) : Prop := False
abbrev Ext (h h' : Mem) : Prop := Upd No h h'

theorem Upd.refl (S : Nat → Prop) (h : Mem) : Upd S h h := ⟨Nat.le_refl _, fun _ _ _ => rfl⟩
theorem Upd.trans {S T : Nat → Prop} {h1 h2 h3 : Mem} (a : Upd S h1 h2) (b : Upd T h2 h3) (hT : ∀ b, b < h1.size → T b → S b) : Upd S h1 h3 :=
  ⟨Nat.le_trans a.sz b.sz, fun k hk hs => by rw [b.same k (Nat.lt_of_lt_of_le hk a.sz) (fun ht => hs (hT k hk ht)), a.same k hk hs]⟩
theorem Upd.mono {S T : Nat → Prop} {h h' : Mem} (a : Upd S h h') (hT : ∀ b, b < h.size → S b → T b) : Upd T h h' := ⟨a.sz, fun b hb ht => a.same b hb (fun hs => ht (hT b hb hs))⟩
theorem Upd.ext {S : Nat → Prop} {h1 h2 h3 : Mem} (a : Upd S h1 h2) (b : Ext h2 h3) : Upd S h1 h3 := a.trans b (fun _ _ h => h.elim)
theorem Upd.of_ext {S : Nat → Prop} {h1 h2 h3 : Mem} (a : Ext h1 h2) (b : Upd S h2 h3) : Upd S h1 h3 := (a.mono (fun _ _ h => h.elim)).trans b (fun _ _ h => h)
/-- what is written lies above -/
theorem Upd.above {S : Nat → Prop} {h1 h2 h3 : Mem} (a : Ext h1 h2) (b : Upd S h2 h3) (hn : ∀ b, S b → h1.size ≤ b) : Ext h1 h3 :=
  a.trans b (fun k hk hs => absurd (hn k hs) (by omega))

theorem lt_of_some {h : Mem} {b : Nat} {o : Obj} (hb : h[b]? = some o) : b < h.size := by
  rcases Nat.lt_or_ge b h.size with hl | hl
  · exact hl
  · rw [Array.getElem?_eq_none hl] at hb; cases hb
theorem Upd.get {S : Nat → Prop} {h h' : Mem} (u : Upd S h h') {b : Nat} {o : Obj} (hb : h[b]? = some o) (hs : ¬ S b) : h'[b]? = some o := by rw [u.same b (lt_of_some hb) hs, hb]
theorem Upd.gete {h h' : Mem} (u : Ext h h') {b : Nat} {o : Obj} (hb : h[b]? = some o) : h'[b]? = some o := u.get hb (fun h => h)

theorem add_n (b o n : Nat) : Addr.add ⟨b, o, none⟩ n = ⟨b, o + n, none⟩ := by unfold Addr.add; split <;> simp_all
theorem add_block (a : Addr) (n : Nat) : (a.add n).block = a.block := by unfold Addr.add; split <;> rfl
/-- a block of cells without a mark -/
def Blk (h : Mem) (b : Nat) (cs : List Value) : Prop := ∃ e, h[b]? = some (.cells cs.toArray e (0, 0))
theorem Blk.lt {h : Mem} {b : Nat} {cs : List Value} (p : Blk h b cs) : b < h.size := by obtain ⟨e, he⟩ := p; exact lt_of_some he
theorem Blk.get {S : Nat → Prop} {h h' : Mem} {b : Nat} {cs : List Value} (p : Blk h b cs) (u : Upd S h h') (hs : ¬ S b) : Blk h' b cs := by obtain ⟨e, he⟩ := p; exact ⟨e, u.get he hs⟩
theorem Blk.gete {h h' : Mem} {b : Nat} {cs : List Value} (p : Blk h b cs) (u : Ext h h') : Blk h' b cs := p.get u (fun h => h)
theorem Blk.rd {h : Mem} {b : Nat} {cs : List Value} (p : Blk h b cs) (i : Nat) : rd h ⟨b, i, none⟩ = cs[i]? := by obtain ⟨e, he⟩ := p; simp [Go.TS.rd, he]
theorem Blk.fz {h : Mem} {b : Nat} {cs : List Value} (p : Blk h b cs) (i : Nat) : fz h ⟨b, i, none⟩ = false := by obtain ⟨e, he⟩ := p; simp [Go.TS.fz, he]
theorem Blk.wr {h : Mem} {b : Nat} {cs : List Value} (p : Blk h b cs) (i : Nat) (v : Value) : Blk (wr h ⟨b, i, none⟩ v) b (cs.set i v) := by
  obtain ⟨e, he⟩ := p
  exact ⟨e, by simp [Go.TS.wr, Array.getElem?_modify, he]⟩
theorem upd_wr (h : Mem) (b i : Nat) (v : Value) : Upd (· = b) h (wr h ⟨b, i, none⟩ v) :=
  ⟨by simp [wr], fun k _ hk => by simp only [wr, Array.getElem?_modify]; rw [if_neg (fun h => hk h.symm)]⟩
theorem size_wr' (h : Mem) (a : Addr) (v : Value) : (wr h a v).size = h.size := by simp [wr]

theorem al_ct {o : Obj} {h : Mem} {K : Nat → Mem → Prop} (hK : ∀ h', h'[h.size]? = some o → Ext h h' → h'.size = h.size + 1 → K h.size h') : al o h K := by
  refine hK _ (by simp) ⟨by simp, fun b hb _ => ?_⟩ (by simp)
  rw [Array.getElem?_push_lt hb]; simp [hb]
theorem ld_ct {k : Kind} {a : Addr} {h : Mem} {K : k.ty → Prop} (x : k.ty) (hr : rd h a = some (k.enc x)) (hK : K x) : ld k a h K := ⟨x, hr, hK⟩
theorem st_ct {b i : Nat} {v : Value} {h : Mem} {K : Mem → Prop} {cs : List Value} (p : Blk h b cs) (hi : i < cs.length) (hK : ∀ h', Blk h' b (cs.set i v) → Upd (· = b) h h' → h'.size = h.size → K h') : st ⟨b, i, none⟩ v h K :=
  ⟨⟨cs[i], by rw [p.rd]; simp [hi]⟩, p.fz i, hK _ (p.wr i v) (upd_wr h b i v) (size_wr' _ _ _)⟩

/-- what a slice holds -/
def Holds (h : Mem) (s : Sl) (xs : List Value) : Prop := s.len = xs.length ∧ slCells h s xs.length xs
def encL (k : Kind) (l : List k.ty) : List Value := l.map k.enc

theorem rd_upd {S : Nat → Prop} {h h' : Mem} (u : Upd S h h') {a : Addr} {v : Value} (hr : rd h a = some v) (hs : ¬ S a.block) : rd h' a = some v := by
  unfold rd at hr ⊢
  split at hr
  · rename_i c e f hb; rw [u.get hb hs]; exact hr
  · cases hr
def At (s : Sl) (b : Nat) : Prop := ∃ a, s.base = some a ∧ a.block = b
theorem Holds.get {S : Nat → Prop} {h h' : Mem} {s : Sl} {xs : List Value} (p : Holds h s xs) (u : Upd S h h') (hs : ∀ b, At s b → ¬ S b) : Holds h' s xs := by
  refine ⟨p.1, ?_⟩
  have := p.2
  unfold slCells at this ⊢
  split
  · rename_i a ha
    rw [ha] at this
    simp only at this
    refine ⟨rfl, fun i v hv => rd_upd u (this.2 i v hv) (by rw [add_block]; exact hs _ ⟨a, ha, rfl⟩)⟩
  · rename_i ha; rw [ha] at this; exact this
theorem Holds.gete {h h' : Mem} {s : Sl} {xs : List Value} (p : Holds h s xs) (u : Ext h h') : Holds h' s xs := p.get u (fun _ _ h => h)
theorem Holds.lt {h : Mem} {s : Sl} {xs : List Value} (p : Holds h s xs) (hx : xs ≠ []) : ∀ b, At s b → b < h.size := by
  rintro b ⟨a, ha, rfl⟩
  have := p.2
  unfold slCells at this
  rw [ha] at this
  simp only at this
  cases xs with
  | nil => exact absurd rfl hx
  | cons v vs =>
    have := this.2 0 v rfl
    unfold rd at this
    split at this
    · rename_i hb; exact lt_of_some hb
    · cases this
theorem holds_nil (h : Mem) : Holds h ⟨none, 0, 0⟩ [] := ⟨rfl, rfl⟩

/-- a vector of our own: a block of its own from its start, no mark, room to its capacity -/
def Vec (h : Mem) (s : Sl) (xs : List Value) : Prop :=
  (s = ⟨none, 0, 0⟩ ∧ xs = []) ∨ ∃ b js, s = ⟨some ⟨b, 0, none⟩, xs.length, xs.length + js.length⟩ ∧ Blk h b (xs ++ js)
theorem vec_nil (h : Mem) : Vec h ⟨none, 0, 0⟩ [] := .inl ⟨rfl, rfl⟩
theorem Vec.holds {h : Mem} {s : Sl} {xs : List Value} (p : Vec h s xs) : Holds h s xs := by
  rcases p with ⟨rfl, rfl⟩ | ⟨b, js, rfl, hb⟩
  · exact holds_nil h
  · refine ⟨rfl, rfl, fun i v hv => ?_⟩
    have hi : i < xs.length := (List.getElem?_eq_some_iff.1 hv).1
    rw [add_n, Nat.zero_add, hb.rd, List.getElem?_append_left hi]; exact hv
theorem Vec.lt {h : Mem} {s : Sl} {xs : List Value} (p : Vec h s xs) : ∀ b, At s b → b < h.size := by
  rintro b ⟨a, ha, rfl⟩
  rcases p with ⟨rfl, rfl⟩ | ⟨b, js, rfl, hb⟩
  · cases ha
  · simp only [Option.some.injEq] at ha; subst ha; exact hb.lt
theorem Vec.get {S : Nat → Prop} {h h' : Mem} {s : Sl} {xs : List Value} (p : Vec h s xs) (u : Upd S h h') (hs : ∀ b, At s b → ¬ S b) : Vec h' s xs := by
  rcases p with ⟨rfl, rfl⟩ | ⟨b, js, rfl, hb⟩
  · exact vec_nil h'
  · exact .inr ⟨b, js, rfl, hb.get u (hs b ⟨_, rfl, rfl⟩)⟩
theorem Vec.gete {h h' : Mem} {s : Sl} {xs : List Value} (p : Vec h s xs) (u : Ext h h') : Vec h' s xs := p.get u (fun _ _ h => h)
theorem Vec.len {h : Mem} {s : Sl} {xs : List Value} (p : Vec h s xs) : s.len = xs.length := p.holds.1
/-- its blocks lie above a heap -/
def New (h : Mem) (s : Sl) : Prop := ∀ b, At s b → h.size ≤ b
theorem new_nil (h : Mem) : New h ⟨none, 0, 0⟩ := by rintro b ⟨a, ha, _⟩; cases ha
theorem New.mono {h h' : Mem} {s : Sl} (n : New h' s) (hle : h.size ≤ h'.size) : New h s := fun b hb => Nat.le_trans hle (n b hb)

/-- cells written over -/
def over (cs : List Value) (i : Nat) (vs : List Value) : List Value := cs.take i ++ vs ++ cs.drop (i + vs.length)
theorem wrs_blk {b o : Nat} : ∀ (vs : List Value) (i : Nat) {h : Mem} {cs : List Value}, Blk h b cs → o + i + vs.length ≤ cs.length →
    Blk (wrs h ⟨b, o, none⟩ i vs) b (over cs (o + i) vs) ∧ Upd (· = b) h (wrs h ⟨b, o, none⟩ i vs) ∧ (wrs h ⟨b, o, none⟩ i vs).size = h.size := by
  intro vs
  induction vs with
  | nil => intro i h cs p _; refine ⟨?_, Upd.refl _ _, rfl⟩; simpa [wrs, over] using p
  | cons v vs ih =>
    intro i h cs p hl
    simp only [List.length_cons] at hl
    simp only [wrs, add_n]
    obtain ⟨h1, h2, h3⟩ := ih (i + 1) (p.wr (o + i) v) (by simp; omega)
    refine ⟨?_, (upd_wr h b (o + i) v).trans h2 (fun _ _ h => h), by rw [h3, size_wr']⟩
    have : over (cs.set (o + i) v) (o + (i + 1)) vs = over cs (o + i) (v :: vs) := by
      apply List.ext_getElem?
      intro k
      simp only [over, List.getElem?_append, List.length_take, List.length_set, List.getElem?_take, List.getElem?_drop, List.length_append, List.length_cons, List.getElem?_set]
      grind
    rw [this] at h1; exact h1
theorem room_blk {h : Mem} {b o n : Nat} {cs : List Value} (p : Blk h b cs) (hl : o + n ≤ cs.length) : room h ⟨b, o, none⟩ n := by
  intro i hi
  rw [add_n, p.rd, p.fz]
  exact ⟨⟨cs[o + i]'(by omega), by simp⟩, rfl⟩
theorem over_len {cs vs : List Value} {i : Nat} (h : i + vs.length ≤ cs.length) : (over cs i vs).length = cs.length := by simp [over]; omega

theorem zeroCells_len (z : Value) (n : Nat) : (Builtin.zeroCells #[z] n).toList.length = n := by simp [Builtin.zeroCells]
theorem app_ct {t : TypeId} {z : Value} {bytes : Nat} {s x : Sl} {h : Mem} {K : Sl → Mem → Prop} {xs ys : List Value} (p : Vec h s xs) (q : Holds h x ys) (hone : ∀ v, v ∈ ys → oneC v = true)
    (hb : (xs.length + ys.length) * bytes ≤ 2 ^ 40) (hb1 : xs.length + ys.length ≤ 2 ^ 40)
    (hK : ∀ s' h', Vec h' s' (xs ++ ys) → Upd (At s) h h' → (∀ b, At s' b → At s b ∨ h.size ≤ b) → K s' h') : app t #[z] 1 bytes s x h K := by
  obtain ⟨hql, hqc⟩ := q
  refine ⟨ys, by simpa [hql] using hqc, hone, ?_, ?_⟩
  · intro hroom
    rcases p with ⟨rfl, rfl⟩ | ⟨b, js, rfl, hbk⟩
    · simp only [hql, Nat.zero_add, Nat.le_zero_eq, List.length_eq_zero_iff] at hroom
      subst hroom
      simp only [hql]
      exact hK _ _ (vec_nil h) (Upd.refl _ _) (fun b hb => .inl hb)
    · simp only [hql] at hroom ⊢
      simp only [add_n, Nat.zero_add, Nat.mul_one]
      have hl : xs.length + ys.length ≤ (xs ++ js).length := by simp; omega
      refine ⟨room_blk hbk hl, ?_⟩
      obtain ⟨h1, h2, h3⟩ := wrs_blk (o := xs.length) ys 0 hbk (by simpa using hl)
      refine hK _ _ (.inr ⟨b, js.drop ys.length, ?_, ?_⟩) (h2.mono ?_) ?_
      · simp; omega
      · have : over (xs ++ js) (xs.length + 0) ys = xs ++ ys ++ js.drop ys.length := by simp [over, List.drop_append]
        rw [this] at h1; exact h1
      · rintro k _ rfl; exact ⟨_, rfl, rfl⟩
      · rintro k ⟨a, ha, rfl⟩
        exact .inl ⟨a, ha, rfl⟩
  · intro hgrow
    have hn : s.len = xs.length := p.len
    rw [hn, hql]
    refine ⟨hb1, hb, xs, ?_, ?_⟩
    · have := p.holds.2; rw [Nat.mul_one]; exact this
    · intro c hc
      have hK' := hK ⟨some ⟨h.size, 0, none⟩, xs.length + ys.length, c⟩ (h.push (.cells (xs.toArray ++ ys.toArray ++ Builtin.zeroCells #[z] (c - (xs.length + ys.length))) t))
      refine hK' (.inr ⟨h.size, (Builtin.zeroCells #[z] (c - (xs.length + ys.length))).toList, ?_, t, ?_⟩) ⟨by simp, fun b hb _ => ?_⟩ ?_
      · rw [zeroCells_len, List.length_append]
        congr 1; omega
      · simp
      · rw [Array.getElem?_push_lt hb]; simp [hb]
      · rintro k ⟨a, ha, rfl⟩
        simp only [Option.some.injEq] at ha
        subst ha; exact .inr (Nat.le_refl _)
end Go.TS
/- Contracts: copies of slices, joined slices. -/
namespace Go.TS
open Go
set_option linter.unusedVariables false

theorem w64 {x : Int} (h : -9223372036854775808 ≤ x) (h' : x < 9223372036854775808) : IntKind.i64.wrap x = x := by rw [IntKind.wrap_i64]; omega
theorem loop_ct {σ : Type} {body : (σ → Mem → Prop) → σ → Mem → Prop} {s : σ} {h : Mem} (I : σ → Mem → Prop) (μ : σ → Mem → Nat) (h0 : I s h)
    (hb : ∀ s h, I s h → body (fun s' h' => I s' h' ∧ μ s' h' < μ s h) s h) : LoopP body s h := ⟨I, μ, h0, hb⟩
theorem ifB_t {c : Bool} {A B : Prop} (hc : c = true) (hA : A) : ifB c A B := by subst hc; exact hA
theorem ifB_f {c : Bool} {A B : Prop} (hc : c = false) (hB : B) : ifB c A B := by subst hc; exact hB
theorem ifB_c {c : Bool} {A B : Prop} (hA : c = true → A) (hB : c = false → B) : ifB c A B := by cases c; exact hB rfl; exact hA rfl

/-- values of one cell -/
def Ones (xs : List Value) : Prop := ∀ v, v ∈ xs → oneC v = true
theorem ones_enc (k : Kind) (l : List k.ty) (hk : k ≠ .any) : Ones (encL k l) := by
  intro v hv
  obtain ⟨x, _, rfl⟩ := List.mem_map.1 hv
  cases k <;> first | rfl | exact absurd rfl hk
theorem Ones.app {xs ys : List Value} (a : Ones xs) (b : Ones ys) : Ones (xs ++ ys) := fun v hv => (List.mem_append.1 hv).elim (a v) (b v)
theorem ones_nil : Ones [] := fun v hv => by cases hv

theorem clone_any {t : TypeId} {z : Value} {bytes : Nat} {s : Sl} {h : Mem} {K : Sl → Mem → Prop} {xs : List Value} (q : Holds h s xs) (ho : Ones xs) (hl : xs.length ≤ 2 ^ 40) (hb : xs.length * bytes ≤ 2 ^ 40)
    (hK : ∀ r h', Vec h' r xs → New h r → Ext h h' → (s.base = none → r.base = none) → K r h') :
    ifB (s.base.isNone) (K ⟨none, 0, 0⟩ h) (al (.cells #[] t) h fun q3 h => app t #[z] 1 bytes (⟨(some (⟨q3, 0, none⟩ : Addr)), 0, 0⟩ : Sl) s h fun s4 h => K s4 h) := by
  refine ifB_c (fun hc => ?_) (fun hc => ?_)
  · have hn : s.base = none := by simpa using hc
    have hx : xs = [] := by have := q.2; unfold slCells at this; rw [hn] at this; exact this
    subst hx
    exact hK _ _ (vec_nil h) (new_nil h) (Upd.refl _ _) (fun _ => rfl)
  · refine al_ct fun h1 hb1 hE hs => ?_
    have hv : Vec h1 ⟨some ⟨h.size, 0, none⟩, 0, 0⟩ [] := .inr ⟨h.size, [], rfl, t, hb1⟩
    refine app_ct hv (q.gete hE) ho (by simpa using hb) (by simpa using hl) fun r h' hr hu hn => ?_
    refine hK r h' hr ?_ (Upd.above hE hu ?_) (fun hn => by rw [hn] at hc; cases hc)
    · intro b hb
      rcases hn b hb with ⟨a, ha, rfl⟩ | hle
      · simp only [Option.some.injEq] at ha; subst ha; exact Nat.le_refl _
      · omega
    · rintro b ⟨a, ha, rfl⟩
      simp only [Option.some.injEq] at ha; subst ha; exact Nat.le_refl _
theorem clone_byte_ct {τ : Nat → Nat} {s : Sl} {h : Mem} {K : Sl → Mem → Prop} {xs : List Value} (q : Holds h s xs) (ho : Ones xs) (hl : xs.length ≤ 2 ^ 40)
    (hK : ∀ r h', Vec h' r xs → New h r → Ext h h' → (s.base = none → r.base = none) → K r h') : slices_Clone_byte_byte τ s h K :=
  clone_any q ho hl (by omega) hK
theorem clone_int_ct {τ : Nat → Nat} {s : Sl} {h : Mem} {K : Sl → Mem → Prop} {xs : List Value} (q : Holds h s xs) (ho : Ones xs) (hl : xs.length ≤ 2 ^ 37)
    (hK : ∀ r h', Vec h' r xs → New h r → Ext h h' → (s.base = none → r.base = none) → K r h') : slices_Clone_int_int τ s h K :=
  clone_any q ho (by omega) (by omega) hK

theorem zeroCells_eq (z : Value) (n : Nat) : (Builtin.zeroCells #[z] n).toList = List.replicate n z := by
  apply List.ext_getElem?
  intro i
  simp only [Builtin.zeroCells, List.size_toArray, List.length_cons, List.length_nil, Nat.zero_add, Nat.mul_one, Array.toList_map, Array.toList_range, List.getElem?_map, List.getElem?_range, List.getElem?_replicate, Nat.mod_one]
  by_cases h : i < n
  · simp [List.getElem?_range h, h]
  · simp [h]
theorem app0_ct {t : TypeId} {z : Value} {bytes : Nat} {s : Sl} {n : Int} {h : Mem} {K : Sl → Mem → Prop} {xs : List Value} (p : Vec h s xs) (hz : oneC z = true) (hn : 0 ≤ n)
    (hb : (xs.length + n.toNat) * bytes ≤ 2 ^ 40) (hb1 : xs.length + n.toNat ≤ 2 ^ 40)
    (hK : ∀ s' h', Vec h' s' (xs ++ List.replicate n.toNat z) → Upd (At s) h h' → (∀ b, At s' b → At s b ∨ h.size ≤ b) → K s' h') : app0 t #[z] 1 bytes s n h K := by
  have hones : one (Builtin.zeroCells #[z] n.toNat).toList := by
    rw [zeroCells_eq]; intro v hv; rw [List.eq_of_mem_replicate hv]; exact hz
  have hlen : s.len = xs.length := p.len
  have hbb : n.toNat * bytes ≤ 2 ^ 40 := Nat.le_trans (Nat.mul_le_mul_right _ (by omega)) hb
  refine ⟨hn, hbb, by omega, hones, Nat.one_pos, ?_, ?_⟩
  · intro hroom
    rcases p with ⟨rfl, rfl⟩ | ⟨b, js, rfl, hbk⟩
    · simp only [Nat.zero_add, Nat.le_zero_eq] at hroom
      simp only [hroom, Nat.zero_add]
      refine hK _ _ ?_ (Upd.refl _ _) (fun b hb => .inl hb)
      simp only [hroom, List.replicate_zero, List.append_nil]; exact vec_nil h
    · simp only at hroom ⊢
      simp only [add_n, Nat.zero_add, Nat.mul_one]
      have hsz : (Builtin.zeroCells #[z] n.toNat).size = n.toNat := by rw [← Array.length_toList, zeroCells_len]
      rw [hsz, zeroCells_eq]
      have hl : xs.length + n.toNat ≤ (xs ++ js).length := by simp; omega
      refine ⟨room_blk hbk hl, ?_⟩
      obtain ⟨h1, h2, h3⟩ := wrs_blk (o := xs.length) (List.replicate n.toNat z) 0 hbk (by simpa using hl)
      refine hK _ _ (.inr ⟨b, js.drop n.toNat, ?_, ?_⟩) (h2.mono ?_) ?_
      · simp; omega
      · have : over (xs ++ js) (xs.length + 0) (List.replicate n.toNat z) = xs ++ List.replicate n.toNat z ++ js.drop n.toNat := by simp [over, List.drop_append]
        rw [this] at h1; exact h1
      · rintro k _ rfl; exact ⟨_, rfl, rfl⟩
      · rintro k ⟨a, ha, rfl⟩
        exact .inl ⟨a, ha, rfl⟩
  · intro hgrow
    rw [hlen]
    refine ⟨hb1, hb, xs, ?_, ?_⟩
    · have := p.holds.2; rw [Nat.mul_one]; exact this
    · intro c hc
      refine hK ⟨some ⟨h.size, 0, none⟩, xs.length + n.toNat, c⟩ _ (.inr ⟨h.size, (Builtin.zeroCells #[z] (c - (xs.length + n.toNat))).toList, ?_, t, ?_⟩) ⟨by simp, fun b hb _ => ?_⟩ ?_
      · rw [zeroCells_len, List.length_append, List.length_replicate]
        congr 1; omega
      · rw [← zeroCells_eq]; simp
      · rw [Array.getElem?_push_lt hb]; simp [hb]
      · rintro k ⟨a, ha, rfl⟩
        simp only [Option.some.injEq] at ha
        subst ha; exact .inr (Nat.le_refl _)

theorem ix_ct {s : Sl} {i : Int} {h : Mem} {K : Addr → Prop} {xs : List Value} {v : Value} (q : Holds h s xs) (hi : 0 ≤ i) (hv : xs[i.toNat]? = some v) (hK : ∀ a, rd h a = some v → K a) : ixS s i 1 K := by
  have hlt : i.toNat < xs.length := (List.getElem?_eq_some_iff.1 hv).1
  have h2 := q.2
  unfold slCells at h2
  cases hb : s.base with
  | none => rw [hb] at h2; subst h2; simp at hlt
  | some a =>
    rw [hb] at h2
    refine ⟨a, hb, hi, by rw [q.1]; omega, hK _ ?_⟩
    rw [Nat.mul_one]; exact h2.2 _ _ hv
theorem ixld_ct {k : Kind} {s : Sl} {i : Int} {h : Mem} {K : k.ty → Prop} {xs : List Value} (q : Holds h s xs) (hi : 0 ≤ i) (x : k.ty) (hv : xs[i.toNat]? = some (k.enc x)) (hK : K x) : ixS s i 1 fun a => ld k a h K :=
  ix_ct q hi hv fun a ha => ⟨x, ha, hK⟩

theorem grow_any {t : TypeId} {z : Value} {bytes : Nat} {n : Int} {h : Mem} {K : Sl → Mem → Prop} (hz : oneC z = true) (hn : 0 ≤ n) (hb : n.toNat * bytes ≤ 2 ^ 40) (hb1 : n.toNat ≤ 2 ^ 40)
    (hK : ∀ r h', Vec h' r [] → New h r → Ext h h' → K r h') :
    ifB (decide (n < 0)) False (let J1 : Sl → Mem → Prop := (fun s7 h => K s7 h);
      ifB (decide ((IntKind.i64.wrap (n - (IntKind.i64.wrap (((0 : Nat) : Int) - ((0 : Nat) : Int))))) > 0)) (
        slc (⟨none, 0, 0⟩ : Sl) 0 ((0 : Nat) : Int) 1 fun s4 =>
        app0 t #[z] 1 bytes s4 (IntKind.i64.wrap (n - (IntKind.i64.wrap (((0 : Nat) : Int) - ((0 : Nat) : Int))))) h fun s5 h =>
        slc s5 0 ((0 : Nat) : Int) 1 fun s6 => J1 s6 h) (J1 (⟨none, 0, 0⟩ : Sl) h)) := by
  have hw : IntKind.i64.wrap (n - (IntKind.i64.wrap (((0 : Nat) : Int) - ((0 : Nat) : Int)))) = n := by rw [w64 (x := ((0 : Nat) : Int) - ((0 : Nat) : Int)) (by omega) (by omega), w64] <;> omega
  refine ifB_f (by simp; omega) ?_
  rw [hw]
  refine ifB_c (fun hc => ?_) (fun hc => hK _ _ (vec_nil h) (new_nil h) (Upd.refl _ _))
  refine ⟨by omega, by omega, by simp, ?_⟩
  refine app0_ct (xs := []) (by simpa [Sl.cut] using vec_nil h) hz hn (by simpa using hb) (by simpa using hb1) fun r h' hr hu hnew => ?_
  refine ⟨by omega, by omega, by omega, ?_⟩
  have hat : ∀ b, At r b → h.size ≤ b := fun b hb => (hnew b hb).elim (fun ⟨a, ha, _⟩ => by simp [Sl.cut] at ha) (fun h => h)
  have hcut : r.cut (0 : Int).toNat ((0 : Nat) : Int).toNat 1 = ⟨r.base, 0, r.cap⟩ := by
    simp only [Sl.cut]
    congr 1
    split
    · rfl
    · cases r.base <;> simp [Addr.add]
  rw [hcut]
  refine hK _ h' ?_ hat (hu.mono ?_)
  · rcases hr with ⟨rfl, _⟩ | ⟨b, js, rfl, hbk⟩
    · exact vec_nil h'
    · refine .inr ⟨b, [] ++ List.replicate n.toNat z ++ js, ?_, hbk⟩
      simp
  · rintro b _ ⟨a, ha, _⟩; simp [Sl.cut] at ha
theorem grow_byte_ct {τ : Nat → Nat} {n : Int} {h : Mem} {K : Sl → Mem → Prop} (hn : 0 ≤ n) (hb : n.toNat ≤ 2 ^ 40) (hK : ∀ r h', Vec h' r [] → New h r → Ext h h' → K r h') : slices_Grow_byte_byte τ ⟨none, 0, 0⟩ n h K :=
  grow_any rfl hn (by omega) hb hK
theorem grow_int_ct {τ : Nat → Nat} {n : Int} {h : Mem} {K : Sl → Mem → Prop} (hn : 0 ≤ n) (hb : n.toNat ≤ 2 ^ 37) (hK : ∀ r h', Vec h' r [] → New h r → Ext h h' → K r h') : slices_Grow_int_int τ ⟨none, 0, 0⟩ n h K :=
  grow_any rfl hn (by omega) (by omega) hK

/-- a slice of slices, and what each of them holds -/
def Lists (h : Mem) (s : Sl) (L : List (Sl × List Value)) : Prop := Holds h s (L.map fun p => Value.slice p.1.base p.1.len p.1.cap) ∧ ∀ p, p ∈ L → Holds h p.1 p.2
def total : List (Sl × List Value) → Nat
  | [] => 0
  | p :: L => p.2.length + total L
def joined (L : List (Sl × List Value)) : List Value := L.flatMap (·.2)
theorem Lists.get {S : Nat → Prop} {h h' : Mem} {s : Sl} {L : List (Sl × List Value)} (p : Lists h s L) (u : Upd S h h') (hs : ∀ b, At s b → ¬ S b) (hl : ∀ p, p ∈ L → ∀ b, At p.1 b → ¬ S b) : Lists h' s L :=
  ⟨p.1.get u hs, fun q hq => (p.2 q hq).get u (hl q hq)⟩
theorem Lists.gete {h h' : Mem} {s : Sl} {L : List (Sl × List Value)} (p : Lists h s L) (u : Ext h h') : Lists h' s L := p.get u (fun _ _ h => h) (fun _ _ _ _ h => h)
theorem total_append (A B : List (Sl × List Value)) : total (A ++ B) = total A + total B := by
  induction A with
  | nil => simp [total]
  | cons a A ih => simp only [List.cons_append, total, ih]; omega
theorem total_take_le (L : List (Sl × List Value)) (k : Nat) : total (L.take k) ≤ total L := by
  have := total_append (L.take k) (L.drop k)
  rw [List.take_append_drop] at this; omega
theorem total_take_succ {L : List (Sl × List Value)} {k : Nat} (p : Sl × List Value) (hk : L[k]? = some p) : total (L.take (k + 1)) = total (L.take k) + p.2.length := by
  rw [List.take_add_one, hk, total_append]; simp [total]
theorem joined_take_succ {L : List (Sl × List Value)} {k : Nat} (p : Sl × List Value) (hk : L[k]? = some p) : joined (L.take (k + 1)) = joined (L.take k) ++ p.2 := by
  rw [List.take_add_one, hk]; simp [joined]
theorem joined_len (L : List (Sl × List Value)) : (joined L).length = total L := by
  induction L with
  | nil => rfl
  | cons a L ih => simp only [joined, List.flatMap_cons, List.length_append, total] at *; rw [ih]
theorem Ones.joined {L : List (Sl × List Value)} (h : ∀ p, p ∈ L → Ones p.2) : Ones (Go.TS.joined L) := by
  intro v hv
  obtain ⟨p, hp, hv⟩ := List.mem_flatMap.1 hv
  exact h p hp v hv

theorem concat_any {t : TypeId} {z : Value} {bytes : Nat} {s : Sl} {h : Mem} {K : Sl → Mem → Prop} {L : List (Sl × List Value)} {G : Int → Mem → (Sl → Mem → Prop) → Prop}
    (hG : ∀ (n : Nat) (h : Mem) (K : Sl → Mem → Prop), n ≤ 2 ^ 37 → (∀ r h', Vec h' r [] → New h r → Ext h h' → K r h') → G n h K)
    (q : Lists h s L) (ho : ∀ p, p ∈ L → Ones p.2) (hl : L.length ≤ 2 ^ 40) (ht : total L ≤ 2 ^ 37) (hbytes : bytes ≤ 8)
    (hK : ∀ r h', Vec h' r (joined L) → New h r → Ext h h' → K r h') :
    LoopP (σ := Int × Int) (fun nx1 l1 h =>
      ifB (decide (l1.2 < (s.len : Int))) (
        ixS s l1.2 1 fun a3 => ld (.sl) a3 h fun s4 =>
        ifB (decide ((IntKind.i64.wrap (l1.1 + (s4.len : Int))) < 0)) (False) (nx1 ((IntKind.i64.wrap (l1.1 + (s4.len : Int))), (IntKind.i64.wrap (l1.2 + 1))) h))
      (G l1.1 h fun s5 h =>
        LoopP (σ := Sl × Int) (fun nx2 l2 h =>
          ifB (decide (l2.2 < (s.len : Int))) (
            ixS s l2.2 1 fun a6 => ld (.sl) a6 h fun s7 => app t #[z] 1 bytes l2.1 s7 h fun s8 h => nx2 (s8, (IntKind.i64.wrap (l2.2 + 1))) h)
          (K l2.1 h)) (s5, 0) h)) (0, 0) h := by
  have hlen : s.len = L.length := by rw [q.1.1]; simp
  refine loop_ct (fun l h' => h' = h ∧ ∃ k : Nat, l.2 = k ∧ k ≤ L.length ∧ l.1 = total (L.take k)) (fun l _ => (L.length - l.2).toNat) ⟨rfl, 0, rfl, by omega, by simp [total]⟩ ?_
  rintro ⟨l1, l2⟩ h1 ⟨hh, k, rfl, hk, rfl⟩
  subst hh
  dsimp only
  refine ifB_c (fun hc => ?_) (fun hc => ?_)
  · have hkl : k < L.length := by simp [hlen] at hc; omega
    have hget : L[k]? = some L[k] := by simp [hkl]
    refine ixld_ct (k := .sl) q.1 (by omega) L[k].1 (by simp [hkl, Kind.enc]) ?_
    have htk := total_take_succ _ hget
    have htl := total_take_le L (k + 1)
    have hp : (L[k].1).len = L[k].2.length := (q.2 _ (List.getElem_mem hkl)).1
    rw [hp, w64 (by omega) (by omega), w64 (by omega) (by omega)]
    refine ifB_f (by simp; omega) ⟨⟨rfl, k + 1, by omega, by omega, by omega⟩, by omega⟩
  · have hkl : k = L.length := by simp [hlen] at hc; omega
    subst hkl
    rw [List.take_length]
    refine hG _ _ _ ht fun r h2 hr hn hE => ?_
    refine loop_ct (fun l h' => ∃ k : Nat, l.2 = k ∧ k ≤ L.length ∧ Vec h' l.1 (joined (L.take k)) ∧ New h1 l.1 ∧ Ext h1 h') (fun l _ => (L.length - l.2).toNat) ⟨0, rfl, by omega, by simpa [joined] using hr, hn, hE⟩ ?_
    rintro ⟨l1, l2⟩ h3 ⟨k, rfl, hk, hv, hnw, hx⟩
    dsimp only at hv hnw ⊢
    refine ifB_c (fun hc => ?_) (fun hc => ?_)
    · have hkl : k < L.length := by simp [hlen] at hc; omega
      have hget : L[k]? = some L[k] := by simp [hkl]
      have hjk := joined_take_succ _ hget
      have htk := total_take_succ _ hget
      have htl := total_take_le L (k + 1)
      refine ixld_ct (k := .sl) (q.1.gete hx) (by omega) L[k].1 (by simp [hkl, Kind.enc]) ?_
      have hsum : (joined (L.take k)).length + L[k].2.length ≤ 2 ^ 37 := by rw [joined_len]; omega
      refine app_ct hv ((q.2 _ (List.getElem_mem hkl)).gete hx) (ho _ (List.getElem_mem hkl)) (Nat.le_trans (Nat.mul_le_mul hsum hbytes) (by omega)) (by omega) fun r' h4 hr' hu hat => ?_
      rw [w64 (by omega) (by omega)]
      refine ⟨⟨k + 1, by omega, by omega, by rw [hjk]; exact hr', ?_, Upd.above hx hu hnw⟩, by omega⟩
      intro b hb
      rcases hat b hb with h | h
      · exact hnw b h
      · exact Nat.le_trans hx.sz h
    · have hkl : k = L.length := by simp [hlen] at hc; omega
      subst hkl
      rw [List.take_length] at hv
      exact hK _ _ hv hnw hx
theorem concat_byte_ct {τ : Nat → Nat} {s : Sl} {h : Mem} {K : Sl → Mem → Prop} {L : List (Sl × List Value)} (q : Lists h s L) (ho : ∀ p, p ∈ L → Ones p.2) (hl : L.length ≤ 2 ^ 40) (ht : total L ≤ 2 ^ 37)
    (hK : ∀ r h', Vec h' r (joined L) → New h r → Ext h h' → K r h') : slices_Concat_byte_byte τ s h K :=
  concat_any (G := fun n h K => slices_Grow_byte_byte τ ⟨none, 0, 0⟩ n h K) (fun n h K hn hk => grow_byte_ct (by omega) (by omega) hk) q ho hl ht (by omega) hK
theorem concat_int_ct {τ : Nat → Nat} {s : Sl} {h : Mem} {K : Sl → Mem → Prop} {L : List (Sl × List Value)} (q : Lists h s L) (ho : ∀ p, p ∈ L → Ones p.2) (hl : L.length ≤ 2 ^ 40) (ht : total L ≤ 2 ^ 37)
    (hK : ∀ r h', Vec h' r (joined L) → New h r → Ext h h' → K r h') : slices_Concat_int_int τ s h K :=
  concat_any (G := fun n h K => slices_Grow_int_int τ ⟨none, 0, 0⟩ n h K) (fun n h K hn hk => grow_int_ct (by omega) (by omega) hk) q ho hl ht (by omega) hK
end Go.TS
/- Contracts: octet's writers. -/
namespace Go.TS
open Go
set_option linter.unusedVariables false

theorem holds_new {h : Mem} {b : Nat} {cs : List Value} {e : TypeId} {fr : Nat × Nat} (c : Nat) (hb : h[b]? = some (.cells cs.toArray e fr)) : Holds h ⟨some ⟨b, 0, none⟩, cs.length, c⟩ cs := by
  refine ⟨rfl, rfl, fun i v hv => ?_⟩
  rw [add_n, Nat.zero_add]
  simp only [rd, hb]
  simpa using hv
theorem vec_new {h : Mem} {b : Nat} {cs : List Value} {e : TypeId} (hb : h[b]? = some (.cells cs.toArray e (0, 0))) : Vec h ⟨some ⟨b, 0, none⟩, cs.length, cs.length⟩ cs :=
  .inr ⟨b, [], rfl, e, by simpa using hb⟩
theorem at_lit {b i l c k : Nat} (h : At ⟨some ⟨b, i, none⟩, l, c⟩ k) : k = b := by
  obtain ⟨a, ha, rfl⟩ := h
  simp only [Option.some.injEq] at ha; subst ha; rfl

/-- the number without its lowest octets -/
def sh (n : Int) : Nat → Int
  | 0 => n
  | k + 1 => (sh n k).fdiv (2 ^ 8)
/-- the lowest octets first -/
def leB (k : Nat) (n : Int) : List Int := (List.range k).map fun i => IntKind.u8.wrap (sh n i)
theorem leB_succ (k : Nat) (n : Int) : leB (k + 1) n = leB k n ++ [IntKind.u8.wrap (sh n k)] := by simp [leB, List.range_succ]
theorem leB_len (k : Nat) (n : Int) : (leB k n).length = k := by simp [leB]
abbrev By (l : List Int) : List Value := encL (.int .u8) l
abbrev Is (l : List Int) : List Value := encL (.int .i64) l
theorem By_app (a b : List Int) : By (a ++ b) = By a ++ By b := List.map_append
theorem By_len (a : List Int) : (By a).length = a.length := by simp [encL]
theorem By_ones (a : List Int) : Ones (By a) := ones_enc _ _ (by simp)
theorem Is_ones (a : List Int) : Ones (Is a) := ones_enc _ _ (by simp)
theorem Is_len (a : List Int) : (Is a).length = a.length := by simp [encL]
theorem Is_app (a b : List Int) : Is (a ++ b) = Is a ++ Is b := List.map_append

theorem word_ct {τ : Nat → Nat} {s : Sl} {n m : Int} {h : Mem} {K : Sl → Mem → Prop} {xs : List Value} (hm : m = 2 ∨ m = 4 ∨ m = 8) (q : Holds h s xs) (ho : Ones xs) (hl : xs.length ≤ 2 ^ 36)
    (hK : ∀ r h', Vec h' r (xs ++ By (leB m.toNat n)) → New h r → Ext h h' → K r h') : octet_Word τ s n m h K := by
  have key : LoopP (σ := Int × Sl × Int) (fun nx1 l1 h =>
    ifB (decide (l1.2.2 < m)) (
      al (.cells #[(Value.int .u8 (IntKind.u8.wrap l1.1))] (τ 0)) h fun q7 h =>
      app (τ 0) #[(Value.int .u8 0)] 1 1 l1.2.1 (⟨(some (⟨q7, 0, none⟩ : Addr)), 1, 1⟩ : Sl) h fun s8 h =>
      nx1 ((l1.1.fdiv (2 ^ 8)), s8, (IntKind.i64.wrap (l1.2.2 + 1))) h)
    (al (.cells #[(Value.slice s.base s.len s.cap), (Value.slice l1.2.1.base l1.2.1.len l1.2.1.cap)] (τ 6)) h fun q9 h =>
      slices_Concat_byte_byte τ (⟨(some (⟨q9, 0, none⟩ : Addr)), 2, 2⟩ : Sl) h fun s10 h => K s10 h)) (n, (⟨none, 0, 0⟩ : Sl), 0) h := by
    refine loop_ct (fun l h' => ∃ k : Nat, l.2.2 = k ∧ k ≤ m.toNat ∧ l.1 = sh n k ∧ Vec h' l.2.1 (By (leB k n)) ∧ New h l.2.1 ∧ Ext h h') (fun l _ => (m - l.2.2).toNat)
      ⟨0, rfl, by omega, rfl, vec_nil h, new_nil h, Upd.refl _ _⟩ ?_
    rintro ⟨l1, l2, l3⟩ h1 ⟨k, rfl, hk, rfl, hv, hn, hE⟩
    dsimp only at hv hn ⊢
    refine ifB_c (fun hc => ?_) (fun hc => ?_)
    · have hkm : k < m.toNat := by simp at hc; omega
      refine al_ct fun h2 hb2 hE2 hs2 => ?_
      refine app_ct (hv.gete hE2) (holds_new 1 hb2) (by intro v hv; simp at hv; subst hv; rfl) (by simp [By_len, leB_len]; omega) (by simp [By_len, leB_len]; omega) fun r h3 hr hu hat => ?_
      rw [w64 (by omega) (by omega)]
      have hE13 : Ext h h3 := Upd.above (hE.ext hE2) hu hn
      refine ⟨⟨k + 1, by omega, by omega, rfl, by rw [leB_succ, By_app]; exact hr, ?_, hE13⟩, by omega⟩
      intro b hb
      rcases hat b hb with hb | hb
      · exact hn b hb
      · have := hE.sz; have := hE2.sz; omega
    · have hkm : k = m.toNat := by simp at hc; omega
      subst hkm
      refine al_ct fun h2 hb2 hE2 hs2 => ?_
      refine concat_byte_ct (L := [(s, xs), (l2, By (leB m.toNat n))]) ⟨holds_new 2 hb2, ?_⟩ ?_ (by simp) ?_ fun r h3 hr hnr hE3 => ?_
      · intro p hp
        simp only [List.mem_cons, List.not_mem_nil, or_false] at hp
        rcases hp with rfl | rfl
        · exact q.gete (hE.ext hE2)
        · exact hv.holds.gete hE2
      · intro p hp
        simp only [List.mem_cons, List.not_mem_nil, or_false] at hp
        rcases hp with rfl | rfl
        · exact ho
        · exact By_ones _
      · simp only [total, By_len, leB_len]; omega
      · refine hK r h3 ?_ (hnr.mono ((hE.ext hE2).sz)) ((hE.ext hE2).ext hE3)
        simpa [joined] using hr
  unfold octet_Word
  dsimp only
  rcases hm with rfl | rfl | rfl
  · exact ifB_t rfl (ifB_t rfl key)
  · exact ifB_f rfl (ifB_t rfl (ifB_t rfl key))
  · exact ifB_f rfl (ifB_f rfl (ifB_t rfl key))

/-- a number's octets, seven bits each -/
def numB : Nat → Int → List Int
  | 0, n => [IntKind.u8.wrap n]
  | f + 1, n => if n ≥ 128 then bits .or .u8 (IntKind.u8.wrap n) 128 :: numB f (n.fdiv (2 ^ 7)) else [IntKind.u8.wrap n]
theorem numB_len (f : Nat) : ∀ n, (numB f n).length ≤ f + 1 := by
  induction f with
  | zero => intro n; simp [numB]
  | succ f ih => intro n; simp only [numB]; split <;> simp; exact ih _
theorem number_ct {τ : Nat → Nat} {s : Sl} {n : Int} {h : Mem} {K : Sl → Mem → Prop} {xs : List Value} (h0 : 0 ≤ n) (h1 : n < 18446744073709551616) (q : Holds h s xs) (ho : Ones xs) (hl : xs.length ≤ 2 ^ 36)
    (hK : ∀ r h', Vec h' r (xs ++ By (numB 9 n)) → New h r → Ext h h' → K r h') : octet_Number τ s n h K := by
  refine clone_byte_ct q ho (by omega) fun r0 hh0 hv0 hn0 hE0 _ => ?_
  refine loop_ct (fun l h' => ∃ (k : Nat) (d : List Int), d.length + k = 9 ∧ 0 ≤ l.2 ∧ l.2 < 2 * 128 ^ k ∧ numB 9 n = d ++ numB k l.2 ∧ Vec h' l.1 (xs ++ By d) ∧ New h l.1 ∧ Ext h h') (fun l _ => l.2.toNat)
    ⟨9, [], rfl, h0, by dsimp only; omega, rfl, by simpa [encL] using hv0, hn0, hE0⟩ ?_
  rintro ⟨l1, l2⟩ h2 ⟨k, d, hdk, hl0, hlt, heq, hv, hn, hE⟩
  dsimp only at hl0 hlt heq hv hn ⊢
  have hf : l2.fdiv (2 ^ 7) = l2 / 128 := by rw [Int.fdiv_eq_ediv_of_nonneg]; rfl; omega
  refine ifB_c (fun hc => ?_) (fun hc => ?_)
  · have hc' : l2 ≥ 128 := by simpa using hc
    cases k with
    | zero => simp at hlt; omega
    | succ k =>
      refine al_ct fun h3 hb3 hE3 hs3 => ?_
      refine app_ct (hv.gete hE3) (holds_new 1 hb3) (by intro v hv; simp at hv; subst hv; rfl) (by simp [By_len]; omega) (by simp [By_len]; omega) fun r h4 hr hu hat => ?_
      refine ⟨⟨k, d ++ [bits .or .u8 (IntKind.u8.wrap l2) 128], by simp; omega, by rw [hf]; omega, ?_, ?_, ?_, ?_, Upd.above (hE.ext hE3) hu hn⟩, by rw [hf]; omega⟩
      · rw [hf]; rw [Int.pow_succ] at hlt; omega
      · rw [heq]; simp only [numB, if_pos hc', List.append_assoc, List.cons_append, List.nil_append]
      · rw [By_app, ← List.append_assoc]; exact hr
      · intro b hb
        rcases hat b hb with hb | hb
        · exact hn b hb
        · have := hE.sz; have := hE3.sz; omega
  · have hc' : ¬ l2 ≥ 128 := by simpa using hc
    refine al_ct fun h3 hb3 hE3 hs3 => ?_
    refine app_ct (hv.gete hE3) (holds_new 1 hb3) (by intro v hv; simp at hv; subst hv; rfl) (by simp [By_len]; omega) (by simp [By_len]; omega) fun r h4 hr hu hat => ?_
    refine hK r h4 ?_ ?_ (Upd.above (hE.ext hE3) hu hn)
    · have : numB k l2 = [IntKind.u8.wrap l2] := by cases k <;> simp [numB, hc']
      rw [heq, this, By_app, ← List.append_assoc]; exact hr
    · intro b hb
      rcases hat b hb with hb | hb
      · exact hn b hb
      · have := hE.sz; have := hE3.sz; omega
end Go.TS
/- Contracts: crc. -/
namespace Go.TS
open Go
set_option linter.unusedVariables false

theorem bits_u8 (op : BinOp) (a b : Int) : 0 ≤ bits op .u8 a b ∧ bits op .u8 a b < 256 := by unfold bits; rw [IntKind.wrap_u8]; omega
theorem bits_u32 (op : BinOp) (a b : Int) : 0 ≤ bits op .u32 a b ∧ bits op .u32 a b < 4294967296 := by unfold bits; rw [IntKind.wrap_u32]; omega

/-- one round of the table -/
def crcT1 (w : Int) : Int := if (bits .and .u32 w 1 == 1) = true then bits .xor .u32 (w.fdiv (2 ^ 1)) 2197175160 else w.fdiv (2 ^ 1)
def crcW : Nat → Int → Int
  | 0, w => w
  | k + 1, w => crcT1 (crcW k w)
def crcTab : List Int := (List.range 256).map fun i => crcW 8 (IntKind.u32.wrap (i : Nat))
theorem crcTab_len : crcTab.length = 256 := by simp [crcTab]
theorem crcTab_get {k : Nat} (hk : k < 256) : crcTab[k]? = some (crcW 8 (IntKind.u32.wrap k)) := by simp [crcTab, hk]
abbrev crcArr : Array Value := (encL (.int .u32) crcTab).toArray

theorem ixA_ct {b n : Nat} {i : Int} {K : Addr → Prop} (h0 : 0 ≤ i) (hn : i < n) (hK : K ⟨b, i.toNat, none⟩) : ixA ⟨b, 0, none⟩ n i 1 K := by
  refine ⟨h0, hn, ?_⟩; rw [add_n, Nat.zero_add, Nat.mul_one]; exact hK
theorem ldA_ct {b n : Nat} {h : Mem} {K : Array Value → Prop} {cs : List Value} (p : Blk h b cs) (hn : cs.length = n) (hK : K cs.toArray) : ldA n ⟨b, 0, none⟩ h K :=
  ⟨cs.toArray, by simpa using hn, fun i v hv => by rw [add_n, Nat.zero_add, p.rd]; simpa using hv, hK⟩
theorem stA_ct {b : Nat} {h : Mem} {K : Mem → Prop} {cs vs : List Value} (p : Blk h b cs) (hn : vs.length = cs.length) (ho : Ones vs) (hK : ∀ h', Blk h' b vs → Upd (· = b) h h' → h'.size = h.size → K h') : stA vs ⟨b, 0, none⟩ h K := by
  obtain ⟨h1, h2, h3⟩ := wrs_blk (o := 0) vs 0 p (by omega)
  refine ⟨room_blk p (by omega), ho, hK _ ?_ h2 h3⟩
  have : over cs (0 + 0) vs = vs := by simp [over, hn]
  rw [this] at h1; exact h1

theorem rep_arr (n : Nat) (z : Value) : Array.replicate n z = (List.replicate n z).toArray := (List.toArray_replicate ..).symm
set_option maxRecDepth 20000 in
theorem table_crc_ct {τ : Nat → Nat} {h : Mem} {K : Array Value → Mem → Prop} (hK : ∀ h', Ext h h' → K crcArr h') : crc_Table τ h K := by
  refine al_ct fun h1 hb1 hE1 hs1 => ?_
  rw [rep_arr] at hb1
  obtain ⟨N, hN⟩ : ∃ N : Nat, N = 256 := ⟨_, rfl⟩
  have hblk0 : Blk h1 h.size (List.replicate (N - 0) (.int .u32 0)) := ⟨τ 9, by rw [hN]; exact hb1⟩
  refine loop_ct (fun l h' => ∃ k : Nat, l = k ∧ k ≤ 256 ∧ Blk h' h.size (encL (.int .u32) (crcTab.take k) ++ List.replicate (N - k) (.int .u32 0)) ∧ Ext h h') (fun l _ => (256 - l).toNat)
    ⟨0, rfl, by omega, by rw [List.take_zero]; exact hblk0, hE1⟩ ?_
  rintro l h2 ⟨k, rfl, hk, hb, hE⟩
  refine ifB_c (fun hc => ?_) (fun hc => ?_)
  · have hk' : k < 256 := by simp at hc; omega
    refine loop_ct (fun l h' => h' = h2 ∧ ∃ j : Nat, l.2 = j ∧ j ≤ 8 ∧ l.1 = crcW j (IntKind.u32.wrap k)) (fun l _ => (8 - l.2).toNat) ⟨rfl, 0, rfl, by omega, rfl⟩ ?_
    rintro ⟨w, j'⟩ h3 ⟨hh, j, rfl, hj, rfl⟩
    subst hh
    dsimp only
    refine ifB_c (fun hc => ?_) (fun hc => ?_)
    · have hj8 : j < 8 := by simp at hc; omega
      rw [w64 (by omega) (by omega)]
      refine ifB_c (fun hc => ?_) (fun hc => ?_)
      · exact ⟨⟨rfl, j + 1, by omega, by omega, by simp only [crcW, crcT1]; rw [if_pos hc]⟩, by omega⟩
      · exact ⟨⟨rfl, j + 1, by omega, by omega, by simp only [crcW, crcT1]; rw [if_neg (by rw [hc]; simp)]⟩, by omega⟩
    · have hj8 : j = 8 := by simp at hc; omega
      subst hj8
      refine ixA_ct (by omega) (by omega) ?_
      refine st_ct hb (by simp [encL, crcTab_len]; omega) fun h4 hb4 hu4 hs4 => ?_
      rw [w64 (by omega) (by omega)]
      refine ⟨⟨k + 1, by omega, by omega, ?_, hE.trans hu4 (fun b hb' hbb => by omega)⟩, by omega⟩
      have : (encL (.int .u32) (crcTab.take k) ++ List.replicate (N - k) (Value.int .u32 0)).set (k : Int).toNat (Value.int .u32 (crcW 8 (IntKind.u32.wrap k))) = encL (.int .u32) (crcTab.take (k + 1)) ++ List.replicate (N - (k + 1)) (.int .u32 0) := by
        rw [List.take_add_one, crcTab_get hk']
        have hl : (encL (.int .u32) (crcTab.take k)).length = k := by simp [encL, crcTab_len]; omega
        rw [List.set_append_right _ _ (by rw [hl]; simp), hl, show N - k = (N - (k + 1)) + 1 by omega, List.replicate_succ]
        simp [encL, Kind.enc]
      rw [this] at hb4; exact hb4
  · have hk' : k = 256 := by simp at hc; omega
    subst hk'
    have hb' : Blk h2 h.size (encL (.int .u32) crcTab) := by
      have : crcTab.take 256 = crcTab := List.take_of_length_le (by rw [crcTab_len]; exact Nat.le_refl _)
      rw [this, hN] at hb; simpa using hb
    have hlen : (encL (.int .u32) crcTab).length = 256 := by simp [encL, crcTab_len]
    refine ldA_ct hb' hlen ⟨by simpa using hlen, ?_⟩
    refine stA_ct hb' rfl (ones_enc _ _ (by simp)) fun h3 hb3 hu3 hs3 => ?_
    refine ldA_ct hb3 hlen (hK h3 (hE.trans hu3 (fun b hb' hbb => by omega)))

def crcStep (T : List Int) (s b : Int) : Int := bits .xor .u32 (T.getD (bits .xor .u8 (IntKind.u8.wrap s) b).toNat 0) (s.fdiv (2 ^ 8))
def crcOn (T : List Int) (n : Int) (bs : List Int) : Int := bits .xor .u32 4294967295 (bs.foldl (crcStep T) (bits .xor .u32 4294967295 n))
def crcAll (T : List Int) (L : List (List Int)) : Int := L.foldl (crcOn T) 0
theorem on1_ct {τ : Nat → Nat} {T : List Int} {n : Int} {s : Sl} {h : Mem} {K : Int → Mem → Prop} {bs : List Int} (hT : T.length = 256) (q : Holds h s (By bs)) (hl : bs.length ≤ 2 ^ 40)
    (hK : ∀ h', Ext h h' → K (crcOn T n bs) h') : crc_On τ (encL (.int .u32) T).toArray n s h K := by
  refine al_ct fun h1 hb1 hE1 hs1 => ?_
  have hblk : Blk h1 h.size (encL (.int .u32) T) := ⟨τ 9, hb1⟩
  have hlen : s.len = bs.length := by rw [q.1, By_len]
  refine loop_ct (fun l h' => h' = h1 ∧ ∃ k : Nat, l.2 = k ∧ k ≤ bs.length ∧ l.1 = (bs.take k).foldl (crcStep T) (bits .xor .u32 4294967295 n)) (fun l _ => (bs.length - l.2).toNat) ⟨rfl, 0, rfl, by omega, rfl⟩ ?_
  rintro ⟨st, k'⟩ h2 ⟨hh, k, rfl, hk, rfl⟩
  subst hh
  dsimp only
  refine ifB_c (fun hc => ?_) (fun hc => ?_)
  · have hkl : k < bs.length := by simp [hlen] at hc; omega
    refine ixld_ct (k := .int .u8) (q.gete hE1) (by omega) bs[k] (by simp [encL, hkl, Kind.enc]) ?_
    have hr := bits_u8 .xor (IntKind.u8.wrap ((bs.take k).foldl (crcStep T) (bits .xor .u32 4294967295 n))) bs[k]
    refine ixA_ct hr.1 (by omega) ?_
    refine ld_ct (k := .int .u32) (T.getD (bits .xor .u8 (IntKind.u8.wrap ((bs.take k).foldl (crcStep T) (bits .xor .u32 4294967295 n))) bs[k]).toNat 0) ?_ ?_
    · rw [hblk.rd]
      simp only [encL, List.getElem?_map]
      rw [List.getD_eq_getElem?_getD, List.getElem?_eq_getElem (by omega)]
      rfl
    · rw [w64 (by omega) (by omega)]
      refine ⟨⟨rfl, k + 1, by omega, by omega, ?_⟩, by omega⟩
      rw [List.take_add_one, List.getElem?_eq_getElem hkl]
      simp only [Option.toList_some, List.foldl_append, List.foldl_cons, List.foldl_nil]
      rfl
  · have hkl : k = bs.length := by simp [hlen] at hc; omega
    subst hkl
    rw [List.take_length]
    exact hK _ hE1

def Bl (L : List (Sl × List Int)) : List (Sl × List Value) := L.map fun p => (p.1, By p.2)
theorem on_ct {τ : Nat → Nat} {T : List Int} {s : Sl} {h : Mem} {K : Int → Mem → Prop} {L : List (Sl × List Int)} (hT : T.length = 256) (q : Lists h s (Bl L)) (hl : L.length ≤ 2 ^ 40) (hl2 : ∀ p, p ∈ L → p.2.length ≤ 2 ^ 40)
    (hK : ∀ h', Ext h h' → K (crcAll T (L.map (·.2))) h') : crc_on τ (encL (.int .u32) T).toArray s h K := by
  refine al_ct fun h1 hb1 hE1 hs1 => ?_
  have hblk : Blk h1 h.size (encL (.int .u32) T) := ⟨τ 9, hb1⟩
  have hlen : s.len = L.length := by rw [q.1.1]; simp [Bl]
  refine loop_ct (fun l h' => Ext h1 h' ∧ ∃ k : Nat, l.2 = k ∧ k ≤ L.length ∧ l.1 = crcAll T ((L.map (·.2)).take k)) (fun l _ => (L.length - l.2).toNat) ⟨Upd.refl _ _, 0, rfl, by omega, rfl⟩ ?_
  rintro ⟨st, k'⟩ h2 ⟨hE2, k, rfl, hk, rfl⟩
  dsimp only
  refine ifB_c (fun hc => ?_) (fun hc => ?_)
  · have hkl : k < L.length := by simp [hlen] at hc; omega
    refine ixld_ct (k := .sl) (q.1.gete (hE1.ext hE2)) (by omega) L[k].1 (by simp [Bl, hkl, Kind.enc]) ?_
    refine ldA_ct (hblk.gete hE2) (by simp [encL, hT]) ?_
    have hmem : (L[k].1, By L[k].2) ∈ Bl L := List.mem_map.2 ⟨L[k], List.getElem_mem hkl, rfl⟩
    refine on1_ct hT ((q.2 _ hmem).gete (hE1.ext hE2)) (hl2 _ (List.getElem_mem hkl)) fun h3 hE3 => ?_
    rw [w64 (by omega) (by omega)]
    refine ⟨⟨hE2.ext hE3, k + 1, by omega, by omega, ?_⟩, by omega⟩
    rw [List.take_add_one, List.getElem?_map, List.getElem?_eq_getElem hkl]
    simp only [Option.map_some, Option.toList_some, crcAll, List.foldl_append, List.foldl_cons, List.foldl_nil]
  · have hkl : k = L.length := by simp [hlen] at hc; omega
    subst hkl
    rw [List.take_of_length_le (by simp)]
    exact hK _ (hE1.ext hE2)
/-- the check sum of pieces -/
def crcSum (L : List (List Int)) : Int := crcAll crcTab L
theorem parts_ct {τ : Nat → Nat} {s : Sl} {h : Mem} {K : Int → Mem → Prop} {L : List (Sl × List Int)} (q : Lists h s (Bl L)) (hl : L.length ≤ 2 ^ 40) (hl2 : ∀ p, p ∈ L → p.2.length ≤ 2 ^ 40)
    (hK : ∀ h', Ext h h' → K (crcSum (L.map (·.2))) h') : crc_Parts τ s h K := by
  refine table_crc_ct fun h1 hE1 => ?_
  exact on_ct crcTab_len (q.gete hE1) hl hl2 fun h2 hE2 => hK h2 (hE1.ext hE2)
end Go.TS
/- Contracts: Disk.Flush: all sectors that are cached are laid over the disk's bytes, whatever order the map is gone through in. -/
namespace Go.TS
open Go
set_option linter.unusedVariables false

/-- cells laid over cells -/
def ovF (F : Nat → Value) (q : Nat × List Value) : Nat → Value := fun j => if q.1 ≤ j ∧ j < q.1 + q.2.length then (q.2[j - q.1]?).getD undef else F j
theorem ovF_in (F : Nat → Value) (q : Nat × List Value) {j : Nat} (h : q.1 ≤ j ∧ j < q.1 + q.2.length) : ovF F q j = (q.2[j - q.1]?).getD undef := if_pos h
theorem ovF_out (F : Nat → Value) (q : Nat × List Value) {j : Nat} (h : ¬ (q.1 ≤ j ∧ j < q.1 + q.2.length)) : ovF F q j = F j := if_neg h
theorem ovF_comm (F : Nat → Value) (x y : Nat × List Value) (h : x = y ∨ x.1 + x.2.length ≤ y.1 ∨ y.1 + y.2.length ≤ x.1) : ovF (ovF F x) y = ovF (ovF F y) x := by
  rcases h with rfl | h
  · rfl
  funext j
  unfold ovF
  by_cases h1 : y.1 ≤ j ∧ j < y.1 + y.2.length
  · by_cases h2 : x.1 ≤ j ∧ j < x.1 + x.2.length
    · omega
    · rw [if_pos h1, if_neg h2, if_pos h1]
  · by_cases h2 : x.1 ≤ j ∧ j < x.1 + x.2.length
    · rw [if_neg h1, if_pos h2, if_pos h2]
    · rw [if_neg h1, if_neg h2, if_neg h2, if_neg h1]
/-- an entry of the cache: its key, its slice, its stamp, its bytes -/
abbrev FlQ := (Int × Sl × Nat) × List Value
def flT (ob : Nat) (q : FlQ) : Nat × List Value := (ob + q.1.1.toNat * 512, q.2)
structure FlOk (h : Mem) (B cap : Nat) (q : FlQ) : Prop where
  lo : 0 ≤ q.1.1
  hi : (q.1.1.toNat + 1) * 512 ≤ cap
  sm : (q.1.1.toNat + 1) * 512 ≤ 2 ^ 40
  len : q.2.length = 512
  sl : q.1.2.1.len = 512
  cells : slCells h q.1.2.1 512 q.2
  ones : Ones q.2
  ne : ∀ a, q.1.2.1.base = some a → a.block ≠ B ∧ a.block < h.size
theorem rd_same {h h' : Mem} {a : Addr} (hs : h'[a.block]? = h[a.block]?) : rd h' a = rd h a := by unfold rd; rw [hs]
theorem rd_cells {h : Mem} {a : Addr} {v : Value} (hr : rd h a = some v) : ∃ cs e f, h[a.block]? = some (.cells cs e f) := by
  unfold rd at hr
  split at hr
  · rename_i cs e f hc; exact ⟨cs, e, f, hc⟩
  · cases hr
theorem inj_of_nodup_map {α β : Type} {f : α → β} : ∀ {l : List α}, (l.map f).Nodup → ∀ {x y : α}, x ∈ l → y ∈ l → f x = f y → x = y := by
  intro l
  induction l with
  | nil => intro _ x y hx; cases hx
  | cons a l ih =>
    intro h x y hx hy e
    simp only [List.map_cons, List.nodup_cons, List.mem_map, not_exists, not_and] at h
    rcases List.mem_cons.1 hx with ex | hx2
    · rcases List.mem_cons.1 hy with ey | hy2
      · rw [ex, ey]
      · exact absurd (by rw [← ex, e]) (h.1 y hy2)
    · rcases List.mem_cons.1 hy with ey | hy2
      · exact absurd (by rw [← ey, e]) (h.1 x hx2)
      · exact ih h.2 hx2 hy2 e
theorem flush_ct {τ : Nat → Nat} {d : Addr} {r B ob N clk : Nat} {sb : Sl} {m : Ents Sl} {Q : List FlQ} {cs : Array Value} {el : TypeId} {fr : Nat × Nat} {h : Mem} {K : Int → Mem → Prop}
    (hd0 : rd h d = some (Value.slice sb.base sb.len sb.cap)) (hd1 : rd h (d.add 1) = some (.map (some r))) (hd3 : rd h (d.add 3) = some (.pointer none))
    (hr : h[r]? = some (.map (encM .i64 Kind.sl.enc m) clk)) (hkeys : (m.map (·.1)).Nodup) (hst : (m.map (·.2.2)).Nodup) (hclk : ∀ s, s ∈ m.map (·.2.2) → s < clk)
    (hb : sb.base = some ⟨B, ob, none⟩) (hB : h[B]? = some (.cells cs el fr)) (hN : cs.size = N) (hfr : fr.1 = fr.2 ∨ N ≤ fr.1) (hin : ob + sb.cap ≤ N) (hdB : d.block ≠ B)
    (hQ : Q.map (·.1) = m) (hok : ∀ q, q ∈ Q → FlOk h B sb.cap q)
    (hK : ∀ h' cs', h'.size = h.size + 1 → h'[B]? = some (.cells cs' el fr) → cs'.size = N → (∀ j, j < N → cs'[j]? = some ((Q.map (flT ob)).foldl ovF (fun i => (cs[i]?).getD undef) j)) →
      h'[r]? = some (.map #[] clk) → (∀ x, x < h.size → x ≠ B → x ≠ r → h'[x]? = h[x]?) → st (d.add 2) (Value.slice none 0 0) h' fun h => K 0 h) :
    sector_Disk_Flush τ (some d) h K := by
  have hrB : r ≠ B := fun e => by rw [e, hB] at hr; cases hr
  have hrlt : r < h.size := lt_of_some hr
  have hBlt : B < h.size := lt_of_some hB
  obtain ⟨dc, de, df, hdc⟩ := rd_cells hd0
  have hdlt : d.block < h.size := lt_of_some hdc
  have hdr : d.block ≠ r := fun e => by rw [e, hr] at hdc; cases hdc
  have ab : ∀ n, (d.add n).block = d.block := fun n => add_block d n
  -- made, fails
  unfold sector_Disk_Flush sector_Disk_made
  refine ifB_t rfl ?_
  refine ld_ct (k := .map) (some r) hd1 ?_
  refine ifB_f rfl ?_
  unfold sector_Disk_fails
  refine ld_ct (k := .ptr) none hd3 ?_
  refine ifB_t rfl ?_
  refine ifB_f rfl ?_
  refine ⟨some r, hd1, ?_⟩
  refine ⟨_, clk, hr, ?_⟩
  -- the round's relation
  have hQn : (Q.map (·.1.2.2)).Nodup := by rw [← hQ, List.map_map] at hst; exact hst
  have hQk : (Q.map (·.1.1)).Nodup := by rw [← hQ, List.map_map] at hkeys; exact hkeys
  have hQnd : Q.Nodup := List.Pairwise.of_map _ (fun a b h e => h (by rw [e])) hQn
  have hes : ∀ e, e ∈ (encM .i64 Kind.sl.enc m).toList ↔ ∃ q, q ∈ Q ∧ e = ⟨.int .i64 q.1.1, Kind.sl.enc q.1.2.1, q.1.2.2⟩ := by
    intro e
    rw [← hQ]
    simp only [encM, List.map_map, List.mem_map, List.mem_toArray, Array.mem_toList_iff]
    constructor
    · rintro ⟨q, hq, rfl⟩; exact ⟨q, hq, rfl⟩
    · rintro ⟨q, hq, rfl⟩; exact ⟨q, hq, rfl⟩
  have hborn : ∀ e, e ∈ (encM .i64 Kind.sl.enc m).toList → e.born < clk := by
    intro e he
    obtain ⟨q, hq, rfl⟩ := (hes e).1 he
    exact hclk _ (by rw [← hQ, List.map_map]; exact List.mem_map_of_mem hq)
  have hbn : ((encM .i64 Kind.sl.enc m).toList.map (·.born)).Nodup := by
    have : (encM .i64 Kind.sl.enc m).toList.map (·.born) = m.map (·.2.2) := by simp [encM, Function.comp_def]
    rw [this]; exact hst
  have disj : ∀ x, x ∈ Q → ∀ y, y ∈ Q → x = y ∨ (flT ob x).1 + (flT ob x).2.length ≤ (flT ob y).1 ∨ (flT ob y).1 + (flT ob y).2.length ≤ (flT ob x).1 := by
    intro x hx y hy
    by_cases e : x.1.1 = y.1.1
    · left
      exact inj_of_nodup_map hQk hx hy e
    · right
      have := (hok x hx).lo
      have := (hok y hy).lo
      have h1 := (hok x hx).len
      have h2 := (hok y hy).len
      simp only [flT, h1, h2]
      omega
  unfold al
  refine loop_ct (σ := Unit) (fun _ h' => ∃ (S : List FlQ) (c0 : Nat) (cs' : Array Value), S.Nodup ∧ (∀ q, q ∈ S → q ∈ Q) ∧ h'.size = h.size + 1 ∧ clk ≤ c0 ∧ h'[h.size]? = some (.mapIter (some r) clk (S.map (·.1.2.2)).toArray c0) ∧
      h'[B]? = some (.cells cs' el fr) ∧ cs'.size = N ∧ (∀ j, j < N → cs'[j]? = some ((S.map (flT ob)).foldl ovF (fun i => (cs[i]?).getD undef) j)) ∧ (∀ x, x < h.size → x ≠ B → h'[x]? = h[x]?))
    (fun _ h' => match h'[h.size]? with | some (.mapIter _ _ seen _) => (leftOf (encM .i64 Kind.sl.enc m) seen).size | _ => 0) ?_ ?_
  · refine ⟨[], clk, cs, by simp, by simp, by simp, Nat.le_refl _, by simp, ?_, hN, ?_, ?_⟩
    · rw [Array.getElem?_push_lt hBlt, ← hB, Array.getElem?_eq_getElem hBlt]
    · intro j hj
      simp only [List.map_nil, List.foldl_nil]
      rw [Array.getElem?_eq_getElem (by omega)]; rfl
    · intro x hx _
      rw [Array.getElem?_push_lt hx, Array.getElem?_eq_getElem hx]
  rintro _ h' ⟨S, c0, cs', s1, s2, s3, s4, s5, s6, s7, s8, s9⟩
  have hr' : h'[r]? = some (.map (encM .i64 Kind.sl.enc m) clk) := by rw [s9 r hrlt hrB]; exact hr
  dsimp only
  refine ⟨r, clk, _, c0, _, clk, s5, hr', hborn, s4, fun hl => ?_, fun e he => ?_⟩
  · -- all is done
    refine ifB_f rfl ?_
    refine ⟨some r, by rw [rd_same (h := h) (by rw [ab, s9 _ hdlt hdB])]; exact hd1, ?_⟩
    refine ⟨_, clk, hr', ?_⟩
    have hperm : S.Perm Q := by
      refine (List.perm_ext_iff_of_nodup s1 hQnd).2 fun q => ⟨s2 q, fun hq => ?_⟩
      have hmem : (⟨.int .i64 q.1.1, Kind.sl.enc q.1.2.1, q.1.2.2⟩ : MapEntry) ∈ (encM .i64 Kind.sl.enc m).toList := (hes _).2 ⟨q, hq, rfl⟩
      have hnl : ¬ (⟨.int .i64 q.1.1, Kind.sl.enc q.1.2.1, q.1.2.2⟩ : MapEntry) ∈ leftOf (encM .i64 Kind.sl.enc m) (S.map (·.1.2.2)).toArray := by rw [hl]; simp
      simp only [leftOf, Array.mem_filter, not_and] at hnl
      have := hnl (by simpa using hmem)
      simp only [Bool.not_eq_true', Bool.not_eq_false, List.contains_toArray, List.contains_iff_mem, List.mem_map, decide_eq_true_eq, Bool.not_not] at this
      obtain ⟨q', hq', e⟩ : ∃ q', q' ∈ S ∧ q'.1.2.2 = q.1.2.2 := by simpa using this
      have := inj_of_nodup_map hQn (s2 q' hq') hq e
      rw [← this]; exact hq'
    refine hK _ cs' (by simp [s3]) (by rw [Array.getElem?_setIfInBounds_ne hrB]; exact s6) s7 ?_ (by rw [Array.getElem?_setIfInBounds_self_of_lt (by omega)]) ?_
    · intro j hj
      rw [s8 j hj]
      congr 1
      have := List.Perm.foldl_eq' (f := ovF) (hperm.map (flT ob)) (fun x hx y hy z => by
        obtain ⟨x', hx', rfl⟩ := List.mem_map.1 hx
        obtain ⟨y', hy', rfl⟩ := List.mem_map.1 hy
        refine ovF_comm z _ _ ?_
        rcases disj x' (s2 _ hx') y' (s2 _ hy') with e | e
        · exact .inl (by rw [e])
        · exact .inr e) (fun i => (cs[i]?).getD undef)
      rw [this]
    · intro x hx h1 h2
      rw [Array.getElem?_setIfInBounds_ne (Ne.symm h2)]; exact s9 x hx h1
  · -- a round
    refine ifB_t rfl ?_
    obtain ⟨hem, hec⟩ := mem_left he
    obtain ⟨q, hq, rfl⟩ := (hes e).1 hem
    have hqo := hok q hq
    have hqS : q ∉ S := fun hh => by
      have : (S.map (·.1.2.2)).toArray.contains q.1.2.2 = true := by simp; exact ⟨_, _, _, hh⟩
      simp only at hec
      rw [this] at hec; cases hec
    have hiter : (h'.setIfInBounds h.size (.mapIter (some r) clk ((S.map (·.1.2.2)).toArray.push q.1.2.2) clk))[h.size]? = some (.mapIter (some r) clk ((S.map (·.1.2.2)).toArray.push q.1.2.2) clk) := by
      rw [Array.getElem?_setIfInBounds_self_of_lt (by omega)]
    have hoth : ∀ x, x ≠ h.size → (h'.setIfInBounds h.size (.mapIter (some r) clk ((S.map (·.1.2.2)).toArray.push q.1.2.2) clk))[x]? = h'[x]? := fun x hx => Array.getElem?_setIfInBounds_ne (Ne.symm hx)
    generalize hh2 : h'.setIfInBounds h.size (.mapIter (some r) clk ((S.map (·.1.2.2)).toArray.push q.1.2.2) clk) = h2 at hiter hoth
    have hsz2 : h2.size = h.size + 1 := by rw [← hh2]; simp [s3]
    have hold : ∀ x, x < h.size → x ≠ B → h2[x]? = h[x]? := fun x hx hne => by rw [hoth x (by omega)]; exact s9 x hx hne
    have hB2 : h2[B]? = some (.cells cs' el fr) := by rw [hoth B (by omega)]; exact s6
    refine ⟨r, clk, _, _, clk, _, hiter, by rw [hold r hrlt hrB]; exact hr, hem, hbn, ?_⟩
    refine ⟨q.1.1, rfl, q.1.2.1, rfl, ?_⟩
    -- the sector
    have h0 := hqo.lo
    have h1 := hqo.hi
    have hsm := hqo.sm
    have hkk : (q.1.1.toNat : Int) = q.1.1 := Int.toNat_of_nonneg h0
    have e1 : IntKind.i64.wrap (q.1.1 * 512) = q.1.1 * 512 := w64 (by omega) (by omega)
    have e2 : IntKind.i64.wrap ((IntKind.i64.wrap (q.1.1 + 1)) * 512) = (q.1.1 + 1) * 512 := by rw [w64 (x := q.1.1 + 1) (by omega) (by omega), w64 (by omega) (by omega)]
    refine ⟨sb, by rw [rd_same (h := h) (hold _ hdlt hdB)]; exact hd0, ?_⟩
    rw [e1, e2]
    refine ⟨by omega, by omega, by omega, ?_⟩
    have hcut : sb.cut (q.1.1 * 512).toNat ((q.1.1 + 1) * 512).toNat 1 = ⟨some ⟨B, ob + q.1.1.toNat * 512, none⟩, 512, sb.cap - q.1.1.toNat * 512⟩ := by
      have t1 : (q.1.1 * 512).toNat = q.1.1.toNat * 512 := by omega
      have t2 : ((q.1.1 + 1) * 512).toNat = q.1.1.toNat * 512 + 512 := by omega
      unfold Sl.cut
      rw [t1, t2, if_neg (by omega), hb]
      have t3 : q.1.1.toNat * 512 + 512 - q.1.1.toNat * 512 = 512 := by omega
      rw [t3]
      simp only [Option.map_some, add_n, Nat.mul_one]
    rw [hcut]
    have hlen := hqo.len
    refine ⟨q.2, ?_, hqo.ones, ?_⟩
    · rw [hqo.sl]
      have hc := hqo.cells
      have hmn : min 512 512 * 1 = 512 := rfl
      show slCells h2 q.1.2.1 (min 512 512 * 1) q.2
      rw [hmn]
      unfold slCells at hc ⊢
      cases hbs : q.1.2.1.base with
      | none => rw [hbs] at hc; exact hc
      | some a =>
        rw [hbs] at hc
        obtain ⟨n1, n2⟩ := hqo.ne a hbs
        refine ⟨hc.1, fun i v hv => ?_⟩
        rw [rd_same (h := h) (by rw [add_block]; exact hold _ n2 n1)]
        exact hc.2 i v hv
    · dsimp only
      have hoff : ob + q.1.1.toNat * 512 + 512 ≤ N := by omega
      obtain ⟨cs2, w1, w2, w3, w4, w5⟩ := Go.XS.wrs_at q.2 h2 B (ob + q.1.1.toNat * 512) 0 cs' el fr hB2 (by omega)
      simp only [Nat.add_zero] at w3
      refine ⟨Go.XS.room_at hB2 s7 hfr (by omega), ?_⟩
      refine ⟨⟨S ++ [q], clk, cs2, ?_, ?_, ?_, Nat.le_refl _, ?_, w1, by omega, ?_, ?_⟩, ?_⟩
      · rw [List.nodup_append]
        refine ⟨s1, by simp, fun a ha b hb => ?_⟩
        simp at hb; subst hb
        intro e; subst e; exact hqS ha
      · intro x hx
        rcases List.mem_append.1 hx with hx | hx
        · exact s2 x hx
        · simp at hx; rw [hx]; exact hq
      · rw [w4]; exact hsz2
      · rw [w5 _ (by omega), hiter]
        simp
      · intro j hj
        rw [List.map_append, List.foldl_append]
        simp only [List.map_cons, List.map_nil, List.foldl_cons, List.foldl_nil]
        rw [← Array.getElem?_toList, w3]
        have hj8 := s8 j hj
        rw [← Array.getElem?_toList] at hj8
        have hl' : cs'.toList.length = N := by simp [s7]
        by_cases hc : ob + q.1.1.toNat * 512 ≤ j ∧ j < ob + q.1.1.toNat * 512 + 512
        · rw [ovF_in _ _ (by simp only [flT, hlen]; exact hc), List.getElem?_append_right (by rw [List.length_take]; omega), List.length_take, List.getElem?_append_left (by omega)]
          have : j - min (ob + q.1.1.toNat * 512) cs'.toList.length = j - (ob + q.1.1.toNat * 512) := by omega
          rw [this]
          simp only [flT]
          rw [List.getElem?_eq_getElem (by omega)]; rfl
        · rw [ovF_out _ _ (by simp only [flT, hlen]; exact hc)]
          rw [← hj8]
          by_cases hlt : j < ob + q.1.1.toNat * 512
          · rw [List.getElem?_append_left (by rw [List.length_take]; omega), List.getElem?_take, if_pos hlt]
          · rw [List.getElem?_append_right (by rw [List.length_take]; omega), List.getElem?_append_right (by rw [List.length_take]; omega), List.getElem?_drop]
            congr 1
            rw [List.length_take]; omega
      · intro x hx hne
        rw [w5 x hne]; exact hold x hx hne
      · rw [s5, w5 _ (by omega), hiter]
        have := left_shrinks _ _ _ he
        exact this
end Go.TS
/- Contracts: pages' bytes. -/
namespace Go.TS
open Go
set_option linter.unusedVariables false

theorem add_add' (a : Addr) (m n : Nat) : (a.add m).add n = a.add (m + n) := by
  unfold Addr.add
  by_cases hm : m = 0 <;> by_cases hn : n = 0 <;> simp [hm, hn, Nat.add_assoc]
theorem slc_ct {s : Sl} {lo hi : Int} {h : Mem} {K : Sl → Prop} {xs : List Value} (q : Holds h s xs) (hc : s.len ≤ s.cap) (h0 : 0 ≤ lo) (h1 : lo ≤ hi) (h2 : hi.toNat ≤ xs.length)
    (hK : ∀ s', Holds h s' ((xs.drop lo.toNat).take (hi.toNat - lo.toNat)) → s'.len = hi.toNat - lo.toNat → s'.len ≤ s'.cap → (∀ b, At s' b → At s b) → K s') : slc s lo hi 1 K := by
  have hl := q.1
  refine ⟨h0, h1, by omega, hK _ ⟨?_, ?_⟩ rfl ?_ ?_⟩
  · simp [Sl.cut]; omega
  · have h3 := q.2
    unfold slCells at h3 ⊢
    cases hb : s.base with
    | none =>
      rw [hb] at h3
      have : (s.cut lo.toNat hi.toNat 1).base = none := by simp [Sl.cut, hb]
      rw [this]; dsimp only at h3 ⊢; subst h3; simp
    | some a =>
      rw [hb] at h3
      dsimp only at h3
      by_cases hcap : s.cap = lo.toNat
      · have : (s.cut lo.toNat hi.toNat 1).base = some a := by simp [Sl.cut, hb, hcap]
        rw [this]
        dsimp only
        refine ⟨rfl, fun i v hv => ?_⟩
        have := (List.getElem?_eq_some_iff.1 hv).1
        simp at this; omega
      · have : (s.cut lo.toNat hi.toNat 1).base = some (a.add lo.toNat) := by simp [Sl.cut, hb, hcap]
        rw [this]
        dsimp only
        refine ⟨rfl, fun i v hv => ?_⟩
        have hi' := (List.getElem?_eq_some_iff.1 hv).1
        simp only [List.length_take, List.length_drop] at hi'
        rw [List.getElem?_take_of_lt (by omega), List.getElem?_drop] at hv
        have := h3.2 _ _ hv
        rw [add_add']; exact this
  · simp [Sl.cut]; omega
  · rintro b ⟨a, ha, rfl⟩
    simp only [Sl.cut] at ha
    split at ha
    · exact ⟨a, ha, rfl⟩
    · cases hb : s.base with
      | none => rw [hb] at ha; cases ha
      | some a0 =>
        rw [hb] at ha
        simp only [Option.map_some, Option.some.injEq] at ha
        subst ha
        exact ⟨a0, hb, by rw [add_block]⟩
theorem slc_blk {b o l c : Nat} {lo hi : Int} {K : Sl → Prop} (h0 : 0 ≤ lo) (h1 : lo ≤ hi) (h2 : hi ≤ c) (h3 : lo.toNat < c) (hK : K ⟨some ⟨b, o + lo.toNat, none⟩, hi.toNat - lo.toNat, c - lo.toNat⟩) : slc ⟨some ⟨b, o, none⟩, l, c⟩ lo hi 1 K := by
  refine ⟨h0, h1, h2, ?_⟩
  have : (⟨some ⟨b, o, none⟩, l, c⟩ : Sl).cut lo.toNat hi.toNat 1 = ⟨some ⟨b, o + lo.toNat, none⟩, hi.toNat - lo.toNat, c - lo.toNat⟩ := by
    simp only [Sl.cut]
    rw [if_neg (by omega)]
    simp only [Option.map_some, add_n, Nat.mul_one]
  rw [this]; exact hK
theorem zeros_eq (z : Value) (n : Nat) : zeros #[z] n = (List.replicate n z).toArray := by
  apply Array.ext'
  rw [← zeroCells_eq]
  simp [zeros, Builtin.zeroCells]
theorem mks_ct {t : TypeId} {z : Value} {bytes : Nat} {n : Int} {h : Mem} {K : Sl → Mem → Prop} (h0 : 0 ≤ n) (h1 : n ≤ 2 ^ 40) (h2 : bytes * n ≤ 2 ^ 40)
    (hK : ∀ h', Blk h' h.size (List.replicate n.toNat z) → Ext h h' → h'.size = h.size + 1 → K ⟨some ⟨h.size, 0, none⟩, n.toNat, n.toNat⟩ h') : mks t #[z] 1 bytes n n h K := by
  refine ⟨h0, by omega, h1, h2, by omega, ?_⟩
  rw [Nat.mul_one, zeros_eq]
  refine hK _ ⟨t, by simp⟩ ⟨by simp, fun b hb _ => ?_⟩ (by simp)
  rw [Array.getElem?_push_lt hb]; simp [hb]
theorem cpy_ct {b o dl dc : Nat} {x : Sl} {h : Mem} {K : Nat → Mem → Prop} {cs xs : List Value} (p : Blk h b cs) (q : Holds h x xs) (ho : Ones xs) (hl : o + min xs.length dl ≤ cs.length)
    (hK : ∀ h', Blk h' b (over cs o (xs.take (min xs.length dl))) → Upd (· = b) h h' → h'.size = h.size → K (min xs.length dl) h') : cpy 1 ⟨some ⟨b, o, none⟩, dl, dc⟩ x h K := by
  have hlen := q.1
  refine ⟨xs.take (min xs.length dl), ?_, fun v hv => ho v (List.mem_of_mem_take hv), ?_⟩
  · have h3 := q.2
    unfold slCells at h3 ⊢
    split
    · rename_i a ha
      rw [ha] at h3
      dsimp only at h3
      refine ⟨by rw [List.length_take, hlen]; dsimp only; omega, fun i v hv => ?_⟩
      have hi := (List.getElem?_eq_some_iff.1 hv).1
      rw [List.length_take] at hi
      rw [List.getElem?_take_of_lt (by omega)] at hv
      exact h3.2 i v hv
    · rename_i ha; rw [ha] at h3; dsimp only at h3; subst h3; simp
  · dsimp only
    have hl' : (xs.take (min xs.length dl)).length = min xs.length dl := by rw [List.length_take]; omega
    obtain ⟨h1, h2, h3⟩ := wrs_blk (o := o) (xs.take (min xs.length dl)) 0 p (by rw [hl']; omega)
    rw [hlen]
    exact ⟨room_blk p (by rw [hl']; omega), hK _ h1 h2 h3⟩

theorem By_take (l : List Int) (k : Nat) : (By l).take k = By (l.take k) := by simp [encL, List.map_take]
theorem By_drop (l : List Int) (k : Nat) : (By l).drop k = By (l.drop k) := by simp [encL, List.map_drop]
theorem By_rep (n : Nat) : List.replicate n (Value.int .u8 0) = By (List.replicate n 0) := by simp [encL, Kind.enc]
/-- of the bytes of a page: those that its check sum is of -/
def crcOfB (bs : List Int) : Int := crcSum [bs.take 12, [0, 0, 0, 0], bs.drop 16]
theorem crcOf_ct {τ : Nat → Nat} {s : Sl} {h : Mem} {K : Int → Mem → Prop} {bs : List Int} (q : Holds h s (By bs)) (hc : s.len ≤ s.cap) (hl : 16 ≤ bs.length) (hl2 : bs.length ≤ 2 ^ 36)
    (hK : ∀ h', Ext h h' → K (crcOfB bs) h') : page_crcOf τ s h K := by
  have hlen : s.len = bs.length := by rw [q.1, By_len]
  refine slc_ct q hc (by omega) (by omega) (by rw [By_len]; omega) fun s3 q3 _ _ a3 => ?_
  refine slc_ct q hc (by omega) (by omega) (by rw [By_len]; omega) fun s4 q4 _ _ a4 => ?_
  refine mks_ct (by omega) (by omega) (by omega) fun h1 hb1 hE1 hs1 => ?_
  refine al_ct fun h2 hb2 hE2 hs2 => ?_
  have q5 : Holds h1 ⟨some ⟨h.size, 0, none⟩, 4, 4⟩ (By [0, 0, 0, 0]) := by
    obtain ⟨e, he⟩ := hb1
    exact holds_new 4 he
  have e3 : ((By bs).drop (0 : Int).toNat).take ((12 : Int).toNat - (0 : Int).toNat) = By (bs.take 12) := by simp [By_take]
  have e4 : ((By bs).drop (16 : Int).toNat).take (((s.len : Int)).toNat - (16 : Int).toNat) = By (bs.drop 16) := by
    rw [By_drop, List.take_of_length_le]; rfl
    rw [By_len, List.length_drop, hlen]; simp
  rw [e3] at q3
  rw [e4] at q4
  refine parts_ct (L := [(s3, bs.take 12), (⟨some ⟨h.size, 0, none⟩, 4, 4⟩, [0, 0, 0, 0]), (s4, bs.drop 16)]) ⟨holds_new 3 hb2, ?_⟩ (by simp) ?_ fun h3 hE3 => hK h3 ((hE1.ext hE2).ext hE3)
  · intro p hp
    simp only [Bl, List.map_cons, List.map_nil, List.mem_cons, List.not_mem_nil, or_false] at hp
    rcases hp with rfl | rfl | rfl
    · exact q3.gete (hE1.ext hE2)
    · exact q5.gete hE2
    · exact q4.gete (hE1.ext hE2)
  · intro p hp
    simp only [List.mem_cons, List.not_mem_nil, or_false] at hp
    rcases hp with rfl | rfl | rfl
    · simp; omega
    · simp
    · simp; omega

def pgHead (k n : Int) : List Int := [84, 77, 1, IntKind.u8.wrap k] ++ leB 4 (IntKind.u64.wrap n) ++ List.replicate 4 0
def pgTail (bs : List Int) : List Int := bs ++ List.replicate (4080 - bs.length) 0
/-- a page's bytes -/
def pageB (k n : Int) (bs : List Int) : List Int := pgHead k n ++ leB 4 (IntKind.u64.wrap (crcSum [pgHead k n, [0, 0, 0, 0], pgTail bs])) ++ pgTail bs
theorem pgHead_len (k n : Int) : (pgHead k n).length = 12 := by simp [pgHead, leB_len]
theorem pgTail_len {bs : List Int} (h : bs.length ≤ 4080) : (pgTail bs).length = 4080 := by simp [pgTail]; omega
theorem pageB_len (k n : Int) {bs : List Int} (h : bs.length ≤ 4080) : (pageB k n bs).length = 4096 := by simp only [pageB, List.length_append, pgHead_len, leB_len, pgTail_len h]
theorem over_mid {a m b x : List Value} {i : Nat} (hi : i = a.length) (hx : x.length = m.length) : over (a ++ m ++ b) i x = a ++ x ++ b := by
  subst hi
  simp only [over, List.append_assoc, List.take_left', List.append_cancel_left_eq]
  rw [List.drop_append, List.drop_of_length_le (by omega)]
  simp [hx]

theorem pageBytes_ct {τ : Nat → Nat} {k n : Int} {s : Sl} {h : Mem} {K : Sl → Int → Mem → Prop} {bs : List Int} (q : Holds h s (By bs))
    (hbad : (k < 1 ∨ 7 < k ∨ 4080 < bs.length) → ∀ h', Ext h h' → K ⟨none, 0, 0⟩ 2 h')
    (hK : 1 ≤ k → k ≤ 7 → bs.length ≤ 4080 → ∀ r h', Vec h' r (By (pageB k n bs)) → New h r → Ext h h' → K r 0 h') : page_Bytes τ k n s h K := by
  have hlen : s.len = bs.length := by rw [q.1, By_len]
  refine al_ct fun h1 hb1 hE1 hs1 => ?_
  have hB : Blk h1 h.size [.int .i64 k, .int .u32 n, .slice s.base s.len s.cap] := ⟨τ 10, hb1⟩
  intro J1
  have hT : (k < 1 ∨ 7 < k ∨ 4080 < bs.length) → J1 true h1 := fun hb => ifB_t rfl (hbad hb h1 hE1)
  have hF : 1 ≤ k → k ≤ 7 → bs.length ≤ 4080 → J1 false h1 := by
    intro hk1 hk7 hbl
    refine ifB_f rfl ?_
    refine ld_ct (k := .int .i64) k (by rw [hB.rd]; rfl) ?_
    refine al_ct fun h2 hb2 hE2 hs2 => ?_
    refine ld_ct (k := .int .u32) n (by rw [(hB.gete hE2).rd]; rfl) ?_
    refine word_ct (.inr (.inl rfl)) (holds_new 4 hb2) (By_ones [84, 77, 1, IntKind.u8.wrap k]) (by simp) fun s14 h3 hv14 hn14 hE3 => ?_
    have hl14 : s14.len = 8 := by rw [hv14.len]; simp [encL, leB_len]
    have e14 : ([Value.int .u8 84, .int .u8 77, .int .u8 1, .int .u8 (IntKind.u8.wrap k)] : List Value) ++ By (leB (4 : Int).toNat (IntKind.u64.wrap n)) = By ([84, 77, 1, IntKind.u8.wrap k] ++ leB 4 (IntKind.u64.wrap n)) := by rw [By_app]; rfl
    rw [e14] at hv14
    obtain ⟨hd, hhd⟩ : ∃ hd, hd = [84, 77, 1, IntKind.u8.wrap k] ++ leB 4 (IntKind.u64.wrap n) := ⟨_, rfl⟩
    have hhdl : hd.length = 8 := by rw [hhd]; simp [leB_len]
    rw [← hhd] at hv14
    rw [hl14, w64 (by omega) (by omega)]
    obtain ⟨N, hN⟩ : ∃ N : Nat, N = 4088 := ⟨_, rfl⟩
    refine app0_ct hv14 rfl (by omega) (by rw [By_len]; omega) (by rw [By_len]; omega) fun s15 h4 hv15 hu4 hat15 => ?_
    have hNt : (4096 - ((8 : Nat) : Int)).toNat = N := by omega
    rw [hNt] at hv15
    have hx24 : Ext h2 h4 := Upd.above hE3 hu4 hn14
    rcases hv15 with ⟨_, hnil⟩ | ⟨b, js, hs15, hb15⟩
    · exfalso
      have := congrArg List.length hnil
      simp only [List.length_append, By_len, List.length_nil] at this; omega
    have hbn : h2.size ≤ b := by
      rcases hat15 b (by rw [hs15]; exact ⟨_, rfl, rfl⟩) with h | h
      · exact hn14 b h
      · have := hE3.sz; omega
    have hl15 : (By hd ++ List.replicate N (Value.int .u8 0)).length = 4096 := by rw [List.length_append, By_len, List.length_replicate]; omega
    rw [hl15] at hs15
    subst hs15
    refine slc_blk (by omega) (by dsimp only; omega) (by dsimp only; omega) (by omega) ?_
    refine ld_ct (k := .sl) s (by rw [(hB.gete (hE2.ext hx24)).rd]; rfl) ?_
    have hcs : By hd ++ List.replicate N (Value.int .u8 0) ++ js = (By hd ++ List.replicate 8 (Value.int .u8 0)) ++ List.replicate bs.length (Value.int .u8 0) ++ (List.replicate (4080 - bs.length) (Value.int .u8 0) ++ js) := by
      simp only [List.append_assoc, List.append_cancel_left_eq]
      rw [← List.append_assoc, ← List.append_assoc, List.replicate_append_replicate, List.replicate_append_replicate]
      congr 2; omega
    have hmin : min (By bs).length ((((4096 : Nat) : Int)).toNat - (16 : Int).toNat) = bs.length := by rw [By_len]; simp; omega
    refine cpy_ct hb15 (q.gete ((hE1.ext hE2).ext hx24)) (By_ones bs) (by rw [hmin, List.length_append, hl15]; simp; omega) fun h5 hb5 hu5 hs5 => ?_
    rw [hmin, List.take_of_length_le (by rw [By_len]; exact Nat.le_refl _), hcs, over_mid (by simp [By_len, hhdl]) (by simp [By_len])] at hb5
    have hpg : By hd ++ List.replicate 8 (Value.int .u8 0) ++ By bs ++ (List.replicate (4080 - bs.length) (Value.int .u8 0) ++ js) = By (pgHead k n ++ List.replicate 4 0 ++ pgTail bs) ++ js := by
      rw [By_rep, By_rep, pgHead, ← hhd]
      simp only [By_app, pgTail, ← List.append_assoc]
      congr 3
      simp only [List.append_assoc, ← By_app, List.replicate_append_replicate]
    rw [hpg] at hb5
    have hx25 : Ext h2 h5 := Upd.above hx24 hu5 (fun k hk => by omega)
    refine slc_blk (by omega) (by omega) (by omega) (by omega) ?_
    have hpl : (pgHead k n ++ List.replicate 4 0 ++ pgTail bs).length = 4096 := by simp [pgHead_len, pgTail_len hbl]
    have hv5 : Vec h5 ⟨some ⟨b, 0, none⟩, 4096, 4096 + js.length⟩ (By (pgHead k n ++ List.replicate 4 0 ++ pgTail bs)) := .inr ⟨b, js, by rw [By_len, hpl], hb5⟩
    refine crcOf_ct hv5.holds (by dsimp only; omega) (by omega) (by omega) fun h6 hE6 => ?_
    have hcrc : crcOfB (pgHead k n ++ List.replicate 4 0 ++ pgTail bs) = crcSum [pgHead k n, [0, 0, 0, 0], pgTail bs] := by
      unfold crcOfB
      rw [List.append_assoc, List.take_left' (pgHead_len k n)]
      congr 3
    rw [hcrc]
    refine word_ct (.inr (.inl rfl)) (holds_nil h6) ones_nil (by simp) fun s21 h7 hv21 hn21 hE7 => ?_
    rw [List.nil_append] at hv21
    have hb7 := hb5.gete (hE6.ext hE7)
    have hbl5 := hb5.lt
    have hmin2 : min (By (leB (4 : Int).toNat (IntKind.u64.wrap (crcSum [pgHead k n, [0, 0, 0, 0], pgTail bs])))).length ((16 : Int).toNat - (12 : Int).toNat) = 4 := by rw [By_len, leB_len]; rfl
    refine cpy_ct hb7 hv21.holds (By_ones _) (by rw [hmin2, List.length_append, By_len, hpl]; simp; omega) fun h8 hb8 hu8 hs8 => ?_
    refine hK hk1 hk7 hbl _ h8 (.inr ⟨b, js, by rw [By_len, pageB_len _ _ hbl], ?_⟩) ?_ ?_
    · rw [hmin2, List.take_of_length_le (by rw [By_len, leB_len]; exact Nat.le_refl _)] at hb8
      have : By (pgHead k n ++ List.replicate 4 0 ++ pgTail bs) ++ js = By (pgHead k n) ++ By (List.replicate 4 0) ++ (By (pgTail bs) ++ js) := by simp only [By_app, List.append_assoc]
      rw [this, over_mid (by rw [By_len, pgHead_len]; rfl) (by rw [By_len, By_len, leB_len, List.length_replicate]; rfl)] at hb8
      simp only [pageB, By_app, List.append_assoc] at hb8 ⊢; exact hb8
    · intro k hk; have := at_lit hk; have := hE1.sz; have := hE2.sz; omega
    · exact (hE1.ext hE2).ext (Upd.above (hx25.ext (hE6.ext hE7)) hu8 (fun k hk => by omega))
  refine ld_ct (k := .int .i64) k (by rw [hB.rd]; rfl) ?_
  refine ifB_c (fun hc => hT (.inl (by simpa using hc))) (fun hc1 => ?_)
  refine ld_ct (k := .int .i64) k (by rw [hB.rd]; rfl) ?_
  refine ifB_c (fun hc => hT (.inr (.inl (by simpa using hc)))) (fun hc2 => ?_)
  refine ld_ct (k := .sl) s (by rw [hB.rd]; rfl) ?_
  simp only [decide_eq_false_iff_not, Int.not_lt] at hc1 hc2
  by_cases hb : 4080 < bs.length
  · rw [decide_eq_true (by omega)]; exact hT (.inr (.inr hb))
  · rw [decide_eq_false (by omega)]; exact hF (by omega) (by omega) (by omega)
end Go.TS
/- Contracts: octet's reader. -/
namespace Go.TS
open Go
set_option linter.unusedVariables false

/-- a sound reader: its object, what is left to read -/
def RdrJ (h : Mem) (b : Nat) (s : Sl) (bs : List Int) (pos : Nat) (js : List Value) : Prop :=
  Blk h b (.slice s.base s.len s.cap :: .int .i64 pos :: .int .i64 0 :: .bool true :: js) ∧ Holds h s (By bs) ∧ s.len ≤ s.cap ∧ ¬ At s b ∧ pos ≤ bs.length ∧ bs.length ≤ 2 ^ 36
abbrev Rdr (h : Mem) (b : Nat) (s : Sl) (bs : List Int) (pos : Nat) : Prop := RdrJ h b s bs pos []
theorem octetNew_ct {τ : Nat → Nat} {s : Sl} {h : Mem} {K : Option Addr → Mem → Prop} {bs : List Int} (q : Holds h s (By bs)) (hl : bs.length ≤ 2 ^ 36)
    (hK : ∀ b s' h', Rdr h' b s' bs 0 → h.size ≤ b → Ext h h' → K (some ⟨b, 0, none⟩) h') : octet_New τ s h K := by
  refine clone_byte_ct q (By_ones _) (by rw [By_len]; omega) fun r h1 hv hn hE _ => ?_
  refine al_ct fun h2 hb2 hE2 hs2 => ?_
  have hc : r.len ≤ r.cap := by
    rcases hv with ⟨rfl, _⟩ | ⟨b, js, rfl, _⟩
    · exact Nat.le_refl _
    · dsimp only; omega
  refine hK h1.size r h2 ⟨⟨τ 19, hb2⟩, hv.holds.gete hE2, hc, fun ha => ?_, by omega, hl⟩ hE.sz (hE.ext hE2)
  have := hv.lt _ ha; omega
theorem ready_ct {τ : Nat → Nat} {b : Nat} {s : Sl} {bs : List Int} {pos : Nat} {js : List Value} {h : Mem} {K : Bool → Mem → Prop} (q : RdrJ h b s bs pos js) (hK : K true h) : octet_Reader_ready τ (some ⟨b, 0, none⟩) h K := by
  unfold octet_Reader_ready octet_Reader_made
  refine ifB_t (B := _) rfl ?_
  refine ld_ct (k := .bool) true (by rw [add_n, q.1.rd]; rfl) ?_
  refine ifB_t rfl ?_
  refine ld_ct (k := .int .i64) 0 (by rw [add_n, q.1.rd]; rfl) ?_
  exact hK
theorem fixed_ct {τ : Nat → Nat} {b : Nat} {s : Sl} {bs : List Int} {pos : Nat} {js : List Value} {m : Nat} {h : Mem} {K : Sl → Mem → Prop} (q : RdrJ h b s bs pos js) (hm : pos + m ≤ bs.length)
    (hK : ∀ r h', Vec h' r (By ((bs.drop pos).take m)) → New h r → RdrJ h' b s bs (pos + m) js → Upd (· = b) h h' → K r h') : octet_Reader_Fixed τ (some ⟨b, 0, none⟩) m h K := by
  refine ready_ct q ?_
  obtain ⟨hB, hH, hc, hat, hp, hl⟩ := q
  have hlen : s.len = bs.length := by rw [hH.1, By_len]
  have hmx : mxI 0 (m : Int) = m := by unfold mxI; split <;> omega
  refine ifB_f rfl ?_
  refine ld_ct (k := .sl) s (by rw [hB.rd]; rfl) ?_
  refine ld_ct (k := .int .i64) pos (by rw [add_n, hB.rd]; rfl) ?_
  rw [hmx, w64 (by omega) (by omega)]
  refine ifB_f (by simp; omega) ?_
  refine ld_ct (k := .sl) s (by rw [hB.rd]; rfl) ?_
  refine ld_ct (k := .int .i64) pos (by rw [add_n, hB.rd]; rfl) ?_
  refine ld_ct (k := .int .i64) pos (by rw [add_n, hB.rd]; rfl) ?_
  rw [w64 (by omega) (by omega)]
  refine slc_ct hH hc (by omega) (by omega) (by rw [By_len]; omega) fun s15 q15 _ _ _ => ?_
  have e15 : ((By bs).drop (pos : Int).toNat).take (((pos : Int) + (m : Int)).toNat - (pos : Int).toNat) = By ((bs.drop pos).take m) := by
    rw [By_drop, By_take]
    congr 3; omega
  rw [e15] at q15
  refine al_ct fun h1 hb1 hE1 hs1 => ?_
  have hB1 := hB.gete hE1
  refine ⟨by rw [add_n, hB1.rd]; rfl, by rw [add_n, hB1.rd]; rfl, by rw [hB1.rd]; rfl, ?_⟩
  have hv1 : Vec h1 ⟨some ⟨h.size, 0, none⟩, 0, 0⟩ [] := .inr ⟨h.size, [], rfl, τ 0, hb1⟩
  have htl : ((bs.drop pos).take m).length = m := by rw [List.length_take, List.length_drop]; omega
  refine app_ct hv1 (q15.gete hE1) (By_ones _) (by rw [By_len, htl]; simp; omega) (by rw [By_len, htl]; simp; omega) fun r h2 hr2 hu2 hat2 => ?_
  rw [List.nil_append] at hr2
  have hE2 : Ext h h2 := Upd.above hE1 hu2 (fun k hk => by have := at_lit hk; omega)
  have hnr : New h r := fun k hk => by
    rcases hat2 k hk with h | h
    · have := at_lit h; omega
    · omega
  have hB2 := hB.gete hE2
  refine ld_ct (k := .int .i64) pos (by rw [add_n, hB2.rd]; rfl) ?_
  rw [w64 (by omega) (by omega)]
  show st (Addr.add ⟨b, 0, none⟩ 1) _ h2 _
  rw [add_n]
  refine st_ct hB2 (by simp) fun h3 hb3 hu3 hs3 => ?_
  have hbn := hB.lt
  refine hK r h3 (hr2.get hu3 (fun k hk hkb => by have := hnr k hk; omega)) hnr ⟨?_, (hH.gete hE2).get hu3 (fun k hk hkb => hat (hkb ▸ hk)), hc, hat, by omega, hl⟩ (Upd.of_ext hE2 hu3)
  have : ((pos : Int) + (m : Int)) = ((pos + m : Nat) : Int) := by omega
  simp only [this] at hb3
  exact hb3

/-- the number that octets make, the lowest first -/
def rdW (bs : List Int) : Int := (List.range bs.length).foldl (fun n i => bits .or .u64 n (IntKind.u64.wrap ((IntKind.u64.wrap (bs.getD i 0)) * 2 ^ (min (8 * i) 64)))) 0
theorem rword_ct {τ : Nat → Nat} {b : Nat} {s : Sl} {bs : List Int} {pos : Nat} {js : List Value} {m : Nat} {h : Mem} {K : Int → Mem → Prop} (q : RdrJ h b s bs pos js) (h248 : m = 2 ∨ m = 4 ∨ m = 8) (hm : pos + m ≤ bs.length)
    (hK : ∀ h', RdrJ h' b s bs (pos + m) js → Upd (· = b) h h' → K (rdW ((bs.drop pos).take m)) h') : octet_Reader_Word τ (some ⟨b, 0, none⟩) m h K := by
  refine ready_ct q ?_
  refine ifB_f rfl ?_
  have key : ∀ (J : Bool → Mem → Prop), J true h → ifB ((m : Int) == 2) (J ((m : Int) == 2) h) (ifB ((m : Int) == 4) (J ((m : Int) == 4) h) (J ((m : Int) == 8) h)) := by
    intro J hJ
    rcases h248 with rfl | rfl | rfl
    · exact hJ
    · exact hJ
    · exact hJ
  intro J1
  refine key J1 (ifB_t rfl ?_)
  refine fixed_ct q hm fun r h1 hv1 hn1 hq1 hu1 => ?_
  obtain ⟨xs, hxs⟩ : ∃ xs, xs = (bs.drop pos).take m := ⟨_, rfl⟩
  have htl : xs.length = m := by rw [hxs, List.length_take, List.length_drop]; omega
  rw [← hxs] at hv1 hK
  have hlr : r.len = m := by rw [hv1.len, By_len, htl]
  refine loop_ct (fun l h' => h' = h1 ∧ ∃ k : Nat, l.2 = k ∧ k ≤ m ∧ l.1 = (List.range k).foldl (fun n i => bits .or .u64 n (IntKind.u64.wrap ((IntKind.u64.wrap (xs.getD i 0)) * 2 ^ (min (8 * i) 64)))) 0) (fun (l : Int × Int) _ => ((m : Int) - l.2).toNat) ⟨rfl, 0, rfl, by omega, rfl⟩ ?_
  rintro ⟨l1, l2⟩ h2 ⟨hh, k, rfl, hk, rfl⟩
  subst hh
  dsimp only
  refine ifB_c (fun hc => ?_) (fun hc => ?_)
  · have hkm : k < m := by simp [hlr] at hc; omega
    refine ixld_ct (k := .int .u8) hv1.holds (by omega) (xs[k]'(by omega)) (by simp [encL, htl, hkm, Kind.enc]) ?_
    have hw : IntKind.i64.wrap (8 * (k : Int)) = ((8 * k : Nat) : Int) := by rw [w64 (by omega) (by omega)]; omega
    rw [hw]
    refine ifB_t (decide_eq_true (by omega)) ?_
    rw [w64 (by omega) (by omega), Int.toNat_natCast]
    refine ⟨⟨rfl, k + 1, by omega, by omega, ?_⟩, by omega⟩
    rw [List.range_succ, List.foldl_append]
    simp only [List.foldl_cons, List.foldl_nil]
    rw [show xs.getD k 0 = xs[k]'(by omega) by rw [List.getD_eq_getElem?_getD, List.getElem?_eq_getElem (by omega)]; rfl]
  · have hkm : k = m := by simp [hlr] at hc; omega
    have := hK h2 hq1 hu1
    unfold rdW at this
    rw [htl] at this
    rw [hkm]; exact this
end Go.TS
/- Contracts: buckets that are read. -/
namespace Go.TS
open Go
set_option linter.unusedVariables false

/-- a vector of our own, of elements of sz cells -/
def VecN (sz : Nat) (h : Mem) (s : Sl) (xs : List Value) : Prop :=
  (s = ⟨none, 0, 0⟩ ∧ xs = []) ∨ ∃ b js n m, s = ⟨some ⟨b, 0, none⟩, n, n + m⟩ ∧ xs.length = n * sz ∧ js.length = m * sz ∧ Blk h b (xs ++ js)
theorem vecN_nil (sz : Nat) (h : Mem) : VecN sz h ⟨none, 0, 0⟩ [] := .inl ⟨rfl, rfl⟩
theorem VecN.lt {sz : Nat} {h : Mem} {s : Sl} {xs : List Value} (p : VecN sz h s xs) : ∀ b, At s b → b < h.size := by
  rintro b ⟨a, ha, rfl⟩
  rcases p with ⟨rfl, rfl⟩ | ⟨b, js, n, m, rfl, _, _, hb⟩
  · cases ha
  · simp only [Option.some.injEq] at ha; subst ha; exact hb.lt
theorem VecN.get {sz : Nat} {S : Nat → Prop} {h h' : Mem} {s : Sl} {xs : List Value} (p : VecN sz h s xs) (u : Upd S h h') (hs : ∀ b, At s b → ¬ S b) : VecN sz h' s xs := by
  rcases p with ⟨rfl, rfl⟩ | ⟨b, js, n, m, rfl, h1, h2, hb⟩
  · exact vecN_nil sz h'
  · exact .inr ⟨b, js, n, m, rfl, h1, h2, hb.get u (hs b ⟨_, rfl, rfl⟩)⟩
theorem VecN.gete {sz : Nat} {h h' : Mem} {s : Sl} {xs : List Value} (p : VecN sz h s xs) (u : Ext h h') : VecN sz h' s xs := p.get u (fun _ _ h => h)
theorem VecN.len {sz : Nat} {h : Mem} {s : Sl} {xs : List Value} (p : VecN sz h s xs) : s.len * sz = xs.length := by
  rcases p with ⟨rfl, rfl⟩ | ⟨b, js, n, m, rfl, h1, _, _⟩
  · simp
  · exact h1.symm
theorem VecN.cells {sz : Nat} {h : Mem} {s : Sl} {xs : List Value} (p : VecN sz h s xs) : slCells h s (s.len * sz) xs := by
  rw [p.len]
  rcases p with ⟨rfl, rfl⟩ | ⟨b, js, n, m, rfl, _, _, hb⟩
  · exact rfl
  · refine ⟨rfl, fun i v hv => ?_⟩
    have hi : i < xs.length := (List.getElem?_eq_some_iff.1 hv).1
    rw [add_n, Nat.zero_add, hb.rd, List.getElem?_append_left hi]; exact hv
theorem VecN.rd {sz : Nat} {h : Mem} {s : Sl} {xs : List Value} (p : VecN sz h s xs) {i j : Nat} {v : Value} (hv : xs[i * sz + j]? = some v) : ∃ a, s.base = some a ∧ rd h ((a.add (i * sz)).add j) = some v := by
  rcases p with ⟨rfl, rfl⟩ | ⟨b, js, n, m, rfl, _, _, hb⟩
  · simp at hv
  · refine ⟨_, rfl, ?_⟩
    have hi : i * sz + j < xs.length := (List.getElem?_eq_some_iff.1 hv).1
    rw [add_n, add_n, Nat.zero_add, hb.rd, List.getElem?_append_left hi]; exact hv
theorem zeroCellsN_len (z : Array Value) (n : Nat) : (Builtin.zeroCells z n).toList.length = n * z.size := by simp [Builtin.zeroCells]
theorem appN_ct {t : TypeId} {z : Array Value} {sz bytes : Nat} {s x : Sl} {h : Mem} {K : Sl → Mem → Prop} {xs ys : List Value} (hz : z.size = sz) (p : VecN sz h s xs) (q : slCells h x (x.len * sz) ys) (hq : ys.length = x.len * sz) (hone : ∀ v, v ∈ ys → oneC v = true)
    (hb : (s.len + x.len) * bytes ≤ 2 ^ 40) (hb1 : s.len + x.len ≤ 2 ^ 40)
    (hK : ∀ s' h', VecN sz h' s' (xs ++ ys) → s'.len = s.len + x.len → Upd (At s) h h' → (∀ b, At s' b → At s b ∨ h.size ≤ b) → K s' h') : app t z sz bytes s x h K := by
  refine ⟨ys, q, hone, ?_, ?_⟩
  · intro hroom
    rcases p with ⟨rfl, rfl⟩ | ⟨b, js, n, m, rfl, h1, h2, hbk⟩
    · simp only [Nat.zero_add, Nat.le_zero_eq] at hroom
      have : ys = [] := by
        have := hq
        rw [hroom, Nat.zero_mul] at this
        exact List.length_eq_zero_iff.1 this
      subst this
      simp only [hroom]
      exact hK _ _ (vecN_nil sz h) (by simp [hroom]) (Upd.refl _ _) (fun b hb => .inl hb)
    · simp only at hroom ⊢
      simp only [add_n, Nat.zero_add]
      have hxm : x.len ≤ m := by omega
      have hle : x.len * sz ≤ m * sz := Nat.mul_le_mul_right _ hxm
      have hl : xs.length + ys.length ≤ (xs ++ js).length := by rw [List.length_append, h2, hq]; omega
      rw [← h1]
      refine ⟨room_blk hbk hl, ?_⟩
      obtain ⟨g1, g2, g3⟩ := wrs_blk (o := xs.length) ys 0 hbk (by simpa using hl)
      refine hK _ _ (.inr ⟨b, js.drop ys.length, n + x.len, m - x.len, ?_, ?_, ?_, ?_⟩) rfl (g2.mono ?_) ?_
      · congr 1; omega
      · rw [List.length_append, h1, hq, Nat.add_mul]
      · rw [List.length_drop, h2, hq, ← Nat.sub_mul]
      · have : over (xs ++ js) (xs.length + 0) ys = xs ++ ys ++ js.drop ys.length := by simp [over, List.drop_append]
        rw [this] at g1; exact g1
      · rintro k _ rfl; exact ⟨_, rfl, rfl⟩
      · rintro k ⟨a, ha, rfl⟩
        exact .inl ⟨a, ha, rfl⟩
  · intro hgrow
    refine ⟨hb1, hb, xs, p.cells, ?_⟩
    intro c hc
    have hK' := hK ⟨some ⟨h.size, 0, none⟩, s.len + x.len, c⟩ (h.push (.cells (xs.toArray ++ ys.toArray ++ Builtin.zeroCells z (c - (s.len + x.len))) t))
    refine hK' (.inr ⟨h.size, (Builtin.zeroCells z (c - (s.len + x.len))).toList, s.len + x.len, c - (s.len + x.len), ?_, ?_, ?_, t, ?_⟩) rfl ⟨by simp, fun b hb _ => ?_⟩ ?_
    · congr 1; omega
    · rw [List.length_append, ← p.len, hq, Nat.add_mul]
    · rw [zeroCellsN_len, hz]
    · simp
    · rw [Array.getElem?_push_lt hb]; simp [hb]
    · rintro k ⟨a, ha, rfl⟩
      simp only [Option.some.injEq] at ha
      subst ha; exact .inr (Nat.le_refl _)

abbrev RefT := Int × Int × Int
def refC (r : RefT) : List Value := [.int .u64 r.1, .int .i64 r.2.1, .int .i64 r.2.2]
def refsC (l : List RefT) : List Value := l.flatMap refC
theorem refsC_len (l : List RefT) : (refsC l).length = l.length * 3 := by
  induction l with
  | nil => rfl
  | cons a l ih => simp only [refsC, List.flatMap_cons, List.length_append] at ih ⊢; rw [ih]; simp [refC]; omega
theorem refsC_get : ∀ (l : List RefT) (i : Nat) (r : RefT), l[i]? = some r → (refsC l)[i * 3 + 0]? = some (.int .u64 r.1) ∧ (refsC l)[i * 3 + 1]? = some (.int .i64 r.2.1) ∧ (refsC l)[i * 3 + 2]? = some (.int .i64 r.2.2) := by
  intro l
  induction l with
  | nil => intro i r h; simp at h
  | cons a l ih =>
    intro i r h
    cases i with
    | zero => simp at h; subst h; exact ⟨rfl, rfl, rfl⟩
    | succ i =>
      have := ih i r (by simpa using h)
      have e : ∀ j, (refsC (a :: l))[(i + 1) * 3 + j]? = (refsC l)[i * 3 + j]? := by
        intro j
        show (refC a ++ refsC l)[(i + 1) * 3 + j]? = _
        rw [List.getElem?_append_right (by simp [refC]; omega)]
        congr 1
        simp [refC]; omega
      rw [e, e, e]; exact this
theorem refsC_app (a b : List RefT) : refsC (a ++ b) = refsC a ++ refsC b := by simp [refsC]
/-- lesser -/
def refLt (a b : RefT) : Prop := a.1 < b.1 ∨ (a.1 = b.1 ∧ (a.2.1 < b.2.1 ∨ (a.2.1 = b.2.1 ∧ a.2.2 < b.2.2)))
def refMay (r : RefT) : Prop := 0 ≤ r.2.1 ∧ r.2.1 < 65536 ∧ 0 ≤ r.2.2 ∧ r.2.2 ≤ 1023
theorem may_ct {τ : Nat → Nat} {r : RefT} {h : Mem} {K : Bool → Mem → Prop} (hm : refMay r) (hK : ∀ h', Ext h h' → K true h') : bucket_may τ r.2.1 r.2.2 h K := by
  refine al_ct fun h1 hb1 hE1 _ => ?_
  have B : Blk h1 h.size [.int .i64 r.2.1, .int .i64 r.2.2] := ⟨_, hb1⟩
  intro J1
  obtain ⟨m1, m2, m3, m4⟩ := hm
  refine ld_ct (k := .int .i64) r.2.1 (by rw [B.rd]; rfl) (ifB_t (decide_eq_true (by omega)) ?_)
  refine ld_ct (k := .int .i64) r.2.1 (by rw [B.rd]; rfl) (ifB_t (decide_eq_true (by omega)) ?_)
  refine ld_ct (k := .int .i64) r.2.2 (by rw [B.rd]; rfl) (ifB_t (decide_eq_true (by omega)) ?_)
  refine ld_ct (k := .int .i64) r.2.2 (by rw [B.rd]; rfl) ?_
  rw [decide_eq_true (by omega)]
  exact hK h1 hE1
def cmpZ (a b : Int) : Int := if a < b then -1 else if b < a then 1 else 0
theorem cmpU_ct {τ : Nat → Nat} {a b : Int} {h : Mem} {K : Int → Mem → Prop} (hK : K (cmpZ a b) h) : cmp_Compare_uint64 τ a b h K := by
  show ifB (a != a) _ _
  refine ifB_f (by simp) (ifB_f (by simp) ?_)
  unfold cmpZ at hK
  refine ifB_c (fun hc => ?_) (fun hc => ?_)
  · rw [if_pos (of_decide_eq_true hc)] at hK; exact hK
  · have hc' := of_decide_eq_false hc
    rw [if_neg hc'] at hK
    refine ifB_c (fun hd => ?_) (fun hd => ?_)
    · rw [if_pos (of_decide_eq_true hd)] at hK; exact hK
    · rw [if_neg (of_decide_eq_false hd)] at hK; exact hK
theorem cmpI_ct {τ : Nat → Nat} {a b : Int} {h : Mem} {K : Int → Mem → Prop} (hK : K (cmpZ a b) h) : cmp_Compare_int τ a b h K := by
  show ifB (a != a) _ _
  refine ifB_f (by simp) (ifB_f (by simp) ?_)
  unfold cmpZ at hK
  refine ifB_c (fun hc => ?_) (fun hc => ?_)
  · rw [if_pos (of_decide_eq_true hc)] at hK; exact hK
  · have hc' := of_decide_eq_false hc
    rw [if_neg hc'] at hK
    refine ifB_c (fun hd => ?_) (fun hd => ?_)
    · rw [if_pos (of_decide_eq_true hd)] at hK; exact hK
    · rw [if_neg (of_decide_eq_false hd)] at hK; exact hK
/-- the first that is not nought -/
def orZ : List Int → Int
  | [] => 0
  | a :: r => if a = 0 then orZ r else a
theorem orZ_drop (l : List Int) (i : Nat) (x : Int) (h : l[i]? = some x) : orZ (l.drop i) = if x = 0 then orZ (l.drop (i + 1)) else x := by
  have hi : i < l.length := (List.getElem?_eq_some_iff.1 h).1
  have hx : l[i] = x := (List.getElem?_eq_some_iff.1 h).2
  rw [List.drop_eq_getElem_cons hi, hx]; rfl
theorem or_ct {τ : Nat → Nat} {s : Sl} {l : List Int} {h : Mem} {K : Int → Mem → Prop} (q : Holds h s (Is l)) (hl : l.length ≤ 1000) (hK : K (orZ l) h) : cmp_Or_int τ s h K := by
  have hn : s.len = l.length := by have := q.1; rw [Is_len] at this; exact this
  refine loop_ct (σ := Int) (fun p h' => h' = h ∧ ∃ i : Nat, p = i ∧ i ≤ l.length ∧ orZ (l.drop i) = orZ l) (fun p _ => l.length - p.toNat) ⟨rfl, 0, rfl, Nat.zero_le _, rfl⟩ ?_
  rintro p h2 ⟨hh, i, rfl, hi, ho⟩
  subst hh
  refine ifB_c (fun hc => ?_) (fun hc => ?_)
  · have hlt : i < l.length := by have := of_decide_eq_true hc; rw [hn] at this; omega
    refine ixld_ct (k := .int .i64) q (by omega) l[i] (by simp [encL, Kind.enc, hlt]) ?_
    rw [orZ_drop l i l[i] (by simp [hlt])] at ho
    refine ifB_c (fun hx => ?_) (fun hx => ?_)
    · have : l[i] ≠ 0 := by simpa using hx
      rw [if_neg this] at ho
      rw [ho]; exact hK
    · have : l[i] = 0 := by simpa using hx
      rw [if_pos this] at ho
      rw [w64 (by omega) (by omega)]
      exact ⟨⟨rfl, i + 1, by omega, by omega, ho⟩, by omega⟩
  · have : ¬ ((i : Int) < (s.len : Int)) := of_decide_eq_false hc
    have : i = l.length := by omega
    subst this
    rw [List.drop_length] at ho
    have ho' : 0 = orZ l := ho
    rw [ho']; exact hK
theorem compare_ct {τ : Nat → Nat} {a b : RefT} {h : Mem} {K : Int → Mem → Prop} (hlt : refLt a b) (hK : ∀ h', Ext h h' → K (-1) h') : bucket_Compare τ a.1 a.2.1 a.2.2 b.1 b.2.1 b.2.2 h K := by
  refine al_ct fun h1 hb1 hE1 hs1 => al_ct fun h2 hb2 hE2 hs2 => ?_
  have A : Blk h1 h.size [.int .u64 a.1, .int .i64 a.2.1, .int .i64 a.2.2] := ⟨_, hb1⟩
  have B : Blk h2 h1.size [.int .u64 b.1, .int .i64 b.2.1, .int .i64 b.2.2] := ⟨_, hb2⟩
  have A2 := A.gete hE2
  refine ld_ct (k := .int .u64) a.1 (by rw [A2.rd]; rfl) ?_
  refine ld_ct (k := .int .u64) b.1 (by rw [B.rd]; rfl) ?_
  refine ld_ct (k := .int .i64) a.2.1 (by rw [A2.rd]; rfl) ?_
  refine ld_ct (k := .int .i64) b.2.1 (by rw [B.rd]; rfl) ?_
  refine ld_ct (k := .int .i64) a.2.2 (by rw [A2.rd]; rfl) ?_
  refine ld_ct (k := .int .i64) b.2.2 (by rw [B.rd]; rfl) ?_
  refine cmpU_ct ⟨by rw [B.rd]; rfl, by rw [A2.rd]; rfl, by rw [B.rd]; rfl, by rw [A2.rd]; rfl, ?_⟩
  refine cmpI_ct ⟨by rw [B.rd]; rfl, by rw [A2.rd]; rfl, ?_⟩
  refine cmpI_ct ?_
  refine al_ct fun h3 hb3 hE3 hs3 => ?_
  refine or_ct (l := [cmpZ a.1 b.1, cmpZ a.2.1 b.2.1, cmpZ a.2.2 b.2.2]) (holds_new 3 hb3) (by simp) ?_
  have : orZ [cmpZ a.1 b.1, cmpZ a.2.1 b.2.1, cmpZ a.2.2 b.2.2] = -1 := by
    unfold refLt at hlt
    simp only [orZ, cmpZ]
    rcases hlt with h1 | ⟨h1, h2 | ⟨h2, h3⟩⟩
    · simp [h1]
    · simp [h1, h2]
    · simp [h1, h2, h3]
  rw [this]
  exact hK h3 ((hE1.ext hE2).ext hE3)
end Go.TS
/- Contracts: a bucket's bytes are read. -/
namespace Go.TS
open Go
set_option linter.unusedVariables false
set_option linter.unusedSimpArgs false

theorem check_ct {τ : Nat → Nat} {n : Int} {s : Sl} {l : List RefT} {h : Mem} {K : Int → Mem → Prop} (q : VecN 3 h s (refsC l)) (hl : l.length ≤ 290) (hn : 0 ≤ n ∧ n ≤ 65536) (hm : ∀ r, r ∈ l → refMay r)
    (ho : ∀ (i : Nat) a b, l[i]? = some a → l[i + 1]? = some b → refLt a b) (hK : ∀ h', Ext h h' → K 0 h') : bucket_Check τ n s h K := by
  have hsl : s.len = l.length := by have := q.len; rw [refsC_len] at this; omega
  refine al_ct fun h1 hb1 hE1 hs1 => ?_
  have B : Blk h1 h.size [.int .i64 n, .slice s.base s.len s.cap] := ⟨_, hb1⟩
  have hBl : h.size < h1.size := B.lt
  intro J1
  refine ld_ct (k := .sl) s (by rw [B.rd]; rfl) ?_
  refine ifB_f (decide_eq_false (by omega)) ?_
  refine ld_ct (k := .int .i64) n (by rw [B.rd]; rfl) ?_
  refine ifB_f (decide_eq_false (show ¬ n < 0 by omega)) ?_
  refine ld_ct (k := .int .i64) n (by rw [B.rd]; rfl) ?_
  refine ifB_f (decide_eq_false (show ¬ n > 65536 by omega)) ?_
  refine ld_ct (k := .sl) s (by rw [B.rd]; rfl) ?_
  refine loop_ct (σ := Int) (fun p h' => Ext h1 h' ∧ ∃ i : Nat, p = i ∧ i ≤ l.length) (fun p _ => l.length - p.toNat) ⟨Upd.refl _ _, 0, rfl, Nat.zero_le _⟩ ?_
  rintro p h2 ⟨hE2, i, rfl, hi⟩
  refine ifB_c (fun hc => ?_) (fun hc => hK h2 (hE1.ext hE2))
  have hlt : i < l.length := by
    have := of_decide_eq_true hc
    rw [hsl] at this
    omega
  have B2 := B.gete hE2
  have q2 := q.gete (hE1.ext hE2)
  rcases q2 with ⟨_, e⟩ | ⟨b, js, n', m', hs, e1, e2, hb⟩
  · have := refsC_len l; rw [e] at this; simp at this; omega
  have G : ∀ (k j : Nat) v, (refsC l)[k * 3 + j]? = some v → rd h2 ⟨b, 0 + k * 3 + j, none⟩ = some v := by
    intro k j v hv
    have hlt := (List.getElem?_eq_some_iff.1 hv).1
    rw [hb.rd, Nat.zero_add, List.getElem?_append_left hlt]; exact hv
  obtain ⟨r1, r2, r3⟩ := refsC_get l i l[i] (by simp)
  have hsb : s.base = some ⟨b, 0, none⟩ := by rw [hs]
  refine ⟨⟨b, 0, none⟩, hsb, by omega, by omega, ?_⟩
  rw [Int.toNat_natCast, add_n]
  refine ld_ct (k := .int .u64) l[i].1 (G i 0 _ r1) ?_
  refine ld_ct (k := .int .i64) l[i].2.1 (by rw [add_n]; exact G i 1 _ r2) ?_
  refine ld_ct (k := .int .i64) l[i].2.2 (by rw [add_n]; exact G i 2 _ r3) ?_
  refine al_ct fun h3 hb3 hE3 hs3 => ?_
  have C3 : Blk h3 h2.size [.int .u64 0, .int .i64 0, .int .i64 0] := ⟨_, hb3⟩
  refine st_ct C3 (by simp) fun h4 C4 u4 s4 => ?_
  refine st_ct C4 (by simp) fun h5 C5 u5 s5 => ?_
  refine st_ct C5 (by simp) fun h6 C6 u6 s6 => ?_
  have hE6 : Ext h2 h6 := Upd.above hE3 ((u4.trans u5 (fun _ _ h => h)).trans u6 (fun _ _ h => h)) (fun b hb => by omega)
  have D6 : Blk h6 h2.size [.int .u64 l[i].1, .int .i64 l[i].2.1, .int .i64 l[i].2.2] := C6
  intro J2
  refine ld_ct (k := .int .i64) l[i].2.1 (by rw [D6.rd]; rfl) ?_
  refine ld_ct (k := .int .i64) l[i].2.2 (by rw [D6.rd]; rfl) ?_
  refine may_ct (r := l[i]) (hm _ (List.getElem_mem _)) fun h7 hE7 => ?_
  refine ifB_f rfl ?_
  have hE27 : Ext h2 h7 := hE6.ext hE7
  have D7 := D6.gete hE7
  have B7 := B2.gete hE27
  refine ifB_c (fun hd => ?_) (fun hd => ?_)
  · have hi0 : 0 < i := by have := of_decide_eq_true hd; omega
    refine ld_ct (k := .sl) s (by rw [B7.rd]; rfl) ?_
    rw [w64 (by omega) (by omega)]
    obtain ⟨i', rfl⟩ : ∃ i', i = i' + 1 := ⟨i - 1, by omega⟩
    obtain ⟨p1, p2, p3⟩ := refsC_get l i' (l[i']'(by omega)) (by simp)
    refine ⟨⟨b, 0, none⟩, hsb, by omega, by omega, ?_⟩
    have ei : (((i' + 1 : Nat) : Int) - 1).toNat = i' := by omega
    rw [ei, add_n]
    refine ld_ct (k := .int .u64) (l[i']'(by omega)).1 (rd_upd hE27 (G i' 0 _ p1) (fun h => h)) ?_
    refine ld_ct (k := .int .i64) (l[i']'(by omega)).2.1 (by rw [add_n]; exact rd_upd hE27 (G i' 1 _ p2) (fun h => h)) ?_
    refine ld_ct (k := .int .i64) (l[i']'(by omega)).2.2 (by rw [add_n]; exact rd_upd hE27 (G i' 2 _ p3) (fun h => h)) ?_
    refine ld_ct (k := .int .u64) l[i' + 1].1 (by rw [D7.rd]; rfl) ?_
    refine ld_ct (k := .int .i64) l[i' + 1].2.1 (by rw [D7.rd]; rfl) ?_
    refine ld_ct (k := .int .i64) l[i' + 1].2.2 (by rw [D7.rd]; rfl) ?_
    refine compare_ct (a := l[i']'(by omega)) (b := l[i' + 1]) (ho i' _ _ (by simp) (by simp)) fun h8 hE8 => ?_
    refine ifB_f (B := _) rfl ?_
    rw [w64 (by omega) (by omega)]
    exact ⟨⟨(hE2.ext hE27).ext hE8, i' + 1 + 1, by omega, by omega⟩, by omega⟩
  · refine ifB_f (B := _) rfl ?_
    rw [w64 (by omega) (by omega)]
    exact ⟨⟨hE2.ext hE27, i + 1, by omega, by omega⟩, by omega⟩

theorem RdrJ.get {S : Nat → Prop} {h h' : Mem} {b : Nat} {s : Sl} {bs : List Int} {pos : Nat} {js : List Value} (p : RdrJ h b s bs pos js) (u : Upd S h h') (hb : ¬ S b) (hs : ∀ k, At s k → ¬ S k) : RdrJ h' b s bs pos js :=
  ⟨p.1.get u hb, p.2.1.get u hs, p.2.2⟩
theorem RdrJ.gete {h h' : Mem} {b : Nat} {s : Sl} {bs : List Int} {pos : Nat} {js : List Value} (p : RdrJ h b s bs pos js) (u : Ext h h') : RdrJ h' b s bs pos js := p.get u (fun h => h) (fun _ _ h => h)
theorem err_ct {τ : Nat → Nat} {b : Nat} {s : Sl} {bs : List Int} {pos : Nat} {js : List Value} {h : Mem} {K : Int → Mem → Prop} (q : RdrJ h b s bs pos js) (hK : K 0 h) : octet_Reader_Err τ (some ⟨b, 0, none⟩) h K := by
  unfold octet_Reader_Err octet_Reader_made
  refine ifB_t (B := _) rfl ?_
  refine ld_ct (k := .bool) true (by rw [add_n, q.1.rd]; rfl) ?_
  refine ifB_f rfl ?_
  refine ld_ct (k := .int .i64) 0 (by rw [add_n, q.1.rd]; rfl) ?_
  exact hK
theorem left_ct {τ : Nat → Nat} {b : Nat} {s : Sl} {bs : List Int} {pos : Nat} {js : List Value} {h : Mem} {K : Int → Mem → Prop} (q : RdrJ h b s bs pos js) (hK : K ((bs.length - pos : Nat) : Int) h) : octet_Reader_Left τ (some ⟨b, 0, none⟩) h K := by
  unfold octet_Reader_Left octet_Reader_made
  have hp := q.2.2.2.2.1
  have hl := q.2.2.2.2.2
  have hsl : s.len = bs.length := by rw [q.2.1.1, By_len]
  refine ifB_t (B := _) rfl ?_
  refine ld_ct (k := .bool) true (by rw [add_n, q.1.rd]; rfl) ?_
  refine ifB_f rfl ?_
  refine ld_ct (k := .sl) s (by rw [q.1.rd]; rfl) ?_
  refine ld_ct (k := .int .i64) pos (by rw [add_n, q.1.rd]; rfl) ?_
  have e : IntKind.i64.wrap ((s.len : Int) - (pos : Int)) = ((bs.length - pos : Nat) : Int) := by rw [w64 (by omega) (by omega)]; omega
  rw [e]
  exact hK

def refOf (bs : List Int) (p : Nat) : RefT := (rdW ((bs.drop p).take 8), IntKind.i64.wrap (rdW ((bs.drop (p + 8)).take 4)), IntKind.i64.wrap (rdW ((bs.drop (p + 8 + 4)).take 2)))
def refsOf (bs : List Int) (n : Nat) : List RefT := (List.range n).map fun i => refOf bs (6 + 14 * i)
theorem refsOf_len (bs : List Int) (n : Nat) : (refsOf bs n).length = n := by simp [refsOf]
theorem refsOf_succ (bs : List Int) (n : Nat) : refsOf bs (n + 1) = refsOf bs n ++ [refOf bs (6 + 14 * n)] := by simp [refsOf, List.range_succ]

theorem bRead_ct {τ : Nat → Nat} {s : Sl} {h : Mem} {K : Int → Sl → Int → Mem → Prop} {bs : List Int} {n : Nat} {N : Int} (q : Holds h s (By bs)) (hcap : s.len ≤ s.cap) (hl : bs.length ≤ 2 ^ 36) (hn : n ≤ 290) (hlen : 6 + 14 * n ≤ bs.length)
    (hN : IntKind.i64.wrap (rdW ((bs.drop 0).take 4)) = N) (hNr : 0 ≤ N ∧ N ≤ 65536) (h0 : rdW ((bs.drop 4).take 2) = n) (hz : ∀ i : Nat, 6 + 14 * n ≤ i → i < bs.length → bs[i]? = some 0)
    (hm : ∀ r, r ∈ refsOf bs n → refMay r) (ho : ∀ (i : Nat) a b, (refsOf bs n)[i]? = some a → (refsOf bs n)[i + 1]? = some b → refLt a b)
    (hK : ∀ s' h', VecN 3 h' s' (refsC (refsOf bs n)) → s'.len = n → (n = 0 → s' = ⟨none, 0, 0⟩) → New h s' → Ext h h' → K N s' 0 h') : bucket_Read τ s h K := by
  refine al_ct fun h1 hb1 hE1 hs1 => ?_
  have D1 : Blk h1 h.size [.int .i64 0, .slice none 0 0] := ⟨_, hb1⟩
  refine octetNew_ct (q.gete hE1) hl fun b s2 h2 hr2 hb2 hE2 => ?_
  refine rword_ct (m := 4) hr2 (by simp) (by omega) fun h3 hr3 hu3 => ?_
  have hr3 : Rdr h3 b s2 bs 4 := hr3
  have hs2 : ∀ k, At s2 k → k < h3.size := hr3.2.1.lt (by intro e; have := congrArg List.length e; rw [By_len, List.length_nil] at this; omega)
  have hbl3 := hr3.1.lt
  rw [hN]
  have hE13 : Ext h1 h3 := Upd.above hE2 hu3 (fun k hk => by omega)
  refine al_ct fun h4 hb4 hE4 hs4 => ?_
  have C4 : Blk h4 h3.size [.int .i64 0, .slice none 0 0] := ⟨_, hb4⟩
  refine st_ct C4 (by simp) fun h5 C5 u5 s5 => ?_
  refine st_ct C5 (by simp) fun h6 C6 u6 s6 => ?_
  have hE36 : Ext h3 h6 := Upd.above hE4 (u5.trans u6 (fun _ _ h => h)) (fun k hk => by omega)
  have C6 : Blk h6 h3.size [.int .i64 N, .slice none 0 0] := C6
  refine rword_ct (m := 2) (hr3.gete hE36) (by simp) (by omega) fun h7 hr7 hu7 => ?_
  have hr7 : Rdr h7 b s2 bs 6 := hr7
  rw [h0]
  have C7 : Blk h7 h3.size [.int .i64 N, .slice none 0 0] := C6.get hu7 (by omega)
  have hE17 : Ext h1 h7 := Upd.above (hE13.ext hE36) hu7 (fun k hk => by have := hE2.sz; omega)
  have h37 : h3.size < h7.size := C7.lt
  refine loop_ct (σ := Int) (fun l h' => ∃ i : Nat, i ≤ n ∧ l = ((n - i : Nat) : Int) ∧ ∃ sv : Sl, Rdr h' b s2 bs (6 + 14 * i) ∧ Blk h' h3.size [.int .i64 N, .slice sv.base sv.len sv.cap] ∧ VecN 3 h' sv (refsC (refsOf bs i)) ∧ sv.len = i ∧ (i = 0 → sv = ⟨none, 0, 0⟩) ∧ (∀ k, At sv k → h7.size ≤ k) ∧ Ext h1 h' ∧ h7.size ≤ h'.size)
    (fun l _ => l.toNat) ⟨0, Nat.zero_le _, rfl, ⟨none, 0, 0⟩, hr7, C7, vecN_nil 3 h7, rfl, fun _ => rfl, (fun k hk => by obtain ⟨a, ha, _⟩ := hk; cases ha), hE17, Nat.le_refl _⟩ ?_
  rintro l g ⟨i, hi, rfl, sv, hr, C, hv, hvl, hv0, hva, hE, hsz⟩
  intro J1
  refine ifB_c (fun hc => ?_) (fun hc => ?_)
  · have hin : i < n := by have := of_decide_eq_true hc; omega
    refine err_ct hr ?_
    refine ifB_t (B := _) rfl ?_
    refine ld_ct (k := .sl) sv (by rw [C.rd]; rfl) ?_
    have ne : h3.size ≠ b := by omega
    refine rword_ct (m := 8) hr (by simp) (by omega) fun g1 hr1 hu1 => ?_
    have C1 := C.get hu1 ne
    refine ⟨by rw [C1.rd]; rfl, ?_⟩
    refine rword_ct (m := 4) hr1 (by simp) (by omega) fun g2 hr2' hu2 => ?_
    have C2 := C1.get hu2 ne
    refine ⟨by rw [C2.rd]; rfl, ?_⟩
    refine rword_ct (m := 2) hr2' (by simp) (by omega) fun g3 hr3' hu3' => ?_
    have C3 := C2.get hu3' ne
    refine ⟨by rw [C3.rd]; rfl, ?_⟩
    refine al_ct fun g4 hb4' hE4' hs4' => ?_
    have C4' := C3.gete hE4'
    refine ⟨by rw [C4'.rd]; rfl, ?_⟩
    have uG : Upd (· = b) g g3 := (hu1.trans hu2 (fun _ _ h => h)).trans hu3' (fun _ _ h => h)
    have hv4 : VecN 3 g4 sv (refsC (refsOf bs i)) := (hv.get uG (fun k hk => by have := hva k hk; omega)).gete hE4'
    have R4 : Blk g4 g3.size (refC (refOf bs (6 + 14 * i))) := ⟨_, hb4'⟩
    have hg3 : g.size ≤ g3.size := uG.sz
    refine appN_ct (z := #[Value.int .u64 0, Value.int .i64 0, Value.int .i64 0]) rfl hv4 (ys := refC (refOf bs (6 + 14 * i))) ?_ (by simp [refC]) ?_ (by simp only [hvl]; omega) (by simp only [hvl]; omega) fun s' g5 hv5 hl5 hu5 hat5 => ?_
    · refine ⟨by simp [refC], fun j v hj => ?_⟩
      rw [add_n, Nat.zero_add, R4.rd]; exact hj
    · intro v hv
      simp only [refC, List.mem_cons, List.not_mem_nil, or_false] at hv
      rcases hv with rfl | rfl | rfl <;> rfl
    have hs5 : ∀ k, At s' k → h7.size ≤ k := fun k hk => by
      rcases hat5 k hk with h8 | h8
      · exact hva k h8
      · have := hE4'.sz; omega
    have C5' := C4'.get hu5 (fun h8 => by have := hva _ h8; omega)
    refine st_ct C5' (by simp) fun g6 C6' u6' s6' => ?_
    have ew : IntKind.u64.wrap (((n - i : Nat) : Int) - 1) = ((n - (i + 1) : Nat) : Int) := by rw [IntKind.wrap_u64]; omega
    rw [ew]
    refine ⟨⟨i + 1, hin, rfl, s', ?_, C6', ?_, by simp only at hl5; omega, fun h8 => by omega, hs5, ?_, ?_⟩, by omega⟩
    · have e : 6 + 14 * (i + 1) = 6 + 14 * i + 8 + 4 + 2 := by omega
      rw [e]
      refine ((hr3'.gete hE4').get hu5 (fun h8 => by have := hva _ h8; omega) (fun k hk h8 => by have := hva _ h8; have := hs2 k hk; omega)).get u6' (fun h8 => by omega) (fun k hk h8 => by have := hs2 k hk; omega)
    · rw [refsOf_succ, refsC_app]
      have : refsC [refOf bs (6 + 14 * i)] = refC (refOf bs (6 + 14 * i)) := by simp [refsC]
      rw [this]
      exact hv5.get u6' (fun k hk h8 => by have := hs5 k hk; omega)
    · have a1 : Ext h1 g3 := Upd.above hE uG (fun k hk => by have := hE2.sz; omega)
      have a2 : Ext h1 g5 := Upd.above (a1.ext hE4') hu5 (fun k hk => by have := hva k hk; have := hE17.sz; omega)
      exact Upd.above a2 u6' (fun k hk => by have := hE13.sz; omega)
    · have := hE4'.sz; have := hu5.sz; omega
  · have hin : i = n := by have := of_decide_eq_false hc; omega
    subst hin
    refine ifB_f (A := _) rfl ?_
    intro J2
    refine err_ct hr ?_
    refine ifB_f rfl ?_
    refine ld_ct (k := .int .i64) N (by rw [C.rd]; rfl) ?_
    refine ld_ct (k := .sl) sv (by rw [C.rd]; rfl) ?_
    refine check_ct hv (by rw [refsOf_len]; exact hn) hNr hm ho fun g1 hEg1 => ?_
    refine ifB_f (A := _) rfl ?_
    have C1 := C.gete hEg1
    refine left_ct (hr.gete hEg1) ?_
    have hE11 : Ext h1 g1 := hE.ext hEg1
    have hsl : s.len = bs.length := by rw [q.1, By_len]
    have ew : IntKind.i64.wrap ((s.len : Int) - ((bs.length - (6 + 14 * i) : Nat) : Int)) = ((6 + 14 * i : Nat) : Int) := by rw [w64 (by omega) (by omega)]; omega
    rw [ew]
    refine slc_ct ((q.gete hE1).gete hE11) hcap (by omega) (by omega) (by rw [By_len]; omega) fun s26 q26 l26 _ _ => ?_
    have hl26 : s26.len = bs.length - (6 + 14 * i) := by rw [l26]; omega
    refine loop_ct (σ := Int) (fun p h' => h' = g1 ∧ ∃ j : Nat, p = j ∧ j ≤ bs.length - (6 + 14 * i)) (fun p _ => bs.length - p.toNat) ⟨rfl, 0, rfl, Nat.zero_le _⟩ ?_
    rintro p g2 ⟨hh, j, rfl, hj⟩
    subst hh
    refine ifB_c (fun hc => ?_) (fun hc => ?_)
    · have hjl : j < bs.length - (6 + 14 * i) := by
        have := of_decide_eq_true hc
        rw [hl26] at this; omega
      refine ixld_ct (k := .int .u8) q26 (by omega) (0 : Int) ?_ ?_
      · have := hz (6 + 14 * i + j) (by omega) (by omega)
        have e2 : (s.len : Int).toNat - ((6 + 14 * i : Nat) : Int).toNat = bs.length - (6 + 14 * i) := by omega
        rw [e2, List.getElem?_take, if_pos (by omega), List.getElem?_drop]
        simp only [Int.toNat_natCast]
        simp [encL, Kind.enc, this]
      · refine ifB_f (A := _) rfl ?_
        rw [w64 (by omega) (by omega)]
        exact ⟨⟨rfl, j + 1, by omega, by omega⟩, by omega⟩
    · refine ld_ct (k := .int .i64) N (by rw [C1.rd]; rfl) ?_
      refine ld_ct (k := .sl) sv (by rw [C1.rd]; rfl) ?_
      have D := D1.gete hE11
      refine st_ct D (by simp) fun g3 D3 u3 s3 => ?_
      refine st_ct D3 (by simp) fun g4 D4 u4 s4 => ?_
      refine ld_ct (k := .int .i64) N (by rw [D4.rd]; rfl) ?_
      refine ld_ct (k := .sl) sv (by rw [D4.rd]; rfl) ?_
      have uu : Upd (· = h.size) g2 g4 := u3.trans u4 (fun _ _ h => h)
      have h17 := hE17.sz
      refine hK sv g4 ((hv.gete hEg1).get uu (fun k hk h8 => by have := hva k hk; omega)) hvl hv0 (fun k hk => by have := hva k hk; omega) ?_
      exact Upd.above (hE1.ext hE11) uu (fun k hk => by omega)
end Go.TS
/- Contracts: slices.Insert, slices.Delete. -/
namespace Go.TS
open Go
set_option linter.unusedVariables false

theorem app0_new_ct {t : TypeId} {z : Value} {bytes : Nat} {s : Sl} {n : Int} {h : Mem} {K : Sl → Mem → Prop} {xs : List Value} (p : Vec h s xs) (hz : oneC z = true) (hn : 0 ≤ n)
    (hb : (xs.length + n.toNat) * bytes ≤ 2 ^ 40) (hb1 : xs.length + n.toNat ≤ 2 ^ 40) (hg : s.cap < xs.length + n.toNat)
    (hK : ∀ b c h', (∃ js, Blk h' b (xs ++ List.replicate n.toNat z ++ js) ∧ c = xs.length + n.toNat + js.length) → h.size ≤ b → Ext h h' → K ⟨some ⟨b, 0, none⟩, xs.length + n.toNat, c⟩ h') : app0 t #[z] 1 bytes s n h K := by
  have hones : one (Builtin.zeroCells #[z] n.toNat).toList := by
    rw [zeroCells_eq]; intro v hv; rw [List.eq_of_mem_replicate hv]; exact hz
  have hlen : s.len = xs.length := p.len
  refine ⟨hn, Nat.le_trans (Nat.mul_le_mul_right _ (by omega)) hb, by omega, hones, Nat.one_pos, fun hroom => by omega, fun hgrow => ?_⟩
  rw [hlen]
  refine ⟨hb1, hb, xs, ?_, ?_⟩
  · have := p.holds.2; rw [Nat.mul_one]; exact this
  · intro c hc
    refine hK h.size c _ ⟨(Builtin.zeroCells #[z] (c - (xs.length + n.toNat))).toList, ⟨t, ?_⟩, ?_⟩ (Nat.le_refl _) ⟨by simp, fun b hb _ => ?_⟩
    · rw [← zeroCells_eq]; simp
    · rw [zeroCells_len]; omega
    · rw [Array.getElem?_push_lt hb]; simp [hb]

theorem cpyN_ct {b o dl dc : Nat} {x : Sl} {a : Addr} {h : Mem} {K : Nat → Mem → Prop} {cs vs : List Value} (p : Blk h b cs) (hxb : x.base = some a) (hk : min x.len dl = vs.length) (q : cellsAt h a vs) (ho : Ones vs) (hl : o + vs.length ≤ cs.length)
    (hK : ∀ h', Blk h' b (over cs o vs) → Upd (· = b) h h' → h'.size = h.size → K vs.length h') : cpy 1 ⟨some ⟨b, o, none⟩, dl, dc⟩ x h K := by
  refine ⟨vs, ?_, ho, ?_⟩
  · unfold slCells
    rw [hxb]
    dsimp only
    exact ⟨by omega, q⟩
  · dsimp only
    obtain ⟨h1, h2, h3⟩ := wrs_blk (o := o) vs 0 p (by omega)
    rw [hk]
    exact ⟨room_blk p (by omega), hK _ h1 h2 h3⟩
theorem insert_ct {τ : Nat → Nat} {s x : Sl} {n : Nat} {h : Mem} {K : Sl → Mem → Prop} {xs ys : List Value} {ax : Addr} {bx : Nat} {cx : List Value} (p : Vec h s xs) (ho : Ones xs) (hn : n ≤ xs.length)
    (hq : Holds h x ys) (hax : x.base = some ax) (hab : ax.block = bx) (hbx : Blk h bx cx) (hcx : cx ≠ []) (hoy : Ones ys) (hy : ys ≠ []) (hd : ¬ At s bx) (hl : xs.length + ys.length ≤ 2 ^ 37)
    (hK : ∀ r h', Vec h' r (xs.take n ++ ys ++ xs.drop n) → Upd (At s) h h' → (∀ b, At r b → At s b ∨ h.size ≤ b) → K r h') : slices_Insert_int_int τ s n x h K := by
  have hyp : 0 < ys.length := by cases ys with | nil => exact absurd rfl hy | cons a l => simp
  have hsl := p.len
  have hxl : x.len = ys.length := hq.1
  have hcap : s.len ≤ s.cap := by
    rcases p with ⟨rfl, rfl⟩ | ⟨b, js, rfl, hb⟩
    · exact Nat.le_refl _
    · dsimp only; omega
  refine ⟨by omega, by omega, by omega, ?_⟩
  refine ifB_f (by rw [hxl]; simp; omega) ?_
  refine ifB_c (fun hc => ?_) (fun hc => ?_)
  · have hne : n = xs.length := by simp at hc; omega
    refine app_ct p hq hoy (by omega) (by omega) fun r h1 hr hu hat => ?_
    refine hK r h1 ?_ hu hat
    subst hne
    rw [List.take_length, List.drop_length, List.append_nil]; exact hr
  · have hne : n ≠ xs.length := by simp at hc; omega
    rcases p with ⟨_, rfl⟩ | ⟨b, js, rfl, hb⟩
    · simp at hn; subst hn; simp at hne
    · have hbne : bx ≠ b := fun h => hd (h ▸ ⟨_, rfl, rfl⟩)
      dsimp only at hc ⊢
      rw [hxl, w64 (by omega) (by omega)]
      refine ifB_c (fun hc2 => ?_) (fun hc2 => ?_)
      · have hgrow : xs.length + js.length < xs.length + ys.length := by simp at hc2; omega
        refine slc_blk (by omega) (by omega) (by omega) (by simp; omega) ?_
        have h7 : Vec h ⟨some ⟨b, 0 + (0 : Int).toNat, none⟩, (n : Int).toNat - (0 : Int).toNat, xs.length + js.length - (0 : Int).toNat⟩ (xs.take n) := by
          refine .inr ⟨b, xs.drop n ++ js, ?_, ?_⟩
          · simp; omega
          · rw [← List.append_assoc, List.take_append_drop]; exact hb
        have hln : (xs.take n).length = n := by rw [List.length_take]; omega
        rw [w64 (by omega) (by omega)]
        have hnt : ((xs.length : Int) + (ys.length : Int) - (n : Int)).toNat = xs.length + ys.length - n := by omega
        refine app0_new_ct h7 rfl (by omega) (by rw [hln]; omega) (by rw [hln]; omega) (by rw [hln]; simp; omega) fun b8 c8 h1 hj hb8 hE => ?_
        obtain ⟨js8, hB8, hc8⟩ := hj
        simp only [hln, hnt] at hc8 hB8 ⊢
        have htot : n + (xs.length + ys.length - n) = xs.length + ys.length := by omega
        rw [htot] at hc8 ⊢
        refine slc_blk (by omega) (by omega) (by omega) (by omega) ?_
        have hlen8 : (xs.take n ++ List.replicate (xs.length + ys.length - n) (Value.int .i64 0) ++ js8).length = xs.length + ys.length + js8.length := by simp; omega
        have hmin : min ys.length (((xs.length + ys.length : Nat) : Int).toNat - (n : Int).toNat) = ys.length := by omega
        refine cpy_ct hB8 (hq.gete hE) hoy (by rw [hmin, hlen8]; simp; omega) fun h2 hB2 hu2 hs2 => ?_
        rw [hmin, List.take_length] at hB2
        rw [w64 (by omega) (by omega)]
        refine slc_blk (by omega) (by omega) (by omega) (by omega) ?_
        refine slc_blk (by omega) (by omega) (by omega) (by simp; omega) ?_
        have hE2 : Ext h h2 := Upd.above hE hu2 (fun k hk => by omega)
        have hold : Holds h2 ⟨some ⟨b, 0 + (n : Int).toNat, none⟩, ((xs.length : Nat) : Int).toNat - (n : Int).toNat, xs.length + js.length - (n : Int).toNat⟩ (xs.drop n) := by
          have hb2 := hb.gete hE2
          have hdl : (xs.drop n).length = xs.length - n := List.length_drop
          refine ⟨by dsimp only; omega, rfl, fun i v hv => ?_⟩
          have hi := (List.getElem?_eq_some_iff.1 hv).1
          rw [add_n, hb2.rd]
          rw [List.getElem?_drop] at hv
          rw [List.getElem?_append_left (by omega)]
          have : 0 + (n : Int).toNat + i = n + i := by omega
          rw [this]; exact hv
        have hmin2 : min (xs.drop n).length (((xs.length + ys.length : Nat) : Int).toNat - ((n : Int) + (ys.length : Int)).toNat) = (xs.drop n).length := by rw [List.length_drop]; omega
        refine cpy_ct hB2 hold (fun v hv => ho v (List.mem_of_mem_drop hv)) (by rw [hmin2, over_len (by rw [hlen8]; simp; omega), hlen8, List.length_drop]; omega) fun h3 hB3 hu3 hs3 => ?_
        rw [hmin2, List.take_length] at hB3
        have hfinal : over (over (xs.take n ++ List.replicate (xs.length + ys.length - n) (Value.int .i64 0) ++ js8) (0 + (n : Int).toNat) ys) (0 + ((n : Int) + (ys.length : Int)).toNat) (xs.drop n) = xs.take n ++ ys ++ xs.drop n ++ js8 := by
          have e1 : List.replicate (xs.length + ys.length - n) (Value.int .i64 0) = List.replicate ys.length (Value.int .i64 0) ++ List.replicate (xs.length - n) (Value.int .i64 0) := by
            rw [List.replicate_append_replicate]; congr 1; omega
          have e2 : xs.take n ++ List.replicate (xs.length + ys.length - n) (Value.int .i64 0) ++ js8 = xs.take n ++ List.replicate ys.length (Value.int .i64 0) ++ (List.replicate (xs.length - n) (Value.int .i64 0) ++ js8) := by
            rw [e1]; simp only [List.append_assoc]
          rw [e2, over_mid (by rw [hln]; omega) (by simp), ← List.append_assoc, over_mid (by rw [List.length_append, hln]; omega) (by simp)]
        rw [hfinal] at hB3
        have hE3 : Ext h h3 := Upd.above hE2 hu3 (fun k hk => by omega)
        refine hK _ h3 (.inr ⟨b8, js8, ?_, hB3⟩) (hE3.mono (fun _ _ h => h.elim)) (fun k hk => by have := at_lit hk; omega)
        have hll : (xs.take n ++ ys ++ xs.drop n).length = xs.length + ys.length := by simp; omega
        rw [hll, hc8]
      · have hroom : xs.length + ys.length ≤ xs.length + js.length := by simp at hc2; omega
        refine slc_blk (by omega) (by omega) (by omega) (by simp; omega) ?_
        rw [w64 (by omega) (by omega)]
        refine slc_blk (by omega) (by dsimp only; omega) (by dsimp only; omega) (by omega) ?_
        obtain ⟨e1, he1⟩ := hbx
        obtain ⟨e2, he2⟩ := hb
        have hb : Blk h b (xs ++ js) := ⟨e2, he2⟩
        refine ⟨ax, _, _, e1, _, e2, hax, rfl, by rw [hab]; exact hbne, by rw [hab]; exact he1, he2, by rw [List.size_toArray, List.length_append]; omega, ?_⟩
        refine ifB_t rfl ?_
        refine slc_blk (by omega) (by dsimp only; omega) (by dsimp only; omega) (by omega) ?_
        refine slc_blk (by omega) (by dsimp only; omega) (by dsimp only; omega) (by omega) ?_
        have hln : (xs.take n).length = n := by rw [List.length_take]; omega
        have hdl : (xs.drop n).length = xs.length - n := List.length_drop
        have hCl : (xs ++ js).length = xs.length + js.length := List.length_append
        refine cpyN_ct (vs := xs.drop n) hb rfl (by dsimp only; rw [hdl]; omega) (fun i v hv => ?_) (fun v hv => ho v (List.mem_of_mem_drop hv)) (by rw [hdl, hCl]; omega) fun h2 hB2 hu2 hs2 => ?_
        · have hi := (List.getElem?_eq_some_iff.1 hv).1
          rw [add_n, hb.rd, List.getElem?_append_left (by omega)]
          rw [List.getElem?_drop] at hv
          have h0 : 0 + (0 : Int).toNat + (n : Int).toNat + i = n + i := by omega
          rw [h0]; exact hv
        refine slc_blk (by omega) (by dsimp only; omega) (by dsimp only; omega) (by omega) ?_
        have hol : (over (xs ++ js) (0 + (0 : Int).toNat + ((n : Int) + (ys.length : Int)).toNat) (xs.drop n)).length = xs.length + js.length := by rw [over_len (by rw [hdl, hCl]; omega), hCl]
        have hqx := hq.get hu2 (fun k hk hkb => by
          obtain ⟨a', ha', hk'⟩ := hk
          rw [hax] at ha'; cases ha'
          exact hbne (by rw [← hab, hk', hkb]))
        refine cpyN_ct (vs := ys) hB2 hax (by dsimp only; omega) ?_ hoy (by rw [hol]; omega) fun h3 hB3 hu3 hs3 => ?_
        · have h9 := hqx.2
          unfold slCells at h9
          rw [hax] at h9
          exact h9.2
        have hfin : over (over (xs ++ js) (0 + (0 : Int).toNat + ((n : Int) + (ys.length : Int)).toNat) (xs.drop n)) (0 + (0 : Int).toNat + (n : Int).toNat) ys = xs.take n ++ ys ++ xs.drop n ++ js.drop ys.length := by
          have hi : 0 + (0 : Int).toNat + ((n : Int) + (ys.length : Int)).toNat = n + ys.length := by omega
          rw [hi]
          have e3 : over (xs ++ js) (n + ys.length) (xs.drop n) = xs.take n ++ (xs.drop n ++ js).take ys.length ++ (xs.drop n ++ js.drop ys.length) := by
            unfold over
            have t1 : (xs ++ js).take (n + ys.length) = xs.take n ++ (xs.drop n ++ js).take ys.length := by
              conv => lhs; rw [← List.take_append_drop n xs, List.append_assoc]
              rw [List.take_append, hln, List.take_of_length_le (by omega)]
              congr 2; omega
            have t2 : (xs ++ js).drop (n + ys.length + (xs.drop n).length) = js.drop ys.length := by
              rw [List.drop_append, List.drop_of_length_le (by omega), hdl, List.nil_append]
              congr 1; omega
            rw [t1, t2]; simp only [List.append_assoc]
          rw [e3, over_mid (by rw [hln]; omega) (by rw [List.length_take, List.length_append, hdl]; omega)]; simp only [List.append_assoc]
        rw [hfin] at hB3
        have hu : Upd (At ⟨some ⟨b, 0, none⟩, xs.length, xs.length + js.length⟩) h h3 := (hu2.trans hu3 (fun _ _ h => h)).mono (fun k _ hk => ⟨_, rfl, hk.symm⟩)
        refine hK _ h3 (.inr ⟨b, js.drop ys.length, ?_, hB3⟩) hu (fun k hk => .inl ⟨_, rfl, (at_lit hk).symm⟩)
        simp only [List.length_append, List.length_drop, hln, Sl.mk.injEq, Option.some.injEq, Addr.mk.injEq, true_and, and_true]
        omega
end Go.TS
/- Contracts: slices.Insert of refs. -/
namespace Go.TS
open Go
set_option linter.unusedVariables false

theorem slcN_blk {sz b o l c : Nat} {lo hi : Int} {K : Sl → Prop} (h0 : 0 ≤ lo) (h1 : lo ≤ hi) (h2 : hi ≤ c) (h3 : lo.toNat < c) (hK : K ⟨some ⟨b, o + lo.toNat * sz, none⟩, hi.toNat - lo.toNat, c - lo.toNat⟩) : slc ⟨some ⟨b, o, none⟩, l, c⟩ lo hi sz K := by
  refine ⟨h0, h1, h2, ?_⟩
  have : (⟨some ⟨b, o, none⟩, l, c⟩ : Sl).cut lo.toNat hi.toNat sz = ⟨some ⟨b, o + lo.toNat * sz, none⟩, hi.toNat - lo.toNat, c - lo.toNat⟩ := by
    simp only [Sl.cut]
    rw [if_neg (by omega)]
    simp only [Option.map_some, add_n]
  rw [this]; exact hK
theorem cpyS_ct {sz b o dl dc : Nat} {x : Sl} {a : Addr} {h : Mem} {K : Nat → Mem → Prop} {cs vs : List Value} (p : Blk h b cs) (hxb : x.base = some a) (hk : min x.len dl * sz = vs.length) (q : cellsAt h a vs) (ho : Ones vs) (hl : o + vs.length ≤ cs.length)
    (hK : ∀ h', Blk h' b (over cs o vs) → Upd (· = b) h h' → h'.size = h.size → K (min x.len dl) h') : cpy sz ⟨some ⟨b, o, none⟩, dl, dc⟩ x h K := by
  refine ⟨vs, ?_, ho, ?_⟩
  · unfold slCells
    rw [hxb]
    dsimp only
    exact ⟨hk.symm, q⟩
  · dsimp only
    obtain ⟨h1, h2, h3⟩ := wrs_blk (o := o) vs 0 p (by omega)
    exact ⟨room_blk p (by omega), hK _ h1 h2 h3⟩
theorem app0N_new_ct {t : TypeId} {z : Array Value} {sz bytes : Nat} {s : Sl} {n : Int} {h : Mem} {K : Sl → Mem → Prop} {xs : List Value} (p : VecN sz h s xs) (hsz : z.size = sz) (hz : ∀ v, v ∈ (Builtin.zeroCells z n.toNat).toList → oneC v = true) (hn : 0 ≤ n) (h0 : 0 < sz)
    (hb : (s.len + n.toNat) * bytes ≤ 2 ^ 40) (hb1 : s.len + n.toNat ≤ 2 ^ 40) (hg : s.cap < s.len + n.toNat)
    (hK : ∀ b m h', (∃ zs js, zs.length = n.toNat * sz ∧ js.length = m * sz ∧ Blk h' b (xs ++ zs ++ js)) → h.size ≤ b → Ext h h' → K ⟨some ⟨b, 0, none⟩, s.len + n.toNat, s.len + n.toNat + m⟩ h') : app0 t z sz bytes s n h K := by
  refine ⟨hn, Nat.le_trans (Nat.mul_le_mul_right _ (by omega)) hb, by omega, hz, h0, fun hroom => by omega, fun hgrow => ?_⟩
  refine ⟨hb1, hb, xs, p.cells, ?_⟩
  intro c hc
  have hc' : s.len + n.toNat + (c - (s.len + n.toNat)) = c := by omega
  have := hK h.size (c - (s.len + n.toNat)) (h.push (.cells (xs.toArray ++ Builtin.zeroCells z n.toNat ++ Builtin.zeroCells z (c - (s.len + n.toNat))) t))
    ⟨(Builtin.zeroCells z n.toNat).toList, (Builtin.zeroCells z (c - (s.len + n.toNat))).toList, by rw [zeroCellsN_len, hsz], by rw [zeroCellsN_len, hsz], t, by simp⟩ (Nat.le_refl _) ⟨by simp, fun b hb _ => by rw [Array.getElem?_push_lt hb]; simp [hb]⟩
  rw [hc'] at this
  exact this
theorem insertR_ct {τ : Nat → Nat} {s x : Sl} {n X Y : Nat} {h : Mem} {K : Sl → Mem → Prop} {xs ys : List Value} {ax : Addr} {bx : Nat} {cx : List Value} (p : VecN 3 h s xs) (hX : xs.length = X * 3) (hY : ys.length = Y * 3) (ho : Ones xs) (hn : n ≤ X)
    (hxl : x.len = Y) (hq : cellsAt h ax ys) (hax : x.base = some ax) (hab : ax.block = bx) (hbx : Blk h bx cx) (hcx : cx ≠ []) (hoy : Ones ys) (hy : 0 < Y) (hd : ¬ At s bx) (hl : X + Y ≤ 2 ^ 30)
    (hK : ∀ r h', VecN 3 h' r (xs.take (n * 3) ++ ys ++ xs.drop (n * 3)) → r.len = X + Y → Upd (At s) h h' → (∀ b, At r b → At s b ∨ h.size ≤ b) → K r h') : slices_Insert_api_Ref_api_Ref τ s n x h K := by
  have hsl : s.len = X := by have := p.len; omega
  have hcap : s.len ≤ s.cap := by
    rcases p with ⟨rfl, rfl⟩ | ⟨b, js, n, m, rfl, _, _, hb⟩
    · exact Nat.le_refl _
    · dsimp only; omega
  refine ⟨by omega, by omega, by omega, ?_⟩
  refine ifB_f (by rw [hxl]; simp; omega) ?_
  refine ifB_c (fun hc => ?_) (fun hc => ?_)
  · have hne : n = X := by simp at hc; omega
    refine appN_ct (z := #[Value.int .u64 0, Value.int .i64 0, Value.int .i64 0]) rfl p (ys := ys) ?_ (by omega) hoy (by omega) (by omega) fun r h1 hr hrl hu hat => ?_
    · unfold slCells; rw [hax]; exact ⟨by omega, hq⟩
    refine hK r h1 ?_ (by omega) hu hat
    subst hne
    rw [← hX, List.take_length, List.drop_length, List.append_nil]; exact hr
  · have hne : n ≠ X := by simp at hc; omega
    rcases p with ⟨_, rfl⟩ | ⟨b, js, n0, m, rfl, hx0, hjs, hb⟩
    · simp at hX; omega
    · have hbne : bx ≠ b := fun h => hd (h ▸ ⟨_, rfl, rfl⟩)
      dsimp only at hc hsl hcap ⊢
      subst hsl
      rw [hxl, w64 (by omega) (by omega)]
      have hCl : (xs ++ js).length = n0 * 3 + m * 3 := by rw [List.length_append]; omega
      have hln : (xs.take (n * 3)).length = n * 3 := by rw [List.length_take]; omega
      have hdl : (xs.drop (n * 3)).length = n0 * 3 - n * 3 := by rw [List.length_drop]; omega
      refine ifB_c (fun hc2 => ?_) (fun hc2 => ?_)
      · have hgrow : m < Y := by simp at hc2; omega
        refine slcN_blk (by omega) (by omega) (by omega) (by simp; omega) ?_
        have h7 : VecN 3 h ⟨some ⟨b, 0 + (0 : Int).toNat * 3, none⟩, (n : Int).toNat - (0 : Int).toNat, n0 + m - (0 : Int).toNat⟩ (xs.take (n * 3)) := by
          refine .inr ⟨b, xs.drop (n * 3) ++ js, n, n0 - n + m, ?_, hln, by rw [List.length_append]; omega, ?_⟩
          · simp; omega
          · rw [← List.append_assoc, List.take_append_drop]; exact hb
        rw [w64 (by omega) (by omega)]
        have hnt : ((n0 : Int) + (Y : Int) - (n : Int)).toNat = n0 + Y - n := by omega
        refine app0N_new_ct h7 rfl ?_ (by omega) (by omega) (by first | omega | (dsimp only; omega)) (by first | omega | (dsimp only; omega)) (by first | omega | (dsimp only; omega)) fun b8 m8 h1 hj hb8 hE => ?_
        · intro v hv
          simp [Builtin.zeroCells] at hv
          obtain ⟨i, hi, rfl⟩ := hv
          have : i % 3 = 0 ∨ i % 3 = 1 ∨ i % 3 = 2 := by omega
          rcases this with e | e | e <;> simp [e] <;> rfl
        obtain ⟨zs, js8, hzs, hjs8, hB8⟩ := hj
        have htot : (n : Int).toNat - (0 : Int).toNat + ((n0 : Int) + (Y : Int) - (n : Int)).toNat = n0 + Y := by omega
        simp only [htot]
        have hzl : zs.length = n0 * 3 + Y * 3 - n * 3 := by omega
        refine slcN_blk (by omega) (by omega) (by omega) (by omega) ?_
        have hlen8 : (xs.take (n * 3) ++ zs ++ js8).length = n0 * 3 + Y * 3 + m8 * 3 := by simp only [List.length_append]; omega
        refine cpyS_ct (vs := ys) hB8 hax (by omega) ?_ hoy (by rw [hlen8]; omega) fun h2 hB2 hu2 hs2 => ?_
        · intro i v hv
          have h9 := hq i v hv
          have hr : rd h1 (ax.add i) = rd h (ax.add i) := by
            have : h1[ax.block]? = h[ax.block]? := hE.same _ (by rw [hab]; exact hbx.lt) (fun h => h)
            have hbk : (ax.add i).block = ax.block := by unfold Addr.add; split <;> rfl
            simp only [rd, hbk, this]
          rw [hr]; exact h9
        rw [w64 (by omega) (by omega)]
        refine slcN_blk (by omega) (by omega) (by omega) (by omega) ?_
        refine slcN_blk (by omega) (by omega) (by omega) (by simp; omega) ?_
        have hE2 : Ext h h2 := Upd.above hE hu2 (fun k hk => by omega)
        have hb2 := hb.gete hE2
        refine cpyS_ct (vs := xs.drop (n * 3)) hB2 rfl (by dsimp only; rw [hdl]; omega) (fun i v hv => ?_) (fun v hv => ho v (List.mem_of_mem_drop hv)) (by rw [over_len (by rw [hlen8]; omega), hlen8, hdl]; omega) fun h3 hB3 hu3 hs3 => ?_
        · have hi := (List.getElem?_eq_some_iff.1 hv).1
          rw [add_n, hb2.rd]
          rw [List.getElem?_drop] at hv
          rw [List.getElem?_append_left (by omega)]
          have : 0 + (n : Int).toNat * 3 + i = n * 3 + i := by omega
          rw [this]; exact hv
        have hfinal : over (over (xs.take (n * 3) ++ zs ++ js8) (0 + (n : Int).toNat * 3) ys) (0 + ((n : Int) + (Y : Int)).toNat * 3) (xs.drop (n * 3)) = xs.take (n * 3) ++ ys ++ xs.drop (n * 3) ++ js8 := by
          have e2 : xs.take (n * 3) ++ zs ++ js8 = xs.take (n * 3) ++ zs.take ys.length ++ (zs.drop ys.length ++ js8) := by
            conv => lhs; rw [← List.take_append_drop ys.length zs]
            simp only [List.append_assoc]
          rw [e2, over_mid (by rw [hln]; omega) (by rw [List.length_take]; omega), ← List.append_assoc, over_mid (by rw [List.length_append, hln]; omega) (by rw [List.length_drop, List.length_drop]; omega)]
        rw [hfinal] at hB3
        have hE3 : Ext h h3 := Upd.above hE2 hu3 (fun k hk => by omega)
        refine hK _ h3 (.inr ⟨b8, js8, n0 + Y, m8, ?_, by simp only [List.length_append]; omega, hjs8, hB3⟩) rfl (hE3.mono (fun _ _ h => h.elim)) (fun k hk => by have := at_lit hk; omega)
        simp
      · have hroom : n0 + Y ≤ n0 + m := by simp at hc2; omega
        refine slcN_blk (by omega) (by omega) (by omega) (by simp; omega) ?_
        rw [w64 (by omega) (by omega)]
        refine slcN_blk (by omega) (by dsimp only; omega) (by dsimp only; omega) (by omega) ?_
        obtain ⟨e1, he1⟩ := hbx
        obtain ⟨e2, he2⟩ := hb
        have hb : Blk h b (xs ++ js) := ⟨e2, he2⟩
        refine ⟨ax, _, _, e1, _, e2, hax, rfl, by rw [hab]; exact hbne, by rw [hab]; exact he1, he2, by rw [List.size_toArray, hCl]; omega, ?_⟩
        refine ifB_t rfl ?_
        refine slcN_blk (by omega) (by dsimp only; omega) (by dsimp only; omega) (by omega) ?_
        refine slcN_blk (by omega) (by dsimp only; omega) (by dsimp only; omega) (by omega) ?_
        refine cpyS_ct (vs := xs.drop (n * 3)) hb rfl (by dsimp only; rw [hdl]; omega) (fun i v hv => ?_) (fun v hv => ho v (List.mem_of_mem_drop hv)) (by rw [hdl, hCl]; omega) fun h2 hB2 hu2 hs2 => ?_
        · have hi := (List.getElem?_eq_some_iff.1 hv).1
          rw [add_n, hb.rd, List.getElem?_append_left (by omega)]
          rw [List.getElem?_drop] at hv
          have h0 : 0 + (0 : Int).toNat * 3 + (n : Int).toNat * 3 + i = n * 3 + i := by omega
          rw [h0]; exact hv
        refine slcN_blk (by omega) (by dsimp only; omega) (by dsimp only; omega) (by omega) ?_
        have hol : (over (xs ++ js) (0 + (0 : Int).toNat * 3 + ((n : Int) + (Y : Int)).toNat * 3) (xs.drop (n * 3))).length = n0 * 3 + m * 3 := by rw [over_len (by rw [hdl, hCl]; omega), hCl]
        refine cpyS_ct (vs := ys) hB2 hax (by dsimp only; omega) ?_ hoy (by rw [hol]; omega) fun h3 hB3 hu3 hs3 => ?_
        · intro i v hv
          have h9 := hq i v hv
          have hr : rd h2 (ax.add i) = rd h (ax.add i) := by
            have : h2[ax.block]? = h[ax.block]? := hu2.same _ (by rw [hab]; exact (Array.getElem?_eq_some_iff.1 he1).1) (by rw [hab]; exact hbne)
            have hbk : (ax.add i).block = ax.block := by unfold Addr.add; split <;> rfl
            simp only [rd, hbk, this]
          rw [hr]; exact h9
        have hfin : over (over (xs ++ js) (0 + (0 : Int).toNat * 3 + ((n : Int) + (Y : Int)).toNat * 3) (xs.drop (n * 3))) (0 + (0 : Int).toNat * 3 + (n : Int).toNat * 3) ys = xs.take (n * 3) ++ ys ++ xs.drop (n * 3) ++ js.drop ys.length := by
          have hi : 0 + (0 : Int).toNat * 3 + ((n : Int) + (Y : Int)).toNat * 3 = n * 3 + ys.length := by omega
          rw [hi]
          have e3 : over (xs ++ js) (n * 3 + ys.length) (xs.drop (n * 3)) = xs.take (n * 3) ++ (xs.drop (n * 3) ++ js).take ys.length ++ (xs.drop (n * 3) ++ js.drop ys.length) := by
            unfold over
            have t1 : (xs ++ js).take (n * 3 + ys.length) = xs.take (n * 3) ++ (xs.drop (n * 3) ++ js).take ys.length := by
              conv => lhs; rw [← List.take_append_drop (n * 3) xs, List.append_assoc]
              rw [List.take_append, hln, List.take_of_length_le (by omega)]
              congr 2; omega
            have t2 : (xs ++ js).drop (n * 3 + ys.length + (xs.drop (n * 3)).length) = js.drop ys.length := by
              rw [List.drop_append, List.drop_of_length_le (by omega), hdl, List.nil_append]
              congr 1; omega
            rw [t1, t2]; simp only [List.append_assoc]
          rw [e3, over_mid (by rw [hln]; omega) (by rw [List.length_take, List.length_append, hdl]; omega)]; simp only [List.append_assoc]
        rw [hfin] at hB3
        have hu : Upd (At ⟨some ⟨b, 0, none⟩, n0, n0 + m⟩) h h3 := (hu2.trans hu3 (fun _ _ h => h)).mono (fun k _ hk => ⟨_, rfl, hk.symm⟩)
        refine hK _ h3 (.inr ⟨b, js.drop ys.length, n0 + Y, m - Y, ?_, by simp only [List.length_append]; omega, by rw [List.length_drop]; omega, hB3⟩) (by dsimp only; omega) hu (fun k hk => .inl ⟨_, rfl, (at_lit hk).symm⟩)
        simp only [Sl.mk.injEq, Option.some.injEq, Addr.mk.injEq, true_and, and_true]
        omega
end Go.TS
