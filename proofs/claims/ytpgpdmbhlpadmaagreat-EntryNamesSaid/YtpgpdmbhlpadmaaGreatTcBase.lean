/- Contracts, the ground: what stays of a heap, blocks, slices, the words. -/
import Derived.Test.YtpgpdmbhlpadmaaGreatTsDefs
import Derived.Test.YtpgpdmbhlpadmaaGreatXsTab
namespace Go.TS
open Go

/-- the heap has grown; below, only blocks of S may differ -/
structure Upd (S : Nat → Prop) (h h' : Mem) : Prop where
  sz : h.size ≤ h'.size
  same : ∀ b, b < h.size → ¬ S b → h'[b]? = h[b]?
def No (_ : Nat) : Prop := False
abbrev Ext (h h' : Mem) : Prop := Upd No h h'

theorem Upd.refl (S : Nat → Prop) (h : Mem) : Upd S h h := ⟨Nat.le_refl _, fun _ _ _ => rfl⟩
theorem Upd.trans {S T : Nat → Prop} {h1 h2 h3 : Mem} (a : Upd S h1 h2) (b : Upd T h2 h3) (hT : ∀ b, b < h1.size → T b → S b) : Upd S h1 h3 :=
  ⟨Nat.le_trans a.sz b.sz, fun k hk hs => by rw [b.same k (Nat.lt_of_lt_of_le hk a.sz) (fun ht => hs (hT k hk ht)), a.same k hk hs]⟩
theorem Upd.mono {S T : Nat → Prop} {h h' : Mem} (a : Upd S h h') (hT : ∀ b, b < h.size → S b → T b) : Upd T h h' := ⟨a.sz, fun b hb ht => a.same b hb (fun hs => ht (hT b hb hs))⟩
theorem Upd.ext {S : Nat → Prop} {h1 h2 h3 : Mem} (a : Upd S h1 h2) (b : Ext h2 h3) : Upd S h1 h3 := a.trans b (fun _ _ h => h.elim)
theorem Upd.of_ext {S : Nat → Prop} {h1 h2 h3 : Mem} (a : Ext h1 h2) (b : Upd S h2 h3) : Upd S h1 h3 := (a.mono (fun _ _ h => h.elim)).trans b (fun _ _ h => h)
/-- what is written lies above -/
theorem Upd.above {S : Nat → Prop} {h1 h2 h3 : Mem} (a : Ext h1 h2) (b : Upd S h2 h3) (hn : ∀ b, S b → h1.size ≤ b) : Ext h1 h3 :=
  a.trans b (fun k hk hs => absurd (hn k hs) (by omega))

theorem lt_of_some {h : Mem} {b : Nat} {o : Obj} (hb : h[b]? = some o) : b < h.size := by
  rcases Nat.lt_or_ge b h.size with hl | hl
  · exact hl
  · rw [Array.getElem?_eq_none hl] at hb; cases hb
theorem Upd.get {S : Nat → Prop} {h h' : Mem} (u : Upd S h h') {b : Nat} {o : Obj} (hb : h[b]? = some o) (hs : ¬ S b) : h'[b]? = some o := by rw [u.same b (lt_of_some hb) hs, hb]
theorem Upd.gete {h h' : Mem} (u : Ext h h') {b : Nat} {o : Obj} (hb : h[b]? = some o) : h'[b]? = some o := u.get hb (fun h => h)

theorem add_n (b o n : Nat) : Addr.add ⟨b, o, none⟩ n = ⟨b, o + n, none⟩ := by unfold Addr.add; split <;> simp_all
theorem add_block (a : Addr) (n : Nat) : (a.add n).block = a.block := by unfold Addr.add; split <;> rfl
/-- a block of cells without a mark -/
def Blk (h : Mem) (b : Nat) (cs : List Value) : Prop := ∃ e, h[b]? = some (.cells cs.toArray e (0, 0))
theorem Blk.lt {h : Mem} {b : Nat} {cs : List Value} (p : Blk h b cs) : b < h.size := by obtain ⟨e, he⟩ := p; exact lt_of_some he
theorem Blk.get {S : Nat → Prop} {h h' : Mem} {b : Nat} {cs : List Value} (p : Blk h b cs) (u : Upd S h h') (hs : ¬ S b) : Blk h' b cs := by obtain ⟨e, he⟩ := p; exact ⟨e, u.get he hs⟩
theorem Blk.gete {h h' : Mem} {b : Nat} {cs : List Value} (p : Blk h b cs) (u : Ext h h') : Blk h' b cs := p.get u (fun h => h)
theorem Blk.rd {h : Mem} {b : Nat} {cs : List Value} (p : Blk h b cs) (i : Nat) : rd h ⟨b, i, none⟩ = cs[i]? := by obtain ⟨e, he⟩ := p; simp [Go.TS.rd, he]
theorem Blk.fz {h : Mem} {b : Nat} {cs : List Value} (p : Blk h b cs) (i : Nat) : fz h ⟨b, i, none⟩ = false := by obtain ⟨e, he⟩ := p; simp [Go.TS.fz, he]
theorem Blk.wr {h : Mem} {b : Nat} {cs : List Value} (p : Blk h b cs) (i : Nat) (v : Value) : Blk (wr h ⟨b, i, none⟩ v) b (cs.set i v) := by
  obtain ⟨e, he⟩ := p
  exact ⟨e, by simp [Go.TS.wr, Array.getElem?_modify, he]⟩
theorem upd_wr (h : Mem) (b i : Nat) (v : Value) : Upd (· = b) h (wr h ⟨b, i, none⟩ v) :=
  ⟨by simp [wr], fun k _ hk => by simp only [wr, Array.getElem?_modify]; rw [if_neg (fun h => hk h.symm)]⟩
theorem size_wr' (h : Mem) (a : Addr) (v : Value) : (wr h a v).size = h.size := by simp [wr]

theorem al_ct {o : Obj} {h : Mem} {K : Nat → Mem → Prop} (hK : ∀ h', h'[h.size]? = some o → Ext h h' → h'.size = h.size + 1 → K h.size h') : al o h K := by
  refine hK _ (by simp) ⟨by simp, fun b hb _ => ?_⟩ (by simp)
  rw [Array.getElem?_push_lt hb]; simp [hb]
theorem ld_ct {k : Kind} {a : Addr} {h : Mem} {K : k.ty → Prop} (x : k.ty) (hr : rd h a = some (k.enc x)) (hK : K x) : ld k a h K := ⟨x, hr, hK⟩
theorem st_ct {b i : Nat} {v : Value} {h : Mem} {K : Mem → Prop} {cs : List Value} (p : Blk h b cs) (hi : i < cs.length) (hK : ∀ h', Blk h' b (cs.set i v) → Upd (· = b) h h' → h'.size = h.size → K h') : st ⟨b, i, none⟩ v h K :=
  ⟨⟨cs[i], by rw [p.rd]; simp [hi]⟩, p.fz i, hK _ (p.wr i v) (upd_wr h b i v) (size_wr' _ _ _)⟩

/-- what a slice holds -/
def Holds (h : Mem) (s : Sl) (xs : List Value) : Prop := s.len = xs.length ∧ slCells h s xs.length xs
def encL (k : Kind) (l : List k.ty) : List Value := l.map k.enc

theorem rd_upd {S : Nat → Prop} {h h' : Mem} (u : Upd S h h') {a : Addr} {v : Value} (hr : rd h a = some v) (hs : ¬ S a.block) : rd h' a = some v := by
  unfold rd at hr ⊢
  split at hr
  · rename_i c e f hb; rw [u.get hb hs]; exact hr
  · cases hr
def At (s : Sl) (b : Nat) : Prop := ∃ a, s.base = some a ∧ a.block = b
theorem Holds.get {S : Nat → Prop} {h h' : Mem} {s : Sl} {xs : List Value} (p : Holds h s xs) (u : Upd S h h') (hs : ∀ b, At s b → ¬ S b) : Holds h' s xs := by
  refine ⟨p.1, ?_⟩
  have := p.2
  unfold slCells at this ⊢
  split
  · rename_i a ha
    rw [ha] at this
    simp only at this
    refine ⟨rfl, fun i v hv => rd_upd u (this.2 i v hv) (by rw [add_block]; exact hs _ ⟨a, ha, rfl⟩)⟩
  · rename_i ha; rw [ha] at this; exact this
theorem Holds.gete {h h' : Mem} {s : Sl} {xs : List Value} (p : Holds h s xs) (u : Ext h h') : Holds h' s xs := p.get u (fun _ _ h => h)
theorem Holds.lt {h : Mem} {s : Sl} {xs : List Value} (p : Holds h s xs) (hx : xs ≠ []) : ∀ b, At s b → b < h.size := by
  rintro b ⟨a, ha, rfl⟩
  have := p.2
  unfold slCells at this
  rw [ha] at this
  simp only at this
  cases xs with
  | nil => exact absurd rfl hx
  | cons v vs =>
    have := this.2 0 v rfl
    unfold rd at this
    split at this
    · rename_i hb; exact lt_of_some hb
    · cases this
theorem holds_nil (h : Mem) : Holds h ⟨none, 0, 0⟩ [] := ⟨rfl, rfl⟩

/-- a vector of our own: a block of its own from its start, no mark, room to its capacity -/
def Vec (h : Mem) (s : Sl) (xs : List Value) : Prop :=
  (s = ⟨none, 0, 0⟩ ∧ xs = []) ∨ ∃ b js, s = ⟨some ⟨b, 0, none⟩, xs.length, xs.length + js.length⟩ ∧ Blk h b (xs ++ js)
theorem vec_nil (h : Mem) : Vec h ⟨none, 0, 0⟩ [] := .inl ⟨rfl, rfl⟩
theorem Vec.holds {h : Mem} {s : Sl} {xs : List Value} (p : Vec h s xs) : Holds h s xs := by
  rcases p with ⟨rfl, rfl⟩ | ⟨b, js, rfl, hb⟩
  · exact holds_nil h
  · refine ⟨rfl, rfl, fun i v hv => ?_⟩
    have hi : i < xs.length := (List.getElem?_eq_some_iff.1 hv).1
    rw [add_n, Nat.zero_add, hb.rd, List.getElem?_append_left hi]; exact hv
theorem Vec.lt {h : Mem} {s : Sl} {xs : List Value} (p : Vec h s xs) : ∀ b, At s b → b < h.size := by
  rintro b ⟨a, ha, rfl⟩
  rcases p with ⟨rfl, rfl⟩ | ⟨b, js, rfl, hb⟩
  · cases ha
  · simp only [Option.some.injEq] at ha; subst ha; exact hb.lt
theorem Vec.get {S : Nat → Prop} {h h' : Mem} {s : Sl} {xs : List Value} (p : Vec h s xs) (u : Upd S h h') (hs : ∀ b, At s b → ¬ S b) : Vec h' s xs := by
  rcases p with ⟨rfl, rfl⟩ | ⟨b, js, rfl, hb⟩
  · exact vec_nil h'
  · exact .inr ⟨b, js, rfl, hb.get u (hs b ⟨_, rfl, rfl⟩)⟩
theorem Vec.gete {h h' : Mem} {s : Sl} {xs : List Value} (p : Vec h s xs) (u : Ext h h') : Vec h' s xs := p.get u (fun _ _ h => h)
theorem Vec.len {h : Mem} {s : Sl} {xs : List Value} (p : Vec h s xs) : s.len = xs.length := p.holds.1
/-- its blocks lie above a heap -/
def New (h : Mem) (s : Sl) : Prop := ∀ b, At s b → h.size ≤ b
theorem new_nil (h : Mem) : New h ⟨none, 0, 0⟩ := by rintro b ⟨a, ha, _⟩; cases ha
theorem New.mono {h h' : Mem} {s : Sl} (n : New h' s) (hle : h.size ≤ h'.size) : New h s := fun b hb => Nat.le_trans hle (n b hb)

/-- cells written over -/
def over (cs : List Value) (i : Nat) (vs : List Value) : List Value := cs.take i ++ vs ++ cs.drop (i + vs.length)
theorem wrs_blk {b o : Nat} : ∀ (vs : List Value) (i : Nat) {h : Mem} {cs : List Value}, Blk h b cs → o + i + vs.length ≤ cs.length →
    Blk (wrs h ⟨b, o, none⟩ i vs) b (over cs (o + i) vs) ∧ Upd (· = b) h (wrs h ⟨b, o, none⟩ i vs) ∧ (wrs h ⟨b, o, none⟩ i vs).size = h.size := by
  intro vs
  induction vs with
  | nil => intro i h cs p _; refine ⟨?_, Upd.refl _ _, rfl⟩; simpa [wrs, over] using p
  | cons v vs ih =>
    intro i h cs p hl
    simp only [List.length_cons] at hl
    simp only [wrs, add_n]
    obtain ⟨h1, h2, h3⟩ := ih (i + 1) (p.wr (o + i) v) (by simp; omega)
    refine ⟨?_, (upd_wr h b (o + i) v).trans h2 (fun _ _ h => h), by rw [h3, size_wr']⟩
    have : over (cs.set (o + i) v) (o + (i + 1)) vs = over cs (o + i) (v :: vs) := by
      apply List.ext_getElem?
      intro k
      simp only [over, List.getElem?_append, List.length_take, List.length_set, List.getElem?_take, List.getElem?_drop, List.length_append, List.length_cons, List.getElem?_set]
      grind
    rw [this] at h1; exact h1
theorem room_blk {h : Mem} {b o n : Nat} {cs : List Value} (p : Blk h b cs) (hl : o + n ≤ cs.length) : room h ⟨b, o, none⟩ n := by
  intro i hi
  rw [add_n, p.rd, p.fz]
  exact ⟨⟨cs[o + i]'(by omega), by simp⟩, rfl⟩
theorem over_len {cs vs : List Value} {i : Nat} (h : i + vs.length ≤ cs.length) : (over cs i vs).length = cs.length := by simp [over]; omega

theorem zeroCells_len (z : Value) (n : Nat) : (Builtin.zeroCells #[z] n).toList.length = n := by simp [Builtin.zeroCells]
theorem app_ct {t : TypeId} {z : Value} {bytes : Nat} {s x : Sl} {h : Mem} {K : Sl → Mem → Prop} {xs ys : List Value} (p : Vec h s xs) (q : Holds h x ys) (hone : ∀ v, v ∈ ys → oneC v = true)
    (hb : (xs.length + ys.length) * bytes ≤ 2 ^ 40) (hb1 : xs.length + ys.length ≤ 2 ^ 40)
    (hK : ∀ s' h', Vec h' s' (xs ++ ys) → Upd (At s) h h' → (∀ b, At s' b → At s b ∨ h.size ≤ b) → K s' h') : app t #[z] 1 bytes s x h K := by
  obtain ⟨hql, hqc⟩ := q
  refine ⟨ys, by simpa [hql] using hqc, hone, ?_, ?_⟩
  · intro hroom
    rcases p with ⟨rfl, rfl⟩ | ⟨b, js, rfl, hbk⟩
    · simp only [hql, Nat.zero_add, Nat.le_zero_eq, List.length_eq_zero_iff] at hroom
      subst hroom
      simp only [hql]
      exact hK _ _ (vec_nil h) (Upd.refl _ _) (fun b hb => .inl hb)
    · simp only [hql] at hroom ⊢
      simp only [add_n, Nat.zero_add, Nat.mul_one]
      have hl : xs.length + ys.length ≤ (xs ++ js).length := by simp; omega
      refine ⟨room_blk hbk hl, ?_⟩
      obtain ⟨h1, h2, h3⟩ := wrs_blk (o := xs.length) ys 0 hbk (by simpa using hl)
      refine hK _ _ (.inr ⟨b, js.drop ys.length, ?_, ?_⟩) (h2.mono ?_) ?_
      · simp; omega
      · have : over (xs ++ js) (xs.length + 0) ys = xs ++ ys ++ js.drop ys.length := by simp [over, List.drop_append]
        rw [this] at h1; exact h1
      · rintro k _ rfl; exact ⟨_, rfl, rfl⟩
      · rintro k ⟨a, ha, rfl⟩
        exact .inl ⟨a, ha, rfl⟩
  · intro hgrow
    have hn : s.len = xs.length := p.len
    rw [hn, hql]
    refine ⟨hb1, hb, xs, ?_, ?_⟩
    · have := p.holds.2; rw [Nat.mul_one]; exact this
    · intro c hc
      have hK' := hK ⟨some ⟨h.size, 0, none⟩, xs.length + ys.length, c⟩ (h.push (.cells (xs.toArray ++ ys.toArray ++ Builtin.zeroCells #[z] (c - (xs.length + ys.length))) t))
      refine hK' (.inr ⟨h.size, (Builtin.zeroCells #[z] (c - (xs.length + ys.length))).toList, ?_, t, ?_⟩) ⟨by simp, fun b hb _ => ?_⟩ ?_
      · rw [zeroCells_len, List.length_append]
        congr 1; omega
      · simp
      · rw [Array.getElem?_push_lt hb]; simp [hb]
      · rintro k ⟨a, ha, rfl⟩
        simp only [Option.some.injEq] at ha
        subst ha; exact .inr (Nat.le_refl _)
end Go.TS
/- The layer 'XS': contracts that are run: what they share. -/
namespace Go.XS
open Go Go.TS
theorem HR.ext {γ : G} {φ : Fx} {H : Am} {h h' : Mem} (hR : HR γ φ H h) (hE : Ext h h') : HR γ φ H h' := hR.growN hE.sz fun B hB => hE.same B hB id
/-- a block under a new name, wherever it lies; what lay in block B counts no longer -/
theorem HR.renew {γ : G} {φ : Fx} {H H0 : Am} {h h' : Mem} (hR : HR γ φ H h) (hn : inB H H.nx) {S : Nat → Prop} (hH0 : ∀ q o, H0.get q = some o → H.get q = some o ∧ ∀ B N, γ q = some (B, N) → ¬ S B)
    (hnx : H0.nx = H.nx) (hhi : H0.hi = H.hi) (hS : ∀ B, S B → φ.top.stat B = none ∧ φ.far B = none)
    (hsz : h.size ≤ h'.size) (hE : ∀ B, B < h.size → ¬ S B → h'[B]? = h[B]?) {o' : AO} {B' N' : Nat} {ob' : Obj} (hB' : S B' ∨ h.size ≤ B') (hob : h'[B']? = some ob') (hO : OR (XS.ext γ H.nx (B', N')) o' N' ob') :
    HR (XS.ext γ H.nx (B', N')) φ (H0.new o') h' := by
  have hle := hR.le_ext hn (B', N')
  have hext : ∀ q, q ≠ H.nx → XS.ext γ H.nx (B', N') q = γ q := fun q hq => if_neg hq
  have hgp : ∀ q, (H0.new o').get q = if q = H.nx then some o' else H0.get q := fun q => by
    have : (H0.new o').get q = if q = H0.nx then some o' else H0.get q := get_put _ _ _ _
    rw [this, hnx]
  have hn' : ∀ c, inB (H0.new o') c → inB H c ∧ c ≠ H.nx := fun c hc => by
    have := inB_new (H := H0) hc
    unfold inB at this ⊢
    rw [hnx, hhi] at this
    exact this
  refine ⟨?_, ?_, ?_, ?_, ?_, ?_, hR.le0.trans hle, fun B s hs => ?_⟩
  · intro c x hc
    by_cases e : c = H.nx
    · subst e; rw [ext_same] at hc; cases hc; exact lt_of_get hob
    · rw [hext c e] at hc
      exact Nat.lt_of_lt_of_le (hR.dom c x hc) hsz
  · intro c hc
    obtain ⟨h1, h2⟩ := hn' c hc
    rw [hext c h2]; exact hR.band c h1
  · intro c hc
    obtain ⟨h1, h2⟩ := hR.free c hc
    have hne : c ≠ H.nx := fun e => h2 (e ▸ hn)
    exact ⟨by rw [hext c hne]; exact h1, fun h3 => h2 (hn' c h3).1⟩
  · intro c oc hc
    rw [hgp] at hc
    split at hc
    · rename_i e; cases hc; subst e; exact ⟨B', N', ob', ext_same _ _ _, hob, hO⟩
    · rename_i e
      obtain ⟨k1, k2⟩ := hH0 c oc hc
      obtain ⟨B, N, ob, h1, h2, h3⟩ := hR.obj c oc k1
      exact ⟨B, N, ob, (hext c e).trans h1, by rw [hE B (lt_of_get h2) (k2 B N h1)]; exact h2, h3.mono hle⟩
  · have key : ∀ q oq N1, q ≠ H.nx → H0.get q = some oq → XS.ext γ H.nx (B', N') q = some (B', N1) → False := by
      intro q oq N1 hq h5 h6
      rw [hext q hq] at h6
      rcases hB' with hb | hb
      · exact (hH0 q oq h5).2 _ _ h6 hb
      · have := hR.dom q _ h6
        simp only at this; omega
    intro c c' oc oc' B1 N1 N2 h1 h2 h3 h4
    rw [hgp] at h1 h2
    split at h1 <;> split at h2
    · rename_i e e'; rw [e, e']
    · rename_i e e'
      subst e; rw [ext_same] at h3; cases h3
      exact (key c' oc' N2 e' h2 h4).elim
    · rename_i e e'
      subst e'; rw [ext_same] at h4; cases h4
      exact (key c oc N1 e h1 h3).elim
    · rename_i e e'
      rw [hext c e] at h3; rw [hext c' e'] at h4
      exact hR.inj c c' oc oc' B1 N1 N2 (hH0 _ _ h1).1 (hH0 _ _ h2).1 h3 h4
  · intro B ob hφ
    obtain ⟨g1, g2⟩ := hR.far B ob hφ
    have hlt := lt_of_get g1
    have hne : ¬ S B := fun hb => by rw [(hS B hb).2] at hφ; cases hφ
    refine ⟨by rw [hE B hlt hne]; exact g1, ?_⟩
    intro c oc N hc hg
    rw [hgp] at hc
    split at hc
    · rename_i e; subst e; rw [ext_same] at hg; cases hg
      rcases hB' with hb | hb
      · exact hne hb
      · omega
    · rename_i e
      rw [hext c e] at hg
      exact g2 c oc N (hH0 _ _ hc).1 hg
  · obtain ⟨st, pd, h1⟩ := hR.stat B s hs
    refine ⟨st, pd, ?_⟩
    rw [hE B (lt_of_get h1) (fun hb => by rw [(hS B hb).1] at hs; cases hs)]
    exact h1
end Go.XS
