/- The layer 'XS': how abstract memory stands for memory: values, blocks. -/
import Derived.Test.YtmcpegdmnogkbaaGreatDoorXsRel
set_option linter.unusedSimpArgs false
set_option linter.unusedVariables false
namespace Go.XS
open Go Go.TS

/-- which block an abstract block is, how many cells that one has -/
abbrev G := P → Option (Nat × Nat)
def G.le (γ γ' : G) : Prop := ∀ b x, γ b = some x → γ' b = some x
theorem G.le.refl (γ : G) : G.le γ γ := fun _ _ h => h
theorem G.le.trans {γ γ1 γ2 : G} (h : G.le γ γ1) (h' : G.le γ1 γ2) : G.le γ γ2 := fun b x hb => h' b x (h b x hb)

def bytesV (n len : Nat) : List Value := (List.range len).map fun i => .int .u8 (Int.ofNat (dig n i))
def AdR (γ : G) (a : Ad) (A : Addr) : Prop := ∃ B N, γ a.b = some (B, N) ∧ A = ⟨B, a.o, none⟩
def OAdR (γ : G) : Option Ad → Option Addr → Prop
  | none, none => True
  | some a, some A => AdR γ a A
  | _, _ => False
def SlR (γ : G) (s : As) (S : Sl) : Prop :=
  S.len = s.len ∧ s.cap ≤ S.cap ∧ (s.e = 0 → S.cap = s.cap) ∧ (match s.base with
    | none => S.base = none ∧ s.e = 0
    | some a => ∃ B N, γ a.b = some (B, N) ∧ S.base = some ⟨B, a.o, none⟩ ∧ (s.e ≠ 0 → a.o + S.cap * s.e = N))
def AtR (s : At) (b : ByteArray) : Prop := b.data.toList.map (·.toNat) = (List.range s.len).map (dig s.n) ∧ s.n < pw s.len
def OMR (γ : G) : Option P → Option Nat → Prop
  | none, none => True
  | some r, some B => ∃ N, γ r = some (B, N)
  | _, _ => False

mutual
def VR (γ : G) : AV → Value → Prop
  | .int k n, v => v = .int k n
  | .bool b, v => v = .bool b
  | .ptr p, v => ∃ q, OAdR γ p q ∧ v = .pointer q
  | .sl s, v => ∃ S : Sl, SlR γ s S ∧ v = .slice S.base S.len S.cap
  | .str s, v => ∃ b, AtR s b ∧ v = .string b
  | .map r, v => ∃ q, OMR γ r q ∧ v = .map q
  | .fn f xs ys, v => ∃ us vs, VRL γ xs us ∧ VRL γ ys vs ∧ v = .func f us.toArray vs.toArray
  | .yld b, v => ∃ B N, γ b = some (B, N) ∧ v = .func (.yield B) #[] #[]
  | .nilf, v => v = .nilFunc
  | .agg l, v => ∃ vs, VRL γ l vs ∧ v = .agg vs.toArray
  | .aggb n len, v => n < pw len ∧ v = .agg (bytesV n len).toArray
  | .tup l, v => ∃ vs, VRL γ l vs ∧ v = .tuple vs.toArray
  | .ifc t a, v => ∃ w, VR γ a w ∧ v = .iface t w
  | .nilI, v => v = .nilIface
def VRL (γ : G) : List AV → List Value → Prop
  | [], vs => vs = []
  | a :: r, vs => ∃ v vs', vs = v :: vs' ∧ VR γ a v ∧ VRL γ r vs'
end

section
variable {γ γ' : G}
theorem AdR.mono (hl : G.le γ γ') {a : Ad} {A : Addr} (h : AdR γ a A) : AdR γ' a A := let ⟨B, N, hg, e⟩ := h; ⟨B, N, hl _ _ hg, e⟩
theorem OAdR.mono (hl : G.le γ γ') {a : Option Ad} {A : Option Addr} (h : OAdR γ a A) : OAdR γ' a A := by
  cases a <;> cases A <;> simp only [OAdR] at h ⊢
  exact h.mono hl
theorem SlR.mono (hl : G.le γ γ') {s : As} {S : Sl} (h : SlR γ s S) : SlR γ' s S := by
  obtain ⟨h1, h2, h3, h4⟩ := h
  refine ⟨h1, h2, h3, ?_⟩
  cases hb : s.base with
  | none => rw [hb] at h4; exact h4
  | some a => rw [hb] at h4; obtain ⟨B, N, hg, h5⟩ := h4; exact ⟨B, N, hl _ _ hg, h5⟩
theorem OMR.mono (hl : G.le γ γ') {a : Option P} {A : Option Nat} (h : OMR γ a A) : OMR γ' a A := by
  cases a <;> cases A <;> simp only [OMR] at h ⊢
  obtain ⟨N, h⟩ := h
  exact ⟨N, hl _ _ h⟩
mutual
theorem VR.mono (hl : G.le γ γ') : ∀ (a : AV) (v : Value), VR γ a v → VR γ' a v
  | .int k n, v, h => by simp only [VR] at h ⊢; exact h
  | .bool b, v, h => by simp only [VR] at h ⊢; exact h
  | .ptr p, v, h => by simp only [VR] at h ⊢; obtain ⟨q, h, e⟩ := h; exact ⟨q, h.mono hl, e⟩
  | .sl s, v, h => by simp only [VR] at h ⊢; obtain ⟨q, h, e⟩ := h; exact ⟨q, h.mono hl, e⟩
  | .str s, v, h => by simp only [VR] at h ⊢; exact h
  | .map r, v, h => by simp only [VR] at h ⊢; obtain ⟨q, h, e⟩ := h; exact ⟨q, h.mono hl, e⟩
  | .fn f xs ys, v, h => by simp only [VR] at h ⊢; obtain ⟨us, vs, h1, h2, e⟩ := h; exact ⟨us, vs, VRL.mono hl xs us h1, VRL.mono hl ys vs h2, e⟩
  | .yld b, v, h => by simp only [VR] at h ⊢; obtain ⟨B, N, h, e⟩ := h; exact ⟨B, N, hl _ _ h, e⟩
  | .nilf, v, h => by simp only [VR] at h ⊢; exact h
  | .agg l, v, h => by simp only [VR] at h ⊢; obtain ⟨us, h1, e⟩ := h; exact ⟨us, VRL.mono hl l us h1, e⟩
  | .aggb n len, v, h => by simp only [VR] at h ⊢; exact h
  | .tup l, v, h => by simp only [VR] at h ⊢; obtain ⟨us, h1, e⟩ := h; exact ⟨us, VRL.mono hl l us h1, e⟩
  | .ifc t a, v, h => by simp only [VR] at h ⊢; obtain ⟨w, h1, e⟩ := h; exact ⟨w, VR.mono hl a w h1, e⟩
  | .nilI, v, h => by simp only [VR] at h ⊢; exact h
theorem VRL.mono (hl : G.le γ γ') : ∀ (l : List AV) (vs : List Value), VRL γ l vs → VRL γ' l vs
  | [], vs, h => by simp only [VRL] at h ⊢; exact h
  | a :: r, vs, h => by simp only [VRL] at h ⊢; obtain ⟨v, vs', e, h1, h2⟩ := h; exact ⟨v, vs', e, VR.mono hl a v h1, VRL.mono hl r vs' h2⟩
end
theorem SlR.func {s : As} {S S' : Sl} (h : SlR γ s S) (h' : SlR γ s S') : S = S' := by
  obtain ⟨h1, h2, h3, h4⟩ := h
  obtain ⟨g1, g2, g3, g4⟩ := h'
  cases hb : s.base with
  | none =>
    rw [hb] at h4 g4
    obtain ⟨a1, a2⟩ := h4
    obtain ⟨b1, _⟩ := g4
    cases S; cases S'; simp only at *; subst h1 g1 a1 b1
    simp [h3 a2, g3 a2]
  | some a =>
    rw [hb] at h4 g4
    obtain ⟨B, N, hg, a1, a2⟩ := h4
    obtain ⟨B', N', hg', b1, b2⟩ := g4
    rw [hg] at hg'; cases hg'
    cases S; cases S'; simp only at *; subst h1 g1 a1 b1
    by_cases he : s.e = 0
    · simp [h3 he, g3 he]
    · have e1 := a2 he
      have e2 := b2 he
      have : 0 < s.e := Nat.pos_of_ne_zero he
      have e3 := Nat.add_left_cancel (e1.trans e2.symm)
      have e4 := Nat.eq_of_mul_eq_mul_right this e3
      simp [e4]
theorem OAdR.func {a : Option Ad} {A A' : Option Addr} (h : OAdR γ a A) (h' : OAdR γ a A') : A = A' := by
  cases a <;> cases A <;> cases A' <;> simp only [OAdR] at h h' ⊢
  obtain ⟨B, N, hg, rfl⟩ := h
  obtain ⟨B', N', hg', rfl⟩ := h'
  rw [hg] at hg'; cases hg'; rfl
theorem OMR.func {a : Option P} {A A' : Option Nat} (h : OMR γ a A) (h' : OMR γ a A') : A = A' := by
  cases a <;> cases A <;> cases A' <;> simp only [OMR] at h h' ⊢
  obtain ⟨N, hg⟩ := h
  obtain ⟨N', hg'⟩ := h'
  rw [hg] at hg'; cases hg'; rfl
theorem map_toNat_inj : ∀ (l m : List UInt8), l.map (·.toNat) = m.map (·.toNat) → l = m := by
  intro l
  induction l with
  | nil => intro m h; cases m <;> simp at h ⊢
  | cons a l ih => intro m h; cases m with
    | nil => simp at h
    | cons b m => simp only [List.map_cons, List.cons.injEq] at h ⊢; exact ⟨UInt8.toNat_inj.1 h.1, ih m h.2⟩
theorem AtR.func {s : At} {b b' : ByteArray} (h : AtR s b) (h' : AtR s b') : b = b' := by
  have := map_toNat_inj _ _ (h.1.trans h'.1.symm)
  cases b; cases b'
  simp only at this
  congr 1
  exact Array.ext' this
mutual
theorem VR.func : ∀ (a : AV) (v v' : Value), VR γ a v → VR γ a v' → v = v'
  | .int k n, v, v', h, h' => by simp only [VR] at h h'; rw [h, h']
  | .bool b, v, v', h, h' => by simp only [VR] at h h'; rw [h, h']
  | .ptr p, v, v', h, h' => by simp only [VR] at h h'; obtain ⟨q, h, rfl⟩ := h; obtain ⟨q', h', rfl⟩ := h'; rw [h.func h']
  | .sl s, v, v', h, h' => by simp only [VR] at h h'; obtain ⟨q, h, rfl⟩ := h; obtain ⟨q', h', rfl⟩ := h'; rw [h.func h']
  | .str s, v, v', h, h' => by simp only [VR] at h h'; obtain ⟨q, h, rfl⟩ := h; obtain ⟨q', h', rfl⟩ := h'; rw [h.func h']
  | .map r, v, v', h, h' => by simp only [VR] at h h'; obtain ⟨q, h, rfl⟩ := h; obtain ⟨q', h', rfl⟩ := h'; rw [h.func h']
  | .fn f xs ys, v, v', h, h' => by
    simp only [VR] at h h'
    obtain ⟨us, vs, h1, h2, rfl⟩ := h
    obtain ⟨us', vs', h1', h2', rfl⟩ := h'
    rw [VRL.func xs us us' h1 h1', VRL.func ys vs vs' h2 h2']
  | .yld b, v, v', h, h' => by
    simp only [VR] at h h'
    obtain ⟨B, N, h, rfl⟩ := h
    obtain ⟨B', N', h', rfl⟩ := h'
    rw [h] at h'; cases h'; rfl
  | .nilf, v, v', h, h' => by simp only [VR] at h h'; rw [h, h']
  | .agg l, v, v', h, h' => by simp only [VR] at h h'; obtain ⟨q, h, rfl⟩ := h; obtain ⟨q', h', rfl⟩ := h'; rw [VRL.func l q q' h h']
  | .aggb n len, v, v', h, h' => by simp only [VR] at h h'; rw [h.2, h'.2]
  | .tup l, v, v', h, h' => by simp only [VR] at h h'; obtain ⟨q, h, rfl⟩ := h; obtain ⟨q', h', rfl⟩ := h'; rw [VRL.func l q q' h h']
  | .ifc t a, v, v', h, h' => by simp only [VR] at h h'; obtain ⟨q, h, rfl⟩ := h; obtain ⟨q', h', rfl⟩ := h'; rw [VR.func a q q' h h']
  | .nilI, v, v', h, h' => by simp only [VR] at h h'; rw [h, h']
theorem VRL.func : ∀ (l : List AV) (vs vs' : List Value), VRL γ l vs → VRL γ l vs' → vs = vs'
  | [], vs, vs', h, h' => by simp only [VRL] at h h'; rw [h, h']
  | a :: r, vs, vs', h, h' => by
    simp only [VRL] at h h'
    obtain ⟨v, us, rfl, h1, h2⟩ := h
    obtain ⟨v', us', rfl, h1', h2'⟩ := h'
    rw [VR.func a v v' h1 h1', VRL.func r us us' h2 h2']
end
theorem VRL.nil : VRL γ [] [] := by simp [VRL]
theorem VRL.cons {a : AV} {v : Value} {l : List AV} {vs : List Value} (h : VR γ a v) (h' : VRL γ l vs) : VRL γ (a :: l) (v :: vs) := by
  simp only [VRL]; exact ⟨v, vs, rfl, h, h'⟩
theorem VRL.uncons {a : AV} {l : List AV} {vs : List Value} (h : VRL γ (a :: l) vs) : ∃ v vs', vs = v :: vs' ∧ VR γ a v ∧ VRL γ l vs' := by
  simp only [VRL] at h; exact h
theorem VRL.len : ∀ {l : List AV} {vs : List Value}, VRL γ l vs → l.length = vs.length := by
  intro l
  induction l with
  | nil => intro vs h; simp only [VRL] at h; subst h; rfl
  | cons a l ih => intro vs h; obtain ⟨v, vs', rfl, h1, h2⟩ := h.uncons; simp [ih h2]
theorem VRL.get : ∀ {l : List AV} {vs : List Value} {i : Nat} {a : AV}, VRL γ l vs → l[i]? = some a → ∃ v, vs[i]? = some v ∧ VR γ a v := by
  intro l
  induction l with
  | nil => intro vs i a h hi; simp at hi
  | cons b l ih =>
    intro vs i a h hi
    obtain ⟨v, vs', rfl, h1, h2⟩ := h.uncons
    cases i with
    | zero => simp at hi; subst hi; exact ⟨v, rfl, h1⟩
    | succ i => simp at hi; simpa using ih h2 hi
theorem VRL.of_get : ∀ {l : List AV} {vs : List Value}, l.length = vs.length → (∀ (i : Nat) (a : AV), l[i]? = some a → ∃ v, vs[i]? = some v ∧ VR γ a v) → VRL γ l vs := by
  intro l
  induction l with
  | nil => intro vs hl _; simp at hl; have : vs = [] := List.length_eq_zero_iff.1 hl.symm; subst this; exact VRL.nil
  | cons b l ih =>
    intro vs hl h
    cases vs with
    | nil => simp at hl
    | cons v vs =>
      obtain ⟨v', hv, h0⟩ := h 0 b (by simp)
      simp at hv; subst hv
      exact VRL.cons h0 (ih (by simpa using hl) (fun i a ha => by simpa using h (i + 1) a (by simpa using ha)))
theorem VRL.append {l l' : List AV} {vs vs' : List Value} (h : VRL γ l vs) (h' : VRL γ l' vs') : VRL γ (l ++ l') (vs ++ vs') := by
  induction l generalizing vs with
  | nil => simp only [VRL] at h; subst h; exact h'
  | cons a l ih => obtain ⟨v, us, rfl, h1, h2⟩ := h.uncons; exact VRL.cons h1 (ih h2)
theorem VRL.take {l : List AV} {vs : List Value} (n : Nat) (h : VRL γ l vs) : VRL γ (l.take n) (vs.take n) := by
  refine VRL.of_get (by simp [h.len]) ?_
  intro i a ha
  rw [List.getElem?_take] at ha ⊢
  split at ha
  · rename_i hi; rw [if_pos hi]; exact h.get ha
  · cases ha
theorem VRL.drop {l : List AV} {vs : List Value} (n : Nat) (h : VRL γ l vs) : VRL γ (l.drop n) (vs.drop n) := by
  refine VRL.of_get (by simp [h.len]) ?_
  intro i a ha
  rw [List.getElem?_drop] at ha ⊢
  exact h.get ha
theorem VRL.set {l : List AV} {vs : List Value} {a : AV} {v : Value} (n : Nat) (h : VRL γ l vs) (ha : VR γ a v) : VRL γ (l.set n a) (vs.set n v) := by
  refine VRL.of_get (by simp [h.len]) ?_
  intro i b hb
  rw [List.getElem?_set] at hb ⊢
  rw [← h.len]
  split at hb
  · rename_i hi
    rw [if_pos hi]
    split at hb
    · rename_i hl; cases hb; rw [if_pos hl]; exact ⟨v, rfl, ha⟩
    · cases hb
  · rename_i hi; rw [if_neg hi]; exact h.get hb
theorem VRL.bytes (n len : Nat) : VRL γ (bytesL n len) (bytesV n len) := by
  refine VRL.of_get (by simp [bytesL, bytesV]) ?_
  intro i a ha
  rw [get_bytesL] at ha
  split at ha
  · rename_i hi
    cases ha
    refine ⟨.int .u8 (Int.ofNat (dig n i)), ?_, by simp only [VR]⟩
    simp [bytesV, hi]
  · cases ha

/-- marks lie behind the cells, and on rows of bytes alone -/
def MkOk (c : Cs) (N : Nat) (fr : Nat × Nat) : Prop := fr = (0, 0) ∨ (N ≤ fr.1 ∧ c.isB = true)
theorem MkOk.old {c : Cs} {N : Nat} {fr : Nat × Nat} (h : MkOk c N fr) : fr.1 = fr.2 ∨ N ≤ fr.1 := by
  rcases h with h | h
  · left; rw [h]
  · exact .inr h.1
theorem MkOk.cat {c c' : Cs} {N : Nat} {fr : Nat × Nat} (h : MkOk c N fr) (hb : okB c c' = true) : MkOk c' N fr := by
  rcases h with h | ⟨h1, h2⟩
  · exact .inl h
  · refine .inr ⟨h1, ?_⟩
    cases c with
    | l xs => cases h2
    | b n len => exact hb
def CsOk : Cs → Prop
  | .l _ => True
  | .b n len => n < pw len
/-- keys and stamps of a map's entries are all different, stamps lie below the clock -/
def StOk0 {V : Type} (m : List (Int × V × Nat)) (clk : Nat) : Prop := (m.map (·.1)).Nodup ∧ (m.map (·.2.2)).Nodup ∧ ∀ s, s ∈ m.map (·.2.2) → s < clk
def StOk {V : Type} (kk : KeyC) (m : List (Int × V × Nat)) (clk : Nat) : Prop := StOk0 m clk ∧ ∀ k, k ∈ m.map (·.1) → okK kk k
theorem StOk.nil {V : Type} {kk : KeyC} (clk : Nat) : StOk kk ([] : List (Int × V × Nat)) clk := ⟨⟨by simp, by simp, by simp⟩, by simp⟩
theorem StOk.to {V W : Type} {m : List (Int × V × Nat)} {m' : List (Int × W × Nat)} {clk : Nat} {kk : KeyC} (h : StOk kk m clk) (h1 : m'.map (·.1) = m.map (·.1)) (h2 : m'.map (·.2.2) = m.map (·.2.2)) : StOk kk m' clk := by
  unfold StOk StOk0; rw [h1, h2]; exact h
theorem StOk.ok {V : Type} {kk : KeyC} {m : List (Int × V × Nat)} {clk : Nat} (h : StOk kk m clk) : okKs kk m := fun q hq => h.2 q.1 (List.mem_map.2 ⟨q, hq, rfl⟩)
def jpC : Jp → Code
  | .ret => .ret
  | .exit i => .exit i
/-- what lies in a block -/
def OR (γ : G) : AO → Nat → Obj → Prop
  | .cells c, N, .cells cs _ fr => cs.size = N ∧ CsOk c ∧ c.list.length ≤ N ∧ MkOk c N fr ∧ VRL γ c.list (cs.toList.take c.list.length)
  | .map kk mk m, _, .map es clk => ∃ m' : List (Int × Value × Nat), es = (m'.map fun q => (⟨keyV kk q.1, q.2.1, q.2.2⟩ : MapEntry)).toArray ∧
      m.length = m'.length ∧ (∀ (i : Nat) (q : Int × AV), m[i]? = some q → ∃ q', m'[i]? = some q' ∧ q'.1 = q.1 ∧ VR γ q.2 q'.2.1 ∧ valOk mk q.2 = true) ∧ StOk kk m' clk
  | .loop a, _, .loop r => r.state = a.st ∧ r.pending = a.pend.map jpC
  | .defd, _, .deferred d => d = some []
  | _, _, _ => False
def isLoopA : AO → Bool
  | .loop _ => true
  | _ => false
/-- may the name be taken? -/
def inB (H : Am) (b : P) : Prop := H.nx.num ≤ b.num ∧ ∀ q, H.hi = some q → b.num < q.num
/-- what is known of ranges over functions: names of blocks, the records but for their states -/
structure Tp where
  g0 : G
  stat : Nat → Option Loop
structure Tp.le (a b : Tp) : Prop where
  g0 : G.le a.g0 b.g0
  stat : ∀ B s, a.stat B = some s → b.stat B = some s
theorem Tp.le.refl (a : Tp) : Tp.le a a := ⟨.refl _, fun _ _ h => h⟩
theorem Tp.le.trans {a b c : Tp} (h : Tp.le a b) (h' : Tp.le b c) : Tp.le a c := ⟨h.g0.trans h'.g0, fun B s hs => h'.stat B s (h.stat B s hs)⟩
/-- what stays: blocks of others; names that are not taken -/
structure Fx where
  far : Nat → Option Obj
  free : P → Prop
  top : Tp
/-- the heap stands so -/
structure HR (γ : G) (φ : Fx) (H : Am) (h : Mem) : Prop where
  dom : ∀ b x, γ b = some x → x.1 < h.size
  band : ∀ b, inB H b → γ b = none
  free : ∀ b, φ.free b → γ b = none ∧ ¬ inB H b
  obj : ∀ b o, H.get b = some o → ∃ B N ob, γ b = some (B, N) ∧ h[B]? = some ob ∧ OR γ o N ob
  inj : ∀ b b' o o' B N N', H.get b = some o → H.get b' = some o' → γ b = some (B, N) → γ b' = some (B, N') → b = b'
  far : ∀ B ob, φ.far B = some ob → h[B]? = some ob ∧ ∀ b o N, H.get b = some o → γ b ≠ some (B, N)
  le0 : G.le φ.top.g0 γ
  stat : ∀ B s, φ.top.stat B = some s → ∃ st pd, h[B]? = some (.loop { s with state := st, pending := pd })

theorem OR.mono (hl : G.le γ γ') {o : AO} {N : Nat} {ob : Obj} (h : OR γ o N ob) : OR γ' o N ob := by
  cases o with
  | cells c => cases ob with
    | cells cs el fr => simp only [OR] at h ⊢; exact ⟨h.1, h.2.1, h.2.2.1, h.2.2.2.1, h.2.2.2.2.mono hl⟩
    | _ => simp only [OR] at h
  | map kk mk m => cases ob with
    | map es clk =>
      simp only [OR] at h ⊢
      obtain ⟨m', h1, h2, h3, h4⟩ := h
      exact ⟨m', h1, h2, fun i q hq => let ⟨q', a, b, c, d⟩ := h3 i q hq; ⟨q', a, b, c.mono hl, d⟩, h4⟩
    | _ => simp only [OR] at h
  | loop a => cases ob <;> simp only [OR] at h ⊢ <;> exact h
  | defd => cases ob <;> simp only [OR] at h ⊢ <;> exact h

def KR (γ : G) : (k : Kind) → aty k → k.ty → Prop
  | .int _, a, b => a = b
  | .bool, a, b => a = b
  | .ptr, a, b => OAdR γ a b
  | .sl, a, b => SlR γ a b
  | .str, a, b => AtR a b
  | .map, a, b => OMR γ a b
  | .any, a, b => VR γ a b
theorem ikEq_iff {k k' : IntKind} : ikEq k k' = true ↔ k = k' := by cases k <;> cases k' <;> simp [ikEq]
theorem iksEq_iff : ∀ {r s : List IntKind}, iksEq r s = true ↔ r = s := by
  intro r
  induction r with
  | nil => intro s; cases s <;> simp [iksEq]
  | cons k r ih =>
    intro s
    cases s with
    | nil => simp [iksEq]
    | cons k' s =>
      simp only [iksEq, List.cons.injEq]
      constructor
      · intro h
        split at h
        · rename_i hk; exact ⟨ikEq_iff.1 hk, ih.1 h⟩
        · cases h
      · rintro ⟨rfl, rfl⟩
        rw [ikEq_iff.2 rfl]
        exact ih.2 rfl
theorem kcEq_iff {a b : KeyC} : kcEq a b = true ↔ a = b := by
  cases a <;> cases b <;> simp [kcEq, ikEq_iff, iksEq_iff]
theorem KR.enc {k : Kind} {x : aty k} {y : k.ty} (h : KR γ k x y) : VR γ (aenc k x) (k.enc y) := by
  cases k <;> simp only [KR] at h <;> simp only [aenc, Kind.enc, VR]
  · rw [h]
  · rw [h]
  · exact ⟨_, h, rfl⟩
  · exact ⟨_, h, rfl⟩
  · exact ⟨_, h, rfl⟩
  · exact ⟨_, h, rfl⟩
  · exact h
theorem KR.dec {k : Kind} {a : AV} {x : aty k} {v : Value} (h : VR γ a v) (hd : adec k a = some x) : ∃ y, v = k.enc y ∧ KR γ k x y := by
  cases k with
  | any => simp only [adec] at hd; cases hd; exact ⟨v, rfl, h⟩
  | int k =>
    cases a <;> simp only [adec] at hd <;> try cases hd
    rename_i k' n
    split at hd
    · rename_i hk
      cases hd
      rw [ikEq_iff] at hk; subst hk
      simp only [VR] at h; exact ⟨_, h, rfl⟩
    · cases hd
  | bool =>
    cases a <;> simp only [adec] at hd <;> try cases hd
    simp only [VR] at h; exact ⟨_, h, rfl⟩
  | ptr =>
    cases a <;> simp only [adec] at hd <;> try cases hd
    simp only [VR] at h; obtain ⟨q, h, e⟩ := h; exact ⟨q, e, h⟩
  | sl =>
    cases a <;> simp only [adec] at hd <;> try cases hd
    simp only [VR] at h; obtain ⟨q, h, e⟩ := h; exact ⟨q, e, h⟩
  | str =>
    cases a <;> simp only [adec] at hd <;> try cases hd
    simp only [VR] at h; obtain ⟨q, h, e⟩ := h; exact ⟨q, e, h⟩
  | map =>
    cases a <;> simp only [adec] at hd <;> try cases hd
    simp only [VR] at h; obtain ⟨q, h, e⟩ := h; exact ⟨q, e, h⟩
theorem aenc_dec {k : Kind} {a : AV} {x : aty k} (hd : adec k a = some x) : aenc k x = a := by
  cases k <;> cases a <;> simp only [adec] at hd <;> try cases hd
  all_goals try rfl
  rename_i k' n
  split at hd
  · rename_i hk
    cases hd
    rw [ikEq_iff] at hk; subst hk; rfl
  · cases hd
end
end Go.XS
