/- Contracts: octet's writers. -/
import Derived.Test.YtgdkafimnpjghaaGreatDoorTcSlices
namespace Go.TS
open Go
set_option linter.unusedVariables false

theorem holds_new {h : Mem} {b : Nat} {cs : List Value} {e : TypeId} {fr : Nat × Nat} (c : Nat) (hb : h[b]? = some (.cells cs.toArray e fr)) : Holds h ⟨some ⟨b, 0, none⟩, cs.length, c⟩ cs := by
  refine ⟨rfl, rfl, fun i v hv => ?_⟩
  rw [add_n, Nat.zero_add]
  simp only [rd, hb]
  simpa using hv
theorem vec_new {h : Mem} {b : Nat} {cs : List Value} {e : TypeId} (hb : h[b]? = some (.cells cs.toArray e (0, 0))) : Vec h ⟨some ⟨b, 0, none⟩, cs.length, cs.length⟩ cs :=
  .inr ⟨b, [], rfl, e, by simpa using hb⟩
theorem at_lit {b i l c k : Nat} (h : At ⟨some ⟨b, i, none⟩, l, c⟩ k) : k = b := by
  obtain ⟨a, ha, rfl⟩ := h
  simp only [Option.some.injEq] at ha; subst ha; rfl

/-- the number without its lowest octets -/
def sh (n : Int) : Nat → Int
  | 0 => n
  | k + 1 => (sh n k).fdiv (2 ^ 8)
/-- the lowest octets first -/
def leB (k : Nat) (n : Int) : List Int := (List.range k).map fun i => IntKind.u8.wrap (sh n i)
theorem leB_succ (k : Nat) (n : Int) : leB (k + 1) n = leB k n ++ [IntKind.u8.wrap (sh n k)] := by simp [leB, List.range_succ]
theorem leB_len (k : Nat) (n : Int) : (leB k n).length = k := by simp [leB]
abbrev By (l : List Int) : List Value := encL (.int .u8) l
abbrev Is (l : List Int) : List Value := encL (.int .i64) l
theorem By_app (a b : List Int) : By (a ++ b) = By a ++ By b := List.map_append
theorem By_len (a : List Int) : (By a).length = a.length := by simp [encL]
theorem By_ones (a : List Int) : Ones (By a) := ones_enc _ _ (by simp)
theorem Is_ones (a : List Int) : Ones (Is a) := ones_enc _ _ (by simp)
theorem Is_len (a : List Int) : (Is a).length = a.length := by simp [encL]
theorem Is_app (a b : List Int) : Is (a ++ b) = Is a ++ Is b := List.map_append

theorem word_ct {τ : Nat → Nat} {s : Sl} {n m : Int} {h : Mem} {K : Sl → Mem → Prop} {xs : List Value} (hm : m = 2 ∨ m = 4 ∨ m = 8) (q : Holds h s xs) (ho : Ones xs) (hl : xs.length ≤ 2 ^ 36)
    (hK : ∀ r h', Vec h' r (xs ++ By (leB m.toNat n)) → New h r → Ext h h' → K r h') : octet_Word τ s n m h K := by
  have key : LoopP (σ := Int × Sl × Int) (fun nx1 l1 h =>
    ifB (decide (l1.2.2 < m)) (
      al (.cells #[(Value.int .u8 (IntKind.u8.wrap l1.1))] (τ 0)) h fun q7 h =>
      app (τ 0) #[(Value.int .u8 0)] 1 1 l1.2.1 (⟨(some (⟨q7, 0, none⟩ : Addr)), 1, 1⟩ : Sl) h fun s8 h =>
      nx1 ((l1.1.fdiv (2 ^ 8)), s8, (IntKind.i64.wrap (l1.2.2 + 1))) h)
    (al (.cells #[(Value.slice s.base s.len s.cap), (Value.slice l1.2.1.base l1.2.1.len l1.2.1.cap)] (τ 6)) h fun q9 h =>
      slices_Concat_byte_byte τ (⟨(some (⟨q9, 0, none⟩ : Addr)), 2, 2⟩ : Sl) h fun s10 h => K s10 h)) (n, (⟨none, 0, 0⟩ : Sl), 0) h := by
    refine loop_ct (fun l h' => ∃ k : Nat, l.2.2 = k ∧ k ≤ m.toNat ∧ l.1 = sh n k ∧ Vec h' l.2.1 (By (leB k n)) ∧ New h l.2.1 ∧ Ext h h') (fun l _ => (m - l.2.2).toNat)
      ⟨0, rfl, by omega, rfl, vec_nil h, new_nil h, Upd.refl _ _⟩ ?_
    rintro ⟨l1, l2, l3⟩ h1 ⟨k, rfl, hk, rfl, hv, hn, hE⟩
    dsimp only at hv hn ⊢
    refine ifB_c (fun hc => ?_) (fun hc => ?_)
    · have hkm : k < m.toNat := by simp at hc; omega
      refine al_ct fun h2 hb2 hE2 hs2 => ?_
      refine app_ct (hv.gete hE2) (holds_new 1 hb2) (by intro v hv; simp at hv; subst hv; rfl) (by simp [By_len, leB_len]; omega) (by simp [By_len, leB_len]; omega) fun r h3 hr hu hat => ?_
      rw [w64 (by omega) (by omega)]
      have hE13 : Ext h h3 := Upd.above (hE.ext hE2) hu hn
      refine ⟨⟨k + 1, by omega, by omega, rfl, by rw [leB_succ, By_app]; exact hr, ?_, hE13⟩, by omega⟩
      intro b hb
      rcases hat b hb with hb | hb
      · exact hn b hb
      · have := hE.sz; have := hE2.sz; omega
    · have hkm : k = m.toNat := by simp at hc; omega
      subst hkm
      refine al_ct fun h2 hb2 hE2 hs2 => ?_
      refine concat_byte_ct (L := [(s, xs), (l2, By (leB m.toNat n))]) ⟨holds_new 2 hb2, ?_⟩ ?_ (by simp) ?_ fun r h3 hr hnr hE3 => ?_
      · intro p hp
        simp only [List.mem_cons, List.not_mem_nil, or_false] at hp
        rcases hp with rfl | rfl
        · exact q.gete (hE.ext hE2)
        · exact hv.holds.gete hE2
      · intro p hp
        simp only [List.mem_cons, List.not_mem_nil, or_false] at hp
        rcases hp with rfl | rfl
        · exact ho
        · exact By_ones _
      · simp only [total, By_len, leB_len]; omega
      · refine hK r h3 ?_ (hnr.mono ((hE.ext hE2).sz)) ((hE.ext hE2).ext hE3)
        simpa [joined] using hr
  unfold octet_Word
  dsimp only
  rcases hm with rfl | rfl | rfl
  · exact ifB_t rfl (ifB_t rfl key)
  · exact ifB_f rfl (ifB_t rfl (ifB_t rfl key))
  · exact ifB_f rfl (ifB_f rfl (ifB_t rfl key))

/-- a number's octets, seven bits each -/
def numB : Nat → Int → List Int
  | 0, n => [IntKind.u8.wrap n]
  | f + 1, n => if n ≥ 128 then bits .or .u8 (IntKind.u8.wrap n) 128 :: numB f (n.fdiv (2 ^ 7)) else [IntKind.u8.wrap n]
theorem numB_len (f : Nat) : ∀ n, (numB f n).length ≤ f + 1 := by
  induction f with
  | zero => intro n; simp [numB]
  | succ f ih => intro n; simp only [numB]; split <;> simp; exact ih _
theorem number_ct {τ : Nat → Nat} {s : Sl} {n : Int} {h : Mem} {K : Sl → Mem → Prop} {xs : List Value} (h0 : 0 ≤ n) (h1 : n < 18446744073709551616) (q : Holds h s xs) (ho : Ones xs) (hl : xs.length ≤ 2 ^ 36)
    (hK : ∀ r h', Vec h' r (xs ++ By (numB 9 n)) → New h r → Ext h h' → K r h') : octet_Number τ s n h K := by
  refine clone_byte_ct q ho (by omega) fun r0 hh0 hv0 hn0 hE0 _ => ?_
  refine loop_ct (fun l h' => ∃ (k : Nat) (d : List Int), d.length + k = 9 ∧ 0 ≤ l.2 ∧ l.2 < 2 * 128 ^ k ∧ numB 9 n = d ++ numB k l.2 ∧ Vec h' l.1 (xs ++ By d) ∧ New h l.1 ∧ Ext h h') (fun l _ => l.2.toNat)
    ⟨9, [], rfl, h0, by dsimp only; omega, rfl, by simpa [encL] using hv0, hn0, hE0⟩ ?_
  rintro ⟨l1, l2⟩ h2 ⟨k, d, hdk, hl0, hlt, heq, hv, hn, hE⟩
  dsimp only at hl0 hlt heq hv hn ⊢
  have hf : l2.fdiv (2 ^ 7) = l2 / 128 := by rw [Int.fdiv_eq_ediv_of_nonneg]; rfl; omega
  refine ifB_c (fun hc => ?_) (fun hc => ?_)
  · have hc' : l2 ≥ 128 := by simpa using hc
    cases k with
    | zero => simp at hlt; omega
    | succ k =>
      refine al_ct fun h3 hb3 hE3 hs3 => ?_
      refine app_ct (hv.gete hE3) (holds_new 1 hb3) (by intro v hv; simp at hv; subst hv; rfl) (by simp [By_len]; omega) (by simp [By_len]; omega) fun r h4 hr hu hat => ?_
      refine ⟨⟨k, d ++ [bits .or .u8 (IntKind.u8.wrap l2) 128], by simp; omega, by rw [hf]; omega, ?_, ?_, ?_, ?_, Upd.above (hE.ext hE3) hu hn⟩, by rw [hf]; omega⟩
      · rw [hf]; rw [Int.pow_succ] at hlt; omega
      · rw [heq]; simp only [numB, if_pos hc', List.append_assoc, List.cons_append, List.nil_append]
      · rw [By_app, ← List.append_assoc]; exact hr
      · intro b hb
        rcases hat b hb with hb | hb
        · exact hn b hb
        · have := hE.sz; have := hE3.sz; omega
  · have hc' : ¬ l2 ≥ 128 := by simpa using hc
    refine al_ct fun h3 hb3 hE3 hs3 => ?_
    refine app_ct (hv.gete hE3) (holds_new 1 hb3) (by intro v hv; simp at hv; subst hv; rfl) (by simp [By_len]; omega) (by simp [By_len]; omega) fun r h4 hr hu hat => ?_
    refine hK r h4 ?_ ?_ (Upd.above (hE.ext hE3) hu hn)
    · have : numB k l2 = [IntKind.u8.wrap l2] := by cases k <;> simp [numB, hc']
      rw [heq, this, By_app, ← List.append_assoc]; exact hr
    · intro b hb
      rcases hat b hb with hb | hb
      · exact hn b hb
      · have := hE.sz; have := hE3.sz; omega
end Go.TS
