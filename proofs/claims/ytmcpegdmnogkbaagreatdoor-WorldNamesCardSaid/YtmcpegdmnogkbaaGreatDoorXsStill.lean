/- The layer 'XS': numbers, environments. -/
import Derived.Laws.BitsLemmas
import Derived.Test.YtmcpegdmnogkbaaGreatDoorXsSl2
set_option linter.unusedSimpArgs false
set_option linter.unusedVariables false
namespace Go.XS
open Go Go.TS

-- numbers
theorem addI_eq (a b : Int) : addI a b = a + b := by cases a <;> cases b <;> rfl
theorem mulI_eq (a b : Int) : mulI a b = a * b := by cases a <;> cases b <;> rfl
theorem subI_eq (a b : Int) : subI a b = a - b := by
  cases a <;> cases b <;> try rfl
  rename_i x y
  simp only [subI]
  cases h : Nat.ble y x with
  | true =>
    rw [ble_iff] at h
    show Int.ofNat (x - y) = _
    simp only [Int.ofNat_eq_natCast]; omega
  | false =>
    have : ¬ y ≤ x := fun hh => by rw [ble_iff.2 hh] at h; cases h
    show Int.negSucc (y - x - 1) = _
    rw [Int.negSucc_eq]
    simp only [Int.ofNat_eq_natCast]; omega
theorem divI_eq (a b : Int) : divI a b = a.tdiv b := by cases a <;> cases b <;> rfl
theorem remI_eq (a b : Int) : remI a b = a.tmod b := by cases a <;> cases b <;> rfl
theorem ltI_iff (a b : Int) : ltI a b = true ↔ a < b := by
  cases a with
  | ofNat x => cases b with
    | ofNat y => simp only [ltI, blt_iff, Int.ofNat_eq_natCast]; omega
    | negSucc y => simp only [ltI, Bool.false_eq_true, false_iff, Int.ofNat_eq_natCast, Int.negSucc_eq]; omega
  | negSucc x => cases b with
    | ofNat y => simp only [ltI, true_iff, Int.ofNat_eq_natCast, Int.negSucc_eq]; omega
    | negSucc y => simp only [ltI, blt_iff, Int.negSucc_eq]; omega
theorem ltI_eq (a b : Int) : ltI a b = decide (a < b) := by
  by_cases h : a < b
  · rw [(ltI_iff a b).2 h, decide_eq_true h]
  · rw [decide_eq_false h]
    cases hb : ltI a b with
    | true => exact absurd ((ltI_iff a b).1 hb) h
    | false => rfl
theorem leI_eq (a b : Int) : leI a b = decide (a ≤ b) := by
  unfold leI
  rw [ltI_eq]
  by_cases h : b < a
  · rw [decide_eq_true h, decide_eq_false (by omega)]
  · rw [decide_eq_false h, decide_eq_true (by omega)]
theorem iEq_eq (a b : Int) : iEq a b = (a == b) := by
  by_cases h : a = b
  · rw [iEq_iff.2 h, h]; simp
  · have : (a == b) = false := by simpa using h
    rw [this]
    cases hb : iEq a b with
    | true => exact absurd (iEq_iff.1 hb) h
    | false => rfl
theorem wrapA_eq (k : IntKind) (n : Int) : wrapA k n = k.wrap n := by
  unfold wrapA
  cases h : inK k n with
  | false => rfl
  | true =>
    simp only []
    symm
    cases n with
    | ofNat m =>
      simp only [inK, blt_iff] at h
      cases k <;> simp only [halfK] at h <;> simp [IntKind.wrap, IntKind.bits, IntKind.signed] <;> omega
    | negSucc m =>
      simp only [inK] at h
      have hn : Int.negSucc m = -((m : Int) + 1) := Int.negSucc_eq m
      generalize Int.negSucc m = n at hn
      cases k <;> simp only [sgnK, halfK, blt_iff] at h <;> (try (exact absurd h (by decide))) <;> simp [IntKind.wrap, IntKind.bits, IntKind.signed] <;> omega
theorem halfK_wrap (k : IntKind) (n : Nat) (h : n < halfK k) : k.wrap (n : Int) = n := by
  have := wrapA_eq k (Int.ofNat n)
  unfold wrapA inK at this
  simp only [blt_iff.2 h] at this
  exact this.symm
theorem halfK_pow (k : IntKind) : ∃ j, j ≤ k.bits ∧ halfK k = 2 ^ j := by
  cases k <;> simp only [halfK, IntKind.bits]
  · exact ⟨7, by decide, rfl⟩
  · exact ⟨15, by decide, rfl⟩
  · exact ⟨31, by decide, rfl⟩
  · exact ⟨63, by decide, rfl⟩
  · exact ⟨8, by decide, rfl⟩
  · exact ⟨16, by decide, rfl⟩
  · exact ⟨32, by decide, rfl⟩
  · exact ⟨64, by decide, rfl⟩
theorem bits_half (k : IntKind) (x y : Nat) (hx : x < halfK k) (hy : y < halfK k) : bits .and k x y = ((x &&& y : Nat) : Int) ∧ bits .or k x y = ((x ||| y : Nat) : Int) ∧ bits .xor k x y = ((x ^^^ y : Nat) : Int) := by
  obtain ⟨j, hj, he⟩ := halfK_pow k
  have hk : ∀ n : Int, 0 ≤ n → n < 2 ^ j → k.wrap n = n := by
    intro n h0 h1
    obtain ⟨m, rfl⟩ := Int.eq_ofNat_of_zero_le h0
    exact halfK_wrap k m (by rw [he]; exact_mod_cast h1)
  rw [he] at hx hy
  obtain ⟨h1, h2⟩ := bits_nat k j hj hk x y hx hy
  refine ⟨h1, h2, ?_⟩
  have hp : 2 ^ j ≤ 2 ^ k.bits := Nat.pow_le_pow_right (by decide) hj
  have ha' : x % 2 ^ k.bits = x := Nat.mod_eq_of_lt (Nat.lt_of_lt_of_le hx hp)
  have hb' : y % 2 ^ k.bits = y := Nat.mod_eq_of_lt (Nat.lt_of_lt_of_le hy hp)
  simp only [bits, BitVec.ofInt_natCast, BitVec.toNat_xor, BitVec.toNat_ofNat, ha', hb']
  exact hk _ (Int.natCast_nonneg _) (by exact_mod_cast Nat.xor_lt_two_pow hx hy)
theorem andI_eq (k : IntKind) (a b : Int) : andI k a b = bits .and k a b := by
  unfold andI
  split
  · rename_i x y
    split
    · rename_i h1
      split
      · rename_i h2; rw [blt_iff] at h1 h2; exact (bits_half k x y h1 h2).1.symm
      · rfl
    · rfl
  · rfl
theorem orI_eq (k : IntKind) (a b : Int) : orI k a b = bits .or k a b := by
  unfold orI
  split
  · rename_i x y
    split
    · rename_i h1
      split
      · rename_i h2; rw [blt_iff] at h1 h2; exact (bits_half k x y h1 h2).2.1.symm
      · rfl
    · rfl
  · rfl
theorem xorI_eq (k : IntKind) (a b : Int) : xorI k a b = bits .xor k a b := by
  unfold xorI
  split
  · rename_i x y
    split
    · rename_i h1
      split
      · rename_i h2; rw [blt_iff] at h1 h2; exact (bits_half k x y h1 h2).2.2.symm
      · rfl
    · rfl
  · rfl
theorem andNotI_eq (k : IntKind) (a b : Int) : andNotI k a b = bits .andNot k a b := by
  unfold andNotI
  split
  · rename_i x y
    split
    · rename_i h1
      split
      · rename_i h2
        rw [blt_iff] at h1 h2
        obtain ⟨j, hj, he⟩ := halfK_pow k
        have hk : ∀ n : Int, 0 ≤ n → n < 2 ^ j → k.wrap n = n := by
          intro n h0 h1
          obtain ⟨m, rfl⟩ := Int.eq_ofNat_of_zero_le h0
          exact halfK_wrap k m (by rw [he]; exact_mod_cast h1)
        rw [he] at h1 h2
        have hp : 2 ^ j ≤ 2 ^ k.bits := Nat.pow_le_pow_right (by decide) hj
        have ha' : x % 2 ^ k.bits = x := Nat.mod_eq_of_lt (Nat.lt_of_lt_of_le h1 hp)
        have hxx : x ^^^ (x &&& y) < 2 ^ j := Nat.xor_lt_two_pow h1 (Nat.lt_of_le_of_lt Nat.and_le_left h1)
        have e : (BitVec.ofNat k.bits x &&& ~~~(BitVec.ofNat k.bits y)).toNat = x ^^^ (x &&& y) := by
          have : BitVec.ofNat k.bits x &&& ~~~(BitVec.ofNat k.bits y) = BitVec.ofNat k.bits x ^^^ (BitVec.ofNat k.bits x &&& BitVec.ofNat k.bits y) := by
            apply BitVec.eq_of_getElem_eq
            intro i hi
            simp only [BitVec.getElem_and, BitVec.getElem_not, BitVec.getElem_xor]
            cases (BitVec.ofNat k.bits x)[i] <;> cases (BitVec.ofNat k.bits y)[i] <;> rfl
          rw [this, BitVec.toNat_xor, BitVec.toNat_and, BitVec.toNat_ofNat, BitVec.toNat_ofNat, ha']
          have hb' : y % 2 ^ k.bits = y := Nat.mod_eq_of_lt (Nat.lt_of_lt_of_le h2 hp)
          rw [hb']
        show ((x ^^^ (x &&& y) : Nat) : Int) = _
        unfold bits
        simp only [Int.ofNat_eq_natCast, BitVec.ofInt_natCast, e]
        exact (hk _ (Int.natCast_nonneg _) (by exact_mod_cast hxx)).symm
      · rfl
    · rfl
  · rfl
theorem mnN_eq (a b : Nat) : mnN a b = min a b := by
  unfold mnN
  cases hb : Nat.ble a b with
  | true => rw [ble_iff] at hb; simp only []; omega
  | false =>
    have : ¬ a ≤ b := fun hh => by rw [ble_iff.2 hh] at hb; cases hb
    simp only []; omega
theorem shlI_eq (k : IntKind) (a : Int) (b : Nat) : shlI k a b = a * 2 ^ (min b k.bits) := by
  cases a with
  | negSucc n => rfl
  | ofNat x =>
    show Int.ofNat (x <<< (mnN b k.bits)) = _
    rw [mnN_eq, Nat.shiftLeft_eq]
    simp
theorem shrI_eq (k : IntKind) (a : Int) (b : Nat) : shrI k a b = a.fdiv (2 ^ (min b k.bits)) := by
  cases a with
  | negSucc n => rfl
  | ofNat x =>
    show Int.ofNat (x >>> (mnN b k.bits)) = _
    rw [mnN_eq, Nat.shiftRight_eq_div_pow]
    rw [Int.fdiv_eq_ediv_of_nonneg _ (by exact_mod_cast Nat.zero_le _)]
    simp
theorem ntB_eq (b : Bool) : ntB b = !b := by cases b <;> rfl
theorem eqBo_eq (a b : Bool) : eqBo a b = (a == b) := by cases a <;> cases b <;> rfl
theorem kI_eq {ρ : Type} (k : IntKind) (n : Int) (K : AV → Option ρ) : kI k n K = K (.int k n) := sI_eq n _

-- environments
theorem tr_put2 {α : Type} : ∀ (f : Nat) (e : Tr α) (n : Nat) (x : α) (t : Nat), t + 1 < 2 ^ f → (Tr.put f e n x).get t = if t = n then some x else e.get t := by
  intro f
  induction f with
  | zero => intro e n x t h; simp at h
  | succ f ih =>
    intro e n x t h
    have hp : 2 ^ (f + 1) = 2 * 2 ^ f := by rw [Nat.pow_succ]; omega
    rw [hp] at h
    have bt : ∀ m : Nat, Nat.beq m 0 = true ↔ m = 0 := fun m => beq_iff
    have bf : ∀ m : Nat, Nat.beq m 0 = false ↔ m ≠ 0 := fun m => by
      cases hb : Nat.beq m 0 with
      | true => simp [(bt m).1 hb]
      | false => simp; exact fun hm => by rw [(bt m).2 hm] at hb; cases hb
    have hdiv : ∀ m : Nat, Nat.div m 2 = m / 2 := fun _ => rfl
    have hmod : ∀ m : Nat, Nat.mod m 2 = m % 2 := fun _ => rfl
    have hsub : ∀ m : Nat, Nat.sub m 1 = m - 1 := fun _ => rfl
    have key : ∀ (l : Tr α) (v : Option α) (r : Tr α), Tr.get (match Nat.beq n 0 with
          | true => Tr.node l (some x) r
          | false => match Nat.beq (Nat.mod n 2) 0 with
            | true => Tr.node l v (Tr.put f r (Nat.sub (Nat.div n 2) 1) x)
            | false => Tr.node (Tr.put f l (Nat.div n 2) x) v r) t = if t = n then some x else Tr.get (.node l v r) t := by
      intro l v r
      by_cases h0 : n = 0
      · rw [(bt n).2 h0]
        simp only [Tr.get]
        by_cases t0 : t = 0
        · rw [(bt t).2 t0, if_pos (by omega)]
        · rw [(bf t).2 t0, if_neg (by omega)]
      · rw [(bf n).2 h0]
        simp only [hmod, hdiv, hsub]
        by_cases hn2 : n % 2 = 0
        · rw [(bt _).2 hn2]
          simp only [Tr.get, hmod, hdiv, hsub]
          by_cases t0 : t = 0
          · rw [(bt t).2 t0, if_neg (by omega)]
          · rw [(bf t).2 t0]
            by_cases ht2 : t % 2 = 0
            · rw [(bt _).2 ht2]
              simp only []
              rw [ih _ _ _ _ (by omega)]
              by_cases he : t = n
              · rw [if_pos he, if_pos (by omega)]
              · rw [if_neg he, if_neg (by omega)]
            · rw [(bf _).2 ht2, if_neg (by omega)]
        · rw [(bf _).2 hn2]
          simp only [Tr.get, hmod, hdiv, hsub]
          by_cases t0 : t = 0
          · rw [(bt t).2 t0, if_neg (by omega)]
          · rw [(bf t).2 t0]
            by_cases ht2 : t % 2 = 0
            · rw [(bt _).2 ht2, if_neg (by omega)]
            · rw [(bf _).2 ht2]
              simp only []
              rw [ih _ _ _ _ (by omega)]
              by_cases he : t = n
              · rw [if_pos he, if_pos (by omega)]
              · rw [if_neg he, if_neg (by omega)]
    cases e with
    | node l v r => exact key l v r
    | nil =>
      have hg : ∀ t, Tr.get (.node .nil none .nil : Tr α) t = none := by
        intro t
        simp only [Tr.get]
        split
        · rfl
        · split <;> rfl
      have := key .nil none .nil
      rw [hg] at this
      show _ = if t = n then some x else none
      have hput : Tr.put (f + 1) .nil n x = match Nat.beq n 0 with
          | true => .node .nil (some x) .nil
          | false => match Nat.beq (Nat.mod n 2) 0 with
            | true => .node .nil none (Tr.put f .nil (Nat.sub (Nat.div n 2) 1) x)
            | false => .node (Tr.put f .nil (Nat.div n 2) x) none .nil := rfl
      rw [hput, ← this]
def ER (γ : G) (a : AE) (e : Env) : Prop := ∀ t x, eget a t = some x → ∃ v, Env.get e t = some v ∧ VR γ x v
section
variable {γ γ' : G} {ae : AE} {e : Env} {ρ : Type} {r : ρ}
theorem ER.mono (hl : G.le γ γ') (h : ER γ ae e) : ER γ' ae e := fun t x hx => let ⟨v, h1, h2⟩ := h t x hx; ⟨v, h1, h2.mono hl⟩
/-- are two digits the same? -/
def decEqO8 : O8 → O8 → Bool
  | .o0, .o0 | .o1, .o1 | .o2, .o2 | .o3, .o3 | .o4, .o4 | .o5, .o5 | .o6, .o6 | .o7, .o7 => true
  | _, _ => false
theorem decEqO8_self (c : O8) : decEqO8 c c = true := by cases c <;> rfl
theorem decEqO8_ne {c d : O8} (h : c ≠ d) : decEqO8 c d = false := by cases c <;> cases d <;> first | rfl | exact absurd rfl h
theorem o8_inj : ∀ {a b : Nat}, a < 8 → b < 8 → o8 a = o8 b → a = b := by
  intro a b ha hb h
  have : ∀ a, a < 8 → ∀ b, b < 8 → o8 a = o8 b → a = b := by
    intro a ha b hb h
    match a, ha with
    | 0, _ | 1, _ | 2, _ | 3, _ | 4, _ | 5, _ | 6, _ | 7, _ => match b, hb with
      | 0, _ | 1, _ | 2, _ | 3, _ | 4, _ | 5, _ | 6, _ | 7, _ => first | rfl | cases h
  exact this a ha b hb h
theorem N1.get_upd (d c : O8) (f : Option AV → Option AV) (n : N1) : N1.get c (N1.upd d f n) = (match decEqO8 c d with | true => f (N1.get c n) | false => N1.get c n) := by
  cases d <;> cases c <;> rfl
theorem N2.get_upd (d c : O8) (f : N1 → N1) (n : N2) : N2.get c (N2.upd d f n) = (match decEqO8 c d with | true => f (N2.get c n) | false => N2.get c n) := by
  cases d <;> cases c <;> rfl
theorem N3.get_upd (d c : O8) (f : N2 → N2) (n : N3) : N3.get c (N3.upd d f n) = (match decEqO8 c d with | true => f (N3.get c n) | false => N3.get c n) := by
  cases d <;> cases c <;> rfl
theorem at_put_eq (n : N3) (t : Nat) (v : Option AV) : (n.put t v).at' t = v := by
  unfold N3.at' N3.put
  rw [N3.get_upd, decEqO8_self]; simp only []
  rw [N2.get_upd, decEqO8_self]; simp only []
  rw [N1.get_upd, decEqO8_self]
theorem at_put_ne (n : N3) {t d : Nat} (v : Option AV) (ht : t < 512) (hd : d < 512) (hne : t ≠ d) : (n.put d v).at' t = n.at' t := by
  have e1 : ∀ x, Nat.mod x 8 = x % 8 := fun _ => rfl
  have e2 : ∀ x, Nat.div x 8 = x / 8 := fun _ => rfl
  have e3 : ∀ x, Nat.div x 64 = x / 64 := fun _ => rfl
  unfold N3.at' N3.put
  simp only [e1, e2, e3]
  rw [N3.get_upd]
  by_cases h3 : o8 (t / 64) = o8 (d / 64)
  · have i3 := o8_inj (by omega) (by omega) h3
    rw [h3, decEqO8_self]; simp only []
    rw [N2.get_upd]
    by_cases h2 : o8 (t / 8 % 8) = o8 (d / 8 % 8)
    · have i2 := o8_inj (by omega) (by omega) h2
      rw [h2, decEqO8_self]; simp only []
      rw [N1.get_upd]
      by_cases h1 : o8 (t % 8) = o8 (d % 8)
      · have i1 := o8_inj (by omega) (by omega) h1
        omega
      · rw [decEqO8_ne h1]
    · rw [decEqO8_ne h2]
  · rw [decEqO8_ne h3]
theorem eget_put_eq (e : AE) {t : Nat} (v : AV) (ht : t < 16383) : eget (eput e t v) t = some v := by
  unfold eget eput
  cases h : Nat.blt t 512 with
  | true => exact at_put_eq _ _ _
  | false =>
    have : Nat.blt t 16383 = true := blt_iff.2 ht
    simp only [this, get_put, if_true]
theorem eget_put_ne {d t : Nat} {a : AV} (ae : AE) (hne : t ≠ d) : eget (eput ae d a) t = eget ae t := by
  unfold eget eput
  cases h : Nat.blt t 512 with
  | true =>
    cases hd : Nat.blt d 512 with
    | true => exact at_put_ne _ _ (blt_iff.1 h) (blt_iff.1 hd) hne
    | false => cases hd2 : Nat.blt d 16383 <;> rfl
  | false =>
    cases ht : Nat.blt t 16383 with
    | false => rfl
    | true =>
      cases hd : Nat.blt d 512 with
      | true => rfl
      | false =>
        cases hd2 : Nat.blt d 16383 with
        | false => rfl
        | true =>
          simp only []
          rw [get_put, if_neg]
          intro hh
          rw [blt_iff] at ht hd2
          exact hne (pOf_inj (by omega) (by omega) hh)
theorem eget_lt {ae : AE} {t : Nat} {a : AV} (h : eget ae t = some a) : t < 16383 := by
  unfold eget at h
  split at h
  · rename_i hb; have := blt_iff.1 hb; omega
  · split at h
    · rename_i hb; exact blt_iff.1 hb
    · cases h
theorem eget_e0 (t : Nat) : eget e0 t = none := by
  unfold eget e0
  split
  · unfold N3.at'
    have a3 : ∀ d, N3.get d n3 = n2 := by intro d; cases d <;> rfl
    have a2 : ∀ d, N2.get d n2 = n1 := by intro d; cases d <;> rfl
    have a1 : ∀ d, N1.get d n1 = none := by intro d; cases d <;> rfl
    rw [a3, a2, a1]
  · split
    · exact get_lf _
    · rfl
theorem ER.put (h : ER γ ae e) (d : Nat) {x : AV} {v : Value} (hv : VR γ x v) : ER γ (eput ae d x) (Env.put e d v) := by
  intro t y hy
  have ht : t < 16383 := eget_lt hy
  have hget : Env.get (Env.put e d v) t = if t = d then some v else Env.get e t := tr_put2 14 e d v t (by omega)
  rw [hget]
  by_cases hne : t = d
  · subst hne
    rw [eget_put_eq _ _ ht] at hy
    cases hy
    rw [if_pos rfl]; exact ⟨v, rfl, hv⟩
  · rw [eget_put_ne _ hne] at hy
    rw [if_neg hne]
    exact h t y hy
theorem ER.bind (h : ER γ ae e) (d : Option Tmp) {x : AV} {v : Value} (hv : VR γ x v) : ER γ (bindE d x ae) (TS.bindE d v e) := by
  cases d with
  | none => exact h
  | some d => exact h.put d hv
theorem packB_ok : ∀ (l : List UInt8), packB l < pw l.length ∧ l.map (·.toNat) = (List.range l.length).map (dig (packB l)) := by
  intro l
  induction l with
  | nil => exact ⟨by rw [show ([] : List UInt8).length = 0 from rfl, pw_zero]; decide, rfl⟩
  | cons a l ih =>
    have e : packB (a :: l) = bcat a.toNat 1 (packB l) := by
      rw [bcat_eq]; show a.toNat + 256 * packB l = _; rw [Nat.pow_one, Nat.mul_comm]
    have ha : a.toNat < pw 1 := by rw [pw_one]; exact a.toNat_lt
    have hl : (a :: l).length = 1 + l.length := by simp; omega
    rw [e, hl]
    refine ⟨bcat_lt _ _ _ _ ha ih.1, ?_⟩
    rw [List.map_cons, ih.2, Nat.add_comm, List.range_succ_eq_map, List.map_cons, List.map_map]
    congr 1
    · rw [dig_bcat_lo _ _ _ _ (by omega), dig_eq, Nat.pow_zero, Nat.div_one, Nat.mod_eq_of_lt (by rw [pw_one] at ha; exact ha)]
    · apply List.map_congr_left
      intro i _
      have := dig_bcat_hi a.toNat 1 (packB l) i ha
      rw [show 1 + i = i.succ by omega] at this
      exact this.symm
theorem ofS_ok (s : ByteArray) : AtR (ofS s) s := let ⟨h1, h2⟩ := packB_ok s.data.toList; ⟨h2, h1⟩
theorem ofV1_ok {v : Value} {a : AV} (h : ofV1 v = some a) : VR γ a v := by
  unfold ofV1 at h
  split at h <;> (first | (cases h; done) | skip) <;> cases h <;> simp only [VR]
  · exact ⟨none, trivial, rfl⟩
  · exact ⟨⟨none, 0, 0⟩, ⟨rfl, Nat.le_refl _, fun _ => rfl, rfl, rfl⟩, rfl⟩
  · exact ⟨none, trivial, rfl⟩
  · exact ⟨_, ofS_ok _, rfl⟩
theorem ofVL_ok : ∀ {l : List Value} {a : List AV}, ofVL l = some a → VRL γ a l := by
  intro l
  induction l with
  | nil => intro a h; cases h; exact VRL.nil
  | cons v l ih =>
    intro a h
    have hs : ofVL (v :: l) = match ofV1 v with
      | some a => match ofVL l with
        | some r => some (a :: r)
        | none => none
      | none => none := rfl
    rw [hs] at h
    split at h
    · rename_i x hx
      split at h
      · rename_i q hq; cases h; exact VRL.cons (ofV1_ok hx) (ih hq)
      · cases h
    · cases h
theorem ofV_ok {v : Value} {a : AV} (h : ofV v = some a) : VR γ a v := by
  unfold ofV at h
  split at h
  · split at h
    · rename_i l hl; cases h; simp only [VR]; exact ⟨_, ofVL_ok hl, by simp⟩
    · cases h
  · split at h
    · rename_i l hl; cases h; simp only [VR]; exact ⟨_, ofVL_ok hl, by simp⟩
    · cases h
  · exact ofV1_ok h
theorem ev_R {x : Operand} {a : AV} (he : ER γ ae e) (h : ev ae x = some a) : ∃ v, TS.ev e x = some v ∧ VR γ a v := by
  cases x with
  | tmp t => exact he t a h
  | const v => exact ⟨v, rfl, ofV_ok h⟩
  | global g => cases h
  | func f => cases h; refine ⟨_, rfl, ?_⟩; simp only [VR]; exact ⟨[], [], VRL.nil, VRL.nil, rfl⟩
theorem withV_R {x : Operand} {K : AV → Option ρ} (he : ER γ ae e) (h : withV ae x K = some r) : ∃ a v, TS.ev e x = some v ∧ VR γ a v ∧ K a = some r := by
  unfold withV at h
  split at h
  · rename_i a ha
    obtain ⟨v, h1, h2⟩ := ev_R he ha
    exact ⟨a, v, h1, h2, h⟩
  · cases h
theorem evL_R : ∀ {l : List Operand} {K : List AV → Option ρ}, ER γ ae e → evL ae l K = some r → ∃ ags vs, TS.evL e l = some vs ∧ VRL γ ags vs ∧ K ags = some r := by
  intro l
  induction l with
  | nil => intro K _ h; exact ⟨[], [], rfl, VRL.nil, h⟩
  | cons x l ih =>
    intro K he h
    have h' : withV ae x (fun v => evL ae l fun vs => K (v :: vs)) = some r := h
    obtain ⟨a, v, h1, h2, h3⟩ := withV_R he h'
    obtain ⟨ags, vs, g1, g2, g3⟩ := ih he h3
    exact ⟨a :: ags, v :: vs, by simp only [TS.evL, h1, g1], VRL.cons h2 g2, g3⟩
theorem withV_eq {x : Operand} {v : Value} {K : Value → Prop} (h : TS.ev e x = some v) : TS.withV e x K = K v := by simp only [TS.withV, h]
end
end Go.XS
