/- The layer 'XS': rows of cells. -/
import Derived.Test.YtmcpegdmnogkbaaGreatDoorXsRel2
set_option linter.unusedSimpArgs false
set_option linter.unusedVariables false
namespace Go.XS
open Go Go.TS

theorem Cs.len_eq (c : Cs) : c.len = c.list.length := by
  cases c with
  | l xs => exact lenL_eq xs
  | b n len => simp [Cs.len, Cs.list, len_bytesL]
theorem Cs.nth_eq (c : Cs) (i : Nat) : c.nth i = c.list[i]? := by
  cases c with
  | l xs => exact XS.nth_eq xs i
  | b n len =>
    simp only [Cs.nth, Cs.list, get_bytesL]
    by_cases h : i < len
    · rw [blt_iff.2 h, if_pos h]
    · rw [if_neg h]
      cases hb : Nat.blt i len with
      | true => exact absurd (blt_iff.1 hb) h
      | false => rfl
theorem byteOf_eq {a : AV} {n : Nat} (h : byteOf a = some n) : a = .int .u8 (Int.ofNat n) ∧ n < 256 := by
  unfold byteOf at h
  split at h
  · split at h
    · rename_i hb; cases h; exact ⟨rfl, blt_iff.1 hb⟩
    · cases h
  · cases h
theorem bytesL_one (x : Nat) (h : x < 256) : bytesL x 1 = [.int .u8 (Int.ofNat x)] := by
  show [AV.int .u8 (Int.ofNat (dig x 0))] = _
  rw [dig_eq, Nat.pow_zero, Nat.div_one, Nat.mod_eq_of_lt h]
theorem pw_one : pw 1 = 256 := by rw [pw_eq]
theorem pw_zero : pw 0 = 1 := by rw [pw_eq]
theorem allA_iff {l : List AV} : allA l = true ↔ ∀ a, a ∈ l → oneA a = true := by
  induction l with
  | nil => simp [allA]
  | cons a r ih =>
    have : allA (a :: r) = match oneA a with | true => allA r | false => false := rfl
    rw [this]
    cases ha : oneA a with
    | true => simp [ha, ih]
    | false => simp [ha]
theorem oneA_bytes (n len : Nat) : ∀ a, a ∈ bytesL n len → oneA a = true := by
  intro a ha
  simp only [bytesL, List.mem_map] at ha
  obtain ⟨i, _, rfl⟩ := ha
  rfl
theorem take_set_drop {α : Type} (l : List α) (i : Nat) (x : α) (h : i < l.length) : l.take i ++ ([x] ++ l.drop (i + 1)) = l.set i x := by
  rw [List.set_eq_take_append_cons_drop, if_pos h]; rfl
theorem Cs.put_ok {c d c' : Cs} {o : Nat} (hc : CsOk c) (hd : CsOk d) (h : c.put o d = some c') :
    o + d.list.length ≤ c.list.length ∧ CsOk c' ∧ (∀ a, a ∈ d.list → oneA a = true) ∧ c'.list = c.list.take o ++ (d.list ++ c.list.drop (o + d.list.length)) := by
  unfold Cs.put at h
  split at h
  · cases h
  · rename_i hb
    rw [ble_iff, Cs.len_eq, Cs.len_eq] at hb
    have hb' : o + d.list.length ≤ c.list.length := hb
    refine ⟨hb', ?_⟩
    cases c with
    | l xs => cases d with
      | l ys =>
        simp only at h
        split at h
        · rename_i ha
          cases h
          refine ⟨trivial, allA_iff.1 ha, ?_⟩
          simp only [Cs.list, catL_eq, takeL_eq, dropL_eq, lenL_eq]; rfl
        · cases h
      | b m ld =>
        simp only at h; cases h
        refine ⟨trivial, oneA_bytes _ _, ?_⟩
        simp only [Cs.list, catL_eq, takeL_eq, dropL_eq, len_bytesL]; rfl
    | b n len => cases d with
      | l ys => cases ys with
        | nil =>
          simp only at h; cases h
          exact ⟨hc, by simp [Cs.list], by simp [Cs.list]⟩
        | cons y ys => simp only at h; cases h
      | b m ld =>
        simp only at h; cases h
        simp only [Cs.list, len_bytesL] at hb' ⊢
        exact ⟨bput_lt _ _ _ _ _ hd hb', oneA_bytes _ _, bytesL_put _ _ _ _ _ hd hb'⟩
theorem Cs.put_isB {c d c' : Cs} {o : Nat} (h : c.put o d = some c') : c'.isB = c.isB := by
  unfold Cs.put at h
  split at h
  · cases h
  · cases c with
    | l xs => cases d with
      | l ys => simp only at h; split at h <;> cases h; rfl
      | b m ld => simp only at h; cases h; rfl
    | b n len => cases d with
      | l ys => cases ys with
        | nil => simp only at h; cases h; rfl
        | cons y ys => simp only at h; cases h
      | b m ld => simp only at h; cases h; rfl
theorem Cs.set_isB {c c' : Cs} {i : Nat} {a : AV} (h : c.set i a = some c') : c'.isB = c.isB := by
  cases c with
  | l xs => simp only [Cs.set] at h; split at h <;> (try split at h) <;> cases h; rfl
  | b n len => simp only [Cs.set] at h; split at h <;> (try split at h) <;> cases h; rfl
theorem Cs.set_ok {c c' : Cs} {i : Nat} {a : AV} (hc : CsOk c) (h : c.set i a = some c') :
    i < c.list.length ∧ CsOk c' ∧ oneA a = true ∧ c'.list = c.list.set i a := by
  cases c with
  | l xs =>
    simp only [Cs.set] at h
    split at h
    · rename_i ho
      split at h
      · rename_i hb
        cases h
        rw [blt_iff, lenL_eq] at hb
        exact ⟨hb, trivial, ho, setL_eq _ _ _⟩
      · cases h
    · cases h
  | b n len =>
    simp only [Cs.set] at h
    split at h
    · rename_i x hx
      obtain ⟨ha, hx2⟩ := byteOf_eq hx
      subst ha
      split at h
      · rename_i hb
        cases h
        rw [blt_iff] at hb
        refine ⟨by simpa [Cs.list, len_bytesL] using hb, bput_lt _ _ _ _ _ (by rw [pw_one]; exact hx2) hb, rfl, ?_⟩
        simp only [Cs.list]
        rw [bytesL_put _ _ _ _ _ (by rw [pw_one]; exact hx2) hb, bytesL_one _ hx2]
        exact take_set_drop _ _ _ (by simpa [len_bytesL] using hb)
      · cases h
    · cases h
theorem Cs.sub_ok {c d : Cs} {o n : Nat} (h : c.sub o n = some d) : o + n ≤ c.list.length ∧ d.list = (c.list.drop o).take n ∧ CsOk d := by
  cases c with
  | l xs =>
    simp only [Cs.sub] at h
    split at h
    · rename_i hb
      cases h
      rw [ble_iff, lenL_eq] at hb
      exact ⟨hb, by simp only [Cs.list, takeL_eq, dropL_eq], trivial⟩
    · cases h
  | b m len =>
    simp only [Cs.sub] at h
    split at h
    · rename_i hb
      cases h
      rw [ble_iff] at hb
      have hb' : o + n ≤ len := hb
      exact ⟨by simpa [Cs.list, len_bytesL] using hb', (bytesL_sub _ _ _ _ hb').symm, bsub_lt _ _ _⟩
    · cases h
theorem Cs.cat_ok {a b : Cs} (ha : CsOk a) (hb : CsOk b) : (a.cat b).list = a.list ++ b.list ∧ CsOk (a.cat b) := by
  cases a with
  | l xs => cases b with
    | l ys => exact ⟨catL_eq _ _, trivial⟩
    | b m lb => cases xs with
      | nil => exact ⟨rfl, hb⟩
      | cons x xs => exact ⟨catL_eq (x :: xs) (bytesL m lb), trivial⟩
  | b n la => cases b with
    | b m lb => exact ⟨(bytesL_cat _ _ _ _ ha).symm, bcat_lt _ _ _ _ ha hb⟩
    | l ys => cases ys with
      | nil => exact ⟨by simp [Cs.cat, Cs.list], ha⟩
      | cons y ys =>
        simp only [Cs.cat]
        split
        · rename_i h0
          rw [beq_iff] at h0; subst h0
          exact ⟨by simp [Cs.list, bytesL], trivial⟩
        · exact ⟨catL_eq _ _, trivial⟩
theorem packL_ok : ∀ {l : List AV} {n : Nat}, packL l = some n → n < pw l.length ∧ bytesL n l.length = l := by
  intro l
  induction l with
  | nil => intro n h; cases h; exact ⟨by rw [show ([] : List AV).length = 0 from rfl, pw_zero]; decide, rfl⟩
  | cons a r ih =>
    intro n h
    have hs : packL (a :: r) = match byteOf a with
      | some x => match packL r with
        | some n => some (Nat.add x (Nat.mul 256 n))
        | none => none
      | none => none := rfl
    rw [hs] at h
    split at h
    · rename_i x hx
      obtain ⟨ha, hx2⟩ := byteOf_eq hx
      subst ha
      split at h
      · rename_i m hm
        cases h
        obtain ⟨h1, h2⟩ := ih hm
        have hxp : x < pw 1 := by rw [pw_one]; exact hx2
        have e : Nat.add x (Nat.mul 256 m) = bcat x 1 m := by
          rw [bcat_eq]; show x + 256 * m = _; rw [Nat.pow_one, Nat.mul_comm]
        rw [e]
        have hl : (AV.int .u8 (Int.ofNat x) :: r).length = 1 + r.length := by simp; omega
        rw [hl]
        refine ⟨bcat_lt _ _ _ _ hxp h1, ?_⟩
        rw [← bytesL_cat _ _ _ _ hxp, h2, bytesL_one _ hx2]; rfl
      · cases h
    · cases h
theorem mkCs_ok (l : List AV) : (mkCs l).list = l ∧ CsOk (mkCs l) := by
  cases l with
  | nil => exact ⟨rfl, trivial⟩
  | cons a r =>
    unfold mkCs
    simp only
    split
    · rename_i n hn
      obtain ⟨h1, h2⟩ := packL_ok hn
      rw [lenL_eq]
      exact ⟨h2, h1⟩
    · exact ⟨rfl, trivial⟩
theorem repL_succ (n : Nat) (l : List AV) : repL (n + 1) l = l ++ repL n l := catL_eq _ _
theorem bytesL_zero (n : Nat) : bytesL 0 n = repL n [.int .u8 (Int.ofNat 0)] := by
  have h : ∀ n, repL n [AV.int .u8 (Int.ofNat 0)] = List.replicate n (AV.int .u8 (Int.ofNat 0)) := by
    intro n
    induction n with
    | zero => rfl
    | succ n ih => rw [repL_succ, ih]; rfl
  rw [h]
  symm
  refine bytesL_ext (by simp) ?_
  intro i hi
  rw [List.getElem?_replicate, if_pos hi, dig_eq]; simp
theorem zeroCs_ok (z : List AV) (n : Nat) : (zeroCs z n).list = repL n z ∧ CsOk (zeroCs z n) := by
  unfold zeroCs
  split
  · exact ⟨bytesL_zero n, pw_pos n⟩
  · exact ⟨rfl, trivial⟩
theorem len_repL (n : Nat) (z : List AV) : (repL n z).length = n * z.length := by
  induction n with
  | zero => simp [show repL 0 z = [] from rfl]
  | succ n ih => rw [repL_succ, List.length_append, ih, Nat.succ_mul, Nat.add_comm]
theorem mem_repL {n : Nat} {z : List AV} {a : AV} (h : a ∈ repL n z) : a ∈ z := by
  induction n with
  | zero => simp [show repL 0 z = [] from rfl] at h
  | succ n ih => rw [repL_succ, List.mem_append] at h; exact h.elim id ih
theorem get_repL (z : List AV) (hz : 0 < z.length) : ∀ (n i : Nat), i < n * z.length → (repL n z)[i]? = z[i % z.length]? := by
  intro n
  induction n with
  | zero => intro i h; simp at h
  | succ n ih =>
    intro i h
    rw [repL_succ]
    by_cases hi : i < z.length
    · rw [List.getElem?_append_left hi, Nat.mod_eq_of_lt hi]
    · rw [List.getElem?_append_right (by omega), ih (i - z.length) (by rw [Nat.succ_mul] at h; omega)]
      congr 1
      have h1 : i = (i - z.length) + z.length := by omega
      have h2 : i % z.length = ((i - z.length) + z.length) % z.length := congrArg (· % z.length) h1
      rw [h2, Nat.add_mod_right]
section
variable {γ : G}
theorem one_of {a : AV} {v : Value} (h : VR γ a v) (ho : oneA a = true) : oneC v = true := by
  cases a <;> simp only [oneA] at ho <;> (try cases ho) <;> simp only [VR] at h
  · rw [h]; rfl
  · rw [h]; rfl
  · obtain ⟨q, _, rfl⟩ := h; rfl
  · obtain ⟨q, _, rfl⟩ := h; rfl
  · obtain ⟨q, _, rfl⟩ := h; rfl
  · obtain ⟨q, _, rfl⟩ := h; rfl
  · obtain ⟨q, _, _, _, rfl⟩ := h; rfl
  · obtain ⟨q, _, _, rfl⟩ := h; rfl
  · rw [h]; rfl
  · obtain ⟨q, _, rfl⟩ := h; rfl
  · rw [h]; rfl
theorem one_ofL {l : List AV} {vs : List Value} (h : VRL γ l vs) (ho : ∀ a, a ∈ l → oneA a = true) : one vs := by
  intro v hv
  obtain ⟨i, hi⟩ := List.getElem?_of_mem hv
  have hlt : i < l.length := by
    rw [h.len]
    rcases Nat.lt_or_ge i vs.length with h' | h'
    · exact h'
    · rw [List.getElem?_eq_none h'] at hi; cases hi
  obtain ⟨u, hu, hr⟩ := h.get (List.getElem?_eq_getElem hlt)
  rw [hi] at hu; cases hu
  exact one_of hr (ho _ (List.getElem_mem _))
end
end Go.XS
