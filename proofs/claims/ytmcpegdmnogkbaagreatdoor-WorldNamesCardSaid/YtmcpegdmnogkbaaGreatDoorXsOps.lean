/- The layer 'XS': the operations that only read. -/
import Derived.Test.YtmcpegdmnogkbaaGreatDoorXsStill
set_option linter.unusedSimpArgs false
set_option linter.unusedVariables false
namespace Go.XS
open Go Go.TS

section
variable {γ : G} {φ : Fx} {H : Am} {h : Mem} {ρ : Type} {r : ρ} {tys : Tys} {ae : AE} {e : Env}

theorem vInt {k : IntKind} {n : Int} : VR γ (.int k n) (.int k n) := by simp only [VR]
theorem vBool {b : Bool} : VR γ (.bool b) (.bool b) := by simp only [VR]
theorem vPtr {a : Ad} {A : Addr} (h : AdR γ a A) : VR γ (.ptr (some a)) (.pointer (some A)) := by simp only [VR]; exact ⟨some A, h, rfl⟩
theorem vSl {s : As} {S : Sl} (h : SlR γ s S) : VR γ (.sl s) (.slice S.base S.len S.cap) := by simp only [VR]; exact ⟨S, h, rfl⟩
theorem vStr {s : At} {b : ByteArray} (h : AtR s b) : VR γ (.str s) (.string b) := by simp only [VR]; exact ⟨b, h, rfl⟩
theorem vAgg {l : List AV} {vs : List Value} (h : VRL γ l vs) : VR γ (.agg l) (.agg vs.toArray) := by simp only [VR]; exact ⟨vs, h, rfl⟩
theorem vTup {l : List AV} {vs : List Value} (h : VRL γ l vs) : VR γ (.tup l) (.tuple vs.toArray) := by simp only [VR]; exact ⟨vs, h, rfl⟩
theorem vUndef : VR γ undefA undef := vTup VRL.nil
theorem dInt {k : IntKind} {n : Int} {v : Value} (h : VR γ (.int k n) v) : v = .int k n := by simpa only [VR] using h
theorem dBool {b : Bool} {v : Value} (h : VR γ (.bool b) v) : v = .bool b := by simpa only [VR] using h
theorem dPtr {p : Option Ad} {v : Value} (h : VR γ (.ptr p) v) : ∃ q, OAdR γ p q ∧ v = .pointer q := by simpa only [VR] using h
theorem dPtrS {a : Ad} {v : Value} (h : VR γ (.ptr (some a)) v) : ∃ A, AdR γ a A ∧ v = .pointer (some A) := by
  obtain ⟨q, h1, h2⟩ := dPtr h
  cases q with
  | none => exact h1.elim
  | some A => exact ⟨A, h1, h2⟩
theorem dSl {s : As} {v : Value} (h : VR γ (.sl s) v) : ∃ S : Sl, SlR γ s S ∧ v = .slice S.base S.len S.cap := by simpa only [VR] using h
theorem dStr {s : At} {v : Value} (h : VR γ (.str s) v) : ∃ b, AtR s b ∧ v = .string b := by simpa only [VR] using h
theorem dMap {p : Option P} {v : Value} (h : VR γ (.map p) v) : ∃ q, OMR γ p q ∧ v = .map q := by simpa only [VR] using h
theorem dAgg {l : List AV} {v : Value} (h : VR γ (.agg l) v) : ∃ vs, VRL γ l vs ∧ v = .agg vs.toArray := by simpa only [VR] using h
theorem dTup {l : List AV} {v : Value} (h : VR γ (.tup l) v) : ∃ vs, VRL γ l vs ∧ v = .tuple vs.toArray := by simpa only [VR] using h

theorem binI_R {op : BinOp} {k : IntKind} {a b : Int} {K : AV → Option ρ} {K' : Value → Prop} {t : TypeId} (hx : binI op k a b K = some r) (hK : ∀ x y, VR γ x y → K x = some r → K' y) (h1 : op ≠ .shl) (h2 : op ≠ .shr) :
    TS.bin tys op t (.int k a) (.int k b) K' := by
  cases op <;> simp only [binI, kI_eq, wrapA_eq, addI_eq, subI_eq, mulI_eq, divI_eq, remI_eq, andI_eq, orI_eq, xorI_eq, andNotI_eq, ltI_eq, leI_eq, iEq_eq, ntB_eq] at hx <;>
    simp only [TS.bin, decide_true]
  case add => exact hK _ _ vInt hx
  case sub => exact hK _ _ vInt hx
  case mul => exact hK _ _ vInt hx
  case quo =>
    by_cases hb : b = 0
    · subst hb; simp at hx
    · have hb' : (b == 0) = false := by simpa using hb
      rw [hb'] at hx
      rw [decide_eq_false hb]; exact hK _ _ vInt hx
  case rem =>
    by_cases hb : b = 0
    · subst hb; simp at hx
    · have hb' : (b == 0) = false := by simpa using hb
      rw [hb'] at hx
      rw [decide_eq_false hb]; exact hK _ _ vInt hx
  case and => exact hK _ _ vInt hx
  case or => exact hK _ _ vInt hx
  case xor => exact hK _ _ vInt hx
  case shl => exact absurd rfl h1
  case shr => exact absurd rfl h2
  case andNot => exact hK _ _ vInt hx
  case eql => exact hK _ _ vBool hx
  case neq => exact hK _ _ vBool hx
  case lss => exact hK _ _ vBool hx
  case leq => exact hK _ _ vBool hx
  case gtr => exact hK _ _ vBool hx
  case geq => exact hK _ _ vBool hx
theorem eqI_R : ∀ (fs : List Field) {xs ys : List AV} {us vs : List Value} {b : Bool}, VRL γ xs us → VRL γ ys vs → eqI tys xs ys fs = some b → TS.eqI tys us.toArray vs.toArray fs = some b := by
  intro fs
  induction fs with
  | nil => intro xs ys us vs b _ _ h; cases h; rfl
  | cons f fs ih =>
    intro xs ys us vs b hu hv h
    have hs : eqI tys xs ys (f :: fs) = match decide (f.name = "_") with
      | true => none
      | false => match tyOf tys f.type with
        | some ⟨.int _, _, _, _, .leaf _⟩ => match nth xs f.offset, nth ys f.offset with
          | some (.int k a), some (.int k' b) => match ikEq k k' with
            | true => match eqI tys xs ys fs with
              | some r => some (match iEq a b with | true => r | false => false)
              | none => none
            | false => none
          | _, _ => none
        | _ => none := rfl
    rw [hs] at h
    simp only [TS.eqI]
    split at h
    · cases h
    · rename_i hn
      rw [hn]
      simp only []
      split at h
      · rename_i hty
        rw [hty]
        simp only []
        split at h
        · rename_i k a k' c hx hy
          rw [nth_eq] at hx hy
          obtain ⟨u, hu1, hu2⟩ := hu.get hx
          obtain ⟨w, hv1, hv2⟩ := hv.get hy
          rw [dInt hu2] at hu1; rw [dInt hv2] at hv1
          have hu3 : us.toArray[f.offset]? = some (.int k a) := by simpa using hu1
          have hv3 : vs.toArray[f.offset]? = some (.int k' c) := by simpa using hv1
          rw [hu3, hv3]
          simp only []
          split at h
          · rename_i hk
            rw [ikEq_iff] at hk
            rw [decide_eq_true hk]
            simp only []
            split at h
            · rename_i q hq
              cases h
              rw [ih hu hv hq]
              simp only []
              congr 1
              rw [iEq_eq]
              cases (a == c) <;> rfl
            · cases h
          · cases h
        · cases h
      · cases h
theorem extract_list (us : List Value) (o n : Nat) : us.toArray.extract o (o + n) = ((us.drop o).take n).toArray := by
  apply Array.ext'
  simp [List.extract_eq_take_drop]
theorem eqF_R : ∀ (fs : List Field) {xs ys : List AV} {us vs : List Value} {b : Bool}, VRL γ xs us → VRL γ ys vs → eqF tys xs ys fs = some b → TS.eqF tys us.toArray vs.toArray fs = some b := by
  intro fs
  induction fs with
  | nil => intro xs ys us vs b _ _ h; cases h; rfl
  | cons f fs ih =>
    intro xs ys us vs b hu hv h
    have hs : eqF tys xs ys (f :: fs) = match decide (f.name = "_") with
      | true => none
      | false => match tyOf tys f.type with
        | some ⟨.int _, _, _, _, .leaf _⟩ => match nth xs f.offset, nth ys f.offset with
          | some (.int k a), some (.int k' b) => match ikEq k k' with
            | true => match eqF tys xs ys fs with
              | some r => some (match iEq a b with | true => r | false => false)
              | none => none
            | false => none
          | _, _ => none
        | some ⟨.bool, _, _, _, .leaf _⟩ => match nth xs f.offset, nth ys f.offset with
          | some (.bool a), some (.bool b) => match eqF tys xs ys fs with
            | some r => some (match eqBo a b with | true => r | false => false)
            | none => none
          | _, _ => none
        | some ⟨.struct gs, _, sz, _, .agg _⟩ => match eqI tys (takeL (dropL xs f.offset) sz) (takeL (dropL ys f.offset) sz) gs.toList with
          | some q => match eqF tys xs ys fs with
            | some r => some (match q with | true => r | false => false)
            | none => none
          | none => none
        | _ => none := rfl
    rw [hs] at h
    simp only [TS.eqF]
    split at h
    · cases h
    · rename_i hn
      rw [hn]
      simp only []
      split at h
      · rename_i hty
        rw [hty]
        simp only []
        split at h
        · rename_i k a k' c hx hy
          rw [nth_eq] at hx hy
          obtain ⟨u, hu1, hu2⟩ := hu.get hx
          obtain ⟨w, hv1, hv2⟩ := hv.get hy
          rw [dInt hu2] at hu1; rw [dInt hv2] at hv1
          have hu3 : us.toArray[f.offset]? = some (.int k a) := by simpa using hu1
          have hv3 : vs.toArray[f.offset]? = some (.int k' c) := by simpa using hv1
          rw [hu3, hv3]
          simp only []
          split at h
          · rename_i hk
            rw [ikEq_iff] at hk
            rw [decide_eq_true hk]
            simp only []
            split at h
            · rename_i q hq
              cases h
              rw [ih hu hv hq]
              simp only []
              congr 1
              rw [iEq_eq]
              cases (a == c) <;> rfl
            · cases h
          · cases h
        · cases h
      · rename_i hty
        rw [hty]
        simp only []
        split at h
        · rename_i a c hx hy
          rw [nth_eq] at hx hy
          obtain ⟨u, hu1, hu2⟩ := hu.get hx
          obtain ⟨w, hv1, hv2⟩ := hv.get hy
          rw [dBool hu2] at hu1; rw [dBool hv2] at hv1
          have hu3 : us.toArray[f.offset]? = some (.bool a) := by simpa using hu1
          have hv3 : vs.toArray[f.offset]? = some (.bool c) := by simpa using hv1
          rw [hu3, hv3]
          simp only []
          split at h
          · rename_i q hq
            cases h
            rw [ih hu hv hq]
            simp only []
            congr 1
            rw [eqBo_eq]
            cases (a == c) <;> rfl
          · cases h
        · cases h
      · rename_i gs z sz bb ks hty
        rw [hty]
        simp only []
        split at h
        · rename_i q hq
          split at h
          · rename_i r' hr
            cases h
            rw [takeL_eq, takeL_eq, dropL_eq, dropL_eq] at hq
            have h1 := eqI_R gs.toList ((hu.drop f.offset).take sz) ((hv.drop f.offset).take sz) hq
            rw [extract_list, extract_list, h1]
            simp only []
            rw [ih hu hv hr]
            simp only []
            cases q <;> rfl
          · cases h
        · cases h
      · cases h
theorem eqv_R {op : BinOp} {b : Bool} {K : AV → Option ρ} (h : eqv op b K = some r) : (op = .eql ∧ K (.bool b) = some r) ∨ (op = .neq ∧ K (.bool !b) = some r) := by
  unfold eqv at h
  split at h
  · exact .inl ⟨rfl, h⟩
  · rw [ntB_eq] at h; exact .inr ⟨rfl, h⟩
  · cases h
theorem eqAt_iff {s s' : At} {a b : ByteArray} (h : AtR s a) (h' : AtR s' b) : eqAt s s' = (a.toList == b.toList) := by
  have hl : ∀ {s : At} {a : ByteArray}, AtR s a → a.data.toList.length = s.len := by
    intro s a h
    have := congrArg List.length h.1
    simpa using this
  have htl : ∀ a : ByteArray, a.toList = a.data.toList := fun a => ByteArray.toList_eq a
  by_cases he : a = b
  · subst he
    have e1 : s.len = s'.len := (hl h).symm.trans (hl h')
    have e2 : s.n = s'.n := by
      refine dig_ext s.len _ _ h.2 (by rw [e1]; exact h'.2) ?_
      intro i hi
      have := h.1.symm.trans h'.1
      rw [← e1] at this
      have := congrArg (·[i]?) this
      simpa [hi] using this
    unfold eqAt
    rw [beq_iff.2 e1, beq_iff.2 e2]; simp
  · have : (a.toList == b.toList) = false := by
      have hne : a.toList ≠ b.toList := by
        rw [htl, htl]
        intro hh
        apply he
        cases a; cases b
        congr 1
        exact Array.ext' hh
      simpa using hne
    rw [this]
    unfold eqAt
    split
    · rename_i h1
      rw [beq_iff] at h1
      cases h2 : Nat.beq s.n s'.n with
      | false => rfl
      | true =>
        rw [beq_iff] at h2
        exfalso
        apply he
        refine AtR.func (s := s) h ?_
        cases s; cases s'; simp only at h1 h2; subst h1 h2; exact h'
    · rfl
theorem AtR.size {s : At} {a : ByteArray} (h : AtR s a) : a.size = s.len := by
  have := congrArg List.length h.1
  simpa using this
theorem AtR.cat {s s' : At} {a b : ByteArray} (h : AtR s a) (h' : AtR s' b) : AtR ⟨bcat s.n s.len s'.n, Nat.add s.len s'.len⟩ (a ++ b) := by
  obtain ⟨h1, h2⟩ := h
  obtain ⟨g1, g2⟩ := h'
  refine ⟨?_, bcat_lt _ _ _ _ h2 g2⟩
  have e : (a ++ b).data.toList = a.data.toList ++ b.data.toList := by simp
  rw [e, List.map_append, h1, g1]
  show _ = (List.range (s.len + s'.len)).map _
  rw [List.range_add, List.map_append, List.map_map]
  congr 1
  · apply List.map_congr_left
    intro i hi
    rw [List.mem_range] at hi
    exact (dig_bcat_lo _ _ _ _ hi).symm
  · apply List.map_congr_left
    intro i _
    exact (dig_bcat_hi _ _ _ _ h2).symm
theorem AtR.sub {s : At} {a : ByteArray} {lo hi : Nat} (h : AtR s a) (h1 : lo ≤ hi) (h2 : hi ≤ s.len) : AtR ⟨bsub s.n lo (Nat.sub hi lo), Nat.sub hi lo⟩ (a.extract lo hi) := by
  obtain ⟨g1, g2⟩ := h
  refine ⟨?_, bsub_lt _ _ _⟩
  have e : (a.extract lo hi).data.toList = (a.data.toList.drop lo).take (hi - lo) := by
    rw [ByteArray.data_extract, Array.toList_extract]
  rw [e, List.map_take, List.map_drop, g1]
  show _ = (List.range (hi - lo)).map _
  apply List.ext_getElem?
  intro i
  rw [List.getElem?_take]
  by_cases hi' : i < hi - lo
  · rw [if_pos hi', List.getElem?_drop, List.getElem?_map, List.getElem?_map, List.getElem?_range (by omega), List.getElem?_range hi']
    simp only [Option.map_some]
    exact congrArg some (dig_bsub _ _ _ _ hi').symm
  · rw [if_neg hi', List.getElem?_map, List.getElem?_eq_none (by simp; omega)]; rfl
theorem bin_R {op : BinOp} {x y : AV} {v w : Value} {K : AV → Option ρ} {K' : Value → Prop} {t : TypeId} (hv : VR γ x v) (hw : VR γ y w) (hx : bin tys op t x y K = some r)
    (hK : ∀ x y, VR γ x y → K x = some r → K' y) : TS.bin tys op t v w K' := by
  unfold bin at hx
  split at hx
  · rename_i k a
    split at hx
    · rename_i k' b
      have e1 := dInt hv
      have e2 := dInt hw
      subst e1 e2
      unfold shI at hx
      split at hx
      · obtain ⟨n, e, hx1⟩ := natI_eq hx
        clear hx
        subst e
        have hx := hx1
        rw [kI_eq, wrapA_eq, shlI_eq] at hx
        simp only [TS.bin]
        rw [decide_eq_true (by simp)]
        exact hK _ _ vInt hx
      · obtain ⟨n, e, hx1⟩ := natI_eq hx
        clear hx
        subst e
        have hx := hx1
        rw [kI_eq, shrI_eq] at hx
        simp only [TS.bin]
        rw [decide_eq_true (by simp)]
        exact hK _ _ vInt hx
      · rename_i n1 n2
        split at hx
        · rename_i hk
          rw [ikEq_iff] at hk; subst hk
          exact binI_R hx hK n1 n2
        · cases hx
    · cases hx
  · rename_i a
    split at hx
    · rename_i b
      obtain ⟨A, hA, rfl⟩ := dStr hv
      obtain ⟨B, hB, rfl⟩ := dStr hw
      unfold strB at hx
      split at hx
      · split at hx
        · rename_i hle
          rw [ble_iff] at hle
          have hle' : A.size + B.size ≤ 2 ^ 40 := by rw [hA.size, hB.size]; exact hle
          exact ⟨hle', hK _ _ (by simp only [VR]; exact ⟨_, hA.cat hB, rfl⟩) hx⟩
        · cases hx
      · rw [eqAt_iff hA hB] at hx
        rcases eqv_R hx with ⟨rfl, hx⟩ | ⟨rfl, hx⟩ <;> exact hK _ _ vBool hx
    · cases hx
  · rename_i a
    split at hx
    · rename_i b
      split at hx
      · rename_i hty
        have e1 := dBool hv
        have e2 := dBool hw
        subst e1 e2
        rw [eqBo_eq] at hx
        simp only [TS.bin, hty]
        rcases eqv_R hx with ⟨rfl, hx⟩ | ⟨rfl, hx⟩ <;> exact hK _ _ vBool hx
      · cases hx
    · cases hx
  · rename_i xs
    split at hx
    · rename_i ys
      split at hx
      · rename_i fs z1 z2 z3 z4 hty
        split at hx
        · rename_i b hb
          obtain ⟨us, hu, rfl⟩ := dAgg hv
          obtain ⟨vs, hv', rfl⟩ := dAgg hw
          simp only [TS.bin, hty]
          rw [eqF_R _ hu hv' hb]
          rcases eqv_R hx with ⟨rfl, hx⟩ | ⟨rfl, hx⟩ <;> exact hK _ _ vBool hx
        · cases hx
      · cases hx
    · cases hx
  · rename_i p
    split at hx
    · split at hx
      · rename_i z0 z1 z2 z3 z4 hty
        obtain ⟨q, hq, rfl⟩ := dPtr hv
        obtain ⟨q', hq', rfl⟩ := dPtr hw
        cases q' with
        | some _ => exact hq'.elim
        | none =>
          have hn : isNone p = q.isNone := by cases p <;> cases q <;> first | rfl | exact hq.elim
          rw [hn] at hx
          simp only [TS.bin, hty]
          rcases eqv_R hx with ⟨rfl, hx⟩ | ⟨rfl, hx⟩ <;> exact hK _ _ vBool hx
      · cases hx
    · cases hx
  · rename_i s
    split at hx
    · split at hx
      · rename_i z0 z1 z2 z3 z4 hty
        obtain ⟨S, hS, rfl⟩ := dSl hv
        obtain ⟨T, hT, rfl⟩ := dSl hw
        obtain ⟨t1, t2, t3, t4⟩ := hT
        have e1 : T.base = none := t4.1
        have e2 : T.len = 0 := t1
        have e3 : T.cap = 0 := t3 rfl
        rw [e1, e2, e3]
        have hn : isNone s.base = S.base.isNone := by
          cases hb : s.base with
          | none => rw [(hS.base_none hb).1]; rfl
          | some a => obtain ⟨_, _, _, hB, _⟩ := hS.base_some hb; rw [hB]; rfl
        rw [hn] at hx
        simp only [TS.bin, hty]
        rcases eqv_R hx with ⟨rfl, hx⟩ | ⟨rfl, hx⟩ <;> exact hK _ _ vBool hx
      · cases hx
    · cases hx
  · rename_i p
    split at hx
    · split at hx
      · rename_i z0 z1 z2 z3 z4 z5 hty
        obtain ⟨q, hq, rfl⟩ := dMap hv
        obtain ⟨q', hq', rfl⟩ := dMap hw
        cases q' with
        | some _ => exact hq'.elim
        | none =>
          have hn : isNone p = q.isNone := by cases p <;> cases q <;> first | rfl | exact hq.elim
          rw [hn] at hx
          simp only [TS.bin, hty]
          rcases eqv_R hx with ⟨rfl, hx⟩ | ⟨rfl, hx⟩ <;> exact hK _ _ vBool hx
      · cases hx
    · cases hx
  · cases hx

-- types
theorem zlOf_R {ti : TI} {l : List AV} (h : zlOf ti = some l) : VRL γ l ti.zero.cells.toList := by
  unfold zlOf at h
  split at h
  · rename_i m hm
    cases h
    have := ofV_ok (γ := γ) hm
    obtain ⟨vs, h1, h2⟩ := dAgg this
    rw [h2]; exact h1
  · rename_i v hne hv
    cases h
    have hr := ofV_ok (γ := γ) hv
    have : ti.zero.cells = #[ti.zero] := by
      cases hz : ti.zero with
      | agg cs =>
        rw [hz] at hv
        simp only [ofV] at hv
        split at hv
        · cases hv; exact (hne _ rfl).elim
        · cases hv
      | _ => rfl
    rw [this]
    exact VRL.cons hr VRL.nil
  · cases h
/-- a great array's nought is what it seems -/
def ZOk (tys : Tys) : Prop := ∀ t ti n, tyOf tys t = some ti → ti.lk = .arr n → ∀ m el te, ti.desc = .array m el → tyOf tys el = some te → (zlOf te).isSome = true → ti.zero = .agg (Array.replicate m te.zero) ∧ te.zero.cells = #[te.zero]
theorem repl_one {a : AV} {v : Value} (h : VR γ a v) (n : Nat) : VRL γ (repL n [a]) (List.replicate n v) := by
  induction n with
  | zero => exact VRL.nil
  | succ n ih => rw [repL_succ]; exact VRL.cons h ih
theorem zcOf_R (hz : ZOk tys) {t : TypeId} {ti : TI} {c : Cs} (ht : tyOf tys t = some ti) (h : zcOf tys ti = some c) : VRL γ c.list ti.zero.cells.toList ∧ CsOk c := by
  unfold zcOf at h
  split at h
  · rename_i n hlk
    split at h
    · rename_i m el hd
      split at h
      · rename_i te hte
        split at h
        · rename_i z hzl
          cases h
          obtain ⟨e1, e2⟩ := hz t ti n ht hlk m el te hd hte (by rw [hzl]; rfl)
          obtain ⟨k1, k2⟩ := zeroCs_ok [z] m
          refine ⟨?_, k2⟩
          rw [k1, e1]
          have := zlOf_R (γ := γ) hzl
          rw [e2] at this
          obtain ⟨v, vs, g1, g2, _⟩ := this.uncons
          simp at g1
          rw [← g1.1] at g2
          simpa [Value.cells] using repl_one g2 m
        · cases h
      · cases h
    · cases h
  · split at h
    · rename_i l hl
      cases h
      obtain ⟨k1, k2⟩ := mkCs_ok l
      rw [k1]; exact ⟨zlOf_R hl, k2⟩
    · cases h
theorem zvOf_R (hz : ZOk tys) {t : TypeId} {ti : TI} {a : AV} (hok : lkOk ti = true) (ht : tyOf tys t = some ti) (h : zvOf tys ti = some a) (hag : ∀ n, ti.lk = .arr n → ∃ cs, ti.zero = .agg cs) (hag2 : ∀ ks, ti.lk = .agg ks → ∃ cs, ti.zero = .agg cs) : VR γ a ti.zero := by
  unfold zvOf at h
  split at h
  · exact ofV_ok h
  · rename_i ks hlk
    split at h
    · rename_i l hl
      cases h
      obtain ⟨cs, hcs⟩ := hag2 ks hlk
      have := zlOf_R (γ := γ) hl
      rw [hcs] at this ⊢
      have e := vAgg this
      simpa [Value.cells] using e
    · cases h
  · rename_i n hlk
    split at h
    · rename_i c hc
      cases h
      obtain ⟨k1, k2⟩ := zcOf_R (γ := γ) hz ht hc
      obtain ⟨cs, hcs⟩ := hag n hlk
      rw [hcs] at k1 ⊢
      have := aggC_ok k2 k1
      simpa [Value.cells] using this
    · cases h
end
end Go.XS
