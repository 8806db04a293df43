/- The layer 'TS': soundness, the operations that only read (3), joined. -/
import Derived.Laws.BytesString
import Derived.Test.YtmcpegdmnogkbaaGreatDoorTsS2
set_option linter.unusedSimpArgs false
set_option linter.unusedVariables false
namespace Go.TS
open Go

section
variable {P : Program} {tys : Tys} {e : Env} {a : Act} {w : World}

theorem convert_int_ok (hty : TysOk P tys) {src dst : Nat} {s d : TI} {k k' : IntKind} {n : Int} (hs : tyOf tys src = some s) (hd : tyOf tys dst = some d) (hk : d.desc = .int k) (w : World) :
    (convert src dst (.int k' n)).run P w = .ok (.int k (k.wrap n)) w := by
  have h1 := und_run (hty _ _ hs) w
  have h2 := und_run (hty _ _ hd) w
  rw [hk] at h2
  simp only [convert, Sem.run_bind, h1, h2, Result.andThen_ok]
  cases s.desc <;> simp [Conv.intToInt]

-- keys
theorem beqB {a b : ByteArray} : ((a == b) = true) ↔ a = b := by
  constructor
  · intro h
    have h : (a.data == b.data) = true := h
    rw [beq_iff_eq] at h
    exact ByteArray.ext h
  · rintro rfl
    show (a.data == a.data) = true
    simp
theorem eqIs_refl : ∀ (ks : List IntKind) (l : List Value), intsOf ks l = true → eqIs l l = true := by
  intro ks
  induction ks with
  | nil =>
    intro l h
    cases l with
    | nil => rfl
    | cons _ _ => simp [intsOf] at h
  | cons k ks ih =>
    intro l h
    cases l with
    | nil => simp [intsOf] at h
    | cons v l =>
      cases v <;> (try (simp [intsOf] at h; done))
      simp only [intsOf, Bool.and_eq_true, decide_eq_true_eq] at h
      simp only [eqIs, Bool.and_eq_true, beq_iff_eq]
      exact ⟨trivial, ih l h.2⟩
theorem intsOf_dec : ∀ (ks : List IntKind) (c : Int), intsOf ks (decIs ks c) = true := by
  intro ks
  induction ks with
  | nil => intro c; rfl
  | cons k ks ih => intro c; simp only [decIs, intsOf, ih, decide_true, Bool.and_self]
theorem keyFs_eq (hty : TysOk P tys) {xs ys : Array Value} : ∀ (fs : List Field) (i : Nat) (ks : List IntKind), keyFs tys fs i = some ks → intsOf ks (xs.toList.drop i) = true → intsOf ks (ys.toList.drop i) = true →
    eqF tys xs ys fs = some (eqIs (xs.toList.drop i) (ys.toList.drop i)) := by
  intro fs
  induction fs with
  | nil =>
    intro i ks h hx hy
    simp only [keyFs, Option.some.injEq] at h
    subst h
    have e : ∀ l : List Value, intsOf [] l = true → l = [] := by
      intro l h
      cases l with
      | nil => rfl
      | cons _ _ => simp [intsOf] at h
    rw [e _ hx, e _ hy]
    rfl
  | cons f fs ih =>
    intro i ks h hx hy
    simp only [keyFs] at h
    split at h
    · cases h
    · rename_i hn
      split at h
      · rename_i k _ _ _ kd hti
        split at h
        · rename_i hb
          have hoff := Nat.eq_of_beq_eq_true hb
          split at h
          · rename_i r hr
            cases h
            have key : ∀ zs : Array Value, intsOf (k :: r) (zs.toList.drop i) = true → ∃ a, zs.toList.drop i = .int k a :: zs.toList.drop (i + 1) ∧ zs[i]? = some (.int k a) ∧ intsOf r (zs.toList.drop (i + 1)) = true := by
              intro zs hz
              cases hd : zs.toList.drop i with
              | nil => rw [hd] at hz; simp [intsOf] at hz
              | cons v vs =>
                rw [hd] at hz
                have hvs : vs = zs.toList.drop (i + 1) := by
                  have := congrArg List.tail hd
                  rw [List.tail_drop] at this
                  exact this.symm
                have hv : zs[i]? = some v := by
                  have := congrArg (·[0]?) hd
                  simp only [List.getElem?_drop, Nat.add_zero, List.getElem?_cons_zero, Array.getElem?_toList] at this
                  exact this
                cases v with
                | int k' a =>
                  simp only [intsOf, Bool.and_eq_true, decide_eq_true_eq] at hz
                  obtain ⟨rfl, hz⟩ := hz
                  exact ⟨a, by rw [hvs], hv, by rw [← hvs]; exact hz⟩
                | _ => simp [intsOf] at hz
            obtain ⟨a, x1, x2, x3⟩ := key xs hx
            obtain ⟨b, y1, y2, y3⟩ := key ys hy
            simp only [eqF, hn, hti, hoff, x2, y2, decide_true, ih _ _ hr x3 y3]
            rw [x1, y1]
            rfl
          · cases h
        · cases h
      · cases h
theorem eqIs_eq : ∀ (ks : List IntKind) (l m : List Value), intsOf ks l = true → intsOf ks m = true → eqIs l m = true → l = m := by
  intro ks
  induction ks with
  | nil =>
    intro l m hl hm _
    cases l with
    | nil => cases m with
      | nil => rfl
      | cons _ _ => simp [intsOf] at hm
    | cons _ _ => simp [intsOf] at hl
  | cons k ks ih =>
    intro l m hl hm h
    cases l with
    | nil => simp [intsOf] at hl
    | cons v l =>
      cases m with
      | nil => simp [intsOf] at hm
      | cons w m =>
        cases v <;> (try (simp [intsOf] at hl; done))
        cases w <;> (try (simp [intsOf] at hm; done))
        simp only [intsOf, Bool.and_eq_true, decide_eq_true_eq] at hl hm
        simp only [eqIs, Bool.and_eq_true, beq_iff_eq] at h
        rw [ih l m hl.2 hm.2 h.2, ← hl.1, ← hm.1, h.1]
/-- what is known of a type of keys -/
theorem keyC_run (hty : TysOk P tys) {kt : Nat} {kc : KeyC} (hk : keyC tys kt = some kc) :
    ∃ d, P.underlying kt = some d ∧ ((∀ a b, okK kc a → okK kc b → Instr.sameNow d (keyV kc a) (keyV kc b) = some (decide (a = b))) ∨
      ((∀ x y, Instr.sameNow d x y = none) ∧ ∀ a b w, okK kc a → okK kc b → (Op.equal kt (keyV kc a) (keyV kc b)).run P w = .ok (decide (a = b)) w)) ∧
      ∀ b n a w, (Instr.checkKey b (n + 2) kt (keyV kc a)).run P w = .ok () w := by
  unfold keyC at hk
  split at hk
  · rename_i k z sz bb lk ht
    cases hk
    have hu := (hty _ _ ht).und
    refine ⟨_, hu, .inl fun a b _ _ => ?_, fun b n a w => ?_⟩
    · simp only [keyV, Instr.sameNow, if_true]
      congr 1
    · simp [Instr.checkKey, keyV, run_underlying hu]
  · rename_i z sz bb lk ht
    cases hk
    have hu := (hty _ _ ht).und
    refine ⟨_, hu, .inl fun a b ha hb => ?_, fun b n a w => ?_⟩
    · have hd : keyV .str a = keyV .str b ↔ a = b := ⟨keyV_inj ha hb, fun h => by rw [h]⟩
      simp only [keyV, Value.string.injEq] at hd
      simp only [keyV, Instr.sameNow, Option.some.injEq]
      rw [Bool.eq_iff_iff, beqB, decide_eq_true_iff]
      exact hd
    · simp [Instr.checkKey, keyV, run_underlying hu]
  · rename_i fs z sz bb lk ht
    split at hk
    rotate_left
    · cases hk
    rename_i ks hks
    cases hk
    have hT := hty _ _ ht
    have hst := hT.stood
    simp only at hst
    have hu : P.underlying kt = some (.struct (P.fieldsOf kt)) := by
      have := hT.und
      simp only at this
      simp [Program.fieldsOf, this]
    have hfs : P.fieldsOf kt = fs := by
      have := hT.und
      simp only at this
      simp [Program.fieldsOf, this]
    refine ⟨_, hT.und, .inr ⟨fun x y => rfl, fun a b w ha hb => ?_⟩, fun b n c w => ?_⟩
    · have h1 := run_equalIn_struct (P := P) w 9999 kt (decIs ks a).toArray (decIs ks b).toArray hu hst.1
      have h3 := keyFs_eq (xs := (decIs ks a).toArray) (ys := (decIs ks b).toArray) hty fs.toList 0 ks hks (by simpa using intsOf_dec ks a) (by simpa using intsOf_dec ks b)
      have h2 := eqF_run (P := P) hty 9997 w (decIs ks a).toArray (decIs ks b).toArray fs.toList _ h3
      show (Op.equalIn 10000 kt (.agg (decIs ks a).toArray) (.agg (decIs ks b).toArray)).run P w = _
      rw [h1, hfs, h2]
      congr 1
      simp only [List.drop_zero]
      rw [Bool.eq_iff_iff, decide_eq_true_iff]
      refine ⟨fun h => ?_, fun h => ?_⟩
      · have := eqIs_eq ks _ _ (intsOf_dec ks a) (intsOf_dec ks b) h
        exact keyV_inj ha hb (by simp only [keyV]; rw [this])
      · rw [h]; exact eqIs_refl ks _ (intsOf_dec ks b)
    · have hu' := hT.und
      show (Instr.checkKey b (n + 1 + 1) kt (.agg (decIs ks c).toArray)).run P w = _
      rw [Instr.checkKey]
      simp only [Sem.run_bind, run_underlying hu', Result.andThen_ok]
      generalize hxs : (decIs ks c).toArray = xs
      have hxi : intsOf ks (xs.toList.drop 0) = true := by rw [← hxs]; simpa using intsOf_dec ks c
      rw [← Array.forIn_toList]
      have key : ∀ (fs : List Field) (i : Nat) (ks : List IntKind), keyFs tys fs i = some ks → intsOf ks (xs.toList.drop i) = true →
          (forIn (m := Sem) fs PUnit.unit (fun f _ => if f.name ≠ "_" then (part f.type xs f.offset >>= fun l => Instr.checkKey b (n + 1) f.type l >>= fun _ => pure (ForInStep.yield PUnit.unit)) else pure (ForInStep.yield PUnit.unit) : Field → PUnit → Sem (ForInStep PUnit))).run P w = .ok PUnit.unit w := by
        intro fs
        induction fs with
        | nil => intro i ks _ _; simp
        | cons f fs ih =>
          intro i ks h hz
          simp only [keyFs] at h
          split at h
          · cases h
          · rename_i hn
            simp only [decide_eq_false_iff_not] at hn
            split at h
            · rename_i k _ _ _ kd hti
              split at h
              · rename_i hb
                have hoff := Nat.eq_of_beq_eq_true hb
                split at h
                · rename_i r hr
                  cases h
                  cases hd : xs.toList.drop i with
                  | nil => rw [hd] at hz; simp [intsOf] at hz
                  | cons v vs =>
                    rw [hd] at hz
                    have hvs : vs = xs.toList.drop (i + 1) := by
                      have := congrArg List.tail hd
                      rw [List.tail_drop] at this
                      exact this.symm
                    have hv : xs[f.offset]? = some v := by
                      have := congrArg (·[0]?) hd
                      simp only [List.getElem?_drop, Nat.add_zero, List.getElem?_cons_zero, Array.getElem?_toList] at this
                      rw [hoff]; exact this
                    cases v <;> (try (simp [intsOf] at hz; done))
                    simp only [intsOf, Bool.and_eq_true] at hz
                    have hT' := hty _ _ hti
                    have := ih (i + 1) r hr (by rw [← hvs]; exact hz.2)
                    simp only [List.forIn_cons, Sem.run_bind, ne_eq, hn, not_false_eq_true, if_true, part_leaf hT' hv, Result.andThen_ok, Instr.checkKey, run_underlying hT'.und, Sem.run_pure]
                    exact this
                · cases h
              · cases h
            · cases h
      have hk := key fs.toList 0 ks hks hxi
      simp only [hk, Result.andThen_ok, Sem.run_pure]
  · cases hk
/-- where a key lies -/
def findR {V : Type} (enc : V → Value) (key : Int) : Ents V → Nat → Option (Nat × Value)
  | [], _ => none
  | (k', v, _) :: m, i => if key = k' then some (i, enc v) else findR enc key m (i + 1)
theorem findR_map {V : Type} (enc : V → Value) (key : Int) : ∀ (m : Ents V) (i : Nat), (findR enc key m i).map (·.2) = (mgetE m key).map enc := by
  intro m
  induction m with
  | nil => intro i; rfl
  | cons x m ih =>
    intro i
    obtain ⟨k', v, b⟩ := x
    simp only [findR, mgetE]
    split
    · rfl
    · exact ih (i + 1)
theorem findKey_run (hty : TysOk P tys) {V : Type} {kt : Nat} {kc : KeyC} (hk : keyC tys kt = some kc) (enc : V → Value) (m : Ents V) (key : Int) (w : World) (ho : okK kc key) (hm : okKs kc m) :
    (Instr.findKey kt (keyV kc key) (encM kc enc m).toList).run P w = .ok (findR enc key m 0) w := by
  obtain ⟨d, hu, h | ⟨hn, he⟩, _⟩ := keyC_run (P := P) hty hk
  · have h1 : ∀ (m : Ents V) (i : Nat), okKs kc m → Instr.findNow d (keyV kc key) (encM kc enc m).toList i = some (findR enc key m i) := by
      intro m
      induction m with
      | nil => intro i _; rfl
      | cons x m ih =>
        intro i hm
        obtain ⟨k', v, b⟩ := x
        have h2 := h key k' ho (hm _ (List.mem_cons_self ..))
        have h3 := ih (i + 1) (fun q hq => hm q (List.mem_cons_of_mem _ hq))
        simp only [encM, List.map_cons, Instr.findNow, h2, findR] at h3 ⊢
        by_cases e : key = k'
        · simp [e]
        · simp only [e, decide_false, if_false]
          exact h3
    simp only [Instr.findKey, Sem.run_bind, run_underlying hu, Result.andThen_ok, h1 m 0 hm, Sem.run_pure]
  · have h1 : ∀ (m : Ents V) (i : Nat), okKs kc m → (Instr.findAsking kt (keyV kc key) (encM kc enc m).toList i).run P w = .ok (findR enc key m i) w := by
      intro m
      induction m with
      | nil => intro i _; rfl
      | cons x m ih =>
        intro i hm
        obtain ⟨k', v, b⟩ := x
        have h2 := he key k' w ho (hm _ (List.mem_cons_self ..))
        have h3 := ih (i + 1) (fun q hq => hm q (List.mem_cons_of_mem _ hq))
        simp only [encM, List.map_cons, Instr.findAsking, Sem.run_bind, h2, Result.andThen_ok, findR] at h3 ⊢
        by_cases e : key = k'
        · simp [e]
        · simp only [e, decide_false, if_false]
          exact h3
    have h4 : Instr.findNow d (keyV kc key) (encM kc enc m).toList 0 = none ∨ (encM kc enc m).toList = [] := by
      cases hl : (encM kc enc m).toList with
      | nil => exact .inr rfl
      | cons x l => left; simp only [Instr.findNow, hn]
    rcases h4 with h4 | h4
    · simp only [Instr.findKey, Sem.run_bind, run_underlying hu, Result.andThen_ok, h4]
      exact h1 m 0 hm
    · have h5 := h1 m 0 hm
      rw [h4] at h5 ⊢
      simp only [Instr.findKey, Sem.run_bind, run_underlying hu, Result.andThen_ok, Instr.findNow, Sem.run_pure]
      exact h5
theorem checkKey_run (hty : TysOk P tys) {kt : Nat} {kc : KeyC} (hk : keyC tys kt = some kc) (b : Bool) (key : Int) (w : World) :
    (Instr.checkKey b 10000 kt (keyV kc key)).run P w = .ok () w := by
  obtain ⟨d, hu, _, h⟩ := keyC_run (P := P) hty hk
  exact h b 9998 key w

theorem getObj_run {r : Nat} {o : Obj} (h : w.heap[r]? = some o) (hc : ∀ c e f, o ≠ .cells c e f) : (getObj r).run P w = .ok o w := by
  cases o <;> simp_all [getObj, Sem.run]

theorem lookup_ok (hty : TysOk P tys) (he : Ok e a) {t : Nat} {x k : Operand} {ok : Bool} {K : Value → Prop} (ty : TypeId) (hs : still tys e w.heap (.lookup t x k ok) K) :
    ∃ v, Runs P a (.lookup t x k ok) ty v w ∧ K v := by
  simp only [still] at hs
  have hx := withV_ok he (withV_ok he hs)
  clear hs
  split at hx
  · rename_i kt vt z s b lk ht
    have hT := hty _ _ ht
    split at hx
    · rename_i kc ti r hkt hvt hxx
      split at hx
      · rename_i n hkk
        have hkv := codeK_keyV hkk
        unfold nm at hx
        split at hx
        rotate_left
        · exact hx.elim
        rename_i r
        obtain ⟨m, clk, hm, hoe, hK⟩ := hx
        have hg := getObj_run (P := P) hm (by simp)
        have hck := checkKey_run (P := P) hty hkt (encM kc ti.lk.enc m).isEmpty n w
        have hf := findKey_run (P := P) hty hkt ti.lk.enc m n w (codeK_ok hkk) hoe
        have hfm := findR_map ti.lk.enc n m 0
        rw [hkv] at hck hf
        generalize findR ti.lk.enc n m 0 = fr at hf hfm
        cases hmg : mgetE m n with
        | none =>
          rw [hmg] at hK hfm
          simp at hfm
          subst hfm
          refine ⟨_, fun dst pos aft g => ?_, hK⟩
          simp only [execOp, Instr.lookup, Sem.run_bind, und_run hT, Result.andThen_ok, hxx, hg, Sem.run_pure, hck, hf, zero_run (hty _ _ hvt)]
          cases ok <;> simp
        | some y =>
          rw [hmg] at hK hfm
          simp at hfm
          obtain ⟨j, rfl⟩ := hfm
          refine ⟨_, fun dst pos aft g => ?_, hK⟩
          simp only [execOp, Instr.lookup, Sem.run_bind, und_run hT, Result.andThen_ok, hxx, hg, Sem.run_pure, hck, hf]
          cases ok <;> simp
      · exact hx.elim
    · exact hx.elim
  · exact hx.elim

theorem foldl_push (l : List UInt8) : ∀ s : ByteArray, (l.map (fun c => (c.toNat : Int))).foldl (fun (r : ByteArray) (n : Int) => r.push (UInt8.ofNat n.toNat)) s = ⟨s.data ++ l.toArray⟩ := by
  induction l with
  | nil => intro s; simp
  | cons c l ih =>
    intro s
    simp only [List.map_cons, List.foldl_cons, ih]
    simp [ByteArray.push]

theorem str_run {s : Sl} {b : ByteArray} (hb : b.size = s.len) (hc : slCells w.heap s s.len (b.data.toList.map fun c => .int .u8 c.toNat)) :
    (Conv.bytesToString (.slice s.base s.len s.cap)).run P w = .ok (.string b) w := by
  unfold slCells at hc
  cases hs : s.base with
  | none =>
    rw [hs] at hc
    have : b = ByteArray.empty := by
      have h1 : b.data.toList = [] := by simpa using hc
      cases b with | mk d => simp at h1; subst h1; rfl
    subst this
    simp [Conv.bytesToString]
  | some a =>
    rw [hs] at hc
    obtain ⟨hn, hc⟩ := hc
    have hl := loadCells_run (P := P) hc
    rw [hn] at hl
    have := run_bytesToString (P := P) w a s.len s.cap (b.data.toList.map fun c => (c.toNat : Int)) (by rw [hl, List.map_map]; rfl)
    rw [this, foldl_push]
    cases b; simp [ByteArray.empty, ByteArray.emptyWithCapacity]; rfl

/-- joined: what only reads runs, and gives what was asked; what is pure, in any world; a load, in any world that agrees on what was read. -/
theorem still_ok (hty : TysOk P tys) (he : Ok e a) {op : Op} {K : Value → Prop} (ty : TypeId) (hi : (isStill op && !isFreeze tys op) = true) (hs : still tys e w.heap op K) :
    ∃ v, Runs P a op ty v w ∧ (isPure tys op = true → ∀ w', Runs P a op ty v w') ∧ (isLoad op = true → factOf e op v w.heap ∧ ∀ w', factOf e op v w'.heap → Runs P a op ty v w') ∧ K v := by
  have fin : ∀ {op : Op}, isLoad op = false → (∃ v, (∀ w, Runs P a op ty v w) ∧ K v) → ∃ v, Runs P a op ty v w ∧ (isPure tys op = true → ∀ w', Runs P a op ty v w') ∧ (isLoad op = true → factOf e op v w.heap ∧ ∀ w', factOf e op v w'.heap → Runs P a op ty v w') ∧ K v := by
    rintro op hl ⟨v, h, hK⟩
    exact ⟨v, h w, fun _ => h, fun hh => absurd hh (by rw [hl]; simp), hK⟩
  cases op with
  | move x => exact fin rfl ⟨_, fun w dst pos aft g => by simp [execOp], withV_ok he hs⟩
  | assign x => exact fin rfl ⟨_, fun w dst pos aft g => by simp [execOp], withV_ok he hs⟩
  | pick c x y =>
    refine fin rfl ?_
    have hx := withV_ok he hs
    split at hx
    · rename_i b hb
      cases b with
      | true => exact ⟨_, fun w dst pos aft g => by simp [execOp, hb, asBool], withV_ok he hx⟩
      | false => exact ⟨_, fun w dst pos aft g => by simp [execOp, hb, asBool], withV_ok he hx⟩
    · exact hx.elim
  | build t ps => exact fin rfl (build_ok hty he ty hs)
  | load t x =>
    have hx : still tys e w.heap (.load t x) K := hs
    simp only [still, withV] at hx
    split at hx
    · rename_i p hp
      split at hx
      · rename_i aa
        split at hx
        · rename_i ti hti
          obtain ⟨v, hrun, hat, hK⟩ := ldT_ok (hty _ _ hti) hx
          have hev := ev_ok he hp
          have hr : ∀ w', at' w'.heap aa v → Runs P a (.load t x) ty v w' := fun w' h dst pos aft g => by
            simp [execOp, Instr.loadAt, Instr.sureAddr, hev, hrun w' h]
          have hf : ∀ h, factOf e (.load t x) v h ↔ at' h aa v := fun h => by
            simp only [factOf, hp]
            cases v <;> rfl
          exact ⟨v, hr w hat, fun h => by simp [isPure] at h, fun _ => ⟨(hf _).2 hat, fun w' h => hr w' ((hf _).1 h)⟩, hK⟩
        · exact hx.elim
      · exact hx.elim
    · exact hx.elim
  | nilCheck x =>
    refine fin rfl ?_
    have hx := withV_ok he hs
    split at hx
    · rename_i p hp
      unfold nn at hx
      split at hx
      · exact ⟨_, fun w dst pos aft g => by simp [execOp, hp], hx⟩
      · exact hx.elim
    · rename_i name first cap hp
      split at hx
      · rename_i t v hf
        obtain ⟨hm, hK⟩ := hx
        obtain ⟨g', hg⟩ := Option.isSome_iff_exists.1 hm
        refine ⟨_, fun w dst pos aft g => ?_, hK⟩
        have hb := (hty.mt _ _ _ hg).bound v w
        have hpr : (program).run P w = .ok P w := rfl
        simp only [execOp, hp, hf, Sem.run_bind, hpr, Result.andThen_ok, hb]
        rfl
      · exact hx.elim
    · exact hx.elim
  | binOp op t x y yt =>
    refine fin rfl ?_
    obtain ⟨v, hv, hK⟩ := bin_ok (xo := x) (yo := y) hty (withV_ok he (withV_ok he hs))
    exact ⟨v, fun w dst pos aft g => by simp only [execOp, Sem.run_bind, hv w, Result.andThen_ok, Sem.run_pure], hK⟩
  | unOp op t x =>
    refine fin rfl ?_
    have hx := withV_ok he hs
    split at hx
    · rename_i b hb; exact ⟨_, fun w dst pos aft g => by simp [execOp, hb, Op.unary], hx⟩
    · rename_i k n hb; exact ⟨_, fun w dst pos aft g => by simp [execOp, hb, Op.unary, intBits_xor], hx⟩
    · rename_i k n hb; exact ⟨_, fun w dst pos aft g => by simp [execOp, hb, Op.unary, Op.intArith], hx⟩
    · exact hx.elim
  | convert src dst x =>
    have hx := withV_ok he hs
    split at hx
    · rename_i s d hs' hd
      split at hx
      · rename_i k k' n hk hxx
        refine fin rfl ⟨_, fun w dst' pos aft g => ?_, hx⟩
        simp only [execOp, Sem.run_bind, hxx, convert_int_ok hty hs' hd hk w, Result.andThen_ok, Sem.run_pure]
      · rename_i b l c hk hxx
        split at hx
        · rename_i el hel
          split at hx
          · rename_i z sz by' lk hu8
            obtain ⟨bb, hb, hc, hK⟩ := hx
            refine ⟨.string bb, fun dst' pos aft g => ?_, fun h => ?_, fun h => by simp [isLoad] at h, hK⟩
            · have h1 := (hty _ _ hs').und
              have h2 := (hty _ _ hd).und
              have h3 := (hty _ _ hu8).und
              rw [hel] at h1
              rw [hk] at h2
              have hc' : (convert src dst (.slice b l c)).run P w = .ok (.string bb) w := by
                have := str_run (P := P) (s := ⟨b, l, c⟩) hb hc
                simp only at this
                rw [← this]
                simp [convert, run_underlying h1, run_underlying h2, run_underlying h3]
              simp only [execOp, Sem.run_bind, hxx, hc', Result.andThen_ok, Sem.run_pure]
            · simp only [isPure, hd] at h
              split at h
              · rename_i heq; cases heq; cases hk
              · cases h
          · exact hx.elim
        · exact hx.elim
      · exact hx.elim
    · exact hx.elim
  | slice t x lo hi' mx => exact fin rfl (slice_ok hty he ty hs)
  | fieldAddr t x f => exact fin rfl (fieldAddr_ok hty he ty hs)
  | field t x f => exact fin rfl (field_ok hty he ty hs)
  | indexAddr t x i => exact fin rfl (indexAddr_ok hty he ty hs)
  | index t x i => exact fin rfl (index_ok hty he ty hs)
  | lookup t x k ok =>
    obtain ⟨v, hv, hK⟩ := lookup_ok hty he ty hs
    exact ⟨v, hv, fun h => by simp [isPure] at h, fun h => by simp [isLoad] at h, hK⟩
  | extract x i =>
    refine fin rfl ?_
    have hx := withV_ok he hs
    split at hx
    · rename_i vs hvs
      split at hx
      · rename_i v hv; exact ⟨_, fun w dst pos aft g => by simp [execOp, hvs, Instr.extract, hv], hx⟩
      · exact hx.elim
    · exact hx.elim
  | sliceToArrayPointer t x =>
    refine fin rfl ?_
    have hx := withV_ok he hs
    split at hx
    · rename_i n el z s b lk bb l c ht hxx
      obtain ⟨hn, hK⟩ := hx
      have hu := (hty _ _ ht).und
      have hnl : ¬ l < n := by omega
      exact ⟨_, fun w dst pos aft g => by simp [execOp, hxx, Instr.arrayAt, run_underlying hu, hnl], hK⟩
    · exact hx.elim
  | makeInterface t x =>
    refine fin rfl ?_
    have hx := withV_ok he hs
    split at hx
    · rename_i ti hti
      split at hx
      · rename_i hd
        have hu := (hty _ _ hti).und
        refine ⟨_, fun w dst pos aft g => ?_, hx⟩
        simp only [execOp, Instr.makeInterface, Sem.run_bind, run_underlying hu, Result.andThen_ok]
        cases hdd : ti.desc <;> simp_all [isIface]
      · exact hx.elim
    · exact hx.elim
  | typeAssert x xt t ok =>
    refine fin rfl ?_
    have hx := withV_ok he hs
    split at hx
    · rename_i ti hti
      split at hx
      · rename_i hd
        have hT := hty _ _ hti
        have hu := hT.und
        have hz := zero_run (P := P) hT
        split at hx
        · rename_i u v hv
          split at hx
          · rename_i hut
            simp only [decide_eq_true_eq] at hut
            refine ⟨_, fun w dst pos aft g => ?_, hx⟩
            simp only [execOp, Instr.typeAssert, Sem.run_bind, run_underlying hu, Result.andThen_ok, hv]
            cases hdd : ti.desc <;> cases ok <;> simp_all [isIface]
          · rename_i hut
            simp only [decide_eq_false_iff_not] at hut
            split at hx
            · refine ⟨_, fun w dst pos aft g => ?_, hx⟩
              simp only [execOp, Instr.typeAssert, Sem.run_bind, run_underlying hu, Result.andThen_ok, hv]
              cases hdd : ti.desc <;> simp_all [isIface]
            · exact hx.elim
        · rename_i hv
          split at hx
          · refine ⟨_, fun w dst pos aft g => ?_, hx⟩
            simp only [execOp, Instr.typeAssert, Sem.run_bind, run_underlying hu, Result.andThen_ok, hv]
            cases hdd : ti.desc <;> simp_all [isIface]
          · exact hx.elim
        · exact hx.elim
      · exact hx.elim
    · exact hx.elim
  | makeFunc fn first cap =>
    refine fin rfl ?_
    simp only [still] at hs
    split at hs
    · rename_i f c hf hc
      refine ⟨_, fun w dst pos aft g => ?_, hs⟩
      have e1 : first.map a.eval = f.toArray := by
        apply Array.ext'
        simp [evL_ok he _ _ hf]
      have e2 : cap.map a.eval = c.toArray := by
        apply Array.ext'
        simp [evL_ok he _ _ hc]
      simp [execOp, Instr.makeFunc, e1, e2]
    · exact hs.elim
  | call c =>
    obtain ⟨callee, args, ts⟩ := c
    cases callee with
    | value f => simp [isStill] at hi
    | invoke r n => simp [isStill] at hi
    | builtin b =>
      simp only [still] at hs
      split at hs
      · rename_i x t r hx hts
        have hargs := evL_ok he _ _ hx
        have hget : ts[0]? = some t := by rw [← Array.getElem?_toList, hts]; rfl
        have harg : (args.map a.eval)[0]? = some x := by rw [← Array.getElem?_toList, Array.toList_map, hargs]; rfl
        split at hs
        · rename_i d z s' b' lk hti
          have hu := (hty _ _ hti).und
          have fin2 : ∀ {n : Nat}, isPure tys (.call ⟨.builtin .len, args, ts⟩) = true ∨ True → K (.int .i64 n) → (∀ w, (Builtin.len_ ts ty (args.map a.eval)).run P w = .ok (.int .i64 n) w) →
              ∃ v, Runs P a (.call ⟨.builtin .len, args, ts⟩) ty v w ∧ (isPure tys (.call ⟨.builtin .len, args, ts⟩) = true → ∀ w', Runs P a (.call ⟨.builtin .len, args, ts⟩) ty v w') ∧ (isLoad (.call ⟨.builtin .len, args, ts⟩) = true → factOf e (.call ⟨.builtin .len, args, ts⟩) v w.heap ∧ ∀ w', factOf e (.call ⟨.builtin .len, args, ts⟩) v w'.heap → Runs P a (.call ⟨.builtin .len, args, ts⟩) ty v w') ∧ K v := fun _ hK hr =>
            fin rfl ⟨_, fun w dst pos aft g => by simp [execOp, resolve, invoke, builtin, hr w], hK⟩
          split at hs
          · exact fin2 (.inr trivial) hs (fun w => by simp only [Builtin.len_, hget, harg, Sem.run_bind, run_underlying hu, Result.andThen_ok, Sem.run_pure, goInt])
          · exact fin2 (.inr trivial) hs (fun w => by simp only [Builtin.len_, hget, harg, Sem.run_bind, run_underlying hu, Result.andThen_ok, Sem.run_pure, goInt])
          · rename_i kt vt r'
            unfold nm at hs
            split at hs
            rotate_left
            · exact hs.elim
            rename_i r'
            obtain ⟨es, clk, hm, hK⟩ := hs
            have hg := getObj_run (P := P) hm (by simp)
            refine ⟨_, fun dst pos aft g => ?_, fun h => ?_, fun h => by simp [isLoad] at h, hK⟩
            · have : (Builtin.len_ ts ty (args.map a.eval)).run P w = .ok (.int .i64 es.size) w := by
                simp only [Builtin.len_, hget, harg, Sem.run_bind, run_underlying hu, Result.andThen_ok, Sem.run_pure, goInt, hg]
              simp [execOp, resolve, invoke, builtin, this]
            · simp [isPure, hts, hti] at h
          · exact hs.elim
        · exact hs.elim
      · rename_i b1 l1 c1 t r hx hts
        have hargs := evL_ok he _ _ hx
        have hget : ts[0]? = some t := by rw [← Array.getElem?_toList, hts]; rfl
        have harg : (args.map a.eval)[0]? = some (.slice b1 l1 c1) := by rw [← Array.getElem?_toList, Array.toList_map, hargs]; rfl
        split at hs
        · rename_i el z s' b' lk hti
          have hu := (hty _ _ hti).und
          refine fin rfl ⟨_, fun w dst pos aft g => ?_, hs⟩
          have : (Builtin.cap_ ts ty (args.map a.eval)).run P w = .ok (.int .i64 c1) w := by
            simp only [Builtin.cap_, hget, harg, Sem.run_bind, run_underlying hu, Result.andThen_ok, Sem.run_pure, goInt]
          simp [execOp, resolve, invoke, builtin, this]
        · exact hs.elim
      · rename_i k x k' y hx
        have hargs := evL_ok he _ _ hx
        refine fin rfl ⟨_, fun w dst pos aft g => ?_, hs⟩
        have : (Builtin.min_ ts ty (args.map a.eval)).run P w = .ok (.int k (mnI x y)) w := by
          simp [Builtin.min_, hargs, Builtin.min2, mnI]
        simp [execOp, resolve, invoke, builtin, this]
      · rename_i k x k' y hx
        have hargs := evL_ok he _ _ hx
        refine fin rfl ⟨_, fun w dst pos aft g => ?_, hs⟩
        have : (Builtin.max_ ts ty (args.map a.eval)).run P w = .ok (.int k (mxI x y)) w := by
          simp [Builtin.max_, hargs, Builtin.max2, mxI]
        simp [execOp, resolve, invoke, builtin, this]
      · exact hs.elim
  | _ => simp [isStill] at hi
end
end Go.TS
