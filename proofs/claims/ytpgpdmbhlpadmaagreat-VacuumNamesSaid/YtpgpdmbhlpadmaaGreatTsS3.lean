/- The layer 'TS': soundness, the operations that only read (3), joined. -/
import Derived.Laws.BytesString
import Derived.Test.YtpgpdmbhlpadmaaGreatTsS2
set_option linter.unusedSimpArgs false
set_option linter.unusedVariables false
namespace Go.TS
open Go

section
variable {P : Program} {tys : Tys} {e : Env} {a : Act} {w : World}

theorem convert_int_ok (hty : TysOk P tys) {src dst : Nat} {s d : TI} {k k' : IntKind} {n : Int} (hs : tyOf tys src = some s) (hd : tyOf tys dst = some d) (hk : d.desc = .int k) (w : World) :
    (convert src dst (.int k' n)).run P w = .ok (.int k (k.wrap n)) w := by
  have h1 := und_run (hty _ _ hs) w
  have h2 := und_run (hty _ _ hd) w
  rw [hk] at h2
  simp only [convert, Sem.run_bind, h1, h2, Result.andThen_ok]
  cases s.desc <;> simp [Conv.intToInt]

theorem mgetE_findNow {V : Type} (kk : IntKind) (enc : V → Value) (key : Int) : ∀ (m : Ents V) (i : Nat),
    ∃ r, Instr.findNow (.int kk) (.int kk key) (encM kk enc m).toList i = some r ∧ r.map (·.2) = (mgetE m key).map enc := by
  intro m
  induction m with
  | nil => intro i; exact ⟨none, by simp [encM, Instr.findNow], by simp [mgetE]⟩
  | cons x m ih =>
    intro i
    obtain ⟨k', v, b⟩ := x
    by_cases h : key = k'
    · subst h
      exact ⟨some (i, enc v), by simp [encM, Instr.findNow, Instr.sameNow], by simp [mgetE]⟩
    · obtain ⟨r, hr, hm⟩ := ih (i + 1)
      refine ⟨r, ?_, by simp [mgetE, h, hm]⟩
      simp only [encM, List.map_cons] at hr ⊢
      have hb : (key == k') = false := by simp [h]
      simp only [Instr.findNow, Instr.sameNow, if_true, hb]
      exact hr

theorem findKey_run (hty : TysOk P tys) {V : Type} {kt : Nat} {kti : TI} {kk : IntKind} (hk : tyOf tys kt = some kti) (hkd : kti.desc = .int kk) (enc : V → Value) (m : Ents V) (key : Int) (w : World) :
    ∃ r, (Instr.findKey kt (.int kk key) (encM kk enc m).toList).run P w = .ok r w ∧ Instr.findNow (.int kk) (.int kk key) (encM kk enc m).toList 0 = some r ∧ r.map (·.2) = (mgetE m key).map enc := by
  obtain ⟨r, hr, hm⟩ := mgetE_findNow kk enc key m 0
  have h1 := und_run (hty _ _ hk) w
  rw [hkd] at h1
  exact ⟨r, by simp [Instr.findKey, h1, hr], hr, hm⟩

theorem checkKey_run (hty : TysOk P tys) {kt : Nat} {kti : TI} {kk : IntKind} (hk : tyOf tys kt = some kti) (hkd : kti.desc = .int kk) (b : Bool) (d : Nat) (key : Int) (w : World) :
    (Instr.checkKey b (d + 1) kt (.int kk key)).run P w = .ok () w := by
  have h1 := und_run (hty _ _ hk) w
  rw [hkd] at h1
  simp [Instr.checkKey, h1]

theorem getObj_run {r : Nat} {o : Obj} (h : w.heap[r]? = some o) (hc : ∀ c e f, o ≠ .cells c e f) : (getObj r).run P w = .ok o w := by
  cases o <;> simp_all [getObj, Sem.run]

theorem lookup_ok (hty : TysOk P tys) (he : Ok e a) {t : Nat} {x k : Operand} {ok : Bool} {K : Value → Prop} (ty : TypeId) (hs : still tys e w.heap (.lookup t x k ok) K) :
    ∃ v, Runs P a (.lookup t x k ok) ty v w ∧ K v := by
  simp only [still] at hs
  have hx := withV_ok he (withV_ok he hs)
  clear hs
  split at hx
  · rename_i kt vt z s b lk ht
    have hT := hty _ _ ht
    split at hx
    · rename_i kk _ _ _ _ ti r kk' n hkt hvt hxx hkk
      split at hx
      · rename_i hdec
        simp only [decide_eq_true_eq] at hdec
        subst hdec
        unfold nm at hx
        split at hx
        rotate_left
        · exact hx.elim
        rename_i r
        obtain ⟨m, clk, hm, hK⟩ := hx
        have hg := getObj_run (P := P) hm (by simp)
        have hck := checkKey_run (P := P) hty hkt rfl (encM kk ti.lk.enc m).isEmpty 9999 n w
        obtain ⟨fr, hf, _, hfm⟩ := findKey_run (P := P) hty hkt rfl ti.lk.enc m n w
        cases hmg : mgetE m n with
        | none =>
          rw [hmg] at hK hfm
          simp at hfm
          subst hfm
          refine ⟨_, fun dst pos aft g => ?_, hK⟩
          simp only [execOp, Instr.lookup, Sem.run_bind, und_run hT, Result.andThen_ok, hxx, hkk, hg, Sem.run_pure, hck, hf, zero_run (hty _ _ hvt)]
          cases ok <;> simp
        | some y =>
          rw [hmg] at hK hfm
          simp at hfm
          obtain ⟨j, rfl⟩ := hfm
          refine ⟨_, fun dst pos aft g => ?_, hK⟩
          simp only [execOp, Instr.lookup, Sem.run_bind, und_run hT, Result.andThen_ok, hxx, hkk, hg, Sem.run_pure, hck, hf]
          cases ok <;> simp
      · exact hx.elim
    · exact hx.elim
  · exact hx.elim

theorem foldl_push (l : List UInt8) : ∀ s : ByteArray, (l.map (fun c => (c.toNat : Int))).foldl (fun (r : ByteArray) (n : Int) => r.push (UInt8.ofNat n.toNat)) s = ⟨s.data ++ l.toArray⟩ := by
  induction l with
  | nil => intro s; simp
  | cons c l ih =>
    intro s
    simp only [List.map_cons, List.foldl_cons, ih]
    simp [ByteArray.push]

theorem str_run {s : Sl} {b : ByteArray} (hb : b.size = s.len) (hc : slCells w.heap s s.len (b.data.toList.map fun c => .int .u8 c.toNat)) :
    (Conv.bytesToString (.slice s.base s.len s.cap)).run P w = .ok (.string b) w := by
  unfold slCells at hc
  cases hs : s.base with
  | none =>
    rw [hs] at hc
    have : b = ByteArray.empty := by
      have h1 : b.data.toList = [] := by simpa using hc
      cases b with | mk d => simp at h1; subst h1; rfl
    subst this
    simp [Conv.bytesToString]
  | some a =>
    rw [hs] at hc
    obtain ⟨hn, hc⟩ := hc
    have hl := loadCells_run (P := P) hc
    rw [hn] at hl
    have := run_bytesToString (P := P) w a s.len s.cap (b.data.toList.map fun c => (c.toNat : Int)) (by rw [hl, List.map_map]; rfl)
    rw [this, foldl_push]
    cases b; simp [ByteArray.empty, ByteArray.emptyWithCapacity]; rfl

/-- joined: what only reads runs, and gives what was asked; what is pure, in any world; a load, in any world that agrees on what was read. -/
theorem still_ok (hty : TysOk P tys) (he : Ok e a) {op : Op} {K : Value → Prop} (ty : TypeId) (hi : (isStill op && !isFreeze tys op) = true) (hs : still tys e w.heap op K) :
    ∃ v, Runs P a op ty v w ∧ (isPure tys op = true → ∀ w', Runs P a op ty v w') ∧ (isLoad op = true → factOf e op v w.heap ∧ ∀ w', factOf e op v w'.heap → Runs P a op ty v w') ∧ K v := by
  have fin : ∀ {op : Op}, isLoad op = false → (∃ v, (∀ w, Runs P a op ty v w) ∧ K v) → ∃ v, Runs P a op ty v w ∧ (isPure tys op = true → ∀ w', Runs P a op ty v w') ∧ (isLoad op = true → factOf e op v w.heap ∧ ∀ w', factOf e op v w'.heap → Runs P a op ty v w') ∧ K v := by
    rintro op hl ⟨v, h, hK⟩
    exact ⟨v, h w, fun _ => h, fun hh => absurd hh (by rw [hl]; simp), hK⟩
  cases op with
  | move x => exact fin rfl ⟨_, fun w dst pos aft g => by simp [execOp], withV_ok he hs⟩
  | assign x => exact fin rfl ⟨_, fun w dst pos aft g => by simp [execOp], withV_ok he hs⟩
  | pick c x y =>
    refine fin rfl ?_
    have hx := withV_ok he hs
    split at hx
    · rename_i b hb
      cases b with
      | true => exact ⟨_, fun w dst pos aft g => by simp [execOp, hb, asBool], withV_ok he hx⟩
      | false => exact ⟨_, fun w dst pos aft g => by simp [execOp, hb, asBool], withV_ok he hx⟩
    · exact hx.elim
  | build t ps => exact fin rfl (build_ok hty he ty hs)
  | load t x =>
    have hx : still tys e w.heap (.load t x) K := hs
    simp only [still, withV] at hx
    split at hx
    · rename_i p hp
      split at hx
      · rename_i aa
        split at hx
        · rename_i ti hti
          obtain ⟨v, hrun, hat, hK⟩ := ldT_ok (hty _ _ hti) hx
          have hev := ev_ok he hp
          have hr : ∀ w', at' w'.heap aa v → Runs P a (.load t x) ty v w' := fun w' h dst pos aft g => by
            simp [execOp, Instr.loadAt, Instr.sureAddr, hev, hrun w' h]
          have hf : ∀ h, factOf e (.load t x) v h ↔ at' h aa v := fun h => by
            simp only [factOf, hp]
            cases v <;> rfl
          exact ⟨v, hr w hat, fun h => by simp [isPure] at h, fun _ => ⟨(hf _).2 hat, fun w' h => hr w' ((hf _).1 h)⟩, hK⟩
        · exact hx.elim
      · exact hx.elim
    · exact hx.elim
  | nilCheck x =>
    refine fin rfl ?_
    have hx := withV_ok he hs
    split at hx
    · rename_i p hp
      unfold nn at hx
      split at hx
      · exact ⟨_, fun w dst pos aft g => by simp [execOp, hp], hx⟩
      · exact hx.elim
    · exact hx.elim
  | binOp op t x y yt =>
    refine fin rfl ?_
    obtain ⟨v, hv, hK⟩ := bin_ok (xo := x) (yo := y) hty (withV_ok he (withV_ok he hs))
    exact ⟨v, fun w dst pos aft g => by simp only [execOp, Sem.run_bind, hv w, Result.andThen_ok, Sem.run_pure], hK⟩
  | unOp op t x =>
    refine fin rfl ?_
    have hx := withV_ok he hs
    split at hx
    · rename_i b hb; exact ⟨_, fun w dst pos aft g => by simp [execOp, hb, Op.unary], hx⟩
    · rename_i k n hb; exact ⟨_, fun w dst pos aft g => by simp [execOp, hb, Op.unary, intBits_xor], hx⟩
    · rename_i k n hb; exact ⟨_, fun w dst pos aft g => by simp [execOp, hb, Op.unary, Op.intArith], hx⟩
    · exact hx.elim
  | convert src dst x =>
    have hx := withV_ok he hs
    split at hx
    · rename_i s d hs' hd
      split at hx
      · rename_i k k' n hk hxx
        refine fin rfl ⟨_, fun w dst' pos aft g => ?_, hx⟩
        simp only [execOp, Sem.run_bind, hxx, convert_int_ok hty hs' hd hk w, Result.andThen_ok, Sem.run_pure]
      · rename_i b l c hk hxx
        split at hx
        · rename_i el hel
          split at hx
          · rename_i z sz by' lk hu8
            obtain ⟨bb, hb, hc, hK⟩ := hx
            refine ⟨.string bb, fun dst' pos aft g => ?_, fun h => ?_, fun h => by simp [isLoad] at h, hK⟩
            · have h1 := (hty _ _ hs').und
              have h2 := (hty _ _ hd).und
              have h3 := (hty _ _ hu8).und
              rw [hel] at h1
              rw [hk] at h2
              have hc' : (convert src dst (.slice b l c)).run P w = .ok (.string bb) w := by
                have := str_run (P := P) (s := ⟨b, l, c⟩) hb hc
                simp only at this
                rw [← this]
                simp [convert, run_underlying h1, run_underlying h2, run_underlying h3]
              simp only [execOp, Sem.run_bind, hxx, hc', Result.andThen_ok, Sem.run_pure]
            · simp only [isPure, hd] at h
              split at h
              · rename_i heq; cases heq; cases hk
              · cases h
          · exact hx.elim
        · exact hx.elim
      · exact hx.elim
    · exact hx.elim
  | slice t x lo hi' mx => exact fin rfl (slice_ok hty he ty hs)
  | fieldAddr t x f => exact fin rfl (fieldAddr_ok hty he ty hs)
  | field t x f => exact fin rfl (field_ok hty he ty hs)
  | indexAddr t x i => exact fin rfl (indexAddr_ok hty he ty hs)
  | index t x i => exact fin rfl (index_ok hty he ty hs)
  | lookup t x k ok =>
    obtain ⟨v, hv, hK⟩ := lookup_ok hty he ty hs
    exact ⟨v, hv, fun h => by simp [isPure] at h, fun h => by simp [isLoad] at h, hK⟩
  | extract x i =>
    refine fin rfl ?_
    have hx := withV_ok he hs
    split at hx
    · rename_i vs hvs
      split at hx
      · rename_i v hv; exact ⟨_, fun w dst pos aft g => by simp [execOp, hvs, Instr.extract, hv], hx⟩
      · exact hx.elim
    · exact hx.elim
  | sliceToArrayPointer t x =>
    refine fin rfl ?_
    have hx := withV_ok he hs
    split at hx
    · rename_i n el z s b lk bb l c ht hxx
      obtain ⟨hn, hK⟩ := hx
      have hu := (hty _ _ ht).und
      have hnl : ¬ l < n := by omega
      exact ⟨_, fun w dst pos aft g => by simp [execOp, hxx, Instr.arrayAt, run_underlying hu, hnl], hK⟩
    · exact hx.elim
  | makeInterface t x =>
    refine fin rfl ?_
    have hx := withV_ok he hs
    split at hx
    · rename_i ti hti
      split at hx
      · rename_i hd
        have hu := (hty _ _ hti).und
        refine ⟨_, fun w dst pos aft g => ?_, hx⟩
        simp only [execOp, Instr.makeInterface, Sem.run_bind, run_underlying hu, Result.andThen_ok]
        cases hdd : ti.desc <;> simp_all [isIface]
      · exact hx.elim
    · exact hx.elim
  | typeAssert x xt t ok =>
    refine fin rfl ?_
    have hx := withV_ok he hs
    split at hx
    · rename_i ti hti
      split at hx
      · rename_i hd
        have hT := hty _ _ hti
        have hu := hT.und
        have hz := zero_run (P := P) hT
        split at hx
        · rename_i u v hv
          split at hx
          · rename_i hut
            simp only [decide_eq_true_eq] at hut
            refine ⟨_, fun w dst pos aft g => ?_, hx⟩
            simp only [execOp, Instr.typeAssert, Sem.run_bind, run_underlying hu, Result.andThen_ok, hv]
            cases hdd : ti.desc <;> cases ok <;> simp_all [isIface]
          · rename_i hut
            simp only [decide_eq_false_iff_not] at hut
            split at hx
            · refine ⟨_, fun w dst pos aft g => ?_, hx⟩
              simp only [execOp, Instr.typeAssert, Sem.run_bind, run_underlying hu, Result.andThen_ok, hv]
              cases hdd : ti.desc <;> simp_all [isIface]
            · exact hx.elim
        · rename_i hv
          split at hx
          · refine ⟨_, fun w dst pos aft g => ?_, hx⟩
            simp only [execOp, Instr.typeAssert, Sem.run_bind, run_underlying hu, Result.andThen_ok, hv]
            cases hdd : ti.desc <;> simp_all [isIface]
          · exact hx.elim
        · exact hx.elim
      · exact hx.elim
    · exact hx.elim
  | makeFunc fn first cap =>
    refine fin rfl ?_
    simp only [still] at hs
    split at hs
    · rename_i f c hf hc
      refine ⟨_, fun w dst pos aft g => ?_, hs⟩
      have e1 : first.map a.eval = f.toArray := by
        apply Array.ext'
        simp [evL_ok he _ _ hf]
      have e2 : cap.map a.eval = c.toArray := by
        apply Array.ext'
        simp [evL_ok he _ _ hc]
      simp [execOp, Instr.makeFunc, e1, e2]
    · exact hs.elim
  | call c =>
    obtain ⟨callee, args, ts⟩ := c
    cases callee with
    | value f => simp [isStill] at hi
    | invoke r n => simp [isStill] at hi
    | builtin b =>
      simp only [still] at hs
      split at hs
      · rename_i x t r hx hts
        have hargs := evL_ok he _ _ hx
        have hget : ts[0]? = some t := by rw [← Array.getElem?_toList, hts]; rfl
        have harg : (args.map a.eval)[0]? = some x := by rw [← Array.getElem?_toList, Array.toList_map, hargs]; rfl
        split at hs
        · rename_i d z s' b' lk hti
          have hu := (hty _ _ hti).und
          have fin2 : ∀ {n : Nat}, isPure tys (.call ⟨.builtin .len, args, ts⟩) = true ∨ True → K (.int .i64 n) → (∀ w, (Builtin.len_ ts ty (args.map a.eval)).run P w = .ok (.int .i64 n) w) →
              ∃ v, Runs P a (.call ⟨.builtin .len, args, ts⟩) ty v w ∧ (isPure tys (.call ⟨.builtin .len, args, ts⟩) = true → ∀ w', Runs P a (.call ⟨.builtin .len, args, ts⟩) ty v w') ∧ (isLoad (.call ⟨.builtin .len, args, ts⟩) = true → factOf e (.call ⟨.builtin .len, args, ts⟩) v w.heap ∧ ∀ w', factOf e (.call ⟨.builtin .len, args, ts⟩) v w'.heap → Runs P a (.call ⟨.builtin .len, args, ts⟩) ty v w') ∧ K v := fun _ hK hr =>
            fin rfl ⟨_, fun w dst pos aft g => by simp [execOp, resolve, invoke, builtin, hr w], hK⟩
          split at hs
          · exact fin2 (.inr trivial) hs (fun w => by simp only [Builtin.len_, hget, harg, Sem.run_bind, run_underlying hu, Result.andThen_ok, Sem.run_pure, goInt])
          · exact fin2 (.inr trivial) hs (fun w => by simp only [Builtin.len_, hget, harg, Sem.run_bind, run_underlying hu, Result.andThen_ok, Sem.run_pure, goInt])
          · rename_i kt vt r'
            unfold nm at hs
            split at hs
            rotate_left
            · exact hs.elim
            rename_i r'
            obtain ⟨es, clk, hm, hK⟩ := hs
            have hg := getObj_run (P := P) hm (by simp)
            refine ⟨_, fun dst pos aft g => ?_, fun h => ?_, fun h => by simp [isLoad] at h, hK⟩
            · have : (Builtin.len_ ts ty (args.map a.eval)).run P w = .ok (.int .i64 es.size) w := by
                simp only [Builtin.len_, hget, harg, Sem.run_bind, run_underlying hu, Result.andThen_ok, Sem.run_pure, goInt, hg]
              simp [execOp, resolve, invoke, builtin, this]
            · simp [isPure, hts, hti] at h
          · exact hs.elim
        · exact hs.elim
      · rename_i b1 l1 c1 t r hx hts
        have hargs := evL_ok he _ _ hx
        have hget : ts[0]? = some t := by rw [← Array.getElem?_toList, hts]; rfl
        have harg : (args.map a.eval)[0]? = some (.slice b1 l1 c1) := by rw [← Array.getElem?_toList, Array.toList_map, hargs]; rfl
        split at hs
        · rename_i el z s' b' lk hti
          have hu := (hty _ _ hti).und
          refine fin rfl ⟨_, fun w dst pos aft g => ?_, hs⟩
          have : (Builtin.cap_ ts ty (args.map a.eval)).run P w = .ok (.int .i64 c1) w := by
            simp only [Builtin.cap_, hget, harg, Sem.run_bind, run_underlying hu, Result.andThen_ok, Sem.run_pure, goInt]
          simp [execOp, resolve, invoke, builtin, this]
        · exact hs.elim
      · rename_i k x k' y hx
        have hargs := evL_ok he _ _ hx
        refine fin rfl ⟨_, fun w dst pos aft g => ?_, hs⟩
        have : (Builtin.min_ ts ty (args.map a.eval)).run P w = .ok (.int k (mnI x y)) w := by
          simp [Builtin.min_, hargs, Builtin.min2, mnI]
        simp [execOp, resolve, invoke, builtin, this]
      · rename_i k x k' y hx
        have hargs := evL_ok he _ _ hx
        refine fin rfl ⟨_, fun w dst pos aft g => ?_, hs⟩
        have : (Builtin.max_ ts ty (args.map a.eval)).run P w = .ok (.int k (mxI x y)) w := by
          simp [Builtin.max_, hargs, Builtin.max2, mxI]
        simp [execOp, resolve, invoke, builtin, this]
      · exact hs.elim
  | _ => simp [isStill] at hi
end
end Go.TS
