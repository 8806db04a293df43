/- The layer 'TS': soundness, what writes, makes memory or calls, joined. -/
import Derived.Laws.IdiomStrings
import Derived.Test.YtmcpegdmnogkbaaGreatDoorTsS5
set_option linter.unusedSimpArgs false
set_option linter.unusedVariables false
namespace Go.TS
open Go

section
variable {P : Program} {tys : Tys} {cs : Calls'} {e : Env} {a : Act} {w : World}

theorem dec_enc : ∀ {k : Kind} {v : Value} {x : k.ty}, k.dec v = some x → v = k.enc x
  | .int k, .int k' n, x, h => by
    simp only [Kind.dec] at h
    by_cases hk : k = k'
    · subst hk; simp at h; subst h; rfl
    · simp [hk] at h
  | .bool, .bool b, x, h => by cases h; rfl
  | .ptr, .pointer p, x, h => by cases h; rfl
  | .sl, .slice b l c, x, h => by cases h; rfl
  | .str, .string s, x, h => by cases h; rfl
  | .map, .map r, x, h => by cases h; rfl
  | .any, v, x, h => by
    have : x = v := by cases v <;> (simp only [Kind.dec, Option.some.injEq] at h; exact h.symm)
    subst this; rfl

theorem msetE_clk {V : Type} (m : Ents V) (key : Int) (v : V) (clk : Nat) : mgetE m key = none → msetE m key v clk = (m ++ [(key, v, clk)], clk + 1) := by
  induction m with
  | nil => intro _; rfl
  | cons x m ih =>
    obtain ⟨k', v', b⟩ := x
    intro h
    by_cases hk : key = k'
    · simp [mgetE, hk] at h
    · simp only [mgetE, hk, if_false] at h
      simp [msetE, hk, ih h]

theorem findR_idx {V : Type} (kc : KeyC) (enc : V → Value) (key : Int) (v : V) (clk : Nat) : ∀ (m : Ents V) (i j : Nat) (u : Value),
    findR enc key m i = some (j, u) →
    ∃ d, j = i + d ∧ (∃ en, (encM kc enc m)[d]? = some en ∧ en.key = keyV kc key) ∧
      (encM kc enc m).toList.modify d (fun e => { e with key := keyV kc key, val := enc v }) = (encM kc enc (msetE m key v clk).1).toList ∧ (msetE m key v clk).2 = clk := by
  intro m
  induction m with
  | nil => intro i j u h; simp [findR] at h
  | cons x m ih =>
    obtain ⟨k', v', b⟩ := x
    intro i j u h
    by_cases hk : key = k'
    · subst hk
      simp [findR] at h
      refine ⟨0, h.1.symm, ⟨⟨keyV kc key, enc v', b⟩, by simp [encM], rfl⟩, ?_, ?_⟩
      · simp [encM, msetE]
      · simp [msetE]
    · simp only [findR, hk, if_false] at h
      obtain ⟨d, hd, ⟨en, hen, hkey⟩, hmod, hclk⟩ := ih (i + 1) j u h
      refine ⟨d + 1, by omega, ⟨en, ?_, hkey⟩, ?_, ?_⟩
      · simpa [encM] using hen
      · simp only [encM, List.map_cons, msetE, hk, if_false] at hmod ⊢
        simpa using hmod
      · simp [msetE, hk, hclk]
theorem sameIs_refl : ∀ (ks : List IntKind) (l : List Value) (n : Nat), intsOf ks l = true → ((l.zip l).all fun (x, y) => Instr.sameBits n x y) = true := by
  intro ks
  induction ks with
  | nil =>
    intro l n h
    cases l with
    | nil => rfl
    | cons _ _ => simp [intsOf] at h
  | cons k ks ih =>
    intro l n h
    cases l with
    | nil => rfl
    | cons v l =>
      cases v <;> (try (simp [intsOf] at h; done))
      simp only [intsOf, Bool.and_eq_true, decide_eq_true_eq] at h
      simp only [List.zip_cons_cons, List.all_cons, Bool.and_eq_true]
      exact ⟨by simp [Instr.sameBits], ih l n h.2⟩
theorem sameBits_key (kc : KeyC) (c : Int) (n : Nat) : Instr.sameBits (n + 1) (keyV kc c) (keyV kc c) = true := by
  cases kc with
  | int k => simp [keyV, Instr.sameBits]
  | str => exact beqB.2 rfl
  | ints ks =>
    simp only [keyV, Instr.sameBits, beq_self_eq_true, Bool.true_and]
    exact sameIs_refl ks _ n (intsOf_dec ks c)

theorem findR_del {V : Type} (kc : KeyC) (enc : V → Value) (key : Int) : ∀ (m : Ents V) (i j : Nat) (u : Value),
    findR enc key m i = some (j, u) → ∃ d, j = i + d ∧ (encM kc enc m).toList.eraseIdx d = (encM kc enc (mdelE m key)).toList := by
  intro m
  induction m with
  | nil => intro i j u h; simp [findR] at h
  | cons x m ih =>
    obtain ⟨k', v', b⟩ := x
    intro i j u h
    by_cases hk : key = k'
    · subst hk
      simp [findR] at h
      exact ⟨0, h.1.symm, by simp [encM, mdelE]⟩
    · simp only [findR, hk, if_false] at h
      obtain ⟨d, hd, he⟩ := ih (i + 1) j u h
      refine ⟨d + 1, by omega, ?_⟩
      simp only [encM, List.map_cons, mdelE, hk, if_false] at he ⊢
      simpa using he
theorem mdelE_none {V : Type} (key : Int) : ∀ m : Ents V, mgetE m key = none → mdelE m key = m := by
  intro m
  induction m with
  | nil => intro _; rfl
  | cons x m ih =>
    obtain ⟨k', v', b⟩ := x
    intro h
    by_cases hk : key = k'
    · simp [mgetE, hk] at h
    · simp only [mgetE, hk, if_false] at h
      simp [mdelE, hk, ih h]
theorem mapDelete_ok (hty : TysOk P tys) {ts : Array TypeId} {ty t kt vt : Nat} {tt : TI} {kc : KeyC} {r : Nat} {key : Int} {kv : Value} (hg0 : ts[0]? = some t) (ht : tyOf tys t = some tt) (htd : tt.desc = .map kt vt) (hk : keyC tys kt = some kc) (hkv : codeK kc kv = some key)
    {l : Lk} {K : Mem → Prop} (h : mdel kc l r key w.heap K) :
    ∃ w', (Builtin.delete_ ts ty #[.map (some r), kv]).run P w = .ok (.tuple #[]) w' ∧ K w'.heap ∧ Same w w' := by
  obtain ⟨m, clk, hm, hoe, hK⟩ := h
  have ho := codeK_ok hkv
  have hkv := codeK_keyV hkv
  subst hkv
  have d1 := und_run (hty _ _ ht) w
  rw [htd] at d1
  have hg := getObj_run (P := P) hm (by simp)
  have hck := checkKey_run (P := P) hty hk (encM kc l.enc m).isEmpty key w
  have hf := findKey_run (P := P) hty hk l.enc m key w ho hoe
  have hfm := findR_map l.enc key m 0
  have hset : ∀ o, (setObj r o).run P w = .ok () { w with heap := w.heap.setIfInBounds r o } := by
    intro o
    simp only [setObj, Sem.run, hm]
  refine ⟨{ w with heap := w.heap.setIfInBounds r (.map (encM kc l.enc (mdelE m key)) clk) }, ?_, hK, ⟨rfl, rfl, rfl⟩⟩
  cases hmg : mgetE m key with
  | none =>
    rw [hmg] at hfm
    simp at hfm
    rw [hfm] at hf
    have e := mdelE_none key m hmg
    simp [Builtin.delete_, hg0, d1, hg, hck, hf, hset, e]
  | some u =>
    rw [hmg] at hfm
    simp at hfm
    obtain ⟨j, hj⟩ := hfm
    obtain ⟨d, hd, he⟩ := findR_del kc l.enc key m 0 _ _ hj
    rw [hj] at hf
    have e : (encM kc l.enc m).eraseIdxIfInBounds j = encM kc l.enc (mdelE m key) := by
      apply Array.ext'
      rw [hd, Nat.zero_add, ← he]
      simp
    simp [Builtin.delete_, hg0, d1, hg, hck, hf, hset, e]
theorem mapUpdate_ok (hty : TysOk P tys) {t kt vt : Nat} {tt : TI} {kc : KeyC} {r : Nat} {key : Int} {kv : Value} (ht : tyOf tys t = some tt) (htd : tt.desc = .map kt vt) (hk : keyC tys kt = some kc) (hkv : codeK kc kv = some key)
    {l : Lk} {y : l.ty} {v : Value} (hv : v = l.enc y) {K : Mem → Prop} (h : mset kc l r key y w.heap K) :
    ∃ w', (Instr.mapUpdate t (.map (some r)) kv v).run P w = .ok () w' ∧ K w'.heap ∧ Same w w' := by
  obtain ⟨m, clk, hm, hoe, hK⟩ := h
  have ho := codeK_ok hkv
  have hkv := codeK_keyV hkv
  subst hkv
  have d1 := und_run (hty _ _ ht) w
  rw [htd] at d1
  have hg := getObj_run (P := P) hm (by simp)
  have hck := checkKey_run (P := P) hty hk false key w
  have hf := findKey_run (P := P) hty hk l.enc m key w ho hoe
  have hfm := findR_map l.enc key m 0
  have hfn : ∀ fr, findR l.enc key m 0 = fr → findR l.enc key m 0 = fr := fun _ h => h
  generalize hfr : findR l.enc key m 0 = fr at hf hfm
  have hset : ∀ o, (∀ c e f, o ≠ Obj.cells c e f) → (setObj r o).run P w = .ok () { w with heap := w.heap.setIfInBounds r o } := by
    intro o _
    simp only [setObj, Sem.run, hm]
  subst hv
  cases hmg : mgetE m key with
  | none =>
    rw [hmg] at hfm
    simp at hfm
    subst hfm
    refine ⟨{ w with heap := w.heap.setIfInBounds r (.map (encM kc l.enc (msetE m key y clk).1) (msetE m key y clk).2) }, ?_, hK, ⟨rfl, rfl, rfl⟩⟩
    simp only [Instr.mapUpdate, Sem.run_bind, d1, Result.andThen_ok, hg, hck, hf]
    rw [hset _ (by simp), msetE_clk m key y clk hmg]
    simp [encM]
  | some u =>
    rw [hmg] at hfm
    simp at hfm
    obtain ⟨j, rfl⟩ := hfm
    obtain ⟨d, hd, ⟨en, hen, hkey⟩, hmod, hclk⟩ := findR_idx kc l.enc key y clk m 0 j _ hfr
    have hj : j = d := by omega
    subst hj
    refine ⟨{ w with heap := w.heap.setIfInBounds r (.map (encM kc l.enc (msetE m key y clk).1) (msetE m key y clk).2) }, ?_, hK, ⟨rfl, rfl, rfl⟩⟩
    have hst : (Instr.keyThatStays (keyV kc key) (keyV kc key)).run P w = .ok (keyV kc key) w := by simp [Instr.keyThatStays, sameBits_key kc key 9999]
    simp only [Instr.mapUpdate, Sem.run_bind, d1, Result.andThen_ok, hg, hck, hf, hen, Option.map_some, Option.getD_some, hkey, hst]
    rw [hset _ (by simp)]
    congr 3
    rw [hclk]
    congr 1
    apply Array.ext'
    rw [← hmod]
    simp

/-- what a run of an operation comes to -/
def Gives (P : Program) (s : Sem Next) (w : World) (K : Value → Mem → Prop) : Prop :=
  (∃ v w', s.run P w = .ok (.value v) w' ∧ K v w'.heap ∧ Same w w') ∨ (∃ w', s.run P w = .ok .skip w' ∧ K undef w'.heap ∧ Same w w') ∨
  (∃ f args, s.run P w = .ok (.enter f args) w ∧ Calls P f args w (Ret K w)) ∨
  (∃ l f tmps assign body, s.run P w = .ok (.round l f tmps assign body) w ∧ RoundIn Fence.wide 0 P l f tmps assign body w (Ret K w))
/-- the fence that lets all in; the frame is a round's, or not -/
abbrev Fw (ro : Option Nat) : Fence := { Fence.wide with round := ro }
theorem callsIn_fw {ro : Option Nat} {n : Nat} {P : Program} {f : FuncId} {args : Array Value} {w : World} {R : Ending → World → Prop} (h : Calls P f args w R) : CallsIn (Fw ro) n P f args w R :=
  (callsIn_wide (n := n)).2 h
theorem roundIn_fw {ro : Option Nat} {n : Nat} {P : Program} {l : Nat} {f : FuncId} {tmps : Array Value} {assign body : Code} {w : World} {R : Ending → World → Prop} (h : RoundIn Fence.wide 0 P l f tmps assign body w R) : RoundIn (Fw ro) n P l f tmps assign body w R :=
  ⟨trivial, fun c cs _ => h.2 c cs (room_wide _)⟩
theorem gives_wp {ro : Option Nat} {n : Nat} {o : Oper} {K : Value → Mem → Prop} {next : Act → World → Prop} {Q : Exit → Act → World → Prop} (hd : ∀ c, o.op ≠ .defer c) (h : Gives P (execOp a.eval o) w K)
    (hn : ∀ v w', K v w'.heap → Same w w' → next (a.put o.dst v) w') : o.wpIn (Fw ro) n P a w next Q := by
  refine ⟨fun _ _ => trivial, ?_⟩
  rw [Oper.semAt_eq _ _ _ hd]
  rcases h with ⟨v, w', hr, hK, hS⟩ | ⟨w', hr, hK, hS⟩ | ⟨f, args, hr, hc⟩ | ⟨l, f, tmps, asg, body, hr, hc⟩
  · rw [hr]; exact hn v w' hK hS
  · rw [hr]; exact hn _ w' hK hS
  · rw [hr, Oper.uponIn_enter]
    refine ⟨fun h => by simp [Fence.wide] at h, (callsIn_fw hc).mono ?_⟩
    rintro e' w' ⟨v, rfl, hK, hSm⟩
    exact hn v w' hK hSm
  · rw [hr, Oper.uponIn_round]
    refine ⟨fun h => by simp [Fence.wide] at h, (roundIn_fw hc).mono ?_⟩
    rintro e' w' ⟨v, rfl, hK, hSm⟩
    exact hn v w' hK hSm

theorem eff_gives (hty : TysOk P tys) (hcs : CallsOk P cs) (he : Ok e a) {op : Op} {K : Value → Mem → Prop} (hs : eff tys cs e w.heap op K)
    {dst : Option Tmp} {ty : TypeId} {pos : String} {aft : Array Edge} {g : Option (Nat × Bool)} : Gives P (execOp a.eval ⟨dst, op, ty, pos, aft, g⟩) w K := by
  have fin : ∀ {v w'}, (execOp a.eval ⟨dst, op, ty, pos, aft, g⟩).run P w = .ok (.value v) w' → K v w'.heap → Same w w' → Gives P (execOp a.eval ⟨dst, op, ty, pos, aft, g⟩) w K :=
    fun hr hK hS => .inl ⟨_, _, hr, hK, hS⟩
  have fin0 : ∀ {w'}, (execOp a.eval ⟨dst, op, ty, pos, aft, g⟩).run P w = .ok .skip w' → K undef w'.heap → Same w w' → Gives P (execOp a.eval ⟨dst, op, ty, pos, aft, g⟩) w K :=
    fun hr hK hS => .inr (.inl ⟨_, hr, hK, hS⟩)
  cases op with
  | alloc t =>
    simp only [eff] at hs
    split at hs
    · rename_i ti hti
      exact fin (v := .pointer (some ⟨w.heap.size, 0, none⟩)) (w' := w.alloc (.cells ti.zero.cells t)) (by simp [execOp, Instr.alloc, zero_run (hty _ _ hti), newVar, newRow, new_run]) hs (same_alloc _ _)
    · exact hs.elim
  | box t x =>
    have hx := withV_ok he hs
    exact fin (v := .pointer (some ⟨w.heap.size, 0, none⟩)) (w' := w.alloc (.cells (a.eval x).cells t)) (by simp [execOp, Instr.box, newVar, newRow, new_run]) hx (same_alloc _ _)
  | buildSlice t n ps =>
    simp only [eff] at hs
    split at hs
    · rename_i vs el z s b lk hvs ht
      have hz := zipV_map he ps.toList vs hvs
      split at hs
      · rename_i ti hti
        split at hs
        · rename_i hd
          simp only [decide_eq_true_eq] at hd
          split at hs
          · rename_i cs' hcs'
            refine fin (v := .slice (some ⟨w.heap.size, 0, none⟩) n n) (w' := w.alloc (.cells cs' el)) ?_ hs (same_alloc _ _)
            have hT := hty _ _ ht
            have hd' : ¬ (n * ti.size > 2 ^ 24) := by omega
            have hzz : zeros ti.zero.cells (n * ti.size) = (Array.range (n * ti.size)).map (fun i => (if n * ti.size = 0 then (#[] : Array Value) else ti.zero.cells)[i % (if n * ti.size = 0 then (#[] : Array Value) else ti.zero.cells).size]!) := by
              unfold zeros
              by_cases h0 : n * ti.size = 0
              · simp [h0, Array.range_zero']
              · simp [h0]
            rw [hzz] at hcs'
            have hz2 : List.map (fun x => (x.1, a.eval x.2)) ps.toList = zipV ps.toList vs := hz
            by_cases h0 : n * ti.size = 0
            · simp only [h0, if_true] at hcs'
              simp [Array.range_zero'] at hcs'
              simp only [execOp, Instr.buildSlice, Sem.run_bind, und_run hT, Result.andThen_ok, size_run (hty _ _ hti), h0]
              simp [hz2, Array.range_zero', hcs', newRow, new_run]
            · simp only [h0, if_false] at hcs'
              simp only [execOp, Instr.buildSlice, Sem.run_bind, und_run hT, Result.andThen_ok, size_run (hty _ _ hti), hd', if_false, Sem.run_pure, h0, zero_run (hty _ _ hti)]
              simp [hz2, hcs', newRow, new_run]
          · exact hs.elim
        · exact hs.elim
      · exact hs.elim
    · exact hs.elim
  | store t p x =>
    have hx := withV_ok he (withV_ok he hs)
    clear hs
    split at hx
    · rename_i aa ti hp hti
      have hT := hty _ _ hti
      have hlk := hT.lk
      unfold lkOk at hlk
      split at hx
      · rename_i k hk
        split at hx
        · rename_i h1
          obtain ⟨⟨u, hu⟩, hf, hK⟩ := hx
          have hsz : ti.size = 1 := by rw [hk] at hlk; revert hlk; cases ti.desc <;> cases k <;> simp
          refine fin0 ?_ hK (same_set w aa (a.eval x))
          have hc : (a.eval x).cells = #[a.eval x] := by revert h1; cases a.eval x <;> simp [oneC, Value.cells]
          have hst := store_run (P := P) h1 hu hf
          simp [execOp, Instr.storeAt, Instr.sureAddr, hp, storeVar, hc, size_run hT, hsz, storeCells, Addr.add_zero', hst]
        · exact hx.elim
      · rename_i ks hk
        split at hx
        · rename_i cs' hxx
          split at hx
          · rename_i hbeq
            have hsz := Nat.eq_of_beq_eq_true hbeq
            obtain ⟨w', hw', hK, hS⟩ := stL_ok (P := P) aa cs'.toList 0 w _ hx
            exact fin0 (by simp [execOp, Instr.storeAt, Instr.sureAddr, hp, storeVar, hxx, Value.cells, size_run hT, hsz, hw']) hK hS
          · exact hx.elim
        · exact hx.elim
      · rename_i n hk
        split at hx
        · rename_i cs' hxx
          obtain ⟨hsz, hx⟩ := hx
          obtain ⟨w', hw', hK, hS⟩ := stA_ok (P := P) hx
          have hsz' : cs'.size = ti.size := by rw [hk] at hlk; revert hlk; cases ti.desc <;> simp; omega
          exact fin0 (by simp [execOp, Instr.storeAt, Instr.sureAddr, hp, storeVar, hxx, Value.cells, size_run hT, hsz', hw']) hK hS
        · exact hx.elim
    · exact hx.elim
  | makeSlice t l c =>
    have hx := withV_ok he (withV_ok he hs)
    clear hs
    split at hx
    · rename_i k l' k' c' el z s b lk hl hc ht
      split at hx
      · rename_i ti hti
        obtain ⟨r, w', hr, hK, hS⟩ := makeSlice_ok (P := P) (k := k) (k' := k') hty ht rfl hti hx
        exact fin (by simp only [execOp, Sem.run_bind, hl, hc, hr, Result.andThen_ok, Sem.run_pure]; rfl) hK hS
      · exact hx.elim
    · exact hx.elim
  | makeMap t r =>
    cases r with
    | none => exact fin (v := .map (some w.heap.size)) (w' := w.alloc (.map #[] 0)) (by simp [execOp, Instr.makeMap, new_run]) hs (same_alloc _ _)
    | some r => exact (by simp only [eff] at hs : False).elim
  | mapUpdate t m k v =>
    have hx := withV_ok he (withV_ok he (withV_ok he hs))
    clear hs
    split at hx
    · rename_i kt vt z s b lk ht
      split at hx
      · rename_i kc ti r hkt hvt hm
        split at hx
        · rename_i n hk
          unfold nm at hx
          split at hx
          rotate_left
          · exact hx.elim
          rename_i r
          split at hx
          · rename_i kd hl
            split at hx
            · rename_i y hy
              obtain ⟨w', hr, hK, hS⟩ := mapUpdate_ok (P := P) hty ht rfl hkt hk (l := .leaf kd) (y := y) (dec_enc hy) hx
              exact fin0 (by simp only [execOp, Sem.run_bind, hm, hr, Result.andThen_ok, Sem.run_pure]) hK hS
            · exact hx.elim
          · rename_i hl
            split at hx
            · rename_i cs' hv
              split at hx
              · rename_i hb
                have h0 := Nat.eq_of_beq_eq_true hb
                have hcs' : cs' = #[] := Array.eq_empty_of_size_eq_zero h0
                subst hcs'
                obtain ⟨w', hr, hK, hS⟩ := mapUpdate_ok (P := P) hty ht rfl hkt hk (l := .agg []) (y := ()) (v := .agg #[]) rfl hx
                exact fin0 (by simp only [execOp, Sem.run_bind, hm, hv, hr, Result.andThen_ok, Sem.run_pure]) hK hS
              · exact hx.elim
            · exact hx.elim
          · exact hx.elim
        · exact hx.elim
      · exact hx.elim
    · exact hx.elim
  | insert t m k v =>
    have hx := withV_ok he (withV_ok he (withV_ok he hs))
    clear hs
    split at hx
    · rename_i kt vt z s b lk ht
      split at hx
      · rename_i kc ti r hkt hvt hm
        split at hx
        · rename_i n hk
          unfold nm at hx
          split at hx
          rotate_left
          · exact hx.elim
          rename_i r
          split at hx
          · rename_i kd hl
            split at hx
            · rename_i y hy
              obtain ⟨w', hr, hK, hS⟩ := mapUpdate_ok (P := P) hty ht rfl hkt hk (l := .leaf kd) (y := y) (dec_enc hy) hx
              exact fin0 (by simp only [execOp, Sem.run_bind, hm, hr, Result.andThen_ok, Sem.run_pure]) hK hS
            · exact hx.elim
          · rename_i hl
            split at hx
            · rename_i cs' hv
              split at hx
              · rename_i hb
                have h0 := Nat.eq_of_beq_eq_true hb
                have hcs' : cs' = #[] := Array.eq_empty_of_size_eq_zero h0
                subst hcs'
                obtain ⟨w', hr, hK, hS⟩ := mapUpdate_ok (P := P) hty ht rfl hkt hk (l := .agg []) (y := ()) (v := .agg #[]) rfl hx
                exact fin0 (by simp only [execOp, Sem.run_bind, hm, hv, hr, Result.andThen_ok, Sem.run_pure]) hK hS
              · exact hx.elim
            · exact hx.elim
          · exact hx.elim
        · exact hx.elim
      · exact hx.elim
    · exact hx.elim
  | range t x =>
    have hx := withV_ok he hs
    split at hx
    · rename_i kt vt z s b lk r ht hr
      cases r with
      | none => exact hx.elim
      | some r =>
        obtain ⟨es, clk, hm, hK⟩ := hx
        have d1 := und_run (P := P) (hty _ _ ht) w
        have hgo := getObj_run (P := P) hm (by simp)
        refine fin (v := .pointer (some ⟨w.heap.size, 0, none⟩)) (w' := w.alloc (.mapIter (some r) clk #[] clk)) ?_ hK (same_alloc _ _)
        simp [execOp, Instr.range, hr, d1, hgo, run_newObj_alloc]
    · exact hx.elim
  | next x str =>
    simp only [eff] at hs
    cases str with
    | true => exact hs.elim
    | false =>
      have hx := withV_ok he hs
      split at hx
      · rename_i b hv
        obtain ⟨r, since, seen, c0, es, clk, h1, h2, h3, h4, h5, h6⟩ := hx
        have hrun := run_next_at (P := P) w ty b r since c0 seen es clk h1 h2 h3 h4
        rcases hrun with ⟨hl, hr⟩ | ⟨e1, hm, w1, hw, hr⟩
        · exact fin (v := .tuple #[.bool false]) (w' := w) (by simp [execOp, hv, hr]) (h5 (by simpa using hl)) (.refl w)
        · refine fin (v := .tuple #[.bool true, e1.key, e1.val]) (w' := ChangeMaps.setBlock w1 b (.mapIter (some r) since (seen.push e1.born) clk)) (by simp [execOp, hv, hr]) ?_ ?_
          · have := h6 e1 hm
            rcases hw with rfl | rfl <;> exact this
          · rcases hw with rfl | rfl <;> exact ⟨rfl, rfl, rfl⟩
      · exact hx.elim
  | entry x =>
    have hx := withV_ok he hs
    split at hx
    · rename_i b hv
      obtain ⟨r, since, seen, es, clk, e1, h1, h2, h3, h4, hK⟩ := hx
      have hr := run_entry_at (P := P) w b r since seen es clk e1 h1 h2 h3 h4
      exact fin (v := .tuple #[e1.key, e1.val]) (w' := w) (by simp [execOp, hv, hr]) hK (.refl w)
    · exact hx.elim
  | convert src dst' x =>
    have hx := withV_ok he hs
    clear hs
    split at hx
    · rename_i es z s b lk el z' s' b' lk' aa l c hsrc hdst hbeq hxx
      have := Nat.eq_of_beq_eq_true hbeq
      subst this
      rw [hsrc] at hdst
      cases hdst
      split at hx
      · rename_i z2 s2 b2 lk2 hu8
        have h1 := (hty _ _ hsrc).und
        have h3 := (hty _ _ hu8).und
        unfold frzS at hx
        split at hx
        · rename_i cs' e' f' hblk
          refine fin (v := .slice (some aa) l c) (w' := w.freeze ⟨aa.block, cs'.size, none⟩ 1) ?_ ?_ ?_
          · simp [execOp, hxx, convert, run_underlying h1, run_underlying h3, markStringish, shape, Sem.run, World.shape?, hblk, freeze]
          · have : (w.freeze ⟨aa.block, cs'.size, none⟩ 1).heap = mrk w.heap ⟨aa.block, cs'.size, none⟩ 1 := rfl
            rw [this]; exact hx
          · exact ⟨rfl, rfl, rfl⟩
        · rename_i hnb
          refine fin (v := .slice (some aa) l c) (w' := w) ?_ hx (.refl w)
          have hsh : w.shape? aa.block = none := by
            unfold World.shape?
            split
            · rename_i c1 e1 f1 hb; exact absurd hb (hnb _ _ _)
            · rfl
          simp [execOp, hxx, convert, run_underlying h1, run_underlying h3, markStringish, shape, Sem.run, hsh]
      · exact hx.elim
    · rename_i z s b lk el z' s' b' lk' str hsrc hdst hbeq hxx
      split at hx
      · rename_i z2 s2 b2 lk2 hu8
        have h1 := (hty _ _ hsrc).und
        have h2 := (hty _ _ hdst).und
        have h3 := (hty _ _ hu8).und
        have hcn : str.size ≤ grownCap w str.size 0 el := by simp [grownCap, Question.cut]
        have hr := run_bytes_of_string (P := P) w src dst' el str h1 h2 h3
        refine fin (v := .slice (some ⟨w.heap.size, 0, none⟩) str.size (grownCap w str.size 0 el)) (w' := w.drew.alloc (.cells (bytesRow str (grownCap w str.size 0 el)) el ((bytesRow str (grownCap w str.size 0 el)).size, (bytesRow str (grownCap w str.size 0 el)).size + 1))) ?_ (hx _ hcn) ⟨rfl, rfl, rfl⟩
        simp only [execOp, Sem.run_bind, hxx, hr, Result.andThen_ok, Sem.run_pure]
      · exact hx.elim
    · exact hx.elim
  | call c =>
    obtain ⟨callee, args, ts⟩ := c
    cases callee with
    | invoke r n =>
      have hx := withV_ok he hs
      split at hx
      · rename_i t v vs hv hvs
        split at hx
        · rename_i f hf
          split at hx
          · rename_i p hp
            have hargs : args.map a.eval = vs.toArray := by
              apply Array.ext'
              simp [evL_ok he _ _ hvs]
            have hm := (hty.mt _ _ _ hf).call v vs.toArray w
            have he' : (execOp a.eval ⟨dst, .call ⟨.invoke r n, args, ts⟩, ty, pos, aft, g⟩).run P w = (callFunc f (v :: vs).toArray).run P w := by
              have : (v :: vs).toArray = #[v] ++ vs.toArray := by apply Array.ext'; simp
              rw [this, ← hm]
              simp [execOp, resolve, invoke, hargs, hv]
            rcases hcs.at f p hp with hS | hS
            · have hr := he'.trans (hS.enters (v :: vs).toArray w)
              exact .inr (.inr (.inl ⟨f, (v :: vs).toArray, hr, hS.calls (v :: vs) w K hx⟩))
            · obtain ⟨v', w', hr, hK, hSm⟩ := hS.gives (v :: vs) w K hx
              exact fin (he'.trans hr) hK hSm
          · exact hx.elim
        · exact hx.elim
      · exact hx.elim
    | value f =>
      cases f with
      | func f =>
        simp only [eff] at hs
        split at hs
        · rename_i vs p hvs hp
          have hargs : args.map a.eval = vs.toArray := by
            apply Array.ext'
            simp [evL_ok he _ _ hvs]
          have he : (execOp a.eval ⟨dst, .call ⟨.value (.func f), args, ts⟩, ty, pos, aft, g⟩).run P w = (callFunc f vs.toArray).run P w := by
            simp [execOp, resolve, Act.eval, Deferred.ofValue, invoke]
            rw [hargs]
          rcases hcs.at f p hp with hS | hS
          rotate_left
          · obtain ⟨v, w', hr, hK, hSm⟩ := hS.gives vs w K hs
            exact fin (he.trans hr) hK hSm
          have hr := he.trans (hS.enters vs.toArray w)
          exact .inr (.inr (.inl ⟨f, vs.toArray, hr, hS.calls vs w K hs⟩))
        · exact hs.elim
      | tmp t =>
        simp only [eff] at hs
        split at hs
        · rename_i f first cap vs ht hvs
          split at hs
          · rename_i p hp
            have hargs : args.map a.eval = vs.toArray := by
              apply Array.ext'
              simp [evL_ok he _ _ hvs]
            have hev : a.eval (.tmp t) = .func (.func f) first cap := by simp [Act.eval, he t _ ht]
            have harr : (first.toList ++ vs ++ cap.toList).toArray = first ++ vs.toArray ++ cap := by apply Array.ext'; simp
            have he : (execOp a.eval ⟨dst, .call ⟨.value (.tmp t), args, ts⟩, ty, pos, aft, g⟩).run P w = (callFunc f (first ++ vs.toArray ++ cap)).run P w := by
              simp only [execOp, resolve, hev, hargs]
              simp [Deferred.ofValue, invoke]
            rcases hcs.at f p hp with hS | hS
            rotate_left
            · obtain ⟨v, w', hr, hK, hSm⟩ := hS.gives _ w K hs
              rw [harr] at hr
              exact fin (he.trans hr) hK hSm
            have hr := he.trans (hS.enters _ w)
            have hc := hS.calls _ w K hs
            rw [harr] at hc
            exact .inr (.inr (.inl ⟨f, _, hr, hc⟩))
          · exact hs.elim
        · rename_i l first cap vs ht hvs
          split at hs
          · rename_i p hp
            have hargs : args.map a.eval = vs.toArray := by
              apply Array.ext'
              simp [evL_ok he _ _ hvs]
            have hev : a.eval (.tmp t) = .func (.yield l) first cap := by simp [Act.eval, he t _ ht]
            have harr : (first.toList ++ vs).toArray = first ++ vs.toArray := by apply Array.ext'; simp
            have he : (execOp a.eval ⟨dst, .call ⟨.value (.tmp t), args, ts⟩, ty, pos, aft, g⟩).run P w = (Instr.yield l (first ++ vs.toArray)).run P w := by
              simp only [execOp, resolve, hev, hargs]
              simp [Deferred.ofValue, invoke]
            obtain ⟨fn, tmps, assign, body, hy, hR⟩ := hcs.ys l p hp _ w K hs
            rw [harr] at hy
            exact .inr (.inr (.inr ⟨l, fn, tmps, assign, body, he.trans hy, hR⟩))
          · exact hs.elim
        · exact hs.elim
      | _ => exact (by simp only [eff] at hs : False).elim
    | builtin b =>
      simp only [eff] at hs
      split at hs
      · rename_i b1 l1 c1 x t u r hx hts
        have hargs : args.map a.eval = #[.slice b1 l1 c1, x] := by
          apply Array.ext'
          simp [evL_ok he _ _ hx]
        have hg0 : ts[0]? = some t := by rw [← Array.getElem?_toList, hts]; rfl
        have hg1 : ts[1]? = some u := by rw [← Array.getElem?_toList, hts]; rfl
        split at hs
        · rename_i el z s b lk du z2 s2 b2 lk2 ht hu
          split at hs
          · rename_i ti hti
            split at hs
            · rename_i eu b2' l2 c2
              obtain ⟨r, w', hr, hK, hS⟩ := append_ok (P := P) (ty := ty) (s := ⟨b1, l1, c1⟩) (x := ⟨b2', l2, c2⟩) hty hg0 hg1 ht rfl hu rfl hti hs
              simp only [Sl.v] at hr
              exact fin (by simp only [execOp, resolve, Sem.run_bind, Sem.run_pure, Result.andThen_ok, invoke, builtin, hargs, hr]) hK hS
            · rename_i ku n
              obtain ⟨r, w', hr, hK, hS⟩ := append0_ok (P := P) (ty := ty) (s := ⟨b1, l1, c1⟩) hty hg0 hg1 ht rfl hu rfl hti hs
              simp only [Sl.v] at hr
              exact fin (by simp only [execOp, resolve, Sem.run_bind, Sem.run_pure, Result.andThen_ok, invoke, builtin, hargs, hr]) hK hS
            · exact hs.elim
          · exact hs.elim
        · exact hs.elim
      · rename_i b1 l1 c1 b2 l2 c2 t r hx hts
        have hargs : args.map a.eval = #[.slice b1 l1 c1, .slice b2 l2 c2] := by
          apply Array.ext'
          simp [evL_ok he _ _ hx]
        have hg0 : ts[0]? = some t := by rw [← Array.getElem?_toList, hts]; rfl
        split at hs
        · rename_i el z s b lk ht
          split at hs
          · rename_i ti hti
            obtain ⟨r, w', hr, hK, hS⟩ := copy_ok (P := P) (ty := ty) (d := ⟨b1, l1, c1⟩) (x := ⟨b2, l2, c2⟩) hty hg0 ht rfl hti hs
            simp only [Sl.v] at hr
            exact fin (by simp only [execOp, resolve, Sem.run_bind, Sem.run_pure, Result.andThen_ok, invoke, builtin, hargs, hr]) hK hS
          · exact hs.elim
        · exact hs.elim
      · rename_i x t r hx hts
        have hargs : args.map a.eval = #[x] := by
          apply Array.ext'
          simp [evL_ok he _ _ hx]
        have hg0 : ts[0]? = some t := by rw [← Array.getElem?_toList, hts]; rfl
        split at hs
        · rename_i el z s b lk ht
          split at hs
          · rename_i ti b1 l1 c1 hti
            obtain ⟨w', hr, hK, hS⟩ := clear_ok (P := P) (ty := ty) (d := ⟨b1, l1, c1⟩) hty hg0 ht rfl hti hs
            simp only [Sl.v] at hr
            exact fin (by simp only [execOp, resolve, Sem.run_bind, Sem.run_pure, Result.andThen_ok, invoke, builtin, hargs, hr]) hK hS
          · exact hs.elim
        · rename_i kt vt z s b lk ht
          split at hs
          · rename_i r'
            unfold nm at hs
            split at hs
            rotate_left
            · exact hs.elim
            rename_i r'
            obtain ⟨es, clk, hm, hK⟩ := hs
            have hgo := getObj_run (P := P) hm (by simp)
            have hset : ∀ o, (setObj r' o).run P w = .ok () { w with heap := w.heap.setIfInBounds r' o } := by
              intro o
              simp only [setObj, Sem.run, hm]
            have d1 := und_run (hty _ _ ht) w
            have hr : (Builtin.clear_ ts ty #[.map (some r')]).run P w = .ok (.tuple #[]) { w with heap := w.heap.setIfInBounds r' (.map #[] clk) } := by
              simp [Builtin.clear_, hg0, d1, hgo, hset]
            exact fin (v := .tuple #[]) (w' := { w with heap := w.heap.setIfInBounds r' (.map #[] clk) }) (by simp only [execOp, resolve, Sem.run_bind, Sem.run_pure, Result.andThen_ok, invoke, builtin, hargs, hr]) hK ⟨rfl, rfl, rfl⟩
          · exact hs.elim
        · exact hs.elim
      · rename_i r kv t rs hx hts
        have hargs : args.map a.eval = #[.map r, kv] := by
          apply Array.ext'
          simp [evL_ok he _ _ hx]
        have hg0 : ts[0]? = some t := by rw [← Array.getElem?_toList, hts]; rfl
        split at hs
        · rename_i kt vt z s b lk ht
          split at hs
          · rename_i kc ti hkc hti
            split at hs
            · rename_i key hkey
              unfold nm at hs
              split at hs
              rotate_left
              · exact hs.elim
              rename_i r'
              obtain ⟨w', hr, hK, hS⟩ := mapDelete_ok (P := P) (ty := ty) hty hg0 ht rfl hkc hkey hs
              exact fin (by simp only [execOp, resolve, Sem.run_bind, Sem.run_pure, Result.andThen_ok, invoke, builtin, hargs, hr]) hK hS
            · exact hs.elim
          · exact hs.elim
        · exact hs.elim
      · exact hs.elim
  | _ => exact (by simp only [eff] at hs : False).elim

theorem eff_ok {ro : Option Nat} {n : Nat} (hty : TysOk P tys) (hcs : CallsOk P cs) (he : Ok e a) {o : Oper} {K : Value → Mem → Prop} (hs : eff tys cs e w.heap o.op K)
    {next : Act → World → Prop} {Q : Exit → Act → World → Prop} (hn : ∀ v w', K v w'.heap → Same w w' → next (a.put o.dst v) w') : o.wpIn (Fw ro) n P a w next Q :=
  gives_wp (fun c hc => by rw [hc] at hs; simp only [eff] at hs) (eff_gives (dst := o.dst) (ty := o.type) (pos := o.pos) (aft := o.after) (g := o.guard) hty hcs he hs) hn
end
end Go.TS
