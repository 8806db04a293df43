/- The layer 'TS': soundness, append, copy, clear, make. -/
import Derived.IntWalk
import Derived.Test.YtmcpegdmnogkbaaGreatDoorTsS4
set_option linter.unusedSimpArgs false
set_option linter.unusedVariables false
namespace Go.TS
open Go

section
variable {P : Program} {tys : Tys} {cs : Calls'} {e : Env} {a : Act} {w : World}

theorem askRoom_run (b : Nat) (w : World) : (askRoom b).run P w = .ok () w := by
  unfold askRoom
  split <;> simp [mark, Sem.run]

theorem append_ok (hty : TysOk P tys) {ts : Array TypeId} {ty t u el : TypeId} {tt ut ti : TI} {s x : Sl} (ht0 : ts[0]? = some t) (ht1 : ts[1]? = some u)
    (h1 : tyOf tys t = some tt) (h1' : tt.desc = .slice el) (h2 : tyOf tys u = some ut) {eu : TypeId} (h2' : ut.desc = .slice eu) (h3 : tyOf tys el = some ti)
    {K : Sl → Mem → Prop} (h : app el ti.zero.cells ti.size ti.bytes s x w.heap K) :
    ∃ r w', (Builtin.append_ ts ty #[s.v, x.v]).run P w = .ok r.v w' ∧ K r w'.heap ∧ Same w w' := by
  obtain ⟨xs, hx, hone, hin, hout⟩ := h
  have d1 := und_run (hty _ _ h1)
  have d2 := und_run (hty _ _ h2)
  rw [h1'] at d1
  rw [h2'] at d2
  have hsz := size_run (hty _ _ h3)
  obtain ⟨inf, hinf, hz, his, hib⟩ := info_some (hty _ _ h3)
  have hti : ∀ w, (typeInfo el).run P w = .ok inf w := fun w => run_typeInfo w hinf
  have hxs : ∀ w' : World, w'.heap = w.heap → (Builtin.firstCells ti.size x.len x.v).run P w' = .ok xs.toArray w' := fun w' hw => slCells_run (by rw [hw]; exact hx)
  have hlen : ∀ w, (Builtin.lenOf x.v).run P w = .ok x.len w := fun w => by simp [Builtin.lenOf, Sl.v]
  by_cases hc : s.len + x.len ≤ s.cap
  · have hin := hin hc
    cases hb : s.base with
    | none =>
      rw [hb] at hin
      refine ⟨⟨none, s.len + x.len, s.cap⟩, w, ?_, hin, .refl w⟩
      simp only [Builtin.append_, Sl.v, hb]
      simp [ht0, ht1, d1, d2, hsz]
      have := hlen w
      simp only [Sl.v] at this
      simp [this, hc]
      have := hxs w rfl
      simp only [Sl.v] at this
      simp [this]
    | some b =>
      rw [hb] at hin
      obtain ⟨hroom, hK⟩ := hin
      obtain ⟨w', hw', hK, hs⟩ := stA_ok (P := P) (w := w) (K := K ⟨some b, s.len + x.len, s.cap⟩) ⟨hroom, hone, hK⟩
      refine ⟨⟨some b, s.len + x.len, s.cap⟩, w', ?_, hK, hs⟩
      simp only [Builtin.append_, Sl.v, hb]
      simp [ht0, ht1, d1, d2, hsz]
      have := hlen w
      simp only [Sl.v] at this
      simp [this, hc]
      have := hxs w rfl
      simp only [Sl.v] at this
      simp [this, hw']
  · have hc' : s.cap < s.len + x.len := by omega
    obtain ⟨hm, hm2, old, hold, hK⟩ := hout hc'
    have hcn : s.len + x.len ≤ (Question.appendCap (s.len + x.len) s.cap el).cut (w.tape w.drawn (.appendCap (s.len + x.len) s.cap el)) := by simp [Question.cut]
    generalize hcc : (Question.appendCap (s.len + x.len) s.cap el).cut (w.tape w.drawn (.appendCap (s.len + x.len) s.cap el)) = c at hcn
    refine ⟨⟨some ⟨w.heap.size, 0, none⟩, s.len + x.len, c⟩, w.drew.alloc (.cells (old.toArray ++ xs.toArray ++ Builtin.zeroCells ti.zero.cells (c - (s.len + x.len))) el), ?_, hK c hcn, ?_⟩
    · simp only [Builtin.append_, Sl.v]
      simp [ht0, ht1, d1, d2, hsz]
      have hl := hlen w
      simp only [Sl.v] at hl
      have hcap := nextcap_le _ _ hc'
      have hb1 : Builtin.nextslicecap (s.len + x.len) s.cap * ti.bytes ≤ 4 * 2 ^ 40 := by
        calc Builtin.nextslicecap (s.len + x.len) s.cap * ti.bytes ≤ 4 * (s.len + x.len) * ti.bytes := Nat.mul_le_mul_right _ hcap
          _ = 4 * ((s.len + x.len) * ti.bytes) := by rw [Nat.mul_assoc]
          _ ≤ 4 * 2 ^ 40 := Nat.mul_le_mul_left _ hm2
      have hb2 : ¬ (281474976710656 < Builtin.nextslicecap (s.len + x.len) s.cap * ti.bytes) := by omega
      have hb3 : ¬ ((9223372036854775807 : Int) < (s.len : Int) + (x.len : Int)) := by omega
      have hx' := hxs w.drew rfl
      have hold' : (Builtin.firstCells ti.size s.len s.v).run P w.drew = .ok old.toArray w.drew := slCells_run (w := w.drew) hold
      simp only [Sl.v] at hx' hold'
      simp [hl, hc, hti, hib, hb2, hb3, hcc, Question.forced, askRoom_run, hold', hx', zero_run (hty _ _ h3), newRow, new_run]
      congr 2
      apply Array.ext'
      simp
    · exact ⟨rfl, rfl, rfl⟩

theorem append0_ok (hty : TysOk P tys) {ts : Array TypeId} {ty t u el : TypeId} {tt ut ti : TI} {s : Sl} {n : Int} (ht0 : ts[0]? = some t) (ht1 : ts[1]? = some u)
    (h1 : tyOf tys t = some tt) (h1' : tt.desc = .slice el) (h2 : tyOf tys u = some ut) {k : IntKind} (h2' : ut.desc = .int k) (h3 : tyOf tys el = some ti)
    {K : Sl → Mem → Prop} (h : app0 el ti.zero.cells ti.size ti.bytes s n w.heap K) :
    ∃ r w', (Builtin.append_ ts ty #[s.v, .int .i64 n]).run P w = .ok r.v w' ∧ K r w'.heap ∧ Same w w' := by
  obtain ⟨hn0, hnb, hn40, hone, hszp, hin, hout⟩ := h
  have d1 := und_run (hty _ _ h1)
  have d2 := und_run (hty _ _ h2)
  rw [h1'] at d1
  rw [h2'] at d2
  have hsz := size_run (hty _ _ h3)
  obtain ⟨inf, hinf, hz, his, hib⟩ := info_some (hty _ _ h3)
  have hti : ∀ w, (typeInfo el).run P w = .ok inf w := fun w => run_typeInfo w hinf
  have hzr := fun w => zero_run (hty _ _ h3) w
  have hwrap : IntKind.i64.wrap n = n := by
    have h40 : (2 : Int) ^ 40 = 1099511627776 := by decide
    rw [h40] at hn40
    exact IntWalk.i64_in _ ⟨by omega, by omega⟩
  have hneg : ¬ n < 0 := by omega
  have hbig : ¬ (281474976710656 < n * (ti.bytes : Int)) := by
    have e1 : n * (ti.bytes : Int) = ((n.toNat * ti.bytes : Nat) : Int) := by rw [Int.natCast_mul, Int.toNat_of_nonneg hn0]
    rw [e1]
    have : n.toNat * ti.bytes ≤ 1099511627776 := hnb
    omega
  have hzc : ∀ w : World, (if n.toNat * ti.size = 0 then (pure #[] : Sem (Array Value)) else do pure (Builtin.zeroCells (← zeroValue el).cells n.toNat)).run P w = .ok (Builtin.zeroCells ti.zero.cells n.toNat) w := by
    intro w
    split
    · rename_i h0
      have : n.toNat = 0 := by
        rcases Nat.mul_eq_zero.1 h0 with h | h
        · exact h
        · omega
      simp [this, Builtin.zeroCells]
    · simp [hzr]
  have hz0 : n.toNat * ti.size = 0 → Builtin.zeroCells ti.zero.cells n.toNat = #[] := by
    intro h0
    have : n.toNat = 0 := by
      rcases Nat.mul_eq_zero.1 h0 with h | h
      · exact h
      · omega
    simp [this, Builtin.zeroCells]
  by_cases hc : s.len + n.toNat ≤ s.cap
  · have hin := hin hc
    cases hb : s.base with
    | none =>
      rw [hb] at hin
      refine ⟨⟨none, s.len + n.toNat, s.cap⟩, w, ?_, hin, .refl w⟩
      simp only [Builtin.append_, Sl.v, hb]
      simp only [ht0, ht1, d1, d2, hsz, Sem.run_bind, Result.andThen_ok, List.getElem?_toArray, List.getElem?_cons_zero, List.getElem?_cons_succ, asInt, asIntOf, Sem.run_pure, if_true, hwrap, hneg, Sem.run_ite, if_false, hti, hib]
      simp [hbig, hc]
      intro _
      simp [hzr]
    | some b =>
      rw [hb] at hin
      obtain ⟨hroom, hK⟩ := hin
      obtain ⟨w', hw', hK, hs⟩ := stA_ok (P := P) (w := w) (K := K ⟨some b, s.len + n.toNat, s.cap⟩) ⟨by rw [Array.length_toList]; exact hroom, hone, hK⟩
      refine ⟨⟨some b, s.len + n.toNat, s.cap⟩, w', ?_, hK, hs⟩
      simp only [Builtin.append_, Sl.v, hb]
      simp only [ht0, ht1, d1, d2, hsz, Sem.run_bind, Result.andThen_ok, List.getElem?_toArray, List.getElem?_cons_zero, List.getElem?_cons_succ, asInt, asIntOf, Sem.run_pure, if_true, hwrap, hneg, Sem.run_ite, if_false, hti, hib]
      by_cases h0 : n.toNat * ti.size = 0
      · rw [hz0 h0] at hw'
        simp [hbig, hc, h0]
        simp at hw'
        simp [hw']
      · simp [hbig, hc, h0, hzr, hw']
  · have hc' : s.cap < s.len + n.toNat := by omega
    obtain ⟨hm, hm2, old, hold, hK⟩ := hout hc'
    have hcn : s.len + n.toNat ≤ (Question.appendCap (s.len + n.toNat) s.cap el).cut (w.tape w.drawn (.appendCap (s.len + n.toNat) s.cap el)) := by simp [Question.cut]
    generalize hcc : (Question.appendCap (s.len + n.toNat) s.cap el).cut (w.tape w.drawn (.appendCap (s.len + n.toNat) s.cap el)) = c at hcn
    refine ⟨⟨some ⟨w.heap.size, 0, none⟩, s.len + n.toNat, c⟩, w.drew.alloc (.cells (old.toArray ++ Builtin.zeroCells ti.zero.cells n.toNat ++ Builtin.zeroCells ti.zero.cells (c - (s.len + n.toNat))) el), ?_, hK c hcn, ⟨rfl, rfl, rfl⟩⟩
    have hcap := nextcap_le _ _ hc'
    have hb1 : Builtin.nextslicecap (s.len + n.toNat) s.cap * ti.bytes ≤ 4 * 2 ^ 40 := by
      calc Builtin.nextslicecap (s.len + n.toNat) s.cap * ti.bytes ≤ 4 * (s.len + n.toNat) * ti.bytes := Nat.mul_le_mul_right _ hcap
        _ = 4 * ((s.len + n.toNat) * ti.bytes) := by rw [Nat.mul_assoc]
        _ ≤ 4 * 2 ^ 40 := Nat.mul_le_mul_left _ hm2
    have hb2 : ¬ (281474976710656 < Builtin.nextslicecap (s.len + n.toNat) s.cap * ti.bytes) := by omega
    have hb3 : ¬ (IntKind.i64.max < ((s.len + n.toNat : Nat) : Int)) := by rw [IntKind.max_i64]; omega
    have hold' : (Builtin.firstCells ti.size s.len s.v).run P w.drew = .ok old.toArray w.drew := slCells_run (w := w.drew) hold
    simp only [Sl.v] at hold'
    simp only [Builtin.append_, Sl.v]
    simp only [ht0, ht1, d1, d2, hsz, Sem.run_bind, Result.andThen_ok, List.getElem?_toArray, List.getElem?_cons_zero, List.getElem?_cons_succ, asInt, asIntOf, Sem.run_pure, if_true, hwrap, hneg, Sem.run_ite, if_false, hti, hib]
    simp only [gt_iff_lt, hc, if_false, hb3, false_and]
    by_cases h0 : n.toNat * ti.size = 0
    · simp [hbig, h0, hb2, hcc, Question.forced, askRoom_run, hold', hzr, newRow, new_run, hz0 h0]
    · simp [hbig, h0, hb2, hcc, Question.forced, askRoom_run, hold', hzr, newRow, new_run]

theorem copy_ok (hty : TysOk P tys) {ts : Array TypeId} {ty t el : TypeId} {tt ti : TI} {d x : Sl} (ht0 : ts[0]? = some t)
    (h1 : tyOf tys t = some tt) (h1' : tt.desc = .slice el) (h3 : tyOf tys el = some ti) {K : Nat → Mem → Prop} (h : cpy ti.size d x w.heap K) :
    ∃ r w', (Builtin.copy_ ts ty #[d.v, x.v]).run P w = .ok (.int .i64 (r : Nat)) w' ∧ K r w'.heap ∧ Same w w' := by
  obtain ⟨xs, hx, hone, hin⟩ := h
  have d1 := und_run (hty _ _ h1) w
  rw [h1'] at d1
  have hsz := size_run (hty _ _ h3) w
  have hxs : (Builtin.firstCells ti.size (min x.len d.len) x.v).run P w = .ok xs.toArray w := slCells_run hx
  have hlen : (Builtin.lenOf x.v).run P w = .ok x.len w := by simp [Builtin.lenOf, Sl.v]
  simp only [Sl.v] at hxs hlen
  cases hb : d.base with
  | none =>
    rw [hb] at hin
    refine ⟨_, w, ?_, hin, .refl w⟩
    simp only [Builtin.copy_, Sl.v, hb]
    simp [ht0, d1, hsz, hlen, hxs, goInt]
  | some b =>
    rw [hb] at hin
    obtain ⟨hroom, hK⟩ := hin
    obtain ⟨w', hw', hK, hs⟩ := stA_ok (P := P) (w := w) (K := K (min x.len d.len)) ⟨hroom, hone, hK⟩
    refine ⟨_, w', ?_, hK, hs⟩
    simp only [Builtin.copy_, Sl.v, hb]
    simp [ht0, d1, hsz, hlen, hxs, hw', goInt]

theorem clear_ok (hty : TysOk P tys) {ts : Array TypeId} {ty t el : TypeId} {tt ti : TI} {d : Sl} (ht0 : ts[0]? = some t)
    (h1 : tyOf tys t = some tt) (h1' : tt.desc = .slice el) (h3 : tyOf tys el = some ti) {K : Mem → Prop} (h : clr ti.zero.cells d w.heap K) :
    ∃ w', (Builtin.clear_ ts ty #[d.v]).run P w = .ok (.tuple #[]) w' ∧ K w'.heap ∧ Same w w' := by
  have d1 := und_run (hty _ _ h1) w
  rw [h1'] at d1
  have hzr := zero_run (hty _ _ h3) w
  unfold clr at h
  cases hb : d.base with
  | none =>
    rw [hb] at h
    exact ⟨w, by simp only [Builtin.clear_, Sl.v, hb]; simp [ht0, d1], h, .refl w⟩
  | some b =>
    rw [hb] at h
    obtain ⟨hone, hroom, hK⟩ := h
    obtain ⟨w', hw', hK, hs⟩ := stA_ok (P := P) (w := w) (K := K) ⟨by rw [Array.length_toList]; exact hroom, hone, hK⟩
    refine ⟨w', ?_, hK, hs⟩
    cases hl : d.len with
    | zero =>
      rw [hl] at hw'
      simp [Builtin.zeroCells, storeCells] at hw'
      subst hw'
      simp only [Builtin.clear_, Sl.v, hb, hl]
      simp [ht0, d1]
    | succ n =>
      rw [hl] at hw'
      simp only [Builtin.clear_, Sl.v, hb, hl]
      simp [ht0, d1, hzr, hw']

theorem makeSlice_ok (hty : TysOk P tys) {t el : TypeId} {tt ti : TI} {k k' : IntKind} {n c : Int}
    (h1 : tyOf tys t = some tt) (h1' : tt.desc = .slice el) (h3 : tyOf tys el = some ti) {K : Sl → Mem → Prop} (h : mks el ti.zero.cells ti.size ti.bytes n c w.heap K) :
    ∃ r w', (Instr.makeSlice t (.int k n) (.int k' c)).run P w = .ok r.v w' ∧ K r w'.heap ∧ Same w w' := by
  obtain ⟨h0, hnc, hc40, hcb, hszp, hK⟩ := h
  have d1 := und_run (hty _ _ h1) w
  rw [h1'] at d1
  have hsz := size_run (hty _ _ h3) w
  obtain ⟨inf, hinf, hz, his, hib⟩ := info_some (hty _ _ h3)
  have hti : (typeInfo el).run P w = .ok inf w := run_typeInfo w hinf
  have hzr := zero_run (hty _ _ h3) w
  have h40 : (2 : Int) ^ 40 = 1099511627776 := by decide
  rw [h40] at hc40 hcb
  have w1 : IntKind.i64.wrap n = n := IntWalk.i64_in _ ⟨by omega, by omega⟩
  have w2 : IntKind.i64.wrap c = c := IntWalk.i64_in _ ⟨by omega, by omega⟩
  have c1 : ¬ c < 0 := by omega
  have c2 : ¬ ((ti.bytes : Int) * c > 2 ^ 48) := by
    have : (2 : Int) ^ 48 = 281474976710656 := by decide
    omega
  have c3 : ¬ n < 0 := by omega
  have c4 : ¬ n > c := by omega
  refine ⟨_, _, ?_, hK, same_alloc _ _⟩
  simp only [Instr.makeSlice]
  simp only [d1, Sem.run_bind, Result.andThen_ok, asInt, asIntOf, Sem.run_pure, hti, hib, w1, w2, c1, c2, c3, c4, decide_false, Bool.or_false, Bool.false_eq_true, if_false, askRoom_run, hsz, Sem.run_ite, hzr]
  by_cases hz0 : c.toNat * ti.size = 0
  · simp [hz0, newRow, new_run, Sl.v, zeros, Array.range_zero']
  · simp [hz0, newRow, new_run, Sl.v, zeros]
end
end Go.TS
