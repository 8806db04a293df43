/- The layer 'TS': soundness, the operations that write, make memory, or call. -/
import Derived.Test.YtmcpegdmnogkbaaGreatDoorTsS3
set_option linter.unusedSimpArgs false
set_option linter.unusedVariables false
namespace Go.TS
open Go

/-- the world but for its heap and its count of draws -/
structure Same (w w' : World) : Prop where
  tape : w'.tape = w.tape
  os : w'.os = w.os
  output : w'.output = w.output
theorem Same.refl (w : World) : Same w w := ⟨rfl, rfl, rfl⟩
theorem Same.trans {w1 w2 w3 : World} (h : Same w1 w2) (h' : Same w2 w3) : Same w1 w3 := ⟨h'.1.trans h.1, h'.2.trans h.2, h'.3.trans h.3⟩

def Ret (K : Value → Mem → Prop) (w : World) (e : Ending) (w' : World) : Prop := ∃ v, e = .returned v ∧ K v w'.heap ∧ Same w w'
structure Sound (P : Program) (f : FuncId) (p : CallP) : Prop where
  enters : ∀ args w, (callFunc f args).run P w = .ok (.enter f args) w
  calls : ∀ vs w K, p vs w.heap K → Calls P f vs.toArray w (Ret K w)
/-- a function without a body -/
structure SoundX (P : Program) (f : FuncId) (p : CallP) : Prop where
  gives : ∀ vs w K, p vs w.heap K → ∃ v w', (callFunc f vs.toArray).run P w = .ok (.value v) w' ∧ K v w'.heap ∧ Same w w'
/-- a loop's body, as the function that it is ranged over calls it -/
def SoundY (P : Program) (l : Nat) (p : CallP) : Prop := ∀ vs w K, p vs w.heap K →
  ∃ fn tmps assign body, (Instr.yield l vs.toArray).run P w = .ok (.round l fn tmps assign body) w ∧ RoundIn Fence.wide 0 P l fn tmps assign body w (Ret K w)
def YldOk (P : Program) (ys : Nat → Option CallP) : Prop := ∀ l p, ys l = some p → SoundY P l p
structure CallsOk (P : Program) (cs : Calls') : Prop where
  fn : ∀ ys, YldOk P ys → ∀ f p, cs.fn ys f = some p → Sound P f p ∨ SoundX P f p
  it : ∀ ys, YldOk P ys → ∀ f p, cs.it ys f = some p → Sound P f p
  ys : YldOk P cs.ys
theorem CallsOk.at {P : Program} {cs : Calls'} (h : CallsOk P cs) : ∀ f p, callOf cs f = some p → Sound P f p ∨ SoundX P f p := h.fn _ h.ys

section
variable {P : Program} {tys : Tys} {cs : Calls'} {e : Env} {a : Act} {w : World}

theorem rd_wr_same {h : Mem} {x : Addr} {v u : Value} (hu : rd h x = some u) : rd (wr h x v) x = some v := by
  unfold rd at hu
  split at hu
  · rename_i c el fr hb
    split at hu
    · cases hu
    · rename_i hs
      have hlt : x.off < c.size := by
        rcases Nat.lt_or_ge x.off c.size with h | h
        · exact h
        · simp [Array.getElem?_eq_none h] at hu
      have hbl : x.block < h.size := by
        rcases Nat.lt_or_ge x.block h.size with h' | h'
        · exact h'
        · simp [Array.getElem?_eq_none h'] at hb
      simp only [rd, wr, Array.getElem?_modify, hb]
      simp [hs, hlt]
  · cases hu

theorem store_run {x : Addr} {v u : Value} (h1 : oneC v = true) (h2 : rd w.heap x = some u) (h3 : fz w.heap x = false) :
    (store x v).run P w = .ok () (w.setCell x v) := by
  rw [← rd_heap] at h2
  rw [← fz_heap] at h3
  cases v <;> first | (cases h1; done) | simp [store, Sem.run, h2, h3]

theorem same_set (w : World) (x : Addr) (v : Value) : Same w (w.setCell x v) := ⟨rfl, rfl, rfl⟩
theorem same_alloc (w : World) (o : Obj) : Same w (w.alloc o) := ⟨rfl, rfl, rfl⟩

theorem size_wr (h : Mem) (x : Addr) (v : Value) : (wr h x v).size = h.size := by simp [wr]

theorem rd_wr_other {h : Mem} {x y : Addr} {v : Value} (hne : x ≠ y) : rd (wr h x v) y = rd h y := by
  have hw : (⟨h, fun _ _ => 0, 0, default, #[]⟩ : World).setCell x v = ⟨wr h x v, fun _ _ => 0, 0, default, #[]⟩ := rfl
  have := World.cell?_setCell_other (w := ⟨h, fun _ _ => 0, 0, default, #[]⟩) (a := x) (b := y) (v := v) hne
  rw [hw] at this
  exact this
theorem fz_wr {h : Mem} {x y : Addr} {v : Value} : fz (wr h x v) y = fz h y := by
  have hw : (⟨h, fun _ _ => 0, 0, default, #[]⟩ : World).setCell x v = ⟨wr h x v, fun _ _ => 0, 0, default, #[]⟩ := rfl
  have := World.frozen?_setCell (w := ⟨h, fun _ _ => 0, 0, default, #[]⟩) (a := x) (b := y) (v := v)
  rw [hw] at this
  exact this
theorem rd_wr_some {h : Mem} {x y : Addr} {v : Value} (hx : ∃ u, rd h y = some u) : ∃ u, rd (wr h x v) y = some u := by
  by_cases hne : x = y
  · subst hne; obtain ⟨u, hu⟩ := hx; exact ⟨v, rd_wr_same hu⟩
  · rw [rd_wr_other hne]; exact hx

theorem storeCells_run (x : Addr) : ∀ (vs : List Value) (i : Nat) (w : World), one vs → (∀ j, j < vs.length → (∃ u, rd w.heap (x.add (i + j)) = some u) ∧ fz w.heap (x.add (i + j)) = false) →
    ∃ w', (storeCells x vs i).run P w = .ok () w' ∧ w'.heap = wrs w.heap x i vs ∧ Same w w' := by
  intro vs
  induction vs with
  | nil => intro i w _ _; exact ⟨w, by simp [storeCells], rfl, .refl w⟩
  | cons v vs ih =>
    intro i w h1 hr
    obtain ⟨⟨u, hu⟩, hf⟩ := hr 0 (by simp)
    simp only [Nat.add_zero] at hu hf
    obtain ⟨w', hw', hh, hs⟩ := ih (i + 1) (w.setCell (x.add i) v) (fun y hy => h1 y (by simp [hy])) (fun j hj => by
      obtain ⟨hc, hf⟩ := hr (j + 1) (by simpa using hj)
      rw [show i + (j + 1) = i + 1 + j by omega] at hc hf
      rw [wr_heap]
      exact ⟨rd_wr_some hc, by rw [fz_wr]; exact hf⟩)
    refine ⟨w', ?_, by rw [hh, wr_heap]; rfl, (same_set w _ _).trans hs⟩
    simp only [storeCells, Sem.run_bind, store_run (h1 v (by simp)) hu hf, Result.andThen_ok, hw']

theorem stL_ok (x : Addr) : ∀ (vs : List Value) (i : Nat) (w : World) (K : Mem → Prop), stL vs x i w.heap K →
    ∃ w', (storeCells x vs i).run P w = .ok () w' ∧ K w'.heap ∧ Same w w' := by
  intro vs
  induction vs with
  | nil => intro i w K h; exact ⟨w, by simp [storeCells], h, .refl w⟩
  | cons v vs ih =>
    intro i w K h
    simp only [stL] at h
    split at h
    · rename_i h1
      obtain ⟨⟨u, hu⟩, hf, h⟩ := h
      obtain ⟨w', hw', hK, hs⟩ := ih (i + 1) (w.setCell (x.add i) v) K (by rw [wr_heap]; exact h)
      refine ⟨w', ?_, hK, (same_set w _ _).trans hs⟩
      simp only [storeCells, Sem.run_bind, store_run h1 hu hf, Result.andThen_ok, hw']
    · exact h.elim

theorem stA_ok {vs : List Value} {x : Addr} {K : Mem → Prop} (h : stA vs x w.heap K) : ∃ w', (storeCells x vs).run P w = .ok () w' ∧ K w'.heap ∧ Same w w' := by
  obtain ⟨hr, h1, hK⟩ := h
  obtain ⟨w', hw, hh, hs⟩ := storeCells_run (P := P) x vs 0 w h1 (fun j hj => by simpa using hr j hj)
  exact ⟨w', hw, by rw [hh]; exact hK, hs⟩

theorem slCells_run {s : Sl} {n sz : Nat} {vs : List Value} (h : slCells w.heap s (n * sz) vs) : (Builtin.firstCells sz n s.v).run P w = .ok vs.toArray w := by
  unfold slCells at h
  unfold Sl.v
  cases hs : s.base with
  | none => rw [hs] at h; subst h; simp [Builtin.firstCells]
  | some x =>
    rw [hs] at h
    obtain ⟨hn, hc⟩ := h
    have := loadCells_run (P := P) hc
    rw [hn] at this
    simpa [Builtin.firstCells] using this

theorem nextcap_le (n c : Nat) (h : c < n) : Builtin.nextslicecap n c ≤ 4 * n := by
  have grow : ∀ (r c : Nat), 256 ≤ n → c ≤ 4 * n → Builtin.growBy n r c ≤ 4 * n := by
    intro r
    induction r with
    | zero => intro c _ hc; simpa [Builtin.growBy] using hc
    | succ r ih =>
      intro c hn hc
      simp only [Builtin.growBy]
      split
      · exact hc
      · exact ih _ hn (by omega)
  unfold Builtin.nextslicecap
  split
  · omega
  · split
    · omega
    · exact grow 4 c (by omega) (by omega)

theorem new_run (o : Obj) (w : World) : (newObj o).run P w = .ok w.heap.size (w.alloc o) := by simp [newObj, Sem.run]
theorem same_drawn (w : World) (n : Nat) : Same w { w with drawn := n } := ⟨rfl, rfl, rfl⟩
end
end Go.TS
