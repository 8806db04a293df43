/- The layer 'XS': memory: what the words over abstract memory say of memory. -/
import Derived.Test.YtmcpegdmnogkbaaGreatDoorXsRel3
set_option linter.unusedSimpArgs false
set_option linter.unusedVariables false
namespace Go.XS
open Go Go.TS

section
variable {γ : G} {φ : Fx} {H : Am} {h : Mem} {ρ : Type} {r : ρ}

theorem lt_of_get {h : Mem} {B : Nat} {ob : Obj} (hb : h[B]? = some ob) : B < h.size := by
  rcases Nat.lt_or_ge B h.size with h' | h'
  · exact h'
  · simp [Array.getElem?_eq_none h'] at hb

/-- what is known of loops' records is not said of blocks of another kind -/
theorem HR.stat_ne (hR : HR γ φ H h) {b : P} {o : AO} {B N : Nat} (ho : H.get b = some o) (hg : γ b = some (B, N)) (hk : isLoopA o = false) : φ.top.stat B = none := by
  cases hs : φ.top.stat B with
  | none => rfl
  | some s =>
    obtain ⟨st, pd, h1⟩ := hR.stat B s hs
    obtain ⟨B', N', ob, g1, g2, g3⟩ := hR.obj b o ho
    rw [hg] at g1; cases g1
    rw [h1] at g2; cases g2
    cases o with
    | loop a => cases hk
    | _ => simp only [OR] at g3
/-- a block that is laid anew -/
theorem HR.upd0 (hR : HR γ φ H h) {b : P} {o o' : AO} {B N : Nat} {ob' : Obj} {h' : Mem} (ho : H.get b = some o) (hg : γ b = some (B, N))
    (hs : h'.size = h.size) (hB : h'[B]? = some ob') (hO : OR γ o' N ob') (hE : ∀ B', B' ≠ B → h'[B']? = h[B']?) (hst : ∀ s, φ.top.stat B = some s → ∃ st pd, ob' = .loop { s with state := st, pending := pd }) : HR γ φ (H.put b o') h' := by
  have hgp : ∀ q, (H.put b o').get q = if q = b then some o' else H.get q := fun q => get_put _ _ _ _
  refine ⟨?_, fun c hc => hR.band c hc, fun c hc => hR.free c hc, ?_, ?_, ?_, hR.le0, fun B' s hs' => ?_⟩
  rotate_left 4
  · obtain ⟨st, pd, h1⟩ := hR.stat B' s hs'
    by_cases hh : B' = B
    · subst hh
      obtain ⟨st, pd, e⟩ := hst s hs'
      exact ⟨st, pd, by rw [hB, e]⟩
    · exact ⟨st, pd, by rw [hE B' hh]; exact h1⟩
  · intro c x hc; rw [hs]; exact hR.dom c x hc
  · intro c oc hc
    rw [hgp] at hc
    split at hc
    · rename_i e; cases hc; subst e; exact ⟨B, N, ob', hg, hB, hO⟩
    · rename_i e
      obtain ⟨B', N', ob, h1, h2, h3⟩ := hR.obj c oc hc
      refine ⟨B', N', ob, h1, ?_, h3⟩
      rw [hE B' ?_]; exact h2
      intro hh; subst hh
      obtain ⟨B0, N0, ob0, g1, g2, g3⟩ := hR.obj b o ho
      rw [hg] at g1; cases g1
      exact e (hR.inj c b oc o _ _ _ hc ho h1 hg)
  · intro c c' oc oc' B' N1 N2 h1 h2 h3 h4
    have live : ∀ q oq, (H.put b o').get q = some oq → ∃ oq', H.get q = some oq' := by
      intro q oq hq
      rw [hgp] at hq
      split at hq
      · rename_i e; subst e; exact ⟨o, ho⟩
      · exact ⟨_, hq⟩
    obtain ⟨a1, k1⟩ := live _ _ h1
    obtain ⟨a2, k2⟩ := live _ _ h2
    exact hR.inj c c' a1 a2 B' N1 N2 k1 k2 h3 h4
  · intro B' ob hφ
    obtain ⟨g1, g2⟩ := hR.far B' ob hφ
    refine ⟨?_, ?_⟩
    · rw [hE B' ?_]; exact g1
      intro hh; subst hh; exact g2 b o N ho hg
    · intro c oc N' hc
      rw [hgp] at hc
      split at hc
      · rename_i e; subst e; exact g2 _ o N' ho
      · exact g2 c oc N' hc

theorem HR.upd (hR : HR γ φ H h) {b : P} {o o' : AO} {B N : Nat} {ob' : Obj} {h' : Mem} (ho : H.get b = some o) (hg : γ b = some (B, N))
    (hs : h'.size = h.size) (hB : h'[B]? = some ob') (hO : OR γ o' N ob') (hE : ∀ B', B' ≠ B → h'[B']? = h[B']?) (hk : isLoopA o = false := by rfl) : HR γ φ (H.put b o') h' :=
  hR.upd0 ho hg hs hB hO hE fun s hs => by rw [hR.stat_ne ho hg hk] at hs; cases hs
/-- a block that is given up and turned -/
theorem HR.kill (hR : HR γ φ H h) {b : P} {o : AO} {B N : Nat} {h' : Mem} (ho : H.get b = some o) (hg : γ b = some (B, N))
    (hs : h'.size = h.size) (hE : ∀ B', B' ≠ B → h'[B']? = h[B']?) (hk : isLoopA o = false := by rfl) : HR γ φ (H.del b) h' := by
  have hst := hR.stat_ne ho hg hk
  have hgp : ∀ q o', (H.del b).get q = some o' → H.get q = some o' ∧ q ≠ b := by
    intro q o' hq
    have : (H.del b).get q = if q = b then none else H.get q := get_del _ _ _
    rw [this] at hq
    split at hq
    · cases hq
    · rename_i e; exact ⟨hq, e⟩
  refine ⟨fun c x hc => by rw [hs]; exact hR.dom c x hc, fun c hc => hR.band c hc, fun c hc => hR.free c hc, fun c oc hc => ?_,
    fun c c' oc oc' B N1 N2 h1 h2 h3 h4 => hR.inj c c' oc oc' B N1 N2 (hgp _ _ h1).1 (hgp _ _ h2).1 h3 h4, fun B' ob hφ => ?_, hR.le0, fun B' s hs' => ?_⟩
  · obtain ⟨h1, h2⟩ := hgp _ _ hc
    obtain ⟨B', N', ob, g1, g2, g3⟩ := hR.obj c oc h1
    refine ⟨B', N', ob, g1, ?_, g3⟩
    rw [hE B' ?_]; exact g2
    intro hh; subst hh
    exact h2 (hR.inj c b oc o _ _ _ h1 ho g1 hg)
  · obtain ⟨g1, g2⟩ := hR.far B' ob hφ
    refine ⟨?_, fun c oc N hc => g2 c oc N (hgp _ _ hc).1⟩
    rw [hE B' ?_]; exact g1
    intro hh; subst hh; exact g2 b o N ho hg
  · obtain ⟨st, pd, h1⟩ := hR.stat B' s hs'
    refine ⟨st, pd, ?_⟩
    rw [hE B' ?_]; exact h1
    intro hh; subst hh; rw [hst] at hs'; cases hs'
/-- a loop's record -/
theorem HR.loopO (hR : HR γ φ H h) {b : P} {a : ALoop} {B N : Nat} {s : Loop} (ho : H.get b = some (.loop a)) (hg : γ b = some (B, N)) (hs : φ.top.stat B = some s) :
    h[B]? = some (.loop { s with state := a.st, pending := a.pend.map jpC }) := by
  obtain ⟨st, pd, h1⟩ := hR.stat B s hs
  obtain ⟨B', N', ob, g1, g2, g3⟩ := hR.obj b _ ho
  rw [hg] at g1; cases g1
  rw [h1] at g2; cases g2
  simp only [OR] at g3
  obtain ⟨e1, e2⟩ := g3
  rw [h1, e1, e2]
theorem HR.updL (hR : HR γ φ H h) {b : P} {a : ALoop} (a' : ALoop) {B N : Nat} {s : Loop} (ho : H.get b = some (.loop a)) (hg : γ b = some (B, N)) (hs : φ.top.stat B = some s) :
    HR γ φ (H.put b (.loop a')) (h.setIfInBounds B (.loop { s with state := a'.st, pending := a'.pend.map jpC })) := by
  have hB := lt_of_get (hR.loopO ho hg hs)
  refine hR.upd0 ho hg (by simp) (ob' := .loop { s with state := a'.st, pending := a'.pend.map jpC }) (by simp [hB]) (by simp [OR]) (fun B' hne => Array.getElem?_setIfInBounds_ne (Ne.symm hne)) ?_
  intro s' hs'
  rw [hs] at hs'; cases hs'
  exact ⟨_, _, rfl⟩
theorem HR.toTop (hR : HR γ φ H h) (τ : Tp) (h0 : G.le τ.g0 γ) (h1 : ∀ B s, τ.stat B = some s → ∃ st pd, h[B]? = some (.loop { s with state := st, pending := pd })) : HR γ ⟨φ.far, φ.free, τ⟩ H h :=
  ⟨hR.dom, hR.band, hR.free, hR.obj, hR.inj, hR.far, h0, h1⟩
/-- a new block -/
def ext (γ : G) (b : P) (x : Nat × Nat) : G := fun q => if q = b then some x else γ q
theorem ext_same (γ : G) (b : P) (x : Nat × Nat) : ext γ b x b = some x := if_pos rfl
theorem HR.le_ext (hR : HR γ φ H h) (hn : inB H H.nx) (x : Nat × Nat) : G.le γ (ext γ H.nx x) := by
  intro b y hb
  unfold ext
  rw [if_neg ?_]; exact hb
  intro e; subst e
  rw [hR.band _ hn] at hb; cases hb
theorem inB_new {H : Am} {o : AO} {b : P} (h : inB (H.new o) b) : inB H b ∧ b ≠ H.nx := by
  obtain ⟨h1, h2⟩ := h
  have h1' : H.nx.succ.num ≤ b.num := h1
  rw [num_succ] at h1'
  refine ⟨⟨by omega, h2⟩, fun e => by subst e; omega⟩
theorem HR.new (hR : HR γ φ H h) (hn : inB H H.nx) {o : AO} {N : Nat} {ob : Obj} (hO : OR (ext γ H.nx (h.size, N)) o N ob) :
    HR (ext γ H.nx (h.size, N)) φ (H.new o) (h.push ob) := by
  have hle := hR.le_ext hn (h.size, N)
  have hgp : ∀ q, (H.new o).get q = if q = H.nx then some o else H.get q := fun q => get_put _ _ _ _
  have hext : ∀ q, q ≠ H.nx → ext γ H.nx (h.size, N) q = γ q := fun q hq => if_neg hq
  refine ⟨?_, ?_, ?_, ?_, ?_, ?_, hR.le0.trans hle, fun B' s hs' => ?_⟩
  rotate_left 6
  · obtain ⟨st, pd, h1⟩ := hR.stat B' s hs'
    exact ⟨st, pd, by rw [Array.getElem?_push_lt (lt_of_get h1), ← h1, Array.getElem?_eq_getElem (lt_of_get h1)]⟩
  · intro c x hc
    simp only [Array.size_push]
    by_cases e : c = H.nx
    · subst e; rw [ext_same] at hc; cases hc; simp
    · rw [hext c e] at hc
      have := hR.dom c x hc
      omega
  · intro c hc
    obtain ⟨h1, h2⟩ := inB_new hc
    rw [hext c h2]; exact hR.band c h1
  · intro c hc
    obtain ⟨h1, h2⟩ := hR.free c hc
    have hne : c ≠ H.nx := fun e => h2 (e ▸ hn)
    exact ⟨by rw [hext c hne]; exact h1, fun h3 => h2 (inB_new h3).1⟩
  · intro c oc hc
    rw [hgp] at hc
    split at hc
    · rename_i e; cases hc; subst e; exact ⟨h.size, N, ob, ext_same _ _ _, by simp, hO⟩
    · rename_i e
      obtain ⟨B', N', ob', h1, h2, h3⟩ := hR.obj c oc hc
      refine ⟨B', N', ob', (hext c e).trans h1, ?_, h3.mono hle⟩
      rw [Array.getElem?_push_lt (lt_of_get h2), ← h2, Array.getElem?_eq_getElem (lt_of_get h2)]
  · intro c c' oc oc' B' N1 N2 h1 h2 h3 h4
    rw [hgp] at h1 h2
    split at h1 <;> split at h2
    · rename_i e e'; rw [e, e']
    · rename_i e e'
      subst e; rw [ext_same] at h3; cases h3
      rw [hext c' e'] at h4
      have := hR.dom _ _ h4; simp at this
    · rename_i e e'
      subst e'; rw [ext_same] at h4; cases h4
      rw [hext c e] at h3
      have := hR.dom _ _ h3; simp at this
    · rename_i e e'
      rw [hext c e] at h3; rw [hext c' e'] at h4
      exact hR.inj c c' oc oc' B' N1 N2 h1 h2 h3 h4
  · intro B' ob' hφ
    obtain ⟨g1, g2⟩ := hR.far B' ob' hφ
    have hlt := lt_of_get g1
    refine ⟨?_, ?_⟩
    · rw [Array.getElem?_push_lt hlt, ← g1, Array.getElem?_eq_getElem hlt]
    · intro c oc N' hc hg
      rw [hgp] at hc
      split at hc
      · rename_i e; subst e; rw [ext_same] at hg; cases hg; omega
      · rename_i e
        rw [hext c e] at hg
        exact g2 c oc N' hc hg
theorem HR.del (hR : HR γ φ H h) (b : P) : HR γ φ (H.del b) h := by
  have hgp : ∀ q o, (H.del b).get q = some o → H.get q = some o := by
    intro q o hq
    have : (H.del b).get q = if q = b then none else H.get q := get_del _ _ _
    rw [this] at hq
    split at hq
    · cases hq
    · exact hq
  exact ⟨hR.dom, fun c hc => hR.band c hc, fun c hc => hR.free c hc, fun c oc hc => hR.obj c oc (hgp c oc hc), fun c c' oc oc' B N1 N2 h1 h2 h3 h4 => hR.inj c c' oc oc' B N1 N2 (hgp _ _ h1) (hgp _ _ h2) h3 h4,
    fun B ob hφ => ⟨(hR.far B ob hφ).1, fun c oc N hc => (hR.far B ob hφ).2 c oc N (hgp _ _ hc)⟩, hR.le0, hR.stat⟩
/-- a block gets another name -/
theorem HR.move (hR : HR γ φ H h) (hn : inB H H.nx) {b : P} {o o' : AO} {B N : Nat} {ob' : Obj} {h' : Mem} (ho : H.get b = some o) (hg : γ b = some (B, N))
    (hs : h'.size = h.size) (hB : h'[B]? = some ob') (hO : OR (ext γ H.nx (B, N)) o' N ob') (hE : ∀ B', B' ≠ B → h'[B']? = h[B']?) (hk : isLoopA o = false := by rfl) :
    HR (ext γ H.nx (B, N)) φ ((H.del b).new o') h' := by
  have hst := hR.stat_ne ho hg hk
  have hle := hR.le_ext hn (B, N)
  have hgp : ∀ q, ((H.del b).new o').get q = if q = H.nx then some o' else if q = b then none else H.get q := by
    intro q
    have h1 : ((H.del b).new o').get q = if q = H.nx then some o' else (H.del b).t.get q := get_put _ _ _ _
    have h2 : (H.del b).t.get q = if q = b then none else H.t.get q := get_del _ _ _
    rw [h1, h2]; rfl
  have hext : ∀ q, q ≠ H.nx → ext γ H.nx (B, N) q = γ q := fun q hq => if_neg hq
  have hBl : B < h.size := hR.dom _ _ hg
  have hn' : ∀ c, inB ((H.del b).new o') c → inB H c ∧ c ≠ H.nx := fun c hc => inB_new (H := H.del b) hc
  refine ⟨?_, ?_, ?_, ?_, ?_, ?_, hR.le0.trans hle, fun B' s hs' => ?_⟩
  rotate_left 6
  · obtain ⟨st, pd, h1⟩ := hR.stat B' s hs'
    refine ⟨st, pd, ?_⟩
    rw [hE B' ?_]; exact h1
    intro hh; subst hh; rw [hst] at hs'; cases hs'
  · intro c x hc
    rw [hs]
    by_cases e : c = H.nx
    · subst e; rw [ext_same] at hc; cases hc; exact hBl
    · rw [hext c e] at hc
      exact hR.dom c x hc
  · intro c hc
    obtain ⟨h1, h2⟩ := hn' c hc
    rw [hext c h2]; exact hR.band c h1
  · intro c hc
    obtain ⟨h1, h2⟩ := hR.free c hc
    have hne : c ≠ H.nx := fun e => h2 (e ▸ hn)
    exact ⟨by rw [hext c hne]; exact h1, fun h3 => h2 (hn' c h3).1⟩
  · intro c oc hc
    rw [hgp] at hc
    split at hc
    · rename_i e; cases hc; subst e; exact ⟨B, N, ob', ext_same _ _ _, hB, hO⟩
    · rename_i e
      split at hc
      · cases hc
      · rename_i e2
        obtain ⟨B', N', ob1, h1, h2, h3⟩ := hR.obj c oc hc
        refine ⟨B', N', ob1, (hext c e).trans h1, ?_, h3.mono hle⟩
        rw [hE B' ?_]; exact h2
        intro hh; subst hh
        exact e2 (hR.inj c b oc o _ _ _ hc ho h1 hg)
  · intro c c' oc oc' B' N1 N2 h1 h2 h3 h4
    have key : ∀ q oq N1, q ≠ H.nx → (if q = b then none else H.get q) = some oq → ext γ H.nx (B, N) q = some (B, N1) → False := by
      intro q oq N1 hq h5 h6
      split at h5
      · cases h5
      · rename_i e2
        rw [hext q hq] at h6
        exact e2 (hR.inj q b oq o _ _ _ h5 ho h6 hg)
    rw [hgp] at h1 h2
    split at h1 <;> split at h2
    · rename_i e e'; rw [e, e']
    · rename_i e e'
      subst e; rw [ext_same] at h3; cases h3
      exact (key c' oc' N2 e' h2 h4).elim
    · rename_i e e'
      subst e'; rw [ext_same] at h4; cases h4
      exact (key c oc N1 e h1 h3).elim
    · rename_i e e'
      split at h1
      · cases h1
      · split at h2
        · cases h2
        · rw [hext c e] at h3; rw [hext c' e'] at h4
          exact hR.inj c c' oc oc' B' N1 N2 h1 h2 h3 h4
  · intro B' ob1 hφ
    obtain ⟨g1, g2⟩ := hR.far B' ob1 hφ
    have hne : B' ≠ B := fun hh => by subst hh; exact g2 b o N ho hg
    refine ⟨by rw [hE B' hne]; exact g1, ?_⟩
    intro c oc N' hc hg'
    rw [hgp] at hc
    split at hc
    · rename_i e; subst e; rw [ext_same] at hg'; cases hg'; exact hne rfl
    · rename_i e
      split at hc
      · cases hc
      · rw [hext c e] at hg'
        exact g2 c oc N' hc hg'

-- cells
theorem cellsOf_ok {b : P} {K : Cs → Option ρ} (hR : HR γ φ H h) (hx : cellsOf H b K = some r) :
    ∃ c B N cs el fr, H.get b = some (.cells c) ∧ γ b = some (B, N) ∧ h[B]? = some (.cells cs el fr) ∧ OR γ (.cells c) N (.cells cs el fr) ∧ K c = some r := by
  unfold cellsOf at hx
  split at hx
  · rename_i c hc
    obtain ⟨B, N, ob, h1, h2, h3⟩ := hR.obj b _ hc
    cases ob with
    | cells cs el fr => exact ⟨c, B, N, cs, el, fr, hc, h1, h2, h3, hx⟩
    | _ => simp only [OR] at h3
  · cases hx
theorem rd_at {B o : Nat} {cs : Array Value} {el : TypeId} {fr : Nat × Nat} (hB : h[B]? = some (.cells cs el fr)) : rd h ⟨B, o, none⟩ = cs[o]? := by
  simp [rd, hB]
theorem fz_at {B o N : Nat} {cs : Array Value} {el : TypeId} {fr : Nat × Nat} (hB : h[B]? = some (.cells cs el fr)) (hf : fr.1 = fr.2 ∨ N ≤ fr.1) (ho : o < N) : fz h ⟨B, o, none⟩ = false := by
  simp only [fz, hB, Bool.and_eq_false_iff, decide_eq_false_iff_not]
  omega
theorem add_at (B o i : Nat) : (⟨B, o, none⟩ : Addr).add i = ⟨B, o + i, none⟩ := by
  unfold Addr.add
  split
  · rename_i e; subst e; rfl
  · rfl
theorem cs_get {c : Cs} {N : Nat} {cs : Array Value} {el : TypeId} {fr : Nat × Nat} (hO : OR γ (.cells c) N (.cells cs el fr)) {i : Nat} {a : AV} (hi : c.list[i]? = some a) :
    ∃ v, cs[i]? = some v ∧ VR γ a v := by
  obtain ⟨_, _, _, _, h5⟩ := hO
  obtain ⟨v, hv, hr⟩ := h5.get hi
  rw [List.getElem?_take] at hv
  split at hv
  · exact ⟨v, by simpa using hv, hr⟩
  · cases hv
theorem ld_ok {k : Kind} {a : Ad} {A : Addr} {K : aty k → Option ρ} {K' : k.ty → Prop} (hR : HR γ φ H h) (ha : AdR γ a A) (hx : ld k a H K = some r)
    (hK : ∀ x y, KR γ k x y → K x = some r → K' y) : TS.ld k A h K' := by
  obtain ⟨c, B, N, cs, el, fr, h1, h2, h3, h4, hx⟩ := cellsOf_ok hR hx
  obtain ⟨B', N', hg, rfl⟩ := ha
  rw [h2] at hg; cases hg
  split at hx
  · rename_i v hv
    rw [Cs.nth_eq] at hv
    obtain ⟨u, hu, hr⟩ := cs_get h4 hv
    split at hx
    · rename_i x hd
      obtain ⟨y, rfl, hk⟩ := KR.dec hr hd
      exact ⟨y, by rw [rd_at h3]; exact hu, hK x y hk hx⟩
    · cases hx
  · cases hx
theorem AdR.add {a : Ad} {A : Addr} (n : Nat) (h : AdR γ a A) : AdR γ (a.add n) (A.add n) := by
  obtain ⟨B, N, hg, rfl⟩ := h
  exact ⟨B, N, hg, add_at _ _ _⟩
theorem ldL_ok : ∀ (ks : List Kind) {a : Ad} {A : Addr} (i : Nat) {K : List AV → Option ρ} {K' : List Value → Prop} (_ : HR γ φ H h) (_ : AdR γ a A) (_ : ldL ks a i H K = some r)
    (_ : ∀ x y, VRL γ x y → K x = some r → K' y), TS.ldL ks A i h K' := by
  intro ks
  induction ks with
  | nil => intro a A i K K' _ _ hx hK; exact hK [] [] VRL.nil hx
  | cons k ks ih =>
    intro a A i K K' hR ha hx hK
    have hx' : ld k (a.add i) H (fun x => ldL ks a (Nat.succ i) H fun vs => K (aenc k x :: vs)) = some r := hx
    refine ld_ok (K' := fun x => TS.ldL ks A (i + 1) h fun vs => K' (k.enc x :: vs)) hR (ha.add i) hx' fun x y hk hx2 => ?_
    exact ih (i + 1) hR ha hx2 fun xs ys hks hx3 => hK _ _ (VRL.cons hk.enc hks) hx3
theorem cs_sub {c d : Cs} {N o n : Nat} {cs : Array Value} {el : TypeId} {fr : Nat × Nat} (hO : OR γ (.cells c) N (.cells cs el fr)) (hs : c.sub o n = some d) :
    CsOk d ∧ d.list.length = n ∧ o + n ≤ N ∧ VRL γ d.list ((cs.toList.drop o).take n) := by
  obtain ⟨h1, h2, h3, h4, h5⟩ := hO
  obtain ⟨g1, g2, g3⟩ := Cs.sub_ok hs
  refine ⟨g3, by rw [g2]; simp; omega, by omega, ?_⟩
  rw [g2]
  have := (h5.drop o).take n
  rw [List.drop_take, List.take_take] at this
  rwa [show min n (c.list.length - o) = n by omega] at this
theorem cells_at {B o : Nat} {cs : Array Value} {el : TypeId} {fr : Nat × Nat} (hB : h[B]? = some (.cells cs el fr)) {n : Nat} : cellsAt h ⟨B, o, none⟩ ((cs.toList.drop o).take n) := by
  intro i v hv
  rw [add_at, rd_at hB]
  rw [List.getElem?_take] at hv
  split at hv
  · rw [List.getElem?_drop] at hv; simpa using hv
  · cases hv
theorem aggC_ok {d : Cs} {vs : List Value} (hd : CsOk d) (h : VRL γ d.list vs) : VR γ (aggC d) (.agg vs.toArray) := by
  cases d with
  | l xs => simp only [aggC, VR]; exact ⟨vs, h, rfl⟩
  | b n len =>
    simp only [aggC, VR]
    refine ⟨hd, ?_⟩
    rw [VRL.func _ _ _ h (VRL.bytes n len)]
theorem ldA_ok {n : Nat} {a : Ad} {A : Addr} {K : AV → Option ρ} {K' : Array Value → Prop} (hR : HR γ φ H h) (ha : AdR γ a A) (hx : ldA n a H K = some r)
    (hK : ∀ x y, VR γ x (.agg y) → K x = some r → K' y) : TS.ldA n A h K' := by
  obtain ⟨c, B, N, cs, el, fr, h1, h2, h3, h4, hx⟩ := cellsOf_ok hR hx
  obtain ⟨B', N', hg, rfl⟩ := ha
  rw [h2] at hg; cases hg
  split at hx
  · rename_i d hd
    obtain ⟨g1, g2, g3, g4⟩ := cs_sub h4 hd
    refine ⟨((cs.toList.drop a.o).take n).toArray, ?_, ?_, hK _ _ (aggC_ok g1 g4) hx⟩
    · rw [List.size_toArray, ← g4.len, g2]
    · intro i v hv
      exact cells_at h3 i v (by simpa using hv)
  · cases hx
theorem ldT_ok' {l : Lk} {a : Ad} {A : Addr} {K : AV → Option ρ} {K' : Value → Prop} (hR : HR γ φ H h) (ha : AdR γ a A) (hx : ldT l a H K = some r)
    (hK : ∀ x y, VR γ x y → K x = some r → K' y) : TS.ldT l A h K' := by
  cases l with
  | leaf k =>
    by_cases hk : k = .any
    · subst hk
      have hx' : ld .any a H (fun x : AV => match oneA x with | true => K x | false => none) = some r := hx
      obtain ⟨y, hy, ho, hK'⟩ := ld_ok (K' := fun y : Value => oneC y = true ∧ K' y) hR ha hx' fun x y hk hx => by
        have hv : VR γ x y := hk.enc
        split at hx
        · rename_i ho
          exact ⟨one_of hv ho, hK _ _ hv hx⟩
        · cases hx
      exact ⟨y, hy, ho, hK'⟩
    · have hx' : ld k a H (fun x => K (aenc k x)) = some r := by
        revert hx
        cases k <;> first | exact id | exact absurd rfl hk
      rw [TS.ldT_leaf hk]
      exact ld_ok hR ha hx' fun x y hk hx => hK _ _ hk.enc hx
  | agg ks => exact ldL_ok ks 0 hR ha hx fun x y hk hx => hK _ _ (by simp only [VR]; exact ⟨y, hk, rfl⟩) hx
  | arr n => exact ldA_ok hR ha hx fun x y hk hx => hK _ _ hk hx
/-- cells that are written -/
theorem wrs_at : ∀ (vs : List Value) (h : Mem) (B o i : Nat) (cs : Array Value) (el : TypeId) (fr : Nat × Nat), h[B]? = some (.cells cs el fr) → o + i + vs.length ≤ cs.size →
    ∃ cs', (wrs h ⟨B, o, none⟩ i vs)[B]? = some (.cells cs' el fr) ∧ cs'.size = cs.size ∧ cs'.toList = cs.toList.take (o + i) ++ (vs ++ cs.toList.drop (o + i + vs.length)) ∧
      (wrs h ⟨B, o, none⟩ i vs).size = h.size ∧ ∀ B', B' ≠ B → (wrs h ⟨B, o, none⟩ i vs)[B']? = h[B']? := by
  intro vs
  induction vs with
  | nil => intro h B o i cs el fr hB _; exact ⟨cs, hB, rfl, by simp, rfl, fun _ _ => rfl⟩
  | cons v vs ih =>
    intro h B o i cs el fr hB hl
    simp only [List.length_cons] at hl
    have hBl := lt_of_get hB
    have hw : (wr h ((⟨B, o, none⟩ : Addr).add i) v)[B]? = some (.cells (cs.setIfInBounds (o + i) v) el fr) := by
      rw [add_at]
      simp only [wr, Array.getElem?_modify, if_true, hB, Option.map_some]
      simp
    have hsz : (wr h ((⟨B, o, none⟩ : Addr).add i) v).size = h.size := size_wr _ _ _
    have hot : ∀ B', B' ≠ B → (wr h ((⟨B, o, none⟩ : Addr).add i) v)[B']? = h[B']? := by
      intro B' hne
      rw [add_at]
      simp only [wr, Array.getElem?_modify]
      rw [if_neg (Ne.symm hne)]
    obtain ⟨cs', g1, g2, g3, g4, g5⟩ := ih (wr h ((⟨B, o, none⟩ : Addr).add i) v) B o (i + 1) _ el fr hw (by simp; omega)
    refine ⟨cs', g1, by simpa using g2, ?_, g4.trans hsz, fun B' hne => (g5 B' hne).trans (hot B' hne)⟩
    rw [g3]
    have e1 : (cs.setIfInBounds (o + i) v).toList = cs.toList.set (o + i) v := by simp
    rw [e1]
    have hlt : o + i < cs.toList.length := by simp; omega
    rw [List.set_eq_take_append_cons_drop, if_pos hlt]
    have hlen : (cs.toList.take (o + i)).length = o + i := by simp; omega
    have a1 : (cs.toList.take (o + i) ++ v :: cs.toList.drop (o + i + 1)).take (o + (i + 1)) = cs.toList.take (o + i) ++ [v] := by
      rw [List.take_append, hlen, List.take_of_length_le (by omega), show o + (i + 1) - (o + i) = 1 by omega]; rfl
    have a2 : (cs.toList.take (o + i) ++ v :: cs.toList.drop (o + i + 1)).drop (o + (i + 1) + vs.length) = cs.toList.drop (o + i + (vs.length + 1)) := by
      rw [List.drop_append, hlen, List.drop_eq_nil_of_le (by omega), show o + (i + 1) + vs.length - (o + i) = vs.length + 1 by omega]
      simp only [List.drop_succ_cons, List.drop_drop, List.nil_append]
      congr 1; omega
    rw [a1, a2]; simp
theorem room_at {B o n N : Nat} {cs : Array Value} {el : TypeId} {fr : Nat × Nat} (hB : h[B]? = some (.cells cs el fr)) (hN : cs.size = N) (hf : fr.1 = fr.2 ∨ N ≤ fr.1) (ho : o + n ≤ N) : room h ⟨B, o, none⟩ n := by
  intro i hi
  rw [add_at]
  refine ⟨⟨cs[o + i]'(by omega), ?_⟩, fz_at hB hf (by omega)⟩
  rw [rd_at hB]; simp
theorem cs_put {c d c' : Cs} {N o : Nat} {cs : Array Value} {el : TypeId} {fr : Nat × Nat} {vs : List Value} {B : Nat} (hO : OR γ (.cells c) N (.cells cs el fr)) (hB : h[B]? = some (.cells cs el fr))
    (hd : CsOk d) (hv : VRL γ d.list vs) (hp : c.put o d = some c') :
    room h ⟨B, o, none⟩ vs.length ∧ one vs ∧ ∃ cs', (wrs h ⟨B, o, none⟩ 0 vs)[B]? = some (.cells cs' el fr) ∧ OR γ (.cells c') N (.cells cs' el fr) ∧
      (wrs h ⟨B, o, none⟩ 0 vs).size = h.size ∧ ∀ B', B' ≠ B → (wrs h ⟨B, o, none⟩ 0 vs)[B']? = h[B']? := by
  obtain ⟨h1, h2, h3, h4, h5⟩ := hO
  obtain ⟨g1, g2, g3, g4⟩ := Cs.put_ok h2 hd hp
  have hl : d.list.length = vs.length := hv.len
  refine ⟨room_at hB h1 h4.old (by omega), one_ofL hv g3, ?_⟩
  obtain ⟨cs', k1, k2, k3, k4, k5⟩ := wrs_at vs h B o 0 cs el fr hB (by omega)
  have hcl : c'.list.length = c.list.length := by rw [g4]; simp; omega
  refine ⟨cs', k1, ⟨k2.trans h1, g2, by omega, by unfold MkOk; rw [Cs.put_isB hp]; exact h4, ?_⟩, k4, k5⟩
  rw [hcl, k3, g4]
  have e1 : (cs.toList.take (o + 0) ++ (vs ++ cs.toList.drop (o + 0 + vs.length))).take c.list.length =
      (cs.toList.take c.list.length).take o ++ (vs ++ (cs.toList.take c.list.length).drop (o + d.list.length)) := by
    rw [List.take_append, List.take_append, List.take_of_length_le (by simp; omega), List.take_of_length_le (l := vs) (by simp; omega), List.take_take, List.drop_take]
    simp only [Nat.add_zero, List.length_take, Array.length_toList]
    rw [show min o c.list.length = o by omega, show min o cs.size = o by omega, hl]
    congr 3
    omega
  rw [e1]
  exact (h5.take o).append (hv.append (h5.drop _))
theorem stA_ok' {d : Cs} {vs : List Value} {a : Ad} {A : Addr} {K : Am → Option ρ} {K' : Mem → Prop} (hR : HR γ φ H h) (ha : AdR γ a A) (hd : CsOk d) (hv : VRL γ d.list vs) (hx : stA d a H K = some r)
    (hK : ∀ H' h', HR γ φ H' h' → K H' = some r → K' h') : room h A vs.length ∧ one vs ∧ K' (wrs h A 0 vs) := by
  obtain ⟨c, B, N, cs, el, fr, h1, h2, h3, h4, hx⟩ := cellsOf_ok hR hx
  obtain ⟨B', N', hg, rfl⟩ := ha
  rw [h2] at hg; cases hg
  split at hx
  · rename_i c' hc'
    obtain ⟨k1, k2, cs', k3, k4, k5, k6⟩ := cs_put h4 h3 hd hv hc'
    exact ⟨k1, k2, hK _ _ (hR.upd h1 h2 k5 k3 k4 k6) hx⟩
  · cases hx
theorem st_ok {a : Ad} {A : Addr} {x : AV} {v : Value} {K : Am → Option ρ} {K' : Mem → Prop} (hR : HR γ φ H h) (ha : AdR γ a A) (hv : VR γ x v) (hx : st a x H K = some r)
    (hK : ∀ H' h', HR γ φ H' h' → K H' = some r → K' h') : oneC v = true ∧ TS.st A v h K' := by
  obtain ⟨c, B, N, cs, el, fr, h1, h2, h3, h4, hx⟩ := cellsOf_ok hR hx
  obtain ⟨B', N', hg, rfl⟩ := ha
  rw [h2] at hg; cases hg
  split at hx
  · rename_i c' hc'
    obtain ⟨o1, o2, o3, o4, o5⟩ := h4
    obtain ⟨g1, g2, g3, g4⟩ := Cs.set_ok o2 hc'
    refine ⟨one_of hv g3, ⟨cs[a.o]'(by omega), by rw [rd_at h3]; simp⟩, fz_at h3 o4.old (by omega), hK _ _ (hR.upd (o' := .cells c') (ob' := .cells (cs.setIfInBounds a.o v) el fr) h1 h2 (size_wr _ _ _) ?_ ?_ ?_) hx⟩
    · simp only [wr, Array.getElem?_modify, if_true, h3, Option.map_some]
      simp
    · refine ⟨by simp [o1], g2, by rw [g4]; simpa using o3, by unfold MkOk; rw [Cs.set_isB hc']; exact o4, ?_⟩
      rw [g4, List.length_set]
      have : (cs.setIfInBounds a.o v).toList.take c.list.length = (cs.toList.take c.list.length).set a.o v := by
        simp [List.take_set]
      rw [this]
      exact o5.set _ hv
    · intro B' hne
      simp only [wr, Array.getElem?_modify]
      rw [if_neg (Ne.symm hne)]
  · cases hx
theorem stL_ok' : ∀ (xs : List AV) {vs : List Value} {H : Am} {h : Mem} {a : Ad} {A : Addr} (i : Nat) {K : Am → Option ρ} {K' : Mem → Prop} (_ : HR γ φ H h) (_ : AdR γ a A) (_ : VRL γ xs vs) (_ : stL xs a i H K = some r)
    (_ : ∀ H' h', HR γ φ H' h' → K H' = some r → K' h'), TS.stL vs A i h K' := by
  intro xs
  induction xs with
  | nil => intro vs H h a A i K K' hR ha hv hx hK; simp only [VRL] at hv; subst hv; exact hK _ _ hR hx
  | cons x xs ih =>
    intro vs H h a A i K K' hR ha hv hx hK
    obtain ⟨v, vs', rfl, h1, h2⟩ := hv.uncons
    have hx' : st (a.add i) x H (fun h => stL xs a (Nat.succ i) h K) = some r := hx
    obtain ⟨g1, g2⟩ := st_ok (K' := fun h => TS.stL vs' A (i + 1) h K') hR (ha.add i) h1 hx' fun H' h' hR' hx2 => ih (i + 1) hR' ha h2 hx2 hK
    simp only [TS.stL, g1]
    exact g2
theorem al_in {o : AO} {K : P → Am → Option ρ} (hx : al o H K = some r) : inB H H.nx ∧ K H.nx (H.new o) = some r := by
  unfold al at hx
  split at hx
  · rename_i hh; exact ⟨⟨Nat.le_refl _, fun q hq => by rw [hh] at hq; cases hq⟩, hx⟩
  · rename_i q hh
    split at hx
    · rename_i hb
      rw [blt_iff] at hb
      exact ⟨⟨Nat.le_refl _, fun q' hq => by rw [hh] at hq; cases hq; exact hb⟩, hx⟩
    · cases hx
theorem al_ok {c : Cs} {cs : Array Value} {el : TypeId} {K : P → Am → Option ρ} {K' : Nat → Mem → Prop} (hR : HR γ φ H h) (hc : CsOk c) (hv : VRL γ c.list cs.toList) (hx : al (.cells c) H K = some r)
    (hK : ∀ γ' b B N H' h', G.le γ γ' → γ' b = some (B, N) → N = cs.size → HR γ' φ H' h' → K b H' = some r → K' B h') : TS.al (.cells cs el) h K' := by
  obtain ⟨hn, hx⟩ := al_in hx
  have hle := hR.le_ext hn (h.size, cs.size)
  refine hK _ _ _ _ _ _ hle (ext_same _ _ _) rfl (hR.new hn (o := .cells c) ?_) hx
  have hl := hv.len
  simp at hl
  refine ⟨rfl, hc, by omega, .inl rfl, ?_⟩
  rw [List.take_of_length_le (by simp; omega)]
  exact hv.mono hle
end
end Go.XS
