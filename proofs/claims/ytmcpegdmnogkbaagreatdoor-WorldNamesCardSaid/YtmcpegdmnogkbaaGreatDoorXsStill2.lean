/- The layer 'XS': the operations that only read: what a run says of what is asked. -/
import Derived.Test.YtmcpegdmnogkbaaGreatDoorXsOps
set_option linter.unusedSimpArgs false
set_option linter.unusedVariables false
namespace Go.XS
open Go Go.TS

section
variable {γ : G} {φ : Fx} {H : Am} {h : Mem} {ρ : Type} {r : ρ} {tys : Tys} {ae : AE} {e : Env}

/-- a table of types whose noughts may be read -/
structure TyR (tys : Tys) : Prop where
  z : ZOk tys
  lk : ∀ t ti, tyOf tys t = some ti → lkOk ti = true
  ag : ∀ t ti, tyOf tys t = some ti → (∀ n, ti.lk = .arr n → ∃ cs, ti.zero = .agg cs) ∧ (∀ ks, ti.lk = .agg ks → ∃ cs, ti.zero = .agg cs)

theorem bnd_R {d : Int} {o : Option Operand} {K : Int → Option ρ} (he : ER γ ae e) (hx : bnd ae d o K = some r) : ∃ n, TS.bnd e d o = some n ∧ K n = some r := by
  cases o with
  | none => exact ⟨d, rfl, hx⟩
  | some x =>
    obtain ⟨a, v, h1, h2, h3⟩ := withV_R he (x := x) hx
    split at h3
    · rename_i k n
      rw [dInt h2] at h1
      exact ⟨n, by simp only [TS.bnd, h1], h3⟩
    · cases h3
theorem cellsA_R {a : AV} {v : Value} (h : VR γ a v) : VRL γ (cellsA a).list v.cells.toList ∧ CsOk (cellsA a) := by
  cases a with
  | agg l => obtain ⟨vs, h1, rfl⟩ := dAgg h; exact ⟨by simpa [cellsA, Cs.list, Value.cells] using h1, trivial⟩
  | aggb n len =>
    simp only [VR] at h
    obtain ⟨h1, rfl⟩ := h
    exact ⟨by simpa [cellsA, Cs.list, Value.cells] using VRL.bytes n len, h1⟩
  | _ =>
    refine ⟨?_, trivial⟩
    have : v.cells = #[v] := by
      cases v <;> first | rfl | (simp only [VR] at h; first | (cases h; done) | (obtain ⟨_, _, hh⟩ := h; cases hh; done) | (obtain ⟨_, _, _, _, hh⟩ := h; cases hh; done) | (obtain ⟨_, _, _, hh⟩ := h; cases hh; done))
    rw [this]
    exact VRL.cons h VRL.nil
theorem foldl_set : ∀ (l : List Value) (cs : Array Value) (o j : Nat), o + j + l.length ≤ cs.size →
    (List.foldl (fun (cs : Array Value) (q : Value × Nat) => cs.setIfInBounds (o + q.2) q.1) cs (l.zipIdx j)).toList = cs.toList.take (o + j) ++ (l ++ cs.toList.drop (o + j + l.length)) := by
  intro l
  induction l with
  | nil => intro cs o j _; simp
  | cons a l ih =>
    intro cs o j hl
    simp only [List.length_cons] at hl
    simp only [List.zipIdx_cons, List.foldl_cons]
    rw [ih _ _ _ (by simp; omega)]
    have e1 : (cs.setIfInBounds (o + j) a).toList = cs.toList.set (o + j) a := by simp
    rw [e1]
    have hlt : o + j < cs.toList.length := by simp; omega
    rw [List.set_eq_take_append_cons_drop, if_pos hlt]
    have hlen : (cs.toList.take (o + j)).length = o + j := by simp; omega
    have a1 : (cs.toList.take (o + j) ++ a :: cs.toList.drop (o + j + 1)).take (o + (j + 1)) = cs.toList.take (o + j) ++ [a] := by
      rw [List.take_append, hlen, List.take_of_length_le (by omega), show o + (j + 1) - (o + j) = 1 by omega]; rfl
    have a2 : (cs.toList.take (o + j) ++ a :: cs.toList.drop (o + j + 1)).drop (o + (j + 1) + l.length) = cs.toList.drop (o + j + (l.length + 1)) := by
      rw [List.drop_append, hlen, List.drop_eq_nil_of_le (by omega), show o + (j + 1) + l.length - (o + j) = l.length + 1 by omega]
      simp only [List.drop_succ_cons, List.drop_drop, List.nil_append]
      congr 1; omega
    rw [a1, a2]; simp
theorem putPart_R {c c' : List AV} {cs : Array Value} {off size : Nat} {a : AV} {v : Value} (hc : VRL γ c cs.toList) (ha : VR γ a v) (h : putPart c off size a = some c') :
    v.cells.size = size ∧ off + v.cells.size ≤ cs.size ∧ VRL γ c' (v.cells.zipIdx.foldl (fun cs (q : Value × Nat) => cs.setIfInBounds (off + q.2) q.1) cs).toList := by
  obtain ⟨k1, k2⟩ := cellsA_R ha
  unfold putPart at h
  split at h
  · rename_i xs hxs
    rw [hxs] at k1
    simp only [Cs.list] at k1
    have hl := k1.len
    have hcl := hc.len
    simp only [Array.length_toList] at hl hcl
    split at h
    · rename_i h1
      split at h
      · rename_i h2
        cases h
        rw [beq_iff, lenL_eq] at h1
        rw [ble_iff, lenL_eq] at h2
        have h2' : off + size ≤ c.length := h2
        refine ⟨by omega, by omega, ?_⟩
        have : (v.cells.zipIdx.foldl (fun cs (q : Value × Nat) => cs.setIfInBounds (off + q.2) q.1) cs) = List.foldl (fun (cs : Array Value) (q : Value × Nat) => cs.setIfInBounds (off + q.2) q.1) cs (v.cells.toList.zipIdx 0) := by
          rw [← Array.foldl_toList]; simp
        rw [this, foldl_set _ _ _ _ (by simp; omega)]
        simp only [catL_eq, takeL_eq, dropL_eq]
        have e : v.cells.toList.length = size := by simp; omega
        rw [e]
        exact (hc.take _).append (k1.append (hc.drop _))
      · cases h
    · cases h
  · cases h
theorem fillA_R {place : Nat → Option (Nat × Nat)} : ∀ (ps : List (Nat × Operand)) {c : List AV} {cs : Array Value} {ags : List AV} {vs : List Value} {K : List AV → Option ρ}, VRL γ c cs.toList → VRL γ ags vs → ps.length = ags.length →
    fillA place ps c ags K = some r → ∃ cs' c', Instr.fill place cs (zipV ps vs) = some cs' ∧ VRL γ c' cs'.toList ∧ K c' = some r := by
  intro ps
  induction ps with
  | nil => intro c cs ags vs K hc _ _ hx; exact ⟨cs, c, by simp [zipV, Instr.fill], hc, hx⟩
  | cons p ps ih =>
    intro c cs ags vs K hc hv hlen hx
    cases ags with
    | nil => simp at hlen
    | cons a ags =>
      obtain ⟨v, vs', rfl, h1, h2⟩ := hv.uncons
      have hx' : (match place p.1 with
        | some q => match putPart c q.1 q.2 a with
          | some c => fillA place ps c ags K
          | none => none
        | none => none) = some r := hx
      obtain ⟨i, x⟩ := p
      simp only at hx'
      simp only [zipV, Instr.fill]
      split at hx'
      · rename_i q hq
        rw [hq]
        split at hx'
        · rename_i c2 hc2
          obtain ⟨g1, g2, g3⟩ := putPart_R hc h1 hc2
          simp only []
          rw [if_neg (by simp [g1]; omega)]
          exact ih g3 h2 (by simpa using hlen) hx'
        · cases hx'
      · cases hx'
theorem evL_len {l : List Operand} {vs : List Value} (h : TS.evL e l = some vs) : vs.length = l.length := by
  induction l generalizing vs with
  | nil => simp [TS.evL] at h; subst h; rfl
  | cons x l ih =>
    simp only [TS.evL] at h
    split at h
    · split at h
      · rename_i hvs; cases h; simp [ih hvs]
      · cases h
    · cases h
theorem sBuild_R (hT : TyR tys) (he : ER γ ae e) {t : TypeId} {ps : Array (Nat × Operand)} {K : AV → Option ρ} {K' : Value → Prop} (hx : sBuild tys ae t ps K = some r)
    (hK : ∀ x y, VR γ x y → K x = some r → K' y) : TS.still tys e h (.build t ps) K' := by
  obtain ⟨ags, vs, h1, h2, hx⟩ := evL_R he hx
  have hlen : ps.toList.length = ags.length := by rw [h2.len, evL_len h1]; simp
  simp only [TS.still, h1]
  split at hx
  · rename_i ti hti
    have fin : ∀ {place : Nat → Option (Nat × Nat)} {z : List AV}, zlOf ti = some z → (fillA place ps.toList z ags fun c => K (.agg c)) = some r →
        ∃ cs, Instr.fill place ti.zero.cells (zipV ps.toList vs) = some cs ∧ K' (.agg cs) := by
      intro place z hz hf
      obtain ⟨cs, c, g1, g2, g3⟩ := fillA_R ps.toList (zlOf_R (γ := γ) hz) h2 hlen hf
      exact ⟨cs, g1, hK _ _ (by have := vAgg g2; simpa using this) g3⟩
    obtain ⟨desc, zero, size, bytes, lk⟩ := ti
    simp only at hx
    split at hx
    · rename_i fs
      split at hx
      · rename_i z hz
        split at hx
        · rename_i pl hpl
          have e1 : (fun i => nth pl i) = (fun i => pl.toArray[i]?) := by funext i; rw [nth_eq]; simp
          rw [e1] at hx
          obtain ⟨cs, g1, g2⟩ := fin hz hx
          simp only [hti, hpl]
          rw [g1]; exact g2
        · cases hx
      · cases hx
    · rename_i n el
      split at hx
      · rename_i z hz
        split at hx
        · rename_i te hte
          obtain ⟨cs, g1, g2⟩ := fin hz hx
          simp only [hti, hte]
          have e1 : (fun i => some (Nat.mul i te.size, te.size)) = (fun i => some (i * te.size, te.size)) := rfl
          rw [e1] at g1
          rw [g1]; exact g2
        · cases hx
      · cases hx
    · cases hx
  · cases hx
theorem sLoad_R (hR : HR γ φ H h) (he : ER γ ae e) {t : TypeId} {x : Operand} {K : AV → Option ρ} {K' : Value → Prop} (hx : sLoad tys ae H t x K = some r)
    (hK : ∀ x y, VR γ x y → K x = some r → K' y) : TS.still tys e h (.load t x) K' := by
  obtain ⟨a, v, h1, h2, hx⟩ := withV_R he hx
  simp only [TS.still]
  rw [withV_eq h1]
  split at hx
  · rename_i p
    obtain ⟨A, hA, rfl⟩ := dPtrS h2
    split at hx
    · rename_i ti hti
      simp only [hti]
      exact ldT_ok' hR hA hx hK
    · cases hx
  · cases hx
theorem sNil_R (he : ER γ ae e) {x : Operand} {K : AV → Option ρ} {K' : Value → Prop} (hx : sNil tys ae x K = some r)
    (hK : ∀ x y, VR γ x y → K x = some r → K' y) : TS.still tys e h (.nilCheck x) K' := by
  obtain ⟨a, v, h1, h2, hx⟩ := withV_R he hx
  simp only [TS.still]
  rw [withV_eq h1]
  split at hx
  · rename_i p
    obtain ⟨q, hq, rfl⟩ := dPtr h2
    cases p with
    | none => cases hx
    | some a => cases q with
      | none => exact hq.elim
      | some A => exact hK _ _ (vPtr hq) hx
  · rename_i f first cap
    unfold sNilM at hx
    split at hx
    · rename_i name
      split at hx
      · split at hx
        · rename_i t w
          split at hx
          · rename_i g hg
            simp only [VR] at h2
            obtain ⟨us, vs, h3, h4, rfl⟩ := h2
            obtain ⟨u0, us', rfl, h5, h6⟩ := h3.uncons
            have h50 := h5
            simp only [VR] at h5
            obtain ⟨w', h7, rfl⟩ := h5
            refine ⟨by rw [hg]; rfl, hK _ _ ?_ hx⟩
            simp only [VR]
            exact ⟨_, _, VRL.cons h50 h6, h4, rfl⟩
          · cases hx
        · cases hx
      · cases hx
    · cases hx
  · cases hx
theorem sPick_R (he : ER γ ae e) {c a b : Operand} {K : AV → Option ρ} {K' : Value → Prop} (hx : sPick ae c a b K = some r)
    (hK : ∀ x y, VR γ x y → K x = some r → K' y) : TS.still tys e h (.pick c a b) K' := by
  obtain ⟨x, v, h1, h2, hx⟩ := withV_R he hx
  simp only [TS.still]
  rw [withV_eq h1]
  split at hx
  · rename_i c
    rw [dBool h2]
    cases c with
    | true =>
      obtain ⟨y, w, g1, g2, hx⟩ := withV_R he (x := a) hx
      simp only [TS.ifB]; rw [withV_eq g1]; exact hK _ _ g2 hx
    | false =>
      obtain ⟨y, w, g1, g2, hx⟩ := withV_R he (x := b) hx
      simp only [TS.ifB]; rw [withV_eq g1]; exact hK _ _ g2 hx
  · cases hx
theorem sUn_R (he : ER γ ae e) {op : UnOp} {t : TypeId} {x : Operand} {K : AV → Option ρ} {K' : Value → Prop} (hx : sUn ae op x K = some r)
    (hK : ∀ x y, VR γ x y → K x = some r → K' y) : TS.still tys e h (.unOp op t x) K' := by
  obtain ⟨a, v, h1, h2, hx⟩ := withV_R he hx
  simp only [TS.still]
  rw [withV_eq h1]
  split at hx
  · split at hx
    · rename_i b
      rw [dBool h2]
      rw [ntB_eq] at hx
      exact hK _ _ vBool hx
    · cases hx
  · split at hx
    · rename_i k n
      rw [dInt h2]
      rw [kI_eq] at hx
      exact hK _ _ vInt hx
    · cases hx
  · split at hx
    · rename_i k n
      rw [dInt h2]
      rw [kI_eq, wrapA_eq, subI_eq] at hx
      exact hK _ _ vInt hx
    · cases hx
  · cases hx
theorem sConv_R (hR : HR γ φ H h) (he : ER γ ae e) {src dst : TypeId} {x : Operand} {K : AV → Option ρ} {K' : Value → Prop} (hx : sConv tys ae H src dst x K = some r)
    (hK : ∀ x y, VR γ x y → K x = some r → K' y) : TS.still tys e h (.convert src dst x) K' := by
  obtain ⟨a, v, h1, h2, hx⟩ := withV_R he hx
  simp only [TS.still]
  rw [withV_eq h1]
  split at hx
  · rename_i s hs
    split at hx
    · rename_i d hd
      simp only [hs, hd]
      split at hx
      · rename_i k hk
        split at hx
        · rename_i k' n
          rw [dInt h2, hk]
          rw [kI_eq, wrapA_eq] at hx
          exact hK _ _ vInt hx
        · cases hx
      · rename_i hk
        split at hx
        · rename_i b
          obtain ⟨S, hS, rfl⟩ := dSl h2
          rw [hk]
          split at hx
          · rename_i el hel
            split at hx
            · rename_i z1 z2 z3 z4 hte
              simp only [hel, hte]
              exact ldStr_ok hR hS hx fun x y hxy hx => hK _ _ (vStr hxy) hx
            · cases hx
          · cases hx
        · cases hx
      · cases hx
    · cases hx
  · cases hx
theorem sSlice_R (he : ER γ ae e) {t : TypeId} {x : Operand} {lo hi mx : Option Operand} {K : AV → Option ρ} {K' : Value → Prop} (hx : sSlice tys ae t x lo hi mx K = some r)
    (hK : ∀ x y, VR γ x y → K x = some r → K' y) : TS.still tys e h (.slice t x lo hi mx) K' := by
  obtain ⟨a, v, h1, h2, hx⟩ := withV_R he hx
  simp only [TS.still]
  rw [withV_eq h1]
  split at hx
  · rename_i ti hti
    obtain ⟨desc, zero, size, bytes, lk⟩ := ti
    simp only at hx
    split at hx
    · rename_i el
      split at hx
      · rename_i te hte
        split at hx
        · rename_i s
          obtain ⟨S, hS, rfl⟩ := dSl h2
          obtain ⟨l, b1, hx⟩ := bnd_R he hx
          obtain ⟨u, b2, hx⟩ := bnd_R he hx
          simp only [hti, hte, b1]
          rw [← hS.1] at b2
          have b2' : TS.bnd e (S.len : Int) hi = some u := b2
          rw [b2']
          simp only []
          split at hx
          · exact slc_ok hS hx fun x y hxy hx => hK _ _ (vSl hxy) hx
          · rename_i m
            split at hx
            · rename_i hi'
              obtain ⟨am, vm, m1, m2, hx⟩ := withV_R he hx
              split at hx
              · rename_i k n
                rw [dInt m2] at m1
                simp only [m1]
                exact slc3_ok hS hx fun x y hxy hx => hK _ _ (vSl hxy) hx
              · cases hx
            · cases hx
        · cases hx
      · cases hx
    · rename_i n el
      split at hx
      · rename_i te hte
        split at hx
        · rename_i a
          obtain ⟨A, hA, rfl⟩ := dPtrS h2
          split at hx
          · obtain ⟨l, b1, hx⟩ := bnd_R he hx
            obtain ⟨u, b2, hx⟩ := bnd_R he hx
            have b2' : TS.bnd e (n : Int) hi = some u := b2
            simp only [hti, hte, b1, b2']
            exact slcA_ok hA hx fun x y hxy hx => hK _ _ (vSl hxy) hx
          · cases hx
        · cases hx
      · cases hx
    · split at hx
      · rename_i s
        obtain ⟨b, hb, rfl⟩ := dStr h2
        split at hx
        · obtain ⟨l, b1, hx1⟩ := bnd_R he hx
          obtain ⟨u, b2, hx2⟩ := bnd_R he hx1
          obtain ⟨ln, e1, hx3⟩ := natI_eq hx2
          obtain ⟨un, e2, hx4⟩ := natI_eq hx3
          clear hx hx1 hx2 hx3
          have hx := hx4
          clear hx4
          subst e1 e2
          have b2' : TS.bnd e (b.size : Int) hi = some (un : Int) := by rw [hb.size]; exact b2
          simp only [hti, b1, b2']
          split at hx
          · rename_i c1
            split at hx
            · rename_i c2
              rw [ble_iff] at c1 c2
              have c3 : un ≤ b.size := by rw [hb.size]; exact c2
              refine ⟨by simp only [Int.ofNat_eq_natCast]; omega, by simp only [Int.ofNat_eq_natCast]; omega, by omega, hK _ _ ?_ hx⟩
              simp only [VR]
              exact ⟨_, hb.sub c1 c2, by simp⟩
            · cases hx
          · cases hx
        · cases hx
      · cases hx
    · cases hx
  · cases hx
theorem sFieldAddr_R (he : ER γ ae e) {t : TypeId} {x : Operand} {f : Nat} {K : AV → Option ρ} {K' : Value → Prop} (hx : sFieldAddr tys ae t x f K = some r)
    (hK : ∀ x y, VR γ x y → K x = some r → K' y) : TS.still tys e h (.fieldAddr t x f) K' := by
  obtain ⟨a, v, h1, h2, hx⟩ := withV_R he hx
  simp only [TS.still]
  rw [withV_eq h1]
  split at hx
  · rename_i a
    obtain ⟨A, hA, rfl⟩ := dPtrS h2
    split at hx
    · rename_i q hq
      obtain ⟨off, ti⟩ := q
      simp only at hx
      simp only [hq]
      split at hx
      · cases hx
      · rename_i m hm
        rw [hm]
        rw [sN_eq] at hx
        exact hK _ _ (vPtr (hA.add off)) hx
    · cases hx
  · cases hx
theorem sField_R (he : ER γ ae e) {t : TypeId} {x : Operand} {f : Nat} {K : AV → Option ρ} {K' : Value → Prop} (hx : sField tys ae t x f K = some r)
    (hK : ∀ x y, VR γ x y → K x = some r → K' y) : TS.still tys e h (.field t x f) K' := by
  obtain ⟨a, v, h1, h2, hx⟩ := withV_R he hx
  simp only [TS.still]
  rw [withV_eq h1]
  split at hx
  · rename_i cs
    obtain ⟨vs, hvs, rfl⟩ := dAgg h2
    split at hx
    · rename_i q hq
      obtain ⟨off, ti⟩ := q
      simp only at hx
      simp only [hq]
      split at hx
      · rename_i k hlk
        rw [hlk]
        split at hx
        · rename_i y hy
          rw [nth_eq] at hy
          obtain ⟨u, hu, hr⟩ := hvs.get hy
          have : vs.toArray[off]? = some u := by simpa using hu
          simp only [this]
          exact hK _ _ hr hx
        · cases hx
      · rename_i hlk
        split at hx
        · rename_i hb
          rw [ble_iff, lenL_eq, hvs.len] at hb
          have hb' : off + ti.size ≤ vs.length := hb
          have key : K' (.agg (vs.toArray.extract off (off + ti.size))) := by
            refine hK _ _ ?_ hx
            have := vAgg ((hvs.drop off).take ti.size)
            rw [takeL_eq, dropL_eq]
            have e1 : vs.toArray.extract off (off + ti.size) = ((vs.drop off).take ti.size).toArray := by
              simp
            rw [e1]; exact this
          cases hl : ti.lk with
          | leaf k => exact absurd hl (hlk k)
          | agg ks => exact key
          | arr n => exact key
        · cases hx
    · cases hx
  · cases hx
theorem sIndexAddr_R (he : ER γ ae e) {t : TypeId} {x i : Operand} {K : AV → Option ρ} {K' : Value → Prop} (hx : sIndexAddr tys ae t x i K = some r)
    (hK : ∀ x y, VR γ x y → K x = some r → K' y) : TS.still tys e h (.indexAddr t x i) K' := by
  obtain ⟨a, v, h1, h2, hx⟩ := withV_R he hx
  obtain ⟨b, w, g1, g2, hx⟩ := withV_R he hx
  simp only [TS.still]
  rw [withV_eq h1, withV_eq g1]
  split at hx
  · rename_i k i
    rw [dInt g2]
    simp only []
    split at hx
    · rename_i ti hti
      obtain ⟨desc, zero, size, bytes, lk⟩ := ti
      simp only at hx
      simp only [hti]
      split at hx
      · rename_i el
        split at hx
        · rename_i te hte
          split at hx
          · rename_i s
            obtain ⟨S, hS, rfl⟩ := dSl h2
            simp only [hte]
            exact ixS_ok hS hx fun a A hA hx => hK _ _ (vPtr hA) hx
          · cases hx
        · cases hx
      · rename_i n el
        split at hx
        · rename_i te hte
          split at hx
          · rename_i a
            obtain ⟨A, hA, rfl⟩ := dPtrS h2
            simp only [hte]
            exact ixA_ok hA hx fun a A hA hx => hK _ _ (vPtr hA) hx
          · cases hx
        · cases hx
      · cases hx
    · cases hx
  · cases hx
theorem AtR.nth {s : At} {b : ByteArray} (h : AtR s b) {m : Nat} (hm : m < s.len) : ∃ c : UInt8, b[m]? = some c ∧ c.toNat = dig s.n m := by
  have h1 := congrArg (fun l => l[m]?) h.1
  simp only [List.getElem?_map, List.getElem?_range hm, Option.map_some] at h1
  cases hc : b.data.toList[m]? with
  | none => rw [hc] at h1; cases h1
  | some c =>
    rw [hc] at h1
    simp only [Option.map_some, Option.some.injEq] at h1
    refine ⟨c, ?_, h1⟩
    have hlt : m < b.data.toList.length := (List.getElem?_eq_some_iff.1 hc).1
    have hlt' : m < b.size := by rw [Array.length_toList] at hlt; exact hlt
    rw [getElem?_pos b m hlt']
    have := (List.getElem?_eq_some_iff.1 hc).2
    rw [← this]
    rfl
theorem sIndex_R (he : ER γ ae e) {t : TypeId} {x i : Operand} {K : AV → Option ρ} {K' : Value → Prop} (hx : sIndex tys ae t x i K = some r)
    (hK : ∀ x y, VR γ x y → K x = some r → K' y) : TS.still tys e h (.index t x i) K' := by
  obtain ⟨a, v, h1, h2, hx⟩ := withV_R he hx
  obtain ⟨b, w, g1, g2, hx⟩ := withV_R he hx
  simp only [TS.still]
  rw [withV_eq h1, withV_eq g1]
  split at hx
  · rename_i k i
    rw [dInt g2]
    simp only []
    split at hx
    · rename_i ti hti
      obtain ⟨desc, zero, size, bytes, lk⟩ := ti
      simp only at hx
      simp only [hti]
      split at hx
      · rename_i n el
        split at hx
        · rename_i te hte
          split at hx
          · rename_i k hlk
            split at hx
            · rename_i hsz
              rw [beq_iff] at hsz
              obtain ⟨m, hm, hx1⟩ := natI_eq hx
              clear hx
              subst hm
              split at hx1
              · rename_i hlt
                rw [blt_iff] at hlt
                split at hx1
                · rename_i y hy
                  rw [Cs.nth_eq] at hy
                  obtain ⟨u, hu, hr⟩ := (cellsA_R h2).1.get hy
                  split at hx1
                  · rename_i z hz
                    obtain ⟨y', rfl, hk⟩ := KR.dec hr hz
                    have key : ∀ cs, v = .agg cs → cs[m]? = some (k.enc y') := by
                      intro cs hcs
                      rw [hcs] at hu
                      simpa [Value.cells] using hu
                    have h0 : (0 : Int) ≤ Int.ofNat m := by simp
                    have h3 : Int.ofNat m < (n : Int) := by simpa using hlt
                    have aggv : ∃ cs, v = .agg cs := by
                      cases a with
                      | agg l => obtain ⟨vs, _, e⟩ := dAgg h2; exact ⟨_, e⟩
                      | aggb q l => simp only [VR] at h2; exact ⟨_, h2.2⟩
                      | _ => cases hx1
                    obtain ⟨cs, rfl⟩ := aggv
                    have hKy : K (aenc k z) = some r := by
                      cases a with
                      | agg l => exact hx1
                      | aggb q l => exact hx1
                      | _ => cases hx1
                    simp only [hte, hlk, hsz]
                    exact ⟨h0, h3, y', key _ rfl, hK _ _ hk.enc hKy⟩
                  · cases hx1
                · cases hx1
              · cases hx1
            · cases hx
          · cases hx
        · cases hx
      · split at hx
        · rename_i s
          obtain ⟨b, hb, rfl⟩ := dStr h2
          obtain ⟨m, hm, hx1⟩ := natI_eq hx
          clear hx
          subst hm
          split at hx1
          · rename_i hlt
            rw [blt_iff] at hlt
            obtain ⟨c, hc, hd⟩ := AtR.nth hb hlt
            have h0 : (0 : Int) ≤ Int.ofNat m := by simp
            refine ⟨h0, c, hc, ?_⟩
            rw [hd]
            exact hK _ _ (by simp only [VR]; rfl) hx1
          · cases hx1
        · cases hx
      · cases hx
    · cases hx
  · cases hx
theorem kcOf_ok {t : TypeId} {K : KeyC → Option ρ} (hx : kcOf tys t K = some r) : ∃ kc, keyC tys t = some kc ∧ K kc = some r := by
  unfold kcOf at hx
  split at hx
  · rename_i ti hti
    obtain ⟨desc, zero, size, bytes, lk⟩ := ti
    simp only at hx
    split at hx
    · exact ⟨_, by simp only [keyC, hti], hx⟩
    · exact ⟨_, by simp only [keyC, hti], hx⟩
    · split at hx
      · rename_i hks
        exact ⟨_, by simp only [keyC, hti, hks], hx⟩
      · cases hx
    · cases hx
  · cases hx
theorem codeB_dig : ∀ (l : List UInt8) (n : Nat), l.map (·.toNat) = (List.range l.length).map (dig n) → n < 256 ^ l.length → codeB l = n + 256 ^ l.length := by
  intro l
  induction l with
  | nil => intro n _ hn; simp at hn; subst hn; rfl
  | cons b l ih =>
    intro n h hn
    rw [List.length_cons, List.range_succ_eq_map, List.map_cons, List.map_cons, List.map_map] at h
    simp only [List.cons.injEq] at h
    obtain ⟨h1, h2⟩ := h
    have h3 : l.map (·.toNat) = (List.range l.length).map (dig (n / 256)) := by
      rw [h2]
      apply List.map_congr_left
      intro i _
      show dig n (i + 1) = dig (n / 256) i
      rw [dig_eq, dig_eq, Nat.div_div_eq_div_mul, Nat.pow_succ, Nat.mul_comm]
    rw [List.length_cons, Nat.pow_succ] at hn
    have h4 := ih (n / 256) h3 (by omega)
    rw [dig_eq] at h1
    simp only [Nat.pow_zero, Nat.div_one] at h1
    simp only [codeB, h4, List.length_cons, Nat.pow_succ]
    omega
theorem codeL_ok {γ : G} : ∀ (ks : List IntKind) (l : List AV) (vs : List Value) (K : Nat → Option ρ), VRL γ l vs → codeL ks l K = some r → ∃ c : Nat, codeIs ks vs = some (c : Int) ∧ K c = some r := by
  intro ks
  induction ks with
  | nil =>
    intro l vs K hv hx
    cases l with
    | nil => simp only [VRL] at hv; subst hv; exact ⟨0, rfl, hx⟩
    | cons _ _ => simp only [codeL] at hx; cases hx
  | cons k ks ih =>
    intro l vs K hv hx
    cases l with
    | nil => simp only [codeL] at hx; cases hx
    | cons v l =>
      obtain ⟨V, ws, rfl, h1, hv'⟩ := hv.uncons
      cases v <;> (try (simp only [codeL] at hx; cases hx; done))
      rename_i k' a
      cases a with
      | negSucc _ => simp only [codeL] at hx; cases hx
      | ofNat n =>
        rw [dInt h1]
        simp only [codeL] at hx
        split at hx
        · rename_i hk
          rw [ikEq_iff] at hk; subst hk
          split at hx
          · rename_i hn
            have hn : n < 18446744073709551616 := Nat.le_of_ble_eq_true hn
            split at hx
            · rename_i hw
              rw [iEq_iff] at hw
              obtain ⟨c, hc, hx⟩ := ih l ws _ hv' hx
              have e1 : (Int.ofNat n) % 18446744073709551616 = Int.ofNat n := by
                show ((n : Int)) % 18446744073709551616 = (n : Int)
                omega
              refine ⟨_, ?_, hx⟩
              simp only [codeIs, e1, hw, decide_true, hc]
              rfl
            · cases hx
          · cases hx
        · cases hx
theorem codeA_ok {γ : G} {kc : KeyC} {v : AV} {V : Value} {K : Int → Option ρ} (h : VR γ v V) (hx : codeA kc v K = some r) : ∃ c, codeK kc V = some c ∧ K c = some r := by
  cases kc with
  | int kk =>
    simp only [codeA] at hx
    split at hx
    · split at hx
      · rename_i hk
        rw [ikEq_iff] at hk; subst hk
        rw [dInt h]
        exact ⟨_, by simp [codeK], hx⟩
      · cases hx
    · cases hx
  | str =>
    simp only [codeA] at hx
    split at hx
    · rename_i s
      simp only [VR] at h
      obtain ⟨b, ⟨h1, h2⟩, rfl⟩ := h
      rw [sN_eq] at hx
      refine ⟨_, ?_, hx⟩
      have hl : b.data.toList.length = s.len := by
        have := congrArg List.length h1
        simpa using this
      rw [pw_eq] at h2
      have := codeB_dig b.data.toList s.n (by rw [hl]; exact h1) (by rw [hl]; exact h2)
      rw [hl] at this
      simp only [codeK, this]
      congr 1
      show ((s.n + 256 ^ s.len : Nat) : Int) = ((s.n + 1 <<< (8 * s.len) : Nat) : Int)
      rw [Nat.one_shiftLeft, Nat.pow_mul]
    · cases hx
  | ints ks =>
    simp only [codeA] at hx
    split at hx
    · simp only [VR] at h
      obtain ⟨vs, h1, rfl⟩ := h
      obtain ⟨c, hc, hx⟩ := codeL_ok _ _ _ _ h1 hx
      rw [sN_eq] at hx
      exact ⟨_, by simp only [codeK]; exact hc, hx⟩
    · cases hx
theorem sLookup_R (hT : TyR tys) (hR : HR γ φ H h) (he : ER γ ae e) {t : TypeId} {x k : Operand} {ok : Bool} {K : AV → Option ρ} {K' : Value → Prop} (hx : sLookup tys ae H t x k ok K = some r)
    (hK : ∀ x y, VR γ x y → K x = some r → K' y) : TS.still tys e h (.lookup t x k ok) K' := by
  obtain ⟨a, v, h1, h2, hx1⟩ := withV_R he hx
  obtain ⟨b, w, g1, g2, hx2⟩ := withV_R he hx1
  clear hx hx1
  have hx := hx2
  clear hx2
  simp only [TS.still]
  rw [withV_eq h1, withV_eq g1]
  split at hx
  · rename_i ti hti
    obtain ⟨desc, zero, size, bytes, lk⟩ := ti
    simp only at hx
    split at hx
    · rename_i kt vt
      have hx5 := kcOf_ok hx
      clear hx
      obtain ⟨kc, hkc, hx⟩ := hx5
      split at hx
      · rename_i tv htv
        split at hx
        · rename_i p
          have hx5 := codeA_ok g2 hx
          clear hx
          obtain ⟨n, hcode, hx⟩ := hx5
          obtain ⟨q, hq, rfl⟩ := dMap h2
          simp only [hti, hkc, htv, hcode]
          cases p with
          | none => cases hx
          | some p => cases q with
            | none => exact hq.elim
            | some q =>
              have hx' : mapOf H p _ = some r := hx
              obtain ⟨kq, mk, m, N, es, clk, c1, c2, c3, c4, hx⟩ := mapOf_ok hR hq hx'
              split at hx
              · rename_i hkq
                rw [kcEq_iff] at hkq; subst hkq
                split at hx
                · rename_i mk' hmk
                  split at hx
                  · rename_i hme
                    have := mkEq_eq hme; subst this
                    have c4' := c4
                    simp only [OR] at c4
                    obtain ⟨m', d1, d2, d3, d4⟩ := c4
                    obtain ⟨M, f1, f2, f3, f4⟩ := MR.of_OR (kk := kc) hmk d2 d3
                    refine ⟨M, clk, by rw [c3, d1, f1], (d4.to f3 f4).ok, ?_⟩
                    have hg := f2.get n
                    split at hx
                    · rename_i y hy
                      rw [hy] at hg
                      obtain ⟨u, hu, hr⟩ := hg
                      rw [hu]
                      simp only []
                      cases ok with
                      | true => exact hK _ _ (vTup (VRL.cons hr (VRL.cons vBool VRL.nil))) hx
                      | false => exact hK _ _ hr hx
                    · rename_i hy
                      rw [hy] at hg
                      have hg' : TS.mgetE M n = none := hg
                      rw [hg']
                      simp only []
                      split at hx
                      · rename_i z hz
                        have hzr := zvOf_R (γ := γ) hT.z (hT.lk _ _ htv) htv hz (hT.ag _ _ htv).1 (hT.ag _ _ htv).2
                        cases ok with
                        | true => exact hK _ _ (vTup (VRL.cons hzr (VRL.cons vBool VRL.nil))) hx
                        | false => exact hK _ _ hzr hx
                      · cases hx
                  · cases hx
                · cases hx
              · cases hx
        · cases hx
      · cases hx
    · cases hx
  · cases hx
theorem sExtract_R (he : ER γ ae e) {x : Operand} {i : Nat} {K : AV → Option ρ} {K' : Value → Prop} (hx : sExtract ae x i K = some r)
    (hK : ∀ x y, VR γ x y → K x = some r → K' y) : TS.still tys e h (.extract x i) K' := by
  obtain ⟨a, v, h1, h2, hx⟩ := withV_R he hx
  simp only [TS.still]
  rw [withV_eq h1]
  split at hx
  · rename_i vs
    obtain ⟨us, hu, rfl⟩ := dTup h2
    split at hx
    · rename_i y hy
      rw [nth_eq] at hy
      obtain ⟨u, hu1, hr⟩ := hu.get hy
      have : us.toArray[i]? = some u := by simpa using hu1
      simp only [this]
      exact hK _ _ hr hx
    · cases hx
  · cases hx
theorem sToArr_R (he : ER γ ae e) {t : TypeId} {x : Operand} {K : AV → Option ρ} {K' : Value → Prop} (hx : sToArr tys ae t x K = some r)
    (hK : ∀ x y, VR γ x y → K x = some r → K' y) : TS.still tys e h (.sliceToArrayPointer t x) K' := by
  obtain ⟨a, v, h1, h2, hx⟩ := withV_R he hx
  simp only [TS.still]
  rw [withV_eq h1]
  split at hx
  · rename_i ti hti
    obtain ⟨desc, zero, size, bytes, lk⟩ := ti
    simp only at hx
    split at hx
    · rename_i n el
      split at hx
      · rename_i s
        obtain ⟨S, hS, rfl⟩ := dSl h2
        split at hx
        · rename_i hb
          rw [ble_iff, ← hS.1] at hb
          simp only [hti]
          refine ⟨hb, hK _ _ ?_ hx⟩
          simp only [VR]
          refine ⟨S.base, ?_, rfl⟩
          cases hb : s.base with
          | none => rw [(hS.base_none hb).1]; trivial
          | some a => obtain ⟨B, N, hg, hB, _⟩ := hS.base_some hb; rw [hB]; exact ⟨B, N, hg, rfl⟩
        · cases hx
      · cases hx
    · cases hx
  · cases hx
theorem sMakeFunc_R (he : ER γ ae e) {fn : Fn} {first cap : Array Operand} {K : AV → Option ρ} {K' : Value → Prop} (hx : sMakeFunc ae fn first cap K = some r)
    (hK : ∀ x y, VR γ x y → K x = some r → K' y) : TS.still tys e h (.makeFunc fn first cap) K' := by
  obtain ⟨ags, vs, h1, h2, hx⟩ := evL_R he hx
  obtain ⟨bs, ws, g1, g2, hx⟩ := evL_R he hx
  simp only [TS.still, h1, g1]
  refine hK _ _ ?_ hx
  simp only [VR]
  exact ⟨vs, ws, h2, g2, rfl⟩
theorem sMkI_R (he : ER γ ae e) {t : TypeId} {x : Operand} {K : AV → Option ρ} {K' : Value → Prop} (hx : sMkI tys ae t x K = some r)
    (hK : ∀ x y, VR γ x y → K x = some r → K' y) : TS.still tys e h (.makeInterface t x) K' := by
  obtain ⟨a, v, h1, h2, hx⟩ := withV_R he hx
  simp only [TS.still]
  rw [withV_eq h1]
  split at hx
  · rename_i ti hti
    simp only [hti]
    split at hx
    · rename_i hd
      rw [hd]
      exact hK _ _ (by simp only [VR]; exact ⟨v, h2, rfl⟩) hx
    · cases hx
  · cases hx
theorem sTA_R (hT : TyR tys) (he : ER γ ae e) {t xt : TypeId} {x : Operand} {ok : Bool} {K : AV → Option ρ} {K' : Value → Prop} (hx : sTA tys ae x t ok K = some r)
    (hK : ∀ x y, VR γ x y → K x = some r → K' y) : TS.still tys e h (.typeAssert x xt t ok) K' := by
  obtain ⟨a, v, h1, h2, hx⟩ := withV_R he hx
  simp only [TS.still]
  rw [withV_eq h1]
  split at hx
  · rename_i ti hti
    simp only [hti]
    have hzr : ∀ {z : AV}, zvOf tys ti = some z → VR γ z ti.zero := fun hz => zvOf_R (γ := γ) hT.z (hT.lk _ _ hti) hti hz (hT.ag _ _ hti).1 (hT.ag _ _ hti).2
    split at hx
    · rename_i hd
      rw [hd]
      simp only []
      split at hx
      · rename_i u w
        simp only [VR] at h2
        obtain ⟨w', hw, rfl⟩ := h2
        simp only []
        split at hx
        · rename_i hb
          rw [beq_iff] at hb
          rw [decide_eq_true hb]
          simp only []
          split at hx
          · exact hK _ _ (vTup (VRL.cons hw (VRL.cons vBool VRL.nil))) hx
          · exact hK _ _ hw hx
        · rename_i hb
          have hb' : u ≠ t := fun hh => by rw [beq_iff.2 hh] at hb; cases hb
          rw [decide_eq_false hb']
          simp only []
          split at hx
          · split at hx
            · rename_i z hz
              exact hK _ _ (vTup (VRL.cons (hzr hz) (VRL.cons vBool VRL.nil))) hx
            · cases hx
          · cases hx
      · simp only [VR] at h2
        subst h2
        simp only []
        split at hx
        · split at hx
          · rename_i z hz
            exact hK _ _ (vTup (VRL.cons (hzr hz) (VRL.cons vBool VRL.nil))) hx
          · cases hx
        · cases hx
      · cases hx
    · cases hx
  · cases hx
theorem sLen_R (hR : HR γ φ H h) (he : ER γ ae e) {args : Array Operand} {ts : Array TypeId} {K : AV → Option ρ} {K' : Value → Prop} (hx : sLen tys ae H args.toList ts.toList K = some r)
    (hK : ∀ x y, VR γ x y → K x = some r → K' y) : TS.still tys e h (.call ⟨.builtin .len, args, ts⟩) K' := by
  unfold sLen at hx
  split at hx
  · rename_i x hargs
    obtain ⟨a, v, h1, h2, hx⟩ := withV_R he hx
    have hev : TS.evL e args.toList = some [v] := by rw [hargs]; simp only [TS.evL, h1]
    split at hx
    · rename_i t ts' hts
      split at hx
      · rename_i ti hti
        obtain ⟨desc, zero, size, bytes, lk⟩ := ti
        simp only at hx
        simp only [TS.still, hev, hts, hti]
        split at hx
        · split at hx
          · rename_i s
            obtain ⟨S, hS, rfl⟩ := dSl h2
            simp only []
            rw [hS.1]; exact hK _ _ vInt hx
          · cases hx
        · split at hx
          · rename_i s
            obtain ⟨b, hb, rfl⟩ := dStr h2
            simp only []
            have : b.size = s.len := by
              have := congrArg List.length hb.1
              rw [List.length_map, List.length_map, List.length_range, Array.length_toList] at this
              exact this
            rw [this]; exact hK _ _ vInt hx
          · cases hx
        · split at hx
          · rename_i p
            obtain ⟨q, hq, rfl⟩ := dMap h2
            cases p with
            | none => cases hx
            | some p => cases q with
              | none => exact hq.elim
              | some q =>
                have hx' : mapOf H p _ = some r := hx
                obtain ⟨kq, mk, m, N, es, clk, c1, c2, c3, c4, hx⟩ := mapOf_ok hR hq hx'
                refine ⟨es, clk, c3, ?_⟩
                simp only [OR] at c4
                obtain ⟨m', d1, d2, d3⟩ := c4
                rw [lenL_eq] at hx
                have : es.size = m.length := by rw [d1]; simp [d2]
                rw [this]; exact hK _ _ vInt hx
          · cases hx
        · cases hx
      · cases hx
    · cases hx
  · cases hx
theorem sCap_R (he : ER γ ae e) {args : Array Operand} {ts : Array TypeId} {K : AV → Option ρ} {K' : Value → Prop} (hx : sCap tys ae args.toList ts.toList K = some r)
    (hK : ∀ x y, VR γ x y → K x = some r → K' y) : TS.still tys e h (.call ⟨.builtin .cap, args, ts⟩) K' := by
  unfold sCap at hx
  split at hx
  · rename_i x hargs
    obtain ⟨a, v, h1, h2, hx⟩ := withV_R he hx
    have hev : TS.evL e args.toList = some [v] := by rw [hargs]; simp only [TS.evL, h1]
    split at hx
    · rename_i t ts' hts
      split at hx
      · rename_i ti hti
        obtain ⟨desc, zero, size, bytes, lk⟩ := ti
        simp only at hx
        split at hx
        · split at hx
          · rename_i s
            obtain ⟨S, hS, rfl⟩ := dSl h2
            split at hx
            · rename_i hz
              rw [beq_iff] at hz
              simp only [TS.still, hev, hts, hti]
              rw [hS.2.2.1 hz]; exact hK _ _ vInt hx
            · cases hx
          · cases hx
        · cases hx
      · cases hx
    · cases hx
  · cases hx
theorem sMn_R (he : ER γ ae e) {args : Array Operand} {ts : Array TypeId} {mx : Bool} {K : AV → Option ρ} {K' : Value → Prop} (hx : sMn ae args.toList mx K = some r)
    (hK : ∀ x y, VR γ x y → K x = some r → K' y) : TS.still tys e h (.call ⟨.builtin (match mx with | true => .max | false => .min), args, ts⟩) K' := by
  unfold sMn at hx
  split at hx
  · rename_i x y hargs
    obtain ⟨a, v, h1, h2, hx1⟩ := withV_R he hx
    obtain ⟨b, w, g1, g2, hx2⟩ := withV_R he hx1
    clear hx hx1
    have hx := hx2
    clear hx2
    have hev : TS.evL e args.toList = some [v, w] := by rw [hargs]; simp only [TS.evL, h1, g1]
    split at hx
    · rename_i k n
      split at hx
      · rename_i k' m
        rw [dInt h2, dInt g2] at hev
        cases mx with
        | false =>
          simp only [ltI_eq] at hx
          simp only [TS.still, hev]
          unfold TS.mnI
          by_cases hlt : m < n
          · rw [decide_eq_true hlt] at hx; rw [if_pos hlt]; exact hK _ _ vInt hx
          · rw [decide_eq_false hlt] at hx; rw [if_neg hlt]; exact hK _ _ vInt hx
        | true =>
          simp only [ltI_eq] at hx
          simp only [TS.still, hev]
          unfold TS.mxI
          by_cases hlt : n < m
          · rw [decide_eq_true hlt] at hx; rw [if_pos hlt]; exact hK _ _ vInt hx
          · rw [decide_eq_false hlt] at hx; rw [if_neg hlt]; exact hK _ _ vInt hx
      · cases hx
    · cases hx
  · cases hx
/-- WHAT ONLY READS -/
theorem still_R (hT : TyR tys) (hR : HR γ φ H h) (he : ER γ ae e) {op : Op} {K : AV → Option ρ} {K' : Value → Prop} (hx : still tys ae H op K = some r)
    (hK : ∀ x y, VR γ x y → K x = some r → K' y) : TS.still tys e h op K' := by
  cases op with
  | move x => obtain ⟨a, v, h1, h2, hx⟩ := withV_R he (x := x) hx; simp only [TS.still]; rw [withV_eq h1]; exact hK _ _ h2 hx
  | assign x => obtain ⟨a, v, h1, h2, hx⟩ := withV_R he (x := x) hx; simp only [TS.still]; rw [withV_eq h1]; exact hK _ _ h2 hx
  | pick c a b => exact sPick_R he hx hK
  | build t ps => exact sBuild_R hT he hx hK
  | load t x => exact sLoad_R hR he hx hK
  | nilCheck x => exact sNil_R he hx hK
  | binOp op t x y t' =>
    obtain ⟨a, v, h1, h2, hx⟩ := withV_R he (x := x) hx
    obtain ⟨b, w, g1, g2, hx⟩ := withV_R he (x := y) hx
    simp only [TS.still]; rw [withV_eq h1, withV_eq g1]; exact bin_R h2 g2 hx hK
  | unOp op t x => exact sUn_R he hx hK
  | convert src dst x => exact sConv_R hR he hx hK
  | slice t x lo hi mx => exact sSlice_R he hx hK
  | fieldAddr t x f => exact sFieldAddr_R he hx hK
  | field t x f => exact sField_R he hx hK
  | indexAddr t x i => exact sIndexAddr_R he hx hK
  | index t x i => exact sIndex_R he hx hK
  | lookup t x k ok => exact sLookup_R hT hR he hx hK
  | extract x i => exact sExtract_R he hx hK
  | sliceToArrayPointer t x => exact sToArr_R he hx hK
  | makeInterface t x => exact sMkI_R he hx hK
  | typeAssert x xt t ok => exact sTA_R hT he hx hK
  | makeFunc fn first cap => exact sMakeFunc_R he hx hK
  | call c =>
    obtain ⟨callee, args, ts⟩ := c
    cases callee with
    | builtin b =>
      cases b with
      | len => exact sLen_R hR he hx hK
      | cap => exact sCap_R he hx hK
      | min => exact sMn_R (mx := false) he hx hK
      | max => exact sMn_R (mx := true) he hx hK
      | _ => cases hx
    | _ => cases hx
  | _ => cases hx
end
end Go.XS
