/- The layer 'XS': the operations that write, make memory, or call: what a run says of what is asked. -/
import Derived.Test.YtmcpegdmnogkbaaGreatDoorXsStill2
set_option linter.unusedSimpArgs false
set_option linter.unusedVariables false
namespace Go.XS
open Go Go.TS

/-- a run lays no name but those of its log -/
def Ch (H H' : Am) : Prop := (∀ b, b ∈ H.log → b ∈ H'.log) ∧ (∀ b, b ∉ H'.log → H'.get b = H.get b) ∧ H'.hi = H.hi ∧ H.nx.num ≤ H'.nx.num
def Ch1 (f : Nat → XCall) : Prop := ∀ n ags H q, f n ags H = some q → Ch H q.2
def ChY (Y : P → Option XCall) : Prop := ∀ b y, Y b = some y → ∀ ags H q, y ags H = some q → Ch H q.2
/-- a run stands for what is asked -/
def PR (τ : Tp) (ags : List AV) (H : Am) (q : AV × Am) (p : CallP) : Prop := ∀ (γ : G) (φ : Fx) (h : Mem) (vs : List Value) (K' : Value → Mem → Prop), Tp.le τ φ.top →
  HR γ φ H h → VRL γ ags vs → (∀ γ' v h', G.le γ γ' → HR γ' φ q.2 h' → VR γ' q.1 v → K' v h') → p vs h K'
/-- functions that are run stand for functions that are called -/
def FnR (τ : Tp) (f : Nat → XCall) (c : Nat → Option CallP) : Prop := ∀ n ags H q, f n ags H = some q → ∃ p, c n = some p ∧ PR τ ags H q p
def YR (τ : Tp) (Y : P → Option XCall) (ys : Nat → Option CallP) : Prop := ∀ b y, Y b = some y → ∃ B N p, τ.g0 b = some (B, N) ∧ ys B = some p ∧ ∀ ags H q, y ags H = some q → PR τ ags H q p
structure CfR (τ : Tp) (cf : CF) (cs : Calls') : Prop where
  fn : FnR τ cf.fn (callOf cs)
  it : ∀ τ' Y ys, Tp.le τ τ' → ChY Y → YR τ' Y ys → FnR τ' (cf.it Y) (cs.it ys)
  ys : YR τ cf.ys cs.ys
theorem PR.mono {τ τ' : Tp} (hl : Tp.le τ τ') {ags : List AV} {H : Am} {q : AV × Am} {p : CallP} (h : PR τ ags H q p) : PR τ' ags H q p := fun γ φ h' vs K' hle => h γ φ h' vs K' (hl.trans hle)
theorem FnR.mono {τ τ' : Tp} (hl : Tp.le τ τ') {f : Nat → XCall} {c : Nat → Option CallP} (h : FnR τ f c) : FnR τ' f c := fun n ags H q hx => let ⟨p, h1, h2⟩ := h n ags H q hx; ⟨p, h1, h2.mono hl⟩
theorem YR.mono {τ τ' : Tp} (hl : Tp.le τ τ') {Y : P → Option XCall} {ys : Nat → Option CallP} (h : YR τ Y ys) : YR τ' Y ys := fun b y hy => let ⟨B, N, p, h1, h2, h3⟩ := h b y hy; ⟨B, N, p, hl.g0 _ _ h1, h2, fun ags H q hq => (h3 ags H q hq).mono hl⟩
theorem CfR.mono {τ τ' : Tp} (hl : Tp.le τ τ') {cf : CF} {cs : Calls'} (h : CfR τ cf cs) : CfR τ' cf cs := ⟨h.fn.mono hl, fun τ2 Y ys hle => h.it τ2 Y ys (hl.trans hle), h.ys.mono hl⟩
section
variable {γ : G} {φ : Fx} {H : Am} {h : Mem} {ρ : Type} {r : ρ} {tys : Tys} {ae : AE} {e : Env}

/-- what is asked of what follows -/
def KX (γ : G) (φ : Fx) (r : ρ) (K : AV → Am → Option ρ) (K' : Value → Mem → Prop) : Prop :=
  ∀ γ' a v H' h', G.le γ γ' → HR γ' φ H' h' → VR γ' a v → K a H' = some r → K' v h'

theorem eAlloc_R (hT : TyR tys) (hR : HR γ φ H h) {t : TypeId} {K : AV → Am → Option ρ} {K' : Value → Mem → Prop} {cs : Calls'} (hx : eAlloc tys t H K = some r) (hK : KX γ φ r K K') : TS.eff tys cs e h (.alloc t) K' := by
  unfold eAlloc at hx
  simp only [TS.eff]
  split at hx
  · rename_i ti hti
    rw [hti]
    split at hx
    · rename_i c hc
      obtain ⟨k1, k2⟩ := zcOf_R (γ := γ) hT.z hti hc
      exact al_ok hR k2 k1 hx fun γ' b B N H' h' hle hg _ hR' hx' => hK _ _ _ _ _ hle hR' (vPtr ⟨B, N, hg, rfl⟩) hx'
    · cases hx
  · cases hx
theorem eBox_R (hR : HR γ φ H h) (he : ER γ ae e) {t : TypeId} {x : Operand} {K : AV → Am → Option ρ} {K' : Value → Mem → Prop} {cs : Calls'} (hx : eBox ae x H K = some r) (hK : KX γ φ r K K') : TS.eff tys cs e h (.box t x) K' := by
  obtain ⟨a, v, h1, h2, hx⟩ := withV_R he hx
  simp only [TS.eff]
  rw [withV_eq h1]
  obtain ⟨k1, k2⟩ := cellsA_R h2
  have key : ∀ c : Cs, CsOk c → VRL γ c.list v.cells.toList → (al (.cells c) H fun b h => K (.ptr (some ⟨b, 0⟩)) h) = some r → TS.al (.cells v.cells t) h fun b h => K' (.pointer (some ⟨b, 0, none⟩)) h :=
    fun c c1 c2 hx => al_ok hR c1 c2 hx fun γ' b B N H' h' hle hg _ hR' hx' => hK _ _ _ _ _ hle hR' (vPtr ⟨B, N, hg, rfl⟩) hx'
  cases hc : cellsA a with
  | l xs =>
    rw [hc] at k1 hx
    obtain ⟨m1, m2⟩ := mkCs_ok xs
    exact key _ m2 (by rw [m1]; exact k1) hx
  | b n len =>
    rw [hc] at k1 k2 hx
    exact key _ k2 k1 hx
theorem eBuildSlice_R (hR : HR γ φ H h) (he : ER γ ae e) {t : TypeId} {n : Nat} {ps : Array (Nat × Operand)} {K : AV → Am → Option ρ} {K' : Value → Mem → Prop} {cs : Calls'} (hx : eBuildSlice tys ae t n ps H K = some r) (hK : KX γ φ r K K') :
    TS.eff tys cs e h (.buildSlice t n ps) K' := by
  obtain ⟨ags, vs, h1, h2, hx⟩ := evL_R he hx
  have hlen : ps.toList.length = ags.length := by rw [h2.len, evL_len h1]; simp
  simp only [TS.eff, h1]
  split at hx
  · rename_i ti hti
    obtain ⟨desc, zero, size, bytes, lk⟩ := ti
    simp only at hx
    split at hx
    · rename_i el
      split at hx
      · rename_i te hte
        split at hx
        · rename_i hb
          split at hx
          · rename_i z hz
            split at hx
            · rename_i hl
              rw [ble_iff] at hb
              rw [beq_iff, lenL_eq] at hl
              have hzr := zlOf_R (γ := γ) hz
              have hzl := hzr.len
              simp only [Array.length_toList] at hzl
              have e1 : (fun i => some (Nat.mul i te.size, te.size)) = (fun i => some (i * te.size, te.size)) := rfl
              rw [e1] at hx
              have hzz : VRL γ (repL n z) (zeros te.zero.cells (n * te.size)).toList := by
                rw [zeros_eq (by omega)]; exact zeroCells_R hzr n
              obtain ⟨cs', c', g1, g2, g3⟩ := fillA_R ps.toList hzz h2 hlen hx
              simp only [hti, hte]
              have hb' : n * te.size ≤ 2 ^ 24 := hb
              rw [decide_eq_true hb']
              simp only [g1]
              obtain ⟨m1, m2⟩ := mkCs_ok c'
              exact al_ok hR m2 (by rw [m1]; exact g2) g3 fun γ' b B N H' h' hle hg _ hR' hx' => by
                refine hK _ _ _ _ _ hle hR' ?_ hx'
                have : SlR γ' ⟨some ⟨b, 0⟩, n, n, 0⟩ ⟨some ⟨B, 0, none⟩, n, n⟩ := SlR.mk' rfl (Nat.le_refl _) (fun _ => rfl) ⟨B, N, hg, rfl, fun hh => (hh rfl).elim⟩
                exact vSl this
            · cases hx
          · cases hx
        · cases hx
      · cases hx
    · cases hx
  · cases hx
theorem eStore_R (hR : HR γ φ H h) (he : ER γ ae e) {t : TypeId} {p x : Operand} {K : AV → Am → Option ρ} {K' : Value → Mem → Prop} {cs : Calls'} (hx : eStore tys ae t p x H K = some r) (hK : KX γ φ r K K') : TS.eff tys cs e h (.store t p x) K' := by
  obtain ⟨a, v, h1, h2, hx1⟩ := withV_R he hx
  obtain ⟨b, w, g1, g2, hx2⟩ := withV_R he hx1
  clear hx hx1
  have hx := hx2
  clear hx2
  simp only [TS.eff]
  rw [withV_eq h1, withV_eq g1]
  split at hx
  · rename_i ad
    obtain ⟨A, hA, rfl⟩ := dPtrS h2
    split at hx
    · rename_i ti hti
      simp only [hti]
      split at hx
      · rename_i k hlk
        rw [hlk]
        obtain ⟨o1, o2⟩ := st_ok (K' := fun h => K' undef h) hR hA g2 hx fun H' h' hR' hx' => hK _ _ _ _ _ (.refl γ) hR' vUndef hx'
        simp only [o1]; exact o2
      · rename_i ks hlk
        rw [hlk]
        split at hx
        · rename_i l
          obtain ⟨vs, hvs, rfl⟩ := dAgg g2
          split at hx
          · rename_i hb
            rw [beq_iff, lenL_eq] at hb
            simp only []
            have hsz : Nat.beq vs.toArray.size ti.size = true := by rw [beq_iff, List.size_toArray, ← hvs.len]; exact hb
            rw [hsz]
            exact stL_ok' _ 0 hR hA hvs hx fun H' h' hR' hx' => hK _ _ _ _ _ (.refl γ) hR' vUndef hx'
          · cases hx
        · cases hx
      · rename_i n hlk
        rw [hlk]
        split at hx
        · rename_i l
          obtain ⟨vs, hvs, rfl⟩ := dAgg g2
          split at hx
          · rename_i hb
            rw [beq_iff, lenL_eq] at hb
            simp only []
            obtain ⟨s1, s2, s3⟩ := stA_ok' (d := .l l) (vs := vs) (K' := fun h => K' undef h) hR hA trivial hvs hx fun H' h' hR' hx' => hK _ _ _ _ _ (.refl γ) hR' vUndef hx'
            exact ⟨by rw [List.size_toArray, ← hvs.len]; exact hb, s1, s2, s3⟩
          · cases hx
        · rename_i m len
          simp only [VR] at g2
          obtain ⟨q1, rfl⟩ := g2
          split at hx
          · rename_i hb
            rw [beq_iff] at hb
            simp only []
            obtain ⟨s1, s2, s3⟩ := stA_ok' (d := .b m len) (vs := bytesV m len) (K' := fun h => K' undef h) hR hA q1 (VRL.bytes m len) hx fun H' h' hR' hx' => hK _ _ _ _ _ (.refl γ) hR' vUndef hx'
            exact ⟨by rw [List.size_toArray]; simp [bytesV, hb], s1, s2, s3⟩
          · cases hx
        · cases hx
    · cases hx
  · cases hx
theorem eMakeSlice_R (hR : HR γ φ H h) (he : ER γ ae e) {t : TypeId} {l c : Operand} {K : AV → Am → Option ρ} {K' : Value → Mem → Prop} {cs : Calls'} (hx : eMakeSlice tys ae t l c H K = some r) (hK : KX γ φ r K K') :
    TS.eff tys cs e h (.makeSlice t l c) K' := by
  obtain ⟨a, v, h1, h2, hx1⟩ := withV_R he hx
  obtain ⟨b, w, g1, g2, hx2⟩ := withV_R he hx1
  clear hx hx1
  have hx := hx2
  clear hx2
  simp only [TS.eff]
  rw [withV_eq h1, withV_eq g1]
  split at hx
  · rename_i k1 n1
    split at hx
    · rename_i k2 n2
      rw [dInt h2, dInt g2]
      split at hx
      · rename_i ti hti
        obtain ⟨desc, zero, size, bytes, lk⟩ := ti
        simp only at hx
        split at hx
        · rename_i el
          split at hx
          · rename_i te hte
            split at hx
            · rename_i z hz
              simp only [hti, hte]
              exact mks_ok (zlOf_R hz) hR hx fun γ' s' S' H' h' hle hR' hs' hx' => hK _ _ _ _ _ hle hR' (vSl hs') hx'
            · cases hx
          · cases hx
        · cases hx
      · cases hx
    · cases hx
  · cases hx
theorem new_map (hR : HR γ φ H h) (kk : KeyC) (mk : Option Kind) {K : P → Am → Option ρ} {K' : Nat → Mem → Prop} (hx : al (.map kk mk []) H K = some r)
    (hK : ∀ γ' b B N H' h', G.le γ γ' → γ' b = some (B, N) → HR γ' φ H' h' → K b H' = some r → K' B h') : TS.al (.map #[] 0) h K' := by
  obtain ⟨hn, hx⟩ := al_in hx
  refine hK _ _ _ _ _ _ (hR.le_ext hn (h.size, 0)) (ext_same _ _ _) (hR.new hn (o := .map kk mk []) ?_) hx
  exact ⟨[], rfl, rfl, fun i q hq => by simp at hq, StOk.nil _⟩
theorem eMakeMap_R (hR : HR γ φ H h) {t : TypeId} {K : AV → Am → Option ρ} {K' : Value → Mem → Prop} {cs : Calls'} (hx : eMakeMap tys t H K = some r) (hK : KX γ φ r K K') : TS.eff tys cs e h (.makeMap t none) K' := by
  unfold eMakeMap at hx
  simp only [TS.eff]
  split at hx
  rotate_left
  · cases hx
  split at hx
  rotate_left
  · cases hx
  obtain ⟨kc, _, hx⟩ := kcOf_ok hx
  repeat (split at hx <;> try (cases hx; done))
  exact new_map hR _ _ hx fun γ' b B N H' h' hle hg hR' hx' => hK _ _ _ _ _ hle hR' (by simp only [VR]; exact ⟨some B, ⟨N, hg⟩, rfl⟩) hx'
theorem eMapUpdate_R (hR : HR γ φ H h) (he : ER γ ae e) {t : TypeId} {m k v : Operand} {K : AV → Am → Option ρ} {K' : Value → Mem → Prop} {cs : Calls'} (hx : eMapUpdate tys ae t m k v H K = some r) (hK : KX γ φ r K K') :
    TS.eff tys cs e h (.mapUpdate t m k v) K' := by
  obtain ⟨a1, v1, h1, h2, hx1⟩ := withV_R he hx
  obtain ⟨a2, v2, g1, g2, hx2⟩ := withV_R he hx1
  obtain ⟨a3, v3, k1, k2, hx3⟩ := withV_R he hx2
  clear hx hx1 hx2
  have hx := hx3
  clear hx3
  simp only [TS.eff]
  rw [withV_eq h1, withV_eq g1, withV_eq k1]
  split at hx
  · rename_i ti hti
    obtain ⟨desc, zero, size, bytes, lk⟩ := ti
    simp only at hx
    split at hx
    · rename_i kt vt
      have hx5 := kcOf_ok hx
      clear hx
      obtain ⟨kc, hkc, hx⟩ := hx5
      split at hx
      · rename_i tv htv
        split at hx
        · rename_i p
          have hx5 := codeA_ok g2 hx
          clear hx
          obtain ⟨n, hcode, hx⟩ := hx5
          obtain ⟨q, hq, rfl⟩ := dMap h2
          simp only [hti, hkc, htv, hcode]
          cases p with
          | none => cases hx
          | some p => cases q with
            | none => exact hq.elim
            | some q =>
              have hx' : mapOf H p _ = some r := hx
              obtain ⟨kq, mk, mm, N, es, clk, c1, c2, c3, c4, hx⟩ := mapOf_ok hR hq hx'
              split at hx
              · rename_i hkq
                rw [kcEq_iff] at hkq; subst hkq
                split at hx
                · rename_i mk' hmk
                  split at hx
                  · rename_i hme
                    have := mkEq_eq hme; subst this
                    split at hx
                    · rename_i hvo
                      have hval := valOks c4
                      have c4' := c4
                      simp only [OR] at c4
                      obtain ⟨m', d1, d2, d3, d4⟩ := c4
                      obtain ⟨M, f1, f2, f3, f4⟩ := MR.of_OR (kk := kc) hmk d2 d3
                      -- behind the store
                      have fin : ∀ (y : tv.lk.ty), v3 = tv.lk.enc y → TS.mset kc tv.lk q n y h fun h => K' undef h := by
                        intro y hy
                        refine ⟨M, clk, by rw [c3, d1, f1], (d4.to f3 f4).ok, ?_⟩
                        have hlt := lt_of_get c3
                        refine hK _ _ _ _ _ (.refl γ) (hR.upd c1 c2 (by simp) (ob' := .map (encM kc tv.lk.enc (TS.msetE M n y clk).1) (TS.msetE M n y clk).2) (by simp [hlt]) ?_ ?_) vUndef hx
                        · refine MR.to_OR (f2.set n (by rw [← hy]; exact k2) clk) ?_ (StOk.set n y (codeK_ok hcode) (d4.to f3 f4))
                          intro q' hq'
                          rcases mem_mset hq' with hq' | hq'
                          · exact hval q' hq'
                          · rw [hq']; exact hvo
                        · intro B' hne
                          exact Array.getElem?_setIfInBounds_ne (Ne.symm hne)
                      obtain ⟨y, hy⟩ := valOk_enc hmk hvo k2
                      show TS.nm (some q) _
                      simp only [TS.nm]
                      obtain ⟨vdesc, vzero, vsize, vbytes, vlk⟩ := tv
                      simp only at hmk fin y hy ⊢
                      cases vlk with
                      | leaf k =>
                        simp only [mkOf, Option.some.injEq] at hmk
                        subst hmk
                        simp only [valOk] at hvo
                        split at hvo
                        · rename_i x hx0
                          obtain ⟨y', e1, e2⟩ := KR.dec k2 hx0
                          have hd : k.dec v3 = some y' := by rw [e1]; cases k <;> simp [Kind.dec, Kind.enc]
                          simp only [hd]
                          exact fin y' e1
                        · cases hvo
                      | agg ks =>
                        cases ks with
                        | nil =>
                          have hy' : v3 = .agg #[] := hy
                          rw [hy']
                          exact fin () hy
                        | cons _ _ => simp [mkOf] at hmk
                      | arr n => simp [mkOf] at hmk
                    · cases hx
                  · cases hx
                · cases hx
              · cases hx
        · cases hx
      · cases hx
    · cases hx
  · cases hx
theorem eFrz_R (hR : HR γ φ H h) (he : ER γ ae e) {src dst : TypeId} {x : Operand} {K : AV → Am → Option ρ} {K' : Value → Mem → Prop} {cs : Calls'} (hx : eFrz tys ae src dst x H K = some r) (hK : KX γ φ r K K') :
    TS.eff tys cs e h (.convert src dst x) K' := by
  obtain ⟨a1, v1, h1, h2, hx⟩ := withV_R he hx
  simp only [TS.eff]
  rw [withV_eq h1]
  split at hx
  · rename_i ts hts
    obtain ⟨sdesc, szero, ssize, sbytes, slk⟩ := ts
    simp only at hx
    split at hx
    · rename_i el0
      split at hx
      · rename_i td htd
        obtain ⟨ddesc, dzero, dsize, dbytes, dlk⟩ := td
        simp only at hx
        split at hx
        · rename_i el
          split at hx
          · rename_i hsd
            split at hx
            · rename_i s
              obtain ⟨S, hS, rfl⟩ := dSl h2
              split at hx
              · rename_i a hb
                obtain ⟨B, N, hg, hB, he'⟩ := hS.base_some hb
                split at hx
                · rename_i z1 z2 z3 z4 hte
                  obtain ⟨c, B', N', cs', el', fr, q1, q2, q3, q4, hx⟩ := cellsOf_ok hR hx
                  rw [hg] at q2; cases q2
                  split at hx
                  rotate_left
                  · cases hx
                  rename_i nb lb
                  simp only [hts, htd, hsd, hB, hte]
                  unfold TS.frzS
                  simp only [q3]
                  obtain ⟨o1, o2, o3, o4, o5⟩ := q4
                  have hmk : (mrk h ⟨B, cs'.size, none⟩ 1)[B]? = some (.cells cs' el' (if fr.1 == fr.2 then (cs'.size, cs'.size + 1) else (min fr.1 cs'.size, max fr.2 (cs'.size + 1)))) := by
                    unfold mrk
                    rw [if_neg (by decide), Array.getElem?_modify, if_pos rfl, q3]
                    rfl
                  refine hK _ _ _ _ _ (.refl γ) (?_ : HR γ φ H _) ?_ hx
                  · have key := hR.upd (o' := .cells (.b nb lb)) q1 hg (h' := mrk h ⟨B, cs'.size, none⟩ 1) (by simp [mrk]) hmk ⟨o1, o2, o3, ?_, o5⟩ ?_
                    · -- the same abstract heap
                      refine ⟨key.dom, fun c hc => hR.band c hc, fun c hc => hR.free c hc, ?_, ?_, ?_, key.le0, key.stat⟩
                      · intro b o hbo
                        by_cases e : b = a.b
                        · subst e
                          have := key.obj a.b (.cells (.b nb lb)) (by show PT.get _ _ = _; rw [Am.put, get_put, if_pos rfl])
                          rw [q1] at hbo; cases hbo
                          exact this
                        · exact key.obj b o (by show PT.get _ _ = _; rw [Am.put, get_put, if_neg e]; exact hbo)
                      · intro b b' o o' B1 N1 N2 x1 x2 x3 x4
                        exact hR.inj b b' o o' B1 N1 N2 x1 x2 x3 x4
                      · intro B1 ob hφ
                        refine ⟨(key.far B1 ob hφ).1, (hR.far B1 ob hφ).2⟩
                    · split
                      · exact .inr ⟨Nat.le_of_eq o1.symm, rfl⟩
                      · rename_i hne
                        rcases o4 with o4 | ⟨o4, _⟩
                        · rw [o4] at hne; exact absurd rfl hne
                        · refine .inr ⟨?_, rfl⟩; simp; omega
                    · intro B1 hne
                      simp only [mrk, Array.getElem?_modify]
                      rw [if_neg (by decide), Array.getElem?_modify, if_neg (Ne.symm hne)]
                  · rw [← hB]; exact vSl hS
                · cases hx
              · cases hx
            · cases hx
          · cases hx
        · cases hx
      · cases hx
    · split at hx
      · rename_i td htd
        obtain ⟨ddesc, dzero, dsize, dbytes, dlk⟩ := td
        simp only at hx
        split at hx
        · rename_i el
          split at hx
          · rename_i hsd
            split at hx
            · rename_i s
              obtain ⟨b, hb, rfl⟩ := dStr h2
              split at hx
              · rename_i z1 z2 z3 z4 hte
                obtain ⟨hn, hx⟩ := al_in hx
                simp only [hts, htd, hsd, hte]
                intro c hc
                have hsz : b.size = s.len := hb.size
                have hC : (bytesC b (c - b.size)).size = c := by
                  simp only [bytesC, Array.size_append, Array.size_map, Array.size_replicate]
                  show b.size + (c - b.size) = c
                  omega
                rw [hC]
                have hle := hR.le_ext hn (h.size, c)
                refine hK _ _ _ _ _ hle (hR.new hn (o := .cells (.b s.n s.len)) ?_) ?_ hx
                · refine ⟨hC, hb.2, by simp only [Cs.list, len_bytesL]; omega, .inr ⟨Nat.le_refl _, rfl⟩, ?_⟩
                  simp only [Cs.list, len_bytesL]
                  have e1 : (bytesC b (c - b.size)).toList.take s.len = bytesV s.n s.len := by
                    have e2 : (bytesC b (c - b.size)).toList = b.data.toList.map (fun x => Value.int .u8 x.toNat) ++ List.replicate (c - b.size) (.int .u8 0) := by
                      simp [bytesC]
                    rw [e2, List.take_append_of_le_length (by simp; exact Nat.le_of_eq hsz.symm), List.take_of_length_le (by simp; exact Nat.le_of_eq hsz)]
                    have := congrArg (List.map fun n : Nat => Value.int .u8 (Int.ofNat n)) hb.1
                    rw [List.map_map, List.map_map] at this
                    exact this
                  rw [e1]
                  exact VRL.bytes _ _
                · simp only [VR]
                  refine ⟨⟨some ⟨h.size, 0, none⟩, b.size, c⟩, SlR.mk' hsz (by show s.len ≤ c; omega) (fun hh => by simp at hh) ⟨h.size, c, ext_same _ _ _, rfl, fun _ => by simp⟩, rfl⟩
              · cases hx
            · cases hx
          · cases hx
        · cases hx
      · cases hx
    · cases hx
  · cases hx
theorem eAppend_R (hR : HR γ φ H h) {x y : AV} {v w : Value} {t u : TypeId} {ts : List TypeId} {args : Array Operand} {tsA : Array TypeId} {K : AV → Am → Option ρ} {K' : Value → Mem → Prop} {cs : Calls'} (hv : VR γ x v) (hw : VR γ y w)
    (hargs : TS.evL e args.toList = some [v, w]) (hts : tsA.toList = t :: u :: ts) (hx : eAppend tys x y t u H K = some r) (hK : KX γ φ r K K') : TS.eff tys cs e h (.call ⟨.builtin .append, args, tsA⟩) K' := by
  unfold eAppend at hx
  split at hx
  · rename_i s
    obtain ⟨S, hS, rfl⟩ := dSl hv
    split at hx
    · rename_i ti hti
      obtain ⟨desc, zero, size, bytes, lk⟩ := ti
      simp only at hx
      split at hx
      · rename_i el
        split at hx
        · rename_i te hte
          split at hx
          · rename_i tu htu
            obtain ⟨udesc, uzero, usize, ubytes, ulk⟩ := tu
            simp only at hx
            split at hx
            · split at hx
              · rename_i x'
                obtain ⟨X, hX, rfl⟩ := dSl hw
                split at hx
                · rename_i z hz
                  split at hx
                  · rename_i hl
                    rw [beq_iff, lenL_eq] at hl
                    have hzl := (zlOf_R (γ := γ) hz).len
                    simp only [Array.length_toList] at hzl
                    simp only [TS.eff, hargs, hts, hti, htu, hte]
                    exact app_ok (by omega) hR hS hX hx fun γ' s' S' H' h' hle hR' hs' hx' => hK _ _ _ _ _ hle hR' (vSl hs') hx'
                  · cases hx
                · cases hx
              · cases hx
            · split at hx
              · rename_i n
                rw [dInt hw] at hargs
                split at hx
                · rename_i z hz
                  simp only [TS.eff, hargs, hts, hti, htu, hte]
                  exact app0_ok (zlOf_R hz) hR hS hx fun γ' s' S' H' h' hle hR' hs' hx' => hK _ _ _ _ _ hle hR' (vSl hs') hx'
                · cases hx
              · cases hx
            · cases hx
          · cases hx
        · cases hx
      · cases hx
    · cases hx
  · cases hx
theorem eCopy_R (hR : HR γ φ H h) {x y : AV} {v w : Value} {t : TypeId} {ts : List TypeId} {args : Array Operand} {tsA : Array TypeId} {K : AV → Am → Option ρ} {K' : Value → Mem → Prop} {cs : Calls'} (hv : VR γ x v) (hw : VR γ y w)
    (hargs : TS.evL e args.toList = some [v, w]) (hts : tsA.toList = t :: ts) (hx : eCopy tys x y t H K = some r) (hK : KX γ φ r K K') : TS.eff tys cs e h (.call ⟨.builtin .copy, args, tsA⟩) K' := by
  unfold eCopy at hx
  split at hx
  · rename_i d
    obtain ⟨D, hD, rfl⟩ := dSl hv
    split at hx
    · rename_i s
      obtain ⟨S, hS, rfl⟩ := dSl hw
      split at hx
      · rename_i ti hti
        obtain ⟨desc, zero, size, bytes, lk⟩ := ti
        simp only at hx
        split at hx
        · rename_i el
          split at hx
          · rename_i te hte
            simp only [TS.eff, hargs, hts, hti, hte]
            exact cpy_ok hR hD hS hx fun n H' h' hR' hx' => hK _ _ _ _ _ (.refl γ) hR' vInt hx'
          · cases hx
        · cases hx
      · cases hx
    · cases hx
  · cases hx
theorem eClear_R (hR : HR γ φ H h) {x : AV} {v : Value} {t : TypeId} {ts : List TypeId} {args : Array Operand} {tsA : Array TypeId} {K : AV → Am → Option ρ} {K' : Value → Mem → Prop} {cs : Calls'} (hv : VR γ x v)
    (hargs : TS.evL e args.toList = some [v]) (hts : tsA.toList = t :: ts) (hx : eClear tys x t H K = some r) (hK : KX γ φ r K K') : TS.eff tys cs e h (.call ⟨.builtin .clear, args, tsA⟩) K' := by
  unfold eClear at hx
  split at hx
  · rename_i ti hti
    obtain ⟨desc, zero, size, bytes, lk⟩ := ti
    simp only at hx
    split at hx
    · rename_i el
      split at hx
      · rename_i te hte
        split at hx
        · rename_i z hz
          split at hx
          · rename_i s
            obtain ⟨S, hS, rfl⟩ := dSl hv
            split at hx
            · rename_i hl
              split at hx
              · rename_i ho
                simp only [TS.eff, hargs, hts, hti, hte]
                exact clr_ok (zlOf_R hz) ho hR hS hx fun H' h' hR' hx' => hK _ _ _ _ _ (.refl γ) hR' vUndef hx'
              · cases hx
            · cases hx
          · cases hx
        · cases hx
      · cases hx
    · rename_i kt vt
      split at hx
      · rename_i p
        obtain ⟨q, hq, rfl⟩ := dMap hv
        simp only [TS.eff, hargs, hts, hti]
        cases p with
        | none => cases hx
        | some p => cases q with
          | none => exact hq.elim
          | some q =>
            have hx' : mapOf H p _ = some r := hx
            obtain ⟨kq, mk, m, N, es, clk, c1, c2, c3, c4, hx⟩ := mapOf_ok hR hq hx'
            refine ⟨es, clk, c3, ?_⟩
            have hlt := lt_of_get c3
            refine hK _ _ _ _ _ (.refl γ) (hR.upd c1 c2 (by simp) (ob' := .map #[] clk) (by simp [hlt]) ?_ ?_) vUndef hx
            · exact ⟨[], rfl, rfl, fun i q hq => by simp at hq, StOk.nil _⟩
            · intro B' hne
              exact Array.getElem?_setIfInBounds_ne (Ne.symm hne)
      · cases hx
    · cases hx
  · cases hx
theorem ofV_fn {v : Value} {f : Fn} {xs ys : List AV} : ofV v ≠ some (.fn f xs ys) := by
  intro h
  unfold ofV at h
  split at h
  · split at h <;> cases h
  · split at h <;> cases h
  · unfold ofV1 at h
    split at h <;> cases h
theorem ofV_yld {v : Value} {b : P} : ofV v ≠ some (.yld b) := by
  intro h
  unfold ofV at h
  split at h
  · split at h <;> cases h
  · split at h <;> cases h
  · unfold ofV1 at h
    split at h <;> cases h
/-- WHAT WRITES OR MAKES MEMORY -/
theorem eff_R (hT : TyR tys) {cf : CF} {cs : Calls'} (hC : CfR φ.top cf cs) (hR : HR γ φ H h) (he : ER γ ae e) {op : Op} {K : AV → Am → Option ρ} {K' : Value → Mem → Prop} (hx : eff tys cf ae H op K = some r) (hK : KX γ φ r K K') : TS.eff tys cs e h op K' := by
  cases op with
  | alloc t => exact eAlloc_R hT hR hx hK
  | box t x => exact eBox_R hR he hx hK
  | buildSlice t n ps => exact eBuildSlice_R hR he hx hK
  | store t p x => exact eStore_R hR he hx hK
  | makeSlice t l c => exact eMakeSlice_R hR he hx hK
  | makeMap t o => cases o with
    | none => exact eMakeMap_R hR hx hK
    | some _ => cases hx
  | mapUpdate t m k v => exact eMapUpdate_R hR he hx hK
  | insert t m k v =>
    have key : TS.eff tys cs e h (.mapUpdate t m k v) K' := eMapUpdate_R hR he hx hK
    exact key
  | convert src dst x => exact eFrz_R hR he hx hK
  | call c =>
    obtain ⟨callee, args, ts⟩ := c
    cases callee with
    | value f =>
      have hcon : ∀ v, f ≠ .const v := by
        intro v hf
        subst hf
        have hx' : withV ae (.const v) _ = some r := hx
        unfold withV at hx'
        split at hx'
        · rename_i a ha
          obtain ⟨ags, vs, g1, g2, hx2⟩ := evL_R he hx'
          split at hx2
          · exact ofV_fn ha
          · exact ofV_yld ha
          · cases hx2
        · cases hx'
      obtain ⟨a, v, h1, h2, hx1⟩ := withV_R he (x := f) hx
      obtain ⟨ags, vs, g1, g2, hx2⟩ := evL_R he hx1
      clear hx hx1
      have hx := hx2
      clear hx2
      split at hx
      · rename_i fn first cap
        simp only [VR] at h2
        obtain ⟨us, ws, u1, u2, rfl⟩ := h2
        split at hx
        · rename_i q hq
          obtain ⟨p, p1, p2⟩ := hC.fn _ _ _ _ hq
          have hvl : VRL γ (catL first (catL ags cap)) (us ++ (vs ++ ws)) := by
            rw [catL_eq, catL_eq]; exact u1.append (g2.append u2)
          have fin := p2 γ φ h _ K' (.refl _) hR hvl fun γ' v h' hle hR' hv' => hK _ _ _ _ _ hle hR' hv' hx
          cases f with
          | tmp t =>
            have h1' : Env.get e t = some (.func (.func fn) us.toArray ws.toArray) := h1
            simp only [TS.eff, h1', g1, p1]
            simpa using fin
          | func f0 =>
            simp only [TS.ev, Option.some.injEq, Value.func.injEq, Fn.func.injEq] at h1
            obtain ⟨e1, e2, e3⟩ := h1
            have e2' : us = [] := by have := congrArg Array.toList e2; simpa using this.symm
            have e3' : ws = [] := by have := congrArg Array.toList e3; simpa using this.symm
            subst e1 e2' e3'
            simp only [TS.eff, g1, p1]
            simpa using fin
          | const v => exact absurd rfl (hcon v)
          | global g => simp [TS.ev] at h1
        · cases hx
      · rename_i b
        simp only [VR] at h2
        obtain ⟨B, N, hb, rfl⟩ := h2
        split at hx
        · rename_i y hy
          split at hx
          · rename_i q hq
            obtain ⟨B', N', p, p0, p1, p2⟩ := hC.ys _ _ hy
            have p0' := hR.le0 _ _ p0
            rw [hb] at p0'; cases p0'
            have fin := p2 _ _ _ hq γ φ h _ K' (.refl _) hR g2 fun γ' v h' hle hR' hv' => hK _ _ _ _ _ hle hR' hv' hx
            cases f with
            | tmp t =>
              have h1' : Env.get e t = some (.func (.yield B) #[] #[]) := h1
              simp only [TS.eff, h1', g1, p1]
              simpa using fin
            | func f0 => simp [TS.ev] at h1
            | const v => exact absurd rfl (hcon v)
            | global g => simp [TS.ev] at h1
          · cases hx
        · cases hx
      · cases hx
    | invoke x name =>
      have hx : eInvoke tys cf ae x name args.toList H K = some r := hx
      obtain ⟨a, v, h1, h2, hx⟩ := withV_R he hx
      obtain ⟨ags, vs, g1, g2, hx⟩ := evL_R he hx
      split at hx
      · rename_i t w
        simp only [VR] at h2
        obtain ⟨w', hw, rfl⟩ := h2
        split at hx
        · rename_i f hf
          split at hx
          · rename_i q hq
            obtain ⟨p, p1, p2⟩ := hC.fn _ _ _ _ hq
            have fin := p2 γ φ h (w' :: vs) K' (.refl _) hR (VRL.cons hw g2) fun γ' v h' hle hR' hv' => hK _ _ _ _ _ hle hR' hv' hx
            simp only [TS.eff]
            rw [withV_eq h1]
            simp only [g1, hf, p1]
            exact fin
          · cases hx
        · cases hx
      · cases hx
    | builtin b =>
      obtain ⟨ags, vs, g1, g2, hx⟩ := evL_R he hx
      unfold eCallB at hx
      split at hx
      · split at hx
        · rename_i x y
          split at hx
          · rename_i t u ts' hts
            obtain ⟨v, vs', rfl, w1, w2⟩ := g2.uncons
            obtain ⟨w, vs'', rfl, w3, w4⟩ := w2.uncons
            simp only [VRL] at w4; subst w4
            exact eAppend_R hR w1 w3 g1 hts hx hK
          · cases hx
        · cases hx
      · split at hx
        · rename_i x y
          split at hx
          · rename_i t ts' hts
            obtain ⟨v, vs', rfl, w1, w2⟩ := g2.uncons
            obtain ⟨w, vs'', rfl, w3, w4⟩ := w2.uncons
            simp only [VRL] at w4; subst w4
            exact eCopy_R hR w1 w3 g1 hts hx hK
          · cases hx
        · cases hx
      · split at hx
        · rename_i x
          split at hx
          · rename_i t ts' hts
            obtain ⟨v, vs', rfl, w1, w2⟩ := g2.uncons
            simp only [VRL] at w2; subst w2
            exact eClear_R hR w1 g1 hts hx hK
          · cases hx
        · cases hx
      · cases hx
  | _ => cases hx
end
end Go.XS
