/- The layer 'TS': soundness, the operations that only read (2). -/
import Derived.Test.YtmcpegdmnogkbaaGreatDoorTsS1
set_option linter.unusedSimpArgs false
set_option linter.unusedVariables false
namespace Go.TS
open Go

section
variable {P : Program} {tys : Tys} {e : Env} {a : Act} {w : World}

def Runs (P : Program) (a : Act) (op : Op) (ty : TypeId) (v : Value) (w : World) : Prop :=
  ∀ dst pos aft g, (execOp a.eval ⟨dst, op, ty, pos, aft, g⟩).run P w = .ok (.value v) w

theorem places_run (hty : TysOk P tys) (w : World) : ∀ (l : List Field) (ps : List (Nat × Nat)), places tys l = some ps →
    (l.mapM (fun f => do pure (f.offset, ← sizeOf f.type)) : Sem (List (Nat × Nat))).run P w = .ok ps w := by
  intro l
  induction l with
  | nil => intro ps h; simp only [places, Option.some.injEq] at h; subst h; simp
  | cons f l ih =>
    intro ps h
    simp only [places] at h
    split at h
    · rename_i ti hti
      split at h
      · rename_i ps' hps
        cases h
        simp only [List.mapM_cons, Sem.run_bind, size_run (hty _ _ hti), ih _ hps, Result.andThen_ok, Sem.run_pure]
      · cases h
    · cases h

theorem zipV_map (he : Ok e a) (ps : List (Nat × Operand)) (vs : List Value) (h : evL e (ps.map (·.2)) = some vs) :
    ps.map (fun (i, x) => (i, a.eval x)) = zipV ps vs := by
  induction ps generalizing vs with
  | nil => simp only [List.map_nil, evL, Option.some.injEq] at h; subst h; rfl
  | cons p ps ih =>
    obtain ⟨i, x⟩ := p
    simp only [List.map_cons, evL] at h
    split at h
    · rename_i v hv
      split at h
      · rename_i us hus
        cases h
        simp only [List.map_cons, zipV, ev_ok he hv, ih _ hus]
      · cases h
    · cases h

theorem arr_map (ps : Array (Nat × Operand)) (f : Nat × Operand → Nat × Value) : (ps.map f).toList = ps.toList.map f := by simp

theorem build_ok (hty : TysOk P tys) (he : Ok e a) {t : TypeId} {ps : Array (Nat × Operand)} {h : Mem} {K : Value → Prop} (ty : TypeId) (hs : still tys e h (.build t ps) K) :
    ∃ v, (∀ w, Runs P a (.build t ps) ty v w) ∧ K v := by
  simp only [still] at hs
  split at hs
  · exact hs.elim
  · rename_i vs hvs
    have hz := zipV_map he ps.toList vs hvs
    split at hs
    · rename_i fs z s b lk ht
      split at hs
      · rename_i pl hpl
        split at hs
        · rename_i cs hcs
          refine ⟨_, fun w dst pos aft g => ?_, hs⟩
          have hT := hty _ _ ht
          have hm := places_run (P := P) hty w fs.toList pl hpl
          have hm2 : (fs.mapM (fun f => do pure (f.offset, ← sizeOf f.type)) : Sem (Array (Nat × Nat))).run P w = .ok pl.toArray w := by
            rw [Array.mapM_eq_mapM_toList]
            simp only [Sem.run_map, hm, Result.andThen_ok]
          simp only [execOp, Instr.build, Sem.run_bind, zero_run hT, und_run hT, Result.andThen_ok, hm2, arr_map]
          rw [hz, hcs]
          simp
        · exact hs.elim
      · exact hs.elim
    · rename_i n el z s b lk ht
      split at hs
      · rename_i ti hti
        split at hs
        · rename_i cs hcs
          refine ⟨_, fun w dst pos aft g => ?_, hs⟩
          have hT := hty _ _ ht
          simp only [execOp, Instr.build, Sem.run_bind, zero_run hT, und_run hT, Result.andThen_ok, size_run (hty _ _ hti), arr_map]
          rw [hz, hcs]
          simp
        · exact hs.elim
      · exact hs.elim
    · exact hs.elim

theorem bnd_run {k : IntKind} {n : Int} {y : Nat} {c : BoundsCode} (h0 : 0 ≤ n) (h1 : n ≤ y) (w : World) : (Instr.sliceBound (.int k n) y c).run P w = .ok n.toNat w := by
  simp [Instr.sliceBound, asIntOf, h0, h1]

/-- an operand of a slice expression, or what stands for it -/
inductive Bd (x : Option Value) (d n : Int) : Prop where
  | none (h : x = .none) (hn : n = d)
  | some (k : IntKind) (h : x = some (.int k n))

theorem bnd_bd (he : Ok e a) {lo : Option Operand} {d n : Int} (h : bnd e d lo = some n) : Bd (lo.map a.eval) d n := by
  cases lo with
  | none => simp only [bnd, Option.some.injEq] at h; exact .none rfl h.symm
  | some x =>
    simp only [bnd] at h
    split at h
    · rename_i k m hx
      cases h
      exact .some k (by rw [Option.map_some, ev_ok he hx])
    · cases h

theorem bounds_run {isS : Bool} {len cap : Nat} {lo hi : Option Value} {l h : Int} (hl : Bd lo 0 l) (hh : Bd hi len h) (h0 : 0 ≤ l) (h1 : l ≤ h) (h2 : h ≤ cap) (w : World) :
    (Instr.sliceBounds isS len cap lo hi none).run P w = .ok (l.toNat, h.toNat, cap) w := by
  have e1 : ∀ k, (Instr.sliceBound (.int k h) cap (if isS then .sliceAcap else .sliceAlen)).run P w = .ok h.toNat w := fun k => bnd_run (by omega) h2 w
  have e2 : ∀ k, (Instr.sliceBound (.int k l) h.toNat .sliceB).run P w = .ok l.toNat w := fun k => bnd_run h0 (by omega) w
  cases hl with
  | none hx hn =>
    subst hx
    cases hh with
    | none hy hm => subst hy; subst hm; subst hn; simp [Instr.sliceBounds]
    | some k hy => subst hy; subst hn; simp [Instr.sliceBounds, e1]
  | some k hx =>
    subst hx
    cases hh with
    | none hy hm =>
      subst hy
      have e3 : h.toNat = len := by omega
      rw [e3] at e2
      simp [Instr.sliceBounds, e2, e3]
    | some k hy => subst hy; simp [Instr.sliceBounds, e1, e2]

theorem bounds3_run {len cap : Nat} {lo hi : Option Value} {l h m : Int} {k : IntKind} (hl : Bd lo 0 l) (hh : ∃ k, hi = some (.int k h)) (h0 : 0 ≤ l) (h1 : l ≤ h) (h2 : h ≤ m) (h3 : m ≤ cap) (w : World) :
    (Instr.sliceBounds true len cap lo hi (some (.int k m))).run P w = .ok (l.toNat, h.toNat, m.toNat) w := by
  obtain ⟨k2, rfl⟩ := hh
  have e0 : (Instr.sliceBound (.int k m) cap .slice3Acap).run P w = .ok m.toNat w := bnd_run (by omega) h3 w
  have e1 : (Instr.sliceBound (.int k2 h) m.toNat .slice3B).run P w = .ok h.toNat w := bnd_run (by omega) (by omega) w
  have e2 : ∀ k, (Instr.sliceBound (.int k l) h.toNat .slice3C).run P w = .ok l.toNat w := fun k => bnd_run h0 (by omega) w
  cases hl with
  | none hx hn => subst hx; subst hn; simp [Instr.sliceBounds, e0, e1]
  | some k hx => subst hx; simp [Instr.sliceBounds, e0, e1, e2]

theorem slice_ok (hty : TysOk P tys) (he : Ok e a) {t : TypeId} {x : Operand} {lo hi mx : Option Operand} {h : Mem} {K : Value → Prop} (ty : TypeId)
    (hs : still tys e h (.slice t x lo hi mx) K) :
    ∃ v, (∀ w, Runs P a (.slice t x lo hi mx) ty v w) ∧ K v := by
  simp only [still] at hs
  have hx := withV_ok he hs
  clear hs
  split at hx
  · rename_i el z s b lk ht
    have hT := hty _ _ ht
    split at hx
    · rename_i ti bb ll cc hti hxx
      split at hx
      · rename_i lo' hi' hlo' hhi'
        have b1 := bnd_bd he hlo'
        have b2 := bnd_bd he hhi'
        split at hx
        · obtain ⟨h0, h1, h2, hK⟩ := hx
          refine ⟨_, fun w dst pos aft g => ?_, hK⟩
          have hb := bounds_run (P := P) (isS := true) b1 b2 h0 h1 h2 w
          simp only [execOp, Instr.sliceAt, Instr.slice, Sem.run_bind, und_run hT, hxx, Result.andThen_ok, Option.map_none, hb, size_run (hty _ _ hti), Sem.run_pure, Sl.cut]
        · split at hx
          · rename_i mxo _ _ ho k m hm
            obtain ⟨h0, h1, h2, h3, hK⟩ := hx
            refine ⟨_, fun w dst pos aft g => ?_, hK⟩
            have hh : ∃ k, (some ho).map a.eval = some (.int k hi') := by
              cases b2 with
              | none hy _ => cases hy
              | some k hy => exact ⟨k, hy⟩
            have hmx : a.eval mxo = .int k m := ev_ok he hm
            have hb := bounds3_run (P := P) (k := k) (len := ll) b1 hh h0 h1 h2 h3 w
            simp only [execOp, Instr.sliceAt, Instr.slice, Sem.run_bind, und_run hT, hxx, Result.andThen_ok, Option.map_some, hmx, hb, size_run (hty _ _ hti), Sem.run_pure]
            simp only [Option.map_some] at hb
            simp only [hb, Result.andThen_ok, size_run (hty _ _ hti), Sem.run_pure]
          · exact hx.elim
      · exact hx.elim
    · exact hx.elim
  · rename_i n el z s b lk ht
    have hT := hty _ _ ht
    split at hx
    · rename_i ti aa hti hxx
      split at hx
      · rename_i lo' hi' hlo' hhi'
        have b1 := bnd_bd he hlo'
        have b2 := bnd_bd he hhi'
        obtain ⟨h0, h1, h2, hK⟩ := hx
        refine ⟨_, fun w dst pos aft g => ?_, hK⟩
        have hb := bounds_run (P := P) (isS := false) b1 b2 h0 h1 h2 w
        simp only [execOp, Instr.sliceAt, Instr.sureAddr, Sem.run_bind, und_run hT, hxx, Result.andThen_ok, Option.map_none, hb, size_run (hty _ _ hti), Sem.run_pure]
      · exact hx.elim
    · exact hx.elim
  · rename_i z s b lk ht
    have hT := hty _ _ ht
    split at hx
    · rename_i str hxx
      split at hx
      · rename_i lo' hi' hlo' hhi'
        have b1 := bnd_bd he hlo'
        have b2 := bnd_bd he hhi'
        obtain ⟨h0, h1, h2, hK⟩ := hx
        refine ⟨_, fun w dst pos aft g => ?_, hK⟩
        have hb := bounds_run (P := P) (isS := false) b1 b2 h0 h1 h2 w
        simp only [execOp, Instr.sliceAt, Instr.slice, Sem.run_bind, und_run hT, hxx, Result.andThen_ok, Option.map_none, Option.isSome_none, Bool.false_eq_true, if_false, hb, Sem.run_pure]
      · exact hx.elim
    · exact hx.elim
  · exact hx.elim

theorem fldOff_ok (hty : TysOk P tys) {t f off : Nat} {ti : TI} (h : fldOff tys t f = some (off, ti)) (w : World) :
    ∃ fs fl, (underlying t).run P w = .ok (.struct fs) w ∧ fs[f]? = some fl ∧ fl.offset = off ∧ TyOk P fl.type ti := by
  unfold fldOff at h
  split at h
  · rename_i fs z s b lk ht
    split at h
    · rename_i fl hfl
      split at h
      · rename_i ti' hti
        cases h
        exact ⟨fs, fl, und_run (hty _ _ ht) w, hfl, rfl, hty _ _ hti⟩
      · cases h
    · cases h
  · cases h

theorem fieldAddr_ok (hty : TysOk P tys) (he : Ok e a) {t f : Nat} {x : Operand} {h : Mem} {K : Value → Prop} (ty : TypeId) (hs : still tys e h (.fieldAddr t x f) K) :
    ∃ v, (∀ w, Runs P a (.fieldAddr t x f) ty v w) ∧ K v := by
  simp only [still] at hs
  have hx := withV_ok he hs
  clear hs
  split at hx
  · rename_i aa hxx
    split at hx
    · rename_i off ti hf
      split at hx
      · exact hx.elim
      · rename_i n hn
        refine ⟨_, fun w dst pos aft g => ?_, hx⟩
        obtain ⟨fs, fl, hu, hfl, ho, hti⟩ := fldOff_ok (P := P) hty hf w
        simp only [execOp, Instr.fieldAt, Instr.sureAddr, fieldPlace, Sem.run_bind, hu, hfl, hxx, Result.andThen_ok, size_run hti, hn, Sem.run_pure, Sem.run_ite, Nat.succ_ne_zero, if_false, ho]
    · exact hx.elim
  · exact hx.elim

theorem part_run {t : Nat} {ti : TI} (hti : TyOk P t ti) (cs : Array Value) (off : Nat) (w : World) :
    (part t cs off).run P w = match ti.lk with
      | .leaf _ => match cs[off]? with | some v => .ok v w | none => .halt (.stuck "part: no such cell") w
      | _ => .ok (.agg (cs.extract off (off + ti.size))) w := by
  have hag := isAgg_run hti w
  cases hl : ti.lk with
  | leaf k =>
    rw [hl] at hag
    simp only [part, Sem.run_bind, hag, Result.andThen_ok]
    cases cs[off]? <;> simp [stuck]
  | agg ks =>
    rw [hl] at hag
    simp only [part, Sem.run_bind, hag, Result.andThen_ok]
    simp [size_run hti]
  | arr n =>
    rw [hl] at hag
    simp only [part, Sem.run_bind, hag, Result.andThen_ok]
    simp [size_run hti]

theorem field_ok (hty : TysOk P tys) (he : Ok e a) {t f : Nat} {x : Operand} {h : Mem} {K : Value → Prop} (ty : TypeId) (hs : still tys e h (.field t x f) K) :
    ∃ v, (∀ w, Runs P a (.field t x f) ty v w) ∧ K v := by
  simp only [still] at hs
  have hx := withV_ok he hs
  clear hs
  split at hx
  · rename_i cs hxx
    split at hx
    · rename_i off ti hf
      split at hx
      · rename_i k hk
        split at hx
        · rename_i v hv
          refine ⟨_, fun w dst pos aft g => ?_, hx⟩
          obtain ⟨fs, fl, hu, hfl, ho, hti⟩ := fldOff_ok (P := P) hty hf w
          subst ho
          have hp := part_run hti cs fl.offset w
          rw [hk, hv] at hp
          simp only [execOp, Instr.field, asAgg, Sem.run_bind, hu, hfl, hxx, Result.andThen_ok, Sem.run_pure, hp]
        · exact hx.elim
      · rename_i hk
        refine ⟨_, fun w dst pos aft g => ?_, hx⟩
        obtain ⟨fs, fl, hu, hfl, ho, hti⟩ := fldOff_ok (P := P) hty hf w
        subst ho
        have hp := part_run hti cs fl.offset w
        have hp2 : (part fl.type cs fl.offset).run P w = .ok (.agg (cs.extract fl.offset (fl.offset + ti.size))) w := by
          rw [hp]; revert hk; cases ti.lk <;> simp
        simp only [execOp, Instr.field, asAgg, Sem.run_bind, hu, hfl, hxx, Result.andThen_ok, Sem.run_pure, hp2]
    · exact hx.elim
  · exact hx.elim

theorem indexAddr_ok (hty : TysOk P tys) (he : Ok e a) {t : Nat} {x i : Operand} {h : Mem} {K : Value → Prop} (ty : TypeId) (hs : still tys e h (.indexAddr t x i) K) :
    ∃ v, (∀ w, Runs P a (.indexAddr t x i) ty v w) ∧ K v := by
  simp only [still] at hs
  have hx := withV_ok he (withV_ok he hs)
  clear hs
  split at hx
  · rename_i k n hi
    split at hx
    · rename_i el z s b lk ht
      have hT := hty _ _ ht
      split at hx
      · rename_i ti bb ll cc hti hxx
        obtain ⟨aa, ha, h0, h1, hK⟩ := hx
        simp only at ha h1
        subst ha
        refine ⟨_, fun w dst pos aft g => ?_, hK⟩
        simp [execOp, Instr.indexAt, asIntOf, hi, hxx, und_run hT, size_run (hty _ _ hti), h0, h1]
      · exact hx.elim
    · rename_i m el z s b lk ht
      have hT := hty _ _ ht
      split at hx
      · rename_i ti aa hti hxx
        obtain ⟨h0, h1, hK⟩ := hx
        refine ⟨_, fun w dst pos aft g => ?_, hK⟩
        simp [execOp, Instr.indexAt, Instr.sureAddr, asIntOf, hi, hxx, und_run hT, size_run (hty _ _ hti), h0, h1]
      · exact hx.elim
    · exact hx.elim
  · exact hx.elim

theorem index_ok (hty : TysOk P tys) (he : Ok e a) {t : Nat} {x i : Operand} {h : Mem} {K : Value → Prop} (ty : TypeId) (hs : still tys e h (.index t x i) K) :
    ∃ v, (∀ w, Runs P a (.index t x i) ty v w) ∧ K v := by
  simp only [still] at hs
  have hx := withV_ok he (withV_ok he hs)
  clear hs
  split at hx
  · rename_i k n hi
    split at hx
    · rename_i m el z s b lk ht
      have hT := hty _ _ ht
      split at hx
      · rename_i ti cs hti hxx
        split at hx
        · rename_i kd hl hsz
          obtain ⟨h0, h1, y, hy, hK⟩ := hx
          refine ⟨_, fun w dst pos aft g => ?_, hK⟩
          have hp := part_run (hty _ _ hti) cs n.toNat w
          rw [hl, hy] at hp
          simp [execOp, Instr.index, asIntOf, hi, hxx, und_run hT, size_run (hty _ _ hti), h0, h1, hsz, hp]
        · exact hx.elim
      · exact hx.elim
    · rename_i z s b lk ht
      have hT := hty _ _ ht
      split at hx
      · rename_i s hxx
        obtain ⟨h0, c, hc, hK⟩ := hx
        refine ⟨_, fun w dst pos aft g => ?_, hK⟩
        simp [execOp, Instr.index, asIntOf, hi, hxx, und_run hT, h0, hc]
      · exact hx.elim
    · exact hx.elim
  · exact hx.elim
end
end Go.TS
