/- Contracts: slices.Delete of one element. -/
import Derived.Test.YtgdkafimnpjghaaGreatDoorTcPage
namespace Go.TS
open Go
set_option linter.unusedVariables false

theorem app_room_ct {t : TypeId} {z : Value} {bytes : Nat} {b l c : Nat} {x : Sl} {h : Mem} {K : Sl → Mem → Prop} {cs ys : List Value} (p : Blk h b cs) (q : Holds h x ys) (hone : Ones ys) (hl : l + ys.length ≤ c) (hc : c ≤ cs.length)
    (hK : ∀ h', Blk h' b (over cs l ys) → Upd (· = b) h h' → h'.size = h.size → K ⟨some ⟨b, 0, none⟩, l + ys.length, c⟩ h') : app t #[z] 1 bytes ⟨some ⟨b, 0, none⟩, l, c⟩ x h K := by
  obtain ⟨hql, hqc⟩ := q
  refine ⟨ys, by simpa [hql] using hqc, hone, fun _ => ?_, fun hg => by dsimp only at hg; omega⟩
  dsimp only
  rw [add_n, Nat.zero_add, Nat.mul_one, hql]
  obtain ⟨h1, h2, h3⟩ := wrs_blk (o := l) ys 0 p (by omega)
  exact ⟨room_blk p (by omega), hK _ h1 h2 h3⟩
theorem clr_ct {b o l c : Nat} {z : Value} {h : Mem} {K : Mem → Prop} {cs : List Value} (p : Blk h b cs) (hz : oneC z = true) (hl : o + l ≤ cs.length)
    (hK : ∀ h', Blk h' b (over cs o (List.replicate l z)) → Upd (· = b) h h' → h'.size = h.size → K h') : clr #[z] ⟨some ⟨b, o, none⟩, l, c⟩ h K := by
  unfold clr
  dsimp only
  have hsz : (Builtin.zeroCells #[z] l).size = l := by rw [← Array.length_toList, zeroCells_len]
  rw [hsz, zeroCells_eq]
  obtain ⟨h1, h2, h3⟩ := wrs_blk (o := o) (List.replicate l z) 0 p (by rw [List.length_replicate]; omega)
  exact ⟨fun v hv => by rw [List.eq_of_mem_replicate hv]; exact hz, room_blk p hl, hK _ h1 h2 h3⟩
theorem delete_ct {τ : Nat → Nat} {s : Sl} {n : Nat} {h : Mem} {K : Sl → Mem → Prop} {xs : List Value} (p : Vec h s xs) (ho : Ones xs) (hn : n < xs.length) (hl : xs.length ≤ 2 ^ 37)
    (hK : ∀ r h', Vec h' r (xs.take n ++ xs.drop (n + 1)) → Upd (At s) h h' → (∀ b, At r b → At s b) → r.base ≠ none → K r h') : slices_Delete_int_int τ s n (n + 1 : Nat) h K := by
  rcases p with ⟨_, rfl⟩ | ⟨b, js, rfl, hb⟩
  · simp at hn
  · refine ⟨by omega, by omega, by dsimp only; omega, by dsimp only; omega, ?_⟩
    refine ifB_f (by simp; omega) ?_
    refine slc_blk (by omega) (by omega) (by omega) (by simp; omega) ?_
    have hv : Vec h ⟨some ⟨b, 0, none⟩, xs.length, xs.length + js.length⟩ xs := .inr ⟨b, js, rfl, hb⟩
    refine slc_ct hv.holds (by dsimp only; omega) (by omega) (by dsimp only; omega) (by dsimp only; omega) fun s7 q7 _ _ _ => ?_
    have e7 : (xs.drop ((n + 1 : Nat) : Int).toNat).take ((((xs.length : Nat) : Int)).toNat - ((n + 1 : Nat) : Int).toNat) = xs.drop (n + 1) := by
      simp only [Int.toNat_natCast]
      rw [List.take_of_length_le (by rw [List.length_drop]; omega)]
    rw [e7] at q7
    have hdl : (xs.drop (n + 1)).length = xs.length - (n + 1) := List.length_drop
    have hcl : (xs ++ js).length = xs.length + js.length := List.length_append
    refine app_room_ct hb q7 (fun v hv => ho v (List.mem_of_mem_drop hv)) (by rw [hdl]; omega) (by rw [hcl]; omega) fun h1 hb1 hu1 hs1 => ?_
    rw [hdl]
    refine slc_blk (by omega) (by dsimp only; omega) (by dsimp only; omega) (by dsimp only; omega) ?_
    have hol : (over (xs ++ js) ((n : Int).toNat - (0 : Int).toNat) (xs.drop (n + 1))).length = xs.length + js.length := by rw [over_len (by rw [hdl, hcl]; omega), hcl]
    refine clr_ct hb1 rfl (by rw [hol]; dsimp only; omega) fun h2 hb2 hu2 hs2 => ?_
    refine hK _ h2 (.inr ⟨b, (Value.int .i64 0) :: js, ?_, ?_⟩) ((hu1.trans hu2 (fun _ _ h => h)).mono (fun k _ hk => ⟨_, rfl, hk.symm⟩)) (fun k hk => ⟨_, rfl, (at_lit hk).symm⟩) (by simp)
    · have : (xs.take n ++ xs.drop (n + 1)).length = xs.length - 1 := by rw [List.length_append, List.length_take, hdl]; omega
      rw [this]
      simp only [Sl.mk.injEq, Option.some.injEq, Addr.mk.injEq, List.length_cons, true_and, and_true]
      omega
    · have hln : (xs.take n).length = n := by rw [List.length_take]; omega
      have e1 : over (xs ++ js) ((n : Int).toNat - (0 : Int).toNat) (xs.drop (n + 1)) = (xs.take n ++ xs.drop (n + 1)) ++ [xs[xs.length - 1]] ++ js := by
        unfold over
        rw [Int.toNat_natCast, show n - (0 : Int).toNat = n from rfl, hdl, List.take_append_of_le_length (by omega)]
        have : n + (xs.length - (n + 1)) = xs.length - 1 := by omega
        rw [this, List.drop_append_of_le_length (by omega)]
        have h3 : xs.drop (xs.length - 1) = [xs[xs.length - 1]] := by
          rw [List.drop_eq_getElem_cons (by omega)]
          have : xs.length - 1 + 1 = xs.length := by omega
          rw [this, List.drop_length]
        rw [h3, List.append_assoc]
        simp only [List.append_assoc]
      rw [e1] at hb2
      dsimp only at hb2
      have hlen2 : (xs.take n ++ xs.drop (n + 1)).length = xs.length - 1 := by rw [List.length_append, hln, hdl]; omega
      rw [over_mid (by rw [hlen2]; omega) (by rw [List.length_replicate]; simp; omega)] at hb2
      have h1r : ((xs.length : Nat) : Int).toNat - (((n : Int).toNat - (0 : Int).toNat + (xs.length - (n + 1)) : Nat) : Int).toNat = 1 := by omega
      rw [h1r] at hb2
      simpa using hb2
end Go.TS
/- Contracts: slices.Insert, slices.Delete. -/
namespace Go.TS
open Go
set_option linter.unusedVariables false

theorem app0_new_ct {t : TypeId} {z : Value} {bytes : Nat} {s : Sl} {n : Int} {h : Mem} {K : Sl → Mem → Prop} {xs : List Value} (p : Vec h s xs) (hz : oneC z = true) (hn : 0 ≤ n)
    (hb : (xs.length + n.toNat) * bytes ≤ 2 ^ 40) (hb1 : xs.length + n.toNat ≤ 2 ^ 40) (hg : s.cap < xs.length + n.toNat)
    (hK : ∀ b c h', (∃ js, Blk h' b (xs ++ List.replicate n.toNat z ++ js) ∧ c = xs.length + n.toNat + js.length) → h.size ≤ b → Ext h h' → K ⟨some ⟨b, 0, none⟩, xs.length + n.toNat, c⟩ h') : app0 t #[z] 1 bytes s n h K := by
  have hones : one (Builtin.zeroCells #[z] n.toNat).toList := by
    rw [zeroCells_eq]; intro v hv; rw [List.eq_of_mem_replicate hv]; exact hz
  have hlen : s.len = xs.length := p.len
  refine ⟨hn, Nat.le_trans (Nat.mul_le_mul_right _ (by omega)) hb, by omega, hones, Nat.one_pos, fun hroom => by omega, fun hgrow => ?_⟩
  rw [hlen]
  refine ⟨hb1, hb, xs, ?_, ?_⟩
  · have := p.holds.2; rw [Nat.mul_one]; exact this
  · intro c hc
    refine hK h.size c _ ⟨(Builtin.zeroCells #[z] (c - (xs.length + n.toNat))).toList, ⟨t, ?_⟩, ?_⟩ (Nat.le_refl _) ⟨by simp, fun b hb _ => ?_⟩
    · rw [← zeroCells_eq]; simp
    · rw [zeroCells_len]; omega
    · rw [Array.getElem?_push_lt hb]; simp [hb]

theorem cpyN_ct {b o dl dc : Nat} {x : Sl} {a : Addr} {h : Mem} {K : Nat → Mem → Prop} {cs vs : List Value} (p : Blk h b cs) (hxb : x.base = some a) (hk : min x.len dl = vs.length) (q : cellsAt h a vs) (ho : Ones vs) (hl : o + vs.length ≤ cs.length)
    (hK : ∀ h', Blk h' b (over cs o vs) → Upd (· = b) h h' → h'.size = h.size → K vs.length h') : cpy 1 ⟨some ⟨b, o, none⟩, dl, dc⟩ x h K := by
  refine ⟨vs, ?_, ho, ?_⟩
  · unfold slCells
    rw [hxb]
    dsimp only
    exact ⟨by omega, q⟩
  · dsimp only
    obtain ⟨h1, h2, h3⟩ := wrs_blk (o := o) vs 0 p (by omega)
    rw [hk]
    exact ⟨room_blk p (by omega), hK _ h1 h2 h3⟩
theorem insert_ct {τ : Nat → Nat} {s x : Sl} {n : Nat} {h : Mem} {K : Sl → Mem → Prop} {xs ys : List Value} {ax : Addr} {bx : Nat} {cx : List Value} (p : Vec h s xs) (ho : Ones xs) (hn : n ≤ xs.length)
    (hq : Holds h x ys) (hax : x.base = some ax) (hab : ax.block = bx) (hbx : Blk h bx cx) (hcx : cx ≠ []) (hoy : Ones ys) (hy : ys ≠ []) (hd : ¬ At s bx) (hl : xs.length + ys.length ≤ 2 ^ 37)
    (hK : ∀ r h', Vec h' r (xs.take n ++ ys ++ xs.drop n) → Upd (At s) h h' → (∀ b, At r b → At s b ∨ h.size ≤ b) → K r h') : slices_Insert_int_int τ s n x h K := by
  have hyp : 0 < ys.length := by cases ys with | nil => exact absurd rfl hy | cons a l => simp
  have hsl := p.len
  have hxl : x.len = ys.length := hq.1
  have hcap : s.len ≤ s.cap := by
    rcases p with ⟨rfl, rfl⟩ | ⟨b, js, rfl, hb⟩
    · exact Nat.le_refl _
    · dsimp only; omega
  refine ⟨by omega, by omega, by omega, ?_⟩
  refine ifB_f (by rw [hxl]; simp; omega) ?_
  refine ifB_c (fun hc => ?_) (fun hc => ?_)
  · have hne : n = xs.length := by simp at hc; omega
    refine app_ct p hq hoy (by omega) (by omega) fun r h1 hr hu hat => ?_
    refine hK r h1 ?_ hu hat
    subst hne
    rw [List.take_length, List.drop_length, List.append_nil]; exact hr
  · have hne : n ≠ xs.length := by simp at hc; omega
    rcases p with ⟨_, rfl⟩ | ⟨b, js, rfl, hb⟩
    · simp at hn; subst hn; simp at hne
    · have hbne : bx ≠ b := fun h => hd (h ▸ ⟨_, rfl, rfl⟩)
      dsimp only at hc ⊢
      rw [hxl, w64 (by omega) (by omega)]
      refine ifB_c (fun hc2 => ?_) (fun hc2 => ?_)
      · have hgrow : xs.length + js.length < xs.length + ys.length := by simp at hc2; omega
        refine slc_blk (by omega) (by omega) (by omega) (by simp; omega) ?_
        have h7 : Vec h ⟨some ⟨b, 0 + (0 : Int).toNat, none⟩, (n : Int).toNat - (0 : Int).toNat, xs.length + js.length - (0 : Int).toNat⟩ (xs.take n) := by
          refine .inr ⟨b, xs.drop n ++ js, ?_, ?_⟩
          · simp; omega
          · rw [← List.append_assoc, List.take_append_drop]; exact hb
        have hln : (xs.take n).length = n := by rw [List.length_take]; omega
        rw [w64 (by omega) (by omega)]
        have hnt : ((xs.length : Int) + (ys.length : Int) - (n : Int)).toNat = xs.length + ys.length - n := by omega
        refine app0_new_ct h7 rfl (by omega) (by rw [hln]; omega) (by rw [hln]; omega) (by rw [hln]; simp; omega) fun b8 c8 h1 hj hb8 hE => ?_
        obtain ⟨js8, hB8, hc8⟩ := hj
        simp only [hln, hnt] at hc8 hB8 ⊢
        have htot : n + (xs.length + ys.length - n) = xs.length + ys.length := by omega
        rw [htot] at hc8 ⊢
        refine slc_blk (by omega) (by omega) (by omega) (by omega) ?_
        have hlen8 : (xs.take n ++ List.replicate (xs.length + ys.length - n) (Value.int .i64 0) ++ js8).length = xs.length + ys.length + js8.length := by simp; omega
        have hmin : min ys.length (((xs.length + ys.length : Nat) : Int).toNat - (n : Int).toNat) = ys.length := by omega
        refine cpy_ct hB8 (hq.gete hE) hoy (by rw [hmin, hlen8]; simp; omega) fun h2 hB2 hu2 hs2 => ?_
        rw [hmin, List.take_length] at hB2
        rw [w64 (by omega) (by omega)]
        refine slc_blk (by omega) (by omega) (by omega) (by omega) ?_
        refine slc_blk (by omega) (by omega) (by omega) (by simp; omega) ?_
        have hE2 : Ext h h2 := Upd.above hE hu2 (fun k hk => by omega)
        have hold : Holds h2 ⟨some ⟨b, 0 + (n : Int).toNat, none⟩, ((xs.length : Nat) : Int).toNat - (n : Int).toNat, xs.length + js.length - (n : Int).toNat⟩ (xs.drop n) := by
          have hb2 := hb.gete hE2
          have hdl : (xs.drop n).length = xs.length - n := List.length_drop
          refine ⟨by dsimp only; omega, rfl, fun i v hv => ?_⟩
          have hi := (List.getElem?_eq_some_iff.1 hv).1
          rw [add_n, hb2.rd]
          rw [List.getElem?_drop] at hv
          rw [List.getElem?_append_left (by omega)]
          have : 0 + (n : Int).toNat + i = n + i := by omega
          rw [this]; exact hv
        have hmin2 : min (xs.drop n).length (((xs.length + ys.length : Nat) : Int).toNat - ((n : Int) + (ys.length : Int)).toNat) = (xs.drop n).length := by rw [List.length_drop]; omega
        refine cpy_ct hB2 hold (fun v hv => ho v (List.mem_of_mem_drop hv)) (by rw [hmin2, over_len (by rw [hlen8]; simp; omega), hlen8, List.length_drop]; omega) fun h3 hB3 hu3 hs3 => ?_
        rw [hmin2, List.take_length] at hB3
        have hfinal : over (over (xs.take n ++ List.replicate (xs.length + ys.length - n) (Value.int .i64 0) ++ js8) (0 + (n : Int).toNat) ys) (0 + ((n : Int) + (ys.length : Int)).toNat) (xs.drop n) = xs.take n ++ ys ++ xs.drop n ++ js8 := by
          have e1 : List.replicate (xs.length + ys.length - n) (Value.int .i64 0) = List.replicate ys.length (Value.int .i64 0) ++ List.replicate (xs.length - n) (Value.int .i64 0) := by
            rw [List.replicate_append_replicate]; congr 1; omega
          have e2 : xs.take n ++ List.replicate (xs.length + ys.length - n) (Value.int .i64 0) ++ js8 = xs.take n ++ List.replicate ys.length (Value.int .i64 0) ++ (List.replicate (xs.length - n) (Value.int .i64 0) ++ js8) := by
            rw [e1]; simp only [List.append_assoc]
          rw [e2, over_mid (by rw [hln]; omega) (by simp), ← List.append_assoc, over_mid (by rw [List.length_append, hln]; omega) (by simp)]
        rw [hfinal] at hB3
        have hE3 : Ext h h3 := Upd.above hE2 hu3 (fun k hk => by omega)
        refine hK _ h3 (.inr ⟨b8, js8, ?_, hB3⟩) (hE3.mono (fun _ _ h => h.elim)) (fun k hk => by have := at_lit hk; omega)
        have hll : (xs.take n ++ ys ++ xs.drop n).length = xs.length + ys.length := by simp; omega
        rw [hll, hc8]
      · have hroom : xs.length + ys.length ≤ xs.length + js.length := by simp at hc2; omega
        refine slc_blk (by omega) (by omega) (by omega) (by simp; omega) ?_
        rw [w64 (by omega) (by omega)]
        refine slc_blk (by omega) (by dsimp only; omega) (by dsimp only; omega) (by omega) ?_
        obtain ⟨e1, he1⟩ := hbx
        obtain ⟨e2, he2⟩ := hb
        have hb : Blk h b (xs ++ js) := ⟨e2, he2⟩
        refine ⟨ax, _, _, e1, _, e2, hax, rfl, by rw [hab]; exact hbne, by rw [hab]; exact he1, he2, by rw [List.size_toArray, List.length_append]; omega, ?_⟩
        refine ifB_t rfl ?_
        refine slc_blk (by omega) (by dsimp only; omega) (by dsimp only; omega) (by omega) ?_
        refine slc_blk (by omega) (by dsimp only; omega) (by dsimp only; omega) (by omega) ?_
        have hln : (xs.take n).length = n := by rw [List.length_take]; omega
        have hdl : (xs.drop n).length = xs.length - n := List.length_drop
        have hCl : (xs ++ js).length = xs.length + js.length := List.length_append
        refine cpyN_ct (vs := xs.drop n) hb rfl (by dsimp only; rw [hdl]; omega) (fun i v hv => ?_) (fun v hv => ho v (List.mem_of_mem_drop hv)) (by rw [hdl, hCl]; omega) fun h2 hB2 hu2 hs2 => ?_
        · have hi := (List.getElem?_eq_some_iff.1 hv).1
          rw [add_n, hb.rd, List.getElem?_append_left (by omega)]
          rw [List.getElem?_drop] at hv
          have h0 : 0 + (0 : Int).toNat + (n : Int).toNat + i = n + i := by omega
          rw [h0]; exact hv
        refine slc_blk (by omega) (by dsimp only; omega) (by dsimp only; omega) (by omega) ?_
        have hol : (over (xs ++ js) (0 + (0 : Int).toNat + ((n : Int) + (ys.length : Int)).toNat) (xs.drop n)).length = xs.length + js.length := by rw [over_len (by rw [hdl, hCl]; omega), hCl]
        have hqx := hq.get hu2 (fun k hk hkb => by
          obtain ⟨a', ha', hk'⟩ := hk
          rw [hax] at ha'; cases ha'
          exact hbne (by rw [← hab, hk', hkb]))
        refine cpyN_ct (vs := ys) hB2 hax (by dsimp only; omega) ?_ hoy (by rw [hol]; omega) fun h3 hB3 hu3 hs3 => ?_
        · have h9 := hqx.2
          unfold slCells at h9
          rw [hax] at h9
          exact h9.2
        have hfin : over (over (xs ++ js) (0 + (0 : Int).toNat + ((n : Int) + (ys.length : Int)).toNat) (xs.drop n)) (0 + (0 : Int).toNat + (n : Int).toNat) ys = xs.take n ++ ys ++ xs.drop n ++ js.drop ys.length := by
          have hi : 0 + (0 : Int).toNat + ((n : Int) + (ys.length : Int)).toNat = n + ys.length := by omega
          rw [hi]
          have e3 : over (xs ++ js) (n + ys.length) (xs.drop n) = xs.take n ++ (xs.drop n ++ js).take ys.length ++ (xs.drop n ++ js.drop ys.length) := by
            unfold over
            have t1 : (xs ++ js).take (n + ys.length) = xs.take n ++ (xs.drop n ++ js).take ys.length := by
              conv => lhs; rw [← List.take_append_drop n xs, List.append_assoc]
              rw [List.take_append, hln, List.take_of_length_le (by omega)]
              congr 2; omega
            have t2 : (xs ++ js).drop (n + ys.length + (xs.drop n).length) = js.drop ys.length := by
              rw [List.drop_append, List.drop_of_length_le (by omega), hdl, List.nil_append]
              congr 1; omega
            rw [t1, t2]; simp only [List.append_assoc]
          rw [e3, over_mid (by rw [hln]; omega) (by rw [List.length_take, List.length_append, hdl]; omega)]; simp only [List.append_assoc]
        rw [hfin] at hB3
        have hu : Upd (At ⟨some ⟨b, 0, none⟩, xs.length, xs.length + js.length⟩) h h3 := (hu2.trans hu3 (fun _ _ h => h)).mono (fun k _ hk => ⟨_, rfl, hk.symm⟩)
        refine hK _ h3 (.inr ⟨b, js.drop ys.length, ?_, hB3⟩) hu (fun k hk => .inl ⟨_, rfl, (at_lit hk).symm⟩)
        simp only [List.length_append, List.length_drop, hln, Sl.mk.injEq, Option.some.injEq, Addr.mk.injEq, true_and, and_true]
        omega
end Go.TS
