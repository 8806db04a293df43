/- Contracts: slices.Delete of one element. -/
import Derived.Test.YtgdkafimnpjghaaGreatTcPage
namespace Go.TS
open Go
set_option linter.unusedVariables false

theorem app_room_ct {t : TypeId} {z : Value} {bytes : Nat} {b l c : Nat} {x : Sl} {h : Mem} {K : Sl → Mem → Prop} {cs ys : List Value} (p : Blk h b cs) (q : Holds h x ys) (hone : Ones ys) (hl : l + ys.length ≤ c) (hc : c ≤ cs.length)
    (hK : ∀ h', Blk h' b (over cs l ys) → Upd (· = b) h h' → h'.size = h.size → K ⟨some ⟨b, 0, none⟩, l + ys.length, c⟩ h') : app t #[z] 1 bytes ⟨some ⟨b, 0, none⟩, l, c⟩ x h K := by
  obtain ⟨hql, hqc⟩ := q
  refine ⟨ys, by simpa [hql] using hqc, hone, fun _ => ?_, fun hg => by dsimp only at hg; omega⟩
  dsimp only
  rw [add_n, Nat.zero_add, Nat.mul_one, hql]
  obtain ⟨h1, h2, h3⟩ := wrs_blk (o := l) ys 0 p (by omega)
  exact ⟨room_blk p (by omega), hK _ h1 h2 h3⟩
theorem clr_ct {b o l c : Nat} {z : Value} {h : Mem} {K : Mem → Prop} {cs : List Value} (p : Blk h b cs) (hz : oneC z = true) (hl : o + l ≤ cs.length)
    (hK : ∀ h', Blk h' b (over cs o (List.replicate l z)) → Upd (· = b) h h' → h'.size = h.size → K h') : clr #[z] ⟨some ⟨b, o, none⟩, l, c⟩ h K := by
  unfold clr
  dsimp only
  have hsz : (Builtin.zeroCells #[z] l).size = l := by rw [← Array.length_toList, zeroCells_len]
  rw [hsz, zeroCells_eq]
  obtain ⟨h1, h2, h3⟩ := wrs_blk (o := o) (List.replicate l z) 0 p (by rw [List.length_replicate]; omega)
  exact ⟨fun v hv => by rw [List.eq_of_mem_replicate hv]; exact hz, room_blk p hl, hK _ h1 h2 h3⟩
theorem delete_ct {τ : Nat → Nat} {s : Sl} {n : Nat} {h : Mem} {K : Sl → Mem → Prop} {xs : List Value} (p : Vec h s xs) (ho : Ones xs) (hn : n < xs.length) (hl : xs.length ≤ 2 ^ 37)
    (hK : ∀ r h', Vec h' r (xs.take n ++ xs.drop (n + 1)) → Upd (At s) h h' → (∀ b, At r b → At s b) → r.base ≠ none → K r h') : slices_Delete_int_int τ s n (n + 1 : Nat) h K := by
  rcases p with ⟨_, rfl⟩ | ⟨b, js, rfl, hb⟩
  · simp at hn
  · refine ⟨by omega, by omega, by dsimp only; omega, by dsimp only; omega, ?_⟩
    refine ifB_f (by simp; omega) ?_
    refine slc_blk (by omega) (by omega) (by omega) (by simp; omega) ?_
    have hv : Vec h ⟨some ⟨b, 0, none⟩, xs.length, xs.length + js.length⟩ xs := .inr ⟨b, js, rfl, hb⟩
    refine slc_ct hv.holds (by dsimp only; omega) (by omega) (by dsimp only; omega) (by dsimp only; omega) fun s7 q7 _ _ _ => ?_
    have e7 : (xs.drop ((n + 1 : Nat) : Int).toNat).take ((((xs.length : Nat) : Int)).toNat - ((n + 1 : Nat) : Int).toNat) = xs.drop (n + 1) := by
      simp only [Int.toNat_natCast]
      rw [List.take_of_length_le (by rw [List.length_drop]; omega)]
    rw [e7] at q7
    have hdl : (xs.drop (n + 1)).length = xs.length - (n + 1) := List.length_drop
    have hcl : (xs ++ js).length = xs.length + js.length := List.length_append
    refine app_room_ct hb q7 (fun v hv => ho v (List.mem_of_mem_drop hv)) (by rw [hdl]; omega) (by rw [hcl]; omega) fun h1 hb1 hu1 hs1 => ?_
    rw [hdl]
    refine slc_blk (by omega) (by dsimp only; omega) (by dsimp only; omega) (by dsimp only; omega) ?_
    have hol : (over (xs ++ js) ((n : Int).toNat - (0 : Int).toNat) (xs.drop (n + 1))).length = xs.length + js.length := by rw [over_len (by rw [hdl, hcl]; omega), hcl]
    refine clr_ct hb1 rfl (by rw [hol]; dsimp only; omega) fun h2 hb2 hu2 hs2 => ?_
    refine hK _ h2 (.inr ⟨b, (Value.int .i64 0) :: js, ?_, ?_⟩) ((hu1.trans hu2 (fun _ _ h => h)).mono (fun k _ hk => ⟨_, rfl, hk.symm⟩)) (fun k hk => ⟨_, rfl, (at_lit hk).symm⟩) (by simp)
    · have : (xs.take n ++ xs.drop (n + 1)).length = xs.length - 1 := by rw [List.length_append, List.length_take, hdl]; omega
      rw [this]
      simp only [Sl.mk.injEq, Option.some.injEq, Addr.mk.injEq, List.length_cons, true_and, and_true]
      omega
    · have hln : (xs.take n).length = n := by rw [List.length_take]; omega
      have e1 : over (xs ++ js) ((n : Int).toNat - (0 : Int).toNat) (xs.drop (n + 1)) = (xs.take n ++ xs.drop (n + 1)) ++ [xs[xs.length - 1]] ++ js := by
        unfold over
        rw [Int.toNat_natCast, show n - (0 : Int).toNat = n from rfl, hdl, List.take_append_of_le_length (by omega)]
        have : n + (xs.length - (n + 1)) = xs.length - 1 := by omega
        rw [this, List.drop_append_of_le_length (by omega)]
        have h3 : xs.drop (xs.length - 1) = [xs[xs.length - 1]] := by
          rw [List.drop_eq_getElem_cons (by omega)]
          have : xs.length - 1 + 1 = xs.length := by omega
          rw [this, List.drop_length]
        rw [h3, List.append_assoc]
        simp only [List.append_assoc]
      rw [e1] at hb2
      dsimp only at hb2
      have hlen2 : (xs.take n ++ xs.drop (n + 1)).length = xs.length - 1 := by rw [List.length_append, hln, hdl]; omega
      rw [over_mid (by rw [hlen2]; omega) (by rw [List.length_replicate]; simp; omega)] at hb2
      have h1r : ((xs.length : Nat) : Int).toNat - (((n : Int).toNat - (0 : Int).toNat + (xs.length - (n + 1)) : Nat) : Int).toNat = 1 := by omega
      rw [h1r] at hb2
      simpa using hb2
end Go.TS
