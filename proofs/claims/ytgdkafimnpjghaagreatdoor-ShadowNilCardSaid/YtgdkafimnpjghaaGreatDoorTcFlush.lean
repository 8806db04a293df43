/- Contracts: Disk.Flush: all sectors that are cached are laid over the disk's bytes, whatever order the map is gone through in. -/
import Derived.Laws.IdiomRangeMap
import Derived.Test.YtgdkafimnpjghaaGreatDoorTcSlices
import Derived.Test.YtgdkafimnpjghaaGreatDoorXsMem
namespace Go.TS
open Go
set_option linter.unusedVariables false

/-- cells laid over cells -/
def ovF (F : Nat → Value) (q : Nat × List Value) : Nat → Value := fun j => if q.1 ≤ j ∧ j < q.1 + q.2.length then (q.2[j - q.1]?).getD undef else F j
theorem ovF_in (F : Nat → Value) (q : Nat × List Value) {j : Nat} (h : q.1 ≤ j ∧ j < q.1 + q.2.length) : ovF F q j = (q.2[j - q.1]?).getD undef := if_pos h
theorem ovF_out (F : Nat → Value) (q : Nat × List Value) {j : Nat} (h : ¬ (q.1 ≤ j ∧ j < q.1 + q.2.length)) : ovF F q j = F j := if_neg h
theorem ovF_comm (F : Nat → Value) (x y : Nat × List Value) (h : x = y ∨ x.1 + x.2.length ≤ y.1 ∨ y.1 + y.2.length ≤ x.1) : ovF (ovF F x) y = ovF (ovF F y) x := by
  rcases h with rfl | h
  · rfl
  funext j
  unfold ovF
  by_cases h1 : y.1 ≤ j ∧ j < y.1 + y.2.length
  · by_cases h2 : x.1 ≤ j ∧ j < x.1 + x.2.length
    · omega
    · rw [if_pos h1, if_neg h2, if_pos h1]
  · by_cases h2 : x.1 ≤ j ∧ j < x.1 + x.2.length
    · rw [if_neg h1, if_pos h2, if_pos h2]
    · rw [if_neg h1, if_neg h2, if_neg h2, if_neg h1]
/-- an entry of the cache: its key, its slice, its stamp, its bytes -/
abbrev FlQ := (Int × Sl × Nat) × List Value
def flT (ob : Nat) (q : FlQ) : Nat × List Value := (ob + q.1.1.toNat * 512, q.2)
structure FlOk (h : Mem) (B cap : Nat) (q : FlQ) : Prop where
  lo : 0 ≤ q.1.1
  hi : (q.1.1.toNat + 1) * 512 ≤ cap
  sm : (q.1.1.toNat + 1) * 512 ≤ 2 ^ 40
  len : q.2.length = 512
  sl : q.1.2.1.len = 512
  cells : slCells h q.1.2.1 512 q.2
  ones : Ones q.2
  ne : ∀ a, q.1.2.1.base = some a → a.block ≠ B ∧ a.block < h.size
theorem rd_same {h h' : Mem} {a : Addr} (hs : h'[a.block]? = h[a.block]?) : rd h' a = rd h a := by unfold rd; rw [hs]
theorem rd_cells {h : Mem} {a : Addr} {v : Value} (hr : rd h a = some v) : ∃ cs e f, h[a.block]? = some (.cells cs e f) := by
  unfold rd at hr
  split at hr
  · rename_i cs e f hc; exact ⟨cs, e, f, hc⟩
  · cases hr
theorem inj_of_nodup_map {α β : Type} {f : α → β} : ∀ {l : List α}, (l.map f).Nodup → ∀ {x y : α}, x ∈ l → y ∈ l → f x = f y → x = y := by
  intro l
  induction l with
  | nil => intro _ x y hx; cases hx
  | cons a l ih =>
    intro h x y hx hy e
    simp only [List.map_cons, List.nodup_cons, List.mem_map, not_exists, not_and] at h
    rcases List.mem_cons.1 hx with ex | hx2
    · rcases List.mem_cons.1 hy with ey | hy2
      · rw [ex, ey]
      · exact absurd (by rw [← ex, e]) (h.1 y hy2)
    · rcases List.mem_cons.1 hy with ey | hy2
      · exact absurd (by rw [← ey, e]) (h.1 x hx2)
      · exact ih h.2 hx2 hy2 e
theorem flush_ct {τ : Nat → Nat} {d : Addr} {r B ob N clk : Nat} {sb : Sl} {m : Ents Sl} {Q : List FlQ} {cs : Array Value} {el : TypeId} {fr : Nat × Nat} {h : Mem} {K : Int → Mem → Prop}
    (hd0 : rd h d = some (Value.slice sb.base sb.len sb.cap)) (hd1 : rd h (d.add 1) = some (.map (some r))) (hd3 : rd h (d.add 3) = some (.pointer none))
    (hr : h[r]? = some (.map (encM .i64 Kind.sl.enc m) clk)) (hkeys : (m.map (·.1)).Nodup) (hst : (m.map (·.2.2)).Nodup) (hclk : ∀ s, s ∈ m.map (·.2.2) → s < clk)
    (hb : sb.base = some ⟨B, ob, none⟩) (hB : h[B]? = some (.cells cs el fr)) (hN : cs.size = N) (hfr : fr.1 = fr.2 ∨ N ≤ fr.1) (hin : ob + sb.cap ≤ N) (hdB : d.block ≠ B)
    (hQ : Q.map (·.1) = m) (hok : ∀ q, q ∈ Q → FlOk h B sb.cap q)
    (hK : ∀ h' cs', h'.size = h.size + 1 → h'[B]? = some (.cells cs' el fr) → cs'.size = N → (∀ j, j < N → cs'[j]? = some ((Q.map (flT ob)).foldl ovF (fun i => (cs[i]?).getD undef) j)) →
      h'[r]? = some (.map #[] clk) → (∀ x, x < h.size → x ≠ B → x ≠ r → h'[x]? = h[x]?) → st (d.add 2) (Value.slice none 0 0) h' fun h => K 0 h) :
    sector_Disk_Flush τ (some d) h K := by
  have hrB : r ≠ B := fun e => by rw [e, hB] at hr; cases hr
  have hrlt : r < h.size := lt_of_some hr
  have hBlt : B < h.size := lt_of_some hB
  obtain ⟨dc, de, df, hdc⟩ := rd_cells hd0
  have hdlt : d.block < h.size := lt_of_some hdc
  have hdr : d.block ≠ r := fun e => by rw [e, hr] at hdc; cases hdc
  have ab : ∀ n, (d.add n).block = d.block := fun n => add_block d n
  -- made, fails
  unfold sector_Disk_Flush sector_Disk_made
  refine ifB_t rfl ?_
  refine ld_ct (k := .map) (some r) hd1 ?_
  refine ifB_f rfl ?_
  unfold sector_Disk_fails
  refine ld_ct (k := .ptr) none hd3 ?_
  refine ifB_t rfl ?_
  refine ifB_f rfl ?_
  refine ⟨some r, hd1, ?_⟩
  refine ⟨_, clk, hr, ?_⟩
  -- the round's relation
  have hQn : (Q.map (·.1.2.2)).Nodup := by rw [← hQ, List.map_map] at hst; exact hst
  have hQk : (Q.map (·.1.1)).Nodup := by rw [← hQ, List.map_map] at hkeys; exact hkeys
  have hQnd : Q.Nodup := List.Pairwise.of_map _ (fun a b h e => h (by rw [e])) hQn
  have hes : ∀ e, e ∈ (encM .i64 Kind.sl.enc m).toList ↔ ∃ q, q ∈ Q ∧ e = ⟨.int .i64 q.1.1, Kind.sl.enc q.1.2.1, q.1.2.2⟩ := by
    intro e
    rw [← hQ]
    simp only [encM, List.map_map, List.mem_map, List.mem_toArray, Array.mem_toList_iff]
    constructor
    · rintro ⟨q, hq, rfl⟩; exact ⟨q, hq, rfl⟩
    · rintro ⟨q, hq, rfl⟩; exact ⟨q, hq, rfl⟩
  have hborn : ∀ e, e ∈ (encM .i64 Kind.sl.enc m).toList → e.born < clk := by
    intro e he
    obtain ⟨q, hq, rfl⟩ := (hes e).1 he
    exact hclk _ (by rw [← hQ, List.map_map]; exact List.mem_map_of_mem hq)
  have hbn : ((encM .i64 Kind.sl.enc m).toList.map (·.born)).Nodup := by
    have : (encM .i64 Kind.sl.enc m).toList.map (·.born) = m.map (·.2.2) := by simp [encM, Function.comp_def]
    rw [this]; exact hst
  have disj : ∀ x, x ∈ Q → ∀ y, y ∈ Q → x = y ∨ (flT ob x).1 + (flT ob x).2.length ≤ (flT ob y).1 ∨ (flT ob y).1 + (flT ob y).2.length ≤ (flT ob x).1 := by
    intro x hx y hy
    by_cases e : x.1.1 = y.1.1
    · left
      exact inj_of_nodup_map hQk hx hy e
    · right
      have := (hok x hx).lo
      have := (hok y hy).lo
      have h1 := (hok x hx).len
      have h2 := (hok y hy).len
      simp only [flT, h1, h2]
      omega
  unfold al
  refine loop_ct (σ := Unit) (fun _ h' => ∃ (S : List FlQ) (c0 : Nat) (cs' : Array Value), S.Nodup ∧ (∀ q, q ∈ S → q ∈ Q) ∧ h'.size = h.size + 1 ∧ clk ≤ c0 ∧ h'[h.size]? = some (.mapIter (some r) clk (S.map (·.1.2.2)).toArray c0) ∧
      h'[B]? = some (.cells cs' el fr) ∧ cs'.size = N ∧ (∀ j, j < N → cs'[j]? = some ((S.map (flT ob)).foldl ovF (fun i => (cs[i]?).getD undef) j)) ∧ (∀ x, x < h.size → x ≠ B → h'[x]? = h[x]?))
    (fun _ h' => match h'[h.size]? with | some (.mapIter _ _ seen _) => (leftOf (encM .i64 Kind.sl.enc m) seen).size | _ => 0) ?_ ?_
  · refine ⟨[], clk, cs, by simp, by simp, by simp, Nat.le_refl _, by simp, ?_, hN, ?_, ?_⟩
    · rw [Array.getElem?_push_lt hBlt, ← hB, Array.getElem?_eq_getElem hBlt]
    · intro j hj
      simp only [List.map_nil, List.foldl_nil]
      rw [Array.getElem?_eq_getElem (by omega)]; rfl
    · intro x hx _
      rw [Array.getElem?_push_lt hx, Array.getElem?_eq_getElem hx]
  rintro _ h' ⟨S, c0, cs', s1, s2, s3, s4, s5, s6, s7, s8, s9⟩
  have hr' : h'[r]? = some (.map (encM .i64 Kind.sl.enc m) clk) := by rw [s9 r hrlt hrB]; exact hr
  dsimp only
  refine ⟨r, clk, _, c0, _, clk, s5, hr', hborn, s4, fun hl => ?_, fun e he => ?_⟩
  · -- all is done
    refine ifB_f rfl ?_
    refine ⟨some r, by rw [rd_same (h := h) (by rw [ab, s9 _ hdlt hdB])]; exact hd1, ?_⟩
    refine ⟨_, clk, hr', ?_⟩
    have hperm : S.Perm Q := by
      refine (List.perm_ext_iff_of_nodup s1 hQnd).2 fun q => ⟨s2 q, fun hq => ?_⟩
      have hmem : (⟨.int .i64 q.1.1, Kind.sl.enc q.1.2.1, q.1.2.2⟩ : MapEntry) ∈ (encM .i64 Kind.sl.enc m).toList := (hes _).2 ⟨q, hq, rfl⟩
      have hnl : ¬ (⟨.int .i64 q.1.1, Kind.sl.enc q.1.2.1, q.1.2.2⟩ : MapEntry) ∈ leftOf (encM .i64 Kind.sl.enc m) (S.map (·.1.2.2)).toArray := by rw [hl]; simp
      simp only [leftOf, Array.mem_filter, not_and] at hnl
      have := hnl (by simpa using hmem)
      simp only [Bool.not_eq_true', Bool.not_eq_false, List.contains_toArray, List.contains_iff_mem, List.mem_map, decide_eq_true_eq, Bool.not_not] at this
      obtain ⟨q', hq', e⟩ : ∃ q', q' ∈ S ∧ q'.1.2.2 = q.1.2.2 := by simpa using this
      have := inj_of_nodup_map hQn (s2 q' hq') hq e
      rw [← this]; exact hq'
    refine hK _ cs' (by simp [s3]) (by rw [Array.getElem?_setIfInBounds_ne hrB]; exact s6) s7 ?_ (by rw [Array.getElem?_setIfInBounds_self_of_lt (by omega)]) ?_
    · intro j hj
      rw [s8 j hj]
      congr 1
      have := List.Perm.foldl_eq' (f := ovF) (hperm.map (flT ob)) (fun x hx y hy z => by
        obtain ⟨x', hx', rfl⟩ := List.mem_map.1 hx
        obtain ⟨y', hy', rfl⟩ := List.mem_map.1 hy
        refine ovF_comm z _ _ ?_
        rcases disj x' (s2 _ hx') y' (s2 _ hy') with e | e
        · exact .inl (by rw [e])
        · exact .inr e) (fun i => (cs[i]?).getD undef)
      rw [this]
    · intro x hx h1 h2
      rw [Array.getElem?_setIfInBounds_ne (Ne.symm h2)]; exact s9 x hx h1
  · -- a round
    refine ifB_t rfl ?_
    obtain ⟨hem, hec⟩ := mem_left he
    obtain ⟨q, hq, rfl⟩ := (hes e).1 hem
    have hqo := hok q hq
    have hqS : q ∉ S := fun hh => by
      have : (S.map (·.1.2.2)).toArray.contains q.1.2.2 = true := by simp; exact ⟨_, _, _, hh⟩
      simp only at hec
      rw [this] at hec; cases hec
    have hiter : (h'.setIfInBounds h.size (.mapIter (some r) clk ((S.map (·.1.2.2)).toArray.push q.1.2.2) clk))[h.size]? = some (.mapIter (some r) clk ((S.map (·.1.2.2)).toArray.push q.1.2.2) clk) := by
      rw [Array.getElem?_setIfInBounds_self_of_lt (by omega)]
    have hoth : ∀ x, x ≠ h.size → (h'.setIfInBounds h.size (.mapIter (some r) clk ((S.map (·.1.2.2)).toArray.push q.1.2.2) clk))[x]? = h'[x]? := fun x hx => Array.getElem?_setIfInBounds_ne (Ne.symm hx)
    generalize hh2 : h'.setIfInBounds h.size (.mapIter (some r) clk ((S.map (·.1.2.2)).toArray.push q.1.2.2) clk) = h2 at hiter hoth
    have hsz2 : h2.size = h.size + 1 := by rw [← hh2]; simp [s3]
    have hold : ∀ x, x < h.size → x ≠ B → h2[x]? = h[x]? := fun x hx hne => by rw [hoth x (by omega)]; exact s9 x hx hne
    have hB2 : h2[B]? = some (.cells cs' el fr) := by rw [hoth B (by omega)]; exact s6
    refine ⟨r, clk, _, _, clk, _, hiter, by rw [hold r hrlt hrB]; exact hr, hem, hbn, ?_⟩
    refine ⟨q.1.1, rfl, q.1.2.1, rfl, ?_⟩
    -- the sector
    have h0 := hqo.lo
    have h1 := hqo.hi
    have hsm := hqo.sm
    have hkk : (q.1.1.toNat : Int) = q.1.1 := Int.toNat_of_nonneg h0
    have e1 : IntKind.i64.wrap (q.1.1 * 512) = q.1.1 * 512 := w64 (by omega) (by omega)
    have e2 : IntKind.i64.wrap ((IntKind.i64.wrap (q.1.1 + 1)) * 512) = (q.1.1 + 1) * 512 := by rw [w64 (x := q.1.1 + 1) (by omega) (by omega), w64 (by omega) (by omega)]
    refine ⟨sb, by rw [rd_same (h := h) (hold _ hdlt hdB)]; exact hd0, ?_⟩
    rw [e1, e2]
    refine ⟨by omega, by omega, by omega, ?_⟩
    have hcut : sb.cut (q.1.1 * 512).toNat ((q.1.1 + 1) * 512).toNat 1 = ⟨some ⟨B, ob + q.1.1.toNat * 512, none⟩, 512, sb.cap - q.1.1.toNat * 512⟩ := by
      have t1 : (q.1.1 * 512).toNat = q.1.1.toNat * 512 := by omega
      have t2 : ((q.1.1 + 1) * 512).toNat = q.1.1.toNat * 512 + 512 := by omega
      unfold Sl.cut
      rw [t1, t2, if_neg (by omega), hb]
      have t3 : q.1.1.toNat * 512 + 512 - q.1.1.toNat * 512 = 512 := by omega
      rw [t3]
      simp only [Option.map_some, add_n, Nat.mul_one]
    rw [hcut]
    have hlen := hqo.len
    refine ⟨q.2, ?_, hqo.ones, ?_⟩
    · rw [hqo.sl]
      have hc := hqo.cells
      have hmn : min 512 512 * 1 = 512 := rfl
      show slCells h2 q.1.2.1 (min 512 512 * 1) q.2
      rw [hmn]
      unfold slCells at hc ⊢
      cases hbs : q.1.2.1.base with
      | none => rw [hbs] at hc; exact hc
      | some a =>
        rw [hbs] at hc
        obtain ⟨n1, n2⟩ := hqo.ne a hbs
        refine ⟨hc.1, fun i v hv => ?_⟩
        rw [rd_same (h := h) (by rw [add_block]; exact hold _ n2 n1)]
        exact hc.2 i v hv
    · dsimp only
      have hoff : ob + q.1.1.toNat * 512 + 512 ≤ N := by omega
      obtain ⟨cs2, w1, w2, w3, w4, w5⟩ := Go.XS.wrs_at q.2 h2 B (ob + q.1.1.toNat * 512) 0 cs' el fr hB2 (by omega)
      simp only [Nat.add_zero] at w3
      refine ⟨Go.XS.room_at hB2 s7 hfr (by omega), ?_⟩
      refine ⟨⟨S ++ [q], clk, cs2, ?_, ?_, ?_, Nat.le_refl _, ?_, w1, by omega, ?_, ?_⟩, ?_⟩
      · rw [List.nodup_append]
        refine ⟨s1, by simp, fun a ha b hb => ?_⟩
        simp at hb; subst hb
        intro e; subst e; exact hqS ha
      · intro x hx
        rcases List.mem_append.1 hx with hx | hx
        · exact s2 x hx
        · simp at hx; rw [hx]; exact hq
      · rw [w4]; exact hsz2
      · rw [w5 _ (by omega), hiter]
        simp
      · intro j hj
        rw [List.map_append, List.foldl_append]
        simp only [List.map_cons, List.map_nil, List.foldl_cons, List.foldl_nil]
        rw [← Array.getElem?_toList, w3]
        have hj8 := s8 j hj
        rw [← Array.getElem?_toList] at hj8
        have hl' : cs'.toList.length = N := by simp [s7]
        by_cases hc : ob + q.1.1.toNat * 512 ≤ j ∧ j < ob + q.1.1.toNat * 512 + 512
        · rw [ovF_in _ _ (by simp only [flT, hlen]; exact hc), List.getElem?_append_right (by rw [List.length_take]; omega), List.length_take, List.getElem?_append_left (by omega)]
          have : j - min (ob + q.1.1.toNat * 512) cs'.toList.length = j - (ob + q.1.1.toNat * 512) := by omega
          rw [this]
          simp only [flT]
          rw [List.getElem?_eq_getElem (by omega)]; rfl
        · rw [ovF_out _ _ (by simp only [flT, hlen]; exact hc)]
          rw [← hj8]
          by_cases hlt : j < ob + q.1.1.toNat * 512
          · rw [List.getElem?_append_left (by rw [List.length_take]; omega), List.getElem?_take, if_pos hlt]
          · rw [List.getElem?_append_right (by rw [List.length_take]; omega), List.getElem?_append_right (by rw [List.length_take]; omega), List.getElem?_drop]
            congr 1
            rw [List.length_take]; omega
      · intro x hx hne
        rw [w5 x hne]; exact hold x hx hne
      · rw [s5, w5 _ (by omega), hiter]
        have := left_shrinks _ _ _ he
        exact this
end Go.TS
