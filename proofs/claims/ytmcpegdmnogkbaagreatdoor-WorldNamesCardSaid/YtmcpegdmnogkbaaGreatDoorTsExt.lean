/- The layer 'TS': what the functions ask that the printer does not print. -/
import Derived.Test.YtmcpegdmnogkbaaGreatDoorTsDefs
set_option linter.unusedSimpArgs false
set_option linter.unusedVariables false
namespace Go.TS
open Go
/-- slices.overlaps of two slices that lie in different blocks -/
def slices_overlaps_int (τ : Nat → Nat) (s1 : Sl) (s2 : Sl) (h : Mem) (K : Bool → Mem → Prop) : Prop :=
  ∃ a b c e c' e', s1.base = some a ∧ s2.base = some b ∧ a.block ≠ b.block ∧ h[a.block]? = some (.cells c e (0, 0)) ∧ h[b.block]? = some (.cells c' e' (0, 0)) ∧ c'.size ≠ 0 ∧ K false h
abbrev slices_overlaps_api_Ref (τ : Nat → Nat) (s1 : Sl) (s2 : Sl) (h : Mem) (K : Bool → Mem → Prop) : Prop := slices_overlaps_int τ s1 s2 h K
abbrev slices_overlaps_api_Reg (τ : Nat → Nat) (s1 : Sl) (s2 : Sl) (h : Mem) (K : Bool → Mem → Prop) : Prop := slices_overlaps_int τ s1 s2 h K
abbrev slices_overlaps_api_Pair (τ : Nat → Nat) (s1 : Sl) (s2 : Sl) (h : Mem) (K : Bool → Mem → Prop) : Prop := slices_overlaps_int τ s1 s2 h K
end Go.TS
/- stubs -/
namespace Go.TS
open Go

end Go.TS
/- The readable functions. -/
namespace Go.TS
open Go
set_option linter.unusedVariables false
def slices_Clone_byte_byte (τ : Nat → Nat) (s1 : Sl) (h : Mem) (K : Sl → Mem → Prop) : Prop :=
  ifB (s1.base.isNone) (
    K (⟨none, 0, 0⟩ : Sl) h)
  (al (.cells #[] (τ 0)) h fun q3 h =>
  app (τ 0) #[(Value.int .u8 0)] 1 1 (⟨(some (⟨q3, 0, none⟩ : Addr)), 0, 0⟩ : Sl) s1 h fun s4 h =>
  K s4 h)

def slices_Grow_byte_byte (τ : Nat → Nat) (s1 : Sl) (n2 : Int) (h : Mem) (K : Sl → Mem → Prop) : Prop :=
  ifB (decide (n2 < 0)) (
    False)
  (let J1 : Sl → Mem → Prop := (fun s7 h =>
    K s7 h);
  ifB (decide ((IntKind.i64.wrap (n2 - (IntKind.i64.wrap ((s1.cap : Int) - (s1.len : Int))))) > 0)) (
    slc s1 0 (s1.cap : Int) 1 fun s4 =>
    app0 (τ 0) #[(Value.int .u8 0)] 1 1 s4 (IntKind.i64.wrap (n2 - (IntKind.i64.wrap ((s1.cap : Int) - (s1.len : Int))))) h fun s5 h =>
    slc s5 0 (s1.len : Int) 1 fun s6 =>
    J1 s6 h)
  (J1 s1 h))

def slices_Concat_byte_byte (τ : Nat → Nat) (s1 : Sl) (h : Mem) (K : Sl → Mem → Prop) : Prop :=
  LoopP (σ := Int × Int) (fun nx1 l1 h =>
    ifB (decide (l1.2 < (s1.len : Int))) (
      ixS s1 l1.2 1 fun a3 =>
    ld (.sl) a3 h fun s4 =>
    ifB (decide ((IntKind.i64.wrap (l1.1 + (s4.len : Int))) < 0)) (
      False)
    (nx1 ((IntKind.i64.wrap (l1.1 + (s4.len : Int))), (IntKind.i64.wrap (l1.2 + 1))) h))
    (slices_Grow_byte_byte τ (⟨none, 0, 0⟩ : Sl) l1.1 h fun s5 h =>
  LoopP (σ := Sl × Int) (fun nx2 l2 h =>
    ifB (decide (l2.2 < (s1.len : Int))) (
      ixS s1 l2.2 1 fun a6 =>
    ld (.sl) a6 h fun s7 =>
    app (τ 0) #[(Value.int .u8 0)] 1 1 l2.1 s7 h fun s8 h =>
    nx2 (s8, (IntKind.i64.wrap (l2.2 + 1))) h)
    (K l2.1 h)) (s5, 0) h)) (0, 0) h

def octet_Word (τ : Nat → Nat) (s1 : Sl) (n2 : Int) (n3 : Int) (h : Mem) (K : Sl → Mem → Prop) : Prop :=
  let J1 : Bool → Mem → Prop := (fun b5 h =>
    ifB b5 (
      LoopP (σ := Int × Sl × Int) (fun nx1 l1 h =>
    ifB (decide (l1.2.2 < n3)) (
      al (.cells #[(Value.int .u8 (IntKind.u8.wrap l1.1))] (τ 0)) h fun q7 h =>
    app (τ 0) #[(Value.int .u8 0)] 1 1 l1.2.1 (⟨(some (⟨q7, 0, none⟩ : Addr)), 1, 1⟩ : Sl) h fun s8 h =>
    nx1 ((l1.1.fdiv (2 ^ 8)), s8, (IntKind.i64.wrap (l1.2.2 + 1))) h)
    (al (.cells #[(Value.slice s1.base s1.len s1.cap), (Value.slice l1.2.1.base l1.2.1.len l1.2.1.cap)] (τ 6)) h fun q9 h =>
  slices_Concat_byte_byte τ (⟨(some (⟨q9, 0, none⟩ : Addr)), 2, 2⟩ : Sl) h fun s10 h =>
  K s10 h)) (n2, (⟨none, 0, 0⟩ : Sl), 0) h)
    (slices_Clone_byte_byte τ s1 h fun s6 h =>
    K s6 h));
  ifB (n3 == 2) (
    J1 (n3 == 2) h)
  (ifB (n3 == 4) (
    J1 (n3 == 4) h)
  (J1 (n3 == 8) h))

def slices_Grow_int_int (τ : Nat → Nat) (s1 : Sl) (n2 : Int) (h : Mem) (K : Sl → Mem → Prop) : Prop :=
  ifB (decide (n2 < 0)) (
    False)
  (let J1 : Sl → Mem → Prop := (fun s7 h =>
    K s7 h);
  ifB (decide ((IntKind.i64.wrap (n2 - (IntKind.i64.wrap ((s1.cap : Int) - (s1.len : Int))))) > 0)) (
    slc s1 0 (s1.cap : Int) 1 fun s4 =>
    app0 (τ 7) #[(Value.int .i64 0)] 1 8 s4 (IntKind.i64.wrap (n2 - (IntKind.i64.wrap ((s1.cap : Int) - (s1.len : Int))))) h fun s5 h =>
    slc s5 0 (s1.len : Int) 1 fun s6 =>
    J1 s6 h)
  (J1 s1 h))

def slices_Concat_int_int (τ : Nat → Nat) (s1 : Sl) (h : Mem) (K : Sl → Mem → Prop) : Prop :=
  LoopP (σ := Int × Int) (fun nx1 l1 h =>
    ifB (decide (l1.2 < (s1.len : Int))) (
      ixS s1 l1.2 1 fun a3 =>
    ld (.sl) a3 h fun s4 =>
    ifB (decide ((IntKind.i64.wrap (l1.1 + (s4.len : Int))) < 0)) (
      False)
    (nx1 ((IntKind.i64.wrap (l1.1 + (s4.len : Int))), (IntKind.i64.wrap (l1.2 + 1))) h))
    (slices_Grow_int_int τ (⟨none, 0, 0⟩ : Sl) l1.1 h fun s5 h =>
  LoopP (σ := Sl × Int) (fun nx2 l2 h =>
    ifB (decide (l2.2 < (s1.len : Int))) (
      ixS s1 l2.2 1 fun a6 =>
    ld (.sl) a6 h fun s7 =>
    app (τ 7) #[(Value.int .i64 0)] 1 8 l2.1 s7 h fun s8 h =>
    nx2 (s8, (IntKind.i64.wrap (l2.2 + 1))) h)
    (K l2.1 h)) (s5, 0) h)) (0, 0) h

def sector_Disk_made (τ : Nat → Nat) (p1 : Option Addr) (h : Mem) (K : Bool → Mem → Prop) : Prop :=
  let J1 : Bool → Mem → Prop := (fun b5 h =>
    K b5 h);
  ifB (!(p1.isNone)) (
    nn p1 fun a3 =>
    ld (.map) (a3.add 1) h fun m4 =>
    J1 (!(m4.isNone)) h)
  (J1 false h)

def sector_Disk_fails (τ : Nat → Nat) (p1 : Option Addr) (h : Mem) (K : Bool → Mem → Prop) : Prop :=
  nn p1 fun a3 =>
  ld (.ptr) (a3.add 3) h fun p4 =>
  ifB (p4.isNone) (
    K false h)
  (nn p1 fun a5 =>
  ld (.ptr) (a5.add 3) h fun p6 =>
  nn p6 fun a7 =>
  ld (.int .i64) a7 h fun n8 =>
  ifB (decide (n8 > 0)) (
    nn p1 fun a9 =>
    ld (.ptr) (a9.add 3) h fun p10 =>
    nn p10 fun a11 =>
    ld (.int .i64) a11 h fun n12 =>
    nn p10 fun a13 =>
    st a13 (Value.int .i64 (IntKind.i64.wrap (n12 - 1))) h fun h =>
    K false h)
  (nn p1 fun a14 =>
  st (a14.add 3) (Value.pointer none) h fun h =>
  K true h))

def sector_Disk_sector (τ : Nat → Nat) (p1 : Option Addr) (n2 : Int) (h : Mem) (K : Sl → Mem → Prop) : Prop :=
  nn p1 fun a4 =>
  ld (.sl) a4 h fun s5 =>
  slc s5 (IntKind.i64.wrap (n2 * 512)) (IntKind.i64.wrap ((IntKind.i64.wrap (n2 + 1)) * 512)) 1 fun s6 =>
  K s6 h

def sector_Disk_Flush (τ : Nat → Nat) (p1 : Option Addr) (h : Mem) (K : Int → Mem → Prop) : Prop :=
  sector_Disk_made τ p1 h fun b3 h =>
  ifB (!b3) (
    K 1 h)
  (sector_Disk_fails τ p1 h fun b4 h =>
  ifB b4 (
    K 8 h)
  (nn p1 fun a5 =>
  ld (.map) (a5.add 1) h fun m6 =>
  nm m6 fun r7 =>
  rng r7 h fun q8 h =>
  LoopP (σ := Unit) (fun nx1 l1 h =>
    let J1 : Bool → Mem → Prop := (fun b11 h =>
      ifB b11 (
        ent q8 h fun k12 v13 =>
      ∃ n14 : Int, some k12 = some (Value.int .i64 n14) ∧
      (
      ∃ s15 : Sl, some v13 = some (Value.slice s15.base s15.len s15.cap) ∧
      (
      sector_Disk_sector τ p1 n14 h fun s16 h =>
      cpy 1 s16 s15 h fun k17 h =>
      nx1 () h)))
      (nn p1 fun a18 =>
  ld (.map) (a18.add 1) h fun m19 =>
  nm m19 fun r20 =>
  mclr r20 h fun h =>
  nn p1 fun a21 =>
  st (a21.add 2) (Value.slice none 0 0) h fun h =>
  K 0 h));
    nxt q8 h (fun h =>
      J1 false h)
    (fun k9 v10 h =>
      J1 true h)) () h))

def crc_On (τ : Nat → Nat) (c1 : Array Value) (n2 : Int) (s3 : Sl) (h : Mem) (K : Int → Mem → Prop) : Prop :=
  al (.cells c1 (τ 9)) h fun q5 h =>
  LoopP (σ := Int × Int) (fun nx1 l1 h =>
    ifB (decide (l1.2 < (s3.len : Int))) (
      ixS s3 l1.2 1 fun a6 =>
    ld (.int .u8) a6 h fun n7 =>
    ixA (⟨q5, 0, none⟩ : Addr) 256 (bits .xor .u8 (IntKind.u8.wrap l1.1) n7) 1 fun a8 =>
    ld (.int .u32) a8 h fun n9 =>
    nx1 ((bits .xor .u32 n9 (l1.1.fdiv (2 ^ 8))), (IntKind.i64.wrap (l1.2 + 1))) h)
    (K (bits .xor .u32 4294967295 l1.1) h)) ((bits .xor .u32 4294967295 n2), 0) h

def crc_on (τ : Nat → Nat) (c1 : Array Value) (s2 : Sl) (h : Mem) (K : Int → Mem → Prop) : Prop :=
  al (.cells c1 (τ 9)) h fun q4 h =>
  LoopP (σ := Int × Int) (fun nx1 l1 h =>
    ifB (decide (l1.2 < (s2.len : Int))) (
      ixS s2 l1.2 1 fun a5 =>
    ld (.sl) a5 h fun s6 =>
    ldA 256 (⟨q4, 0, none⟩ : Addr) h fun c7 =>
    crc_On τ c7 l1.1 s6 h fun n8 h =>
    nx1 (n8, (IntKind.i64.wrap (l1.2 + 1))) h)
    (K l1.1 h)) (0, 0) h

def crc_Table (τ : Nat → Nat) (h : Mem) (K : Array Value → Mem → Prop) : Prop :=
  al (.cells (Array.replicate 256 (Value.int .u32 0)) (τ 9)) h fun q2 h =>
  LoopP (σ := Int) (fun nx1 l1 h =>
    ifB (decide (l1 < 256)) (
      LoopP (σ := Int × Int) (fun nx2 l2 h =>
      ifB (decide (l2.2 < 8)) (
        let J1 : Int → Mem → Prop := (fun n3 h =>
        nx2 (n3, (IntKind.i64.wrap (l2.2 + 1))) h);
      ifB ((bits .and .u32 l2.1 1) == 1) (
        J1 (bits .xor .u32 (l2.1.fdiv (2 ^ 1)) 2197175160) h)
      (J1 (l2.1.fdiv (2 ^ 1)) h))
      (ixA (⟨q2, 0, none⟩ : Addr) 256 l1 1 fun a4 =>
    st a4 (Value.int .u32 l2.1) h fun h =>
    nx1 (IntKind.i64.wrap (l1 + 1)) h)) ((IntKind.u32.wrap l1), 0) h)
    (ldA 256 (⟨q2, 0, none⟩ : Addr) h fun c5 =>
  (c5).size = 256 ∧ stA (c5).toList (⟨q2, 0, none⟩ : Addr) h fun h =>
  ldA 256 (⟨q2, 0, none⟩ : Addr) h fun c6 =>
  K c6 h)) 0 h

def crc_Parts (τ : Nat → Nat) (s1 : Sl) (h : Mem) (K : Int → Mem → Prop) : Prop :=
  crc_Table τ  h fun c3 h =>
  crc_on τ c3 s1 h fun n4 h =>
  K n4 h

def page_crcOf (τ : Nat → Nat) (s1 : Sl) (h : Mem) (K : Int → Mem → Prop) : Prop :=
  slc s1 0 12 1 fun s3 =>
  slc s1 16 (s1.len : Int) 1 fun s4 =>
  mks (τ 0) #[(Value.int .u8 0)] 1 1 4 4 h fun s5 h =>
  al (.cells #[(Value.slice s3.base s3.len s3.cap), (Value.slice s5.base s5.len s5.cap), (Value.slice s4.base s4.len s4.cap)] (τ 6)) h fun q6 h =>
  crc_Parts τ (⟨(some (⟨q6, 0, none⟩ : Addr)), 3, 3⟩ : Sl) h fun n7 h =>
  K n7 h

def page_Bytes (τ : Nat → Nat) (n1 : Int) (n2 : Int) (s3 : Sl) (h : Mem) (K : Sl → Int → Mem → Prop) : Prop :=
  al (.cells #[(Value.int .i64 n1), (Value.int .u32 n2), (Value.slice s3.base s3.len s3.cap)] (τ 10)) h fun q6 h =>
  let J1 : Bool → Mem → Prop := (fun b10 h =>
    ifB b10 (
      K (⟨none, 0, 0⟩ : Sl) 2 h)
    (ld (.int .i64) (⟨q6, 0, none⟩ : Addr) h fun n11 =>
  al (.cells #[(Value.int .u8 84), (Value.int .u8 77), (Value.int .u8 1), (Value.int .u8 (IntKind.u8.wrap n11))] (τ 0)) h fun q12 h =>
  ld (.int .u32) (⟨q6, 1, none⟩ : Addr) h fun n13 =>
  octet_Word τ (⟨(some (⟨q12, 0, none⟩ : Addr)), 4, 4⟩ : Sl) (IntKind.u64.wrap n13) 4 h fun s14 h =>
  app0 (τ 0) #[(Value.int .u8 0)] 1 1 s14 (IntKind.i64.wrap (4096 - (s14.len : Int))) h fun s15 h =>
  slc s15 16 (s15.len : Int) 1 fun s16 =>
  ld (.sl) (⟨q6, 2, none⟩ : Addr) h fun s17 =>
  cpy 1 s16 s17 h fun k18 h =>
  slc s15 12 16 1 fun s19 =>
  page_crcOf τ s15 h fun n20 h =>
  octet_Word τ (⟨none, 0, 0⟩ : Sl) (IntKind.u64.wrap n20) 4 h fun s21 h =>
  cpy 1 s19 s21 h fun k22 h =>
  K s15 0 h));
  ld (.int .i64) (⟨q6, 0, none⟩ : Addr) h fun n7 =>
  ifB (decide (n7 < 1)) (
    J1 true h)
  (ld (.int .i64) (⟨q6, 0, none⟩ : Addr) h fun n8 =>
  ifB (decide (n8 > 7)) (
    J1 true h)
  (ld (.sl) (⟨q6, 2, none⟩ : Addr) h fun s9 =>
  J1 (decide ((s9.len : Int) > 4080)) h))

def slices_Delete_int_int (τ : Nat → Nat) (s1 : Sl) (n2 : Int) (n3 : Int) (h : Mem) (K : Sl → Mem → Prop) : Prop :=
  slc3 s1 n2 n3 (s1.len : Int) 1 fun s5 =>
  ifB (n2 == n3) (
    K s1 h)
  (slc s1 0 n2 1 fun s6 =>
  slc s1 n3 (s1.len : Int) 1 fun s7 =>
  app (τ 7) #[(Value.int .i64 0)] 1 8 s6 s7 h fun s8 h =>
  slc s8 (s8.len : Int) (s1.len : Int) 1 fun s9 =>
  clr #[(Value.int .i64 0)] s9 h fun h =>
  K s8 h)

def slices_Clone_int_int (τ : Nat → Nat) (s1 : Sl) (h : Mem) (K : Sl → Mem → Prop) : Prop :=
  ifB (s1.base.isNone) (
    K (⟨none, 0, 0⟩ : Sl) h)
  (al (.cells #[] (τ 7)) h fun q3 h =>
  app (τ 7) #[(Value.int .i64 0)] 1 8 (⟨(some (⟨q3, 0, none⟩ : Addr)), 0, 0⟩ : Sl) s1 h fun s4 h =>
  K s4 h)

def octet_Number (τ : Nat → Nat) (s1 : Sl) (n2 : Int) (h : Mem) (K : Sl → Mem → Prop) : Prop :=
  slices_Clone_byte_byte τ s1 h fun s4 h =>
  LoopP (σ := Sl × Int) (fun nx1 l1 h =>
    ifB (decide (l1.2 ≥ 128)) (
      al (.cells #[(Value.int .u8 (bits .or .u8 (IntKind.u8.wrap l1.2) 128))] (τ 0)) h fun q5 h =>
    app (τ 0) #[(Value.int .u8 0)] 1 1 l1.1 (⟨(some (⟨q5, 0, none⟩ : Addr)), 1, 1⟩ : Sl) h fun s6 h =>
    nx1 (s6, (l1.2.fdiv (2 ^ 7))) h)
    (al (.cells #[(Value.int .u8 (IntKind.u8.wrap l1.2))] (τ 0)) h fun q7 h =>
  app (τ 0) #[(Value.int .u8 0)] 1 1 l1.1 (⟨(some (⟨q7, 0, none⟩ : Addr)), 1, 1⟩ : Sl) h fun s8 h =>
  K s8 h)) (s4, n2) h

def slices_Reverse_int_int (τ : Nat → Nat) (s1 : Sl) (h : Mem) (K : Mem → Prop) : Prop :=
  LoopP (σ := Int × Int) (fun nx1 l1 h =>
    ifB (decide (l1.1 < l1.2)) (
      ixS s1 l1.2 1 fun a2 =>
    ld (.int .i64) a2 h fun n3 =>
    ixS s1 l1.1 1 fun a4 =>
    ld (.int .i64) a4 h fun n5 =>
    ixS s1 l1.1 1 fun a6 =>
    st a6 (Value.int .i64 n3) h fun h =>
    ixS s1 l1.2 1 fun a7 =>
    st a7 (Value.int .i64 n5) h fun h =>
    nx1 ((IntKind.i64.wrap (l1.1 + 1)), (IntKind.i64.wrap (l1.2 - 1))) h)
    (K h)) (0, (IntKind.i64.wrap ((s1.len : Int) - 1))) h

def slices_rotateLeft_int (τ : Nat → Nat) (s1 : Sl) (n2 : Int) (h : Mem) (K : Mem → Prop) : Prop :=
  slc s1 0 n2 1 fun s3 =>
  slices_Reverse_int_int τ s3 h fun  h =>
  slc s1 n2 (s1.len : Int) 1 fun s4 =>
  slices_Reverse_int_int τ s4 h fun  h =>
  slices_Reverse_int_int τ s1 h fun  h =>
  K h

def slices_rotateRight_int (τ : Nat → Nat) (s1 : Sl) (n2 : Int) (h : Mem) (K : Mem → Prop) : Prop :=
  slices_rotateLeft_int τ s1 (IntKind.i64.wrap ((s1.len : Int) - n2)) h fun  h =>
  K h

def slices_Insert_int_int (τ : Nat → Nat) (s1 : Sl) (n2 : Int) (s3 : Sl) (h : Mem) (K : Sl → Mem → Prop) : Prop :=
  slc s1 n2 (s1.len : Int) 1 fun s5 =>
  ifB ((s3.len : Int) == 0) (
    K s1 h)
  (ifB (n2 == (s1.len : Int)) (
    app (τ 7) #[(Value.int .i64 0)] 1 8 s1 s3 h fun s6 h =>
    K s6 h)
  (ifB (decide ((IntKind.i64.wrap ((s1.len : Int) + (s3.len : Int))) > (s1.cap : Int))) (
    slc s1 0 n2 1 fun s7 =>
    app0 (τ 7) #[(Value.int .i64 0)] 1 8 s7 (IntKind.i64.wrap ((IntKind.i64.wrap ((s1.len : Int) + (s3.len : Int))) - n2)) h fun s8 h =>
    slc s8 n2 (s8.len : Int) 1 fun s9 =>
    cpy 1 s9 s3 h fun k10 h =>
    slc s8 (IntKind.i64.wrap (n2 + (s3.len : Int))) (s8.len : Int) 1 fun s11 =>
    slc s1 n2 (s1.len : Int) 1 fun s12 =>
    cpy 1 s11 s12 h fun k13 h =>
    K s8 h)
  (slc s1 0 (IntKind.i64.wrap ((s1.len : Int) + (s3.len : Int))) 1 fun s14 =>
  slc s14 (IntKind.i64.wrap (n2 + (s3.len : Int))) (s14.len : Int) 1 fun s15 =>
  slices_overlaps_int τ s3 s15 h fun b16 h =>
  ifB (!b16) (
    slc s14 (IntKind.i64.wrap (n2 + (s3.len : Int))) (s14.len : Int) 1 fun s17 =>
    slc s14 n2 (s14.len : Int) 1 fun s18 =>
    cpy 1 s17 s18 h fun k19 h =>
    slc s14 n2 (s14.len : Int) 1 fun s20 =>
    cpy 1 s20 s3 h fun k21 h =>
    K s14 h)
  (slc s14 (s1.len : Int) (s14.len : Int) 1 fun s22 =>
  cpy 1 s22 s3 h fun k23 h =>
  slc s14 n2 (s14.len : Int) 1 fun s24 =>
  slices_rotateRight_int τ s24 (s3.len : Int) h fun  h =>
  K s14 h))))

def slots_noughts (τ : Nat → Nat) (s1 : Sl) (h : Mem) (K : Bool → Mem → Prop) : Prop :=
  LoopP (σ := Int) (fun nx1 l1 h =>
    ifB (decide (l1 < (s1.len : Int))) (
      ixS s1 l1 1 fun a3 =>
    ld (.int .u8) a3 h fun n4 =>
    ifB (n4 != 0) (
      K false h)
    (nx1 (IntKind.i64.wrap (l1 + 1)) h))
    (K true h)) 0 h
def bytes_trimRightByte (τ : Nat → Nat) (s1 : Sl) (n2 : Int) (h : Mem) (K : Sl → Mem → Prop) : Prop :=
  LoopP (σ := Sl) (fun nx1 l1 h =>
    let J1 : Bool → Mem → Prop := (fun b6 h =>
      ifB b6 (
        slc l1 0 (IntKind.i64.wrap ((l1.len : Int) - 1)) 1 fun s7 =>
    nx1 s7 h)
      (K l1 h));
    ifB (decide ((l1.len : Int) > 0)) (
      ixS l1 (IntKind.i64.wrap ((l1.len : Int) - 1)) 1 fun a4 =>
      ld (.int .u8) a4 h fun n5 =>
      J1 (n5 == n2) h)
    (J1 false h)) s1 h

def sector_Disk_Sectors (τ : Nat → Nat) (p1 : Option Addr) (h : Mem) (K : Int → Mem → Prop) : Prop :=
  sector_Disk_made τ p1 h fun b3 h =>
  ifB (!b3) (
    K 0 h)
  (nn p1 fun a4 =>
  ld (.sl) a4 h fun s5 =>
  K (IntKind.i64.wrap ((s5.len : Int).tdiv 512)) h)

def octet_New (τ : Nat → Nat) (s1 : Sl) (h : Mem) (K : Option Addr → Mem → Prop) : Prop :=
  slices_Clone_byte_byte τ s1 h fun s3 h =>
  al (.cells #[(Value.slice s3.base s3.len s3.cap), (Value.int .i64 0), (Value.int .i64 0), (Value.bool true)] (τ 19)) h fun q4 h =>
  K (some (⟨q4, 0, none⟩ : Addr)) h

def octet_Reader_made (τ : Nat → Nat) (p1 : Option Addr) (h : Mem) (K : Bool → Mem → Prop) : Prop :=
  let J1 : Bool → Mem → Prop := (fun b5 h =>
    K b5 h);
  ifB (!(p1.isNone)) (
    nn p1 fun a3 =>
    ld (.bool) (a3.add 3) h fun b4 =>
    J1 b4 h)
  (J1 false h)

def octet_Reader_ready (τ : Nat → Nat) (p1 : Option Addr) (h : Mem) (K : Bool → Mem → Prop) : Prop :=
  let J1 : Bool → Mem → Prop := (fun b6 h =>
    K b6 h);
  octet_Reader_made τ p1 h fun b3 h =>
  ifB b3 (
    nn p1 fun a4 =>
    ld (.int .i64) (a4.add 2) h fun n5 =>
    J1 (n5 == 0) h)
  (J1 false h)

def octet_Reader_fail (τ : Nat → Nat) (p1 : Option Addr) (n2 : Int) (h : Mem) (K : Mem → Prop) : Prop :=
  nn p1 fun a3 =>
  st (a3.add 2) (Value.int .i64 n2) h fun h =>
  K h

def octet_Reader_Fixed (τ : Nat → Nat) (p1 : Option Addr) (n2 : Int) (h : Mem) (K : Sl → Mem → Prop) : Prop :=
  octet_Reader_ready τ p1 h fun b4 h =>
  ifB (!b4) (
    K (⟨none, 0, 0⟩ : Sl) h)
  (nn p1 fun a5 =>
  ld (.sl) a5 h fun s6 =>
  nn p1 fun a7 =>
  ld (.int .i64) (a7.add 1) h fun n8 =>
  ifB (decide ((mxI 0 n2) > (IntKind.i64.wrap ((s6.len : Int) - n8)))) (
    octet_Reader_fail τ p1 5 h fun  h =>
    K (⟨none, 0, 0⟩ : Sl) h)
  (nn p1 fun a9 =>
  ld (.sl) a9 h fun s10 =>
  nn p1 fun a11 =>
  ld (.int .i64) (a11.add 1) h fun n12 =>
  nn p1 fun a13 =>
  ld (.int .i64) (a13.add 1) h fun n14 =>
  slc s10 n12 (IntKind.i64.wrap (n14 + (mxI 0 n2))) 1 fun s15 =>
  al (.cells #[] (τ 0)) h fun q16 h =>
  rd h (a13.add 1) = some (Value.int .i64 n14) ∧
  rd h (a11.add 1) = some (Value.int .i64 n12) ∧
  rd h a9 = some (Value.slice s10.base s10.len s10.cap) ∧
  (
  app (τ 0) #[(Value.int .u8 0)] 1 1 (⟨(some (⟨q16, 0, none⟩ : Addr)), 0, 0⟩ : Sl) s15 h fun s17 h =>
  nn p1 fun a18 =>
  ld (.int .i64) (a18.add 1) h fun n19 =>
  nn p1 fun a20 =>
  st (a20.add 1) (Value.int .i64 (IntKind.i64.wrap (n19 + (mxI 0 n2)))) h fun h =>
  K s17 h)))

def octet_Reader_Word (τ : Nat → Nat) (p1 : Option Addr) (n2 : Int) (h : Mem) (K : Int → Mem → Prop) : Prop :=
  octet_Reader_ready τ p1 h fun b4 h =>
  ifB (!b4) (
    K 0 h)
  (let J1 : Bool → Mem → Prop := (fun b5 h =>
    ifB b5 (
      octet_Reader_Fixed τ p1 n2 h fun s6 h =>
  LoopP (σ := Int × Int) (fun nx1 l1 h =>
    ifB (decide (l1.2 < (s6.len : Int))) (
      ixS s6 l1.2 1 fun a7 =>
    ld (.int .u8) a7 h fun n8 =>
    ifB (decide (0 ≤ (IntKind.i64.wrap (8 * l1.2)))) (
      nx1 ((bits .or .u64 l1.1 (IntKind.u64.wrap ((IntKind.u64.wrap n8) * 2 ^ (min (IntKind.i64.wrap (8 * l1.2)).toNat 64)))), (IntKind.i64.wrap (l1.2 + 1))) h)
    False)
    (K l1.1 h)) (0, 0) h)
    (octet_Reader_fail τ p1 4 h fun  h =>
    K 0 h));
  ifB (n2 == 2) (
    J1 (n2 == 2) h)
  (ifB (n2 == 4) (
    J1 (n2 == 4) h)
  (J1 (n2 == 8) h)))

def index_Load_1 (τ : Nat → Nat) (n1 : Int) (h : Mem) (K : Bool → Mem → Prop) : Prop :=
  K (n1 != 0) h

def slices_IndexFunc_byte_byte (τ : Nat → Nat) (s1 : Sl) (h : Mem) (K : Int → Mem → Prop) : Prop :=
  LoopP (σ := Int) (fun nx1 l1 h =>
    ifB (decide (l1 < (s1.len : Int))) (
      ixS s1 l1 1 fun a3 =>
    ld (.int .u8) a3 h fun n4 =>
    index_Load_1 τ n4 h fun b5 h =>
    ifB b5 (
      K l1 h)
    (nx1 (IntKind.i64.wrap (l1 + 1)) h))
    (K (-1) h)) 0 h
def bucket_may (τ : Nat → Nat) (n1 : Int) (n2 : Int) (h : Mem) (K : Bool → Mem → Prop) : Prop :=
  al (.cells #[(Value.int .i64 n1), (Value.int .i64 n2)] (τ 22)) h fun q4 h =>
  let J1 : Bool → Mem → Prop := (fun b9 h =>
    K b9 h);
  ld (.int .i64) (⟨q4, 0, none⟩ : Addr) h fun n5 =>
  ifB (decide (n5 ≥ 0)) (
    ld (.int .i64) (⟨q4, 0, none⟩ : Addr) h fun n6 =>
    ifB (decide (n6 < 65536)) (
      ld (.int .i64) (⟨q4, 1, none⟩ : Addr) h fun n7 =>
      ifB (decide (n7 ≥ 0)) (
        ld (.int .i64) (⟨q4, 1, none⟩ : Addr) h fun n8 =>
        J1 (decide (n8 ≤ 1023)) h)
      (J1 false h))
    (J1 false h))
  (J1 false h)

def cmp_Or_int (τ : Nat → Nat) (s1 : Sl) (h : Mem) (K : Int → Mem → Prop) : Prop :=
  LoopP (σ := Int) (fun nx1 l1 h =>
    ifB (decide (l1 < (s1.len : Int))) (
      ixS s1 l1 1 fun a3 =>
    ld (.int .i64) a3 h fun n4 =>
    ifB (n4 != 0) (
      K n4 h)
    (nx1 (IntKind.i64.wrap (l1 + 1)) h))
    (K 0 h)) 0 h

def cmp_isNaN_uint64 (τ : Nat → Nat) (n1 : Int) (h : Mem) (K : Bool → Mem → Prop) : Prop :=
  K (n1 != n1) h

def cmp_Compare_uint64 (τ : Nat → Nat) (n1 : Int) (n2 : Int) (h : Mem) (K : Int → Mem → Prop) : Prop :=
  cmp_isNaN_uint64 τ n1 h fun b4 h =>
  cmp_isNaN_uint64 τ n2 h fun b5 h =>
  ifB b4 (
    ifB b5 (
      K 0 h)
    (K (-1) h))
  (ifB b5 (
    K 1 h)
  (ifB (decide (n1 < n2)) (
    K (-1) h)
  (ifB (decide (n1 > n2)) (
    K 1 h)
  (K 0 h))))

def cmp_isNaN_int (τ : Nat → Nat) (n1 : Int) (h : Mem) (K : Bool → Mem → Prop) : Prop :=
  K (n1 != n1) h

def cmp_Compare_int (τ : Nat → Nat) (n1 : Int) (n2 : Int) (h : Mem) (K : Int → Mem → Prop) : Prop :=
  cmp_isNaN_int τ n1 h fun b4 h =>
  cmp_isNaN_int τ n2 h fun b5 h =>
  ifB b4 (
    ifB b5 (
      K 0 h)
    (K (-1) h))
  (ifB b5 (
    K 1 h)
  (ifB (decide (n1 < n2)) (
    K (-1) h)
  (ifB (decide (n1 > n2)) (
    K 1 h)
  (K 0 h))))

def bucket_Compare (τ : Nat → Nat) (n1 : Int) (n2 : Int) (n3 : Int) (n4 : Int) (n5 : Int) (n6 : Int) (h : Mem) (K : Int → Mem → Prop) : Prop :=
  al (.cells #[(Value.int .u64 n1), (Value.int .i64 n2), (Value.int .i64 n3)] (τ 27)) h fun q8 h =>
  al (.cells #[(Value.int .u64 n4), (Value.int .i64 n5), (Value.int .i64 n6)] (τ 27)) h fun q9 h =>
  ld (.int .u64) (⟨q8, 0, none⟩ : Addr) h fun n10 =>
  ld (.int .u64) (⟨q9, 0, none⟩ : Addr) h fun n11 =>
  ld (.int .i64) (⟨q8, 1, none⟩ : Addr) h fun n12 =>
  ld (.int .i64) (⟨q9, 1, none⟩ : Addr) h fun n13 =>
  ld (.int .i64) (⟨q8, 2, none⟩ : Addr) h fun n14 =>
  ld (.int .i64) (⟨q9, 2, none⟩ : Addr) h fun n15 =>
  cmp_Compare_uint64 τ n10 n11 h fun n16 h =>
  rd h (⟨q9, 2, none⟩ : Addr) = some (Value.int .i64 n15) ∧
  rd h (⟨q8, 2, none⟩ : Addr) = some (Value.int .i64 n14) ∧
  rd h (⟨q9, 1, none⟩ : Addr) = some (Value.int .i64 n13) ∧
  rd h (⟨q8, 1, none⟩ : Addr) = some (Value.int .i64 n12) ∧
  (
  cmp_Compare_int τ n12 n13 h fun n17 h =>
  rd h (⟨q9, 2, none⟩ : Addr) = some (Value.int .i64 n15) ∧
  rd h (⟨q8, 2, none⟩ : Addr) = some (Value.int .i64 n14) ∧
  (
  cmp_Compare_int τ n14 n15 h fun n18 h =>
  al (.cells #[(Value.int .i64 n16), (Value.int .i64 n17), (Value.int .i64 n18)] (τ 7)) h fun q19 h =>
  cmp_Or_int τ (⟨(some (⟨q19, 0, none⟩ : Addr)), 3, 3⟩ : Sl) h fun n20 h =>
  K n20 h))

def bucket_Check (τ : Nat → Nat) (n1 : Int) (s2 : Sl) (h : Mem) (K : Int → Mem → Prop) : Prop :=
  al (.cells #[(Value.int .i64 n1), (Value.slice s2.base s2.len s2.cap)] (τ 28)) h fun q4 h =>
  let J1 : Bool → Mem → Prop := (fun b8 h =>
    ifB b8 (
      K 2 h)
    (ld (.sl) (⟨q4, 1, none⟩ : Addr) h fun s9 =>
  LoopP (σ := Int) (fun nx1 l1 h =>
    ifB (decide (l1 < (s9.len : Int))) (
      ixS s9 l1 3 fun a10 =>
    ld (.int .u64) a10 h fun n11 =>
    ld (.int .i64) (a10.add 1) h fun n12 =>
    ld (.int .i64) (a10.add 2) h fun n13 =>
    al (.cells #[(Value.int .u64 0), (Value.int .i64 0), (Value.int .i64 0)] (τ 27)) h fun q14 h =>
    st (⟨q14, 0, none⟩ : Addr) (Value.int .u64 n11) h fun h =>
    st (⟨q14, 1, none⟩ : Addr) (Value.int .i64 n12) h fun h =>
    st (⟨q14, 2, none⟩ : Addr) (Value.int .i64 n13) h fun h =>
    let J2 : Bool → Mem → Prop := (fun b27 h =>
      ifB b27 (
        K 2 h)
      (nx1 (IntKind.i64.wrap (l1 + 1)) h));
    ld (.int .i64) (⟨q14, 1, none⟩ : Addr) h fun n15 =>
    ld (.int .i64) (⟨q14, 2, none⟩ : Addr) h fun n16 =>
    bucket_may τ n15 n16 h fun b17 h =>
    ifB (!b17) (
      J2 true h)
    (ifB (decide (l1 > 0)) (
      ld (.sl) (⟨q4, 1, none⟩ : Addr) h fun s18 =>
      ixS s18 (IntKind.i64.wrap (l1 - 1)) 3 fun a19 =>
      ld (.int .u64) a19 h fun n20 =>
      ld (.int .i64) (a19.add 1) h fun n21 =>
      ld (.int .i64) (a19.add 2) h fun n22 =>
      ld (.int .u64) (⟨q14, 0, none⟩ : Addr) h fun n23 =>
      ld (.int .i64) (⟨q14, 1, none⟩ : Addr) h fun n24 =>
      ld (.int .i64) (⟨q14, 2, none⟩ : Addr) h fun n25 =>
      bucket_Compare τ n20 n21 n22 n23 n24 n25 h fun n26 h =>
      J2 (decide (n26 ≥ 0)) h)
    (J2 false h)))
    (K 0 h)) 0 h));
  ld (.sl) (⟨q4, 1, none⟩ : Addr) h fun s5 =>
  ifB (decide ((s5.len : Int) > 290)) (
    J1 true h)
  (ld (.int .i64) (⟨q4, 0, none⟩ : Addr) h fun n6 =>
  ifB (decide (n6 < 0)) (
    J1 true h)
  (ld (.int .i64) (⟨q4, 0, none⟩ : Addr) h fun n7 =>
  J1 (decide (n7 > 65536)) h))

def octet_Reader_Left (τ : Nat → Nat) (p1 : Option Addr) (h : Mem) (K : Int → Mem → Prop) : Prop :=
  octet_Reader_made τ p1 h fun b3 h =>
  ifB (!b3) (
    K 0 h)
  (nn p1 fun a4 =>
  ld (.sl) a4 h fun s5 =>
  nn p1 fun a6 =>
  ld (.int .i64) (a6.add 1) h fun n7 =>
  K (IntKind.i64.wrap ((s5.len : Int) - n7)) h)

def octet_Reader_Err (τ : Nat → Nat) (p1 : Option Addr) (h : Mem) (K : Int → Mem → Prop) : Prop :=
  octet_Reader_made τ p1 h fun b3 h =>
  ifB (!b3) (
    K 1 h)
  (nn p1 fun a4 =>
  ld (.int .i64) (a4.add 2) h fun n5 =>
  K n5 h)

def bucket_Read (τ : Nat → Nat) (s1 : Sl) (h : Mem) (K : Int → Sl → Int → Mem → Prop) : Prop :=
  al (.cells #[(Value.int .i64 0), (Value.slice none 0 0)] (τ 28)) h fun q5 h =>
  octet_New τ s1 h fun p6 h =>
  octet_Reader_Word τ p6 4 h fun n7 h =>
  al (.cells #[(Value.int .i64 0), (Value.slice none 0 0)] (τ 28)) h fun q8 h =>
  st (⟨q8, 0, none⟩ : Addr) (Value.int .i64 (IntKind.i64.wrap n7)) h fun h =>
  st (⟨q8, 1, none⟩ : Addr) (Value.slice none 0 0) h fun h =>
  octet_Reader_Word τ p6 2 h fun n9 h =>
  LoopP (σ := Int) (fun nx1 l1 h =>
    let J1 : Bool → Mem → Prop := (fun b11 h =>
      ifB b11 (
        ld (.sl) (⟨q8, 1, none⟩ : Addr) h fun s12 =>
    octet_Reader_Word τ p6 8 h fun n13 h =>
    rd h (⟨q8, 1, none⟩ : Addr) = some (Value.slice s12.base s12.len s12.cap) ∧
    (
    octet_Reader_Word τ p6 4 h fun n14 h =>
    rd h (⟨q8, 1, none⟩ : Addr) = some (Value.slice s12.base s12.len s12.cap) ∧
    (
    octet_Reader_Word τ p6 2 h fun n15 h =>
    rd h (⟨q8, 1, none⟩ : Addr) = some (Value.slice s12.base s12.len s12.cap) ∧
    (
    al (.cells #[(Value.int .u64 n13), (Value.int .i64 (IntKind.i64.wrap n14)), (Value.int .i64 (IntKind.i64.wrap n15))] (τ 27)) h fun q16 h =>
    rd h (⟨q8, 1, none⟩ : Addr) = some (Value.slice s12.base s12.len s12.cap) ∧
    (
    app (τ 27) #[(Value.int .u64 0), (Value.int .i64 0), (Value.int .i64 0)] 3 24 s12 (⟨(some (⟨q16, 0, none⟩ : Addr)), 1, 1⟩ : Sl) h fun s17 h =>
    st (⟨q8, 1, none⟩ : Addr) (Value.slice s17.base s17.len s17.cap) h fun h =>
    nx1 (IntKind.u64.wrap (l1 - 1)) h)))))
      (let J2 : Bool → Mem → Prop := (fun b22 h =>
    ifB b22 (
      st (⟨q5, 0, none⟩ : Addr) (Value.int .i64 0) h fun h =>
      st (⟨q5, 1, none⟩ : Addr) (Value.slice none 0 0) h fun h =>
      ld (.int .i64) (⟨q5, 0, none⟩ : Addr) h fun n23 =>
      ld (.sl) (⟨q5, 1, none⟩ : Addr) h fun s24 =>
      K n23 s24 4 h)
    (octet_Reader_Left τ p6 h fun n25 h =>
  slc s1 (IntKind.i64.wrap ((s1.len : Int) - n25)) (s1.len : Int) 1 fun s26 =>
  LoopP (σ := Int) (fun nx2 l2 h =>
    ifB (decide (l2 < (s26.len : Int))) (
      ixS s26 l2 1 fun a27 =>
    ld (.int .u8) a27 h fun n28 =>
    ifB (n28 != 0) (
      st (⟨q5, 0, none⟩ : Addr) (Value.int .i64 0) h fun h =>
      st (⟨q5, 1, none⟩ : Addr) (Value.slice none 0 0) h fun h =>
      ld (.int .i64) (⟨q5, 0, none⟩ : Addr) h fun n29 =>
      ld (.sl) (⟨q5, 1, none⟩ : Addr) h fun s30 =>
      K n29 s30 4 h)
    (nx2 (IntKind.i64.wrap (l2 + 1)) h))
    (ld (.int .i64) (⟨q8, 0, none⟩ : Addr) h fun n31 =>
  ld (.sl) (⟨q8, 1, none⟩ : Addr) h fun s32 =>
  st (⟨q5, 0, none⟩ : Addr) (Value.int .i64 n31) h fun h =>
  st (⟨q5, 1, none⟩ : Addr) (Value.slice s32.base s32.len s32.cap) h fun h =>
  ld (.int .i64) (⟨q5, 0, none⟩ : Addr) h fun n33 =>
  ld (.sl) (⟨q5, 1, none⟩ : Addr) h fun s34 =>
  K n33 s34 0 h)) 0 h));
  octet_Reader_Err τ p6 h fun n18 h =>
  ifB (n18 != 0) (
    J2 true h)
  (ld (.int .i64) (⟨q8, 0, none⟩ : Addr) h fun n19 =>
  ld (.sl) (⟨q8, 1, none⟩ : Addr) h fun s20 =>
  bucket_Check τ n19 s20 h fun n21 h =>
  J2 (n21 != 0) h)));
    ifB (decide (l1 > 0)) (
      octet_Reader_Err τ p6 h fun n10 h =>
      J1 (n10 == 0) h)
    (J1 false h)) n9 h

def slices_Reverse_api_Ref_api_Ref (τ : Nat → Nat) (s1 : Sl) (h : Mem) (K : Mem → Prop) : Prop :=
  LoopP (σ := Int × Int) (fun nx1 l1 h =>
    ifB (decide (l1.1 < l1.2)) (
      ixS s1 l1.2 3 fun a2 =>
    ld (.int .u64) a2 h fun n3 =>
    ld (.int .i64) (a2.add 1) h fun n4 =>
    ld (.int .i64) (a2.add 2) h fun n5 =>
    ixS s1 l1.1 3 fun a6 =>
    ld (.int .u64) a6 h fun n7 =>
    ld (.int .i64) (a6.add 1) h fun n8 =>
    ld (.int .i64) (a6.add 2) h fun n9 =>
    ixS s1 l1.1 3 fun a10 =>
    st a10 (Value.int .u64 n3) h fun h =>
    st (a10.add 1) (Value.int .i64 n4) h fun h =>
    st (a10.add 2) (Value.int .i64 n5) h fun h =>
    ixS s1 l1.2 3 fun a11 =>
    st a11 (Value.int .u64 n7) h fun h =>
    st (a11.add 1) (Value.int .i64 n8) h fun h =>
    st (a11.add 2) (Value.int .i64 n9) h fun h =>
    nx1 ((IntKind.i64.wrap (l1.1 + 1)), (IntKind.i64.wrap (l1.2 - 1))) h)
    (K h)) (0, (IntKind.i64.wrap ((s1.len : Int) - 1))) h

def slices_rotateLeft_api_Ref (τ : Nat → Nat) (s1 : Sl) (n2 : Int) (h : Mem) (K : Mem → Prop) : Prop :=
  slc s1 0 n2 3 fun s3 =>
  slices_Reverse_api_Ref_api_Ref τ s3 h fun  h =>
  slc s1 n2 (s1.len : Int) 3 fun s4 =>
  slices_Reverse_api_Ref_api_Ref τ s4 h fun  h =>
  slices_Reverse_api_Ref_api_Ref τ s1 h fun  h =>
  K h

def slices_rotateRight_api_Ref (τ : Nat → Nat) (s1 : Sl) (n2 : Int) (h : Mem) (K : Mem → Prop) : Prop :=
  slices_rotateLeft_api_Ref τ s1 (IntKind.i64.wrap ((s1.len : Int) - n2)) h fun  h =>
  K h

def slices_Insert_api_Ref_api_Ref (τ : Nat → Nat) (s1 : Sl) (n2 : Int) (s3 : Sl) (h : Mem) (K : Sl → Mem → Prop) : Prop :=
  slc s1 n2 (s1.len : Int) 3 fun s5 =>
  ifB ((s3.len : Int) == 0) (
    K s1 h)
  (ifB (n2 == (s1.len : Int)) (
    app (τ 27) #[(Value.int .u64 0), (Value.int .i64 0), (Value.int .i64 0)] 3 24 s1 s3 h fun s6 h =>
    K s6 h)
  (ifB (decide ((IntKind.i64.wrap ((s1.len : Int) + (s3.len : Int))) > (s1.cap : Int))) (
    slc s1 0 n2 3 fun s7 =>
    app0 (τ 27) #[(Value.int .u64 0), (Value.int .i64 0), (Value.int .i64 0)] 3 24 s7 (IntKind.i64.wrap ((IntKind.i64.wrap ((s1.len : Int) + (s3.len : Int))) - n2)) h fun s8 h =>
    slc s8 n2 (s8.len : Int) 3 fun s9 =>
    cpy 3 s9 s3 h fun k10 h =>
    slc s8 (IntKind.i64.wrap (n2 + (s3.len : Int))) (s8.len : Int) 3 fun s11 =>
    slc s1 n2 (s1.len : Int) 3 fun s12 =>
    cpy 3 s11 s12 h fun k13 h =>
    K s8 h)
  (slc s1 0 (IntKind.i64.wrap ((s1.len : Int) + (s3.len : Int))) 3 fun s14 =>
  slc s14 (IntKind.i64.wrap (n2 + (s3.len : Int))) (s14.len : Int) 3 fun s15 =>
  slices_overlaps_api_Ref τ s3 s15 h fun b16 h =>
  ifB (!b16) (
    slc s14 (IntKind.i64.wrap (n2 + (s3.len : Int))) (s14.len : Int) 3 fun s17 =>
    slc s14 n2 (s14.len : Int) 3 fun s18 =>
    cpy 3 s17 s18 h fun k19 h =>
    slc s14 n2 (s14.len : Int) 3 fun s20 =>
    cpy 3 s20 s3 h fun k21 h =>
    K s14 h)
  (slc s14 (s1.len : Int) (s14.len : Int) 3 fun s22 =>
  cpy 3 s22 s3 h fun k23 h =>
  slc s14 n2 (s14.len : Int) 3 fun s24 =>
  slices_rotateRight_api_Ref τ s24 (s3.len : Int) h fun  h =>
  K s14 h))))

def slices_Delete_api_Ref_api_Ref (τ : Nat → Nat) (s1 : Sl) (n2 : Int) (n3 : Int) (h : Mem) (K : Sl → Mem → Prop) : Prop :=
  slc3 s1 n2 n3 (s1.len : Int) 3 fun s5 =>
  ifB (n2 == n3) (
    K s1 h)
  (slc s1 0 n2 3 fun s6 =>
  slc s1 n3 (s1.len : Int) 3 fun s7 =>
  app (τ 27) #[(Value.int .u64 0), (Value.int .i64 0), (Value.int .i64 0)] 3 24 s6 s7 h fun s8 h =>
  slc s8 (s8.len : Int) (s1.len : Int) 3 fun s9 =>
  clr #[(Value.int .u64 0), (Value.int .i64 0), (Value.int .i64 0)] s9 h fun h =>
  K s8 h)
end Go.TS
/- The readable functions. -/
namespace Go.TS
open Go
set_option linter.unusedVariables false
def slices_Delete_api_Pair_api_Pair (τ : Nat → Nat) (s1 : Sl) (n2 : Int) (n3 : Int) (h : Mem) (K : Sl → Mem → Prop) : Prop :=
  slc3 s1 n2 n3 (s1.len : Int) 7 fun s5 =>
  ifB (n2 == n3) (
    K s1 h)
  (slc s1 0 n2 7 fun s6 =>
  slc s1 n3 (s1.len : Int) 7 fun s7 =>
  app (τ 29) #[(Value.slice none 0 0), (Value.int .i64 0), (Value.int .i64 0), (Value.slice none 0 0), (Value.int .i64 0), (Value.slice none 0 0), (Value.int .u64 0)] 7 104 s6 s7 h fun s8 h =>
  slc s8 (s8.len : Int) (s1.len : Int) 7 fun s9 =>
  clr #[(Value.slice none 0 0), (Value.int .i64 0), (Value.int .i64 0), (Value.slice none 0 0), (Value.int .i64 0), (Value.slice none 0 0), (Value.int .u64 0)] s9 h fun h =>
  K s8 h)

def slices_Reverse_api_Pair_api_Pair (τ : Nat → Nat) (s1 : Sl) (h : Mem) (K : Mem → Prop) : Prop :=
  LoopP (σ := Int × Int) (fun nx1 l1 h =>
    ifB (decide (l1.1 < l1.2)) (
      ixS s1 l1.2 7 fun a2 =>
    ld (.sl) a2 h fun s3 =>
    ld (.int .i64) (a2.add 1) h fun n4 =>
    ld (.int .i64) (a2.add 2) h fun n5 =>
    ld (.sl) (a2.add 3) h fun s6 =>
    ld (.int .i64) (a2.add 4) h fun n7 =>
    ld (.sl) (a2.add 5) h fun s8 =>
    ld (.int .u64) (a2.add 6) h fun n9 =>
    ixS s1 l1.1 7 fun a10 =>
    ld (.sl) a10 h fun s11 =>
    ld (.int .i64) (a10.add 1) h fun n12 =>
    ld (.int .i64) (a10.add 2) h fun n13 =>
    ld (.sl) (a10.add 3) h fun s14 =>
    ld (.int .i64) (a10.add 4) h fun n15 =>
    ld (.sl) (a10.add 5) h fun s16 =>
    ld (.int .u64) (a10.add 6) h fun n17 =>
    ixS s1 l1.1 7 fun a18 =>
    st a18 (Value.slice s3.base s3.len s3.cap) h fun h =>
    st (a18.add 1) (Value.int .i64 n4) h fun h =>
    st (a18.add 2) (Value.int .i64 n5) h fun h =>
    st (a18.add 3) (Value.slice s6.base s6.len s6.cap) h fun h =>
    st (a18.add 4) (Value.int .i64 n7) h fun h =>
    st (a18.add 5) (Value.slice s8.base s8.len s8.cap) h fun h =>
    st (a18.add 6) (Value.int .u64 n9) h fun h =>
    ixS s1 l1.2 7 fun a19 =>
    st a19 (Value.slice s11.base s11.len s11.cap) h fun h =>
    st (a19.add 1) (Value.int .i64 n12) h fun h =>
    st (a19.add 2) (Value.int .i64 n13) h fun h =>
    st (a19.add 3) (Value.slice s14.base s14.len s14.cap) h fun h =>
    st (a19.add 4) (Value.int .i64 n15) h fun h =>
    st (a19.add 5) (Value.slice s16.base s16.len s16.cap) h fun h =>
    st (a19.add 6) (Value.int .u64 n17) h fun h =>
    nx1 ((IntKind.i64.wrap (l1.1 + 1)), (IntKind.i64.wrap (l1.2 - 1))) h)
    (K h)) (0, (IntKind.i64.wrap ((s1.len : Int) - 1))) h

def slices_rotateLeft_api_Pair (τ : Nat → Nat) (s1 : Sl) (n2 : Int) (h : Mem) (K : Mem → Prop) : Prop :=
  slc s1 0 n2 7 fun s3 =>
  slices_Reverse_api_Pair_api_Pair τ s3 h fun  h =>
  slc s1 n2 (s1.len : Int) 7 fun s4 =>
  slices_Reverse_api_Pair_api_Pair τ s4 h fun  h =>
  slices_Reverse_api_Pair_api_Pair τ s1 h fun  h =>
  K h

def slices_rotateRight_api_Pair (τ : Nat → Nat) (s1 : Sl) (n2 : Int) (h : Mem) (K : Mem → Prop) : Prop :=
  slices_rotateLeft_api_Pair τ s1 (IntKind.i64.wrap ((s1.len : Int) - n2)) h fun  h =>
  K h

def slices_Insert_api_Pair_api_Pair (τ : Nat → Nat) (s1 : Sl) (n2 : Int) (s3 : Sl) (h : Mem) (K : Sl → Mem → Prop) : Prop :=
  slc s1 n2 (s1.len : Int) 7 fun s5 =>
  ifB ((s3.len : Int) == 0) (
    K s1 h)
  (ifB (n2 == (s1.len : Int)) (
    app (τ 29) #[(Value.slice none 0 0), (Value.int .i64 0), (Value.int .i64 0), (Value.slice none 0 0), (Value.int .i64 0), (Value.slice none 0 0), (Value.int .u64 0)] 7 104 s1 s3 h fun s6 h =>
    K s6 h)
  (ifB (decide ((IntKind.i64.wrap ((s1.len : Int) + (s3.len : Int))) > (s1.cap : Int))) (
    slc s1 0 n2 7 fun s7 =>
    app0 (τ 29) #[(Value.slice none 0 0), (Value.int .i64 0), (Value.int .i64 0), (Value.slice none 0 0), (Value.int .i64 0), (Value.slice none 0 0), (Value.int .u64 0)] 7 104 s7 (IntKind.i64.wrap ((IntKind.i64.wrap ((s1.len : Int) + (s3.len : Int))) - n2)) h fun s8 h =>
    slc s8 n2 (s8.len : Int) 7 fun s9 =>
    cpy 7 s9 s3 h fun k10 h =>
    slc s8 (IntKind.i64.wrap (n2 + (s3.len : Int))) (s8.len : Int) 7 fun s11 =>
    slc s1 n2 (s1.len : Int) 7 fun s12 =>
    cpy 7 s11 s12 h fun k13 h =>
    K s8 h)
  (slc s1 0 (IntKind.i64.wrap ((s1.len : Int) + (s3.len : Int))) 7 fun s14 =>
  slc s14 (IntKind.i64.wrap (n2 + (s3.len : Int))) (s14.len : Int) 7 fun s15 =>
  slices_overlaps_api_Pair τ s3 s15 h fun b16 h =>
  ifB (!b16) (
    slc s14 (IntKind.i64.wrap (n2 + (s3.len : Int))) (s14.len : Int) 7 fun s17 =>
    slc s14 n2 (s14.len : Int) 7 fun s18 =>
    cpy 7 s17 s18 h fun k19 h =>
    slc s14 n2 (s14.len : Int) 7 fun s20 =>
    cpy 7 s20 s3 h fun k21 h =>
    K s14 h)
  (slc s14 (s1.len : Int) (s14.len : Int) 7 fun s22 =>
  cpy 7 s22 s3 h fun k23 h =>
  slc s14 n2 (s14.len : Int) 7 fun s24 =>
  slices_rotateRight_api_Pair τ s24 (s3.len : Int) h fun  h =>
  K s14 h))))

def slices_Reverse_api_Reg_api_Reg (τ : Nat → Nat) (s1 : Sl) (h : Mem) (K : Mem → Prop) : Prop :=
  LoopP (σ := Int × Int) (fun nx1 l1 h =>
    ifB (decide (l1.1 < l1.2)) (
      ixS s1 l1.2 2 fun a2 =>
    ld (.int .i64) a2 h fun n3 =>
    ld (.int .i64) (a2.add 1) h fun n4 =>
    ixS s1 l1.1 2 fun a5 =>
    ld (.int .i64) a5 h fun n6 =>
    ld (.int .i64) (a5.add 1) h fun n7 =>
    ixS s1 l1.1 2 fun a8 =>
    st a8 (Value.int .i64 n3) h fun h =>
    st (a8.add 1) (Value.int .i64 n4) h fun h =>
    ixS s1 l1.2 2 fun a9 =>
    st a9 (Value.int .i64 n6) h fun h =>
    st (a9.add 1) (Value.int .i64 n7) h fun h =>
    nx1 ((IntKind.i64.wrap (l1.1 + 1)), (IntKind.i64.wrap (l1.2 - 1))) h)
    (K h)) (0, (IntKind.i64.wrap ((s1.len : Int) - 1))) h

def slices_rotateLeft_api_Reg (τ : Nat → Nat) (s1 : Sl) (n2 : Int) (h : Mem) (K : Mem → Prop) : Prop :=
  slc s1 0 n2 2 fun s3 =>
  slices_Reverse_api_Reg_api_Reg τ s3 h fun  h =>
  slc s1 n2 (s1.len : Int) 2 fun s4 =>
  slices_Reverse_api_Reg_api_Reg τ s4 h fun  h =>
  slices_Reverse_api_Reg_api_Reg τ s1 h fun  h =>
  K h

def slices_rotateRight_api_Reg (τ : Nat → Nat) (s1 : Sl) (n2 : Int) (h : Mem) (K : Mem → Prop) : Prop :=
  slices_rotateLeft_api_Reg τ s1 (IntKind.i64.wrap ((s1.len : Int) - n2)) h fun  h =>
  K h

def slices_Insert_api_Reg_api_Reg (τ : Nat → Nat) (s1 : Sl) (n2 : Int) (s3 : Sl) (h : Mem) (K : Sl → Mem → Prop) : Prop :=
  slc s1 n2 (s1.len : Int) 2 fun s5 =>
  ifB ((s3.len : Int) == 0) (
    K s1 h)
  (ifB (n2 == (s1.len : Int)) (
    app (τ 30) #[(Value.int .i64 0), (Value.int .i64 0)] 2 16 s1 s3 h fun s6 h =>
    K s6 h)
  (ifB (decide ((IntKind.i64.wrap ((s1.len : Int) + (s3.len : Int))) > (s1.cap : Int))) (
    slc s1 0 n2 2 fun s7 =>
    app0 (τ 30) #[(Value.int .i64 0), (Value.int .i64 0)] 2 16 s7 (IntKind.i64.wrap ((IntKind.i64.wrap ((s1.len : Int) + (s3.len : Int))) - n2)) h fun s8 h =>
    slc s8 n2 (s8.len : Int) 2 fun s9 =>
    cpy 2 s9 s3 h fun k10 h =>
    slc s8 (IntKind.i64.wrap (n2 + (s3.len : Int))) (s8.len : Int) 2 fun s11 =>
    slc s1 n2 (s1.len : Int) 2 fun s12 =>
    cpy 2 s11 s12 h fun k13 h =>
    K s8 h)
  (slc s1 0 (IntKind.i64.wrap ((s1.len : Int) + (s3.len : Int))) 2 fun s14 =>
  slc s14 (IntKind.i64.wrap (n2 + (s3.len : Int))) (s14.len : Int) 2 fun s15 =>
  slices_overlaps_api_Reg τ s3 s15 h fun b16 h =>
  ifB (!b16) (
    slc s14 (IntKind.i64.wrap (n2 + (s3.len : Int))) (s14.len : Int) 2 fun s17 =>
    slc s14 n2 (s14.len : Int) 2 fun s18 =>
    cpy 2 s17 s18 h fun k19 h =>
    slc s14 n2 (s14.len : Int) 2 fun s20 =>
    cpy 2 s20 s3 h fun k21 h =>
    K s14 h)
  (slc s14 (s1.len : Int) (s14.len : Int) 2 fun s22 =>
  cpy 2 s22 s3 h fun k23 h =>
  slc s14 n2 (s14.len : Int) 2 fun s24 =>
  slices_rotateRight_api_Reg τ s24 (s3.len : Int) h fun  h =>
  K s14 h))))
end Go.TS
