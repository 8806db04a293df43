/- stubs -/
import Derived.Test.YtgdkafimnpjghaaGreatDoorTsExt
import Derived.Test.YtgdkafimnpjghaaGreatDoorTcBase
namespace Go.TS
open Go
set_option linter.unusedVariables false
def tallymanlaw11_lives (τ : Nat → Nat) (h : Mem) (K : Bool → Mem → Prop) : Prop := ∀ h' : Mem, h.size ≤ h'.size → (∀ B, B < h.size → h'[B]? = h[B]?) → K true h'
def shadow_logical (τ : Nat → Nat) (n1 : Int) (s2 : Sl) (h : Mem) (K : Bool → Mem → Prop) : Prop := False
def table_Fresh (τ : Nat → Nat) (s1 : Sl) (h : Mem) (K : Int → Int → Mem → Prop) : Prop := False
def shadow_Store_write (τ : Nat → Nat) (p1 : Option Addr) (n2 : Int) (n3 : Int) (s4 : Sl) (h : Mem) (K : Int → Mem → Prop) : Prop := False
def table_Get (τ : Nat → Nat) (s1 : Sl) (n2 : Int) (h : Mem) (K : Int → Bool → Mem → Prop) : Prop := False
def table_Clear (τ : Nat → Nat) (s1 : Sl) (n2 : Int) (h : Mem) (K : Sl → Int → Mem → Prop) : Prop := False
def slices_BinarySearch_int_int (τ : Nat → Nat) (s1 : Sl) (n2 : Int) (h : Mem) (K : Int → Bool → Mem → Prop) : Prop := False
def pool_Pool_Drop (τ : Nat → Nat) (p1 : Option Addr) (n2 : Int) (h : Mem) (K : Int → Mem → Prop) : Prop := False
def page_Pages (τ : Nat → Nat) (p1 : Option Addr) (h : Mem) (K : Int → Mem → Prop) : Prop := False
def table_Bytes (τ : Nat → Nat) (s1 : Sl) (h : Mem) (K : Sl → Int → Mem → Prop) : Prop := False
def space_New (τ : Nat → Nat) (n1 : Int) (h : Mem) (K : Int → Sl → Int → Mem → Prop) : Prop := False
def space_Bytes (τ : Nat → Nat) (n1 : Int) (s2 : Sl) (h : Mem) (K : Sl → Int → Mem → Prop) : Prop := False
def chain_Need (τ : Nat → Nat) (n1 : Int) (h : Mem) (K : Int → Mem → Prop) : Prop := False
def shadow_Store_spare (τ : Nat → Nat) (p1 : Option Addr) (n2 : Int) (h : Mem) (K : Sl → Bool → Mem → Prop) : Prop := False
def table_Pages (τ : Nat → Nat) (s1 : Sl) (h : Mem) (K : Sl → Mem → Prop) : Prop := False
def chain_Write (τ : Nat → Nat) (p1 : Option Addr) (n2 : Int) (s3 : Sl) (s4 : Sl) (h : Mem) (K : Int → Mem → Prop) : Prop := False
def pool_Pool_Flush (τ : Nat → Nat) (p1 : Option Addr) (h : Mem) (K : Int → Mem → Prop) : Prop := False
def root_Slot (τ : Nat → Nat) (n1 : Int) (n2 : Int) (n3 : Int) (n4 : Int) (n5 : Int) (n6 : Int) (n7 : Int) (n8 : Int) (n9 : Int) (h : Mem) (K : Int → Mem → Prop) : Prop := False
def root_Write (τ : Nat → Nat) (p1 : Option Addr) (n2 : Int) (n3 : Int) (n4 : Int) (n5 : Int) (n6 : Int) (n7 : Int) (n8 : Int) (n9 : Int) (n10 : Int) (h : Mem) (K : Int → Mem → Prop) : Prop := False
def shadow_state_copied (τ : Nat → Nat) (n1 : Int) (n2 : Int) (n3 : Int) (n4 : Int) (n5 : Int) (n6 : Int) (n7 : Int) (n8 : Int) (n9 : Int) (s10 : Sl) (s11 : Sl) (s12 : Sl) (h : Mem) (K : Int → Int → Int → Int → Int → Int → Int → Int → Int → Sl → Sl → Sl → Mem → Prop) : Prop := False
def shadow_Store_used (τ : Nat → Nat) (p1 : Option Addr) (h : Mem) (K : Sl → Mem → Prop) : Prop := False
def pool_Pool_Get (τ : Nat → Nat) (p1 : Option Addr) (n2 : Int) (h : Mem) (K : Sl → Int → Mem → Prop) : Prop := False
def page_Read (τ : Nat → Nat) (s1 : Sl) (h : Mem) (K : Int → Int → Sl → Int → Mem → Prop) : Prop := False
def pool_Pool_Unpin (τ : Nat → Nat) (p1 : Option Addr) (n2 : Int) (h : Mem) (K : Int → Mem → Prop) : Prop := False
def page_Save (τ : Nat → Nat) (p1 : Option Addr) (n2 : Int) (s3 : Sl) (h : Mem) (K : Int → Mem → Prop) : Prop := False
def shadow_Store_load (τ : Nat → Nat) (p1 : Option Addr) (h : Mem) (K : Int → Mem → Prop) : Prop := False
def pool_Pool_Reset (τ : Nat → Nat) (p1 : Option Addr) (h : Mem) (K : Int → Mem → Prop) : Prop := False
def pool_Pool_Evict (τ : Nat → Nat) (p1 : Option Addr) (n2 : Int) (h : Mem) (K : Int → Mem → Prop) : Prop := False
def pool_Pool_Pin (τ : Nat → Nat) (p1 : Option Addr) (n2 : Int) (h : Mem) (K : Int → Mem → Prop) : Prop := False
end Go.TS
/- The readable functions. -/
namespace Go.TS
open Go
set_option linter.unusedVariables false
def shadow_Store_made (τ : Nat → Nat) (p1 : Option Addr) (h : Mem) (K : Bool → Mem → Prop) : Prop :=
  let J1 : Bool → Mem → Prop := (fun b5 h =>
    K b5 h);
  ifB (!(p1.isNone)) (
    nn p1 fun a3 =>
    ld (.ptr) (a3.add 1) h fun p4 =>
    J1 (!(p4.isNone)) h)
  (J1 false h)

def shadow_Store_ready (τ : Nat → Nat) (p1 : Option Addr) (h : Mem) (K : Int → Mem → Prop) : Prop :=
  shadow_Store_made τ p1 h fun b3 h =>
  ifB (!b3) (
    K 1 h)
  (nn p1 fun a4 =>
  ld (.bool) (a4.add 26) h fun b5 =>
  ifB b5 (
    K 10 h)
  (K 0 h))

def shadow_Store_New (τ : Nat → Nat) (p1 : Option Addr) (n2 : Int) (s3 : Sl) (h : Mem) (K : Int → Int → Mem → Prop) : Prop :=
  shadow_Store_ready τ p1 h fun n6 h =>
  ifB (n6 != 0) (
    K 0 n6 h)
  (shadow_logical τ n2 s3 h fun b7 h =>
  ifB (!b7) (
    K 0 2 h)
  (nn p1 fun a8 =>
  ld (.sl) (a8.add 23) h fun s9 =>
  table_Fresh τ s9 h fun n10 n11 h =>
  ifB (n11 != 0) (
    K 0 n11 h)
  (shadow_Store_write τ p1 n10 n2 s3 h fun n12 h =>
  ifB (n12 != 0) (
    K 0 n12 h)
  (K n10 0 h))))

def shadow_Store_Write (τ : Nat → Nat) (p1 : Option Addr) (n2 : Int) (n3 : Int) (s4 : Sl) (h : Mem) (K : Int → Mem → Prop) : Prop :=
  shadow_Store_ready τ p1 h fun n6 h =>
  ifB (n6 != 0) (
    K n6 h)
  (shadow_logical τ n3 s4 h fun b7 h =>
  ifB (!b7) (
    K 2 h)
  (nn p1 fun a8 =>
  ld (.sl) (a8.add 23) h fun s9 =>
  table_Get τ s9 n2 h fun n10 b11 h =>
  ifB (!b11) (
    K 6 h)
  (shadow_Store_write τ p1 n2 n3 s4 h fun n12 h =>
  K n12 h)))

def shadow_Store_Free (τ : Nat → Nat) (p1 : Option Addr) (n2 : Int) (h : Mem) (K : Int → Mem → Prop) : Prop :=
  shadow_Store_ready τ p1 h fun n4 h =>
  ifB (n4 != 0) (
    K n4 h)
  (nn p1 fun a5 =>
  ld (.sl) (a5.add 23) h fun s6 =>
  table_Get τ s6 n2 h fun n7 b8 h =>
  ifB (!b8) (
    K 6 h)
  (nn p1 fun a9 =>
  ld (.sl) (a9.add 23) h fun s10 =>
  table_Clear τ s10 n2 h fun s11 n12 h =>
  nn p1 fun a13 =>
  st (a13.add 23) (Value.slice s11.base s11.len s11.cap) h fun h =>
  let J1 : Mem → Prop := (fun h =>
    K 0 h);
  nn p1 fun a14 =>
  ld (.sl) (a14.add 25) h fun s15 =>
  slices_BinarySearch_int_int τ s15 n7 h fun n16 b17 h =>
  ifB b17 (
    nn p1 fun a18 =>
    ld (.sl) (a18.add 25) h fun s19 =>
    slices_Clone_int_int τ s19 h fun s20 h =>
    slices_Delete_int_int τ s20 n16 (IntKind.i64.wrap (n16 + 1)) h fun s21 h =>
    nn p1 fun a22 =>
    st (a22.add 25) (Value.slice s21.base s21.len s21.cap) h fun h =>
    nn p1 fun a23 =>
    ld (.ptr) (a23.add 1) h fun p24 =>
    pool_Pool_Drop τ p24 n7 h fun n25 h =>
    J1 h)
  (J1 h)))

def shadow_Store_breaks (τ : Nat → Nat) (p1 : Option Addr) (p2 : Option Addr) (h : Mem) (K : Mem → Prop) : Prop :=
  nn p1 fun a3 =>
  ld (.bool) (a3.add 26) h fun b4 =>
  ifB b4 (
    nn p1 fun a5 =>
    st (a5.add 26) (Value.bool true) h fun h =>
    K h)
  (nn p2 fun a6 =>
  ld (.int .i64) a6 h fun n7 =>
  nn p1 fun a8 =>
  st (a8.add 26) (Value.bool (n7 == 8)) h fun h =>
  K h)

def shadow_Store_Commit (τ : Nat → Nat) (p1 : Option Addr) (n2 : Int) (n3 : Int) (n4 : Int) (n5 : Int) (h : Mem) (K : Int → Mem → Prop) : Prop :=
  al (.cells #[(Value.int .u64 n2), (Value.int .u64 n3), (Value.int .u64 n4), (Value.int .u64 n5)] (τ 16)) h fun q7 h =>
  al (.cells #[(Value.int .i64 0)] (τ 13)) h fun q8 h =>
  shadow_Store_ready τ p1 h fun n9 h =>
  ifB (n9 != 0) (
    st (⟨q8, 0, none⟩ : Addr) (Value.int .i64 n9) h fun h =>
    ld (.int .i64) (⟨q8, 0, none⟩ : Addr) h fun n10 =>
    K n10 h)
  (nn p1 fun a11 =>
  ld (.ptr) a11 h fun p12 =>
  page_Pages τ p12 h fun n13 h =>
  nn p1 fun a14 =>
  ld (.sl) (a14.add 23) h fun s15 =>
  table_Bytes τ s15 h fun s16 n17 h =>
  st (⟨q8, 0, none⟩ : Addr) (Value.int .i64 n17) h fun h =>
  ld (.int .i64) (⟨q8, 0, none⟩ : Addr) h fun n18 =>
  ifB (n18 != 0) (
    ld (.int .i64) (⟨q8, 0, none⟩ : Addr) h fun n19 =>
    st (⟨q8, 0, none⟩ : Addr) (Value.int .i64 n19) h fun h =>
    shadow_Store_breaks τ p1 (some (⟨q8, 0, none⟩ : Addr)) h fun  h =>
    ld (.int .i64) (⟨q8, 0, none⟩ : Addr) h fun n20 =>
    K n20 h)
  (space_New τ n13 h fun n21 s22 n23 h =>
  al (.cells #[(Value.int .i64 0), (Value.slice none 0 0)] (τ 4)) h fun q24 h =>
  st (⟨q24, 0, none⟩ : Addr) (Value.int .i64 n21) h fun h =>
  st (⟨q24, 1, none⟩ : Addr) (Value.slice s22.base s22.len s22.cap) h fun h =>
  st (⟨q8, 0, none⟩ : Addr) (Value.int .i64 n23) h fun h =>
  ld (.int .i64) (⟨q8, 0, none⟩ : Addr) h fun n25 =>
  ifB (n25 != 0) (
    ld (.int .i64) (⟨q8, 0, none⟩ : Addr) h fun n26 =>
    st (⟨q8, 0, none⟩ : Addr) (Value.int .i64 n26) h fun h =>
    shadow_Store_breaks τ p1 (some (⟨q8, 0, none⟩ : Addr)) h fun  h =>
    ld (.int .i64) (⟨q8, 0, none⟩ : Addr) h fun n27 =>
    K n27 h)
  (ld (.int .i64) (⟨q24, 0, none⟩ : Addr) h fun n28 =>
  ld (.sl) (⟨q24, 1, none⟩ : Addr) h fun s29 =>
  space_Bytes τ n28 s29 h fun s30 n31 h =>
  chain_Need τ (s16.len : Int) h fun n32 h =>
  chain_Need τ (s30.len : Int) h fun n33 h =>
  shadow_Store_spare τ p1 (IntKind.i64.wrap (n32 + n33)) h fun s34 b35 h =>
  ifB (!b35) (
    st (⟨q8, 0, none⟩ : Addr) (Value.int .i64 9) h fun h =>
    shadow_Store_breaks τ p1 (some (⟨q8, 0, none⟩ : Addr)) h fun  h =>
    ld (.int .i64) (⟨q8, 0, none⟩ : Addr) h fun n36 =>
    K n36 h)
  (nn p1 fun a37 =>
  ld (.sl) (a37.add 23) h fun s38 =>
  table_Pages τ s38 h fun s39 h =>
  al (.cells #[(Value.slice s34.base s34.len s34.cap), (Value.slice s39.base s39.len s39.cap)] (τ 8)) h fun q40 h =>
  slices_Concat_int_int τ (⟨(some (⟨q40, 0, none⟩ : Addr)), 2, 2⟩ : Sl) h fun s41 h =>
  LoopP (σ := Int) (fun nx1 l1 h =>
    ifB (decide (l1 < (s41.len : Int))) (
      ixS s41 l1 1 fun a42 =>
    ld (.int .i64) a42 h fun n43 =>
    ld (.sl) (⟨q24, 1, none⟩ : Addr) h fun s44 =>
    ixS s44 n43 1 fun a45 =>
    st a45 (Value.bool true) h fun h =>
    nx1 (IntKind.i64.wrap (l1 + 1)) h)
    (ld (.int .i64) (⟨q24, 0, none⟩ : Addr) h fun n46 =>
  ld (.sl) (⟨q24, 1, none⟩ : Addr) h fun s47 =>
  space_Bytes τ n46 s47 h fun s48 n49 h =>
  nn p1 fun a50 =>
  ld (.ptr) (a50.add 1) h fun p51 =>
  slc s34 0 n32 1 fun s52 =>
  chain_Write τ p51 2 s52 s16 h fun n53 h =>
  ifB (n53 != 0) (
    st (⟨q8, 0, none⟩ : Addr) (Value.int .i64 n53) h fun h =>
    shadow_Store_breaks τ p1 (some (⟨q8, 0, none⟩ : Addr)) h fun  h =>
    ld (.int .i64) (⟨q8, 0, none⟩ : Addr) h fun n54 =>
    K n54 h)
  (nn p1 fun a55 =>
  ld (.ptr) (a55.add 1) h fun p56 =>
  slc s34 n32 (s34.len : Int) 1 fun s57 =>
  chain_Write τ p56 3 s57 s48 h fun n58 h =>
  ifB (n58 != 0) (
    st (⟨q8, 0, none⟩ : Addr) (Value.int .i64 n58) h fun h =>
    shadow_Store_breaks τ p1 (some (⟨q8, 0, none⟩ : Addr)) h fun  h =>
    ld (.int .i64) (⟨q8, 0, none⟩ : Addr) h fun n59 =>
    K n59 h)
  (nn p1 fun a60 =>
  ld (.ptr) (a60.add 1) h fun p61 =>
  pool_Pool_Flush τ p61 h fun n62 h =>
  ifB (n62 != 0) (
    st (⟨q8, 0, none⟩ : Addr) (Value.int .i64 n62) h fun h =>
    shadow_Store_breaks τ p1 (some (⟨q8, 0, none⟩ : Addr)) h fun  h =>
    ld (.int .i64) (⟨q8, 0, none⟩ : Addr) h fun n63 =>
    K n63 h)
  (nn p1 fun a64 =>
  ld (.int .u64) (a64.add 2) h fun n65 =>
  ixS s34 0 1 fun a66 =>
  ld (.int .i64) a66 h fun n67 =>
  ixS s34 n32 1 fun a68 =>
  ld (.int .i64) a68 h fun n69 =>
  nn p1 fun a70 =>
  ld (.sl) (a70.add 23) h fun s71 =>
  ld (.int .u64) (⟨q7, 0, none⟩ : Addr) h fun n72 =>
  ld (.int .u64) (⟨q7, 1, none⟩ : Addr) h fun n73 =>
  ld (.int .u64) (⟨q7, 2, none⟩ : Addr) h fun n74 =>
  ld (.int .u64) (⟨q7, 3, none⟩ : Addr) h fun n75 =>
  al (.cells #[(Value.int .u64 0), (Value.int .u64 0), (Value.int .u64 0), (Value.int .u64 0), (Value.int .u64 0), (Value.int .u64 0), (Value.int .u64 0), (Value.int .u64 0), (Value.int .u64 0)] (τ 14)) h fun q76 h =>
  cellsAt h (⟨q7, 0, none⟩ : Addr) [(Value.int .u64 n72), (Value.int .u64 n73), (Value.int .u64 n74), (Value.int .u64 n75)] ∧
  rd h (a70.add 23) = some (Value.slice s71.base s71.len s71.cap) ∧
  rd h a68 = some (Value.int .i64 n69) ∧
  rd h a66 = some (Value.int .i64 n67) ∧
  rd h (a64.add 2) = some (Value.int .u64 n65) ∧
  (
  st (⟨q76, 0, none⟩ : Addr) (Value.int .u64 (IntKind.u64.wrap (n65 + 1))) h fun h =>
  st (⟨q76, 1, none⟩ : Addr) (Value.int .u64 (IntKind.u64.wrap n13)) h fun h =>
  st (⟨q76, 2, none⟩ : Addr) (Value.int .u64 (IntKind.u64.wrap n67)) h fun h =>
  st (⟨q76, 3, none⟩ : Addr) (Value.int .u64 (IntKind.u64.wrap n69)) h fun h =>
  st (⟨q76, 4, none⟩ : Addr) (Value.int .u64 (IntKind.u64.wrap (s71.len : Int))) h fun h =>
  st (⟨q76, 5, none⟩ : Addr) (Value.int .u64 n72) h fun h =>
  st (⟨q76, 6, none⟩ : Addr) (Value.int .u64 n73) h fun h =>
  st (⟨q76, 7, none⟩ : Addr) (Value.int .u64 n74) h fun h =>
  st (⟨q76, 8, none⟩ : Addr) (Value.int .u64 n75) h fun h =>
  ld (.int .u64) (⟨q76, 0, none⟩ : Addr) h fun n77 =>
  ld (.int .u64) (⟨q76, 1, none⟩ : Addr) h fun n78 =>
  ld (.int .u64) (⟨q76, 2, none⟩ : Addr) h fun n79 =>
  ld (.int .u64) (⟨q76, 3, none⟩ : Addr) h fun n80 =>
  ld (.int .u64) (⟨q76, 4, none⟩ : Addr) h fun n81 =>
  ld (.int .u64) (⟨q76, 5, none⟩ : Addr) h fun n82 =>
  ld (.int .u64) (⟨q76, 6, none⟩ : Addr) h fun n83 =>
  ld (.int .u64) (⟨q76, 7, none⟩ : Addr) h fun n84 =>
  ld (.int .u64) (⟨q76, 8, none⟩ : Addr) h fun n85 =>
  root_Slot τ n77 n78 n79 n80 n81 n82 n83 n84 n85 h fun n86 h =>
  nn p1 fun a87 =>
  st (a87.add 27) (Value.int .i64 n86) h fun h =>
  nn p1 fun a88 =>
  ld (.ptr) a88 h fun p89 =>
  ld (.int .u64) (⟨q76, 0, none⟩ : Addr) h fun n90 =>
  ld (.int .u64) (⟨q76, 1, none⟩ : Addr) h fun n91 =>
  ld (.int .u64) (⟨q76, 2, none⟩ : Addr) h fun n92 =>
  ld (.int .u64) (⟨q76, 3, none⟩ : Addr) h fun n93 =>
  ld (.int .u64) (⟨q76, 4, none⟩ : Addr) h fun n94 =>
  ld (.int .u64) (⟨q76, 5, none⟩ : Addr) h fun n95 =>
  ld (.int .u64) (⟨q76, 6, none⟩ : Addr) h fun n96 =>
  ld (.int .u64) (⟨q76, 7, none⟩ : Addr) h fun n97 =>
  ld (.int .u64) (⟨q76, 8, none⟩ : Addr) h fun n98 =>
  root_Write τ p89 n90 n91 n92 n93 n94 n95 n96 n97 n98 h fun n99 h =>
  ifB (n99 != 0) (
    st (⟨q8, 0, none⟩ : Addr) (Value.int .i64 n99) h fun h =>
    shadow_Store_breaks τ p1 (some (⟨q8, 0, none⟩ : Addr)) h fun  h =>
    ld (.int .i64) (⟨q8, 0, none⟩ : Addr) h fun n100 =>
    K n100 h)
  (nn p1 fun a101 =>
  ld (.ptr) a101 h fun p102 =>
  sector_Disk_Flush τ p102 h fun n103 h =>
  ifB (n103 != 0) (
    st (⟨q8, 0, none⟩ : Addr) (Value.int .i64 n103) h fun h =>
    shadow_Store_breaks τ p1 (some (⟨q8, 0, none⟩ : Addr)) h fun  h =>
    ld (.int .i64) (⟨q8, 0, none⟩ : Addr) h fun n104 =>
    K n104 h)
  (nn p1 fun a105 =>
  st (a105.add 27) (Value.int .i64 (-1)) h fun h =>
  ld (.int .u64) (⟨q76, 0, none⟩ : Addr) h fun n106 =>
  ld (.int .u64) (⟨q76, 1, none⟩ : Addr) h fun n107 =>
  ld (.int .u64) (⟨q76, 2, none⟩ : Addr) h fun n108 =>
  ld (.int .u64) (⟨q76, 3, none⟩ : Addr) h fun n109 =>
  ld (.int .u64) (⟨q76, 4, none⟩ : Addr) h fun n110 =>
  ld (.int .u64) (⟨q76, 5, none⟩ : Addr) h fun n111 =>
  ld (.int .u64) (⟨q76, 6, none⟩ : Addr) h fun n112 =>
  ld (.int .u64) (⟨q76, 7, none⟩ : Addr) h fun n113 =>
  ld (.int .u64) (⟨q76, 8, none⟩ : Addr) h fun n114 =>
  nn p1 fun a115 =>
  st (a115.add 14) (Value.int .u64 n106) h fun h =>
  st (a115.add 15) (Value.int .u64 n107) h fun h =>
  st (a115.add 16) (Value.int .u64 n108) h fun h =>
  st (a115.add 17) (Value.int .u64 n109) h fun h =>
  st (a115.add 18) (Value.int .u64 n110) h fun h =>
  st (a115.add 19) (Value.int .u64 n111) h fun h =>
  st (a115.add 20) (Value.int .u64 n112) h fun h =>
  st (a115.add 21) (Value.int .u64 n113) h fun h =>
  st (a115.add 22) (Value.int .u64 n114) h fun h =>
  nn p1 fun a116 =>
  st (a116.add 24) (Value.slice s34.base s34.len s34.cap) h fun h =>
  nn p1 fun a117 =>
  st (a117.add 25) (Value.slice none 0 0) h fun h =>
  nn p1 fun a118 =>
  ld (.int .u64) (a118.add 14) h fun n119 =>
  ld (.int .u64) (a118.add 15) h fun n120 =>
  ld (.int .u64) (a118.add 16) h fun n121 =>
  ld (.int .u64) (a118.add 17) h fun n122 =>
  ld (.int .u64) (a118.add 18) h fun n123 =>
  ld (.int .u64) (a118.add 19) h fun n124 =>
  ld (.int .u64) (a118.add 20) h fun n125 =>
  ld (.int .u64) (a118.add 21) h fun n126 =>
  ld (.int .u64) (a118.add 22) h fun n127 =>
  ld (.sl) (a118.add 23) h fun s128 =>
  ld (.sl) (a118.add 24) h fun s129 =>
  ld (.sl) (a118.add 25) h fun s130 =>
  nn p1 fun a131 =>
  ld (.int .u64) (a131.add 14) h fun n132 =>
  ld (.int .u64) (a131.add 15) h fun n133 =>
  ld (.int .u64) (a131.add 16) h fun n134 =>
  ld (.int .u64) (a131.add 17) h fun n135 =>
  ld (.int .u64) (a131.add 18) h fun n136 =>
  ld (.int .u64) (a131.add 19) h fun n137 =>
  ld (.int .u64) (a131.add 20) h fun n138 =>
  ld (.int .u64) (a131.add 21) h fun n139 =>
  ld (.int .u64) (a131.add 22) h fun n140 =>
  ld (.sl) (a131.add 23) h fun s141 =>
  ld (.sl) (a131.add 24) h fun s142 =>
  ld (.sl) (a131.add 25) h fun s143 =>
  shadow_state_copied τ n132 n133 n134 n135 n136 n137 n138 n139 n140 s141 s142 s143 h fun n144 n145 n146 n147 n148 n149 n150 n151 n152 s153 s154 s155 h =>
  cellsAt h (a118.add 14) [(Value.int .u64 n119), (Value.int .u64 n120), (Value.int .u64 n121), (Value.int .u64 n122), (Value.int .u64 n123), (Value.int .u64 n124), (Value.int .u64 n125), (Value.int .u64 n126), (Value.int .u64 n127), (Value.slice s128.base s128.len s128.cap), (Value.slice s129.base s129.len s129.cap), (Value.slice s130.base s130.len s130.cap)] ∧
  (
  nn p1 fun a156 =>
  st (a156.add 2) (Value.int .u64 n119) h fun h =>
  st (a156.add 3) (Value.int .u64 n120) h fun h =>
  st (a156.add 4) (Value.int .u64 n121) h fun h =>
  st (a156.add 5) (Value.int .u64 n122) h fun h =>
  st (a156.add 6) (Value.int .u64 n123) h fun h =>
  st (a156.add 7) (Value.int .u64 n124) h fun h =>
  st (a156.add 8) (Value.int .u64 n125) h fun h =>
  st (a156.add 9) (Value.int .u64 n126) h fun h =>
  st (a156.add 10) (Value.int .u64 n127) h fun h =>
  st (a156.add 11) (Value.slice s128.base s128.len s128.cap) h fun h =>
  st (a156.add 12) (Value.slice s129.base s129.len s129.cap) h fun h =>
  st (a156.add 13) (Value.slice s130.base s130.len s130.cap) h fun h =>
  nn p1 fun a157 =>
  st (a157.add 14) (Value.int .u64 n144) h fun h =>
  st (a157.add 15) (Value.int .u64 n145) h fun h =>
  st (a157.add 16) (Value.int .u64 n146) h fun h =>
  st (a157.add 17) (Value.int .u64 n147) h fun h =>
  st (a157.add 18) (Value.int .u64 n148) h fun h =>
  st (a157.add 19) (Value.int .u64 n149) h fun h =>
  st (a157.add 20) (Value.int .u64 n150) h fun h =>
  st (a157.add 21) (Value.int .u64 n151) h fun h =>
  st (a157.add 22) (Value.int .u64 n152) h fun h =>
  st (a157.add 23) (Value.slice s153.base s153.len s153.cap) h fun h =>
  st (a157.add 24) (Value.slice s154.base s154.len s154.cap) h fun h =>
  st (a157.add 25) (Value.slice s155.base s155.len s155.cap) h fun h =>
  st (⟨q8, 0, none⟩ : Addr) (Value.int .i64 0) h fun h =>
  shadow_Store_breaks τ p1 (some (⟨q8, 0, none⟩ : Addr)) h fun  h =>
  ld (.int .i64) (⟨q8, 0, none⟩ : Addr) h fun n158 =>
  K n158 h))))))))) 0 h))))

def shadow_Store_Own (τ : Nat → Nat) (p1 : Option Addr) (h : Mem) (K : Sl → Mem → Prop) : Prop :=
  shadow_Store_made τ p1 h fun b3 h =>
  ifB (!b3) (
    K (⟨none, 0, 0⟩ : Sl) h)
  (nn p1 fun a4 =>
  ld (.sl) (a4.add 12) h fun s5 =>
  slices_Clone_int_int τ s5 h fun s6 h =>
  K s6 h)

def shadow_Store_Table (τ : Nat → Nat) (p1 : Option Addr) (h : Mem) (K : Sl → Mem → Prop) : Prop :=
  al (.cells #[(Value.slice none 0 0)] (τ 2)) h fun q3 h =>
  shadow_Store_made τ p1 h fun b4 h =>
  ifB (!b4) (
    st (⟨q3, 0, none⟩ : Addr) (Value.slice none 0 0) h fun h =>
    ld (.sl) (⟨q3, 0, none⟩ : Addr) h fun s5 =>
    K s5 h)
  (nn p1 fun a6 =>
  ld (.int .u64) (a6.add 14) h fun n7 =>
  ld (.int .u64) (a6.add 15) h fun n8 =>
  ld (.int .u64) (a6.add 16) h fun n9 =>
  ld (.int .u64) (a6.add 17) h fun n10 =>
  ld (.int .u64) (a6.add 18) h fun n11 =>
  ld (.int .u64) (a6.add 19) h fun n12 =>
  ld (.int .u64) (a6.add 20) h fun n13 =>
  ld (.int .u64) (a6.add 21) h fun n14 =>
  ld (.int .u64) (a6.add 22) h fun n15 =>
  ld (.sl) (a6.add 23) h fun s16 =>
  ld (.sl) (a6.add 24) h fun s17 =>
  ld (.sl) (a6.add 25) h fun s18 =>
  shadow_state_copied τ n7 n8 n9 n10 n11 n12 n13 n14 n15 s16 s17 s18 h fun n19 n20 n21 n22 n23 n24 n25 n26 n27 s28 s29 s30 h =>
  st (⟨q3, 0, none⟩ : Addr) (Value.slice s28.base s28.len s28.cap) h fun h =>
  ld (.sl) (⟨q3, 0, none⟩ : Addr) h fun s31 =>
  K s31 h)

def shadow_Store_Spare (τ : Nat → Nat) (p1 : Option Addr) (h : Mem) (K : Int → Mem → Prop) : Prop :=
  shadow_Store_made τ p1 h fun b3 h =>
  ifB (!b3) (
    K 0 h)
  (shadow_Store_used τ p1 h fun s4 h =>
  LoopP (σ := Int × Int) (fun nx1 l1 h =>
    ifB (decide (l1.2 < (s4.len : Int))) (
      let J1 : Int → Mem → Prop := (fun n7 h =>
      nx1 (n7, (IntKind.i64.wrap (l1.2 + 1))) h);
    ixS s4 l1.2 1 fun a5 =>
    ld (.bool) a5 h fun b6 =>
    ifB (!b6) (
      J1 (IntKind.i64.wrap (l1.1 + 1)) h)
    (J1 l1.1 h))
    (K l1.1 h)) (0, 0) h)

def shadow_Store_Fresh (τ : Nat → Nat) (p1 : Option Addr) (h : Mem) (K : Sl → Mem → Prop) : Prop :=
  shadow_Store_made τ p1 h fun b3 h =>
  ifB (!b3) (
    K (⟨none, 0, 0⟩ : Sl) h)
  (nn p1 fun a4 =>
  ld (.sl) (a4.add 25) h fun s5 =>
  slices_Clone_int_int τ s5 h fun s6 h =>
  K s6 h)

def shadow_Store_Root (τ : Nat → Nat) (p1 : Option Addr) (h : Mem) (K : Int → Int → Int → Int → Int → Int → Int → Int → Int → Mem → Prop) : Prop :=
  al (.cells #[(Value.int .u64 0), (Value.int .u64 0), (Value.int .u64 0), (Value.int .u64 0), (Value.int .u64 0), (Value.int .u64 0), (Value.int .u64 0), (Value.int .u64 0), (Value.int .u64 0)] (τ 14)) h fun q11 h =>
  shadow_Store_made τ p1 h fun b12 h =>
  ifB (!b12) (
    st (⟨q11, 0, none⟩ : Addr) (Value.int .u64 0) h fun h =>
    st (⟨q11, 1, none⟩ : Addr) (Value.int .u64 0) h fun h =>
    st (⟨q11, 2, none⟩ : Addr) (Value.int .u64 0) h fun h =>
    st (⟨q11, 3, none⟩ : Addr) (Value.int .u64 0) h fun h =>
    st (⟨q11, 4, none⟩ : Addr) (Value.int .u64 0) h fun h =>
    st (⟨q11, 5, none⟩ : Addr) (Value.int .u64 0) h fun h =>
    st (⟨q11, 6, none⟩ : Addr) (Value.int .u64 0) h fun h =>
    st (⟨q11, 7, none⟩ : Addr) (Value.int .u64 0) h fun h =>
    st (⟨q11, 8, none⟩ : Addr) (Value.int .u64 0) h fun h =>
    ld (.int .u64) (⟨q11, 0, none⟩ : Addr) h fun n13 =>
    ld (.int .u64) (⟨q11, 1, none⟩ : Addr) h fun n14 =>
    ld (.int .u64) (⟨q11, 2, none⟩ : Addr) h fun n15 =>
    ld (.int .u64) (⟨q11, 3, none⟩ : Addr) h fun n16 =>
    ld (.int .u64) (⟨q11, 4, none⟩ : Addr) h fun n17 =>
    ld (.int .u64) (⟨q11, 5, none⟩ : Addr) h fun n18 =>
    ld (.int .u64) (⟨q11, 6, none⟩ : Addr) h fun n19 =>
    ld (.int .u64) (⟨q11, 7, none⟩ : Addr) h fun n20 =>
    ld (.int .u64) (⟨q11, 8, none⟩ : Addr) h fun n21 =>
    K n13 n14 n15 n16 n17 n18 n19 n20 n21 h)
  (nn p1 fun a22 =>
  ld (.int .u64) (a22.add 2) h fun n23 =>
  ld (.int .u64) (a22.add 3) h fun n24 =>
  ld (.int .u64) (a22.add 4) h fun n25 =>
  ld (.int .u64) (a22.add 5) h fun n26 =>
  ld (.int .u64) (a22.add 6) h fun n27 =>
  ld (.int .u64) (a22.add 7) h fun n28 =>
  ld (.int .u64) (a22.add 8) h fun n29 =>
  ld (.int .u64) (a22.add 9) h fun n30 =>
  ld (.int .u64) (a22.add 10) h fun n31 =>
  st (⟨q11, 0, none⟩ : Addr) (Value.int .u64 n23) h fun h =>
  st (⟨q11, 1, none⟩ : Addr) (Value.int .u64 n24) h fun h =>
  st (⟨q11, 2, none⟩ : Addr) (Value.int .u64 n25) h fun h =>
  st (⟨q11, 3, none⟩ : Addr) (Value.int .u64 n26) h fun h =>
  st (⟨q11, 4, none⟩ : Addr) (Value.int .u64 n27) h fun h =>
  st (⟨q11, 5, none⟩ : Addr) (Value.int .u64 n28) h fun h =>
  st (⟨q11, 6, none⟩ : Addr) (Value.int .u64 n29) h fun h =>
  st (⟨q11, 7, none⟩ : Addr) (Value.int .u64 n30) h fun h =>
  st (⟨q11, 8, none⟩ : Addr) (Value.int .u64 n31) h fun h =>
  ld (.int .u64) (⟨q11, 0, none⟩ : Addr) h fun n32 =>
  ld (.int .u64) (⟨q11, 1, none⟩ : Addr) h fun n33 =>
  ld (.int .u64) (⟨q11, 2, none⟩ : Addr) h fun n34 =>
  ld (.int .u64) (⟨q11, 3, none⟩ : Addr) h fun n35 =>
  ld (.int .u64) (⟨q11, 4, none⟩ : Addr) h fun n36 =>
  ld (.int .u64) (⟨q11, 5, none⟩ : Addr) h fun n37 =>
  ld (.int .u64) (⟨q11, 6, none⟩ : Addr) h fun n38 =>
  ld (.int .u64) (⟨q11, 7, none⟩ : Addr) h fun n39 =>
  ld (.int .u64) (⟨q11, 8, none⟩ : Addr) h fun n40 =>
  K n32 n33 n34 n35 n36 n37 n38 n39 n40 h)

def shadow_Store_Read (τ : Nat → Nat) (p1 : Option Addr) (n2 : Int) (h : Mem) (K : Int → Int → Sl → Int → Mem → Prop) : Prop :=
  al (.cells #[(Value.int .i64 0), (Value.int .u32 0), (Value.slice none 0 0)] (τ 10)) h fun q7 h =>
  al (.cells #[(Value.int .i64 0)] (τ 13)) h fun q8 h =>
  shadow_Store_ready τ p1 h fun n9 h =>
  ifB (n9 != 0) (
    st (⟨q7, 0, none⟩ : Addr) (Value.int .i64 0) h fun h =>
    st (⟨q7, 1, none⟩ : Addr) (Value.int .u32 0) h fun h =>
    st (⟨q7, 2, none⟩ : Addr) (Value.slice none 0 0) h fun h =>
    st (⟨q8, 0, none⟩ : Addr) (Value.int .i64 n9) h fun h =>
    ld (.int .i64) (⟨q7, 0, none⟩ : Addr) h fun n10 =>
    ld (.int .u32) (⟨q7, 1, none⟩ : Addr) h fun n11 =>
    ld (.sl) (⟨q7, 2, none⟩ : Addr) h fun s12 =>
    ld (.int .i64) (⟨q8, 0, none⟩ : Addr) h fun n13 =>
    K n10 n11 s12 n13 h)
  (nn p1 fun a14 =>
  ld (.sl) (a14.add 23) h fun s15 =>
  table_Get τ s15 n2 h fun n16 b17 h =>
  ifB (!b17) (
    st (⟨q7, 0, none⟩ : Addr) (Value.int .i64 0) h fun h =>
    st (⟨q7, 1, none⟩ : Addr) (Value.int .u32 0) h fun h =>
    st (⟨q7, 2, none⟩ : Addr) (Value.slice none 0 0) h fun h =>
    st (⟨q8, 0, none⟩ : Addr) (Value.int .i64 6) h fun h =>
    shadow_Store_breaks τ p1 (some (⟨q8, 0, none⟩ : Addr)) h fun  h =>
    ld (.int .i64) (⟨q7, 0, none⟩ : Addr) h fun n18 =>
    ld (.int .u32) (⟨q7, 1, none⟩ : Addr) h fun n19 =>
    ld (.sl) (⟨q7, 2, none⟩ : Addr) h fun s20 =>
    ld (.int .i64) (⟨q8, 0, none⟩ : Addr) h fun n21 =>
    K n18 n19 s20 n21 h)
  (nn p1 fun a22 =>
  ld (.ptr) (a22.add 1) h fun p23 =>
  pool_Pool_Get τ p23 n16 h fun s24 n25 h =>
  st (⟨q8, 0, none⟩ : Addr) (Value.int .i64 n25) h fun h =>
  ld (.int .i64) (⟨q8, 0, none⟩ : Addr) h fun n26 =>
  ifB (n26 != 0) (
    ld (.int .i64) (⟨q8, 0, none⟩ : Addr) h fun n27 =>
    st (⟨q7, 0, none⟩ : Addr) (Value.int .i64 0) h fun h =>
    st (⟨q7, 1, none⟩ : Addr) (Value.int .u32 0) h fun h =>
    st (⟨q7, 2, none⟩ : Addr) (Value.slice none 0 0) h fun h =>
    rd h (⟨q8, 0, none⟩ : Addr) = some (Value.int .i64 n27) ∧
    (
    st (⟨q8, 0, none⟩ : Addr) (Value.int .i64 n27) h fun h =>
    shadow_Store_breaks τ p1 (some (⟨q8, 0, none⟩ : Addr)) h fun  h =>
    ld (.int .i64) (⟨q7, 0, none⟩ : Addr) h fun n28 =>
    ld (.int .u32) (⟨q7, 1, none⟩ : Addr) h fun n29 =>
    ld (.sl) (⟨q7, 2, none⟩ : Addr) h fun s30 =>
    ld (.int .i64) (⟨q8, 0, none⟩ : Addr) h fun n31 =>
    K n28 n29 s30 n31 h))
  (page_Read τ s24 h fun n32 n33 s34 n35 h =>
  st (⟨q7, 0, none⟩ : Addr) (Value.int .i64 n32) h fun h =>
  st (⟨q7, 1, none⟩ : Addr) (Value.int .u32 n33) h fun h =>
  st (⟨q7, 2, none⟩ : Addr) (Value.slice s34.base s34.len s34.cap) h fun h =>
  st (⟨q8, 0, none⟩ : Addr) (Value.int .i64 n35) h fun h =>
  let J1 : Bool → Mem → Prop := (fun b41 h =>
    ifB b41 (
      st (⟨q7, 0, none⟩ : Addr) (Value.int .i64 0) h fun h =>
      st (⟨q7, 1, none⟩ : Addr) (Value.int .u32 0) h fun h =>
      st (⟨q7, 2, none⟩ : Addr) (Value.slice none 0 0) h fun h =>
      st (⟨q8, 0, none⟩ : Addr) (Value.int .i64 4) h fun h =>
      shadow_Store_breaks τ p1 (some (⟨q8, 0, none⟩ : Addr)) h fun  h =>
      ld (.int .i64) (⟨q7, 0, none⟩ : Addr) h fun n42 =>
      ld (.int .u32) (⟨q7, 1, none⟩ : Addr) h fun n43 =>
      ld (.sl) (⟨q7, 2, none⟩ : Addr) h fun s44 =>
      ld (.int .i64) (⟨q8, 0, none⟩ : Addr) h fun n45 =>
      K n42 n43 s44 n45 h)
    (ld (.int .i64) (⟨q7, 0, none⟩ : Addr) h fun n46 =>
  ld (.int .u32) (⟨q7, 1, none⟩ : Addr) h fun n47 =>
  ld (.sl) (⟨q7, 2, none⟩ : Addr) h fun s48 =>
  st (⟨q7, 0, none⟩ : Addr) (Value.int .i64 n46) h fun h =>
  st (⟨q7, 1, none⟩ : Addr) (Value.int .u32 n47) h fun h =>
  st (⟨q7, 2, none⟩ : Addr) (Value.slice s48.base s48.len s48.cap) h fun h =>
  st (⟨q8, 0, none⟩ : Addr) (Value.int .i64 0) h fun h =>
  shadow_Store_breaks τ p1 (some (⟨q8, 0, none⟩ : Addr)) h fun  h =>
  ld (.int .i64) (⟨q7, 0, none⟩ : Addr) h fun n49 =>
  ld (.int .u32) (⟨q7, 1, none⟩ : Addr) h fun n50 =>
  ld (.sl) (⟨q7, 2, none⟩ : Addr) h fun s51 =>
  ld (.int .i64) (⟨q8, 0, none⟩ : Addr) h fun n52 =>
  K n49 n50 s51 n52 h));
  ld (.int .i64) (⟨q8, 0, none⟩ : Addr) h fun n36 =>
  ifB (n36 != 0) (
    J1 true h)
  (ld (.int .u32) (⟨q7, 1, none⟩ : Addr) h fun n37 =>
  ifB (n37 != (IntKind.u32.wrap n2)) (
    J1 true h)
  (ld (.int .i64) (⟨q7, 0, none⟩ : Addr) h fun n38 =>
  ld (.sl) (⟨q7, 2, none⟩ : Addr) h fun s39 =>
  shadow_logical τ n38 s39 h fun b40 h =>
  J1 (!b40) h)))))

def shadow_Store_held (τ : Nat → Nat) (p1 : Option Addr) (n2 : Int) (h : Mem) (K : Int → Int → Mem → Prop) : Prop :=
  shadow_Store_ready τ p1 h fun n5 h =>
  ifB (n5 != 0) (
    K 0 n5 h)
  (nn p1 fun a6 =>
  ld (.sl) (a6.add 23) h fun s7 =>
  table_Get τ s7 n2 h fun n8 b9 h =>
  ifB (!b9) (
    K 0 6 h)
  (K n8 0 h))

def shadow_Store_Unpin (τ : Nat → Nat) (p1 : Option Addr) (n2 : Int) (h : Mem) (K : Int → Mem → Prop) : Prop :=
  shadow_Store_held τ p1 n2 h fun n4 n5 h =>
  ifB (n5 != 0) (
    K n5 h)
  (nn p1 fun a6 =>
  ld (.ptr) (a6.add 1) h fun p7 =>
  pool_Pool_Unpin τ p7 n4 h fun n8 h =>
  K n8 h)

def shadow_Store_Err (τ : Nat → Nat) (p1 : Option Addr) (h : Mem) (K : Int → Mem → Prop) : Prop :=
  shadow_Store_ready τ p1 h fun n3 h =>
  K n3 h

def shadow_Store_Rollback_1 (τ : Nat → Nat) (a1 : Addr) (a2 : Addr) (h : Mem) (K : Mem → Prop) : Prop :=
  ld (.int .i64) a1 h fun n3 =>
  ifB (n3 != 0) (
    ld (.ptr) a2 h fun p4 =>
    nn p4 fun a5 =>
    st (a5.add 26) (Value.bool true) h fun h =>
    K h)
  (K h)

def shadow_Store_Rollback (τ : Nat → Nat) (p1 : Option Addr) (h : Mem) (K : Int → Mem → Prop) : Prop :=
  al (.cells #[(Value.pointer p1)] (τ 23)) h fun q3 h =>
  al (.cells #[(Value.int .i64 0)] (τ 13)) h fun q4 h =>
  ld (.ptr) (⟨q3, 0, none⟩ : Addr) h fun p5 =>
  shadow_Store_made τ p5 h fun b6 h =>
  ifB (!b6) (
    st (⟨q4, 0, none⟩ : Addr) (Value.int .i64 1) h fun h =>
    ld (.int .i64) (⟨q4, 0, none⟩ : Addr) h fun n7 =>
    K n7 h)
  (ld (.ptr) (⟨q3, 0, none⟩ : Addr) h fun p8 =>
  nn p8 fun a9 =>
  ld (.ptr) (a9.add 1) h fun p10 =>
  pool_Pool_Reset τ p10 h fun n11 h =>
  let J1 : Mem → Prop := (fun h =>
    ld (.ptr) (⟨q3, 0, none⟩ : Addr) h fun p31 =>
    shadow_Store_load τ p31 h fun n32 h =>
    st (⟨q4, 0, none⟩ : Addr) (Value.int .i64 n32) h fun h =>
    shadow_Store_Rollback_1 τ (⟨q4, 0, none⟩ : Addr) (⟨q3, 0, none⟩ : Addr) h fun  h =>
    ld (.int .i64) (⟨q4, 0, none⟩ : Addr) h fun n33 =>
    K n33 h);
  ld (.ptr) (⟨q3, 0, none⟩ : Addr) h fun p12 =>
  nn p12 fun a13 =>
  ld (.int .i64) (a13.add 27) h fun n14 =>
  ifB (decide (n14 ≥ 0)) (
    ld (.ptr) (⟨q3, 0, none⟩ : Addr) h fun p15 =>
    nn p15 fun a16 =>
    ld (.ptr) a16 h fun p17 =>
    ld (.ptr) (⟨q3, 0, none⟩ : Addr) h fun p18 =>
    nn p18 fun a19 =>
    ld (.int .i64) (a19.add 27) h fun n20 =>
    mks (τ 0) #[(Value.int .u8 0)] 1 1 4096 4096 h fun s21 h =>
    rd h (a19.add 27) = some (Value.int .i64 n20) ∧
    rd h (⟨q3, 0, none⟩ : Addr) = some (Value.pointer p18) ∧
    rd h a16 = some (Value.pointer p17) ∧
    rd h (⟨q3, 0, none⟩ : Addr) = some (Value.pointer p15) ∧
    (
    page_Save τ p17 n20 s21 h fun n22 h =>
    ifB (n22 != 0) (
      st (⟨q4, 0, none⟩ : Addr) (Value.int .i64 n22) h fun h =>
      shadow_Store_Rollback_1 τ (⟨q4, 0, none⟩ : Addr) (⟨q3, 0, none⟩ : Addr) h fun  h =>
      ld (.int .i64) (⟨q4, 0, none⟩ : Addr) h fun n23 =>
      K n23 h)
    (ld (.ptr) (⟨q3, 0, none⟩ : Addr) h fun p24 =>
    nn p24 fun a25 =>
    ld (.ptr) a25 h fun p26 =>
    sector_Disk_Flush τ p26 h fun n27 h =>
    ifB (n27 != 0) (
      st (⟨q4, 0, none⟩ : Addr) (Value.int .i64 n27) h fun h =>
      shadow_Store_Rollback_1 τ (⟨q4, 0, none⟩ : Addr) (⟨q3, 0, none⟩ : Addr) h fun  h =>
      ld (.int .i64) (⟨q4, 0, none⟩ : Addr) h fun n28 =>
      K n28 h)
    (ld (.ptr) (⟨q3, 0, none⟩ : Addr) h fun p29 =>
    nn p29 fun a30 =>
    st (a30.add 27) (Value.int .i64 (-1)) h fun h =>
    J1 h))))
  (J1 h))

def shadow_Store_Evict (τ : Nat → Nat) (p1 : Option Addr) (n2 : Int) (h : Mem) (K : Int → Mem → Prop) : Prop :=
  al (.cells #[(Value.int .i64 0)] (τ 13)) h fun q4 h =>
  shadow_Store_ready τ p1 h fun n5 h =>
  ifB (n5 != 0) (
    st (⟨q4, 0, none⟩ : Addr) (Value.int .i64 n5) h fun h =>
    ld (.int .i64) (⟨q4, 0, none⟩ : Addr) h fun n6 =>
    K n6 h)
  (nn p1 fun a7 =>
  ld (.ptr) (a7.add 1) h fun p8 =>
  pool_Pool_Evict τ p8 n2 h fun n9 h =>
  st (⟨q4, 0, none⟩ : Addr) (Value.int .i64 n9) h fun h =>
  shadow_Store_breaks τ p1 (some (⟨q4, 0, none⟩ : Addr)) h fun  h =>
  ld (.int .i64) (⟨q4, 0, none⟩ : Addr) h fun n10 =>
  K n10 h)

def shadow_Store_Pin (τ : Nat → Nat) (p1 : Option Addr) (n2 : Int) (h : Mem) (K : Int → Mem → Prop) : Prop :=
  al (.cells #[(Value.int .i64 0)] (τ 13)) h fun q4 h =>
  shadow_Store_held τ p1 n2 h fun n5 n6 h =>
  st (⟨q4, 0, none⟩ : Addr) (Value.int .i64 n6) h fun h =>
  ld (.int .i64) (⟨q4, 0, none⟩ : Addr) h fun n7 =>
  ifB (n7 != 0) (
    ld (.int .i64) (⟨q4, 0, none⟩ : Addr) h fun n8 =>
    st (⟨q4, 0, none⟩ : Addr) (Value.int .i64 n8) h fun h =>
    ld (.int .i64) (⟨q4, 0, none⟩ : Addr) h fun n9 =>
    K n9 h)
  (nn p1 fun a10 =>
  ld (.ptr) (a10.add 1) h fun p11 =>
  pool_Pool_Pin τ p11 n5 h fun n12 h =>
  st (⟨q4, 0, none⟩ : Addr) (Value.int .i64 n12) h fun h =>
  shadow_Store_breaks τ p1 (some (⟨q4, 0, none⟩ : Addr)) h fun  h =>
  ld (.int .i64) (⟨q4, 0, none⟩ : Addr) h fun n13 =>
  K n13 h)

def tallymanlaw11_ShadowNil (τ : Nat → Nat) (n1 : Int) (n2 : Int) (s3 : Sl) (h : Mem) (K : Bool → Mem → Prop) : Prop :=
  tallymanlaw11_lives τ  h fun b5 h =>
  ifB (!b5) (
    K false h)
  (ifB (decide ((s3.len : Int) > 5000)) (
    K true h)
  (shadow_Store_Read τ none n1 h fun n6 n7 s8 n9 h =>
  al (.cells #[(Value.int .i64 0), (Value.int .u32 0), (Value.slice none 0 0)] (τ 10)) h fun q10 h =>
  st (⟨q10, 0, none⟩ : Addr) (Value.int .i64 n6) h fun h =>
  st (⟨q10, 1, none⟩ : Addr) (Value.int .u32 n7) h fun h =>
  st (⟨q10, 2, none⟩ : Addr) (Value.slice s8.base s8.len s8.cap) h fun h =>
  shadow_Store_New τ none n2 s3 h fun n11 n12 h =>
  let J1 : Bool → Mem → Prop := (fun b34 h =>
    K b34 h);
  ifB (n9 == 1) (
    ifB (n12 == 1) (
      shadow_Store_Write τ none n1 n2 s3 h fun n13 h =>
      ifB (n13 == 1) (
        shadow_Store_Free τ none n1 h fun n14 h =>
        ifB (n14 == 1) (
          shadow_Store_Commit τ none 0 0 0 0 h fun n15 h =>
          ifB (n15 == 1) (
            shadow_Store_Rollback τ none h fun n16 h =>
            ifB (n16 == 1) (
              shadow_Store_Pin τ none n1 h fun n17 h =>
              ifB (n17 == 1) (
                shadow_Store_Unpin τ none n1 h fun n18 h =>
                ifB (n18 == 1) (
                  shadow_Store_Evict τ none n1 h fun n19 h =>
                  ifB (n19 == 1) (
                    shadow_Store_Err τ none h fun n20 h =>
                    ifB (n20 == 1) (
                      shadow_Store_Root τ none h fun n21 n22 n23 n24 n25 n26 n27 n28 n29 h =>
                      ifB ((n21 == 0) && ((n22 == 0) && ((n23 == 0) && ((n24 == 0) && ((n25 == 0) && ((n26 == 0) && ((n27 == 0) && ((n28 == 0) && ((n29 == 0) && true))))))))) (
                        shadow_Store_Table τ none h fun s30 h =>
                        shadow_Store_Own τ none h fun s31 h =>
                        shadow_Store_Fresh τ none h fun s32 h =>
                        shadow_Store_Spare τ none h fun n33 h =>
                        J1 ((IntKind.i64.wrap ((IntKind.i64.wrap ((IntKind.i64.wrap ((s30.len : Int) + (s31.len : Int))) + (s32.len : Int))) + n33)) == 0) h)
                      (J1 false h))
                    (J1 false h))
                  (J1 false h))
                (J1 false h))
              (J1 false h))
            (J1 false h))
          (J1 false h))
        (J1 false h))
      (J1 false h))
    (J1 false h))
  (J1 false h)))
end Go.TS
/- Contracts: a store that is nil. -/
namespace Go.TS
open Go
theorem ifT {c : Bool} {A B : Prop} (hc : c = true) (hA : A) : ifB c A B := by subst hc; exact hA
theorem ifF {c : Bool} {A B : Prop} (hc : c = false) (hB : B) : ifB c A B := by subst hc; exact hB
/-- a new block -/
theorem al_new {h0 h : Mem} {cs : List Value} {t : TypeId} {K : Nat → Mem → Prop} (hE0 : Ext h0 h) (hK : ∀ q h', Blk h' q cs → Ext h0 h' → Ext h h' → h.size ≤ q → K q h') : al (.cells cs.toArray t) h K :=
  al_ct fun h1 hb hE _ => hK h.size h1 ⟨t, hb⟩ (hE0.ext hE) hE (Nat.le_refl _)
theorem st_new {h0 h : Mem} {b i : Nat} {v : Value} {K : Mem → Prop} {cs : List Value} (p : Blk h b cs) (hE : Ext h0 h) (hb : h0.size ≤ b) (hi : i < cs.length) (hK : ∀ h', Blk h' b (cs.set i v) → Ext h0 h' → Upd (· = b) h h' → K h') : st ⟨b, i, none⟩ v h K :=
  st_ct p hi fun h' p' hu _ => hK h' p' (Upd.above hE hu fun k hk => by rw [hk]; exact hb) hu
theorem ld_new {h : Mem} {b i : Nat} {k : Kind} {K : k.ty → Prop} {cs : List Value} (p : Blk h b cs) (x : k.ty) (hx : cs[i]? = some (k.enc x)) (hK : K x) : ld k ⟨b, i, none⟩ h K := ld_ct x (by rw [p.rd, hx]) hK
variable {τ : Nat → Nat} {h h0 : Mem}
theorem nilMade {K : Bool → Mem → Prop} (hK : K false h) : shadow_Store_made τ none h K := by
  unfold shadow_Store_made
  exact ifF rfl hK
theorem nilReady {K : Int → Mem → Prop} (hK : K 1 h) : shadow_Store_ready τ none h K := nilMade (ifT rfl hK)
theorem nilHeld {n : Int} {K : Int → Int → Mem → Prop} (hK : K 0 1 h) : shadow_Store_held τ none n h K := nilReady (ifT rfl hK)
theorem nilRead {n : Int} {K : Int → Int → Sl → Int → Mem → Prop} (E : Ext h0 h) (hK : ∀ h', Ext h0 h' → K 0 0 ⟨none, 0, 0⟩ 1 h') : shadow_Store_Read τ none n h K := by
  refine al_new E (cs := [.int .i64 0, .int .u32 0, .slice none 0 0]) fun q7 h1 b7 E1 F1 g7 => ?_
  refine al_new E1 (cs := [.int .i64 0]) fun q8 h2 b8 E2 F2 g8 => ?_
  refine nilReady (ifT rfl ?_)
  have hlt := b7.lt
  have hne : q7 ≠ q8 := fun e => by omega
  have z := E.sz
  have z1 := F1.sz
  refine st_new (b7.gete F2) E2 (by omega) (by simp) fun h3 c3 E3 U3 => ?_
  refine st_new c3 E3 (by omega) (by simp) fun h4 c4 E4 U4 => ?_
  refine st_new c4 E4 (by omega) (by simp) fun h5 c5 E5 U5 => ?_
  have d5 := ((b8.get U3 (fun e => hne e.symm)).get U4 (fun e => hne e.symm)).get U5 (fun e => hne e.symm)
  refine st_new d5 E5 (by omega) (by simp) fun h6 d6 E6 U6 => ?_
  have c6 := c5.get U6 hne
  refine ld_new (k := .int .i64) c6 0 rfl ?_
  refine ld_new (k := .int .u32) c6 0 rfl ?_
  refine ld_new (k := .sl) c6 ⟨none, 0, 0⟩ rfl ?_
  refine ld_new (k := .int .i64) d6 1 rfl ?_
  exact hK h6 E6
theorem nilNew {n : Int} {s : Sl} {K : Int → Int → Mem → Prop} (hK : K 0 1 h) : shadow_Store_New τ none n s h K := nilReady (ifT rfl hK)
theorem nilWrite {n k : Int} {s : Sl} {K : Int → Mem → Prop} (hK : K 1 h) : shadow_Store_Write τ none n k s h K := nilReady (ifT rfl hK)
theorem nilFree {n : Int} {K : Int → Mem → Prop} (hK : K 1 h) : shadow_Store_Free τ none n h K := nilReady (ifT rfl hK)
theorem nilErr {K : Int → Mem → Prop} (hK : K 1 h) : shadow_Store_Err τ none h K := nilReady hK
theorem nilUnpin {n : Int} {K : Int → Mem → Prop} (hK : K 1 h) : shadow_Store_Unpin τ none n h K := nilHeld (ifT rfl hK)
theorem nilOwn {K : Sl → Mem → Prop} (hK : K ⟨none, 0, 0⟩ h) : shadow_Store_Own τ none h K := nilMade (ifT rfl hK)
theorem nilFresh {K : Sl → Mem → Prop} (hK : K ⟨none, 0, 0⟩ h) : shadow_Store_Fresh τ none h K := nilMade (ifT rfl hK)
theorem nilSpare {K : Int → Mem → Prop} (hK : K 0 h) : shadow_Store_Spare τ none h K := nilMade (ifT rfl hK)
theorem nilCommit {a b c d : Int} {K : Int → Mem → Prop} (E : Ext h0 h) (hK : ∀ h', Ext h0 h' → K 1 h') : shadow_Store_Commit τ none a b c d h K := by
  refine al_new E (cs := [.int .u64 a, .int .u64 b, .int .u64 c, .int .u64 d]) fun q7 h1 b7 E1 F1 g7 => ?_
  refine al_new E1 (cs := [.int .i64 0]) fun q8 h2 b8 E2 F2 g8 => ?_
  have z := E.sz
  have z1 := F1.sz
  refine nilReady (ifT rfl ?_)
  refine st_new b8 E2 (by omega) (by simp) fun h3 c3 E3 U3 => ?_
  exact ld_new (k := .int .i64) c3 1 rfl (hK h3 E3)
theorem nilRollback {K : Int → Mem → Prop} (E : Ext h0 h) (hK : ∀ h', Ext h0 h' → K 1 h') : shadow_Store_Rollback τ none h K := by
  refine al_new E (cs := [.pointer none]) fun q7 h1 b7 E1 F1 g7 => ?_
  refine al_new E1 (cs := [.int .i64 0]) fun q8 h2 b8 E2 F2 g8 => ?_
  have z := E.sz
  have z1 := F1.sz
  refine ld_new (k := .ptr) (b7.gete F2) none rfl ?_
  refine nilMade (ifT rfl ?_)
  refine st_new b8 E2 (by omega) (by simp) fun h3 c3 E3 U3 => ?_
  exact ld_new (k := .int .i64) c3 1 rfl (hK h3 E3)
theorem nilEvict {n : Int} {K : Int → Mem → Prop} (E : Ext h0 h) (hK : ∀ h', Ext h0 h' → K 1 h') : shadow_Store_Evict τ none n h K := by
  refine al_new E (cs := [.int .i64 0]) fun q8 h2 b8 E2 F2 g8 => ?_
  have z := E.sz
  refine nilReady (ifT rfl ?_)
  refine st_new b8 E2 (by omega) (by simp) fun h3 c3 E3 U3 => ?_
  exact ld_new (k := .int .i64) c3 1 rfl (hK h3 E3)
theorem nilPin {n : Int} {K : Int → Mem → Prop} (E : Ext h0 h) (hK : ∀ h', Ext h0 h' → K 1 h') : shadow_Store_Pin τ none n h K := by
  refine al_new E (cs := [.int .i64 0]) fun q8 h2 b8 E2 F2 g8 => ?_
  have z := E.sz
  refine nilHeld ?_
  refine st_new b8 E2 (by omega) (by simp) fun h3 c3 E3 U3 => ?_
  refine ld_new (k := .int .i64) c3 1 rfl ?_
  refine ifT rfl ?_
  refine ld_new (k := .int .i64) c3 1 rfl ?_
  refine st_new c3 E3 (by omega) (by simp) fun h4 c4 E4 U4 => ?_
  exact ld_new (k := .int .i64) c4 1 rfl (hK h4 E4)
theorem nilTable {K : Sl → Mem → Prop} (E : Ext h0 h) (hK : ∀ h', Ext h0 h' → K ⟨none, 0, 0⟩ h') : shadow_Store_Table τ none h K := by
  refine al_new E (cs := [.slice none 0 0]) fun q8 h2 b8 E2 F2 g8 => ?_
  have z := E.sz
  refine nilMade (ifT rfl ?_)
  refine st_new b8 E2 (by omega) (by simp) fun h3 c3 E3 U3 => ?_
  exact ld_new (k := .sl) c3 ⟨none, 0, 0⟩ rfl (hK h3 E3)
theorem nilRoot {K : Int → Int → Int → Int → Int → Int → Int → Int → Int → Mem → Prop} (E : Ext h0 h) (hK : ∀ h', Ext h0 h' → K 0 0 0 0 0 0 0 0 0 h') : shadow_Store_Root τ none h K := by
  refine al_new E (cs := [.int .u64 0, .int .u64 0, .int .u64 0, .int .u64 0, .int .u64 0, .int .u64 0, .int .u64 0, .int .u64 0, .int .u64 0]) fun q8 h2 b8 E2 F2 g8 => ?_
  have z := E.sz
  refine nilMade (ifT rfl ?_)
  refine st_new b8 E2 (by omega) (by simp) fun h3 c3 E3 _ => ?_
  refine st_new c3 E3 (by omega) (by simp) fun h4 c4 E4 _ => ?_
  refine st_new c4 E4 (by omega) (by simp) fun h5 c5 E5 _ => ?_
  refine st_new c5 E5 (by omega) (by simp) fun h6 c6 E6 _ => ?_
  refine st_new c6 E6 (by omega) (by simp) fun h7 c7 E7 _ => ?_
  refine st_new c7 E7 (by omega) (by simp) fun h8 c8 E8 _ => ?_
  refine st_new c8 E8 (by omega) (by simp) fun h9 c9 E9 _ => ?_
  refine st_new c9 E9 (by omega) (by simp) fun h10 c10 E10 _ => ?_
  refine st_new c10 E10 (by omega) (by simp) fun h11 c11 E11 _ => ?_
  refine ld_new (k := .int .u64) c11 0 rfl ?_
  refine ld_new (k := .int .u64) c11 0 rfl ?_
  refine ld_new (k := .int .u64) c11 0 rfl ?_
  refine ld_new (k := .int .u64) c11 0 rfl ?_
  refine ld_new (k := .int .u64) c11 0 rfl ?_
  refine ld_new (k := .int .u64) c11 0 rfl ?_
  refine ld_new (k := .int .u64) c11 0 rfl ?_
  refine ld_new (k := .int .u64) c11 0 rfl ?_
  refine ld_new (k := .int .u64) c11 0 rfl ?_
  exact hK h11 E11
theorem nil_ct {n kind : Int} {s : Sl} {K : Bool → Mem → Prop} (hl : ∀ J : Bool → Mem → Prop, (∀ h', Ext h h' → J true h') → tallymanlaw11_lives τ h J) (hK : ∀ h', Ext h h' → K true h') : tallymanlaw11_ShadowNil τ n kind s h K := by
  refine hl _ fun h1 E1 => ?_
  refine ifF rfl ?_
  by_cases hs : ((s.len : Int) > 5000)
  · exact ifT (decide_eq_true hs) (hK h1 E1)
  refine ifF (decide_eq_false hs) ?_
  refine nilRead E1 fun h2 E2 => ?_
  refine al_new E2 (cs := [.int .i64 0, .int .u32 0, .slice none 0 0]) fun q h3 b3 E3 F3 g3 => ?_
  have z := E2.sz
  refine st_new b3 E3 (by omega) (by simp) fun h4 b4 E4 _ => ?_
  refine st_new b4 E4 (by omega) (by simp) fun h5 b5 E5 _ => ?_
  refine st_new b5 E5 (by omega) (by simp) fun h6 b6 E6 _ => ?_
  refine nilNew ?_
  refine ifT rfl (ifT rfl ?_)
  refine nilWrite (ifT rfl (nilFree (ifT rfl ?_)))
  refine nilCommit E6 fun h7 E7 => ifT rfl ?_
  refine nilRollback E7 fun h8 E8 => ifT rfl ?_
  refine nilPin E8 fun h9 E9 => ifT rfl ?_
  refine nilUnpin (ifT rfl ?_)
  refine nilEvict E9 fun h10 E10 => ifT rfl ?_
  refine nilErr (ifT rfl ?_)
  refine nilRoot E10 fun h11 E11 => ifT rfl ?_
  refine nilTable E11 fun h12 E12 => ?_
  refine nilOwn (nilFresh (nilSpare ?_))
  have e : IntKind.i64.wrap (IntKind.i64.wrap (IntKind.i64.wrap (((0 : Nat) : Int) + ((0 : Nat) : Int)) + ((0 : Nat) : Int)) + 0) = 0 := by decide
  show K (IntKind.i64.wrap (IntKind.i64.wrap (IntKind.i64.wrap (((0 : Nat) : Int) + ((0 : Nat) : Int)) + ((0 : Nat) : Int)) + 0) == 0) h12
  rw [e]
  exact hK h12 E12
end Go.TS
