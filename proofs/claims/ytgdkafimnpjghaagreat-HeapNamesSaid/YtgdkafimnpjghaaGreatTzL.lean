/- The links: what each function asks is what its code asks. -/
import Derived.Test.YtgdkafimnpjghaaGreatProg
import Derived.Laws.Externs
import Derived.Lib.Overlaps
import Derived.Test.YtgdkafimnpjghaaGreatTsExt
import Derived.Test.YtgdkafimnpjghaaGreatTsCode
import Derived.Test.YtgdkafimnpjghaaGreatTsS10
namespace Go.TS.Tryz
open Go Go.TS
set_option linter.unusedVariables false
set_option maxRecDepth 100000
def tau (i : Nat) : Nat := ([5, 192, 88, 197, 123, 4, 29, 3, 42, 225, 31, 145, 143, 32, 86, 90, 67, 188, 93, 174, 160, 156, 38, 25, 98, 60, 64] : List Nat).getD i 0
def tyl : List (Nat × TI) := [
 (3, ⟨.int .i64, (Value.int .i64 0), 1, 8, .leaf (.int .i64)⟩),
 (5, ⟨.int .u8, (Value.int .u8 0), 1, 1, .leaf (.int .u8)⟩),
 (22, ⟨.slice 29, (Value.slice none 0 0), 1, 24, .leaf (.sl)⟩),
 (28, ⟨.int .u32, (Value.int .u32 0), 1, 4, .leaf (.int .u32)⟩),
 (29, ⟨.slice 5, (Value.slice none 0 0), 1, 24, .leaf (.sl)⟩),
 (31, ⟨.struct #[⟨ "Kind", 3, 0, false, "", "", 0⟩, ⟨ "Number", 28, 1, false, "", "", 8⟩, ⟨ "Body", 29, 2, false, "", "", 16⟩], (Value.agg #[(Value.int .i64 0), (Value.int .u32 0), (Value.slice none 0 0)]), 3, 40, .agg [.int .i64, .int .u32, .sl]⟩),
 (42, ⟨.slice 3, (Value.slice none 0 0), 1, 24, .leaf (.sl)⟩),
 (66, ⟨.int .u64, (Value.int .u64 0), 1, 8, .leaf (.int .u64)⟩),
 (70, ⟨.map 3 29, (Value.map none), 1, 8, .leaf (.map)⟩),
 (75, ⟨.pointer 192, (Value.pointer none), 1, 8, .leaf (.ptr)⟩),
 (179, ⟨.slice 42, (Value.slice none 0 0), 1, 24, .leaf (.sl)⟩),
 (190, ⟨.pointer 3, (Value.pointer none), 1, 8, .leaf (.ptr)⟩),
 (192, ⟨.struct #[⟨ "b", 29, 0, false, "", "tallyman/sector", 0⟩, ⟨ "cache", 70, 1, false, "", "tallyman/sector", 24⟩, ⟨ "order", 42, 2, false, "", "tallyman/sector", 32⟩, ⟨ "left", 190, 3, false, "", "tallyman/sector", 56⟩], (Value.agg #[(Value.slice none 0 0), (Value.map none), (Value.slice none 0 0), (Value.pointer none)]), 4, 64, .agg [.sl, .map, .sl, .ptr]⟩),
 (225, ⟨.array 256 28, (Value.agg (Array.replicate 256 (Value.int .u32 0))), 256, 1024, .arr 256⟩)]
def tys : Tys := trOf tyl
abbrev T77 := Sl → Mem → (Sl → Mem → Prop) → Prop
def c77 (f : T77) : CallP := fun vs h K => match vs with
  | [.slice s1b s1l s1c] => f ⟨s1b, s1l, s1c⟩ h fun s2 h => K (Value.slice s2.base s2.len s2.cap) h
  | _ => False
def cs77 : Calls' := callsT []
def dcs77 : Calls' := callsT []
def hn77 : Hints := ⟨[], [], []⟩
theorem d77 (s1 : Sl) (h : Mem) (K : Value → Mem → Prop) : denF tys (cs77) (dcs77) hn77 (Go.Proofs.Tryz.f77.body.getD .skip) Go.Proofs.Tryz.f77.results.toList [(Value.slice s1.base s1.len s1.cap)] h K = slices_Clone_byte_byte tau s1 h fun s2 h => K (Value.slice s2.base s2.len s2.cap) h := by delta slices_Clone_byte_byte; kernel_rfl
abbrev T141 := Sl → Int → Mem → (Sl → Mem → Prop) → Prop
def c141 (f : T141) : CallP := fun vs h K => match vs with
  | [.slice s1b s1l s1c, .int .i64 n2] => f ⟨s1b, s1l, s1c⟩ n2 h fun s3 h => K (Value.slice s3.base s3.len s3.cap) h
  | _ => False
def cs141 : Calls' := callsT []
def dcs141 : Calls' := callsT []
def hn141 : Hints := ⟨[], [], []⟩
theorem d141 (s1 : Sl) (n2 : Int) (h : Mem) (K : Value → Mem → Prop) : denF tys (cs141) (dcs141) hn141 (Go.Proofs.Tryz.f141.body.getD .skip) Go.Proofs.Tryz.f141.results.toList [(Value.slice s1.base s1.len s1.cap), (Value.int .i64 n2)] h K = slices_Grow_byte_byte tau s1 n2 h fun s3 h => K (Value.slice s3.base s3.len s3.cap) h := by delta slices_Grow_byte_byte; kernel_rfl
abbrev T102 := Sl → Mem → (Sl → Mem → Prop) → Prop
def c102 (f : T102) : CallP := fun vs h K => match vs with
  | [.slice s1b s1l s1c] => f ⟨s1b, s1l, s1c⟩ h fun s2 h => K (Value.slice s2.base s2.len s2.cap) h
  | _ => False
def cs102 (f141 : T141) : Calls' := callsT [(141, c141 f141)]
def dcs102 : Calls' := callsT []
def hn102 : Hints := ⟨[(3, [(3, .int .i64), (11, .int .i64)]), (11, [(6, .sl), (27, .int .i64)])], [], []⟩
theorem d102 (s1 : Sl) (h : Mem) (K : Value → Mem → Prop) : denF tys (cs102 (slices_Grow_byte_byte tau)) (dcs102) hn102 (Go.Proofs.Tryz.f102.body.getD .skip) Go.Proofs.Tryz.f102.results.toList [(Value.slice s1.base s1.len s1.cap)] h K = slices_Concat_byte_byte tau s1 h fun s2 h => K (Value.slice s2.base s2.len s2.cap) h := by delta slices_Concat_byte_byte; generalize slices_Grow_byte_byte tau = f141; revert f141; refine keep ?_; intro f141; kernel_rfl
abbrev T52 := Sl → Int → Int → Mem → (Sl → Mem → Prop) → Prop
def c52 (f : T52) : CallP := fun vs h K => match vs with
  | [.slice s1b s1l s1c, .int .u64 n2, .int .i64 n3] => f ⟨s1b, s1l, s1c⟩ n2 n3 h fun s4 h => K (Value.slice s4.base s4.len s4.cap) h
  | _ => False
def cs52 (f77 : T77) (f102 : T102) : Calls' := callsT [(77, c77 f77), (102, c102 f102)]
def dcs52 : Calls' := callsT []
def hn52 : Hints := ⟨[(8, [(1, .int .u64), (7, .sl), (16, .int .i64)])], [], []⟩
theorem d52 (s1 : Sl) (n2 : Int) (n3 : Int) (h : Mem) (K : Value → Mem → Prop) : denF tys (cs52 (slices_Clone_byte_byte tau) (slices_Concat_byte_byte tau)) (dcs52) hn52 (Go.Proofs.Tryz.f52.body.getD .skip) Go.Proofs.Tryz.f52.results.toList [(Value.slice s1.base s1.len s1.cap), (Value.int .u64 n2), (Value.int .i64 n3)] h K = octet_Word tau s1 n2 n3 h fun s4 h => K (Value.slice s4.base s4.len s4.cap) h := by delta octet_Word; generalize slices_Clone_byte_byte tau = f77; generalize slices_Concat_byte_byte tau = f102; revert f77 f102; refine keep ?_; intro f77 f102; kernel_rfl
abbrev T111 := Sl → Int → Mem → (Sl → Mem → Prop) → Prop
def c111 (f : T111) : CallP := fun vs h K => match vs with
  | [.slice s1b s1l s1c, .int .i64 n2] => f ⟨s1b, s1l, s1c⟩ n2 h fun s3 h => K (Value.slice s3.base s3.len s3.cap) h
  | _ => False
def cs111 : Calls' := callsT []
def dcs111 : Calls' := callsT []
def hn111 : Hints := ⟨[], [], []⟩
theorem d111 (s1 : Sl) (n2 : Int) (h : Mem) (K : Value → Mem → Prop) : denF tys (cs111) (dcs111) hn111 (Go.Proofs.Tryz.f111.body.getD .skip) Go.Proofs.Tryz.f111.results.toList [(Value.slice s1.base s1.len s1.cap), (Value.int .i64 n2)] h K = slices_Grow_int_int tau s1 n2 h fun s3 h => K (Value.slice s3.base s3.len s3.cap) h := by delta slices_Grow_int_int; kernel_rfl
abbrev T63 := Sl → Mem → (Sl → Mem → Prop) → Prop
def c63 (f : T63) : CallP := fun vs h K => match vs with
  | [.slice s1b s1l s1c] => f ⟨s1b, s1l, s1c⟩ h fun s2 h => K (Value.slice s2.base s2.len s2.cap) h
  | _ => False
def cs63 (f111 : T111) : Calls' := callsT [(111, c111 f111)]
def dcs63 : Calls' := callsT []
def hn63 : Hints := ⟨[(3, [(3, .int .i64), (11, .int .i64)]), (11, [(6, .sl), (27, .int .i64)])], [], []⟩
theorem d63 (s1 : Sl) (h : Mem) (K : Value → Mem → Prop) : denF tys (cs63 (slices_Grow_int_int tau)) (dcs63) hn63 (Go.Proofs.Tryz.f63.body.getD .skip) Go.Proofs.Tryz.f63.results.toList [(Value.slice s1.base s1.len s1.cap)] h K = slices_Concat_int_int tau s1 h fun s2 h => K (Value.slice s2.base s2.len s2.cap) h := by delta slices_Concat_int_int; generalize slices_Grow_int_int tau = f111; revert f111; refine keep ?_; intro f111; kernel_rfl
abbrev T117 := Option Addr → Mem → (Bool → Mem → Prop) → Prop
def c117 (f : T117) : CallP := fun vs h K => match vs with
  | [.pointer p1] => f p1 h fun b2 h => K (Value.bool b2) h
  | _ => False
def cs117 : Calls' := callsT []
def dcs117 : Calls' := callsT []
def hn117 : Hints := ⟨[], [], []⟩
theorem d117 (p1 : Option Addr) (h : Mem) (K : Value → Mem → Prop) : denF tys (cs117) (dcs117) hn117 (Go.Proofs.Tryz.f117.body.getD .skip) Go.Proofs.Tryz.f117.results.toList [(Value.pointer p1)] h K = sector_Disk_made tau p1 h fun b2 h => K (Value.bool b2) h := by delta sector_Disk_made; kernel_rfl
abbrev T118 := Option Addr → Mem → (Bool → Mem → Prop) → Prop
def c118 (f : T118) : CallP := fun vs h K => match vs with
  | [.pointer p1] => f p1 h fun b2 h => K (Value.bool b2) h
  | _ => False
def cs118 : Calls' := callsT []
def dcs118 : Calls' := callsT []
def hn118 : Hints := ⟨[], [], []⟩
theorem d118 (p1 : Option Addr) (h : Mem) (K : Value → Mem → Prop) : denF tys (cs118) (dcs118) hn118 (Go.Proofs.Tryz.f118.body.getD .skip) Go.Proofs.Tryz.f118.results.toList [(Value.pointer p1)] h K = sector_Disk_fails tau p1 h fun b2 h => K (Value.bool b2) h := by delta sector_Disk_fails; kernel_rfl
abbrev T119 := Option Addr → Int → Mem → (Sl → Mem → Prop) → Prop
def c119 (f : T119) : CallP := fun vs h K => match vs with
  | [.pointer p1, .int .i64 n2] => f p1 n2 h fun s3 h => K (Value.slice s3.base s3.len s3.cap) h
  | _ => False
def cs119 : Calls' := callsT []
def dcs119 : Calls' := callsT []
def hn119 : Hints := ⟨[], [], []⟩
theorem d119 (p1 : Option Addr) (n2 : Int) (h : Mem) (K : Value → Mem → Prop) : denF tys (cs119) (dcs119) hn119 (Go.Proofs.Tryz.f119.body.getD .skip) Go.Proofs.Tryz.f119.results.toList [(Value.pointer p1), (Value.int .i64 n2)] h K = sector_Disk_sector tau p1 n2 h fun s3 h => K (Value.slice s3.base s3.len s3.cap) h := by delta sector_Disk_sector; kernel_rfl
abbrev T69 := Option Addr → Mem → (Int → Mem → Prop) → Prop
def c69 (f : T69) : CallP := fun vs h K => match vs with
  | [.pointer p1] => f p1 h fun n2 h => K (Value.int .i64 n2) h
  | _ => False
def cs69 (f117 : T117) (f118 : T118) (f119 : T119) : Calls' := callsT [(117, c117 f117), (118, c118 f118), (119, c119 f119)]
def dcs69 : Calls' := callsT []
def hn69 : Hints := ⟨[(6, [])], [], [(7, [(3, .int .i64), (4, .sl)])]⟩
theorem d69 (p1 : Option Addr) (h : Mem) (K : Value → Mem → Prop) : denF tys (cs69 (sector_Disk_made tau) (sector_Disk_fails tau) (sector_Disk_sector tau)) (dcs69) hn69 (Go.Proofs.Tryz.f69.body.getD .skip) Go.Proofs.Tryz.f69.results.toList [(Value.pointer p1)] h K = sector_Disk_Flush tau p1 h fun n2 h => K (Value.int .i64 n2) h := by delta sector_Disk_Flush; generalize sector_Disk_made tau = f117; generalize sector_Disk_fails tau = f118; generalize sector_Disk_sector tau = f119; revert f117 f118 f119; refine keep ?_; intro f117 f118 f119; kernel_rfl
abbrev T165 := Array Value → Int → Sl → Mem → (Int → Mem → Prop) → Prop
def c165 (f : T165) : CallP := fun vs h K => match vs with
  | [.agg c1, .int .u32 n2, .slice s3b s3l s3c] => f c1 n2 ⟨s3b, s3l, s3c⟩ h fun n4 h => K (Value.int .u32 n4) h
  | _ => False
def cs165 : Calls' := callsT []
def dcs165 : Calls' := callsT []
def hn165 : Hints := ⟨[(3, [(7, .int .u32), (14, .int .i64)])], [], []⟩
theorem d165 (c1 : Array Value) (n2 : Int) (s3 : Sl) (h : Mem) (K : Value → Mem → Prop) : denF tys (cs165) (dcs165) hn165 (Go.Proofs.Tryz.f165.body.getD .skip) Go.Proofs.Tryz.f165.results.toList [(Value.agg c1), (Value.int .u32 n2), (Value.slice s3.base s3.len s3.cap)] h K = crc_On tau c1 n2 s3 h fun n4 h => K (Value.int .u32 n4) h := by delta crc_On; kernel_rfl
abbrev T160 := Array Value → Sl → Mem → (Int → Mem → Prop) → Prop
def c160 (f : T160) : CallP := fun vs h K => match vs with
  | [.agg c1, .slice s2b s2l s2c] => f c1 ⟨s2b, s2l, s2c⟩ h fun n3 h => K (Value.int .u32 n3) h
  | _ => False
def cs160 (f165 : T165) : Calls' := callsT [(165, c165 f165)]
def dcs160 : Calls' := callsT []
def hn160 : Hints := ⟨[(2, [(4, .int .u32), (9, .int .i64)])], [], []⟩
theorem d160 (c1 : Array Value) (s2 : Sl) (h : Mem) (K : Value → Mem → Prop) : denF tys (cs160 (crc_On tau)) (dcs160) hn160 (Go.Proofs.Tryz.f160.body.getD .skip) Go.Proofs.Tryz.f160.results.toList [(Value.agg c1), (Value.slice s2.base s2.len s2.cap)] h K = crc_on tau c1 s2 h fun n3 h => K (Value.int .u32 n3) h := by delta crc_on; generalize crc_On tau = f165; revert f165; refine keep ?_; intro f165; kernel_rfl
abbrev T161 := Mem → (Array Value → Mem → Prop) → Prop
def c161 (f : T161) : CallP := fun vs h K => match vs with
  | [] => f  h fun c1 h => K (Value.agg c1) h
  | _ => False
def cs161 : Calls' := callsT []
def dcs161 : Calls' := callsT []
def hn161 : Hints := ⟨[(2, [(4, .int .i64)]), (6, [(2, .int .u32), (9, .int .i64)])], [], []⟩
theorem d161 (h : Mem) (K : Value → Mem → Prop) : denF tys (cs161) (dcs161) hn161 (Go.Proofs.Tryz.f161.body.getD .skip) Go.Proofs.Tryz.f161.results.toList [] h K = crc_Table tau  h fun c1 h => K (Value.agg c1) h := by delta crc_Table; kernel_rfl
abbrev T150 := Sl → Mem → (Int → Mem → Prop) → Prop
def c150 (f : T150) : CallP := fun vs h K => match vs with
  | [.slice s1b s1l s1c] => f ⟨s1b, s1l, s1c⟩ h fun n2 h => K (Value.int .u32 n2) h
  | _ => False
def cs150 (f160 : T160) (f161 : T161) : Calls' := callsT [(160, c160 f160), (161, c161 f161)]
def dcs150 : Calls' := callsT []
def hn150 : Hints := ⟨[], [], []⟩
theorem d150 (s1 : Sl) (h : Mem) (K : Value → Mem → Prop) : denF tys (cs150 (crc_on tau) (crc_Table tau)) (dcs150) hn150 (Go.Proofs.Tryz.f150.body.getD .skip) Go.Proofs.Tryz.f150.results.toList [(Value.slice s1.base s1.len s1.cap)] h K = crc_Parts tau s1 h fun n2 h => K (Value.int .u32 n2) h := by delta crc_Parts; generalize crc_on tau = f160; generalize crc_Table tau = f161; revert f160 f161; refine keep ?_; intro f160 f161; kernel_rfl
abbrev T129 := Sl → Mem → (Int → Mem → Prop) → Prop
def c129 (f : T129) : CallP := fun vs h K => match vs with
  | [.slice s1b s1l s1c] => f ⟨s1b, s1l, s1c⟩ h fun n2 h => K (Value.int .u32 n2) h
  | _ => False
def cs129 (f150 : T150) : Calls' := callsT [(150, c150 f150)]
def dcs129 : Calls' := callsT []
def hn129 : Hints := ⟨[], [(1, [0, 1, 0, 0, 8, 31, 63, 127])], []⟩
theorem d129 (s1 : Sl) (h : Mem) (K : Value → Mem → Prop) : denF tys (cs129 (crc_Parts tau)) (dcs129) hn129 (Go.Proofs.Tryz.f129.body.getD .skip) Go.Proofs.Tryz.f129.results.toList [(Value.slice s1.base s1.len s1.cap)] h K = page_crcOf tau s1 h fun n2 h => K (Value.int .u32 n2) h := by delta page_crcOf; generalize crc_Parts tau = f150; revert f150; refine keep ?_; intro f150; kernel_rfl
abbrev T78 := Int → Int → Sl → Mem → (Sl → Int → Mem → Prop) → Prop
def c78 (f : T78) : CallP := fun vs h K => match vs with
  | [.agg ⟨[.int .i64 n1, .int .u32 n2, .slice s3b s3l s3c]⟩] => f n1 n2 ⟨s3b, s3l, s3c⟩ h fun s4 n5 h => K (Value.tuple #[(Value.slice s4.base s4.len s4.cap), (Value.int .i64 n5)]) h
  | _ => False
def cs78 (f52 : T52) (f129 : T129) : Calls' := callsT [(52, c52 f52), (129, c129 f129)]
def dcs78 : Calls' := callsT []
def hn78 : Hints := ⟨[], [(6, [0, 1, 0, 4, 15]), (7, [0, 1, 0, 4, 12, 28, 63])], []⟩
theorem d78 (n1 : Int) (n2 : Int) (s3 : Sl) (h : Mem) (K : Value → Mem → Prop) : denF tys (cs78 (octet_Word tau) (page_crcOf tau)) (dcs78) hn78 (Go.Proofs.Tryz.f78.body.getD .skip) Go.Proofs.Tryz.f78.results.toList [(Value.agg #[(Value.int .i64 n1), (Value.int .u32 n2), (Value.slice s3.base s3.len s3.cap)])] h K = page_Bytes tau n1 n2 s3 h fun s4 n5 h => K (Value.tuple #[(Value.slice s4.base s4.len s4.cap), (Value.int .i64 n5)]) h := by delta page_Bytes; generalize octet_Word tau = f52; generalize page_crcOf tau = f129; revert f52 f129; refine keep ?_; intro f52 f129; kernel_rfl
abbrev T99 := Sl → Int → Int → Mem → (Sl → Mem → Prop) → Prop
def c99 (f : T99) : CallP := fun vs h K => match vs with
  | [.slice s1b s1l s1c, .int .i64 n2, .int .i64 n3] => f ⟨s1b, s1l, s1c⟩ n2 n3 h fun s4 h => K (Value.slice s4.base s4.len s4.cap) h
  | _ => False
def cs99 : Calls' := callsT []
def dcs99 : Calls' := callsT []
def hn99 : Hints := ⟨[], [(5, [0, 0, 3, 0, 0, 24, 63, 127])], []⟩
theorem d99 (s1 : Sl) (n2 : Int) (n3 : Int) (h : Mem) (K : Value → Mem → Prop) : denF tys (cs99) (dcs99) hn99 (Go.Proofs.Tryz.f99.body.getD .skip) Go.Proofs.Tryz.f99.results.toList [(Value.slice s1.base s1.len s1.cap), (Value.int .i64 n2), (Value.int .i64 n3)] h K = slices_Delete_int_int tau s1 n2 n3 h fun s4 h => K (Value.slice s4.base s4.len s4.cap) h := by delta slices_Delete_int_int; kernel_rfl
abbrev T100 := Sl → Mem → (Sl → Mem → Prop) → Prop
def c100 (f : T100) : CallP := fun vs h K => match vs with
  | [.slice s1b s1l s1c] => f ⟨s1b, s1l, s1c⟩ h fun s2 h => K (Value.slice s2.base s2.len s2.cap) h
  | _ => False
def cs100 : Calls' := callsT []
def dcs100 : Calls' := callsT []
def hn100 : Hints := ⟨[], [], []⟩
theorem d100 (s1 : Sl) (h : Mem) (K : Value → Mem → Prop) : denF tys (cs100) (dcs100) hn100 (Go.Proofs.Tryz.f100.body.getD .skip) Go.Proofs.Tryz.f100.results.toList [(Value.slice s1.base s1.len s1.cap)] h K = slices_Clone_int_int tau s1 h fun s2 h => K (Value.slice s2.base s2.len s2.cap) h := by delta slices_Clone_int_int; kernel_rfl
abbrev T109 := Sl → Int → Mem → (Sl → Mem → Prop) → Prop
def c109 (f : T109) : CallP := fun vs h K => match vs with
  | [.slice s1b s1l s1c, .int .u64 n2] => f ⟨s1b, s1l, s1c⟩ n2 h fun s3 h => K (Value.slice s3.base s3.len s3.cap) h
  | _ => False
def cs109 (f77 : T77) : Calls' := callsT [(77, c77 f77)]
def dcs109 : Calls' := callsT []
def hn109 : Hints := ⟨[(2, [(0, .sl), (1, .int .u64)])], [], []⟩
theorem d109 (s1 : Sl) (n2 : Int) (h : Mem) (K : Value → Mem → Prop) : denF tys (cs109 (slices_Clone_byte_byte tau)) (dcs109) hn109 (Go.Proofs.Tryz.f109.body.getD .skip) Go.Proofs.Tryz.f109.results.toList [(Value.slice s1.base s1.len s1.cap), (Value.int .u64 n2)] h K = octet_Number tau s1 n2 h fun s3 h => K (Value.slice s3.base s3.len s3.cap) h := by delta octet_Number; generalize slices_Clone_byte_byte tau = f77; revert f77; refine keep ?_; intro f77; kernel_rfl
abbrev T153 := Sl → Sl → Mem → (Bool → Mem → Prop) → Prop
def c153 (f : T153) : CallP := fun vs h K => match vs with
  | [.slice s1b s1l s1c, .slice s2b s2l s2c] => f ⟨s1b, s1l, s1c⟩ ⟨s2b, s2l, s2c⟩ h fun b3 h => K (Value.bool b3) h
  | _ => False
abbrev T166 := Sl → Mem → (Mem → Prop) → Prop
def c166 (f : T166) : CallP := fun vs h K => match vs with
  | [.slice s1b s1l s1c] => f ⟨s1b, s1l, s1c⟩ h fun  h => K (Value.tuple #[]) h
  | _ => False
def cs166 : Calls' := callsT []
def dcs166 : Calls' := callsT []
def hn166 : Hints := ⟨[(1, [(2, .int .i64), (3, .int .i64)])], [(3, [0, 0, 0, 0, 0, 0, 48, 112, 0, 0, 768, 1792, 4083, 8179, 16383, 32767])], []⟩
theorem d166 (s1 : Sl) (h : Mem) (K : Value → Mem → Prop) : denF tys (cs166) (dcs166) hn166 (Go.Proofs.Tryz.f166.body.getD .skip) Go.Proofs.Tryz.f166.results.toList [(Value.slice s1.base s1.len s1.cap)] h K = slices_Reverse_int_int tau s1 h fun  h => K (Value.tuple #[]) h := by delta slices_Reverse_int_int; kernel_rfl
abbrev T162 := Sl → Int → Mem → (Mem → Prop) → Prop
def c162 (f : T162) : CallP := fun vs h K => match vs with
  | [.slice s1b s1l s1c, .int .i64 n2] => f ⟨s1b, s1l, s1c⟩ n2 h fun  h => K (Value.tuple #[]) h
  | _ => False
def cs162 (f166 : T166) : Calls' := callsT [(166, c166 f166)]
def dcs162 : Calls' := callsT []
def hn162 : Hints := ⟨[], [], []⟩
theorem d162 (s1 : Sl) (n2 : Int) (h : Mem) (K : Value → Mem → Prop) : denF tys (cs162 (slices_Reverse_int_int tau)) (dcs162) hn162 (Go.Proofs.Tryz.f162.body.getD .skip) Go.Proofs.Tryz.f162.results.toList [(Value.slice s1.base s1.len s1.cap), (Value.int .i64 n2)] h K = slices_rotateLeft_int tau s1 n2 h fun  h => K (Value.tuple #[]) h := by delta slices_rotateLeft_int; generalize slices_Reverse_int_int tau = f166; revert f166; refine keep ?_; intro f166; kernel_rfl
abbrev T154 := Sl → Int → Mem → (Mem → Prop) → Prop
def c154 (f : T154) : CallP := fun vs h K => match vs with
  | [.slice s1b s1l s1c, .int .i64 n2] => f ⟨s1b, s1l, s1c⟩ n2 h fun  h => K (Value.tuple #[]) h
  | _ => False
def cs154 (f162 : T162) : Calls' := callsT [(162, c162 f162)]
def dcs154 : Calls' := callsT []
def hn154 : Hints := ⟨[], [], []⟩
theorem d154 (s1 : Sl) (n2 : Int) (h : Mem) (K : Value → Mem → Prop) : denF tys (cs154 (slices_rotateLeft_int tau)) (dcs154) hn154 (Go.Proofs.Tryz.f154.body.getD .skip) Go.Proofs.Tryz.f154.results.toList [(Value.slice s1.base s1.len s1.cap), (Value.int .i64 n2)] h K = slices_rotateRight_int tau s1 n2 h fun  h => K (Value.tuple #[]) h := by delta slices_rotateRight_int; generalize slices_rotateLeft_int tau = f162; revert f162; refine keep ?_; intro f162; kernel_rfl
abbrev T136 := Sl → Int → Sl → Mem → (Sl → Mem → Prop) → Prop
def c136 (f : T136) : CallP := fun vs h K => match vs with
  | [.slice s1b s1l s1c, .int .i64 n2, .slice s3b s3l s3c] => f ⟨s1b, s1l, s1c⟩ n2 ⟨s3b, s3l, s3c⟩ h fun s4 h => K (Value.slice s4.base s4.len s4.cap) h
  | _ => False
def cs136 (f153 : T153) (f154 : T154) : Calls' := callsT [(153, c153 f153), (154, c154 f154)]
def dcs136 : Calls' := callsT []
def hn136 : Hints := ⟨[], [(11, [0, 0, 0, 6, 15, 0, 0, 96, 255]), (15, [0, 0, 0, 6, 15, 0, 0, 96, 255])], []⟩
theorem d136 (s1 : Sl) (n2 : Int) (s3 : Sl) (h : Mem) (K : Value → Mem → Prop) : denF tys (cs136 (slices_overlaps_int tau) (slices_rotateRight_int tau)) (dcs136) hn136 (Go.Proofs.Tryz.f136.body.getD .skip) Go.Proofs.Tryz.f136.results.toList [(Value.slice s1.base s1.len s1.cap), (Value.int .i64 n2), (Value.slice s3.base s3.len s3.cap)] h K = slices_Insert_int_int tau s1 n2 s3 h fun s4 h => K (Value.slice s4.base s4.len s4.cap) h := by delta slices_Insert_int_int; generalize slices_overlaps_int tau = f153; generalize slices_rotateRight_int tau = f154; revert f153 f154; refine keep ?_; intro f153 f154; kernel_rfl
abbrev T151 := Sl → Mem → (Bool → Mem → Prop) → Prop
def c151 (f : T151) : CallP := fun vs h K => match vs with
  | [.slice s1b s1l s1c] => f ⟨s1b, s1l, s1c⟩ h fun b2 h => K (Value.bool b2) h
  | _ => False
def cs151 : Calls' := callsT []
def dcs151 : Calls' := callsT []
def hn151 : Hints := ⟨[(2, [(7, .int .i64)])], [], []⟩
theorem d151 (s1 : Sl) (h : Mem) (K : Value → Mem → Prop) : denF tys (cs151) (dcs151) hn151 (Go.Proofs.Tryz.f151.body.getD .skip) Go.Proofs.Tryz.f151.results.toList [(Value.slice s1.base s1.len s1.cap)] h K = slots_noughts tau s1 h fun b2 h => K (Value.bool b2) h := by delta slots_noughts; kernel_rfl
end Go.TS.Tryz
/- The types of the seat. -/
namespace Go.TS.Tryz
open Go Go.TS
set_option linter.unusedVariables false
set_option maxRecDepth 100000
theorem hm : Go.Proofs.Tryz.prog.follows .mixedOrders = true := by kernel_rfl
theorem ty3 : TyOk Go.Proofs.Tryz.prog 3 ⟨.int .i64, (Value.int .i64 0), 1, 8, .leaf (.int .i64)⟩ := ⟨Go.Proofs.Tryz.underlying3, by kernel_rfl, by kernel_rfl, trivial⟩
theorem ty5 : TyOk Go.Proofs.Tryz.prog 5 ⟨.int .u8, (Value.int .u8 0), 1, 1, .leaf (.int .u8)⟩ := ⟨Go.Proofs.Tryz.underlying5, by kernel_rfl, by kernel_rfl, trivial⟩
theorem ty22 : TyOk Go.Proofs.Tryz.prog 22 ⟨.slice 29, (Value.slice none 0 0), 1, 24, .leaf (.sl)⟩ := ⟨Go.Proofs.Tryz.underlying22, by kernel_rfl, by kernel_rfl, trivial⟩
theorem ty28 : TyOk Go.Proofs.Tryz.prog 28 ⟨.int .u32, (Value.int .u32 0), 1, 4, .leaf (.int .u32)⟩ := ⟨Go.Proofs.Tryz.underlying28, by kernel_rfl, by kernel_rfl, trivial⟩
theorem ty29 : TyOk Go.Proofs.Tryz.prog 29 ⟨.slice 5, (Value.slice none 0 0), 1, 24, .leaf (.sl)⟩ := ⟨Go.Proofs.Tryz.underlying29, by kernel_rfl, by kernel_rfl, trivial⟩
theorem ty31 : TyOk Go.Proofs.Tryz.prog 31 ⟨.struct #[⟨ "Kind", 3, 0, false, "", "", 0⟩, ⟨ "Number", 28, 1, false, "", "", 8⟩, ⟨ "Body", 29, 2, false, "", "", 16⟩], (Value.agg #[(Value.int .i64 0), (Value.int .u32 0), (Value.slice none 0 0)]), 3, 40, .agg [.int .i64, .int .u32, .sl]⟩ := ⟨Go.Proofs.Tryz.underlying31, by kernel_rfl, by kernel_rfl, ⟨by kernel_rfl, by kernel_rfl⟩⟩
theorem ty42 : TyOk Go.Proofs.Tryz.prog 42 ⟨.slice 3, (Value.slice none 0 0), 1, 24, .leaf (.sl)⟩ := ⟨Go.Proofs.Tryz.underlying42, by kernel_rfl, by kernel_rfl, trivial⟩
theorem ty66 : TyOk Go.Proofs.Tryz.prog 66 ⟨.int .u64, (Value.int .u64 0), 1, 8, .leaf (.int .u64)⟩ := ⟨Go.Proofs.Tryz.underlying66, by kernel_rfl, by kernel_rfl, trivial⟩
theorem ty70 : TyOk Go.Proofs.Tryz.prog 70 ⟨.map 3 29, (Value.map none), 1, 8, .leaf (.map)⟩ := ⟨Go.Proofs.Tryz.underlying70, by kernel_rfl, by kernel_rfl, trivial⟩
theorem ty75 : TyOk Go.Proofs.Tryz.prog 75 ⟨.pointer 192, (Value.pointer none), 1, 8, .leaf (.ptr)⟩ := ⟨Go.Proofs.Tryz.underlying75, by kernel_rfl, by kernel_rfl, trivial⟩
theorem ty179 : TyOk Go.Proofs.Tryz.prog 179 ⟨.slice 42, (Value.slice none 0 0), 1, 24, .leaf (.sl)⟩ := ⟨Go.Proofs.Tryz.underlying179, by kernel_rfl, by kernel_rfl, trivial⟩
theorem ty190 : TyOk Go.Proofs.Tryz.prog 190 ⟨.pointer 3, (Value.pointer none), 1, 8, .leaf (.ptr)⟩ := ⟨Go.Proofs.Tryz.underlying190, by kernel_rfl, by kernel_rfl, trivial⟩
theorem ty192 : TyOk Go.Proofs.Tryz.prog 192 ⟨.struct #[⟨ "b", 29, 0, false, "", "tallyman/sector", 0⟩, ⟨ "cache", 70, 1, false, "", "tallyman/sector", 24⟩, ⟨ "order", 42, 2, false, "", "tallyman/sector", 32⟩, ⟨ "left", 190, 3, false, "", "tallyman/sector", 56⟩], (Value.agg #[(Value.slice none 0 0), (Value.map none), (Value.slice none 0 0), (Value.pointer none)]), 4, 64, .agg [.sl, .map, .sl, .ptr]⟩ := ⟨Go.Proofs.Tryz.underlying192, by kernel_rfl, by kernel_rfl, ⟨by kernel_rfl, by kernel_rfl⟩⟩
theorem ty225 : TyOk Go.Proofs.Tryz.prog 225 ⟨.array 256 28, (Value.agg (Array.replicate 256 (Value.int .u32 0))), 256, 1024, .arr 256⟩ := ⟨Go.Proofs.Tryz.underlying225, by kernel_rfl, by kernel_rfl, trivial⟩
theorem tysOk : TysOk Go.Proofs.Tryz.prog tys := tysOk_of (.cons ty3 (.cons ty5 (.cons ty22 (.cons ty28 (.cons ty29 (.cons ty31 (.cons ty42 (.cons ty66 (.cons ty70 (.cons ty75 (.cons ty179 (.cons ty190 (.cons ty192 (.cons ty225 (.nil)))))))))))))))
end Go.TS.Tryz
/- The layer 'TS': soundness of what the printer does not print. -/
namespace Go.TS
open Go
theorem overlaps_gives {P : Program} {f : FuncId} {fn : Func} {tS tR e : TypeId} {τ : Nat → Nat} (hf : P.funcs[f]? = some fn) (hname : (fn.name == "runtime.NumGoroutine") = false)
    (hb : fn.body.isNone = true) (hn : Extern.findNext fn = none) (he : Extern.find fn = some (Extern.SlicesOverlaps.overlaps #[tS, tS] #[tR])) (ht : P.underlying tS = some (.slice e))
    (hz : ∀ w, (Go.sizeOf e).run P w = .ok 1 w) {s1 s2 : Sl} {w : World} {K : Value → Mem → Prop} (h : slices_overlaps_int τ s1 s2 w.heap fun b h => K (.bool b) h) :
    ∃ v w', (callFunc f [Value.slice s1.base s1.len s1.cap, Value.slice s2.base s2.len s2.cap].toArray).run P w = .ok (.value v) w' ∧ K v w'.heap ∧ Same w w' := by
  obtain ⟨a, b, c, e1, c', e2, ha, hb', hne, h1, h2, h0, hK⟩ := h
  refine ⟨.bool false, w, ?_, hK, Same.refl w⟩
  rw [run_callFunc_extern hf hname hb hn he, ha, hb']
  have hs1 : w.shape? a.block = some (e1, c.size) := by simp [World.shape?, h1]
  have hs2 : w.shape? b.block = some (e2, c'.size) := by simp [World.shape?, h2]
  have hf1 : w.frozen? a = false := by simp [World.frozen?, h1]
  have hf2 : w.frozen? { block := a.block, off := c.size } = false := by simp [World.frozen?, h1]
  have := Lib.run_overlaps_apart (P := P) w tS tR e ht 1 hz a b s1.len s1.cap s2.len s2.cap hne e1 e2 c.size c'.size hs1 hs2 h0 hf1 hf2
  rw [this]
  rfl
end Go.TS
/- What the printer does not print. -/
namespace Go.TS.Tryz
open Go Go.TS
set_option linter.unusedVariables false
set_option maxRecDepth 100000
theorem s153 : SoundX Go.Proofs.Tryz.prog 153 (c153 (slices_overlaps_int tau)) := ⟨fun vs w K h => by
  simp only [c153] at h
  split at h
  · rename_i s1b s1l s1c s2b s2l s2c; exact overlaps_gives (tR := 0) (s1 := ⟨s1b, s1l, s1c⟩) (s2 := ⟨s2b, s2l, s2c⟩) Go.Proofs.Tryz.func153 (by kernel_rfl) (by kernel_rfl) (by kernel_rfl) (by kernel_rfl) Go.Proofs.Tryz.underlying42 Go.Proofs.Tryz.sizeOf3 h
  · exact h.elim⟩
end Go.TS.Tryz
/- Each function does what it asks. -/
namespace Go.TS.Tryz
open Go Go.TS
set_option linter.unusedVariables false
set_option maxRecDepth 100000
theorem ok77 : codeOk hn77 Go.Proofs.Tryz.f77.ntmps (Go.Proofs.Tryz.f77.body.getD .skip) = true := by kernel_rfl
theorem s77 : Sound Go.Proofs.Tryz.prog 77 (c77 (slices_Clone_byte_byte tau)) := by
  refine ⟨Go.Proofs.Tryz.call77, fun vs w K h => ?_⟩
  simp only [c77] at h
  split at h
  · rename_i s1b s1l s1c; exact denF_calls hm tysOk (callsOk_of (.nil)) (defsOk_of (.nil)) Go.Proofs.Tryz.func77 (by kernel_rfl) ok77 (Nat.le_of_ble_eq_true (by kernel_rfl)) ((d77 (⟨s1b, s1l, s1c⟩) _ _).mpr h)
  · exact h.elim
theorem ok141 : codeOk hn141 Go.Proofs.Tryz.f141.ntmps (Go.Proofs.Tryz.f141.body.getD .skip) = true := by kernel_rfl
theorem s141 : Sound Go.Proofs.Tryz.prog 141 (c141 (slices_Grow_byte_byte tau)) := by
  refine ⟨Go.Proofs.Tryz.call141, fun vs w K h => ?_⟩
  simp only [c141] at h
  split at h
  · rename_i s1b s1l s1c n2; exact denF_calls hm tysOk (callsOk_of (.nil)) (defsOk_of (.nil)) Go.Proofs.Tryz.func141 (by kernel_rfl) ok141 (Nat.le_of_ble_eq_true (by kernel_rfl)) ((d141 (⟨s1b, s1l, s1c⟩) n2 _ _).mpr h)
  · exact h.elim
theorem ok102 : codeOk hn102 Go.Proofs.Tryz.f102.ntmps (Go.Proofs.Tryz.f102.body.getD .skip) = true := by kernel_rfl
theorem s102 : Sound Go.Proofs.Tryz.prog 102 (c102 (slices_Concat_byte_byte tau)) := by
  refine ⟨Go.Proofs.Tryz.call102, fun vs w K h => ?_⟩
  simp only [c102] at h
  split at h
  · rename_i s1b s1l s1c; exact denF_calls hm tysOk (callsOk_of (.cons s141 (.nil))) (defsOk_of (.nil)) Go.Proofs.Tryz.func102 (by kernel_rfl) ok102 (Nat.le_of_ble_eq_true (by kernel_rfl)) ((d102 (⟨s1b, s1l, s1c⟩) _ _).mpr h)
  · exact h.elim
theorem ok52 : codeOk hn52 Go.Proofs.Tryz.f52.ntmps (Go.Proofs.Tryz.f52.body.getD .skip) = true := by kernel_rfl
theorem s52 : Sound Go.Proofs.Tryz.prog 52 (c52 (octet_Word tau)) := by
  refine ⟨Go.Proofs.Tryz.call52, fun vs w K h => ?_⟩
  simp only [c52] at h
  split at h
  · rename_i s1b s1l s1c n2 n3; exact denF_calls hm tysOk (callsOk_of (.cons s77 (.cons s102 (.nil)))) (defsOk_of (.nil)) Go.Proofs.Tryz.func52 (by kernel_rfl) ok52 (Nat.le_of_ble_eq_true (by kernel_rfl)) ((d52 (⟨s1b, s1l, s1c⟩) n2 n3 _ _).mpr h)
  · exact h.elim
theorem ok111 : codeOk hn111 Go.Proofs.Tryz.f111.ntmps (Go.Proofs.Tryz.f111.body.getD .skip) = true := by kernel_rfl
theorem s111 : Sound Go.Proofs.Tryz.prog 111 (c111 (slices_Grow_int_int tau)) := by
  refine ⟨Go.Proofs.Tryz.call111, fun vs w K h => ?_⟩
  simp only [c111] at h
  split at h
  · rename_i s1b s1l s1c n2; exact denF_calls hm tysOk (callsOk_of (.nil)) (defsOk_of (.nil)) Go.Proofs.Tryz.func111 (by kernel_rfl) ok111 (Nat.le_of_ble_eq_true (by kernel_rfl)) ((d111 (⟨s1b, s1l, s1c⟩) n2 _ _).mpr h)
  · exact h.elim
theorem ok63 : codeOk hn63 Go.Proofs.Tryz.f63.ntmps (Go.Proofs.Tryz.f63.body.getD .skip) = true := by kernel_rfl
theorem s63 : Sound Go.Proofs.Tryz.prog 63 (c63 (slices_Concat_int_int tau)) := by
  refine ⟨Go.Proofs.Tryz.call63, fun vs w K h => ?_⟩
  simp only [c63] at h
  split at h
  · rename_i s1b s1l s1c; exact denF_calls hm tysOk (callsOk_of (.cons s111 (.nil))) (defsOk_of (.nil)) Go.Proofs.Tryz.func63 (by kernel_rfl) ok63 (Nat.le_of_ble_eq_true (by kernel_rfl)) ((d63 (⟨s1b, s1l, s1c⟩) _ _).mpr h)
  · exact h.elim
theorem ok117 : codeOk hn117 Go.Proofs.Tryz.f117.ntmps (Go.Proofs.Tryz.f117.body.getD .skip) = true := by kernel_rfl
theorem s117 : Sound Go.Proofs.Tryz.prog 117 (c117 (sector_Disk_made tau)) := by
  refine ⟨Go.Proofs.Tryz.call117, fun vs w K h => ?_⟩
  simp only [c117] at h
  split at h
  · rename_i p1; exact denF_calls hm tysOk (callsOk_of (.nil)) (defsOk_of (.nil)) Go.Proofs.Tryz.func117 (by kernel_rfl) ok117 (Nat.le_of_ble_eq_true (by kernel_rfl)) ((d117 p1 _ _).mpr h)
  · exact h.elim
theorem ok118 : codeOk hn118 Go.Proofs.Tryz.f118.ntmps (Go.Proofs.Tryz.f118.body.getD .skip) = true := by kernel_rfl
theorem s118 : Sound Go.Proofs.Tryz.prog 118 (c118 (sector_Disk_fails tau)) := by
  refine ⟨Go.Proofs.Tryz.call118, fun vs w K h => ?_⟩
  simp only [c118] at h
  split at h
  · rename_i p1; exact denF_calls hm tysOk (callsOk_of (.nil)) (defsOk_of (.nil)) Go.Proofs.Tryz.func118 (by kernel_rfl) ok118 (Nat.le_of_ble_eq_true (by kernel_rfl)) ((d118 p1 _ _).mpr h)
  · exact h.elim
theorem ok119 : codeOk hn119 Go.Proofs.Tryz.f119.ntmps (Go.Proofs.Tryz.f119.body.getD .skip) = true := by kernel_rfl
theorem s119 : Sound Go.Proofs.Tryz.prog 119 (c119 (sector_Disk_sector tau)) := by
  refine ⟨Go.Proofs.Tryz.call119, fun vs w K h => ?_⟩
  simp only [c119] at h
  split at h
  · rename_i p1 n2; exact denF_calls hm tysOk (callsOk_of (.nil)) (defsOk_of (.nil)) Go.Proofs.Tryz.func119 (by kernel_rfl) ok119 (Nat.le_of_ble_eq_true (by kernel_rfl)) ((d119 p1 n2 _ _).mpr h)
  · exact h.elim
theorem ok69 : codeOk hn69 Go.Proofs.Tryz.f69.ntmps (Go.Proofs.Tryz.f69.body.getD .skip) = true := by kernel_rfl
theorem s69 : Sound Go.Proofs.Tryz.prog 69 (c69 (sector_Disk_Flush tau)) := by
  refine ⟨Go.Proofs.Tryz.call69, fun vs w K h => ?_⟩
  simp only [c69] at h
  split at h
  · rename_i p1; exact denF_calls hm tysOk (callsOk_of (.cons s117 (.cons s118 (.cons s119 (.nil))))) (defsOk_of (.nil)) Go.Proofs.Tryz.func69 (by kernel_rfl) ok69 (Nat.le_of_ble_eq_true (by kernel_rfl)) ((d69 p1 _ _).mpr h)
  · exact h.elim
theorem ok165 : codeOk hn165 Go.Proofs.Tryz.f165.ntmps (Go.Proofs.Tryz.f165.body.getD .skip) = true := by kernel_rfl
theorem s165 : Sound Go.Proofs.Tryz.prog 165 (c165 (crc_On tau)) := by
  refine ⟨Go.Proofs.Tryz.call165, fun vs w K h => ?_⟩
  simp only [c165] at h
  split at h
  · rename_i c1 n2 s3b s3l s3c; exact denF_calls hm tysOk (callsOk_of (.nil)) (defsOk_of (.nil)) Go.Proofs.Tryz.func165 (by kernel_rfl) ok165 (Nat.le_of_ble_eq_true (by kernel_rfl)) ((d165 c1 n2 (⟨s3b, s3l, s3c⟩) _ _).mpr h)
  · exact h.elim
theorem ok160 : codeOk hn160 Go.Proofs.Tryz.f160.ntmps (Go.Proofs.Tryz.f160.body.getD .skip) = true := by kernel_rfl
theorem s160 : Sound Go.Proofs.Tryz.prog 160 (c160 (crc_on tau)) := by
  refine ⟨Go.Proofs.Tryz.call160, fun vs w K h => ?_⟩
  simp only [c160] at h
  split at h
  · rename_i c1 s2b s2l s2c; exact denF_calls hm tysOk (callsOk_of (.cons s165 (.nil))) (defsOk_of (.nil)) Go.Proofs.Tryz.func160 (by kernel_rfl) ok160 (Nat.le_of_ble_eq_true (by kernel_rfl)) ((d160 c1 (⟨s2b, s2l, s2c⟩) _ _).mpr h)
  · exact h.elim
theorem ok161 : codeOk hn161 Go.Proofs.Tryz.f161.ntmps (Go.Proofs.Tryz.f161.body.getD .skip) = true := by kernel_rfl
theorem s161 : Sound Go.Proofs.Tryz.prog 161 (c161 (crc_Table tau)) := by
  refine ⟨Go.Proofs.Tryz.call161, fun vs w K h => ?_⟩
  simp only [c161] at h
  split at h
  · exact denF_calls hm tysOk (callsOk_of (.nil)) (defsOk_of (.nil)) Go.Proofs.Tryz.func161 (by kernel_rfl) ok161 (Nat.le_of_ble_eq_true (by kernel_rfl)) ((d161  _ _).mpr h)
  · exact h.elim
theorem ok150 : codeOk hn150 Go.Proofs.Tryz.f150.ntmps (Go.Proofs.Tryz.f150.body.getD .skip) = true := by kernel_rfl
theorem s150 : Sound Go.Proofs.Tryz.prog 150 (c150 (crc_Parts tau)) := by
  refine ⟨Go.Proofs.Tryz.call150, fun vs w K h => ?_⟩
  simp only [c150] at h
  split at h
  · rename_i s1b s1l s1c; exact denF_calls hm tysOk (callsOk_of (.cons s160 (.cons s161 (.nil)))) (defsOk_of (.nil)) Go.Proofs.Tryz.func150 (by kernel_rfl) ok150 (Nat.le_of_ble_eq_true (by kernel_rfl)) ((d150 (⟨s1b, s1l, s1c⟩) _ _).mpr h)
  · exact h.elim
theorem ok129 : codeOk hn129 Go.Proofs.Tryz.f129.ntmps (Go.Proofs.Tryz.f129.body.getD .skip) = true := by kernel_rfl
theorem s129 : Sound Go.Proofs.Tryz.prog 129 (c129 (page_crcOf tau)) := by
  refine ⟨Go.Proofs.Tryz.call129, fun vs w K h => ?_⟩
  simp only [c129] at h
  split at h
  · rename_i s1b s1l s1c; exact denF_calls hm tysOk (callsOk_of (.cons s150 (.nil))) (defsOk_of (.nil)) Go.Proofs.Tryz.func129 (by kernel_rfl) ok129 (Nat.le_of_ble_eq_true (by kernel_rfl)) ((d129 (⟨s1b, s1l, s1c⟩) _ _).mpr h)
  · exact h.elim
theorem ok78 : codeOk hn78 Go.Proofs.Tryz.f78.ntmps (Go.Proofs.Tryz.f78.body.getD .skip) = true := by kernel_rfl
theorem s78 : Sound Go.Proofs.Tryz.prog 78 (c78 (page_Bytes tau)) := by
  refine ⟨Go.Proofs.Tryz.call78, fun vs w K h => ?_⟩
  simp only [c78] at h
  split at h
  · rename_i n1 n2 s3b s3l s3c; exact denF_calls hm tysOk (callsOk_of (.cons s52 (.cons s129 (.nil)))) (defsOk_of (.nil)) Go.Proofs.Tryz.func78 (by kernel_rfl) ok78 (Nat.le_of_ble_eq_true (by kernel_rfl)) ((d78 n1 n2 (⟨s3b, s3l, s3c⟩) _ _).mpr h)
  · exact h.elim
theorem ok99 : codeOk hn99 Go.Proofs.Tryz.f99.ntmps (Go.Proofs.Tryz.f99.body.getD .skip) = true := by kernel_rfl
theorem s99 : Sound Go.Proofs.Tryz.prog 99 (c99 (slices_Delete_int_int tau)) := by
  refine ⟨Go.Proofs.Tryz.call99, fun vs w K h => ?_⟩
  simp only [c99] at h
  split at h
  · rename_i s1b s1l s1c n2 n3; exact denF_calls hm tysOk (callsOk_of (.nil)) (defsOk_of (.nil)) Go.Proofs.Tryz.func99 (by kernel_rfl) ok99 (Nat.le_of_ble_eq_true (by kernel_rfl)) ((d99 (⟨s1b, s1l, s1c⟩) n2 n3 _ _).mpr h)
  · exact h.elim
theorem ok100 : codeOk hn100 Go.Proofs.Tryz.f100.ntmps (Go.Proofs.Tryz.f100.body.getD .skip) = true := by kernel_rfl
theorem s100 : Sound Go.Proofs.Tryz.prog 100 (c100 (slices_Clone_int_int tau)) := by
  refine ⟨Go.Proofs.Tryz.call100, fun vs w K h => ?_⟩
  simp only [c100] at h
  split at h
  · rename_i s1b s1l s1c; exact denF_calls hm tysOk (callsOk_of (.nil)) (defsOk_of (.nil)) Go.Proofs.Tryz.func100 (by kernel_rfl) ok100 (Nat.le_of_ble_eq_true (by kernel_rfl)) ((d100 (⟨s1b, s1l, s1c⟩) _ _).mpr h)
  · exact h.elim
theorem ok109 : codeOk hn109 Go.Proofs.Tryz.f109.ntmps (Go.Proofs.Tryz.f109.body.getD .skip) = true := by kernel_rfl
theorem s109 : Sound Go.Proofs.Tryz.prog 109 (c109 (octet_Number tau)) := by
  refine ⟨Go.Proofs.Tryz.call109, fun vs w K h => ?_⟩
  simp only [c109] at h
  split at h
  · rename_i s1b s1l s1c n2; exact denF_calls hm tysOk (callsOk_of (.cons s77 (.nil))) (defsOk_of (.nil)) Go.Proofs.Tryz.func109 (by kernel_rfl) ok109 (Nat.le_of_ble_eq_true (by kernel_rfl)) ((d109 (⟨s1b, s1l, s1c⟩) n2 _ _).mpr h)
  · exact h.elim
theorem ok166 : codeOk hn166 Go.Proofs.Tryz.f166.ntmps (Go.Proofs.Tryz.f166.body.getD .skip) = true := by kernel_rfl
theorem s166 : Sound Go.Proofs.Tryz.prog 166 (c166 (slices_Reverse_int_int tau)) := by
  refine ⟨Go.Proofs.Tryz.call166, fun vs w K h => ?_⟩
  simp only [c166] at h
  split at h
  · rename_i s1b s1l s1c; exact denF_calls hm tysOk (callsOk_of (.nil)) (defsOk_of (.nil)) Go.Proofs.Tryz.func166 (by kernel_rfl) ok166 (Nat.le_of_ble_eq_true (by kernel_rfl)) ((d166 (⟨s1b, s1l, s1c⟩) _ _).mpr h)
  · exact h.elim
theorem ok162 : codeOk hn162 Go.Proofs.Tryz.f162.ntmps (Go.Proofs.Tryz.f162.body.getD .skip) = true := by kernel_rfl
theorem s162 : Sound Go.Proofs.Tryz.prog 162 (c162 (slices_rotateLeft_int tau)) := by
  refine ⟨Go.Proofs.Tryz.call162, fun vs w K h => ?_⟩
  simp only [c162] at h
  split at h
  · rename_i s1b s1l s1c n2; exact denF_calls hm tysOk (callsOk_of (.cons s166 (.nil))) (defsOk_of (.nil)) Go.Proofs.Tryz.func162 (by kernel_rfl) ok162 (Nat.le_of_ble_eq_true (by kernel_rfl)) ((d162 (⟨s1b, s1l, s1c⟩) n2 _ _).mpr h)
  · exact h.elim
theorem ok154 : codeOk hn154 Go.Proofs.Tryz.f154.ntmps (Go.Proofs.Tryz.f154.body.getD .skip) = true := by kernel_rfl
theorem s154 : Sound Go.Proofs.Tryz.prog 154 (c154 (slices_rotateRight_int tau)) := by
  refine ⟨Go.Proofs.Tryz.call154, fun vs w K h => ?_⟩
  simp only [c154] at h
  split at h
  · rename_i s1b s1l s1c n2; exact denF_calls hm tysOk (callsOk_of (.cons s162 (.nil))) (defsOk_of (.nil)) Go.Proofs.Tryz.func154 (by kernel_rfl) ok154 (Nat.le_of_ble_eq_true (by kernel_rfl)) ((d154 (⟨s1b, s1l, s1c⟩) n2 _ _).mpr h)
  · exact h.elim
theorem ok136 : codeOk hn136 Go.Proofs.Tryz.f136.ntmps (Go.Proofs.Tryz.f136.body.getD .skip) = true := by kernel_rfl
theorem s136 : Sound Go.Proofs.Tryz.prog 136 (c136 (slices_Insert_int_int tau)) := by
  refine ⟨Go.Proofs.Tryz.call136, fun vs w K h => ?_⟩
  simp only [c136] at h
  split at h
  · rename_i s1b s1l s1c n2 s3b s3l s3c; exact denF_calls hm tysOk (callsOk_of (.consX s153 (.cons s154 (.nil)))) (defsOk_of (.nil)) Go.Proofs.Tryz.func136 (by kernel_rfl) ok136 (Nat.le_of_ble_eq_true (by kernel_rfl)) ((d136 (⟨s1b, s1l, s1c⟩) n2 (⟨s3b, s3l, s3c⟩) _ _).mpr h)
  · exact h.elim
theorem ok151 : codeOk hn151 Go.Proofs.Tryz.f151.ntmps (Go.Proofs.Tryz.f151.body.getD .skip) = true := by kernel_rfl
theorem s151 : Sound Go.Proofs.Tryz.prog 151 (c151 (slots_noughts tau)) := by
  refine ⟨Go.Proofs.Tryz.call151, fun vs w K h => ?_⟩
  simp only [c151] at h
  split at h
  · rename_i s1b s1l s1c; exact denF_calls hm tysOk (callsOk_of (.nil)) (defsOk_of (.nil)) Go.Proofs.Tryz.func151 (by kernel_rfl) ok151 (Nat.le_of_ble_eq_true (by kernel_rfl)) ((d151 (⟨s1b, s1l, s1c⟩) _ _).mpr h)
  · exact h.elim
end Go.TS.Tryz
