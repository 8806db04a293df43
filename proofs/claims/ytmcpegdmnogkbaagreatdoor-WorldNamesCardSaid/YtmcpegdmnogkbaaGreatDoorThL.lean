/- The links: what each function asks is what its code asks. -/
import Derived.Test.YtmcpegdmnogkbaaGreatDoorProg
import Derived.Laws.Externs
import Derived.Lib.Overlaps
import Derived.Test.YtmcpegdmnogkbaaGreatDoorTsExt
import Derived.Test.YtmcpegdmnogkbaaGreatDoorTsCode
import Derived.Test.YtmcpegdmnogkbaaGreatDoorTsS10
set_option linter.unusedSimpArgs false
set_option linter.unusedVariables false
namespace Go.TS.Tryz
open Go Go.TS
set_option linter.unusedVariables false
set_option maxRecDepth 100000
def tau (i : Nat) : Nat := ([5, 73, 160, 463, 243, 4, 34, 3, 70, 594, 283, 459, 457, 24, 120, 162, 118, 364, 165, 420, 444, 527, 174, 111, 0, 0, 0, 176, 272, 110, 291] : List Nat).getD i 0
def tyl : List (Nat × TI) := [
 (3, ⟨.int .i64, (Value.int .i64 0), 1, 8, .leaf (.int .i64)⟩),
 (4, ⟨.bool, (Value.bool false), 1, 1, .leaf (.bool)⟩),
 (5, ⟨.int .u8, (Value.int .u8 0), 1, 1, .leaf (.int .u8)⟩),
 (23, ⟨.slice 110, (Value.slice none 0 0), 1, 24, .leaf (.sl)⟩),
 (24, ⟨.int .i64, (Value.int .i64 0), 1, 8, .leaf (.int .i64)⟩),
 (29, ⟨.pointer 73, (Value.pointer none), 1, 8, .leaf (.ptr)⟩),
 (33, ⟨.int .u64, (Value.int .u64 0), 1, 8, .leaf (.int .u64)⟩),
 (34, ⟨.slice 5, (Value.slice none 0 0), 1, 24, .leaf (.sl)⟩),
 (35, ⟨.slice 34, (Value.slice none 0 0), 1, 24, .leaf (.sl)⟩),
 (69, ⟨.map 3 34, (Value.map none), 1, 8, .leaf (.map)⟩),
 (70, ⟨.slice 3, (Value.slice none 0 0), 1, 24, .leaf (.sl)⟩),
 (71, ⟨.pointer 3, (Value.pointer none), 1, 8, .leaf (.ptr)⟩),
 (73, ⟨.struct #[⟨ "b", 34, 0, false, "", "tallyman/sector", 0⟩, ⟨ "cache", 69, 1, false, "", "tallyman/sector", 24⟩, ⟨ "order", 70, 2, false, "", "tallyman/sector", 32⟩, ⟨ "left", 71, 3, false, "", "tallyman/sector", 56⟩], (Value.agg #[(Value.slice none 0 0), (Value.map none), (Value.slice none 0 0), (Value.pointer none)]), 4, 64, .agg [.sl, .map, .sl, .ptr]⟩),
 (99, ⟨.slice 291, (Value.slice none 0 0), 1, 24, .leaf (.sl)⟩),
 (110, ⟨.struct #[⟨ "Name", 34, 0, false, "", "", 0⟩, ⟨ "Sketch", 106, 1, false, "", "", 24⟩], (Value.agg #[(Value.slice none 0 0), (Value.int .i64 0), (Value.int .i64 0), (Value.slice none 0 0), (Value.int .i64 0), (Value.slice none 0 0), (Value.int .u64 0)]), 7, 104, .agg [.sl, .int .i64, .int .i64, .sl, .int .i64, .sl, .int .u64]⟩),
 (170, ⟨.slice 176, (Value.slice none 0 0), 1, 24, .leaf (.sl)⟩),
 (174, ⟨.struct #[⟨ "Page", 3, 0, false, "", "", 0⟩, ⟨ "Slot", 3, 1, false, "", "", 8⟩], (Value.agg #[(Value.int .i64 0), (Value.int .i64 0)]), 2, 16, .agg [.int .i64, .int .i64]⟩),
 (176, ⟨.struct #[⟨ "Hash", 33, 0, false, "", "", 0⟩, ⟨ "Place", 174, 1, false, "", "", 8⟩], (Value.agg #[(Value.int .u64 0), (Value.int .i64 0), (Value.int .i64 0)]), 3, 24, .agg [.int .u64, .int .i64, .int .i64]⟩),
 (272, ⟨.struct #[⟨ "Next", 3, 0, false, "", "", 0⟩, ⟨ "Refs", 170, 1, false, "", "", 8⟩], (Value.agg #[(Value.int .i64 0), (Value.slice none 0 0)]), 2, 32, .agg [.int .i64, .sl]⟩),
 (281, ⟨.int .u32, (Value.int .u32 0), 1, 4, .leaf (.int .u32)⟩),
 (283, ⟨.struct #[⟨ "Kind", 3, 0, false, "", "", 0⟩, ⟨ "Number", 281, 1, false, "", "", 8⟩, ⟨ "Body", 34, 2, false, "", "", 16⟩], (Value.agg #[(Value.int .i64 0), (Value.int .u32 0), (Value.slice none 0 0)]), 3, 40, .agg [.int .i64, .int .u32, .sl]⟩),
 (286, ⟨.pointer 420, (Value.pointer none), 1, 8, .leaf (.ptr)⟩),
 (291, ⟨.struct #[⟨ "Index", 3, 0, false, "", "", 0⟩, ⟨ "Rank", 3, 1, false, "", "", 8⟩], (Value.agg #[(Value.int .i64 0), (Value.int .i64 0)]), 2, 16, .agg [.int .i64, .int .i64]⟩),
 (382, ⟨.slice 70, (Value.slice none 0 0), 1, 24, .leaf (.sl)⟩),
 (420, ⟨.struct #[⟨ "b", 34, 0, false, "", "tallyman/octet", 0⟩, ⟨ "at", 3, 1, false, "", "tallyman/octet", 24⟩, ⟨ "err", 24, 2, false, "", "tallyman/octet", 32⟩, ⟨ "is", 4, 3, false, "", "tallyman/octet", 40⟩], (Value.agg #[(Value.slice none 0 0), (Value.int .i64 0), (Value.int .i64 0), (Value.bool false)]), 4, 48, .agg [.sl, .int .i64, .int .i64, .bool]⟩),
 (594, ⟨.array 256 281, (Value.agg (Array.replicate 256 (Value.int .u32 0))), 256, 1024, .arr 256⟩)]
def tys : Tys := ⟨trOf tyl, noMt⟩
abbrev T62 := Sl → Mem → (Sl → Mem → Prop) → Prop
def c62 (f : T62) : CallP := fun vs h K => match vs with
  | [.slice s1b s1l s1c] => f ⟨s1b, s1l, s1c⟩ h fun s2 h => K (Value.slice s2.base s2.len s2.cap) h
  | _ => False
def cs62 : Calls' := callsT []
def dcs62 : Calls' := callsT []
def hn62 : Hints := ⟨[], [], []⟩
theorem d62 (s1 : Sl) (h : Mem) (K : Value → Mem → Prop) : denF tys (cs62) (dcs62) hn62 (Go.Proofs.Tryz.f62.body.getD .skip) Go.Proofs.Tryz.f62.results.toList [(Value.slice s1.base s1.len s1.cap)] h K = slices_Clone_byte_byte tau s1 h fun s2 h => K (Value.slice s2.base s2.len s2.cap) h := by delta slices_Clone_byte_byte; kernel_rfl
abbrev T28 := Option Addr → Mem → (Bool → Mem → Prop) → Prop
def c28 (f : T28) : CallP := fun vs h K => match vs with
  | [.pointer p1] => f p1 h fun b2 h => K (Value.bool b2) h
  | _ => False
def cs28 : Calls' := callsT []
def dcs28 : Calls' := callsT []
def hn28 : Hints := ⟨[], [], []⟩
theorem d28 (p1 : Option Addr) (h : Mem) (K : Value → Mem → Prop) : denF tys (cs28) (dcs28) hn28 (Go.Proofs.Tryz.f28.body.getD .skip) Go.Proofs.Tryz.f28.results.toList [(Value.pointer p1)] h K = sector_Disk_made tau p1 h fun b2 h => K (Value.bool b2) h := by delta sector_Disk_made; kernel_rfl
abbrev T144 := Option Addr → Mem → (Int → Mem → Prop) → Prop
def c144 (f : T144) : CallP := fun vs h K => match vs with
  | [.pointer p1] => f p1 h fun n2 h => K (Value.int .i64 n2) h
  | _ => False
def cs144 (f28 : T28) : Calls' := callsT [(28, c28 f28)]
def dcs144 : Calls' := callsT []
def hn144 : Hints := ⟨[], [], []⟩
theorem d144 (p1 : Option Addr) (h : Mem) (K : Value → Mem → Prop) : denF tys (cs144 (sector_Disk_made tau)) (dcs144) hn144 (Go.Proofs.Tryz.f144.body.getD .skip) Go.Proofs.Tryz.f144.results.toList [(Value.pointer p1)] h K = sector_Disk_Sectors tau p1 h fun n2 h => K (Value.int .i64 n2) h := by delta sector_Disk_Sectors; generalize sector_Disk_made tau = f28; revert f28; refine keep ?_; intro f28; kernel_rfl
abbrev T250 := Sl → Int → Mem → (Sl → Mem → Prop) → Prop
def c250 (f : T250) : CallP := fun vs h K => match vs with
  | [.slice s1b s1l s1c, .int .i64 n2] => f ⟨s1b, s1l, s1c⟩ n2 h fun s3 h => K (Value.slice s3.base s3.len s3.cap) h
  | _ => False
def cs250 : Calls' := callsT []
def dcs250 : Calls' := callsT []
def hn250 : Hints := ⟨[], [], []⟩
theorem d250 (s1 : Sl) (n2 : Int) (h : Mem) (K : Value → Mem → Prop) : denF tys (cs250) (dcs250) hn250 (Go.Proofs.Tryz.f250.body.getD .skip) Go.Proofs.Tryz.f250.results.toList [(Value.slice s1.base s1.len s1.cap), (Value.int .i64 n2)] h K = slices_Grow_int_int tau s1 n2 h fun s3 h => K (Value.slice s3.base s3.len s3.cap) h := by delta slices_Grow_int_int; kernel_rfl
abbrev T152 := Sl → Mem → (Sl → Mem → Prop) → Prop
def c152 (f : T152) : CallP := fun vs h K => match vs with
  | [.slice s1b s1l s1c] => f ⟨s1b, s1l, s1c⟩ h fun s2 h => K (Value.slice s2.base s2.len s2.cap) h
  | _ => False
def cs152 (f250 : T250) : Calls' := callsT [(250, c250 f250)]
def dcs152 : Calls' := callsT []
def hn152 : Hints := ⟨[(3, [(3, .int .i64), (11, .int .i64)]), (11, [(6, .sl), (27, .int .i64)])], [], []⟩
theorem d152 (s1 : Sl) (h : Mem) (K : Value → Mem → Prop) : denF tys (cs152 (slices_Grow_int_int tau)) (dcs152) hn152 (Go.Proofs.Tryz.f152.body.getD .skip) Go.Proofs.Tryz.f152.results.toList [(Value.slice s1.base s1.len s1.cap)] h K = slices_Concat_int_int tau s1 h fun s2 h => K (Value.slice s2.base s2.len s2.cap) h := by delta slices_Concat_int_int; generalize slices_Grow_int_int tau = f250; revert f250; refine keep ?_; intro f250; kernel_rfl
abbrev T97 := Option Addr → Int → Mem → (Sl → Mem → Prop) → Prop
def c97 (f : T97) : CallP := fun vs h K => match vs with
  | [.pointer p1, .int .i64 n2] => f p1 n2 h fun s3 h => K (Value.slice s3.base s3.len s3.cap) h
  | _ => False
def cs97 : Calls' := callsT []
def dcs97 : Calls' := callsT []
def hn97 : Hints := ⟨[], [], []⟩
theorem d97 (p1 : Option Addr) (n2 : Int) (h : Mem) (K : Value → Mem → Prop) : denF tys (cs97) (dcs97) hn97 (Go.Proofs.Tryz.f97.body.getD .skip) Go.Proofs.Tryz.f97.results.toList [(Value.pointer p1), (Value.int .i64 n2)] h K = sector_Disk_sector tau p1 n2 h fun s3 h => K (Value.slice s3.base s3.len s3.cap) h := by delta sector_Disk_sector; kernel_rfl
abbrev T268 := Option Addr → Mem → (Bool → Mem → Prop) → Prop
def c268 (f : T268) : CallP := fun vs h K => match vs with
  | [.pointer p1] => f p1 h fun b2 h => K (Value.bool b2) h
  | _ => False
def cs268 : Calls' := callsT []
def dcs268 : Calls' := callsT []
def hn268 : Hints := ⟨[], [], []⟩
theorem d268 (p1 : Option Addr) (h : Mem) (K : Value → Mem → Prop) : denF tys (cs268) (dcs268) hn268 (Go.Proofs.Tryz.f268.body.getD .skip) Go.Proofs.Tryz.f268.results.toList [(Value.pointer p1)] h K = sector_Disk_fails tau p1 h fun b2 h => K (Value.bool b2) h := by delta sector_Disk_fails; kernel_rfl
abbrev T168 := Option Addr → Mem → (Int → Mem → Prop) → Prop
def c168 (f : T168) : CallP := fun vs h K => match vs with
  | [.pointer p1] => f p1 h fun n2 h => K (Value.int .i64 n2) h
  | _ => False
def cs168 (f28 : T28) (f97 : T97) (f268 : T268) : Calls' := callsT [(28, c28 f28), (97, c97 f97), (268, c268 f268)]
def dcs168 : Calls' := callsT []
def hn168 : Hints := ⟨[(6, [])], [], [(7, [(3, .int .i64), (4, .sl)])]⟩
theorem d168 (p1 : Option Addr) (h : Mem) (K : Value → Mem → Prop) : denF tys (cs168 (sector_Disk_made tau) (sector_Disk_sector tau) (sector_Disk_fails tau)) (dcs168) hn168 (Go.Proofs.Tryz.f168.body.getD .skip) Go.Proofs.Tryz.f168.results.toList [(Value.pointer p1)] h K = sector_Disk_Flush tau p1 h fun n2 h => K (Value.int .i64 n2) h := by delta sector_Disk_Flush; generalize sector_Disk_made tau = f28; generalize sector_Disk_sector tau = f97; generalize sector_Disk_fails tau = f268; revert f28 f97 f268; refine keep ?_; intro f28 f97 f268; kernel_rfl
abbrev T181 := Sl → Mem → (Option Addr → Mem → Prop) → Prop
def c181 (f : T181) : CallP := fun vs h K => match vs with
  | [.slice s1b s1l s1c] => f ⟨s1b, s1l, s1c⟩ h fun p2 h => K (Value.pointer p2) h
  | _ => False
def cs181 (f62 : T62) : Calls' := callsT [(62, c62 f62)]
def dcs181 : Calls' := callsT []
def hn181 : Hints := ⟨[], [], []⟩
theorem d181 (s1 : Sl) (h : Mem) (K : Value → Mem → Prop) : denF tys (cs181 (slices_Clone_byte_byte tau)) (dcs181) hn181 (Go.Proofs.Tryz.f181.body.getD .skip) Go.Proofs.Tryz.f181.results.toList [(Value.slice s1.base s1.len s1.cap)] h K = octet_New tau s1 h fun p2 h => K (Value.pointer p2) h := by delta octet_New; generalize slices_Clone_byte_byte tau = f62; revert f62; refine keep ?_; intro f62; kernel_rfl
abbrev T290 := Option Addr → Mem → (Bool → Mem → Prop) → Prop
def c290 (f : T290) : CallP := fun vs h K => match vs with
  | [.pointer p1] => f p1 h fun b2 h => K (Value.bool b2) h
  | _ => False
def cs290 : Calls' := callsT []
def dcs290 : Calls' := callsT []
def hn290 : Hints := ⟨[], [], []⟩
theorem d290 (p1 : Option Addr) (h : Mem) (K : Value → Mem → Prop) : denF tys (cs290) (dcs290) hn290 (Go.Proofs.Tryz.f290.body.getD .skip) Go.Proofs.Tryz.f290.results.toList [(Value.pointer p1)] h K = octet_Reader_made tau p1 h fun b2 h => K (Value.bool b2) h := by delta octet_Reader_made; kernel_rfl
abbrev T287 := Option Addr → Mem → (Bool → Mem → Prop) → Prop
def c287 (f : T287) : CallP := fun vs h K => match vs with
  | [.pointer p1] => f p1 h fun b2 h => K (Value.bool b2) h
  | _ => False
def cs287 (f290 : T290) : Calls' := callsT [(290, c290 f290)]
def dcs287 : Calls' := callsT []
def hn287 : Hints := ⟨[], [], []⟩
theorem d287 (p1 : Option Addr) (h : Mem) (K : Value → Mem → Prop) : denF tys (cs287 (octet_Reader_made tau)) (dcs287) hn287 (Go.Proofs.Tryz.f287.body.getD .skip) Go.Proofs.Tryz.f287.results.toList [(Value.pointer p1)] h K = octet_Reader_ready tau p1 h fun b2 h => K (Value.bool b2) h := by delta octet_Reader_ready; generalize octet_Reader_made tau = f290; revert f290; refine keep ?_; intro f290; kernel_rfl
abbrev T288 := Option Addr → Int → Mem → (Mem → Prop) → Prop
def c288 (f : T288) : CallP := fun vs h K => match vs with
  | [.pointer p1, .int .i64 n2] => f p1 n2 h fun  h => K (Value.tuple #[]) h
  | _ => False
def cs288 : Calls' := callsT []
def dcs288 : Calls' := callsT []
def hn288 : Hints := ⟨[], [], []⟩
theorem d288 (p1 : Option Addr) (n2 : Int) (h : Mem) (K : Value → Mem → Prop) : denF tys (cs288) (dcs288) hn288 (Go.Proofs.Tryz.f288.body.getD .skip) Go.Proofs.Tryz.f288.results.toList [(Value.pointer p1), (Value.int .i64 n2)] h K = octet_Reader_fail tau p1 n2 h fun  h => K (Value.tuple #[]) h := by delta octet_Reader_fail; kernel_rfl
abbrev T184 := Option Addr → Int → Mem → (Sl → Mem → Prop) → Prop
def c184 (f : T184) : CallP := fun vs h K => match vs with
  | [.pointer p1, .int .i64 n2] => f p1 n2 h fun s3 h => K (Value.slice s3.base s3.len s3.cap) h
  | _ => False
def cs184 (f287 : T287) (f288 : T288) : Calls' := callsT [(287, c287 f287), (288, c288 f288)]
def dcs184 : Calls' := callsT []
def hn184 : Hints := ⟨[], [(4, [0, 0, 2, 6, 14, 30, 0, 64, 192, 448, 1022, 2047]), (7, [0, 0, 2, 6, 14, 0, 32, 96, 224, 0, 512, 1536, 3584, 0, 15872, 32766, 65535, 131071])], []⟩
theorem d184 (p1 : Option Addr) (n2 : Int) (h : Mem) (K : Value → Mem → Prop) : denF tys (cs184 (octet_Reader_ready tau) (octet_Reader_fail tau)) (dcs184) hn184 (Go.Proofs.Tryz.f184.body.getD .skip) Go.Proofs.Tryz.f184.results.toList [(Value.pointer p1), (Value.int .i64 n2)] h K = octet_Reader_Fixed tau p1 n2 h fun s3 h => K (Value.slice s3.base s3.len s3.cap) h := by delta octet_Reader_Fixed; generalize octet_Reader_ready tau = f287; generalize octet_Reader_fail tau = f288; revert f287 f288; refine keep ?_; intro f287 f288; kernel_rfl
abbrev T182 := Option Addr → Int → Mem → (Int → Mem → Prop) → Prop
def c182 (f : T182) : CallP := fun vs h K => match vs with
  | [.pointer p1, .int .i64 n2] => f p1 n2 h fun n3 h => K (Value.int .u64 n3) h
  | _ => False
def cs182 (f184 : T184) (f287 : T287) (f288 : T288) : Calls' := callsT [(184, c184 f184), (287, c287 f287), (288, c288 f288)]
def dcs182 : Calls' := callsT []
def hn182 : Hints := ⟨[(11, [(5, .int .u64), (22, .int .i64)])], [], []⟩
theorem d182 (p1 : Option Addr) (n2 : Int) (h : Mem) (K : Value → Mem → Prop) : denF tys (cs182 (octet_Reader_Fixed tau) (octet_Reader_ready tau) (octet_Reader_fail tau)) (dcs182) hn182 (Go.Proofs.Tryz.f182.body.getD .skip) Go.Proofs.Tryz.f182.results.toList [(Value.pointer p1), (Value.int .i64 n2)] h K = octet_Reader_Word tau p1 n2 h fun n3 h => K (Value.int .u64 n3) h := by delta octet_Reader_Word; generalize octet_Reader_Fixed tau = f184; generalize octet_Reader_ready tau = f287; generalize octet_Reader_fail tau = f288; revert f184 f287 f288; refine keep ?_; intro f184 f287 f288; kernel_rfl
abbrev T209 := Sl → Int → Int → Mem → (Sl → Mem → Prop) → Prop
def c209 (f : T209) : CallP := fun vs h K => match vs with
  | [.slice s1b s1l s1c, .int .i64 n2, .int .i64 n3] => f ⟨s1b, s1l, s1c⟩ n2 n3 h fun s4 h => K (Value.slice s4.base s4.len s4.cap) h
  | _ => False
def cs209 : Calls' := callsT []
def dcs209 : Calls' := callsT []
def hn209 : Hints := ⟨[], [(5, [0, 0, 3, 0, 0, 24, 63, 127])], []⟩
theorem d209 (s1 : Sl) (n2 : Int) (n3 : Int) (h : Mem) (K : Value → Mem → Prop) : denF tys (cs209) (dcs209) hn209 (Go.Proofs.Tryz.f209.body.getD .skip) Go.Proofs.Tryz.f209.results.toList [(Value.slice s1.base s1.len s1.cap), (Value.int .i64 n2), (Value.int .i64 n3)] h K = slices_Delete_api_Pair_api_Pair tau s1 n2 n3 h fun s4 h => K (Value.slice s4.base s4.len s4.cap) h := by delta slices_Delete_api_Pair_api_Pair; kernel_rfl
abbrev T253 := Sl → Mem → (Sl → Mem → Prop) → Prop
def c253 (f : T253) : CallP := fun vs h K => match vs with
  | [.slice s1b s1l s1c] => f ⟨s1b, s1l, s1c⟩ h fun s2 h => K (Value.slice s2.base s2.len s2.cap) h
  | _ => False
def cs253 : Calls' := callsT []
def dcs253 : Calls' := callsT []
def hn253 : Hints := ⟨[], [], []⟩
theorem d253 (s1 : Sl) (h : Mem) (K : Value → Mem → Prop) : denF tys (cs253) (dcs253) hn253 (Go.Proofs.Tryz.f253.body.getD .skip) Go.Proofs.Tryz.f253.results.toList [(Value.slice s1.base s1.len s1.cap)] h K = slices_Clone_int_int tau s1 h fun s2 h => K (Value.slice s2.base s2.len s2.cap) h := by delta slices_Clone_int_int; kernel_rfl
abbrev T261 := Sl → Int → Mem → (Sl → Mem → Prop) → Prop
def c261 (f : T261) : CallP := fun vs h K => match vs with
  | [.slice s1b s1l s1c, .int .u64 n2] => f ⟨s1b, s1l, s1c⟩ n2 h fun s3 h => K (Value.slice s3.base s3.len s3.cap) h
  | _ => False
def cs261 (f62 : T62) : Calls' := callsT [(62, c62 f62)]
def dcs261 : Calls' := callsT []
def hn261 : Hints := ⟨[(2, [(0, .sl), (1, .int .u64)])], [], []⟩
theorem d261 (s1 : Sl) (n2 : Int) (h : Mem) (K : Value → Mem → Prop) : denF tys (cs261 (slices_Clone_byte_byte tau)) (dcs261) hn261 (Go.Proofs.Tryz.f261.body.getD .skip) Go.Proofs.Tryz.f261.results.toList [(Value.slice s1.base s1.len s1.cap), (Value.int .u64 n2)] h K = octet_Number tau s1 n2 h fun s3 h => K (Value.slice s3.base s3.len s3.cap) h := by delta octet_Number; generalize slices_Clone_byte_byte tau = f62; revert f62; refine keep ?_; intro f62; kernel_rfl
abbrev T439 := Sl → Int → Mem → (Sl → Mem → Prop) → Prop
def c439 (f : T439) : CallP := fun vs h K => match vs with
  | [.slice s1b s1l s1c, .int .i64 n2] => f ⟨s1b, s1l, s1c⟩ n2 h fun s3 h => K (Value.slice s3.base s3.len s3.cap) h
  | _ => False
def cs439 : Calls' := callsT []
def dcs439 : Calls' := callsT []
def hn439 : Hints := ⟨[], [], []⟩
theorem d439 (s1 : Sl) (n2 : Int) (h : Mem) (K : Value → Mem → Prop) : denF tys (cs439) (dcs439) hn439 (Go.Proofs.Tryz.f439.body.getD .skip) Go.Proofs.Tryz.f439.results.toList [(Value.slice s1.base s1.len s1.cap), (Value.int .i64 n2)] h K = slices_Grow_byte_byte tau s1 n2 h fun s3 h => K (Value.slice s3.base s3.len s3.cap) h := by delta slices_Grow_byte_byte; kernel_rfl
abbrev T361 := Sl → Mem → (Sl → Mem → Prop) → Prop
def c361 (f : T361) : CallP := fun vs h K => match vs with
  | [.slice s1b s1l s1c] => f ⟨s1b, s1l, s1c⟩ h fun s2 h => K (Value.slice s2.base s2.len s2.cap) h
  | _ => False
def cs361 (f439 : T439) : Calls' := callsT [(439, c439 f439)]
def dcs361 : Calls' := callsT []
def hn361 : Hints := ⟨[(3, [(3, .int .i64), (11, .int .i64)]), (11, [(6, .sl), (27, .int .i64)])], [], []⟩
theorem d361 (s1 : Sl) (h : Mem) (K : Value → Mem → Prop) : denF tys (cs361 (slices_Grow_byte_byte tau)) (dcs361) hn361 (Go.Proofs.Tryz.f361.body.getD .skip) Go.Proofs.Tryz.f361.results.toList [(Value.slice s1.base s1.len s1.cap)] h K = slices_Concat_byte_byte tau s1 h fun s2 h => K (Value.slice s2.base s2.len s2.cap) h := by delta slices_Concat_byte_byte; generalize slices_Grow_byte_byte tau = f439; revert f439; refine keep ?_; intro f439; kernel_rfl
abbrev T263 := Sl → Int → Int → Mem → (Sl → Mem → Prop) → Prop
def c263 (f : T263) : CallP := fun vs h K => match vs with
  | [.slice s1b s1l s1c, .int .u64 n2, .int .i64 n3] => f ⟨s1b, s1l, s1c⟩ n2 n3 h fun s4 h => K (Value.slice s4.base s4.len s4.cap) h
  | _ => False
def cs263 (f62 : T62) (f361 : T361) : Calls' := callsT [(62, c62 f62), (361, c361 f361)]
def dcs263 : Calls' := callsT []
def hn263 : Hints := ⟨[(8, [(1, .int .u64), (7, .sl), (16, .int .i64)])], [], []⟩
theorem d263 (s1 : Sl) (n2 : Int) (n3 : Int) (h : Mem) (K : Value → Mem → Prop) : denF tys (cs263 (slices_Clone_byte_byte tau) (slices_Concat_byte_byte tau)) (dcs263) hn263 (Go.Proofs.Tryz.f263.body.getD .skip) Go.Proofs.Tryz.f263.results.toList [(Value.slice s1.base s1.len s1.cap), (Value.int .u64 n2), (Value.int .i64 n3)] h K = octet_Word tau s1 n2 n3 h fun s4 h => K (Value.slice s4.base s4.len s4.cap) h := by delta octet_Word; generalize slices_Clone_byte_byte tau = f62; generalize slices_Concat_byte_byte tau = f361; revert f62 f361; refine keep ?_; intro f62 f361; kernel_rfl
abbrev T270 := Int → Mem → (Bool → Mem → Prop) → Prop
def c270 (f : T270) : CallP := fun vs h K => match vs with
  | [.int .u8 n1] => f n1 h fun b2 h => K (Value.bool b2) h
  | _ => False
def cs270 : Calls' := callsT []
def dcs270 : Calls' := callsT []
def hn270 : Hints := ⟨[], [], []⟩
theorem d270 (n1 : Int) (h : Mem) (K : Value → Mem → Prop) : denF tys (cs270) (dcs270) hn270 (Go.Proofs.Tryz.f270.body.getD .skip) Go.Proofs.Tryz.f270.results.toList [(Value.int .u8 n1)] h K = index_Load_1 tau n1 h fun b2 h => K (Value.bool b2) h := by delta index_Load_1; kernel_rfl
abbrev T185 := Option Addr → Mem → (Int → Mem → Prop) → Prop
def c185 (f : T185) : CallP := fun vs h K => match vs with
  | [.pointer p1] => f p1 h fun n2 h => K (Value.int .i64 n2) h
  | _ => False
def cs185 (f290 : T290) : Calls' := callsT [(290, c290 f290)]
def dcs185 : Calls' := callsT []
def hn185 : Hints := ⟨[], [], []⟩
theorem d185 (p1 : Option Addr) (h : Mem) (K : Value → Mem → Prop) : denF tys (cs185 (octet_Reader_made tau)) (dcs185) hn185 (Go.Proofs.Tryz.f185.body.getD .skip) Go.Proofs.Tryz.f185.results.toList [(Value.pointer p1)] h K = octet_Reader_Err tau p1 h fun n2 h => K (Value.int .i64 n2) h := by delta octet_Reader_Err; generalize octet_Reader_made tau = f290; revert f290; refine keep ?_; intro f290; kernel_rfl
abbrev T291 := Option Addr → Mem → (Int → Mem → Prop) → Prop
def c291 (f : T291) : CallP := fun vs h K => match vs with
  | [.pointer p1] => f p1 h fun n2 h => K (Value.int .i64 n2) h
  | _ => False
def cs291 (f290 : T290) : Calls' := callsT [(290, c290 f290)]
def dcs291 : Calls' := callsT []
def hn291 : Hints := ⟨[], [(3, [0, 1, 3, 7, 15, 0, 32, 96, 224, 511, 1023])], []⟩
theorem d291 (p1 : Option Addr) (h : Mem) (K : Value → Mem → Prop) : denF tys (cs291 (octet_Reader_made tau)) (dcs291) hn291 (Go.Proofs.Tryz.f291.body.getD .skip) Go.Proofs.Tryz.f291.results.toList [(Value.pointer p1)] h K = octet_Reader_Left tau p1 h fun n2 h => K (Value.int .i64 n2) h := by delta octet_Reader_Left; generalize octet_Reader_made tau = f290; revert f290; refine keep ?_; intro f290; kernel_rfl
abbrev T420 := Int → Int → Mem → (Bool → Mem → Prop) → Prop
def c420 (f : T420) : CallP := fun vs h K => match vs with
  | [.agg ⟨[.int .i64 n1, .int .i64 n2]⟩] => f n1 n2 h fun b3 h => K (Value.bool b3) h
  | _ => False
def cs420 : Calls' := callsT []
def dcs420 : Calls' := callsT []
def hn420 : Hints := ⟨[], [], []⟩
theorem d420 (n1 : Int) (n2 : Int) (h : Mem) (K : Value → Mem → Prop) : denF tys (cs420) (dcs420) hn420 (Go.Proofs.Tryz.f420.body.getD .skip) Go.Proofs.Tryz.f420.results.toList [(Value.agg #[(Value.int .i64 n1), (Value.int .i64 n2)])] h K = bucket_may tau n1 n2 h fun b3 h => K (Value.bool b3) h := by delta bucket_may; kernel_rfl
abbrev T478 := Sl → Mem → (Int → Mem → Prop) → Prop
def c478 (f : T478) : CallP := fun vs h K => match vs with
  | [.slice s1b s1l s1c] => f ⟨s1b, s1l, s1c⟩ h fun n2 h => K (Value.int .i64 n2) h
  | _ => False
def cs478 : Calls' := callsT []
def dcs478 : Calls' := callsT []
def hn478 : Hints := ⟨[(3, [(8, .int .i64)])], [], []⟩
theorem d478 (s1 : Sl) (h : Mem) (K : Value → Mem → Prop) : denF tys (cs478) (dcs478) hn478 (Go.Proofs.Tryz.f478.body.getD .skip) Go.Proofs.Tryz.f478.results.toList [(Value.slice s1.base s1.len s1.cap)] h K = cmp_Or_int tau s1 h fun n2 h => K (Value.int .i64 n2) h := by delta cmp_Or_int; kernel_rfl
abbrev T464 := Int → Mem → (Bool → Mem → Prop) → Prop
def c464 (f : T464) : CallP := fun vs h K => match vs with
  | [.int .u64 n1] => f n1 h fun b2 h => K (Value.bool b2) h
  | _ => False
def cs464 : Calls' := callsT []
def dcs464 : Calls' := callsT []
def hn464 : Hints := ⟨[], [], []⟩
theorem d464 (n1 : Int) (h : Mem) (K : Value → Mem → Prop) : denF tys (cs464) (dcs464) hn464 (Go.Proofs.Tryz.f464.body.getD .skip) Go.Proofs.Tryz.f464.results.toList [(Value.int .u64 n1)] h K = cmp_isNaN_uint64 tau n1 h fun b2 h => K (Value.bool b2) h := by delta cmp_isNaN_uint64; kernel_rfl
abbrev T479 := Int → Int → Mem → (Int → Mem → Prop) → Prop
def c479 (f : T479) : CallP := fun vs h K => match vs with
  | [.int .u64 n1, .int .u64 n2] => f n1 n2 h fun n3 h => K (Value.int .i64 n3) h
  | _ => False
def cs479 (f464 : T464) : Calls' := callsT [(464, c464 f464)]
def dcs479 : Calls' := callsT []
def hn479 : Hints := ⟨[], [], []⟩
theorem d479 (n1 : Int) (n2 : Int) (h : Mem) (K : Value → Mem → Prop) : denF tys (cs479 (cmp_isNaN_uint64 tau)) (dcs479) hn479 (Go.Proofs.Tryz.f479.body.getD .skip) Go.Proofs.Tryz.f479.results.toList [(Value.int .u64 n1), (Value.int .u64 n2)] h K = cmp_Compare_uint64 tau n1 n2 h fun n3 h => K (Value.int .i64 n3) h := by delta cmp_Compare_uint64; generalize cmp_isNaN_uint64 tau = f464; revert f464; refine keep ?_; intro f464; kernel_rfl
abbrev T436 := Int → Mem → (Bool → Mem → Prop) → Prop
def c436 (f : T436) : CallP := fun vs h K => match vs with
  | [.int .i64 n1] => f n1 h fun b2 h => K (Value.bool b2) h
  | _ => False
def cs436 : Calls' := callsT []
def dcs436 : Calls' := callsT []
def hn436 : Hints := ⟨[], [], []⟩
theorem d436 (n1 : Int) (h : Mem) (K : Value → Mem → Prop) : denF tys (cs436) (dcs436) hn436 (Go.Proofs.Tryz.f436.body.getD .skip) Go.Proofs.Tryz.f436.results.toList [(Value.int .i64 n1)] h K = cmp_isNaN_int tau n1 h fun b2 h => K (Value.bool b2) h := by delta cmp_isNaN_int; kernel_rfl
abbrev T480 := Int → Int → Mem → (Int → Mem → Prop) → Prop
def c480 (f : T480) : CallP := fun vs h K => match vs with
  | [.int .i64 n1, .int .i64 n2] => f n1 n2 h fun n3 h => K (Value.int .i64 n3) h
  | _ => False
def cs480 (f436 : T436) : Calls' := callsT [(436, c436 f436)]
def dcs480 : Calls' := callsT []
def hn480 : Hints := ⟨[], [], []⟩
theorem d480 (n1 : Int) (n2 : Int) (h : Mem) (K : Value → Mem → Prop) : denF tys (cs480 (cmp_isNaN_int tau)) (dcs480) hn480 (Go.Proofs.Tryz.f480.body.getD .skip) Go.Proofs.Tryz.f480.results.toList [(Value.int .i64 n1), (Value.int .i64 n2)] h K = cmp_Compare_int tau n1 n2 h fun n3 h => K (Value.int .i64 n3) h := by delta cmp_Compare_int; generalize cmp_isNaN_int tau = f436; revert f436; refine keep ?_; intro f436; kernel_rfl
abbrev T444 := Int → Int → Int → Int → Int → Int → Mem → (Int → Mem → Prop) → Prop
def c444 (f : T444) : CallP := fun vs h K => match vs with
  | [.agg ⟨[.int .u64 n1, .int .i64 n2, .int .i64 n3]⟩, .agg ⟨[.int .u64 n4, .int .i64 n5, .int .i64 n6]⟩] => f n1 n2 n3 n4 n5 n6 h fun n7 h => K (Value.int .i64 n7) h
  | _ => False
def cs444 (f478 : T478) (f479 : T479) (f480 : T480) : Calls' := callsT [(478, c478 f478), (479, c479 f479), (480, c480 f480)]
def dcs444 : Calls' := callsT []
def hn444 : Hints := ⟨[], [(1, [0, 1, 0, 4, 15, 0, 32, 96, 0, 256, 768, 2047, 0, 4096, 12288, 0, 32768, 98304, 262143, 524287, 1048575, 2097151])], []⟩
theorem d444 (n1 : Int) (n2 : Int) (n3 : Int) (n4 : Int) (n5 : Int) (n6 : Int) (h : Mem) (K : Value → Mem → Prop) : denF tys (cs444 (cmp_Or_int tau) (cmp_Compare_uint64 tau) (cmp_Compare_int tau)) (dcs444) hn444 (Go.Proofs.Tryz.f444.body.getD .skip) Go.Proofs.Tryz.f444.results.toList [(Value.agg #[(Value.int .u64 n1), (Value.int .i64 n2), (Value.int .i64 n3)]), (Value.agg #[(Value.int .u64 n4), (Value.int .i64 n5), (Value.int .i64 n6)])] h K = bucket_Compare tau n1 n2 n3 n4 n5 n6 h fun n7 h => K (Value.int .i64 n7) h := by delta bucket_Compare; generalize cmp_Or_int tau = f478; generalize cmp_Compare_uint64 tau = f479; generalize cmp_Compare_int tau = f480; revert f478 f479 f480; refine keep ?_; intro f478 f479 f480; kernel_rfl
abbrev T377 := Int → Sl → Mem → (Int → Mem → Prop) → Prop
def c377 (f : T377) : CallP := fun vs h K => match vs with
  | [.agg ⟨[.int .i64 n1, .slice s2b s2l s2c]⟩] => f n1 ⟨s2b, s2l, s2c⟩ h fun n3 h => K (Value.int .i64 n3) h
  | _ => False
def cs377 (f420 : T420) (f444 : T444) : Calls' := callsT [(420, c420 f420), (444, c444 f444)]
def dcs377 : Calls' := callsT []
def hn377 : Hints := ⟨[(4, [(22, .int .i64)])], [(6, [0, 1, 3, 7, 15, 31, 63, 127, 255, 511, 255, 1279, 4095, 8191, 255, 32767, 65535, 131071, 262143])], []⟩
theorem d377 (n1 : Int) (s2 : Sl) (h : Mem) (K : Value → Mem → Prop) : denF tys (cs377 (bucket_may tau) (bucket_Compare tau)) (dcs377) hn377 (Go.Proofs.Tryz.f377.body.getD .skip) Go.Proofs.Tryz.f377.results.toList [(Value.agg #[(Value.int .i64 n1), (Value.slice s2.base s2.len s2.cap)])] h K = bucket_Check tau n1 s2 h fun n3 h => K (Value.int .i64 n3) h := by delta bucket_Check; generalize bucket_may tau = f420; generalize bucket_Compare tau = f444; revert f420 f444; refine keep ?_; intro f420 f444; kernel_rfl
abbrev T338 := Sl → Mem → (Int → Sl → Int → Mem → Prop) → Prop
def c338 (f : T338) : CallP := fun vs h K => match vs with
  | [.slice s1b s1l s1c] => f ⟨s1b, s1l, s1c⟩ h fun n2 s3 n4 h => K (Value.tuple #[(Value.agg #[(Value.int .i64 n2), (Value.slice s3.base s3.len s3.cap)]), (Value.int .i64 n4)]) h
  | _ => False
def cs338 (f181 : T181) (f182 : T182) (f185 : T185) (f291 : T291) (f377 : T377) : Calls' := callsT [(181, c181 f181), (182, c182 f182), (185, c185 f185), (291, c291 f291), (377, c377 f377)]
def dcs338 : Calls' := callsT []
def hn338 : Hints := ⟨[(4, [(6, .int .u64)]), (10, [(58, .int .i64)])], [(6, [0, 1, 0, 4, 0, 28, 60, 0, 188, 444, 1020, 2044, 4092, 8191, 16383, 32767])], []⟩
theorem d338 (s1 : Sl) (h : Mem) (K : Value → Mem → Prop) : denF tys (cs338 (octet_New tau) (octet_Reader_Word tau) (octet_Reader_Err tau) (octet_Reader_Left tau) (bucket_Check tau)) (dcs338) hn338 (Go.Proofs.Tryz.f338.body.getD .skip) Go.Proofs.Tryz.f338.results.toList [(Value.slice s1.base s1.len s1.cap)] h K = bucket_Read tau s1 h fun n2 s3 n4 h => K (Value.tuple #[(Value.agg #[(Value.int .i64 n2), (Value.slice s3.base s3.len s3.cap)]), (Value.int .i64 n4)]) h := by delta bucket_Read; generalize octet_New tau = f181; generalize octet_Reader_Word tau = f182; generalize octet_Reader_Err tau = f185; generalize octet_Reader_Left tau = f291; generalize bucket_Check tau = f377; revert f181 f182 f185 f291 f377; refine keep ?_; intro f181 f182 f185 f291 f377; kernel_rfl
abbrev T516 := Array Value → Int → Sl → Mem → (Int → Mem → Prop) → Prop
def c516 (f : T516) : CallP := fun vs h K => match vs with
  | [.agg c1, .int .u32 n2, .slice s3b s3l s3c] => f c1 n2 ⟨s3b, s3l, s3c⟩ h fun n4 h => K (Value.int .u32 n4) h
  | _ => False
def cs516 : Calls' := callsT []
def dcs516 : Calls' := callsT []
def hn516 : Hints := ⟨[(3, [(7, .int .u32), (14, .int .i64)])], [], []⟩
theorem d516 (c1 : Array Value) (n2 : Int) (s3 : Sl) (h : Mem) (K : Value → Mem → Prop) : denF tys (cs516) (dcs516) hn516 (Go.Proofs.Tryz.f516.body.getD .skip) Go.Proofs.Tryz.f516.results.toList [(Value.agg c1), (Value.int .u32 n2), (Value.slice s3.base s3.len s3.cap)] h K = crc_On tau c1 n2 s3 h fun n4 h => K (Value.int .u32 n4) h := by delta crc_On; kernel_rfl
abbrev T498 := Array Value → Sl → Mem → (Int → Mem → Prop) → Prop
def c498 (f : T498) : CallP := fun vs h K => match vs with
  | [.agg c1, .slice s2b s2l s2c] => f c1 ⟨s2b, s2l, s2c⟩ h fun n3 h => K (Value.int .u32 n3) h
  | _ => False
def cs498 (f516 : T516) : Calls' := callsT [(516, c516 f516)]
def dcs498 : Calls' := callsT []
def hn498 : Hints := ⟨[(2, [(4, .int .u32), (9, .int .i64)])], [], []⟩
theorem d498 (c1 : Array Value) (s2 : Sl) (h : Mem) (K : Value → Mem → Prop) : denF tys (cs498 (crc_On tau)) (dcs498) hn498 (Go.Proofs.Tryz.f498.body.getD .skip) Go.Proofs.Tryz.f498.results.toList [(Value.agg c1), (Value.slice s2.base s2.len s2.cap)] h K = crc_on tau c1 s2 h fun n3 h => K (Value.int .u32 n3) h := by delta crc_on; generalize crc_On tau = f516; revert f516; refine keep ?_; intro f516; kernel_rfl
abbrev T499 := Mem → (Array Value → Mem → Prop) → Prop
def c499 (f : T499) : CallP := fun vs h K => match vs with
  | [] => f  h fun c1 h => K (Value.agg c1) h
  | _ => False
def cs499 : Calls' := callsT []
def dcs499 : Calls' := callsT []
def hn499 : Hints := ⟨[(2, [(4, .int .i64)]), (6, [(2, .int .u32), (9, .int .i64)])], [], []⟩
theorem d499 (h : Mem) (K : Value → Mem → Prop) : denF tys (cs499) (dcs499) hn499 (Go.Proofs.Tryz.f499.body.getD .skip) Go.Proofs.Tryz.f499.results.toList [] h K = crc_Table tau  h fun c1 h => K (Value.agg c1) h := by delta crc_Table; kernel_rfl
abbrev T477 := Sl → Mem → (Int → Mem → Prop) → Prop
def c477 (f : T477) : CallP := fun vs h K => match vs with
  | [.slice s1b s1l s1c] => f ⟨s1b, s1l, s1c⟩ h fun n2 h => K (Value.int .u32 n2) h
  | _ => False
def cs477 (f498 : T498) (f499 : T499) : Calls' := callsT [(498, c498 f498), (499, c499 f499)]
def dcs477 : Calls' := callsT []
def hn477 : Hints := ⟨[], [], []⟩
theorem d477 (s1 : Sl) (h : Mem) (K : Value → Mem → Prop) : denF tys (cs477 (crc_on tau) (crc_Table tau)) (dcs477) hn477 (Go.Proofs.Tryz.f477.body.getD .skip) Go.Proofs.Tryz.f477.results.toList [(Value.slice s1.base s1.len s1.cap)] h K = crc_Parts tau s1 h fun n2 h => K (Value.int .u32 n2) h := by delta crc_Parts; generalize crc_on tau = f498; generalize crc_Table tau = f499; revert f498 f499; refine keep ?_; intro f498 f499; kernel_rfl
abbrev T442 := Sl → Mem → (Int → Mem → Prop) → Prop
def c442 (f : T442) : CallP := fun vs h K => match vs with
  | [.slice s1b s1l s1c] => f ⟨s1b, s1l, s1c⟩ h fun n2 h => K (Value.int .u32 n2) h
  | _ => False
def cs442 (f477 : T477) : Calls' := callsT [(477, c477 f477)]
def dcs442 : Calls' := callsT []
def hn442 : Hints := ⟨[], [(1, [0, 1, 0, 0, 8, 31, 63, 127])], []⟩
theorem d442 (s1 : Sl) (h : Mem) (K : Value → Mem → Prop) : denF tys (cs442 (crc_Parts tau)) (dcs442) hn442 (Go.Proofs.Tryz.f442.body.getD .skip) Go.Proofs.Tryz.f442.results.toList [(Value.slice s1.base s1.len s1.cap)] h K = page_crcOf tau s1 h fun n2 h => K (Value.int .u32 n2) h := by delta page_crcOf; generalize crc_Parts tau = f477; revert f477; refine keep ?_; intro f477; kernel_rfl
abbrev T364 := Int → Int → Sl → Mem → (Sl → Int → Mem → Prop) → Prop
def c364 (f : T364) : CallP := fun vs h K => match vs with
  | [.agg ⟨[.int .i64 n1, .int .u32 n2, .slice s3b s3l s3c]⟩] => f n1 n2 ⟨s3b, s3l, s3c⟩ h fun s4 n5 h => K (Value.tuple #[(Value.slice s4.base s4.len s4.cap), (Value.int .i64 n5)]) h
  | _ => False
def cs364 (f263 : T263) (f442 : T442) : Calls' := callsT [(263, c263 f263), (442, c442 f442)]
def dcs364 : Calls' := callsT []
def hn364 : Hints := ⟨[], [(6, [0, 1, 0, 4, 15]), (7, [0, 1, 0, 4, 12, 28, 63])], []⟩
theorem d364 (n1 : Int) (n2 : Int) (s3 : Sl) (h : Mem) (K : Value → Mem → Prop) : denF tys (cs364 (octet_Word tau) (page_crcOf tau)) (dcs364) hn364 (Go.Proofs.Tryz.f364.body.getD .skip) Go.Proofs.Tryz.f364.results.toList [(Value.agg #[(Value.int .i64 n1), (Value.int .u32 n2), (Value.slice s3.base s3.len s3.cap)])] h K = page_Bytes tau n1 n2 s3 h fun s4 n5 h => K (Value.tuple #[(Value.slice s4.base s4.len s4.cap), (Value.int .i64 n5)]) h := by delta page_Bytes; generalize octet_Word tau = f263; generalize page_crcOf tau = f442; revert f263 f442; refine keep ?_; intro f263 f442; kernel_rfl
abbrev T370 := Sl → Mem → (Int → Mem → Prop) → Prop
def c370 (f : T370) : CallP := fun vs h K => match vs with
  | [.slice s1b s1l s1c, .func (.func 270) ⟨[]⟩ ⟨[]⟩] => f ⟨s1b, s1l, s1c⟩ h fun n2 h => K (Value.int .i64 n2) h
  | _ => False
def cs370 (f270 : T270) : Calls' := callsT [(270, c270 f270)]
def dcs370 : Calls' := callsT []
def hn370 : Hints := ⟨[(2, [(8, .int .i64)])], [], []⟩
theorem d370 (s1 : Sl) (h : Mem) (K : Value → Mem → Prop) : denF tys (cs370 (index_Load_1 tau)) (dcs370) hn370 (Go.Proofs.Tryz.f370.body.getD .skip) Go.Proofs.Tryz.f370.results.toList [(Value.slice s1.base s1.len s1.cap), (Value.func (.func 270) #[] #[])] h K = slices_IndexFunc_byte_byte tau s1 h fun n2 h => K (Value.int .i64 n2) h := by delta slices_IndexFunc_byte_byte; generalize index_Load_1 tau = f270; revert f270; refine keep ?_; intro f270; kernel_rfl
abbrev T399 := Sl → Int → Int → Mem → (Sl → Mem → Prop) → Prop
def c399 (f : T399) : CallP := fun vs h K => match vs with
  | [.slice s1b s1l s1c, .int .i64 n2, .int .i64 n3] => f ⟨s1b, s1l, s1c⟩ n2 n3 h fun s4 h => K (Value.slice s4.base s4.len s4.cap) h
  | _ => False
def cs399 : Calls' := callsT []
def dcs399 : Calls' := callsT []
def hn399 : Hints := ⟨[], [(5, [0, 0, 3, 0, 0, 24, 63, 127])], []⟩
theorem d399 (s1 : Sl) (n2 : Int) (n3 : Int) (h : Mem) (K : Value → Mem → Prop) : denF tys (cs399) (dcs399) hn399 (Go.Proofs.Tryz.f399.body.getD .skip) Go.Proofs.Tryz.f399.results.toList [(Value.slice s1.base s1.len s1.cap), (Value.int .i64 n2), (Value.int .i64 n3)] h K = slices_Delete_api_Ref_api_Ref tau s1 n2 n3 h fun s4 h => K (Value.slice s4.base s4.len s4.cap) h := by delta slices_Delete_api_Ref_api_Ref; kernel_rfl
abbrev T403 := Sl → Int → Int → Mem → (Sl → Mem → Prop) → Prop
def c403 (f : T403) : CallP := fun vs h K => match vs with
  | [.slice s1b s1l s1c, .int .i64 n2, .int .i64 n3] => f ⟨s1b, s1l, s1c⟩ n2 n3 h fun s4 h => K (Value.slice s4.base s4.len s4.cap) h
  | _ => False
def cs403 : Calls' := callsT []
def dcs403 : Calls' := callsT []
def hn403 : Hints := ⟨[], [(5, [0, 0, 3, 0, 0, 24, 63, 127])], []⟩
theorem d403 (s1 : Sl) (n2 : Int) (n3 : Int) (h : Mem) (K : Value → Mem → Prop) : denF tys (cs403) (dcs403) hn403 (Go.Proofs.Tryz.f403.body.getD .skip) Go.Proofs.Tryz.f403.results.toList [(Value.slice s1.base s1.len s1.cap), (Value.int .i64 n2), (Value.int .i64 n3)] h K = slices_Delete_int_int tau s1 n2 n3 h fun s4 h => K (Value.slice s4.base s4.len s4.cap) h := by delta slices_Delete_int_int; kernel_rfl
abbrev T462 := Sl → Sl → Mem → (Bool → Mem → Prop) → Prop
def c462 (f : T462) : CallP := fun vs h K => match vs with
  | [.slice s1b s1l s1c, .slice s2b s2l s2c] => f ⟨s1b, s1l, s1c⟩ ⟨s2b, s2l, s2c⟩ h fun b3 h => K (Value.bool b3) h
  | _ => False
abbrev T512 := Sl → Mem → (Mem → Prop) → Prop
def c512 (f : T512) : CallP := fun vs h K => match vs with
  | [.slice s1b s1l s1c] => f ⟨s1b, s1l, s1c⟩ h fun  h => K (Value.tuple #[]) h
  | _ => False
def cs512 : Calls' := callsT []
def dcs512 : Calls' := callsT []
def hn512 : Hints := ⟨[(1, [(2, .int .i64), (3, .int .i64)])], [(3, [0, 0, 0, 0, 0, 0, 48, 112, 0, 0, 768, 1792, 4083, 8179, 16383, 32767])], []⟩
theorem d512 (s1 : Sl) (h : Mem) (K : Value → Mem → Prop) : denF tys (cs512) (dcs512) hn512 (Go.Proofs.Tryz.f512.body.getD .skip) Go.Proofs.Tryz.f512.results.toList [(Value.slice s1.base s1.len s1.cap)] h K = slices_Reverse_api_Pair_api_Pair tau s1 h fun  h => K (Value.tuple #[]) h := by delta slices_Reverse_api_Pair_api_Pair; kernel_rfl
abbrev T491 := Sl → Int → Mem → (Mem → Prop) → Prop
def c491 (f : T491) : CallP := fun vs h K => match vs with
  | [.slice s1b s1l s1c, .int .i64 n2] => f ⟨s1b, s1l, s1c⟩ n2 h fun  h => K (Value.tuple #[]) h
  | _ => False
def cs491 (f512 : T512) : Calls' := callsT [(512, c512 f512)]
def dcs491 : Calls' := callsT []
def hn491 : Hints := ⟨[], [], []⟩
theorem d491 (s1 : Sl) (n2 : Int) (h : Mem) (K : Value → Mem → Prop) : denF tys (cs491 (slices_Reverse_api_Pair_api_Pair tau)) (dcs491) hn491 (Go.Proofs.Tryz.f491.body.getD .skip) Go.Proofs.Tryz.f491.results.toList [(Value.slice s1.base s1.len s1.cap), (Value.int .i64 n2)] h K = slices_rotateLeft_api_Pair tau s1 n2 h fun  h => K (Value.tuple #[]) h := by delta slices_rotateLeft_api_Pair; generalize slices_Reverse_api_Pair_api_Pair tau = f512; revert f512; refine keep ?_; intro f512; kernel_rfl
abbrev T463 := Sl → Int → Mem → (Mem → Prop) → Prop
def c463 (f : T463) : CallP := fun vs h K => match vs with
  | [.slice s1b s1l s1c, .int .i64 n2] => f ⟨s1b, s1l, s1c⟩ n2 h fun  h => K (Value.tuple #[]) h
  | _ => False
def cs463 (f491 : T491) : Calls' := callsT [(491, c491 f491)]
def dcs463 : Calls' := callsT []
def hn463 : Hints := ⟨[], [], []⟩
theorem d463 (s1 : Sl) (n2 : Int) (h : Mem) (K : Value → Mem → Prop) : denF tys (cs463 (slices_rotateLeft_api_Pair tau)) (dcs463) hn463 (Go.Proofs.Tryz.f463.body.getD .skip) Go.Proofs.Tryz.f463.results.toList [(Value.slice s1.base s1.len s1.cap), (Value.int .i64 n2)] h K = slices_rotateRight_api_Pair tau s1 n2 h fun  h => K (Value.tuple #[]) h := by delta slices_rotateRight_api_Pair; generalize slices_rotateLeft_api_Pair tau = f491; revert f491; refine keep ?_; intro f491; kernel_rfl
abbrev T409 := Sl → Int → Sl → Mem → (Sl → Mem → Prop) → Prop
def c409 (f : T409) : CallP := fun vs h K => match vs with
  | [.slice s1b s1l s1c, .int .i64 n2, .slice s3b s3l s3c] => f ⟨s1b, s1l, s1c⟩ n2 ⟨s3b, s3l, s3c⟩ h fun s4 h => K (Value.slice s4.base s4.len s4.cap) h
  | _ => False
def cs409 (f462 : T462) (f463 : T463) : Calls' := callsT [(462, c462 f462), (463, c463 f463)]
def dcs409 : Calls' := callsT []
def hn409 : Hints := ⟨[], [(11, [0, 0, 0, 6, 15, 0, 0, 96, 255]), (15, [0, 0, 0, 6, 15, 0, 0, 96, 255])], []⟩
theorem d409 (s1 : Sl) (n2 : Int) (s3 : Sl) (h : Mem) (K : Value → Mem → Prop) : denF tys (cs409 (slices_overlaps_api_Pair tau) (slices_rotateRight_api_Pair tau)) (dcs409) hn409 (Go.Proofs.Tryz.f409.body.getD .skip) Go.Proofs.Tryz.f409.results.toList [(Value.slice s1.base s1.len s1.cap), (Value.int .i64 n2), (Value.slice s3.base s3.len s3.cap)] h K = slices_Insert_api_Pair_api_Pair tau s1 n2 s3 h fun s4 h => K (Value.slice s4.base s4.len s4.cap) h := by delta slices_Insert_api_Pair_api_Pair; generalize slices_overlaps_api_Pair tau = f462; generalize slices_rotateRight_api_Pair tau = f463; revert f462 f463; refine keep ?_; intro f462 f463; kernel_rfl
abbrev T467 := Sl → Sl → Mem → (Bool → Mem → Prop) → Prop
def c467 (f : T467) : CallP := fun vs h K => match vs with
  | [.slice s1b s1l s1c, .slice s2b s2l s2c] => f ⟨s1b, s1l, s1c⟩ ⟨s2b, s2l, s2c⟩ h fun b3 h => K (Value.bool b3) h
  | _ => False
abbrev T514 := Sl → Mem → (Mem → Prop) → Prop
def c514 (f : T514) : CallP := fun vs h K => match vs with
  | [.slice s1b s1l s1c] => f ⟨s1b, s1l, s1c⟩ h fun  h => K (Value.tuple #[]) h
  | _ => False
def cs514 : Calls' := callsT []
def dcs514 : Calls' := callsT []
def hn514 : Hints := ⟨[(1, [(2, .int .i64), (3, .int .i64)])], [(3, [0, 0, 0, 0, 0, 0, 48, 112, 0, 0, 768, 1792, 4083, 8179, 16383, 32767])], []⟩
theorem d514 (s1 : Sl) (h : Mem) (K : Value → Mem → Prop) : denF tys (cs514) (dcs514) hn514 (Go.Proofs.Tryz.f514.body.getD .skip) Go.Proofs.Tryz.f514.results.toList [(Value.slice s1.base s1.len s1.cap)] h K = slices_Reverse_api_Ref_api_Ref tau s1 h fun  h => K (Value.tuple #[]) h := by delta slices_Reverse_api_Ref_api_Ref; kernel_rfl
abbrev T494 := Sl → Int → Mem → (Mem → Prop) → Prop
def c494 (f : T494) : CallP := fun vs h K => match vs with
  | [.slice s1b s1l s1c, .int .i64 n2] => f ⟨s1b, s1l, s1c⟩ n2 h fun  h => K (Value.tuple #[]) h
  | _ => False
def cs494 (f514 : T514) : Calls' := callsT [(514, c514 f514)]
def dcs494 : Calls' := callsT []
def hn494 : Hints := ⟨[], [], []⟩
theorem d494 (s1 : Sl) (n2 : Int) (h : Mem) (K : Value → Mem → Prop) : denF tys (cs494 (slices_Reverse_api_Ref_api_Ref tau)) (dcs494) hn494 (Go.Proofs.Tryz.f494.body.getD .skip) Go.Proofs.Tryz.f494.results.toList [(Value.slice s1.base s1.len s1.cap), (Value.int .i64 n2)] h K = slices_rotateLeft_api_Ref tau s1 n2 h fun  h => K (Value.tuple #[]) h := by delta slices_rotateLeft_api_Ref; generalize slices_Reverse_api_Ref_api_Ref tau = f514; revert f514; refine keep ?_; intro f514; kernel_rfl
abbrev T468 := Sl → Int → Mem → (Mem → Prop) → Prop
def c468 (f : T468) : CallP := fun vs h K => match vs with
  | [.slice s1b s1l s1c, .int .i64 n2] => f ⟨s1b, s1l, s1c⟩ n2 h fun  h => K (Value.tuple #[]) h
  | _ => False
def cs468 (f494 : T494) : Calls' := callsT [(494, c494 f494)]
def dcs468 : Calls' := callsT []
def hn468 : Hints := ⟨[], [], []⟩
theorem d468 (s1 : Sl) (n2 : Int) (h : Mem) (K : Value → Mem → Prop) : denF tys (cs468 (slices_rotateLeft_api_Ref tau)) (dcs468) hn468 (Go.Proofs.Tryz.f468.body.getD .skip) Go.Proofs.Tryz.f468.results.toList [(Value.slice s1.base s1.len s1.cap), (Value.int .i64 n2)] h K = slices_rotateRight_api_Ref tau s1 n2 h fun  h => K (Value.tuple #[]) h := by delta slices_rotateRight_api_Ref; generalize slices_rotateLeft_api_Ref tau = f494; revert f494; refine keep ?_; intro f494; kernel_rfl
abbrev T421 := Sl → Int → Sl → Mem → (Sl → Mem → Prop) → Prop
def c421 (f : T421) : CallP := fun vs h K => match vs with
  | [.slice s1b s1l s1c, .int .i64 n2, .slice s3b s3l s3c] => f ⟨s1b, s1l, s1c⟩ n2 ⟨s3b, s3l, s3c⟩ h fun s4 h => K (Value.slice s4.base s4.len s4.cap) h
  | _ => False
def cs421 (f467 : T467) (f468 : T468) : Calls' := callsT [(467, c467 f467), (468, c468 f468)]
def dcs421 : Calls' := callsT []
def hn421 : Hints := ⟨[], [(11, [0, 0, 0, 6, 15, 0, 0, 96, 255]), (15, [0, 0, 0, 6, 15, 0, 0, 96, 255])], []⟩
theorem d421 (s1 : Sl) (n2 : Int) (s3 : Sl) (h : Mem) (K : Value → Mem → Prop) : denF tys (cs421 (slices_overlaps_api_Ref tau) (slices_rotateRight_api_Ref tau)) (dcs421) hn421 (Go.Proofs.Tryz.f421.body.getD .skip) Go.Proofs.Tryz.f421.results.toList [(Value.slice s1.base s1.len s1.cap), (Value.int .i64 n2), (Value.slice s3.base s3.len s3.cap)] h K = slices_Insert_api_Ref_api_Ref tau s1 n2 s3 h fun s4 h => K (Value.slice s4.base s4.len s4.cap) h := by delta slices_Insert_api_Ref_api_Ref; generalize slices_overlaps_api_Ref tau = f467; generalize slices_rotateRight_api_Ref tau = f468; revert f467 f468; refine keep ?_; intro f467 f468; kernel_rfl
abbrev T425 := Sl → Int → Mem → (Sl → Mem → Prop) → Prop
def c425 (f : T425) : CallP := fun vs h K => match vs with
  | [.slice s1b s1l s1c, .int .u8 n2] => f ⟨s1b, s1l, s1c⟩ n2 h fun s3 h => K (Value.slice s3.base s3.len s3.cap) h
  | _ => False
def cs425 : Calls' := callsT []
def dcs425 : Calls' := callsT []
def hn425 : Hints := ⟨[(1, [(0, .sl)])], [], []⟩
theorem d425 (s1 : Sl) (n2 : Int) (h : Mem) (K : Value → Mem → Prop) : denF tys (cs425) (dcs425) hn425 (Go.Proofs.Tryz.f425.body.getD .skip) Go.Proofs.Tryz.f425.results.toList [(Value.slice s1.base s1.len s1.cap), (Value.int .u8 n2)] h K = bytes_trimRightByte tau s1 n2 h fun s3 h => K (Value.slice s3.base s3.len s3.cap) h := by delta bytes_trimRightByte; kernel_rfl
abbrev T475 := Sl → Sl → Mem → (Bool → Mem → Prop) → Prop
def c475 (f : T475) : CallP := fun vs h K => match vs with
  | [.slice s1b s1l s1c, .slice s2b s2l s2c] => f ⟨s1b, s1l, s1c⟩ ⟨s2b, s2l, s2c⟩ h fun b3 h => K (Value.bool b3) h
  | _ => False
abbrev T515 := Sl → Mem → (Mem → Prop) → Prop
def c515 (f : T515) : CallP := fun vs h K => match vs with
  | [.slice s1b s1l s1c] => f ⟨s1b, s1l, s1c⟩ h fun  h => K (Value.tuple #[]) h
  | _ => False
def cs515 : Calls' := callsT []
def dcs515 : Calls' := callsT []
def hn515 : Hints := ⟨[(1, [(2, .int .i64), (3, .int .i64)])], [(3, [0, 0, 0, 0, 0, 0, 48, 112, 0, 0, 768, 1792, 4083, 8179, 16383, 32767])], []⟩
theorem d515 (s1 : Sl) (h : Mem) (K : Value → Mem → Prop) : denF tys (cs515) (dcs515) hn515 (Go.Proofs.Tryz.f515.body.getD .skip) Go.Proofs.Tryz.f515.results.toList [(Value.slice s1.base s1.len s1.cap)] h K = slices_Reverse_int_int tau s1 h fun  h => K (Value.tuple #[]) h := by delta slices_Reverse_int_int; kernel_rfl
abbrev T497 := Sl → Int → Mem → (Mem → Prop) → Prop
def c497 (f : T497) : CallP := fun vs h K => match vs with
  | [.slice s1b s1l s1c, .int .i64 n2] => f ⟨s1b, s1l, s1c⟩ n2 h fun  h => K (Value.tuple #[]) h
  | _ => False
def cs497 (f515 : T515) : Calls' := callsT [(515, c515 f515)]
def dcs497 : Calls' := callsT []
def hn497 : Hints := ⟨[], [], []⟩
theorem d497 (s1 : Sl) (n2 : Int) (h : Mem) (K : Value → Mem → Prop) : denF tys (cs497 (slices_Reverse_int_int tau)) (dcs497) hn497 (Go.Proofs.Tryz.f497.body.getD .skip) Go.Proofs.Tryz.f497.results.toList [(Value.slice s1.base s1.len s1.cap), (Value.int .i64 n2)] h K = slices_rotateLeft_int tau s1 n2 h fun  h => K (Value.tuple #[]) h := by delta slices_rotateLeft_int; generalize slices_Reverse_int_int tau = f515; revert f515; refine keep ?_; intro f515; kernel_rfl
abbrev T476 := Sl → Int → Mem → (Mem → Prop) → Prop
def c476 (f : T476) : CallP := fun vs h K => match vs with
  | [.slice s1b s1l s1c, .int .i64 n2] => f ⟨s1b, s1l, s1c⟩ n2 h fun  h => K (Value.tuple #[]) h
  | _ => False
def cs476 (f497 : T497) : Calls' := callsT [(497, c497 f497)]
def dcs476 : Calls' := callsT []
def hn476 : Hints := ⟨[], [], []⟩
theorem d476 (s1 : Sl) (n2 : Int) (h : Mem) (K : Value → Mem → Prop) : denF tys (cs476 (slices_rotateLeft_int tau)) (dcs476) hn476 (Go.Proofs.Tryz.f476.body.getD .skip) Go.Proofs.Tryz.f476.results.toList [(Value.slice s1.base s1.len s1.cap), (Value.int .i64 n2)] h K = slices_rotateRight_int tau s1 n2 h fun  h => K (Value.tuple #[]) h := by delta slices_rotateRight_int; generalize slices_rotateLeft_int tau = f497; revert f497; refine keep ?_; intro f497; kernel_rfl
abbrev T438 := Sl → Int → Sl → Mem → (Sl → Mem → Prop) → Prop
def c438 (f : T438) : CallP := fun vs h K => match vs with
  | [.slice s1b s1l s1c, .int .i64 n2, .slice s3b s3l s3c] => f ⟨s1b, s1l, s1c⟩ n2 ⟨s3b, s3l, s3c⟩ h fun s4 h => K (Value.slice s4.base s4.len s4.cap) h
  | _ => False
def cs438 (f475 : T475) (f476 : T476) : Calls' := callsT [(475, c475 f475), (476, c476 f476)]
def dcs438 : Calls' := callsT []
def hn438 : Hints := ⟨[], [(11, [0, 0, 0, 6, 15, 0, 0, 96, 255]), (15, [0, 0, 0, 6, 15, 0, 0, 96, 255])], []⟩
theorem d438 (s1 : Sl) (n2 : Int) (s3 : Sl) (h : Mem) (K : Value → Mem → Prop) : denF tys (cs438 (slices_overlaps_int tau) (slices_rotateRight_int tau)) (dcs438) hn438 (Go.Proofs.Tryz.f438.body.getD .skip) Go.Proofs.Tryz.f438.results.toList [(Value.slice s1.base s1.len s1.cap), (Value.int .i64 n2), (Value.slice s3.base s3.len s3.cap)] h K = slices_Insert_int_int tau s1 n2 s3 h fun s4 h => K (Value.slice s4.base s4.len s4.cap) h := by delta slices_Insert_int_int; generalize slices_overlaps_int tau = f475; generalize slices_rotateRight_int tau = f476; revert f475 f476; refine keep ?_; intro f475 f476; kernel_rfl
abbrev T465 := Sl → Mem → (Bool → Mem → Prop) → Prop
def c465 (f : T465) : CallP := fun vs h K => match vs with
  | [.slice s1b s1l s1c] => f ⟨s1b, s1l, s1c⟩ h fun b2 h => K (Value.bool b2) h
  | _ => False
def cs465 : Calls' := callsT []
def dcs465 : Calls' := callsT []
def hn465 : Hints := ⟨[(2, [(7, .int .i64)])], [], []⟩
theorem d465 (s1 : Sl) (h : Mem) (K : Value → Mem → Prop) : denF tys (cs465) (dcs465) hn465 (Go.Proofs.Tryz.f465.body.getD .skip) Go.Proofs.Tryz.f465.results.toList [(Value.slice s1.base s1.len s1.cap)] h K = slots_noughts tau s1 h fun b2 h => K (Value.bool b2) h := by delta slots_noughts; kernel_rfl
abbrev T579 := Sl → Sl → Mem → (Bool → Mem → Prop) → Prop
def c579 (f : T579) : CallP := fun vs h K => match vs with
  | [.slice s1b s1l s1c, .slice s2b s2l s2c] => f ⟨s1b, s1l, s1c⟩ ⟨s2b, s2l, s2c⟩ h fun b3 h => K (Value.bool b3) h
  | _ => False
abbrev T582 := Sl → Mem → (Mem → Prop) → Prop
def c582 (f : T582) : CallP := fun vs h K => match vs with
  | [.slice s1b s1l s1c] => f ⟨s1b, s1l, s1c⟩ h fun  h => K (Value.tuple #[]) h
  | _ => False
def cs582 : Calls' := callsT []
def dcs582 : Calls' := callsT []
def hn582 : Hints := ⟨[(1, [(2, .int .i64), (3, .int .i64)])], [(3, [0, 0, 0, 0, 0, 0, 48, 112, 0, 0, 768, 1792, 4083, 8179, 16383, 32767])], []⟩
theorem d582 (s1 : Sl) (h : Mem) (K : Value → Mem → Prop) : denF tys (cs582) (dcs582) hn582 (Go.Proofs.Tryz.f582.body.getD .skip) Go.Proofs.Tryz.f582.results.toList [(Value.slice s1.base s1.len s1.cap)] h K = slices_Reverse_api_Reg_api_Reg tau s1 h fun  h => K (Value.tuple #[]) h := by delta slices_Reverse_api_Reg_api_Reg; kernel_rfl
abbrev T581 := Sl → Int → Mem → (Mem → Prop) → Prop
def c581 (f : T581) : CallP := fun vs h K => match vs with
  | [.slice s1b s1l s1c, .int .i64 n2] => f ⟨s1b, s1l, s1c⟩ n2 h fun  h => K (Value.tuple #[]) h
  | _ => False
def cs581 (f582 : T582) : Calls' := callsT [(582, c582 f582)]
def dcs581 : Calls' := callsT []
def hn581 : Hints := ⟨[], [], []⟩
theorem d581 (s1 : Sl) (n2 : Int) (h : Mem) (K : Value → Mem → Prop) : denF tys (cs581 (slices_Reverse_api_Reg_api_Reg tau)) (dcs581) hn581 (Go.Proofs.Tryz.f581.body.getD .skip) Go.Proofs.Tryz.f581.results.toList [(Value.slice s1.base s1.len s1.cap), (Value.int .i64 n2)] h K = slices_rotateLeft_api_Reg tau s1 n2 h fun  h => K (Value.tuple #[]) h := by delta slices_rotateLeft_api_Reg; generalize slices_Reverse_api_Reg_api_Reg tau = f582; revert f582; refine keep ?_; intro f582; kernel_rfl
abbrev T580 := Sl → Int → Mem → (Mem → Prop) → Prop
def c580 (f : T580) : CallP := fun vs h K => match vs with
  | [.slice s1b s1l s1c, .int .i64 n2] => f ⟨s1b, s1l, s1c⟩ n2 h fun  h => K (Value.tuple #[]) h
  | _ => False
def cs580 (f581 : T581) : Calls' := callsT [(581, c581 f581)]
def dcs580 : Calls' := callsT []
def hn580 : Hints := ⟨[], [], []⟩
theorem d580 (s1 : Sl) (n2 : Int) (h : Mem) (K : Value → Mem → Prop) : denF tys (cs580 (slices_rotateLeft_api_Reg tau)) (dcs580) hn580 (Go.Proofs.Tryz.f580.body.getD .skip) Go.Proofs.Tryz.f580.results.toList [(Value.slice s1.base s1.len s1.cap), (Value.int .i64 n2)] h K = slices_rotateRight_api_Reg tau s1 n2 h fun  h => K (Value.tuple #[]) h := by delta slices_rotateRight_api_Reg; generalize slices_rotateLeft_api_Reg tau = f581; revert f581; refine keep ?_; intro f581; kernel_rfl
abbrev T576 := Sl → Int → Sl → Mem → (Sl → Mem → Prop) → Prop
def c576 (f : T576) : CallP := fun vs h K => match vs with
  | [.slice s1b s1l s1c, .int .i64 n2, .slice s3b s3l s3c] => f ⟨s1b, s1l, s1c⟩ n2 ⟨s3b, s3l, s3c⟩ h fun s4 h => K (Value.slice s4.base s4.len s4.cap) h
  | _ => False
def cs576 (f579 : T579) (f580 : T580) : Calls' := callsT [(579, c579 f579), (580, c580 f580)]
def dcs576 : Calls' := callsT []
def hn576 : Hints := ⟨[], [(11, [0, 0, 0, 6, 15, 0, 0, 96, 255]), (15, [0, 0, 0, 6, 15, 0, 0, 96, 255])], []⟩
theorem d576 (s1 : Sl) (n2 : Int) (s3 : Sl) (h : Mem) (K : Value → Mem → Prop) : denF tys (cs576 (slices_overlaps_api_Reg tau) (slices_rotateRight_api_Reg tau)) (dcs576) hn576 (Go.Proofs.Tryz.f576.body.getD .skip) Go.Proofs.Tryz.f576.results.toList [(Value.slice s1.base s1.len s1.cap), (Value.int .i64 n2), (Value.slice s3.base s3.len s3.cap)] h K = slices_Insert_api_Reg_api_Reg tau s1 n2 s3 h fun s4 h => K (Value.slice s4.base s4.len s4.cap) h := by delta slices_Insert_api_Reg_api_Reg; generalize slices_overlaps_api_Reg tau = f579; generalize slices_rotateRight_api_Reg tau = f580; revert f579 f580; refine keep ?_; intro f579 f580; kernel_rfl
end Go.TS.Tryz
/- The types of the seat. -/
namespace Go.TS.Tryz
open Go Go.TS
set_option linter.unusedVariables false
set_option maxRecDepth 100000
theorem hm : Go.Proofs.Tryz.prog.follows .mixedOrders = true := by kernel_rfl
theorem ty3 : TyOk Go.Proofs.Tryz.prog 3 ⟨.int .i64, (Value.int .i64 0), 1, 8, .leaf (.int .i64)⟩ := ⟨Go.Proofs.Tryz.underlying3, by kernel_rfl, by kernel_rfl, trivial⟩
theorem ty4 : TyOk Go.Proofs.Tryz.prog 4 ⟨.bool, (Value.bool false), 1, 1, .leaf (.bool)⟩ := ⟨Go.Proofs.Tryz.underlying4, by kernel_rfl, by kernel_rfl, trivial⟩
theorem ty5 : TyOk Go.Proofs.Tryz.prog 5 ⟨.int .u8, (Value.int .u8 0), 1, 1, .leaf (.int .u8)⟩ := ⟨Go.Proofs.Tryz.underlying5, by kernel_rfl, by kernel_rfl, trivial⟩
theorem ty23 : TyOk Go.Proofs.Tryz.prog 23 ⟨.slice 110, (Value.slice none 0 0), 1, 24, .leaf (.sl)⟩ := ⟨Go.Proofs.Tryz.underlying23, by kernel_rfl, by kernel_rfl, trivial⟩
theorem ty24 : TyOk Go.Proofs.Tryz.prog 24 ⟨.int .i64, (Value.int .i64 0), 1, 8, .leaf (.int .i64)⟩ := ⟨Go.Proofs.Tryz.underlying24, by kernel_rfl, by kernel_rfl, trivial⟩
theorem ty29 : TyOk Go.Proofs.Tryz.prog 29 ⟨.pointer 73, (Value.pointer none), 1, 8, .leaf (.ptr)⟩ := ⟨Go.Proofs.Tryz.underlying29, by kernel_rfl, by kernel_rfl, trivial⟩
theorem ty33 : TyOk Go.Proofs.Tryz.prog 33 ⟨.int .u64, (Value.int .u64 0), 1, 8, .leaf (.int .u64)⟩ := ⟨Go.Proofs.Tryz.underlying33, by kernel_rfl, by kernel_rfl, trivial⟩
theorem ty34 : TyOk Go.Proofs.Tryz.prog 34 ⟨.slice 5, (Value.slice none 0 0), 1, 24, .leaf (.sl)⟩ := ⟨Go.Proofs.Tryz.underlying34, by kernel_rfl, by kernel_rfl, trivial⟩
theorem ty35 : TyOk Go.Proofs.Tryz.prog 35 ⟨.slice 34, (Value.slice none 0 0), 1, 24, .leaf (.sl)⟩ := ⟨Go.Proofs.Tryz.underlying35, by kernel_rfl, by kernel_rfl, trivial⟩
theorem ty69 : TyOk Go.Proofs.Tryz.prog 69 ⟨.map 3 34, (Value.map none), 1, 8, .leaf (.map)⟩ := ⟨Go.Proofs.Tryz.underlying69, by kernel_rfl, by kernel_rfl, trivial⟩
theorem ty70 : TyOk Go.Proofs.Tryz.prog 70 ⟨.slice 3, (Value.slice none 0 0), 1, 24, .leaf (.sl)⟩ := ⟨Go.Proofs.Tryz.underlying70, by kernel_rfl, by kernel_rfl, trivial⟩
theorem ty71 : TyOk Go.Proofs.Tryz.prog 71 ⟨.pointer 3, (Value.pointer none), 1, 8, .leaf (.ptr)⟩ := ⟨Go.Proofs.Tryz.underlying71, by kernel_rfl, by kernel_rfl, trivial⟩
theorem ty73 : TyOk Go.Proofs.Tryz.prog 73 ⟨.struct #[⟨ "b", 34, 0, false, "", "tallyman/sector", 0⟩, ⟨ "cache", 69, 1, false, "", "tallyman/sector", 24⟩, ⟨ "order", 70, 2, false, "", "tallyman/sector", 32⟩, ⟨ "left", 71, 3, false, "", "tallyman/sector", 56⟩], (Value.agg #[(Value.slice none 0 0), (Value.map none), (Value.slice none 0 0), (Value.pointer none)]), 4, 64, .agg [.sl, .map, .sl, .ptr]⟩ := ⟨Go.Proofs.Tryz.underlying73, by kernel_rfl, by kernel_rfl, ⟨by kernel_rfl, by kernel_rfl⟩⟩
theorem ty99 : TyOk Go.Proofs.Tryz.prog 99 ⟨.slice 291, (Value.slice none 0 0), 1, 24, .leaf (.sl)⟩ := ⟨Go.Proofs.Tryz.underlying99, by kernel_rfl, by kernel_rfl, trivial⟩
theorem ty110 : TyOk Go.Proofs.Tryz.prog 110 ⟨.struct #[⟨ "Name", 34, 0, false, "", "", 0⟩, ⟨ "Sketch", 106, 1, false, "", "", 24⟩], (Value.agg #[(Value.slice none 0 0), (Value.int .i64 0), (Value.int .i64 0), (Value.slice none 0 0), (Value.int .i64 0), (Value.slice none 0 0), (Value.int .u64 0)]), 7, 104, .agg [.sl, .int .i64, .int .i64, .sl, .int .i64, .sl, .int .u64]⟩ := ⟨Go.Proofs.Tryz.underlying110, by kernel_rfl, by kernel_rfl, ⟨by kernel_rfl, by kernel_rfl⟩⟩
theorem ty170 : TyOk Go.Proofs.Tryz.prog 170 ⟨.slice 176, (Value.slice none 0 0), 1, 24, .leaf (.sl)⟩ := ⟨Go.Proofs.Tryz.underlying170, by kernel_rfl, by kernel_rfl, trivial⟩
theorem ty174 : TyOk Go.Proofs.Tryz.prog 174 ⟨.struct #[⟨ "Page", 3, 0, false, "", "", 0⟩, ⟨ "Slot", 3, 1, false, "", "", 8⟩], (Value.agg #[(Value.int .i64 0), (Value.int .i64 0)]), 2, 16, .agg [.int .i64, .int .i64]⟩ := ⟨Go.Proofs.Tryz.underlying174, by kernel_rfl, by kernel_rfl, ⟨by kernel_rfl, by kernel_rfl⟩⟩
theorem ty176 : TyOk Go.Proofs.Tryz.prog 176 ⟨.struct #[⟨ "Hash", 33, 0, false, "", "", 0⟩, ⟨ "Place", 174, 1, false, "", "", 8⟩], (Value.agg #[(Value.int .u64 0), (Value.int .i64 0), (Value.int .i64 0)]), 3, 24, .agg [.int .u64, .int .i64, .int .i64]⟩ := ⟨Go.Proofs.Tryz.underlying176, by kernel_rfl, by kernel_rfl, ⟨by kernel_rfl, by kernel_rfl⟩⟩
theorem ty272 : TyOk Go.Proofs.Tryz.prog 272 ⟨.struct #[⟨ "Next", 3, 0, false, "", "", 0⟩, ⟨ "Refs", 170, 1, false, "", "", 8⟩], (Value.agg #[(Value.int .i64 0), (Value.slice none 0 0)]), 2, 32, .agg [.int .i64, .sl]⟩ := ⟨Go.Proofs.Tryz.underlying272, by kernel_rfl, by kernel_rfl, ⟨by kernel_rfl, by kernel_rfl⟩⟩
theorem ty281 : TyOk Go.Proofs.Tryz.prog 281 ⟨.int .u32, (Value.int .u32 0), 1, 4, .leaf (.int .u32)⟩ := ⟨Go.Proofs.Tryz.underlying281, by kernel_rfl, by kernel_rfl, trivial⟩
theorem ty283 : TyOk Go.Proofs.Tryz.prog 283 ⟨.struct #[⟨ "Kind", 3, 0, false, "", "", 0⟩, ⟨ "Number", 281, 1, false, "", "", 8⟩, ⟨ "Body", 34, 2, false, "", "", 16⟩], (Value.agg #[(Value.int .i64 0), (Value.int .u32 0), (Value.slice none 0 0)]), 3, 40, .agg [.int .i64, .int .u32, .sl]⟩ := ⟨Go.Proofs.Tryz.underlying283, by kernel_rfl, by kernel_rfl, ⟨by kernel_rfl, by kernel_rfl⟩⟩
theorem ty286 : TyOk Go.Proofs.Tryz.prog 286 ⟨.pointer 420, (Value.pointer none), 1, 8, .leaf (.ptr)⟩ := ⟨Go.Proofs.Tryz.underlying286, by kernel_rfl, by kernel_rfl, trivial⟩
theorem ty291 : TyOk Go.Proofs.Tryz.prog 291 ⟨.struct #[⟨ "Index", 3, 0, false, "", "", 0⟩, ⟨ "Rank", 3, 1, false, "", "", 8⟩], (Value.agg #[(Value.int .i64 0), (Value.int .i64 0)]), 2, 16, .agg [.int .i64, .int .i64]⟩ := ⟨Go.Proofs.Tryz.underlying291, by kernel_rfl, by kernel_rfl, ⟨by kernel_rfl, by kernel_rfl⟩⟩
theorem ty382 : TyOk Go.Proofs.Tryz.prog 382 ⟨.slice 70, (Value.slice none 0 0), 1, 24, .leaf (.sl)⟩ := ⟨Go.Proofs.Tryz.underlying382, by kernel_rfl, by kernel_rfl, trivial⟩
theorem ty420 : TyOk Go.Proofs.Tryz.prog 420 ⟨.struct #[⟨ "b", 34, 0, false, "", "tallyman/octet", 0⟩, ⟨ "at", 3, 1, false, "", "tallyman/octet", 24⟩, ⟨ "err", 24, 2, false, "", "tallyman/octet", 32⟩, ⟨ "is", 4, 3, false, "", "tallyman/octet", 40⟩], (Value.agg #[(Value.slice none 0 0), (Value.int .i64 0), (Value.int .i64 0), (Value.bool false)]), 4, 48, .agg [.sl, .int .i64, .int .i64, .bool]⟩ := ⟨Go.Proofs.Tryz.underlying420, by kernel_rfl, by kernel_rfl, ⟨by kernel_rfl, by kernel_rfl⟩⟩
theorem ty594 : TyOk Go.Proofs.Tryz.prog 594 ⟨.array 256 281, (Value.agg (Array.replicate 256 (Value.int .u32 0))), 256, 1024, .arr 256⟩ := ⟨Go.Proofs.Tryz.underlying594, by kernel_rfl, by kernel_rfl, trivial⟩
theorem tysOk : TysOk Go.Proofs.Tryz.prog tys := tysOk_of (.cons ty3 (.cons ty4 (.cons ty5 (.cons ty23 (.cons ty24 (.cons ty29 (.cons ty33 (.cons ty34 (.cons ty35 (.cons ty69 (.cons ty70 (.cons ty71 (.cons ty73 (.cons ty99 (.cons ty110 (.cons ty170 (.cons ty174 (.cons ty176 (.cons ty272 (.cons ty281 (.cons ty283 (.cons ty286 (.cons ty291 (.cons ty382 (.cons ty420 (.cons ty594 (.nil)))))))))))))))))))))))))))
end Go.TS.Tryz
/- The layer 'TS': soundness of what the printer does not print. -/
namespace Go.TS
open Go
theorem overlaps_gives {P : Program} {f : FuncId} {fn : Func} {tS tR e : TypeId} {τ : Nat → Nat} {sz : Nat} (hf : P.funcs[f]? = some fn) (hname : (fn.name == "runtime.NumGoroutine") = false)
    (hb : fn.body.isNone = true) (hn : Extern.findNext fn = none) (he : Extern.find fn = some (Extern.SlicesOverlaps.overlaps #[tS, tS] #[tR])) (ht : P.underlying tS = some (.slice e))
    (hz : ∀ w, (Go.sizeOf e).run P w = .ok sz w) {s1 s2 : Sl} {w : World} {K : Value → Mem → Prop} (h : slices_overlaps_int τ s1 s2 w.heap fun b h => K (.bool b) h) :
    ∃ v w', (callFunc f [Value.slice s1.base s1.len s1.cap, Value.slice s2.base s2.len s2.cap].toArray).run P w = .ok (.value v) w' ∧ K v w'.heap ∧ Same w w' := by
  obtain ⟨a, b, c, e1, c', e2, ha, hb', hne, h1, h2, h0, hK⟩ := h
  refine ⟨.bool false, w, ?_, hK, Same.refl w⟩
  rw [run_callFunc_extern hf hname hb hn he, ha, hb']
  have hs1 : w.shape? a.block = some (e1, c.size) := by simp [World.shape?, h1]
  have hs2 : w.shape? b.block = some (e2, c'.size) := by simp [World.shape?, h2]
  have hf1 : w.frozen? a = false := by simp [World.frozen?, h1]
  have hf2 : w.frozen? { block := a.block, off := c.size } = false := by simp [World.frozen?, h1]
  have := Lib.run_overlaps_apart (P := P) w tS tR e ht sz hz a b s1.len s1.cap s2.len s2.cap hne e1 e2 c.size c'.size hs1 hs2 h0 hf1 hf2
  rw [this]
  rfl
end Go.TS
/- What the printer does not print. -/
namespace Go.TS.Tryz
open Go Go.TS
set_option linter.unusedVariables false
set_option maxRecDepth 100000
theorem s462 : SoundX Go.Proofs.Tryz.prog 462 (c462 (slices_overlaps_api_Pair tau)) := ⟨fun vs w K h => by
  simp only [c462] at h
  split at h
  · rename_i s1b s1l s1c s2b s2l s2c; exact overlaps_gives (tR := 0) (s1 := ⟨s1b, s1l, s1c⟩) (s2 := ⟨s2b, s2l, s2c⟩) Go.Proofs.Tryz.func462 (by kernel_rfl) (by kernel_rfl) (by kernel_rfl) (by kernel_rfl) Go.Proofs.Tryz.underlying23 Go.Proofs.Tryz.sizeOf110 h
  · exact h.elim⟩
theorem s467 : SoundX Go.Proofs.Tryz.prog 467 (c467 (slices_overlaps_api_Ref tau)) := ⟨fun vs w K h => by
  simp only [c467] at h
  split at h
  · rename_i s1b s1l s1c s2b s2l s2c; exact overlaps_gives (tR := 0) (s1 := ⟨s1b, s1l, s1c⟩) (s2 := ⟨s2b, s2l, s2c⟩) Go.Proofs.Tryz.func467 (by kernel_rfl) (by kernel_rfl) (by kernel_rfl) (by kernel_rfl) Go.Proofs.Tryz.underlying170 Go.Proofs.Tryz.sizeOf176 h
  · exact h.elim⟩
theorem s475 : SoundX Go.Proofs.Tryz.prog 475 (c475 (slices_overlaps_int tau)) := ⟨fun vs w K h => by
  simp only [c475] at h
  split at h
  · rename_i s1b s1l s1c s2b s2l s2c; exact overlaps_gives (tR := 0) (s1 := ⟨s1b, s1l, s1c⟩) (s2 := ⟨s2b, s2l, s2c⟩) Go.Proofs.Tryz.func475 (by kernel_rfl) (by kernel_rfl) (by kernel_rfl) (by kernel_rfl) Go.Proofs.Tryz.underlying70 Go.Proofs.Tryz.sizeOf3 h
  · exact h.elim⟩
theorem s579 : SoundX Go.Proofs.Tryz.prog 579 (c579 (slices_overlaps_api_Reg tau)) := ⟨fun vs w K h => by
  simp only [c579] at h
  split at h
  · rename_i s1b s1l s1c s2b s2l s2c; exact overlaps_gives (tR := 0) (s1 := ⟨s1b, s1l, s1c⟩) (s2 := ⟨s2b, s2l, s2c⟩) Go.Proofs.Tryz.func579 (by kernel_rfl) (by kernel_rfl) (by kernel_rfl) (by kernel_rfl) Go.Proofs.Tryz.underlying99 Go.Proofs.Tryz.sizeOf291 h
  · exact h.elim⟩
end Go.TS.Tryz
/- Each function does what it asks. -/
namespace Go.TS.Tryz
open Go Go.TS
set_option linter.unusedVariables false
set_option maxRecDepth 100000
theorem ok62 : codeOk hn62 Go.Proofs.Tryz.f62.ntmps (Go.Proofs.Tryz.f62.body.getD .skip) = true := by kernel_rfl
theorem s62 : Sound Go.Proofs.Tryz.prog 62 (c62 (slices_Clone_byte_byte tau)) := by
  refine ⟨Go.Proofs.Tryz.call62, fun vs w K h => ?_⟩
  simp only [c62] at h
  split at h
  · rename_i s1b s1l s1c; exact denF_calls hm tysOk (callsOk_of (.nil)) (defsOk_of (.nil)) Go.Proofs.Tryz.func62 (by kernel_rfl) ok62 (Nat.le_of_ble_eq_true (by kernel_rfl)) ((d62 (⟨s1b, s1l, s1c⟩) _ _).mpr h)
  · exact h.elim
theorem ok28 : codeOk hn28 Go.Proofs.Tryz.f28.ntmps (Go.Proofs.Tryz.f28.body.getD .skip) = true := by kernel_rfl
theorem s28 : Sound Go.Proofs.Tryz.prog 28 (c28 (sector_Disk_made tau)) := by
  refine ⟨Go.Proofs.Tryz.call28, fun vs w K h => ?_⟩
  simp only [c28] at h
  split at h
  · rename_i p1; exact denF_calls hm tysOk (callsOk_of (.nil)) (defsOk_of (.nil)) Go.Proofs.Tryz.func28 (by kernel_rfl) ok28 (Nat.le_of_ble_eq_true (by kernel_rfl)) ((d28 p1 _ _).mpr h)
  · exact h.elim
theorem ok144 : codeOk hn144 Go.Proofs.Tryz.f144.ntmps (Go.Proofs.Tryz.f144.body.getD .skip) = true := by kernel_rfl
theorem s144 : Sound Go.Proofs.Tryz.prog 144 (c144 (sector_Disk_Sectors tau)) := by
  refine ⟨Go.Proofs.Tryz.call144, fun vs w K h => ?_⟩
  simp only [c144] at h
  split at h
  · rename_i p1; exact denF_calls hm tysOk (callsOk_of (.cons s28 (.nil))) (defsOk_of (.nil)) Go.Proofs.Tryz.func144 (by kernel_rfl) ok144 (Nat.le_of_ble_eq_true (by kernel_rfl)) ((d144 p1 _ _).mpr h)
  · exact h.elim
theorem ok250 : codeOk hn250 Go.Proofs.Tryz.f250.ntmps (Go.Proofs.Tryz.f250.body.getD .skip) = true := by kernel_rfl
theorem s250 : Sound Go.Proofs.Tryz.prog 250 (c250 (slices_Grow_int_int tau)) := by
  refine ⟨Go.Proofs.Tryz.call250, fun vs w K h => ?_⟩
  simp only [c250] at h
  split at h
  · rename_i s1b s1l s1c n2; exact denF_calls hm tysOk (callsOk_of (.nil)) (defsOk_of (.nil)) Go.Proofs.Tryz.func250 (by kernel_rfl) ok250 (Nat.le_of_ble_eq_true (by kernel_rfl)) ((d250 (⟨s1b, s1l, s1c⟩) n2 _ _).mpr h)
  · exact h.elim
theorem ok152 : codeOk hn152 Go.Proofs.Tryz.f152.ntmps (Go.Proofs.Tryz.f152.body.getD .skip) = true := by kernel_rfl
theorem s152 : Sound Go.Proofs.Tryz.prog 152 (c152 (slices_Concat_int_int tau)) := by
  refine ⟨Go.Proofs.Tryz.call152, fun vs w K h => ?_⟩
  simp only [c152] at h
  split at h
  · rename_i s1b s1l s1c; exact denF_calls hm tysOk (callsOk_of (.cons s250 (.nil))) (defsOk_of (.nil)) Go.Proofs.Tryz.func152 (by kernel_rfl) ok152 (Nat.le_of_ble_eq_true (by kernel_rfl)) ((d152 (⟨s1b, s1l, s1c⟩) _ _).mpr h)
  · exact h.elim
theorem ok97 : codeOk hn97 Go.Proofs.Tryz.f97.ntmps (Go.Proofs.Tryz.f97.body.getD .skip) = true := by kernel_rfl
theorem s97 : Sound Go.Proofs.Tryz.prog 97 (c97 (sector_Disk_sector tau)) := by
  refine ⟨Go.Proofs.Tryz.call97, fun vs w K h => ?_⟩
  simp only [c97] at h
  split at h
  · rename_i p1 n2; exact denF_calls hm tysOk (callsOk_of (.nil)) (defsOk_of (.nil)) Go.Proofs.Tryz.func97 (by kernel_rfl) ok97 (Nat.le_of_ble_eq_true (by kernel_rfl)) ((d97 p1 n2 _ _).mpr h)
  · exact h.elim
theorem ok268 : codeOk hn268 Go.Proofs.Tryz.f268.ntmps (Go.Proofs.Tryz.f268.body.getD .skip) = true := by kernel_rfl
theorem s268 : Sound Go.Proofs.Tryz.prog 268 (c268 (sector_Disk_fails tau)) := by
  refine ⟨Go.Proofs.Tryz.call268, fun vs w K h => ?_⟩
  simp only [c268] at h
  split at h
  · rename_i p1; exact denF_calls hm tysOk (callsOk_of (.nil)) (defsOk_of (.nil)) Go.Proofs.Tryz.func268 (by kernel_rfl) ok268 (Nat.le_of_ble_eq_true (by kernel_rfl)) ((d268 p1 _ _).mpr h)
  · exact h.elim
theorem ok168 : codeOk hn168 Go.Proofs.Tryz.f168.ntmps (Go.Proofs.Tryz.f168.body.getD .skip) = true := by kernel_rfl
theorem s168 : Sound Go.Proofs.Tryz.prog 168 (c168 (sector_Disk_Flush tau)) := by
  refine ⟨Go.Proofs.Tryz.call168, fun vs w K h => ?_⟩
  simp only [c168] at h
  split at h
  · rename_i p1; exact denF_calls hm tysOk (callsOk_of (.cons s28 (.cons s97 (.cons s268 (.nil))))) (defsOk_of (.nil)) Go.Proofs.Tryz.func168 (by kernel_rfl) ok168 (Nat.le_of_ble_eq_true (by kernel_rfl)) ((d168 p1 _ _).mpr h)
  · exact h.elim
theorem ok181 : codeOk hn181 Go.Proofs.Tryz.f181.ntmps (Go.Proofs.Tryz.f181.body.getD .skip) = true := by kernel_rfl
theorem s181 : Sound Go.Proofs.Tryz.prog 181 (c181 (octet_New tau)) := by
  refine ⟨Go.Proofs.Tryz.call181, fun vs w K h => ?_⟩
  simp only [c181] at h
  split at h
  · rename_i s1b s1l s1c; exact denF_calls hm tysOk (callsOk_of (.cons s62 (.nil))) (defsOk_of (.nil)) Go.Proofs.Tryz.func181 (by kernel_rfl) ok181 (Nat.le_of_ble_eq_true (by kernel_rfl)) ((d181 (⟨s1b, s1l, s1c⟩) _ _).mpr h)
  · exact h.elim
theorem ok290 : codeOk hn290 Go.Proofs.Tryz.f290.ntmps (Go.Proofs.Tryz.f290.body.getD .skip) = true := by kernel_rfl
theorem s290 : Sound Go.Proofs.Tryz.prog 290 (c290 (octet_Reader_made tau)) := by
  refine ⟨Go.Proofs.Tryz.call290, fun vs w K h => ?_⟩
  simp only [c290] at h
  split at h
  · rename_i p1; exact denF_calls hm tysOk (callsOk_of (.nil)) (defsOk_of (.nil)) Go.Proofs.Tryz.func290 (by kernel_rfl) ok290 (Nat.le_of_ble_eq_true (by kernel_rfl)) ((d290 p1 _ _).mpr h)
  · exact h.elim
theorem ok287 : codeOk hn287 Go.Proofs.Tryz.f287.ntmps (Go.Proofs.Tryz.f287.body.getD .skip) = true := by kernel_rfl
theorem s287 : Sound Go.Proofs.Tryz.prog 287 (c287 (octet_Reader_ready tau)) := by
  refine ⟨Go.Proofs.Tryz.call287, fun vs w K h => ?_⟩
  simp only [c287] at h
  split at h
  · rename_i p1; exact denF_calls hm tysOk (callsOk_of (.cons s290 (.nil))) (defsOk_of (.nil)) Go.Proofs.Tryz.func287 (by kernel_rfl) ok287 (Nat.le_of_ble_eq_true (by kernel_rfl)) ((d287 p1 _ _).mpr h)
  · exact h.elim
theorem ok288 : codeOk hn288 Go.Proofs.Tryz.f288.ntmps (Go.Proofs.Tryz.f288.body.getD .skip) = true := by kernel_rfl
theorem s288 : Sound Go.Proofs.Tryz.prog 288 (c288 (octet_Reader_fail tau)) := by
  refine ⟨Go.Proofs.Tryz.call288, fun vs w K h => ?_⟩
  simp only [c288] at h
  split at h
  · rename_i p1 n2; exact denF_calls hm tysOk (callsOk_of (.nil)) (defsOk_of (.nil)) Go.Proofs.Tryz.func288 (by kernel_rfl) ok288 (Nat.le_of_ble_eq_true (by kernel_rfl)) ((d288 p1 n2 _ _).mpr h)
  · exact h.elim
theorem ok184 : codeOk hn184 Go.Proofs.Tryz.f184.ntmps (Go.Proofs.Tryz.f184.body.getD .skip) = true := by kernel_rfl
theorem s184 : Sound Go.Proofs.Tryz.prog 184 (c184 (octet_Reader_Fixed tau)) := by
  refine ⟨Go.Proofs.Tryz.call184, fun vs w K h => ?_⟩
  simp only [c184] at h
  split at h
  · rename_i p1 n2; exact denF_calls hm tysOk (callsOk_of (.cons s287 (.cons s288 (.nil)))) (defsOk_of (.nil)) Go.Proofs.Tryz.func184 (by kernel_rfl) ok184 (Nat.le_of_ble_eq_true (by kernel_rfl)) ((d184 p1 n2 _ _).mpr h)
  · exact h.elim
theorem ok182 : codeOk hn182 Go.Proofs.Tryz.f182.ntmps (Go.Proofs.Tryz.f182.body.getD .skip) = true := by kernel_rfl
theorem s182 : Sound Go.Proofs.Tryz.prog 182 (c182 (octet_Reader_Word tau)) := by
  refine ⟨Go.Proofs.Tryz.call182, fun vs w K h => ?_⟩
  simp only [c182] at h
  split at h
  · rename_i p1 n2; exact denF_calls hm tysOk (callsOk_of (.cons s184 (.cons s287 (.cons s288 (.nil))))) (defsOk_of (.nil)) Go.Proofs.Tryz.func182 (by kernel_rfl) ok182 (Nat.le_of_ble_eq_true (by kernel_rfl)) ((d182 p1 n2 _ _).mpr h)
  · exact h.elim
theorem ok209 : codeOk hn209 Go.Proofs.Tryz.f209.ntmps (Go.Proofs.Tryz.f209.body.getD .skip) = true := by kernel_rfl
theorem s209 : Sound Go.Proofs.Tryz.prog 209 (c209 (slices_Delete_api_Pair_api_Pair tau)) := by
  refine ⟨Go.Proofs.Tryz.call209, fun vs w K h => ?_⟩
  simp only [c209] at h
  split at h
  · rename_i s1b s1l s1c n2 n3; exact denF_calls hm tysOk (callsOk_of (.nil)) (defsOk_of (.nil)) Go.Proofs.Tryz.func209 (by kernel_rfl) ok209 (Nat.le_of_ble_eq_true (by kernel_rfl)) ((d209 (⟨s1b, s1l, s1c⟩) n2 n3 _ _).mpr h)
  · exact h.elim
theorem ok253 : codeOk hn253 Go.Proofs.Tryz.f253.ntmps (Go.Proofs.Tryz.f253.body.getD .skip) = true := by kernel_rfl
theorem s253 : Sound Go.Proofs.Tryz.prog 253 (c253 (slices_Clone_int_int tau)) := by
  refine ⟨Go.Proofs.Tryz.call253, fun vs w K h => ?_⟩
  simp only [c253] at h
  split at h
  · rename_i s1b s1l s1c; exact denF_calls hm tysOk (callsOk_of (.nil)) (defsOk_of (.nil)) Go.Proofs.Tryz.func253 (by kernel_rfl) ok253 (Nat.le_of_ble_eq_true (by kernel_rfl)) ((d253 (⟨s1b, s1l, s1c⟩) _ _).mpr h)
  · exact h.elim
theorem ok261 : codeOk hn261 Go.Proofs.Tryz.f261.ntmps (Go.Proofs.Tryz.f261.body.getD .skip) = true := by kernel_rfl
theorem s261 : Sound Go.Proofs.Tryz.prog 261 (c261 (octet_Number tau)) := by
  refine ⟨Go.Proofs.Tryz.call261, fun vs w K h => ?_⟩
  simp only [c261] at h
  split at h
  · rename_i s1b s1l s1c n2; exact denF_calls hm tysOk (callsOk_of (.cons s62 (.nil))) (defsOk_of (.nil)) Go.Proofs.Tryz.func261 (by kernel_rfl) ok261 (Nat.le_of_ble_eq_true (by kernel_rfl)) ((d261 (⟨s1b, s1l, s1c⟩) n2 _ _).mpr h)
  · exact h.elim
theorem ok439 : codeOk hn439 Go.Proofs.Tryz.f439.ntmps (Go.Proofs.Tryz.f439.body.getD .skip) = true := by kernel_rfl
theorem s439 : Sound Go.Proofs.Tryz.prog 439 (c439 (slices_Grow_byte_byte tau)) := by
  refine ⟨Go.Proofs.Tryz.call439, fun vs w K h => ?_⟩
  simp only [c439] at h
  split at h
  · rename_i s1b s1l s1c n2; exact denF_calls hm tysOk (callsOk_of (.nil)) (defsOk_of (.nil)) Go.Proofs.Tryz.func439 (by kernel_rfl) ok439 (Nat.le_of_ble_eq_true (by kernel_rfl)) ((d439 (⟨s1b, s1l, s1c⟩) n2 _ _).mpr h)
  · exact h.elim
theorem ok361 : codeOk hn361 Go.Proofs.Tryz.f361.ntmps (Go.Proofs.Tryz.f361.body.getD .skip) = true := by kernel_rfl
theorem s361 : Sound Go.Proofs.Tryz.prog 361 (c361 (slices_Concat_byte_byte tau)) := by
  refine ⟨Go.Proofs.Tryz.call361, fun vs w K h => ?_⟩
  simp only [c361] at h
  split at h
  · rename_i s1b s1l s1c; exact denF_calls hm tysOk (callsOk_of (.cons s439 (.nil))) (defsOk_of (.nil)) Go.Proofs.Tryz.func361 (by kernel_rfl) ok361 (Nat.le_of_ble_eq_true (by kernel_rfl)) ((d361 (⟨s1b, s1l, s1c⟩) _ _).mpr h)
  · exact h.elim
theorem ok263 : codeOk hn263 Go.Proofs.Tryz.f263.ntmps (Go.Proofs.Tryz.f263.body.getD .skip) = true := by kernel_rfl
theorem s263 : Sound Go.Proofs.Tryz.prog 263 (c263 (octet_Word tau)) := by
  refine ⟨Go.Proofs.Tryz.call263, fun vs w K h => ?_⟩
  simp only [c263] at h
  split at h
  · rename_i s1b s1l s1c n2 n3; exact denF_calls hm tysOk (callsOk_of (.cons s62 (.cons s361 (.nil)))) (defsOk_of (.nil)) Go.Proofs.Tryz.func263 (by kernel_rfl) ok263 (Nat.le_of_ble_eq_true (by kernel_rfl)) ((d263 (⟨s1b, s1l, s1c⟩) n2 n3 _ _).mpr h)
  · exact h.elim
theorem ok270 : codeOk hn270 Go.Proofs.Tryz.f270.ntmps (Go.Proofs.Tryz.f270.body.getD .skip) = true := by kernel_rfl
theorem s270 : Sound Go.Proofs.Tryz.prog 270 (c270 (index_Load_1 tau)) := by
  refine ⟨Go.Proofs.Tryz.call270, fun vs w K h => ?_⟩
  simp only [c270] at h
  split at h
  · rename_i n1; exact denF_calls hm tysOk (callsOk_of (.nil)) (defsOk_of (.nil)) Go.Proofs.Tryz.func270 (by kernel_rfl) ok270 (Nat.le_of_ble_eq_true (by kernel_rfl)) ((d270 n1 _ _).mpr h)
  · exact h.elim
theorem ok185 : codeOk hn185 Go.Proofs.Tryz.f185.ntmps (Go.Proofs.Tryz.f185.body.getD .skip) = true := by kernel_rfl
theorem s185 : Sound Go.Proofs.Tryz.prog 185 (c185 (octet_Reader_Err tau)) := by
  refine ⟨Go.Proofs.Tryz.call185, fun vs w K h => ?_⟩
  simp only [c185] at h
  split at h
  · rename_i p1; exact denF_calls hm tysOk (callsOk_of (.cons s290 (.nil))) (defsOk_of (.nil)) Go.Proofs.Tryz.func185 (by kernel_rfl) ok185 (Nat.le_of_ble_eq_true (by kernel_rfl)) ((d185 p1 _ _).mpr h)
  · exact h.elim
theorem ok291 : codeOk hn291 Go.Proofs.Tryz.f291.ntmps (Go.Proofs.Tryz.f291.body.getD .skip) = true := by kernel_rfl
theorem s291 : Sound Go.Proofs.Tryz.prog 291 (c291 (octet_Reader_Left tau)) := by
  refine ⟨Go.Proofs.Tryz.call291, fun vs w K h => ?_⟩
  simp only [c291] at h
  split at h
  · rename_i p1; exact denF_calls hm tysOk (callsOk_of (.cons s290 (.nil))) (defsOk_of (.nil)) Go.Proofs.Tryz.func291 (by kernel_rfl) ok291 (Nat.le_of_ble_eq_true (by kernel_rfl)) ((d291 p1 _ _).mpr h)
  · exact h.elim
theorem ok420 : codeOk hn420 Go.Proofs.Tryz.f420.ntmps (Go.Proofs.Tryz.f420.body.getD .skip) = true := by kernel_rfl
theorem s420 : Sound Go.Proofs.Tryz.prog 420 (c420 (bucket_may tau)) := by
  refine ⟨Go.Proofs.Tryz.call420, fun vs w K h => ?_⟩
  simp only [c420] at h
  split at h
  · rename_i n1 n2; exact denF_calls hm tysOk (callsOk_of (.nil)) (defsOk_of (.nil)) Go.Proofs.Tryz.func420 (by kernel_rfl) ok420 (Nat.le_of_ble_eq_true (by kernel_rfl)) ((d420 n1 n2 _ _).mpr h)
  · exact h.elim
theorem ok478 : codeOk hn478 Go.Proofs.Tryz.f478.ntmps (Go.Proofs.Tryz.f478.body.getD .skip) = true := by kernel_rfl
theorem s478 : Sound Go.Proofs.Tryz.prog 478 (c478 (cmp_Or_int tau)) := by
  refine ⟨Go.Proofs.Tryz.call478, fun vs w K h => ?_⟩
  simp only [c478] at h
  split at h
  · rename_i s1b s1l s1c; exact denF_calls hm tysOk (callsOk_of (.nil)) (defsOk_of (.nil)) Go.Proofs.Tryz.func478 (by kernel_rfl) ok478 (Nat.le_of_ble_eq_true (by kernel_rfl)) ((d478 (⟨s1b, s1l, s1c⟩) _ _).mpr h)
  · exact h.elim
theorem ok464 : codeOk hn464 Go.Proofs.Tryz.f464.ntmps (Go.Proofs.Tryz.f464.body.getD .skip) = true := by kernel_rfl
theorem s464 : Sound Go.Proofs.Tryz.prog 464 (c464 (cmp_isNaN_uint64 tau)) := by
  refine ⟨Go.Proofs.Tryz.call464, fun vs w K h => ?_⟩
  simp only [c464] at h
  split at h
  · rename_i n1; exact denF_calls hm tysOk (callsOk_of (.nil)) (defsOk_of (.nil)) Go.Proofs.Tryz.func464 (by kernel_rfl) ok464 (Nat.le_of_ble_eq_true (by kernel_rfl)) ((d464 n1 _ _).mpr h)
  · exact h.elim
theorem ok479 : codeOk hn479 Go.Proofs.Tryz.f479.ntmps (Go.Proofs.Tryz.f479.body.getD .skip) = true := by kernel_rfl
theorem s479 : Sound Go.Proofs.Tryz.prog 479 (c479 (cmp_Compare_uint64 tau)) := by
  refine ⟨Go.Proofs.Tryz.call479, fun vs w K h => ?_⟩
  simp only [c479] at h
  split at h
  · rename_i n1 n2; exact denF_calls hm tysOk (callsOk_of (.cons s464 (.nil))) (defsOk_of (.nil)) Go.Proofs.Tryz.func479 (by kernel_rfl) ok479 (Nat.le_of_ble_eq_true (by kernel_rfl)) ((d479 n1 n2 _ _).mpr h)
  · exact h.elim
theorem ok436 : codeOk hn436 Go.Proofs.Tryz.f436.ntmps (Go.Proofs.Tryz.f436.body.getD .skip) = true := by kernel_rfl
theorem s436 : Sound Go.Proofs.Tryz.prog 436 (c436 (cmp_isNaN_int tau)) := by
  refine ⟨Go.Proofs.Tryz.call436, fun vs w K h => ?_⟩
  simp only [c436] at h
  split at h
  · rename_i n1; exact denF_calls hm tysOk (callsOk_of (.nil)) (defsOk_of (.nil)) Go.Proofs.Tryz.func436 (by kernel_rfl) ok436 (Nat.le_of_ble_eq_true (by kernel_rfl)) ((d436 n1 _ _).mpr h)
  · exact h.elim
theorem ok480 : codeOk hn480 Go.Proofs.Tryz.f480.ntmps (Go.Proofs.Tryz.f480.body.getD .skip) = true := by kernel_rfl
theorem s480 : Sound Go.Proofs.Tryz.prog 480 (c480 (cmp_Compare_int tau)) := by
  refine ⟨Go.Proofs.Tryz.call480, fun vs w K h => ?_⟩
  simp only [c480] at h
  split at h
  · rename_i n1 n2; exact denF_calls hm tysOk (callsOk_of (.cons s436 (.nil))) (defsOk_of (.nil)) Go.Proofs.Tryz.func480 (by kernel_rfl) ok480 (Nat.le_of_ble_eq_true (by kernel_rfl)) ((d480 n1 n2 _ _).mpr h)
  · exact h.elim
theorem ok444 : codeOk hn444 Go.Proofs.Tryz.f444.ntmps (Go.Proofs.Tryz.f444.body.getD .skip) = true := by kernel_rfl
theorem s444 : Sound Go.Proofs.Tryz.prog 444 (c444 (bucket_Compare tau)) := by
  refine ⟨Go.Proofs.Tryz.call444, fun vs w K h => ?_⟩
  simp only [c444] at h
  split at h
  · rename_i n1 n2 n3 n4 n5 n6; exact denF_calls hm tysOk (callsOk_of (.cons s478 (.cons s479 (.cons s480 (.nil))))) (defsOk_of (.nil)) Go.Proofs.Tryz.func444 (by kernel_rfl) ok444 (Nat.le_of_ble_eq_true (by kernel_rfl)) ((d444 n1 n2 n3 n4 n5 n6 _ _).mpr h)
  · exact h.elim
theorem ok377 : codeOk hn377 Go.Proofs.Tryz.f377.ntmps (Go.Proofs.Tryz.f377.body.getD .skip) = true := by kernel_rfl
theorem s377 : Sound Go.Proofs.Tryz.prog 377 (c377 (bucket_Check tau)) := by
  refine ⟨Go.Proofs.Tryz.call377, fun vs w K h => ?_⟩
  simp only [c377] at h
  split at h
  · rename_i n1 s2b s2l s2c; exact denF_calls hm tysOk (callsOk_of (.cons s420 (.cons s444 (.nil)))) (defsOk_of (.nil)) Go.Proofs.Tryz.func377 (by kernel_rfl) ok377 (Nat.le_of_ble_eq_true (by kernel_rfl)) ((d377 n1 (⟨s2b, s2l, s2c⟩) _ _).mpr h)
  · exact h.elim
theorem ok338 : codeOk hn338 Go.Proofs.Tryz.f338.ntmps (Go.Proofs.Tryz.f338.body.getD .skip) = true := by kernel_rfl
theorem s338 : Sound Go.Proofs.Tryz.prog 338 (c338 (bucket_Read tau)) := by
  refine ⟨Go.Proofs.Tryz.call338, fun vs w K h => ?_⟩
  simp only [c338] at h
  split at h
  · rename_i s1b s1l s1c; exact denF_calls hm tysOk (callsOk_of (.cons s181 (.cons s182 (.cons s185 (.cons s291 (.cons s377 (.nil))))))) (defsOk_of (.nil)) Go.Proofs.Tryz.func338 (by kernel_rfl) ok338 (Nat.le_of_ble_eq_true (by kernel_rfl)) ((d338 (⟨s1b, s1l, s1c⟩) _ _).mpr h)
  · exact h.elim
theorem ok516 : codeOk hn516 Go.Proofs.Tryz.f516.ntmps (Go.Proofs.Tryz.f516.body.getD .skip) = true := by kernel_rfl
theorem s516 : Sound Go.Proofs.Tryz.prog 516 (c516 (crc_On tau)) := by
  refine ⟨Go.Proofs.Tryz.call516, fun vs w K h => ?_⟩
  simp only [c516] at h
  split at h
  · rename_i c1 n2 s3b s3l s3c; exact denF_calls hm tysOk (callsOk_of (.nil)) (defsOk_of (.nil)) Go.Proofs.Tryz.func516 (by kernel_rfl) ok516 (Nat.le_of_ble_eq_true (by kernel_rfl)) ((d516 c1 n2 (⟨s3b, s3l, s3c⟩) _ _).mpr h)
  · exact h.elim
theorem ok498 : codeOk hn498 Go.Proofs.Tryz.f498.ntmps (Go.Proofs.Tryz.f498.body.getD .skip) = true := by kernel_rfl
theorem s498 : Sound Go.Proofs.Tryz.prog 498 (c498 (crc_on tau)) := by
  refine ⟨Go.Proofs.Tryz.call498, fun vs w K h => ?_⟩
  simp only [c498] at h
  split at h
  · rename_i c1 s2b s2l s2c; exact denF_calls hm tysOk (callsOk_of (.cons s516 (.nil))) (defsOk_of (.nil)) Go.Proofs.Tryz.func498 (by kernel_rfl) ok498 (Nat.le_of_ble_eq_true (by kernel_rfl)) ((d498 c1 (⟨s2b, s2l, s2c⟩) _ _).mpr h)
  · exact h.elim
theorem ok499 : codeOk hn499 Go.Proofs.Tryz.f499.ntmps (Go.Proofs.Tryz.f499.body.getD .skip) = true := by kernel_rfl
theorem s499 : Sound Go.Proofs.Tryz.prog 499 (c499 (crc_Table tau)) := by
  refine ⟨Go.Proofs.Tryz.call499, fun vs w K h => ?_⟩
  simp only [c499] at h
  split at h
  · exact denF_calls hm tysOk (callsOk_of (.nil)) (defsOk_of (.nil)) Go.Proofs.Tryz.func499 (by kernel_rfl) ok499 (Nat.le_of_ble_eq_true (by kernel_rfl)) ((d499  _ _).mpr h)
  · exact h.elim
theorem ok477 : codeOk hn477 Go.Proofs.Tryz.f477.ntmps (Go.Proofs.Tryz.f477.body.getD .skip) = true := by kernel_rfl
theorem s477 : Sound Go.Proofs.Tryz.prog 477 (c477 (crc_Parts tau)) := by
  refine ⟨Go.Proofs.Tryz.call477, fun vs w K h => ?_⟩
  simp only [c477] at h
  split at h
  · rename_i s1b s1l s1c; exact denF_calls hm tysOk (callsOk_of (.cons s498 (.cons s499 (.nil)))) (defsOk_of (.nil)) Go.Proofs.Tryz.func477 (by kernel_rfl) ok477 (Nat.le_of_ble_eq_true (by kernel_rfl)) ((d477 (⟨s1b, s1l, s1c⟩) _ _).mpr h)
  · exact h.elim
theorem ok442 : codeOk hn442 Go.Proofs.Tryz.f442.ntmps (Go.Proofs.Tryz.f442.body.getD .skip) = true := by kernel_rfl
theorem s442 : Sound Go.Proofs.Tryz.prog 442 (c442 (page_crcOf tau)) := by
  refine ⟨Go.Proofs.Tryz.call442, fun vs w K h => ?_⟩
  simp only [c442] at h
  split at h
  · rename_i s1b s1l s1c; exact denF_calls hm tysOk (callsOk_of (.cons s477 (.nil))) (defsOk_of (.nil)) Go.Proofs.Tryz.func442 (by kernel_rfl) ok442 (Nat.le_of_ble_eq_true (by kernel_rfl)) ((d442 (⟨s1b, s1l, s1c⟩) _ _).mpr h)
  · exact h.elim
theorem ok364 : codeOk hn364 Go.Proofs.Tryz.f364.ntmps (Go.Proofs.Tryz.f364.body.getD .skip) = true := by kernel_rfl
theorem s364 : Sound Go.Proofs.Tryz.prog 364 (c364 (page_Bytes tau)) := by
  refine ⟨Go.Proofs.Tryz.call364, fun vs w K h => ?_⟩
  simp only [c364] at h
  split at h
  · rename_i n1 n2 s3b s3l s3c; exact denF_calls hm tysOk (callsOk_of (.cons s263 (.cons s442 (.nil)))) (defsOk_of (.nil)) Go.Proofs.Tryz.func364 (by kernel_rfl) ok364 (Nat.le_of_ble_eq_true (by kernel_rfl)) ((d364 n1 n2 (⟨s3b, s3l, s3c⟩) _ _).mpr h)
  · exact h.elim
theorem ok370 : codeOk hn370 Go.Proofs.Tryz.f370.ntmps (Go.Proofs.Tryz.f370.body.getD .skip) = true := by kernel_rfl
theorem s370 : Sound Go.Proofs.Tryz.prog 370 (c370 (slices_IndexFunc_byte_byte tau)) := by
  refine ⟨Go.Proofs.Tryz.call370, fun vs w K h => ?_⟩
  simp only [c370] at h
  split at h
  · rename_i s1b s1l s1c; exact denF_calls hm tysOk (callsOk_of (.cons s270 (.nil))) (defsOk_of (.nil)) Go.Proofs.Tryz.func370 (by kernel_rfl) ok370 (Nat.le_of_ble_eq_true (by kernel_rfl)) ((d370 (⟨s1b, s1l, s1c⟩) _ _).mpr h)
  · exact h.elim
theorem ok399 : codeOk hn399 Go.Proofs.Tryz.f399.ntmps (Go.Proofs.Tryz.f399.body.getD .skip) = true := by kernel_rfl
theorem s399 : Sound Go.Proofs.Tryz.prog 399 (c399 (slices_Delete_api_Ref_api_Ref tau)) := by
  refine ⟨Go.Proofs.Tryz.call399, fun vs w K h => ?_⟩
  simp only [c399] at h
  split at h
  · rename_i s1b s1l s1c n2 n3; exact denF_calls hm tysOk (callsOk_of (.nil)) (defsOk_of (.nil)) Go.Proofs.Tryz.func399 (by kernel_rfl) ok399 (Nat.le_of_ble_eq_true (by kernel_rfl)) ((d399 (⟨s1b, s1l, s1c⟩) n2 n3 _ _).mpr h)
  · exact h.elim
theorem ok403 : codeOk hn403 Go.Proofs.Tryz.f403.ntmps (Go.Proofs.Tryz.f403.body.getD .skip) = true := by kernel_rfl
theorem s403 : Sound Go.Proofs.Tryz.prog 403 (c403 (slices_Delete_int_int tau)) := by
  refine ⟨Go.Proofs.Tryz.call403, fun vs w K h => ?_⟩
  simp only [c403] at h
  split at h
  · rename_i s1b s1l s1c n2 n3; exact denF_calls hm tysOk (callsOk_of (.nil)) (defsOk_of (.nil)) Go.Proofs.Tryz.func403 (by kernel_rfl) ok403 (Nat.le_of_ble_eq_true (by kernel_rfl)) ((d403 (⟨s1b, s1l, s1c⟩) n2 n3 _ _).mpr h)
  · exact h.elim
theorem ok512 : codeOk hn512 Go.Proofs.Tryz.f512.ntmps (Go.Proofs.Tryz.f512.body.getD .skip) = true := by kernel_rfl
theorem s512 : Sound Go.Proofs.Tryz.prog 512 (c512 (slices_Reverse_api_Pair_api_Pair tau)) := by
  refine ⟨Go.Proofs.Tryz.call512, fun vs w K h => ?_⟩
  simp only [c512] at h
  split at h
  · rename_i s1b s1l s1c; exact denF_calls hm tysOk (callsOk_of (.nil)) (defsOk_of (.nil)) Go.Proofs.Tryz.func512 (by kernel_rfl) ok512 (Nat.le_of_ble_eq_true (by kernel_rfl)) ((d512 (⟨s1b, s1l, s1c⟩) _ _).mpr h)
  · exact h.elim
theorem ok491 : codeOk hn491 Go.Proofs.Tryz.f491.ntmps (Go.Proofs.Tryz.f491.body.getD .skip) = true := by kernel_rfl
theorem s491 : Sound Go.Proofs.Tryz.prog 491 (c491 (slices_rotateLeft_api_Pair tau)) := by
  refine ⟨Go.Proofs.Tryz.call491, fun vs w K h => ?_⟩
  simp only [c491] at h
  split at h
  · rename_i s1b s1l s1c n2; exact denF_calls hm tysOk (callsOk_of (.cons s512 (.nil))) (defsOk_of (.nil)) Go.Proofs.Tryz.func491 (by kernel_rfl) ok491 (Nat.le_of_ble_eq_true (by kernel_rfl)) ((d491 (⟨s1b, s1l, s1c⟩) n2 _ _).mpr h)
  · exact h.elim
theorem ok463 : codeOk hn463 Go.Proofs.Tryz.f463.ntmps (Go.Proofs.Tryz.f463.body.getD .skip) = true := by kernel_rfl
theorem s463 : Sound Go.Proofs.Tryz.prog 463 (c463 (slices_rotateRight_api_Pair tau)) := by
  refine ⟨Go.Proofs.Tryz.call463, fun vs w K h => ?_⟩
  simp only [c463] at h
  split at h
  · rename_i s1b s1l s1c n2; exact denF_calls hm tysOk (callsOk_of (.cons s491 (.nil))) (defsOk_of (.nil)) Go.Proofs.Tryz.func463 (by kernel_rfl) ok463 (Nat.le_of_ble_eq_true (by kernel_rfl)) ((d463 (⟨s1b, s1l, s1c⟩) n2 _ _).mpr h)
  · exact h.elim
theorem ok409 : codeOk hn409 Go.Proofs.Tryz.f409.ntmps (Go.Proofs.Tryz.f409.body.getD .skip) = true := by kernel_rfl
theorem s409 : Sound Go.Proofs.Tryz.prog 409 (c409 (slices_Insert_api_Pair_api_Pair tau)) := by
  refine ⟨Go.Proofs.Tryz.call409, fun vs w K h => ?_⟩
  simp only [c409] at h
  split at h
  · rename_i s1b s1l s1c n2 s3b s3l s3c; exact denF_calls hm tysOk (callsOk_of (.consX s462 (.cons s463 (.nil)))) (defsOk_of (.nil)) Go.Proofs.Tryz.func409 (by kernel_rfl) ok409 (Nat.le_of_ble_eq_true (by kernel_rfl)) ((d409 (⟨s1b, s1l, s1c⟩) n2 (⟨s3b, s3l, s3c⟩) _ _).mpr h)
  · exact h.elim
theorem ok514 : codeOk hn514 Go.Proofs.Tryz.f514.ntmps (Go.Proofs.Tryz.f514.body.getD .skip) = true := by kernel_rfl
theorem s514 : Sound Go.Proofs.Tryz.prog 514 (c514 (slices_Reverse_api_Ref_api_Ref tau)) := by
  refine ⟨Go.Proofs.Tryz.call514, fun vs w K h => ?_⟩
  simp only [c514] at h
  split at h
  · rename_i s1b s1l s1c; exact denF_calls hm tysOk (callsOk_of (.nil)) (defsOk_of (.nil)) Go.Proofs.Tryz.func514 (by kernel_rfl) ok514 (Nat.le_of_ble_eq_true (by kernel_rfl)) ((d514 (⟨s1b, s1l, s1c⟩) _ _).mpr h)
  · exact h.elim
theorem ok494 : codeOk hn494 Go.Proofs.Tryz.f494.ntmps (Go.Proofs.Tryz.f494.body.getD .skip) = true := by kernel_rfl
theorem s494 : Sound Go.Proofs.Tryz.prog 494 (c494 (slices_rotateLeft_api_Ref tau)) := by
  refine ⟨Go.Proofs.Tryz.call494, fun vs w K h => ?_⟩
  simp only [c494] at h
  split at h
  · rename_i s1b s1l s1c n2; exact denF_calls hm tysOk (callsOk_of (.cons s514 (.nil))) (defsOk_of (.nil)) Go.Proofs.Tryz.func494 (by kernel_rfl) ok494 (Nat.le_of_ble_eq_true (by kernel_rfl)) ((d494 (⟨s1b, s1l, s1c⟩) n2 _ _).mpr h)
  · exact h.elim
theorem ok468 : codeOk hn468 Go.Proofs.Tryz.f468.ntmps (Go.Proofs.Tryz.f468.body.getD .skip) = true := by kernel_rfl
theorem s468 : Sound Go.Proofs.Tryz.prog 468 (c468 (slices_rotateRight_api_Ref tau)) := by
  refine ⟨Go.Proofs.Tryz.call468, fun vs w K h => ?_⟩
  simp only [c468] at h
  split at h
  · rename_i s1b s1l s1c n2; exact denF_calls hm tysOk (callsOk_of (.cons s494 (.nil))) (defsOk_of (.nil)) Go.Proofs.Tryz.func468 (by kernel_rfl) ok468 (Nat.le_of_ble_eq_true (by kernel_rfl)) ((d468 (⟨s1b, s1l, s1c⟩) n2 _ _).mpr h)
  · exact h.elim
theorem ok421 : codeOk hn421 Go.Proofs.Tryz.f421.ntmps (Go.Proofs.Tryz.f421.body.getD .skip) = true := by kernel_rfl
theorem s421 : Sound Go.Proofs.Tryz.prog 421 (c421 (slices_Insert_api_Ref_api_Ref tau)) := by
  refine ⟨Go.Proofs.Tryz.call421, fun vs w K h => ?_⟩
  simp only [c421] at h
  split at h
  · rename_i s1b s1l s1c n2 s3b s3l s3c; exact denF_calls hm tysOk (callsOk_of (.consX s467 (.cons s468 (.nil)))) (defsOk_of (.nil)) Go.Proofs.Tryz.func421 (by kernel_rfl) ok421 (Nat.le_of_ble_eq_true (by kernel_rfl)) ((d421 (⟨s1b, s1l, s1c⟩) n2 (⟨s3b, s3l, s3c⟩) _ _).mpr h)
  · exact h.elim
theorem ok425 : codeOk hn425 Go.Proofs.Tryz.f425.ntmps (Go.Proofs.Tryz.f425.body.getD .skip) = true := by kernel_rfl
theorem s425 : Sound Go.Proofs.Tryz.prog 425 (c425 (bytes_trimRightByte tau)) := by
  refine ⟨Go.Proofs.Tryz.call425, fun vs w K h => ?_⟩
  simp only [c425] at h
  split at h
  · rename_i s1b s1l s1c n2; exact denF_calls hm tysOk (callsOk_of (.nil)) (defsOk_of (.nil)) Go.Proofs.Tryz.func425 (by kernel_rfl) ok425 (Nat.le_of_ble_eq_true (by kernel_rfl)) ((d425 (⟨s1b, s1l, s1c⟩) n2 _ _).mpr h)
  · exact h.elim
theorem ok515 : codeOk hn515 Go.Proofs.Tryz.f515.ntmps (Go.Proofs.Tryz.f515.body.getD .skip) = true := by kernel_rfl
theorem s515 : Sound Go.Proofs.Tryz.prog 515 (c515 (slices_Reverse_int_int tau)) := by
  refine ⟨Go.Proofs.Tryz.call515, fun vs w K h => ?_⟩
  simp only [c515] at h
  split at h
  · rename_i s1b s1l s1c; exact denF_calls hm tysOk (callsOk_of (.nil)) (defsOk_of (.nil)) Go.Proofs.Tryz.func515 (by kernel_rfl) ok515 (Nat.le_of_ble_eq_true (by kernel_rfl)) ((d515 (⟨s1b, s1l, s1c⟩) _ _).mpr h)
  · exact h.elim
theorem ok497 : codeOk hn497 Go.Proofs.Tryz.f497.ntmps (Go.Proofs.Tryz.f497.body.getD .skip) = true := by kernel_rfl
theorem s497 : Sound Go.Proofs.Tryz.prog 497 (c497 (slices_rotateLeft_int tau)) := by
  refine ⟨Go.Proofs.Tryz.call497, fun vs w K h => ?_⟩
  simp only [c497] at h
  split at h
  · rename_i s1b s1l s1c n2; exact denF_calls hm tysOk (callsOk_of (.cons s515 (.nil))) (defsOk_of (.nil)) Go.Proofs.Tryz.func497 (by kernel_rfl) ok497 (Nat.le_of_ble_eq_true (by kernel_rfl)) ((d497 (⟨s1b, s1l, s1c⟩) n2 _ _).mpr h)
  · exact h.elim
theorem ok476 : codeOk hn476 Go.Proofs.Tryz.f476.ntmps (Go.Proofs.Tryz.f476.body.getD .skip) = true := by kernel_rfl
theorem s476 : Sound Go.Proofs.Tryz.prog 476 (c476 (slices_rotateRight_int tau)) := by
  refine ⟨Go.Proofs.Tryz.call476, fun vs w K h => ?_⟩
  simp only [c476] at h
  split at h
  · rename_i s1b s1l s1c n2; exact denF_calls hm tysOk (callsOk_of (.cons s497 (.nil))) (defsOk_of (.nil)) Go.Proofs.Tryz.func476 (by kernel_rfl) ok476 (Nat.le_of_ble_eq_true (by kernel_rfl)) ((d476 (⟨s1b, s1l, s1c⟩) n2 _ _).mpr h)
  · exact h.elim
theorem ok438 : codeOk hn438 Go.Proofs.Tryz.f438.ntmps (Go.Proofs.Tryz.f438.body.getD .skip) = true := by kernel_rfl
theorem s438 : Sound Go.Proofs.Tryz.prog 438 (c438 (slices_Insert_int_int tau)) := by
  refine ⟨Go.Proofs.Tryz.call438, fun vs w K h => ?_⟩
  simp only [c438] at h
  split at h
  · rename_i s1b s1l s1c n2 s3b s3l s3c; exact denF_calls hm tysOk (callsOk_of (.consX s475 (.cons s476 (.nil)))) (defsOk_of (.nil)) Go.Proofs.Tryz.func438 (by kernel_rfl) ok438 (Nat.le_of_ble_eq_true (by kernel_rfl)) ((d438 (⟨s1b, s1l, s1c⟩) n2 (⟨s3b, s3l, s3c⟩) _ _).mpr h)
  · exact h.elim
theorem ok465 : codeOk hn465 Go.Proofs.Tryz.f465.ntmps (Go.Proofs.Tryz.f465.body.getD .skip) = true := by kernel_rfl
theorem s465 : Sound Go.Proofs.Tryz.prog 465 (c465 (slots_noughts tau)) := by
  refine ⟨Go.Proofs.Tryz.call465, fun vs w K h => ?_⟩
  simp only [c465] at h
  split at h
  · rename_i s1b s1l s1c; exact denF_calls hm tysOk (callsOk_of (.nil)) (defsOk_of (.nil)) Go.Proofs.Tryz.func465 (by kernel_rfl) ok465 (Nat.le_of_ble_eq_true (by kernel_rfl)) ((d465 (⟨s1b, s1l, s1c⟩) _ _).mpr h)
  · exact h.elim
theorem ok582 : codeOk hn582 Go.Proofs.Tryz.f582.ntmps (Go.Proofs.Tryz.f582.body.getD .skip) = true := by kernel_rfl
theorem s582 : Sound Go.Proofs.Tryz.prog 582 (c582 (slices_Reverse_api_Reg_api_Reg tau)) := by
  refine ⟨Go.Proofs.Tryz.call582, fun vs w K h => ?_⟩
  simp only [c582] at h
  split at h
  · rename_i s1b s1l s1c; exact denF_calls hm tysOk (callsOk_of (.nil)) (defsOk_of (.nil)) Go.Proofs.Tryz.func582 (by kernel_rfl) ok582 (Nat.le_of_ble_eq_true (by kernel_rfl)) ((d582 (⟨s1b, s1l, s1c⟩) _ _).mpr h)
  · exact h.elim
theorem ok581 : codeOk hn581 Go.Proofs.Tryz.f581.ntmps (Go.Proofs.Tryz.f581.body.getD .skip) = true := by kernel_rfl
theorem s581 : Sound Go.Proofs.Tryz.prog 581 (c581 (slices_rotateLeft_api_Reg tau)) := by
  refine ⟨Go.Proofs.Tryz.call581, fun vs w K h => ?_⟩
  simp only [c581] at h
  split at h
  · rename_i s1b s1l s1c n2; exact denF_calls hm tysOk (callsOk_of (.cons s582 (.nil))) (defsOk_of (.nil)) Go.Proofs.Tryz.func581 (by kernel_rfl) ok581 (Nat.le_of_ble_eq_true (by kernel_rfl)) ((d581 (⟨s1b, s1l, s1c⟩) n2 _ _).mpr h)
  · exact h.elim
theorem ok580 : codeOk hn580 Go.Proofs.Tryz.f580.ntmps (Go.Proofs.Tryz.f580.body.getD .skip) = true := by kernel_rfl
theorem s580 : Sound Go.Proofs.Tryz.prog 580 (c580 (slices_rotateRight_api_Reg tau)) := by
  refine ⟨Go.Proofs.Tryz.call580, fun vs w K h => ?_⟩
  simp only [c580] at h
  split at h
  · rename_i s1b s1l s1c n2; exact denF_calls hm tysOk (callsOk_of (.cons s581 (.nil))) (defsOk_of (.nil)) Go.Proofs.Tryz.func580 (by kernel_rfl) ok580 (Nat.le_of_ble_eq_true (by kernel_rfl)) ((d580 (⟨s1b, s1l, s1c⟩) n2 _ _).mpr h)
  · exact h.elim
theorem ok576 : codeOk hn576 Go.Proofs.Tryz.f576.ntmps (Go.Proofs.Tryz.f576.body.getD .skip) = true := by kernel_rfl
theorem s576 : Sound Go.Proofs.Tryz.prog 576 (c576 (slices_Insert_api_Reg_api_Reg tau)) := by
  refine ⟨Go.Proofs.Tryz.call576, fun vs w K h => ?_⟩
  simp only [c576] at h
  split at h
  · rename_i s1b s1l s1c n2 s3b s3l s3c; exact denF_calls hm tysOk (callsOk_of (.consX s579 (.cons s580 (.nil)))) (defsOk_of (.nil)) Go.Proofs.Tryz.func576 (by kernel_rfl) ok576 (Nat.le_of_ble_eq_true (by kernel_rfl)) ((d576 (⟨s1b, s1l, s1c⟩) n2 (⟨s3b, s3l, s3c⟩) _ _).mpr h)
  · exact h.elim
end Go.TS.Tryz
