/- The links: what each function asks is what its code asks. -/
import Derived.Test.YtbiehdiklgdhnaaGreatDoorProg
import Derived.Laws.Externs
import Derived.Lib.Overlaps
import Derived.Test.YtbiehdiklgdhnaaGreatDoorTsExt
import Derived.Test.YtbiehdiklgdhnaaGreatDoorTsCode
import Derived.Test.YtbiehdiklgdhnaaGreatDoorTsS10
set_option linter.unusedSimpArgs false
set_option linter.unusedVariables false
namespace Go.TS.Tryz
open Go Go.TS
set_option linter.unusedVariables false
set_option maxRecDepth 100000
def tau (i : Nat) : Nat := ([5, 128, 119, 317, 137, 4, 39, 3, 91, 441, 163, 328, 326, 35, 71, 121, 69, 244, 124, 258, 354, 360, 85, 58, 0, 0, 0, 116, 206] : List Nat).getD i 0
def tyl : List (Nat × TI) := [
 (3, ⟨.int .i64, (Value.int .i64 0), 1, 8, .leaf (.int .i64)⟩),
 (4, ⟨.bool, (Value.bool false), 1, 1, .leaf (.bool)⟩),
 (5, ⟨.int .u8, (Value.int .u8 0), 1, 1, .leaf (.int .u8)⟩),
 (23, ⟨.pointer 128, (Value.pointer none), 1, 8, .leaf (.ptr)⟩),
 (30, ⟨.int .u64, (Value.int .u64 0), 1, 8, .leaf (.int .u64)⟩),
 (35, ⟨.int .i64, (Value.int .i64 0), 1, 8, .leaf (.int .i64)⟩),
 (39, ⟨.slice 5, (Value.slice none 0 0), 1, 24, .leaf (.sl)⟩),
 (85, ⟨.struct #[⟨ "Page", 3, 0, false, "", "", 0⟩, ⟨ "Slot", 3, 1, false, "", "", 8⟩], (Value.agg #[(Value.int .i64 0), (Value.int .i64 0)]), 2, 16, .agg [.int .i64, .int .i64]⟩),
 (91, ⟨.slice 3, (Value.slice none 0 0), 1, 24, .leaf (.sl)⟩),
 (116, ⟨.struct #[⟨ "Hash", 30, 0, false, "", "", 0⟩, ⟨ "Place", 85, 1, false, "", "", 8⟩], (Value.agg #[(Value.int .u64 0), (Value.int .i64 0), (Value.int .i64 0)]), 3, 24, .agg [.int .u64, .int .i64, .int .i64]⟩),
 (125, ⟨.map 3 39, (Value.map none), 1, 8, .leaf (.map)⟩),
 (126, ⟨.pointer 3, (Value.pointer none), 1, 8, .leaf (.ptr)⟩),
 (128, ⟨.struct #[⟨ "b", 39, 0, false, "", "tallyman/sector", 0⟩, ⟨ "cache", 125, 1, false, "", "tallyman/sector", 24⟩, ⟨ "order", 91, 2, false, "", "tallyman/sector", 32⟩, ⟨ "left", 126, 3, false, "", "tallyman/sector", 56⟩], (Value.agg #[(Value.slice none 0 0), (Value.map none), (Value.slice none 0 0), (Value.pointer none)]), 4, 64, .agg [.sl, .map, .sl, .ptr]⟩),
 (150, ⟨.slice 39, (Value.slice none 0 0), 1, 24, .leaf (.sl)⟩),
 (161, ⟨.int .u32, (Value.int .u32 0), 1, 4, .leaf (.int .u32)⟩),
 (163, ⟨.struct #[⟨ "Kind", 3, 0, false, "", "", 0⟩, ⟨ "Number", 161, 1, false, "", "", 8⟩, ⟨ "Body", 39, 2, false, "", "", 16⟩], (Value.agg #[(Value.int .i64 0), (Value.int .u32 0), (Value.slice none 0 0)]), 3, 40, .agg [.int .i64, .int .u32, .sl]⟩),
 (166, ⟨.pointer 258, (Value.pointer none), 1, 8, .leaf (.ptr)⟩),
 (204, ⟨.slice 116, (Value.slice none 0 0), 1, 24, .leaf (.sl)⟩),
 (206, ⟨.struct #[⟨ "Next", 3, 0, false, "", "", 0⟩, ⟨ "Refs", 204, 1, false, "", "", 8⟩], (Value.agg #[(Value.int .i64 0), (Value.slice none 0 0)]), 2, 32, .agg [.int .i64, .sl]⟩),
 (237, ⟨.slice 91, (Value.slice none 0 0), 1, 24, .leaf (.sl)⟩),
 (258, ⟨.struct #[⟨ "b", 39, 0, false, "", "tallyman/octet", 0⟩, ⟨ "at", 3, 1, false, "", "tallyman/octet", 24⟩, ⟨ "err", 35, 2, false, "", "tallyman/octet", 32⟩, ⟨ "is", 4, 3, false, "", "tallyman/octet", 40⟩], (Value.agg #[(Value.slice none 0 0), (Value.int .i64 0), (Value.int .i64 0), (Value.bool false)]), 4, 48, .agg [.sl, .int .i64, .int .i64, .bool]⟩),
 (441, ⟨.array 256 161, (Value.agg (Array.replicate 256 (Value.int .u32 0))), 256, 1024, .arr 256⟩)]
def tys : Tys := ⟨trOf tyl, noMt⟩
abbrev T40 := Sl → Mem → (Sl → Mem → Prop) → Prop
def c40 (f : T40) : CallP := fun vs h K => match vs with
  | [.slice s1b s1l s1c] => f ⟨s1b, s1l, s1c⟩ h fun s2 h => K (Value.slice s2.base s2.len s2.cap) h
  | _ => False
def cs40 : Calls' := callsT []
def dcs40 : Calls' := callsT []
def hn40 : Hints := ⟨[], [], []⟩
theorem d40 (s1 : Sl) (h : Mem) (K : Value → Mem → Prop) : denF tys (cs40) (dcs40) hn40 (Go.Proofs.Tryz.f40.body.getD .skip) Go.Proofs.Tryz.f40.results.toList [(Value.slice s1.base s1.len s1.cap)] h K = slices_Clone_byte_byte tau s1 h fun s2 h => K (Value.slice s2.base s2.len s2.cap) h := by delta slices_Clone_byte_byte; kernel_rfl
abbrev T152 := Sl → Int → Mem → (Sl → Mem → Prop) → Prop
def c152 (f : T152) : CallP := fun vs h K => match vs with
  | [.slice s1b s1l s1c, .int .i64 n2] => f ⟨s1b, s1l, s1c⟩ n2 h fun s3 h => K (Value.slice s3.base s3.len s3.cap) h
  | _ => False
def cs152 : Calls' := callsT []
def dcs152 : Calls' := callsT []
def hn152 : Hints := ⟨[], [], []⟩
theorem d152 (s1 : Sl) (n2 : Int) (h : Mem) (K : Value → Mem → Prop) : denF tys (cs152) (dcs152) hn152 (Go.Proofs.Tryz.f152.body.getD .skip) Go.Proofs.Tryz.f152.results.toList [(Value.slice s1.base s1.len s1.cap), (Value.int .i64 n2)] h K = slices_Grow_int_int tau s1 n2 h fun s3 h => K (Value.slice s3.base s3.len s3.cap) h := by delta slices_Grow_int_int; kernel_rfl
abbrev T76 := Sl → Mem → (Sl → Mem → Prop) → Prop
def c76 (f : T76) : CallP := fun vs h K => match vs with
  | [.slice s1b s1l s1c] => f ⟨s1b, s1l, s1c⟩ h fun s2 h => K (Value.slice s2.base s2.len s2.cap) h
  | _ => False
def cs76 (f152 : T152) : Calls' := callsT [(152, c152 f152)]
def dcs76 : Calls' := callsT []
def hn76 : Hints := ⟨[(3, [(3, .int .i64), (11, .int .i64)]), (11, [(6, .sl), (27, .int .i64)])], [], []⟩
theorem d76 (s1 : Sl) (h : Mem) (K : Value → Mem → Prop) : denF tys (cs76 (slices_Grow_int_int tau)) (dcs76) hn76 (Go.Proofs.Tryz.f76.body.getD .skip) Go.Proofs.Tryz.f76.results.toList [(Value.slice s1.base s1.len s1.cap)] h K = slices_Concat_int_int tau s1 h fun s2 h => K (Value.slice s2.base s2.len s2.cap) h := by delta slices_Concat_int_int; generalize slices_Grow_int_int tau = f152; revert f152; refine keep ?_; intro f152; kernel_rfl
abbrev T86 := Option Addr → Mem → (Bool → Mem → Prop) → Prop
def c86 (f : T86) : CallP := fun vs h K => match vs with
  | [.pointer p1] => f p1 h fun b2 h => K (Value.bool b2) h
  | _ => False
def cs86 : Calls' := callsT []
def dcs86 : Calls' := callsT []
def hn86 : Hints := ⟨[], [], []⟩
theorem d86 (p1 : Option Addr) (h : Mem) (K : Value → Mem → Prop) : denF tys (cs86) (dcs86) hn86 (Go.Proofs.Tryz.f86.body.getD .skip) Go.Proofs.Tryz.f86.results.toList [(Value.pointer p1)] h K = sector_Disk_made tau p1 h fun b2 h => K (Value.bool b2) h := by delta sector_Disk_made; kernel_rfl
abbrev T87 := Option Addr → Int → Mem → (Sl → Mem → Prop) → Prop
def c87 (f : T87) : CallP := fun vs h K => match vs with
  | [.pointer p1, .int .i64 n2] => f p1 n2 h fun s3 h => K (Value.slice s3.base s3.len s3.cap) h
  | _ => False
def cs87 : Calls' := callsT []
def dcs87 : Calls' := callsT []
def hn87 : Hints := ⟨[], [], []⟩
theorem d87 (p1 : Option Addr) (n2 : Int) (h : Mem) (K : Value → Mem → Prop) : denF tys (cs87) (dcs87) hn87 (Go.Proofs.Tryz.f87.body.getD .skip) Go.Proofs.Tryz.f87.results.toList [(Value.pointer p1), (Value.int .i64 n2)] h K = sector_Disk_sector tau p1 n2 h fun s3 h => K (Value.slice s3.base s3.len s3.cap) h := by delta sector_Disk_sector; kernel_rfl
abbrev T158 := Option Addr → Mem → (Bool → Mem → Prop) → Prop
def c158 (f : T158) : CallP := fun vs h K => match vs with
  | [.pointer p1] => f p1 h fun b2 h => K (Value.bool b2) h
  | _ => False
def cs158 : Calls' := callsT []
def dcs158 : Calls' := callsT []
def hn158 : Hints := ⟨[], [], []⟩
theorem d158 (p1 : Option Addr) (h : Mem) (K : Value → Mem → Prop) : denF tys (cs158) (dcs158) hn158 (Go.Proofs.Tryz.f158.body.getD .skip) Go.Proofs.Tryz.f158.results.toList [(Value.pointer p1)] h K = sector_Disk_fails tau p1 h fun b2 h => K (Value.bool b2) h := by delta sector_Disk_fails; kernel_rfl
abbrev T82 := Option Addr → Mem → (Int → Mem → Prop) → Prop
def c82 (f : T82) : CallP := fun vs h K => match vs with
  | [.pointer p1] => f p1 h fun n2 h => K (Value.int .i64 n2) h
  | _ => False
def cs82 (f86 : T86) (f87 : T87) (f158 : T158) : Calls' := callsT [(86, c86 f86), (87, c87 f87), (158, c158 f158)]
def dcs82 : Calls' := callsT []
def hn82 : Hints := ⟨[(6, [])], [], [(7, [(3, .int .i64), (4, .sl)])]⟩
theorem d82 (p1 : Option Addr) (h : Mem) (K : Value → Mem → Prop) : denF tys (cs82 (sector_Disk_made tau) (sector_Disk_sector tau) (sector_Disk_fails tau)) (dcs82) hn82 (Go.Proofs.Tryz.f82.body.getD .skip) Go.Proofs.Tryz.f82.results.toList [(Value.pointer p1)] h K = sector_Disk_Flush tau p1 h fun n2 h => K (Value.int .i64 n2) h := by delta sector_Disk_Flush; generalize sector_Disk_made tau = f86; generalize sector_Disk_sector tau = f87; generalize sector_Disk_fails tau = f158; revert f86 f87 f158; refine keep ?_; intro f86 f87 f158; kernel_rfl
abbrev T96 := Sl → Mem → (Option Addr → Mem → Prop) → Prop
def c96 (f : T96) : CallP := fun vs h K => match vs with
  | [.slice s1b s1l s1c] => f ⟨s1b, s1l, s1c⟩ h fun p2 h => K (Value.pointer p2) h
  | _ => False
def cs96 (f40 : T40) : Calls' := callsT [(40, c40 f40)]
def dcs96 : Calls' := callsT []
def hn96 : Hints := ⟨[], [], []⟩
theorem d96 (s1 : Sl) (h : Mem) (K : Value → Mem → Prop) : denF tys (cs96 (slices_Clone_byte_byte tau)) (dcs96) hn96 (Go.Proofs.Tryz.f96.body.getD .skip) Go.Proofs.Tryz.f96.results.toList [(Value.slice s1.base s1.len s1.cap)] h K = octet_New tau s1 h fun p2 h => K (Value.pointer p2) h := by delta octet_New; generalize slices_Clone_byte_byte tau = f40; revert f40; refine keep ?_; intro f40; kernel_rfl
abbrev T174 := Option Addr → Mem → (Bool → Mem → Prop) → Prop
def c174 (f : T174) : CallP := fun vs h K => match vs with
  | [.pointer p1] => f p1 h fun b2 h => K (Value.bool b2) h
  | _ => False
def cs174 : Calls' := callsT []
def dcs174 : Calls' := callsT []
def hn174 : Hints := ⟨[], [], []⟩
theorem d174 (p1 : Option Addr) (h : Mem) (K : Value → Mem → Prop) : denF tys (cs174) (dcs174) hn174 (Go.Proofs.Tryz.f174.body.getD .skip) Go.Proofs.Tryz.f174.results.toList [(Value.pointer p1)] h K = octet_Reader_made tau p1 h fun b2 h => K (Value.bool b2) h := by delta octet_Reader_made; kernel_rfl
abbrev T171 := Option Addr → Mem → (Bool → Mem → Prop) → Prop
def c171 (f : T171) : CallP := fun vs h K => match vs with
  | [.pointer p1] => f p1 h fun b2 h => K (Value.bool b2) h
  | _ => False
def cs171 (f174 : T174) : Calls' := callsT [(174, c174 f174)]
def dcs171 : Calls' := callsT []
def hn171 : Hints := ⟨[], [], []⟩
theorem d171 (p1 : Option Addr) (h : Mem) (K : Value → Mem → Prop) : denF tys (cs171 (octet_Reader_made tau)) (dcs171) hn171 (Go.Proofs.Tryz.f171.body.getD .skip) Go.Proofs.Tryz.f171.results.toList [(Value.pointer p1)] h K = octet_Reader_ready tau p1 h fun b2 h => K (Value.bool b2) h := by delta octet_Reader_ready; generalize octet_Reader_made tau = f174; revert f174; refine keep ?_; intro f174; kernel_rfl
abbrev T172 := Option Addr → Int → Mem → (Mem → Prop) → Prop
def c172 (f : T172) : CallP := fun vs h K => match vs with
  | [.pointer p1, .int .i64 n2] => f p1 n2 h fun  h => K (Value.tuple #[]) h
  | _ => False
def cs172 : Calls' := callsT []
def dcs172 : Calls' := callsT []
def hn172 : Hints := ⟨[], [], []⟩
theorem d172 (p1 : Option Addr) (n2 : Int) (h : Mem) (K : Value → Mem → Prop) : denF tys (cs172) (dcs172) hn172 (Go.Proofs.Tryz.f172.body.getD .skip) Go.Proofs.Tryz.f172.results.toList [(Value.pointer p1), (Value.int .i64 n2)] h K = octet_Reader_fail tau p1 n2 h fun  h => K (Value.tuple #[]) h := by delta octet_Reader_fail; kernel_rfl
abbrev T99 := Option Addr → Int → Mem → (Sl → Mem → Prop) → Prop
def c99 (f : T99) : CallP := fun vs h K => match vs with
  | [.pointer p1, .int .i64 n2] => f p1 n2 h fun s3 h => K (Value.slice s3.base s3.len s3.cap) h
  | _ => False
def cs99 (f171 : T171) (f172 : T172) : Calls' := callsT [(171, c171 f171), (172, c172 f172)]
def dcs99 : Calls' := callsT []
def hn99 : Hints := ⟨[], [(4, [0, 0, 2, 6, 14, 30, 0, 64, 192, 448, 1022, 2047]), (7, [0, 0, 2, 6, 14, 0, 32, 96, 224, 0, 512, 1536, 3584, 0, 15872, 32766, 65535, 131071])], []⟩
theorem d99 (p1 : Option Addr) (n2 : Int) (h : Mem) (K : Value → Mem → Prop) : denF tys (cs99 (octet_Reader_ready tau) (octet_Reader_fail tau)) (dcs99) hn99 (Go.Proofs.Tryz.f99.body.getD .skip) Go.Proofs.Tryz.f99.results.toList [(Value.pointer p1), (Value.int .i64 n2)] h K = octet_Reader_Fixed tau p1 n2 h fun s3 h => K (Value.slice s3.base s3.len s3.cap) h := by delta octet_Reader_Fixed; generalize octet_Reader_ready tau = f171; generalize octet_Reader_fail tau = f172; revert f171 f172; refine keep ?_; intro f171 f172; kernel_rfl
abbrev T97 := Option Addr → Int → Mem → (Int → Mem → Prop) → Prop
def c97 (f : T97) : CallP := fun vs h K => match vs with
  | [.pointer p1, .int .i64 n2] => f p1 n2 h fun n3 h => K (Value.int .u64 n3) h
  | _ => False
def cs97 (f99 : T99) (f171 : T171) (f172 : T172) : Calls' := callsT [(99, c99 f99), (171, c171 f171), (172, c172 f172)]
def dcs97 : Calls' := callsT []
def hn97 : Hints := ⟨[(11, [(5, .int .u64), (22, .int .i64)])], [], []⟩
theorem d97 (p1 : Option Addr) (n2 : Int) (h : Mem) (K : Value → Mem → Prop) : denF tys (cs97 (octet_Reader_Fixed tau) (octet_Reader_ready tau) (octet_Reader_fail tau)) (dcs97) hn97 (Go.Proofs.Tryz.f97.body.getD .skip) Go.Proofs.Tryz.f97.results.toList [(Value.pointer p1), (Value.int .i64 n2)] h K = octet_Reader_Word tau p1 n2 h fun n3 h => K (Value.int .u64 n3) h := by delta octet_Reader_Word; generalize octet_Reader_Fixed tau = f99; generalize octet_Reader_ready tau = f171; generalize octet_Reader_fail tau = f172; revert f99 f171 f172; refine keep ?_; intro f99 f171 f172; kernel_rfl
abbrev T252 := Sl → Int → Mem → (Sl → Mem → Prop) → Prop
def c252 (f : T252) : CallP := fun vs h K => match vs with
  | [.slice s1b s1l s1c, .int .i64 n2] => f ⟨s1b, s1l, s1c⟩ n2 h fun s3 h => K (Value.slice s3.base s3.len s3.cap) h
  | _ => False
def cs252 : Calls' := callsT []
def dcs252 : Calls' := callsT []
def hn252 : Hints := ⟨[], [], []⟩
theorem d252 (s1 : Sl) (n2 : Int) (h : Mem) (K : Value → Mem → Prop) : denF tys (cs252) (dcs252) hn252 (Go.Proofs.Tryz.f252.body.getD .skip) Go.Proofs.Tryz.f252.results.toList [(Value.slice s1.base s1.len s1.cap), (Value.int .i64 n2)] h K = slices_Grow_byte_byte tau s1 n2 h fun s3 h => K (Value.slice s3.base s3.len s3.cap) h := by delta slices_Grow_byte_byte; kernel_rfl
abbrev T183 := Sl → Mem → (Sl → Mem → Prop) → Prop
def c183 (f : T183) : CallP := fun vs h K => match vs with
  | [.slice s1b s1l s1c] => f ⟨s1b, s1l, s1c⟩ h fun s2 h => K (Value.slice s2.base s2.len s2.cap) h
  | _ => False
def cs183 (f252 : T252) : Calls' := callsT [(252, c252 f252)]
def dcs183 : Calls' := callsT []
def hn183 : Hints := ⟨[(3, [(3, .int .i64), (11, .int .i64)]), (11, [(6, .sl), (27, .int .i64)])], [], []⟩
theorem d183 (s1 : Sl) (h : Mem) (K : Value → Mem → Prop) : denF tys (cs183 (slices_Grow_byte_byte tau)) (dcs183) hn183 (Go.Proofs.Tryz.f183.body.getD .skip) Go.Proofs.Tryz.f183.results.toList [(Value.slice s1.base s1.len s1.cap)] h K = slices_Concat_byte_byte tau s1 h fun s2 h => K (Value.slice s2.base s2.len s2.cap) h := by delta slices_Concat_byte_byte; generalize slices_Grow_byte_byte tau = f252; revert f252; refine keep ?_; intro f252; kernel_rfl
abbrev T112 := Sl → Int → Int → Mem → (Sl → Mem → Prop) → Prop
def c112 (f : T112) : CallP := fun vs h K => match vs with
  | [.slice s1b s1l s1c, .int .u64 n2, .int .i64 n3] => f ⟨s1b, s1l, s1c⟩ n2 n3 h fun s4 h => K (Value.slice s4.base s4.len s4.cap) h
  | _ => False
def cs112 (f40 : T40) (f183 : T183) : Calls' := callsT [(40, c40 f40), (183, c183 f183)]
def dcs112 : Calls' := callsT []
def hn112 : Hints := ⟨[(8, [(1, .int .u64), (7, .sl), (16, .int .i64)])], [], []⟩
theorem d112 (s1 : Sl) (n2 : Int) (n3 : Int) (h : Mem) (K : Value → Mem → Prop) : denF tys (cs112 (slices_Clone_byte_byte tau) (slices_Concat_byte_byte tau)) (dcs112) hn112 (Go.Proofs.Tryz.f112.body.getD .skip) Go.Proofs.Tryz.f112.results.toList [(Value.slice s1.base s1.len s1.cap), (Value.int .u64 n2), (Value.int .i64 n3)] h K = octet_Word tau s1 n2 n3 h fun s4 h => K (Value.slice s4.base s4.len s4.cap) h := by delta octet_Word; generalize slices_Clone_byte_byte tau = f40; generalize slices_Concat_byte_byte tau = f183; revert f40 f183; refine keep ?_; intro f40 f183; kernel_rfl
abbrev T133 := Option Addr → Mem → (Int → Mem → Prop) → Prop
def c133 (f : T133) : CallP := fun vs h K => match vs with
  | [.pointer p1] => f p1 h fun n2 h => K (Value.int .i64 n2) h
  | _ => False
def cs133 (f86 : T86) : Calls' := callsT [(86, c86 f86)]
def dcs133 : Calls' := callsT []
def hn133 : Hints := ⟨[], [], []⟩
theorem d133 (p1 : Option Addr) (h : Mem) (K : Value → Mem → Prop) : denF tys (cs133 (sector_Disk_made tau)) (dcs133) hn133 (Go.Proofs.Tryz.f133.body.getD .skip) Go.Proofs.Tryz.f133.results.toList [(Value.pointer p1)] h K = sector_Disk_Sectors tau p1 h fun n2 h => K (Value.int .i64 n2) h := by delta sector_Disk_Sectors; generalize sector_Disk_made tau = f86; revert f86; refine keep ?_; intro f86; kernel_rfl
abbrev T150 := Sl → Int → Mem → (Sl → Mem → Prop) → Prop
def c150 (f : T150) : CallP := fun vs h K => match vs with
  | [.slice s1b s1l s1c, .int .u64 n2] => f ⟨s1b, s1l, s1c⟩ n2 h fun s3 h => K (Value.slice s3.base s3.len s3.cap) h
  | _ => False
def cs150 (f40 : T40) : Calls' := callsT [(40, c40 f40)]
def dcs150 : Calls' := callsT []
def hn150 : Hints := ⟨[(2, [(0, .sl), (1, .int .u64)])], [], []⟩
theorem d150 (s1 : Sl) (n2 : Int) (h : Mem) (K : Value → Mem → Prop) : denF tys (cs150 (slices_Clone_byte_byte tau)) (dcs150) hn150 (Go.Proofs.Tryz.f150.body.getD .skip) Go.Proofs.Tryz.f150.results.toList [(Value.slice s1.base s1.len s1.cap), (Value.int .u64 n2)] h K = octet_Number tau s1 n2 h fun s3 h => K (Value.slice s3.base s3.len s3.cap) h := by delta octet_Number; generalize slices_Clone_byte_byte tau = f40; revert f40; refine keep ?_; intro f40; kernel_rfl
abbrev T159 := Sl → Mem → (Sl → Mem → Prop) → Prop
def c159 (f : T159) : CallP := fun vs h K => match vs with
  | [.slice s1b s1l s1c] => f ⟨s1b, s1l, s1c⟩ h fun s2 h => K (Value.slice s2.base s2.len s2.cap) h
  | _ => False
def cs159 : Calls' := callsT []
def dcs159 : Calls' := callsT []
def hn159 : Hints := ⟨[], [], []⟩
theorem d159 (s1 : Sl) (h : Mem) (K : Value → Mem → Prop) : denF tys (cs159) (dcs159) hn159 (Go.Proofs.Tryz.f159.body.getD .skip) Go.Proofs.Tryz.f159.results.toList [(Value.slice s1.base s1.len s1.cap)] h K = slices_Clone_int_int tau s1 h fun s2 h => K (Value.slice s2.base s2.len s2.cap) h := by delta slices_Clone_int_int; kernel_rfl
abbrev T181 := Sl → Int → Int → Mem → (Sl → Mem → Prop) → Prop
def c181 (f : T181) : CallP := fun vs h K => match vs with
  | [.slice s1b s1l s1c, .int .i64 n2, .int .i64 n3] => f ⟨s1b, s1l, s1c⟩ n2 n3 h fun s4 h => K (Value.slice s4.base s4.len s4.cap) h
  | _ => False
def cs181 : Calls' := callsT []
def dcs181 : Calls' := callsT []
def hn181 : Hints := ⟨[], [(5, [0, 0, 3, 0, 0, 24, 63, 127])], []⟩
theorem d181 (s1 : Sl) (n2 : Int) (n3 : Int) (h : Mem) (K : Value → Mem → Prop) : denF tys (cs181) (dcs181) hn181 (Go.Proofs.Tryz.f181.body.getD .skip) Go.Proofs.Tryz.f181.results.toList [(Value.slice s1.base s1.len s1.cap), (Value.int .i64 n2), (Value.int .i64 n3)] h K = slices_Delete_int_int tau s1 n2 n3 h fun s4 h => K (Value.slice s4.base s4.len s4.cap) h := by delta slices_Delete_int_int; kernel_rfl
abbrev T275 := Sl → Sl → Mem → (Bool → Mem → Prop) → Prop
def c275 (f : T275) : CallP := fun vs h K => match vs with
  | [.slice s1b s1l s1c, .slice s2b s2l s2c] => f ⟨s1b, s1l, s1c⟩ ⟨s2b, s2l, s2c⟩ h fun b3 h => K (Value.bool b3) h
  | _ => False
abbrev T348 := Sl → Mem → (Mem → Prop) → Prop
def c348 (f : T348) : CallP := fun vs h K => match vs with
  | [.slice s1b s1l s1c] => f ⟨s1b, s1l, s1c⟩ h fun  h => K (Value.tuple #[]) h
  | _ => False
def cs348 : Calls' := callsT []
def dcs348 : Calls' := callsT []
def hn348 : Hints := ⟨[(1, [(2, .int .i64), (3, .int .i64)])], [(3, [0, 0, 0, 0, 0, 0, 48, 112, 0, 0, 768, 1792, 4083, 8179, 16383, 32767])], []⟩
theorem d348 (s1 : Sl) (h : Mem) (K : Value → Mem → Prop) : denF tys (cs348) (dcs348) hn348 (Go.Proofs.Tryz.f348.body.getD .skip) Go.Proofs.Tryz.f348.results.toList [(Value.slice s1.base s1.len s1.cap)] h K = slices_Reverse_api_Ref_api_Ref tau s1 h fun  h => K (Value.tuple #[]) h := by delta slices_Reverse_api_Ref_api_Ref; kernel_rfl
abbrev T321 := Sl → Int → Mem → (Mem → Prop) → Prop
def c321 (f : T321) : CallP := fun vs h K => match vs with
  | [.slice s1b s1l s1c, .int .i64 n2] => f ⟨s1b, s1l, s1c⟩ n2 h fun  h => K (Value.tuple #[]) h
  | _ => False
def cs321 (f348 : T348) : Calls' := callsT [(348, c348 f348)]
def dcs321 : Calls' := callsT []
def hn321 : Hints := ⟨[], [], []⟩
theorem d321 (s1 : Sl) (n2 : Int) (h : Mem) (K : Value → Mem → Prop) : denF tys (cs321 (slices_Reverse_api_Ref_api_Ref tau)) (dcs321) hn321 (Go.Proofs.Tryz.f321.body.getD .skip) Go.Proofs.Tryz.f321.results.toList [(Value.slice s1.base s1.len s1.cap), (Value.int .i64 n2)] h K = slices_rotateLeft_api_Ref tau s1 n2 h fun  h => K (Value.tuple #[]) h := by delta slices_rotateLeft_api_Ref; generalize slices_Reverse_api_Ref_api_Ref tau = f348; revert f348; refine keep ?_; intro f348; kernel_rfl
abbrev T276 := Sl → Int → Mem → (Mem → Prop) → Prop
def c276 (f : T276) : CallP := fun vs h K => match vs with
  | [.slice s1b s1l s1c, .int .i64 n2] => f ⟨s1b, s1l, s1c⟩ n2 h fun  h => K (Value.tuple #[]) h
  | _ => False
def cs276 (f321 : T321) : Calls' := callsT [(321, c321 f321)]
def dcs276 : Calls' := callsT []
def hn276 : Hints := ⟨[], [], []⟩
theorem d276 (s1 : Sl) (n2 : Int) (h : Mem) (K : Value → Mem → Prop) : denF tys (cs276 (slices_rotateLeft_api_Ref tau)) (dcs276) hn276 (Go.Proofs.Tryz.f276.body.getD .skip) Go.Proofs.Tryz.f276.results.toList [(Value.slice s1.base s1.len s1.cap), (Value.int .i64 n2)] h K = slices_rotateRight_api_Ref tau s1 n2 h fun  h => K (Value.tuple #[]) h := by delta slices_rotateRight_api_Ref; generalize slices_rotateLeft_api_Ref tau = f321; revert f321; refine keep ?_; intro f321; kernel_rfl
abbrev T206 := Sl → Int → Sl → Mem → (Sl → Mem → Prop) → Prop
def c206 (f : T206) : CallP := fun vs h K => match vs with
  | [.slice s1b s1l s1c, .int .i64 n2, .slice s3b s3l s3c] => f ⟨s1b, s1l, s1c⟩ n2 ⟨s3b, s3l, s3c⟩ h fun s4 h => K (Value.slice s4.base s4.len s4.cap) h
  | _ => False
def cs206 (f275 : T275) (f276 : T276) : Calls' := callsT [(275, c275 f275), (276, c276 f276)]
def dcs206 : Calls' := callsT []
def hn206 : Hints := ⟨[], [(11, [0, 0, 0, 6, 15, 0, 0, 96, 255]), (15, [0, 0, 0, 6, 15, 0, 0, 96, 255])], []⟩
theorem d206 (s1 : Sl) (n2 : Int) (s3 : Sl) (h : Mem) (K : Value → Mem → Prop) : denF tys (cs206 (slices_overlaps_api_Ref tau) (slices_rotateRight_api_Ref tau)) (dcs206) hn206 (Go.Proofs.Tryz.f206.body.getD .skip) Go.Proofs.Tryz.f206.results.toList [(Value.slice s1.base s1.len s1.cap), (Value.int .i64 n2), (Value.slice s3.base s3.len s3.cap)] h K = slices_Insert_api_Ref_api_Ref tau s1 n2 s3 h fun s4 h => K (Value.slice s4.base s4.len s4.cap) h := by delta slices_Insert_api_Ref_api_Ref; generalize slices_overlaps_api_Ref tau = f275; generalize slices_rotateRight_api_Ref tau = f276; revert f275 f276; refine keep ?_; intro f275 f276; kernel_rfl
abbrev T216 := Sl → Int → Int → Mem → (Sl → Mem → Prop) → Prop
def c216 (f : T216) : CallP := fun vs h K => match vs with
  | [.slice s1b s1l s1c, .int .i64 n2, .int .i64 n3] => f ⟨s1b, s1l, s1c⟩ n2 n3 h fun s4 h => K (Value.slice s4.base s4.len s4.cap) h
  | _ => False
def cs216 : Calls' := callsT []
def dcs216 : Calls' := callsT []
def hn216 : Hints := ⟨[], [(5, [0, 0, 3, 0, 0, 24, 63, 127])], []⟩
theorem d216 (s1 : Sl) (n2 : Int) (n3 : Int) (h : Mem) (K : Value → Mem → Prop) : denF tys (cs216) (dcs216) hn216 (Go.Proofs.Tryz.f216.body.getD .skip) Go.Proofs.Tryz.f216.results.toList [(Value.slice s1.base s1.len s1.cap), (Value.int .i64 n2), (Value.int .i64 n3)] h K = slices_Delete_api_Ref_api_Ref tau s1 n2 n3 h fun s4 h => K (Value.slice s4.base s4.len s4.cap) h := by delta slices_Delete_api_Ref_api_Ref; kernel_rfl
abbrev T374 := Array Value → Int → Sl → Mem → (Int → Mem → Prop) → Prop
def c374 (f : T374) : CallP := fun vs h K => match vs with
  | [.agg c1, .int .u32 n2, .slice s3b s3l s3c] => f c1 n2 ⟨s3b, s3l, s3c⟩ h fun n4 h => K (Value.int .u32 n4) h
  | _ => False
def cs374 : Calls' := callsT []
def dcs374 : Calls' := callsT []
def hn374 : Hints := ⟨[(3, [(7, .int .u32), (14, .int .i64)])], [], []⟩
theorem d374 (c1 : Array Value) (n2 : Int) (s3 : Sl) (h : Mem) (K : Value → Mem → Prop) : denF tys (cs374) (dcs374) hn374 (Go.Proofs.Tryz.f374.body.getD .skip) Go.Proofs.Tryz.f374.results.toList [(Value.agg c1), (Value.int .u32 n2), (Value.slice s3.base s3.len s3.cap)] h K = crc_On tau c1 n2 s3 h fun n4 h => K (Value.int .u32 n4) h := by delta crc_On; kernel_rfl
abbrev T364 := Array Value → Sl → Mem → (Int → Mem → Prop) → Prop
def c364 (f : T364) : CallP := fun vs h K => match vs with
  | [.agg c1, .slice s2b s2l s2c] => f c1 ⟨s2b, s2l, s2c⟩ h fun n3 h => K (Value.int .u32 n3) h
  | _ => False
def cs364 (f374 : T374) : Calls' := callsT [(374, c374 f374)]
def dcs364 : Calls' := callsT []
def hn364 : Hints := ⟨[(2, [(4, .int .u32), (9, .int .i64)])], [], []⟩
theorem d364 (c1 : Array Value) (s2 : Sl) (h : Mem) (K : Value → Mem → Prop) : denF tys (cs364 (crc_On tau)) (dcs364) hn364 (Go.Proofs.Tryz.f364.body.getD .skip) Go.Proofs.Tryz.f364.results.toList [(Value.agg c1), (Value.slice s2.base s2.len s2.cap)] h K = crc_on tau c1 s2 h fun n3 h => K (Value.int .u32 n3) h := by delta crc_on; generalize crc_On tau = f374; revert f374; refine keep ?_; intro f374; kernel_rfl
abbrev T365 := Mem → (Array Value → Mem → Prop) → Prop
def c365 (f : T365) : CallP := fun vs h K => match vs with
  | [] => f  h fun c1 h => K (Value.agg c1) h
  | _ => False
def cs365 : Calls' := callsT []
def dcs365 : Calls' := callsT []
def hn365 : Hints := ⟨[(2, [(4, .int .i64)]), (6, [(2, .int .u32), (9, .int .i64)])], [], []⟩
theorem d365 (h : Mem) (K : Value → Mem → Prop) : denF tys (cs365) (dcs365) hn365 (Go.Proofs.Tryz.f365.body.getD .skip) Go.Proofs.Tryz.f365.results.toList [] h K = crc_Table tau  h fun c1 h => K (Value.agg c1) h := by delta crc_Table; kernel_rfl
abbrev T337 := Sl → Mem → (Int → Mem → Prop) → Prop
def c337 (f : T337) : CallP := fun vs h K => match vs with
  | [.slice s1b s1l s1c] => f ⟨s1b, s1l, s1c⟩ h fun n2 h => K (Value.int .u32 n2) h
  | _ => False
def cs337 (f364 : T364) (f365 : T365) : Calls' := callsT [(364, c364 f364), (365, c365 f365)]
def dcs337 : Calls' := callsT []
def hn337 : Hints := ⟨[], [], []⟩
theorem d337 (s1 : Sl) (h : Mem) (K : Value → Mem → Prop) : denF tys (cs337 (crc_on tau) (crc_Table tau)) (dcs337) hn337 (Go.Proofs.Tryz.f337.body.getD .skip) Go.Proofs.Tryz.f337.results.toList [(Value.slice s1.base s1.len s1.cap)] h K = crc_Parts tau s1 h fun n2 h => K (Value.int .u32 n2) h := by delta crc_Parts; generalize crc_on tau = f364; generalize crc_Table tau = f365; revert f364 f365; refine keep ?_; intro f364 f365; kernel_rfl
abbrev T300 := Sl → Mem → (Int → Mem → Prop) → Prop
def c300 (f : T300) : CallP := fun vs h K => match vs with
  | [.slice s1b s1l s1c] => f ⟨s1b, s1l, s1c⟩ h fun n2 h => K (Value.int .u32 n2) h
  | _ => False
def cs300 (f337 : T337) : Calls' := callsT [(337, c337 f337)]
def dcs300 : Calls' := callsT []
def hn300 : Hints := ⟨[], [(1, [0, 1, 0, 0, 8, 31, 63, 127])], []⟩
theorem d300 (s1 : Sl) (h : Mem) (K : Value → Mem → Prop) : denF tys (cs300 (crc_Parts tau)) (dcs300) hn300 (Go.Proofs.Tryz.f300.body.getD .skip) Go.Proofs.Tryz.f300.results.toList [(Value.slice s1.base s1.len s1.cap)] h K = page_crcOf tau s1 h fun n2 h => K (Value.int .u32 n2) h := by delta page_crcOf; generalize crc_Parts tau = f337; revert f337; refine keep ?_; intro f337; kernel_rfl
abbrev T232 := Int → Int → Sl → Mem → (Sl → Int → Mem → Prop) → Prop
def c232 (f : T232) : CallP := fun vs h K => match vs with
  | [.agg ⟨[.int .i64 n1, .int .u32 n2, .slice s3b s3l s3c]⟩] => f n1 n2 ⟨s3b, s3l, s3c⟩ h fun s4 n5 h => K (Value.tuple #[(Value.slice s4.base s4.len s4.cap), (Value.int .i64 n5)]) h
  | _ => False
def cs232 (f112 : T112) (f300 : T300) : Calls' := callsT [(112, c112 f112), (300, c300 f300)]
def dcs232 : Calls' := callsT []
def hn232 : Hints := ⟨[], [(6, [0, 1, 0, 4, 15]), (7, [0, 1, 0, 4, 12, 28, 63])], []⟩
theorem d232 (n1 : Int) (n2 : Int) (s3 : Sl) (h : Mem) (K : Value → Mem → Prop) : denF tys (cs232 (octet_Word tau) (page_crcOf tau)) (dcs232) hn232 (Go.Proofs.Tryz.f232.body.getD .skip) Go.Proofs.Tryz.f232.results.toList [(Value.agg #[(Value.int .i64 n1), (Value.int .u32 n2), (Value.slice s3.base s3.len s3.cap)])] h K = page_Bytes tau n1 n2 s3 h fun s4 n5 h => K (Value.tuple #[(Value.slice s4.base s4.len s4.cap), (Value.int .i64 n5)]) h := by delta page_Bytes; generalize octet_Word tau = f112; generalize page_crcOf tau = f300; revert f112 f300; refine keep ?_; intro f112 f300; kernel_rfl
abbrev T306 := Sl → Sl → Mem → (Bool → Mem → Prop) → Prop
def c306 (f : T306) : CallP := fun vs h K => match vs with
  | [.slice s1b s1l s1c, .slice s2b s2l s2c] => f ⟨s1b, s1l, s1c⟩ ⟨s2b, s2l, s2c⟩ h fun b3 h => K (Value.bool b3) h
  | _ => False
abbrev T367 := Sl → Mem → (Mem → Prop) → Prop
def c367 (f : T367) : CallP := fun vs h K => match vs with
  | [.slice s1b s1l s1c] => f ⟨s1b, s1l, s1c⟩ h fun  h => K (Value.tuple #[]) h
  | _ => False
def cs367 : Calls' := callsT []
def dcs367 : Calls' := callsT []
def hn367 : Hints := ⟨[(1, [(2, .int .i64), (3, .int .i64)])], [(3, [0, 0, 0, 0, 0, 0, 48, 112, 0, 0, 768, 1792, 4083, 8179, 16383, 32767])], []⟩
theorem d367 (s1 : Sl) (h : Mem) (K : Value → Mem → Prop) : denF tys (cs367) (dcs367) hn367 (Go.Proofs.Tryz.f367.body.getD .skip) Go.Proofs.Tryz.f367.results.toList [(Value.slice s1.base s1.len s1.cap)] h K = slices_Reverse_int_int tau s1 h fun  h => K (Value.tuple #[]) h := by delta slices_Reverse_int_int; kernel_rfl
abbrev T342 := Sl → Int → Mem → (Mem → Prop) → Prop
def c342 (f : T342) : CallP := fun vs h K => match vs with
  | [.slice s1b s1l s1c, .int .i64 n2] => f ⟨s1b, s1l, s1c⟩ n2 h fun  h => K (Value.tuple #[]) h
  | _ => False
def cs342 (f367 : T367) : Calls' := callsT [(367, c367 f367)]
def dcs342 : Calls' := callsT []
def hn342 : Hints := ⟨[], [], []⟩
theorem d342 (s1 : Sl) (n2 : Int) (h : Mem) (K : Value → Mem → Prop) : denF tys (cs342 (slices_Reverse_int_int tau)) (dcs342) hn342 (Go.Proofs.Tryz.f342.body.getD .skip) Go.Proofs.Tryz.f342.results.toList [(Value.slice s1.base s1.len s1.cap), (Value.int .i64 n2)] h K = slices_rotateLeft_int tau s1 n2 h fun  h => K (Value.tuple #[]) h := by delta slices_rotateLeft_int; generalize slices_Reverse_int_int tau = f367; revert f367; refine keep ?_; intro f367; kernel_rfl
abbrev T307 := Sl → Int → Mem → (Mem → Prop) → Prop
def c307 (f : T307) : CallP := fun vs h K => match vs with
  | [.slice s1b s1l s1c, .int .i64 n2] => f ⟨s1b, s1l, s1c⟩ n2 h fun  h => K (Value.tuple #[]) h
  | _ => False
def cs307 (f342 : T342) : Calls' := callsT [(342, c342 f342)]
def dcs307 : Calls' := callsT []
def hn307 : Hints := ⟨[], [], []⟩
theorem d307 (s1 : Sl) (n2 : Int) (h : Mem) (K : Value → Mem → Prop) : denF tys (cs307 (slices_rotateLeft_int tau)) (dcs307) hn307 (Go.Proofs.Tryz.f307.body.getD .skip) Go.Proofs.Tryz.f307.results.toList [(Value.slice s1.base s1.len s1.cap), (Value.int .i64 n2)] h K = slices_rotateRight_int tau s1 n2 h fun  h => K (Value.tuple #[]) h := by delta slices_rotateRight_int; generalize slices_rotateLeft_int tau = f342; revert f342; refine keep ?_; intro f342; kernel_rfl
abbrev T254 := Sl → Int → Sl → Mem → (Sl → Mem → Prop) → Prop
def c254 (f : T254) : CallP := fun vs h K => match vs with
  | [.slice s1b s1l s1c, .int .i64 n2, .slice s3b s3l s3c] => f ⟨s1b, s1l, s1c⟩ n2 ⟨s3b, s3l, s3c⟩ h fun s4 h => K (Value.slice s4.base s4.len s4.cap) h
  | _ => False
def cs254 (f306 : T306) (f307 : T307) : Calls' := callsT [(306, c306 f306), (307, c307 f307)]
def dcs254 : Calls' := callsT []
def hn254 : Hints := ⟨[], [(11, [0, 0, 0, 6, 15, 0, 0, 96, 255]), (15, [0, 0, 0, 6, 15, 0, 0, 96, 255])], []⟩
theorem d254 (s1 : Sl) (n2 : Int) (s3 : Sl) (h : Mem) (K : Value → Mem → Prop) : denF tys (cs254 (slices_overlaps_int tau) (slices_rotateRight_int tau)) (dcs254) hn254 (Go.Proofs.Tryz.f254.body.getD .skip) Go.Proofs.Tryz.f254.results.toList [(Value.slice s1.base s1.len s1.cap), (Value.int .i64 n2), (Value.slice s3.base s3.len s3.cap)] h K = slices_Insert_int_int tau s1 n2 s3 h fun s4 h => K (Value.slice s4.base s4.len s4.cap) h := by delta slices_Insert_int_int; generalize slices_overlaps_int tau = f306; generalize slices_rotateRight_int tau = f307; revert f306 f307; refine keep ?_; intro f306 f307; kernel_rfl
abbrev T267 := Int → Mem → (Bool → Mem → Prop) → Prop
def c267 (f : T267) : CallP := fun vs h K => match vs with
  | [.int .u8 n1] => f n1 h fun b2 h => K (Value.bool b2) h
  | _ => False
def cs267 : Calls' := callsT []
def dcs267 : Calls' := callsT []
def hn267 : Hints := ⟨[], [], []⟩
theorem d267 (n1 : Int) (h : Mem) (K : Value → Mem → Prop) : denF tys (cs267) (dcs267) hn267 (Go.Proofs.Tryz.f267.body.getD .skip) Go.Proofs.Tryz.f267.results.toList [(Value.int .u8 n1)] h K = index_Load_1 tau n1 h fun b2 h => K (Value.bool b2) h := by delta index_Load_1; kernel_rfl
abbrev T314 := Sl → Mem → (Int → Mem → Prop) → Prop
def c314 (f : T314) : CallP := fun vs h K => match vs with
  | [.slice s1b s1l s1c, .func (.func 267) ⟨[]⟩ ⟨[]⟩] => f ⟨s1b, s1l, s1c⟩ h fun n2 h => K (Value.int .i64 n2) h
  | _ => False
def cs314 (f267 : T267) : Calls' := callsT [(267, c267 f267)]
def dcs314 : Calls' := callsT []
def hn314 : Hints := ⟨[(2, [(8, .int .i64)])], [], []⟩
theorem d314 (s1 : Sl) (h : Mem) (K : Value → Mem → Prop) : denF tys (cs314 (index_Load_1 tau)) (dcs314) hn314 (Go.Proofs.Tryz.f314.body.getD .skip) Go.Proofs.Tryz.f314.results.toList [(Value.slice s1.base s1.len s1.cap), (Value.func (.func 267) #[] #[])] h K = slices_IndexFunc_byte_byte tau s1 h fun n2 h => K (Value.int .i64 n2) h := by delta slices_IndexFunc_byte_byte; generalize index_Load_1 tau = f267; revert f267; refine keep ?_; intro f267; kernel_rfl
abbrev T326 := Sl → Int → Mem → (Sl → Mem → Prop) → Prop
def c326 (f : T326) : CallP := fun vs h K => match vs with
  | [.slice s1b s1l s1c, .int .u8 n2] => f ⟨s1b, s1l, s1c⟩ n2 h fun s3 h => K (Value.slice s3.base s3.len s3.cap) h
  | _ => False
def cs326 : Calls' := callsT []
def dcs326 : Calls' := callsT []
def hn326 : Hints := ⟨[(1, [(0, .sl)])], [], []⟩
theorem d326 (s1 : Sl) (n2 : Int) (h : Mem) (K : Value → Mem → Prop) : denF tys (cs326) (dcs326) hn326 (Go.Proofs.Tryz.f326.body.getD .skip) Go.Proofs.Tryz.f326.results.toList [(Value.slice s1.base s1.len s1.cap), (Value.int .u8 n2)] h K = bytes_trimRightByte tau s1 n2 h fun s3 h => K (Value.slice s3.base s3.len s3.cap) h := by delta bytes_trimRightByte; kernel_rfl
abbrev T343 := Sl → Mem → (Bool → Mem → Prop) → Prop
def c343 (f : T343) : CallP := fun vs h K => match vs with
  | [.slice s1b s1l s1c] => f ⟨s1b, s1l, s1c⟩ h fun b2 h => K (Value.bool b2) h
  | _ => False
def cs343 : Calls' := callsT []
def dcs343 : Calls' := callsT []
def hn343 : Hints := ⟨[(2, [(7, .int .i64)])], [], []⟩
theorem d343 (s1 : Sl) (h : Mem) (K : Value → Mem → Prop) : denF tys (cs343) (dcs343) hn343 (Go.Proofs.Tryz.f343.body.getD .skip) Go.Proofs.Tryz.f343.results.toList [(Value.slice s1.base s1.len s1.cap)] h K = slots_noughts tau s1 h fun b2 h => K (Value.bool b2) h := by delta slots_noughts; kernel_rfl
abbrev T100 := Option Addr → Mem → (Int → Mem → Prop) → Prop
def c100 (f : T100) : CallP := fun vs h K => match vs with
  | [.pointer p1] => f p1 h fun n2 h => K (Value.int .i64 n2) h
  | _ => False
def cs100 (f174 : T174) : Calls' := callsT [(174, c174 f174)]
def dcs100 : Calls' := callsT []
def hn100 : Hints := ⟨[], [], []⟩
theorem d100 (p1 : Option Addr) (h : Mem) (K : Value → Mem → Prop) : denF tys (cs100 (octet_Reader_made tau)) (dcs100) hn100 (Go.Proofs.Tryz.f100.body.getD .skip) Go.Proofs.Tryz.f100.results.toList [(Value.pointer p1)] h K = octet_Reader_Err tau p1 h fun n2 h => K (Value.int .i64 n2) h := by delta octet_Reader_Err; generalize octet_Reader_made tau = f174; revert f174; refine keep ?_; intro f174; kernel_rfl
abbrev T175 := Option Addr → Mem → (Int → Mem → Prop) → Prop
def c175 (f : T175) : CallP := fun vs h K => match vs with
  | [.pointer p1] => f p1 h fun n2 h => K (Value.int .i64 n2) h
  | _ => False
def cs175 (f174 : T174) : Calls' := callsT [(174, c174 f174)]
def dcs175 : Calls' := callsT []
def hn175 : Hints := ⟨[], [(3, [0, 1, 3, 7, 15, 0, 32, 96, 224, 511, 1023])], []⟩
theorem d175 (p1 : Option Addr) (h : Mem) (K : Value → Mem → Prop) : denF tys (cs175 (octet_Reader_made tau)) (dcs175) hn175 (Go.Proofs.Tryz.f175.body.getD .skip) Go.Proofs.Tryz.f175.results.toList [(Value.pointer p1)] h K = octet_Reader_Left tau p1 h fun n2 h => K (Value.int .i64 n2) h := by delta octet_Reader_Left; generalize octet_Reader_made tau = f174; revert f174; refine keep ?_; intro f174; kernel_rfl
abbrev T204 := Int → Int → Mem → (Bool → Mem → Prop) → Prop
def c204 (f : T204) : CallP := fun vs h K => match vs with
  | [.agg ⟨[.int .i64 n1, .int .i64 n2]⟩] => f n1 n2 h fun b3 h => K (Value.bool b3) h
  | _ => False
def cs204 : Calls' := callsT []
def dcs204 : Calls' := callsT []
def hn204 : Hints := ⟨[], [], []⟩
theorem d204 (n1 : Int) (n2 : Int) (h : Mem) (K : Value → Mem → Prop) : denF tys (cs204) (dcs204) hn204 (Go.Proofs.Tryz.f204.body.getD .skip) Go.Proofs.Tryz.f204.results.toList [(Value.agg #[(Value.int .i64 n1), (Value.int .i64 n2)])] h K = bucket_may tau n1 n2 h fun b3 h => K (Value.bool b3) h := by delta bucket_may; kernel_rfl
abbrev T318 := Sl → Mem → (Int → Mem → Prop) → Prop
def c318 (f : T318) : CallP := fun vs h K => match vs with
  | [.slice s1b s1l s1c] => f ⟨s1b, s1l, s1c⟩ h fun n2 h => K (Value.int .i64 n2) h
  | _ => False
def cs318 : Calls' := callsT []
def dcs318 : Calls' := callsT []
def hn318 : Hints := ⟨[(3, [(8, .int .i64)])], [], []⟩
theorem d318 (s1 : Sl) (h : Mem) (K : Value → Mem → Prop) : denF tys (cs318) (dcs318) hn318 (Go.Proofs.Tryz.f318.body.getD .skip) Go.Proofs.Tryz.f318.results.toList [(Value.slice s1.base s1.len s1.cap)] h K = cmp_Or_int tau s1 h fun n2 h => K (Value.int .i64 n2) h := by delta cmp_Or_int; kernel_rfl
abbrev T347 := Int → Mem → (Bool → Mem → Prop) → Prop
def c347 (f : T347) : CallP := fun vs h K => match vs with
  | [.int .u64 n1] => f n1 h fun b2 h => K (Value.bool b2) h
  | _ => False
def cs347 : Calls' := callsT []
def dcs347 : Calls' := callsT []
def hn347 : Hints := ⟨[], [], []⟩
theorem d347 (n1 : Int) (h : Mem) (K : Value → Mem → Prop) : denF tys (cs347) (dcs347) hn347 (Go.Proofs.Tryz.f347.body.getD .skip) Go.Proofs.Tryz.f347.results.toList [(Value.int .u64 n1)] h K = cmp_isNaN_uint64 tau n1 h fun b2 h => K (Value.bool b2) h := by delta cmp_isNaN_uint64; kernel_rfl
abbrev T319 := Int → Int → Mem → (Int → Mem → Prop) → Prop
def c319 (f : T319) : CallP := fun vs h K => match vs with
  | [.int .u64 n1, .int .u64 n2] => f n1 n2 h fun n3 h => K (Value.int .i64 n3) h
  | _ => False
def cs319 (f347 : T347) : Calls' := callsT [(347, c347 f347)]
def dcs319 : Calls' := callsT []
def hn319 : Hints := ⟨[], [], []⟩
theorem d319 (n1 : Int) (n2 : Int) (h : Mem) (K : Value → Mem → Prop) : denF tys (cs319 (cmp_isNaN_uint64 tau)) (dcs319) hn319 (Go.Proofs.Tryz.f319.body.getD .skip) Go.Proofs.Tryz.f319.results.toList [(Value.int .u64 n1), (Value.int .u64 n2)] h K = cmp_Compare_uint64 tau n1 n2 h fun n3 h => K (Value.int .i64 n3) h := by delta cmp_Compare_uint64; generalize cmp_isNaN_uint64 tau = f347; revert f347; refine keep ?_; intro f347; kernel_rfl
abbrev T304 := Int → Mem → (Bool → Mem → Prop) → Prop
def c304 (f : T304) : CallP := fun vs h K => match vs with
  | [.int .i64 n1] => f n1 h fun b2 h => K (Value.bool b2) h
  | _ => False
def cs304 : Calls' := callsT []
def dcs304 : Calls' := callsT []
def hn304 : Hints := ⟨[], [], []⟩
theorem d304 (n1 : Int) (h : Mem) (K : Value → Mem → Prop) : denF tys (cs304) (dcs304) hn304 (Go.Proofs.Tryz.f304.body.getD .skip) Go.Proofs.Tryz.f304.results.toList [(Value.int .i64 n1)] h K = cmp_isNaN_int tau n1 h fun b2 h => K (Value.bool b2) h := by delta cmp_isNaN_int; kernel_rfl
abbrev T320 := Int → Int → Mem → (Int → Mem → Prop) → Prop
def c320 (f : T320) : CallP := fun vs h K => match vs with
  | [.int .i64 n1, .int .i64 n2] => f n1 n2 h fun n3 h => K (Value.int .i64 n3) h
  | _ => False
def cs320 (f304 : T304) : Calls' := callsT [(304, c304 f304)]
def dcs320 : Calls' := callsT []
def hn320 : Hints := ⟨[], [], []⟩
theorem d320 (n1 : Int) (n2 : Int) (h : Mem) (K : Value → Mem → Prop) : denF tys (cs320 (cmp_isNaN_int tau)) (dcs320) hn320 (Go.Proofs.Tryz.f320.body.getD .skip) Go.Proofs.Tryz.f320.results.toList [(Value.int .i64 n1), (Value.int .i64 n2)] h K = cmp_Compare_int tau n1 n2 h fun n3 h => K (Value.int .i64 n3) h := by delta cmp_Compare_int; generalize cmp_isNaN_int tau = f304; revert f304; refine keep ?_; intro f304; kernel_rfl
abbrev T272 := Int → Int → Int → Int → Int → Int → Mem → (Int → Mem → Prop) → Prop
def c272 (f : T272) : CallP := fun vs h K => match vs with
  | [.agg ⟨[.int .u64 n1, .int .i64 n2, .int .i64 n3]⟩, .agg ⟨[.int .u64 n4, .int .i64 n5, .int .i64 n6]⟩] => f n1 n2 n3 n4 n5 n6 h fun n7 h => K (Value.int .i64 n7) h
  | _ => False
def cs272 (f318 : T318) (f319 : T319) (f320 : T320) : Calls' := callsT [(318, c318 f318), (319, c319 f319), (320, c320 f320)]
def dcs272 : Calls' := callsT []
def hn272 : Hints := ⟨[], [(1, [0, 1, 0, 4, 15, 0, 32, 96, 0, 256, 768, 2047, 0, 4096, 12288, 0, 32768, 98304, 262143, 524287, 1048575, 2097151])], []⟩
theorem d272 (n1 : Int) (n2 : Int) (n3 : Int) (n4 : Int) (n5 : Int) (n6 : Int) (h : Mem) (K : Value → Mem → Prop) : denF tys (cs272 (cmp_Or_int tau) (cmp_Compare_uint64 tau) (cmp_Compare_int tau)) (dcs272) hn272 (Go.Proofs.Tryz.f272.body.getD .skip) Go.Proofs.Tryz.f272.results.toList [(Value.agg #[(Value.int .u64 n1), (Value.int .i64 n2), (Value.int .i64 n3)]), (Value.agg #[(Value.int .u64 n4), (Value.int .i64 n5), (Value.int .i64 n6)])] h K = bucket_Compare tau n1 n2 n3 n4 n5 n6 h fun n7 h => K (Value.int .i64 n7) h := by delta bucket_Compare; generalize cmp_Or_int tau = f318; generalize cmp_Compare_uint64 tau = f319; generalize cmp_Compare_int tau = f320; revert f318 f319 f320; refine keep ?_; intro f318 f319 f320; kernel_rfl
abbrev T203 := Int → Sl → Mem → (Int → Mem → Prop) → Prop
def c203 (f : T203) : CallP := fun vs h K => match vs with
  | [.agg ⟨[.int .i64 n1, .slice s2b s2l s2c]⟩] => f n1 ⟨s2b, s2l, s2c⟩ h fun n3 h => K (Value.int .i64 n3) h
  | _ => False
def cs203 (f204 : T204) (f272 : T272) : Calls' := callsT [(204, c204 f204), (272, c272 f272)]
def dcs203 : Calls' := callsT []
def hn203 : Hints := ⟨[(4, [(22, .int .i64)])], [(6, [0, 1, 3, 7, 15, 31, 63, 127, 255, 511, 255, 1279, 4095, 8191, 255, 32767, 65535, 131071, 262143])], []⟩
theorem d203 (n1 : Int) (s2 : Sl) (h : Mem) (K : Value → Mem → Prop) : denF tys (cs203 (bucket_may tau) (bucket_Compare tau)) (dcs203) hn203 (Go.Proofs.Tryz.f203.body.getD .skip) Go.Proofs.Tryz.f203.results.toList [(Value.agg #[(Value.int .i64 n1), (Value.slice s2.base s2.len s2.cap)])] h K = bucket_Check tau n1 s2 h fun n3 h => K (Value.int .i64 n3) h := by delta bucket_Check; generalize bucket_may tau = f204; generalize bucket_Compare tau = f272; revert f204 f272; refine keep ?_; intro f204 f272; kernel_rfl
abbrev T346 := Sl → Mem → (Int → Sl → Int → Mem → Prop) → Prop
def c346 (f : T346) : CallP := fun vs h K => match vs with
  | [.slice s1b s1l s1c] => f ⟨s1b, s1l, s1c⟩ h fun n2 s3 n4 h => K (Value.tuple #[(Value.agg #[(Value.int .i64 n2), (Value.slice s3.base s3.len s3.cap)]), (Value.int .i64 n4)]) h
  | _ => False
def cs346 (f96 : T96) (f97 : T97) (f100 : T100) (f175 : T175) (f203 : T203) : Calls' := callsT [(96, c96 f96), (97, c97 f97), (100, c100 f100), (175, c175 f175), (203, c203 f203)]
def dcs346 : Calls' := callsT []
def hn346 : Hints := ⟨[(4, [(6, .int .u64)]), (10, [(58, .int .i64)])], [(6, [0, 1, 0, 4, 0, 28, 60, 0, 188, 444, 1020, 2044, 4092, 8191, 16383, 32767])], []⟩
theorem d346 (s1 : Sl) (h : Mem) (K : Value → Mem → Prop) : denF tys (cs346 (octet_New tau) (octet_Reader_Word tau) (octet_Reader_Err tau) (octet_Reader_Left tau) (bucket_Check tau)) (dcs346) hn346 (Go.Proofs.Tryz.f346.body.getD .skip) Go.Proofs.Tryz.f346.results.toList [(Value.slice s1.base s1.len s1.cap)] h K = bucket_Read tau s1 h fun n2 s3 n4 h => K (Value.tuple #[(Value.agg #[(Value.int .i64 n2), (Value.slice s3.base s3.len s3.cap)]), (Value.int .i64 n4)]) h := by delta bucket_Read; generalize octet_New tau = f96; generalize octet_Reader_Word tau = f97; generalize octet_Reader_Err tau = f100; generalize octet_Reader_Left tau = f175; generalize bucket_Check tau = f203; revert f96 f97 f100 f175 f203; refine keep ?_; intro f96 f97 f100 f175 f203; kernel_rfl
end Go.TS.Tryz
/- The types of the seat. -/
namespace Go.TS.Tryz
open Go Go.TS
set_option linter.unusedVariables false
set_option maxRecDepth 100000
theorem hm : Go.Proofs.Tryz.prog.follows .mixedOrders = true := by kernel_rfl
theorem ty3 : TyOk Go.Proofs.Tryz.prog 3 ⟨.int .i64, (Value.int .i64 0), 1, 8, .leaf (.int .i64)⟩ := ⟨Go.Proofs.Tryz.underlying3, by kernel_rfl, by kernel_rfl, trivial⟩
theorem ty4 : TyOk Go.Proofs.Tryz.prog 4 ⟨.bool, (Value.bool false), 1, 1, .leaf (.bool)⟩ := ⟨Go.Proofs.Tryz.underlying4, by kernel_rfl, by kernel_rfl, trivial⟩
theorem ty5 : TyOk Go.Proofs.Tryz.prog 5 ⟨.int .u8, (Value.int .u8 0), 1, 1, .leaf (.int .u8)⟩ := ⟨Go.Proofs.Tryz.underlying5, by kernel_rfl, by kernel_rfl, trivial⟩
theorem ty23 : TyOk Go.Proofs.Tryz.prog 23 ⟨.pointer 128, (Value.pointer none), 1, 8, .leaf (.ptr)⟩ := ⟨Go.Proofs.Tryz.underlying23, by kernel_rfl, by kernel_rfl, trivial⟩
theorem ty30 : TyOk Go.Proofs.Tryz.prog 30 ⟨.int .u64, (Value.int .u64 0), 1, 8, .leaf (.int .u64)⟩ := ⟨Go.Proofs.Tryz.underlying30, by kernel_rfl, by kernel_rfl, trivial⟩
theorem ty35 : TyOk Go.Proofs.Tryz.prog 35 ⟨.int .i64, (Value.int .i64 0), 1, 8, .leaf (.int .i64)⟩ := ⟨Go.Proofs.Tryz.underlying35, by kernel_rfl, by kernel_rfl, trivial⟩
theorem ty39 : TyOk Go.Proofs.Tryz.prog 39 ⟨.slice 5, (Value.slice none 0 0), 1, 24, .leaf (.sl)⟩ := ⟨Go.Proofs.Tryz.underlying39, by kernel_rfl, by kernel_rfl, trivial⟩
theorem ty85 : TyOk Go.Proofs.Tryz.prog 85 ⟨.struct #[⟨ "Page", 3, 0, false, "", "", 0⟩, ⟨ "Slot", 3, 1, false, "", "", 8⟩], (Value.agg #[(Value.int .i64 0), (Value.int .i64 0)]), 2, 16, .agg [.int .i64, .int .i64]⟩ := ⟨Go.Proofs.Tryz.underlying85, by kernel_rfl, by kernel_rfl, ⟨by kernel_rfl, by kernel_rfl⟩⟩
theorem ty91 : TyOk Go.Proofs.Tryz.prog 91 ⟨.slice 3, (Value.slice none 0 0), 1, 24, .leaf (.sl)⟩ := ⟨Go.Proofs.Tryz.underlying91, by kernel_rfl, by kernel_rfl, trivial⟩
theorem ty116 : TyOk Go.Proofs.Tryz.prog 116 ⟨.struct #[⟨ "Hash", 30, 0, false, "", "", 0⟩, ⟨ "Place", 85, 1, false, "", "", 8⟩], (Value.agg #[(Value.int .u64 0), (Value.int .i64 0), (Value.int .i64 0)]), 3, 24, .agg [.int .u64, .int .i64, .int .i64]⟩ := ⟨Go.Proofs.Tryz.underlying116, by kernel_rfl, by kernel_rfl, ⟨by kernel_rfl, by kernel_rfl⟩⟩
theorem ty125 : TyOk Go.Proofs.Tryz.prog 125 ⟨.map 3 39, (Value.map none), 1, 8, .leaf (.map)⟩ := ⟨Go.Proofs.Tryz.underlying125, by kernel_rfl, by kernel_rfl, trivial⟩
theorem ty126 : TyOk Go.Proofs.Tryz.prog 126 ⟨.pointer 3, (Value.pointer none), 1, 8, .leaf (.ptr)⟩ := ⟨Go.Proofs.Tryz.underlying126, by kernel_rfl, by kernel_rfl, trivial⟩
theorem ty128 : TyOk Go.Proofs.Tryz.prog 128 ⟨.struct #[⟨ "b", 39, 0, false, "", "tallyman/sector", 0⟩, ⟨ "cache", 125, 1, false, "", "tallyman/sector", 24⟩, ⟨ "order", 91, 2, false, "", "tallyman/sector", 32⟩, ⟨ "left", 126, 3, false, "", "tallyman/sector", 56⟩], (Value.agg #[(Value.slice none 0 0), (Value.map none), (Value.slice none 0 0), (Value.pointer none)]), 4, 64, .agg [.sl, .map, .sl, .ptr]⟩ := ⟨Go.Proofs.Tryz.underlying128, by kernel_rfl, by kernel_rfl, ⟨by kernel_rfl, by kernel_rfl⟩⟩
theorem ty150 : TyOk Go.Proofs.Tryz.prog 150 ⟨.slice 39, (Value.slice none 0 0), 1, 24, .leaf (.sl)⟩ := ⟨Go.Proofs.Tryz.underlying150, by kernel_rfl, by kernel_rfl, trivial⟩
theorem ty161 : TyOk Go.Proofs.Tryz.prog 161 ⟨.int .u32, (Value.int .u32 0), 1, 4, .leaf (.int .u32)⟩ := ⟨Go.Proofs.Tryz.underlying161, by kernel_rfl, by kernel_rfl, trivial⟩
theorem ty163 : TyOk Go.Proofs.Tryz.prog 163 ⟨.struct #[⟨ "Kind", 3, 0, false, "", "", 0⟩, ⟨ "Number", 161, 1, false, "", "", 8⟩, ⟨ "Body", 39, 2, false, "", "", 16⟩], (Value.agg #[(Value.int .i64 0), (Value.int .u32 0), (Value.slice none 0 0)]), 3, 40, .agg [.int .i64, .int .u32, .sl]⟩ := ⟨Go.Proofs.Tryz.underlying163, by kernel_rfl, by kernel_rfl, ⟨by kernel_rfl, by kernel_rfl⟩⟩
theorem ty166 : TyOk Go.Proofs.Tryz.prog 166 ⟨.pointer 258, (Value.pointer none), 1, 8, .leaf (.ptr)⟩ := ⟨Go.Proofs.Tryz.underlying166, by kernel_rfl, by kernel_rfl, trivial⟩
theorem ty204 : TyOk Go.Proofs.Tryz.prog 204 ⟨.slice 116, (Value.slice none 0 0), 1, 24, .leaf (.sl)⟩ := ⟨Go.Proofs.Tryz.underlying204, by kernel_rfl, by kernel_rfl, trivial⟩
theorem ty206 : TyOk Go.Proofs.Tryz.prog 206 ⟨.struct #[⟨ "Next", 3, 0, false, "", "", 0⟩, ⟨ "Refs", 204, 1, false, "", "", 8⟩], (Value.agg #[(Value.int .i64 0), (Value.slice none 0 0)]), 2, 32, .agg [.int .i64, .sl]⟩ := ⟨Go.Proofs.Tryz.underlying206, by kernel_rfl, by kernel_rfl, ⟨by kernel_rfl, by kernel_rfl⟩⟩
theorem ty237 : TyOk Go.Proofs.Tryz.prog 237 ⟨.slice 91, (Value.slice none 0 0), 1, 24, .leaf (.sl)⟩ := ⟨Go.Proofs.Tryz.underlying237, by kernel_rfl, by kernel_rfl, trivial⟩
theorem ty258 : TyOk Go.Proofs.Tryz.prog 258 ⟨.struct #[⟨ "b", 39, 0, false, "", "tallyman/octet", 0⟩, ⟨ "at", 3, 1, false, "", "tallyman/octet", 24⟩, ⟨ "err", 35, 2, false, "", "tallyman/octet", 32⟩, ⟨ "is", 4, 3, false, "", "tallyman/octet", 40⟩], (Value.agg #[(Value.slice none 0 0), (Value.int .i64 0), (Value.int .i64 0), (Value.bool false)]), 4, 48, .agg [.sl, .int .i64, .int .i64, .bool]⟩ := ⟨Go.Proofs.Tryz.underlying258, by kernel_rfl, by kernel_rfl, ⟨by kernel_rfl, by kernel_rfl⟩⟩
theorem ty441 : TyOk Go.Proofs.Tryz.prog 441 ⟨.array 256 161, (Value.agg (Array.replicate 256 (Value.int .u32 0))), 256, 1024, .arr 256⟩ := ⟨Go.Proofs.Tryz.underlying441, by kernel_rfl, by kernel_rfl, trivial⟩
theorem tysOk : TysOk Go.Proofs.Tryz.prog tys := tysOk_of (.cons ty3 (.cons ty4 (.cons ty5 (.cons ty23 (.cons ty30 (.cons ty35 (.cons ty39 (.cons ty85 (.cons ty91 (.cons ty116 (.cons ty125 (.cons ty126 (.cons ty128 (.cons ty150 (.cons ty161 (.cons ty163 (.cons ty166 (.cons ty204 (.cons ty206 (.cons ty237 (.cons ty258 (.cons ty441 (.nil)))))))))))))))))))))))
end Go.TS.Tryz
/- The layer 'TS': soundness of what the printer does not print. -/
namespace Go.TS
open Go
theorem overlaps_gives {P : Program} {f : FuncId} {fn : Func} {tS tR e : TypeId} {τ : Nat → Nat} {sz : Nat} (hf : P.funcs[f]? = some fn) (hname : (fn.name == "runtime.NumGoroutine") = false)
    (hb : fn.body.isNone = true) (hn : Extern.findNext fn = none) (he : Extern.find fn = some (Extern.SlicesOverlaps.overlaps #[tS, tS] #[tR])) (ht : P.underlying tS = some (.slice e))
    (hz : ∀ w, (Go.sizeOf e).run P w = .ok sz w) {s1 s2 : Sl} {w : World} {K : Value → Mem → Prop} (h : slices_overlaps_int τ s1 s2 w.heap fun b h => K (.bool b) h) :
    ∃ v w', (callFunc f [Value.slice s1.base s1.len s1.cap, Value.slice s2.base s2.len s2.cap].toArray).run P w = .ok (.value v) w' ∧ K v w'.heap ∧ Same w w' := by
  obtain ⟨a, b, c, e1, c', e2, ha, hb', hne, h1, h2, h0, hK⟩ := h
  refine ⟨.bool false, w, ?_, hK, Same.refl w⟩
  rw [run_callFunc_extern hf hname hb hn he, ha, hb']
  have hs1 : w.shape? a.block = some (e1, c.size) := by simp [World.shape?, h1]
  have hs2 : w.shape? b.block = some (e2, c'.size) := by simp [World.shape?, h2]
  have hf1 : w.frozen? a = false := by simp [World.frozen?, h1]
  have hf2 : w.frozen? { block := a.block, off := c.size } = false := by simp [World.frozen?, h1]
  have := Lib.run_overlaps_apart (P := P) w tS tR e ht sz hz a b s1.len s1.cap s2.len s2.cap hne e1 e2 c.size c'.size hs1 hs2 h0 hf1 hf2
  rw [this]
  rfl
end Go.TS
/- What the printer does not print. -/
namespace Go.TS.Tryz
open Go Go.TS
set_option linter.unusedVariables false
set_option maxRecDepth 100000
theorem s275 : SoundX Go.Proofs.Tryz.prog 275 (c275 (slices_overlaps_api_Ref tau)) := ⟨fun vs w K h => by
  simp only [c275] at h
  split at h
  · rename_i s1b s1l s1c s2b s2l s2c; exact overlaps_gives (tR := 0) (s1 := ⟨s1b, s1l, s1c⟩) (s2 := ⟨s2b, s2l, s2c⟩) Go.Proofs.Tryz.func275 (by kernel_rfl) (by kernel_rfl) (by kernel_rfl) (by kernel_rfl) Go.Proofs.Tryz.underlying204 Go.Proofs.Tryz.sizeOf116 h
  · exact h.elim⟩
theorem s306 : SoundX Go.Proofs.Tryz.prog 306 (c306 (slices_overlaps_int tau)) := ⟨fun vs w K h => by
  simp only [c306] at h
  split at h
  · rename_i s1b s1l s1c s2b s2l s2c; exact overlaps_gives (tR := 0) (s1 := ⟨s1b, s1l, s1c⟩) (s2 := ⟨s2b, s2l, s2c⟩) Go.Proofs.Tryz.func306 (by kernel_rfl) (by kernel_rfl) (by kernel_rfl) (by kernel_rfl) Go.Proofs.Tryz.underlying91 Go.Proofs.Tryz.sizeOf3 h
  · exact h.elim⟩
end Go.TS.Tryz
/- Each function does what it asks. -/
namespace Go.TS.Tryz
open Go Go.TS
set_option linter.unusedVariables false
set_option maxRecDepth 100000
theorem ok40 : codeOk hn40 Go.Proofs.Tryz.f40.ntmps (Go.Proofs.Tryz.f40.body.getD .skip) = true := by kernel_rfl
theorem s40 : Sound Go.Proofs.Tryz.prog 40 (c40 (slices_Clone_byte_byte tau)) := by
  refine ⟨Go.Proofs.Tryz.call40, fun vs w K h => ?_⟩
  simp only [c40] at h
  split at h
  · rename_i s1b s1l s1c; exact denF_calls hm tysOk (callsOk_of (.nil)) (defsOk_of (.nil)) Go.Proofs.Tryz.func40 (by kernel_rfl) ok40 (Nat.le_of_ble_eq_true (by kernel_rfl)) ((d40 (⟨s1b, s1l, s1c⟩) _ _).mpr h)
  · exact h.elim
theorem ok152 : codeOk hn152 Go.Proofs.Tryz.f152.ntmps (Go.Proofs.Tryz.f152.body.getD .skip) = true := by kernel_rfl
theorem s152 : Sound Go.Proofs.Tryz.prog 152 (c152 (slices_Grow_int_int tau)) := by
  refine ⟨Go.Proofs.Tryz.call152, fun vs w K h => ?_⟩
  simp only [c152] at h
  split at h
  · rename_i s1b s1l s1c n2; exact denF_calls hm tysOk (callsOk_of (.nil)) (defsOk_of (.nil)) Go.Proofs.Tryz.func152 (by kernel_rfl) ok152 (Nat.le_of_ble_eq_true (by kernel_rfl)) ((d152 (⟨s1b, s1l, s1c⟩) n2 _ _).mpr h)
  · exact h.elim
theorem ok76 : codeOk hn76 Go.Proofs.Tryz.f76.ntmps (Go.Proofs.Tryz.f76.body.getD .skip) = true := by kernel_rfl
theorem s76 : Sound Go.Proofs.Tryz.prog 76 (c76 (slices_Concat_int_int tau)) := by
  refine ⟨Go.Proofs.Tryz.call76, fun vs w K h => ?_⟩
  simp only [c76] at h
  split at h
  · rename_i s1b s1l s1c; exact denF_calls hm tysOk (callsOk_of (.cons s152 (.nil))) (defsOk_of (.nil)) Go.Proofs.Tryz.func76 (by kernel_rfl) ok76 (Nat.le_of_ble_eq_true (by kernel_rfl)) ((d76 (⟨s1b, s1l, s1c⟩) _ _).mpr h)
  · exact h.elim
theorem ok86 : codeOk hn86 Go.Proofs.Tryz.f86.ntmps (Go.Proofs.Tryz.f86.body.getD .skip) = true := by kernel_rfl
theorem s86 : Sound Go.Proofs.Tryz.prog 86 (c86 (sector_Disk_made tau)) := by
  refine ⟨Go.Proofs.Tryz.call86, fun vs w K h => ?_⟩
  simp only [c86] at h
  split at h
  · rename_i p1; exact denF_calls hm tysOk (callsOk_of (.nil)) (defsOk_of (.nil)) Go.Proofs.Tryz.func86 (by kernel_rfl) ok86 (Nat.le_of_ble_eq_true (by kernel_rfl)) ((d86 p1 _ _).mpr h)
  · exact h.elim
theorem ok87 : codeOk hn87 Go.Proofs.Tryz.f87.ntmps (Go.Proofs.Tryz.f87.body.getD .skip) = true := by kernel_rfl
theorem s87 : Sound Go.Proofs.Tryz.prog 87 (c87 (sector_Disk_sector tau)) := by
  refine ⟨Go.Proofs.Tryz.call87, fun vs w K h => ?_⟩
  simp only [c87] at h
  split at h
  · rename_i p1 n2; exact denF_calls hm tysOk (callsOk_of (.nil)) (defsOk_of (.nil)) Go.Proofs.Tryz.func87 (by kernel_rfl) ok87 (Nat.le_of_ble_eq_true (by kernel_rfl)) ((d87 p1 n2 _ _).mpr h)
  · exact h.elim
theorem ok158 : codeOk hn158 Go.Proofs.Tryz.f158.ntmps (Go.Proofs.Tryz.f158.body.getD .skip) = true := by kernel_rfl
theorem s158 : Sound Go.Proofs.Tryz.prog 158 (c158 (sector_Disk_fails tau)) := by
  refine ⟨Go.Proofs.Tryz.call158, fun vs w K h => ?_⟩
  simp only [c158] at h
  split at h
  · rename_i p1; exact denF_calls hm tysOk (callsOk_of (.nil)) (defsOk_of (.nil)) Go.Proofs.Tryz.func158 (by kernel_rfl) ok158 (Nat.le_of_ble_eq_true (by kernel_rfl)) ((d158 p1 _ _).mpr h)
  · exact h.elim
theorem ok82 : codeOk hn82 Go.Proofs.Tryz.f82.ntmps (Go.Proofs.Tryz.f82.body.getD .skip) = true := by kernel_rfl
theorem s82 : Sound Go.Proofs.Tryz.prog 82 (c82 (sector_Disk_Flush tau)) := by
  refine ⟨Go.Proofs.Tryz.call82, fun vs w K h => ?_⟩
  simp only [c82] at h
  split at h
  · rename_i p1; exact denF_calls hm tysOk (callsOk_of (.cons s86 (.cons s87 (.cons s158 (.nil))))) (defsOk_of (.nil)) Go.Proofs.Tryz.func82 (by kernel_rfl) ok82 (Nat.le_of_ble_eq_true (by kernel_rfl)) ((d82 p1 _ _).mpr h)
  · exact h.elim
theorem ok96 : codeOk hn96 Go.Proofs.Tryz.f96.ntmps (Go.Proofs.Tryz.f96.body.getD .skip) = true := by kernel_rfl
theorem s96 : Sound Go.Proofs.Tryz.prog 96 (c96 (octet_New tau)) := by
  refine ⟨Go.Proofs.Tryz.call96, fun vs w K h => ?_⟩
  simp only [c96] at h
  split at h
  · rename_i s1b s1l s1c; exact denF_calls hm tysOk (callsOk_of (.cons s40 (.nil))) (defsOk_of (.nil)) Go.Proofs.Tryz.func96 (by kernel_rfl) ok96 (Nat.le_of_ble_eq_true (by kernel_rfl)) ((d96 (⟨s1b, s1l, s1c⟩) _ _).mpr h)
  · exact h.elim
theorem ok174 : codeOk hn174 Go.Proofs.Tryz.f174.ntmps (Go.Proofs.Tryz.f174.body.getD .skip) = true := by kernel_rfl
theorem s174 : Sound Go.Proofs.Tryz.prog 174 (c174 (octet_Reader_made tau)) := by
  refine ⟨Go.Proofs.Tryz.call174, fun vs w K h => ?_⟩
  simp only [c174] at h
  split at h
  · rename_i p1; exact denF_calls hm tysOk (callsOk_of (.nil)) (defsOk_of (.nil)) Go.Proofs.Tryz.func174 (by kernel_rfl) ok174 (Nat.le_of_ble_eq_true (by kernel_rfl)) ((d174 p1 _ _).mpr h)
  · exact h.elim
theorem ok171 : codeOk hn171 Go.Proofs.Tryz.f171.ntmps (Go.Proofs.Tryz.f171.body.getD .skip) = true := by kernel_rfl
theorem s171 : Sound Go.Proofs.Tryz.prog 171 (c171 (octet_Reader_ready tau)) := by
  refine ⟨Go.Proofs.Tryz.call171, fun vs w K h => ?_⟩
  simp only [c171] at h
  split at h
  · rename_i p1; exact denF_calls hm tysOk (callsOk_of (.cons s174 (.nil))) (defsOk_of (.nil)) Go.Proofs.Tryz.func171 (by kernel_rfl) ok171 (Nat.le_of_ble_eq_true (by kernel_rfl)) ((d171 p1 _ _).mpr h)
  · exact h.elim
theorem ok172 : codeOk hn172 Go.Proofs.Tryz.f172.ntmps (Go.Proofs.Tryz.f172.body.getD .skip) = true := by kernel_rfl
theorem s172 : Sound Go.Proofs.Tryz.prog 172 (c172 (octet_Reader_fail tau)) := by
  refine ⟨Go.Proofs.Tryz.call172, fun vs w K h => ?_⟩
  simp only [c172] at h
  split at h
  · rename_i p1 n2; exact denF_calls hm tysOk (callsOk_of (.nil)) (defsOk_of (.nil)) Go.Proofs.Tryz.func172 (by kernel_rfl) ok172 (Nat.le_of_ble_eq_true (by kernel_rfl)) ((d172 p1 n2 _ _).mpr h)
  · exact h.elim
theorem ok99 : codeOk hn99 Go.Proofs.Tryz.f99.ntmps (Go.Proofs.Tryz.f99.body.getD .skip) = true := by kernel_rfl
theorem s99 : Sound Go.Proofs.Tryz.prog 99 (c99 (octet_Reader_Fixed tau)) := by
  refine ⟨Go.Proofs.Tryz.call99, fun vs w K h => ?_⟩
  simp only [c99] at h
  split at h
  · rename_i p1 n2; exact denF_calls hm tysOk (callsOk_of (.cons s171 (.cons s172 (.nil)))) (defsOk_of (.nil)) Go.Proofs.Tryz.func99 (by kernel_rfl) ok99 (Nat.le_of_ble_eq_true (by kernel_rfl)) ((d99 p1 n2 _ _).mpr h)
  · exact h.elim
theorem ok97 : codeOk hn97 Go.Proofs.Tryz.f97.ntmps (Go.Proofs.Tryz.f97.body.getD .skip) = true := by kernel_rfl
theorem s97 : Sound Go.Proofs.Tryz.prog 97 (c97 (octet_Reader_Word tau)) := by
  refine ⟨Go.Proofs.Tryz.call97, fun vs w K h => ?_⟩
  simp only [c97] at h
  split at h
  · rename_i p1 n2; exact denF_calls hm tysOk (callsOk_of (.cons s99 (.cons s171 (.cons s172 (.nil))))) (defsOk_of (.nil)) Go.Proofs.Tryz.func97 (by kernel_rfl) ok97 (Nat.le_of_ble_eq_true (by kernel_rfl)) ((d97 p1 n2 _ _).mpr h)
  · exact h.elim
theorem ok252 : codeOk hn252 Go.Proofs.Tryz.f252.ntmps (Go.Proofs.Tryz.f252.body.getD .skip) = true := by kernel_rfl
theorem s252 : Sound Go.Proofs.Tryz.prog 252 (c252 (slices_Grow_byte_byte tau)) := by
  refine ⟨Go.Proofs.Tryz.call252, fun vs w K h => ?_⟩
  simp only [c252] at h
  split at h
  · rename_i s1b s1l s1c n2; exact denF_calls hm tysOk (callsOk_of (.nil)) (defsOk_of (.nil)) Go.Proofs.Tryz.func252 (by kernel_rfl) ok252 (Nat.le_of_ble_eq_true (by kernel_rfl)) ((d252 (⟨s1b, s1l, s1c⟩) n2 _ _).mpr h)
  · exact h.elim
theorem ok183 : codeOk hn183 Go.Proofs.Tryz.f183.ntmps (Go.Proofs.Tryz.f183.body.getD .skip) = true := by kernel_rfl
theorem s183 : Sound Go.Proofs.Tryz.prog 183 (c183 (slices_Concat_byte_byte tau)) := by
  refine ⟨Go.Proofs.Tryz.call183, fun vs w K h => ?_⟩
  simp only [c183] at h
  split at h
  · rename_i s1b s1l s1c; exact denF_calls hm tysOk (callsOk_of (.cons s252 (.nil))) (defsOk_of (.nil)) Go.Proofs.Tryz.func183 (by kernel_rfl) ok183 (Nat.le_of_ble_eq_true (by kernel_rfl)) ((d183 (⟨s1b, s1l, s1c⟩) _ _).mpr h)
  · exact h.elim
theorem ok112 : codeOk hn112 Go.Proofs.Tryz.f112.ntmps (Go.Proofs.Tryz.f112.body.getD .skip) = true := by kernel_rfl
theorem s112 : Sound Go.Proofs.Tryz.prog 112 (c112 (octet_Word tau)) := by
  refine ⟨Go.Proofs.Tryz.call112, fun vs w K h => ?_⟩
  simp only [c112] at h
  split at h
  · rename_i s1b s1l s1c n2 n3; exact denF_calls hm tysOk (callsOk_of (.cons s40 (.cons s183 (.nil)))) (defsOk_of (.nil)) Go.Proofs.Tryz.func112 (by kernel_rfl) ok112 (Nat.le_of_ble_eq_true (by kernel_rfl)) ((d112 (⟨s1b, s1l, s1c⟩) n2 n3 _ _).mpr h)
  · exact h.elim
theorem ok133 : codeOk hn133 Go.Proofs.Tryz.f133.ntmps (Go.Proofs.Tryz.f133.body.getD .skip) = true := by kernel_rfl
theorem s133 : Sound Go.Proofs.Tryz.prog 133 (c133 (sector_Disk_Sectors tau)) := by
  refine ⟨Go.Proofs.Tryz.call133, fun vs w K h => ?_⟩
  simp only [c133] at h
  split at h
  · rename_i p1; exact denF_calls hm tysOk (callsOk_of (.cons s86 (.nil))) (defsOk_of (.nil)) Go.Proofs.Tryz.func133 (by kernel_rfl) ok133 (Nat.le_of_ble_eq_true (by kernel_rfl)) ((d133 p1 _ _).mpr h)
  · exact h.elim
theorem ok150 : codeOk hn150 Go.Proofs.Tryz.f150.ntmps (Go.Proofs.Tryz.f150.body.getD .skip) = true := by kernel_rfl
theorem s150 : Sound Go.Proofs.Tryz.prog 150 (c150 (octet_Number tau)) := by
  refine ⟨Go.Proofs.Tryz.call150, fun vs w K h => ?_⟩
  simp only [c150] at h
  split at h
  · rename_i s1b s1l s1c n2; exact denF_calls hm tysOk (callsOk_of (.cons s40 (.nil))) (defsOk_of (.nil)) Go.Proofs.Tryz.func150 (by kernel_rfl) ok150 (Nat.le_of_ble_eq_true (by kernel_rfl)) ((d150 (⟨s1b, s1l, s1c⟩) n2 _ _).mpr h)
  · exact h.elim
theorem ok159 : codeOk hn159 Go.Proofs.Tryz.f159.ntmps (Go.Proofs.Tryz.f159.body.getD .skip) = true := by kernel_rfl
theorem s159 : Sound Go.Proofs.Tryz.prog 159 (c159 (slices_Clone_int_int tau)) := by
  refine ⟨Go.Proofs.Tryz.call159, fun vs w K h => ?_⟩
  simp only [c159] at h
  split at h
  · rename_i s1b s1l s1c; exact denF_calls hm tysOk (callsOk_of (.nil)) (defsOk_of (.nil)) Go.Proofs.Tryz.func159 (by kernel_rfl) ok159 (Nat.le_of_ble_eq_true (by kernel_rfl)) ((d159 (⟨s1b, s1l, s1c⟩) _ _).mpr h)
  · exact h.elim
theorem ok181 : codeOk hn181 Go.Proofs.Tryz.f181.ntmps (Go.Proofs.Tryz.f181.body.getD .skip) = true := by kernel_rfl
theorem s181 : Sound Go.Proofs.Tryz.prog 181 (c181 (slices_Delete_int_int tau)) := by
  refine ⟨Go.Proofs.Tryz.call181, fun vs w K h => ?_⟩
  simp only [c181] at h
  split at h
  · rename_i s1b s1l s1c n2 n3; exact denF_calls hm tysOk (callsOk_of (.nil)) (defsOk_of (.nil)) Go.Proofs.Tryz.func181 (by kernel_rfl) ok181 (Nat.le_of_ble_eq_true (by kernel_rfl)) ((d181 (⟨s1b, s1l, s1c⟩) n2 n3 _ _).mpr h)
  · exact h.elim
theorem ok348 : codeOk hn348 Go.Proofs.Tryz.f348.ntmps (Go.Proofs.Tryz.f348.body.getD .skip) = true := by kernel_rfl
theorem s348 : Sound Go.Proofs.Tryz.prog 348 (c348 (slices_Reverse_api_Ref_api_Ref tau)) := by
  refine ⟨Go.Proofs.Tryz.call348, fun vs w K h => ?_⟩
  simp only [c348] at h
  split at h
  · rename_i s1b s1l s1c; exact denF_calls hm tysOk (callsOk_of (.nil)) (defsOk_of (.nil)) Go.Proofs.Tryz.func348 (by kernel_rfl) ok348 (Nat.le_of_ble_eq_true (by kernel_rfl)) ((d348 (⟨s1b, s1l, s1c⟩) _ _).mpr h)
  · exact h.elim
theorem ok321 : codeOk hn321 Go.Proofs.Tryz.f321.ntmps (Go.Proofs.Tryz.f321.body.getD .skip) = true := by kernel_rfl
theorem s321 : Sound Go.Proofs.Tryz.prog 321 (c321 (slices_rotateLeft_api_Ref tau)) := by
  refine ⟨Go.Proofs.Tryz.call321, fun vs w K h => ?_⟩
  simp only [c321] at h
  split at h
  · rename_i s1b s1l s1c n2; exact denF_calls hm tysOk (callsOk_of (.cons s348 (.nil))) (defsOk_of (.nil)) Go.Proofs.Tryz.func321 (by kernel_rfl) ok321 (Nat.le_of_ble_eq_true (by kernel_rfl)) ((d321 (⟨s1b, s1l, s1c⟩) n2 _ _).mpr h)
  · exact h.elim
theorem ok276 : codeOk hn276 Go.Proofs.Tryz.f276.ntmps (Go.Proofs.Tryz.f276.body.getD .skip) = true := by kernel_rfl
theorem s276 : Sound Go.Proofs.Tryz.prog 276 (c276 (slices_rotateRight_api_Ref tau)) := by
  refine ⟨Go.Proofs.Tryz.call276, fun vs w K h => ?_⟩
  simp only [c276] at h
  split at h
  · rename_i s1b s1l s1c n2; exact denF_calls hm tysOk (callsOk_of (.cons s321 (.nil))) (defsOk_of (.nil)) Go.Proofs.Tryz.func276 (by kernel_rfl) ok276 (Nat.le_of_ble_eq_true (by kernel_rfl)) ((d276 (⟨s1b, s1l, s1c⟩) n2 _ _).mpr h)
  · exact h.elim
theorem ok206 : codeOk hn206 Go.Proofs.Tryz.f206.ntmps (Go.Proofs.Tryz.f206.body.getD .skip) = true := by kernel_rfl
theorem s206 : Sound Go.Proofs.Tryz.prog 206 (c206 (slices_Insert_api_Ref_api_Ref tau)) := by
  refine ⟨Go.Proofs.Tryz.call206, fun vs w K h => ?_⟩
  simp only [c206] at h
  split at h
  · rename_i s1b s1l s1c n2 s3b s3l s3c; exact denF_calls hm tysOk (callsOk_of (.consX s275 (.cons s276 (.nil)))) (defsOk_of (.nil)) Go.Proofs.Tryz.func206 (by kernel_rfl) ok206 (Nat.le_of_ble_eq_true (by kernel_rfl)) ((d206 (⟨s1b, s1l, s1c⟩) n2 (⟨s3b, s3l, s3c⟩) _ _).mpr h)
  · exact h.elim
theorem ok216 : codeOk hn216 Go.Proofs.Tryz.f216.ntmps (Go.Proofs.Tryz.f216.body.getD .skip) = true := by kernel_rfl
theorem s216 : Sound Go.Proofs.Tryz.prog 216 (c216 (slices_Delete_api_Ref_api_Ref tau)) := by
  refine ⟨Go.Proofs.Tryz.call216, fun vs w K h => ?_⟩
  simp only [c216] at h
  split at h
  · rename_i s1b s1l s1c n2 n3; exact denF_calls hm tysOk (callsOk_of (.nil)) (defsOk_of (.nil)) Go.Proofs.Tryz.func216 (by kernel_rfl) ok216 (Nat.le_of_ble_eq_true (by kernel_rfl)) ((d216 (⟨s1b, s1l, s1c⟩) n2 n3 _ _).mpr h)
  · exact h.elim
theorem ok374 : codeOk hn374 Go.Proofs.Tryz.f374.ntmps (Go.Proofs.Tryz.f374.body.getD .skip) = true := by kernel_rfl
theorem s374 : Sound Go.Proofs.Tryz.prog 374 (c374 (crc_On tau)) := by
  refine ⟨Go.Proofs.Tryz.call374, fun vs w K h => ?_⟩
  simp only [c374] at h
  split at h
  · rename_i c1 n2 s3b s3l s3c; exact denF_calls hm tysOk (callsOk_of (.nil)) (defsOk_of (.nil)) Go.Proofs.Tryz.func374 (by kernel_rfl) ok374 (Nat.le_of_ble_eq_true (by kernel_rfl)) ((d374 c1 n2 (⟨s3b, s3l, s3c⟩) _ _).mpr h)
  · exact h.elim
theorem ok364 : codeOk hn364 Go.Proofs.Tryz.f364.ntmps (Go.Proofs.Tryz.f364.body.getD .skip) = true := by kernel_rfl
theorem s364 : Sound Go.Proofs.Tryz.prog 364 (c364 (crc_on tau)) := by
  refine ⟨Go.Proofs.Tryz.call364, fun vs w K h => ?_⟩
  simp only [c364] at h
  split at h
  · rename_i c1 s2b s2l s2c; exact denF_calls hm tysOk (callsOk_of (.cons s374 (.nil))) (defsOk_of (.nil)) Go.Proofs.Tryz.func364 (by kernel_rfl) ok364 (Nat.le_of_ble_eq_true (by kernel_rfl)) ((d364 c1 (⟨s2b, s2l, s2c⟩) _ _).mpr h)
  · exact h.elim
theorem ok365 : codeOk hn365 Go.Proofs.Tryz.f365.ntmps (Go.Proofs.Tryz.f365.body.getD .skip) = true := by kernel_rfl
theorem s365 : Sound Go.Proofs.Tryz.prog 365 (c365 (crc_Table tau)) := by
  refine ⟨Go.Proofs.Tryz.call365, fun vs w K h => ?_⟩
  simp only [c365] at h
  split at h
  · exact denF_calls hm tysOk (callsOk_of (.nil)) (defsOk_of (.nil)) Go.Proofs.Tryz.func365 (by kernel_rfl) ok365 (Nat.le_of_ble_eq_true (by kernel_rfl)) ((d365  _ _).mpr h)
  · exact h.elim
theorem ok337 : codeOk hn337 Go.Proofs.Tryz.f337.ntmps (Go.Proofs.Tryz.f337.body.getD .skip) = true := by kernel_rfl
theorem s337 : Sound Go.Proofs.Tryz.prog 337 (c337 (crc_Parts tau)) := by
  refine ⟨Go.Proofs.Tryz.call337, fun vs w K h => ?_⟩
  simp only [c337] at h
  split at h
  · rename_i s1b s1l s1c; exact denF_calls hm tysOk (callsOk_of (.cons s364 (.cons s365 (.nil)))) (defsOk_of (.nil)) Go.Proofs.Tryz.func337 (by kernel_rfl) ok337 (Nat.le_of_ble_eq_true (by kernel_rfl)) ((d337 (⟨s1b, s1l, s1c⟩) _ _).mpr h)
  · exact h.elim
theorem ok300 : codeOk hn300 Go.Proofs.Tryz.f300.ntmps (Go.Proofs.Tryz.f300.body.getD .skip) = true := by kernel_rfl
theorem s300 : Sound Go.Proofs.Tryz.prog 300 (c300 (page_crcOf tau)) := by
  refine ⟨Go.Proofs.Tryz.call300, fun vs w K h => ?_⟩
  simp only [c300] at h
  split at h
  · rename_i s1b s1l s1c; exact denF_calls hm tysOk (callsOk_of (.cons s337 (.nil))) (defsOk_of (.nil)) Go.Proofs.Tryz.func300 (by kernel_rfl) ok300 (Nat.le_of_ble_eq_true (by kernel_rfl)) ((d300 (⟨s1b, s1l, s1c⟩) _ _).mpr h)
  · exact h.elim
theorem ok232 : codeOk hn232 Go.Proofs.Tryz.f232.ntmps (Go.Proofs.Tryz.f232.body.getD .skip) = true := by kernel_rfl
theorem s232 : Sound Go.Proofs.Tryz.prog 232 (c232 (page_Bytes tau)) := by
  refine ⟨Go.Proofs.Tryz.call232, fun vs w K h => ?_⟩
  simp only [c232] at h
  split at h
  · rename_i n1 n2 s3b s3l s3c; exact denF_calls hm tysOk (callsOk_of (.cons s112 (.cons s300 (.nil)))) (defsOk_of (.nil)) Go.Proofs.Tryz.func232 (by kernel_rfl) ok232 (Nat.le_of_ble_eq_true (by kernel_rfl)) ((d232 n1 n2 (⟨s3b, s3l, s3c⟩) _ _).mpr h)
  · exact h.elim
theorem ok367 : codeOk hn367 Go.Proofs.Tryz.f367.ntmps (Go.Proofs.Tryz.f367.body.getD .skip) = true := by kernel_rfl
theorem s367 : Sound Go.Proofs.Tryz.prog 367 (c367 (slices_Reverse_int_int tau)) := by
  refine ⟨Go.Proofs.Tryz.call367, fun vs w K h => ?_⟩
  simp only [c367] at h
  split at h
  · rename_i s1b s1l s1c; exact denF_calls hm tysOk (callsOk_of (.nil)) (defsOk_of (.nil)) Go.Proofs.Tryz.func367 (by kernel_rfl) ok367 (Nat.le_of_ble_eq_true (by kernel_rfl)) ((d367 (⟨s1b, s1l, s1c⟩) _ _).mpr h)
  · exact h.elim
theorem ok342 : codeOk hn342 Go.Proofs.Tryz.f342.ntmps (Go.Proofs.Tryz.f342.body.getD .skip) = true := by kernel_rfl
theorem s342 : Sound Go.Proofs.Tryz.prog 342 (c342 (slices_rotateLeft_int tau)) := by
  refine ⟨Go.Proofs.Tryz.call342, fun vs w K h => ?_⟩
  simp only [c342] at h
  split at h
  · rename_i s1b s1l s1c n2; exact denF_calls hm tysOk (callsOk_of (.cons s367 (.nil))) (defsOk_of (.nil)) Go.Proofs.Tryz.func342 (by kernel_rfl) ok342 (Nat.le_of_ble_eq_true (by kernel_rfl)) ((d342 (⟨s1b, s1l, s1c⟩) n2 _ _).mpr h)
  · exact h.elim
theorem ok307 : codeOk hn307 Go.Proofs.Tryz.f307.ntmps (Go.Proofs.Tryz.f307.body.getD .skip) = true := by kernel_rfl
theorem s307 : Sound Go.Proofs.Tryz.prog 307 (c307 (slices_rotateRight_int tau)) := by
  refine ⟨Go.Proofs.Tryz.call307, fun vs w K h => ?_⟩
  simp only [c307] at h
  split at h
  · rename_i s1b s1l s1c n2; exact denF_calls hm tysOk (callsOk_of (.cons s342 (.nil))) (defsOk_of (.nil)) Go.Proofs.Tryz.func307 (by kernel_rfl) ok307 (Nat.le_of_ble_eq_true (by kernel_rfl)) ((d307 (⟨s1b, s1l, s1c⟩) n2 _ _).mpr h)
  · exact h.elim
theorem ok254 : codeOk hn254 Go.Proofs.Tryz.f254.ntmps (Go.Proofs.Tryz.f254.body.getD .skip) = true := by kernel_rfl
theorem s254 : Sound Go.Proofs.Tryz.prog 254 (c254 (slices_Insert_int_int tau)) := by
  refine ⟨Go.Proofs.Tryz.call254, fun vs w K h => ?_⟩
  simp only [c254] at h
  split at h
  · rename_i s1b s1l s1c n2 s3b s3l s3c; exact denF_calls hm tysOk (callsOk_of (.consX s306 (.cons s307 (.nil)))) (defsOk_of (.nil)) Go.Proofs.Tryz.func254 (by kernel_rfl) ok254 (Nat.le_of_ble_eq_true (by kernel_rfl)) ((d254 (⟨s1b, s1l, s1c⟩) n2 (⟨s3b, s3l, s3c⟩) _ _).mpr h)
  · exact h.elim
theorem ok267 : codeOk hn267 Go.Proofs.Tryz.f267.ntmps (Go.Proofs.Tryz.f267.body.getD .skip) = true := by kernel_rfl
theorem s267 : Sound Go.Proofs.Tryz.prog 267 (c267 (index_Load_1 tau)) := by
  refine ⟨Go.Proofs.Tryz.call267, fun vs w K h => ?_⟩
  simp only [c267] at h
  split at h
  · rename_i n1; exact denF_calls hm tysOk (callsOk_of (.nil)) (defsOk_of (.nil)) Go.Proofs.Tryz.func267 (by kernel_rfl) ok267 (Nat.le_of_ble_eq_true (by kernel_rfl)) ((d267 n1 _ _).mpr h)
  · exact h.elim
theorem ok314 : codeOk hn314 Go.Proofs.Tryz.f314.ntmps (Go.Proofs.Tryz.f314.body.getD .skip) = true := by kernel_rfl
theorem s314 : Sound Go.Proofs.Tryz.prog 314 (c314 (slices_IndexFunc_byte_byte tau)) := by
  refine ⟨Go.Proofs.Tryz.call314, fun vs w K h => ?_⟩
  simp only [c314] at h
  split at h
  · rename_i s1b s1l s1c; exact denF_calls hm tysOk (callsOk_of (.cons s267 (.nil))) (defsOk_of (.nil)) Go.Proofs.Tryz.func314 (by kernel_rfl) ok314 (Nat.le_of_ble_eq_true (by kernel_rfl)) ((d314 (⟨s1b, s1l, s1c⟩) _ _).mpr h)
  · exact h.elim
theorem ok326 : codeOk hn326 Go.Proofs.Tryz.f326.ntmps (Go.Proofs.Tryz.f326.body.getD .skip) = true := by kernel_rfl
theorem s326 : Sound Go.Proofs.Tryz.prog 326 (c326 (bytes_trimRightByte tau)) := by
  refine ⟨Go.Proofs.Tryz.call326, fun vs w K h => ?_⟩
  simp only [c326] at h
  split at h
  · rename_i s1b s1l s1c n2; exact denF_calls hm tysOk (callsOk_of (.nil)) (defsOk_of (.nil)) Go.Proofs.Tryz.func326 (by kernel_rfl) ok326 (Nat.le_of_ble_eq_true (by kernel_rfl)) ((d326 (⟨s1b, s1l, s1c⟩) n2 _ _).mpr h)
  · exact h.elim
theorem ok343 : codeOk hn343 Go.Proofs.Tryz.f343.ntmps (Go.Proofs.Tryz.f343.body.getD .skip) = true := by kernel_rfl
theorem s343 : Sound Go.Proofs.Tryz.prog 343 (c343 (slots_noughts tau)) := by
  refine ⟨Go.Proofs.Tryz.call343, fun vs w K h => ?_⟩
  simp only [c343] at h
  split at h
  · rename_i s1b s1l s1c; exact denF_calls hm tysOk (callsOk_of (.nil)) (defsOk_of (.nil)) Go.Proofs.Tryz.func343 (by kernel_rfl) ok343 (Nat.le_of_ble_eq_true (by kernel_rfl)) ((d343 (⟨s1b, s1l, s1c⟩) _ _).mpr h)
  · exact h.elim
theorem ok100 : codeOk hn100 Go.Proofs.Tryz.f100.ntmps (Go.Proofs.Tryz.f100.body.getD .skip) = true := by kernel_rfl
theorem s100 : Sound Go.Proofs.Tryz.prog 100 (c100 (octet_Reader_Err tau)) := by
  refine ⟨Go.Proofs.Tryz.call100, fun vs w K h => ?_⟩
  simp only [c100] at h
  split at h
  · rename_i p1; exact denF_calls hm tysOk (callsOk_of (.cons s174 (.nil))) (defsOk_of (.nil)) Go.Proofs.Tryz.func100 (by kernel_rfl) ok100 (Nat.le_of_ble_eq_true (by kernel_rfl)) ((d100 p1 _ _).mpr h)
  · exact h.elim
theorem ok175 : codeOk hn175 Go.Proofs.Tryz.f175.ntmps (Go.Proofs.Tryz.f175.body.getD .skip) = true := by kernel_rfl
theorem s175 : Sound Go.Proofs.Tryz.prog 175 (c175 (octet_Reader_Left tau)) := by
  refine ⟨Go.Proofs.Tryz.call175, fun vs w K h => ?_⟩
  simp only [c175] at h
  split at h
  · rename_i p1; exact denF_calls hm tysOk (callsOk_of (.cons s174 (.nil))) (defsOk_of (.nil)) Go.Proofs.Tryz.func175 (by kernel_rfl) ok175 (Nat.le_of_ble_eq_true (by kernel_rfl)) ((d175 p1 _ _).mpr h)
  · exact h.elim
theorem ok204 : codeOk hn204 Go.Proofs.Tryz.f204.ntmps (Go.Proofs.Tryz.f204.body.getD .skip) = true := by kernel_rfl
theorem s204 : Sound Go.Proofs.Tryz.prog 204 (c204 (bucket_may tau)) := by
  refine ⟨Go.Proofs.Tryz.call204, fun vs w K h => ?_⟩
  simp only [c204] at h
  split at h
  · rename_i n1 n2; exact denF_calls hm tysOk (callsOk_of (.nil)) (defsOk_of (.nil)) Go.Proofs.Tryz.func204 (by kernel_rfl) ok204 (Nat.le_of_ble_eq_true (by kernel_rfl)) ((d204 n1 n2 _ _).mpr h)
  · exact h.elim
theorem ok318 : codeOk hn318 Go.Proofs.Tryz.f318.ntmps (Go.Proofs.Tryz.f318.body.getD .skip) = true := by kernel_rfl
theorem s318 : Sound Go.Proofs.Tryz.prog 318 (c318 (cmp_Or_int tau)) := by
  refine ⟨Go.Proofs.Tryz.call318, fun vs w K h => ?_⟩
  simp only [c318] at h
  split at h
  · rename_i s1b s1l s1c; exact denF_calls hm tysOk (callsOk_of (.nil)) (defsOk_of (.nil)) Go.Proofs.Tryz.func318 (by kernel_rfl) ok318 (Nat.le_of_ble_eq_true (by kernel_rfl)) ((d318 (⟨s1b, s1l, s1c⟩) _ _).mpr h)
  · exact h.elim
theorem ok347 : codeOk hn347 Go.Proofs.Tryz.f347.ntmps (Go.Proofs.Tryz.f347.body.getD .skip) = true := by kernel_rfl
theorem s347 : Sound Go.Proofs.Tryz.prog 347 (c347 (cmp_isNaN_uint64 tau)) := by
  refine ⟨Go.Proofs.Tryz.call347, fun vs w K h => ?_⟩
  simp only [c347] at h
  split at h
  · rename_i n1; exact denF_calls hm tysOk (callsOk_of (.nil)) (defsOk_of (.nil)) Go.Proofs.Tryz.func347 (by kernel_rfl) ok347 (Nat.le_of_ble_eq_true (by kernel_rfl)) ((d347 n1 _ _).mpr h)
  · exact h.elim
theorem ok319 : codeOk hn319 Go.Proofs.Tryz.f319.ntmps (Go.Proofs.Tryz.f319.body.getD .skip) = true := by kernel_rfl
theorem s319 : Sound Go.Proofs.Tryz.prog 319 (c319 (cmp_Compare_uint64 tau)) := by
  refine ⟨Go.Proofs.Tryz.call319, fun vs w K h => ?_⟩
  simp only [c319] at h
  split at h
  · rename_i n1 n2; exact denF_calls hm tysOk (callsOk_of (.cons s347 (.nil))) (defsOk_of (.nil)) Go.Proofs.Tryz.func319 (by kernel_rfl) ok319 (Nat.le_of_ble_eq_true (by kernel_rfl)) ((d319 n1 n2 _ _).mpr h)
  · exact h.elim
theorem ok304 : codeOk hn304 Go.Proofs.Tryz.f304.ntmps (Go.Proofs.Tryz.f304.body.getD .skip) = true := by kernel_rfl
theorem s304 : Sound Go.Proofs.Tryz.prog 304 (c304 (cmp_isNaN_int tau)) := by
  refine ⟨Go.Proofs.Tryz.call304, fun vs w K h => ?_⟩
  simp only [c304] at h
  split at h
  · rename_i n1; exact denF_calls hm tysOk (callsOk_of (.nil)) (defsOk_of (.nil)) Go.Proofs.Tryz.func304 (by kernel_rfl) ok304 (Nat.le_of_ble_eq_true (by kernel_rfl)) ((d304 n1 _ _).mpr h)
  · exact h.elim
theorem ok320 : codeOk hn320 Go.Proofs.Tryz.f320.ntmps (Go.Proofs.Tryz.f320.body.getD .skip) = true := by kernel_rfl
theorem s320 : Sound Go.Proofs.Tryz.prog 320 (c320 (cmp_Compare_int tau)) := by
  refine ⟨Go.Proofs.Tryz.call320, fun vs w K h => ?_⟩
  simp only [c320] at h
  split at h
  · rename_i n1 n2; exact denF_calls hm tysOk (callsOk_of (.cons s304 (.nil))) (defsOk_of (.nil)) Go.Proofs.Tryz.func320 (by kernel_rfl) ok320 (Nat.le_of_ble_eq_true (by kernel_rfl)) ((d320 n1 n2 _ _).mpr h)
  · exact h.elim
theorem ok272 : codeOk hn272 Go.Proofs.Tryz.f272.ntmps (Go.Proofs.Tryz.f272.body.getD .skip) = true := by kernel_rfl
theorem s272 : Sound Go.Proofs.Tryz.prog 272 (c272 (bucket_Compare tau)) := by
  refine ⟨Go.Proofs.Tryz.call272, fun vs w K h => ?_⟩
  simp only [c272] at h
  split at h
  · rename_i n1 n2 n3 n4 n5 n6; exact denF_calls hm tysOk (callsOk_of (.cons s318 (.cons s319 (.cons s320 (.nil))))) (defsOk_of (.nil)) Go.Proofs.Tryz.func272 (by kernel_rfl) ok272 (Nat.le_of_ble_eq_true (by kernel_rfl)) ((d272 n1 n2 n3 n4 n5 n6 _ _).mpr h)
  · exact h.elim
theorem ok203 : codeOk hn203 Go.Proofs.Tryz.f203.ntmps (Go.Proofs.Tryz.f203.body.getD .skip) = true := by kernel_rfl
theorem s203 : Sound Go.Proofs.Tryz.prog 203 (c203 (bucket_Check tau)) := by
  refine ⟨Go.Proofs.Tryz.call203, fun vs w K h => ?_⟩
  simp only [c203] at h
  split at h
  · rename_i n1 s2b s2l s2c; exact denF_calls hm tysOk (callsOk_of (.cons s204 (.cons s272 (.nil)))) (defsOk_of (.nil)) Go.Proofs.Tryz.func203 (by kernel_rfl) ok203 (Nat.le_of_ble_eq_true (by kernel_rfl)) ((d203 n1 (⟨s2b, s2l, s2c⟩) _ _).mpr h)
  · exact h.elim
theorem ok346 : codeOk hn346 Go.Proofs.Tryz.f346.ntmps (Go.Proofs.Tryz.f346.body.getD .skip) = true := by kernel_rfl
theorem s346 : Sound Go.Proofs.Tryz.prog 346 (c346 (bucket_Read tau)) := by
  refine ⟨Go.Proofs.Tryz.call346, fun vs w K h => ?_⟩
  simp only [c346] at h
  split at h
  · rename_i s1b s1l s1c; exact denF_calls hm tysOk (callsOk_of (.cons s96 (.cons s97 (.cons s100 (.cons s175 (.cons s203 (.nil))))))) (defsOk_of (.nil)) Go.Proofs.Tryz.func346 (by kernel_rfl) ok346 (Nat.le_of_ble_eq_true (by kernel_rfl)) ((d346 (⟨s1b, s1l, s1c⟩) _ _).mpr h)
  · exact h.elim
end Go.TS.Tryz
