/- The links: what each function asks is what its code asks. -/
import Derived.Test.YtpgpdmbhlpadmaaGreatProg
import Derived.Laws.Externs
import Derived.Lib.Overlaps
import Derived.Test.YtpgpdmbhlpadmaaGreatTsExt
import Derived.Test.YtpgpdmbhlpadmaaGreatTsCode
import Derived.Test.YtpgpdmbhlpadmaaGreatTsS10
set_option linter.unusedSimpArgs false
set_option linter.unusedVariables false
namespace Go.TS.Tryz
open Go Go.TS
set_option linter.unusedVariables false
set_option maxRecDepth 100000
def tau (i : Nat) : Nat := ([5, 277, 110, 385, 281, 4, 27, 3, 46, 446, 114, 313, 311, 25, 195, 197, 61, 379, 200, 352, 177, 301, 42, 49, 0, 0, 0, 135, 233] : List Nat).getD i 0
def tyl : List (Nat × TI) := [
 (3, ⟨.int .i64, (Value.int .i64 0), 1, 8, .leaf (.int .i64)⟩),
 (4, ⟨.bool, (Value.bool false), 1, 1, .leaf (.bool)⟩),
 (5, ⟨.int .u8, (Value.int .u8 0), 1, 1, .leaf (.int .u8)⟩),
 (25, ⟨.int .i64, (Value.int .i64 0), 1, 8, .leaf (.int .i64)⟩),
 (27, ⟨.slice 5, (Value.slice none 0 0), 1, 24, .leaf (.sl)⟩),
 (32, ⟨.int .u64, (Value.int .u64 0), 1, 8, .leaf (.int .u64)⟩),
 (42, ⟨.struct #[⟨ "Page", 3, 0, false, "", "", 0⟩, ⟨ "Slot", 3, 1, false, "", "", 8⟩], (Value.agg #[(Value.int .i64 0), (Value.int .i64 0)]), 2, 16, .agg [.int .i64, .int .i64]⟩),
 (46, ⟨.slice 3, (Value.slice none 0 0), 1, 24, .leaf (.sl)⟩),
 (64, ⟨.pointer 277, (Value.pointer none), 1, 8, .leaf (.ptr)⟩),
 (94, ⟨.slice 27, (Value.slice none 0 0), 1, 24, .leaf (.sl)⟩),
 (112, ⟨.int .u32, (Value.int .u32 0), 1, 4, .leaf (.int .u32)⟩),
 (114, ⟨.struct #[⟨ "Kind", 3, 0, false, "", "", 0⟩, ⟨ "Number", 112, 1, false, "", "", 8⟩, ⟨ "Body", 27, 2, false, "", "", 16⟩], (Value.agg #[(Value.int .i64 0), (Value.int .u32 0), (Value.slice none 0 0)]), 3, 40, .agg [.int .i64, .int .u32, .sl]⟩),
 (135, ⟨.struct #[⟨ "Hash", 32, 0, false, "", "", 0⟩, ⟨ "Place", 42, 1, false, "", "", 8⟩], (Value.agg #[(Value.int .u64 0), (Value.int .i64 0), (Value.int .i64 0)]), 3, 24, .agg [.int .u64, .int .i64, .int .i64]⟩),
 (231, ⟨.slice 135, (Value.slice none 0 0), 1, 24, .leaf (.sl)⟩),
 (233, ⟨.struct #[⟨ "Next", 3, 0, false, "", "", 0⟩, ⟨ "Refs", 231, 1, false, "", "", 8⟩], (Value.agg #[(Value.int .i64 0), (Value.slice none 0 0)]), 2, 32, .agg [.int .i64, .sl]⟩),
 (253, ⟨.pointer 352, (Value.pointer none), 1, 8, .leaf (.ptr)⟩),
 (274, ⟨.map 3 27, (Value.map none), 1, 8, .leaf (.map)⟩),
 (275, ⟨.pointer 3, (Value.pointer none), 1, 8, .leaf (.ptr)⟩),
 (277, ⟨.struct #[⟨ "b", 27, 0, false, "", "tallyman/sector", 0⟩, ⟨ "cache", 274, 1, false, "", "tallyman/sector", 24⟩, ⟨ "order", 46, 2, false, "", "tallyman/sector", 32⟩, ⟨ "left", 275, 3, false, "", "tallyman/sector", 56⟩], (Value.agg #[(Value.slice none 0 0), (Value.map none), (Value.slice none 0 0), (Value.pointer none)]), 4, 64, .agg [.sl, .map, .sl, .ptr]⟩),
 (352, ⟨.struct #[⟨ "b", 27, 0, false, "", "tallyman/octet", 0⟩, ⟨ "at", 3, 1, false, "", "tallyman/octet", 24⟩, ⟨ "err", 25, 2, false, "", "tallyman/octet", 32⟩, ⟨ "is", 4, 3, false, "", "tallyman/octet", 40⟩], (Value.agg #[(Value.slice none 0 0), (Value.int .i64 0), (Value.int .i64 0), (Value.bool false)]), 4, 48, .agg [.sl, .int .i64, .int .i64, .bool]⟩),
 (366, ⟨.slice 46, (Value.slice none 0 0), 1, 24, .leaf (.sl)⟩),
 (446, ⟨.array 256 112, (Value.agg (Array.replicate 256 (Value.int .u32 0))), 256, 1024, .arr 256⟩)]
def tys : Tys := ⟨trOf tyl, noMt⟩
abbrev T98 := Sl → Mem → (Sl → Mem → Prop) → Prop
def c98 (f : T98) : CallP := fun vs h K => match vs with
  | [.slice s1b s1l s1c] => f ⟨s1b, s1l, s1c⟩ h fun s2 h => K (Value.slice s2.base s2.len s2.cap) h
  | _ => False
def cs98 : Calls' := callsT []
def dcs98 : Calls' := callsT []
def hn98 : Hints := ⟨[], [], []⟩
theorem d98 (s1 : Sl) (h : Mem) (K : Value → Mem → Prop) : denF tys (cs98) (dcs98) hn98 (Go.Proofs.Tryz.f98.body.getD .skip) Go.Proofs.Tryz.f98.results.toList [(Value.slice s1.base s1.len s1.cap)] h K = slices_Clone_byte_byte tau s1 h fun s2 h => K (Value.slice s2.base s2.len s2.cap) h := by delta slices_Clone_byte_byte; kernel_rfl
abbrev T299 := Sl → Int → Mem → (Sl → Mem → Prop) → Prop
def c299 (f : T299) : CallP := fun vs h K => match vs with
  | [.slice s1b s1l s1c, .int .i64 n2] => f ⟨s1b, s1l, s1c⟩ n2 h fun s3 h => K (Value.slice s3.base s3.len s3.cap) h
  | _ => False
def cs299 : Calls' := callsT []
def dcs299 : Calls' := callsT []
def hn299 : Hints := ⟨[], [], []⟩
theorem d299 (s1 : Sl) (n2 : Int) (h : Mem) (K : Value → Mem → Prop) : denF tys (cs299) (dcs299) hn299 (Go.Proofs.Tryz.f299.body.getD .skip) Go.Proofs.Tryz.f299.results.toList [(Value.slice s1.base s1.len s1.cap), (Value.int .i64 n2)] h K = slices_Grow_byte_byte tau s1 n2 h fun s3 h => K (Value.slice s3.base s3.len s3.cap) h := by delta slices_Grow_byte_byte; kernel_rfl
abbrev T228 := Sl → Mem → (Sl → Mem → Prop) → Prop
def c228 (f : T228) : CallP := fun vs h K => match vs with
  | [.slice s1b s1l s1c] => f ⟨s1b, s1l, s1c⟩ h fun s2 h => K (Value.slice s2.base s2.len s2.cap) h
  | _ => False
def cs228 (f299 : T299) : Calls' := callsT [(299, c299 f299)]
def dcs228 : Calls' := callsT []
def hn228 : Hints := ⟨[(3, [(3, .int .i64), (11, .int .i64)]), (11, [(6, .sl), (27, .int .i64)])], [], []⟩
theorem d228 (s1 : Sl) (h : Mem) (K : Value → Mem → Prop) : denF tys (cs228 (slices_Grow_byte_byte tau)) (dcs228) hn228 (Go.Proofs.Tryz.f228.body.getD .skip) Go.Proofs.Tryz.f228.results.toList [(Value.slice s1.base s1.len s1.cap)] h K = slices_Concat_byte_byte tau s1 h fun s2 h => K (Value.slice s2.base s2.len s2.cap) h := by delta slices_Concat_byte_byte; generalize slices_Grow_byte_byte tau = f299; revert f299; refine keep ?_; intro f299; kernel_rfl
abbrev T130 := Sl → Int → Int → Mem → (Sl → Mem → Prop) → Prop
def c130 (f : T130) : CallP := fun vs h K => match vs with
  | [.slice s1b s1l s1c, .int .u64 n2, .int .i64 n3] => f ⟨s1b, s1l, s1c⟩ n2 n3 h fun s4 h => K (Value.slice s4.base s4.len s4.cap) h
  | _ => False
def cs130 (f98 : T98) (f228 : T228) : Calls' := callsT [(98, c98 f98), (228, c228 f228)]
def dcs130 : Calls' := callsT []
def hn130 : Hints := ⟨[(8, [(1, .int .u64), (7, .sl), (16, .int .i64)])], [], []⟩
theorem d130 (s1 : Sl) (n2 : Int) (n3 : Int) (h : Mem) (K : Value → Mem → Prop) : denF tys (cs130 (slices_Clone_byte_byte tau) (slices_Concat_byte_byte tau)) (dcs130) hn130 (Go.Proofs.Tryz.f130.body.getD .skip) Go.Proofs.Tryz.f130.results.toList [(Value.slice s1.base s1.len s1.cap), (Value.int .u64 n2), (Value.int .i64 n3)] h K = octet_Word tau s1 n2 n3 h fun s4 h => K (Value.slice s4.base s4.len s4.cap) h := by delta octet_Word; generalize slices_Clone_byte_byte tau = f98; generalize slices_Concat_byte_byte tau = f228; revert f98 f228; refine keep ?_; intro f98 f228; kernel_rfl
abbrev T156 := Sl → Mem → (Option Addr → Mem → Prop) → Prop
def c156 (f : T156) : CallP := fun vs h K => match vs with
  | [.slice s1b s1l s1c] => f ⟨s1b, s1l, s1c⟩ h fun p2 h => K (Value.pointer p2) h
  | _ => False
def cs156 (f98 : T98) : Calls' := callsT [(98, c98 f98)]
def dcs156 : Calls' := callsT []
def hn156 : Hints := ⟨[], [], []⟩
theorem d156 (s1 : Sl) (h : Mem) (K : Value → Mem → Prop) : denF tys (cs156 (slices_Clone_byte_byte tau)) (dcs156) hn156 (Go.Proofs.Tryz.f156.body.getD .skip) Go.Proofs.Tryz.f156.results.toList [(Value.slice s1.base s1.len s1.cap)] h K = octet_New tau s1 h fun p2 h => K (Value.pointer p2) h := by delta octet_New; generalize slices_Clone_byte_byte tau = f98; revert f98; refine keep ?_; intro f98; kernel_rfl
abbrev T270 := Sl → Int → Mem → (Sl → Mem → Prop) → Prop
def c270 (f : T270) : CallP := fun vs h K => match vs with
  | [.slice s1b s1l s1c, .int .i64 n2] => f ⟨s1b, s1l, s1c⟩ n2 h fun s3 h => K (Value.slice s3.base s3.len s3.cap) h
  | _ => False
def cs270 : Calls' := callsT []
def dcs270 : Calls' := callsT []
def hn270 : Hints := ⟨[], [], []⟩
theorem d270 (s1 : Sl) (n2 : Int) (h : Mem) (K : Value → Mem → Prop) : denF tys (cs270) (dcs270) hn270 (Go.Proofs.Tryz.f270.body.getD .skip) Go.Proofs.Tryz.f270.results.toList [(Value.slice s1.base s1.len s1.cap), (Value.int .i64 n2)] h K = slices_Grow_int_int tau s1 n2 h fun s3 h => K (Value.slice s3.base s3.len s3.cap) h := by delta slices_Grow_int_int; kernel_rfl
abbrev T172 := Sl → Mem → (Sl → Mem → Prop) → Prop
def c172 (f : T172) : CallP := fun vs h K => match vs with
  | [.slice s1b s1l s1c] => f ⟨s1b, s1l, s1c⟩ h fun s2 h => K (Value.slice s2.base s2.len s2.cap) h
  | _ => False
def cs172 (f270 : T270) : Calls' := callsT [(270, c270 f270)]
def dcs172 : Calls' := callsT []
def hn172 : Hints := ⟨[(3, [(3, .int .i64), (11, .int .i64)]), (11, [(6, .sl), (27, .int .i64)])], [], []⟩
theorem d172 (s1 : Sl) (h : Mem) (K : Value → Mem → Prop) : denF tys (cs172 (slices_Grow_int_int tau)) (dcs172) hn172 (Go.Proofs.Tryz.f172.body.getD .skip) Go.Proofs.Tryz.f172.results.toList [(Value.slice s1.base s1.len s1.cap)] h K = slices_Concat_int_int tau s1 h fun s2 h => K (Value.slice s2.base s2.len s2.cap) h := by delta slices_Concat_int_int; generalize slices_Grow_int_int tau = f270; revert f270; refine keep ?_; intro f270; kernel_rfl
abbrev T282 := Option Addr → Mem → (Bool → Mem → Prop) → Prop
def c282 (f : T282) : CallP := fun vs h K => match vs with
  | [.pointer p1] => f p1 h fun b2 h => K (Value.bool b2) h
  | _ => False
def cs282 : Calls' := callsT []
def dcs282 : Calls' := callsT []
def hn282 : Hints := ⟨[], [], []⟩
theorem d282 (p1 : Option Addr) (h : Mem) (K : Value → Mem → Prop) : denF tys (cs282) (dcs282) hn282 (Go.Proofs.Tryz.f282.body.getD .skip) Go.Proofs.Tryz.f282.results.toList [(Value.pointer p1)] h K = sector_Disk_made tau p1 h fun b2 h => K (Value.bool b2) h := by delta sector_Disk_made; kernel_rfl
abbrev T283 := Option Addr → Mem → (Bool → Mem → Prop) → Prop
def c283 (f : T283) : CallP := fun vs h K => match vs with
  | [.pointer p1] => f p1 h fun b2 h => K (Value.bool b2) h
  | _ => False
def cs283 : Calls' := callsT []
def dcs283 : Calls' := callsT []
def hn283 : Hints := ⟨[], [], []⟩
theorem d283 (p1 : Option Addr) (h : Mem) (K : Value → Mem → Prop) : denF tys (cs283) (dcs283) hn283 (Go.Proofs.Tryz.f283.body.getD .skip) Go.Proofs.Tryz.f283.results.toList [(Value.pointer p1)] h K = sector_Disk_fails tau p1 h fun b2 h => K (Value.bool b2) h := by delta sector_Disk_fails; kernel_rfl
abbrev T284 := Option Addr → Int → Mem → (Sl → Mem → Prop) → Prop
def c284 (f : T284) : CallP := fun vs h K => match vs with
  | [.pointer p1, .int .i64 n2] => f p1 n2 h fun s3 h => K (Value.slice s3.base s3.len s3.cap) h
  | _ => False
def cs284 : Calls' := callsT []
def dcs284 : Calls' := callsT []
def hn284 : Hints := ⟨[], [], []⟩
theorem d284 (p1 : Option Addr) (n2 : Int) (h : Mem) (K : Value → Mem → Prop) : denF tys (cs284) (dcs284) hn284 (Go.Proofs.Tryz.f284.body.getD .skip) Go.Proofs.Tryz.f284.results.toList [(Value.pointer p1), (Value.int .i64 n2)] h K = sector_Disk_sector tau p1 n2 h fun s3 h => K (Value.slice s3.base s3.len s3.cap) h := by delta sector_Disk_sector; kernel_rfl
abbrev T191 := Option Addr → Mem → (Int → Mem → Prop) → Prop
def c191 (f : T191) : CallP := fun vs h K => match vs with
  | [.pointer p1] => f p1 h fun n2 h => K (Value.int .i64 n2) h
  | _ => False
def cs191 (f282 : T282) (f283 : T283) (f284 : T284) : Calls' := callsT [(282, c282 f282), (283, c283 f283), (284, c284 f284)]
def dcs191 : Calls' := callsT []
def hn191 : Hints := ⟨[(6, [])], [], [(7, [(3, .int .i64), (4, .sl)])]⟩
theorem d191 (p1 : Option Addr) (h : Mem) (K : Value → Mem → Prop) : denF tys (cs191 (sector_Disk_made tau) (sector_Disk_fails tau) (sector_Disk_sector tau)) (dcs191) hn191 (Go.Proofs.Tryz.f191.body.getD .skip) Go.Proofs.Tryz.f191.results.toList [(Value.pointer p1)] h K = sector_Disk_Flush tau p1 h fun n2 h => K (Value.int .i64 n2) h := by delta sector_Disk_Flush; generalize sector_Disk_made tau = f282; generalize sector_Disk_fails tau = f283; generalize sector_Disk_sector tau = f284; revert f282 f283 f284; refine keep ?_; intro f282 f283 f284; kernel_rfl
abbrev T209 := Sl → Mem → (Sl → Mem → Prop) → Prop
def c209 (f : T209) : CallP := fun vs h K => match vs with
  | [.slice s1b s1l s1c] => f ⟨s1b, s1l, s1c⟩ h fun s2 h => K (Value.slice s2.base s2.len s2.cap) h
  | _ => False
def cs209 : Calls' := callsT []
def dcs209 : Calls' := callsT []
def hn209 : Hints := ⟨[], [], []⟩
theorem d209 (s1 : Sl) (h : Mem) (K : Value → Mem → Prop) : denF tys (cs209) (dcs209) hn209 (Go.Proofs.Tryz.f209.body.getD .skip) Go.Proofs.Tryz.f209.results.toList [(Value.slice s1.base s1.len s1.cap)] h K = slices_Clone_int_int tau s1 h fun s2 h => K (Value.slice s2.base s2.len s2.cap) h := by delta slices_Clone_int_int; kernel_rfl
abbrev T260 := Option Addr → Mem → (Bool → Mem → Prop) → Prop
def c260 (f : T260) : CallP := fun vs h K => match vs with
  | [.pointer p1] => f p1 h fun b2 h => K (Value.bool b2) h
  | _ => False
def cs260 : Calls' := callsT []
def dcs260 : Calls' := callsT []
def hn260 : Hints := ⟨[], [], []⟩
theorem d260 (p1 : Option Addr) (h : Mem) (K : Value → Mem → Prop) : denF tys (cs260) (dcs260) hn260 (Go.Proofs.Tryz.f260.body.getD .skip) Go.Proofs.Tryz.f260.results.toList [(Value.pointer p1)] h K = octet_Reader_made tau p1 h fun b2 h => K (Value.bool b2) h := by delta octet_Reader_made; kernel_rfl
abbrev T256 := Option Addr → Mem → (Bool → Mem → Prop) → Prop
def c256 (f : T256) : CallP := fun vs h K => match vs with
  | [.pointer p1] => f p1 h fun b2 h => K (Value.bool b2) h
  | _ => False
def cs256 (f260 : T260) : Calls' := callsT [(260, c260 f260)]
def dcs256 : Calls' := callsT []
def hn256 : Hints := ⟨[], [], []⟩
theorem d256 (p1 : Option Addr) (h : Mem) (K : Value → Mem → Prop) : denF tys (cs256 (octet_Reader_made tau)) (dcs256) hn256 (Go.Proofs.Tryz.f256.body.getD .skip) Go.Proofs.Tryz.f256.results.toList [(Value.pointer p1)] h K = octet_Reader_ready tau p1 h fun b2 h => K (Value.bool b2) h := by delta octet_Reader_ready; generalize octet_Reader_made tau = f260; revert f260; refine keep ?_; intro f260; kernel_rfl
abbrev T258 := Option Addr → Int → Mem → (Mem → Prop) → Prop
def c258 (f : T258) : CallP := fun vs h K => match vs with
  | [.pointer p1, .int .i64 n2] => f p1 n2 h fun  h => K (Value.tuple #[]) h
  | _ => False
def cs258 : Calls' := callsT []
def dcs258 : Calls' := callsT []
def hn258 : Hints := ⟨[], [], []⟩
theorem d258 (p1 : Option Addr) (n2 : Int) (h : Mem) (K : Value → Mem → Prop) : denF tys (cs258) (dcs258) hn258 (Go.Proofs.Tryz.f258.body.getD .skip) Go.Proofs.Tryz.f258.results.toList [(Value.pointer p1), (Value.int .i64 n2)] h K = octet_Reader_fail tau p1 n2 h fun  h => K (Value.tuple #[]) h := by delta octet_Reader_fail; kernel_rfl
abbrev T159 := Option Addr → Int → Mem → (Sl → Mem → Prop) → Prop
def c159 (f : T159) : CallP := fun vs h K => match vs with
  | [.pointer p1, .int .i64 n2] => f p1 n2 h fun s3 h => K (Value.slice s3.base s3.len s3.cap) h
  | _ => False
def cs159 (f256 : T256) (f258 : T258) : Calls' := callsT [(256, c256 f256), (258, c258 f258)]
def dcs159 : Calls' := callsT []
def hn159 : Hints := ⟨[], [(4, [0, 0, 2, 6, 14, 30, 0, 64, 192, 448, 1022, 2047]), (7, [0, 0, 2, 6, 14, 0, 32, 96, 224, 0, 512, 1536, 3584, 0, 15872, 32766, 65535, 131071])], []⟩
theorem d159 (p1 : Option Addr) (n2 : Int) (h : Mem) (K : Value → Mem → Prop) : denF tys (cs159 (octet_Reader_ready tau) (octet_Reader_fail tau)) (dcs159) hn159 (Go.Proofs.Tryz.f159.body.getD .skip) Go.Proofs.Tryz.f159.results.toList [(Value.pointer p1), (Value.int .i64 n2)] h K = octet_Reader_Fixed tau p1 n2 h fun s3 h => K (Value.slice s3.base s3.len s3.cap) h := by delta octet_Reader_Fixed; generalize octet_Reader_ready tau = f256; generalize octet_Reader_fail tau = f258; revert f256 f258; refine keep ?_; intro f256 f258; kernel_rfl
abbrev T213 := Option Addr → Int → Mem → (Int → Mem → Prop) → Prop
def c213 (f : T213) : CallP := fun vs h K => match vs with
  | [.pointer p1, .int .i64 n2] => f p1 n2 h fun n3 h => K (Value.int .u64 n3) h
  | _ => False
def cs213 (f159 : T159) (f256 : T256) (f258 : T258) : Calls' := callsT [(159, c159 f159), (256, c256 f256), (258, c258 f258)]
def dcs213 : Calls' := callsT []
def hn213 : Hints := ⟨[(11, [(5, .int .u64), (22, .int .i64)])], [], []⟩
theorem d213 (p1 : Option Addr) (n2 : Int) (h : Mem) (K : Value → Mem → Prop) : denF tys (cs213 (octet_Reader_Fixed tau) (octet_Reader_ready tau) (octet_Reader_fail tau)) (dcs213) hn213 (Go.Proofs.Tryz.f213.body.getD .skip) Go.Proofs.Tryz.f213.results.toList [(Value.pointer p1), (Value.int .i64 n2)] h K = octet_Reader_Word tau p1 n2 h fun n3 h => K (Value.int .u64 n3) h := by delta octet_Reader_Word; generalize octet_Reader_Fixed tau = f159; generalize octet_Reader_ready tau = f256; generalize octet_Reader_fail tau = f258; revert f159 f256 f258; refine keep ?_; intro f159 f256 f258; kernel_rfl
abbrev T391 := Array Value → Int → Sl → Mem → (Int → Mem → Prop) → Prop
def c391 (f : T391) : CallP := fun vs h K => match vs with
  | [.agg c1, .int .u32 n2, .slice s3b s3l s3c] => f c1 n2 ⟨s3b, s3l, s3c⟩ h fun n4 h => K (Value.int .u32 n4) h
  | _ => False
def cs391 : Calls' := callsT []
def dcs391 : Calls' := callsT []
def hn391 : Hints := ⟨[(3, [(7, .int .u32), (14, .int .i64)])], [], []⟩
theorem d391 (c1 : Array Value) (n2 : Int) (s3 : Sl) (h : Mem) (K : Value → Mem → Prop) : denF tys (cs391) (dcs391) hn391 (Go.Proofs.Tryz.f391.body.getD .skip) Go.Proofs.Tryz.f391.results.toList [(Value.agg c1), (Value.int .u32 n2), (Value.slice s3.base s3.len s3.cap)] h K = crc_On tau c1 n2 s3 h fun n4 h => K (Value.int .u32 n4) h := by delta crc_On; kernel_rfl
abbrev T364 := Array Value → Sl → Mem → (Int → Mem → Prop) → Prop
def c364 (f : T364) : CallP := fun vs h K => match vs with
  | [.agg c1, .slice s2b s2l s2c] => f c1 ⟨s2b, s2l, s2c⟩ h fun n3 h => K (Value.int .u32 n3) h
  | _ => False
def cs364 (f391 : T391) : Calls' := callsT [(391, c391 f391)]
def dcs364 : Calls' := callsT []
def hn364 : Hints := ⟨[(2, [(4, .int .u32), (9, .int .i64)])], [], []⟩
theorem d364 (c1 : Array Value) (s2 : Sl) (h : Mem) (K : Value → Mem → Prop) : denF tys (cs364 (crc_On tau)) (dcs364) hn364 (Go.Proofs.Tryz.f364.body.getD .skip) Go.Proofs.Tryz.f364.results.toList [(Value.agg c1), (Value.slice s2.base s2.len s2.cap)] h K = crc_on tau c1 s2 h fun n3 h => K (Value.int .u32 n3) h := by delta crc_on; generalize crc_On tau = f391; revert f391; refine keep ?_; intro f391; kernel_rfl
abbrev T365 := Mem → (Array Value → Mem → Prop) → Prop
def c365 (f : T365) : CallP := fun vs h K => match vs with
  | [] => f  h fun c1 h => K (Value.agg c1) h
  | _ => False
def cs365 : Calls' := callsT []
def dcs365 : Calls' := callsT []
def hn365 : Hints := ⟨[(2, [(4, .int .i64)]), (6, [(2, .int .u32), (9, .int .i64)])], [], []⟩
theorem d365 (h : Mem) (K : Value → Mem → Prop) : denF tys (cs365) (dcs365) hn365 (Go.Proofs.Tryz.f365.body.getD .skip) Go.Proofs.Tryz.f365.results.toList [] h K = crc_Table tau  h fun c1 h => K (Value.agg c1) h := by delta crc_Table; kernel_rfl
abbrev T344 := Sl → Mem → (Int → Mem → Prop) → Prop
def c344 (f : T344) : CallP := fun vs h K => match vs with
  | [.slice s1b s1l s1c] => f ⟨s1b, s1l, s1c⟩ h fun n2 h => K (Value.int .u32 n2) h
  | _ => False
def cs344 (f364 : T364) (f365 : T365) : Calls' := callsT [(364, c364 f364), (365, c365 f365)]
def dcs344 : Calls' := callsT []
def hn344 : Hints := ⟨[], [], []⟩
theorem d344 (s1 : Sl) (h : Mem) (K : Value → Mem → Prop) : denF tys (cs344 (crc_on tau) (crc_Table tau)) (dcs344) hn344 (Go.Proofs.Tryz.f344.body.getD .skip) Go.Proofs.Tryz.f344.results.toList [(Value.slice s1.base s1.len s1.cap)] h K = crc_Parts tau s1 h fun n2 h => K (Value.int .u32 n2) h := by delta crc_Parts; generalize crc_on tau = f364; generalize crc_Table tau = f365; revert f364 f365; refine keep ?_; intro f364 f365; kernel_rfl
abbrev T295 := Sl → Mem → (Int → Mem → Prop) → Prop
def c295 (f : T295) : CallP := fun vs h K => match vs with
  | [.slice s1b s1l s1c] => f ⟨s1b, s1l, s1c⟩ h fun n2 h => K (Value.int .u32 n2) h
  | _ => False
def cs295 (f344 : T344) : Calls' := callsT [(344, c344 f344)]
def dcs295 : Calls' := callsT []
def hn295 : Hints := ⟨[], [(1, [0, 1, 0, 0, 8, 31, 63, 127])], []⟩
theorem d295 (s1 : Sl) (h : Mem) (K : Value → Mem → Prop) : denF tys (cs295 (crc_Parts tau)) (dcs295) hn295 (Go.Proofs.Tryz.f295.body.getD .skip) Go.Proofs.Tryz.f295.results.toList [(Value.slice s1.base s1.len s1.cap)] h K = page_crcOf tau s1 h fun n2 h => K (Value.int .u32 n2) h := by delta page_crcOf; generalize crc_Parts tau = f344; revert f344; refine keep ?_; intro f344; kernel_rfl
abbrev T214 := Int → Int → Sl → Mem → (Sl → Int → Mem → Prop) → Prop
def c214 (f : T214) : CallP := fun vs h K => match vs with
  | [.agg ⟨[.int .i64 n1, .int .u32 n2, .slice s3b s3l s3c]⟩] => f n1 n2 ⟨s3b, s3l, s3c⟩ h fun s4 n5 h => K (Value.tuple #[(Value.slice s4.base s4.len s4.cap), (Value.int .i64 n5)]) h
  | _ => False
def cs214 (f130 : T130) (f295 : T295) : Calls' := callsT [(130, c130 f130), (295, c295 f295)]
def dcs214 : Calls' := callsT []
def hn214 : Hints := ⟨[], [(6, [0, 1, 0, 4, 15]), (7, [0, 1, 0, 4, 12, 28, 63])], []⟩
theorem d214 (n1 : Int) (n2 : Int) (s3 : Sl) (h : Mem) (K : Value → Mem → Prop) : denF tys (cs214 (octet_Word tau) (page_crcOf tau)) (dcs214) hn214 (Go.Proofs.Tryz.f214.body.getD .skip) Go.Proofs.Tryz.f214.results.toList [(Value.agg #[(Value.int .i64 n1), (Value.int .u32 n2), (Value.slice s3.base s3.len s3.cap)])] h K = page_Bytes tau n1 n2 s3 h fun s4 n5 h => K (Value.tuple #[(Value.slice s4.base s4.len s4.cap), (Value.int .i64 n5)]) h := by delta page_Bytes; generalize octet_Word tau = f130; generalize page_crcOf tau = f295; revert f130 f295; refine keep ?_; intro f130 f295; kernel_rfl
abbrev T216 := Option Addr → Mem → (Int → Mem → Prop) → Prop
def c216 (f : T216) : CallP := fun vs h K => match vs with
  | [.pointer p1] => f p1 h fun n2 h => K (Value.int .i64 n2) h
  | _ => False
def cs216 (f282 : T282) : Calls' := callsT [(282, c282 f282)]
def dcs216 : Calls' := callsT []
def hn216 : Hints := ⟨[], [], []⟩
theorem d216 (p1 : Option Addr) (h : Mem) (K : Value → Mem → Prop) : denF tys (cs216 (sector_Disk_made tau)) (dcs216) hn216 (Go.Proofs.Tryz.f216.body.getD .skip) Go.Proofs.Tryz.f216.results.toList [(Value.pointer p1)] h K = sector_Disk_Sectors tau p1 h fun n2 h => K (Value.int .i64 n2) h := by delta sector_Disk_Sectors; generalize sector_Disk_made tau = f282; revert f282; refine keep ?_; intro f282; kernel_rfl
abbrev T223 := Sl → Int → Mem → (Sl → Mem → Prop) → Prop
def c223 (f : T223) : CallP := fun vs h K => match vs with
  | [.slice s1b s1l s1c, .int .u64 n2] => f ⟨s1b, s1l, s1c⟩ n2 h fun s3 h => K (Value.slice s3.base s3.len s3.cap) h
  | _ => False
def cs223 (f98 : T98) : Calls' := callsT [(98, c98 f98)]
def dcs223 : Calls' := callsT []
def hn223 : Hints := ⟨[(2, [(0, .sl), (1, .int .u64)])], [], []⟩
theorem d223 (s1 : Sl) (n2 : Int) (h : Mem) (K : Value → Mem → Prop) : denF tys (cs223 (slices_Clone_byte_byte tau)) (dcs223) hn223 (Go.Proofs.Tryz.f223.body.getD .skip) Go.Proofs.Tryz.f223.results.toList [(Value.slice s1.base s1.len s1.cap), (Value.int .u64 n2)] h K = octet_Number tau s1 n2 h fun s3 h => K (Value.slice s3.base s3.len s3.cap) h := by delta octet_Number; generalize slices_Clone_byte_byte tau = f98; revert f98; refine keep ?_; intro f98; kernel_rfl
abbrev T226 := Sl → Int → Int → Mem → (Sl → Mem → Prop) → Prop
def c226 (f : T226) : CallP := fun vs h K => match vs with
  | [.slice s1b s1l s1c, .int .i64 n2, .int .i64 n3] => f ⟨s1b, s1l, s1c⟩ n2 n3 h fun s4 h => K (Value.slice s4.base s4.len s4.cap) h
  | _ => False
def cs226 : Calls' := callsT []
def dcs226 : Calls' := callsT []
def hn226 : Hints := ⟨[], [(5, [0, 0, 3, 0, 0, 24, 63, 127])], []⟩
theorem d226 (s1 : Sl) (n2 : Int) (n3 : Int) (h : Mem) (K : Value → Mem → Prop) : denF tys (cs226) (dcs226) hn226 (Go.Proofs.Tryz.f226.body.getD .skip) Go.Proofs.Tryz.f226.results.toList [(Value.slice s1.base s1.len s1.cap), (Value.int .i64 n2), (Value.int .i64 n3)] h K = slices_Delete_int_int tau s1 n2 n3 h fun s4 h => K (Value.slice s4.base s4.len s4.cap) h := by delta slices_Delete_int_int; kernel_rfl
abbrev T304 := Sl → Sl → Mem → (Bool → Mem → Prop) → Prop
def c304 (f : T304) : CallP := fun vs h K => match vs with
  | [.slice s1b s1l s1c, .slice s2b s2l s2c] => f ⟨s1b, s1l, s1c⟩ ⟨s2b, s2l, s2c⟩ h fun b3 h => K (Value.bool b3) h
  | _ => False
abbrev T367 := Sl → Mem → (Mem → Prop) → Prop
def c367 (f : T367) : CallP := fun vs h K => match vs with
  | [.slice s1b s1l s1c] => f ⟨s1b, s1l, s1c⟩ h fun  h => K (Value.tuple #[]) h
  | _ => False
def cs367 : Calls' := callsT []
def dcs367 : Calls' := callsT []
def hn367 : Hints := ⟨[(1, [(2, .int .i64), (3, .int .i64)])], [(3, [0, 0, 0, 0, 0, 0, 48, 112, 0, 0, 768, 1792, 4083, 8179, 16383, 32767])], []⟩
theorem d367 (s1 : Sl) (h : Mem) (K : Value → Mem → Prop) : denF tys (cs367) (dcs367) hn367 (Go.Proofs.Tryz.f367.body.getD .skip) Go.Proofs.Tryz.f367.results.toList [(Value.slice s1.base s1.len s1.cap)] h K = slices_Reverse_api_Ref_api_Ref tau s1 h fun  h => K (Value.tuple #[]) h := by delta slices_Reverse_api_Ref_api_Ref; kernel_rfl
abbrev T349 := Sl → Int → Mem → (Mem → Prop) → Prop
def c349 (f : T349) : CallP := fun vs h K => match vs with
  | [.slice s1b s1l s1c, .int .i64 n2] => f ⟨s1b, s1l, s1c⟩ n2 h fun  h => K (Value.tuple #[]) h
  | _ => False
def cs349 (f367 : T367) : Calls' := callsT [(367, c367 f367)]
def dcs349 : Calls' := callsT []
def hn349 : Hints := ⟨[], [], []⟩
theorem d349 (s1 : Sl) (n2 : Int) (h : Mem) (K : Value → Mem → Prop) : denF tys (cs349 (slices_Reverse_api_Ref_api_Ref tau)) (dcs349) hn349 (Go.Proofs.Tryz.f349.body.getD .skip) Go.Proofs.Tryz.f349.results.toList [(Value.slice s1.base s1.len s1.cap), (Value.int .i64 n2)] h K = slices_rotateLeft_api_Ref tau s1 n2 h fun  h => K (Value.tuple #[]) h := by delta slices_rotateLeft_api_Ref; generalize slices_Reverse_api_Ref_api_Ref tau = f367; revert f367; refine keep ?_; intro f367; kernel_rfl
abbrev T305 := Sl → Int → Mem → (Mem → Prop) → Prop
def c305 (f : T305) : CallP := fun vs h K => match vs with
  | [.slice s1b s1l s1c, .int .i64 n2] => f ⟨s1b, s1l, s1c⟩ n2 h fun  h => K (Value.tuple #[]) h
  | _ => False
def cs305 (f349 : T349) : Calls' := callsT [(349, c349 f349)]
def dcs305 : Calls' := callsT []
def hn305 : Hints := ⟨[], [], []⟩
theorem d305 (s1 : Sl) (n2 : Int) (h : Mem) (K : Value → Mem → Prop) : denF tys (cs305 (slices_rotateLeft_api_Ref tau)) (dcs305) hn305 (Go.Proofs.Tryz.f305.body.getD .skip) Go.Proofs.Tryz.f305.results.toList [(Value.slice s1.base s1.len s1.cap), (Value.int .i64 n2)] h K = slices_rotateRight_api_Ref tau s1 n2 h fun  h => K (Value.tuple #[]) h := by delta slices_rotateRight_api_Ref; generalize slices_rotateLeft_api_Ref tau = f349; revert f349; refine keep ?_; intro f349; kernel_rfl
abbrev T241 := Sl → Int → Sl → Mem → (Sl → Mem → Prop) → Prop
def c241 (f : T241) : CallP := fun vs h K => match vs with
  | [.slice s1b s1l s1c, .int .i64 n2, .slice s3b s3l s3c] => f ⟨s1b, s1l, s1c⟩ n2 ⟨s3b, s3l, s3c⟩ h fun s4 h => K (Value.slice s4.base s4.len s4.cap) h
  | _ => False
def cs241 (f304 : T304) (f305 : T305) : Calls' := callsT [(304, c304 f304), (305, c305 f305)]
def dcs241 : Calls' := callsT []
def hn241 : Hints := ⟨[], [(11, [0, 0, 0, 6, 15, 0, 0, 96, 255]), (15, [0, 0, 0, 6, 15, 0, 0, 96, 255])], []⟩
theorem d241 (s1 : Sl) (n2 : Int) (s3 : Sl) (h : Mem) (K : Value → Mem → Prop) : denF tys (cs241 (slices_overlaps_api_Ref tau) (slices_rotateRight_api_Ref tau)) (dcs241) hn241 (Go.Proofs.Tryz.f241.body.getD .skip) Go.Proofs.Tryz.f241.results.toList [(Value.slice s1.base s1.len s1.cap), (Value.int .i64 n2), (Value.slice s3.base s3.len s3.cap)] h K = slices_Insert_api_Ref_api_Ref tau s1 n2 s3 h fun s4 h => K (Value.slice s4.base s4.len s4.cap) h := by delta slices_Insert_api_Ref_api_Ref; generalize slices_overlaps_api_Ref tau = f304; generalize slices_rotateRight_api_Ref tau = f305; revert f304 f305; refine keep ?_; intro f304 f305; kernel_rfl
abbrev T249 := Sl → Int → Int → Mem → (Sl → Mem → Prop) → Prop
def c249 (f : T249) : CallP := fun vs h K => match vs with
  | [.slice s1b s1l s1c, .int .i64 n2, .int .i64 n3] => f ⟨s1b, s1l, s1c⟩ n2 n3 h fun s4 h => K (Value.slice s4.base s4.len s4.cap) h
  | _ => False
def cs249 : Calls' := callsT []
def dcs249 : Calls' := callsT []
def hn249 : Hints := ⟨[], [(5, [0, 0, 3, 0, 0, 24, 63, 127])], []⟩
theorem d249 (s1 : Sl) (n2 : Int) (n3 : Int) (h : Mem) (K : Value → Mem → Prop) : denF tys (cs249) (dcs249) hn249 (Go.Proofs.Tryz.f249.body.getD .skip) Go.Proofs.Tryz.f249.results.toList [(Value.slice s1.base s1.len s1.cap), (Value.int .i64 n2), (Value.int .i64 n3)] h K = slices_Delete_api_Ref_api_Ref tau s1 n2 n3 h fun s4 h => K (Value.slice s4.base s4.len s4.cap) h := by delta slices_Delete_api_Ref_api_Ref; kernel_rfl
abbrev T239 := Int → Int → Mem → (Bool → Mem → Prop) → Prop
def c239 (f : T239) : CallP := fun vs h K => match vs with
  | [.agg ⟨[.int .i64 n1, .int .i64 n2]⟩] => f n1 n2 h fun b3 h => K (Value.bool b3) h
  | _ => False
def cs239 : Calls' := callsT []
def dcs239 : Calls' := callsT []
def hn239 : Hints := ⟨[], [], []⟩
theorem d239 (n1 : Int) (n2 : Int) (h : Mem) (K : Value → Mem → Prop) : denF tys (cs239) (dcs239) hn239 (Go.Proofs.Tryz.f239.body.getD .skip) Go.Proofs.Tryz.f239.results.toList [(Value.agg #[(Value.int .i64 n1), (Value.int .i64 n2)])] h K = bucket_may tau n1 n2 h fun b3 h => K (Value.bool b3) h := by delta bucket_may; kernel_rfl
abbrev T346 := Sl → Mem → (Int → Mem → Prop) → Prop
def c346 (f : T346) : CallP := fun vs h K => match vs with
  | [.slice s1b s1l s1c] => f ⟨s1b, s1l, s1c⟩ h fun n2 h => K (Value.int .i64 n2) h
  | _ => False
def cs346 : Calls' := callsT []
def dcs346 : Calls' := callsT []
def hn346 : Hints := ⟨[(3, [(8, .int .i64)])], [], []⟩
theorem d346 (s1 : Sl) (h : Mem) (K : Value → Mem → Prop) : denF tys (cs346) (dcs346) hn346 (Go.Proofs.Tryz.f346.body.getD .skip) Go.Proofs.Tryz.f346.results.toList [(Value.slice s1.base s1.len s1.cap)] h K = cmp_Or_int tau s1 h fun n2 h => K (Value.int .i64 n2) h := by delta cmp_Or_int; kernel_rfl
abbrev T366 := Int → Mem → (Bool → Mem → Prop) → Prop
def c366 (f : T366) : CallP := fun vs h K => match vs with
  | [.int .u64 n1] => f n1 h fun b2 h => K (Value.bool b2) h
  | _ => False
def cs366 : Calls' := callsT []
def dcs366 : Calls' := callsT []
def hn366 : Hints := ⟨[], [], []⟩
theorem d366 (n1 : Int) (h : Mem) (K : Value → Mem → Prop) : denF tys (cs366) (dcs366) hn366 (Go.Proofs.Tryz.f366.body.getD .skip) Go.Proofs.Tryz.f366.results.toList [(Value.int .u64 n1)] h K = cmp_isNaN_uint64 tau n1 h fun b2 h => K (Value.bool b2) h := by delta cmp_isNaN_uint64; kernel_rfl
abbrev T347 := Int → Int → Mem → (Int → Mem → Prop) → Prop
def c347 (f : T347) : CallP := fun vs h K => match vs with
  | [.int .u64 n1, .int .u64 n2] => f n1 n2 h fun n3 h => K (Value.int .i64 n3) h
  | _ => False
def cs347 (f366 : T366) : Calls' := callsT [(366, c366 f366)]
def dcs347 : Calls' := callsT []
def hn347 : Hints := ⟨[], [], []⟩
theorem d347 (n1 : Int) (n2 : Int) (h : Mem) (K : Value → Mem → Prop) : denF tys (cs347 (cmp_isNaN_uint64 tau)) (dcs347) hn347 (Go.Proofs.Tryz.f347.body.getD .skip) Go.Proofs.Tryz.f347.results.toList [(Value.int .u64 n1), (Value.int .u64 n2)] h K = cmp_Compare_uint64 tau n1 n2 h fun n3 h => K (Value.int .i64 n3) h := by delta cmp_Compare_uint64; generalize cmp_isNaN_uint64 tau = f366; revert f366; refine keep ?_; intro f366; kernel_rfl
abbrev T345 := Int → Mem → (Bool → Mem → Prop) → Prop
def c345 (f : T345) : CallP := fun vs h K => match vs with
  | [.int .i64 n1] => f n1 h fun b2 h => K (Value.bool b2) h
  | _ => False
def cs345 : Calls' := callsT []
def dcs345 : Calls' := callsT []
def hn345 : Hints := ⟨[], [], []⟩
theorem d345 (n1 : Int) (h : Mem) (K : Value → Mem → Prop) : denF tys (cs345) (dcs345) hn345 (Go.Proofs.Tryz.f345.body.getD .skip) Go.Proofs.Tryz.f345.results.toList [(Value.int .i64 n1)] h K = cmp_isNaN_int tau n1 h fun b2 h => K (Value.bool b2) h := by delta cmp_isNaN_int; kernel_rfl
abbrev T348 := Int → Int → Mem → (Int → Mem → Prop) → Prop
def c348 (f : T348) : CallP := fun vs h K => match vs with
  | [.int .i64 n1, .int .i64 n2] => f n1 n2 h fun n3 h => K (Value.int .i64 n3) h
  | _ => False
def cs348 (f345 : T345) : Calls' := callsT [(345, c345 f345)]
def dcs348 : Calls' := callsT []
def hn348 : Hints := ⟨[], [], []⟩
theorem d348 (n1 : Int) (n2 : Int) (h : Mem) (K : Value → Mem → Prop) : denF tys (cs348 (cmp_isNaN_int tau)) (dcs348) hn348 (Go.Proofs.Tryz.f348.body.getD .skip) Go.Proofs.Tryz.f348.results.toList [(Value.int .i64 n1), (Value.int .i64 n2)] h K = cmp_Compare_int tau n1 n2 h fun n3 h => K (Value.int .i64 n3) h := by delta cmp_Compare_int; generalize cmp_isNaN_int tau = f345; revert f345; refine keep ?_; intro f345; kernel_rfl
abbrev T301 := Int → Int → Int → Int → Int → Int → Mem → (Int → Mem → Prop) → Prop
def c301 (f : T301) : CallP := fun vs h K => match vs with
  | [.agg ⟨[.int .u64 n1, .int .i64 n2, .int .i64 n3]⟩, .agg ⟨[.int .u64 n4, .int .i64 n5, .int .i64 n6]⟩] => f n1 n2 n3 n4 n5 n6 h fun n7 h => K (Value.int .i64 n7) h
  | _ => False
def cs301 (f346 : T346) (f347 : T347) (f348 : T348) : Calls' := callsT [(346, c346 f346), (347, c347 f347), (348, c348 f348)]
def dcs301 : Calls' := callsT []
def hn301 : Hints := ⟨[], [(1, [0, 1, 0, 4, 15, 0, 32, 96, 0, 256, 768, 2047, 0, 4096, 12288, 0, 32768, 98304, 262143, 524287, 1048575, 2097151])], []⟩
theorem d301 (n1 : Int) (n2 : Int) (n3 : Int) (n4 : Int) (n5 : Int) (n6 : Int) (h : Mem) (K : Value → Mem → Prop) : denF tys (cs301 (cmp_Or_int tau) (cmp_Compare_uint64 tau) (cmp_Compare_int tau)) (dcs301) hn301 (Go.Proofs.Tryz.f301.body.getD .skip) Go.Proofs.Tryz.f301.results.toList [(Value.agg #[(Value.int .u64 n1), (Value.int .i64 n2), (Value.int .i64 n3)]), (Value.agg #[(Value.int .u64 n4), (Value.int .i64 n5), (Value.int .i64 n6)])] h K = bucket_Compare tau n1 n2 n3 n4 n5 n6 h fun n7 h => K (Value.int .i64 n7) h := by delta bucket_Compare; generalize cmp_Or_int tau = f346; generalize cmp_Compare_uint64 tau = f347; generalize cmp_Compare_int tau = f348; revert f346 f347 f348; refine keep ?_; intro f346 f347 f348; kernel_rfl
abbrev T238 := Int → Sl → Mem → (Int → Mem → Prop) → Prop
def c238 (f : T238) : CallP := fun vs h K => match vs with
  | [.agg ⟨[.int .i64 n1, .slice s2b s2l s2c]⟩] => f n1 ⟨s2b, s2l, s2c⟩ h fun n3 h => K (Value.int .i64 n3) h
  | _ => False
def cs238 (f239 : T239) (f301 : T301) : Calls' := callsT [(239, c239 f239), (301, c301 f301)]
def dcs238 : Calls' := callsT []
def hn238 : Hints := ⟨[(4, [(22, .int .i64)])], [(6, [0, 1, 3, 7, 15, 31, 63, 127, 255, 511, 255, 1279, 4095, 8191, 255, 32767, 65535, 131071, 262143])], []⟩
theorem d238 (n1 : Int) (s2 : Sl) (h : Mem) (K : Value → Mem → Prop) : denF tys (cs238 (bucket_may tau) (bucket_Compare tau)) (dcs238) hn238 (Go.Proofs.Tryz.f238.body.getD .skip) Go.Proofs.Tryz.f238.results.toList [(Value.agg #[(Value.int .i64 n1), (Value.slice s2.base s2.len s2.cap)])] h K = bucket_Check tau n1 s2 h fun n3 h => K (Value.int .i64 n3) h := by delta bucket_Check; generalize bucket_may tau = f239; generalize bucket_Compare tau = f301; revert f239 f301; refine keep ?_; intro f239 f301; kernel_rfl
abbrev T261 := Option Addr → Mem → (Int → Mem → Prop) → Prop
def c261 (f : T261) : CallP := fun vs h K => match vs with
  | [.pointer p1] => f p1 h fun n2 h => K (Value.int .i64 n2) h
  | _ => False
def cs261 (f260 : T260) : Calls' := callsT [(260, c260 f260)]
def dcs261 : Calls' := callsT []
def hn261 : Hints := ⟨[], [(3, [0, 1, 3, 7, 15, 0, 32, 96, 224, 511, 1023])], []⟩
theorem d261 (p1 : Option Addr) (h : Mem) (K : Value → Mem → Prop) : denF tys (cs261 (octet_Reader_made tau)) (dcs261) hn261 (Go.Proofs.Tryz.f261.body.getD .skip) Go.Proofs.Tryz.f261.results.toList [(Value.pointer p1)] h K = octet_Reader_Left tau p1 h fun n2 h => K (Value.int .i64 n2) h := by delta octet_Reader_Left; generalize octet_Reader_made tau = f260; revert f260; refine keep ?_; intro f260; kernel_rfl
abbrev T315 := Option Addr → Mem → (Int → Mem → Prop) → Prop
def c315 (f : T315) : CallP := fun vs h K => match vs with
  | [.pointer p1] => f p1 h fun n2 h => K (Value.int .i64 n2) h
  | _ => False
def cs315 (f260 : T260) : Calls' := callsT [(260, c260 f260)]
def dcs315 : Calls' := callsT []
def hn315 : Hints := ⟨[], [], []⟩
theorem d315 (p1 : Option Addr) (h : Mem) (K : Value → Mem → Prop) : denF tys (cs315 (octet_Reader_made tau)) (dcs315) hn315 (Go.Proofs.Tryz.f315.body.getD .skip) Go.Proofs.Tryz.f315.results.toList [(Value.pointer p1)] h K = octet_Reader_Err tau p1 h fun n2 h => K (Value.int .i64 n2) h := by delta octet_Reader_Err; generalize octet_Reader_made tau = f260; revert f260; refine keep ?_; intro f260; kernel_rfl
abbrev T262 := Sl → Mem → (Int → Sl → Int → Mem → Prop) → Prop
def c262 (f : T262) : CallP := fun vs h K => match vs with
  | [.slice s1b s1l s1c] => f ⟨s1b, s1l, s1c⟩ h fun n2 s3 n4 h => K (Value.tuple #[(Value.agg #[(Value.int .i64 n2), (Value.slice s3.base s3.len s3.cap)]), (Value.int .i64 n4)]) h
  | _ => False
def cs262 (f156 : T156) (f213 : T213) (f238 : T238) (f261 : T261) (f315 : T315) : Calls' := callsT [(156, c156 f156), (213, c213 f213), (238, c238 f238), (261, c261 f261), (315, c315 f315)]
def dcs262 : Calls' := callsT []
def hn262 : Hints := ⟨[(4, [(6, .int .u64)]), (10, [(58, .int .i64)])], [(6, [0, 1, 0, 4, 0, 28, 60, 0, 188, 444, 1020, 2044, 4092, 8191, 16383, 32767])], []⟩
theorem d262 (s1 : Sl) (h : Mem) (K : Value → Mem → Prop) : denF tys (cs262 (octet_New tau) (octet_Reader_Word tau) (bucket_Check tau) (octet_Reader_Left tau) (octet_Reader_Err tau)) (dcs262) hn262 (Go.Proofs.Tryz.f262.body.getD .skip) Go.Proofs.Tryz.f262.results.toList [(Value.slice s1.base s1.len s1.cap)] h K = bucket_Read tau s1 h fun n2 s3 n4 h => K (Value.tuple #[(Value.agg #[(Value.int .i64 n2), (Value.slice s3.base s3.len s3.cap)]), (Value.int .i64 n4)]) h := by delta bucket_Read; generalize octet_New tau = f156; generalize octet_Reader_Word tau = f213; generalize bucket_Check tau = f238; generalize octet_Reader_Left tau = f261; generalize octet_Reader_Err tau = f315; revert f156 f213 f238 f261 f315; refine keep ?_; intro f156 f213 f238 f261 f315; kernel_rfl
abbrev T264 := Int → Mem → (Bool → Mem → Prop) → Prop
def c264 (f : T264) : CallP := fun vs h K => match vs with
  | [.int .u8 n1] => f n1 h fun b2 h => K (Value.bool b2) h
  | _ => False
def cs264 : Calls' := callsT []
def dcs264 : Calls' := callsT []
def hn264 : Hints := ⟨[], [], []⟩
theorem d264 (n1 : Int) (h : Mem) (K : Value → Mem → Prop) : denF tys (cs264) (dcs264) hn264 (Go.Proofs.Tryz.f264.body.getD .skip) Go.Proofs.Tryz.f264.results.toList [(Value.int .u8 n1)] h K = index_Load_1 tau n1 h fun b2 h => K (Value.bool b2) h := by delta index_Load_1; kernel_rfl
abbrev T334 := Sl → Sl → Mem → (Bool → Mem → Prop) → Prop
def c334 (f : T334) : CallP := fun vs h K => match vs with
  | [.slice s1b s1l s1c, .slice s2b s2l s2c] => f ⟨s1b, s1l, s1c⟩ ⟨s2b, s2l, s2c⟩ h fun b3 h => K (Value.bool b3) h
  | _ => False
abbrev T382 := Sl → Mem → (Mem → Prop) → Prop
def c382 (f : T382) : CallP := fun vs h K => match vs with
  | [.slice s1b s1l s1c] => f ⟨s1b, s1l, s1c⟩ h fun  h => K (Value.tuple #[]) h
  | _ => False
def cs382 : Calls' := callsT []
def dcs382 : Calls' := callsT []
def hn382 : Hints := ⟨[(1, [(2, .int .i64), (3, .int .i64)])], [(3, [0, 0, 0, 0, 0, 0, 48, 112, 0, 0, 768, 1792, 4083, 8179, 16383, 32767])], []⟩
theorem d382 (s1 : Sl) (h : Mem) (K : Value → Mem → Prop) : denF tys (cs382) (dcs382) hn382 (Go.Proofs.Tryz.f382.body.getD .skip) Go.Proofs.Tryz.f382.results.toList [(Value.slice s1.base s1.len s1.cap)] h K = slices_Reverse_int_int tau s1 h fun  h => K (Value.tuple #[]) h := by delta slices_Reverse_int_int; kernel_rfl
abbrev T360 := Sl → Int → Mem → (Mem → Prop) → Prop
def c360 (f : T360) : CallP := fun vs h K => match vs with
  | [.slice s1b s1l s1c, .int .i64 n2] => f ⟨s1b, s1l, s1c⟩ n2 h fun  h => K (Value.tuple #[]) h
  | _ => False
def cs360 (f382 : T382) : Calls' := callsT [(382, c382 f382)]
def dcs360 : Calls' := callsT []
def hn360 : Hints := ⟨[], [], []⟩
theorem d360 (s1 : Sl) (n2 : Int) (h : Mem) (K : Value → Mem → Prop) : denF tys (cs360 (slices_Reverse_int_int tau)) (dcs360) hn360 (Go.Proofs.Tryz.f360.body.getD .skip) Go.Proofs.Tryz.f360.results.toList [(Value.slice s1.base s1.len s1.cap), (Value.int .i64 n2)] h K = slices_rotateLeft_int tau s1 n2 h fun  h => K (Value.tuple #[]) h := by delta slices_rotateLeft_int; generalize slices_Reverse_int_int tau = f382; revert f382; refine keep ?_; intro f382; kernel_rfl
abbrev T335 := Sl → Int → Mem → (Mem → Prop) → Prop
def c335 (f : T335) : CallP := fun vs h K => match vs with
  | [.slice s1b s1l s1c, .int .i64 n2] => f ⟨s1b, s1l, s1c⟩ n2 h fun  h => K (Value.tuple #[]) h
  | _ => False
def cs335 (f360 : T360) : Calls' := callsT [(360, c360 f360)]
def dcs335 : Calls' := callsT []
def hn335 : Hints := ⟨[], [], []⟩
theorem d335 (s1 : Sl) (n2 : Int) (h : Mem) (K : Value → Mem → Prop) : denF tys (cs335 (slices_rotateLeft_int tau)) (dcs335) hn335 (Go.Proofs.Tryz.f335.body.getD .skip) Go.Proofs.Tryz.f335.results.toList [(Value.slice s1.base s1.len s1.cap), (Value.int .i64 n2)] h K = slices_rotateRight_int tau s1 n2 h fun  h => K (Value.tuple #[]) h := by delta slices_rotateRight_int; generalize slices_rotateLeft_int tau = f360; revert f360; refine keep ?_; intro f360; kernel_rfl
abbrev T276 := Sl → Int → Sl → Mem → (Sl → Mem → Prop) → Prop
def c276 (f : T276) : CallP := fun vs h K => match vs with
  | [.slice s1b s1l s1c, .int .i64 n2, .slice s3b s3l s3c] => f ⟨s1b, s1l, s1c⟩ n2 ⟨s3b, s3l, s3c⟩ h fun s4 h => K (Value.slice s4.base s4.len s4.cap) h
  | _ => False
def cs276 (f334 : T334) (f335 : T335) : Calls' := callsT [(334, c334 f334), (335, c335 f335)]
def dcs276 : Calls' := callsT []
def hn276 : Hints := ⟨[], [(11, [0, 0, 0, 6, 15, 0, 0, 96, 255]), (15, [0, 0, 0, 6, 15, 0, 0, 96, 255])], []⟩
theorem d276 (s1 : Sl) (n2 : Int) (s3 : Sl) (h : Mem) (K : Value → Mem → Prop) : denF tys (cs276 (slices_overlaps_int tau) (slices_rotateRight_int tau)) (dcs276) hn276 (Go.Proofs.Tryz.f276.body.getD .skip) Go.Proofs.Tryz.f276.results.toList [(Value.slice s1.base s1.len s1.cap), (Value.int .i64 n2), (Value.slice s3.base s3.len s3.cap)] h K = slices_Insert_int_int tau s1 n2 s3 h fun s4 h => K (Value.slice s4.base s4.len s4.cap) h := by delta slices_Insert_int_int; generalize slices_overlaps_int tau = f334; generalize slices_rotateRight_int tau = f335; revert f334 f335; refine keep ?_; intro f334 f335; kernel_rfl
abbrev T287 := Sl → Mem → (Bool → Mem → Prop) → Prop
def c287 (f : T287) : CallP := fun vs h K => match vs with
  | [.slice s1b s1l s1c] => f ⟨s1b, s1l, s1c⟩ h fun b2 h => K (Value.bool b2) h
  | _ => False
def cs287 : Calls' := callsT []
def dcs287 : Calls' := callsT []
def hn287 : Hints := ⟨[(2, [(7, .int .i64)])], [], []⟩
theorem d287 (s1 : Sl) (h : Mem) (K : Value → Mem → Prop) : denF tys (cs287) (dcs287) hn287 (Go.Proofs.Tryz.f287.body.getD .skip) Go.Proofs.Tryz.f287.results.toList [(Value.slice s1.base s1.len s1.cap)] h K = slots_noughts tau s1 h fun b2 h => K (Value.bool b2) h := by delta slots_noughts; kernel_rfl
abbrev T316 := Sl → Mem → (Int → Mem → Prop) → Prop
def c316 (f : T316) : CallP := fun vs h K => match vs with
  | [.slice s1b s1l s1c, .func (.func 264) ⟨[]⟩ ⟨[]⟩] => f ⟨s1b, s1l, s1c⟩ h fun n2 h => K (Value.int .i64 n2) h
  | _ => False
def cs316 (f264 : T264) : Calls' := callsT [(264, c264 f264)]
def dcs316 : Calls' := callsT []
def hn316 : Hints := ⟨[(2, [(8, .int .i64)])], [], []⟩
theorem d316 (s1 : Sl) (h : Mem) (K : Value → Mem → Prop) : denF tys (cs316 (index_Load_1 tau)) (dcs316) hn316 (Go.Proofs.Tryz.f316.body.getD .skip) Go.Proofs.Tryz.f316.results.toList [(Value.slice s1.base s1.len s1.cap), (Value.func (.func 264) #[] #[])] h K = slices_IndexFunc_byte_byte tau s1 h fun n2 h => K (Value.int .i64 n2) h := by delta slices_IndexFunc_byte_byte; generalize index_Load_1 tau = f264; revert f264; refine keep ?_; intro f264; kernel_rfl
end Go.TS.Tryz
/- The types of the seat. -/
namespace Go.TS.Tryz
open Go Go.TS
set_option linter.unusedVariables false
set_option maxRecDepth 100000
theorem hm : Go.Proofs.Tryz.prog.follows .mixedOrders = true := by kernel_rfl
theorem ty3 : TyOk Go.Proofs.Tryz.prog 3 ⟨.int .i64, (Value.int .i64 0), 1, 8, .leaf (.int .i64)⟩ := ⟨Go.Proofs.Tryz.underlying3, by kernel_rfl, by kernel_rfl, trivial⟩
theorem ty4 : TyOk Go.Proofs.Tryz.prog 4 ⟨.bool, (Value.bool false), 1, 1, .leaf (.bool)⟩ := ⟨Go.Proofs.Tryz.underlying4, by kernel_rfl, by kernel_rfl, trivial⟩
theorem ty5 : TyOk Go.Proofs.Tryz.prog 5 ⟨.int .u8, (Value.int .u8 0), 1, 1, .leaf (.int .u8)⟩ := ⟨Go.Proofs.Tryz.underlying5, by kernel_rfl, by kernel_rfl, trivial⟩
theorem ty25 : TyOk Go.Proofs.Tryz.prog 25 ⟨.int .i64, (Value.int .i64 0), 1, 8, .leaf (.int .i64)⟩ := ⟨Go.Proofs.Tryz.underlying25, by kernel_rfl, by kernel_rfl, trivial⟩
theorem ty27 : TyOk Go.Proofs.Tryz.prog 27 ⟨.slice 5, (Value.slice none 0 0), 1, 24, .leaf (.sl)⟩ := ⟨Go.Proofs.Tryz.underlying27, by kernel_rfl, by kernel_rfl, trivial⟩
theorem ty32 : TyOk Go.Proofs.Tryz.prog 32 ⟨.int .u64, (Value.int .u64 0), 1, 8, .leaf (.int .u64)⟩ := ⟨Go.Proofs.Tryz.underlying32, by kernel_rfl, by kernel_rfl, trivial⟩
theorem ty42 : TyOk Go.Proofs.Tryz.prog 42 ⟨.struct #[⟨ "Page", 3, 0, false, "", "", 0⟩, ⟨ "Slot", 3, 1, false, "", "", 8⟩], (Value.agg #[(Value.int .i64 0), (Value.int .i64 0)]), 2, 16, .agg [.int .i64, .int .i64]⟩ := ⟨Go.Proofs.Tryz.underlying42, by kernel_rfl, by kernel_rfl, ⟨by kernel_rfl, by kernel_rfl⟩⟩
theorem ty46 : TyOk Go.Proofs.Tryz.prog 46 ⟨.slice 3, (Value.slice none 0 0), 1, 24, .leaf (.sl)⟩ := ⟨Go.Proofs.Tryz.underlying46, by kernel_rfl, by kernel_rfl, trivial⟩
theorem ty64 : TyOk Go.Proofs.Tryz.prog 64 ⟨.pointer 277, (Value.pointer none), 1, 8, .leaf (.ptr)⟩ := ⟨Go.Proofs.Tryz.underlying64, by kernel_rfl, by kernel_rfl, trivial⟩
theorem ty94 : TyOk Go.Proofs.Tryz.prog 94 ⟨.slice 27, (Value.slice none 0 0), 1, 24, .leaf (.sl)⟩ := ⟨Go.Proofs.Tryz.underlying94, by kernel_rfl, by kernel_rfl, trivial⟩
theorem ty112 : TyOk Go.Proofs.Tryz.prog 112 ⟨.int .u32, (Value.int .u32 0), 1, 4, .leaf (.int .u32)⟩ := ⟨Go.Proofs.Tryz.underlying112, by kernel_rfl, by kernel_rfl, trivial⟩
theorem ty114 : TyOk Go.Proofs.Tryz.prog 114 ⟨.struct #[⟨ "Kind", 3, 0, false, "", "", 0⟩, ⟨ "Number", 112, 1, false, "", "", 8⟩, ⟨ "Body", 27, 2, false, "", "", 16⟩], (Value.agg #[(Value.int .i64 0), (Value.int .u32 0), (Value.slice none 0 0)]), 3, 40, .agg [.int .i64, .int .u32, .sl]⟩ := ⟨Go.Proofs.Tryz.underlying114, by kernel_rfl, by kernel_rfl, ⟨by kernel_rfl, by kernel_rfl⟩⟩
theorem ty135 : TyOk Go.Proofs.Tryz.prog 135 ⟨.struct #[⟨ "Hash", 32, 0, false, "", "", 0⟩, ⟨ "Place", 42, 1, false, "", "", 8⟩], (Value.agg #[(Value.int .u64 0), (Value.int .i64 0), (Value.int .i64 0)]), 3, 24, .agg [.int .u64, .int .i64, .int .i64]⟩ := ⟨Go.Proofs.Tryz.underlying135, by kernel_rfl, by kernel_rfl, ⟨by kernel_rfl, by kernel_rfl⟩⟩
theorem ty231 : TyOk Go.Proofs.Tryz.prog 231 ⟨.slice 135, (Value.slice none 0 0), 1, 24, .leaf (.sl)⟩ := ⟨Go.Proofs.Tryz.underlying231, by kernel_rfl, by kernel_rfl, trivial⟩
theorem ty233 : TyOk Go.Proofs.Tryz.prog 233 ⟨.struct #[⟨ "Next", 3, 0, false, "", "", 0⟩, ⟨ "Refs", 231, 1, false, "", "", 8⟩], (Value.agg #[(Value.int .i64 0), (Value.slice none 0 0)]), 2, 32, .agg [.int .i64, .sl]⟩ := ⟨Go.Proofs.Tryz.underlying233, by kernel_rfl, by kernel_rfl, ⟨by kernel_rfl, by kernel_rfl⟩⟩
theorem ty253 : TyOk Go.Proofs.Tryz.prog 253 ⟨.pointer 352, (Value.pointer none), 1, 8, .leaf (.ptr)⟩ := ⟨Go.Proofs.Tryz.underlying253, by kernel_rfl, by kernel_rfl, trivial⟩
theorem ty274 : TyOk Go.Proofs.Tryz.prog 274 ⟨.map 3 27, (Value.map none), 1, 8, .leaf (.map)⟩ := ⟨Go.Proofs.Tryz.underlying274, by kernel_rfl, by kernel_rfl, trivial⟩
theorem ty275 : TyOk Go.Proofs.Tryz.prog 275 ⟨.pointer 3, (Value.pointer none), 1, 8, .leaf (.ptr)⟩ := ⟨Go.Proofs.Tryz.underlying275, by kernel_rfl, by kernel_rfl, trivial⟩
theorem ty277 : TyOk Go.Proofs.Tryz.prog 277 ⟨.struct #[⟨ "b", 27, 0, false, "", "tallyman/sector", 0⟩, ⟨ "cache", 274, 1, false, "", "tallyman/sector", 24⟩, ⟨ "order", 46, 2, false, "", "tallyman/sector", 32⟩, ⟨ "left", 275, 3, false, "", "tallyman/sector", 56⟩], (Value.agg #[(Value.slice none 0 0), (Value.map none), (Value.slice none 0 0), (Value.pointer none)]), 4, 64, .agg [.sl, .map, .sl, .ptr]⟩ := ⟨Go.Proofs.Tryz.underlying277, by kernel_rfl, by kernel_rfl, ⟨by kernel_rfl, by kernel_rfl⟩⟩
theorem ty352 : TyOk Go.Proofs.Tryz.prog 352 ⟨.struct #[⟨ "b", 27, 0, false, "", "tallyman/octet", 0⟩, ⟨ "at", 3, 1, false, "", "tallyman/octet", 24⟩, ⟨ "err", 25, 2, false, "", "tallyman/octet", 32⟩, ⟨ "is", 4, 3, false, "", "tallyman/octet", 40⟩], (Value.agg #[(Value.slice none 0 0), (Value.int .i64 0), (Value.int .i64 0), (Value.bool false)]), 4, 48, .agg [.sl, .int .i64, .int .i64, .bool]⟩ := ⟨Go.Proofs.Tryz.underlying352, by kernel_rfl, by kernel_rfl, ⟨by kernel_rfl, by kernel_rfl⟩⟩
theorem ty366 : TyOk Go.Proofs.Tryz.prog 366 ⟨.slice 46, (Value.slice none 0 0), 1, 24, .leaf (.sl)⟩ := ⟨Go.Proofs.Tryz.underlying366, by kernel_rfl, by kernel_rfl, trivial⟩
theorem ty446 : TyOk Go.Proofs.Tryz.prog 446 ⟨.array 256 112, (Value.agg (Array.replicate 256 (Value.int .u32 0))), 256, 1024, .arr 256⟩ := ⟨Go.Proofs.Tryz.underlying446, by kernel_rfl, by kernel_rfl, trivial⟩
theorem tysOk : TysOk Go.Proofs.Tryz.prog tys := tysOk_of (.cons ty3 (.cons ty4 (.cons ty5 (.cons ty25 (.cons ty27 (.cons ty32 (.cons ty42 (.cons ty46 (.cons ty64 (.cons ty94 (.cons ty112 (.cons ty114 (.cons ty135 (.cons ty231 (.cons ty233 (.cons ty253 (.cons ty274 (.cons ty275 (.cons ty277 (.cons ty352 (.cons ty366 (.cons ty446 (.nil)))))))))))))))))))))))
end Go.TS.Tryz
/- The layer 'TS': soundness of what the printer does not print. -/
namespace Go.TS
open Go
theorem overlaps_gives {P : Program} {f : FuncId} {fn : Func} {tS tR e : TypeId} {τ : Nat → Nat} {sz : Nat} (hf : P.funcs[f]? = some fn) (hname : (fn.name == "runtime.NumGoroutine") = false)
    (hb : fn.body.isNone = true) (hn : Extern.findNext fn = none) (he : Extern.find fn = some (Extern.SlicesOverlaps.overlaps #[tS, tS] #[tR])) (ht : P.underlying tS = some (.slice e))
    (hz : ∀ w, (Go.sizeOf e).run P w = .ok sz w) {s1 s2 : Sl} {w : World} {K : Value → Mem → Prop} (h : slices_overlaps_int τ s1 s2 w.heap fun b h => K (.bool b) h) :
    ∃ v w', (callFunc f [Value.slice s1.base s1.len s1.cap, Value.slice s2.base s2.len s2.cap].toArray).run P w = .ok (.value v) w' ∧ K v w'.heap ∧ Same w w' := by
  obtain ⟨a, b, c, e1, c', e2, ha, hb', hne, h1, h2, h0, hK⟩ := h
  refine ⟨.bool false, w, ?_, hK, Same.refl w⟩
  rw [run_callFunc_extern hf hname hb hn he, ha, hb']
  have hs1 : w.shape? a.block = some (e1, c.size) := by simp [World.shape?, h1]
  have hs2 : w.shape? b.block = some (e2, c'.size) := by simp [World.shape?, h2]
  have hf1 : w.frozen? a = false := by simp [World.frozen?, h1]
  have hf2 : w.frozen? { block := a.block, off := c.size } = false := by simp [World.frozen?, h1]
  have := Lib.run_overlaps_apart (P := P) w tS tR e ht sz hz a b s1.len s1.cap s2.len s2.cap hne e1 e2 c.size c'.size hs1 hs2 h0 hf1 hf2
  rw [this]
  rfl
end Go.TS
/- What the printer does not print. -/
namespace Go.TS.Tryz
open Go Go.TS
set_option linter.unusedVariables false
set_option maxRecDepth 100000
theorem s304 : SoundX Go.Proofs.Tryz.prog 304 (c304 (slices_overlaps_api_Ref tau)) := ⟨fun vs w K h => by
  simp only [c304] at h
  split at h
  · rename_i s1b s1l s1c s2b s2l s2c; exact overlaps_gives (tR := 0) (s1 := ⟨s1b, s1l, s1c⟩) (s2 := ⟨s2b, s2l, s2c⟩) Go.Proofs.Tryz.func304 (by kernel_rfl) (by kernel_rfl) (by kernel_rfl) (by kernel_rfl) Go.Proofs.Tryz.underlying231 Go.Proofs.Tryz.sizeOf135 h
  · exact h.elim⟩
theorem s334 : SoundX Go.Proofs.Tryz.prog 334 (c334 (slices_overlaps_int tau)) := ⟨fun vs w K h => by
  simp only [c334] at h
  split at h
  · rename_i s1b s1l s1c s2b s2l s2c; exact overlaps_gives (tR := 0) (s1 := ⟨s1b, s1l, s1c⟩) (s2 := ⟨s2b, s2l, s2c⟩) Go.Proofs.Tryz.func334 (by kernel_rfl) (by kernel_rfl) (by kernel_rfl) (by kernel_rfl) Go.Proofs.Tryz.underlying46 Go.Proofs.Tryz.sizeOf3 h
  · exact h.elim⟩
end Go.TS.Tryz
/- Each function does what it asks. -/
namespace Go.TS.Tryz
open Go Go.TS
set_option linter.unusedVariables false
set_option maxRecDepth 100000
theorem ok98 : codeOk hn98 Go.Proofs.Tryz.f98.ntmps (Go.Proofs.Tryz.f98.body.getD .skip) = true := by kernel_rfl
theorem s98 : Sound Go.Proofs.Tryz.prog 98 (c98 (slices_Clone_byte_byte tau)) := by
  refine ⟨Go.Proofs.Tryz.call98, fun vs w K h => ?_⟩
  simp only [c98] at h
  split at h
  · rename_i s1b s1l s1c; exact denF_calls hm tysOk (callsOk_of (.nil)) (defsOk_of (.nil)) Go.Proofs.Tryz.func98 (by kernel_rfl) ok98 (Nat.le_of_ble_eq_true (by kernel_rfl)) ((d98 (⟨s1b, s1l, s1c⟩) _ _).mpr h)
  · exact h.elim
theorem ok299 : codeOk hn299 Go.Proofs.Tryz.f299.ntmps (Go.Proofs.Tryz.f299.body.getD .skip) = true := by kernel_rfl
theorem s299 : Sound Go.Proofs.Tryz.prog 299 (c299 (slices_Grow_byte_byte tau)) := by
  refine ⟨Go.Proofs.Tryz.call299, fun vs w K h => ?_⟩
  simp only [c299] at h
  split at h
  · rename_i s1b s1l s1c n2; exact denF_calls hm tysOk (callsOk_of (.nil)) (defsOk_of (.nil)) Go.Proofs.Tryz.func299 (by kernel_rfl) ok299 (Nat.le_of_ble_eq_true (by kernel_rfl)) ((d299 (⟨s1b, s1l, s1c⟩) n2 _ _).mpr h)
  · exact h.elim
theorem ok228 : codeOk hn228 Go.Proofs.Tryz.f228.ntmps (Go.Proofs.Tryz.f228.body.getD .skip) = true := by kernel_rfl
theorem s228 : Sound Go.Proofs.Tryz.prog 228 (c228 (slices_Concat_byte_byte tau)) := by
  refine ⟨Go.Proofs.Tryz.call228, fun vs w K h => ?_⟩
  simp only [c228] at h
  split at h
  · rename_i s1b s1l s1c; exact denF_calls hm tysOk (callsOk_of (.cons s299 (.nil))) (defsOk_of (.nil)) Go.Proofs.Tryz.func228 (by kernel_rfl) ok228 (Nat.le_of_ble_eq_true (by kernel_rfl)) ((d228 (⟨s1b, s1l, s1c⟩) _ _).mpr h)
  · exact h.elim
theorem ok130 : codeOk hn130 Go.Proofs.Tryz.f130.ntmps (Go.Proofs.Tryz.f130.body.getD .skip) = true := by kernel_rfl
theorem s130 : Sound Go.Proofs.Tryz.prog 130 (c130 (octet_Word tau)) := by
  refine ⟨Go.Proofs.Tryz.call130, fun vs w K h => ?_⟩
  simp only [c130] at h
  split at h
  · rename_i s1b s1l s1c n2 n3; exact denF_calls hm tysOk (callsOk_of (.cons s98 (.cons s228 (.nil)))) (defsOk_of (.nil)) Go.Proofs.Tryz.func130 (by kernel_rfl) ok130 (Nat.le_of_ble_eq_true (by kernel_rfl)) ((d130 (⟨s1b, s1l, s1c⟩) n2 n3 _ _).mpr h)
  · exact h.elim
theorem ok156 : codeOk hn156 Go.Proofs.Tryz.f156.ntmps (Go.Proofs.Tryz.f156.body.getD .skip) = true := by kernel_rfl
theorem s156 : Sound Go.Proofs.Tryz.prog 156 (c156 (octet_New tau)) := by
  refine ⟨Go.Proofs.Tryz.call156, fun vs w K h => ?_⟩
  simp only [c156] at h
  split at h
  · rename_i s1b s1l s1c; exact denF_calls hm tysOk (callsOk_of (.cons s98 (.nil))) (defsOk_of (.nil)) Go.Proofs.Tryz.func156 (by kernel_rfl) ok156 (Nat.le_of_ble_eq_true (by kernel_rfl)) ((d156 (⟨s1b, s1l, s1c⟩) _ _).mpr h)
  · exact h.elim
theorem ok270 : codeOk hn270 Go.Proofs.Tryz.f270.ntmps (Go.Proofs.Tryz.f270.body.getD .skip) = true := by kernel_rfl
theorem s270 : Sound Go.Proofs.Tryz.prog 270 (c270 (slices_Grow_int_int tau)) := by
  refine ⟨Go.Proofs.Tryz.call270, fun vs w K h => ?_⟩
  simp only [c270] at h
  split at h
  · rename_i s1b s1l s1c n2; exact denF_calls hm tysOk (callsOk_of (.nil)) (defsOk_of (.nil)) Go.Proofs.Tryz.func270 (by kernel_rfl) ok270 (Nat.le_of_ble_eq_true (by kernel_rfl)) ((d270 (⟨s1b, s1l, s1c⟩) n2 _ _).mpr h)
  · exact h.elim
theorem ok172 : codeOk hn172 Go.Proofs.Tryz.f172.ntmps (Go.Proofs.Tryz.f172.body.getD .skip) = true := by kernel_rfl
theorem s172 : Sound Go.Proofs.Tryz.prog 172 (c172 (slices_Concat_int_int tau)) := by
  refine ⟨Go.Proofs.Tryz.call172, fun vs w K h => ?_⟩
  simp only [c172] at h
  split at h
  · rename_i s1b s1l s1c; exact denF_calls hm tysOk (callsOk_of (.cons s270 (.nil))) (defsOk_of (.nil)) Go.Proofs.Tryz.func172 (by kernel_rfl) ok172 (Nat.le_of_ble_eq_true (by kernel_rfl)) ((d172 (⟨s1b, s1l, s1c⟩) _ _).mpr h)
  · exact h.elim
theorem ok282 : codeOk hn282 Go.Proofs.Tryz.f282.ntmps (Go.Proofs.Tryz.f282.body.getD .skip) = true := by kernel_rfl
theorem s282 : Sound Go.Proofs.Tryz.prog 282 (c282 (sector_Disk_made tau)) := by
  refine ⟨Go.Proofs.Tryz.call282, fun vs w K h => ?_⟩
  simp only [c282] at h
  split at h
  · rename_i p1; exact denF_calls hm tysOk (callsOk_of (.nil)) (defsOk_of (.nil)) Go.Proofs.Tryz.func282 (by kernel_rfl) ok282 (Nat.le_of_ble_eq_true (by kernel_rfl)) ((d282 p1 _ _).mpr h)
  · exact h.elim
theorem ok283 : codeOk hn283 Go.Proofs.Tryz.f283.ntmps (Go.Proofs.Tryz.f283.body.getD .skip) = true := by kernel_rfl
theorem s283 : Sound Go.Proofs.Tryz.prog 283 (c283 (sector_Disk_fails tau)) := by
  refine ⟨Go.Proofs.Tryz.call283, fun vs w K h => ?_⟩
  simp only [c283] at h
  split at h
  · rename_i p1; exact denF_calls hm tysOk (callsOk_of (.nil)) (defsOk_of (.nil)) Go.Proofs.Tryz.func283 (by kernel_rfl) ok283 (Nat.le_of_ble_eq_true (by kernel_rfl)) ((d283 p1 _ _).mpr h)
  · exact h.elim
theorem ok284 : codeOk hn284 Go.Proofs.Tryz.f284.ntmps (Go.Proofs.Tryz.f284.body.getD .skip) = true := by kernel_rfl
theorem s284 : Sound Go.Proofs.Tryz.prog 284 (c284 (sector_Disk_sector tau)) := by
  refine ⟨Go.Proofs.Tryz.call284, fun vs w K h => ?_⟩
  simp only [c284] at h
  split at h
  · rename_i p1 n2; exact denF_calls hm tysOk (callsOk_of (.nil)) (defsOk_of (.nil)) Go.Proofs.Tryz.func284 (by kernel_rfl) ok284 (Nat.le_of_ble_eq_true (by kernel_rfl)) ((d284 p1 n2 _ _).mpr h)
  · exact h.elim
theorem ok191 : codeOk hn191 Go.Proofs.Tryz.f191.ntmps (Go.Proofs.Tryz.f191.body.getD .skip) = true := by kernel_rfl
theorem s191 : Sound Go.Proofs.Tryz.prog 191 (c191 (sector_Disk_Flush tau)) := by
  refine ⟨Go.Proofs.Tryz.call191, fun vs w K h => ?_⟩
  simp only [c191] at h
  split at h
  · rename_i p1; exact denF_calls hm tysOk (callsOk_of (.cons s282 (.cons s283 (.cons s284 (.nil))))) (defsOk_of (.nil)) Go.Proofs.Tryz.func191 (by kernel_rfl) ok191 (Nat.le_of_ble_eq_true (by kernel_rfl)) ((d191 p1 _ _).mpr h)
  · exact h.elim
theorem ok209 : codeOk hn209 Go.Proofs.Tryz.f209.ntmps (Go.Proofs.Tryz.f209.body.getD .skip) = true := by kernel_rfl
theorem s209 : Sound Go.Proofs.Tryz.prog 209 (c209 (slices_Clone_int_int tau)) := by
  refine ⟨Go.Proofs.Tryz.call209, fun vs w K h => ?_⟩
  simp only [c209] at h
  split at h
  · rename_i s1b s1l s1c; exact denF_calls hm tysOk (callsOk_of (.nil)) (defsOk_of (.nil)) Go.Proofs.Tryz.func209 (by kernel_rfl) ok209 (Nat.le_of_ble_eq_true (by kernel_rfl)) ((d209 (⟨s1b, s1l, s1c⟩) _ _).mpr h)
  · exact h.elim
theorem ok260 : codeOk hn260 Go.Proofs.Tryz.f260.ntmps (Go.Proofs.Tryz.f260.body.getD .skip) = true := by kernel_rfl
theorem s260 : Sound Go.Proofs.Tryz.prog 260 (c260 (octet_Reader_made tau)) := by
  refine ⟨Go.Proofs.Tryz.call260, fun vs w K h => ?_⟩
  simp only [c260] at h
  split at h
  · rename_i p1; exact denF_calls hm tysOk (callsOk_of (.nil)) (defsOk_of (.nil)) Go.Proofs.Tryz.func260 (by kernel_rfl) ok260 (Nat.le_of_ble_eq_true (by kernel_rfl)) ((d260 p1 _ _).mpr h)
  · exact h.elim
theorem ok256 : codeOk hn256 Go.Proofs.Tryz.f256.ntmps (Go.Proofs.Tryz.f256.body.getD .skip) = true := by kernel_rfl
theorem s256 : Sound Go.Proofs.Tryz.prog 256 (c256 (octet_Reader_ready tau)) := by
  refine ⟨Go.Proofs.Tryz.call256, fun vs w K h => ?_⟩
  simp only [c256] at h
  split at h
  · rename_i p1; exact denF_calls hm tysOk (callsOk_of (.cons s260 (.nil))) (defsOk_of (.nil)) Go.Proofs.Tryz.func256 (by kernel_rfl) ok256 (Nat.le_of_ble_eq_true (by kernel_rfl)) ((d256 p1 _ _).mpr h)
  · exact h.elim
theorem ok258 : codeOk hn258 Go.Proofs.Tryz.f258.ntmps (Go.Proofs.Tryz.f258.body.getD .skip) = true := by kernel_rfl
theorem s258 : Sound Go.Proofs.Tryz.prog 258 (c258 (octet_Reader_fail tau)) := by
  refine ⟨Go.Proofs.Tryz.call258, fun vs w K h => ?_⟩
  simp only [c258] at h
  split at h
  · rename_i p1 n2; exact denF_calls hm tysOk (callsOk_of (.nil)) (defsOk_of (.nil)) Go.Proofs.Tryz.func258 (by kernel_rfl) ok258 (Nat.le_of_ble_eq_true (by kernel_rfl)) ((d258 p1 n2 _ _).mpr h)
  · exact h.elim
theorem ok159 : codeOk hn159 Go.Proofs.Tryz.f159.ntmps (Go.Proofs.Tryz.f159.body.getD .skip) = true := by kernel_rfl
theorem s159 : Sound Go.Proofs.Tryz.prog 159 (c159 (octet_Reader_Fixed tau)) := by
  refine ⟨Go.Proofs.Tryz.call159, fun vs w K h => ?_⟩
  simp only [c159] at h
  split at h
  · rename_i p1 n2; exact denF_calls hm tysOk (callsOk_of (.cons s256 (.cons s258 (.nil)))) (defsOk_of (.nil)) Go.Proofs.Tryz.func159 (by kernel_rfl) ok159 (Nat.le_of_ble_eq_true (by kernel_rfl)) ((d159 p1 n2 _ _).mpr h)
  · exact h.elim
theorem ok213 : codeOk hn213 Go.Proofs.Tryz.f213.ntmps (Go.Proofs.Tryz.f213.body.getD .skip) = true := by kernel_rfl
theorem s213 : Sound Go.Proofs.Tryz.prog 213 (c213 (octet_Reader_Word tau)) := by
  refine ⟨Go.Proofs.Tryz.call213, fun vs w K h => ?_⟩
  simp only [c213] at h
  split at h
  · rename_i p1 n2; exact denF_calls hm tysOk (callsOk_of (.cons s159 (.cons s256 (.cons s258 (.nil))))) (defsOk_of (.nil)) Go.Proofs.Tryz.func213 (by kernel_rfl) ok213 (Nat.le_of_ble_eq_true (by kernel_rfl)) ((d213 p1 n2 _ _).mpr h)
  · exact h.elim
theorem ok391 : codeOk hn391 Go.Proofs.Tryz.f391.ntmps (Go.Proofs.Tryz.f391.body.getD .skip) = true := by kernel_rfl
theorem s391 : Sound Go.Proofs.Tryz.prog 391 (c391 (crc_On tau)) := by
  refine ⟨Go.Proofs.Tryz.call391, fun vs w K h => ?_⟩
  simp only [c391] at h
  split at h
  · rename_i c1 n2 s3b s3l s3c; exact denF_calls hm tysOk (callsOk_of (.nil)) (defsOk_of (.nil)) Go.Proofs.Tryz.func391 (by kernel_rfl) ok391 (Nat.le_of_ble_eq_true (by kernel_rfl)) ((d391 c1 n2 (⟨s3b, s3l, s3c⟩) _ _).mpr h)
  · exact h.elim
theorem ok364 : codeOk hn364 Go.Proofs.Tryz.f364.ntmps (Go.Proofs.Tryz.f364.body.getD .skip) = true := by kernel_rfl
theorem s364 : Sound Go.Proofs.Tryz.prog 364 (c364 (crc_on tau)) := by
  refine ⟨Go.Proofs.Tryz.call364, fun vs w K h => ?_⟩
  simp only [c364] at h
  split at h
  · rename_i c1 s2b s2l s2c; exact denF_calls hm tysOk (callsOk_of (.cons s391 (.nil))) (defsOk_of (.nil)) Go.Proofs.Tryz.func364 (by kernel_rfl) ok364 (Nat.le_of_ble_eq_true (by kernel_rfl)) ((d364 c1 (⟨s2b, s2l, s2c⟩) _ _).mpr h)
  · exact h.elim
theorem ok365 : codeOk hn365 Go.Proofs.Tryz.f365.ntmps (Go.Proofs.Tryz.f365.body.getD .skip) = true := by kernel_rfl
theorem s365 : Sound Go.Proofs.Tryz.prog 365 (c365 (crc_Table tau)) := by
  refine ⟨Go.Proofs.Tryz.call365, fun vs w K h => ?_⟩
  simp only [c365] at h
  split at h
  · exact denF_calls hm tysOk (callsOk_of (.nil)) (defsOk_of (.nil)) Go.Proofs.Tryz.func365 (by kernel_rfl) ok365 (Nat.le_of_ble_eq_true (by kernel_rfl)) ((d365  _ _).mpr h)
  · exact h.elim
theorem ok344 : codeOk hn344 Go.Proofs.Tryz.f344.ntmps (Go.Proofs.Tryz.f344.body.getD .skip) = true := by kernel_rfl
theorem s344 : Sound Go.Proofs.Tryz.prog 344 (c344 (crc_Parts tau)) := by
  refine ⟨Go.Proofs.Tryz.call344, fun vs w K h => ?_⟩
  simp only [c344] at h
  split at h
  · rename_i s1b s1l s1c; exact denF_calls hm tysOk (callsOk_of (.cons s364 (.cons s365 (.nil)))) (defsOk_of (.nil)) Go.Proofs.Tryz.func344 (by kernel_rfl) ok344 (Nat.le_of_ble_eq_true (by kernel_rfl)) ((d344 (⟨s1b, s1l, s1c⟩) _ _).mpr h)
  · exact h.elim
theorem ok295 : codeOk hn295 Go.Proofs.Tryz.f295.ntmps (Go.Proofs.Tryz.f295.body.getD .skip) = true := by kernel_rfl
theorem s295 : Sound Go.Proofs.Tryz.prog 295 (c295 (page_crcOf tau)) := by
  refine ⟨Go.Proofs.Tryz.call295, fun vs w K h => ?_⟩
  simp only [c295] at h
  split at h
  · rename_i s1b s1l s1c; exact denF_calls hm tysOk (callsOk_of (.cons s344 (.nil))) (defsOk_of (.nil)) Go.Proofs.Tryz.func295 (by kernel_rfl) ok295 (Nat.le_of_ble_eq_true (by kernel_rfl)) ((d295 (⟨s1b, s1l, s1c⟩) _ _).mpr h)
  · exact h.elim
theorem ok214 : codeOk hn214 Go.Proofs.Tryz.f214.ntmps (Go.Proofs.Tryz.f214.body.getD .skip) = true := by kernel_rfl
theorem s214 : Sound Go.Proofs.Tryz.prog 214 (c214 (page_Bytes tau)) := by
  refine ⟨Go.Proofs.Tryz.call214, fun vs w K h => ?_⟩
  simp only [c214] at h
  split at h
  · rename_i n1 n2 s3b s3l s3c; exact denF_calls hm tysOk (callsOk_of (.cons s130 (.cons s295 (.nil)))) (defsOk_of (.nil)) Go.Proofs.Tryz.func214 (by kernel_rfl) ok214 (Nat.le_of_ble_eq_true (by kernel_rfl)) ((d214 n1 n2 (⟨s3b, s3l, s3c⟩) _ _).mpr h)
  · exact h.elim
theorem ok216 : codeOk hn216 Go.Proofs.Tryz.f216.ntmps (Go.Proofs.Tryz.f216.body.getD .skip) = true := by kernel_rfl
theorem s216 : Sound Go.Proofs.Tryz.prog 216 (c216 (sector_Disk_Sectors tau)) := by
  refine ⟨Go.Proofs.Tryz.call216, fun vs w K h => ?_⟩
  simp only [c216] at h
  split at h
  · rename_i p1; exact denF_calls hm tysOk (callsOk_of (.cons s282 (.nil))) (defsOk_of (.nil)) Go.Proofs.Tryz.func216 (by kernel_rfl) ok216 (Nat.le_of_ble_eq_true (by kernel_rfl)) ((d216 p1 _ _).mpr h)
  · exact h.elim
theorem ok223 : codeOk hn223 Go.Proofs.Tryz.f223.ntmps (Go.Proofs.Tryz.f223.body.getD .skip) = true := by kernel_rfl
theorem s223 : Sound Go.Proofs.Tryz.prog 223 (c223 (octet_Number tau)) := by
  refine ⟨Go.Proofs.Tryz.call223, fun vs w K h => ?_⟩
  simp only [c223] at h
  split at h
  · rename_i s1b s1l s1c n2; exact denF_calls hm tysOk (callsOk_of (.cons s98 (.nil))) (defsOk_of (.nil)) Go.Proofs.Tryz.func223 (by kernel_rfl) ok223 (Nat.le_of_ble_eq_true (by kernel_rfl)) ((d223 (⟨s1b, s1l, s1c⟩) n2 _ _).mpr h)
  · exact h.elim
theorem ok226 : codeOk hn226 Go.Proofs.Tryz.f226.ntmps (Go.Proofs.Tryz.f226.body.getD .skip) = true := by kernel_rfl
theorem s226 : Sound Go.Proofs.Tryz.prog 226 (c226 (slices_Delete_int_int tau)) := by
  refine ⟨Go.Proofs.Tryz.call226, fun vs w K h => ?_⟩
  simp only [c226] at h
  split at h
  · rename_i s1b s1l s1c n2 n3; exact denF_calls hm tysOk (callsOk_of (.nil)) (defsOk_of (.nil)) Go.Proofs.Tryz.func226 (by kernel_rfl) ok226 (Nat.le_of_ble_eq_true (by kernel_rfl)) ((d226 (⟨s1b, s1l, s1c⟩) n2 n3 _ _).mpr h)
  · exact h.elim
theorem ok367 : codeOk hn367 Go.Proofs.Tryz.f367.ntmps (Go.Proofs.Tryz.f367.body.getD .skip) = true := by kernel_rfl
theorem s367 : Sound Go.Proofs.Tryz.prog 367 (c367 (slices_Reverse_api_Ref_api_Ref tau)) := by
  refine ⟨Go.Proofs.Tryz.call367, fun vs w K h => ?_⟩
  simp only [c367] at h
  split at h
  · rename_i s1b s1l s1c; exact denF_calls hm tysOk (callsOk_of (.nil)) (defsOk_of (.nil)) Go.Proofs.Tryz.func367 (by kernel_rfl) ok367 (Nat.le_of_ble_eq_true (by kernel_rfl)) ((d367 (⟨s1b, s1l, s1c⟩) _ _).mpr h)
  · exact h.elim
theorem ok349 : codeOk hn349 Go.Proofs.Tryz.f349.ntmps (Go.Proofs.Tryz.f349.body.getD .skip) = true := by kernel_rfl
theorem s349 : Sound Go.Proofs.Tryz.prog 349 (c349 (slices_rotateLeft_api_Ref tau)) := by
  refine ⟨Go.Proofs.Tryz.call349, fun vs w K h => ?_⟩
  simp only [c349] at h
  split at h
  · rename_i s1b s1l s1c n2; exact denF_calls hm tysOk (callsOk_of (.cons s367 (.nil))) (defsOk_of (.nil)) Go.Proofs.Tryz.func349 (by kernel_rfl) ok349 (Nat.le_of_ble_eq_true (by kernel_rfl)) ((d349 (⟨s1b, s1l, s1c⟩) n2 _ _).mpr h)
  · exact h.elim
theorem ok305 : codeOk hn305 Go.Proofs.Tryz.f305.ntmps (Go.Proofs.Tryz.f305.body.getD .skip) = true := by kernel_rfl
theorem s305 : Sound Go.Proofs.Tryz.prog 305 (c305 (slices_rotateRight_api_Ref tau)) := by
  refine ⟨Go.Proofs.Tryz.call305, fun vs w K h => ?_⟩
  simp only [c305] at h
  split at h
  · rename_i s1b s1l s1c n2; exact denF_calls hm tysOk (callsOk_of (.cons s349 (.nil))) (defsOk_of (.nil)) Go.Proofs.Tryz.func305 (by kernel_rfl) ok305 (Nat.le_of_ble_eq_true (by kernel_rfl)) ((d305 (⟨s1b, s1l, s1c⟩) n2 _ _).mpr h)
  · exact h.elim
theorem ok241 : codeOk hn241 Go.Proofs.Tryz.f241.ntmps (Go.Proofs.Tryz.f241.body.getD .skip) = true := by kernel_rfl
theorem s241 : Sound Go.Proofs.Tryz.prog 241 (c241 (slices_Insert_api_Ref_api_Ref tau)) := by
  refine ⟨Go.Proofs.Tryz.call241, fun vs w K h => ?_⟩
  simp only [c241] at h
  split at h
  · rename_i s1b s1l s1c n2 s3b s3l s3c; exact denF_calls hm tysOk (callsOk_of (.consX s304 (.cons s305 (.nil)))) (defsOk_of (.nil)) Go.Proofs.Tryz.func241 (by kernel_rfl) ok241 (Nat.le_of_ble_eq_true (by kernel_rfl)) ((d241 (⟨s1b, s1l, s1c⟩) n2 (⟨s3b, s3l, s3c⟩) _ _).mpr h)
  · exact h.elim
theorem ok249 : codeOk hn249 Go.Proofs.Tryz.f249.ntmps (Go.Proofs.Tryz.f249.body.getD .skip) = true := by kernel_rfl
theorem s249 : Sound Go.Proofs.Tryz.prog 249 (c249 (slices_Delete_api_Ref_api_Ref tau)) := by
  refine ⟨Go.Proofs.Tryz.call249, fun vs w K h => ?_⟩
  simp only [c249] at h
  split at h
  · rename_i s1b s1l s1c n2 n3; exact denF_calls hm tysOk (callsOk_of (.nil)) (defsOk_of (.nil)) Go.Proofs.Tryz.func249 (by kernel_rfl) ok249 (Nat.le_of_ble_eq_true (by kernel_rfl)) ((d249 (⟨s1b, s1l, s1c⟩) n2 n3 _ _).mpr h)
  · exact h.elim
theorem ok239 : codeOk hn239 Go.Proofs.Tryz.f239.ntmps (Go.Proofs.Tryz.f239.body.getD .skip) = true := by kernel_rfl
theorem s239 : Sound Go.Proofs.Tryz.prog 239 (c239 (bucket_may tau)) := by
  refine ⟨Go.Proofs.Tryz.call239, fun vs w K h => ?_⟩
  simp only [c239] at h
  split at h
  · rename_i n1 n2; exact denF_calls hm tysOk (callsOk_of (.nil)) (defsOk_of (.nil)) Go.Proofs.Tryz.func239 (by kernel_rfl) ok239 (Nat.le_of_ble_eq_true (by kernel_rfl)) ((d239 n1 n2 _ _).mpr h)
  · exact h.elim
theorem ok346 : codeOk hn346 Go.Proofs.Tryz.f346.ntmps (Go.Proofs.Tryz.f346.body.getD .skip) = true := by kernel_rfl
theorem s346 : Sound Go.Proofs.Tryz.prog 346 (c346 (cmp_Or_int tau)) := by
  refine ⟨Go.Proofs.Tryz.call346, fun vs w K h => ?_⟩
  simp only [c346] at h
  split at h
  · rename_i s1b s1l s1c; exact denF_calls hm tysOk (callsOk_of (.nil)) (defsOk_of (.nil)) Go.Proofs.Tryz.func346 (by kernel_rfl) ok346 (Nat.le_of_ble_eq_true (by kernel_rfl)) ((d346 (⟨s1b, s1l, s1c⟩) _ _).mpr h)
  · exact h.elim
theorem ok366 : codeOk hn366 Go.Proofs.Tryz.f366.ntmps (Go.Proofs.Tryz.f366.body.getD .skip) = true := by kernel_rfl
theorem s366 : Sound Go.Proofs.Tryz.prog 366 (c366 (cmp_isNaN_uint64 tau)) := by
  refine ⟨Go.Proofs.Tryz.call366, fun vs w K h => ?_⟩
  simp only [c366] at h
  split at h
  · rename_i n1; exact denF_calls hm tysOk (callsOk_of (.nil)) (defsOk_of (.nil)) Go.Proofs.Tryz.func366 (by kernel_rfl) ok366 (Nat.le_of_ble_eq_true (by kernel_rfl)) ((d366 n1 _ _).mpr h)
  · exact h.elim
theorem ok347 : codeOk hn347 Go.Proofs.Tryz.f347.ntmps (Go.Proofs.Tryz.f347.body.getD .skip) = true := by kernel_rfl
theorem s347 : Sound Go.Proofs.Tryz.prog 347 (c347 (cmp_Compare_uint64 tau)) := by
  refine ⟨Go.Proofs.Tryz.call347, fun vs w K h => ?_⟩
  simp only [c347] at h
  split at h
  · rename_i n1 n2; exact denF_calls hm tysOk (callsOk_of (.cons s366 (.nil))) (defsOk_of (.nil)) Go.Proofs.Tryz.func347 (by kernel_rfl) ok347 (Nat.le_of_ble_eq_true (by kernel_rfl)) ((d347 n1 n2 _ _).mpr h)
  · exact h.elim
theorem ok345 : codeOk hn345 Go.Proofs.Tryz.f345.ntmps (Go.Proofs.Tryz.f345.body.getD .skip) = true := by kernel_rfl
theorem s345 : Sound Go.Proofs.Tryz.prog 345 (c345 (cmp_isNaN_int tau)) := by
  refine ⟨Go.Proofs.Tryz.call345, fun vs w K h => ?_⟩
  simp only [c345] at h
  split at h
  · rename_i n1; exact denF_calls hm tysOk (callsOk_of (.nil)) (defsOk_of (.nil)) Go.Proofs.Tryz.func345 (by kernel_rfl) ok345 (Nat.le_of_ble_eq_true (by kernel_rfl)) ((d345 n1 _ _).mpr h)
  · exact h.elim
theorem ok348 : codeOk hn348 Go.Proofs.Tryz.f348.ntmps (Go.Proofs.Tryz.f348.body.getD .skip) = true := by kernel_rfl
theorem s348 : Sound Go.Proofs.Tryz.prog 348 (c348 (cmp_Compare_int tau)) := by
  refine ⟨Go.Proofs.Tryz.call348, fun vs w K h => ?_⟩
  simp only [c348] at h
  split at h
  · rename_i n1 n2; exact denF_calls hm tysOk (callsOk_of (.cons s345 (.nil))) (defsOk_of (.nil)) Go.Proofs.Tryz.func348 (by kernel_rfl) ok348 (Nat.le_of_ble_eq_true (by kernel_rfl)) ((d348 n1 n2 _ _).mpr h)
  · exact h.elim
theorem ok301 : codeOk hn301 Go.Proofs.Tryz.f301.ntmps (Go.Proofs.Tryz.f301.body.getD .skip) = true := by kernel_rfl
theorem s301 : Sound Go.Proofs.Tryz.prog 301 (c301 (bucket_Compare tau)) := by
  refine ⟨Go.Proofs.Tryz.call301, fun vs w K h => ?_⟩
  simp only [c301] at h
  split at h
  · rename_i n1 n2 n3 n4 n5 n6; exact denF_calls hm tysOk (callsOk_of (.cons s346 (.cons s347 (.cons s348 (.nil))))) (defsOk_of (.nil)) Go.Proofs.Tryz.func301 (by kernel_rfl) ok301 (Nat.le_of_ble_eq_true (by kernel_rfl)) ((d301 n1 n2 n3 n4 n5 n6 _ _).mpr h)
  · exact h.elim
theorem ok238 : codeOk hn238 Go.Proofs.Tryz.f238.ntmps (Go.Proofs.Tryz.f238.body.getD .skip) = true := by kernel_rfl
theorem s238 : Sound Go.Proofs.Tryz.prog 238 (c238 (bucket_Check tau)) := by
  refine ⟨Go.Proofs.Tryz.call238, fun vs w K h => ?_⟩
  simp only [c238] at h
  split at h
  · rename_i n1 s2b s2l s2c; exact denF_calls hm tysOk (callsOk_of (.cons s239 (.cons s301 (.nil)))) (defsOk_of (.nil)) Go.Proofs.Tryz.func238 (by kernel_rfl) ok238 (Nat.le_of_ble_eq_true (by kernel_rfl)) ((d238 n1 (⟨s2b, s2l, s2c⟩) _ _).mpr h)
  · exact h.elim
theorem ok261 : codeOk hn261 Go.Proofs.Tryz.f261.ntmps (Go.Proofs.Tryz.f261.body.getD .skip) = true := by kernel_rfl
theorem s261 : Sound Go.Proofs.Tryz.prog 261 (c261 (octet_Reader_Left tau)) := by
  refine ⟨Go.Proofs.Tryz.call261, fun vs w K h => ?_⟩
  simp only [c261] at h
  split at h
  · rename_i p1; exact denF_calls hm tysOk (callsOk_of (.cons s260 (.nil))) (defsOk_of (.nil)) Go.Proofs.Tryz.func261 (by kernel_rfl) ok261 (Nat.le_of_ble_eq_true (by kernel_rfl)) ((d261 p1 _ _).mpr h)
  · exact h.elim
theorem ok315 : codeOk hn315 Go.Proofs.Tryz.f315.ntmps (Go.Proofs.Tryz.f315.body.getD .skip) = true := by kernel_rfl
theorem s315 : Sound Go.Proofs.Tryz.prog 315 (c315 (octet_Reader_Err tau)) := by
  refine ⟨Go.Proofs.Tryz.call315, fun vs w K h => ?_⟩
  simp only [c315] at h
  split at h
  · rename_i p1; exact denF_calls hm tysOk (callsOk_of (.cons s260 (.nil))) (defsOk_of (.nil)) Go.Proofs.Tryz.func315 (by kernel_rfl) ok315 (Nat.le_of_ble_eq_true (by kernel_rfl)) ((d315 p1 _ _).mpr h)
  · exact h.elim
theorem ok262 : codeOk hn262 Go.Proofs.Tryz.f262.ntmps (Go.Proofs.Tryz.f262.body.getD .skip) = true := by kernel_rfl
theorem s262 : Sound Go.Proofs.Tryz.prog 262 (c262 (bucket_Read tau)) := by
  refine ⟨Go.Proofs.Tryz.call262, fun vs w K h => ?_⟩
  simp only [c262] at h
  split at h
  · rename_i s1b s1l s1c; exact denF_calls hm tysOk (callsOk_of (.cons s156 (.cons s213 (.cons s238 (.cons s261 (.cons s315 (.nil))))))) (defsOk_of (.nil)) Go.Proofs.Tryz.func262 (by kernel_rfl) ok262 (Nat.le_of_ble_eq_true (by kernel_rfl)) ((d262 (⟨s1b, s1l, s1c⟩) _ _).mpr h)
  · exact h.elim
theorem ok264 : codeOk hn264 Go.Proofs.Tryz.f264.ntmps (Go.Proofs.Tryz.f264.body.getD .skip) = true := by kernel_rfl
theorem s264 : Sound Go.Proofs.Tryz.prog 264 (c264 (index_Load_1 tau)) := by
  refine ⟨Go.Proofs.Tryz.call264, fun vs w K h => ?_⟩
  simp only [c264] at h
  split at h
  · rename_i n1; exact denF_calls hm tysOk (callsOk_of (.nil)) (defsOk_of (.nil)) Go.Proofs.Tryz.func264 (by kernel_rfl) ok264 (Nat.le_of_ble_eq_true (by kernel_rfl)) ((d264 n1 _ _).mpr h)
  · exact h.elim
theorem ok382 : codeOk hn382 Go.Proofs.Tryz.f382.ntmps (Go.Proofs.Tryz.f382.body.getD .skip) = true := by kernel_rfl
theorem s382 : Sound Go.Proofs.Tryz.prog 382 (c382 (slices_Reverse_int_int tau)) := by
  refine ⟨Go.Proofs.Tryz.call382, fun vs w K h => ?_⟩
  simp only [c382] at h
  split at h
  · rename_i s1b s1l s1c; exact denF_calls hm tysOk (callsOk_of (.nil)) (defsOk_of (.nil)) Go.Proofs.Tryz.func382 (by kernel_rfl) ok382 (Nat.le_of_ble_eq_true (by kernel_rfl)) ((d382 (⟨s1b, s1l, s1c⟩) _ _).mpr h)
  · exact h.elim
theorem ok360 : codeOk hn360 Go.Proofs.Tryz.f360.ntmps (Go.Proofs.Tryz.f360.body.getD .skip) = true := by kernel_rfl
theorem s360 : Sound Go.Proofs.Tryz.prog 360 (c360 (slices_rotateLeft_int tau)) := by
  refine ⟨Go.Proofs.Tryz.call360, fun vs w K h => ?_⟩
  simp only [c360] at h
  split at h
  · rename_i s1b s1l s1c n2; exact denF_calls hm tysOk (callsOk_of (.cons s382 (.nil))) (defsOk_of (.nil)) Go.Proofs.Tryz.func360 (by kernel_rfl) ok360 (Nat.le_of_ble_eq_true (by kernel_rfl)) ((d360 (⟨s1b, s1l, s1c⟩) n2 _ _).mpr h)
  · exact h.elim
theorem ok335 : codeOk hn335 Go.Proofs.Tryz.f335.ntmps (Go.Proofs.Tryz.f335.body.getD .skip) = true := by kernel_rfl
theorem s335 : Sound Go.Proofs.Tryz.prog 335 (c335 (slices_rotateRight_int tau)) := by
  refine ⟨Go.Proofs.Tryz.call335, fun vs w K h => ?_⟩
  simp only [c335] at h
  split at h
  · rename_i s1b s1l s1c n2; exact denF_calls hm tysOk (callsOk_of (.cons s360 (.nil))) (defsOk_of (.nil)) Go.Proofs.Tryz.func335 (by kernel_rfl) ok335 (Nat.le_of_ble_eq_true (by kernel_rfl)) ((d335 (⟨s1b, s1l, s1c⟩) n2 _ _).mpr h)
  · exact h.elim
theorem ok276 : codeOk hn276 Go.Proofs.Tryz.f276.ntmps (Go.Proofs.Tryz.f276.body.getD .skip) = true := by kernel_rfl
theorem s276 : Sound Go.Proofs.Tryz.prog 276 (c276 (slices_Insert_int_int tau)) := by
  refine ⟨Go.Proofs.Tryz.call276, fun vs w K h => ?_⟩
  simp only [c276] at h
  split at h
  · rename_i s1b s1l s1c n2 s3b s3l s3c; exact denF_calls hm tysOk (callsOk_of (.consX s334 (.cons s335 (.nil)))) (defsOk_of (.nil)) Go.Proofs.Tryz.func276 (by kernel_rfl) ok276 (Nat.le_of_ble_eq_true (by kernel_rfl)) ((d276 (⟨s1b, s1l, s1c⟩) n2 (⟨s3b, s3l, s3c⟩) _ _).mpr h)
  · exact h.elim
theorem ok287 : codeOk hn287 Go.Proofs.Tryz.f287.ntmps (Go.Proofs.Tryz.f287.body.getD .skip) = true := by kernel_rfl
theorem s287 : Sound Go.Proofs.Tryz.prog 287 (c287 (slots_noughts tau)) := by
  refine ⟨Go.Proofs.Tryz.call287, fun vs w K h => ?_⟩
  simp only [c287] at h
  split at h
  · rename_i s1b s1l s1c; exact denF_calls hm tysOk (callsOk_of (.nil)) (defsOk_of (.nil)) Go.Proofs.Tryz.func287 (by kernel_rfl) ok287 (Nat.le_of_ble_eq_true (by kernel_rfl)) ((d287 (⟨s1b, s1l, s1c⟩) _ _).mpr h)
  · exact h.elim
theorem ok316 : codeOk hn316 Go.Proofs.Tryz.f316.ntmps (Go.Proofs.Tryz.f316.body.getD .skip) = true := by kernel_rfl
theorem s316 : Sound Go.Proofs.Tryz.prog 316 (c316 (slices_IndexFunc_byte_byte tau)) := by
  refine ⟨Go.Proofs.Tryz.call316, fun vs w K h => ?_⟩
  simp only [c316] at h
  split at h
  · rename_i s1b s1l s1c; exact denF_calls hm tysOk (callsOk_of (.cons s264 (.nil))) (defsOk_of (.nil)) Go.Proofs.Tryz.func316 (by kernel_rfl) ok316 (Nat.le_of_ble_eq_true (by kernel_rfl)) ((d316 (⟨s1b, s1l, s1c⟩) _ _).mpr h)
  · exact h.elim
end Go.TS.Tryz
