/- The links: what each function asks is what its code asks. -/
import Derived.Test.YtgdkafimnpjghaaGreatDoorProg
import Derived.Test.YtgdkafimnpjghaaGreatDoorTnE
import Derived.Test.YtgdkafimnpjghaaGreatDoorTsCode
import Derived.Test.YtgdkafimnpjghaaGreatDoorTsS10
import Derived.Test.YtgdkafimnpjghaaGreatDoorTdL
import Derived.Test.YtgdkafimnpjghaaGreatDoorSnLives
namespace Go.TS.TryzN
open Go Go.TS
set_option linter.unusedVariables false
set_option maxRecDepth 100000
def tau (i : Nat) : Nat := ([5, 128, 55, 202, 48, 4, 40, 3, 51, 260, 67, 163, 161, 27, 61, 94, 46, 173, 97, 231, 0, 0, 0, 30, 0, 0, 0] : List Nat).getD i 0
def tyl : List (Nat × TI) := [
 (3, ⟨.int .i64, (Value.int .i64 0), 1, 8, .leaf (.int .i64)⟩),
 (4, ⟨.bool, (Value.bool false), 1, 1, .leaf (.bool)⟩),
 (5, ⟨.int .u8, (Value.int .u8 0), 1, 1, .leaf (.int .u8)⟩),
 (26, ⟨.pointer 128, (Value.pointer none), 1, 8, .leaf (.ptr)⟩),
 (27, ⟨.int .i64, (Value.int .i64 0), 1, 8, .leaf (.int .i64)⟩),
 (30, ⟨.pointer 97, (Value.pointer none), 1, 8, .leaf (.ptr)⟩),
 (33, ⟨.slice 4, (Value.slice none 0 0), 1, 24, .leaf (.sl)⟩),
 (40, ⟨.slice 5, (Value.slice none 0 0), 1, 24, .leaf (.sl)⟩),
 (45, ⟨.int .u64, (Value.int .u64 0), 1, 8, .leaf (.int .u64)⟩),
 (46, ⟨.array 4 45, (Value.agg #[(Value.int .u64 0), (Value.int .u64 0), (Value.int .u64 0), (Value.int .u64 0)]), 4, 32, .agg [.int .u64, .int .u64, .int .u64, .int .u64]⟩),
 (48, ⟨.struct #[⟨ "Pages", 3, 0, false, "", "", 0⟩, ⟨ "Used", 33, 1, false, "", "", 8⟩], (Value.agg #[(Value.int .i64 0), (Value.slice none 0 0)]), 2, 32, .agg [.int .i64, .sl]⟩),
 (51, ⟨.slice 3, (Value.slice none 0 0), 1, 24, .leaf (.sl)⟩),
 (55, ⟨.struct #[⟨ "Phys", 51, 0, false, "", "", 0⟩], (Value.agg #[(Value.slice none 0 0)]), 1, 24, .agg [.sl]⟩),
 (61, ⟨.struct #[⟨ "Epoch", 45, 0, false, "", "", 0⟩, ⟨ "Pages", 45, 1, false, "", "", 8⟩, ⟨ "Table", 45, 2, false, "", "", 16⟩, ⟨ "Space", 45, 3, false, "", "", 24⟩, ⟨ "Logical", 45, 4, false, "", "", 32⟩, ⟨ "Meta", 46, 5, false, "", "", 40⟩], (Value.agg #[(Value.int .u64 0), (Value.int .u64 0), (Value.int .u64 0), (Value.int .u64 0), (Value.int .u64 0), (Value.int .u64 0), (Value.int .u64 0), (Value.int .u64 0), (Value.int .u64 0)]), 9, 72, .agg [.int .u64, .int .u64, .int .u64, .int .u64, .int .u64, .int .u64, .int .u64, .int .u64, .int .u64]⟩),
 (65, ⟨.int .u32, (Value.int .u32 0), 1, 4, .leaf (.int .u32)⟩),
 (67, ⟨.struct #[⟨ "Kind", 3, 0, false, "", "", 0⟩, ⟨ "Number", 65, 1, false, "", "", 8⟩, ⟨ "Body", 40, 2, false, "", "", 16⟩], (Value.agg #[(Value.int .i64 0), (Value.int .u32 0), (Value.slice none 0 0)]), 3, 40, .agg [.int .i64, .int .u32, .sl]⟩),
 (71, ⟨.map 3 40, (Value.map none), 1, 8, .leaf (.map)⟩),
 (94, ⟨.struct #[⟨ "root", 61, 0, false, "", "tallyman/shadow", 0⟩, ⟨ "table", 55, 9, false, "", "tallyman/shadow", 72⟩, ⟨ "own", 51, 10, false, "", "tallyman/shadow", 96⟩, ⟨ "fresh", 51, 11, false, "", "tallyman/shadow", 120⟩], (Value.agg #[(Value.int .u64 0), (Value.int .u64 0), (Value.int .u64 0), (Value.int .u64 0), (Value.int .u64 0), (Value.int .u64 0), (Value.int .u64 0), (Value.int .u64 0), (Value.int .u64 0), (Value.slice none 0 0), (Value.slice none 0 0), (Value.slice none 0 0)]), 12, 144, .agg [.int .u64, .int .u64, .int .u64, .int .u64, .int .u64, .int .u64, .int .u64, .int .u64, .int .u64, .sl, .sl, .sl]⟩),
 (95, ⟨.pointer 173, (Value.pointer none), 1, 8, .leaf (.ptr)⟩),
 (97, ⟨.struct #[⟨ "d", 26, 0, false, "", "tallyman/shadow", 0⟩, ⟨ "p", 95, 1, false, "", "tallyman/shadow", 8⟩, ⟨ "kept", 94, 2, false, "", "tallyman/shadow", 16⟩, ⟨ "now", 94, 14, false, "", "tallyman/shadow", 160⟩, ⟨ "broken", 4, 26, false, "", "tallyman/shadow", 304⟩, ⟨ "doubt", 3, 27, false, "", "tallyman/shadow", 312⟩], (Value.agg #[(Value.pointer none), (Value.pointer none), (Value.int .u64 0), (Value.int .u64 0), (Value.int .u64 0), (Value.int .u64 0), (Value.int .u64 0), (Value.int .u64 0), (Value.int .u64 0), (Value.int .u64 0), (Value.int .u64 0), (Value.slice none 0 0), (Value.slice none 0 0), (Value.slice none 0 0), (Value.int .u64 0), (Value.int .u64 0), (Value.int .u64 0), (Value.int .u64 0), (Value.int .u64 0), (Value.int .u64 0), (Value.int .u64 0), (Value.int .u64 0), (Value.int .u64 0), (Value.slice none 0 0), (Value.slice none 0 0), (Value.slice none 0 0), (Value.bool false), (Value.int .i64 0)]), 28, 320, .agg [.ptr, .ptr, .int .u64, .int .u64, .int .u64, .int .u64, .int .u64, .int .u64, .int .u64, .int .u64, .int .u64, .sl, .sl, .sl, .int .u64, .int .u64, .int .u64, .int .u64, .int .u64, .int .u64, .int .u64, .int .u64, .int .u64, .sl, .sl, .sl, .bool, .int .i64]⟩),
 (126, ⟨.pointer 3, (Value.pointer none), 1, 8, .leaf (.ptr)⟩),
 (128, ⟨.struct #[⟨ "b", 40, 0, false, "", "tallyman/sector", 0⟩, ⟨ "cache", 71, 1, false, "", "tallyman/sector", 24⟩, ⟨ "order", 51, 2, false, "", "tallyman/sector", 32⟩, ⟨ "left", 126, 3, false, "", "tallyman/sector", 56⟩], (Value.agg #[(Value.slice none 0 0), (Value.map none), (Value.slice none 0 0), (Value.pointer none)]), 4, 64, .agg [.sl, .map, .sl, .ptr]⟩),
 (166, ⟨.slice 51, (Value.slice none 0 0), 1, 24, .leaf (.sl)⟩)]
def tys : Tys := trOf tyl
abbrev T10 := Mem → (Bool → Mem → Prop) → Prop
def c10 (f : T10) : CallP := fun vs h K => match vs with
  | [] => f  h fun b1 h => K (Value.bool b1) h
  | _ => False
abbrev T91 := Option Addr → Mem → (Bool → Mem → Prop) → Prop
def c91 (f : T91) : CallP := fun vs h K => match vs with
  | [.pointer p1] => f p1 h fun b2 h => K (Value.bool b2) h
  | _ => False
def cs91 : Calls' := callsT []
def dcs91 : Calls' := callsT []
def hn91 : Hints := ⟨[], [], []⟩
theorem d91 (p1 : Option Addr) (h : Mem) (K : Value → Mem → Prop) : denF tys (cs91) (dcs91) hn91 (Go.Proofs.Tryz.f91.body.getD .skip) Go.Proofs.Tryz.f91.results.toList [(Value.pointer p1)] h K = shadow_Store_made tau p1 h fun b2 h => K (Value.bool b2) h := by delta shadow_Store_made; kernel_rfl
abbrev T67 := Option Addr → Mem → (Int → Mem → Prop) → Prop
def c67 (f : T67) : CallP := fun vs h K => match vs with
  | [.pointer p1] => f p1 h fun n2 h => K (Value.int .i64 n2) h
  | _ => False
def cs67 (f91 : T91) : Calls' := callsT [(91, c91 f91)]
def dcs67 : Calls' := callsT []
def hn67 : Hints := ⟨[], [], []⟩
theorem d67 (p1 : Option Addr) (h : Mem) (K : Value → Mem → Prop) : denF tys (cs67 (shadow_Store_made tau)) (dcs67) hn67 (Go.Proofs.Tryz.f67.body.getD .skip) Go.Proofs.Tryz.f67.results.toList [(Value.pointer p1)] h K = shadow_Store_ready tau p1 h fun n2 h => K (Value.int .i64 n2) h := by delta shadow_Store_ready; generalize shadow_Store_made tau = f91; revert f91; refine keep ?_; intro f91; kernel_rfl
abbrev T68 := Int → Sl → Mem → (Bool → Mem → Prop) → Prop
def c68 (f : T68) : CallP := fun vs h K => match vs with
  | [.int .i64 n1, .slice s2b s2l s2c] => f n1 ⟨s2b, s2l, s2c⟩ h fun b3 h => K (Value.bool b3) h
  | _ => False
abbrev T69 := Sl → Mem → (Int → Int → Mem → Prop) → Prop
def c69 (f : T69) : CallP := fun vs h K => match vs with
  | [.agg ⟨[.slice s1b s1l s1c]⟩] => f ⟨s1b, s1l, s1c⟩ h fun n2 n3 h => K (Value.tuple #[(Value.int .i64 n2), (Value.int .i64 n3)]) h
  | _ => False
abbrev T70 := Option Addr → Int → Int → Sl → Mem → (Int → Mem → Prop) → Prop
def c70 (f : T70) : CallP := fun vs h K => match vs with
  | [.pointer p1, .int .i64 n2, .int .i64 n3, .slice s4b s4l s4c] => f p1 n2 n3 ⟨s4b, s4l, s4c⟩ h fun n5 h => K (Value.int .i64 n5) h
  | _ => False
abbrev T15 := Option Addr → Int → Sl → Mem → (Int → Int → Mem → Prop) → Prop
def c15 (f : T15) : CallP := fun vs h K => match vs with
  | [.pointer p1, .int .i64 n2, .slice s3b s3l s3c] => f p1 n2 ⟨s3b, s3l, s3c⟩ h fun n4 n5 h => K (Value.tuple #[(Value.int .i64 n4), (Value.int .i64 n5)]) h
  | _ => False
def cs15 (f67 : T67) (f68 : T68) (f69 : T69) (f70 : T70) : Calls' := callsT [(67, c67 f67), (68, c68 f68), (69, c69 f69), (70, c70 f70)]
def dcs15 : Calls' := callsT []
def hn15 : Hints := ⟨[], [], []⟩
theorem d15 (p1 : Option Addr) (n2 : Int) (s3 : Sl) (h : Mem) (K : Value → Mem → Prop) : denF tys (cs15 (shadow_Store_ready tau) (shadow_logical tau) (table_Fresh tau) (shadow_Store_write tau)) (dcs15) hn15 (Go.Proofs.Tryz.f15.body.getD .skip) Go.Proofs.Tryz.f15.results.toList [(Value.pointer p1), (Value.int .i64 n2), (Value.slice s3.base s3.len s3.cap)] h K = shadow_Store_New tau p1 n2 s3 h fun n4 n5 h => K (Value.tuple #[(Value.int .i64 n4), (Value.int .i64 n5)]) h := by delta shadow_Store_New; generalize shadow_Store_ready tau = f67; generalize shadow_logical tau = f68; generalize table_Fresh tau = f69; generalize shadow_Store_write tau = f70; revert f67 f68 f69 f70; refine keep ?_; intro f67 f68 f69 f70; kernel_rfl
abbrev T71 := Sl → Int → Mem → (Int → Bool → Mem → Prop) → Prop
def c71 (f : T71) : CallP := fun vs h K => match vs with
  | [.agg ⟨[.slice s1b s1l s1c]⟩, .int .i64 n2] => f ⟨s1b, s1l, s1c⟩ n2 h fun n3 b4 h => K (Value.tuple #[(Value.int .i64 n3), (Value.bool b4)]) h
  | _ => False
abbrev T17 := Option Addr → Int → Int → Sl → Mem → (Int → Mem → Prop) → Prop
def c17 (f : T17) : CallP := fun vs h K => match vs with
  | [.pointer p1, .int .i64 n2, .int .i64 n3, .slice s4b s4l s4c] => f p1 n2 n3 ⟨s4b, s4l, s4c⟩ h fun n5 h => K (Value.int .i64 n5) h
  | _ => False
def cs17 (f67 : T67) (f68 : T68) (f70 : T70) (f71 : T71) : Calls' := callsT [(67, c67 f67), (68, c68 f68), (70, c70 f70), (71, c71 f71)]
def dcs17 : Calls' := callsT []
def hn17 : Hints := ⟨[], [], []⟩
theorem d17 (p1 : Option Addr) (n2 : Int) (n3 : Int) (s4 : Sl) (h : Mem) (K : Value → Mem → Prop) : denF tys (cs17 (shadow_Store_ready tau) (shadow_logical tau) (shadow_Store_write tau) (table_Get tau)) (dcs17) hn17 (Go.Proofs.Tryz.f17.body.getD .skip) Go.Proofs.Tryz.f17.results.toList [(Value.pointer p1), (Value.int .i64 n2), (Value.int .i64 n3), (Value.slice s4.base s4.len s4.cap)] h K = shadow_Store_Write tau p1 n2 n3 s4 h fun n5 h => K (Value.int .i64 n5) h := by delta shadow_Store_Write; generalize shadow_Store_ready tau = f67; generalize shadow_logical tau = f68; generalize shadow_Store_write tau = f70; generalize table_Get tau = f71; revert f67 f68 f70 f71; refine keep ?_; intro f67 f68 f70 f71; kernel_rfl
abbrev T72 := Sl → Int → Mem → (Sl → Int → Mem → Prop) → Prop
def c72 (f : T72) : CallP := fun vs h K => match vs with
  | [.agg ⟨[.slice s1b s1l s1c]⟩, .int .i64 n2] => f ⟨s1b, s1l, s1c⟩ n2 h fun s3 n4 h => K (Value.tuple #[(Value.agg #[(Value.slice s3.base s3.len s3.cap)]), (Value.int .i64 n4)]) h
  | _ => False
abbrev T73 := Sl → Int → Mem → (Int → Bool → Mem → Prop) → Prop
def c73 (f : T73) : CallP := fun vs h K => match vs with
  | [.slice s1b s1l s1c, .int .i64 n2] => f ⟨s1b, s1l, s1c⟩ n2 h fun n3 b4 h => K (Value.tuple #[(Value.int .i64 n3), (Value.bool b4)]) h
  | _ => False
abbrev T74 := Sl → Int → Int → Mem → (Sl → Mem → Prop) → Prop
def c74 (f : T74) : CallP := fun vs h K => match vs with
  | [.slice s1b s1l s1c, .int .i64 n2, .int .i64 n3] => f ⟨s1b, s1l, s1c⟩ n2 n3 h fun s4 h => K (Value.slice s4.base s4.len s4.cap) h
  | _ => False
def cs74 : Calls' := callsT []
def dcs74 : Calls' := callsT []
def hn74 : Hints := ⟨[], [(5, [0, 0, 3, 0, 0, 24, 63, 127])], []⟩
theorem d74 (s1 : Sl) (n2 : Int) (n3 : Int) (h : Mem) (K : Value → Mem → Prop) : denF tys (cs74) (dcs74) hn74 (Go.Proofs.Tryz.f74.body.getD .skip) Go.Proofs.Tryz.f74.results.toList [(Value.slice s1.base s1.len s1.cap), (Value.int .i64 n2), (Value.int .i64 n3)] h K = slices_Delete_int_int tau s1 n2 n3 h fun s4 h => K (Value.slice s4.base s4.len s4.cap) h := by delta slices_Delete_int_int; kernel_rfl
abbrev T75 := Sl → Mem → (Sl → Mem → Prop) → Prop
def c75 (f : T75) : CallP := fun vs h K => match vs with
  | [.slice s1b s1l s1c] => f ⟨s1b, s1l, s1c⟩ h fun s2 h => K (Value.slice s2.base s2.len s2.cap) h
  | _ => False
def cs75 : Calls' := callsT []
def dcs75 : Calls' := callsT []
def hn75 : Hints := ⟨[], [], []⟩
theorem d75 (s1 : Sl) (h : Mem) (K : Value → Mem → Prop) : denF tys (cs75) (dcs75) hn75 (Go.Proofs.Tryz.f75.body.getD .skip) Go.Proofs.Tryz.f75.results.toList [(Value.slice s1.base s1.len s1.cap)] h K = slices_Clone_int_int tau s1 h fun s2 h => K (Value.slice s2.base s2.len s2.cap) h := by delta slices_Clone_int_int; kernel_rfl
abbrev T76 := Option Addr → Int → Mem → (Int → Mem → Prop) → Prop
def c76 (f : T76) : CallP := fun vs h K => match vs with
  | [.pointer p1, .int .i64 n2] => f p1 n2 h fun n3 h => K (Value.int .i64 n3) h
  | _ => False
abbrev T18 := Option Addr → Int → Mem → (Int → Mem → Prop) → Prop
def c18 (f : T18) : CallP := fun vs h K => match vs with
  | [.pointer p1, .int .i64 n2] => f p1 n2 h fun n3 h => K (Value.int .i64 n3) h
  | _ => False
def cs18 (f67 : T67) (f71 : T71) (f72 : T72) (f73 : T73) (f74 : T74) (f75 : T75) (f76 : T76) : Calls' := callsT [(67, c67 f67), (71, c71 f71), (72, c72 f72), (73, c73 f73), (74, c74 f74), (75, c75 f75), (76, c76 f76)]
def dcs18 : Calls' := callsT []
def hn18 : Hints := ⟨[], [], []⟩
theorem d18 (p1 : Option Addr) (n2 : Int) (h : Mem) (K : Value → Mem → Prop) : denF tys (cs18 (shadow_Store_ready tau) (table_Get tau) (table_Clear tau) (slices_BinarySearch_int_int tau) (slices_Delete_int_int tau) (slices_Clone_int_int tau) (pool_Pool_Drop tau)) (dcs18) hn18 (Go.Proofs.Tryz.f18.body.getD .skip) Go.Proofs.Tryz.f18.results.toList [(Value.pointer p1), (Value.int .i64 n2)] h K = shadow_Store_Free tau p1 n2 h fun n3 h => K (Value.int .i64 n3) h := by delta shadow_Store_Free; generalize shadow_Store_ready tau = f67; generalize table_Get tau = f71; generalize table_Clear tau = f72; generalize slices_BinarySearch_int_int tau = f73; generalize slices_Delete_int_int tau = f74; generalize slices_Clone_int_int tau = f75; generalize pool_Pool_Drop tau = f76; revert f67 f71 f72 f73 f74 f75 f76; refine keep ?_; intro f67 f71 f72 f73 f74 f75 f76; kernel_rfl
abbrev T101 := Option Addr → Mem → (Bool → Mem → Prop) → Prop
def c101 (f : T101) : CallP := fun vs h K => match vs with
  | [.pointer p1] => f p1 h fun b2 h => K (Value.bool b2) h
  | _ => False
def cs101 : Calls' := callsT []
def dcs101 : Calls' := callsT []
def hn101 : Hints := ⟨[], [], []⟩
theorem d101 (p1 : Option Addr) (h : Mem) (K : Value → Mem → Prop) : denF tys (cs101) (dcs101) hn101 (Go.Proofs.Tryz.f101.body.getD .skip) Go.Proofs.Tryz.f101.results.toList [(Value.pointer p1)] h K = sector_Disk_made tau p1 h fun b2 h => K (Value.bool b2) h := by delta sector_Disk_made; kernel_rfl
abbrev T105 := Option Addr → Int → Mem → (Sl → Mem → Prop) → Prop
def c105 (f : T105) : CallP := fun vs h K => match vs with
  | [.pointer p1, .int .i64 n2] => f p1 n2 h fun s3 h => K (Value.slice s3.base s3.len s3.cap) h
  | _ => False
def cs105 : Calls' := callsT []
def dcs105 : Calls' := callsT []
def hn105 : Hints := ⟨[], [], []⟩
theorem d105 (p1 : Option Addr) (n2 : Int) (h : Mem) (K : Value → Mem → Prop) : denF tys (cs105) (dcs105) hn105 (Go.Proofs.Tryz.f105.body.getD .skip) Go.Proofs.Tryz.f105.results.toList [(Value.pointer p1), (Value.int .i64 n2)] h K = sector_Disk_sector tau p1 n2 h fun s3 h => K (Value.slice s3.base s3.len s3.cap) h := by delta sector_Disk_sector; kernel_rfl
abbrev T108 := Option Addr → Mem → (Bool → Mem → Prop) → Prop
def c108 (f : T108) : CallP := fun vs h K => match vs with
  | [.pointer p1] => f p1 h fun b2 h => K (Value.bool b2) h
  | _ => False
def cs108 : Calls' := callsT []
def dcs108 : Calls' := callsT []
def hn108 : Hints := ⟨[], [], []⟩
theorem d108 (p1 : Option Addr) (h : Mem) (K : Value → Mem → Prop) : denF tys (cs108) (dcs108) hn108 (Go.Proofs.Tryz.f108.body.getD .skip) Go.Proofs.Tryz.f108.results.toList [(Value.pointer p1)] h K = sector_Disk_fails tau p1 h fun b2 h => K (Value.bool b2) h := by delta sector_Disk_fails; kernel_rfl
abbrev T44 := Option Addr → Mem → (Int → Mem → Prop) → Prop
def c44 (f : T44) : CallP := fun vs h K => match vs with
  | [.pointer p1] => f p1 h fun n2 h => K (Value.int .i64 n2) h
  | _ => False
def cs44 (f101 : T101) (f105 : T105) (f108 : T108) : Calls' := callsT [(101, c101 f101), (105, c105 f105), (108, c108 f108)]
def dcs44 : Calls' := callsT []
def hn44 : Hints := ⟨[(6, [])], [], [(7, [(3, .int .i64), (4, .sl)])]⟩
theorem d44 (p1 : Option Addr) (h : Mem) (K : Value → Mem → Prop) : denF tys (cs44 (sector_Disk_made tau) (sector_Disk_sector tau) (sector_Disk_fails tau)) (dcs44) hn44 (Go.Proofs.Tryz.f44.body.getD .skip) Go.Proofs.Tryz.f44.results.toList [(Value.pointer p1)] h K = sector_Disk_Flush tau p1 h fun n2 h => K (Value.int .i64 n2) h := by delta sector_Disk_Flush; generalize sector_Disk_made tau = f101; generalize sector_Disk_sector tau = f105; generalize sector_Disk_fails tau = f108; revert f101 f105 f108; refine keep ?_; intro f101 f105 f108; kernel_rfl
abbrev T77 := Option Addr → Option Addr → Mem → (Mem → Prop) → Prop
def c77 (f : T77) : CallP := fun vs h K => match vs with
  | [.pointer p1, .pointer p2] => f p1 p2 h fun  h => K (Value.tuple #[]) h
  | _ => False
def cs77 : Calls' := callsT []
def dcs77 : Calls' := callsT []
def hn77 : Hints := ⟨[], [], []⟩
theorem d77 (p1 : Option Addr) (p2 : Option Addr) (h : Mem) (K : Value → Mem → Prop) : denF tys (cs77) (dcs77) hn77 (Go.Proofs.Tryz.f77.body.getD .skip) Go.Proofs.Tryz.f77.results.toList [(Value.pointer p1), (Value.pointer p2)] h K = shadow_Store_breaks tau p1 p2 h fun  h => K (Value.tuple #[]) h := by delta shadow_Store_breaks; kernel_rfl
abbrev T78 := Option Addr → Mem → (Int → Mem → Prop) → Prop
def c78 (f : T78) : CallP := fun vs h K => match vs with
  | [.pointer p1] => f p1 h fun n2 h => K (Value.int .i64 n2) h
  | _ => False
abbrev T79 := Sl → Mem → (Sl → Int → Mem → Prop) → Prop
def c79 (f : T79) : CallP := fun vs h K => match vs with
  | [.agg ⟨[.slice s1b s1l s1c]⟩] => f ⟨s1b, s1l, s1c⟩ h fun s2 n3 h => K (Value.tuple #[(Value.slice s2.base s2.len s2.cap), (Value.int .i64 n3)]) h
  | _ => False
abbrev T80 := Int → Mem → (Int → Sl → Int → Mem → Prop) → Prop
def c80 (f : T80) : CallP := fun vs h K => match vs with
  | [.int .i64 n1] => f n1 h fun n2 s3 n4 h => K (Value.tuple #[(Value.agg #[(Value.int .i64 n2), (Value.slice s3.base s3.len s3.cap)]), (Value.int .i64 n4)]) h
  | _ => False
abbrev T81 := Int → Sl → Mem → (Sl → Int → Mem → Prop) → Prop
def c81 (f : T81) : CallP := fun vs h K => match vs with
  | [.agg ⟨[.int .i64 n1, .slice s2b s2l s2c]⟩] => f n1 ⟨s2b, s2l, s2c⟩ h fun s3 n4 h => K (Value.tuple #[(Value.slice s3.base s3.len s3.cap), (Value.int .i64 n4)]) h
  | _ => False
abbrev T82 := Int → Mem → (Int → Mem → Prop) → Prop
def c82 (f : T82) : CallP := fun vs h K => match vs with
  | [.int .i64 n1] => f n1 h fun n2 h => K (Value.int .i64 n2) h
  | _ => False
abbrev T83 := Option Addr → Int → Mem → (Sl → Bool → Mem → Prop) → Prop
def c83 (f : T83) : CallP := fun vs h K => match vs with
  | [.pointer p1, .int .i64 n2] => f p1 n2 h fun s3 b4 h => K (Value.tuple #[(Value.slice s3.base s3.len s3.cap), (Value.bool b4)]) h
  | _ => False
abbrev T159 := Sl → Int → Mem → (Sl → Mem → Prop) → Prop
def c159 (f : T159) : CallP := fun vs h K => match vs with
  | [.slice s1b s1l s1c, .int .i64 n2] => f ⟨s1b, s1l, s1c⟩ n2 h fun s3 h => K (Value.slice s3.base s3.len s3.cap) h
  | _ => False
def cs159 : Calls' := callsT []
def dcs159 : Calls' := callsT []
def hn159 : Hints := ⟨[], [], []⟩
theorem d159 (s1 : Sl) (n2 : Int) (h : Mem) (K : Value → Mem → Prop) : denF tys (cs159) (dcs159) hn159 (Go.Proofs.Tryz.f159.body.getD .skip) Go.Proofs.Tryz.f159.results.toList [(Value.slice s1.base s1.len s1.cap), (Value.int .i64 n2)] h K = slices_Grow_int_int tau s1 n2 h fun s3 h => K (Value.slice s3.base s3.len s3.cap) h := by delta slices_Grow_int_int; kernel_rfl
abbrev T84 := Sl → Mem → (Sl → Mem → Prop) → Prop
def c84 (f : T84) : CallP := fun vs h K => match vs with
  | [.slice s1b s1l s1c] => f ⟨s1b, s1l, s1c⟩ h fun s2 h => K (Value.slice s2.base s2.len s2.cap) h
  | _ => False
def cs84 (f159 : T159) : Calls' := callsT [(159, c159 f159)]
def dcs84 : Calls' := callsT []
def hn84 : Hints := ⟨[(3, [(3, .int .i64), (11, .int .i64)]), (11, [(6, .sl), (27, .int .i64)])], [], []⟩
theorem d84 (s1 : Sl) (h : Mem) (K : Value → Mem → Prop) : denF tys (cs84 (slices_Grow_int_int tau)) (dcs84) hn84 (Go.Proofs.Tryz.f84.body.getD .skip) Go.Proofs.Tryz.f84.results.toList [(Value.slice s1.base s1.len s1.cap)] h K = slices_Concat_int_int tau s1 h fun s2 h => K (Value.slice s2.base s2.len s2.cap) h := by delta slices_Concat_int_int; generalize slices_Grow_int_int tau = f159; revert f159; refine keep ?_; intro f159; kernel_rfl
abbrev T85 := Sl → Mem → (Sl → Mem → Prop) → Prop
def c85 (f : T85) : CallP := fun vs h K => match vs with
  | [.agg ⟨[.slice s1b s1l s1c]⟩] => f ⟨s1b, s1l, s1c⟩ h fun s2 h => K (Value.slice s2.base s2.len s2.cap) h
  | _ => False
abbrev T86 := Option Addr → Int → Sl → Sl → Mem → (Int → Mem → Prop) → Prop
def c86 (f : T86) : CallP := fun vs h K => match vs with
  | [.pointer p1, .int .i64 n2, .slice s3b s3l s3c, .slice s4b s4l s4c] => f p1 n2 ⟨s3b, s3l, s3c⟩ ⟨s4b, s4l, s4c⟩ h fun n5 h => K (Value.int .i64 n5) h
  | _ => False
abbrev T87 := Option Addr → Mem → (Int → Mem → Prop) → Prop
def c87 (f : T87) : CallP := fun vs h K => match vs with
  | [.pointer p1] => f p1 h fun n2 h => K (Value.int .i64 n2) h
  | _ => False
abbrev T88 := Int → Int → Int → Int → Int → Int → Int → Int → Int → Mem → (Int → Mem → Prop) → Prop
def c88 (f : T88) : CallP := fun vs h K => match vs with
  | [.agg ⟨[.int .u64 n1, .int .u64 n2, .int .u64 n3, .int .u64 n4, .int .u64 n5, .int .u64 n6, .int .u64 n7, .int .u64 n8, .int .u64 n9]⟩] => f n1 n2 n3 n4 n5 n6 n7 n8 n9 h fun n10 h => K (Value.int .i64 n10) h
  | _ => False
abbrev T89 := Option Addr → Int → Int → Int → Int → Int → Int → Int → Int → Int → Mem → (Int → Mem → Prop) → Prop
def c89 (f : T89) : CallP := fun vs h K => match vs with
  | [.pointer p1, .agg ⟨[.int .u64 n2, .int .u64 n3, .int .u64 n4, .int .u64 n5, .int .u64 n6, .int .u64 n7, .int .u64 n8, .int .u64 n9, .int .u64 n10]⟩] => f p1 n2 n3 n4 n5 n6 n7 n8 n9 n10 h fun n11 h => K (Value.int .i64 n11) h
  | _ => False
abbrev T90 := Int → Int → Int → Int → Int → Int → Int → Int → Int → Sl → Sl → Sl → Mem → (Int → Int → Int → Int → Int → Int → Int → Int → Int → Sl → Sl → Sl → Mem → Prop) → Prop
def c90 (f : T90) : CallP := fun vs h K => match vs with
  | [.agg ⟨[.int .u64 n1, .int .u64 n2, .int .u64 n3, .int .u64 n4, .int .u64 n5, .int .u64 n6, .int .u64 n7, .int .u64 n8, .int .u64 n9, .slice s10b s10l s10c, .slice s11b s11l s11c, .slice s12b s12l s12c]⟩] => f n1 n2 n3 n4 n5 n6 n7 n8 n9 ⟨s10b, s10l, s10c⟩ ⟨s11b, s11l, s11c⟩ ⟨s12b, s12l, s12c⟩ h fun n13 n14 n15 n16 n17 n18 n19 n20 n21 s22 s23 s24 h => K (Value.agg #[(Value.int .u64 n13), (Value.int .u64 n14), (Value.int .u64 n15), (Value.int .u64 n16), (Value.int .u64 n17), (Value.int .u64 n18), (Value.int .u64 n19), (Value.int .u64 n20), (Value.int .u64 n21), (Value.slice s22.base s22.len s22.cap), (Value.slice s23.base s23.len s23.cap), (Value.slice s24.base s24.len s24.cap)]) h
  | _ => False
abbrev T19 := Option Addr → Int → Int → Int → Int → Mem → (Int → Mem → Prop) → Prop
def c19 (f : T19) : CallP := fun vs h K => match vs with
  | [.pointer p1, .agg ⟨[.int .u64 n2, .int .u64 n3, .int .u64 n4, .int .u64 n5]⟩] => f p1 n2 n3 n4 n5 h fun n6 h => K (Value.int .i64 n6) h
  | _ => False
def cs19 (f44 : T44) (f67 : T67) (f78 : T78) (f79 : T79) (f80 : T80) (f81 : T81) (f82 : T82) (f83 : T83) (f84 : T84) (f85 : T85) (f86 : T86) (f87 : T87) (f88 : T88) (f89 : T89) (f90 : T90) : Calls' := callsT [(44, c44 f44), (67, c67 f67), (78, c78 f78), (79, c79 f79), (80, c80 f80), (81, c81 f81), (82, c82 f82), (83, c83 f83), (84, c84 f84), (85, c85 f85), (86, c86 f86), (87, c87 f87), (88, c88 f88), (89, c89 f89), (90, c90 f90)]
def dcs19 (f77 : T77) : Calls' := callsT [(77, c77 f77)]
def hn19 : Hints := ⟨[(18, [(83, .int .i64)])], [(23, [0, 1, 3, 7, 0, 0, 48, 0, 255, 511]), (26, [0, 1, 3, 7, 0, 0, 48, 0, 255, 511]), (32, [0, 1, 3, 7, 15, 31, 63, 0, 128, 0, 512, 1536, 3584, 0, 0, 24576, 57344, 122880, 0, 262144, 786432, 1835008, 3932160, 8126464, 16515072, 33292288, 0, 134217727, 0, 536870911]), (34, [0, 1, 3, 7, 0, 31, 63]), (42, [0, 0, 0, 4, 12, 28, 0, 64, 192, 448, 960, 2045, 4093, 8189, 16383, 32767, 65535])], []⟩
theorem d19 (p1 : Option Addr) (n2 : Int) (n3 : Int) (n4 : Int) (n5 : Int) (h : Mem) (K : Value → Mem → Prop) : denF tys (cs19 (sector_Disk_Flush tau) (shadow_Store_ready tau) (page_Pages tau) (table_Bytes tau) (space_New tau) (space_Bytes tau) (chain_Need tau) (shadow_Store_spare tau) (slices_Concat_int_int tau) (table_Pages tau) (chain_Write tau) (pool_Pool_Flush tau) (root_Slot tau) (root_Write tau) (shadow_state_copied tau)) (dcs19 (shadow_Store_breaks tau)) hn19 (Go.Proofs.Tryz.f19.body.getD .skip) Go.Proofs.Tryz.f19.results.toList [(Value.pointer p1), (Value.agg #[(Value.int .u64 n2), (Value.int .u64 n3), (Value.int .u64 n4), (Value.int .u64 n5)])] h K = shadow_Store_Commit tau p1 n2 n3 n4 n5 h fun n6 h => K (Value.int .i64 n6) h := by delta shadow_Store_Commit; generalize sector_Disk_Flush tau = f44; generalize shadow_Store_ready tau = f67; generalize shadow_Store_breaks tau = f77; generalize page_Pages tau = f78; generalize table_Bytes tau = f79; generalize space_New tau = f80; generalize space_Bytes tau = f81; generalize chain_Need tau = f82; generalize shadow_Store_spare tau = f83; generalize slices_Concat_int_int tau = f84; generalize table_Pages tau = f85; generalize chain_Write tau = f86; generalize pool_Pool_Flush tau = f87; generalize root_Slot tau = f88; generalize root_Write tau = f89; generalize shadow_state_copied tau = f90; revert f44 f67 f77 f78 f79 f80 f81 f82 f83 f84 f85 f86 f87 f88 f89 f90; refine keep ?_; intro f44 f67 f77 f78 f79 f80 f81 f82 f83 f84 f85 f86 f87 f88 f89 f90; kernel_rfl
abbrev T21 := Option Addr → Mem → (Sl → Mem → Prop) → Prop
def c21 (f : T21) : CallP := fun vs h K => match vs with
  | [.pointer p1] => f p1 h fun s2 h => K (Value.slice s2.base s2.len s2.cap) h
  | _ => False
def cs21 (f75 : T75) (f91 : T91) : Calls' := callsT [(75, c75 f75), (91, c91 f91)]
def dcs21 : Calls' := callsT []
def hn21 : Hints := ⟨[], [], []⟩
theorem d21 (p1 : Option Addr) (h : Mem) (K : Value → Mem → Prop) : denF tys (cs21 (slices_Clone_int_int tau) (shadow_Store_made tau)) (dcs21) hn21 (Go.Proofs.Tryz.f21.body.getD .skip) Go.Proofs.Tryz.f21.results.toList [(Value.pointer p1)] h K = shadow_Store_Own tau p1 h fun s2 h => K (Value.slice s2.base s2.len s2.cap) h := by delta shadow_Store_Own; generalize slices_Clone_int_int tau = f75; generalize shadow_Store_made tau = f91; revert f75 f91; refine keep ?_; intro f75 f91; kernel_rfl
abbrev T23 := Option Addr → Mem → (Sl → Mem → Prop) → Prop
def c23 (f : T23) : CallP := fun vs h K => match vs with
  | [.pointer p1] => f p1 h fun s2 h => K (Value.agg #[(Value.slice s2.base s2.len s2.cap)]) h
  | _ => False
def cs23 (f90 : T90) (f91 : T91) : Calls' := callsT [(90, c90 f90), (91, c91 f91)]
def dcs23 : Calls' := callsT []
def hn23 : Hints := ⟨[], [], []⟩
theorem d23 (p1 : Option Addr) (h : Mem) (K : Value → Mem → Prop) : denF tys (cs23 (shadow_state_copied tau) (shadow_Store_made tau)) (dcs23) hn23 (Go.Proofs.Tryz.f23.body.getD .skip) Go.Proofs.Tryz.f23.results.toList [(Value.pointer p1)] h K = shadow_Store_Table tau p1 h fun s2 h => K (Value.agg #[(Value.slice s2.base s2.len s2.cap)]) h := by delta shadow_Store_Table; generalize shadow_state_copied tau = f90; generalize shadow_Store_made tau = f91; revert f90 f91; refine keep ?_; intro f90 f91; kernel_rfl
abbrev T96 := Option Addr → Mem → (Sl → Mem → Prop) → Prop
def c96 (f : T96) : CallP := fun vs h K => match vs with
  | [.pointer p1] => f p1 h fun s2 h => K (Value.slice s2.base s2.len s2.cap) h
  | _ => False
abbrev T26 := Option Addr → Mem → (Int → Mem → Prop) → Prop
def c26 (f : T26) : CallP := fun vs h K => match vs with
  | [.pointer p1] => f p1 h fun n2 h => K (Value.int .i64 n2) h
  | _ => False
def cs26 (f91 : T91) (f96 : T96) : Calls' := callsT [(91, c91 f91), (96, c96 f96)]
def dcs26 : Calls' := callsT []
def hn26 : Hints := ⟨[(5, [(3, .int .i64), (12, .int .i64)])], [], []⟩
theorem d26 (p1 : Option Addr) (h : Mem) (K : Value → Mem → Prop) : denF tys (cs26 (shadow_Store_made tau) (shadow_Store_used tau)) (dcs26) hn26 (Go.Proofs.Tryz.f26.body.getD .skip) Go.Proofs.Tryz.f26.results.toList [(Value.pointer p1)] h K = shadow_Store_Spare tau p1 h fun n2 h => K (Value.int .i64 n2) h := by delta shadow_Store_Spare; generalize shadow_Store_made tau = f91; generalize shadow_Store_used tau = f96; revert f91 f96; refine keep ?_; intro f91 f96; kernel_rfl
abbrev T28 := Option Addr → Mem → (Sl → Mem → Prop) → Prop
def c28 (f : T28) : CallP := fun vs h K => match vs with
  | [.pointer p1] => f p1 h fun s2 h => K (Value.slice s2.base s2.len s2.cap) h
  | _ => False
def cs28 (f75 : T75) (f91 : T91) : Calls' := callsT [(75, c75 f75), (91, c91 f91)]
def dcs28 : Calls' := callsT []
def hn28 : Hints := ⟨[], [], []⟩
theorem d28 (p1 : Option Addr) (h : Mem) (K : Value → Mem → Prop) : denF tys (cs28 (slices_Clone_int_int tau) (shadow_Store_made tau)) (dcs28) hn28 (Go.Proofs.Tryz.f28.body.getD .skip) Go.Proofs.Tryz.f28.results.toList [(Value.pointer p1)] h K = shadow_Store_Fresh tau p1 h fun s2 h => K (Value.slice s2.base s2.len s2.cap) h := by delta shadow_Store_Fresh; generalize slices_Clone_int_int tau = f75; generalize shadow_Store_made tau = f91; revert f75 f91; refine keep ?_; intro f75 f91; kernel_rfl
abbrev T29 := Option Addr → Mem → (Int → Int → Int → Int → Int → Int → Int → Int → Int → Mem → Prop) → Prop
def c29 (f : T29) : CallP := fun vs h K => match vs with
  | [.pointer p1] => f p1 h fun n2 n3 n4 n5 n6 n7 n8 n9 n10 h => K (Value.agg #[(Value.int .u64 n2), (Value.int .u64 n3), (Value.int .u64 n4), (Value.int .u64 n5), (Value.int .u64 n6), (Value.int .u64 n7), (Value.int .u64 n8), (Value.int .u64 n9), (Value.int .u64 n10)]) h
  | _ => False
def cs29 (f91 : T91) : Calls' := callsT [(91, c91 f91)]
def dcs29 : Calls' := callsT []
def hn29 : Hints := ⟨[], [], []⟩
theorem d29 (p1 : Option Addr) (h : Mem) (K : Value → Mem → Prop) : denF tys (cs29 (shadow_Store_made tau)) (dcs29) hn29 (Go.Proofs.Tryz.f29.body.getD .skip) Go.Proofs.Tryz.f29.results.toList [(Value.pointer p1)] h K = shadow_Store_Root tau p1 h fun n2 n3 n4 n5 n6 n7 n8 n9 n10 h => K (Value.agg #[(Value.int .u64 n2), (Value.int .u64 n3), (Value.int .u64 n4), (Value.int .u64 n5), (Value.int .u64 n6), (Value.int .u64 n7), (Value.int .u64 n8), (Value.int .u64 n9), (Value.int .u64 n10)]) h := by delta shadow_Store_Root; generalize shadow_Store_made tau = f91; revert f91; refine keep ?_; intro f91; kernel_rfl
abbrev T97 := Option Addr → Int → Mem → (Sl → Int → Mem → Prop) → Prop
def c97 (f : T97) : CallP := fun vs h K => match vs with
  | [.pointer p1, .int .i64 n2] => f p1 n2 h fun s3 n4 h => K (Value.tuple #[(Value.slice s3.base s3.len s3.cap), (Value.int .i64 n4)]) h
  | _ => False
abbrev T98 := Sl → Mem → (Int → Int → Sl → Int → Mem → Prop) → Prop
def c98 (f : T98) : CallP := fun vs h K => match vs with
  | [.slice s1b s1l s1c] => f ⟨s1b, s1l, s1c⟩ h fun n2 n3 s4 n5 h => K (Value.tuple #[(Value.agg #[(Value.int .i64 n2), (Value.int .u32 n3), (Value.slice s4.base s4.len s4.cap)]), (Value.int .i64 n5)]) h
  | _ => False
abbrev T31 := Option Addr → Int → Mem → (Int → Int → Sl → Int → Mem → Prop) → Prop
def c31 (f : T31) : CallP := fun vs h K => match vs with
  | [.pointer p1, .int .i64 n2] => f p1 n2 h fun n3 n4 s5 n6 h => K (Value.tuple #[(Value.agg #[(Value.int .i64 n3), (Value.int .u32 n4), (Value.slice s5.base s5.len s5.cap)]), (Value.int .i64 n6)]) h
  | _ => False
def cs31 (f67 : T67) (f68 : T68) (f71 : T71) (f97 : T97) (f98 : T98) : Calls' := callsT [(67, c67 f67), (68, c68 f68), (71, c71 f71), (97, c97 f97), (98, c98 f98)]
def dcs31 (f77 : T77) : Calls' := callsT [(77, c77 f77)]
def hn31 : Hints := ⟨[], [(10, [0, 0, 1, 7])], []⟩
theorem d31 (p1 : Option Addr) (n2 : Int) (h : Mem) (K : Value → Mem → Prop) : denF tys (cs31 (shadow_Store_ready tau) (shadow_logical tau) (table_Get tau) (pool_Pool_Get tau) (page_Read tau)) (dcs31 (shadow_Store_breaks tau)) hn31 (Go.Proofs.Tryz.f31.body.getD .skip) Go.Proofs.Tryz.f31.results.toList [(Value.pointer p1), (Value.int .i64 n2)] h K = shadow_Store_Read tau p1 n2 h fun n3 n4 s5 n6 h => K (Value.tuple #[(Value.agg #[(Value.int .i64 n3), (Value.int .u32 n4), (Value.slice s5.base s5.len s5.cap)]), (Value.int .i64 n6)]) h := by delta shadow_Store_Read; generalize shadow_Store_ready tau = f67; generalize shadow_logical tau = f68; generalize table_Get tau = f71; generalize shadow_Store_breaks tau = f77; generalize pool_Pool_Get tau = f97; generalize page_Read tau = f98; revert f67 f68 f71 f77 f97 f98; refine keep ?_; intro f67 f68 f71 f77 f97 f98; kernel_rfl
abbrev T99 := Option Addr → Int → Mem → (Int → Int → Mem → Prop) → Prop
def c99 (f : T99) : CallP := fun vs h K => match vs with
  | [.pointer p1, .int .i64 n2] => f p1 n2 h fun n3 n4 h => K (Value.tuple #[(Value.int .i64 n3), (Value.int .i64 n4)]) h
  | _ => False
def cs99 (f67 : T67) (f71 : T71) : Calls' := callsT [(67, c67 f67), (71, c71 f71)]
def dcs99 : Calls' := callsT []
def hn99 : Hints := ⟨[], [], []⟩
theorem d99 (p1 : Option Addr) (n2 : Int) (h : Mem) (K : Value → Mem → Prop) : denF tys (cs99 (shadow_Store_ready tau) (table_Get tau)) (dcs99) hn99 (Go.Proofs.Tryz.f99.body.getD .skip) Go.Proofs.Tryz.f99.results.toList [(Value.pointer p1), (Value.int .i64 n2)] h K = shadow_Store_held tau p1 n2 h fun n3 n4 h => K (Value.tuple #[(Value.int .i64 n3), (Value.int .i64 n4)]) h := by delta shadow_Store_held; generalize shadow_Store_ready tau = f67; generalize table_Get tau = f71; revert f67 f71; refine keep ?_; intro f67 f71; kernel_rfl
abbrev T100 := Option Addr → Int → Mem → (Int → Mem → Prop) → Prop
def c100 (f : T100) : CallP := fun vs h K => match vs with
  | [.pointer p1, .int .i64 n2] => f p1 n2 h fun n3 h => K (Value.int .i64 n3) h
  | _ => False
abbrev T32 := Option Addr → Int → Mem → (Int → Mem → Prop) → Prop
def c32 (f : T32) : CallP := fun vs h K => match vs with
  | [.pointer p1, .int .i64 n2] => f p1 n2 h fun n3 h => K (Value.int .i64 n3) h
  | _ => False
def cs32 (f99 : T99) (f100 : T100) : Calls' := callsT [(99, c99 f99), (100, c100 f100)]
def dcs32 : Calls' := callsT []
def hn32 : Hints := ⟨[], [], []⟩
theorem d32 (p1 : Option Addr) (n2 : Int) (h : Mem) (K : Value → Mem → Prop) : denF tys (cs32 (shadow_Store_held tau) (pool_Pool_Unpin tau)) (dcs32) hn32 (Go.Proofs.Tryz.f32.body.getD .skip) Go.Proofs.Tryz.f32.results.toList [(Value.pointer p1), (Value.int .i64 n2)] h K = shadow_Store_Unpin tau p1 n2 h fun n3 h => K (Value.int .i64 n3) h := by delta shadow_Store_Unpin; generalize shadow_Store_held tau = f99; generalize pool_Pool_Unpin tau = f100; revert f99 f100; refine keep ?_; intro f99 f100; kernel_rfl
abbrev T33 := Option Addr → Mem → (Int → Mem → Prop) → Prop
def c33 (f : T33) : CallP := fun vs h K => match vs with
  | [.pointer p1] => f p1 h fun n2 h => K (Value.int .i64 n2) h
  | _ => False
def cs33 (f67 : T67) : Calls' := callsT [(67, c67 f67)]
def dcs33 : Calls' := callsT []
def hn33 : Hints := ⟨[], [], []⟩
theorem d33 (p1 : Option Addr) (h : Mem) (K : Value → Mem → Prop) : denF tys (cs33 (shadow_Store_ready tau)) (dcs33) hn33 (Go.Proofs.Tryz.f33.body.getD .skip) Go.Proofs.Tryz.f33.results.toList [(Value.pointer p1)] h K = shadow_Store_Err tau p1 h fun n2 h => K (Value.int .i64 n2) h := by delta shadow_Store_Err; generalize shadow_Store_ready tau = f67; revert f67; refine keep ?_; intro f67; kernel_rfl
abbrev T66 := Option Addr → Int → Sl → Mem → (Int → Mem → Prop) → Prop
def c66 (f : T66) : CallP := fun vs h K => match vs with
  | [.pointer p1, .int .i64 n2, .slice s3b s3l s3c] => f p1 n2 ⟨s3b, s3l, s3c⟩ h fun n4 h => K (Value.int .i64 n4) h
  | _ => False
abbrev T95 := Option Addr → Mem → (Int → Mem → Prop) → Prop
def c95 (f : T95) : CallP := fun vs h K => match vs with
  | [.pointer p1] => f p1 h fun n2 h => K (Value.int .i64 n2) h
  | _ => False
abbrev T102 := Addr → Addr → Mem → (Mem → Prop) → Prop
def c102 (f : T102) : CallP := fun vs h K => match vs with
  | [.pointer (some a1), .pointer (some a2)] => f a1 a2 h fun  h => K (Value.tuple #[]) h
  | _ => False
def cs102 : Calls' := callsT []
def dcs102 : Calls' := callsT []
def hn102 : Hints := ⟨[], [], []⟩
theorem d102 (a1 : Addr) (a2 : Addr) (h : Mem) (K : Value → Mem → Prop) : denF tys (cs102) (dcs102) hn102 (Go.Proofs.Tryz.f102.body.getD .skip) Go.Proofs.Tryz.f102.results.toList [(Value.pointer (some a1)), (Value.pointer (some a2))] h K = shadow_Store_Rollback_1 tau a1 a2 h fun  h => K (Value.tuple #[]) h := by delta shadow_Store_Rollback_1; kernel_rfl
abbrev T103 := Option Addr → Mem → (Int → Mem → Prop) → Prop
def c103 (f : T103) : CallP := fun vs h K => match vs with
  | [.pointer p1] => f p1 h fun n2 h => K (Value.int .i64 n2) h
  | _ => False
abbrev T36 := Option Addr → Mem → (Int → Mem → Prop) → Prop
def c36 (f : T36) : CallP := fun vs h K => match vs with
  | [.pointer p1] => f p1 h fun n2 h => K (Value.int .i64 n2) h
  | _ => False
def cs36 (f44 : T44) (f66 : T66) (f91 : T91) (f95 : T95) (f103 : T103) : Calls' := callsT [(44, c44 f44), (66, c66 f66), (91, c91 f91), (95, c95 f95), (103, c103 f103)]
def dcs36 (f102 : T102) : Calls' := callsT [(102, c102 f102)]
def hn36 : Hints := ⟨[], [(6, [0, 1, 3, 7, 0, 16, 48, 112, 0, 511, 1023])], []⟩
theorem d36 (p1 : Option Addr) (h : Mem) (K : Value → Mem → Prop) : denF tys (cs36 (sector_Disk_Flush tau) (page_Save tau) (shadow_Store_made tau) (shadow_Store_load tau) (pool_Pool_Reset tau)) (dcs36 (shadow_Store_Rollback_1 tau)) hn36 (Go.Proofs.Tryz.f36.body.getD .skip) Go.Proofs.Tryz.f36.results.toList [(Value.pointer p1)] h K = shadow_Store_Rollback tau p1 h fun n2 h => K (Value.int .i64 n2) h := by delta shadow_Store_Rollback; generalize sector_Disk_Flush tau = f44; generalize page_Save tau = f66; generalize shadow_Store_made tau = f91; generalize shadow_Store_load tau = f95; generalize shadow_Store_Rollback_1 tau = f102; generalize pool_Pool_Reset tau = f103; revert f44 f66 f91 f95 f102 f103; refine keep ?_; intro f44 f66 f91 f95 f102 f103; kernel_rfl
abbrev T104 := Option Addr → Int → Mem → (Int → Mem → Prop) → Prop
def c104 (f : T104) : CallP := fun vs h K => match vs with
  | [.pointer p1, .int .i64 n2] => f p1 n2 h fun n3 h => K (Value.int .i64 n3) h
  | _ => False
abbrev T38 := Option Addr → Int → Mem → (Int → Mem → Prop) → Prop
def c38 (f : T38) : CallP := fun vs h K => match vs with
  | [.pointer p1, .int .i64 n2] => f p1 n2 h fun n3 h => K (Value.int .i64 n3) h
  | _ => False
def cs38 (f67 : T67) (f104 : T104) : Calls' := callsT [(67, c67 f67), (104, c104 f104)]
def dcs38 (f77 : T77) : Calls' := callsT [(77, c77 f77)]
def hn38 : Hints := ⟨[], [], []⟩
theorem d38 (p1 : Option Addr) (n2 : Int) (h : Mem) (K : Value → Mem → Prop) : denF tys (cs38 (shadow_Store_ready tau) (pool_Pool_Evict tau)) (dcs38 (shadow_Store_breaks tau)) hn38 (Go.Proofs.Tryz.f38.body.getD .skip) Go.Proofs.Tryz.f38.results.toList [(Value.pointer p1), (Value.int .i64 n2)] h K = shadow_Store_Evict tau p1 n2 h fun n3 h => K (Value.int .i64 n3) h := by delta shadow_Store_Evict; generalize shadow_Store_ready tau = f67; generalize shadow_Store_breaks tau = f77; generalize pool_Pool_Evict tau = f104; revert f67 f77 f104; refine keep ?_; intro f67 f77 f104; kernel_rfl
abbrev T106 := Option Addr → Int → Mem → (Int → Mem → Prop) → Prop
def c106 (f : T106) : CallP := fun vs h K => match vs with
  | [.pointer p1, .int .i64 n2] => f p1 n2 h fun n3 h => K (Value.int .i64 n3) h
  | _ => False
abbrev T41 := Option Addr → Int → Mem → (Int → Mem → Prop) → Prop
def c41 (f : T41) : CallP := fun vs h K => match vs with
  | [.pointer p1, .int .i64 n2] => f p1 n2 h fun n3 h => K (Value.int .i64 n3) h
  | _ => False
def cs41 (f99 : T99) (f106 : T106) : Calls' := callsT [(99, c99 f99), (106, c106 f106)]
def dcs41 (f77 : T77) : Calls' := callsT [(77, c77 f77)]
def hn41 : Hints := ⟨[], [], []⟩
theorem d41 (p1 : Option Addr) (n2 : Int) (h : Mem) (K : Value → Mem → Prop) : denF tys (cs41 (shadow_Store_held tau) (pool_Pool_Pin tau)) (dcs41 (shadow_Store_breaks tau)) hn41 (Go.Proofs.Tryz.f41.body.getD .skip) Go.Proofs.Tryz.f41.results.toList [(Value.pointer p1), (Value.int .i64 n2)] h K = shadow_Store_Pin tau p1 n2 h fun n3 h => K (Value.int .i64 n3) h := by delta shadow_Store_Pin; generalize shadow_Store_breaks tau = f77; generalize shadow_Store_held tau = f99; generalize pool_Pool_Pin tau = f106; revert f77 f99 f106; refine keep ?_; intro f77 f99 f106; kernel_rfl
abbrev T8 := Int → Int → Sl → Mem → (Bool → Mem → Prop) → Prop
def c8 (f : T8) : CallP := fun vs h K => match vs with
  | [.int .i64 n1, .int .i64 n2, .slice s3b s3l s3c] => f n1 n2 ⟨s3b, s3l, s3c⟩ h fun b4 h => K (Value.bool b4) h
  | _ => False
def cs8 (f10 : T10) (f15 : T15) (f17 : T17) (f18 : T18) (f19 : T19) (f21 : T21) (f23 : T23) (f26 : T26) (f28 : T28) (f29 : T29) (f31 : T31) (f32 : T32) (f33 : T33) (f36 : T36) (f38 : T38) (f41 : T41) : Calls' := callsT [(10, c10 f10), (15, c15 f15), (17, c17 f17), (18, c18 f18), (19, c19 f19), (21, c21 f21), (23, c23 f23), (26, c26 f26), (28, c28 f28), (29, c29 f29), (31, c31 f31), (32, c32 f32), (33, c33 f33), (36, c36 f36), (38, c38 f38), (41, c41 f41)]
def dcs8 : Calls' := callsT []
def hn8 : Hints := ⟨[], [], []⟩
theorem d8 (n1 : Int) (n2 : Int) (s3 : Sl) (h : Mem) (K : Value → Mem → Prop) : denF tys (cs8 (tallymanlaw11_lives tau) (shadow_Store_New tau) (shadow_Store_Write tau) (shadow_Store_Free tau) (shadow_Store_Commit tau) (shadow_Store_Own tau) (shadow_Store_Table tau) (shadow_Store_Spare tau) (shadow_Store_Fresh tau) (shadow_Store_Root tau) (shadow_Store_Read tau) (shadow_Store_Unpin tau) (shadow_Store_Err tau) (shadow_Store_Rollback tau) (shadow_Store_Evict tau) (shadow_Store_Pin tau)) (dcs8) hn8 (Go.Proofs.Tryz.f8.body.getD .skip) Go.Proofs.Tryz.f8.results.toList [(Value.int .i64 n1), (Value.int .i64 n2), (Value.slice s3.base s3.len s3.cap)] h K = tallymanlaw11_ShadowNil tau n1 n2 s3 h fun b4 h => K (Value.bool b4) h := by delta tallymanlaw11_ShadowNil; generalize tallymanlaw11_lives tau = f10; generalize shadow_Store_New tau = f15; generalize shadow_Store_Write tau = f17; generalize shadow_Store_Free tau = f18; generalize shadow_Store_Commit tau = f19; generalize shadow_Store_Own tau = f21; generalize shadow_Store_Table tau = f23; generalize shadow_Store_Spare tau = f26; generalize shadow_Store_Fresh tau = f28; generalize shadow_Store_Root tau = f29; generalize shadow_Store_Read tau = f31; generalize shadow_Store_Unpin tau = f32; generalize shadow_Store_Err tau = f33; generalize shadow_Store_Rollback tau = f36; generalize shadow_Store_Evict tau = f38; generalize shadow_Store_Pin tau = f41; revert f10 f15 f17 f18 f19 f21 f23 f26 f28 f29 f31 f32 f33 f36 f38 f41; refine keep ?_; intro f10 f15 f17 f18 f19 f21 f23 f26 f28 f29 f31 f32 f33 f36 f38 f41; kernel_rfl
end Go.TS.TryzN
/- The types of the seat. -/
namespace Go.TS.TryzN
open Go Go.TS
set_option linter.unusedVariables false
set_option maxRecDepth 100000
theorem hm : Go.Proofs.Tryz.prog.follows .mixedOrders = true := by kernel_rfl
theorem ty3 : TyOk Go.Proofs.Tryz.prog 3 ⟨.int .i64, (Value.int .i64 0), 1, 8, .leaf (.int .i64)⟩ := ⟨Go.Proofs.Tryz.underlying3, by kernel_rfl, by kernel_rfl, trivial⟩
theorem ty4 : TyOk Go.Proofs.Tryz.prog 4 ⟨.bool, (Value.bool false), 1, 1, .leaf (.bool)⟩ := ⟨Go.Proofs.Tryz.underlying4, by kernel_rfl, by kernel_rfl, trivial⟩
theorem ty5 : TyOk Go.Proofs.Tryz.prog 5 ⟨.int .u8, (Value.int .u8 0), 1, 1, .leaf (.int .u8)⟩ := ⟨Go.Proofs.Tryz.underlying5, by kernel_rfl, by kernel_rfl, trivial⟩
theorem ty26 : TyOk Go.Proofs.Tryz.prog 26 ⟨.pointer 128, (Value.pointer none), 1, 8, .leaf (.ptr)⟩ := ⟨Go.Proofs.Tryz.underlying26, by kernel_rfl, by kernel_rfl, trivial⟩
theorem ty27 : TyOk Go.Proofs.Tryz.prog 27 ⟨.int .i64, (Value.int .i64 0), 1, 8, .leaf (.int .i64)⟩ := ⟨Go.Proofs.Tryz.underlying27, by kernel_rfl, by kernel_rfl, trivial⟩
theorem ty30 : TyOk Go.Proofs.Tryz.prog 30 ⟨.pointer 97, (Value.pointer none), 1, 8, .leaf (.ptr)⟩ := ⟨Go.Proofs.Tryz.underlying30, by kernel_rfl, by kernel_rfl, trivial⟩
theorem ty33 : TyOk Go.Proofs.Tryz.prog 33 ⟨.slice 4, (Value.slice none 0 0), 1, 24, .leaf (.sl)⟩ := ⟨Go.Proofs.Tryz.underlying33, by kernel_rfl, by kernel_rfl, trivial⟩
theorem ty40 : TyOk Go.Proofs.Tryz.prog 40 ⟨.slice 5, (Value.slice none 0 0), 1, 24, .leaf (.sl)⟩ := ⟨Go.Proofs.Tryz.underlying40, by kernel_rfl, by kernel_rfl, trivial⟩
theorem ty45 : TyOk Go.Proofs.Tryz.prog 45 ⟨.int .u64, (Value.int .u64 0), 1, 8, .leaf (.int .u64)⟩ := ⟨Go.Proofs.Tryz.underlying45, by kernel_rfl, by kernel_rfl, trivial⟩
theorem ty46 : TyOk Go.Proofs.Tryz.prog 46 ⟨.array 4 45, (Value.agg #[(Value.int .u64 0), (Value.int .u64 0), (Value.int .u64 0), (Value.int .u64 0)]), 4, 32, .agg [.int .u64, .int .u64, .int .u64, .int .u64]⟩ := ⟨Go.Proofs.Tryz.underlying46, by kernel_rfl, by kernel_rfl, trivial⟩
theorem ty48 : TyOk Go.Proofs.Tryz.prog 48 ⟨.struct #[⟨ "Pages", 3, 0, false, "", "", 0⟩, ⟨ "Used", 33, 1, false, "", "", 8⟩], (Value.agg #[(Value.int .i64 0), (Value.slice none 0 0)]), 2, 32, .agg [.int .i64, .sl]⟩ := ⟨Go.Proofs.Tryz.underlying48, by kernel_rfl, by kernel_rfl, ⟨by kernel_rfl, by kernel_rfl⟩⟩
theorem ty51 : TyOk Go.Proofs.Tryz.prog 51 ⟨.slice 3, (Value.slice none 0 0), 1, 24, .leaf (.sl)⟩ := ⟨Go.Proofs.Tryz.underlying51, by kernel_rfl, by kernel_rfl, trivial⟩
theorem ty55 : TyOk Go.Proofs.Tryz.prog 55 ⟨.struct #[⟨ "Phys", 51, 0, false, "", "", 0⟩], (Value.agg #[(Value.slice none 0 0)]), 1, 24, .agg [.sl]⟩ := ⟨Go.Proofs.Tryz.underlying55, by kernel_rfl, by kernel_rfl, ⟨by kernel_rfl, by kernel_rfl⟩⟩
theorem ty61 : TyOk Go.Proofs.Tryz.prog 61 ⟨.struct #[⟨ "Epoch", 45, 0, false, "", "", 0⟩, ⟨ "Pages", 45, 1, false, "", "", 8⟩, ⟨ "Table", 45, 2, false, "", "", 16⟩, ⟨ "Space", 45, 3, false, "", "", 24⟩, ⟨ "Logical", 45, 4, false, "", "", 32⟩, ⟨ "Meta", 46, 5, false, "", "", 40⟩], (Value.agg #[(Value.int .u64 0), (Value.int .u64 0), (Value.int .u64 0), (Value.int .u64 0), (Value.int .u64 0), (Value.int .u64 0), (Value.int .u64 0), (Value.int .u64 0), (Value.int .u64 0)]), 9, 72, .agg [.int .u64, .int .u64, .int .u64, .int .u64, .int .u64, .int .u64, .int .u64, .int .u64, .int .u64]⟩ := ⟨Go.Proofs.Tryz.underlying61, by kernel_rfl, by kernel_rfl, ⟨by kernel_rfl, by kernel_rfl⟩⟩
theorem ty65 : TyOk Go.Proofs.Tryz.prog 65 ⟨.int .u32, (Value.int .u32 0), 1, 4, .leaf (.int .u32)⟩ := ⟨Go.Proofs.Tryz.underlying65, by kernel_rfl, by kernel_rfl, trivial⟩
theorem ty67 : TyOk Go.Proofs.Tryz.prog 67 ⟨.struct #[⟨ "Kind", 3, 0, false, "", "", 0⟩, ⟨ "Number", 65, 1, false, "", "", 8⟩, ⟨ "Body", 40, 2, false, "", "", 16⟩], (Value.agg #[(Value.int .i64 0), (Value.int .u32 0), (Value.slice none 0 0)]), 3, 40, .agg [.int .i64, .int .u32, .sl]⟩ := ⟨Go.Proofs.Tryz.underlying67, by kernel_rfl, by kernel_rfl, ⟨by kernel_rfl, by kernel_rfl⟩⟩
theorem ty71 : TyOk Go.Proofs.Tryz.prog 71 ⟨.map 3 40, (Value.map none), 1, 8, .leaf (.map)⟩ := ⟨Go.Proofs.Tryz.underlying71, by kernel_rfl, by kernel_rfl, trivial⟩
theorem ty94 : TyOk Go.Proofs.Tryz.prog 94 ⟨.struct #[⟨ "root", 61, 0, false, "", "tallyman/shadow", 0⟩, ⟨ "table", 55, 9, false, "", "tallyman/shadow", 72⟩, ⟨ "own", 51, 10, false, "", "tallyman/shadow", 96⟩, ⟨ "fresh", 51, 11, false, "", "tallyman/shadow", 120⟩], (Value.agg #[(Value.int .u64 0), (Value.int .u64 0), (Value.int .u64 0), (Value.int .u64 0), (Value.int .u64 0), (Value.int .u64 0), (Value.int .u64 0), (Value.int .u64 0), (Value.int .u64 0), (Value.slice none 0 0), (Value.slice none 0 0), (Value.slice none 0 0)]), 12, 144, .agg [.int .u64, .int .u64, .int .u64, .int .u64, .int .u64, .int .u64, .int .u64, .int .u64, .int .u64, .sl, .sl, .sl]⟩ := ⟨Go.Proofs.Tryz.underlying94, by kernel_rfl, by kernel_rfl, ⟨by kernel_rfl, by kernel_rfl⟩⟩
theorem ty95 : TyOk Go.Proofs.Tryz.prog 95 ⟨.pointer 173, (Value.pointer none), 1, 8, .leaf (.ptr)⟩ := ⟨Go.Proofs.Tryz.underlying95, by kernel_rfl, by kernel_rfl, trivial⟩
theorem ty97 : TyOk Go.Proofs.Tryz.prog 97 ⟨.struct #[⟨ "d", 26, 0, false, "", "tallyman/shadow", 0⟩, ⟨ "p", 95, 1, false, "", "tallyman/shadow", 8⟩, ⟨ "kept", 94, 2, false, "", "tallyman/shadow", 16⟩, ⟨ "now", 94, 14, false, "", "tallyman/shadow", 160⟩, ⟨ "broken", 4, 26, false, "", "tallyman/shadow", 304⟩, ⟨ "doubt", 3, 27, false, "", "tallyman/shadow", 312⟩], (Value.agg #[(Value.pointer none), (Value.pointer none), (Value.int .u64 0), (Value.int .u64 0), (Value.int .u64 0), (Value.int .u64 0), (Value.int .u64 0), (Value.int .u64 0), (Value.int .u64 0), (Value.int .u64 0), (Value.int .u64 0), (Value.slice none 0 0), (Value.slice none 0 0), (Value.slice none 0 0), (Value.int .u64 0), (Value.int .u64 0), (Value.int .u64 0), (Value.int .u64 0), (Value.int .u64 0), (Value.int .u64 0), (Value.int .u64 0), (Value.int .u64 0), (Value.int .u64 0), (Value.slice none 0 0), (Value.slice none 0 0), (Value.slice none 0 0), (Value.bool false), (Value.int .i64 0)]), 28, 320, .agg [.ptr, .ptr, .int .u64, .int .u64, .int .u64, .int .u64, .int .u64, .int .u64, .int .u64, .int .u64, .int .u64, .sl, .sl, .sl, .int .u64, .int .u64, .int .u64, .int .u64, .int .u64, .int .u64, .int .u64, .int .u64, .int .u64, .sl, .sl, .sl, .bool, .int .i64]⟩ := ⟨Go.Proofs.Tryz.underlying97, by kernel_rfl, by kernel_rfl, ⟨by kernel_rfl, by kernel_rfl⟩⟩
theorem ty126 : TyOk Go.Proofs.Tryz.prog 126 ⟨.pointer 3, (Value.pointer none), 1, 8, .leaf (.ptr)⟩ := ⟨Go.Proofs.Tryz.underlying126, by kernel_rfl, by kernel_rfl, trivial⟩
theorem ty128 : TyOk Go.Proofs.Tryz.prog 128 ⟨.struct #[⟨ "b", 40, 0, false, "", "tallyman/sector", 0⟩, ⟨ "cache", 71, 1, false, "", "tallyman/sector", 24⟩, ⟨ "order", 51, 2, false, "", "tallyman/sector", 32⟩, ⟨ "left", 126, 3, false, "", "tallyman/sector", 56⟩], (Value.agg #[(Value.slice none 0 0), (Value.map none), (Value.slice none 0 0), (Value.pointer none)]), 4, 64, .agg [.sl, .map, .sl, .ptr]⟩ := ⟨Go.Proofs.Tryz.underlying128, by kernel_rfl, by kernel_rfl, ⟨by kernel_rfl, by kernel_rfl⟩⟩
theorem ty166 : TyOk Go.Proofs.Tryz.prog 166 ⟨.slice 51, (Value.slice none 0 0), 1, 24, .leaf (.sl)⟩ := ⟨Go.Proofs.Tryz.underlying166, by kernel_rfl, by kernel_rfl, trivial⟩
theorem tysOk : TysOk Go.Proofs.Tryz.prog tys := tysOk_of (.cons ty3 (.cons ty4 (.cons ty5 (.cons ty26 (.cons ty27 (.cons ty30 (.cons ty33 (.cons ty40 (.cons ty45 (.cons ty46 (.cons ty48 (.cons ty51 (.cons ty55 (.cons ty61 (.cons ty65 (.cons ty67 (.cons ty71 (.cons ty94 (.cons ty95 (.cons ty97 (.cons ty126 (.cons ty128 (.cons ty166 (.nil))))))))))))))))))))))))
end Go.TS.TryzN
/- What the printer does not print. -/
namespace Go.TS.TryzN
open Go Go.TS
set_option linter.unusedVariables false
set_option maxRecDepth 100000

end Go.TS.TryzN
/- Each function does what it asks. -/
namespace Go.TS.TryzN
open Go Go.TS
set_option linter.unusedVariables false
set_option maxRecDepth 100000
theorem s10 : Sound Go.Proofs.Tryz.prog 10 (c10 (tallymanlaw11_lives tau)) := ⟨Go.Proofs.Tryz.call10, fun vs w K h => by
  simp only [c10] at h
  split at h
  · exact Go.XS.Tryz.soundL.calls _ w K ⟨rfl, h⟩
  · exact h.elim⟩
theorem ok91 : codeOk hn91 Go.Proofs.Tryz.f91.ntmps (Go.Proofs.Tryz.f91.body.getD .skip) = true := by kernel_rfl
theorem s91 : Sound Go.Proofs.Tryz.prog 91 (c91 (shadow_Store_made tau)) := by
  refine ⟨Go.Proofs.Tryz.call91, fun vs w K h => ?_⟩
  simp only [c91] at h
  split at h
  · rename_i p1; exact denF_calls hm tysOk (callsOk_of (.nil)) (defsOk_of (.nil)) Go.Proofs.Tryz.func91 (by kernel_rfl) ok91 (Nat.le_of_ble_eq_true (by kernel_rfl)) ((d91 p1 _ _).mpr h)
  · exact h.elim
theorem ok67 : codeOk hn67 Go.Proofs.Tryz.f67.ntmps (Go.Proofs.Tryz.f67.body.getD .skip) = true := by kernel_rfl
theorem s67 : Sound Go.Proofs.Tryz.prog 67 (c67 (shadow_Store_ready tau)) := by
  refine ⟨Go.Proofs.Tryz.call67, fun vs w K h => ?_⟩
  simp only [c67] at h
  split at h
  · rename_i p1; exact denF_calls hm tysOk (callsOk_of (.cons s91 (.nil))) (defsOk_of (.nil)) Go.Proofs.Tryz.func67 (by kernel_rfl) ok67 (Nat.le_of_ble_eq_true (by kernel_rfl)) ((d67 p1 _ _).mpr h)
  · exact h.elim
theorem s68 : Sound Go.Proofs.Tryz.prog 68 (c68 (shadow_logical tau)) := ⟨Go.Proofs.Tryz.call68, fun vs w K h => by simp only [c68, shadow_logical] at h; split at h <;> exact h.elim⟩
theorem s69 : Sound Go.Proofs.Tryz.prog 69 (c69 (table_Fresh tau)) := ⟨Go.Proofs.Tryz.call69, fun vs w K h => by simp only [c69, table_Fresh] at h; split at h <;> exact h.elim⟩
theorem s70 : Sound Go.Proofs.Tryz.prog 70 (c70 (shadow_Store_write tau)) := ⟨Go.Proofs.Tryz.call70, fun vs w K h => by simp only [c70, shadow_Store_write] at h; split at h <;> exact h.elim⟩
theorem ok15 : codeOk hn15 Go.Proofs.Tryz.f15.ntmps (Go.Proofs.Tryz.f15.body.getD .skip) = true := by kernel_rfl
theorem s15 : Sound Go.Proofs.Tryz.prog 15 (c15 (shadow_Store_New tau)) := by
  refine ⟨Go.Proofs.Tryz.call15, fun vs w K h => ?_⟩
  simp only [c15] at h
  split at h
  · rename_i p1 n2 s3b s3l s3c; exact denF_calls hm tysOk (callsOk_of (.cons s67 (.cons s68 (.cons s69 (.cons s70 (.nil)))))) (defsOk_of (.nil)) Go.Proofs.Tryz.func15 (by kernel_rfl) ok15 (Nat.le_of_ble_eq_true (by kernel_rfl)) ((d15 p1 n2 (⟨s3b, s3l, s3c⟩) _ _).mpr h)
  · exact h.elim
theorem s71 : Sound Go.Proofs.Tryz.prog 71 (c71 (table_Get tau)) := ⟨Go.Proofs.Tryz.call71, fun vs w K h => by simp only [c71, table_Get] at h; split at h <;> exact h.elim⟩
theorem ok17 : codeOk hn17 Go.Proofs.Tryz.f17.ntmps (Go.Proofs.Tryz.f17.body.getD .skip) = true := by kernel_rfl
theorem s17 : Sound Go.Proofs.Tryz.prog 17 (c17 (shadow_Store_Write tau)) := by
  refine ⟨Go.Proofs.Tryz.call17, fun vs w K h => ?_⟩
  simp only [c17] at h
  split at h
  · rename_i p1 n2 n3 s4b s4l s4c; exact denF_calls hm tysOk (callsOk_of (.cons s67 (.cons s68 (.cons s70 (.cons s71 (.nil)))))) (defsOk_of (.nil)) Go.Proofs.Tryz.func17 (by kernel_rfl) ok17 (Nat.le_of_ble_eq_true (by kernel_rfl)) ((d17 p1 n2 n3 (⟨s4b, s4l, s4c⟩) _ _).mpr h)
  · exact h.elim
theorem s72 : Sound Go.Proofs.Tryz.prog 72 (c72 (table_Clear tau)) := ⟨Go.Proofs.Tryz.call72, fun vs w K h => by simp only [c72, table_Clear] at h; split at h <;> exact h.elim⟩
theorem s73 : Sound Go.Proofs.Tryz.prog 73 (c73 (slices_BinarySearch_int_int tau)) := ⟨Go.Proofs.Tryz.call73, fun vs w K h => by simp only [c73, slices_BinarySearch_int_int] at h; split at h <;> exact h.elim⟩
theorem ok74 : codeOk hn74 Go.Proofs.Tryz.f74.ntmps (Go.Proofs.Tryz.f74.body.getD .skip) = true := by kernel_rfl
theorem s74 : Sound Go.Proofs.Tryz.prog 74 (c74 (slices_Delete_int_int tau)) := by
  refine ⟨Go.Proofs.Tryz.call74, fun vs w K h => ?_⟩
  simp only [c74] at h
  split at h
  · rename_i s1b s1l s1c n2 n3; exact denF_calls hm tysOk (callsOk_of (.nil)) (defsOk_of (.nil)) Go.Proofs.Tryz.func74 (by kernel_rfl) ok74 (Nat.le_of_ble_eq_true (by kernel_rfl)) ((d74 (⟨s1b, s1l, s1c⟩) n2 n3 _ _).mpr h)
  · exact h.elim
theorem ok75 : codeOk hn75 Go.Proofs.Tryz.f75.ntmps (Go.Proofs.Tryz.f75.body.getD .skip) = true := by kernel_rfl
theorem s75 : Sound Go.Proofs.Tryz.prog 75 (c75 (slices_Clone_int_int tau)) := by
  refine ⟨Go.Proofs.Tryz.call75, fun vs w K h => ?_⟩
  simp only [c75] at h
  split at h
  · rename_i s1b s1l s1c; exact denF_calls hm tysOk (callsOk_of (.nil)) (defsOk_of (.nil)) Go.Proofs.Tryz.func75 (by kernel_rfl) ok75 (Nat.le_of_ble_eq_true (by kernel_rfl)) ((d75 (⟨s1b, s1l, s1c⟩) _ _).mpr h)
  · exact h.elim
theorem s76 : Sound Go.Proofs.Tryz.prog 76 (c76 (pool_Pool_Drop tau)) := ⟨Go.Proofs.Tryz.call76, fun vs w K h => by simp only [c76, pool_Pool_Drop] at h; split at h <;> exact h.elim⟩
theorem ok18 : codeOk hn18 Go.Proofs.Tryz.f18.ntmps (Go.Proofs.Tryz.f18.body.getD .skip) = true := by kernel_rfl
theorem s18 : Sound Go.Proofs.Tryz.prog 18 (c18 (shadow_Store_Free tau)) := by
  refine ⟨Go.Proofs.Tryz.call18, fun vs w K h => ?_⟩
  simp only [c18] at h
  split at h
  · rename_i p1 n2; exact denF_calls hm tysOk (callsOk_of (.cons s67 (.cons s71 (.cons s72 (.cons s73 (.cons s74 (.cons s75 (.cons s76 (.nil))))))))) (defsOk_of (.nil)) Go.Proofs.Tryz.func18 (by kernel_rfl) ok18 (Nat.le_of_ble_eq_true (by kernel_rfl)) ((d18 p1 n2 _ _).mpr h)
  · exact h.elim
theorem ok101 : codeOk hn101 Go.Proofs.Tryz.f101.ntmps (Go.Proofs.Tryz.f101.body.getD .skip) = true := by kernel_rfl
theorem s101 : Sound Go.Proofs.Tryz.prog 101 (c101 (sector_Disk_made tau)) := by
  refine ⟨Go.Proofs.Tryz.call101, fun vs w K h => ?_⟩
  simp only [c101] at h
  split at h
  · rename_i p1; exact denF_calls hm tysOk (callsOk_of (.nil)) (defsOk_of (.nil)) Go.Proofs.Tryz.func101 (by kernel_rfl) ok101 (Nat.le_of_ble_eq_true (by kernel_rfl)) ((d101 p1 _ _).mpr h)
  · exact h.elim
theorem ok105 : codeOk hn105 Go.Proofs.Tryz.f105.ntmps (Go.Proofs.Tryz.f105.body.getD .skip) = true := by kernel_rfl
theorem s105 : Sound Go.Proofs.Tryz.prog 105 (c105 (sector_Disk_sector tau)) := by
  refine ⟨Go.Proofs.Tryz.call105, fun vs w K h => ?_⟩
  simp only [c105] at h
  split at h
  · rename_i p1 n2; exact denF_calls hm tysOk (callsOk_of (.nil)) (defsOk_of (.nil)) Go.Proofs.Tryz.func105 (by kernel_rfl) ok105 (Nat.le_of_ble_eq_true (by kernel_rfl)) ((d105 p1 n2 _ _).mpr h)
  · exact h.elim
theorem ok108 : codeOk hn108 Go.Proofs.Tryz.f108.ntmps (Go.Proofs.Tryz.f108.body.getD .skip) = true := by kernel_rfl
theorem s108 : Sound Go.Proofs.Tryz.prog 108 (c108 (sector_Disk_fails tau)) := by
  refine ⟨Go.Proofs.Tryz.call108, fun vs w K h => ?_⟩
  simp only [c108] at h
  split at h
  · rename_i p1; exact denF_calls hm tysOk (callsOk_of (.nil)) (defsOk_of (.nil)) Go.Proofs.Tryz.func108 (by kernel_rfl) ok108 (Nat.le_of_ble_eq_true (by kernel_rfl)) ((d108 p1 _ _).mpr h)
  · exact h.elim
theorem ok44 : codeOk hn44 Go.Proofs.Tryz.f44.ntmps (Go.Proofs.Tryz.f44.body.getD .skip) = true := by kernel_rfl
theorem s44 : Sound Go.Proofs.Tryz.prog 44 (c44 (sector_Disk_Flush tau)) := by
  refine ⟨Go.Proofs.Tryz.call44, fun vs w K h => ?_⟩
  simp only [c44] at h
  split at h
  · rename_i p1; exact denF_calls hm tysOk (callsOk_of (.cons s101 (.cons s105 (.cons s108 (.nil))))) (defsOk_of (.nil)) Go.Proofs.Tryz.func44 (by kernel_rfl) ok44 (Nat.le_of_ble_eq_true (by kernel_rfl)) ((d44 p1 _ _).mpr h)
  · exact h.elim
theorem ok77 : codeOk hn77 Go.Proofs.Tryz.f77.ntmps (Go.Proofs.Tryz.f77.body.getD .skip) = true := by kernel_rfl
theorem s77 : Sound Go.Proofs.Tryz.prog 77 (c77 (shadow_Store_breaks tau)) := by
  refine ⟨Go.Proofs.Tryz.call77, fun vs w K h => ?_⟩
  simp only [c77] at h
  split at h
  · rename_i p1 p2; exact denF_calls hm tysOk (callsOk_of (.nil)) (defsOk_of (.nil)) Go.Proofs.Tryz.func77 (by kernel_rfl) ok77 (Nat.le_of_ble_eq_true (by kernel_rfl)) ((d77 p1 p2 _ _).mpr h)
  · exact h.elim
theorem sd77 : SoundD Go.Proofs.Tryz.prog 77 (c77 (shadow_Store_breaks tau)) := by
  refine ⟨Go.Proofs.Tryz.call77, fun vs w K u h => ?_⟩
  simp only [c77] at h
  split at h
  · rename_i p1 p2; exact denF_callsD hm tysOk (callsOk_of (.nil)) Go.Proofs.Tryz.func77 (by kernel_rfl) ok77 (by kernel_rfl) (Nat.le_of_ble_eq_true (by kernel_rfl)) ((d77 p1 p2 _ _).mpr h)
  · exact h.elim
theorem s78 : Sound Go.Proofs.Tryz.prog 78 (c78 (page_Pages tau)) := ⟨Go.Proofs.Tryz.call78, fun vs w K h => by simp only [c78, page_Pages] at h; split at h <;> exact h.elim⟩
theorem s79 : Sound Go.Proofs.Tryz.prog 79 (c79 (table_Bytes tau)) := ⟨Go.Proofs.Tryz.call79, fun vs w K h => by simp only [c79, table_Bytes] at h; split at h <;> exact h.elim⟩
theorem s80 : Sound Go.Proofs.Tryz.prog 80 (c80 (space_New tau)) := ⟨Go.Proofs.Tryz.call80, fun vs w K h => by simp only [c80, space_New] at h; split at h <;> exact h.elim⟩
theorem s81 : Sound Go.Proofs.Tryz.prog 81 (c81 (space_Bytes tau)) := ⟨Go.Proofs.Tryz.call81, fun vs w K h => by simp only [c81, space_Bytes] at h; split at h <;> exact h.elim⟩
theorem s82 : Sound Go.Proofs.Tryz.prog 82 (c82 (chain_Need tau)) := ⟨Go.Proofs.Tryz.call82, fun vs w K h => by simp only [c82, chain_Need] at h; split at h <;> exact h.elim⟩
theorem s83 : Sound Go.Proofs.Tryz.prog 83 (c83 (shadow_Store_spare tau)) := ⟨Go.Proofs.Tryz.call83, fun vs w K h => by simp only [c83, shadow_Store_spare] at h; split at h <;> exact h.elim⟩
theorem ok159 : codeOk hn159 Go.Proofs.Tryz.f159.ntmps (Go.Proofs.Tryz.f159.body.getD .skip) = true := by kernel_rfl
theorem s159 : Sound Go.Proofs.Tryz.prog 159 (c159 (slices_Grow_int_int tau)) := by
  refine ⟨Go.Proofs.Tryz.call159, fun vs w K h => ?_⟩
  simp only [c159] at h
  split at h
  · rename_i s1b s1l s1c n2; exact denF_calls hm tysOk (callsOk_of (.nil)) (defsOk_of (.nil)) Go.Proofs.Tryz.func159 (by kernel_rfl) ok159 (Nat.le_of_ble_eq_true (by kernel_rfl)) ((d159 (⟨s1b, s1l, s1c⟩) n2 _ _).mpr h)
  · exact h.elim
theorem ok84 : codeOk hn84 Go.Proofs.Tryz.f84.ntmps (Go.Proofs.Tryz.f84.body.getD .skip) = true := by kernel_rfl
theorem s84 : Sound Go.Proofs.Tryz.prog 84 (c84 (slices_Concat_int_int tau)) := by
  refine ⟨Go.Proofs.Tryz.call84, fun vs w K h => ?_⟩
  simp only [c84] at h
  split at h
  · rename_i s1b s1l s1c; exact denF_calls hm tysOk (callsOk_of (.cons s159 (.nil))) (defsOk_of (.nil)) Go.Proofs.Tryz.func84 (by kernel_rfl) ok84 (Nat.le_of_ble_eq_true (by kernel_rfl)) ((d84 (⟨s1b, s1l, s1c⟩) _ _).mpr h)
  · exact h.elim
theorem s85 : Sound Go.Proofs.Tryz.prog 85 (c85 (table_Pages tau)) := ⟨Go.Proofs.Tryz.call85, fun vs w K h => by simp only [c85, table_Pages] at h; split at h <;> exact h.elim⟩
theorem s86 : Sound Go.Proofs.Tryz.prog 86 (c86 (chain_Write tau)) := ⟨Go.Proofs.Tryz.call86, fun vs w K h => by simp only [c86, chain_Write] at h; split at h <;> exact h.elim⟩
theorem s87 : Sound Go.Proofs.Tryz.prog 87 (c87 (pool_Pool_Flush tau)) := ⟨Go.Proofs.Tryz.call87, fun vs w K h => by simp only [c87, pool_Pool_Flush] at h; split at h <;> exact h.elim⟩
theorem s88 : Sound Go.Proofs.Tryz.prog 88 (c88 (root_Slot tau)) := ⟨Go.Proofs.Tryz.call88, fun vs w K h => by simp only [c88, root_Slot] at h; split at h <;> exact h.elim⟩
theorem s89 : Sound Go.Proofs.Tryz.prog 89 (c89 (root_Write tau)) := ⟨Go.Proofs.Tryz.call89, fun vs w K h => by simp only [c89, root_Write] at h; split at h <;> exact h.elim⟩
theorem s90 : Sound Go.Proofs.Tryz.prog 90 (c90 (shadow_state_copied tau)) := ⟨Go.Proofs.Tryz.call90, fun vs w K h => by simp only [c90, shadow_state_copied] at h; split at h <;> exact h.elim⟩
theorem ok19 : codeOk hn19 Go.Proofs.Tryz.f19.ntmps (Go.Proofs.Tryz.f19.body.getD .skip) = true := by kernel_rfl
theorem s19 : Sound Go.Proofs.Tryz.prog 19 (c19 (shadow_Store_Commit tau)) := by
  refine ⟨Go.Proofs.Tryz.call19, fun vs w K h => ?_⟩
  simp only [c19] at h
  split at h
  · rename_i p1 n2 n3 n4 n5; exact denF_calls hm tysOk (callsOk_of (.cons s44 (.cons s67 (.cons s78 (.cons s79 (.cons s80 (.cons s81 (.cons s82 (.cons s83 (.cons s84 (.cons s85 (.cons s86 (.cons s87 (.cons s88 (.cons s89 (.cons s90 (.nil))))))))))))))))) (defsOk_of (.cons sd77 (.nil))) Go.Proofs.Tryz.func19 (by kernel_rfl) ok19 (Nat.le_of_ble_eq_true (by kernel_rfl)) ((d19 p1 n2 n3 n4 n5 _ _).mpr h)
  · exact h.elim
theorem ok21 : codeOk hn21 Go.Proofs.Tryz.f21.ntmps (Go.Proofs.Tryz.f21.body.getD .skip) = true := by kernel_rfl
theorem s21 : Sound Go.Proofs.Tryz.prog 21 (c21 (shadow_Store_Own tau)) := by
  refine ⟨Go.Proofs.Tryz.call21, fun vs w K h => ?_⟩
  simp only [c21] at h
  split at h
  · rename_i p1; exact denF_calls hm tysOk (callsOk_of (.cons s75 (.cons s91 (.nil)))) (defsOk_of (.nil)) Go.Proofs.Tryz.func21 (by kernel_rfl) ok21 (Nat.le_of_ble_eq_true (by kernel_rfl)) ((d21 p1 _ _).mpr h)
  · exact h.elim
theorem ok23 : codeOk hn23 Go.Proofs.Tryz.f23.ntmps (Go.Proofs.Tryz.f23.body.getD .skip) = true := by kernel_rfl
theorem s23 : Sound Go.Proofs.Tryz.prog 23 (c23 (shadow_Store_Table tau)) := by
  refine ⟨Go.Proofs.Tryz.call23, fun vs w K h => ?_⟩
  simp only [c23] at h
  split at h
  · rename_i p1; exact denF_calls hm tysOk (callsOk_of (.cons s90 (.cons s91 (.nil)))) (defsOk_of (.nil)) Go.Proofs.Tryz.func23 (by kernel_rfl) ok23 (Nat.le_of_ble_eq_true (by kernel_rfl)) ((d23 p1 _ _).mpr h)
  · exact h.elim
theorem s96 : Sound Go.Proofs.Tryz.prog 96 (c96 (shadow_Store_used tau)) := ⟨Go.Proofs.Tryz.call96, fun vs w K h => by simp only [c96, shadow_Store_used] at h; split at h <;> exact h.elim⟩
theorem ok26 : codeOk hn26 Go.Proofs.Tryz.f26.ntmps (Go.Proofs.Tryz.f26.body.getD .skip) = true := by kernel_rfl
theorem s26 : Sound Go.Proofs.Tryz.prog 26 (c26 (shadow_Store_Spare tau)) := by
  refine ⟨Go.Proofs.Tryz.call26, fun vs w K h => ?_⟩
  simp only [c26] at h
  split at h
  · rename_i p1; exact denF_calls hm tysOk (callsOk_of (.cons s91 (.cons s96 (.nil)))) (defsOk_of (.nil)) Go.Proofs.Tryz.func26 (by kernel_rfl) ok26 (Nat.le_of_ble_eq_true (by kernel_rfl)) ((d26 p1 _ _).mpr h)
  · exact h.elim
theorem ok28 : codeOk hn28 Go.Proofs.Tryz.f28.ntmps (Go.Proofs.Tryz.f28.body.getD .skip) = true := by kernel_rfl
theorem s28 : Sound Go.Proofs.Tryz.prog 28 (c28 (shadow_Store_Fresh tau)) := by
  refine ⟨Go.Proofs.Tryz.call28, fun vs w K h => ?_⟩
  simp only [c28] at h
  split at h
  · rename_i p1; exact denF_calls hm tysOk (callsOk_of (.cons s75 (.cons s91 (.nil)))) (defsOk_of (.nil)) Go.Proofs.Tryz.func28 (by kernel_rfl) ok28 (Nat.le_of_ble_eq_true (by kernel_rfl)) ((d28 p1 _ _).mpr h)
  · exact h.elim
theorem ok29 : codeOk hn29 Go.Proofs.Tryz.f29.ntmps (Go.Proofs.Tryz.f29.body.getD .skip) = true := by kernel_rfl
theorem s29 : Sound Go.Proofs.Tryz.prog 29 (c29 (shadow_Store_Root tau)) := by
  refine ⟨Go.Proofs.Tryz.call29, fun vs w K h => ?_⟩
  simp only [c29] at h
  split at h
  · rename_i p1; exact denF_calls hm tysOk (callsOk_of (.cons s91 (.nil))) (defsOk_of (.nil)) Go.Proofs.Tryz.func29 (by kernel_rfl) ok29 (Nat.le_of_ble_eq_true (by kernel_rfl)) ((d29 p1 _ _).mpr h)
  · exact h.elim
theorem s97 : Sound Go.Proofs.Tryz.prog 97 (c97 (pool_Pool_Get tau)) := ⟨Go.Proofs.Tryz.call97, fun vs w K h => by simp only [c97, pool_Pool_Get] at h; split at h <;> exact h.elim⟩
theorem s98 : Sound Go.Proofs.Tryz.prog 98 (c98 (page_Read tau)) := ⟨Go.Proofs.Tryz.call98, fun vs w K h => by simp only [c98, page_Read] at h; split at h <;> exact h.elim⟩
theorem ok31 : codeOk hn31 Go.Proofs.Tryz.f31.ntmps (Go.Proofs.Tryz.f31.body.getD .skip) = true := by kernel_rfl
theorem s31 : Sound Go.Proofs.Tryz.prog 31 (c31 (shadow_Store_Read tau)) := by
  refine ⟨Go.Proofs.Tryz.call31, fun vs w K h => ?_⟩
  simp only [c31] at h
  split at h
  · rename_i p1 n2; exact denF_calls hm tysOk (callsOk_of (.cons s67 (.cons s68 (.cons s71 (.cons s97 (.cons s98 (.nil))))))) (defsOk_of (.cons sd77 (.nil))) Go.Proofs.Tryz.func31 (by kernel_rfl) ok31 (Nat.le_of_ble_eq_true (by kernel_rfl)) ((d31 p1 n2 _ _).mpr h)
  · exact h.elim
theorem ok99 : codeOk hn99 Go.Proofs.Tryz.f99.ntmps (Go.Proofs.Tryz.f99.body.getD .skip) = true := by kernel_rfl
theorem s99 : Sound Go.Proofs.Tryz.prog 99 (c99 (shadow_Store_held tau)) := by
  refine ⟨Go.Proofs.Tryz.call99, fun vs w K h => ?_⟩
  simp only [c99] at h
  split at h
  · rename_i p1 n2; exact denF_calls hm tysOk (callsOk_of (.cons s67 (.cons s71 (.nil)))) (defsOk_of (.nil)) Go.Proofs.Tryz.func99 (by kernel_rfl) ok99 (Nat.le_of_ble_eq_true (by kernel_rfl)) ((d99 p1 n2 _ _).mpr h)
  · exact h.elim
theorem s100 : Sound Go.Proofs.Tryz.prog 100 (c100 (pool_Pool_Unpin tau)) := ⟨Go.Proofs.Tryz.call100, fun vs w K h => by simp only [c100, pool_Pool_Unpin] at h; split at h <;> exact h.elim⟩
theorem ok32 : codeOk hn32 Go.Proofs.Tryz.f32.ntmps (Go.Proofs.Tryz.f32.body.getD .skip) = true := by kernel_rfl
theorem s32 : Sound Go.Proofs.Tryz.prog 32 (c32 (shadow_Store_Unpin tau)) := by
  refine ⟨Go.Proofs.Tryz.call32, fun vs w K h => ?_⟩
  simp only [c32] at h
  split at h
  · rename_i p1 n2; exact denF_calls hm tysOk (callsOk_of (.cons s99 (.cons s100 (.nil)))) (defsOk_of (.nil)) Go.Proofs.Tryz.func32 (by kernel_rfl) ok32 (Nat.le_of_ble_eq_true (by kernel_rfl)) ((d32 p1 n2 _ _).mpr h)
  · exact h.elim
theorem ok33 : codeOk hn33 Go.Proofs.Tryz.f33.ntmps (Go.Proofs.Tryz.f33.body.getD .skip) = true := by kernel_rfl
theorem s33 : Sound Go.Proofs.Tryz.prog 33 (c33 (shadow_Store_Err tau)) := by
  refine ⟨Go.Proofs.Tryz.call33, fun vs w K h => ?_⟩
  simp only [c33] at h
  split at h
  · rename_i p1; exact denF_calls hm tysOk (callsOk_of (.cons s67 (.nil))) (defsOk_of (.nil)) Go.Proofs.Tryz.func33 (by kernel_rfl) ok33 (Nat.le_of_ble_eq_true (by kernel_rfl)) ((d33 p1 _ _).mpr h)
  · exact h.elim
theorem s66 : Sound Go.Proofs.Tryz.prog 66 (c66 (page_Save tau)) := ⟨Go.Proofs.Tryz.call66, fun vs w K h => by simp only [c66, page_Save] at h; split at h <;> exact h.elim⟩
theorem s95 : Sound Go.Proofs.Tryz.prog 95 (c95 (shadow_Store_load tau)) := ⟨Go.Proofs.Tryz.call95, fun vs w K h => by simp only [c95, shadow_Store_load] at h; split at h <;> exact h.elim⟩
theorem ok102 : codeOk hn102 Go.Proofs.Tryz.f102.ntmps (Go.Proofs.Tryz.f102.body.getD .skip) = true := by kernel_rfl
theorem s102 : Sound Go.Proofs.Tryz.prog 102 (c102 (shadow_Store_Rollback_1 tau)) := by
  refine ⟨Go.Proofs.Tryz.call102, fun vs w K h => ?_⟩
  simp only [c102] at h
  split at h
  · rename_i a1 a2; exact denF_calls hm tysOk (callsOk_of (.nil)) (defsOk_of (.nil)) Go.Proofs.Tryz.func102 (by kernel_rfl) ok102 (Nat.le_of_ble_eq_true (by kernel_rfl)) ((d102 a1 a2 _ _).mpr h)
  · exact h.elim
theorem sd102 : SoundD Go.Proofs.Tryz.prog 102 (c102 (shadow_Store_Rollback_1 tau)) := by
  refine ⟨Go.Proofs.Tryz.call102, fun vs w K u h => ?_⟩
  simp only [c102] at h
  split at h
  · rename_i a1 a2; exact denF_callsD hm tysOk (callsOk_of (.nil)) Go.Proofs.Tryz.func102 (by kernel_rfl) ok102 (by kernel_rfl) (Nat.le_of_ble_eq_true (by kernel_rfl)) ((d102 a1 a2 _ _).mpr h)
  · exact h.elim
theorem s103 : Sound Go.Proofs.Tryz.prog 103 (c103 (pool_Pool_Reset tau)) := ⟨Go.Proofs.Tryz.call103, fun vs w K h => by simp only [c103, pool_Pool_Reset] at h; split at h <;> exact h.elim⟩
theorem ok36 : codeOk hn36 Go.Proofs.Tryz.f36.ntmps (Go.Proofs.Tryz.f36.body.getD .skip) = true := by kernel_rfl
theorem s36 : Sound Go.Proofs.Tryz.prog 36 (c36 (shadow_Store_Rollback tau)) := by
  refine ⟨Go.Proofs.Tryz.call36, fun vs w K h => ?_⟩
  simp only [c36] at h
  split at h
  · rename_i p1; exact denF_calls hm tysOk (callsOk_of (.cons s44 (.cons s66 (.cons s91 (.cons s95 (.cons s103 (.nil))))))) (defsOk_of (.cons sd102 (.nil))) Go.Proofs.Tryz.func36 (by kernel_rfl) ok36 (Nat.le_of_ble_eq_true (by kernel_rfl)) ((d36 p1 _ _).mpr h)
  · exact h.elim
theorem s104 : Sound Go.Proofs.Tryz.prog 104 (c104 (pool_Pool_Evict tau)) := ⟨Go.Proofs.Tryz.call104, fun vs w K h => by simp only [c104, pool_Pool_Evict] at h; split at h <;> exact h.elim⟩
theorem ok38 : codeOk hn38 Go.Proofs.Tryz.f38.ntmps (Go.Proofs.Tryz.f38.body.getD .skip) = true := by kernel_rfl
theorem s38 : Sound Go.Proofs.Tryz.prog 38 (c38 (shadow_Store_Evict tau)) := by
  refine ⟨Go.Proofs.Tryz.call38, fun vs w K h => ?_⟩
  simp only [c38] at h
  split at h
  · rename_i p1 n2; exact denF_calls hm tysOk (callsOk_of (.cons s67 (.cons s104 (.nil)))) (defsOk_of (.cons sd77 (.nil))) Go.Proofs.Tryz.func38 (by kernel_rfl) ok38 (Nat.le_of_ble_eq_true (by kernel_rfl)) ((d38 p1 n2 _ _).mpr h)
  · exact h.elim
theorem s106 : Sound Go.Proofs.Tryz.prog 106 (c106 (pool_Pool_Pin tau)) := ⟨Go.Proofs.Tryz.call106, fun vs w K h => by simp only [c106, pool_Pool_Pin] at h; split at h <;> exact h.elim⟩
theorem ok41 : codeOk hn41 Go.Proofs.Tryz.f41.ntmps (Go.Proofs.Tryz.f41.body.getD .skip) = true := by kernel_rfl
theorem s41 : Sound Go.Proofs.Tryz.prog 41 (c41 (shadow_Store_Pin tau)) := by
  refine ⟨Go.Proofs.Tryz.call41, fun vs w K h => ?_⟩
  simp only [c41] at h
  split at h
  · rename_i p1 n2; exact denF_calls hm tysOk (callsOk_of (.cons s99 (.cons s106 (.nil)))) (defsOk_of (.cons sd77 (.nil))) Go.Proofs.Tryz.func41 (by kernel_rfl) ok41 (Nat.le_of_ble_eq_true (by kernel_rfl)) ((d41 p1 n2 _ _).mpr h)
  · exact h.elim
theorem ok8 : codeOk hn8 Go.Proofs.Tryz.f8.ntmps (Go.Proofs.Tryz.f8.body.getD .skip) = true := by kernel_rfl
theorem s8 : Sound Go.Proofs.Tryz.prog 8 (c8 (tallymanlaw11_ShadowNil tau)) := by
  refine ⟨Go.Proofs.Tryz.call8, fun vs w K h => ?_⟩
  simp only [c8] at h
  split at h
  · rename_i n1 n2 s3b s3l s3c; exact denF_calls hm tysOk (callsOk_of (.cons s10 (.cons s15 (.cons s17 (.cons s18 (.cons s19 (.cons s21 (.cons s23 (.cons s26 (.cons s28 (.cons s29 (.cons s31 (.cons s32 (.cons s33 (.cons s36 (.cons s38 (.cons s41 (.nil)))))))))))))))))) (defsOk_of (.nil)) Go.Proofs.Tryz.func8 (by kernel_rfl) ok8 (Nat.le_of_ble_eq_true (by kernel_rfl)) ((d8 n1 n2 (⟨s3b, s3l, s3c⟩) _ _).mpr h)
  · exact h.elim
end Go.TS.TryzN
