/- The layer 'TS': soundness of what the printer does not print. -/
import Derived.Laws.Externs
import Derived.Lib.Overlaps
import Derived.Test.YtgdkafimnpjghaaGreatDoorProg
import Derived.Test.YtgdkafimnpjghaaGreatDoorTsS10
import Derived.Test.YtgdkafimnpjghaaGreatDoorTsExt
import Derived.Test.YtgdkafimnpjghaaGreatDoorTsCode
namespace Go.TS
open Go
theorem overlaps_gives {P : Program} {f : FuncId} {fn : Func} {tS tR e : TypeId} {τ : Nat → Nat} (hf : P.funcs[f]? = some fn) (hname : (fn.name == "runtime.NumGoroutine") = false)
    (hb : fn.body.isNone = true) (hn : Extern.findNext fn = none) (he : Extern.find fn = some (Extern.SlicesOverlaps.overlaps #[tS, tS] #[tR])) (ht : P.underlying tS = some (.slice e))
    (hz : ∀ w, (Go.sizeOf e).run P w = .ok 1 w) {s1 s2 : Sl} {w : World} {K : Value → Mem → Prop} (h : slices_overlaps_int τ s1 s2 w.heap fun b h => K (.bool b) h) :
    ∃ v w', (callFunc f [Value.slice s1.base s1.len s1.cap, Value.slice s2.base s2.len s2.cap].toArray).run P w = .ok (.value v) w' ∧ K v w'.heap ∧ Same w w' := by
  obtain ⟨a, b, c, e1, c', e2, ha, hb', hne, h1, h2, h0, hK⟩ := h
  refine ⟨.bool false, w, ?_, hK, Same.refl w⟩
  rw [run_callFunc_extern hf hname hb hn he, ha, hb']
  have hs1 : w.shape? a.block = some (e1, c.size) := by simp [World.shape?, h1]
  have hs2 : w.shape? b.block = some (e2, c'.size) := by simp [World.shape?, h2]
  have hf1 : w.frozen? a = false := by simp [World.frozen?, h1]
  have hf2 : w.frozen? { block := a.block, off := c.size } = false := by simp [World.frozen?, h1]
  have := Lib.run_overlaps_apart (P := P) w tS tR e ht 1 hz a b s1.len s1.cap s2.len s2.cap hne e1 e2 c.size c'.size hs1 hs2 h0 hf1 hf2
  rw [this]
  rfl
end Go.TS
/- The links: what each function asks is what its code asks. -/
namespace Go.TS.Tryz
open Go Go.TS
set_option linter.unusedVariables false
set_option maxRecDepth 100000
def tau (i : Nat) : Nat := ([5, 128, 55, 202, 48, 4, 40, 3, 51, 260, 67, 163, 161, 27, 61, 94, 46, 173, 97, 231, 0, 0, 0, 30, 0, 0, 0] : List Nat).getD i 0
def tyl : List (Nat × TI) := [
 (3, ⟨.int .i64, (Value.int .i64 0), 1, 8, .leaf (.int .i64)⟩),
 (4, ⟨.bool, (Value.bool false), 1, 1, .leaf (.bool)⟩),
 (5, ⟨.int .u8, (Value.int .u8 0), 1, 1, .leaf (.int .u8)⟩),
 (26, ⟨.pointer 128, (Value.pointer none), 1, 8, .leaf (.ptr)⟩),
 (27, ⟨.int .i64, (Value.int .i64 0), 1, 8, .leaf (.int .i64)⟩),
 (40, ⟨.slice 5, (Value.slice none 0 0), 1, 24, .leaf (.sl)⟩),
 (45, ⟨.int .u64, (Value.int .u64 0), 1, 8, .leaf (.int .u64)⟩),
 (51, ⟨.slice 3, (Value.slice none 0 0), 1, 24, .leaf (.sl)⟩),
 (65, ⟨.int .u32, (Value.int .u32 0), 1, 4, .leaf (.int .u32)⟩),
 (67, ⟨.struct #[⟨ "Kind", 3, 0, false, "", "", 0⟩, ⟨ "Number", 65, 1, false, "", "", 8⟩, ⟨ "Body", 40, 2, false, "", "", 16⟩], (Value.agg #[(Value.int .i64 0), (Value.int .u32 0), (Value.slice none 0 0)]), 3, 40, .agg [.int .i64, .int .u32, .sl]⟩),
 (71, ⟨.map 3 40, (Value.map none), 1, 8, .leaf (.map)⟩),
 (126, ⟨.pointer 3, (Value.pointer none), 1, 8, .leaf (.ptr)⟩),
 (128, ⟨.struct #[⟨ "b", 40, 0, false, "", "tallyman/sector", 0⟩, ⟨ "cache", 71, 1, false, "", "tallyman/sector", 24⟩, ⟨ "order", 51, 2, false, "", "tallyman/sector", 32⟩, ⟨ "left", 126, 3, false, "", "tallyman/sector", 56⟩], (Value.agg #[(Value.slice none 0 0), (Value.map none), (Value.slice none 0 0), (Value.pointer none)]), 4, 64, .agg [.sl, .map, .sl, .ptr]⟩),
 (131, ⟨.slice 40, (Value.slice none 0 0), 1, 24, .leaf (.sl)⟩),
 (166, ⟨.slice 51, (Value.slice none 0 0), 1, 24, .leaf (.sl)⟩),
 (186, ⟨.pointer 231, (Value.pointer none), 1, 8, .leaf (.ptr)⟩),
 (231, ⟨.struct #[⟨ "b", 40, 0, false, "", "tallyman/octet", 0⟩, ⟨ "at", 3, 1, false, "", "tallyman/octet", 24⟩, ⟨ "err", 27, 2, false, "", "tallyman/octet", 32⟩, ⟨ "is", 4, 3, false, "", "tallyman/octet", 40⟩], (Value.agg #[(Value.slice none 0 0), (Value.int .i64 0), (Value.int .i64 0), (Value.bool false)]), 4, 48, .agg [.sl, .int .i64, .int .i64, .bool]⟩),
 (260, ⟨.array 256 65, (Value.agg (Array.replicate 256 (Value.int .u32 0))), 256, 1024, .arr 256⟩)]
def tys : Tys := trOf tyl
abbrev T101 := Option Addr → Mem → (Bool → Mem → Prop) → Prop
def c101 (f : T101) : CallP := fun vs h K => match vs with
  | [.pointer p1] => f p1 h fun b2 h => K (Value.bool b2) h
  | _ => False
def cs101 : Calls' := callsT []
def dcs101 : Calls' := callsT []
def hn101 : Hints := ⟨[], [], []⟩
theorem d101 (p1 : Option Addr) (h : Mem) (K : Value → Mem → Prop) : denF tys (cs101) (dcs101) hn101 (Go.Proofs.Tryz.f101.body.getD .skip) Go.Proofs.Tryz.f101.results.toList [(Value.pointer p1)] h K = sector_Disk_made tau p1 h fun b2 h => K (Value.bool b2) h := by delta sector_Disk_made; kernel_rfl
abbrev T105 := Option Addr → Int → Mem → (Sl → Mem → Prop) → Prop
def c105 (f : T105) : CallP := fun vs h K => match vs with
  | [.pointer p1, .int .i64 n2] => f p1 n2 h fun s3 h => K (Value.slice s3.base s3.len s3.cap) h
  | _ => False
def cs105 : Calls' := callsT []
def dcs105 : Calls' := callsT []
def hn105 : Hints := ⟨[], [], []⟩
theorem d105 (p1 : Option Addr) (n2 : Int) (h : Mem) (K : Value → Mem → Prop) : denF tys (cs105) (dcs105) hn105 (Go.Proofs.Tryz.f105.body.getD .skip) Go.Proofs.Tryz.f105.results.toList [(Value.pointer p1), (Value.int .i64 n2)] h K = sector_Disk_sector tau p1 n2 h fun s3 h => K (Value.slice s3.base s3.len s3.cap) h := by delta sector_Disk_sector; kernel_rfl
abbrev T108 := Option Addr → Mem → (Bool → Mem → Prop) → Prop
def c108 (f : T108) : CallP := fun vs h K => match vs with
  | [.pointer p1] => f p1 h fun b2 h => K (Value.bool b2) h
  | _ => False
def cs108 : Calls' := callsT []
def dcs108 : Calls' := callsT []
def hn108 : Hints := ⟨[], [], []⟩
theorem d108 (p1 : Option Addr) (h : Mem) (K : Value → Mem → Prop) : denF tys (cs108) (dcs108) hn108 (Go.Proofs.Tryz.f108.body.getD .skip) Go.Proofs.Tryz.f108.results.toList [(Value.pointer p1)] h K = sector_Disk_fails tau p1 h fun b2 h => K (Value.bool b2) h := by delta sector_Disk_fails; kernel_rfl
abbrev T44 := Option Addr → Mem → (Int → Mem → Prop) → Prop
def c44 (f : T44) : CallP := fun vs h K => match vs with
  | [.pointer p1] => f p1 h fun n2 h => K (Value.int .i64 n2) h
  | _ => False
def cs44 (f101 : T101) (f105 : T105) (f108 : T108) : Calls' := callsT [(101, c101 f101), (105, c105 f105), (108, c108 f108)]
def dcs44 : Calls' := callsT []
def hn44 : Hints := ⟨[(6, [])], [], [(7, [(3, .int .i64), (4, .sl)])]⟩
theorem d44 (p1 : Option Addr) (h : Mem) (K : Value → Mem → Prop) : denF tys (cs44 (sector_Disk_made tau) (sector_Disk_sector tau) (sector_Disk_fails tau)) (dcs44) hn44 (Go.Proofs.Tryz.f44.body.getD .skip) Go.Proofs.Tryz.f44.results.toList [(Value.pointer p1)] h K = sector_Disk_Flush tau p1 h fun n2 h => K (Value.int .i64 n2) h := by delta sector_Disk_Flush; generalize sector_Disk_made tau = f101; generalize sector_Disk_sector tau = f105; generalize sector_Disk_fails tau = f108; revert f101 f105 f108; refine keep ?_; intro f101 f105 f108; kernel_rfl
abbrev T74 := Sl → Int → Int → Mem → (Sl → Mem → Prop) → Prop
def c74 (f : T74) : CallP := fun vs h K => match vs with
  | [.slice s1b s1l s1c, .int .i64 n2, .int .i64 n3] => f ⟨s1b, s1l, s1c⟩ n2 n3 h fun s4 h => K (Value.slice s4.base s4.len s4.cap) h
  | _ => False
def cs74 : Calls' := callsT []
def dcs74 : Calls' := callsT []
def hn74 : Hints := ⟨[], [(5, [0, 0, 3, 0, 0, 24, 63, 127])], []⟩
theorem d74 (s1 : Sl) (n2 : Int) (n3 : Int) (h : Mem) (K : Value → Mem → Prop) : denF tys (cs74) (dcs74) hn74 (Go.Proofs.Tryz.f74.body.getD .skip) Go.Proofs.Tryz.f74.results.toList [(Value.slice s1.base s1.len s1.cap), (Value.int .i64 n2), (Value.int .i64 n3)] h K = slices_Delete_int_int tau s1 n2 n3 h fun s4 h => K (Value.slice s4.base s4.len s4.cap) h := by delta slices_Delete_int_int; kernel_rfl
abbrev T75 := Sl → Mem → (Sl → Mem → Prop) → Prop
def c75 (f : T75) : CallP := fun vs h K => match vs with
  | [.slice s1b s1l s1c] => f ⟨s1b, s1l, s1c⟩ h fun s2 h => K (Value.slice s2.base s2.len s2.cap) h
  | _ => False
def cs75 : Calls' := callsT []
def dcs75 : Calls' := callsT []
def hn75 : Hints := ⟨[], [], []⟩
theorem d75 (s1 : Sl) (h : Mem) (K : Value → Mem → Prop) : denF tys (cs75) (dcs75) hn75 (Go.Proofs.Tryz.f75.body.getD .skip) Go.Proofs.Tryz.f75.results.toList [(Value.slice s1.base s1.len s1.cap)] h K = slices_Clone_int_int tau s1 h fun s2 h => K (Value.slice s2.base s2.len s2.cap) h := by delta slices_Clone_int_int; kernel_rfl
abbrev T159 := Sl → Int → Mem → (Sl → Mem → Prop) → Prop
def c159 (f : T159) : CallP := fun vs h K => match vs with
  | [.slice s1b s1l s1c, .int .i64 n2] => f ⟨s1b, s1l, s1c⟩ n2 h fun s3 h => K (Value.slice s3.base s3.len s3.cap) h
  | _ => False
def cs159 : Calls' := callsT []
def dcs159 : Calls' := callsT []
def hn159 : Hints := ⟨[], [], []⟩
theorem d159 (s1 : Sl) (n2 : Int) (h : Mem) (K : Value → Mem → Prop) : denF tys (cs159) (dcs159) hn159 (Go.Proofs.Tryz.f159.body.getD .skip) Go.Proofs.Tryz.f159.results.toList [(Value.slice s1.base s1.len s1.cap), (Value.int .i64 n2)] h K = slices_Grow_int_int tau s1 n2 h fun s3 h => K (Value.slice s3.base s3.len s3.cap) h := by delta slices_Grow_int_int; kernel_rfl
abbrev T84 := Sl → Mem → (Sl → Mem → Prop) → Prop
def c84 (f : T84) : CallP := fun vs h K => match vs with
  | [.slice s1b s1l s1c] => f ⟨s1b, s1l, s1c⟩ h fun s2 h => K (Value.slice s2.base s2.len s2.cap) h
  | _ => False
def cs84 (f159 : T159) : Calls' := callsT [(159, c159 f159)]
def dcs84 : Calls' := callsT []
def hn84 : Hints := ⟨[(3, [(3, .int .i64), (11, .int .i64)]), (11, [(6, .sl), (27, .int .i64)])], [], []⟩
theorem d84 (s1 : Sl) (h : Mem) (K : Value → Mem → Prop) : denF tys (cs84 (slices_Grow_int_int tau)) (dcs84) hn84 (Go.Proofs.Tryz.f84.body.getD .skip) Go.Proofs.Tryz.f84.results.toList [(Value.slice s1.base s1.len s1.cap)] h K = slices_Concat_int_int tau s1 h fun s2 h => K (Value.slice s2.base s2.len s2.cap) h := by delta slices_Concat_int_int; generalize slices_Grow_int_int tau = f159; revert f159; refine keep ?_; intro f159; kernel_rfl
abbrev T107 := Sl → Mem → (Sl → Mem → Prop) → Prop
def c107 (f : T107) : CallP := fun vs h K => match vs with
  | [.slice s1b s1l s1c] => f ⟨s1b, s1l, s1c⟩ h fun s2 h => K (Value.slice s2.base s2.len s2.cap) h
  | _ => False
def cs107 : Calls' := callsT []
def dcs107 : Calls' := callsT []
def hn107 : Hints := ⟨[], [], []⟩
theorem d107 (s1 : Sl) (h : Mem) (K : Value → Mem → Prop) : denF tys (cs107) (dcs107) hn107 (Go.Proofs.Tryz.f107.body.getD .skip) Go.Proofs.Tryz.f107.results.toList [(Value.slice s1.base s1.len s1.cap)] h K = slices_Clone_byte_byte tau s1 h fun s2 h => K (Value.slice s2.base s2.len s2.cap) h := by delta slices_Clone_byte_byte; kernel_rfl
abbrev T140 := Option Addr → Mem → (Int → Mem → Prop) → Prop
def c140 (f : T140) : CallP := fun vs h K => match vs with
  | [.pointer p1] => f p1 h fun n2 h => K (Value.int .i64 n2) h
  | _ => False
def cs140 (f101 : T101) : Calls' := callsT [(101, c101 f101)]
def dcs140 : Calls' := callsT []
def hn140 : Hints := ⟨[], [], []⟩
theorem d140 (p1 : Option Addr) (h : Mem) (K : Value → Mem → Prop) : denF tys (cs140 (sector_Disk_made tau)) (dcs140) hn140 (Go.Proofs.Tryz.f140.body.getD .skip) Go.Proofs.Tryz.f140.results.toList [(Value.pointer p1)] h K = sector_Disk_Sectors tau p1 h fun n2 h => K (Value.int .i64 n2) h := by delta sector_Disk_Sectors; generalize sector_Disk_made tau = f101; revert f101; refine keep ?_; intro f101; kernel_rfl
abbrev T243 := Sl → Int → Mem → (Sl → Mem → Prop) → Prop
def c243 (f : T243) : CallP := fun vs h K => match vs with
  | [.slice s1b s1l s1c, .int .i64 n2] => f ⟨s1b, s1l, s1c⟩ n2 h fun s3 h => K (Value.slice s3.base s3.len s3.cap) h
  | _ => False
def cs243 : Calls' := callsT []
def dcs243 : Calls' := callsT []
def hn243 : Hints := ⟨[], [], []⟩
theorem d243 (s1 : Sl) (n2 : Int) (h : Mem) (K : Value → Mem → Prop) : denF tys (cs243) (dcs243) hn243 (Go.Proofs.Tryz.f243.body.getD .skip) Go.Proofs.Tryz.f243.results.toList [(Value.slice s1.base s1.len s1.cap), (Value.int .i64 n2)] h K = slices_Grow_byte_byte tau s1 n2 h fun s3 h => K (Value.slice s3.base s3.len s3.cap) h := by delta slices_Grow_byte_byte; kernel_rfl
abbrev T208 := Sl → Mem → (Sl → Mem → Prop) → Prop
def c208 (f : T208) : CallP := fun vs h K => match vs with
  | [.slice s1b s1l s1c] => f ⟨s1b, s1l, s1c⟩ h fun s2 h => K (Value.slice s2.base s2.len s2.cap) h
  | _ => False
def cs208 (f243 : T243) : Calls' := callsT [(243, c243 f243)]
def dcs208 : Calls' := callsT []
def hn208 : Hints := ⟨[(3, [(3, .int .i64), (11, .int .i64)]), (11, [(6, .sl), (27, .int .i64)])], [], []⟩
theorem d208 (s1 : Sl) (h : Mem) (K : Value → Mem → Prop) : denF tys (cs208 (slices_Grow_byte_byte tau)) (dcs208) hn208 (Go.Proofs.Tryz.f208.body.getD .skip) Go.Proofs.Tryz.f208.results.toList [(Value.slice s1.base s1.len s1.cap)] h K = slices_Concat_byte_byte tau s1 h fun s2 h => K (Value.slice s2.base s2.len s2.cap) h := by delta slices_Concat_byte_byte; generalize slices_Grow_byte_byte tau = f243; revert f243; refine keep ?_; intro f243; kernel_rfl
abbrev T158 := Sl → Int → Int → Mem → (Sl → Mem → Prop) → Prop
def c158 (f : T158) : CallP := fun vs h K => match vs with
  | [.slice s1b s1l s1c, .int .u64 n2, .int .i64 n3] => f ⟨s1b, s1l, s1c⟩ n2 n3 h fun s4 h => K (Value.slice s4.base s4.len s4.cap) h
  | _ => False
def cs158 (f107 : T107) (f208 : T208) : Calls' := callsT [(107, c107 f107), (208, c208 f208)]
def dcs158 : Calls' := callsT []
def hn158 : Hints := ⟨[(8, [(1, .int .u64), (7, .sl), (16, .int .i64)])], [], []⟩
theorem d158 (s1 : Sl) (n2 : Int) (n3 : Int) (h : Mem) (K : Value → Mem → Prop) : denF tys (cs158 (slices_Clone_byte_byte tau) (slices_Concat_byte_byte tau)) (dcs158) hn158 (Go.Proofs.Tryz.f158.body.getD .skip) Go.Proofs.Tryz.f158.results.toList [(Value.slice s1.base s1.len s1.cap), (Value.int .u64 n2), (Value.int .i64 n3)] h K = octet_Word tau s1 n2 n3 h fun s4 h => K (Value.slice s4.base s4.len s4.cap) h := by delta octet_Word; generalize slices_Clone_byte_byte tau = f107; generalize slices_Concat_byte_byte tau = f208; revert f107 f208; refine keep ?_; intro f107 f208; kernel_rfl
abbrev T284 := Array Value → Int → Sl → Mem → (Int → Mem → Prop) → Prop
def c284 (f : T284) : CallP := fun vs h K => match vs with
  | [.agg c1, .int .u32 n2, .slice s3b s3l s3c] => f c1 n2 ⟨s3b, s3l, s3c⟩ h fun n4 h => K (Value.int .u32 n4) h
  | _ => False
def cs284 : Calls' := callsT []
def dcs284 : Calls' := callsT []
def hn284 : Hints := ⟨[(3, [(7, .int .u32), (14, .int .i64)])], [], []⟩
theorem d284 (c1 : Array Value) (n2 : Int) (s3 : Sl) (h : Mem) (K : Value → Mem → Prop) : denF tys (cs284) (dcs284) hn284 (Go.Proofs.Tryz.f284.body.getD .skip) Go.Proofs.Tryz.f284.results.toList [(Value.agg c1), (Value.int .u32 n2), (Value.slice s3.base s3.len s3.cap)] h K = crc_On tau c1 n2 s3 h fun n4 h => K (Value.int .u32 n4) h := by delta crc_On; kernel_rfl
abbrev T266 := Array Value → Sl → Mem → (Int → Mem → Prop) → Prop
def c266 (f : T266) : CallP := fun vs h K => match vs with
  | [.agg c1, .slice s2b s2l s2c] => f c1 ⟨s2b, s2l, s2c⟩ h fun n3 h => K (Value.int .u32 n3) h
  | _ => False
def cs266 (f284 : T284) : Calls' := callsT [(284, c284 f284)]
def dcs266 : Calls' := callsT []
def hn266 : Hints := ⟨[(2, [(4, .int .u32), (9, .int .i64)])], [], []⟩
theorem d266 (c1 : Array Value) (s2 : Sl) (h : Mem) (K : Value → Mem → Prop) : denF tys (cs266 (crc_On tau)) (dcs266) hn266 (Go.Proofs.Tryz.f266.body.getD .skip) Go.Proofs.Tryz.f266.results.toList [(Value.agg c1), (Value.slice s2.base s2.len s2.cap)] h K = crc_on tau c1 s2 h fun n3 h => K (Value.int .u32 n3) h := by delta crc_on; generalize crc_On tau = f284; revert f284; refine keep ?_; intro f284; kernel_rfl
abbrev T267 := Mem → (Array Value → Mem → Prop) → Prop
def c267 (f : T267) : CallP := fun vs h K => match vs with
  | [] => f  h fun c1 h => K (Value.agg c1) h
  | _ => False
def cs267 : Calls' := callsT []
def dcs267 : Calls' := callsT []
def hn267 : Hints := ⟨[(2, [(4, .int .i64)]), (6, [(2, .int .u32), (9, .int .i64)])], [], []⟩
theorem d267 (h : Mem) (K : Value → Mem → Prop) : denF tys (cs267) (dcs267) hn267 (Go.Proofs.Tryz.f267.body.getD .skip) Go.Proofs.Tryz.f267.results.toList [] h K = crc_Table tau  h fun c1 h => K (Value.agg c1) h := by delta crc_Table; kernel_rfl
abbrev T240 := Sl → Mem → (Int → Mem → Prop) → Prop
def c240 (f : T240) : CallP := fun vs h K => match vs with
  | [.slice s1b s1l s1c] => f ⟨s1b, s1l, s1c⟩ h fun n2 h => K (Value.int .u32 n2) h
  | _ => False
def cs240 (f266 : T266) (f267 : T267) : Calls' := callsT [(266, c266 f266), (267, c267 f267)]
def dcs240 : Calls' := callsT []
def hn240 : Hints := ⟨[], [], []⟩
theorem d240 (s1 : Sl) (h : Mem) (K : Value → Mem → Prop) : denF tys (cs240 (crc_on tau) (crc_Table tau)) (dcs240) hn240 (Go.Proofs.Tryz.f240.body.getD .skip) Go.Proofs.Tryz.f240.results.toList [(Value.slice s1.base s1.len s1.cap)] h K = crc_Parts tau s1 h fun n2 h => K (Value.int .u32 n2) h := by delta crc_Parts; generalize crc_on tau = f266; generalize crc_Table tau = f267; revert f266 f267; refine keep ?_; intro f266 f267; kernel_rfl
abbrev T202 := Sl → Mem → (Int → Mem → Prop) → Prop
def c202 (f : T202) : CallP := fun vs h K => match vs with
  | [.slice s1b s1l s1c] => f ⟨s1b, s1l, s1c⟩ h fun n2 h => K (Value.int .u32 n2) h
  | _ => False
def cs202 (f240 : T240) : Calls' := callsT [(240, c240 f240)]
def dcs202 : Calls' := callsT []
def hn202 : Hints := ⟨[], [(1, [0, 1, 0, 0, 8, 31, 63, 127])], []⟩
theorem d202 (s1 : Sl) (h : Mem) (K : Value → Mem → Prop) : denF tys (cs202 (crc_Parts tau)) (dcs202) hn202 (Go.Proofs.Tryz.f202.body.getD .skip) Go.Proofs.Tryz.f202.results.toList [(Value.slice s1.base s1.len s1.cap)] h K = page_crcOf tau s1 h fun n2 h => K (Value.int .u32 n2) h := by delta page_crcOf; generalize crc_Parts tau = f240; revert f240; refine keep ?_; intro f240; kernel_rfl
abbrev T146 := Int → Int → Sl → Mem → (Sl → Int → Mem → Prop) → Prop
def c146 (f : T146) : CallP := fun vs h K => match vs with
  | [.agg ⟨[.int .i64 n1, .int .u32 n2, .slice s3b s3l s3c]⟩] => f n1 n2 ⟨s3b, s3l, s3c⟩ h fun s4 n5 h => K (Value.tuple #[(Value.slice s4.base s4.len s4.cap), (Value.int .i64 n5)]) h
  | _ => False
def cs146 (f158 : T158) (f202 : T202) : Calls' := callsT [(158, c158 f158), (202, c202 f202)]
def dcs146 : Calls' := callsT []
def hn146 : Hints := ⟨[], [(6, [0, 1, 0, 4, 15]), (7, [0, 1, 0, 4, 12, 28, 63])], []⟩
theorem d146 (n1 : Int) (n2 : Int) (s3 : Sl) (h : Mem) (K : Value → Mem → Prop) : denF tys (cs146 (octet_Word tau) (page_crcOf tau)) (dcs146) hn146 (Go.Proofs.Tryz.f146.body.getD .skip) Go.Proofs.Tryz.f146.results.toList [(Value.agg #[(Value.int .i64 n1), (Value.int .u32 n2), (Value.slice s3.base s3.len s3.cap)])] h K = page_Bytes tau n1 n2 s3 h fun s4 n5 h => K (Value.tuple #[(Value.slice s4.base s4.len s4.cap), (Value.int .i64 n5)]) h := by delta page_Bytes; generalize octet_Word tau = f158; generalize page_crcOf tau = f202; revert f158 f202; refine keep ?_; intro f158 f202; kernel_rfl
abbrev T205 := Sl → Sl → Mem → (Bool → Mem → Prop) → Prop
def c205 (f : T205) : CallP := fun vs h K => match vs with
  | [.slice s1b s1l s1c, .slice s2b s2l s2c] => f ⟨s1b, s1l, s1c⟩ ⟨s2b, s2l, s2c⟩ h fun b3 h => K (Value.bool b3) h
  | _ => False
abbrev T268 := Sl → Mem → (Mem → Prop) → Prop
def c268 (f : T268) : CallP := fun vs h K => match vs with
  | [.slice s1b s1l s1c] => f ⟨s1b, s1l, s1c⟩ h fun  h => K (Value.tuple #[]) h
  | _ => False
def cs268 : Calls' := callsT []
def dcs268 : Calls' := callsT []
def hn268 : Hints := ⟨[(1, [(2, .int .i64), (3, .int .i64)])], [(3, [0, 0, 0, 0, 0, 0, 48, 112, 0, 0, 768, 1792, 4083, 8179, 16383, 32767])], []⟩
theorem d268 (s1 : Sl) (h : Mem) (K : Value → Mem → Prop) : denF tys (cs268) (dcs268) hn268 (Go.Proofs.Tryz.f268.body.getD .skip) Go.Proofs.Tryz.f268.results.toList [(Value.slice s1.base s1.len s1.cap)] h K = slices_Reverse_int_int tau s1 h fun  h => K (Value.tuple #[]) h := by delta slices_Reverse_int_int; kernel_rfl
abbrev T242 := Sl → Int → Mem → (Mem → Prop) → Prop
def c242 (f : T242) : CallP := fun vs h K => match vs with
  | [.slice s1b s1l s1c, .int .i64 n2] => f ⟨s1b, s1l, s1c⟩ n2 h fun  h => K (Value.tuple #[]) h
  | _ => False
def cs242 (f268 : T268) : Calls' := callsT [(268, c268 f268)]
def dcs242 : Calls' := callsT []
def hn242 : Hints := ⟨[], [], []⟩
theorem d242 (s1 : Sl) (n2 : Int) (h : Mem) (K : Value → Mem → Prop) : denF tys (cs242 (slices_Reverse_int_int tau)) (dcs242) hn242 (Go.Proofs.Tryz.f242.body.getD .skip) Go.Proofs.Tryz.f242.results.toList [(Value.slice s1.base s1.len s1.cap), (Value.int .i64 n2)] h K = slices_rotateLeft_int tau s1 n2 h fun  h => K (Value.tuple #[]) h := by delta slices_rotateLeft_int; generalize slices_Reverse_int_int tau = f268; revert f268; refine keep ?_; intro f268; kernel_rfl
abbrev T206 := Sl → Int → Mem → (Mem → Prop) → Prop
def c206 (f : T206) : CallP := fun vs h K => match vs with
  | [.slice s1b s1l s1c, .int .i64 n2] => f ⟨s1b, s1l, s1c⟩ n2 h fun  h => K (Value.tuple #[]) h
  | _ => False
def cs206 (f242 : T242) : Calls' := callsT [(242, c242 f242)]
def dcs206 : Calls' := callsT []
def hn206 : Hints := ⟨[], [], []⟩
theorem d206 (s1 : Sl) (n2 : Int) (h : Mem) (K : Value → Mem → Prop) : denF tys (cs206 (slices_rotateLeft_int tau)) (dcs206) hn206 (Go.Proofs.Tryz.f206.body.getD .skip) Go.Proofs.Tryz.f206.results.toList [(Value.slice s1.base s1.len s1.cap), (Value.int .i64 n2)] h K = slices_rotateRight_int tau s1 n2 h fun  h => K (Value.tuple #[]) h := by delta slices_rotateRight_int; generalize slices_rotateLeft_int tau = f242; revert f242; refine keep ?_; intro f242; kernel_rfl
abbrev T149 := Sl → Int → Sl → Mem → (Sl → Mem → Prop) → Prop
def c149 (f : T149) : CallP := fun vs h K => match vs with
  | [.slice s1b s1l s1c, .int .i64 n2, .slice s3b s3l s3c] => f ⟨s1b, s1l, s1c⟩ n2 ⟨s3b, s3l, s3c⟩ h fun s4 h => K (Value.slice s4.base s4.len s4.cap) h
  | _ => False
def cs149 (f205 : T205) (f206 : T206) : Calls' := callsT [(205, c205 f205), (206, c206 f206)]
def dcs149 : Calls' := callsT []
def hn149 : Hints := ⟨[], [(11, [0, 0, 0, 6, 15, 0, 0, 96, 255]), (15, [0, 0, 0, 6, 15, 0, 0, 96, 255])], []⟩
theorem d149 (s1 : Sl) (n2 : Int) (s3 : Sl) (h : Mem) (K : Value → Mem → Prop) : denF tys (cs149 (slices_overlaps_int tau) (slices_rotateRight_int tau)) (dcs149) hn149 (Go.Proofs.Tryz.f149.body.getD .skip) Go.Proofs.Tryz.f149.results.toList [(Value.slice s1.base s1.len s1.cap), (Value.int .i64 n2), (Value.slice s3.base s3.len s3.cap)] h K = slices_Insert_int_int tau s1 n2 s3 h fun s4 h => K (Value.slice s4.base s4.len s4.cap) h := by delta slices_Insert_int_int; generalize slices_overlaps_int tau = f205; generalize slices_rotateRight_int tau = f206; revert f205 f206; refine keep ?_; intro f205 f206; kernel_rfl
abbrev T156 := Sl → Int → Mem → (Sl → Mem → Prop) → Prop
def c156 (f : T156) : CallP := fun vs h K => match vs with
  | [.slice s1b s1l s1c, .int .u64 n2] => f ⟨s1b, s1l, s1c⟩ n2 h fun s3 h => K (Value.slice s3.base s3.len s3.cap) h
  | _ => False
def cs156 (f107 : T107) : Calls' := callsT [(107, c107 f107)]
def dcs156 : Calls' := callsT []
def hn156 : Hints := ⟨[(2, [(0, .sl), (1, .int .u64)])], [], []⟩
theorem d156 (s1 : Sl) (n2 : Int) (h : Mem) (K : Value → Mem → Prop) : denF tys (cs156 (slices_Clone_byte_byte tau)) (dcs156) hn156 (Go.Proofs.Tryz.f156.body.getD .skip) Go.Proofs.Tryz.f156.results.toList [(Value.slice s1.base s1.len s1.cap), (Value.int .u64 n2)] h K = octet_Number tau s1 n2 h fun s3 h => K (Value.slice s3.base s3.len s3.cap) h := by delta octet_Number; generalize slices_Clone_byte_byte tau = f107; revert f107; refine keep ?_; intro f107; kernel_rfl
abbrev T172 := Sl → Mem → (Option Addr → Mem → Prop) → Prop
def c172 (f : T172) : CallP := fun vs h K => match vs with
  | [.slice s1b s1l s1c] => f ⟨s1b, s1l, s1c⟩ h fun p2 h => K (Value.pointer p2) h
  | _ => False
def cs172 (f107 : T107) : Calls' := callsT [(107, c107 f107)]
def dcs172 : Calls' := callsT []
def hn172 : Hints := ⟨[], [], []⟩
theorem d172 (s1 : Sl) (h : Mem) (K : Value → Mem → Prop) : denF tys (cs172 (slices_Clone_byte_byte tau)) (dcs172) hn172 (Go.Proofs.Tryz.f172.body.getD .skip) Go.Proofs.Tryz.f172.results.toList [(Value.slice s1.base s1.len s1.cap)] h K = octet_New tau s1 h fun p2 h => K (Value.pointer p2) h := by delta octet_New; generalize slices_Clone_byte_byte tau = f107; revert f107; refine keep ?_; intro f107; kernel_rfl
abbrev T251 := Option Addr → Mem → (Bool → Mem → Prop) → Prop
def c251 (f : T251) : CallP := fun vs h K => match vs with
  | [.pointer p1] => f p1 h fun b2 h => K (Value.bool b2) h
  | _ => False
def cs251 : Calls' := callsT []
def dcs251 : Calls' := callsT []
def hn251 : Hints := ⟨[], [], []⟩
theorem d251 (p1 : Option Addr) (h : Mem) (K : Value → Mem → Prop) : denF tys (cs251) (dcs251) hn251 (Go.Proofs.Tryz.f251.body.getD .skip) Go.Proofs.Tryz.f251.results.toList [(Value.pointer p1)] h K = octet_Reader_made tau p1 h fun b2 h => K (Value.bool b2) h := by delta octet_Reader_made; kernel_rfl
abbrev T224 := Option Addr → Mem → (Bool → Mem → Prop) → Prop
def c224 (f : T224) : CallP := fun vs h K => match vs with
  | [.pointer p1] => f p1 h fun b2 h => K (Value.bool b2) h
  | _ => False
def cs224 (f251 : T251) : Calls' := callsT [(251, c251 f251)]
def dcs224 : Calls' := callsT []
def hn224 : Hints := ⟨[], [], []⟩
theorem d224 (p1 : Option Addr) (h : Mem) (K : Value → Mem → Prop) : denF tys (cs224 (octet_Reader_made tau)) (dcs224) hn224 (Go.Proofs.Tryz.f224.body.getD .skip) Go.Proofs.Tryz.f224.results.toList [(Value.pointer p1)] h K = octet_Reader_ready tau p1 h fun b2 h => K (Value.bool b2) h := by delta octet_Reader_ready; generalize octet_Reader_made tau = f251; revert f251; refine keep ?_; intro f251; kernel_rfl
abbrev T225 := Option Addr → Int → Mem → (Mem → Prop) → Prop
def c225 (f : T225) : CallP := fun vs h K => match vs with
  | [.pointer p1, .int .i64 n2] => f p1 n2 h fun  h => K (Value.tuple #[]) h
  | _ => False
def cs225 : Calls' := callsT []
def dcs225 : Calls' := callsT []
def hn225 : Hints := ⟨[], [], []⟩
theorem d225 (p1 : Option Addr) (n2 : Int) (h : Mem) (K : Value → Mem → Prop) : denF tys (cs225) (dcs225) hn225 (Go.Proofs.Tryz.f225.body.getD .skip) Go.Proofs.Tryz.f225.results.toList [(Value.pointer p1), (Value.int .i64 n2)] h K = octet_Reader_fail tau p1 n2 h fun  h => K (Value.tuple #[]) h := by delta octet_Reader_fail; kernel_rfl
abbrev T221 := Option Addr → Int → Mem → (Sl → Mem → Prop) → Prop
def c221 (f : T221) : CallP := fun vs h K => match vs with
  | [.pointer p1, .int .i64 n2] => f p1 n2 h fun s3 h => K (Value.slice s3.base s3.len s3.cap) h
  | _ => False
def cs221 (f224 : T224) (f225 : T225) : Calls' := callsT [(224, c224 f224), (225, c225 f225)]
def dcs221 : Calls' := callsT []
def hn221 : Hints := ⟨[], [(4, [0, 0, 2, 6, 14, 30, 0, 64, 192, 448, 1022, 2047]), (7, [0, 0, 2, 6, 14, 0, 32, 96, 224, 0, 512, 1536, 3584, 0, 15872, 32766, 65535, 131071])], []⟩
theorem d221 (p1 : Option Addr) (n2 : Int) (h : Mem) (K : Value → Mem → Prop) : denF tys (cs221 (octet_Reader_ready tau) (octet_Reader_fail tau)) (dcs221) hn221 (Go.Proofs.Tryz.f221.body.getD .skip) Go.Proofs.Tryz.f221.results.toList [(Value.pointer p1), (Value.int .i64 n2)] h K = octet_Reader_Fixed tau p1 n2 h fun s3 h => K (Value.slice s3.base s3.len s3.cap) h := by delta octet_Reader_Fixed; generalize octet_Reader_ready tau = f224; generalize octet_Reader_fail tau = f225; revert f224 f225; refine keep ?_; intro f224 f225; kernel_rfl
abbrev T173 := Option Addr → Int → Mem → (Int → Mem → Prop) → Prop
def c173 (f : T173) : CallP := fun vs h K => match vs with
  | [.pointer p1, .int .i64 n2] => f p1 n2 h fun n3 h => K (Value.int .u64 n3) h
  | _ => False
def cs173 (f221 : T221) (f224 : T224) (f225 : T225) : Calls' := callsT [(221, c221 f221), (224, c224 f224), (225, c225 f225)]
def dcs173 : Calls' := callsT []
def hn173 : Hints := ⟨[(11, [(5, .int .u64), (22, .int .i64)])], [], []⟩
theorem d173 (p1 : Option Addr) (n2 : Int) (h : Mem) (K : Value → Mem → Prop) : denF tys (cs173 (octet_Reader_Fixed tau) (octet_Reader_ready tau) (octet_Reader_fail tau)) (dcs173) hn173 (Go.Proofs.Tryz.f173.body.getD .skip) Go.Proofs.Tryz.f173.results.toList [(Value.pointer p1), (Value.int .i64 n2)] h K = octet_Reader_Word tau p1 n2 h fun n3 h => K (Value.int .u64 n3) h := by delta octet_Reader_Word; generalize octet_Reader_Fixed tau = f221; generalize octet_Reader_ready tau = f224; generalize octet_Reader_fail tau = f225; revert f221 f224 f225; refine keep ?_; intro f221 f224 f225; kernel_rfl
abbrev T270 := Sl → Int → Mem → (Sl → Mem → Prop) → Prop
def c270 (f : T270) : CallP := fun vs h K => match vs with
  | [.slice s1b s1l s1c, .int .u8 n2] => f ⟨s1b, s1l, s1c⟩ n2 h fun s3 h => K (Value.slice s3.base s3.len s3.cap) h
  | _ => False
def cs270 : Calls' := callsT []
def dcs270 : Calls' := callsT []
def hn270 : Hints := ⟨[(1, [(0, .sl)])], [], []⟩
theorem d270 (s1 : Sl) (n2 : Int) (h : Mem) (K : Value → Mem → Prop) : denF tys (cs270) (dcs270) hn270 (Go.Proofs.Tryz.f270.body.getD .skip) Go.Proofs.Tryz.f270.results.toList [(Value.slice s1.base s1.len s1.cap), (Value.int .u8 n2)] h K = bytes_trimRightByte tau s1 n2 h fun s3 h => K (Value.slice s3.base s3.len s3.cap) h := by delta bytes_trimRightByte; kernel_rfl
end Go.TS.Tryz
/- The types of the seat. -/
namespace Go.TS.Tryz
open Go Go.TS
set_option linter.unusedVariables false
set_option maxRecDepth 100000
theorem hm : Go.Proofs.Tryz.prog.follows .mixedOrders = true := by kernel_rfl
theorem ty3 : TyOk Go.Proofs.Tryz.prog 3 ⟨.int .i64, (Value.int .i64 0), 1, 8, .leaf (.int .i64)⟩ := ⟨Go.Proofs.Tryz.underlying3, by kernel_rfl, by kernel_rfl, trivial⟩
theorem ty4 : TyOk Go.Proofs.Tryz.prog 4 ⟨.bool, (Value.bool false), 1, 1, .leaf (.bool)⟩ := ⟨Go.Proofs.Tryz.underlying4, by kernel_rfl, by kernel_rfl, trivial⟩
theorem ty5 : TyOk Go.Proofs.Tryz.prog 5 ⟨.int .u8, (Value.int .u8 0), 1, 1, .leaf (.int .u8)⟩ := ⟨Go.Proofs.Tryz.underlying5, by kernel_rfl, by kernel_rfl, trivial⟩
theorem ty26 : TyOk Go.Proofs.Tryz.prog 26 ⟨.pointer 128, (Value.pointer none), 1, 8, .leaf (.ptr)⟩ := ⟨Go.Proofs.Tryz.underlying26, by kernel_rfl, by kernel_rfl, trivial⟩
theorem ty27 : TyOk Go.Proofs.Tryz.prog 27 ⟨.int .i64, (Value.int .i64 0), 1, 8, .leaf (.int .i64)⟩ := ⟨Go.Proofs.Tryz.underlying27, by kernel_rfl, by kernel_rfl, trivial⟩
theorem ty40 : TyOk Go.Proofs.Tryz.prog 40 ⟨.slice 5, (Value.slice none 0 0), 1, 24, .leaf (.sl)⟩ := ⟨Go.Proofs.Tryz.underlying40, by kernel_rfl, by kernel_rfl, trivial⟩
theorem ty45 : TyOk Go.Proofs.Tryz.prog 45 ⟨.int .u64, (Value.int .u64 0), 1, 8, .leaf (.int .u64)⟩ := ⟨Go.Proofs.Tryz.underlying45, by kernel_rfl, by kernel_rfl, trivial⟩
theorem ty51 : TyOk Go.Proofs.Tryz.prog 51 ⟨.slice 3, (Value.slice none 0 0), 1, 24, .leaf (.sl)⟩ := ⟨Go.Proofs.Tryz.underlying51, by kernel_rfl, by kernel_rfl, trivial⟩
theorem ty65 : TyOk Go.Proofs.Tryz.prog 65 ⟨.int .u32, (Value.int .u32 0), 1, 4, .leaf (.int .u32)⟩ := ⟨Go.Proofs.Tryz.underlying65, by kernel_rfl, by kernel_rfl, trivial⟩
theorem ty67 : TyOk Go.Proofs.Tryz.prog 67 ⟨.struct #[⟨ "Kind", 3, 0, false, "", "", 0⟩, ⟨ "Number", 65, 1, false, "", "", 8⟩, ⟨ "Body", 40, 2, false, "", "", 16⟩], (Value.agg #[(Value.int .i64 0), (Value.int .u32 0), (Value.slice none 0 0)]), 3, 40, .agg [.int .i64, .int .u32, .sl]⟩ := ⟨Go.Proofs.Tryz.underlying67, by kernel_rfl, by kernel_rfl, ⟨by kernel_rfl, by kernel_rfl⟩⟩
theorem ty71 : TyOk Go.Proofs.Tryz.prog 71 ⟨.map 3 40, (Value.map none), 1, 8, .leaf (.map)⟩ := ⟨Go.Proofs.Tryz.underlying71, by kernel_rfl, by kernel_rfl, trivial⟩
theorem ty126 : TyOk Go.Proofs.Tryz.prog 126 ⟨.pointer 3, (Value.pointer none), 1, 8, .leaf (.ptr)⟩ := ⟨Go.Proofs.Tryz.underlying126, by kernel_rfl, by kernel_rfl, trivial⟩
theorem ty128 : TyOk Go.Proofs.Tryz.prog 128 ⟨.struct #[⟨ "b", 40, 0, false, "", "tallyman/sector", 0⟩, ⟨ "cache", 71, 1, false, "", "tallyman/sector", 24⟩, ⟨ "order", 51, 2, false, "", "tallyman/sector", 32⟩, ⟨ "left", 126, 3, false, "", "tallyman/sector", 56⟩], (Value.agg #[(Value.slice none 0 0), (Value.map none), (Value.slice none 0 0), (Value.pointer none)]), 4, 64, .agg [.sl, .map, .sl, .ptr]⟩ := ⟨Go.Proofs.Tryz.underlying128, by kernel_rfl, by kernel_rfl, ⟨by kernel_rfl, by kernel_rfl⟩⟩
theorem ty131 : TyOk Go.Proofs.Tryz.prog 131 ⟨.slice 40, (Value.slice none 0 0), 1, 24, .leaf (.sl)⟩ := ⟨Go.Proofs.Tryz.underlying131, by kernel_rfl, by kernel_rfl, trivial⟩
theorem ty166 : TyOk Go.Proofs.Tryz.prog 166 ⟨.slice 51, (Value.slice none 0 0), 1, 24, .leaf (.sl)⟩ := ⟨Go.Proofs.Tryz.underlying166, by kernel_rfl, by kernel_rfl, trivial⟩
theorem ty186 : TyOk Go.Proofs.Tryz.prog 186 ⟨.pointer 231, (Value.pointer none), 1, 8, .leaf (.ptr)⟩ := ⟨Go.Proofs.Tryz.underlying186, by kernel_rfl, by kernel_rfl, trivial⟩
theorem ty231 : TyOk Go.Proofs.Tryz.prog 231 ⟨.struct #[⟨ "b", 40, 0, false, "", "tallyman/octet", 0⟩, ⟨ "at", 3, 1, false, "", "tallyman/octet", 24⟩, ⟨ "err", 27, 2, false, "", "tallyman/octet", 32⟩, ⟨ "is", 4, 3, false, "", "tallyman/octet", 40⟩], (Value.agg #[(Value.slice none 0 0), (Value.int .i64 0), (Value.int .i64 0), (Value.bool false)]), 4, 48, .agg [.sl, .int .i64, .int .i64, .bool]⟩ := ⟨Go.Proofs.Tryz.underlying231, by kernel_rfl, by kernel_rfl, ⟨by kernel_rfl, by kernel_rfl⟩⟩
theorem ty260 : TyOk Go.Proofs.Tryz.prog 260 ⟨.array 256 65, (Value.agg (Array.replicate 256 (Value.int .u32 0))), 256, 1024, .arr 256⟩ := ⟨Go.Proofs.Tryz.underlying260, by kernel_rfl, by kernel_rfl, trivial⟩
theorem tysOk : TysOk Go.Proofs.Tryz.prog tys := tysOk_of (.cons ty3 (.cons ty4 (.cons ty5 (.cons ty26 (.cons ty27 (.cons ty40 (.cons ty45 (.cons ty51 (.cons ty65 (.cons ty67 (.cons ty71 (.cons ty126 (.cons ty128 (.cons ty131 (.cons ty166 (.cons ty186 (.cons ty231 (.cons ty260 (.nil)))))))))))))))))))
end Go.TS.Tryz
/- What the printer does not print. -/
namespace Go.TS.Tryz
open Go Go.TS
set_option linter.unusedVariables false
set_option maxRecDepth 100000
theorem s205 : SoundX Go.Proofs.Tryz.prog 205 (c205 (slices_overlaps_int tau)) := ⟨fun vs w K h => by
  simp only [c205] at h
  split at h
  · rename_i s1b s1l s1c s2b s2l s2c; exact overlaps_gives (tR := 0) (s1 := ⟨s1b, s1l, s1c⟩) (s2 := ⟨s2b, s2l, s2c⟩) Go.Proofs.Tryz.func205 (by kernel_rfl) (by kernel_rfl) (by kernel_rfl) (by kernel_rfl) Go.Proofs.Tryz.underlying51 Go.Proofs.Tryz.sizeOf3 h
  · exact h.elim⟩
end Go.TS.Tryz
/- Each function does what it asks. -/
namespace Go.TS.Tryz
open Go Go.TS
set_option linter.unusedVariables false
set_option maxRecDepth 100000
theorem ok101 : codeOk hn101 Go.Proofs.Tryz.f101.ntmps (Go.Proofs.Tryz.f101.body.getD .skip) = true := by kernel_rfl
theorem s101 : Sound Go.Proofs.Tryz.prog 101 (c101 (sector_Disk_made tau)) := by
  refine ⟨Go.Proofs.Tryz.call101, fun vs w K h => ?_⟩
  simp only [c101] at h
  split at h
  · rename_i p1; exact denF_calls hm tysOk (callsOk_of (.nil)) (defsOk_of (.nil)) Go.Proofs.Tryz.func101 (by kernel_rfl) ok101 (Nat.le_of_ble_eq_true (by kernel_rfl)) ((d101 p1 _ _).mpr h)
  · exact h.elim
theorem ok105 : codeOk hn105 Go.Proofs.Tryz.f105.ntmps (Go.Proofs.Tryz.f105.body.getD .skip) = true := by kernel_rfl
theorem s105 : Sound Go.Proofs.Tryz.prog 105 (c105 (sector_Disk_sector tau)) := by
  refine ⟨Go.Proofs.Tryz.call105, fun vs w K h => ?_⟩
  simp only [c105] at h
  split at h
  · rename_i p1 n2; exact denF_calls hm tysOk (callsOk_of (.nil)) (defsOk_of (.nil)) Go.Proofs.Tryz.func105 (by kernel_rfl) ok105 (Nat.le_of_ble_eq_true (by kernel_rfl)) ((d105 p1 n2 _ _).mpr h)
  · exact h.elim
theorem ok108 : codeOk hn108 Go.Proofs.Tryz.f108.ntmps (Go.Proofs.Tryz.f108.body.getD .skip) = true := by kernel_rfl
theorem s108 : Sound Go.Proofs.Tryz.prog 108 (c108 (sector_Disk_fails tau)) := by
  refine ⟨Go.Proofs.Tryz.call108, fun vs w K h => ?_⟩
  simp only [c108] at h
  split at h
  · rename_i p1; exact denF_calls hm tysOk (callsOk_of (.nil)) (defsOk_of (.nil)) Go.Proofs.Tryz.func108 (by kernel_rfl) ok108 (Nat.le_of_ble_eq_true (by kernel_rfl)) ((d108 p1 _ _).mpr h)
  · exact h.elim
theorem ok44 : codeOk hn44 Go.Proofs.Tryz.f44.ntmps (Go.Proofs.Tryz.f44.body.getD .skip) = true := by kernel_rfl
theorem s44 : Sound Go.Proofs.Tryz.prog 44 (c44 (sector_Disk_Flush tau)) := by
  refine ⟨Go.Proofs.Tryz.call44, fun vs w K h => ?_⟩
  simp only [c44] at h
  split at h
  · rename_i p1; exact denF_calls hm tysOk (callsOk_of (.cons s101 (.cons s105 (.cons s108 (.nil))))) (defsOk_of (.nil)) Go.Proofs.Tryz.func44 (by kernel_rfl) ok44 (Nat.le_of_ble_eq_true (by kernel_rfl)) ((d44 p1 _ _).mpr h)
  · exact h.elim
theorem ok74 : codeOk hn74 Go.Proofs.Tryz.f74.ntmps (Go.Proofs.Tryz.f74.body.getD .skip) = true := by kernel_rfl
theorem s74 : Sound Go.Proofs.Tryz.prog 74 (c74 (slices_Delete_int_int tau)) := by
  refine ⟨Go.Proofs.Tryz.call74, fun vs w K h => ?_⟩
  simp only [c74] at h
  split at h
  · rename_i s1b s1l s1c n2 n3; exact denF_calls hm tysOk (callsOk_of (.nil)) (defsOk_of (.nil)) Go.Proofs.Tryz.func74 (by kernel_rfl) ok74 (Nat.le_of_ble_eq_true (by kernel_rfl)) ((d74 (⟨s1b, s1l, s1c⟩) n2 n3 _ _).mpr h)
  · exact h.elim
theorem ok75 : codeOk hn75 Go.Proofs.Tryz.f75.ntmps (Go.Proofs.Tryz.f75.body.getD .skip) = true := by kernel_rfl
theorem s75 : Sound Go.Proofs.Tryz.prog 75 (c75 (slices_Clone_int_int tau)) := by
  refine ⟨Go.Proofs.Tryz.call75, fun vs w K h => ?_⟩
  simp only [c75] at h
  split at h
  · rename_i s1b s1l s1c; exact denF_calls hm tysOk (callsOk_of (.nil)) (defsOk_of (.nil)) Go.Proofs.Tryz.func75 (by kernel_rfl) ok75 (Nat.le_of_ble_eq_true (by kernel_rfl)) ((d75 (⟨s1b, s1l, s1c⟩) _ _).mpr h)
  · exact h.elim
theorem ok159 : codeOk hn159 Go.Proofs.Tryz.f159.ntmps (Go.Proofs.Tryz.f159.body.getD .skip) = true := by kernel_rfl
theorem s159 : Sound Go.Proofs.Tryz.prog 159 (c159 (slices_Grow_int_int tau)) := by
  refine ⟨Go.Proofs.Tryz.call159, fun vs w K h => ?_⟩
  simp only [c159] at h
  split at h
  · rename_i s1b s1l s1c n2; exact denF_calls hm tysOk (callsOk_of (.nil)) (defsOk_of (.nil)) Go.Proofs.Tryz.func159 (by kernel_rfl) ok159 (Nat.le_of_ble_eq_true (by kernel_rfl)) ((d159 (⟨s1b, s1l, s1c⟩) n2 _ _).mpr h)
  · exact h.elim
theorem ok84 : codeOk hn84 Go.Proofs.Tryz.f84.ntmps (Go.Proofs.Tryz.f84.body.getD .skip) = true := by kernel_rfl
theorem s84 : Sound Go.Proofs.Tryz.prog 84 (c84 (slices_Concat_int_int tau)) := by
  refine ⟨Go.Proofs.Tryz.call84, fun vs w K h => ?_⟩
  simp only [c84] at h
  split at h
  · rename_i s1b s1l s1c; exact denF_calls hm tysOk (callsOk_of (.cons s159 (.nil))) (defsOk_of (.nil)) Go.Proofs.Tryz.func84 (by kernel_rfl) ok84 (Nat.le_of_ble_eq_true (by kernel_rfl)) ((d84 (⟨s1b, s1l, s1c⟩) _ _).mpr h)
  · exact h.elim
theorem ok107 : codeOk hn107 Go.Proofs.Tryz.f107.ntmps (Go.Proofs.Tryz.f107.body.getD .skip) = true := by kernel_rfl
theorem s107 : Sound Go.Proofs.Tryz.prog 107 (c107 (slices_Clone_byte_byte tau)) := by
  refine ⟨Go.Proofs.Tryz.call107, fun vs w K h => ?_⟩
  simp only [c107] at h
  split at h
  · rename_i s1b s1l s1c; exact denF_calls hm tysOk (callsOk_of (.nil)) (defsOk_of (.nil)) Go.Proofs.Tryz.func107 (by kernel_rfl) ok107 (Nat.le_of_ble_eq_true (by kernel_rfl)) ((d107 (⟨s1b, s1l, s1c⟩) _ _).mpr h)
  · exact h.elim
theorem ok140 : codeOk hn140 Go.Proofs.Tryz.f140.ntmps (Go.Proofs.Tryz.f140.body.getD .skip) = true := by kernel_rfl
theorem s140 : Sound Go.Proofs.Tryz.prog 140 (c140 (sector_Disk_Sectors tau)) := by
  refine ⟨Go.Proofs.Tryz.call140, fun vs w K h => ?_⟩
  simp only [c140] at h
  split at h
  · rename_i p1; exact denF_calls hm tysOk (callsOk_of (.cons s101 (.nil))) (defsOk_of (.nil)) Go.Proofs.Tryz.func140 (by kernel_rfl) ok140 (Nat.le_of_ble_eq_true (by kernel_rfl)) ((d140 p1 _ _).mpr h)
  · exact h.elim
theorem ok243 : codeOk hn243 Go.Proofs.Tryz.f243.ntmps (Go.Proofs.Tryz.f243.body.getD .skip) = true := by kernel_rfl
theorem s243 : Sound Go.Proofs.Tryz.prog 243 (c243 (slices_Grow_byte_byte tau)) := by
  refine ⟨Go.Proofs.Tryz.call243, fun vs w K h => ?_⟩
  simp only [c243] at h
  split at h
  · rename_i s1b s1l s1c n2; exact denF_calls hm tysOk (callsOk_of (.nil)) (defsOk_of (.nil)) Go.Proofs.Tryz.func243 (by kernel_rfl) ok243 (Nat.le_of_ble_eq_true (by kernel_rfl)) ((d243 (⟨s1b, s1l, s1c⟩) n2 _ _).mpr h)
  · exact h.elim
theorem ok208 : codeOk hn208 Go.Proofs.Tryz.f208.ntmps (Go.Proofs.Tryz.f208.body.getD .skip) = true := by kernel_rfl
theorem s208 : Sound Go.Proofs.Tryz.prog 208 (c208 (slices_Concat_byte_byte tau)) := by
  refine ⟨Go.Proofs.Tryz.call208, fun vs w K h => ?_⟩
  simp only [c208] at h
  split at h
  · rename_i s1b s1l s1c; exact denF_calls hm tysOk (callsOk_of (.cons s243 (.nil))) (defsOk_of (.nil)) Go.Proofs.Tryz.func208 (by kernel_rfl) ok208 (Nat.le_of_ble_eq_true (by kernel_rfl)) ((d208 (⟨s1b, s1l, s1c⟩) _ _).mpr h)
  · exact h.elim
theorem ok158 : codeOk hn158 Go.Proofs.Tryz.f158.ntmps (Go.Proofs.Tryz.f158.body.getD .skip) = true := by kernel_rfl
theorem s158 : Sound Go.Proofs.Tryz.prog 158 (c158 (octet_Word tau)) := by
  refine ⟨Go.Proofs.Tryz.call158, fun vs w K h => ?_⟩
  simp only [c158] at h
  split at h
  · rename_i s1b s1l s1c n2 n3; exact denF_calls hm tysOk (callsOk_of (.cons s107 (.cons s208 (.nil)))) (defsOk_of (.nil)) Go.Proofs.Tryz.func158 (by kernel_rfl) ok158 (Nat.le_of_ble_eq_true (by kernel_rfl)) ((d158 (⟨s1b, s1l, s1c⟩) n2 n3 _ _).mpr h)
  · exact h.elim
theorem ok284 : codeOk hn284 Go.Proofs.Tryz.f284.ntmps (Go.Proofs.Tryz.f284.body.getD .skip) = true := by kernel_rfl
theorem s284 : Sound Go.Proofs.Tryz.prog 284 (c284 (crc_On tau)) := by
  refine ⟨Go.Proofs.Tryz.call284, fun vs w K h => ?_⟩
  simp only [c284] at h
  split at h
  · rename_i c1 n2 s3b s3l s3c; exact denF_calls hm tysOk (callsOk_of (.nil)) (defsOk_of (.nil)) Go.Proofs.Tryz.func284 (by kernel_rfl) ok284 (Nat.le_of_ble_eq_true (by kernel_rfl)) ((d284 c1 n2 (⟨s3b, s3l, s3c⟩) _ _).mpr h)
  · exact h.elim
theorem ok266 : codeOk hn266 Go.Proofs.Tryz.f266.ntmps (Go.Proofs.Tryz.f266.body.getD .skip) = true := by kernel_rfl
theorem s266 : Sound Go.Proofs.Tryz.prog 266 (c266 (crc_on tau)) := by
  refine ⟨Go.Proofs.Tryz.call266, fun vs w K h => ?_⟩
  simp only [c266] at h
  split at h
  · rename_i c1 s2b s2l s2c; exact denF_calls hm tysOk (callsOk_of (.cons s284 (.nil))) (defsOk_of (.nil)) Go.Proofs.Tryz.func266 (by kernel_rfl) ok266 (Nat.le_of_ble_eq_true (by kernel_rfl)) ((d266 c1 (⟨s2b, s2l, s2c⟩) _ _).mpr h)
  · exact h.elim
theorem ok267 : codeOk hn267 Go.Proofs.Tryz.f267.ntmps (Go.Proofs.Tryz.f267.body.getD .skip) = true := by kernel_rfl
theorem s267 : Sound Go.Proofs.Tryz.prog 267 (c267 (crc_Table tau)) := by
  refine ⟨Go.Proofs.Tryz.call267, fun vs w K h => ?_⟩
  simp only [c267] at h
  split at h
  · exact denF_calls hm tysOk (callsOk_of (.nil)) (defsOk_of (.nil)) Go.Proofs.Tryz.func267 (by kernel_rfl) ok267 (Nat.le_of_ble_eq_true (by kernel_rfl)) ((d267  _ _).mpr h)
  · exact h.elim
theorem ok240 : codeOk hn240 Go.Proofs.Tryz.f240.ntmps (Go.Proofs.Tryz.f240.body.getD .skip) = true := by kernel_rfl
theorem s240 : Sound Go.Proofs.Tryz.prog 240 (c240 (crc_Parts tau)) := by
  refine ⟨Go.Proofs.Tryz.call240, fun vs w K h => ?_⟩
  simp only [c240] at h
  split at h
  · rename_i s1b s1l s1c; exact denF_calls hm tysOk (callsOk_of (.cons s266 (.cons s267 (.nil)))) (defsOk_of (.nil)) Go.Proofs.Tryz.func240 (by kernel_rfl) ok240 (Nat.le_of_ble_eq_true (by kernel_rfl)) ((d240 (⟨s1b, s1l, s1c⟩) _ _).mpr h)
  · exact h.elim
theorem ok202 : codeOk hn202 Go.Proofs.Tryz.f202.ntmps (Go.Proofs.Tryz.f202.body.getD .skip) = true := by kernel_rfl
theorem s202 : Sound Go.Proofs.Tryz.prog 202 (c202 (page_crcOf tau)) := by
  refine ⟨Go.Proofs.Tryz.call202, fun vs w K h => ?_⟩
  simp only [c202] at h
  split at h
  · rename_i s1b s1l s1c; exact denF_calls hm tysOk (callsOk_of (.cons s240 (.nil))) (defsOk_of (.nil)) Go.Proofs.Tryz.func202 (by kernel_rfl) ok202 (Nat.le_of_ble_eq_true (by kernel_rfl)) ((d202 (⟨s1b, s1l, s1c⟩) _ _).mpr h)
  · exact h.elim
theorem ok146 : codeOk hn146 Go.Proofs.Tryz.f146.ntmps (Go.Proofs.Tryz.f146.body.getD .skip) = true := by kernel_rfl
theorem s146 : Sound Go.Proofs.Tryz.prog 146 (c146 (page_Bytes tau)) := by
  refine ⟨Go.Proofs.Tryz.call146, fun vs w K h => ?_⟩
  simp only [c146] at h
  split at h
  · rename_i n1 n2 s3b s3l s3c; exact denF_calls hm tysOk (callsOk_of (.cons s158 (.cons s202 (.nil)))) (defsOk_of (.nil)) Go.Proofs.Tryz.func146 (by kernel_rfl) ok146 (Nat.le_of_ble_eq_true (by kernel_rfl)) ((d146 n1 n2 (⟨s3b, s3l, s3c⟩) _ _).mpr h)
  · exact h.elim
theorem ok268 : codeOk hn268 Go.Proofs.Tryz.f268.ntmps (Go.Proofs.Tryz.f268.body.getD .skip) = true := by kernel_rfl
theorem s268 : Sound Go.Proofs.Tryz.prog 268 (c268 (slices_Reverse_int_int tau)) := by
  refine ⟨Go.Proofs.Tryz.call268, fun vs w K h => ?_⟩
  simp only [c268] at h
  split at h
  · rename_i s1b s1l s1c; exact denF_calls hm tysOk (callsOk_of (.nil)) (defsOk_of (.nil)) Go.Proofs.Tryz.func268 (by kernel_rfl) ok268 (Nat.le_of_ble_eq_true (by kernel_rfl)) ((d268 (⟨s1b, s1l, s1c⟩) _ _).mpr h)
  · exact h.elim
theorem ok242 : codeOk hn242 Go.Proofs.Tryz.f242.ntmps (Go.Proofs.Tryz.f242.body.getD .skip) = true := by kernel_rfl
theorem s242 : Sound Go.Proofs.Tryz.prog 242 (c242 (slices_rotateLeft_int tau)) := by
  refine ⟨Go.Proofs.Tryz.call242, fun vs w K h => ?_⟩
  simp only [c242] at h
  split at h
  · rename_i s1b s1l s1c n2; exact denF_calls hm tysOk (callsOk_of (.cons s268 (.nil))) (defsOk_of (.nil)) Go.Proofs.Tryz.func242 (by kernel_rfl) ok242 (Nat.le_of_ble_eq_true (by kernel_rfl)) ((d242 (⟨s1b, s1l, s1c⟩) n2 _ _).mpr h)
  · exact h.elim
theorem ok206 : codeOk hn206 Go.Proofs.Tryz.f206.ntmps (Go.Proofs.Tryz.f206.body.getD .skip) = true := by kernel_rfl
theorem s206 : Sound Go.Proofs.Tryz.prog 206 (c206 (slices_rotateRight_int tau)) := by
  refine ⟨Go.Proofs.Tryz.call206, fun vs w K h => ?_⟩
  simp only [c206] at h
  split at h
  · rename_i s1b s1l s1c n2; exact denF_calls hm tysOk (callsOk_of (.cons s242 (.nil))) (defsOk_of (.nil)) Go.Proofs.Tryz.func206 (by kernel_rfl) ok206 (Nat.le_of_ble_eq_true (by kernel_rfl)) ((d206 (⟨s1b, s1l, s1c⟩) n2 _ _).mpr h)
  · exact h.elim
theorem ok149 : codeOk hn149 Go.Proofs.Tryz.f149.ntmps (Go.Proofs.Tryz.f149.body.getD .skip) = true := by kernel_rfl
theorem s149 : Sound Go.Proofs.Tryz.prog 149 (c149 (slices_Insert_int_int tau)) := by
  refine ⟨Go.Proofs.Tryz.call149, fun vs w K h => ?_⟩
  simp only [c149] at h
  split at h
  · rename_i s1b s1l s1c n2 s3b s3l s3c; exact denF_calls hm tysOk (callsOk_of (.consX s205 (.cons s206 (.nil)))) (defsOk_of (.nil)) Go.Proofs.Tryz.func149 (by kernel_rfl) ok149 (Nat.le_of_ble_eq_true (by kernel_rfl)) ((d149 (⟨s1b, s1l, s1c⟩) n2 (⟨s3b, s3l, s3c⟩) _ _).mpr h)
  · exact h.elim
theorem ok156 : codeOk hn156 Go.Proofs.Tryz.f156.ntmps (Go.Proofs.Tryz.f156.body.getD .skip) = true := by kernel_rfl
theorem s156 : Sound Go.Proofs.Tryz.prog 156 (c156 (octet_Number tau)) := by
  refine ⟨Go.Proofs.Tryz.call156, fun vs w K h => ?_⟩
  simp only [c156] at h
  split at h
  · rename_i s1b s1l s1c n2; exact denF_calls hm tysOk (callsOk_of (.cons s107 (.nil))) (defsOk_of (.nil)) Go.Proofs.Tryz.func156 (by kernel_rfl) ok156 (Nat.le_of_ble_eq_true (by kernel_rfl)) ((d156 (⟨s1b, s1l, s1c⟩) n2 _ _).mpr h)
  · exact h.elim
theorem ok172 : codeOk hn172 Go.Proofs.Tryz.f172.ntmps (Go.Proofs.Tryz.f172.body.getD .skip) = true := by kernel_rfl
theorem s172 : Sound Go.Proofs.Tryz.prog 172 (c172 (octet_New tau)) := by
  refine ⟨Go.Proofs.Tryz.call172, fun vs w K h => ?_⟩
  simp only [c172] at h
  split at h
  · rename_i s1b s1l s1c; exact denF_calls hm tysOk (callsOk_of (.cons s107 (.nil))) (defsOk_of (.nil)) Go.Proofs.Tryz.func172 (by kernel_rfl) ok172 (Nat.le_of_ble_eq_true (by kernel_rfl)) ((d172 (⟨s1b, s1l, s1c⟩) _ _).mpr h)
  · exact h.elim
theorem ok251 : codeOk hn251 Go.Proofs.Tryz.f251.ntmps (Go.Proofs.Tryz.f251.body.getD .skip) = true := by kernel_rfl
theorem s251 : Sound Go.Proofs.Tryz.prog 251 (c251 (octet_Reader_made tau)) := by
  refine ⟨Go.Proofs.Tryz.call251, fun vs w K h => ?_⟩
  simp only [c251] at h
  split at h
  · rename_i p1; exact denF_calls hm tysOk (callsOk_of (.nil)) (defsOk_of (.nil)) Go.Proofs.Tryz.func251 (by kernel_rfl) ok251 (Nat.le_of_ble_eq_true (by kernel_rfl)) ((d251 p1 _ _).mpr h)
  · exact h.elim
theorem ok224 : codeOk hn224 Go.Proofs.Tryz.f224.ntmps (Go.Proofs.Tryz.f224.body.getD .skip) = true := by kernel_rfl
theorem s224 : Sound Go.Proofs.Tryz.prog 224 (c224 (octet_Reader_ready tau)) := by
  refine ⟨Go.Proofs.Tryz.call224, fun vs w K h => ?_⟩
  simp only [c224] at h
  split at h
  · rename_i p1; exact denF_calls hm tysOk (callsOk_of (.cons s251 (.nil))) (defsOk_of (.nil)) Go.Proofs.Tryz.func224 (by kernel_rfl) ok224 (Nat.le_of_ble_eq_true (by kernel_rfl)) ((d224 p1 _ _).mpr h)
  · exact h.elim
theorem ok225 : codeOk hn225 Go.Proofs.Tryz.f225.ntmps (Go.Proofs.Tryz.f225.body.getD .skip) = true := by kernel_rfl
theorem s225 : Sound Go.Proofs.Tryz.prog 225 (c225 (octet_Reader_fail tau)) := by
  refine ⟨Go.Proofs.Tryz.call225, fun vs w K h => ?_⟩
  simp only [c225] at h
  split at h
  · rename_i p1 n2; exact denF_calls hm tysOk (callsOk_of (.nil)) (defsOk_of (.nil)) Go.Proofs.Tryz.func225 (by kernel_rfl) ok225 (Nat.le_of_ble_eq_true (by kernel_rfl)) ((d225 p1 n2 _ _).mpr h)
  · exact h.elim
theorem ok221 : codeOk hn221 Go.Proofs.Tryz.f221.ntmps (Go.Proofs.Tryz.f221.body.getD .skip) = true := by kernel_rfl
theorem s221 : Sound Go.Proofs.Tryz.prog 221 (c221 (octet_Reader_Fixed tau)) := by
  refine ⟨Go.Proofs.Tryz.call221, fun vs w K h => ?_⟩
  simp only [c221] at h
  split at h
  · rename_i p1 n2; exact denF_calls hm tysOk (callsOk_of (.cons s224 (.cons s225 (.nil)))) (defsOk_of (.nil)) Go.Proofs.Tryz.func221 (by kernel_rfl) ok221 (Nat.le_of_ble_eq_true (by kernel_rfl)) ((d221 p1 n2 _ _).mpr h)
  · exact h.elim
theorem ok173 : codeOk hn173 Go.Proofs.Tryz.f173.ntmps (Go.Proofs.Tryz.f173.body.getD .skip) = true := by kernel_rfl
theorem s173 : Sound Go.Proofs.Tryz.prog 173 (c173 (octet_Reader_Word tau)) := by
  refine ⟨Go.Proofs.Tryz.call173, fun vs w K h => ?_⟩
  simp only [c173] at h
  split at h
  · rename_i p1 n2; exact denF_calls hm tysOk (callsOk_of (.cons s221 (.cons s224 (.cons s225 (.nil))))) (defsOk_of (.nil)) Go.Proofs.Tryz.func173 (by kernel_rfl) ok173 (Nat.le_of_ble_eq_true (by kernel_rfl)) ((d173 p1 n2 _ _).mpr h)
  · exact h.elim
theorem ok270 : codeOk hn270 Go.Proofs.Tryz.f270.ntmps (Go.Proofs.Tryz.f270.body.getD .skip) = true := by kernel_rfl
theorem s270 : Sound Go.Proofs.Tryz.prog 270 (c270 (bytes_trimRightByte tau)) := by
  refine ⟨Go.Proofs.Tryz.call270, fun vs w K h => ?_⟩
  simp only [c270] at h
  split at h
  · rename_i s1b s1l s1c n2; exact denF_calls hm tysOk (callsOk_of (.nil)) (defsOk_of (.nil)) Go.Proofs.Tryz.func270 (by kernel_rfl) ok270 (Nat.le_of_ble_eq_true (by kernel_rfl)) ((d270 (⟨s1b, s1l, s1c⟩) n2 _ _).mpr h)
  · exact h.elim
end Go.TS.Tryz
