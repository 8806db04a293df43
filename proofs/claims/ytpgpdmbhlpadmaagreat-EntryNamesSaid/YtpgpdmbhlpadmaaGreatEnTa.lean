/- The tables of a run: the types. -/
import Derived.Test.YtpgpdmbhlpadmaaGreatProg
import Derived.Test.YtpgpdmbhlpadmaaGreatTsS1
import Derived.Test.YtpgpdmbhlpadmaaGreatXsTab
import Derived.Test.YtpgpdmbhlpadmaaGreatXiCrcZ
import Derived.Test.YtpgpdmbhlpadmaaGreatXiIns
import Derived.Test.YtpgpdmbhlpadmaaGreatXiInsR
import Derived.Test.YtpgpdmbhlpadmaaGreatXiFlush
import Derived.Test.YtpgpdmbhlpadmaaGreatXsMemo
namespace Go.XS.Tryz
open Go Go.TS
set_option maxRecDepth 100000
def ti3 : TI := ⟨.int .i64, (Value.int .i64 0), 1, 8, .leaf (.int .i64)⟩
def ti4 : TI := ⟨.bool, (Value.bool false), 1, 1, .leaf (.bool)⟩
def ti5 : TI := ⟨.int .u8, (Value.int .u8 0), 1, 1, .leaf (.int .u8)⟩
def ti9 : TI := ⟨.string, (Value.string ByteArray.empty), 1, 16, .leaf (.str)⟩
def ti25 : TI := ⟨.int .i64, (Value.int .i64 0), 1, 8, .leaf (.int .i64)⟩
def ti27 : TI := ⟨.slice 5, (Value.slice none 0 0), 1, 24, .leaf (.sl)⟩
def ti32 : TI := ⟨.int .u64, (Value.int .u64 0), 1, 8, .leaf (.int .u64)⟩
def ti42 : TI := ⟨.struct #[⟨ "Page", 3, 0, false, "", "", 0⟩, ⟨ "Slot", 3, 1, false, "", "", 8⟩], (Value.agg #[(Value.int .i64 0), (Value.int .i64 0)]), 2, 16, .agg [.int .i64, .int .i64]⟩
def ti46 : TI := ⟨.slice 3, (Value.slice none 0 0), 1, 24, .leaf (.sl)⟩
def ti49 : TI := ⟨.pointer 200, (Value.pointer none), 1, 8, .leaf (.ptr)⟩
def ti54 : TI := ⟨.struct #[⟨ "Dir", 3, 0, false, "", "", 0⟩, ⟨ "Hint", 3, 1, false, "", "", 8⟩, ⟨ "Count", 32, 2, false, "", "", 16⟩], (Value.agg #[(Value.int .i64 0), (Value.int .i64 0), (Value.int .u64 0)]), 3, 24, .agg [.int .i64, .int .i64, .int .u64]⟩
def ti61 : TI := ⟨.array 4 32, (Value.agg #[(Value.int .u64 0), (Value.int .u64 0), (Value.int .u64 0), (Value.int .u64 0)]), 4, 32, .agg [.int .u64, .int .u64, .int .u64, .int .u64]⟩
def ti64 : TI := ⟨.pointer 277, (Value.pointer none), 1, 8, .leaf (.ptr)⟩
def ti67 : TI := ⟨.slice 42, (Value.slice none 0 0), 1, 24, .leaf (.sl)⟩
def ti71 : TI := ⟨.map 3 3, (Value.map none), 1, 8, .leaf (.map)⟩
def ti80 : TI := ⟨.struct #[⟨ "Key", 27, 0, false, "", "", 0⟩, ⟨ "Over", 3, 1, false, "", "", 24⟩, ⟨ "Size", 3, 2, false, "", "", 32⟩, ⟨ "Value", 27, 3, false, "", "", 40⟩], (Value.agg #[(Value.slice none 0 0), (Value.int .i64 0), (Value.int .i64 0), (Value.slice none 0 0)]), 4, 64, .agg [.sl, .int .i64, .int .i64, .sl]⟩
def ti86 : TI := ⟨.func #[] #[25] false, .nilFunc, 1, 8, .leaf .any⟩
def ti94 : TI := ⟨.slice 27, (Value.slice none 0 0), 1, 24, .leaf (.sl)⟩
def ti101 : TI := ⟨.func #[3] #[3] false, .nilFunc, 1, 8, .leaf .any⟩
def ti110 : TI := ⟨.struct #[⟨ "Phys", 46, 0, false, "", "", 0⟩], (Value.agg #[(Value.slice none 0 0)]), 1, 24, .agg [.sl]⟩
def ti112 : TI := ⟨.int .u32, (Value.int .u32 0), 1, 4, .leaf (.int .u32)⟩
def ti114 : TI := ⟨.struct #[⟨ "Kind", 3, 0, false, "", "", 0⟩, ⟨ "Number", 112, 1, false, "", "", 8⟩, ⟨ "Body", 27, 2, false, "", "", 16⟩], (Value.agg #[(Value.int .i64 0), (Value.int .u32 0), (Value.slice none 0 0)]), 3, 40, .agg [.int .i64, .int .u32, .sl]⟩
def ti126 : TI := ⟨.pointer 129, (Value.pointer none), 1, 8, .leaf (.ptr)⟩
def ti129 : TI := ⟨.struct #[⟨ "s", 49, 0, false, "", "tallyman/entry", 0⟩, ⟨ "t", 54, 1, false, "", "tallyman/entry", 8⟩, ⟨ "hash", 32, 4, false, "", "tallyman/entry", 32⟩, ⟨ "at", 42, 5, false, "", "tallyman/entry", 40⟩, ⟨ "old", 80, 7, false, "", "tallyman/entry", 56⟩, ⟨ "rec", 27, 11, false, "", "tallyman/entry", 120⟩], (Value.agg #[(Value.pointer none), (Value.int .i64 0), (Value.int .i64 0), (Value.int .u64 0), (Value.int .u64 0), (Value.int .i64 0), (Value.int .i64 0), (Value.slice none 0 0), (Value.int .i64 0), (Value.int .i64 0), (Value.slice none 0 0), (Value.slice none 0 0)]), 12, 144, .agg [.ptr, .int .i64, .int .i64, .int .u64, .int .u64, .int .i64, .int .i64, .sl, .int .i64, .int .i64, .sl, .sl]⟩
def ti135 : TI := ⟨.struct #[⟨ "Hash", 32, 0, false, "", "", 0⟩, ⟨ "Place", 42, 1, false, "", "", 8⟩], (Value.agg #[(Value.int .u64 0), (Value.int .i64 0), (Value.int .i64 0)]), 3, 24, .agg [.int .u64, .int .i64, .int .i64]⟩
def ti173 : TI := ⟨.pointer 301, (Value.pointer none), 1, 8, .leaf (.ptr)⟩
def ti177 : TI := ⟨.struct #[⟨ "slot", 3, 0, false, "", "tallyman/slots", 0⟩, ⟨ "at", 3, 1, false, "", "tallyman/slots", 8⟩, ⟨ "n", 3, 2, false, "", "tallyman/slots", 16⟩], (Value.agg #[(Value.int .i64 0), (Value.int .i64 0), (Value.int .i64 0)]), 3, 24, .agg [.int .i64, .int .i64, .int .i64]⟩
def ti186 : TI := ⟨.slice 4, (Value.slice none 0 0), 1, 24, .leaf (.sl)⟩
def ti195 : TI := ⟨.struct #[⟨ "Epoch", 32, 0, false, "", "", 0⟩, ⟨ "Pages", 32, 1, false, "", "", 8⟩, ⟨ "Table", 32, 2, false, "", "", 16⟩, ⟨ "Space", 32, 3, false, "", "", 24⟩, ⟨ "Logical", 32, 4, false, "", "", 32⟩, ⟨ "Meta", 61, 5, false, "", "", 40⟩], (Value.agg #[(Value.int .u64 0), (Value.int .u64 0), (Value.int .u64 0), (Value.int .u64 0), (Value.int .u64 0), (Value.int .u64 0), (Value.int .u64 0), (Value.int .u64 0), (Value.int .u64 0)]), 9, 72, .agg [.int .u64, .int .u64, .int .u64, .int .u64, .int .u64, .int .u64, .int .u64, .int .u64, .int .u64]⟩
def ti197 : TI := ⟨.struct #[⟨ "root", 195, 0, false, "", "tallyman/shadow", 0⟩, ⟨ "table", 110, 9, false, "", "tallyman/shadow", 72⟩, ⟨ "own", 46, 10, false, "", "tallyman/shadow", 96⟩, ⟨ "fresh", 46, 11, false, "", "tallyman/shadow", 120⟩], (Value.agg #[(Value.int .u64 0), (Value.int .u64 0), (Value.int .u64 0), (Value.int .u64 0), (Value.int .u64 0), (Value.int .u64 0), (Value.int .u64 0), (Value.int .u64 0), (Value.int .u64 0), (Value.slice none 0 0), (Value.slice none 0 0), (Value.slice none 0 0)]), 12, 144, .agg [.int .u64, .int .u64, .int .u64, .int .u64, .int .u64, .int .u64, .int .u64, .int .u64, .int .u64, .sl, .sl, .sl]⟩
def ti198 : TI := ⟨.pointer 379, (Value.pointer none), 1, 8, .leaf (.ptr)⟩
def ti200 : TI := ⟨.struct #[⟨ "d", 64, 0, false, "", "tallyman/shadow", 0⟩, ⟨ "p", 198, 1, false, "", "tallyman/shadow", 8⟩, ⟨ "kept", 197, 2, false, "", "tallyman/shadow", 16⟩, ⟨ "now", 197, 14, false, "", "tallyman/shadow", 160⟩, ⟨ "broken", 4, 26, false, "", "tallyman/shadow", 304⟩, ⟨ "doubt", 3, 27, false, "", "tallyman/shadow", 312⟩], (Value.agg #[(Value.pointer none), (Value.pointer none), (Value.int .u64 0), (Value.int .u64 0), (Value.int .u64 0), (Value.int .u64 0), (Value.int .u64 0), (Value.int .u64 0), (Value.int .u64 0), (Value.int .u64 0), (Value.int .u64 0), (Value.slice none 0 0), (Value.slice none 0 0), (Value.slice none 0 0), (Value.int .u64 0), (Value.int .u64 0), (Value.int .u64 0), (Value.int .u64 0), (Value.int .u64 0), (Value.int .u64 0), (Value.int .u64 0), (Value.int .u64 0), (Value.int .u64 0), (Value.slice none 0 0), (Value.slice none 0 0), (Value.slice none 0 0), (Value.bool false), (Value.int .i64 0)]), 28, 320, .agg [.ptr, .ptr, .int .u64, .int .u64, .int .u64, .int .u64, .int .u64, .int .u64, .int .u64, .int .u64, .int .u64, .sl, .sl, .sl, .int .u64, .int .u64, .int .u64, .int .u64, .int .u64, .int .u64, .int .u64, .int .u64, .int .u64, .sl, .sl, .sl, .bool, .int .i64]⟩
def ti203 : TI := ⟨.pointer 25, (Value.pointer none), 1, 8, .leaf (.ptr)⟩
def ti219 : TI := ⟨.slice 86, (Value.slice none 0 0), 1, 24, .leaf (.sl)⟩
def ti224 : TI := ⟨.struct #[⟨ "Depth", 3, 0, false, "", "", 0⟩, ⟨ "Buckets", 46, 1, false, "", "", 8⟩], (Value.agg #[(Value.int .i64 0), (Value.slice none 0 0)]), 2, 32, .agg [.int .i64, .sl]⟩
def ti225 : TI := ⟨.slice 233, (Value.slice none 0 0), 1, 24, .leaf (.sl)⟩
def ti227 : TI := ⟨.struct #[⟨ "d", 224, 0, false, "", "tallyman/index", 0⟩, ⟨ "l", 225, 2, false, "", "tallyman/index", 32⟩, ⟨ "pages", 46, 3, false, "", "tallyman/index", 56⟩], (Value.agg #[(Value.int .i64 0), (Value.slice none 0 0), (Value.slice none 0 0), (Value.slice none 0 0)]), 4, 80, .agg [.int .i64, .sl, .sl, .sl]⟩
def ti231 : TI := ⟨.slice 135, (Value.slice none 0 0), 1, 24, .leaf (.sl)⟩
def ti233 : TI := ⟨.struct #[⟨ "Next", 3, 0, false, "", "", 0⟩, ⟨ "Refs", 231, 1, false, "", "", 8⟩], (Value.agg #[(Value.int .i64 0), (Value.slice none 0 0)]), 2, 32, .agg [.int .i64, .sl]⟩
def ti250 : TI := ⟨.func #[27, 27] #[3] false, .nilFunc, 1, 8, .leaf .any⟩
def ti253 : TI := ⟨.pointer 352, (Value.pointer none), 1, 8, .leaf (.ptr)⟩
def ti274 : TI := ⟨.map 3 27, (Value.map none), 1, 8, .leaf (.map)⟩
def ti275 : TI := ⟨.pointer 3, (Value.pointer none), 1, 8, .leaf (.ptr)⟩
def ti277 : TI := ⟨.struct #[⟨ "b", 27, 0, false, "", "tallyman/sector", 0⟩, ⟨ "cache", 274, 1, false, "", "tallyman/sector", 24⟩, ⟨ "order", 46, 2, false, "", "tallyman/sector", 32⟩, ⟨ "left", 275, 3, false, "", "tallyman/sector", 56⟩], (Value.agg #[(Value.slice none 0 0), (Value.map none), (Value.slice none 0 0), (Value.pointer none)]), 4, 64, .agg [.sl, .map, .sl, .ptr]⟩
def ti281 : TI := ⟨.struct #[⟨ "Pages", 3, 0, false, "", "", 0⟩, ⟨ "Used", 186, 1, false, "", "", 8⟩], (Value.agg #[(Value.int .i64 0), (Value.slice none 0 0)]), 2, 32, .agg [.int .i64, .sl]⟩
def ti301 : TI := ⟨.array 4080 5, (Value.agg (Array.replicate 4080 (Value.int .u8 0))), 4080, 4080, .arr 4080⟩
def ti307 : TI := ⟨.pointer 313, (Value.pointer none), 1, 8, .leaf (.ptr)⟩
def ti311 : TI := ⟨.struct #[⟨ "Is", 4, 0, false, "", "", 0⟩, ⟨ "Page", 3, 1, false, "", "", 8⟩, ⟨ "Pins", 3, 2, false, "", "", 16⟩, ⟨ "Dirty", 4, 3, false, "", "", 24⟩, ⟨ "Used", 4, 4, false, "", "", 25⟩], (Value.agg #[(Value.bool false), (Value.int .i64 0), (Value.int .i64 0), (Value.bool false), (Value.bool false)]), 5, 32, .agg [.bool, .int .i64, .int .i64, .bool, .bool]⟩
def ti313 : TI := ⟨.struct #[⟨ "Frame", 311, 0, true, "", "", 0⟩, ⟨ "b", 27, 5, false, "", "tallyman/pool", 32⟩], (Value.agg #[(Value.bool false), (Value.int .i64 0), (Value.int .i64 0), (Value.bool false), (Value.bool false), (Value.slice none 0 0)]), 6, 56, .agg [.bool, .int .i64, .int .i64, .bool, .bool, .sl]⟩
def ti327 : TI := ⟨.int .u64, (Value.int .u64 0), 1, 8, .leaf (.int .u64)⟩
def ti335 : TI := ⟨.func #[233] #[4] false, .nilFunc, 1, 8, .leaf .any⟩
def ti352 : TI := ⟨.struct #[⟨ "b", 27, 0, false, "", "tallyman/octet", 0⟩, ⟨ "at", 3, 1, false, "", "tallyman/octet", 24⟩, ⟨ "err", 25, 2, false, "", "tallyman/octet", 32⟩, ⟨ "is", 4, 3, false, "", "tallyman/octet", 40⟩], (Value.agg #[(Value.slice none 0 0), (Value.int .i64 0), (Value.int .i64 0), (Value.bool false)]), 4, 48, .agg [.sl, .int .i64, .int .i64, .bool]⟩
def ti359 : TI := ⟨.func #[5] #[4] false, .nilFunc, 1, 8, .leaf .any⟩
def ti366 : TI := ⟨.slice 46, (Value.slice none 0 0), 1, 24, .leaf (.sl)⟩
def ti375 : TI := ⟨.slice 311, (Value.slice none 0 0), 1, 24, .leaf (.sl)⟩
def ti377 : TI := ⟨.slice 313, (Value.slice none 0 0), 1, 24, .leaf (.sl)⟩
def ti379 : TI := ⟨.struct #[⟨ "d", 64, 0, false, "", "tallyman/pool", 0⟩, ⟨ "frames", 377, 1, false, "", "tallyman/pool", 8⟩, ⟨ "hand", 3, 2, false, "", "tallyman/pool", 32⟩], (Value.agg #[(Value.pointer none), (Value.slice none 0 0), (Value.int .i64 0)]), 3, 40, .agg [.ptr, .sl, .int .i64]⟩
def ti382 : TI := ⟨.slice 177, (Value.slice none 0 0), 1, 24, .leaf (.sl)⟩
def ti384 : TI := ⟨.map 3 385, (Value.map none), 1, 8, .leaf (.map)⟩
def ti385 : TI := ⟨.struct #[], (Value.agg #[]), 0, 0, .agg []⟩
def ti396 : TI := ⟨.func #[135, 135] #[3] false, .nilFunc, 1, 8, .leaf .any⟩
def ti415 : TI := ⟨.int .i64, (Value.int .i64 0), 1, 8, .leaf (.int .i64)⟩
def ti426 : TI := ⟨.func #[210] #[] false, .nilFunc, 1, 8, .leaf .any⟩
def ti430 : TI := ⟨.array 9 32, (Value.agg #[(Value.int .u64 0), (Value.int .u64 0), (Value.int .u64 0), (Value.int .u64 0), (Value.int .u64 0), (Value.int .u64 0), (Value.int .u64 0), (Value.int .u64 0), (Value.int .u64 0)]), 9, 72, .agg [.int .u64, .int .u64, .int .u64, .int .u64, .int .u64, .int .u64, .int .u64, .int .u64, .int .u64]⟩
def ti432 : TI := ⟨.func #[177, 177] #[3] false, .nilFunc, 1, 8, .leaf .any⟩
def ti439 : TI := ⟨.int .u64, (Value.int .u64 0), 1, 8, .leaf (.int .u64)⟩
def ti443 : TI := ⟨.array 2 32, (Value.agg #[(Value.int .u64 0), (Value.int .u64 0)]), 2, 16, .agg [.int .u64, .int .u64]⟩
def ti446 : TI := ⟨.array 256 112, (Value.agg (Array.replicate 256 (Value.int .u32 0))), 256, 1024, .arr 256⟩
def tyl : List (Nat × TI) := [(3, ti3), (4, ti4), (5, ti5), (9, ti9), (25, ti25), (27, ti27), (32, ti32), (42, ti42), (46, ti46), (49, ti49), (54, ti54), (61, ti61), (64, ti64), (67, ti67), (71, ti71), (80, ti80), (86, ti86), (94, ti94), (101, ti101), (110, ti110), (112, ti112), (114, ti114), (126, ti126), (129, ti129), (135, ti135), (173, ti173), (177, ti177), (186, ti186), (195, ti195), (197, ti197), (198, ti198), (200, ti200), (203, ti203), (219, ti219), (224, ti224), (225, ti225), (227, ti227), (231, ti231), (233, ti233), (250, ti250), (253, ti253), (274, ti274), (275, ti275), (277, ti277), (281, ti281), (301, ti301), (307, ti307), (311, ti311), (313, ti313), (327, ti327), (335, ti335), (352, ti352), (359, ti359), (366, ti366), (375, ti375), (377, ti377), (379, ti379), (382, ti382), (384, ti384), (385, ti385), (396, ti396), (415, ti415), (426, ti426), (430, ti430), (432, ti432), (439, ti439), (443, ti443), (446, ti446)]
def mtl : List (String × Nat × Nat) := []
def tys : Tys := ⟨trOf tyl, mtT mtl⟩
end Go.XS.Tryz
/- The tables of a run: the functions. -/
namespace Go.XS.Tryz
open Go Go.TS
set_option maxRecDepth 100000
noncomputable def fnl : List (Nat × FI) := [(105, fiOf Go.Proofs.Tryz.f105), (270, fiOf Go.Proofs.Tryz.f270), (172, fiOf Go.Proofs.Tryz.f172), (216, .intr iSectors), (180, fiOf Go.Proofs.Tryz.f180), (290, fiOf Go.Proofs.Tryz.f290), (210, fiOf Go.Proofs.Tryz.f210), (186, fiOf Go.Proofs.Tryz.f186), (106, fiOf Go.Proofs.Tryz.f106), (48, fiOf Go.Proofs.Tryz.f48), (113, fiOf Go.Proofs.Tryz.f113), (73, fiOf Go.Proofs.Tryz.f73), (118, fiOf Go.Proofs.Tryz.f118), (178, fiOf Go.Proofs.Tryz.f178), (114, fiOf Go.Proofs.Tryz.f114), (115, fiOf Go.Proofs.Tryz.f115), (185, fiOf Go.Proofs.Tryz.f185), (209, fiOf Go.Proofs.Tryz.f209), (130, .intr iWord), (344, .intr iParts), (295, fiOf Go.Proofs.Tryz.f295), (214, fiOf Go.Proofs.Tryz.f214), (345, fiOf Go.Proofs.Tryz.f345), (297, fiOf Go.Proofs.Tryz.f297), (298, fiOf Go.Proofs.Tryz.f298), (225, fiOf Go.Proofs.Tryz.f225), (98, fiOf Go.Proofs.Tryz.f98), (211, fiOf Go.Proofs.Tryz.f211), (291, fiOf Go.Proofs.Tryz.f291), (292, fiOf Go.Proofs.Tryz.f292), (218, fiOf Go.Proofs.Tryz.f218), (219, fiOf Go.Proofs.Tryz.f219), (282, fiOf Go.Proofs.Tryz.f282), (283, fiOf Go.Proofs.Tryz.f283), (220, fiOf Go.Proofs.Tryz.f220), (120, fiOf Go.Proofs.Tryz.f120), (339, fiOf Go.Proofs.Tryz.f339), (293, fiOf Go.Proofs.Tryz.f293), (274, fiOf Go.Proofs.Tryz.f274), (296, fiOf Go.Proofs.Tryz.f296), (271, fiOf Go.Proofs.Tryz.f271), (333, fiOf Go.Proofs.Tryz.f333), (275, fiOf Go.Proofs.Tryz.f275), (276, .intr iInsert), (179, fiOf Go.Proofs.Tryz.f179), (86, fiOf Go.Proofs.Tryz.f86), (239, fiOf Go.Proofs.Tryz.f239), (346, fiOf Go.Proofs.Tryz.f346), (366, fiOf Go.Proofs.Tryz.f366), (347, fiOf Go.Proofs.Tryz.f347), (348, fiOf Go.Proofs.Tryz.f348), (301, fiOf Go.Proofs.Tryz.f301), (238, fiOf Go.Proofs.Tryz.f238), (243, fiOf Go.Proofs.Tryz.f243), (147, fiOf Go.Proofs.Tryz.f147), (253, fiOf Go.Proofs.Tryz.f253), (148, fiOf Go.Proofs.Tryz.f148), (245, fiOf Go.Proofs.Tryz.f245), (244, fiOf Go.Proofs.Tryz.f244), (149, fiOf Go.Proofs.Tryz.f149), (74, fiOf Go.Proofs.Tryz.f74), (22, fiOf Go.Proofs.Tryz.f22), (88, fiOf Go.Proofs.Tryz.f88), (32, fiOf Go.Proofs.Tryz.f32), (112, fiOf Go.Proofs.Tryz.f112), (223, fiOf Go.Proofs.Tryz.f223), (181, fiOf Go.Proofs.Tryz.f181), (182, fiOf Go.Proofs.Tryz.f182), (277, fiOf Go.Proofs.Tryz.f277), (183, fiOf Go.Proofs.Tryz.f183), (184, fiOf Go.Proofs.Tryz.f184), (336, fiOf Go.Proofs.Tryz.f336), (361, fiOf Go.Proofs.Tryz.f361), (337, fiOf Go.Proofs.Tryz.f337), (362, fiOf Go.Proofs.Tryz.f362), (338, fiOf Go.Proofs.Tryz.f338), (278, fiOf Go.Proofs.Tryz.f278), (279, fiOf Go.Proofs.Tryz.f279), (187, fiOf Go.Proofs.Tryz.f187), (191, .intr iFlush), (280, fiOf Go.Proofs.Tryz.f280), (188, fiOf Go.Proofs.Tryz.f188), (189, fiOf Go.Proofs.Tryz.f189), (340, fiOf Go.Proofs.Tryz.f340), (281, fiOf Go.Proofs.Tryz.f281), (190, fiOf Go.Proofs.Tryz.f190), (89, fiOf Go.Proofs.Tryz.f89), (217, fiOf Go.Proofs.Tryz.f217), (119, fiOf Go.Proofs.Tryz.f119), (54, fiOf Go.Proofs.Tryz.f54), (17, fiOf Go.Proofs.Tryz.f17), (121, fiOf Go.Proofs.Tryz.f121), (122, fiOf Go.Proofs.Tryz.f122), (55, fiOf Go.Proofs.Tryz.f55), (231, fiOf Go.Proofs.Tryz.f231), (229, fiOf Go.Proofs.Tryz.f229), (156, fiOf Go.Proofs.Tryz.f156), (213, .intr iRdWord), (230, fiOf Go.Proofs.Tryz.f230), (232, fiOf Go.Proofs.Tryz.f232), (233, fiOf Go.Proofs.Tryz.f233), (133, fiOf Go.Proofs.Tryz.f133), (60, fiOf Go.Proofs.Tryz.f60), (284, fiOf Go.Proofs.Tryz.f284), (343, fiOf Go.Proofs.Tryz.f343), (294, fiOf Go.Proofs.Tryz.f294), (212, fiOf Go.Proofs.Tryz.f212), (116, fiOf Go.Proofs.Tryz.f116), (215, fiOf Go.Proofs.Tryz.f215), (117, fiOf Go.Proofs.Tryz.f117), (51, fiOf Go.Proofs.Tryz.f51), (316, .intr (iZeros 264)), (263, fiOf Go.Proofs.Tryz.f263), (264, fiOf Go.Proofs.Tryz.f264), (260, fiOf Go.Proofs.Tryz.f260), (261, fiOf Go.Proofs.Tryz.f261), (265, fiOf Go.Proofs.Tryz.f265), (165, fiOf Go.Proofs.Tryz.f165), (174, fiOf Go.Proofs.Tryz.f174), (315, fiOf Go.Proofs.Tryz.f315), (262, fiOf Go.Proofs.Tryz.f262), (318, fiOf Go.Proofs.Tryz.f318), (317, fiOf Go.Proofs.Tryz.f317), (266, fiOf Go.Proofs.Tryz.f266), (167, fiOf Go.Proofs.Tryz.f167), (319, fiOf Go.Proofs.Tryz.f319), (267, fiOf Go.Proofs.Tryz.f267), (168, fiOf Go.Proofs.Tryz.f168), (138, fiOf Go.Proofs.Tryz.f138), (221, fiOf Go.Proofs.Tryz.f221), (123, fiOf Go.Proofs.Tryz.f123), (126, fiOf Go.Proofs.Tryz.f126), (132, fiOf Go.Proofs.Tryz.f132), (256, fiOf Go.Proofs.Tryz.f256), (258, fiOf Go.Proofs.Tryz.f258), (159, fiOf Go.Proofs.Tryz.f159), (257, fiOf Go.Proofs.Tryz.f257), (157, fiOf Go.Proofs.Tryz.f157), (259, fiOf Go.Proofs.Tryz.f259), (158, fiOf Go.Proofs.Tryz.f158), (160, fiOf Go.Proofs.Tryz.f160), (79, fiOf Go.Proofs.Tryz.f79), (197, fiOf Go.Proofs.Tryz.f197), (95, fiOf Go.Proofs.Tryz.f95), (96, fiOf Go.Proofs.Tryz.f96), (199, fiOf Go.Proofs.Tryz.f199), (200, fiOf Go.Proofs.Tryz.f200), (287, .intr iNoughts), (331, fiOf Go.Proofs.Tryz.f331), (332, fiOf Go.Proofs.Tryz.f332), (273, fiOf Go.Proofs.Tryz.f273), (383, fiOf Go.Proofs.Tryz.f383), (395, fiOf Go.Proofs.Tryz.f395), (384, fiOf Go.Proofs.Tryz.f384), (356, fiOf Go.Proofs.Tryz.f356), (357, fiOf Go.Proofs.Tryz.f357), (385, fiOf Go.Proofs.Tryz.f385), (399, fiOf Go.Proofs.Tryz.f399), (397, fiOf Go.Proofs.Tryz.f397), (396, fiOf Go.Proofs.Tryz.f396), (386, fiOf Go.Proofs.Tryz.f386), (387, fiOf Go.Proofs.Tryz.f387), (388, fiOf Go.Proofs.Tryz.f388), (389, fiOf Go.Proofs.Tryz.f389), (390, fiOf Go.Proofs.Tryz.f390), (363, fiOf Go.Proofs.Tryz.f363), (341, fiOf Go.Proofs.Tryz.f341), (342, fiOf Go.Proofs.Tryz.f342), (288, fiOf Go.Proofs.Tryz.f288), (196, fiOf Go.Proofs.Tryz.f196), (94, fiOf Go.Proofs.Tryz.f94), (97, fiOf Go.Proofs.Tryz.f97), (44, fiOf Go.Proofs.Tryz.f44), (93, fiOf Go.Proofs.Tryz.f93), (205, fiOf Go.Proofs.Tryz.f205), (107, fiOf Go.Proofs.Tryz.f107), (124, fiOf Go.Proofs.Tryz.f124), (125, fiOf Go.Proofs.Tryz.f125), (56, fiOf Go.Proofs.Tryz.f56), (222, fiOf Go.Proofs.Tryz.f222), (127, fiOf Go.Proofs.Tryz.f127), (57, fiOf Go.Proofs.Tryz.f57), (224, fiOf Go.Proofs.Tryz.f224), (226, .intr iDelete), (227, fiOf Go.Proofs.Tryz.f227), (129, fiOf Go.Proofs.Tryz.f129), (128, fiOf Go.Proofs.Tryz.f128), (58, fiOf Go.Proofs.Tryz.f58), (131, fiOf Go.Proofs.Tryz.f131), (59, fiOf Go.Proofs.Tryz.f59), (61, fiOf Go.Proofs.Tryz.f61), (62, fiOf Go.Proofs.Tryz.f62), (63, fiOf Go.Proofs.Tryz.f63), (101, fiOf Go.Proofs.Tryz.f101), (198, fiOf Go.Proofs.Tryz.f198), (99, fiOf Go.Proofs.Tryz.f99), (45, fiOf Go.Proofs.Tryz.f45), (100, fiOf Go.Proofs.Tryz.f100), (202, fiOf Go.Proofs.Tryz.f202), (203, fiOf Go.Proofs.Tryz.f203), (201, fiOf Go.Proofs.Tryz.f201), (102, fiOf Go.Proofs.Tryz.f102), (103, fiOf Go.Proofs.Tryz.f103), (46, fiOf Go.Proofs.Tryz.f46), (206, fiOf Go.Proofs.Tryz.f206), (207, fiOf Go.Proofs.Tryz.f207), (108, fiOf Go.Proofs.Tryz.f108), (66, fiOf Go.Proofs.Tryz.f66), (42, fiOf Go.Proofs.Tryz.f42), (289, fiOf Go.Proofs.Tryz.f289), (208, fiOf Go.Proofs.Tryz.f208), (111, fiOf Go.Proofs.Tryz.f111), (70, fiOf Go.Proofs.Tryz.f70), (234, fiOf Go.Proofs.Tryz.f234), (134, fiOf Go.Proofs.Tryz.f134), (69, fiOf Go.Proofs.Tryz.f69), (302, fiOf Go.Proofs.Tryz.f302), (303, fiOf Go.Proofs.Tryz.f303), (240, fiOf Go.Proofs.Tryz.f240), (241, .intr iInsertR), (242, fiOf Go.Proofs.Tryz.f242), (140, fiOf Go.Proofs.Tryz.f140), (137, fiOf Go.Proofs.Tryz.f137), (235, fiOf Go.Proofs.Tryz.f235), (300, fiOf Go.Proofs.Tryz.f300), (237, fiOf Go.Proofs.Tryz.f237), (236, fiOf Go.Proofs.Tryz.f236), (139, fiOf Go.Proofs.Tryz.f139), (141, fiOf Go.Proofs.Tryz.f141), (249, .intr iDelR), (145, fiOf Go.Proofs.Tryz.f145), (109, fiOf Go.Proofs.Tryz.f109), (135, fiOf Go.Proofs.Tryz.f135), (64, fiOf Go.Proofs.Tryz.f64), (150, fiOf Go.Proofs.Tryz.f150), (136, fiOf Go.Proofs.Tryz.f136), (65, fiOf Go.Proofs.Tryz.f65), (142, fiOf Go.Proofs.Tryz.f142), (143, fiOf Go.Proofs.Tryz.f143), (246, fiOf Go.Proofs.Tryz.f246), (368, fiOf Go.Proofs.Tryz.f368), (369, fiOf Go.Proofs.Tryz.f369), (350, fiOf Go.Proofs.Tryz.f350), (306, fiOf Go.Proofs.Tryz.f306), (307, fiOf Go.Proofs.Tryz.f307), (247, fiOf Go.Proofs.Tryz.f247), (248, fiOf Go.Proofs.Tryz.f248), (144, fiOf Go.Proofs.Tryz.f144), (68, fiOf Go.Proofs.Tryz.f68), (67, fiOf Go.Proofs.Tryz.f67), (18, fiOf Go.Proofs.Tryz.f18), (308, fiOf Go.Proofs.Tryz.f308), (250, fiOf Go.Proofs.Tryz.f250), (370, fiOf Go.Proofs.Tryz.f370), (392, fiOf Go.Proofs.Tryz.f392), (371, fiOf Go.Proofs.Tryz.f371), (372, fiOf Go.Proofs.Tryz.f372), (398, fiOf Go.Proofs.Tryz.f398), (394, fiOf Go.Proofs.Tryz.f394), (393, fiOf Go.Proofs.Tryz.f393), (373, fiOf Go.Proofs.Tryz.f373), (374, fiOf Go.Proofs.Tryz.f374), (375, fiOf Go.Proofs.Tryz.f375), (376, fiOf Go.Proofs.Tryz.f376), (377, fiOf Go.Proofs.Tryz.f377), (351, fiOf Go.Proofs.Tryz.f351), (309, fiOf Go.Proofs.Tryz.f309), (310, fiOf Go.Proofs.Tryz.f310), (251, fiOf Go.Proofs.Tryz.f251), (311, fiOf Go.Proofs.Tryz.f311), (252, fiOf Go.Proofs.Tryz.f252), (146, fiOf Go.Proofs.Tryz.f146), (72, fiOf Go.Proofs.Tryz.f72), (71, fiOf Go.Proofs.Tryz.f71), (19, fiOf Go.Proofs.Tryz.f19), (20, fiOf Go.Proofs.Tryz.f20), (21, fiOf Go.Proofs.Tryz.f21), (75, fiOf Go.Proofs.Tryz.f75), (76, fiOf Go.Proofs.Tryz.f76), (323, fiOf Go.Proofs.Tryz.f323), (355, fiOf Go.Proofs.Tryz.f355), (324, fiOf Go.Proofs.Tryz.f324), (325, fiOf Go.Proofs.Tryz.f325), (381, fiOf Go.Proofs.Tryz.f381), (359, fiOf Go.Proofs.Tryz.f359), (358, fiOf Go.Proofs.Tryz.f358), (326, fiOf Go.Proofs.Tryz.f326), (327, fiOf Go.Proofs.Tryz.f327), (328, fiOf Go.Proofs.Tryz.f328), (329, fiOf Go.Proofs.Tryz.f329), (330, fiOf Go.Proofs.Tryz.f330), (272, fiOf Go.Proofs.Tryz.f272), (175, fiOf Go.Proofs.Tryz.f175), (176, fiOf Go.Proofs.Tryz.f176), (166, fiOf Go.Proofs.Tryz.f166), (151, fiOf Go.Proofs.Tryz.f151), (312, fiOf Go.Proofs.Tryz.f312), (378, fiOf Go.Proofs.Tryz.f378), (352, fiOf Go.Proofs.Tryz.f352), (313, fiOf Go.Proofs.Tryz.f313), (254, fiOf Go.Proofs.Tryz.f254), (152, fiOf Go.Proofs.Tryz.f152), (314, .intr iCompare), (255, fiOf Go.Proofs.Tryz.f255), (153, fiOf Go.Proofs.Tryz.f153), (77, fiOf Go.Proofs.Tryz.f77), (23, fiOf Go.Proofs.Tryz.f23), (4, fiOf Go.Proofs.Tryz.f4)]
noncomputable def fnt : PT FI := fnTree fnl
noncomputable def fns : Nat → Option FI := fnGet fnt
def n_tallymanlaw23_EntryNames : Nat := 4
end Go.XS.Tryz
/- Calls of a closed run: the calls. -/
namespace Go.XS.Tryz
open Go Go.TS
set_option maxRecDepth 100000
set_option linter.unusedVariables false
def enk0 : Nat := 0x2d24ec4f1a98c6e5b000100000000
def enk1 : Nat := 0x2d24ec4f1a98c6e5b00010000000278452aa11af39f9b000200000000
def enk2 : Nat := 0x10000000278452aa11af39f9b000100000000
def enk3 : Nat := 0x300000000000000020000000000000040000000000000000100a6f3fb000000000000000101014d54
def enk4 : Nat := 0x100000000c08c10d8000000000000000002014d54
def enk5 : Nat := 0xf00000040000c00000000571dbd5c000000000000000003014d54
def enk6 : Nat := 0xa5ced327000000000000000005014d54
def enk7 : Nat := 0xca1cb84c000000000000000104014d54
def enk8 : Nat := 0x50feb0feb00011eb86139000000000000000206014d54
def enk9 : Nat := 0x1006101000000000000000000000000000000000000000000000000000000000000000000000000000000000000000000000000000000000000000000000000000000000000000000000000000000000000000000000000000000000000000000000000000000000000000000000000000000000000000000000000000000000000000000000000000000000000000000000000000000000000000000000000000000000000000000000000000000000000000000000000000000000000000000000000000000000000000000000000000000000000000000000000000000000000000000000000000000000000000000000000000000000000000000000000000000000000000000000000000000000000000000000000000000000000000000000000000000000000000000000000000000000000000000000000000000000000000000000000000000000000000000000000000000000000000000000000000000000000000000000000000000000000000000000000000000000000000000000000000000000000000000000000000000000000000000000000000000000000000000000000000000000000000000000000000000000000000000000000000000000000000000000000000000000000000000000000000000000000000000000000000000000000000000000000000000000000000000000000000000
def enk10 : Nat := 0x2d24ec4f1a98c6e5b0001000000008c84fe08000000000000000005014d54
def enk11 : Nat := 0x60fe50fe5000163c049c0000000000000000206014d54
def enk12 : Nat := 0x2006101000000000000000000000000000000000000000000000000000000000000000000000000000000000000000000000000000000000000000000000000000000000000000000000000000000000000000000000000000000000000000000000000000000000000000000000000000000000000000000000000000000000000000000000000000000000000000000000000000000000000000000000000000000000000000000000000000000000000000000000000000000000000000000000000000000000000000000000000000000000000000000000000000000000000000000000000000000000000000000000000000000000000000000000000000000000000000000000000000000000000000000000000000000000000000000000000000000000000000000000000000000000000000000000000000000000000000000000000000000000000000000000000000000000000000000000000000000000000000000000000000000000000000000000000000000000000000000000000000000000000000000000000000000000000000000000000000000000000000000000000000000000000000000000000000000000000000000000000000000000000000000000000000000000000000000000000000000000000000000000000000000000000000000000000000000000000000000
def enk13 : Nat := 0xbb80000000008ec0644000000000000000307014d54
def enk14 : Nat := 0x50fe000060fe50fe0000280a221e6000000000000000206014d54
def enk15 : Nat := 0x200610117b804620100000000000000000000000000000000000000000000000000000000000000000000000000000000000000000000000000000000000000000000000000000000000000000000000000000000000000000000000000000000000000000000000000000000000000000000000000000000000000000000000000000000000000000000000000000000000000000000000000000000000000000000000000000000000000000000000000000000000000000000000000000000000000000000000000000000000000000000000000000000000000000000000000000000000000000000000000000000000000000000000000000000000000000000000000000000000000000000000000000000000000000000000000000000000000000000000000000000000000000000000000000000000000000000000000000000000000000000000000000000000000000000000000000000000000000000000000000000000000000000000000000000000000000000000000000000000000000000000000000000000000000000000000000000000000000000000000000000000000000000000000000000000000000000000000000000000000000000000000000000000000000000000000000000000000000000000000000000000000000000000000000000000000000000000000000000
def enk16 : Nat := 0x2d24ec4f1a98c6e5b00010000000278452aa11af39f9b0002000000001e5c81d7000000000000000005014d54
def enk17 : Nat := 0x50fe0000000000fe000022047a226000000000000000206014d54
def enk18 : Nat := 0x17b804620100000000000000000000000000000000000000000000000000000000000000000000000000000000000000000000000000000000000000000000000000000000000000000000000000000000000000000000000000000000000000000000000000000000000000000000000000000000000000000000000000000000000000000000000000000000000000000000000000000000000000000000000000000000000000000000000000000000000000000000000000000000000000000000000000000000000000000000000000000000000000000000000000000000000000000000000000000000000000000000000000000000000000000000000000000000000000000000000000000000000000000000000000000000000000000000000000000000000000000000000000000000000000000000000000000000000000000000000000000000000000000000000000000000000000000000000000000000000000000000000000000000000000000000000000000000000000000000000000000000000000000000000000000000000000000000000000000000000000000000000000000000000000000000000000000000000000000000000000000000000000000000000000000000000000000000000000000000000000000000000000000000000000000000000000000000
def enk19 : Nat := 0x10000000278452aa11af39f9b0001000000001e2356cb000000000000000005014d54
noncomputable def enm0_0 : ME := ⟨[.sl ⟨some ⟨pOf 884, 0⟩, 4080, 4080, 1⟩], pOf 893,
   [(pOf 884, .cells (.b 0 4080))],
   [],
   .tup [.agg [.int .i64 (.ofNat 0), .sl ⟨none, 0, 0, 0⟩], .int .i64 (.ofNat 0)], pOf 899,
   []⟩
noncomputable def enm0_1 : ME := ⟨[.sl ⟨some ⟨pOf 1449, 0⟩, 4080, 4080, 1⟩], pOf 1458,
   [(pOf 1449, .cells (.b 0 4080))],
   [],
   .tup [.agg [.int .i64 (.ofNat 0), .sl ⟨none, 0, 0, 0⟩], .int .i64 (.ofNat 0)], pOf 1464,
   []⟩
noncomputable def enm0_2 : ME := ⟨[.sl ⟨some ⟨pOf 1672, 0⟩, 4080, 4080, 1⟩], pOf 1681,
   [(pOf 1672, .cells (.b 0 4080))],
   [],
   .tup [.agg [.int .i64 (.ofNat 0), .sl ⟨none, 0, 0, 0⟩], .int .i64 (.ofNat 0)], pOf 1687,
   []⟩
noncomputable def enm0_3 : ME := ⟨[.sl ⟨some ⟨pOf 1830, 0⟩, 4080, 4080, 1⟩], pOf 1839,
   [(pOf 1830, .cells (.b enk0 4080))],
   [],
   .tup [.agg [.int .i64 (.ofNat 0), .sl ⟨some ⟨pOf 1845, 0⟩, 1, 1, 3⟩], .int .i64 (.ofNat 0)], pOf 1849,
   [(pOf 1845, .cells (.l [.int .u64 (.ofNat 15154266338359012955), .int .i64 (.ofNat 2), .int .i64 (.ofNat 0)]))]⟩
noncomputable def enm0_4 : ME := ⟨[.sl ⟨some ⟨pOf 2142, 0⟩, 4080, 4080, 1⟩], pOf 2151,
   [(pOf 2142, .cells (.b enk0 4080))],
   [],
   .tup [.agg [.int .i64 (.ofNat 0), .sl ⟨some ⟨pOf 2157, 0⟩, 1, 1, 3⟩], .int .i64 (.ofNat 0)], pOf 2161,
   [(pOf 2157, .cells (.l [.int .u64 (.ofNat 15154266338359012955), .int .i64 (.ofNat 2), .int .i64 (.ofNat 0)]))]⟩
noncomputable def enm0_5 : ME := ⟨[.sl ⟨some ⟨pOf 2332, 0⟩, 4080, 4080, 1⟩], pOf 2341,
   [(pOf 2332, .cells (.b enk0 4080))],
   [],
   .tup [.agg [.int .i64 (.ofNat 0), .sl ⟨some ⟨pOf 2347, 0⟩, 1, 1, 3⟩], .int .i64 (.ofNat 0)], pOf 2351,
   [(pOf 2347, .cells (.l [.int .u64 (.ofNat 15154266338359012955), .int .i64 (.ofNat 2), .int .i64 (.ofNat 0)]))]⟩
noncomputable def enm0_6 : ME := ⟨[.sl ⟨some ⟨pOf 2666, 0⟩, 4080, 4080, 1⟩], pOf 2675,
   [(pOf 2666, .cells (.b enk0 4080))],
   [],
   .tup [.agg [.int .i64 (.ofNat 0), .sl ⟨some ⟨pOf 2681, 0⟩, 1, 1, 3⟩], .int .i64 (.ofNat 0)], pOf 2685,
   [(pOf 2681, .cells (.l [.int .u64 (.ofNat 15154266338359012955), .int .i64 (.ofNat 2), .int .i64 (.ofNat 0)]))]⟩
noncomputable def enm0_7 : ME := ⟨[.sl ⟨some ⟨pOf 2836, 0⟩, 4080, 4080, 1⟩], pOf 2845,
   [(pOf 2836, .cells (.b enk1 4080))],
   [],
   .tup [.agg [.int .i64 (.ofNat 0), .sl ⟨some ⟨pOf 2853, 0⟩, 2, 2, 3⟩], .int .i64 (.ofNat 0)], pOf 2862,
   [(pOf 2853, .cells (.l [.int .u64 (.ofNat 8666379929374662555), .int .i64 (.ofNat 2), .int .i64 (.ofNat 1), .int .u64 (.ofNat 15154266338359012955), .int .i64 (.ofNat 2), .int .i64 (.ofNat 0)]))]⟩
noncomputable def enm0_8 : ME := ⟨[.sl ⟨some ⟨pOf 3124, 0⟩, 4080, 4080, 1⟩], pOf 3133,
   [(pOf 3124, .cells (.b enk1 4080))],
   [],
   .tup [.agg [.int .i64 (.ofNat 0), .sl ⟨some ⟨pOf 3141, 0⟩, 2, 2, 3⟩], .int .i64 (.ofNat 0)], pOf 3150,
   [(pOf 3141, .cells (.l [.int .u64 (.ofNat 8666379929374662555), .int .i64 (.ofNat 2), .int .i64 (.ofNat 1), .int .u64 (.ofNat 15154266338359012955), .int .i64 (.ofNat 2), .int .i64 (.ofNat 0)]))]⟩
noncomputable def enm0_9 : ME := ⟨[.sl ⟨some ⟨pOf 3448, 0⟩, 4080, 4080, 1⟩], pOf 3457,
   [(pOf 3448, .cells (.b enk1 4080))],
   [],
   .tup [.agg [.int .i64 (.ofNat 0), .sl ⟨some ⟨pOf 3465, 0⟩, 2, 2, 3⟩], .int .i64 (.ofNat 0)], pOf 3474,
   [(pOf 3465, .cells (.l [.int .u64 (.ofNat 8666379929374662555), .int .i64 (.ofNat 2), .int .i64 (.ofNat 1), .int .u64 (.ofNat 15154266338359012955), .int .i64 (.ofNat 2), .int .i64 (.ofNat 0)]))]⟩
noncomputable def enm0_10 : ME := ⟨[.sl ⟨some ⟨pOf 3618, 0⟩, 4080, 4080, 1⟩], pOf 3627,
   [(pOf 3618, .cells (.b enk2 4080))],
   [],
   .tup [.agg [.int .i64 (.ofNat 0), .sl ⟨some ⟨pOf 3633, 0⟩, 1, 1, 3⟩], .int .i64 (.ofNat 0)], pOf 3637,
   [(pOf 3633, .cells (.l [.int .u64 (.ofNat 8666379929374662555), .int .i64 (.ofNat 2), .int .i64 (.ofNat 1)]))]⟩
noncomputable def enm0_11 : ME := ⟨[.sl ⟨some ⟨pOf 3727, 0⟩, 4080, 4080, 1⟩], pOf 3736,
   [(pOf 3727, .cells (.b enk2 4080))],
   [],
   .tup [.agg [.int .i64 (.ofNat 0), .sl ⟨some ⟨pOf 3742, 0⟩, 1, 1, 3⟩], .int .i64 (.ofNat 0)], pOf 3746,
   [(pOf 3742, .cells (.l [.int .u64 (.ofNat 8666379929374662555), .int .i64 (.ofNat 2), .int .i64 (.ofNat 1)]))]⟩
noncomputable def enes0 : List ME := [enm0_0, enm0_1, enm0_2, enm0_3, enm0_4, enm0_5, enm0_6, enm0_7, enm0_8, enm0_9, enm0_10, enm0_11]
noncomputable def enf1 : Nat → Option FI := overF fns 262 (iMemo enes0)
noncomputable def enm1_0 : ME := ⟨[.ptr (some ⟨pOf 351, 0⟩), .agg [.int .i64 (.ofNat 1), .int .i64 (.ofNat 0), .int .u64 (.ofNat 0)], .sl ⟨some ⟨pOf 806, 0⟩, 1, 1, 0⟩], pOf 816,
   [(pOf 346, .cells (.b (Nat.add (Nat.add (Nat.shiftLeft enk3 32768) (Nat.shiftLeft enk4 65536)) (Nat.shiftLeft enk5 98304)) 262144)),
    (pOf 347, .map .i64 (some (.sl)) []),
    (pOf 348, .cells (.l [.sl ⟨some ⟨pOf 346, 0⟩, 262144, 262144, 1⟩, .map (some (pOf 347)), .sl ⟨none, 0, 0, 0⟩, .ptr none])),
    (pOf 349, .cells (.l [.bool true, .int .i64 (.ofNat 2), .int .i64 (.ofNat 0), .bool false, .bool true, .sl ⟨some ⟨pOf 502, 0⟩, 4096, 4096, 1⟩, .bool true, .int .i64 (.ofNat 3), .int .i64 (.ofNat 0), .bool false, .bool true, .sl ⟨some ⟨pOf 548, 0⟩, 4096, 4096, 1⟩, .bool true, .int .i64 (.ofNat 4), .int .i64 (.ofNat 0), .bool true, .bool true, .sl ⟨some ⟨pOf 712, 0⟩, 4096, 4096, 1⟩, .bool true, .int .i64 (.ofNat 5), .int .i64 (.ofNat 0), .bool true, .bool true, .sl ⟨some ⟨pOf 761, 0⟩, 4096, 4096, 1⟩, .bool false, .int .i64 (.ofNat 0), .int .i64 (.ofNat 0), .bool false, .bool false, .sl ⟨none, 0, 0, 0⟩, .bool false, .int .i64 (.ofNat 0), .int .i64 (.ofNat 0), .bool false, .bool false, .sl ⟨none, 0, 0, 0⟩, .bool false, .int .i64 (.ofNat 0), .int .i64 (.ofNat 0), .bool false, .bool false, .sl ⟨none, 0, 0, 0⟩, .bool false, .int .i64 (.ofNat 0), .int .i64 (.ofNat 0), .bool false, .bool false, .sl ⟨none, 0, 0, 0⟩])),
    (pOf 350, .cells (.l [.ptr (some ⟨pOf 348, 0⟩), .sl ⟨some ⟨pOf 349, 0⟩, 8, 8, 0⟩, .int .i64 (.ofNat 0)])),
    (pOf 351, .cells (.l [.ptr (some ⟨pOf 348, 0⟩), .ptr (some ⟨pOf 350, 0⟩), .int .u64 (.ofNat 1), .int .u64 (.ofNat 64), .int .u64 (.ofNat 2), .int .u64 (.ofNat 3), .int .u64 (.ofNat 0), .int .u64 (.ofNat 0), .int .u64 (.ofNat 0), .int .u64 (.ofNat 0), .int .u64 (.ofNat 0), .sl ⟨none, 0, 0, 0⟩, .sl ⟨some ⟨pOf 446, 0⟩, 2, 2, 1⟩, .sl ⟨none, 0, 0, 0⟩, .int .u64 (.ofNat 1), .int .u64 (.ofNat 64), .int .u64 (.ofNat 2), .int .u64 (.ofNat 3), .int .u64 (.ofNat 0), .int .u64 (.ofNat 0), .int .u64 (.ofNat 0), .int .u64 (.ofNat 0), .int .u64 (.ofNat 0), .sl ⟨some ⟨pOf 776, 0⟩, 2, 2, 1⟩, .sl ⟨some ⟨pOf 676, 0⟩, 2, 2, 1⟩, .sl ⟨some ⟨pOf 781, 0⟩, 2, 2, 1⟩, .bool false, .int .i64 (.negSucc 0)])),
    (pOf 446, .cells (.l [.int .i64 (.ofNat 2), .int .i64 (.ofNat 3)])),
    (pOf 502, .cells (.b enk4 4096)),
    (pOf 548, .cells (.b enk5 4096)),
    (pOf 676, .cells (.l [.int .i64 (.ofNat 2), .int .i64 (.ofNat 3)])),
    (pOf 712, .cells (.b enk6 4096)),
    (pOf 761, .cells (.b enk7 4096)),
    (pOf 776, .cells (.l [.int .i64 (.ofNat 4), .int .i64 (.ofNat 5)])),
    (pOf 781, .cells (.l [.int .i64 (.ofNat 4), .int .i64 (.ofNat 5)])),
    (pOf 806, .cells (.b 97 1))],
   [],
   .tup [.agg [.int .i64 (.ofNat 0), .int .i64 (.ofNat 0)], .agg [.sl ⟨none, 0, 0, 0⟩, .int .i64 (.ofNat 0), .int .i64 (.ofNat 0), .sl ⟨none, 0, 0, 0⟩], .int .i64 (.ofNat 6)], pOf 911,
   []⟩
noncomputable def enm1_1 : ME := ⟨[.ptr (some ⟨pOf 934, 0⟩), .agg [.int .i64 (.ofNat 1), .int .i64 (.ofNat 0), .int .u64 (.ofNat 0)], .sl ⟨some ⟨pOf 1369, 0⟩, 1, 1, 1⟩], pOf 1381,
   [(pOf 929, .cells (.b (Nat.add (Nat.add (Nat.shiftLeft enk3 32768) (Nat.shiftLeft enk4 65536)) (Nat.shiftLeft enk5 98304)) 262144)),
    (pOf 930, .map .i64 (some (.sl)) []),
    (pOf 931, .cells (.l [.sl ⟨some ⟨pOf 929, 0⟩, 262144, 262144, 1⟩, .map (some (pOf 930)), .sl ⟨none, 0, 0, 0⟩, .ptr none])),
    (pOf 932, .cells (.l [.bool true, .int .i64 (.ofNat 2), .int .i64 (.ofNat 0), .bool false, .bool true, .sl ⟨some ⟨pOf 1085, 0⟩, 4096, 4096, 1⟩, .bool true, .int .i64 (.ofNat 3), .int .i64 (.ofNat 0), .bool false, .bool true, .sl ⟨some ⟨pOf 1131, 0⟩, 4096, 4096, 1⟩, .bool true, .int .i64 (.ofNat 4), .int .i64 (.ofNat 0), .bool true, .bool true, .sl ⟨some ⟨pOf 1295, 0⟩, 4096, 4096, 1⟩, .bool true, .int .i64 (.ofNat 5), .int .i64 (.ofNat 0), .bool true, .bool true, .sl ⟨some ⟨pOf 1344, 0⟩, 4096, 4096, 1⟩, .bool false, .int .i64 (.ofNat 0), .int .i64 (.ofNat 0), .bool false, .bool false, .sl ⟨none, 0, 0, 0⟩, .bool false, .int .i64 (.ofNat 0), .int .i64 (.ofNat 0), .bool false, .bool false, .sl ⟨none, 0, 0, 0⟩, .bool false, .int .i64 (.ofNat 0), .int .i64 (.ofNat 0), .bool false, .bool false, .sl ⟨none, 0, 0, 0⟩, .bool false, .int .i64 (.ofNat 0), .int .i64 (.ofNat 0), .bool false, .bool false, .sl ⟨none, 0, 0, 0⟩])),
    (pOf 933, .cells (.l [.ptr (some ⟨pOf 931, 0⟩), .sl ⟨some ⟨pOf 932, 0⟩, 8, 8, 0⟩, .int .i64 (.ofNat 0)])),
    (pOf 934, .cells (.l [.ptr (some ⟨pOf 931, 0⟩), .ptr (some ⟨pOf 933, 0⟩), .int .u64 (.ofNat 1), .int .u64 (.ofNat 64), .int .u64 (.ofNat 2), .int .u64 (.ofNat 3), .int .u64 (.ofNat 0), .int .u64 (.ofNat 0), .int .u64 (.ofNat 0), .int .u64 (.ofNat 0), .int .u64 (.ofNat 0), .sl ⟨none, 0, 0, 0⟩, .sl ⟨some ⟨pOf 1029, 0⟩, 2, 2, 1⟩, .sl ⟨none, 0, 0, 0⟩, .int .u64 (.ofNat 1), .int .u64 (.ofNat 64), .int .u64 (.ofNat 2), .int .u64 (.ofNat 3), .int .u64 (.ofNat 0), .int .u64 (.ofNat 0), .int .u64 (.ofNat 0), .int .u64 (.ofNat 0), .int .u64 (.ofNat 0), .sl ⟨some ⟨pOf 1359, 0⟩, 2, 2, 1⟩, .sl ⟨some ⟨pOf 1259, 0⟩, 2, 2, 1⟩, .sl ⟨some ⟨pOf 1364, 0⟩, 2, 2, 1⟩, .bool false, .int .i64 (.negSucc 0)])),
    (pOf 1029, .cells (.l [.int .i64 (.ofNat 2), .int .i64 (.ofNat 3)])),
    (pOf 1085, .cells (.b enk4 4096)),
    (pOf 1131, .cells (.b enk5 4096)),
    (pOf 1259, .cells (.l [.int .i64 (.ofNat 2), .int .i64 (.ofNat 3)])),
    (pOf 1295, .cells (.b enk6 4096)),
    (pOf 1344, .cells (.b enk7 4096)),
    (pOf 1359, .cells (.l [.int .i64 (.ofNat 4), .int .i64 (.ofNat 5)])),
    (pOf 1364, .cells (.l [.int .i64 (.ofNat 4), .int .i64 (.ofNat 5)])),
    (pOf 1369, .cells (.b 97 1))],
   [],
   .tup [.agg [.int .i64 (.ofNat 0), .int .i64 (.ofNat 0)], .agg [.sl ⟨none, 0, 0, 0⟩, .int .i64 (.ofNat 0), .int .i64 (.ofNat 0), .sl ⟨none, 0, 0, 0⟩], .int .i64 (.ofNat 6)], pOf 1476,
   []⟩
noncomputable def enm1_2 : ME := ⟨[.ptr (some ⟨pOf 934, 0⟩), .agg [.int .i64 (.ofNat 1), .int .i64 (.ofNat 3), .int .u64 (.ofNat 1)], .sl ⟨some ⟨pOf 1748, 0⟩, 1, 1, 1⟩], pOf 1760,
   [(pOf 929, .cells (.b (Nat.add (Nat.add (Nat.shiftLeft enk3 32768) (Nat.shiftLeft enk4 65536)) (Nat.shiftLeft enk5 98304)) 262144)),
    (pOf 930, .map .i64 (some (.sl)) []),
    (pOf 931, .cells (.l [.sl ⟨some ⟨pOf 929, 0⟩, 262144, 262144, 1⟩, .map (some (pOf 930)), .sl ⟨none, 0, 0, 0⟩, .ptr none])),
    (pOf 932, .cells (.l [.bool true, .int .i64 (.ofNat 2), .int .i64 (.ofNat 0), .bool false, .bool true, .sl ⟨some ⟨pOf 1085, 0⟩, 4096, 4096, 1⟩, .bool true, .int .i64 (.ofNat 3), .int .i64 (.ofNat 0), .bool false, .bool true, .sl ⟨some ⟨pOf 1131, 0⟩, 4096, 4096, 1⟩, .bool true, .int .i64 (.ofNat 4), .int .i64 (.ofNat 0), .bool true, .bool true, .sl ⟨some ⟨pOf 1744, 0⟩, 4096, 4096, 1⟩, .bool true, .int .i64 (.ofNat 5), .int .i64 (.ofNat 0), .bool true, .bool true, .sl ⟨some ⟨pOf 1344, 0⟩, 4096, 4096, 1⟩, .bool true, .int .i64 (.ofNat 6), .int .i64 (.ofNat 0), .bool true, .bool true, .sl ⟨some ⟨pOf 1567, 0⟩, 4096, 4096, 1⟩, .bool false, .int .i64 (.ofNat 0), .int .i64 (.ofNat 0), .bool false, .bool false, .sl ⟨none, 0, 0, 0⟩, .bool false, .int .i64 (.ofNat 0), .int .i64 (.ofNat 0), .bool false, .bool false, .sl ⟨none, 0, 0, 0⟩, .bool false, .int .i64 (.ofNat 0), .int .i64 (.ofNat 0), .bool false, .bool false, .sl ⟨none, 0, 0, 0⟩])),
    (pOf 933, .cells (.l [.ptr (some ⟨pOf 931, 0⟩), .sl ⟨some ⟨pOf 932, 0⟩, 8, 8, 0⟩, .int .i64 (.ofNat 0)])),
    (pOf 934, .cells (.l [.ptr (some ⟨pOf 931, 0⟩), .ptr (some ⟨pOf 933, 0⟩), .int .u64 (.ofNat 1), .int .u64 (.ofNat 64), .int .u64 (.ofNat 2), .int .u64 (.ofNat 3), .int .u64 (.ofNat 0), .int .u64 (.ofNat 0), .int .u64 (.ofNat 0), .int .u64 (.ofNat 0), .int .u64 (.ofNat 0), .sl ⟨none, 0, 0, 0⟩, .sl ⟨some ⟨pOf 1029, 0⟩, 2, 2, 1⟩, .sl ⟨none, 0, 0, 0⟩, .int .u64 (.ofNat 1), .int .u64 (.ofNat 64), .int .u64 (.ofNat 2), .int .u64 (.ofNat 3), .int .u64 (.ofNat 0), .int .u64 (.ofNat 0), .int .u64 (.ofNat 0), .int .u64 (.ofNat 0), .int .u64 (.ofNat 0), .sl ⟨some ⟨pOf 1584, 0⟩, 3, 3, 1⟩, .sl ⟨some ⟨pOf 1259, 0⟩, 2, 2, 1⟩, .sl ⟨some ⟨pOf 1589, 0⟩, 3, 3, 1⟩, .bool false, .int .i64 (.negSucc 0)])),
    (pOf 1029, .cells (.l [.int .i64 (.ofNat 2), .int .i64 (.ofNat 3)])),
    (pOf 1085, .cells (.b enk4 4096)),
    (pOf 1131, .cells (.b enk5 4096)),
    (pOf 1259, .cells (.l [.int .i64 (.ofNat 2), .int .i64 (.ofNat 3)])),
    (pOf 1344, .cells (.b enk7 4096)),
    (pOf 1567, .cells (.b (Nat.add enk8 (Nat.shiftLeft enk9 28672)) 4096)),
    (pOf 1584, .cells (.l [.int .i64 (.ofNat 4), .int .i64 (.ofNat 5), .int .i64 (.ofNat 6)])),
    (pOf 1589, .cells (.l [.int .i64 (.ofNat 4), .int .i64 (.ofNat 5), .int .i64 (.ofNat 6)])),
    (pOf 1744, .cells (.b enk10 4096)),
    (pOf 1748, .cells (.b 97 1))],
   [],
   .tup [.agg [.int .i64 (.ofNat 2), .int .i64 (.ofNat 0)], .agg [.sl ⟨some ⟨pOf 1925, 0⟩, 1, 1, 1⟩, .int .i64 (.ofNat 0), .int .i64 (.ofNat 1), .sl ⟨some ⟨pOf 1928, 0⟩, 1, 1, 1⟩], .int .i64 (.ofNat 0)], pOf 1932,
   [(pOf 1925, .cells (.b 97 1)),
    (pOf 1928, .cells (.b 0 1))]⟩
noncomputable def enm1_3 : ME := ⟨[.ptr (some ⟨pOf 934, 0⟩), .agg [.int .i64 (.ofNat 1), .int .i64 (.ofNat 3), .int .u64 (.ofNat 1)], .sl ⟨some ⟨pOf 2070, 0⟩, 1, 1, 0⟩], pOf 2072,
   [(pOf 929, .cells (.b (Nat.add (Nat.add (Nat.shiftLeft enk3 32768) (Nat.shiftLeft enk4 65536)) (Nat.shiftLeft enk5 98304)) 262144)),
    (pOf 930, .map .i64 (some (.sl)) []),
    (pOf 931, .cells (.l [.sl ⟨some ⟨pOf 929, 0⟩, 262144, 262144, 1⟩, .map (some (pOf 930)), .sl ⟨none, 0, 0, 0⟩, .ptr none])),
    (pOf 932, .cells (.l [.bool true, .int .i64 (.ofNat 2), .int .i64 (.ofNat 0), .bool false, .bool true, .sl ⟨some ⟨pOf 1085, 0⟩, 4096, 4096, 1⟩, .bool true, .int .i64 (.ofNat 3), .int .i64 (.ofNat 0), .bool false, .bool true, .sl ⟨some ⟨pOf 1131, 0⟩, 4096, 4096, 1⟩, .bool true, .int .i64 (.ofNat 4), .int .i64 (.ofNat 0), .bool true, .bool true, .sl ⟨some ⟨pOf 1744, 0⟩, 4096, 4096, 1⟩, .bool true, .int .i64 (.ofNat 5), .int .i64 (.ofNat 0), .bool true, .bool true, .sl ⟨some ⟨pOf 1344, 0⟩, 4096, 4096, 1⟩, .bool true, .int .i64 (.ofNat 6), .int .i64 (.ofNat 0), .bool true, .bool true, .sl ⟨some ⟨pOf 2068, 0⟩, 4096, 4096, 1⟩, .bool false, .int .i64 (.ofNat 0), .int .i64 (.ofNat 0), .bool false, .bool false, .sl ⟨none, 0, 0, 0⟩, .bool false, .int .i64 (.ofNat 0), .int .i64 (.ofNat 0), .bool false, .bool false, .sl ⟨none, 0, 0, 0⟩, .bool false, .int .i64 (.ofNat 0), .int .i64 (.ofNat 0), .bool false, .bool false, .sl ⟨none, 0, 0, 0⟩])),
    (pOf 933, .cells (.l [.ptr (some ⟨pOf 931, 0⟩), .sl ⟨some ⟨pOf 932, 0⟩, 8, 8, 0⟩, .int .i64 (.ofNat 0)])),
    (pOf 934, .cells (.l [.ptr (some ⟨pOf 931, 0⟩), .ptr (some ⟨pOf 933, 0⟩), .int .u64 (.ofNat 1), .int .u64 (.ofNat 64), .int .u64 (.ofNat 2), .int .u64 (.ofNat 3), .int .u64 (.ofNat 0), .int .u64 (.ofNat 0), .int .u64 (.ofNat 0), .int .u64 (.ofNat 0), .int .u64 (.ofNat 0), .sl ⟨none, 0, 0, 0⟩, .sl ⟨some ⟨pOf 1029, 0⟩, 2, 2, 1⟩, .sl ⟨none, 0, 0, 0⟩, .int .u64 (.ofNat 1), .int .u64 (.ofNat 64), .int .u64 (.ofNat 2), .int .u64 (.ofNat 3), .int .u64 (.ofNat 0), .int .u64 (.ofNat 0), .int .u64 (.ofNat 0), .int .u64 (.ofNat 0), .int .u64 (.ofNat 0), .sl ⟨some ⟨pOf 1584, 0⟩, 3, 3, 1⟩, .sl ⟨some ⟨pOf 1259, 0⟩, 2, 2, 1⟩, .sl ⟨some ⟨pOf 1589, 0⟩, 3, 3, 1⟩, .bool false, .int .i64 (.negSucc 0)])),
    (pOf 1029, .cells (.l [.int .i64 (.ofNat 2), .int .i64 (.ofNat 3)])),
    (pOf 1085, .cells (.b enk4 4096)),
    (pOf 1131, .cells (.b enk5 4096)),
    (pOf 1259, .cells (.l [.int .i64 (.ofNat 2), .int .i64 (.ofNat 3)])),
    (pOf 1344, .cells (.b enk7 4096)),
    (pOf 1584, .cells (.l [.int .i64 (.ofNat 4), .int .i64 (.ofNat 5), .int .i64 (.ofNat 6)])),
    (pOf 1589, .cells (.l [.int .i64 (.ofNat 4), .int .i64 (.ofNat 5), .int .i64 (.ofNat 6)])),
    (pOf 1744, .cells (.b enk10 4096)),
    (pOf 2068, .cells (.b (Nat.add enk11 (Nat.shiftLeft enk12 28672)) 4096)),
    (pOf 2070, .cells (.b 97 1))],
   [],
   .tup [.agg [.int .i64 (.ofNat 2), .int .i64 (.ofNat 0)], .agg [.sl ⟨some ⟨pOf 2237, 0⟩, 1, 1, 1⟩, .int .i64 (.ofNat 0), .int .i64 (.ofNat 2), .sl ⟨some ⟨pOf 2240, 0⟩, 2, 2, 1⟩], .int .i64 (.ofNat 0)], pOf 2244,
   [(pOf 2237, .cells (.b 97 1)),
    (pOf 2240, .cells (.b 0 2))]⟩
noncomputable def enm1_4 : ME := ⟨[.ptr (some ⟨pOf 934, 0⟩), .agg [.int .i64 (.ofNat 1), .int .i64 (.ofNat 3), .int .u64 (.ofNat 1)], .sl ⟨some ⟨pOf 2250, 0⟩, 1, 1, 1⟩], pOf 2262,
   [(pOf 929, .cells (.b (Nat.add (Nat.add (Nat.shiftLeft enk3 32768) (Nat.shiftLeft enk4 65536)) (Nat.shiftLeft enk5 98304)) 262144)),
    (pOf 930, .map .i64 (some (.sl)) []),
    (pOf 931, .cells (.l [.sl ⟨some ⟨pOf 929, 0⟩, 262144, 262144, 1⟩, .map (some (pOf 930)), .sl ⟨none, 0, 0, 0⟩, .ptr none])),
    (pOf 932, .cells (.l [.bool true, .int .i64 (.ofNat 2), .int .i64 (.ofNat 0), .bool false, .bool true, .sl ⟨some ⟨pOf 1085, 0⟩, 4096, 4096, 1⟩, .bool true, .int .i64 (.ofNat 3), .int .i64 (.ofNat 0), .bool false, .bool true, .sl ⟨some ⟨pOf 1131, 0⟩, 4096, 4096, 1⟩, .bool true, .int .i64 (.ofNat 4), .int .i64 (.ofNat 0), .bool true, .bool true, .sl ⟨some ⟨pOf 1744, 0⟩, 4096, 4096, 1⟩, .bool true, .int .i64 (.ofNat 5), .int .i64 (.ofNat 0), .bool true, .bool true, .sl ⟨some ⟨pOf 1344, 0⟩, 4096, 4096, 1⟩, .bool true, .int .i64 (.ofNat 6), .int .i64 (.ofNat 0), .bool true, .bool true, .sl ⟨some ⟨pOf 2068, 0⟩, 4096, 4096, 1⟩, .bool false, .int .i64 (.ofNat 0), .int .i64 (.ofNat 0), .bool false, .bool false, .sl ⟨none, 0, 0, 0⟩, .bool false, .int .i64 (.ofNat 0), .int .i64 (.ofNat 0), .bool false, .bool false, .sl ⟨none, 0, 0, 0⟩, .bool false, .int .i64 (.ofNat 0), .int .i64 (.ofNat 0), .bool false, .bool false, .sl ⟨none, 0, 0, 0⟩])),
    (pOf 933, .cells (.l [.ptr (some ⟨pOf 931, 0⟩), .sl ⟨some ⟨pOf 932, 0⟩, 8, 8, 0⟩, .int .i64 (.ofNat 0)])),
    (pOf 934, .cells (.l [.ptr (some ⟨pOf 931, 0⟩), .ptr (some ⟨pOf 933, 0⟩), .int .u64 (.ofNat 1), .int .u64 (.ofNat 64), .int .u64 (.ofNat 2), .int .u64 (.ofNat 3), .int .u64 (.ofNat 0), .int .u64 (.ofNat 0), .int .u64 (.ofNat 0), .int .u64 (.ofNat 0), .int .u64 (.ofNat 0), .sl ⟨none, 0, 0, 0⟩, .sl ⟨some ⟨pOf 1029, 0⟩, 2, 2, 1⟩, .sl ⟨none, 0, 0, 0⟩, .int .u64 (.ofNat 1), .int .u64 (.ofNat 64), .int .u64 (.ofNat 2), .int .u64 (.ofNat 3), .int .u64 (.ofNat 0), .int .u64 (.ofNat 0), .int .u64 (.ofNat 0), .int .u64 (.ofNat 0), .int .u64 (.ofNat 0), .sl ⟨some ⟨pOf 1584, 0⟩, 3, 3, 1⟩, .sl ⟨some ⟨pOf 1259, 0⟩, 2, 2, 1⟩, .sl ⟨some ⟨pOf 1589, 0⟩, 3, 3, 1⟩, .bool false, .int .i64 (.negSucc 0)])),
    (pOf 1029, .cells (.l [.int .i64 (.ofNat 2), .int .i64 (.ofNat 3)])),
    (pOf 1085, .cells (.b enk4 4096)),
    (pOf 1131, .cells (.b enk5 4096)),
    (pOf 1259, .cells (.l [.int .i64 (.ofNat 2), .int .i64 (.ofNat 3)])),
    (pOf 1344, .cells (.b enk7 4096)),
    (pOf 1584, .cells (.l [.int .i64 (.ofNat 4), .int .i64 (.ofNat 5), .int .i64 (.ofNat 6)])),
    (pOf 1589, .cells (.l [.int .i64 (.ofNat 4), .int .i64 (.ofNat 5), .int .i64 (.ofNat 6)])),
    (pOf 1744, .cells (.b enk10 4096)),
    (pOf 2068, .cells (.b (Nat.add enk11 (Nat.shiftLeft enk12 28672)) 4096)),
    (pOf 2250, .cells (.b 98 1))],
   [],
   .tup [.agg [.int .i64 (.ofNat 0), .int .i64 (.ofNat 0)], .agg [.sl ⟨none, 0, 0, 0⟩, .int .i64 (.ofNat 0), .int .i64 (.ofNat 0), .sl ⟨none, 0, 0, 0⟩], .int .i64 (.ofNat 6)], pOf 2366,
   []⟩
noncomputable def enm1_5 : ME := ⟨[.ptr (some ⟨pOf 934, 0⟩), .agg [.int .i64 (.ofNat 1), .int .i64 (.ofNat 3), .int .u64 (.ofNat 2)], .sl ⟨some ⟨pOf 3042, 0⟩, 1, 1, 0⟩], pOf 3052,
   [(pOf 929, .cells (.b (Nat.add (Nat.add (Nat.shiftLeft enk3 32768) (Nat.shiftLeft enk4 65536)) (Nat.shiftLeft enk5 98304)) 262144)),
    (pOf 930, .map .i64 (some (.sl)) []),
    (pOf 931, .cells (.l [.sl ⟨some ⟨pOf 929, 0⟩, 262144, 262144, 1⟩, .map (some (pOf 930)), .sl ⟨none, 0, 0, 0⟩, .ptr none])),
    (pOf 932, .cells (.l [.bool true, .int .i64 (.ofNat 2), .int .i64 (.ofNat 0), .bool false, .bool true, .sl ⟨some ⟨pOf 1085, 0⟩, 4096, 4096, 1⟩, .bool true, .int .i64 (.ofNat 3), .int .i64 (.ofNat 0), .bool false, .bool true, .sl ⟨some ⟨pOf 1131, 0⟩, 4096, 4096, 1⟩, .bool true, .int .i64 (.ofNat 4), .int .i64 (.ofNat 0), .bool true, .bool true, .sl ⟨some ⟨pOf 2763, 0⟩, 4096, 4096, 1⟩, .bool true, .int .i64 (.ofNat 5), .int .i64 (.ofNat 0), .bool true, .bool true, .sl ⟨some ⟨pOf 1344, 0⟩, 4096, 4096, 1⟩, .bool true, .int .i64 (.ofNat 6), .int .i64 (.ofNat 0), .bool true, .bool true, .sl ⟨some ⟨pOf 2581, 0⟩, 4096, 4096, 1⟩, .bool true, .int .i64 (.ofNat 7), .int .i64 (.ofNat 0), .bool true, .bool true, .sl ⟨some ⟨pOf 2419, 0⟩, 4096, 4096, 1⟩, .bool false, .int .i64 (.ofNat 0), .int .i64 (.ofNat 0), .bool false, .bool false, .sl ⟨none, 0, 0, 0⟩, .bool false, .int .i64 (.ofNat 0), .int .i64 (.ofNat 0), .bool false, .bool false, .sl ⟨none, 0, 0, 0⟩])),
    (pOf 933, .cells (.l [.ptr (some ⟨pOf 931, 0⟩), .sl ⟨some ⟨pOf 932, 0⟩, 8, 8, 0⟩, .int .i64 (.ofNat 0)])),
    (pOf 934, .cells (.l [.ptr (some ⟨pOf 931, 0⟩), .ptr (some ⟨pOf 933, 0⟩), .int .u64 (.ofNat 1), .int .u64 (.ofNat 64), .int .u64 (.ofNat 2), .int .u64 (.ofNat 3), .int .u64 (.ofNat 0), .int .u64 (.ofNat 0), .int .u64 (.ofNat 0), .int .u64 (.ofNat 0), .int .u64 (.ofNat 0), .sl ⟨none, 0, 0, 0⟩, .sl ⟨some ⟨pOf 1029, 0⟩, 2, 2, 1⟩, .sl ⟨none, 0, 0, 0⟩, .int .u64 (.ofNat 1), .int .u64 (.ofNat 64), .int .u64 (.ofNat 2), .int .u64 (.ofNat 3), .int .u64 (.ofNat 0), .int .u64 (.ofNat 0), .int .u64 (.ofNat 0), .int .u64 (.ofNat 0), .int .u64 (.ofNat 0), .sl ⟨some ⟨pOf 2438, 0⟩, 4, 4, 1⟩, .sl ⟨some ⟨pOf 1259, 0⟩, 2, 2, 1⟩, .sl ⟨some ⟨pOf 2443, 0⟩, 4, 4, 1⟩, .bool false, .int .i64 (.negSucc 0)])),
    (pOf 1029, .cells (.l [.int .i64 (.ofNat 2), .int .i64 (.ofNat 3)])),
    (pOf 1085, .cells (.b enk4 4096)),
    (pOf 1131, .cells (.b enk5 4096)),
    (pOf 1259, .cells (.l [.int .i64 (.ofNat 2), .int .i64 (.ofNat 3)])),
    (pOf 1344, .cells (.b enk7 4096)),
    (pOf 2419, .cells (.b enk13 4096)),
    (pOf 2438, .cells (.l [.int .i64 (.ofNat 4), .int .i64 (.ofNat 5), .int .i64 (.ofNat 6), .int .i64 (.ofNat 7)])),
    (pOf 2443, .cells (.l [.int .i64 (.ofNat 4), .int .i64 (.ofNat 5), .int .i64 (.ofNat 6), .int .i64 (.ofNat 7)])),
    (pOf 2581, .cells (.b (Nat.add enk14 (Nat.shiftLeft enk15 28672)) 4096)),
    (pOf 2763, .cells (.b enk16 4096)),
    (pOf 3042, .cells (.b 97 1))],
   [],
   .tup [.agg [.int .i64 (.ofNat 2), .int .i64 (.ofNat 0)], .agg [.sl ⟨some ⟨pOf 3251, 0⟩, 1, 1, 1⟩, .int .i64 (.ofNat 0), .int .i64 (.ofNat 2), .sl ⟨some ⟨pOf 3254, 0⟩, 2, 2, 1⟩], .int .i64 (.ofNat 0)], pOf 3258,
   [(pOf 3251, .cells (.b 97 1)),
    (pOf 3254, .cells (.b 0 2))]⟩
noncomputable def enm1_6 : ME := ⟨[.ptr (some ⟨pOf 934, 0⟩), .agg [.int .i64 (.ofNat 1), .int .i64 (.ofNat 3), .int .u64 (.ofNat 1)], .sl ⟨some ⟨pOf 3653, 0⟩, 1, 1, 0⟩], pOf 3655,
   [(pOf 929, .cells (.b (Nat.add (Nat.add (Nat.shiftLeft enk3 32768) (Nat.shiftLeft enk4 65536)) (Nat.shiftLeft enk5 98304)) 262144)),
    (pOf 930, .map .i64 (some (.sl)) []),
    (pOf 931, .cells (.l [.sl ⟨some ⟨pOf 929, 0⟩, 262144, 262144, 1⟩, .map (some (pOf 930)), .sl ⟨none, 0, 0, 0⟩, .ptr none])),
    (pOf 932, .cells (.l [.bool true, .int .i64 (.ofNat 2), .int .i64 (.ofNat 0), .bool false, .bool true, .sl ⟨some ⟨pOf 1085, 0⟩, 4096, 4096, 1⟩, .bool true, .int .i64 (.ofNat 3), .int .i64 (.ofNat 0), .bool false, .bool true, .sl ⟨some ⟨pOf 1131, 0⟩, 4096, 4096, 1⟩, .bool true, .int .i64 (.ofNat 4), .int .i64 (.ofNat 0), .bool true, .bool true, .sl ⟨some ⟨pOf 3548, 0⟩, 4096, 4096, 1⟩, .bool true, .int .i64 (.ofNat 5), .int .i64 (.ofNat 0), .bool true, .bool true, .sl ⟨some ⟨pOf 1344, 0⟩, 4096, 4096, 1⟩, .bool true, .int .i64 (.ofNat 6), .int .i64 (.ofNat 0), .bool true, .bool true, .sl ⟨some ⟨pOf 3375, 0⟩, 4096, 4096, 1⟩, .bool true, .int .i64 (.ofNat 7), .int .i64 (.ofNat 0), .bool true, .bool true, .sl ⟨some ⟨pOf 2419, 0⟩, 4096, 4096, 1⟩, .bool false, .int .i64 (.ofNat 0), .int .i64 (.ofNat 0), .bool false, .bool false, .sl ⟨none, 0, 0, 0⟩, .bool false, .int .i64 (.ofNat 0), .int .i64 (.ofNat 0), .bool false, .bool false, .sl ⟨none, 0, 0, 0⟩])),
    (pOf 933, .cells (.l [.ptr (some ⟨pOf 931, 0⟩), .sl ⟨some ⟨pOf 932, 0⟩, 8, 8, 0⟩, .int .i64 (.ofNat 0)])),
    (pOf 934, .cells (.l [.ptr (some ⟨pOf 931, 0⟩), .ptr (some ⟨pOf 933, 0⟩), .int .u64 (.ofNat 1), .int .u64 (.ofNat 64), .int .u64 (.ofNat 2), .int .u64 (.ofNat 3), .int .u64 (.ofNat 0), .int .u64 (.ofNat 0), .int .u64 (.ofNat 0), .int .u64 (.ofNat 0), .int .u64 (.ofNat 0), .sl ⟨none, 0, 0, 0⟩, .sl ⟨some ⟨pOf 1029, 0⟩, 2, 2, 1⟩, .sl ⟨none, 0, 0, 0⟩, .int .u64 (.ofNat 1), .int .u64 (.ofNat 64), .int .u64 (.ofNat 2), .int .u64 (.ofNat 3), .int .u64 (.ofNat 0), .int .u64 (.ofNat 0), .int .u64 (.ofNat 0), .int .u64 (.ofNat 0), .int .u64 (.ofNat 0), .sl ⟨some ⟨pOf 2438, 0⟩, 4, 4, 1⟩, .sl ⟨some ⟨pOf 1259, 0⟩, 2, 2, 1⟩, .sl ⟨some ⟨pOf 2443, 0⟩, 4, 4, 1⟩, .bool false, .int .i64 (.negSucc 0)])),
    (pOf 1029, .cells (.l [.int .i64 (.ofNat 2), .int .i64 (.ofNat 3)])),
    (pOf 1085, .cells (.b enk4 4096)),
    (pOf 1131, .cells (.b enk5 4096)),
    (pOf 1259, .cells (.l [.int .i64 (.ofNat 2), .int .i64 (.ofNat 3)])),
    (pOf 1344, .cells (.b enk7 4096)),
    (pOf 2419, .cells (.b enk13 4096)),
    (pOf 2438, .cells (.l [.int .i64 (.ofNat 4), .int .i64 (.ofNat 5), .int .i64 (.ofNat 6), .int .i64 (.ofNat 7)])),
    (pOf 2443, .cells (.l [.int .i64 (.ofNat 4), .int .i64 (.ofNat 5), .int .i64 (.ofNat 6), .int .i64 (.ofNat 7)])),
    (pOf 3375, .cells (.b (Nat.add enk17 (Nat.shiftLeft enk18 28672)) 4096)),
    (pOf 3548, .cells (.b enk19 4096)),
    (pOf 3653, .cells (.b 97 1))],
   [],
   .tup [.agg [.int .i64 (.ofNat 0), .int .i64 (.ofNat 0)], .agg [.sl ⟨none, 0, 0, 0⟩, .int .i64 (.ofNat 0), .int .i64 (.ofNat 0), .sl ⟨none, 0, 0, 0⟩], .int .i64 (.ofNat 6)], pOf 3761,
   []⟩
noncomputable def enes1 : List ME := [enm1_0, enm1_1, enm1_2, enm1_3, enm1_4, enm1_5, enm1_6]
noncomputable def enf2 : Nat → Option FI := overF enf1 56 (iMemo enes1)
noncomputable def enm2_0 : ME := ⟨[.ptr (some ⟨pOf 351, 0⟩), .agg [.int .i64 (.ofNat 1), .int .i64 (.ofNat 0), .int .u64 (.ofNat 0)], .sl ⟨none, 0, 0, 0⟩, .sl ⟨none, 0, 0, 0⟩], pOf 784,
   [(pOf 346, .cells (.b (Nat.add (Nat.add (Nat.shiftLeft enk3 32768) (Nat.shiftLeft enk4 65536)) (Nat.shiftLeft enk5 98304)) 262144)),
    (pOf 347, .map .i64 (some (.sl)) []),
    (pOf 348, .cells (.l [.sl ⟨some ⟨pOf 346, 0⟩, 262144, 262144, 1⟩, .map (some (pOf 347)), .sl ⟨none, 0, 0, 0⟩, .ptr none])),
    (pOf 349, .cells (.l [.bool true, .int .i64 (.ofNat 2), .int .i64 (.ofNat 0), .bool false, .bool true, .sl ⟨some ⟨pOf 502, 0⟩, 4096, 4096, 1⟩, .bool true, .int .i64 (.ofNat 3), .int .i64 (.ofNat 0), .bool false, .bool true, .sl ⟨some ⟨pOf 548, 0⟩, 4096, 4096, 1⟩, .bool true, .int .i64 (.ofNat 4), .int .i64 (.ofNat 0), .bool true, .bool true, .sl ⟨some ⟨pOf 712, 0⟩, 4096, 4096, 1⟩, .bool true, .int .i64 (.ofNat 5), .int .i64 (.ofNat 0), .bool true, .bool true, .sl ⟨some ⟨pOf 761, 0⟩, 4096, 4096, 1⟩, .bool false, .int .i64 (.ofNat 0), .int .i64 (.ofNat 0), .bool false, .bool false, .sl ⟨none, 0, 0, 0⟩, .bool false, .int .i64 (.ofNat 0), .int .i64 (.ofNat 0), .bool false, .bool false, .sl ⟨none, 0, 0, 0⟩, .bool false, .int .i64 (.ofNat 0), .int .i64 (.ofNat 0), .bool false, .bool false, .sl ⟨none, 0, 0, 0⟩, .bool false, .int .i64 (.ofNat 0), .int .i64 (.ofNat 0), .bool false, .bool false, .sl ⟨none, 0, 0, 0⟩])),
    (pOf 350, .cells (.l [.ptr (some ⟨pOf 348, 0⟩), .sl ⟨some ⟨pOf 349, 0⟩, 8, 8, 0⟩, .int .i64 (.ofNat 0)])),
    (pOf 351, .cells (.l [.ptr (some ⟨pOf 348, 0⟩), .ptr (some ⟨pOf 350, 0⟩), .int .u64 (.ofNat 1), .int .u64 (.ofNat 64), .int .u64 (.ofNat 2), .int .u64 (.ofNat 3), .int .u64 (.ofNat 0), .int .u64 (.ofNat 0), .int .u64 (.ofNat 0), .int .u64 (.ofNat 0), .int .u64 (.ofNat 0), .sl ⟨none, 0, 0, 0⟩, .sl ⟨some ⟨pOf 446, 0⟩, 2, 2, 1⟩, .sl ⟨none, 0, 0, 0⟩, .int .u64 (.ofNat 1), .int .u64 (.ofNat 64), .int .u64 (.ofNat 2), .int .u64 (.ofNat 3), .int .u64 (.ofNat 0), .int .u64 (.ofNat 0), .int .u64 (.ofNat 0), .int .u64 (.ofNat 0), .int .u64 (.ofNat 0), .sl ⟨some ⟨pOf 776, 0⟩, 2, 2, 1⟩, .sl ⟨some ⟨pOf 676, 0⟩, 2, 2, 1⟩, .sl ⟨some ⟨pOf 781, 0⟩, 2, 2, 1⟩, .bool false, .int .i64 (.negSucc 0)])),
    (pOf 446, .cells (.l [.int .i64 (.ofNat 2), .int .i64 (.ofNat 3)])),
    (pOf 502, .cells (.b enk4 4096)),
    (pOf 548, .cells (.b enk5 4096)),
    (pOf 676, .cells (.l [.int .i64 (.ofNat 2), .int .i64 (.ofNat 3)])),
    (pOf 712, .cells (.b enk6 4096)),
    (pOf 761, .cells (.b enk7 4096)),
    (pOf 776, .cells (.l [.int .i64 (.ofNat 4), .int .i64 (.ofNat 5)])),
    (pOf 781, .cells (.l [.int .i64 (.ofNat 4), .int .i64 (.ofNat 5)]))],
   [],
   .tup [.agg [.int .i64 (.ofNat 0), .int .i64 (.ofNat 0), .int .u64 (.ofNat 0)], .int .i64 (.ofNat 2)], pOf 787,
   []⟩
noncomputable def enm2_1 : ME := ⟨[.ptr (some ⟨pOf 351, 0⟩), .agg [.int .i64 (.ofNat 1), .int .i64 (.ofNat 0), .int .u64 (.ofNat 0)], .sl ⟨some ⟨pOf 788, 0⟩, 1, 1, 0⟩, .sl ⟨some ⟨pOf 789, 0⟩, 131073, 131073, 0⟩], pOf 791,
   [(pOf 346, .cells (.b (Nat.add (Nat.add (Nat.shiftLeft enk3 32768) (Nat.shiftLeft enk4 65536)) (Nat.shiftLeft enk5 98304)) 262144)),
    (pOf 347, .map .i64 (some (.sl)) []),
    (pOf 348, .cells (.l [.sl ⟨some ⟨pOf 346, 0⟩, 262144, 262144, 1⟩, .map (some (pOf 347)), .sl ⟨none, 0, 0, 0⟩, .ptr none])),
    (pOf 349, .cells (.l [.bool true, .int .i64 (.ofNat 2), .int .i64 (.ofNat 0), .bool false, .bool true, .sl ⟨some ⟨pOf 502, 0⟩, 4096, 4096, 1⟩, .bool true, .int .i64 (.ofNat 3), .int .i64 (.ofNat 0), .bool false, .bool true, .sl ⟨some ⟨pOf 548, 0⟩, 4096, 4096, 1⟩, .bool true, .int .i64 (.ofNat 4), .int .i64 (.ofNat 0), .bool true, .bool true, .sl ⟨some ⟨pOf 712, 0⟩, 4096, 4096, 1⟩, .bool true, .int .i64 (.ofNat 5), .int .i64 (.ofNat 0), .bool true, .bool true, .sl ⟨some ⟨pOf 761, 0⟩, 4096, 4096, 1⟩, .bool false, .int .i64 (.ofNat 0), .int .i64 (.ofNat 0), .bool false, .bool false, .sl ⟨none, 0, 0, 0⟩, .bool false, .int .i64 (.ofNat 0), .int .i64 (.ofNat 0), .bool false, .bool false, .sl ⟨none, 0, 0, 0⟩, .bool false, .int .i64 (.ofNat 0), .int .i64 (.ofNat 0), .bool false, .bool false, .sl ⟨none, 0, 0, 0⟩, .bool false, .int .i64 (.ofNat 0), .int .i64 (.ofNat 0), .bool false, .bool false, .sl ⟨none, 0, 0, 0⟩])),
    (pOf 350, .cells (.l [.ptr (some ⟨pOf 348, 0⟩), .sl ⟨some ⟨pOf 349, 0⟩, 8, 8, 0⟩, .int .i64 (.ofNat 0)])),
    (pOf 351, .cells (.l [.ptr (some ⟨pOf 348, 0⟩), .ptr (some ⟨pOf 350, 0⟩), .int .u64 (.ofNat 1), .int .u64 (.ofNat 64), .int .u64 (.ofNat 2), .int .u64 (.ofNat 3), .int .u64 (.ofNat 0), .int .u64 (.ofNat 0), .int .u64 (.ofNat 0), .int .u64 (.ofNat 0), .int .u64 (.ofNat 0), .sl ⟨none, 0, 0, 0⟩, .sl ⟨some ⟨pOf 446, 0⟩, 2, 2, 1⟩, .sl ⟨none, 0, 0, 0⟩, .int .u64 (.ofNat 1), .int .u64 (.ofNat 64), .int .u64 (.ofNat 2), .int .u64 (.ofNat 3), .int .u64 (.ofNat 0), .int .u64 (.ofNat 0), .int .u64 (.ofNat 0), .int .u64 (.ofNat 0), .int .u64 (.ofNat 0), .sl ⟨some ⟨pOf 776, 0⟩, 2, 2, 1⟩, .sl ⟨some ⟨pOf 676, 0⟩, 2, 2, 1⟩, .sl ⟨some ⟨pOf 781, 0⟩, 2, 2, 1⟩, .bool false, .int .i64 (.negSucc 0)])),
    (pOf 446, .cells (.l [.int .i64 (.ofNat 2), .int .i64 (.ofNat 3)])),
    (pOf 502, .cells (.b enk4 4096)),
    (pOf 548, .cells (.b enk5 4096)),
    (pOf 676, .cells (.l [.int .i64 (.ofNat 2), .int .i64 (.ofNat 3)])),
    (pOf 712, .cells (.b enk6 4096)),
    (pOf 761, .cells (.b enk7 4096)),
    (pOf 776, .cells (.l [.int .i64 (.ofNat 4), .int .i64 (.ofNat 5)])),
    (pOf 781, .cells (.l [.int .i64 (.ofNat 4), .int .i64 (.ofNat 5)])),
    (pOf 788, .cells (.b 97 1)),
    (pOf 789, .cells (.b 0 131073))],
   [],
   .tup [.agg [.int .i64 (.ofNat 0), .int .i64 (.ofNat 0), .int .u64 (.ofNat 0)], .int .i64 (.ofNat 2)], pOf 794,
   []⟩
noncomputable def enm2_2 : ME := ⟨[.ptr (some ⟨pOf 351, 0⟩), .agg [.int .i64 (.ofNat 1), .int .i64 (.ofNat 0), .int .u64 (.ofNat 0)], .sl ⟨some ⟨pOf 794, 0⟩, 1, 1, 0⟩, .sl ⟨some ⟨pOf 795, 0⟩, 70000, 70000, 0⟩], pOf 797,
   [(pOf 346, .cells (.b (Nat.add (Nat.add (Nat.shiftLeft enk3 32768) (Nat.shiftLeft enk4 65536)) (Nat.shiftLeft enk5 98304)) 262144)),
    (pOf 347, .map .i64 (some (.sl)) []),
    (pOf 348, .cells (.l [.sl ⟨some ⟨pOf 346, 0⟩, 262144, 262144, 1⟩, .map (some (pOf 347)), .sl ⟨none, 0, 0, 0⟩, .ptr none])),
    (pOf 349, .cells (.l [.bool true, .int .i64 (.ofNat 2), .int .i64 (.ofNat 0), .bool false, .bool true, .sl ⟨some ⟨pOf 502, 0⟩, 4096, 4096, 1⟩, .bool true, .int .i64 (.ofNat 3), .int .i64 (.ofNat 0), .bool false, .bool true, .sl ⟨some ⟨pOf 548, 0⟩, 4096, 4096, 1⟩, .bool true, .int .i64 (.ofNat 4), .int .i64 (.ofNat 0), .bool true, .bool true, .sl ⟨some ⟨pOf 712, 0⟩, 4096, 4096, 1⟩, .bool true, .int .i64 (.ofNat 5), .int .i64 (.ofNat 0), .bool true, .bool true, .sl ⟨some ⟨pOf 761, 0⟩, 4096, 4096, 1⟩, .bool false, .int .i64 (.ofNat 0), .int .i64 (.ofNat 0), .bool false, .bool false, .sl ⟨none, 0, 0, 0⟩, .bool false, .int .i64 (.ofNat 0), .int .i64 (.ofNat 0), .bool false, .bool false, .sl ⟨none, 0, 0, 0⟩, .bool false, .int .i64 (.ofNat 0), .int .i64 (.ofNat 0), .bool false, .bool false, .sl ⟨none, 0, 0, 0⟩, .bool false, .int .i64 (.ofNat 0), .int .i64 (.ofNat 0), .bool false, .bool false, .sl ⟨none, 0, 0, 0⟩])),
    (pOf 350, .cells (.l [.ptr (some ⟨pOf 348, 0⟩), .sl ⟨some ⟨pOf 349, 0⟩, 8, 8, 0⟩, .int .i64 (.ofNat 0)])),
    (pOf 351, .cells (.l [.ptr (some ⟨pOf 348, 0⟩), .ptr (some ⟨pOf 350, 0⟩), .int .u64 (.ofNat 1), .int .u64 (.ofNat 64), .int .u64 (.ofNat 2), .int .u64 (.ofNat 3), .int .u64 (.ofNat 0), .int .u64 (.ofNat 0), .int .u64 (.ofNat 0), .int .u64 (.ofNat 0), .int .u64 (.ofNat 0), .sl ⟨none, 0, 0, 0⟩, .sl ⟨some ⟨pOf 446, 0⟩, 2, 2, 1⟩, .sl ⟨none, 0, 0, 0⟩, .int .u64 (.ofNat 1), .int .u64 (.ofNat 64), .int .u64 (.ofNat 2), .int .u64 (.ofNat 3), .int .u64 (.ofNat 0), .int .u64 (.ofNat 0), .int .u64 (.ofNat 0), .int .u64 (.ofNat 0), .int .u64 (.ofNat 0), .sl ⟨some ⟨pOf 776, 0⟩, 2, 2, 1⟩, .sl ⟨some ⟨pOf 676, 0⟩, 2, 2, 1⟩, .sl ⟨some ⟨pOf 781, 0⟩, 2, 2, 1⟩, .bool false, .int .i64 (.negSucc 0)])),
    (pOf 446, .cells (.l [.int .i64 (.ofNat 2), .int .i64 (.ofNat 3)])),
    (pOf 502, .cells (.b enk4 4096)),
    (pOf 548, .cells (.b enk5 4096)),
    (pOf 676, .cells (.l [.int .i64 (.ofNat 2), .int .i64 (.ofNat 3)])),
    (pOf 712, .cells (.b enk6 4096)),
    (pOf 761, .cells (.b enk7 4096)),
    (pOf 776, .cells (.l [.int .i64 (.ofNat 4), .int .i64 (.ofNat 5)])),
    (pOf 781, .cells (.l [.int .i64 (.ofNat 4), .int .i64 (.ofNat 5)])),
    (pOf 794, .cells (.b 97 1)),
    (pOf 795, .cells (.b 0 70000))],
   [],
   .tup [.agg [.int .i64 (.ofNat 0), .int .i64 (.ofNat 0), .int .u64 (.ofNat 0)], .int .i64 (.ofNat 9)], pOf 806,
   []⟩
noncomputable def enm2_3 : ME := ⟨[.ptr (some ⟨pOf 934, 0⟩), .agg [.int .i64 (.ofNat 1), .int .i64 (.ofNat 0), .int .u64 (.ofNat 0)], .sl ⟨some ⟨pOf 1369, 0⟩, 1, 1, 1⟩, .sl ⟨some ⟨pOf 1370, 0⟩, 1, 1, 0⟩], pOf 1372,
   [(pOf 929, .cells (.b (Nat.add (Nat.add (Nat.shiftLeft enk3 32768) (Nat.shiftLeft enk4 65536)) (Nat.shiftLeft enk5 98304)) 262144)),
    (pOf 930, .map .i64 (some (.sl)) []),
    (pOf 931, .cells (.l [.sl ⟨some ⟨pOf 929, 0⟩, 262144, 262144, 1⟩, .map (some (pOf 930)), .sl ⟨none, 0, 0, 0⟩, .ptr none])),
    (pOf 933, .cells (.l [.ptr (some ⟨pOf 931, 0⟩), .sl ⟨some ⟨pOf 932, 0⟩, 8, 8, 0⟩, .int .i64 (.ofNat 0)])),
    (pOf 1029, .cells (.l [.int .i64 (.ofNat 2), .int .i64 (.ofNat 3)])),
    (pOf 1085, .cells (.b enk4 4096)),
    (pOf 1131, .cells (.b enk5 4096)),
    (pOf 1259, .cells (.l [.int .i64 (.ofNat 2), .int .i64 (.ofNat 3)])),
    (pOf 1295, .cells (.b enk6 4096)),
    (pOf 1344, .cells (.b enk7 4096)),
    (pOf 1359, .cells (.l [.int .i64 (.ofNat 4), .int .i64 (.ofNat 5)])),
    (pOf 1364, .cells (.l [.int .i64 (.ofNat 4), .int .i64 (.ofNat 5)])),
    (pOf 1369, .cells (.b 97 1)),
    (pOf 1370, .cells (.b 0 1))],
   [(pOf 932, .cells (.l [.bool true, .int .i64 (.ofNat 2), .int .i64 (.ofNat 0), .bool false, .bool true, .sl ⟨some ⟨pOf 1085, 0⟩, 4096, 4096, 1⟩, .bool true, .int .i64 (.ofNat 3), .int .i64 (.ofNat 0), .bool false, .bool true, .sl ⟨some ⟨pOf 1131, 0⟩, 4096, 4096, 1⟩, .bool true, .int .i64 (.ofNat 4), .int .i64 (.ofNat 0), .bool true, .bool true, .sl ⟨some ⟨pOf 1295, 0⟩, 4096, 4096, 1⟩, .bool true, .int .i64 (.ofNat 5), .int .i64 (.ofNat 0), .bool true, .bool true, .sl ⟨some ⟨pOf 1344, 0⟩, 4096, 4096, 1⟩, .bool false, .int .i64 (.ofNat 0), .int .i64 (.ofNat 0), .bool false, .bool false, .sl ⟨none, 0, 0, 0⟩, .bool false, .int .i64 (.ofNat 0), .int .i64 (.ofNat 0), .bool false, .bool false, .sl ⟨none, 0, 0, 0⟩, .bool false, .int .i64 (.ofNat 0), .int .i64 (.ofNat 0), .bool false, .bool false, .sl ⟨none, 0, 0, 0⟩, .bool false, .int .i64 (.ofNat 0), .int .i64 (.ofNat 0), .bool false, .bool false, .sl ⟨none, 0, 0, 0⟩])),
    (pOf 934, .cells (.l [.ptr (some ⟨pOf 931, 0⟩), .ptr (some ⟨pOf 933, 0⟩), .int .u64 (.ofNat 1), .int .u64 (.ofNat 64), .int .u64 (.ofNat 2), .int .u64 (.ofNat 3), .int .u64 (.ofNat 0), .int .u64 (.ofNat 0), .int .u64 (.ofNat 0), .int .u64 (.ofNat 0), .int .u64 (.ofNat 0), .sl ⟨none, 0, 0, 0⟩, .sl ⟨some ⟨pOf 1029, 0⟩, 2, 2, 1⟩, .sl ⟨none, 0, 0, 0⟩, .int .u64 (.ofNat 1), .int .u64 (.ofNat 64), .int .u64 (.ofNat 2), .int .u64 (.ofNat 3), .int .u64 (.ofNat 0), .int .u64 (.ofNat 0), .int .u64 (.ofNat 0), .int .u64 (.ofNat 0), .int .u64 (.ofNat 0), .sl ⟨some ⟨pOf 1359, 0⟩, 2, 2, 1⟩, .sl ⟨some ⟨pOf 1259, 0⟩, 2, 2, 1⟩, .sl ⟨some ⟨pOf 1364, 0⟩, 2, 2, 1⟩, .bool false, .int .i64 (.negSucc 0)]))],
   .tup [.agg [.int .i64 (.ofNat 1), .int .i64 (.ofNat 3), .int .u64 (.ofNat 1)], .int .i64 (.ofNat 0)], pOf 1746,
   [(pOf 932, .cells (.l [.bool true, .int .i64 (.ofNat 2), .int .i64 (.ofNat 0), .bool false, .bool true, .sl ⟨some ⟨pOf 1085, 0⟩, 4096, 4096, 1⟩, .bool true, .int .i64 (.ofNat 3), .int .i64 (.ofNat 0), .bool false, .bool true, .sl ⟨some ⟨pOf 1131, 0⟩, 4096, 4096, 1⟩, .bool true, .int .i64 (.ofNat 4), .int .i64 (.ofNat 0), .bool true, .bool true, .sl ⟨some ⟨pOf 1744, 0⟩, 4096, 4096, 1⟩, .bool true, .int .i64 (.ofNat 5), .int .i64 (.ofNat 0), .bool true, .bool true, .sl ⟨some ⟨pOf 1344, 0⟩, 4096, 4096, 1⟩, .bool true, .int .i64 (.ofNat 6), .int .i64 (.ofNat 0), .bool true, .bool true, .sl ⟨some ⟨pOf 1567, 0⟩, 4096, 4096, 1⟩, .bool false, .int .i64 (.ofNat 0), .int .i64 (.ofNat 0), .bool false, .bool false, .sl ⟨none, 0, 0, 0⟩, .bool false, .int .i64 (.ofNat 0), .int .i64 (.ofNat 0), .bool false, .bool false, .sl ⟨none, 0, 0, 0⟩, .bool false, .int .i64 (.ofNat 0), .int .i64 (.ofNat 0), .bool false, .bool false, .sl ⟨none, 0, 0, 0⟩])),
    (pOf 934, .cells (.l [.ptr (some ⟨pOf 931, 0⟩), .ptr (some ⟨pOf 933, 0⟩), .int .u64 (.ofNat 1), .int .u64 (.ofNat 64), .int .u64 (.ofNat 2), .int .u64 (.ofNat 3), .int .u64 (.ofNat 0), .int .u64 (.ofNat 0), .int .u64 (.ofNat 0), .int .u64 (.ofNat 0), .int .u64 (.ofNat 0), .sl ⟨none, 0, 0, 0⟩, .sl ⟨some ⟨pOf 1029, 0⟩, 2, 2, 1⟩, .sl ⟨none, 0, 0, 0⟩, .int .u64 (.ofNat 1), .int .u64 (.ofNat 64), .int .u64 (.ofNat 2), .int .u64 (.ofNat 3), .int .u64 (.ofNat 0), .int .u64 (.ofNat 0), .int .u64 (.ofNat 0), .int .u64 (.ofNat 0), .int .u64 (.ofNat 0), .sl ⟨some ⟨pOf 1584, 0⟩, 3, 3, 1⟩, .sl ⟨some ⟨pOf 1259, 0⟩, 2, 2, 1⟩, .sl ⟨some ⟨pOf 1589, 0⟩, 3, 3, 1⟩, .bool false, .int .i64 (.negSucc 0)])),
    (pOf 1567, .cells (.b (Nat.add enk8 (Nat.shiftLeft enk9 28672)) 4096)),
    (pOf 1584, .cells (.l [.int .i64 (.ofNat 4), .int .i64 (.ofNat 5), .int .i64 (.ofNat 6)])),
    (pOf 1589, .cells (.l [.int .i64 (.ofNat 4), .int .i64 (.ofNat 5), .int .i64 (.ofNat 6)])),
    (pOf 1744, .cells (.b enk10 4096))]⟩
noncomputable def enm2_4 : ME := ⟨[.ptr (some ⟨pOf 934, 0⟩), .agg [.int .i64 (.ofNat 1), .int .i64 (.ofNat 3), .int .u64 (.ofNat 1)], .sl ⟨some ⟨pOf 1748, 0⟩, 1, 1, 1⟩, .sl ⟨some ⟨pOf 1749, 0⟩, 2, 2, 0⟩], pOf 1751,
   [(pOf 929, .cells (.b (Nat.add (Nat.add (Nat.shiftLeft enk3 32768) (Nat.shiftLeft enk4 65536)) (Nat.shiftLeft enk5 98304)) 262144)),
    (pOf 930, .map .i64 (some (.sl)) []),
    (pOf 931, .cells (.l [.sl ⟨some ⟨pOf 929, 0⟩, 262144, 262144, 1⟩, .map (some (pOf 930)), .sl ⟨none, 0, 0, 0⟩, .ptr none])),
    (pOf 933, .cells (.l [.ptr (some ⟨pOf 931, 0⟩), .sl ⟨some ⟨pOf 932, 0⟩, 8, 8, 0⟩, .int .i64 (.ofNat 0)])),
    (pOf 934, .cells (.l [.ptr (some ⟨pOf 931, 0⟩), .ptr (some ⟨pOf 933, 0⟩), .int .u64 (.ofNat 1), .int .u64 (.ofNat 64), .int .u64 (.ofNat 2), .int .u64 (.ofNat 3), .int .u64 (.ofNat 0), .int .u64 (.ofNat 0), .int .u64 (.ofNat 0), .int .u64 (.ofNat 0), .int .u64 (.ofNat 0), .sl ⟨none, 0, 0, 0⟩, .sl ⟨some ⟨pOf 1029, 0⟩, 2, 2, 1⟩, .sl ⟨none, 0, 0, 0⟩, .int .u64 (.ofNat 1), .int .u64 (.ofNat 64), .int .u64 (.ofNat 2), .int .u64 (.ofNat 3), .int .u64 (.ofNat 0), .int .u64 (.ofNat 0), .int .u64 (.ofNat 0), .int .u64 (.ofNat 0), .int .u64 (.ofNat 0), .sl ⟨some ⟨pOf 1584, 0⟩, 3, 3, 1⟩, .sl ⟨some ⟨pOf 1259, 0⟩, 2, 2, 1⟩, .sl ⟨some ⟨pOf 1589, 0⟩, 3, 3, 1⟩, .bool false, .int .i64 (.negSucc 0)])),
    (pOf 1029, .cells (.l [.int .i64 (.ofNat 2), .int .i64 (.ofNat 3)])),
    (pOf 1085, .cells (.b enk4 4096)),
    (pOf 1131, .cells (.b enk5 4096)),
    (pOf 1259, .cells (.l [.int .i64 (.ofNat 2), .int .i64 (.ofNat 3)])),
    (pOf 1344, .cells (.b enk7 4096)),
    (pOf 1567, .cells (.b (Nat.add enk8 (Nat.shiftLeft enk9 28672)) 4096)),
    (pOf 1584, .cells (.l [.int .i64 (.ofNat 4), .int .i64 (.ofNat 5), .int .i64 (.ofNat 6)])),
    (pOf 1589, .cells (.l [.int .i64 (.ofNat 4), .int .i64 (.ofNat 5), .int .i64 (.ofNat 6)])),
    (pOf 1744, .cells (.b enk10 4096)),
    (pOf 1748, .cells (.b 97 1)),
    (pOf 1749, .cells (.b 0 2))],
   [(pOf 932, .cells (.l [.bool true, .int .i64 (.ofNat 2), .int .i64 (.ofNat 0), .bool false, .bool true, .sl ⟨some ⟨pOf 1085, 0⟩, 4096, 4096, 1⟩, .bool true, .int .i64 (.ofNat 3), .int .i64 (.ofNat 0), .bool false, .bool true, .sl ⟨some ⟨pOf 1131, 0⟩, 4096, 4096, 1⟩, .bool true, .int .i64 (.ofNat 4), .int .i64 (.ofNat 0), .bool true, .bool true, .sl ⟨some ⟨pOf 1744, 0⟩, 4096, 4096, 1⟩, .bool true, .int .i64 (.ofNat 5), .int .i64 (.ofNat 0), .bool true, .bool true, .sl ⟨some ⟨pOf 1344, 0⟩, 4096, 4096, 1⟩, .bool true, .int .i64 (.ofNat 6), .int .i64 (.ofNat 0), .bool true, .bool true, .sl ⟨some ⟨pOf 1567, 0⟩, 4096, 4096, 1⟩, .bool false, .int .i64 (.ofNat 0), .int .i64 (.ofNat 0), .bool false, .bool false, .sl ⟨none, 0, 0, 0⟩, .bool false, .int .i64 (.ofNat 0), .int .i64 (.ofNat 0), .bool false, .bool false, .sl ⟨none, 0, 0, 0⟩, .bool false, .int .i64 (.ofNat 0), .int .i64 (.ofNat 0), .bool false, .bool false, .sl ⟨none, 0, 0, 0⟩]))],
   .tup [.agg [.int .i64 (.ofNat 1), .int .i64 (.ofNat 3), .int .u64 (.ofNat 1)], .int .i64 (.ofNat 0)], pOf 2070,
   [(pOf 932, .cells (.l [.bool true, .int .i64 (.ofNat 2), .int .i64 (.ofNat 0), .bool false, .bool true, .sl ⟨some ⟨pOf 1085, 0⟩, 4096, 4096, 1⟩, .bool true, .int .i64 (.ofNat 3), .int .i64 (.ofNat 0), .bool false, .bool true, .sl ⟨some ⟨pOf 1131, 0⟩, 4096, 4096, 1⟩, .bool true, .int .i64 (.ofNat 4), .int .i64 (.ofNat 0), .bool true, .bool true, .sl ⟨some ⟨pOf 1744, 0⟩, 4096, 4096, 1⟩, .bool true, .int .i64 (.ofNat 5), .int .i64 (.ofNat 0), .bool true, .bool true, .sl ⟨some ⟨pOf 1344, 0⟩, 4096, 4096, 1⟩, .bool true, .int .i64 (.ofNat 6), .int .i64 (.ofNat 0), .bool true, .bool true, .sl ⟨some ⟨pOf 2068, 0⟩, 4096, 4096, 1⟩, .bool false, .int .i64 (.ofNat 0), .int .i64 (.ofNat 0), .bool false, .bool false, .sl ⟨none, 0, 0, 0⟩, .bool false, .int .i64 (.ofNat 0), .int .i64 (.ofNat 0), .bool false, .bool false, .sl ⟨none, 0, 0, 0⟩, .bool false, .int .i64 (.ofNat 0), .int .i64 (.ofNat 0), .bool false, .bool false, .sl ⟨none, 0, 0, 0⟩])),
    (pOf 2068, .cells (.b (Nat.add enk11 (Nat.shiftLeft enk12 28672)) 4096))]⟩
noncomputable def enm2_5 : ME := ⟨[.ptr (some ⟨pOf 934, 0⟩), .agg [.int .i64 (.ofNat 1), .int .i64 (.ofNat 3), .int .u64 (.ofNat 1)], .sl ⟨some ⟨pOf 2250, 0⟩, 1, 1, 1⟩, .sl ⟨some ⟨pOf 2251, 0⟩, 3000, 3000, 0⟩], pOf 2253,
   [(pOf 929, .cells (.b (Nat.add (Nat.add (Nat.shiftLeft enk3 32768) (Nat.shiftLeft enk4 65536)) (Nat.shiftLeft enk5 98304)) 262144)),
    (pOf 930, .map .i64 (some (.sl)) []),
    (pOf 931, .cells (.l [.sl ⟨some ⟨pOf 929, 0⟩, 262144, 262144, 1⟩, .map (some (pOf 930)), .sl ⟨none, 0, 0, 0⟩, .ptr none])),
    (pOf 933, .cells (.l [.ptr (some ⟨pOf 931, 0⟩), .sl ⟨some ⟨pOf 932, 0⟩, 8, 8, 0⟩, .int .i64 (.ofNat 0)])),
    (pOf 1029, .cells (.l [.int .i64 (.ofNat 2), .int .i64 (.ofNat 3)])),
    (pOf 1085, .cells (.b enk4 4096)),
    (pOf 1131, .cells (.b enk5 4096)),
    (pOf 1259, .cells (.l [.int .i64 (.ofNat 2), .int .i64 (.ofNat 3)])),
    (pOf 1344, .cells (.b enk7 4096)),
    (pOf 1584, .cells (.l [.int .i64 (.ofNat 4), .int .i64 (.ofNat 5), .int .i64 (.ofNat 6)])),
    (pOf 1589, .cells (.l [.int .i64 (.ofNat 4), .int .i64 (.ofNat 5), .int .i64 (.ofNat 6)])),
    (pOf 1744, .cells (.b enk10 4096)),
    (pOf 2068, .cells (.b (Nat.add enk11 (Nat.shiftLeft enk12 28672)) 4096)),
    (pOf 2250, .cells (.b 98 1)),
    (pOf 2251, .cells (.b 0 3000))],
   [(pOf 932, .cells (.l [.bool true, .int .i64 (.ofNat 2), .int .i64 (.ofNat 0), .bool false, .bool true, .sl ⟨some ⟨pOf 1085, 0⟩, 4096, 4096, 1⟩, .bool true, .int .i64 (.ofNat 3), .int .i64 (.ofNat 0), .bool false, .bool true, .sl ⟨some ⟨pOf 1131, 0⟩, 4096, 4096, 1⟩, .bool true, .int .i64 (.ofNat 4), .int .i64 (.ofNat 0), .bool true, .bool true, .sl ⟨some ⟨pOf 1744, 0⟩, 4096, 4096, 1⟩, .bool true, .int .i64 (.ofNat 5), .int .i64 (.ofNat 0), .bool true, .bool true, .sl ⟨some ⟨pOf 1344, 0⟩, 4096, 4096, 1⟩, .bool true, .int .i64 (.ofNat 6), .int .i64 (.ofNat 0), .bool true, .bool true, .sl ⟨some ⟨pOf 2068, 0⟩, 4096, 4096, 1⟩, .bool false, .int .i64 (.ofNat 0), .int .i64 (.ofNat 0), .bool false, .bool false, .sl ⟨none, 0, 0, 0⟩, .bool false, .int .i64 (.ofNat 0), .int .i64 (.ofNat 0), .bool false, .bool false, .sl ⟨none, 0, 0, 0⟩, .bool false, .int .i64 (.ofNat 0), .int .i64 (.ofNat 0), .bool false, .bool false, .sl ⟨none, 0, 0, 0⟩])),
    (pOf 934, .cells (.l [.ptr (some ⟨pOf 931, 0⟩), .ptr (some ⟨pOf 933, 0⟩), .int .u64 (.ofNat 1), .int .u64 (.ofNat 64), .int .u64 (.ofNat 2), .int .u64 (.ofNat 3), .int .u64 (.ofNat 0), .int .u64 (.ofNat 0), .int .u64 (.ofNat 0), .int .u64 (.ofNat 0), .int .u64 (.ofNat 0), .sl ⟨none, 0, 0, 0⟩, .sl ⟨some ⟨pOf 1029, 0⟩, 2, 2, 1⟩, .sl ⟨none, 0, 0, 0⟩, .int .u64 (.ofNat 1), .int .u64 (.ofNat 64), .int .u64 (.ofNat 2), .int .u64 (.ofNat 3), .int .u64 (.ofNat 0), .int .u64 (.ofNat 0), .int .u64 (.ofNat 0), .int .u64 (.ofNat 0), .int .u64 (.ofNat 0), .sl ⟨some ⟨pOf 1584, 0⟩, 3, 3, 1⟩, .sl ⟨some ⟨pOf 1259, 0⟩, 2, 2, 1⟩, .sl ⟨some ⟨pOf 1589, 0⟩, 3, 3, 1⟩, .bool false, .int .i64 (.negSucc 0)]))],
   .tup [.agg [.int .i64 (.ofNat 1), .int .i64 (.ofNat 3), .int .u64 (.ofNat 2)], .int .i64 (.ofNat 0)], pOf 2765,
   [(pOf 932, .cells (.l [.bool true, .int .i64 (.ofNat 2), .int .i64 (.ofNat 0), .bool false, .bool true, .sl ⟨some ⟨pOf 1085, 0⟩, 4096, 4096, 1⟩, .bool true, .int .i64 (.ofNat 3), .int .i64 (.ofNat 0), .bool false, .bool true, .sl ⟨some ⟨pOf 1131, 0⟩, 4096, 4096, 1⟩, .bool true, .int .i64 (.ofNat 4), .int .i64 (.ofNat 0), .bool true, .bool true, .sl ⟨some ⟨pOf 2763, 0⟩, 4096, 4096, 1⟩, .bool true, .int .i64 (.ofNat 5), .int .i64 (.ofNat 0), .bool true, .bool true, .sl ⟨some ⟨pOf 1344, 0⟩, 4096, 4096, 1⟩, .bool true, .int .i64 (.ofNat 6), .int .i64 (.ofNat 0), .bool true, .bool true, .sl ⟨some ⟨pOf 2581, 0⟩, 4096, 4096, 1⟩, .bool true, .int .i64 (.ofNat 7), .int .i64 (.ofNat 0), .bool true, .bool true, .sl ⟨some ⟨pOf 2419, 0⟩, 4096, 4096, 1⟩, .bool false, .int .i64 (.ofNat 0), .int .i64 (.ofNat 0), .bool false, .bool false, .sl ⟨none, 0, 0, 0⟩, .bool false, .int .i64 (.ofNat 0), .int .i64 (.ofNat 0), .bool false, .bool false, .sl ⟨none, 0, 0, 0⟩])),
    (pOf 934, .cells (.l [.ptr (some ⟨pOf 931, 0⟩), .ptr (some ⟨pOf 933, 0⟩), .int .u64 (.ofNat 1), .int .u64 (.ofNat 64), .int .u64 (.ofNat 2), .int .u64 (.ofNat 3), .int .u64 (.ofNat 0), .int .u64 (.ofNat 0), .int .u64 (.ofNat 0), .int .u64 (.ofNat 0), .int .u64 (.ofNat 0), .sl ⟨none, 0, 0, 0⟩, .sl ⟨some ⟨pOf 1029, 0⟩, 2, 2, 1⟩, .sl ⟨none, 0, 0, 0⟩, .int .u64 (.ofNat 1), .int .u64 (.ofNat 64), .int .u64 (.ofNat 2), .int .u64 (.ofNat 3), .int .u64 (.ofNat 0), .int .u64 (.ofNat 0), .int .u64 (.ofNat 0), .int .u64 (.ofNat 0), .int .u64 (.ofNat 0), .sl ⟨some ⟨pOf 2438, 0⟩, 4, 4, 1⟩, .sl ⟨some ⟨pOf 1259, 0⟩, 2, 2, 1⟩, .sl ⟨some ⟨pOf 2443, 0⟩, 4, 4, 1⟩, .bool false, .int .i64 (.negSucc 0)])),
    (pOf 2419, .cells (.b enk13 4096)),
    (pOf 2438, .cells (.l [.int .i64 (.ofNat 4), .int .i64 (.ofNat 5), .int .i64 (.ofNat 6), .int .i64 (.ofNat 7)])),
    (pOf 2443, .cells (.l [.int .i64 (.ofNat 4), .int .i64 (.ofNat 5), .int .i64 (.ofNat 6), .int .i64 (.ofNat 7)])),
    (pOf 2581, .cells (.b (Nat.add enk14 (Nat.shiftLeft enk15 28672)) 4096)),
    (pOf 2763, .cells (.b enk16 4096))]⟩
noncomputable def enes2 : List ME := [enm2_0, enm2_1, enm2_2, enm2_3, enm2_4, enm2_5]
noncomputable def enf3 : Nat → Option FI := overF enf2 18 (iMemo enes2)
noncomputable def enm3_0 : ME := ⟨[.ptr (some ⟨pOf 351, 0⟩), .agg [.int .i64 (.ofNat 1), .int .i64 (.ofNat 0), .int .u64 (.ofNat 0)], .sl ⟨some ⟨pOf 806, 0⟩, 1, 1, 0⟩], pOf 807,
   [(pOf 346, .cells (.b (Nat.add (Nat.add (Nat.shiftLeft enk3 32768) (Nat.shiftLeft enk4 65536)) (Nat.shiftLeft enk5 98304)) 262144)),
    (pOf 347, .map .i64 (some (.sl)) []),
    (pOf 348, .cells (.l [.sl ⟨some ⟨pOf 346, 0⟩, 262144, 262144, 1⟩, .map (some (pOf 347)), .sl ⟨none, 0, 0, 0⟩, .ptr none])),
    (pOf 349, .cells (.l [.bool true, .int .i64 (.ofNat 2), .int .i64 (.ofNat 0), .bool false, .bool true, .sl ⟨some ⟨pOf 502, 0⟩, 4096, 4096, 1⟩, .bool true, .int .i64 (.ofNat 3), .int .i64 (.ofNat 0), .bool false, .bool true, .sl ⟨some ⟨pOf 548, 0⟩, 4096, 4096, 1⟩, .bool true, .int .i64 (.ofNat 4), .int .i64 (.ofNat 0), .bool true, .bool true, .sl ⟨some ⟨pOf 712, 0⟩, 4096, 4096, 1⟩, .bool true, .int .i64 (.ofNat 5), .int .i64 (.ofNat 0), .bool true, .bool true, .sl ⟨some ⟨pOf 761, 0⟩, 4096, 4096, 1⟩, .bool false, .int .i64 (.ofNat 0), .int .i64 (.ofNat 0), .bool false, .bool false, .sl ⟨none, 0, 0, 0⟩, .bool false, .int .i64 (.ofNat 0), .int .i64 (.ofNat 0), .bool false, .bool false, .sl ⟨none, 0, 0, 0⟩, .bool false, .int .i64 (.ofNat 0), .int .i64 (.ofNat 0), .bool false, .bool false, .sl ⟨none, 0, 0, 0⟩, .bool false, .int .i64 (.ofNat 0), .int .i64 (.ofNat 0), .bool false, .bool false, .sl ⟨none, 0, 0, 0⟩])),
    (pOf 350, .cells (.l [.ptr (some ⟨pOf 348, 0⟩), .sl ⟨some ⟨pOf 349, 0⟩, 8, 8, 0⟩, .int .i64 (.ofNat 0)])),
    (pOf 351, .cells (.l [.ptr (some ⟨pOf 348, 0⟩), .ptr (some ⟨pOf 350, 0⟩), .int .u64 (.ofNat 1), .int .u64 (.ofNat 64), .int .u64 (.ofNat 2), .int .u64 (.ofNat 3), .int .u64 (.ofNat 0), .int .u64 (.ofNat 0), .int .u64 (.ofNat 0), .int .u64 (.ofNat 0), .int .u64 (.ofNat 0), .sl ⟨none, 0, 0, 0⟩, .sl ⟨some ⟨pOf 446, 0⟩, 2, 2, 1⟩, .sl ⟨none, 0, 0, 0⟩, .int .u64 (.ofNat 1), .int .u64 (.ofNat 64), .int .u64 (.ofNat 2), .int .u64 (.ofNat 3), .int .u64 (.ofNat 0), .int .u64 (.ofNat 0), .int .u64 (.ofNat 0), .int .u64 (.ofNat 0), .int .u64 (.ofNat 0), .sl ⟨some ⟨pOf 776, 0⟩, 2, 2, 1⟩, .sl ⟨some ⟨pOf 676, 0⟩, 2, 2, 1⟩, .sl ⟨some ⟨pOf 781, 0⟩, 2, 2, 1⟩, .bool false, .int .i64 (.negSucc 0)])),
    (pOf 446, .cells (.l [.int .i64 (.ofNat 2), .int .i64 (.ofNat 3)])),
    (pOf 502, .cells (.b enk4 4096)),
    (pOf 548, .cells (.b enk5 4096)),
    (pOf 676, .cells (.l [.int .i64 (.ofNat 2), .int .i64 (.ofNat 3)])),
    (pOf 712, .cells (.b enk6 4096)),
    (pOf 761, .cells (.b enk7 4096)),
    (pOf 776, .cells (.l [.int .i64 (.ofNat 4), .int .i64 (.ofNat 5)])),
    (pOf 781, .cells (.l [.int .i64 (.ofNat 4), .int .i64 (.ofNat 5)])),
    (pOf 806, .cells (.b 97 1))],
   [],
   .tup [.agg [.int .i64 (.ofNat 0), .int .i64 (.ofNat 0), .int .u64 (.ofNat 0)], .int .i64 (.ofNat 6)], pOf 913,
   []⟩
noncomputable def enm3_1 : ME := ⟨[.ptr (some ⟨pOf 934, 0⟩), .agg [.int .i64 (.ofNat 1), .int .i64 (.ofNat 3), .int .u64 (.ofNat 2)], .sl ⟨some ⟨pOf 3042, 0⟩, 1, 1, 0⟩], pOf 3043,
   [(pOf 929, .cells (.b (Nat.add (Nat.add (Nat.shiftLeft enk3 32768) (Nat.shiftLeft enk4 65536)) (Nat.shiftLeft enk5 98304)) 262144)),
    (pOf 930, .map .i64 (some (.sl)) []),
    (pOf 931, .cells (.l [.sl ⟨some ⟨pOf 929, 0⟩, 262144, 262144, 1⟩, .map (some (pOf 930)), .sl ⟨none, 0, 0, 0⟩, .ptr none])),
    (pOf 933, .cells (.l [.ptr (some ⟨pOf 931, 0⟩), .sl ⟨some ⟨pOf 932, 0⟩, 8, 8, 0⟩, .int .i64 (.ofNat 0)])),
    (pOf 934, .cells (.l [.ptr (some ⟨pOf 931, 0⟩), .ptr (some ⟨pOf 933, 0⟩), .int .u64 (.ofNat 1), .int .u64 (.ofNat 64), .int .u64 (.ofNat 2), .int .u64 (.ofNat 3), .int .u64 (.ofNat 0), .int .u64 (.ofNat 0), .int .u64 (.ofNat 0), .int .u64 (.ofNat 0), .int .u64 (.ofNat 0), .sl ⟨none, 0, 0, 0⟩, .sl ⟨some ⟨pOf 1029, 0⟩, 2, 2, 1⟩, .sl ⟨none, 0, 0, 0⟩, .int .u64 (.ofNat 1), .int .u64 (.ofNat 64), .int .u64 (.ofNat 2), .int .u64 (.ofNat 3), .int .u64 (.ofNat 0), .int .u64 (.ofNat 0), .int .u64 (.ofNat 0), .int .u64 (.ofNat 0), .int .u64 (.ofNat 0), .sl ⟨some ⟨pOf 2438, 0⟩, 4, 4, 1⟩, .sl ⟨some ⟨pOf 1259, 0⟩, 2, 2, 1⟩, .sl ⟨some ⟨pOf 2443, 0⟩, 4, 4, 1⟩, .bool false, .int .i64 (.negSucc 0)])),
    (pOf 1029, .cells (.l [.int .i64 (.ofNat 2), .int .i64 (.ofNat 3)])),
    (pOf 1085, .cells (.b enk4 4096)),
    (pOf 1131, .cells (.b enk5 4096)),
    (pOf 1259, .cells (.l [.int .i64 (.ofNat 2), .int .i64 (.ofNat 3)])),
    (pOf 1344, .cells (.b enk7 4096)),
    (pOf 2419, .cells (.b enk13 4096)),
    (pOf 2438, .cells (.l [.int .i64 (.ofNat 4), .int .i64 (.ofNat 5), .int .i64 (.ofNat 6), .int .i64 (.ofNat 7)])),
    (pOf 2443, .cells (.l [.int .i64 (.ofNat 4), .int .i64 (.ofNat 5), .int .i64 (.ofNat 6), .int .i64 (.ofNat 7)])),
    (pOf 2581, .cells (.b (Nat.add enk14 (Nat.shiftLeft enk15 28672)) 4096)),
    (pOf 2763, .cells (.b enk16 4096)),
    (pOf 3042, .cells (.b 97 1))],
   [(pOf 932, .cells (.l [.bool true, .int .i64 (.ofNat 2), .int .i64 (.ofNat 0), .bool false, .bool true, .sl ⟨some ⟨pOf 1085, 0⟩, 4096, 4096, 1⟩, .bool true, .int .i64 (.ofNat 3), .int .i64 (.ofNat 0), .bool false, .bool true, .sl ⟨some ⟨pOf 1131, 0⟩, 4096, 4096, 1⟩, .bool true, .int .i64 (.ofNat 4), .int .i64 (.ofNat 0), .bool true, .bool true, .sl ⟨some ⟨pOf 2763, 0⟩, 4096, 4096, 1⟩, .bool true, .int .i64 (.ofNat 5), .int .i64 (.ofNat 0), .bool true, .bool true, .sl ⟨some ⟨pOf 1344, 0⟩, 4096, 4096, 1⟩, .bool true, .int .i64 (.ofNat 6), .int .i64 (.ofNat 0), .bool true, .bool true, .sl ⟨some ⟨pOf 2581, 0⟩, 4096, 4096, 1⟩, .bool true, .int .i64 (.ofNat 7), .int .i64 (.ofNat 0), .bool true, .bool true, .sl ⟨some ⟨pOf 2419, 0⟩, 4096, 4096, 1⟩, .bool false, .int .i64 (.ofNat 0), .int .i64 (.ofNat 0), .bool false, .bool false, .sl ⟨none, 0, 0, 0⟩, .bool false, .int .i64 (.ofNat 0), .int .i64 (.ofNat 0), .bool false, .bool false, .sl ⟨none, 0, 0, 0⟩]))],
   .tup [.agg [.int .i64 (.ofNat 1), .int .i64 (.ofNat 3), .int .u64 (.ofNat 1)], .int .i64 (.ofNat 0)], pOf 3653,
   [(pOf 932, .cells (.l [.bool true, .int .i64 (.ofNat 2), .int .i64 (.ofNat 0), .bool false, .bool true, .sl ⟨some ⟨pOf 1085, 0⟩, 4096, 4096, 1⟩, .bool true, .int .i64 (.ofNat 3), .int .i64 (.ofNat 0), .bool false, .bool true, .sl ⟨some ⟨pOf 1131, 0⟩, 4096, 4096, 1⟩, .bool true, .int .i64 (.ofNat 4), .int .i64 (.ofNat 0), .bool true, .bool true, .sl ⟨some ⟨pOf 3548, 0⟩, 4096, 4096, 1⟩, .bool true, .int .i64 (.ofNat 5), .int .i64 (.ofNat 0), .bool true, .bool true, .sl ⟨some ⟨pOf 1344, 0⟩, 4096, 4096, 1⟩, .bool true, .int .i64 (.ofNat 6), .int .i64 (.ofNat 0), .bool true, .bool true, .sl ⟨some ⟨pOf 3375, 0⟩, 4096, 4096, 1⟩, .bool true, .int .i64 (.ofNat 7), .int .i64 (.ofNat 0), .bool true, .bool true, .sl ⟨some ⟨pOf 2419, 0⟩, 4096, 4096, 1⟩, .bool false, .int .i64 (.ofNat 0), .int .i64 (.ofNat 0), .bool false, .bool false, .sl ⟨none, 0, 0, 0⟩, .bool false, .int .i64 (.ofNat 0), .int .i64 (.ofNat 0), .bool false, .bool false, .sl ⟨none, 0, 0, 0⟩])),
    (pOf 3375, .cells (.b (Nat.add enk17 (Nat.shiftLeft enk18 28672)) 4096)),
    (pOf 3548, .cells (.b enk19 4096))]⟩
noncomputable def enes3 : List ME := [enm3_0, enm3_1]
noncomputable def enf4 : Nat → Option FI := overF enf3 19 (iMemo enes3)
noncomputable def enm4_0 : ME := ⟨[], pOf 926,
   [],
   [],
   .bool true, pOf 3763,
   []⟩
noncomputable def enes4 : List ME := [enm4_0]
noncomputable def enf5 : Nat → Option FI := overF enf4 23 (iMemo enes4)
noncomputable def enm5_0 : ME := ⟨[], pOf 0,
   [],
   [],
   .bool true, pOf 3763,
   []⟩
noncomputable def enes5 : List ME := [enm5_0]
noncomputable def enf6 : Nat → Option FI := overF enf5 4 (iMemo enes5)
end Go.XS.Tryz
