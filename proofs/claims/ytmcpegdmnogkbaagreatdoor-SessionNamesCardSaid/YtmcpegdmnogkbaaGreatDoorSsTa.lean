/- The tables of a run: the types. -/
import Derived.Test.YtmcpegdmnogkbaaGreatDoorProg
import Derived.Test.YtmcpegdmnogkbaaGreatDoorTsS1
import Derived.Test.YtmcpegdmnogkbaaGreatDoorXsTab
import Derived.Test.YtmcpegdmnogkbaaGreatDoorXiIns
import Derived.Test.YtmcpegdmnogkbaaGreatDoorXiBase
import Derived.Test.YtmcpegdmnogkbaaGreatDoorXiTrim
import Derived.Test.YtmcpegdmnogkbaaGreatDoorXsMemo
set_option linter.unusedSimpArgs false
set_option linter.unusedVariables false
namespace Go.XS.Tryz
open Go Go.TS
set_option maxRecDepth 100000
def ti3 : TI := ⟨.int .i64, (Value.int .i64 0), 1, 8, .leaf (.int .i64)⟩
def ti4 : TI := ⟨.bool, (Value.bool false), 1, 1, .leaf (.bool)⟩
def ti5 : TI := ⟨.int .u8, (Value.int .u8 0), 1, 1, .leaf (.int .u8)⟩
def ti9 : TI := ⟨.string, (Value.string ByteArray.empty), 1, 16, .leaf (.str)⟩
def ti22 : TI := ⟨.pointer 77, (Value.pointer none), 1, 8, .leaf (.ptr)⟩
def ti23 : TI := ⟨.slice 110, (Value.slice none 0 0), 1, 24, .leaf (.sl)⟩
def ti24 : TI := ⟨.int .i64, (Value.int .i64 0), 1, 8, .leaf (.int .i64)⟩
def ti29 : TI := ⟨.pointer 73, (Value.pointer none), 1, 8, .leaf (.ptr)⟩
def ti33 : TI := ⟨.int .u64, (Value.int .u64 0), 1, 8, .leaf (.int .u64)⟩
def ti34 : TI := ⟨.slice 5, (Value.slice none 0 0), 1, 24, .leaf (.sl)⟩
def ti35 : TI := ⟨.slice 34, (Value.slice none 0 0), 1, 24, .leaf (.sl)⟩
def ti37 : TI := ⟨.struct #[⟨ "Err", 24, 0, false, "", "", 0⟩, ⟨ "Number", 33, 1, false, "", "", 8⟩, ⟨ "Bytes", 34, 2, false, "", "", 16⟩, ⟨ "Names", 35, 3, false, "", "", 40⟩], (Value.agg #[(Value.int .i64 0), (Value.int .u64 0), (Value.slice none 0 0), (Value.slice none 0 0)]), 4, 64, .agg [.int .i64, .int .u64, .sl, .sl]⟩
def ti38 : TI := ⟨.func #[40] #[37] false, .nilFunc, 1, 8, .leaf .any⟩
def ti40 : TI := ⟨.struct #[⟨ "Op", 3, 0, false, "", "", 0⟩, ⟨ "Name", 34, 1, false, "", "", 8⟩, ⟨ "From", 34, 2, false, "", "", 32⟩, ⟨ "Kind", 3, 3, false, "", "", 56⟩, ⟨ "Param", 3, 4, false, "", "", 64⟩, ⟨ "Items", 35, 5, false, "", "", 72⟩, ⟨ "Bytes", 34, 6, false, "", "", 96⟩], (Value.agg #[(Value.int .i64 0), (Value.slice none 0 0), (Value.slice none 0 0), (Value.int .i64 0), (Value.int .i64 0), (Value.slice none 0 0), (Value.slice none 0 0)]), 7, 120, .agg [.int .i64, .sl, .sl, .int .i64, .int .i64, .sl, .sl]⟩
def ti44 : TI := ⟨.func #[] #[24] false, .nilFunc, 1, 8, .leaf .any⟩
def ti45 : TI := ⟨.pointer 123, (Value.pointer none), 1, 8, .leaf (.ptr)⟩
def ti52 : TI := ⟨.slice 4, (Value.slice none 0 0), 1, 24, .leaf (.sl)⟩
def ti69 : TI := ⟨.map 3 34, (Value.map none), 1, 8, .leaf (.map)⟩
def ti70 : TI := ⟨.slice 3, (Value.slice none 0 0), 1, 24, .leaf (.sl)⟩
def ti71 : TI := ⟨.pointer 3, (Value.pointer none), 1, 8, .leaf (.ptr)⟩
def ti73 : TI := ⟨.struct #[⟨ "b", 34, 0, false, "", "tallyman/sector", 0⟩, ⟨ "cache", 69, 1, false, "", "tallyman/sector", 24⟩, ⟨ "order", 70, 2, false, "", "tallyman/sector", 32⟩, ⟨ "left", 71, 3, false, "", "tallyman/sector", 56⟩], (Value.agg #[(Value.slice none 0 0), (Value.map none), (Value.slice none 0 0), (Value.pointer none)]), 4, 64, .agg [.sl, .map, .sl, .ptr]⟩
def ti75 : TI := ⟨.map 3 38, (Value.map none), 1, 8, .leaf (.map)⟩
def ti77 : TI := ⟨.struct #[⟨ "t", 45, 0, false, "", "tallyman/session", 0⟩, ⟨ "ops", 75, 1, false, "", "tallyman/session", 8⟩], (Value.agg #[(Value.pointer none), (Value.map none)]), 2, 16, .agg [.ptr, .map]⟩
def ti79 : TI := ⟨.slice 37, (Value.slice none 0 0), 1, 24, .leaf (.sl)⟩
def ti82 : TI := ⟨.slice 40, (Value.slice none 0 0), 1, 24, .leaf (.sl)⟩
def ti99 : TI := ⟨.slice 291, (Value.slice none 0 0), 1, 24, .leaf (.sl)⟩
def ti101 : TI := ⟨.struct #[⟨ "P", 3, 0, false, "", "", 0⟩, ⟨ "Regs", 99, 1, false, "", "", 8⟩], (Value.agg #[(Value.int .i64 0), (Value.slice none 0 0)]), 2, 32, .agg [.int .i64, .sl]⟩
def ti102 : TI := ⟨.slice 33, (Value.slice none 0 0), 1, 24, .leaf (.sl)⟩
def ti104 : TI := ⟨.struct #[⟨ "K", 3, 0, false, "", "", 0⟩, ⟨ "Hashes", 102, 1, false, "", "", 8⟩, ⟨ "Limit", 33, 2, false, "", "", 32⟩], (Value.agg #[(Value.int .i64 0), (Value.slice none 0 0), (Value.int .u64 0)]), 3, 40, .agg [.int .i64, .sl, .int .u64]⟩
def ti106 : TI := ⟨.struct #[⟨ "Kind", 3, 0, false, "", "", 0⟩, ⟨ "Hll", 101, 1, false, "", "", 8⟩, ⟨ "Theta", 104, 3, false, "", "", 40⟩], (Value.agg #[(Value.int .i64 0), (Value.int .i64 0), (Value.slice none 0 0), (Value.int .i64 0), (Value.slice none 0 0), (Value.int .u64 0)]), 6, 80, .agg [.int .i64, .int .i64, .sl, .int .i64, .sl, .int .u64]⟩
def ti110 : TI := ⟨.struct #[⟨ "Name", 34, 0, false, "", "", 0⟩, ⟨ "Sketch", 106, 1, false, "", "", 24⟩], (Value.agg #[(Value.slice none 0 0), (Value.int .i64 0), (Value.int .i64 0), (Value.slice none 0 0), (Value.int .i64 0), (Value.slice none 0 0), (Value.int .u64 0)]), 7, 104, .agg [.sl, .int .i64, .int .i64, .sl, .int .i64, .sl, .int .u64]⟩
def ti111 : TI := ⟨.pointer 165, (Value.pointer none), 1, 8, .leaf (.ptr)⟩
def ti115 : TI := ⟨.struct #[⟨ "Dir", 3, 0, false, "", "", 0⟩, ⟨ "Hint", 3, 1, false, "", "", 8⟩, ⟨ "Count", 33, 2, false, "", "", 16⟩], (Value.agg #[(Value.int .i64 0), (Value.int .i64 0), (Value.int .u64 0)]), 3, 24, .agg [.int .i64, .int .i64, .int .u64]⟩
def ti118 : TI := ⟨.array 4 33, (Value.agg #[(Value.int .u64 0), (Value.int .u64 0), (Value.int .u64 0), (Value.int .u64 0)]), 4, 32, .agg [.int .u64, .int .u64, .int .u64, .int .u64]⟩
def ti120 : TI := ⟨.struct #[⟨ "Epoch", 33, 0, false, "", "", 0⟩, ⟨ "Pages", 33, 1, false, "", "", 8⟩, ⟨ "Table", 33, 2, false, "", "", 16⟩, ⟨ "Space", 33, 3, false, "", "", 24⟩, ⟨ "Logical", 33, 4, false, "", "", 32⟩, ⟨ "Meta", 118, 5, false, "", "", 40⟩], (Value.agg #[(Value.int .u64 0), (Value.int .u64 0), (Value.int .u64 0), (Value.int .u64 0), (Value.int .u64 0), (Value.int .u64 0), (Value.int .u64 0), (Value.int .u64 0), (Value.int .u64 0)]), 9, 72, .agg [.int .u64, .int .u64, .int .u64, .int .u64, .int .u64, .int .u64, .int .u64, .int .u64, .int .u64]⟩
def ti123 : TI := ⟨.struct #[⟨ "Store", 111, 0, true, "", "", 0⟩, ⟨ "top", 115, 1, false, "", "tallyman/store", 8⟩], (Value.agg #[(Value.pointer none), (Value.int .i64 0), (Value.int .i64 0), (Value.int .u64 0)]), 4, 32, .agg [.ptr, .int .i64, .int .i64, .int .u64]⟩
def ti138 : TI := ⟨.slice 106, (Value.slice none 0 0), 1, 24, .leaf (.sl)⟩
def ti156 : TI := ⟨.slice 454, (Value.slice none 0 0), 1, 24, .leaf (.sl)⟩
def ti160 : TI := ⟨.struct #[⟨ "Phys", 70, 0, false, "", "", 0⟩], (Value.agg #[(Value.slice none 0 0)]), 1, 24, .agg [.sl]⟩
def ti162 : TI := ⟨.struct #[⟨ "root", 120, 0, false, "", "tallyman/shadow", 0⟩, ⟨ "table", 160, 9, false, "", "tallyman/shadow", 72⟩, ⟨ "own", 70, 10, false, "", "tallyman/shadow", 96⟩, ⟨ "fresh", 70, 11, false, "", "tallyman/shadow", 120⟩], (Value.agg #[(Value.int .u64 0), (Value.int .u64 0), (Value.int .u64 0), (Value.int .u64 0), (Value.int .u64 0), (Value.int .u64 0), (Value.int .u64 0), (Value.int .u64 0), (Value.int .u64 0), (Value.slice none 0 0), (Value.slice none 0 0), (Value.slice none 0 0)]), 12, 144, .agg [.int .u64, .int .u64, .int .u64, .int .u64, .int .u64, .int .u64, .int .u64, .int .u64, .int .u64, .sl, .sl, .sl]⟩
def ti163 : TI := ⟨.pointer 364, (Value.pointer none), 1, 8, .leaf (.ptr)⟩
def ti165 : TI := ⟨.struct #[⟨ "d", 29, 0, false, "", "tallyman/shadow", 0⟩, ⟨ "p", 163, 1, false, "", "tallyman/shadow", 8⟩, ⟨ "kept", 162, 2, false, "", "tallyman/shadow", 16⟩, ⟨ "now", 162, 14, false, "", "tallyman/shadow", 160⟩, ⟨ "broken", 4, 26, false, "", "tallyman/shadow", 304⟩, ⟨ "doubt", 3, 27, false, "", "tallyman/shadow", 312⟩], (Value.agg #[(Value.pointer none), (Value.pointer none), (Value.int .u64 0), (Value.int .u64 0), (Value.int .u64 0), (Value.int .u64 0), (Value.int .u64 0), (Value.int .u64 0), (Value.int .u64 0), (Value.int .u64 0), (Value.int .u64 0), (Value.slice none 0 0), (Value.slice none 0 0), (Value.slice none 0 0), (Value.int .u64 0), (Value.int .u64 0), (Value.int .u64 0), (Value.int .u64 0), (Value.int .u64 0), (Value.int .u64 0), (Value.int .u64 0), (Value.int .u64 0), (Value.int .u64 0), (Value.slice none 0 0), (Value.slice none 0 0), (Value.slice none 0 0), (Value.bool false), (Value.int .i64 0)]), 28, 320, .agg [.ptr, .ptr, .int .u64, .int .u64, .int .u64, .int .u64, .int .u64, .int .u64, .int .u64, .int .u64, .int .u64, .sl, .sl, .sl, .int .u64, .int .u64, .int .u64, .int .u64, .int .u64, .int .u64, .int .u64, .int .u64, .int .u64, .sl, .sl, .sl, .bool, .int .i64]⟩
def ti170 : TI := ⟨.slice 176, (Value.slice none 0 0), 1, 24, .leaf (.sl)⟩
def ti174 : TI := ⟨.struct #[⟨ "Page", 3, 0, false, "", "", 0⟩, ⟨ "Slot", 3, 1, false, "", "", 8⟩], (Value.agg #[(Value.int .i64 0), (Value.int .i64 0)]), 2, 16, .agg [.int .i64, .int .i64]⟩
def ti176 : TI := ⟨.struct #[⟨ "Hash", 33, 0, false, "", "", 0⟩, ⟨ "Place", 174, 1, false, "", "", 8⟩], (Value.agg #[(Value.int .u64 0), (Value.int .i64 0), (Value.int .i64 0)]), 3, 24, .agg [.int .u64, .int .i64, .int .i64]⟩
def ti178 : TI := ⟨.struct #[⟨ "Key", 34, 0, false, "", "", 0⟩, ⟨ "Over", 3, 1, false, "", "", 24⟩, ⟨ "Size", 3, 2, false, "", "", 32⟩, ⟨ "Value", 34, 3, false, "", "", 40⟩], (Value.agg #[(Value.slice none 0 0), (Value.int .i64 0), (Value.int .i64 0), (Value.slice none 0 0)]), 4, 64, .agg [.sl, .int .i64, .int .i64, .sl]⟩
def ti182 : TI := ⟨.func #[34, 34] #[3] false, .nilFunc, 1, 8, .leaf .any⟩
def ti196 : TI := ⟨.interface #[("tallyman/sketch.add", 199), ("tallyman/sketch.bytes", 422), ("tallyman/sketch.check", 44), ("tallyman/sketch.estimate", 295), ("tallyman/sketch.merge", 202), ("tallyman/sketch.param", 221), ("tallyman/sketch.shrink", 32), ("tallyman/sketch.sketch", 307)], .nilIface, 1, 16, .leaf .any⟩
def ti206 : TI := ⟨.func #[207] #[] false, .nilFunc, 1, 8, .leaf .any⟩
def ti207 : TI := ⟨.pointer 211, (Value.pointer none), 1, 8, .leaf (.ptr)⟩
def ti208 : TI := ⟨.array 10 206, (Value.agg #[Value.nilFunc, Value.nilFunc, Value.nilFunc, Value.nilFunc, Value.nilFunc, Value.nilFunc, Value.nilFunc, Value.nilFunc, Value.nilFunc, Value.nilFunc]), 10, 80, .agg [.any, .any, .any, .any, .any, .any, .any, .any, .any, .any]⟩
def ti211 : TI := ⟨.struct #[⟨ "l", 23, 0, false, "", "tallyman/model", 0⟩, ⟨ "c", 40, 1, false, "", "tallyman/model", 24⟩, ⟨ "r", 37, 8, false, "", "tallyman/model", 144⟩], (Value.agg #[(Value.slice none 0 0), (Value.int .i64 0), (Value.slice none 0 0), (Value.slice none 0 0), (Value.int .i64 0), (Value.int .i64 0), (Value.slice none 0 0), (Value.slice none 0 0), (Value.int .i64 0), (Value.int .u64 0), (Value.slice none 0 0), (Value.slice none 0 0)]), 12, 208, .agg [.sl, .int .i64, .sl, .sl, .int .i64, .int .i64, .sl, .sl, .int .i64, .int .u64, .sl, .sl]⟩
def ti223 : TI := ⟨.pointer 232, (Value.pointer none), 1, 8, .leaf (.ptr)⟩
def ti226 : TI := ⟨.func #[223] #[4, 24] false, .nilFunc, 1, 8, .leaf .any⟩
def ti228 : TI := ⟨.slice 226, (Value.slice none 0 0), 1, 24, .leaf (.sl)⟩
def ti230 : TI := ⟨.slice 351, (Value.slice none 0 0), 1, 24, .leaf (.sl)⟩
def ti232 : TI := ⟨.struct #[⟨ "t", 45, 0, false, "", "tallyman/audit", 0⟩, ⟨ "s", 111, 1, false, "", "tallyman/audit", 8⟩, ⟨ "flaws", 156, 2, false, "", "tallyman/audit", 16⟩, ⟨ "recs", 230, 3, false, "", "tallyman/audit", 40⟩], (Value.agg #[(Value.pointer none), (Value.pointer none), (Value.slice none 0 0), (Value.slice none 0 0)]), 4, 64, .agg [.ptr, .ptr, .sl, .sl]⟩
def ti243 : TI := ⟨.struct #[⟨ "Pages", 3, 0, false, "", "", 0⟩, ⟨ "Used", 52, 1, false, "", "", 8⟩], (Value.agg #[(Value.int .i64 0), (Value.slice none 0 0)]), 2, 32, .agg [.int .i64, .sl]⟩
def ti253 : TI := ⟨.pointer 24, (Value.pointer none), 1, 8, .leaf (.ptr)⟩
def ti257 : TI := ⟨.func #[3] #[3] false, .nilFunc, 1, 8, .leaf .any⟩
def ti264 : TI := ⟨.struct #[⟨ "Depth", 3, 0, false, "", "", 0⟩, ⟨ "Buckets", 70, 1, false, "", "", 8⟩], (Value.agg #[(Value.int .i64 0), (Value.slice none 0 0)]), 2, 32, .agg [.int .i64, .sl]⟩
def ti268 : TI := ⟨.slice 272, (Value.slice none 0 0), 1, 24, .leaf (.sl)⟩
def ti272 : TI := ⟨.struct #[⟨ "Next", 3, 0, false, "", "", 0⟩, ⟨ "Refs", 170, 1, false, "", "", 8⟩], (Value.agg #[(Value.int .i64 0), (Value.slice none 0 0)]), 2, 32, .agg [.int .i64, .sl]⟩
def ti277 : TI := ⟨.slice 174, (Value.slice none 0 0), 1, 24, .leaf (.sl)⟩
def ti281 : TI := ⟨.int .u32, (Value.int .u32 0), 1, 4, .leaf (.int .u32)⟩
def ti283 : TI := ⟨.struct #[⟨ "Kind", 3, 0, false, "", "", 0⟩, ⟨ "Number", 281, 1, false, "", "", 8⟩, ⟨ "Body", 34, 2, false, "", "", 16⟩], (Value.agg #[(Value.int .i64 0), (Value.int .u32 0), (Value.slice none 0 0)]), 3, 40, .agg [.int .i64, .int .u32, .sl]⟩
def ti286 : TI := ⟨.pointer 420, (Value.pointer none), 1, 8, .leaf (.ptr)⟩
def ti291 : TI := ⟨.struct #[⟨ "Index", 3, 0, false, "", "", 0⟩, ⟨ "Rank", 3, 1, false, "", "", 8⟩], (Value.agg #[(Value.int .i64 0), (Value.int .i64 0)]), 2, 16, .agg [.int .i64, .int .i64]⟩
def ti298 : TI := ⟨.pointer 101, (Value.pointer none), 1, 8, .leaf (.ptr)⟩
def ti300 : TI := ⟨.struct #[⟨ "h", 298, 0, false, "", "tallyman/sketch", 0⟩], (Value.agg #[(Value.pointer none)]), 1, 8, .agg [.ptr]⟩
def ti302 : TI := ⟨.pointer 304, (Value.pointer none), 1, 8, .leaf (.ptr)⟩
def ti304 : TI := ⟨.struct #[⟨ "t", 104, 0, false, "", "tallyman/sketch", 0⟩], (Value.agg #[(Value.int .i64 0), (Value.slice none 0 0), (Value.int .u64 0)]), 3, 40, .agg [.int .i64, .sl, .int .u64]⟩
def ti309 : TI := ⟨.pointer 311, (Value.pointer none), 1, 8, .leaf (.ptr)⟩
def ti311 : TI := ⟨.struct #[⟨ "s", 111, 0, false, "", "tallyman/entry", 0⟩, ⟨ "t", 115, 1, false, "", "tallyman/entry", 8⟩, ⟨ "hash", 33, 4, false, "", "tallyman/entry", 32⟩, ⟨ "at", 174, 5, false, "", "tallyman/entry", 40⟩, ⟨ "old", 178, 7, false, "", "tallyman/entry", 56⟩, ⟨ "rec", 34, 11, false, "", "tallyman/entry", 120⟩], (Value.agg #[(Value.pointer none), (Value.int .i64 0), (Value.int .i64 0), (Value.int .u64 0), (Value.int .u64 0), (Value.int .i64 0), (Value.int .i64 0), (Value.slice none 0 0), (Value.int .i64 0), (Value.int .i64 0), (Value.slice none 0 0), (Value.slice none 0 0)]), 12, 144, .agg [.ptr, .int .i64, .int .i64, .int .u64, .int .u64, .int .i64, .int .i64, .sl, .int .i64, .int .i64, .sl, .sl]⟩
def ti351 : TI := ⟨.struct #[⟨ "at", 174, 0, false, "", "tallyman/audit", 0⟩, ⟨ "b", 34, 2, false, "", "tallyman/audit", 16⟩], (Value.agg #[(Value.int .i64 0), (Value.int .i64 0), (Value.slice none 0 0)]), 3, 40, .agg [.int .i64, .int .i64, .sl]⟩
def ti353 : TI := ⟨.map 3 3, (Value.map none), 1, 8, .leaf (.map)⟩
def ti356 : TI := ⟨.map 174 3, (Value.map none), 1, 8, .leaf (.map)⟩
def ti358 : TI := ⟨.map 9 3, (Value.map none), 1, 8, .leaf (.map)⟩
def ti362 : TI := ⟨.slice 459, (Value.slice none 0 0), 1, 24, .leaf (.sl)⟩
def ti364 : TI := ⟨.struct #[⟨ "d", 29, 0, false, "", "tallyman/pool", 0⟩, ⟨ "frames", 362, 1, false, "", "tallyman/pool", 8⟩, ⟨ "hand", 3, 2, false, "", "tallyman/pool", 32⟩], (Value.agg #[(Value.pointer none), (Value.slice none 0 0), (Value.int .i64 0)]), 3, 40, .agg [.ptr, .sl, .int .i64]⟩
def ti366 : TI := ⟨.array 2 120, (Value.agg #[(Value.int .u64 0), (Value.int .u64 0), (Value.int .u64 0), (Value.int .u64 0), (Value.int .u64 0), (Value.int .u64 0), (Value.int .u64 0), (Value.int .u64 0), (Value.int .u64 0), (Value.int .u64 0), (Value.int .u64 0), (Value.int .u64 0), (Value.int .u64 0), (Value.int .u64 0), (Value.int .u64 0), (Value.int .u64 0), (Value.int .u64 0), (Value.int .u64 0)]), 18, 144, .agg [.int .u64, .int .u64, .int .u64, .int .u64, .int .u64, .int .u64, .int .u64, .int .u64, .int .u64, .int .u64, .int .u64, .int .u64, .int .u64, .int .u64, .int .u64, .int .u64, .int .u64, .int .u64]⟩
def ti367 : TI := ⟨.array 2 4, (Value.agg #[(Value.bool false), (Value.bool false)]), 2, 2, .agg [.bool, .bool]⟩
def ti373 : TI := ⟨.slice 457, (Value.slice none 0 0), 1, 24, .leaf (.sl)⟩
def ti380 : TI := ⟨.struct #[⟨ "page", 3, 0, false, "", "tallyman/chain", 0⟩, ⟨ "b", 34, 1, false, "", "tallyman/chain", 8⟩], (Value.agg #[(Value.int .i64 0), (Value.slice none 0 0)]), 2, 32, .agg [.int .i64, .sl]⟩
def ti382 : TI := ⟨.slice 70, (Value.slice none 0 0), 1, 24, .leaf (.sl)⟩
def ti386 : TI := ⟨.int .u64, (Value.int .u64 0), 1, 8, .leaf (.int .u64)⟩
def ti399 : TI := ⟨.func #[5] #[4] false, .nilFunc, 1, 8, .leaf .any⟩
def ti410 : TI := ⟨.struct #[⟨ "d", 264, 0, false, "", "tallyman/index", 0⟩, ⟨ "l", 268, 2, false, "", "tallyman/index", 32⟩, ⟨ "pages", 70, 3, false, "", "tallyman/index", 56⟩], (Value.agg #[(Value.int .i64 0), (Value.slice none 0 0), (Value.slice none 0 0), (Value.slice none 0 0)]), 4, 80, .agg [.int .i64, .sl, .sl, .sl]⟩
def ti420 : TI := ⟨.struct #[⟨ "b", 34, 0, false, "", "tallyman/octet", 0⟩, ⟨ "at", 3, 1, false, "", "tallyman/octet", 24⟩, ⟨ "err", 24, 2, false, "", "tallyman/octet", 32⟩, ⟨ "is", 4, 3, false, "", "tallyman/octet", 40⟩], (Value.agg #[(Value.slice none 0 0), (Value.int .i64 0), (Value.int .i64 0), (Value.bool false)]), 4, 48, .agg [.sl, .int .i64, .int .i64, .bool]⟩
def ti427 : TI := ⟨.slice 44, (Value.slice none 0 0), 1, 24, .leaf (.sl)⟩
def ti435 : TI := ⟨.func #[110, 34] #[3] false, .nilFunc, 1, 8, .leaf .any⟩
def ti440 : TI := ⟨.pointer 527, (Value.pointer none), 1, 8, .leaf (.ptr)⟩
def ti444 : TI := ⟨.struct #[⟨ "slot", 3, 0, false, "", "tallyman/slots", 0⟩, ⟨ "at", 3, 1, false, "", "tallyman/slots", 8⟩, ⟨ "n", 3, 2, false, "", "tallyman/slots", 16⟩], (Value.agg #[(Value.int .i64 0), (Value.int .i64 0), (Value.int .i64 0)]), 3, 24, .agg [.int .i64, .int .i64, .int .i64]⟩
def ti454 : TI := ⟨.struct #[⟨ "What", 3, 0, false, "", "", 0⟩, ⟨ "Page", 3, 1, false, "", "", 8⟩, ⟨ "Slot", 3, 2, false, "", "", 16⟩], (Value.agg #[(Value.int .i64 0), (Value.int .i64 0), (Value.int .i64 0)]), 3, 24, .agg [.int .i64, .int .i64, .int .i64]⟩
def ti457 : TI := ⟨.struct #[⟨ "Is", 4, 0, false, "", "", 0⟩, ⟨ "Page", 3, 1, false, "", "", 8⟩, ⟨ "Pins", 3, 2, false, "", "", 16⟩, ⟨ "Dirty", 4, 3, false, "", "", 24⟩, ⟨ "Used", 4, 4, false, "", "", 25⟩], (Value.agg #[(Value.bool false), (Value.int .i64 0), (Value.int .i64 0), (Value.bool false), (Value.bool false)]), 5, 32, .agg [.bool, .int .i64, .int .i64, .bool, .bool]⟩
def ti459 : TI := ⟨.struct #[⟨ "Frame", 457, 0, true, "", "", 0⟩, ⟨ "b", 34, 5, false, "", "tallyman/pool", 32⟩], (Value.agg #[(Value.bool false), (Value.int .i64 0), (Value.int .i64 0), (Value.bool false), (Value.bool false), (Value.slice none 0 0)]), 6, 56, .agg [.bool, .int .i64, .int .i64, .bool, .bool, .sl]⟩
def ti462 : TI := ⟨.map 3 463, (Value.map none), 1, 8, .leaf (.map)⟩
def ti463 : TI := ⟨.struct #[], (Value.agg #[]), 0, 0, .agg []⟩
def ti466 : TI := ⟨.int .i64, (Value.int .i64 0), 1, 8, .leaf (.int .i64)⟩
def ti481 : TI := ⟨.func #[276] #[] false, .nilFunc, 1, 8, .leaf .any⟩
def ti484 : TI := ⟨.pointer 459, (Value.pointer none), 1, 8, .leaf (.ptr)⟩
def ti490 : TI := ⟨.array 9 33, (Value.agg #[(Value.int .u64 0), (Value.int .u64 0), (Value.int .u64 0), (Value.int .u64 0), (Value.int .u64 0), (Value.int .u64 0), (Value.int .u64 0), (Value.int .u64 0), (Value.int .u64 0)]), 9, 72, .agg [.int .u64, .int .u64, .int .u64, .int .u64, .int .u64, .int .u64, .int .u64, .int .u64, .int .u64]⟩
def ti512 : TI := ⟨.func #[272] #[4] false, .nilFunc, 1, 8, .leaf .any⟩
def ti527 : TI := ⟨.array 4080 5, (Value.agg (Array.replicate 4080 (Value.int .u8 0))), 4080, 4080, .arr 4080⟩
def ti534 : TI := ⟨.array 256 4, (Value.agg (Array.replicate 256 (Value.bool false))), 256, 256, .arr 256⟩
def ti538 : TI := ⟨.pointer 534, (Value.pointer none), 1, 8, .leaf (.ptr)⟩
def ti547 : TI := ⟨.array 2 33, (Value.agg #[(Value.int .u64 0), (Value.int .u64 0)]), 2, 16, .agg [.int .u64, .int .u64]⟩
def ti569 : TI := ⟨.slice 444, (Value.slice none 0 0), 1, 24, .leaf (.sl)⟩
def ti592 : TI := ⟨.func #[444, 444] #[3] false, .nilFunc, 1, 8, .leaf .any⟩
def ti594 : TI := ⟨.array 256 281, (Value.agg (Array.replicate 256 (Value.int .u32 0))), 256, 1024, .arr 256⟩
def ti656 : TI := ⟨.array 3 33, (Value.agg #[(Value.int .u64 0), (Value.int .u64 0), (Value.int .u64 0)]), 3, 24, .agg [.int .u64, .int .u64, .int .u64]⟩
def ti658 : TI := ⟨.func #[291, 3] #[3] false, .nilFunc, 1, 8, .leaf .any⟩
def tyl : List (Nat × TI) := [(3, ti3), (4, ti4), (5, ti5), (9, ti9), (22, ti22), (23, ti23), (24, ti24), (29, ti29), (33, ti33), (34, ti34), (35, ti35), (37, ti37), (38, ti38), (40, ti40), (44, ti44), (45, ti45), (52, ti52), (69, ti69), (70, ti70), (71, ti71), (73, ti73), (75, ti75), (77, ti77), (79, ti79), (82, ti82), (99, ti99), (101, ti101), (102, ti102), (104, ti104), (106, ti106), (110, ti110), (111, ti111), (115, ti115), (118, ti118), (120, ti120), (123, ti123), (138, ti138), (156, ti156), (160, ti160), (162, ti162), (163, ti163), (165, ti165), (170, ti170), (174, ti174), (176, ti176), (178, ti178), (182, ti182), (196, ti196), (206, ti206), (207, ti207), (208, ti208), (211, ti211), (223, ti223), (226, ti226), (228, ti228), (230, ti230), (232, ti232), (243, ti243), (253, ti253), (257, ti257), (264, ti264), (268, ti268), (272, ti272), (277, ti277), (281, ti281), (283, ti283), (286, ti286), (291, ti291), (298, ti298), (300, ti300), (302, ti302), (304, ti304), (309, ti309), (311, ti311), (351, ti351), (353, ti353), (356, ti356), (358, ti358), (362, ti362), (364, ti364), (366, ti366), (367, ti367), (373, ti373), (380, ti380), (382, ti382), (386, ti386), (399, ti399), (410, ti410), (420, ti420), (427, ti427), (435, ti435), (440, ti440), (444, ti444), (454, ti454), (457, ti457), (459, ti459), (462, ti462), (463, ti463), (466, ti466), (481, ti481), (484, ti484), (490, ti490), (512, ti512), (527, ti527), (534, ti534), (538, ti538), (547, ti547), (569, ti569), (592, ti592), (594, ti594), (656, ti656), (658, ti658)]
def mtl : List (String × Nat × Nat) := [("tallyman/sketch.add", 300, 552), ("tallyman/sketch.bytes", 300, 553), ("tallyman/sketch.check", 300, 554), ("tallyman/sketch.estimate", 300, 555), ("tallyman/sketch.sketch", 300, 559)]
def tys : Tys := ⟨trOf tyl, mtT mtl⟩
end Go.XS.Tryz
/- The tables of a run: the functions. -/
namespace Go.XS.Tryz
open Go Go.TS
set_option maxRecDepth 100000
noncomputable def fnl : List (Nat × FI) := [(14, fiOf Go.Proofs.Tryz.f14), (91, fiOf Go.Proofs.Tryz.f91), (96, fiOf Go.Proofs.Tryz.f96), (61, fiOf Go.Proofs.Tryz.f61), (30, fiOf Go.Proofs.Tryz.f30), (158, fiOf Go.Proofs.Tryz.f158), (345, fiOf Go.Proofs.Tryz.f345), (249, fiOf Go.Proofs.Tryz.f249), (283, fiOf Go.Proofs.Tryz.f283), (62, fiOf Go.Proofs.Tryz.f62), (321, fiOf Go.Proofs.Tryz.f321), (144, .intr iSectors), (145, fiOf Go.Proofs.Tryz.f145), (254, fiOf Go.Proofs.Tryz.f254), (28, fiOf Go.Proofs.Tryz.f28), (97, fiOf Go.Proofs.Tryz.f97), (268, fiOf Go.Proofs.Tryz.f268), (342, fiOf Go.Proofs.Tryz.f342), (243, fiOf Go.Proofs.Tryz.f243), (365, fiOf Go.Proofs.Tryz.f365), (366, fiOf Go.Proofs.Tryz.f366), (255, fiOf Go.Proofs.Tryz.f255), (256, fiOf Go.Proofs.Tryz.f256), (156, fiOf Go.Proofs.Tryz.f156), (368, fiOf Go.Proofs.Tryz.f368), (367, fiOf Go.Proofs.Tryz.f367), (378, fiOf Go.Proofs.Tryz.f378), (284, fiOf Go.Proofs.Tryz.f284), (181, fiOf Go.Proofs.Tryz.f181), (182, .intr iRdWord), (263, .intr iWord), (477, .intr iParts), (442, fiOf Go.Proofs.Tryz.f442), (364, fiOf Go.Proofs.Tryz.f364), (379, fiOf Go.Proofs.Tryz.f379), (285, fiOf Go.Proofs.Tryz.f285), (286, fiOf Go.Proofs.Tryz.f286), (180, fiOf Go.Proofs.Tryz.f180), (370, .intr (iZeros 270)), (269, fiOf Go.Proofs.Tryz.f269), (358, fiOf Go.Proofs.Tryz.f358), (282, fiOf Go.Proofs.Tryz.f282), (371, fiOf Go.Proofs.Tryz.f371), (272, fiOf Go.Proofs.Tryz.f272), (290, fiOf Go.Proofs.Tryz.f290), (291, fiOf Go.Proofs.Tryz.f291), (271, fiOf Go.Proofs.Tryz.f271), (169, fiOf Go.Proofs.Tryz.f169), (436, fiOf Go.Proofs.Tryz.f436), (352, fiOf Go.Proofs.Tryz.f352), (346, fiOf Go.Proofs.Tryz.f346), (251, fiOf Go.Proofs.Tryz.f251), (356, fiOf Go.Proofs.Tryz.f356), (252, fiOf Go.Proofs.Tryz.f252), (154, fiOf Go.Proofs.Tryz.f154), (241, fiOf Go.Proofs.Tryz.f241), (253, fiOf Go.Proofs.Tryz.f253), (170, fiOf Go.Proofs.Tryz.f170), (179, fiOf Go.Proofs.Tryz.f179), (338, .intr iBRead), (373, fiOf Go.Proofs.Tryz.f373), (372, fiOf Go.Proofs.Tryz.f372), (273, fiOf Go.Proofs.Tryz.f273), (171, fiOf Go.Proofs.Tryz.f171), (98, fiOf Go.Proofs.Tryz.f98), (413, fiOf Go.Proofs.Tryz.f413), (324, fiOf Go.Proofs.Tryz.f324), (325, fiOf Go.Proofs.Tryz.f325), (415, fiOf Go.Proofs.Tryz.f415), (416, fiOf Go.Proofs.Tryz.f416), (465, .intr iNoughts), (523, fiOf Go.Proofs.Tryz.f523), (513, fiOf Go.Proofs.Tryz.f513), (492, fiOf Go.Proofs.Tryz.f492), (466, fiOf Go.Proofs.Tryz.f466), (412, fiOf Go.Proofs.Tryz.f412), (323, fiOf Go.Proofs.Tryz.f323), (326, fiOf Go.Proofs.Tryz.f326), (220, fiOf Go.Proofs.Tryz.f220), (322, fiOf Go.Proofs.Tryz.f322), (274, fiOf Go.Proofs.Tryz.f274), (172, fiOf Go.Proofs.Tryz.f172), (287, fiOf Go.Proofs.Tryz.f287), (374, fiOf Go.Proofs.Tryz.f374), (289, fiOf Go.Proofs.Tryz.f289), (183, fiOf Go.Proofs.Tryz.f183), (184, fiOf Go.Proofs.Tryz.f184), (186, fiOf Go.Proofs.Tryz.f186), (275, fiOf Go.Proofs.Tryz.f275), (375, fiOf Go.Proofs.Tryz.f375), (276, fiOf Go.Proofs.Tryz.f276), (173, fiOf Go.Proofs.Tryz.f173), (99, fiOf Go.Proofs.Tryz.f99), (277, fiOf Go.Proofs.Tryz.f277), (174, fiOf Go.Proofs.Tryz.f174), (100, fiOf Go.Proofs.Tryz.f100), (279, .intr iCompare), (175, fiOf Go.Proofs.Tryz.f175), (101, fiOf Go.Proofs.Tryz.f101), (72, fiOf Go.Proofs.Tryz.f72), (43, fiOf Go.Proofs.Tryz.f43), (69, fiOf Go.Proofs.Tryz.f69), (176, fiOf Go.Proofs.Tryz.f176), (423, fiOf Go.Proofs.Tryz.f423), (341, fiOf Go.Proofs.Tryz.f341), (236, fiOf Go.Proofs.Tryz.f236), (280, fiOf Go.Proofs.Tryz.f280), (420, fiOf Go.Proofs.Tryz.f420), (377, fiOf Go.Proofs.Tryz.f377), (281, fiOf Go.Proofs.Tryz.f281), (177, fiOf Go.Proofs.Tryz.f177), (305, fiOf Go.Proofs.Tryz.f305), (307, fiOf Go.Proofs.Tryz.f307), (194, fiOf Go.Proofs.Tryz.f194), (178, fiOf Go.Proofs.Tryz.f178), (102, fiOf Go.Proofs.Tryz.f102), (73, fiOf Go.Proofs.Tryz.f73), (185, fiOf Go.Proofs.Tryz.f185), (261, fiOf Go.Proofs.Tryz.f261), (380, fiOf Go.Proofs.Tryz.f380), (292, fiOf Go.Proofs.Tryz.f292), (381, fiOf Go.Proofs.Tryz.f381), (293, fiOf Go.Proofs.Tryz.f293), (188, fiOf Go.Proofs.Tryz.f188), (104, fiOf Go.Proofs.Tryz.f104), (74, fiOf Go.Proofs.Tryz.f74), (44, fiOf Go.Proofs.Tryz.f44), (23, fiOf Go.Proofs.Tryz.f23), (5, fiOf Go.Proofs.Tryz.f5), (29, fiOf Go.Proofs.Tryz.f29), (82, fiOf Go.Proofs.Tryz.f82), (75, fiOf Go.Proofs.Tryz.f75), (106, fiOf Go.Proofs.Tryz.f106), (76, fiOf Go.Proofs.Tryz.f76), (192, fiOf Go.Proofs.Tryz.f192), (554, fiOf Go.Proofs.Tryz.f554), (111, fiOf Go.Proofs.Tryz.f111), (519, fiOf Go.Proofs.Tryz.f519), (565, .intr iAdd64), (573, .intr iSub64), (566, fiOf Go.Proofs.Tryz.f566), (567, fiOf Go.Proofs.Tryz.f567), (561, fiOf Go.Proofs.Tryz.f561), (555, fiOf Go.Proofs.Tryz.f555), (109, fiOf Go.Proofs.Tryz.f109), (108, fiOf Go.Proofs.Tryz.f108), (114, fiOf Go.Proofs.Tryz.f114), (553, fiOf Go.Proofs.Tryz.f553), (190, fiOf Go.Proofs.Tryz.f190), (250, fiOf Go.Proofs.Tryz.f250), (152, fiOf Go.Proofs.Tryz.f152), (153, fiOf Go.Proofs.Tryz.f153), (226, fiOf Go.Proofs.Tryz.f226), (136, fiOf Go.Proofs.Tryz.f136), (308, fiOf Go.Proofs.Tryz.f308), (195, fiOf Go.Proofs.Tryz.f195), (196, fiOf Go.Proofs.Tryz.f196), (197, fiOf Go.Proofs.Tryz.f197), (202, fiOf Go.Proofs.Tryz.f202), (448, fiOf Go.Proofs.Tryz.f448), (387, fiOf Go.Proofs.Tryz.f387), (295, fiOf Go.Proofs.Tryz.f295), (389, fiOf Go.Proofs.Tryz.f389), (297, fiOf Go.Proofs.Tryz.f297), (298, fiOf Go.Proofs.Tryz.f298), (329, fiOf Go.Proofs.Tryz.f329), (414, fiOf Go.Proofs.Tryz.f414), (327, fiOf Go.Proofs.Tryz.f327), (328, fiOf Go.Proofs.Tryz.f328), (418, fiOf Go.Proofs.Tryz.f418), (419, fiOf Go.Proofs.Tryz.f419), (330, fiOf Go.Proofs.Tryz.f330), (331, fiOf Go.Proofs.Tryz.f331), (222, fiOf Go.Proofs.Tryz.f222), (359, fiOf Go.Proofs.Tryz.f359), (163, fiOf Go.Proofs.Tryz.f163), (265, fiOf Go.Proofs.Tryz.f265), (456, fiOf Go.Proofs.Tryz.f456), (402, fiOf Go.Proofs.Tryz.f402), (455, fiOf Go.Proofs.Tryz.f455), (474, fiOf Go.Proofs.Tryz.f474), (437, fiOf Go.Proofs.Tryz.f437), (438, .intr iInsert), (360, fiOf Go.Proofs.Tryz.f360), (260, fiOf Go.Proofs.Tryz.f260), (333, fiOf Go.Proofs.Tryz.f333), (334, fiOf Go.Proofs.Tryz.f334), (227, fiOf Go.Proofs.Tryz.f227), (300, fiOf Go.Proofs.Tryz.f300), (422, fiOf Go.Proofs.Tryz.f422), (449, fiOf Go.Proofs.Tryz.f449), (390, fiOf Go.Proofs.Tryz.f390), (299, fiOf Go.Proofs.Tryz.f299), (201, fiOf Go.Proofs.Tryz.f201), (395, fiOf Go.Proofs.Tryz.f395), (452, fiOf Go.Proofs.Tryz.f452), (397, fiOf Go.Proofs.Tryz.f397), (396, fiOf Go.Proofs.Tryz.f396), (309, fiOf Go.Proofs.Tryz.f309), (357, fiOf Go.Proofs.Tryz.f357), (311, fiOf Go.Proofs.Tryz.f311), (453, fiOf Go.Proofs.Tryz.f453), (398, fiOf Go.Proofs.Tryz.f398), (400, fiOf Go.Proofs.Tryz.f400), (421, .intr iInsertR), (336, fiOf Go.Proofs.Tryz.f336), (335, fiOf Go.Proofs.Tryz.f335), (302, fiOf Go.Proofs.Tryz.f302), (301, fiOf Go.Proofs.Tryz.f301), (191, fiOf Go.Proofs.Tryz.f191), (110, fiOf Go.Proofs.Tryz.f110), (77, fiOf Go.Proofs.Tryz.f77), (45, fiOf Go.Proofs.Tryz.f45), (112, fiOf Go.Proofs.Tryz.f112), (559, fiOf Go.Proofs.Tryz.f559), (113, fiOf Go.Proofs.Tryz.f113), (318, fiOf Go.Proofs.Tryz.f318), (574, fiOf Go.Proofs.Tryz.f574), (575, fiOf Go.Proofs.Tryz.f575), (576, .intr iInsertRG), (568, fiOf Go.Proofs.Tryz.f568), (577, fiOf Go.Proofs.Tryz.f577), (578, fiOf Go.Proofs.Tryz.f578), (572, fiOf Go.Proofs.Tryz.f572), (564, fiOf Go.Proofs.Tryz.f564), (560, fiOf Go.Proofs.Tryz.f560), (552, fiOf Go.Proofs.Tryz.f552), (78, fiOf Go.Proofs.Tryz.f78), (46, fiOf Go.Proofs.Tryz.f46), (203, fiOf Go.Proofs.Tryz.f203), (204, fiOf Go.Proofs.Tryz.f204), (116, fiOf Go.Proofs.Tryz.f116), (315, fiOf Go.Proofs.Tryz.f315), (316, fiOf Go.Proofs.Tryz.f316), (206, fiOf Go.Proofs.Tryz.f206), (208, fiOf Go.Proofs.Tryz.f208), (122, fiOf Go.Proofs.Tryz.f122), (129, fiOf Go.Proofs.Tryz.f129), (211, fiOf Go.Proofs.Tryz.f211), (127, fiOf Go.Proofs.Tryz.f127), (81, fiOf Go.Proofs.Tryz.f81), (49, fiOf Go.Proofs.Tryz.f49), (155, fiOf Go.Proofs.Tryz.f155), (159, fiOf Go.Proofs.Tryz.f159), (160, fiOf Go.Proofs.Tryz.f160), (262, fiOf Go.Proofs.Tryz.f262), (161, fiOf Go.Proofs.Tryz.f161), (162, fiOf Go.Proofs.Tryz.f162), (246, fiOf Go.Proofs.Tryz.f246), (247, fiOf Go.Proofs.Tryz.f247), (440, fiOf Go.Proofs.Tryz.f440), (362, fiOf Go.Proofs.Tryz.f362), (441, fiOf Go.Proofs.Tryz.f441), (363, fiOf Go.Proofs.Tryz.f363), (264, fiOf Go.Proofs.Tryz.f264), (164, fiOf Go.Proofs.Tryz.f164), (168, .intr iFlush), (266, fiOf Go.Proofs.Tryz.f266), (165, fiOf Go.Proofs.Tryz.f165), (166, fiOf Go.Proofs.Tryz.f166), (369, fiOf Go.Proofs.Tryz.f369), (267, fiOf Go.Proofs.Tryz.f267), (167, fiOf Go.Proofs.Tryz.f167), (94, fiOf Go.Proofs.Tryz.f94), (95, fiOf Go.Proofs.Tryz.f95), (85, fiOf Go.Proofs.Tryz.f85), (53, fiOf Go.Proofs.Tryz.f53), (58, fiOf Go.Proofs.Tryz.f58), (59, fiOf Go.Proofs.Tryz.f59), (68, fiOf Go.Proofs.Tryz.f68), (242, fiOf Go.Proofs.Tryz.f242), (244, fiOf Go.Proofs.Tryz.f244), (245, fiOf Go.Proofs.Tryz.f245), (147, fiOf Go.Proofs.Tryz.f147), (424, fiOf Go.Proofs.Tryz.f424), (425, .intr iTrimR), (344, fiOf Go.Proofs.Tryz.f344), (343, fiOf Go.Proofs.Tryz.f343), (248, fiOf Go.Proofs.Tryz.f248), (148, fiOf Go.Proofs.Tryz.f148), (150, fiOf Go.Proofs.Tryz.f150), (151, fiOf Go.Proofs.Tryz.f151), (90, fiOf Go.Proofs.Tryz.f90), (216, fiOf Go.Proofs.Tryz.f216), (217, fiOf Go.Proofs.Tryz.f217), (133, fiOf Go.Proofs.Tryz.f133), (86, fiOf Go.Proofs.Tryz.f86), (54, fiOf Go.Proofs.Tryz.f54), (219, fiOf Go.Proofs.Tryz.f219), (224, fiOf Go.Proofs.Tryz.f224), (240, fiOf Go.Proofs.Tryz.f240), (231, fiOf Go.Proofs.Tryz.f231), (232, fiOf Go.Proofs.Tryz.f232), (138, fiOf Go.Proofs.Tryz.f138), (229, fiOf Go.Proofs.Tryz.f229), (233, fiOf Go.Proofs.Tryz.f233), (139, fiOf Go.Proofs.Tryz.f139), (223, fiOf Go.Proofs.Tryz.f223), (339, fiOf Go.Proofs.Tryz.f339), (340, fiOf Go.Proofs.Tryz.f340), (235, fiOf Go.Proofs.Tryz.f235), (140, fiOf Go.Proofs.Tryz.f140), (141, fiOf Go.Proofs.Tryz.f141), (237, fiOf Go.Proofs.Tryz.f237), (142, fiOf Go.Proofs.Tryz.f142), (238, fiOf Go.Proofs.Tryz.f238), (239, fiOf Go.Proofs.Tryz.f239), (143, fiOf Go.Proofs.Tryz.f143), (88, fiOf Go.Proofs.Tryz.f88), (56, fiOf Go.Proofs.Tryz.f56), (24, fiOf Go.Proofs.Tryz.f24), (146, fiOf Go.Proofs.Tryz.f146), (89, fiOf Go.Proofs.Tryz.f89), (57, fiOf Go.Proofs.Tryz.f57), (25, fiOf Go.Proofs.Tryz.f25), (6, fiOf Go.Proofs.Tryz.f6), (33, fiOf Go.Proofs.Tryz.f33), (26, fiOf Go.Proofs.Tryz.f26), (92, fiOf Go.Proofs.Tryz.f92), (257, fiOf Go.Proofs.Tryz.f257), (258, fiOf Go.Proofs.Tryz.f258), (259, fiOf Go.Proofs.Tryz.f259), (157, fiOf Go.Proofs.Tryz.f157), (93, fiOf Go.Proofs.Tryz.f93), (60, fiOf Go.Proofs.Tryz.f60), (27, fiOf Go.Proofs.Tryz.f27), (7, fiOf Go.Proofs.Tryz.f7), (8, fiOf Go.Proofs.Tryz.f8), (9, fiOf Go.Proofs.Tryz.f9), (11, fiOf Go.Proofs.Tryz.f11), (10, fiOf Go.Proofs.Tryz.f10), (31, fiOf Go.Proofs.Tryz.f31), (32, fiOf Go.Proofs.Tryz.f32), (12, fiOf Go.Proofs.Tryz.f12), (13, fiOf Go.Proofs.Tryz.f13), (3, fiOf Go.Proofs.Tryz.f3)]
noncomputable def fnt : PT FI := fnTree fnl
noncomputable def fns : Nat → Option FI := fnGet fnt
def n_tallymanlaw28_SessionNames : Nat := 3
end Go.XS.Tryz
/- Calls of a closed run: the calls. -/
namespace Go.XS.Tryz
open Go Go.TS
set_option maxRecDepth 100000
set_option linter.unusedVariables false
def ssk0 : Nat := 0x2000000000000000200000000000000070000000000000006000000000000004000000000000000028049b999000000000000000201014d54
def ssk1 : Nat := 0x300000000000000020000000000000040000000000000000100a6f3fb000000000000000101014d54
def ssk2 : Nat := 0x100000000c08c10d8000000000000000002014d54
def ssk3 : Nat := 0xf00000040000c00000000571dbd5c000000000000000003014d54
def ssk4 : Nat := 0xa5ced327000000000000000005014d54
def ssk5 : Nat := 0xca1cb84c000000000000000104014d54
def ssk6 : Nat := 0x50402000300000000c6708a2a000000000000000002014d54
def ssk7 : Nat := 0xf300000040000c00000000c0a850c3000000000000000003014d54
def ssk8 : Nat := 0x80fe80fe800016bd5d658000000000000000206014d54
def ssk9 : Nat := 0x40104006101000000000000000000000000000000000000000000000000000000000000000000000000000000000000000000000000000000000000000000000000000000000000000000000000000000000000000000000000000000000000000000000000000000000000000000000000000000000000000000000000000000000000000000000000000000000000000000000000000000000000000000000000000000000000000000000000000000000000000000000000000000000000000000000000000000000000000000000000000000000000000000000000000000000000000000000000000000000000000000000000000000000000000000000000000000000000000000000000000000000000000000000000000000000000000000000000000000000000000000000000000000000000000000000000000000000000000000000000000000000000000000000000000000000000000000000000000000000000000000000000000000000000000000000000000000000000000000000000000000000000000000000000000000000000000000000000000000000000000000000000000000000000000000000000000000000000000000000000000000000000000000000000000000000000000000000000000000000000000000000000000000000000000000000000000000000000000000000000
def ssk10 : Nat := 0x2d24ec4f1a98c6e5b0001000000008c84fe08000000000000000005014d54
def ssk11 : Nat := 0x2050303000400000000ced37751000000000000000002014d54
def ssk12 : Nat := 0x32f00000040000c00000000a56280a5000000000000000003014d54
def ssk13 : Nat := 0xa0fde0fde000198c376b8000000000000000206014d54
def ssk14 : Nat := 0x10601000401060061010000000000000000000000000000000000000000000000000000000000000000000000000000000000000000000000000000000000000000000000000000000000000000000000000000000000000000000000000000000000000000000000000000000000000000000000000000000000000000000000000000000000000000000000000000000000000000000000000000000000000000000000000000000000000000000000000000000000000000000000000000000000000000000000000000000000000000000000000000000000000000000000000000000000000000000000000000000000000000000000000000000000000000000000000000000000000000000000000000000000000000000000000000000000000000000000000000000000000000000000000000000000000000000000000000000000000000000000000000000000000000000000000000000000000000000000000000000000000000000000000000000000000000000000000000000000000000000000000000000000000000000000000000000000000000000000000000000000000000000000000000000000000000000000000000000000000000000000000000000000000000000000000000000000000000000000000000000000000000000000000000000000000000000000000000
def ssk15 : Nat := 0x10000000000000003000000000000000200000000000000030000000000000009000000000000000800000000000000400000000000000003f8be03db000000000000000301014d54
def ssk16 : Nat := 0xc0fd20fd200014e3903af000000000000000206014d54
def ssk17 : Nat := 0x200010602000401080061010000000000000000000000000000000000000000000000000000000000000000000000000000000000000000000000000000000000000000000000000000000000000000000000000000000000000000000000000000000000000000000000000000000000000000000000000000000000000000000000000000000000000000000000000000000000000000000000000000000000000000000000000000000000000000000000000000000000000000000000000000000000000000000000000000000000000000000000000000000000000000000000000000000000000000000000000000000000000000000000000000000000000000000000000000000000000000000000000000000000000000000000000000000000000000000000000000000000000000000000000000000000000000000000000000000000000000000000000000000000000000000000000000000000000000000000000000000000000000000000000000000000000000000000000000000000000000000000000000000000000000000000000000000000000000000000000000000000000000000000000000000000000000000000000000000000000000000000000000000000000000000000000000000000000000000000000000000000000000000000000000
noncomputable def sso0 : AO := .cells (.l [.sl ⟨some ⟨pOf 2, 0⟩, 262144, 262144, 1⟩, .map (some (pOf 3)), .sl ⟨none, 0, 0, 0⟩, .ptr none])
noncomputable def sso1 : AO := .cells (.b (Nat.add (Nat.add (Nat.add (Nat.add (Nat.add (Nat.add (Nat.add ssk0 (Nat.shiftLeft ssk1 32768)) (Nat.shiftLeft ssk2 65536)) (Nat.shiftLeft ssk3 98304)) (Nat.shiftLeft ssk4 131072)) (Nat.shiftLeft ssk5 163840)) (Nat.shiftLeft ssk6 196608)) (Nat.shiftLeft ssk7 229376)) 262144)
noncomputable def sso2 : AO := .cells (.l [.bool true, .int .i64 (.ofNat 2), .int .i64 (.ofNat 0), .bool false, .bool true, .sl ⟨some ⟨pOf 158, 0⟩, 4096, 4096, 1⟩, .bool true, .int .i64 (.ofNat 3), .int .i64 (.ofNat 0), .bool false, .bool true, .sl ⟨some ⟨pOf 204, 0⟩, 4096, 4096, 1⟩, .bool true, .int .i64 (.ofNat 4), .int .i64 (.ofNat 0), .bool false, .bool true, .sl ⟨some ⟨pOf 368, 0⟩, 4096, 4096, 1⟩, .bool true, .int .i64 (.ofNat 5), .int .i64 (.ofNat 0), .bool false, .bool true, .sl ⟨some ⟨pOf 417, 0⟩, 4096, 4096, 1⟩, .bool true, .int .i64 (.ofNat 6), .int .i64 (.ofNat 0), .bool false, .bool true, .sl ⟨some ⟨pOf 536, 0⟩, 4096, 4096, 1⟩, .bool true, .int .i64 (.ofNat 7), .int .i64 (.ofNat 0), .bool false, .bool true, .sl ⟨some ⟨pOf 582, 0⟩, 4096, 4096, 1⟩, .bool false, .int .i64 (.ofNat 0), .int .i64 (.ofNat 0), .bool false, .bool false, .sl ⟨none, 0, 0, 0⟩, .bool false, .int .i64 (.ofNat 0), .int .i64 (.ofNat 0), .bool false, .bool false, .sl ⟨none, 0, 0, 0⟩])
noncomputable def sso3 : AO := .cells (.l [.ptr (some ⟨pOf 4, 0⟩), .sl ⟨some ⟨pOf 5, 0⟩, 8, 8, 0⟩, .int .i64 (.ofNat 0)])
noncomputable def sso4 : AO := .cells (.l [.ptr (some ⟨pOf 4, 0⟩), .ptr (some ⟨pOf 6, 0⟩), .int .u64 (.ofNat 2), .int .u64 (.ofNat 64), .int .u64 (.ofNat 6), .int .u64 (.ofNat 7), .int .u64 (.ofNat 2), .int .u64 (.ofNat 2), .int .u64 (.ofNat 0), .int .u64 (.ofNat 0), .int .u64 (.ofNat 0), .sl ⟨some ⟨pOf 432, 0⟩, 2, 2, 1⟩, .sl ⟨some ⟨pOf 474, 0⟩, 2, 2, 1⟩, .sl ⟨none, 0, 0, 0⟩, .int .u64 (.ofNat 2), .int .u64 (.ofNat 64), .int .u64 (.ofNat 6), .int .u64 (.ofNat 7), .int .u64 (.ofNat 2), .int .u64 (.ofNat 2), .int .u64 (.ofNat 0), .int .u64 (.ofNat 0), .int .u64 (.ofNat 0), .sl ⟨some ⟨pOf 778, 0⟩, 2, 2, 1⟩, .sl ⟨some ⟨pOf 780, 0⟩, 2, 2, 1⟩, .sl ⟨none, 0, 0, 0⟩, .bool false, .int .i64 (.negSucc 0)])
noncomputable def sso5 : AO := .cells (.l [.ptr (some ⟨pOf 7, 0⟩), .int .i64 (.ofNat 1), .int .i64 (.ofNat 0), .int .u64 (.ofNat 0)])
noncomputable def sso6 : AO := .cells (.l [.sl ⟨some ⟨pOf 2017, 0⟩, 262144, 262144, 1⟩, .map (some (pOf 2018)), .sl ⟨none, 0, 0, 0⟩, .ptr none])
noncomputable def sso7 : AO := .cells (.l [.bool true, .int .i64 (.ofNat 2), .int .i64 (.ofNat 0), .bool false, .bool true, .sl ⟨some ⟨pOf 2173, 0⟩, 4096, 4096, 1⟩, .bool true, .int .i64 (.ofNat 3), .int .i64 (.ofNat 0), .bool false, .bool true, .sl ⟨some ⟨pOf 2219, 0⟩, 4096, 4096, 1⟩, .bool true, .int .i64 (.ofNat 4), .int .i64 (.ofNat 0), .bool false, .bool true, .sl ⟨some ⟨pOf 2383, 0⟩, 4096, 4096, 1⟩, .bool true, .int .i64 (.ofNat 5), .int .i64 (.ofNat 0), .bool false, .bool true, .sl ⟨some ⟨pOf 2432, 0⟩, 4096, 4096, 1⟩, .bool true, .int .i64 (.ofNat 6), .int .i64 (.ofNat 0), .bool false, .bool true, .sl ⟨some ⟨pOf 2551, 0⟩, 4096, 4096, 1⟩, .bool true, .int .i64 (.ofNat 7), .int .i64 (.ofNat 0), .bool false, .bool true, .sl ⟨some ⟨pOf 2597, 0⟩, 4096, 4096, 1⟩, .bool false, .int .i64 (.ofNat 0), .int .i64 (.ofNat 0), .bool false, .bool false, .sl ⟨none, 0, 0, 0⟩, .bool false, .int .i64 (.ofNat 0), .int .i64 (.ofNat 0), .bool false, .bool false, .sl ⟨none, 0, 0, 0⟩])
noncomputable def sso8 : AO := .cells (.l [.ptr (some ⟨pOf 2019, 0⟩), .sl ⟨some ⟨pOf 2020, 0⟩, 8, 8, 0⟩, .int .i64 (.ofNat 0)])
noncomputable def sso9 : AO := .cells (.l [.ptr (some ⟨pOf 2019, 0⟩), .ptr (some ⟨pOf 2021, 0⟩), .int .u64 (.ofNat 2), .int .u64 (.ofNat 64), .int .u64 (.ofNat 6), .int .u64 (.ofNat 7), .int .u64 (.ofNat 2), .int .u64 (.ofNat 2), .int .u64 (.ofNat 0), .int .u64 (.ofNat 0), .int .u64 (.ofNat 0), .sl ⟨some ⟨pOf 2447, 0⟩, 2, 2, 1⟩, .sl ⟨some ⟨pOf 2489, 0⟩, 2, 2, 1⟩, .sl ⟨none, 0, 0, 0⟩, .int .u64 (.ofNat 2), .int .u64 (.ofNat 64), .int .u64 (.ofNat 6), .int .u64 (.ofNat 7), .int .u64 (.ofNat 2), .int .u64 (.ofNat 2), .int .u64 (.ofNat 0), .int .u64 (.ofNat 0), .int .u64 (.ofNat 0), .sl ⟨some ⟨pOf 2793, 0⟩, 2, 2, 1⟩, .sl ⟨some ⟨pOf 2795, 0⟩, 2, 2, 1⟩, .sl ⟨none, 0, 0, 0⟩, .bool false, .int .i64 (.negSucc 0)])
noncomputable def sso10 : AO := .cells (.l [.ptr (some ⟨pOf 2022, 0⟩), .int .i64 (.ofNat 1), .int .i64 (.ofNat 0), .int .u64 (.ofNat 0)])
noncomputable def sso11 : AO := .cells (.l [.sl ⟨some ⟨pOf 2, 0⟩, 262144, 262144, 1⟩, .map (some (pOf 3)), .sl ⟨none, 0, 0, 0⟩, .ptr (some ⟨pOf 784, 0⟩)])
noncomputable def sso12 : AO := .cells (.l [.ptr (some ⟨pOf 781, 0⟩), .map (some (pOf 783))])
noncomputable def sso13 : AO := .map .i64 (some (.any)) [((.ofNat 1), .fn (.func 45) [.ptr (some ⟨pOf 782, 0⟩)] []), ((.ofNat 2), .fn (.func 46) [.ptr (some ⟨pOf 782, 0⟩)] []), ((.ofNat 3), .fn (.func 47) [.ptr (some ⟨pOf 782, 0⟩)] []), ((.ofNat 4), .fn (.func 48) [.ptr (some ⟨pOf 782, 0⟩)] []), ((.ofNat 5), .fn (.func 49) [.ptr (some ⟨pOf 782, 0⟩)] []), ((.ofNat 6), .fn (.func 49) [.ptr (some ⟨pOf 782, 0⟩)] []), ((.ofNat 7), .fn (.func 50) [.ptr (some ⟨pOf 782, 0⟩)] []), ((.ofNat 8), .fn (.func 51) [.ptr (some ⟨pOf 782, 0⟩)] []), ((.ofNat 9), .fn (.func 52) [.ptr (some ⟨pOf 782, 0⟩)] []), ((.ofNat 10), .fn (.func 53) [.ptr (some ⟨pOf 782, 0⟩)] []), ((.ofNat 11), .fn (.func 54) [.ptr (some ⟨pOf 782, 0⟩)] []), ((.ofNat 12), .fn (.func 55) [.ptr (some ⟨pOf 782, 0⟩)] []), ((.ofNat 13), .fn (.func 56) [.ptr (some ⟨pOf 782, 0⟩)] [])]
noncomputable def sso14 : AO := .cells (.l [.bool true, .int .i64 (.ofNat 2), .int .i64 (.ofNat 0), .bool true, .bool true, .sl ⟨some ⟨pOf 1127, 0⟩, 4096, 4096, 1⟩, .bool true, .int .i64 (.ofNat 3), .int .i64 (.ofNat 0), .bool true, .bool true, .sl ⟨some ⟨pOf 1310, 0⟩, 4096, 4096, 1⟩, .bool true, .int .i64 (.ofNat 4), .int .i64 (.ofNat 0), .bool false, .bool true, .sl ⟨some ⟨pOf 368, 0⟩, 4096, 4096, 1⟩, .bool true, .int .i64 (.ofNat 5), .int .i64 (.ofNat 0), .bool false, .bool true, .sl ⟨some ⟨pOf 417, 0⟩, 4096, 4096, 1⟩, .bool true, .int .i64 (.ofNat 6), .int .i64 (.ofNat 0), .bool false, .bool true, .sl ⟨some ⟨pOf 536, 0⟩, 4096, 4096, 1⟩, .bool true, .int .i64 (.ofNat 7), .int .i64 (.ofNat 0), .bool false, .bool true, .sl ⟨some ⟨pOf 582, 0⟩, 4096, 4096, 1⟩, .bool false, .int .i64 (.ofNat 0), .int .i64 (.ofNat 0), .bool false, .bool false, .sl ⟨none, 0, 0, 0⟩, .bool false, .int .i64 (.ofNat 0), .int .i64 (.ofNat 0), .bool false, .bool false, .sl ⟨none, 0, 0, 0⟩])
noncomputable def sso15 : AO := .cells (.l [.ptr (some ⟨pOf 4, 0⟩), .ptr (some ⟨pOf 6, 0⟩), .int .u64 (.ofNat 2), .int .u64 (.ofNat 64), .int .u64 (.ofNat 6), .int .u64 (.ofNat 7), .int .u64 (.ofNat 2), .int .u64 (.ofNat 2), .int .u64 (.ofNat 0), .int .u64 (.ofNat 0), .int .u64 (.ofNat 0), .sl ⟨some ⟨pOf 432, 0⟩, 2, 2, 1⟩, .sl ⟨some ⟨pOf 474, 0⟩, 2, 2, 1⟩, .sl ⟨none, 0, 0, 0⟩, .int .u64 (.ofNat 2), .int .u64 (.ofNat 64), .int .u64 (.ofNat 6), .int .u64 (.ofNat 7), .int .u64 (.ofNat 2), .int .u64 (.ofNat 2), .int .u64 (.ofNat 0), .int .u64 (.ofNat 0), .int .u64 (.ofNat 0), .sl ⟨some ⟨pOf 1327, 0⟩, 3, 3, 1⟩, .sl ⟨some ⟨pOf 780, 0⟩, 2, 2, 1⟩, .sl ⟨some ⟨pOf 1332, 0⟩, 2, 2, 1⟩, .bool false, .int .i64 (.negSucc 0)])
noncomputable def sso16 : AO := .cells (.l [.ptr (some ⟨pOf 7, 0⟩), .int .i64 (.ofNat 1), .int .i64 (.ofNat 3), .int .u64 (.ofNat 1)])
noncomputable def sso17 : AO := .cells (.l [.int .i64 (.ofNat 3), .int .i64 (.ofNat 5), .int .i64 (.ofNat 2)])
noncomputable def sso18 : AO := .cells (.l [.bool true, .int .i64 (.ofNat 2), .int .i64 (.ofNat 0), .bool true, .bool true, .sl ⟨some ⟨pOf 1127, 0⟩, 4096, 4096, 1⟩, .bool true, .int .i64 (.ofNat 3), .int .i64 (.ofNat 0), .bool true, .bool true, .sl ⟨some ⟨pOf 1310, 0⟩, 4096, 4096, 1⟩, .bool true, .int .i64 (.ofNat 4), .int .i64 (.ofNat 0), .bool false, .bool true, .sl ⟨some ⟨pOf 368, 0⟩, 4096, 4096, 1⟩, .bool true, .int .i64 (.ofNat 5), .int .i64 (.ofNat 0), .bool false, .bool true, .sl ⟨some ⟨pOf 417, 0⟩, 4096, 4096, 1⟩, .bool true, .int .i64 (.ofNat 6), .int .i64 (.ofNat 0), .bool false, .bool true, .sl ⟨some ⟨pOf 536, 0⟩, 4096, 4096, 1⟩, .bool true, .int .i64 (.ofNat 7), .int .i64 (.ofNat 0), .bool false, .bool true, .sl ⟨some ⟨pOf 582, 0⟩, 4096, 4096, 1⟩, .bool true, .int .i64 (.ofNat 8), .int .i64 (.ofNat 0), .bool true, .bool true, .sl ⟨some ⟨pOf 1452, 0⟩, 4096, 4096, 1⟩, .bool true, .int .i64 (.ofNat 9), .int .i64 (.ofNat 0), .bool true, .bool true, .sl ⟨some ⟨pOf 1498, 0⟩, 4096, 4096, 1⟩])
noncomputable def sso19 : AO := .cells (.l [.ptr (some ⟨pOf 4, 0⟩), .ptr (some ⟨pOf 6, 0⟩), .int .u64 (.ofNat 2), .int .u64 (.ofNat 64), .int .u64 (.ofNat 6), .int .u64 (.ofNat 7), .int .u64 (.ofNat 2), .int .u64 (.ofNat 2), .int .u64 (.ofNat 0), .int .u64 (.ofNat 0), .int .u64 (.ofNat 0), .sl ⟨some ⟨pOf 432, 0⟩, 2, 2, 1⟩, .sl ⟨some ⟨pOf 474, 0⟩, 2, 2, 1⟩, .sl ⟨none, 0, 0, 0⟩, .int .u64 (.ofNat 2), .int .u64 (.ofNat 64), .int .u64 (.ofNat 6), .int .u64 (.ofNat 7), .int .u64 (.ofNat 2), .int .u64 (.ofNat 2), .int .u64 (.ofNat 0), .int .u64 (.ofNat 0), .int .u64 (.ofNat 0), .sl ⟨some ⟨pOf 1327, 0⟩, 3, 3, 1⟩, .sl ⟨some ⟨pOf 780, 0⟩, 2, 2, 1⟩, .sl ⟨some ⟨pOf 1332, 0⟩, 2, 2, 1⟩, .bool true, .int .i64 (.negSucc 0)])
noncomputable def sso20 : AO := .cells (.l [.ptr (some ⟨pOf 2796, 0⟩), .map (some (pOf 2798))])
noncomputable def sso21 : AO := .map .i64 (some (.any)) [((.ofNat 1), .fn (.func 45) [.ptr (some ⟨pOf 2797, 0⟩)] []), ((.ofNat 2), .fn (.func 46) [.ptr (some ⟨pOf 2797, 0⟩)] []), ((.ofNat 3), .fn (.func 47) [.ptr (some ⟨pOf 2797, 0⟩)] []), ((.ofNat 4), .fn (.func 48) [.ptr (some ⟨pOf 2797, 0⟩)] []), ((.ofNat 5), .fn (.func 49) [.ptr (some ⟨pOf 2797, 0⟩)] []), ((.ofNat 6), .fn (.func 49) [.ptr (some ⟨pOf 2797, 0⟩)] []), ((.ofNat 7), .fn (.func 50) [.ptr (some ⟨pOf 2797, 0⟩)] []), ((.ofNat 8), .fn (.func 51) [.ptr (some ⟨pOf 2797, 0⟩)] []), ((.ofNat 9), .fn (.func 52) [.ptr (some ⟨pOf 2797, 0⟩)] []), ((.ofNat 10), .fn (.func 53) [.ptr (some ⟨pOf 2797, 0⟩)] []), ((.ofNat 11), .fn (.func 54) [.ptr (some ⟨pOf 2797, 0⟩)] []), ((.ofNat 12), .fn (.func 55) [.ptr (some ⟨pOf 2797, 0⟩)] []), ((.ofNat 13), .fn (.func 56) [.ptr (some ⟨pOf 2797, 0⟩)] [])]
noncomputable def sso22 : AO := .cells (.l [.bool true, .int .i64 (.ofNat 2), .int .i64 (.ofNat 0), .bool true, .bool true, .sl ⟨some ⟨pOf 3165, 0⟩, 4096, 4096, 1⟩, .bool true, .int .i64 (.ofNat 3), .int .i64 (.ofNat 0), .bool true, .bool true, .sl ⟨some ⟨pOf 3348, 0⟩, 4096, 4096, 1⟩, .bool true, .int .i64 (.ofNat 4), .int .i64 (.ofNat 0), .bool false, .bool true, .sl ⟨some ⟨pOf 2383, 0⟩, 4096, 4096, 1⟩, .bool true, .int .i64 (.ofNat 5), .int .i64 (.ofNat 0), .bool false, .bool true, .sl ⟨some ⟨pOf 2432, 0⟩, 4096, 4096, 1⟩, .bool true, .int .i64 (.ofNat 6), .int .i64 (.ofNat 0), .bool false, .bool true, .sl ⟨some ⟨pOf 2551, 0⟩, 4096, 4096, 1⟩, .bool true, .int .i64 (.ofNat 7), .int .i64 (.ofNat 0), .bool false, .bool true, .sl ⟨some ⟨pOf 2597, 0⟩, 4096, 4096, 1⟩, .bool false, .int .i64 (.ofNat 0), .int .i64 (.ofNat 0), .bool false, .bool false, .sl ⟨none, 0, 0, 0⟩, .bool false, .int .i64 (.ofNat 0), .int .i64 (.ofNat 0), .bool false, .bool false, .sl ⟨none, 0, 0, 0⟩])
noncomputable def sso23 : AO := .cells (.l [.ptr (some ⟨pOf 2019, 0⟩), .ptr (some ⟨pOf 2021, 0⟩), .int .u64 (.ofNat 2), .int .u64 (.ofNat 64), .int .u64 (.ofNat 6), .int .u64 (.ofNat 7), .int .u64 (.ofNat 2), .int .u64 (.ofNat 2), .int .u64 (.ofNat 0), .int .u64 (.ofNat 0), .int .u64 (.ofNat 0), .sl ⟨some ⟨pOf 2447, 0⟩, 2, 2, 1⟩, .sl ⟨some ⟨pOf 2489, 0⟩, 2, 2, 1⟩, .sl ⟨none, 0, 0, 0⟩, .int .u64 (.ofNat 2), .int .u64 (.ofNat 64), .int .u64 (.ofNat 6), .int .u64 (.ofNat 7), .int .u64 (.ofNat 2), .int .u64 (.ofNat 2), .int .u64 (.ofNat 0), .int .u64 (.ofNat 0), .int .u64 (.ofNat 0), .sl ⟨some ⟨pOf 3365, 0⟩, 3, 3, 1⟩, .sl ⟨some ⟨pOf 2795, 0⟩, 2, 2, 1⟩, .sl ⟨some ⟨pOf 3370, 0⟩, 2, 2, 1⟩, .bool false, .int .i64 (.negSucc 0)])
noncomputable def sso24 : AO := .cells (.l [.ptr (some ⟨pOf 2022, 0⟩), .int .i64 (.ofNat 1), .int .i64 (.ofNat 3), .int .u64 (.ofNat 1)])
noncomputable def sso25 : AO := .cells (.l [.bool true, .int .i64 (.ofNat 2), .int .i64 (.ofNat 0), .bool true, .bool true, .sl ⟨some ⟨pOf 3964, 0⟩, 4096, 4096, 1⟩, .bool true, .int .i64 (.ofNat 3), .int .i64 (.ofNat 0), .bool true, .bool true, .sl ⟨some ⟨pOf 3348, 0⟩, 4096, 4096, 1⟩, .bool true, .int .i64 (.ofNat 4), .int .i64 (.ofNat 0), .bool false, .bool true, .sl ⟨some ⟨pOf 2383, 0⟩, 4096, 4096, 1⟩, .bool true, .int .i64 (.ofNat 5), .int .i64 (.ofNat 0), .bool false, .bool true, .sl ⟨some ⟨pOf 2432, 0⟩, 4096, 4096, 1⟩, .bool true, .int .i64 (.ofNat 6), .int .i64 (.ofNat 0), .bool false, .bool true, .sl ⟨some ⟨pOf 2551, 0⟩, 4096, 4096, 1⟩, .bool true, .int .i64 (.ofNat 7), .int .i64 (.ofNat 0), .bool false, .bool true, .sl ⟨some ⟨pOf 2597, 0⟩, 4096, 4096, 1⟩, .bool false, .int .i64 (.ofNat 0), .int .i64 (.ofNat 0), .bool false, .bool false, .sl ⟨none, 0, 0, 0⟩, .bool false, .int .i64 (.ofNat 0), .int .i64 (.ofNat 0), .bool false, .bool false, .sl ⟨none, 0, 0, 0⟩])
noncomputable def sso26 : AO := .cells (.b (Nat.add (Nat.add (Nat.add (Nat.add (Nat.add (Nat.add (Nat.add (Nat.add (Nat.add (Nat.add ssk0 (Nat.shiftLeft ssk15 32768)) (Nat.shiftLeft ssk13 65536)) (Nat.shiftLeft ssk14 94208)) (Nat.shiftLeft ssk10 98304)) (Nat.shiftLeft ssk4 131072)) (Nat.shiftLeft ssk5 163840)) (Nat.shiftLeft ssk6 196608)) (Nat.shiftLeft ssk7 229376)) (Nat.shiftLeft ssk11 262144)) (Nat.shiftLeft ssk12 294912)) 262144)
noncomputable def sso27 : AO := .cells (.l [.bool true, .int .i64 (.ofNat 2), .int .i64 (.ofNat 0), .bool false, .bool true, .sl ⟨some ⟨pOf 3964, 0⟩, 4096, 4096, 1⟩, .bool true, .int .i64 (.ofNat 3), .int .i64 (.ofNat 0), .bool false, .bool true, .sl ⟨some ⟨pOf 3348, 0⟩, 4096, 4096, 1⟩, .bool true, .int .i64 (.ofNat 4), .int .i64 (.ofNat 0), .bool false, .bool true, .sl ⟨some ⟨pOf 2383, 0⟩, 4096, 4096, 1⟩, .bool true, .int .i64 (.ofNat 5), .int .i64 (.ofNat 0), .bool false, .bool true, .sl ⟨some ⟨pOf 2432, 0⟩, 4096, 4096, 1⟩, .bool true, .int .i64 (.ofNat 6), .int .i64 (.ofNat 0), .bool false, .bool true, .sl ⟨some ⟨pOf 2551, 0⟩, 4096, 4096, 1⟩, .bool true, .int .i64 (.ofNat 7), .int .i64 (.ofNat 0), .bool false, .bool true, .sl ⟨some ⟨pOf 2597, 0⟩, 4096, 4096, 1⟩, .bool true, .int .i64 (.ofNat 8), .int .i64 (.ofNat 0), .bool false, .bool true, .sl ⟨some ⟨pOf 4097, 0⟩, 4096, 4096, 1⟩, .bool true, .int .i64 (.ofNat 9), .int .i64 (.ofNat 0), .bool false, .bool true, .sl ⟨some ⟨pOf 4143, 0⟩, 4096, 4096, 1⟩])
noncomputable def sso28 : AO := .cells (.l [.ptr (some ⟨pOf 2019, 0⟩), .ptr (some ⟨pOf 2021, 0⟩), .int .u64 (.ofNat 3), .int .u64 (.ofNat 64), .int .u64 (.ofNat 8), .int .u64 (.ofNat 9), .int .u64 (.ofNat 3), .int .u64 (.ofNat 2), .int .u64 (.ofNat 3), .int .u64 (.ofNat 1), .int .u64 (.ofNat 0), .sl ⟨some ⟨pOf 3365, 0⟩, 3, 3, 1⟩, .sl ⟨some ⟨pOf 4032, 0⟩, 2, 2, 1⟩, .sl ⟨none, 0, 0, 0⟩, .int .u64 (.ofNat 3), .int .u64 (.ofNat 64), .int .u64 (.ofNat 8), .int .u64 (.ofNat 9), .int .u64 (.ofNat 3), .int .u64 (.ofNat 2), .int .u64 (.ofNat 3), .int .u64 (.ofNat 1), .int .u64 (.ofNat 0), .sl ⟨some ⟨pOf 4339, 0⟩, 3, 3, 1⟩, .sl ⟨some ⟨pOf 4341, 0⟩, 2, 2, 1⟩, .sl ⟨none, 0, 0, 0⟩, .bool false, .int .i64 (.negSucc 0)])
noncomputable def sso29 : AO := .cells (.l [.bool true, .int .i64 (.ofNat 2), .int .i64 (.ofNat 0), .bool false, .bool true, .sl ⟨some ⟨pOf 3964, 0⟩, 4096, 4096, 1⟩, .bool true, .int .i64 (.ofNat 3), .int .i64 (.ofNat 0), .bool false, .bool true, .sl ⟨some ⟨pOf 3348, 0⟩, 4096, 4096, 1⟩, .bool true, .int .i64 (.ofNat 4), .int .i64 (.ofNat 0), .bool true, .bool true, .sl ⟨some ⟨pOf 4982, 0⟩, 4096, 4096, 1⟩, .bool true, .int .i64 (.ofNat 5), .int .i64 (.ofNat 0), .bool false, .bool true, .sl ⟨some ⟨pOf 2432, 0⟩, 4096, 4096, 1⟩, .bool true, .int .i64 (.ofNat 6), .int .i64 (.ofNat 0), .bool false, .bool true, .sl ⟨some ⟨pOf 2551, 0⟩, 4096, 4096, 1⟩, .bool true, .int .i64 (.ofNat 7), .int .i64 (.ofNat 0), .bool false, .bool true, .sl ⟨some ⟨pOf 2597, 0⟩, 4096, 4096, 1⟩, .bool true, .int .i64 (.ofNat 8), .int .i64 (.ofNat 0), .bool false, .bool true, .sl ⟨some ⟨pOf 4097, 0⟩, 4096, 4096, 1⟩, .bool true, .int .i64 (.ofNat 9), .int .i64 (.ofNat 0), .bool false, .bool true, .sl ⟨some ⟨pOf 4143, 0⟩, 4096, 4096, 1⟩])
noncomputable def sso30 : AO := .cells (.l [.ptr (some ⟨pOf 2019, 0⟩), .ptr (some ⟨pOf 2021, 0⟩), .int .u64 (.ofNat 3), .int .u64 (.ofNat 64), .int .u64 (.ofNat 8), .int .u64 (.ofNat 9), .int .u64 (.ofNat 3), .int .u64 (.ofNat 2), .int .u64 (.ofNat 3), .int .u64 (.ofNat 1), .int .u64 (.ofNat 0), .sl ⟨some ⟨pOf 3365, 0⟩, 3, 3, 1⟩, .sl ⟨some ⟨pOf 4032, 0⟩, 2, 2, 1⟩, .sl ⟨none, 0, 0, 0⟩, .int .u64 (.ofNat 3), .int .u64 (.ofNat 64), .int .u64 (.ofNat 8), .int .u64 (.ofNat 9), .int .u64 (.ofNat 3), .int .u64 (.ofNat 2), .int .u64 (.ofNat 3), .int .u64 (.ofNat 1), .int .u64 (.ofNat 0), .sl ⟨some ⟨pOf 4999, 0⟩, 3, 3, 1⟩, .sl ⟨some ⟨pOf 4341, 0⟩, 2, 2, 1⟩, .sl ⟨some ⟨pOf 5002, 0⟩, 1, 1, 1⟩, .bool false, .int .i64 (.negSucc 0)])
noncomputable def sso31 : AO := .cells (.l [.int .i64 (.ofNat 3), .int .i64 (.ofNat 5), .int .i64 (.ofNat 4)])
noncomputable def sso32 : AO := .cells (.l [.bool true, .int .i64 (.ofNat 8), .int .i64 (.ofNat 0), .bool false, .bool true, .sl ⟨some ⟨pOf 5224, 0⟩, 4096, 4096, 1⟩, .bool true, .int .i64 (.ofNat 9), .int .i64 (.ofNat 0), .bool false, .bool true, .sl ⟨some ⟨pOf 5311, 0⟩, 4096, 4096, 1⟩, .bool false, .int .i64 (.ofNat 0), .int .i64 (.ofNat 0), .bool false, .bool false, .sl ⟨none, 0, 0, 0⟩, .bool false, .int .i64 (.ofNat 0), .int .i64 (.ofNat 0), .bool false, .bool false, .sl ⟨none, 0, 0, 0⟩, .bool false, .int .i64 (.ofNat 0), .int .i64 (.ofNat 0), .bool false, .bool false, .sl ⟨none, 0, 0, 0⟩, .bool false, .int .i64 (.ofNat 0), .int .i64 (.ofNat 0), .bool false, .bool false, .sl ⟨none, 0, 0, 0⟩, .bool false, .int .i64 (.ofNat 0), .int .i64 (.ofNat 0), .bool false, .bool false, .sl ⟨none, 0, 0, 0⟩, .bool false, .int .i64 (.ofNat 0), .int .i64 (.ofNat 0), .bool false, .bool false, .sl ⟨none, 0, 0, 0⟩])
noncomputable def sso33 : AO := .cells (.l [.ptr (some ⟨pOf 2019, 0⟩), .ptr (some ⟨pOf 2021, 0⟩), .int .u64 (.ofNat 3), .int .u64 (.ofNat 64), .int .u64 (.ofNat 8), .int .u64 (.ofNat 9), .int .u64 (.ofNat 3), .int .u64 (.ofNat 2), .int .u64 (.ofNat 3), .int .u64 (.ofNat 1), .int .u64 (.ofNat 0), .sl ⟨some ⟨pOf 5350, 0⟩, 3, 3, 1⟩, .sl ⟨some ⟨pOf 5387, 0⟩, 2, 2, 1⟩, .sl ⟨none, 0, 0, 0⟩, .int .u64 (.ofNat 3), .int .u64 (.ofNat 64), .int .u64 (.ofNat 8), .int .u64 (.ofNat 9), .int .u64 (.ofNat 3), .int .u64 (.ofNat 2), .int .u64 (.ofNat 3), .int .u64 (.ofNat 1), .int .u64 (.ofNat 0), .sl ⟨some ⟨pOf 5391, 0⟩, 3, 3, 1⟩, .sl ⟨some ⟨pOf 5393, 0⟩, 2, 2, 1⟩, .sl ⟨none, 0, 0, 0⟩, .bool false, .int .i64 (.negSucc 0)])
noncomputable def sso34 : AO := .cells (.l [.bool true, .int .i64 (.ofNat 8), .int .i64 (.ofNat 0), .bool false, .bool true, .sl ⟨some ⟨pOf 5224, 0⟩, 4096, 4096, 1⟩, .bool true, .int .i64 (.ofNat 9), .int .i64 (.ofNat 0), .bool false, .bool true, .sl ⟨some ⟨pOf 5311, 0⟩, 4096, 4096, 1⟩, .bool true, .int .i64 (.ofNat 5), .int .i64 (.ofNat 0), .bool false, .bool true, .sl ⟨some ⟨pOf 5446, 0⟩, 4096, 4096, 1⟩, .bool true, .int .i64 (.ofNat 3), .int .i64 (.ofNat 0), .bool false, .bool true, .sl ⟨some ⟨pOf 5519, 0⟩, 4096, 4096, 1⟩, .bool true, .int .i64 (.ofNat 2), .int .i64 (.ofNat 0), .bool false, .bool true, .sl ⟨some ⟨pOf 5591, 0⟩, 4096, 4096, 1⟩, .bool false, .int .i64 (.ofNat 0), .int .i64 (.ofNat 0), .bool false, .bool false, .sl ⟨none, 0, 0, 0⟩, .bool false, .int .i64 (.ofNat 0), .int .i64 (.ofNat 0), .bool false, .bool false, .sl ⟨none, 0, 0, 0⟩, .bool false, .int .i64 (.ofNat 0), .int .i64 (.ofNat 0), .bool false, .bool false, .sl ⟨none, 0, 0, 0⟩])
noncomputable def ssm0_0 : ME := ⟨[.int .u64 (.ofNat 44105), .int .u64 (.ofNat 16), .int .u64 (.ofNat 3), .int .u64 (.ofNat 16140901064495857664)], pOf 3978,
   [],
   [],
   .int .u64 (.ofNat 11), pOf 3980,
   []⟩
noncomputable def ssm0_1 : ME := ⟨[.int .u64 (.ofNat 44105), .int .u64 (.ofNat 16), .int .u64 (.ofNat 3), .int .u64 (.ofNat 12682136550675316736)], pOf 5019,
   [],
   [],
   .int .u64 (.ofNat 11), pOf 5021,
   []⟩
noncomputable def ssm0_2 : ME := ⟨[.int .u64 (.ofNat 44105), .int .u64 (.ofNat 16), .int .u64 (.ofNat 3), .int .u64 (.ofNat 16140901064495857664)], pOf 5731,
   [],
   [],
   .int .u64 (.ofNat 11), pOf 5733,
   []⟩
noncomputable def sses0 : List ME := [ssm0_0, ssm0_1, ssm0_2]
noncomputable def ssf1 : Nat → Option FI := overF fns 566 (iMemo sses0)
noncomputable def ssm1_0 : ME := ⟨[.ptr (some ⟨pOf 4, 0⟩), .int .i64 (.ofNat 8)], pOf 5,
   [(pOf 3, .map .i64 (some (.sl)) []),
    (pOf 4, sso0)],
   [(pOf 2, .cells (.b 0 262144))],
   .tup [.ptr (some ⟨pOf 781, 0⟩), .int .i64 (.ofNat 0)], pOf 782,
   [(pOf 2, sso1),
    (pOf 5, sso2),
    (pOf 6, sso3),
    (pOf 7, sso4),
    (pOf 158, .cells (.b ssk2 4096)),
    (pOf 204, .cells (.b ssk3 4096)),
    (pOf 368, .cells (.b ssk4 4096)),
    (pOf 417, .cells (.b ssk5 4096)),
    (pOf 432, .cells (.l [.int .i64 (.ofNat 4), .int .i64 (.ofNat 5)])),
    (pOf 474, .cells (.l [.int .i64 (.ofNat 6), .int .i64 (.ofNat 7)])),
    (pOf 536, .cells (.b ssk6 4096)),
    (pOf 582, .cells (.b ssk7 4096)),
    (pOf 778, .cells (.l [.int .i64 (.ofNat 4), .int .i64 (.ofNat 5)])),
    (pOf 780, .cells (.l [.int .i64 (.ofNat 6), .int .i64 (.ofNat 7)])),
    (pOf 781, sso5)]⟩
noncomputable def ssm1_1 : ME := ⟨[.ptr (some ⟨pOf 2019, 0⟩), .int .i64 (.ofNat 8)], pOf 2020,
   [(pOf 2018, .map .i64 (some (.sl)) []),
    (pOf 2019, sso6)],
   [(pOf 2017, .cells (.b 0 262144))],
   .tup [.ptr (some ⟨pOf 2796, 0⟩), .int .i64 (.ofNat 0)], pOf 2797,
   [(pOf 2017, sso1),
    (pOf 2020, sso7),
    (pOf 2021, sso8),
    (pOf 2022, sso9),
    (pOf 2173, .cells (.b ssk2 4096)),
    (pOf 2219, .cells (.b ssk3 4096)),
    (pOf 2383, .cells (.b ssk4 4096)),
    (pOf 2432, .cells (.b ssk5 4096)),
    (pOf 2447, .cells (.l [.int .i64 (.ofNat 4), .int .i64 (.ofNat 5)])),
    (pOf 2489, .cells (.l [.int .i64 (.ofNat 6), .int .i64 (.ofNat 7)])),
    (pOf 2551, .cells (.b ssk6 4096)),
    (pOf 2597, .cells (.b ssk7 4096)),
    (pOf 2793, .cells (.l [.int .i64 (.ofNat 4), .int .i64 (.ofNat 5)])),
    (pOf 2795, .cells (.l [.int .i64 (.ofNat 6), .int .i64 (.ofNat 7)])),
    (pOf 2796, sso10)]⟩
noncomputable def sses1 : List ME := [ssm1_0, ssm1_1]
noncomputable def ssf2 : Nat → Option FI := overF ssf1 60 (iMemo sses1)
noncomputable def ssm2_0 : ME := ⟨[.ptr (some ⟨pOf 782, 0⟩), .agg [.int .i64 (.ofNat 1), .sl ⟨some ⟨pOf 787, 0⟩, 1, 1, 1⟩, .sl ⟨none, 0, 0, 0⟩, .int .i64 (.ofNat 1), .int .i64 (.ofNat 4), .sl ⟨none, 0, 0, 0⟩, .sl ⟨none, 0, 0, 0⟩]], pOf 789,
   [(pOf 2, sso1),
    (pOf 3, .map .i64 (some (.sl)) []),
    (pOf 4, sso11),
    (pOf 6, sso3),
    (pOf 158, .cells (.b ssk2 4096)),
    (pOf 204, .cells (.b ssk3 4096)),
    (pOf 368, .cells (.b ssk4 4096)),
    (pOf 417, .cells (.b ssk5 4096)),
    (pOf 432, .cells (.l [.int .i64 (.ofNat 4), .int .i64 (.ofNat 5)])),
    (pOf 474, .cells (.l [.int .i64 (.ofNat 6), .int .i64 (.ofNat 7)])),
    (pOf 536, .cells (.b ssk6 4096)),
    (pOf 582, .cells (.b ssk7 4096)),
    (pOf 778, .cells (.l [.int .i64 (.ofNat 4), .int .i64 (.ofNat 5)])),
    (pOf 780, .cells (.l [.int .i64 (.ofNat 6), .int .i64 (.ofNat 7)])),
    (pOf 782, sso12),
    (pOf 783, sso13),
    (pOf 784, .cells (.l [.int .i64 (.ofNat 0)])),
    (pOf 787, .cells (.b 97 1))],
   [(pOf 5, sso2),
    (pOf 7, sso4),
    (pOf 781, sso5)],
   .agg [.int .i64 (.ofNat 0), .int .u64 (.ofNat 0), .sl ⟨none, 0, 0, 0⟩, .sl ⟨none, 0, 0, 0⟩], pOf 1335,
   [(pOf 5, sso14),
    (pOf 7, sso15),
    (pOf 781, sso16),
    (pOf 1127, .cells (.b (Nat.add ssk8 (Nat.shiftLeft ssk9 28672)) 4096)),
    (pOf 1310, .cells (.b ssk10 4096)),
    (pOf 1327, sso17),
    (pOf 1332, .cells (.l [.int .i64 (.ofNat 2), .int .i64 (.ofNat 3)]))]⟩
noncomputable def ssm2_1 : ME := ⟨[.ptr (some ⟨pOf 782, 0⟩), .agg [.int .i64 (.ofNat 10), .sl ⟨some ⟨pOf 1337, 0⟩, 0, 0, 1⟩, .sl ⟨none, 0, 0, 0⟩, .int .i64 (.ofNat 0), .int .i64 (.ofNat 0), .sl ⟨none, 0, 0, 0⟩, .sl ⟨none, 0, 0, 0⟩]], pOf 1338,
   [(pOf 2, sso1),
    (pOf 3, .map .i64 (some (.sl)) []),
    (pOf 6, sso3),
    (pOf 368, .cells (.b ssk4 4096)),
    (pOf 417, .cells (.b ssk5 4096)),
    (pOf 432, .cells (.l [.int .i64 (.ofNat 4), .int .i64 (.ofNat 5)])),
    (pOf 474, .cells (.l [.int .i64 (.ofNat 6), .int .i64 (.ofNat 7)])),
    (pOf 536, .cells (.b ssk6 4096)),
    (pOf 582, .cells (.b ssk7 4096)),
    (pOf 780, .cells (.l [.int .i64 (.ofNat 6), .int .i64 (.ofNat 7)])),
    (pOf 781, sso16),
    (pOf 782, sso12),
    (pOf 783, sso13),
    (pOf 784, .cells (.l [.int .i64 (.ofNat 0)])),
    (pOf 1127, .cells (.b (Nat.add ssk8 (Nat.shiftLeft ssk9 28672)) 4096)),
    (pOf 1310, .cells (.b ssk10 4096)),
    (pOf 1327, sso17),
    (pOf 1332, .cells (.l [.int .i64 (.ofNat 2), .int .i64 (.ofNat 3)])),
    (pOf 1337, .cells (.b 0 0))],
   [(pOf 4, sso11),
    (pOf 5, sso14),
    (pOf 7, sso15)],
   .agg [.int .i64 (.ofNat 8), .int .u64 (.ofNat 0), .sl ⟨none, 0, 0, 0⟩, .sl ⟨none, 0, 0, 0⟩], pOf 1502,
   [(pOf 4, sso0),
    (pOf 5, sso18),
    (pOf 7, sso19),
    (pOf 1452, .cells (.b ssk11 4096)),
    (pOf 1498, .cells (.b ssk12 4096))]⟩
noncomputable def ssm2_2 : ME := ⟨[.ptr (some ⟨pOf 782, 0⟩), .agg [.int .i64 (.ofNat 99), .sl ⟨some ⟨pOf 1504, 0⟩, 0, 0, 1⟩, .sl ⟨none, 0, 0, 0⟩, .int .i64 (.ofNat 0), .int .i64 (.ofNat 0), .sl ⟨none, 0, 0, 0⟩, .sl ⟨none, 0, 0, 0⟩]], pOf 1505,
   [(pOf 2, sso1),
    (pOf 3, .map .i64 (some (.sl)) []),
    (pOf 4, sso0),
    (pOf 5, sso18),
    (pOf 6, sso3),
    (pOf 7, sso19),
    (pOf 368, .cells (.b ssk4 4096)),
    (pOf 417, .cells (.b ssk5 4096)),
    (pOf 432, .cells (.l [.int .i64 (.ofNat 4), .int .i64 (.ofNat 5)])),
    (pOf 474, .cells (.l [.int .i64 (.ofNat 6), .int .i64 (.ofNat 7)])),
    (pOf 536, .cells (.b ssk6 4096)),
    (pOf 582, .cells (.b ssk7 4096)),
    (pOf 780, .cells (.l [.int .i64 (.ofNat 6), .int .i64 (.ofNat 7)])),
    (pOf 781, sso16),
    (pOf 782, sso12),
    (pOf 783, sso13),
    (pOf 1127, .cells (.b (Nat.add ssk8 (Nat.shiftLeft ssk9 28672)) 4096)),
    (pOf 1310, .cells (.b ssk10 4096)),
    (pOf 1327, sso17),
    (pOf 1332, .cells (.l [.int .i64 (.ofNat 2), .int .i64 (.ofNat 3)])),
    (pOf 1452, .cells (.b ssk11 4096)),
    (pOf 1498, .cells (.b ssk12 4096)),
    (pOf 1504, .cells (.b 0 0))],
   [],
   .agg [.int .i64 (.ofNat 10), .int .u64 (.ofNat 0), .sl ⟨none, 0, 0, 0⟩, .sl ⟨none, 0, 0, 0⟩], pOf 1508,
   []⟩
noncomputable def ssm2_3 : ME := ⟨[.ptr (some ⟨pOf 782, 0⟩), .agg [.int .i64 (.ofNat 11), .sl ⟨some ⟨pOf 1510, 0⟩, 0, 0, 1⟩, .sl ⟨none, 0, 0, 0⟩, .int .i64 (.ofNat 0), .int .i64 (.ofNat 0), .sl ⟨none, 0, 0, 0⟩, .sl ⟨none, 0, 0, 0⟩]], pOf 1511,
   [(pOf 2, sso1),
    (pOf 3, .map .i64 (some (.sl)) []),
    (pOf 4, sso0),
    (pOf 6, sso3),
    (pOf 368, .cells (.b ssk4 4096)),
    (pOf 417, .cells (.b ssk5 4096)),
    (pOf 432, .cells (.l [.int .i64 (.ofNat 4), .int .i64 (.ofNat 5)])),
    (pOf 474, .cells (.l [.int .i64 (.ofNat 6), .int .i64 (.ofNat 7)])),
    (pOf 536, .cells (.b ssk6 4096)),
    (pOf 582, .cells (.b ssk7 4096)),
    (pOf 780, .cells (.l [.int .i64 (.ofNat 6), .int .i64 (.ofNat 7)])),
    (pOf 782, sso12),
    (pOf 783, sso13),
    (pOf 1127, .cells (.b (Nat.add ssk8 (Nat.shiftLeft ssk9 28672)) 4096)),
    (pOf 1310, .cells (.b ssk10 4096)),
    (pOf 1327, sso17),
    (pOf 1332, .cells (.l [.int .i64 (.ofNat 2), .int .i64 (.ofNat 3)])),
    (pOf 1452, .cells (.b ssk11 4096)),
    (pOf 1498, .cells (.b ssk12 4096)),
    (pOf 1510, .cells (.b 0 0))],
   [(pOf 5, sso18),
    (pOf 7, sso19),
    (pOf 781, sso16)],
   .agg [.int .i64 (.ofNat 0), .int .u64 (.ofNat 0), .sl ⟨none, 0, 0, 0⟩, .sl ⟨none, 0, 0, 0⟩], pOf 1881,
   [(pOf 5, .cells (.l [.bool true, .int .i64 (.ofNat 6), .int .i64 (.ofNat 0), .bool false, .bool true, .sl ⟨some ⟨pOf 1711, 0⟩, 4096, 4096, 1⟩, .bool true, .int .i64 (.ofNat 7), .int .i64 (.ofNat 0), .bool false, .bool true, .sl ⟨some ⟨pOf 1798, 0⟩, 4096, 4096, 1⟩, .bool false, .int .i64 (.ofNat 0), .int .i64 (.ofNat 0), .bool false, .bool false, .sl ⟨none, 0, 0, 0⟩, .bool false, .int .i64 (.ofNat 0), .int .i64 (.ofNat 0), .bool false, .bool false, .sl ⟨none, 0, 0, 0⟩, .bool false, .int .i64 (.ofNat 0), .int .i64 (.ofNat 0), .bool false, .bool false, .sl ⟨none, 0, 0, 0⟩, .bool false, .int .i64 (.ofNat 0), .int .i64 (.ofNat 0), .bool false, .bool false, .sl ⟨none, 0, 0, 0⟩, .bool false, .int .i64 (.ofNat 0), .int .i64 (.ofNat 0), .bool false, .bool false, .sl ⟨none, 0, 0, 0⟩, .bool false, .int .i64 (.ofNat 0), .int .i64 (.ofNat 0), .bool false, .bool false, .sl ⟨none, 0, 0, 0⟩])),
    (pOf 7, .cells (.l [.ptr (some ⟨pOf 4, 0⟩), .ptr (some ⟨pOf 6, 0⟩), .int .u64 (.ofNat 2), .int .u64 (.ofNat 64), .int .u64 (.ofNat 6), .int .u64 (.ofNat 7), .int .u64 (.ofNat 2), .int .u64 (.ofNat 2), .int .u64 (.ofNat 0), .int .u64 (.ofNat 0), .int .u64 (.ofNat 0), .sl ⟨some ⟨pOf 1835, 0⟩, 2, 2, 1⟩, .sl ⟨some ⟨pOf 1868, 0⟩, 2, 2, 1⟩, .sl ⟨none, 0, 0, 0⟩, .int .u64 (.ofNat 2), .int .u64 (.ofNat 64), .int .u64 (.ofNat 6), .int .u64 (.ofNat 7), .int .u64 (.ofNat 2), .int .u64 (.ofNat 2), .int .u64 (.ofNat 0), .int .u64 (.ofNat 0), .int .u64 (.ofNat 0), .sl ⟨some ⟨pOf 1872, 0⟩, 2, 2, 1⟩, .sl ⟨some ⟨pOf 1874, 0⟩, 2, 2, 1⟩, .sl ⟨none, 0, 0, 0⟩, .bool false, .int .i64 (.negSucc 0)])),
    (pOf 781, sso5),
    (pOf 1711, .cells (.b ssk6 4096)),
    (pOf 1798, .cells (.b ssk7 4096)),
    (pOf 1835, .cells (.l [.int .i64 (.ofNat 4), .int .i64 (.ofNat 5)])),
    (pOf 1868, .cells (.l [.int .i64 (.ofNat 6), .int .i64 (.ofNat 7)])),
    (pOf 1872, .cells (.l [.int .i64 (.ofNat 4), .int .i64 (.ofNat 5)])),
    (pOf 1874, .cells (.l [.int .i64 (.ofNat 6), .int .i64 (.ofNat 7)]))]⟩
noncomputable def ssm2_4 : ME := ⟨[.ptr (some ⟨pOf 2797, 0⟩), .agg [.int .i64 (.ofNat 1), .sl ⟨some ⟨pOf 2801, 0⟩, 1, 1, 1⟩, .sl ⟨none, 0, 0, 0⟩, .int .i64 (.ofNat 1), .int .i64 (.ofNat 4), .sl ⟨none, 0, 0, 0⟩, .sl ⟨none, 0, 0, 0⟩]], pOf 2827,
   [(pOf 2017, sso1),
    (pOf 2018, .map .i64 (some (.sl)) []),
    (pOf 2019, sso6),
    (pOf 2021, sso8),
    (pOf 2173, .cells (.b ssk2 4096)),
    (pOf 2219, .cells (.b ssk3 4096)),
    (pOf 2383, .cells (.b ssk4 4096)),
    (pOf 2432, .cells (.b ssk5 4096)),
    (pOf 2447, .cells (.l [.int .i64 (.ofNat 4), .int .i64 (.ofNat 5)])),
    (pOf 2489, .cells (.l [.int .i64 (.ofNat 6), .int .i64 (.ofNat 7)])),
    (pOf 2551, .cells (.b ssk6 4096)),
    (pOf 2597, .cells (.b ssk7 4096)),
    (pOf 2793, .cells (.l [.int .i64 (.ofNat 4), .int .i64 (.ofNat 5)])),
    (pOf 2795, .cells (.l [.int .i64 (.ofNat 6), .int .i64 (.ofNat 7)])),
    (pOf 2797, sso20),
    (pOf 2798, sso21),
    (pOf 2801, .cells (.b 97 1))],
   [(pOf 2020, sso7),
    (pOf 2022, sso9),
    (pOf 2796, sso10)],
   .agg [.int .i64 (.ofNat 0), .int .u64 (.ofNat 0), .sl ⟨none, 0, 0, 0⟩, .sl ⟨none, 0, 0, 0⟩], pOf 3373,
   [(pOf 2020, sso22),
    (pOf 2022, sso23),
    (pOf 2796, sso24),
    (pOf 3165, .cells (.b (Nat.add ssk8 (Nat.shiftLeft ssk9 28672)) 4096)),
    (pOf 3348, .cells (.b ssk10 4096)),
    (pOf 3365, sso17),
    (pOf 3370, .cells (.l [.int .i64 (.ofNat 2), .int .i64 (.ofNat 3)]))]⟩
noncomputable def ssm2_5 : ME := ⟨[.ptr (some ⟨pOf 2797, 0⟩), .agg [.int .i64 (.ofNat 2), .sl ⟨some ⟨pOf 2805, 0⟩, 1, 1, 1⟩, .sl ⟨none, 0, 0, 0⟩, .int .i64 (.ofNat 0), .int .i64 (.ofNat 0), .sl ⟨some ⟨pOf 2808, 0⟩, 1, 1, 0⟩, .sl ⟨none, 0, 0, 0⟩]], pOf 3376,
   [(pOf 2017, sso1),
    (pOf 2018, .map .i64 (some (.sl)) []),
    (pOf 2019, sso6),
    (pOf 2021, sso8),
    (pOf 2022, sso23),
    (pOf 2383, .cells (.b ssk4 4096)),
    (pOf 2432, .cells (.b ssk5 4096)),
    (pOf 2447, .cells (.l [.int .i64 (.ofNat 4), .int .i64 (.ofNat 5)])),
    (pOf 2489, .cells (.l [.int .i64 (.ofNat 6), .int .i64 (.ofNat 7)])),
    (pOf 2551, .cells (.b ssk6 4096)),
    (pOf 2597, .cells (.b ssk7 4096)),
    (pOf 2795, .cells (.l [.int .i64 (.ofNat 6), .int .i64 (.ofNat 7)])),
    (pOf 2796, sso24),
    (pOf 2797, sso20),
    (pOf 2798, sso21),
    (pOf 2805, .cells (.b 97 1)),
    (pOf 2807, .cells (.b 120 1)),
    (pOf 2808, .cells (.l [.sl ⟨some ⟨pOf 2807, 0⟩, 1, 1, 1⟩])),
    (pOf 3165, .cells (.b (Nat.add ssk8 (Nat.shiftLeft ssk9 28672)) 4096)),
    (pOf 3348, .cells (.b ssk10 4096)),
    (pOf 3365, sso17),
    (pOf 3370, .cells (.l [.int .i64 (.ofNat 2), .int .i64 (.ofNat 3)]))],
   [(pOf 2020, sso22)],
   .agg [.int .i64 (.ofNat 0), .int .u64 (.ofNat 1), .sl ⟨none, 0, 0, 0⟩, .sl ⟨none, 0, 0, 0⟩], pOf 3980,
   [(pOf 2020, sso25),
    (pOf 3964, .cells (.b (Nat.add ssk13 (Nat.shiftLeft ssk14 28672)) 4096))]⟩
noncomputable def ssm2_6 : ME := ⟨[.ptr (some ⟨pOf 2797, 0⟩), .agg [.int .i64 (.ofNat 10), .sl ⟨some ⟨pOf 2810, 0⟩, 0, 0, 1⟩, .sl ⟨none, 0, 0, 0⟩, .int .i64 (.ofNat 0), .int .i64 (.ofNat 0), .sl ⟨none, 0, 0, 0⟩, .sl ⟨none, 0, 0, 0⟩]], pOf 3983,
   [(pOf 2018, .map .i64 (some (.sl)) []),
    (pOf 2019, sso6),
    (pOf 2021, sso8),
    (pOf 2383, .cells (.b ssk4 4096)),
    (pOf 2432, .cells (.b ssk5 4096)),
    (pOf 2447, .cells (.l [.int .i64 (.ofNat 4), .int .i64 (.ofNat 5)])),
    (pOf 2489, .cells (.l [.int .i64 (.ofNat 6), .int .i64 (.ofNat 7)])),
    (pOf 2551, .cells (.b ssk6 4096)),
    (pOf 2597, .cells (.b ssk7 4096)),
    (pOf 2795, .cells (.l [.int .i64 (.ofNat 6), .int .i64 (.ofNat 7)])),
    (pOf 2796, sso24),
    (pOf 2797, sso20),
    (pOf 2798, sso21),
    (pOf 2810, .cells (.b 0 0)),
    (pOf 3348, .cells (.b ssk10 4096)),
    (pOf 3365, sso17),
    (pOf 3370, .cells (.l [.int .i64 (.ofNat 2), .int .i64 (.ofNat 3)])),
    (pOf 3964, .cells (.b (Nat.add ssk13 (Nat.shiftLeft ssk14 28672)) 4096))],
   [(pOf 2017, sso1),
    (pOf 2020, sso25),
    (pOf 2022, sso23)],
   .agg [.int .i64 (.ofNat 0), .int .u64 (.ofNat 0), .sl ⟨none, 0, 0, 0⟩, .sl ⟨none, 0, 0, 0⟩], pOf 4343,
   [(pOf 2017, sso26),
    (pOf 2020, sso27),
    (pOf 2022, sso28),
    (pOf 4032, .cells (.l [.int .i64 (.ofNat 8), .int .i64 (.ofNat 9)])),
    (pOf 4097, .cells (.b ssk11 4096)),
    (pOf 4143, .cells (.b ssk12 4096)),
    (pOf 4339, sso17),
    (pOf 4341, .cells (.l [.int .i64 (.ofNat 8), .int .i64 (.ofNat 9)]))]⟩
noncomputable def ssm2_7 : ME := ⟨[.ptr (some ⟨pOf 2797, 0⟩), .agg [.int .i64 (.ofNat 2), .sl ⟨some ⟨pOf 2813, 0⟩, 1, 1, 1⟩, .sl ⟨none, 0, 0, 0⟩, .int .i64 (.ofNat 0), .int .i64 (.ofNat 0), .sl ⟨some ⟨pOf 2816, 0⟩, 1, 1, 0⟩, .sl ⟨none, 0, 0, 0⟩]], pOf 4346,
   [(pOf 2017, sso26),
    (pOf 2018, .map .i64 (some (.sl)) []),
    (pOf 2019, sso6),
    (pOf 2021, sso8),
    (pOf 2383, .cells (.b ssk4 4096)),
    (pOf 2432, .cells (.b ssk5 4096)),
    (pOf 2551, .cells (.b ssk6 4096)),
    (pOf 2597, .cells (.b ssk7 4096)),
    (pOf 2796, sso24),
    (pOf 2797, sso20),
    (pOf 2798, sso21),
    (pOf 2813, .cells (.b 97 1)),
    (pOf 2815, .cells (.b 121 1)),
    (pOf 2816, .cells (.l [.sl ⟨some ⟨pOf 2815, 0⟩, 1, 1, 1⟩])),
    (pOf 3348, .cells (.b ssk10 4096)),
    (pOf 3365, sso17),
    (pOf 3964, .cells (.b (Nat.add ssk13 (Nat.shiftLeft ssk14 28672)) 4096)),
    (pOf 4032, .cells (.l [.int .i64 (.ofNat 8), .int .i64 (.ofNat 9)])),
    (pOf 4097, .cells (.b ssk11 4096)),
    (pOf 4143, .cells (.b ssk12 4096)),
    (pOf 4339, sso17),
    (pOf 4341, .cells (.l [.int .i64 (.ofNat 8), .int .i64 (.ofNat 9)]))],
   [(pOf 2020, sso27),
    (pOf 2022, sso28)],
   .agg [.int .i64 (.ofNat 0), .int .u64 (.ofNat 2), .sl ⟨none, 0, 0, 0⟩, .sl ⟨none, 0, 0, 0⟩], pOf 5021,
   [(pOf 2020, sso29),
    (pOf 2022, sso30),
    (pOf 4982, .cells (.b (Nat.add ssk16 (Nat.shiftLeft ssk17 28672)) 4096)),
    (pOf 4999, sso31),
    (pOf 5002, .cells (.l [.int .i64 (.ofNat 4)]))]⟩
noncomputable def ssm2_8 : ME := ⟨[.ptr (some ⟨pOf 2797, 0⟩), .agg [.int .i64 (.ofNat 11), .sl ⟨some ⟨pOf 2818, 0⟩, 0, 0, 1⟩, .sl ⟨none, 0, 0, 0⟩, .int .i64 (.ofNat 0), .int .i64 (.ofNat 0), .sl ⟨none, 0, 0, 0⟩, .sl ⟨none, 0, 0, 0⟩]], pOf 5024,
   [(pOf 2017, sso26),
    (pOf 2018, .map .i64 (some (.sl)) []),
    (pOf 2019, sso6),
    (pOf 2021, sso8),
    (pOf 2432, .cells (.b ssk5 4096)),
    (pOf 2551, .cells (.b ssk6 4096)),
    (pOf 2597, .cells (.b ssk7 4096)),
    (pOf 2796, sso24),
    (pOf 2797, sso20),
    (pOf 2798, sso21),
    (pOf 2818, .cells (.b 0 0)),
    (pOf 3348, .cells (.b ssk10 4096)),
    (pOf 3365, sso17),
    (pOf 3964, .cells (.b (Nat.add ssk13 (Nat.shiftLeft ssk14 28672)) 4096)),
    (pOf 4032, .cells (.l [.int .i64 (.ofNat 8), .int .i64 (.ofNat 9)])),
    (pOf 4097, .cells (.b ssk11 4096)),
    (pOf 4143, .cells (.b ssk12 4096)),
    (pOf 4341, .cells (.l [.int .i64 (.ofNat 8), .int .i64 (.ofNat 9)])),
    (pOf 4982, .cells (.b (Nat.add ssk16 (Nat.shiftLeft ssk17 28672)) 4096)),
    (pOf 4999, sso31),
    (pOf 5002, .cells (.l [.int .i64 (.ofNat 4)]))],
   [(pOf 2020, sso29),
    (pOf 2022, sso30)],
   .agg [.int .i64 (.ofNat 0), .int .u64 (.ofNat 0), .sl ⟨none, 0, 0, 0⟩, .sl ⟨none, 0, 0, 0⟩], pOf 5400,
   [(pOf 2020, sso32),
    (pOf 2022, sso33),
    (pOf 5224, .cells (.b ssk11 4096)),
    (pOf 5311, .cells (.b ssk12 4096)),
    (pOf 5350, sso17),
    (pOf 5387, .cells (.l [.int .i64 (.ofNat 8), .int .i64 (.ofNat 9)])),
    (pOf 5391, sso17),
    (pOf 5393, .cells (.l [.int .i64 (.ofNat 8), .int .i64 (.ofNat 9)]))]⟩
noncomputable def ssm2_9 : ME := ⟨[.ptr (some ⟨pOf 2797, 0⟩), .agg [.int .i64 (.ofNat 5), .sl ⟨some ⟨pOf 2820, 0⟩, 1, 1, 1⟩, .sl ⟨none, 0, 0, 0⟩, .int .i64 (.ofNat 0), .int .i64 (.ofNat 0), .sl ⟨none, 0, 0, 0⟩, .sl ⟨none, 0, 0, 0⟩]], pOf 5403,
   [(pOf 2017, sso26),
    (pOf 2018, .map .i64 (some (.sl)) []),
    (pOf 2019, sso6),
    (pOf 2021, sso8),
    (pOf 2022, sso33),
    (pOf 2796, sso24),
    (pOf 2797, sso20),
    (pOf 2798, sso21),
    (pOf 2820, .cells (.b 97 1)),
    (pOf 5224, .cells (.b ssk11 4096)),
    (pOf 5311, .cells (.b ssk12 4096)),
    (pOf 5350, sso17),
    (pOf 5387, .cells (.l [.int .i64 (.ofNat 8), .int .i64 (.ofNat 9)])),
    (pOf 5391, sso17),
    (pOf 5393, .cells (.l [.int .i64 (.ofNat 8), .int .i64 (.ofNat 9)]))],
   [(pOf 2020, sso32)],
   .agg [.int .i64 (.ofNat 0), .int .u64 (.ofNat 1), .sl ⟨none, 0, 0, 0⟩, .sl ⟨none, 0, 0, 0⟩], pOf 5733,
   [(pOf 2020, sso34),
    (pOf 5446, .cells (.b ssk5 4096)),
    (pOf 5519, .cells (.b ssk10 4096)),
    (pOf 5591, .cells (.b (Nat.add ssk13 (Nat.shiftLeft ssk14 28672)) 4096))]⟩
noncomputable def ssm2_10 : ME := ⟨[.ptr (some ⟨pOf 2797, 0⟩), .agg [.int .i64 (.ofNat 13), .sl ⟨some ⟨pOf 2822, 0⟩, 0, 0, 1⟩, .sl ⟨none, 0, 0, 0⟩, .int .i64 (.ofNat 0), .int .i64 (.ofNat 0), .sl ⟨none, 0, 0, 0⟩, .sl ⟨none, 0, 0, 0⟩]], pOf 5736,
   [(pOf 2017, sso26),
    (pOf 2018, .map .i64 (some (.sl)) []),
    (pOf 2019, sso6),
    (pOf 2020, sso34),
    (pOf 2021, sso8),
    (pOf 2022, sso33),
    (pOf 2796, sso24),
    (pOf 2797, sso20),
    (pOf 2798, sso21),
    (pOf 2822, .cells (.b 0 0)),
    (pOf 5224, .cells (.b ssk11 4096)),
    (pOf 5311, .cells (.b ssk12 4096)),
    (pOf 5350, sso17),
    (pOf 5387, .cells (.l [.int .i64 (.ofNat 8), .int .i64 (.ofNat 9)])),
    (pOf 5391, sso17),
    (pOf 5393, .cells (.l [.int .i64 (.ofNat 8), .int .i64 (.ofNat 9)])),
    (pOf 5446, .cells (.b ssk5 4096)),
    (pOf 5519, .cells (.b ssk10 4096)),
    (pOf 5591, .cells (.b (Nat.add ssk13 (Nat.shiftLeft ssk14 28672)) 4096))],
   [],
   .agg [.int .i64 (.ofNat 0), .int .u64 (.ofNat 0), .sl ⟨none, 0, 0, 0⟩, .sl ⟨none, 0, 0, 0⟩], pOf 6574,
   []⟩
noncomputable def ssm2_11 : ME := ⟨[.ptr (some ⟨pOf 2797, 0⟩), .agg [.int .i64 (.ofNat 14), .sl ⟨some ⟨pOf 2824, 0⟩, 1, 1, 1⟩, .sl ⟨none, 0, 0, 0⟩, .int .i64 (.ofNat 0), .int .i64 (.ofNat 0), .sl ⟨none, 0, 0, 0⟩, .sl ⟨none, 0, 0, 0⟩]], pOf 6577,
   [(pOf 2017, sso26),
    (pOf 2018, .map .i64 (some (.sl)) []),
    (pOf 2019, sso6),
    (pOf 2020, sso34),
    (pOf 2021, sso8),
    (pOf 2022, sso33),
    (pOf 2796, sso24),
    (pOf 2797, sso20),
    (pOf 2798, sso21),
    (pOf 2824, .cells (.b 97 1)),
    (pOf 5224, .cells (.b ssk11 4096)),
    (pOf 5311, .cells (.b ssk12 4096)),
    (pOf 5350, sso17),
    (pOf 5387, .cells (.l [.int .i64 (.ofNat 8), .int .i64 (.ofNat 9)])),
    (pOf 5391, sso17),
    (pOf 5393, .cells (.l [.int .i64 (.ofNat 8), .int .i64 (.ofNat 9)])),
    (pOf 5446, .cells (.b ssk5 4096)),
    (pOf 5519, .cells (.b ssk10 4096)),
    (pOf 5591, .cells (.b (Nat.add ssk13 (Nat.shiftLeft ssk14 28672)) 4096))],
   [],
   .agg [.int .i64 (.ofNat 2), .int .u64 (.ofNat 0), .sl ⟨none, 0, 0, 0⟩, .sl ⟨none, 0, 0, 0⟩], pOf 6580,
   []⟩
noncomputable def ssm2_12 : ME := ⟨[.ptr none, .agg [.int .i64 (.ofNat 0), .sl ⟨none, 0, 0, 0⟩, .sl ⟨none, 0, 0, 0⟩, .int .i64 (.ofNat 0), .int .i64 (.ofNat 0), .sl ⟨none, 0, 0, 0⟩, .sl ⟨none, 0, 0, 0⟩]], pOf 6582,
   [],
   [],
   .agg [.int .i64 (.ofNat 1), .int .u64 (.ofNat 0), .sl ⟨none, 0, 0, 0⟩, .sl ⟨none, 0, 0, 0⟩], pOf 6585,
   []⟩
noncomputable def sses2 : List ME := [ssm2_0, ssm2_1, ssm2_2, ssm2_3, ssm2_4, ssm2_5, ssm2_6, ssm2_7, ssm2_8, ssm2_9, ssm2_10, ssm2_11, ssm2_12]
noncomputable def ssf3 : Nat → Option FI := overF ssf2 9 (iMemo sses2)
noncomputable def ssm3_0 : ME := ⟨[], pOf 2015,
   [],
   [],
   .bool true, pOf 6582,
   []⟩
noncomputable def sses3 : List ME := [ssm3_0]
noncomputable def ssf4 : Nat → Option FI := overF ssf3 12 (iMemo sses3)
noncomputable def ssm4_0 : ME := ⟨[], pOf 0,
   [],
   [],
   .bool true, pOf 6585,
   []⟩
noncomputable def sses4 : List ME := [ssm4_0]
noncomputable def ssf5 : Nat → Option FI := overF ssf4 3 (iMemo sses4)
end Go.XS.Tryz
