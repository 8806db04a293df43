/- The tables of a run: the types. -/
import Derived.Test.YtmcpegdmnogkbaaGreatDoorProg
import Derived.Test.YtmcpegdmnogkbaaGreatDoorTsS1
import Derived.Test.YtmcpegdmnogkbaaGreatDoorXsTab
import Derived.Test.YtmcpegdmnogkbaaGreatDoorXiIns
import Derived.Test.YtmcpegdmnogkbaaGreatDoorXiBase
import Derived.Test.YtmcpegdmnogkbaaGreatDoorXiTrim
import Derived.Test.YtmcpegdmnogkbaaGreatDoorXsMemo
set_option linter.unusedSimpArgs false
set_option linter.unusedVariables false
namespace Go.XS.Tryz
open Go Go.TS
set_option maxRecDepth 100000
def ti3 : TI := ⟨.int .i64, (Value.int .i64 0), 1, 8, .leaf (.int .i64)⟩
def ti4 : TI := ⟨.bool, (Value.bool false), 1, 1, .leaf (.bool)⟩
def ti5 : TI := ⟨.int .u8, (Value.int .u8 0), 1, 1, .leaf (.int .u8)⟩
def ti9 : TI := ⟨.string, (Value.string ByteArray.empty), 1, 16, .leaf (.str)⟩
def ti22 : TI := ⟨.pointer 77, (Value.pointer none), 1, 8, .leaf (.ptr)⟩
def ti23 : TI := ⟨.slice 110, (Value.slice none 0 0), 1, 24, .leaf (.sl)⟩
def ti24 : TI := ⟨.int .i64, (Value.int .i64 0), 1, 8, .leaf (.int .i64)⟩
def ti29 : TI := ⟨.pointer 73, (Value.pointer none), 1, 8, .leaf (.ptr)⟩
def ti33 : TI := ⟨.int .u64, (Value.int .u64 0), 1, 8, .leaf (.int .u64)⟩
def ti34 : TI := ⟨.slice 5, (Value.slice none 0 0), 1, 24, .leaf (.sl)⟩
def ti35 : TI := ⟨.slice 34, (Value.slice none 0 0), 1, 24, .leaf (.sl)⟩
def ti37 : TI := ⟨.struct #[⟨ "Err", 24, 0, false, "", "", 0⟩, ⟨ "Number", 33, 1, false, "", "", 8⟩, ⟨ "Bytes", 34, 2, false, "", "", 16⟩, ⟨ "Names", 35, 3, false, "", "", 40⟩], (Value.agg #[(Value.int .i64 0), (Value.int .u64 0), (Value.slice none 0 0), (Value.slice none 0 0)]), 4, 64, .agg [.int .i64, .int .u64, .sl, .sl]⟩
def ti38 : TI := ⟨.func #[40] #[37] false, .nilFunc, 1, 8, .leaf .any⟩
def ti40 : TI := ⟨.struct #[⟨ "Op", 3, 0, false, "", "", 0⟩, ⟨ "Name", 34, 1, false, "", "", 8⟩, ⟨ "From", 34, 2, false, "", "", 32⟩, ⟨ "Kind", 3, 3, false, "", "", 56⟩, ⟨ "Param", 3, 4, false, "", "", 64⟩, ⟨ "Items", 35, 5, false, "", "", 72⟩, ⟨ "Bytes", 34, 6, false, "", "", 96⟩], (Value.agg #[(Value.int .i64 0), (Value.slice none 0 0), (Value.slice none 0 0), (Value.int .i64 0), (Value.int .i64 0), (Value.slice none 0 0), (Value.slice none 0 0)]), 7, 120, .agg [.int .i64, .sl, .sl, .int .i64, .int .i64, .sl, .sl]⟩
def ti44 : TI := ⟨.func #[] #[24] false, .nilFunc, 1, 8, .leaf .any⟩
def ti45 : TI := ⟨.pointer 123, (Value.pointer none), 1, 8, .leaf (.ptr)⟩
def ti47 : TI := ⟨.pointer 84, (Value.pointer none), 1, 8, .leaf (.ptr)⟩
def ti52 : TI := ⟨.slice 4, (Value.slice none 0 0), 1, 24, .leaf (.sl)⟩
def ti54 : TI := ⟨.struct #[⟨ "Keep", 52, 0, false, "", "", 0⟩, ⟨ "Torn", 3, 1, false, "", "", 24⟩, ⟨ "Bytes", 3, 2, false, "", "", 32⟩], (Value.agg #[(Value.slice none 0 0), (Value.int .i64 0), (Value.int .i64 0)]), 3, 40, .agg [.sl, .int .i64, .int .i64]⟩
def ti56 : TI := ⟨.struct #[⟨ "Kind", 3, 0, false, "", "", 0⟩, ⟨ "Cmd", 40, 1, false, "", "", 8⟩, ⟨ "After", 3, 8, false, "", "", 128⟩, ⟨ "Crash", 54, 9, false, "", "", 136⟩, ⟨ "Frames", 3, 12, false, "", "", 176⟩], (Value.agg #[(Value.int .i64 0), (Value.int .i64 0), (Value.slice none 0 0), (Value.slice none 0 0), (Value.int .i64 0), (Value.int .i64 0), (Value.slice none 0 0), (Value.slice none 0 0), (Value.int .i64 0), (Value.slice none 0 0), (Value.int .i64 0), (Value.int .i64 0), (Value.int .i64 0)]), 13, 184, .agg [.int .i64, .int .i64, .sl, .sl, .int .i64, .int .i64, .sl, .sl, .int .i64, .sl, .int .i64, .int .i64, .int .i64]⟩
def ti58 : TI := ⟨.struct #[⟨ "Act", 56, 0, false, "", "", 0⟩, ⟨ "Err", 24, 13, false, "", "", 184⟩, ⟨ "Reply", 37, 14, false, "", "", 192⟩], (Value.agg #[(Value.int .i64 0), (Value.int .i64 0), (Value.slice none 0 0), (Value.slice none 0 0), (Value.int .i64 0), (Value.int .i64 0), (Value.slice none 0 0), (Value.slice none 0 0), (Value.int .i64 0), (Value.slice none 0 0), (Value.int .i64 0), (Value.int .i64 0), (Value.int .i64 0), (Value.int .i64 0), (Value.int .i64 0), (Value.int .u64 0), (Value.slice none 0 0), (Value.slice none 0 0)]), 18, 256, .agg [.int .i64, .int .i64, .sl, .sl, .int .i64, .int .i64, .sl, .sl, .int .i64, .sl, .int .i64, .int .i64, .int .i64, .int .i64, .int .i64, .int .u64, .sl, .sl]⟩
def ti60 : TI := ⟨.slice 58, (Value.slice none 0 0), 1, 24, .leaf (.sl)⟩
def ti69 : TI := ⟨.map 3 34, (Value.map none), 1, 8, .leaf (.map)⟩
def ti70 : TI := ⟨.slice 3, (Value.slice none 0 0), 1, 24, .leaf (.sl)⟩
def ti71 : TI := ⟨.pointer 3, (Value.pointer none), 1, 8, .leaf (.ptr)⟩
def ti73 : TI := ⟨.struct #[⟨ "b", 34, 0, false, "", "tallyman/sector", 0⟩, ⟨ "cache", 69, 1, false, "", "tallyman/sector", 24⟩, ⟨ "order", 70, 2, false, "", "tallyman/sector", 32⟩, ⟨ "left", 71, 3, false, "", "tallyman/sector", 56⟩], (Value.agg #[(Value.slice none 0 0), (Value.map none), (Value.slice none 0 0), (Value.pointer none)]), 4, 64, .agg [.sl, .map, .sl, .ptr]⟩
def ti75 : TI := ⟨.map 3 38, (Value.map none), 1, 8, .leaf (.map)⟩
def ti77 : TI := ⟨.struct #[⟨ "t", 45, 0, false, "", "tallyman/session", 0⟩, ⟨ "ops", 75, 1, false, "", "tallyman/session", 8⟩], (Value.agg #[(Value.pointer none), (Value.map none)]), 2, 16, .agg [.ptr, .map]⟩
def ti84 : TI := ⟨.struct #[⟨ "d", 29, 0, false, "", "tallyman/world", 0⟩, ⟨ "s", 22, 1, false, "", "tallyman/world", 8⟩, ⟨ "l", 60, 2, false, "", "tallyman/world", 16⟩], (Value.agg #[(Value.pointer none), (Value.pointer none), (Value.slice none 0 0)]), 3, 40, .agg [.ptr, .ptr, .sl]⟩
def ti90 : TI := ⟨.slice 56, (Value.slice none 0 0), 1, 24, .leaf (.sl)⟩
def ti92 : TI := ⟨.slice 24, (Value.slice none 0 0), 1, 24, .leaf (.sl)⟩
def ti96 : TI := ⟨.func #[58, 58] #[4] false, .nilFunc, 1, 8, .leaf .any⟩
def ti99 : TI := ⟨.slice 291, (Value.slice none 0 0), 1, 24, .leaf (.sl)⟩
def ti101 : TI := ⟨.struct #[⟨ "P", 3, 0, false, "", "", 0⟩, ⟨ "Regs", 99, 1, false, "", "", 8⟩], (Value.agg #[(Value.int .i64 0), (Value.slice none 0 0)]), 2, 32, .agg [.int .i64, .sl]⟩
def ti102 : TI := ⟨.slice 33, (Value.slice none 0 0), 1, 24, .leaf (.sl)⟩
def ti104 : TI := ⟨.struct #[⟨ "K", 3, 0, false, "", "", 0⟩, ⟨ "Hashes", 102, 1, false, "", "", 8⟩, ⟨ "Limit", 33, 2, false, "", "", 32⟩], (Value.agg #[(Value.int .i64 0), (Value.slice none 0 0), (Value.int .u64 0)]), 3, 40, .agg [.int .i64, .sl, .int .u64]⟩
def ti106 : TI := ⟨.struct #[⟨ "Kind", 3, 0, false, "", "", 0⟩, ⟨ "Hll", 101, 1, false, "", "", 8⟩, ⟨ "Theta", 104, 3, false, "", "", 40⟩], (Value.agg #[(Value.int .i64 0), (Value.int .i64 0), (Value.slice none 0 0), (Value.int .i64 0), (Value.slice none 0 0), (Value.int .u64 0)]), 6, 80, .agg [.int .i64, .int .i64, .sl, .int .i64, .sl, .int .u64]⟩
def ti110 : TI := ⟨.struct #[⟨ "Name", 34, 0, false, "", "", 0⟩, ⟨ "Sketch", 106, 1, false, "", "", 24⟩], (Value.agg #[(Value.slice none 0 0), (Value.int .i64 0), (Value.int .i64 0), (Value.slice none 0 0), (Value.int .i64 0), (Value.slice none 0 0), (Value.int .u64 0)]), 7, 104, .agg [.sl, .int .i64, .int .i64, .sl, .int .i64, .sl, .int .u64]⟩
def ti111 : TI := ⟨.pointer 165, (Value.pointer none), 1, 8, .leaf (.ptr)⟩
def ti115 : TI := ⟨.struct #[⟨ "Dir", 3, 0, false, "", "", 0⟩, ⟨ "Hint", 3, 1, false, "", "", 8⟩, ⟨ "Count", 33, 2, false, "", "", 16⟩], (Value.agg #[(Value.int .i64 0), (Value.int .i64 0), (Value.int .u64 0)]), 3, 24, .agg [.int .i64, .int .i64, .int .u64]⟩
def ti118 : TI := ⟨.array 4 33, (Value.agg #[(Value.int .u64 0), (Value.int .u64 0), (Value.int .u64 0), (Value.int .u64 0)]), 4, 32, .agg [.int .u64, .int .u64, .int .u64, .int .u64]⟩
def ti120 : TI := ⟨.struct #[⟨ "Epoch", 33, 0, false, "", "", 0⟩, ⟨ "Pages", 33, 1, false, "", "", 8⟩, ⟨ "Table", 33, 2, false, "", "", 16⟩, ⟨ "Space", 33, 3, false, "", "", 24⟩, ⟨ "Logical", 33, 4, false, "", "", 32⟩, ⟨ "Meta", 118, 5, false, "", "", 40⟩], (Value.agg #[(Value.int .u64 0), (Value.int .u64 0), (Value.int .u64 0), (Value.int .u64 0), (Value.int .u64 0), (Value.int .u64 0), (Value.int .u64 0), (Value.int .u64 0), (Value.int .u64 0)]), 9, 72, .agg [.int .u64, .int .u64, .int .u64, .int .u64, .int .u64, .int .u64, .int .u64, .int .u64, .int .u64]⟩
def ti123 : TI := ⟨.struct #[⟨ "Store", 111, 0, true, "", "", 0⟩, ⟨ "top", 115, 1, false, "", "tallyman/store", 8⟩], (Value.agg #[(Value.pointer none), (Value.int .i64 0), (Value.int .i64 0), (Value.int .u64 0)]), 4, 32, .agg [.ptr, .int .i64, .int .i64, .int .u64]⟩
def ti132 : TI := ⟨.func #[34, 34] #[4] false, .nilFunc, 1, 8, .leaf .any⟩
def ti138 : TI := ⟨.slice 106, (Value.slice none 0 0), 1, 24, .leaf (.sl)⟩
def ti160 : TI := ⟨.struct #[⟨ "Phys", 70, 0, false, "", "", 0⟩], (Value.agg #[(Value.slice none 0 0)]), 1, 24, .agg [.sl]⟩
def ti162 : TI := ⟨.struct #[⟨ "root", 120, 0, false, "", "tallyman/shadow", 0⟩, ⟨ "table", 160, 9, false, "", "tallyman/shadow", 72⟩, ⟨ "own", 70, 10, false, "", "tallyman/shadow", 96⟩, ⟨ "fresh", 70, 11, false, "", "tallyman/shadow", 120⟩], (Value.agg #[(Value.int .u64 0), (Value.int .u64 0), (Value.int .u64 0), (Value.int .u64 0), (Value.int .u64 0), (Value.int .u64 0), (Value.int .u64 0), (Value.int .u64 0), (Value.int .u64 0), (Value.slice none 0 0), (Value.slice none 0 0), (Value.slice none 0 0)]), 12, 144, .agg [.int .u64, .int .u64, .int .u64, .int .u64, .int .u64, .int .u64, .int .u64, .int .u64, .int .u64, .sl, .sl, .sl]⟩
def ti163 : TI := ⟨.pointer 364, (Value.pointer none), 1, 8, .leaf (.ptr)⟩
def ti165 : TI := ⟨.struct #[⟨ "d", 29, 0, false, "", "tallyman/shadow", 0⟩, ⟨ "p", 163, 1, false, "", "tallyman/shadow", 8⟩, ⟨ "kept", 162, 2, false, "", "tallyman/shadow", 16⟩, ⟨ "now", 162, 14, false, "", "tallyman/shadow", 160⟩, ⟨ "broken", 4, 26, false, "", "tallyman/shadow", 304⟩, ⟨ "doubt", 3, 27, false, "", "tallyman/shadow", 312⟩], (Value.agg #[(Value.pointer none), (Value.pointer none), (Value.int .u64 0), (Value.int .u64 0), (Value.int .u64 0), (Value.int .u64 0), (Value.int .u64 0), (Value.int .u64 0), (Value.int .u64 0), (Value.int .u64 0), (Value.int .u64 0), (Value.slice none 0 0), (Value.slice none 0 0), (Value.slice none 0 0), (Value.int .u64 0), (Value.int .u64 0), (Value.int .u64 0), (Value.int .u64 0), (Value.int .u64 0), (Value.int .u64 0), (Value.int .u64 0), (Value.int .u64 0), (Value.int .u64 0), (Value.slice none 0 0), (Value.slice none 0 0), (Value.slice none 0 0), (Value.bool false), (Value.int .i64 0)]), 28, 320, .agg [.ptr, .ptr, .int .u64, .int .u64, .int .u64, .int .u64, .int .u64, .int .u64, .int .u64, .int .u64, .int .u64, .sl, .sl, .sl, .int .u64, .int .u64, .int .u64, .int .u64, .int .u64, .int .u64, .int .u64, .int .u64, .int .u64, .sl, .sl, .sl, .bool, .int .i64]⟩
def ti170 : TI := ⟨.slice 176, (Value.slice none 0 0), 1, 24, .leaf (.sl)⟩
def ti174 : TI := ⟨.struct #[⟨ "Page", 3, 0, false, "", "", 0⟩, ⟨ "Slot", 3, 1, false, "", "", 8⟩], (Value.agg #[(Value.int .i64 0), (Value.int .i64 0)]), 2, 16, .agg [.int .i64, .int .i64]⟩
def ti176 : TI := ⟨.struct #[⟨ "Hash", 33, 0, false, "", "", 0⟩, ⟨ "Place", 174, 1, false, "", "", 8⟩], (Value.agg #[(Value.int .u64 0), (Value.int .i64 0), (Value.int .i64 0)]), 3, 24, .agg [.int .u64, .int .i64, .int .i64]⟩
def ti178 : TI := ⟨.struct #[⟨ "Key", 34, 0, false, "", "", 0⟩, ⟨ "Over", 3, 1, false, "", "", 24⟩, ⟨ "Size", 3, 2, false, "", "", 32⟩, ⟨ "Value", 34, 3, false, "", "", 40⟩], (Value.agg #[(Value.slice none 0 0), (Value.int .i64 0), (Value.int .i64 0), (Value.slice none 0 0)]), 4, 64, .agg [.sl, .int .i64, .int .i64, .sl]⟩
def ti243 : TI := ⟨.struct #[⟨ "Pages", 3, 0, false, "", "", 0⟩, ⟨ "Used", 52, 1, false, "", "", 8⟩], (Value.agg #[(Value.int .i64 0), (Value.slice none 0 0)]), 2, 32, .agg [.int .i64, .sl]⟩
def ti253 : TI := ⟨.pointer 24, (Value.pointer none), 1, 8, .leaf (.ptr)⟩
def ti257 : TI := ⟨.func #[3] #[3] false, .nilFunc, 1, 8, .leaf .any⟩
def ti264 : TI := ⟨.struct #[⟨ "Depth", 3, 0, false, "", "", 0⟩, ⟨ "Buckets", 70, 1, false, "", "", 8⟩], (Value.agg #[(Value.int .i64 0), (Value.slice none 0 0)]), 2, 32, .agg [.int .i64, .sl]⟩
def ti268 : TI := ⟨.slice 272, (Value.slice none 0 0), 1, 24, .leaf (.sl)⟩
def ti272 : TI := ⟨.struct #[⟨ "Next", 3, 0, false, "", "", 0⟩, ⟨ "Refs", 170, 1, false, "", "", 8⟩], (Value.agg #[(Value.int .i64 0), (Value.slice none 0 0)]), 2, 32, .agg [.int .i64, .sl]⟩
def ti277 : TI := ⟨.slice 174, (Value.slice none 0 0), 1, 24, .leaf (.sl)⟩
def ti281 : TI := ⟨.int .u32, (Value.int .u32 0), 1, 4, .leaf (.int .u32)⟩
def ti283 : TI := ⟨.struct #[⟨ "Kind", 3, 0, false, "", "", 0⟩, ⟨ "Number", 281, 1, false, "", "", 8⟩, ⟨ "Body", 34, 2, false, "", "", 16⟩], (Value.agg #[(Value.int .i64 0), (Value.int .u32 0), (Value.slice none 0 0)]), 3, 40, .agg [.int .i64, .int .u32, .sl]⟩
def ti286 : TI := ⟨.pointer 420, (Value.pointer none), 1, 8, .leaf (.ptr)⟩
def ti291 : TI := ⟨.struct #[⟨ "Index", 3, 0, false, "", "", 0⟩, ⟨ "Rank", 3, 1, false, "", "", 8⟩], (Value.agg #[(Value.int .i64 0), (Value.int .i64 0)]), 2, 16, .agg [.int .i64, .int .i64]⟩
def ti298 : TI := ⟨.pointer 101, (Value.pointer none), 1, 8, .leaf (.ptr)⟩
def ti300 : TI := ⟨.struct #[⟨ "h", 298, 0, false, "", "tallyman/sketch", 0⟩], (Value.agg #[(Value.pointer none)]), 1, 8, .agg [.ptr]⟩
def ti302 : TI := ⟨.pointer 304, (Value.pointer none), 1, 8, .leaf (.ptr)⟩
def ti304 : TI := ⟨.struct #[⟨ "t", 104, 0, false, "", "tallyman/sketch", 0⟩], (Value.agg #[(Value.int .i64 0), (Value.slice none 0 0), (Value.int .u64 0)]), 3, 40, .agg [.int .i64, .sl, .int .u64]⟩
def ti309 : TI := ⟨.pointer 311, (Value.pointer none), 1, 8, .leaf (.ptr)⟩
def ti311 : TI := ⟨.struct #[⟨ "s", 111, 0, false, "", "tallyman/entry", 0⟩, ⟨ "t", 115, 1, false, "", "tallyman/entry", 8⟩, ⟨ "hash", 33, 4, false, "", "tallyman/entry", 32⟩, ⟨ "at", 174, 5, false, "", "tallyman/entry", 40⟩, ⟨ "old", 178, 7, false, "", "tallyman/entry", 56⟩, ⟨ "rec", 34, 11, false, "", "tallyman/entry", 120⟩], (Value.agg #[(Value.pointer none), (Value.int .i64 0), (Value.int .i64 0), (Value.int .u64 0), (Value.int .u64 0), (Value.int .i64 0), (Value.int .i64 0), (Value.slice none 0 0), (Value.int .i64 0), (Value.int .i64 0), (Value.slice none 0 0), (Value.slice none 0 0)]), 12, 144, .agg [.ptr, .int .i64, .int .i64, .int .u64, .int .u64, .int .i64, .int .i64, .sl, .int .i64, .int .i64, .sl, .sl]⟩
def ti353 : TI := ⟨.map 3 3, (Value.map none), 1, 8, .leaf (.map)⟩
def ti362 : TI := ⟨.slice 459, (Value.slice none 0 0), 1, 24, .leaf (.sl)⟩
def ti364 : TI := ⟨.struct #[⟨ "d", 29, 0, false, "", "tallyman/pool", 0⟩, ⟨ "frames", 362, 1, false, "", "tallyman/pool", 8⟩, ⟨ "hand", 3, 2, false, "", "tallyman/pool", 32⟩], (Value.agg #[(Value.pointer none), (Value.slice none 0 0), (Value.int .i64 0)]), 3, 40, .agg [.ptr, .sl, .int .i64]⟩
def ti366 : TI := ⟨.array 2 120, (Value.agg #[(Value.int .u64 0), (Value.int .u64 0), (Value.int .u64 0), (Value.int .u64 0), (Value.int .u64 0), (Value.int .u64 0), (Value.int .u64 0), (Value.int .u64 0), (Value.int .u64 0), (Value.int .u64 0), (Value.int .u64 0), (Value.int .u64 0), (Value.int .u64 0), (Value.int .u64 0), (Value.int .u64 0), (Value.int .u64 0), (Value.int .u64 0), (Value.int .u64 0)]), 18, 144, .agg [.int .u64, .int .u64, .int .u64, .int .u64, .int .u64, .int .u64, .int .u64, .int .u64, .int .u64, .int .u64, .int .u64, .int .u64, .int .u64, .int .u64, .int .u64, .int .u64, .int .u64, .int .u64]⟩
def ti367 : TI := ⟨.array 2 4, (Value.agg #[(Value.bool false), (Value.bool false)]), 2, 2, .agg [.bool, .bool]⟩
def ti373 : TI := ⟨.slice 457, (Value.slice none 0 0), 1, 24, .leaf (.sl)⟩
def ti380 : TI := ⟨.struct #[⟨ "page", 3, 0, false, "", "tallyman/chain", 0⟩, ⟨ "b", 34, 1, false, "", "tallyman/chain", 8⟩], (Value.agg #[(Value.int .i64 0), (Value.slice none 0 0)]), 2, 32, .agg [.int .i64, .sl]⟩
def ti382 : TI := ⟨.slice 70, (Value.slice none 0 0), 1, 24, .leaf (.sl)⟩
def ti386 : TI := ⟨.int .u64, (Value.int .u64 0), 1, 8, .leaf (.int .u64)⟩
def ti399 : TI := ⟨.func #[5] #[4] false, .nilFunc, 1, 8, .leaf .any⟩
def ti410 : TI := ⟨.struct #[⟨ "d", 264, 0, false, "", "tallyman/index", 0⟩, ⟨ "l", 268, 2, false, "", "tallyman/index", 32⟩, ⟨ "pages", 70, 3, false, "", "tallyman/index", 56⟩], (Value.agg #[(Value.int .i64 0), (Value.slice none 0 0), (Value.slice none 0 0), (Value.slice none 0 0)]), 4, 80, .agg [.int .i64, .sl, .sl, .sl]⟩
def ti420 : TI := ⟨.struct #[⟨ "b", 34, 0, false, "", "tallyman/octet", 0⟩, ⟨ "at", 3, 1, false, "", "tallyman/octet", 24⟩, ⟨ "err", 24, 2, false, "", "tallyman/octet", 32⟩, ⟨ "is", 4, 3, false, "", "tallyman/octet", 40⟩], (Value.agg #[(Value.slice none 0 0), (Value.int .i64 0), (Value.int .i64 0), (Value.bool false)]), 4, 48, .agg [.sl, .int .i64, .int .i64, .bool]⟩
def ti427 : TI := ⟨.slice 44, (Value.slice none 0 0), 1, 24, .leaf (.sl)⟩
def ti440 : TI := ⟨.pointer 527, (Value.pointer none), 1, 8, .leaf (.ptr)⟩
def ti444 : TI := ⟨.struct #[⟨ "slot", 3, 0, false, "", "tallyman/slots", 0⟩, ⟨ "at", 3, 1, false, "", "tallyman/slots", 8⟩, ⟨ "n", 3, 2, false, "", "tallyman/slots", 16⟩], (Value.agg #[(Value.int .i64 0), (Value.int .i64 0), (Value.int .i64 0)]), 3, 24, .agg [.int .i64, .int .i64, .int .i64]⟩
def ti457 : TI := ⟨.struct #[⟨ "Is", 4, 0, false, "", "", 0⟩, ⟨ "Page", 3, 1, false, "", "", 8⟩, ⟨ "Pins", 3, 2, false, "", "", 16⟩, ⟨ "Dirty", 4, 3, false, "", "", 24⟩, ⟨ "Used", 4, 4, false, "", "", 25⟩], (Value.agg #[(Value.bool false), (Value.int .i64 0), (Value.int .i64 0), (Value.bool false), (Value.bool false)]), 5, 32, .agg [.bool, .int .i64, .int .i64, .bool, .bool]⟩
def ti459 : TI := ⟨.struct #[⟨ "Frame", 457, 0, true, "", "", 0⟩, ⟨ "b", 34, 5, false, "", "tallyman/pool", 32⟩], (Value.agg #[(Value.bool false), (Value.int .i64 0), (Value.int .i64 0), (Value.bool false), (Value.bool false), (Value.slice none 0 0)]), 6, 56, .agg [.bool, .int .i64, .int .i64, .bool, .bool, .sl]⟩
def ti462 : TI := ⟨.map 3 463, (Value.map none), 1, 8, .leaf (.map)⟩
def ti463 : TI := ⟨.struct #[], (Value.agg #[]), 0, 0, .agg []⟩
def ti466 : TI := ⟨.int .i64, (Value.int .i64 0), 1, 8, .leaf (.int .i64)⟩
def ti481 : TI := ⟨.func #[276] #[] false, .nilFunc, 1, 8, .leaf .any⟩
def ti484 : TI := ⟨.pointer 459, (Value.pointer none), 1, 8, .leaf (.ptr)⟩
def ti490 : TI := ⟨.array 9 33, (Value.agg #[(Value.int .u64 0), (Value.int .u64 0), (Value.int .u64 0), (Value.int .u64 0), (Value.int .u64 0), (Value.int .u64 0), (Value.int .u64 0), (Value.int .u64 0), (Value.int .u64 0)]), 9, 72, .agg [.int .u64, .int .u64, .int .u64, .int .u64, .int .u64, .int .u64, .int .u64, .int .u64, .int .u64]⟩
def ti512 : TI := ⟨.func #[272] #[4] false, .nilFunc, 1, 8, .leaf .any⟩
def ti527 : TI := ⟨.array 4080 5, (Value.agg (Array.replicate 4080 (Value.int .u8 0))), 4080, 4080, .arr 4080⟩
def ti534 : TI := ⟨.array 256 4, (Value.agg (Array.replicate 256 (Value.bool false))), 256, 256, .arr 256⟩
def ti538 : TI := ⟨.pointer 534, (Value.pointer none), 1, 8, .leaf (.ptr)⟩
def ti547 : TI := ⟨.array 2 33, (Value.agg #[(Value.int .u64 0), (Value.int .u64 0)]), 2, 16, .agg [.int .u64, .int .u64]⟩
def ti569 : TI := ⟨.slice 444, (Value.slice none 0 0), 1, 24, .leaf (.sl)⟩
def ti592 : TI := ⟨.func #[444, 444] #[3] false, .nilFunc, 1, 8, .leaf .any⟩
def ti594 : TI := ⟨.array 256 281, (Value.agg (Array.replicate 256 (Value.int .u32 0))), 256, 1024, .arr 256⟩
def tyl : List (Nat × TI) := [(3, ti3), (4, ti4), (5, ti5), (9, ti9), (22, ti22), (23, ti23), (24, ti24), (29, ti29), (33, ti33), (34, ti34), (35, ti35), (37, ti37), (38, ti38), (40, ti40), (44, ti44), (45, ti45), (47, ti47), (52, ti52), (54, ti54), (56, ti56), (58, ti58), (60, ti60), (69, ti69), (70, ti70), (71, ti71), (73, ti73), (75, ti75), (77, ti77), (84, ti84), (90, ti90), (92, ti92), (96, ti96), (99, ti99), (101, ti101), (102, ti102), (104, ti104), (106, ti106), (110, ti110), (111, ti111), (115, ti115), (118, ti118), (120, ti120), (123, ti123), (132, ti132), (138, ti138), (160, ti160), (162, ti162), (163, ti163), (165, ti165), (170, ti170), (174, ti174), (176, ti176), (178, ti178), (243, ti243), (253, ti253), (257, ti257), (264, ti264), (268, ti268), (272, ti272), (277, ti277), (281, ti281), (283, ti283), (286, ti286), (291, ti291), (298, ti298), (300, ti300), (302, ti302), (304, ti304), (309, ti309), (311, ti311), (353, ti353), (362, ti362), (364, ti364), (366, ti366), (367, ti367), (373, ti373), (380, ti380), (382, ti382), (386, ti386), (399, ti399), (410, ti410), (420, ti420), (427, ti427), (440, ti440), (444, ti444), (457, ti457), (459, ti459), (462, ti462), (463, ti463), (466, ti466), (481, ti481), (484, ti484), (490, ti490), (512, ti512), (527, ti527), (534, ti534), (538, ti538), (547, ti547), (569, ti569), (592, ti592), (594, ti594)]
def mtl : List (String × Nat × Nat) := [("tallyman/sketch.bytes", 300, 553), ("tallyman/sketch.check", 300, 554)]
def tys : Tys := ⟨trOf tyl, mtT mtl⟩
end Go.XS.Tryz
/- The tables of a run: the functions. -/
namespace Go.XS.Tryz
open Go Go.TS
set_option maxRecDepth 100000
noncomputable def fnl : List (Nat × FI) := [(62, fiOf Go.Proofs.Tryz.f62), (33, fiOf Go.Proofs.Tryz.f33), (26, fiOf Go.Proofs.Tryz.f26), (15, fiOf Go.Proofs.Tryz.f15), (16, fiOf Go.Proofs.Tryz.f16), (17, fiOf Go.Proofs.Tryz.f17), (63, fiOf Go.Proofs.Tryz.f63), (64, fiOf Go.Proofs.Tryz.f64), (34, fiOf Go.Proofs.Tryz.f34), (29, fiOf Go.Proofs.Tryz.f29), (91, fiOf Go.Proofs.Tryz.f91), (96, fiOf Go.Proofs.Tryz.f96), (61, fiOf Go.Proofs.Tryz.f61), (30, fiOf Go.Proofs.Tryz.f30), (69, fiOf Go.Proofs.Tryz.f69), (176, fiOf Go.Proofs.Tryz.f176), (158, fiOf Go.Proofs.Tryz.f158), (345, fiOf Go.Proofs.Tryz.f345), (249, fiOf Go.Proofs.Tryz.f249), (283, fiOf Go.Proofs.Tryz.f283), (321, fiOf Go.Proofs.Tryz.f321), (144, .intr iSectors), (145, fiOf Go.Proofs.Tryz.f145), (254, fiOf Go.Proofs.Tryz.f254), (28, fiOf Go.Proofs.Tryz.f28), (97, fiOf Go.Proofs.Tryz.f97), (268, fiOf Go.Proofs.Tryz.f268), (342, fiOf Go.Proofs.Tryz.f342), (243, fiOf Go.Proofs.Tryz.f243), (365, fiOf Go.Proofs.Tryz.f365), (366, fiOf Go.Proofs.Tryz.f366), (255, fiOf Go.Proofs.Tryz.f255), (256, fiOf Go.Proofs.Tryz.f256), (156, fiOf Go.Proofs.Tryz.f156), (368, fiOf Go.Proofs.Tryz.f368), (367, fiOf Go.Proofs.Tryz.f367), (378, fiOf Go.Proofs.Tryz.f378), (284, fiOf Go.Proofs.Tryz.f284), (181, fiOf Go.Proofs.Tryz.f181), (182, .intr iRdWord), (263, .intr iWord), (477, .intr iParts), (442, fiOf Go.Proofs.Tryz.f442), (364, fiOf Go.Proofs.Tryz.f364), (379, fiOf Go.Proofs.Tryz.f379), (285, fiOf Go.Proofs.Tryz.f285), (286, fiOf Go.Proofs.Tryz.f286), (180, fiOf Go.Proofs.Tryz.f180), (370, .intr (iZeros 270)), (269, fiOf Go.Proofs.Tryz.f269), (358, fiOf Go.Proofs.Tryz.f358), (282, fiOf Go.Proofs.Tryz.f282), (371, fiOf Go.Proofs.Tryz.f371), (272, fiOf Go.Proofs.Tryz.f272), (290, fiOf Go.Proofs.Tryz.f290), (291, fiOf Go.Proofs.Tryz.f291), (271, fiOf Go.Proofs.Tryz.f271), (169, fiOf Go.Proofs.Tryz.f169), (179, fiOf Go.Proofs.Tryz.f179), (338, .intr iBRead), (373, fiOf Go.Proofs.Tryz.f373), (372, fiOf Go.Proofs.Tryz.f372), (273, fiOf Go.Proofs.Tryz.f273), (171, fiOf Go.Proofs.Tryz.f171), (423, fiOf Go.Proofs.Tryz.f423), (341, fiOf Go.Proofs.Tryz.f341), (236, fiOf Go.Proofs.Tryz.f236), (280, fiOf Go.Proofs.Tryz.f280), (420, fiOf Go.Proofs.Tryz.f420), (377, fiOf Go.Proofs.Tryz.f377), (281, fiOf Go.Proofs.Tryz.f281), (177, fiOf Go.Proofs.Tryz.f177), (305, fiOf Go.Proofs.Tryz.f305), (307, fiOf Go.Proofs.Tryz.f307), (194, fiOf Go.Proofs.Tryz.f194), (178, fiOf Go.Proofs.Tryz.f178), (102, fiOf Go.Proofs.Tryz.f102), (73, fiOf Go.Proofs.Tryz.f73), (44, fiOf Go.Proofs.Tryz.f44), (82, fiOf Go.Proofs.Tryz.f82), (75, fiOf Go.Proofs.Tryz.f75), (106, fiOf Go.Proofs.Tryz.f106), (76, fiOf Go.Proofs.Tryz.f76), (108, fiOf Go.Proofs.Tryz.f108), (114, fiOf Go.Proofs.Tryz.f114), (192, fiOf Go.Proofs.Tryz.f192), (380, fiOf Go.Proofs.Tryz.f380), (554, fiOf Go.Proofs.Tryz.f554), (111, fiOf Go.Proofs.Tryz.f111), (261, fiOf Go.Proofs.Tryz.f261), (292, fiOf Go.Proofs.Tryz.f292), (381, fiOf Go.Proofs.Tryz.f381), (293, fiOf Go.Proofs.Tryz.f293), (188, fiOf Go.Proofs.Tryz.f188), (553, fiOf Go.Proofs.Tryz.f553), (190, fiOf Go.Proofs.Tryz.f190), (250, fiOf Go.Proofs.Tryz.f250), (152, fiOf Go.Proofs.Tryz.f152), (153, fiOf Go.Proofs.Tryz.f153), (226, fiOf Go.Proofs.Tryz.f226), (136, fiOf Go.Proofs.Tryz.f136), (308, fiOf Go.Proofs.Tryz.f308), (195, fiOf Go.Proofs.Tryz.f195), (196, fiOf Go.Proofs.Tryz.f196), (197, fiOf Go.Proofs.Tryz.f197), (375, fiOf Go.Proofs.Tryz.f375), (448, fiOf Go.Proofs.Tryz.f448), (387, fiOf Go.Proofs.Tryz.f387), (295, fiOf Go.Proofs.Tryz.f295), (276, fiOf Go.Proofs.Tryz.f276), (389, fiOf Go.Proofs.Tryz.f389), (297, fiOf Go.Proofs.Tryz.f297), (298, fiOf Go.Proofs.Tryz.f298), (413, fiOf Go.Proofs.Tryz.f413), (324, fiOf Go.Proofs.Tryz.f324), (415, fiOf Go.Proofs.Tryz.f415), (416, fiOf Go.Proofs.Tryz.f416), (465, .intr iNoughts), (356, fiOf Go.Proofs.Tryz.f356), (252, fiOf Go.Proofs.Tryz.f252), (523, fiOf Go.Proofs.Tryz.f523), (513, fiOf Go.Proofs.Tryz.f513), (492, fiOf Go.Proofs.Tryz.f492), (466, fiOf Go.Proofs.Tryz.f466), (412, fiOf Go.Proofs.Tryz.f412), (323, fiOf Go.Proofs.Tryz.f323), (329, fiOf Go.Proofs.Tryz.f329), (414, fiOf Go.Proofs.Tryz.f414), (327, fiOf Go.Proofs.Tryz.f327), (328, fiOf Go.Proofs.Tryz.f328), (418, fiOf Go.Proofs.Tryz.f418), (419, fiOf Go.Proofs.Tryz.f419), (330, fiOf Go.Proofs.Tryz.f330), (331, fiOf Go.Proofs.Tryz.f331), (222, fiOf Go.Proofs.Tryz.f222), (359, fiOf Go.Proofs.Tryz.f359), (163, fiOf Go.Proofs.Tryz.f163), (253, fiOf Go.Proofs.Tryz.f253), (265, fiOf Go.Proofs.Tryz.f265), (436, fiOf Go.Proofs.Tryz.f436), (352, fiOf Go.Proofs.Tryz.f352), (456, fiOf Go.Proofs.Tryz.f456), (402, fiOf Go.Proofs.Tryz.f402), (455, fiOf Go.Proofs.Tryz.f455), (474, fiOf Go.Proofs.Tryz.f474), (437, fiOf Go.Proofs.Tryz.f437), (438, .intr iInsert), (360, fiOf Go.Proofs.Tryz.f360), (260, fiOf Go.Proofs.Tryz.f260), (333, fiOf Go.Proofs.Tryz.f333), (334, fiOf Go.Proofs.Tryz.f334), (227, fiOf Go.Proofs.Tryz.f227), (300, fiOf Go.Proofs.Tryz.f300), (201, fiOf Go.Proofs.Tryz.f201), (395, fiOf Go.Proofs.Tryz.f395), (452, fiOf Go.Proofs.Tryz.f452), (397, fiOf Go.Proofs.Tryz.f397), (396, fiOf Go.Proofs.Tryz.f396), (309, fiOf Go.Proofs.Tryz.f309), (357, fiOf Go.Proofs.Tryz.f357), (311, fiOf Go.Proofs.Tryz.f311), (453, fiOf Go.Proofs.Tryz.f453), (398, fiOf Go.Proofs.Tryz.f398), (400, fiOf Go.Proofs.Tryz.f400), (421, .intr iInsertR), (336, fiOf Go.Proofs.Tryz.f336), (335, fiOf Go.Proofs.Tryz.f335), (302, fiOf Go.Proofs.Tryz.f302), (301, fiOf Go.Proofs.Tryz.f301), (191, fiOf Go.Proofs.Tryz.f191), (110, fiOf Go.Proofs.Tryz.f110), (77, fiOf Go.Proofs.Tryz.f77), (45, fiOf Go.Proofs.Tryz.f45), (49, fiOf Go.Proofs.Tryz.f49), (24, fiOf Go.Proofs.Tryz.f24), (146, fiOf Go.Proofs.Tryz.f146), (89, fiOf Go.Proofs.Tryz.f89), (68, fiOf Go.Proofs.Tryz.f68), (166, fiOf Go.Proofs.Tryz.f166), (242, fiOf Go.Proofs.Tryz.f242), (369, fiOf Go.Proofs.Tryz.f369), (267, fiOf Go.Proofs.Tryz.f267), (244, fiOf Go.Proofs.Tryz.f244), (245, fiOf Go.Proofs.Tryz.f245), (147, fiOf Go.Proofs.Tryz.f147), (246, fiOf Go.Proofs.Tryz.f246), (247, fiOf Go.Proofs.Tryz.f247), (287, fiOf Go.Proofs.Tryz.f287), (184, fiOf Go.Proofs.Tryz.f184), (424, fiOf Go.Proofs.Tryz.f424), (425, .intr iTrimR), (344, fiOf Go.Proofs.Tryz.f344), (343, fiOf Go.Proofs.Tryz.f343), (248, fiOf Go.Proofs.Tryz.f248), (148, fiOf Go.Proofs.Tryz.f148), (374, fiOf Go.Proofs.Tryz.f374), (289, fiOf Go.Proofs.Tryz.f289), (183, fiOf Go.Proofs.Tryz.f183), (185, fiOf Go.Proofs.Tryz.f185), (186, fiOf Go.Proofs.Tryz.f186), (150, fiOf Go.Proofs.Tryz.f150), (262, fiOf Go.Proofs.Tryz.f262), (161, fiOf Go.Proofs.Tryz.f161), (151, fiOf Go.Proofs.Tryz.f151), (346, fiOf Go.Proofs.Tryz.f346), (251, fiOf Go.Proofs.Tryz.f251), (154, fiOf Go.Proofs.Tryz.f154), (155, fiOf Go.Proofs.Tryz.f155), (90, fiOf Go.Proofs.Tryz.f90), (57, fiOf Go.Proofs.Tryz.f57), (58, fiOf Go.Proofs.Tryz.f58), (59, fiOf Go.Proofs.Tryz.f59), (25, fiOf Go.Proofs.Tryz.f25), (6, fiOf Go.Proofs.Tryz.f6), (9, fiOf Go.Proofs.Tryz.f9), (159, fiOf Go.Proofs.Tryz.f159), (160, fiOf Go.Proofs.Tryz.f160), (162, fiOf Go.Proofs.Tryz.f162), (440, fiOf Go.Proofs.Tryz.f440), (362, fiOf Go.Proofs.Tryz.f362), (441, fiOf Go.Proofs.Tryz.f441), (363, fiOf Go.Proofs.Tryz.f363), (264, fiOf Go.Proofs.Tryz.f264), (164, fiOf Go.Proofs.Tryz.f164), (168, .intr iFlush), (266, fiOf Go.Proofs.Tryz.f266), (165, fiOf Go.Proofs.Tryz.f165), (167, fiOf Go.Proofs.Tryz.f167), (94, fiOf Go.Proofs.Tryz.f94), (92, fiOf Go.Proofs.Tryz.f92), (257, fiOf Go.Proofs.Tryz.f257), (258, fiOf Go.Proofs.Tryz.f258), (259, fiOf Go.Proofs.Tryz.f259), (157, fiOf Go.Proofs.Tryz.f157), (93, fiOf Go.Proofs.Tryz.f93), (95, fiOf Go.Proofs.Tryz.f95), (60, fiOf Go.Proofs.Tryz.f60), (27, fiOf Go.Proofs.Tryz.f27), (65, fiOf Go.Proofs.Tryz.f65), (66, fiOf Go.Proofs.Tryz.f66), (35, fiOf Go.Proofs.Tryz.f35), (18, fiOf Go.Proofs.Tryz.f18), (19, fiOf Go.Proofs.Tryz.f19), (36, fiOf Go.Proofs.Tryz.f36), (67, fiOf Go.Proofs.Tryz.f67), (37, fiOf Go.Proofs.Tryz.f37), (20, fiOf Go.Proofs.Tryz.f20), (38, fiOf Go.Proofs.Tryz.f38), (71, fiOf Go.Proofs.Tryz.f71), (70, fiOf Go.Proofs.Tryz.f70), (40, fiOf Go.Proofs.Tryz.f40), (41, fiOf Go.Proofs.Tryz.f41), (39, fiOf Go.Proofs.Tryz.f39), (21, fiOf Go.Proofs.Tryz.f21), (42, fiOf Go.Proofs.Tryz.f42), (22, fiOf Go.Proofs.Tryz.f22), (4, fiOf Go.Proofs.Tryz.f4)]
noncomputable def fnt : PT FI := fnTree fnl
noncomputable def fns : Nat → Option FI := fnGet fnt
def n_tallymanlaw29_WorldNames : Nat := 4
end Go.XS.Tryz
/- Calls of a closed run: the calls. -/
namespace Go.XS.Tryz
open Go Go.TS
set_option maxRecDepth 100000
set_option linter.unusedVariables false
def wnk0 : Nat := 0x2000000000000000200000000000000070000000000000006000000000000004000000000000000028049b999000000000000000201014d54
def wnk1 : Nat := 0x300000000000000020000000000000040000000000000000100a6f3fb000000000000000101014d54
def wnk2 : Nat := 0x100000000c08c10d8000000000000000002014d54
def wnk3 : Nat := 0xf00000040000c00000000571dbd5c000000000000000003014d54
def wnk4 : Nat := 0xa5ced327000000000000000005014d54
def wnk5 : Nat := 0xca1cb84c000000000000000104014d54
def wnk6 : Nat := 0x50402000300000000c6708a2a000000000000000002014d54
def wnk7 : Nat := 0xf300000040000c00000000c0a850c3000000000000000003014d54
def wnk8 : Nat := 0x80fe80fe800016bd5d658000000000000000206014d54
def wnk9 : Nat := 0x40104006101000000000000000000000000000000000000000000000000000000000000000000000000000000000000000000000000000000000000000000000000000000000000000000000000000000000000000000000000000000000000000000000000000000000000000000000000000000000000000000000000000000000000000000000000000000000000000000000000000000000000000000000000000000000000000000000000000000000000000000000000000000000000000000000000000000000000000000000000000000000000000000000000000000000000000000000000000000000000000000000000000000000000000000000000000000000000000000000000000000000000000000000000000000000000000000000000000000000000000000000000000000000000000000000000000000000000000000000000000000000000000000000000000000000000000000000000000000000000000000000000000000000000000000000000000000000000000000000000000000000000000000000000000000000000000000000000000000000000000000000000000000000000000000000000000000000000000000000000000000000000000000000000000000000000000000000000000000000000000000000000000000000000000000000000000000000000000000000000
def wnk10 : Nat := 0x2d24ec4f1a98c6e5b0001000000008c84fe08000000000000000005014d54
noncomputable def wno0 : AO := .cells (.b (Nat.add (Nat.add (Nat.add (Nat.add (Nat.add (Nat.add (Nat.add wnk0 (Nat.shiftLeft wnk1 32768)) (Nat.shiftLeft wnk2 65536)) (Nat.shiftLeft wnk3 98304)) (Nat.shiftLeft wnk4 131072)) (Nat.shiftLeft wnk5 163840)) (Nat.shiftLeft wnk6 196608)) (Nat.shiftLeft wnk7 229376)) 262144)
noncomputable def wno1 : AO := .cells (.l [.sl ⟨some ⟨pOf 841, 0⟩, 262144, 262144, 1⟩, .map (some (pOf 842)), .sl ⟨none, 0, 0, 0⟩, .ptr none])
noncomputable def wno2 : AO := .cells (.l [.bool true, .int .i64 (.ofNat 2), .int .i64 (.ofNat 0), .bool false, .bool true, .sl ⟨some ⟨pOf 1106, 0⟩, 4096, 4096, 1⟩, .bool true, .int .i64 (.ofNat 3), .int .i64 (.ofNat 0), .bool false, .bool true, .sl ⟨some ⟨pOf 1152, 0⟩, 4096, 4096, 1⟩, .bool true, .int .i64 (.ofNat 4), .int .i64 (.ofNat 0), .bool false, .bool true, .sl ⟨some ⟨pOf 1316, 0⟩, 4096, 4096, 1⟩, .bool true, .int .i64 (.ofNat 5), .int .i64 (.ofNat 0), .bool false, .bool true, .sl ⟨some ⟨pOf 1365, 0⟩, 4096, 4096, 1⟩, .bool true, .int .i64 (.ofNat 6), .int .i64 (.ofNat 0), .bool false, .bool true, .sl ⟨some ⟨pOf 1484, 0⟩, 4096, 4096, 1⟩, .bool true, .int .i64 (.ofNat 7), .int .i64 (.ofNat 0), .bool false, .bool true, .sl ⟨some ⟨pOf 1530, 0⟩, 4096, 4096, 1⟩, .bool false, .int .i64 (.ofNat 0), .int .i64 (.ofNat 0), .bool false, .bool false, .sl ⟨none, 0, 0, 0⟩, .bool false, .int .i64 (.ofNat 0), .int .i64 (.ofNat 0), .bool false, .bool false, .sl ⟨none, 0, 0, 0⟩])
noncomputable def wno3 : AO := .cells (.l [.ptr (some ⟨pOf 843, 0⟩), .sl ⟨some ⟨pOf 953, 0⟩, 8, 8, 0⟩, .int .i64 (.ofNat 0)])
noncomputable def wno4 : AO := .cells (.l [.ptr (some ⟨pOf 843, 0⟩), .ptr (some ⟨pOf 954, 0⟩), .int .u64 (.ofNat 2), .int .u64 (.ofNat 64), .int .u64 (.ofNat 6), .int .u64 (.ofNat 7), .int .u64 (.ofNat 2), .int .u64 (.ofNat 2), .int .u64 (.ofNat 0), .int .u64 (.ofNat 0), .int .u64 (.ofNat 0), .sl ⟨some ⟨pOf 1380, 0⟩, 2, 2, 1⟩, .sl ⟨some ⟨pOf 1422, 0⟩, 2, 2, 1⟩, .sl ⟨none, 0, 0, 0⟩, .int .u64 (.ofNat 2), .int .u64 (.ofNat 64), .int .u64 (.ofNat 6), .int .u64 (.ofNat 7), .int .u64 (.ofNat 2), .int .u64 (.ofNat 2), .int .u64 (.ofNat 0), .int .u64 (.ofNat 0), .int .u64 (.ofNat 0), .sl ⟨some ⟨pOf 1726, 0⟩, 2, 2, 1⟩, .sl ⟨some ⟨pOf 1728, 0⟩, 2, 2, 1⟩, .sl ⟨none, 0, 0, 0⟩, .bool false, .int .i64 (.negSucc 0)])
noncomputable def wno5 : AO := .cells (.l [.ptr (some ⟨pOf 955, 0⟩), .int .i64 (.ofNat 1), .int .i64 (.ofNat 0), .int .u64 (.ofNat 0)])
noncomputable def wnm0_0 : ME := ⟨[.ptr (some ⟨pOf 4, 0⟩), .int .i64 (.ofNat 8)], pOf 23,
   [(pOf 3, .map .i64 (some (.sl)) []),
    (pOf 4, .cells (.l [.sl ⟨some ⟨pOf 2, 0⟩, 262144, 262144, 1⟩, .map (some (pOf 3)), .sl ⟨none, 0, 0, 0⟩, .ptr none]))],
   [(pOf 2, .cells (.b 0 262144))],
   .tup [.ptr (some ⟨pOf 799, 0⟩), .int .i64 (.ofNat 0)], pOf 800,
   [(pOf 2, wno0),
    (pOf 23, .cells (.l [.bool true, .int .i64 (.ofNat 2), .int .i64 (.ofNat 0), .bool false, .bool true, .sl ⟨some ⟨pOf 176, 0⟩, 4096, 4096, 1⟩, .bool true, .int .i64 (.ofNat 3), .int .i64 (.ofNat 0), .bool false, .bool true, .sl ⟨some ⟨pOf 222, 0⟩, 4096, 4096, 1⟩, .bool true, .int .i64 (.ofNat 4), .int .i64 (.ofNat 0), .bool false, .bool true, .sl ⟨some ⟨pOf 386, 0⟩, 4096, 4096, 1⟩, .bool true, .int .i64 (.ofNat 5), .int .i64 (.ofNat 0), .bool false, .bool true, .sl ⟨some ⟨pOf 435, 0⟩, 4096, 4096, 1⟩, .bool true, .int .i64 (.ofNat 6), .int .i64 (.ofNat 0), .bool false, .bool true, .sl ⟨some ⟨pOf 554, 0⟩, 4096, 4096, 1⟩, .bool true, .int .i64 (.ofNat 7), .int .i64 (.ofNat 0), .bool false, .bool true, .sl ⟨some ⟨pOf 600, 0⟩, 4096, 4096, 1⟩, .bool false, .int .i64 (.ofNat 0), .int .i64 (.ofNat 0), .bool false, .bool false, .sl ⟨none, 0, 0, 0⟩, .bool false, .int .i64 (.ofNat 0), .int .i64 (.ofNat 0), .bool false, .bool false, .sl ⟨none, 0, 0, 0⟩])),
    (pOf 24, .cells (.l [.ptr (some ⟨pOf 4, 0⟩), .sl ⟨some ⟨pOf 23, 0⟩, 8, 8, 0⟩, .int .i64 (.ofNat 0)])),
    (pOf 25, .cells (.l [.ptr (some ⟨pOf 4, 0⟩), .ptr (some ⟨pOf 24, 0⟩), .int .u64 (.ofNat 2), .int .u64 (.ofNat 64), .int .u64 (.ofNat 6), .int .u64 (.ofNat 7), .int .u64 (.ofNat 2), .int .u64 (.ofNat 2), .int .u64 (.ofNat 0), .int .u64 (.ofNat 0), .int .u64 (.ofNat 0), .sl ⟨some ⟨pOf 450, 0⟩, 2, 2, 1⟩, .sl ⟨some ⟨pOf 492, 0⟩, 2, 2, 1⟩, .sl ⟨none, 0, 0, 0⟩, .int .u64 (.ofNat 2), .int .u64 (.ofNat 64), .int .u64 (.ofNat 6), .int .u64 (.ofNat 7), .int .u64 (.ofNat 2), .int .u64 (.ofNat 2), .int .u64 (.ofNat 0), .int .u64 (.ofNat 0), .int .u64 (.ofNat 0), .sl ⟨some ⟨pOf 796, 0⟩, 2, 2, 1⟩, .sl ⟨some ⟨pOf 798, 0⟩, 2, 2, 1⟩, .sl ⟨none, 0, 0, 0⟩, .bool false, .int .i64 (.negSucc 0)])),
    (pOf 176, .cells (.b wnk2 4096)),
    (pOf 222, .cells (.b wnk3 4096)),
    (pOf 386, .cells (.b wnk4 4096)),
    (pOf 435, .cells (.b wnk5 4096)),
    (pOf 450, .cells (.l [.int .i64 (.ofNat 4), .int .i64 (.ofNat 5)])),
    (pOf 492, .cells (.l [.int .i64 (.ofNat 6), .int .i64 (.ofNat 7)])),
    (pOf 554, .cells (.b wnk6 4096)),
    (pOf 600, .cells (.b wnk7 4096)),
    (pOf 796, .cells (.l [.int .i64 (.ofNat 4), .int .i64 (.ofNat 5)])),
    (pOf 798, .cells (.l [.int .i64 (.ofNat 6), .int .i64 (.ofNat 7)])),
    (pOf 799, .cells (.l [.ptr (some ⟨pOf 25, 0⟩), .int .i64 (.ofNat 1), .int .i64 (.ofNat 0), .int .u64 (.ofNat 0)]))]⟩
noncomputable def wnm0_1 : ME := ⟨[.ptr (some ⟨pOf 843, 0⟩), .int .i64 (.ofNat 8)], pOf 953,
   [(pOf 842, .map .i64 (some (.sl)) []),
    (pOf 843, wno1)],
   [(pOf 841, .cells (.b 0 262144))],
   .tup [.ptr (some ⟨pOf 1729, 0⟩), .int .i64 (.ofNat 0)], pOf 1730,
   [(pOf 841, wno0),
    (pOf 953, wno2),
    (pOf 954, wno3),
    (pOf 955, wno4),
    (pOf 1106, .cells (.b wnk2 4096)),
    (pOf 1152, .cells (.b wnk3 4096)),
    (pOf 1316, .cells (.b wnk4 4096)),
    (pOf 1365, .cells (.b wnk5 4096)),
    (pOf 1380, .cells (.l [.int .i64 (.ofNat 4), .int .i64 (.ofNat 5)])),
    (pOf 1422, .cells (.l [.int .i64 (.ofNat 6), .int .i64 (.ofNat 7)])),
    (pOf 1484, .cells (.b wnk6 4096)),
    (pOf 1530, .cells (.b wnk7 4096)),
    (pOf 1726, .cells (.l [.int .i64 (.ofNat 4), .int .i64 (.ofNat 5)])),
    (pOf 1728, .cells (.l [.int .i64 (.ofNat 6), .int .i64 (.ofNat 7)])),
    (pOf 1729, wno5)]⟩
noncomputable def wnes0 : List ME := [wnm0_0, wnm0_1]
noncomputable def wnf1 : Nat → Option FI := overF fns 60 (iMemo wnes0)
noncomputable def wnm1_0 : ME := ⟨[.ptr (some ⟨pOf 1730, 0⟩), .agg [.int .i64 (.ofNat 1), .sl ⟨some ⟨pOf 846, 0⟩, 1, 1, 1⟩, .sl ⟨none, 0, 0, 0⟩, .int .i64 (.ofNat 1), .int .i64 (.ofNat 4), .sl ⟨none, 0, 0, 0⟩, .sl ⟨none, 0, 0, 0⟩]], pOf 1747,
   [(pOf 841, wno0),
    (pOf 842, .map .i64 (some (.sl)) []),
    (pOf 843, wno1),
    (pOf 846, .cells (.b 97 1)),
    (pOf 954, wno3),
    (pOf 1106, .cells (.b wnk2 4096)),
    (pOf 1152, .cells (.b wnk3 4096)),
    (pOf 1316, .cells (.b wnk4 4096)),
    (pOf 1365, .cells (.b wnk5 4096)),
    (pOf 1380, .cells (.l [.int .i64 (.ofNat 4), .int .i64 (.ofNat 5)])),
    (pOf 1422, .cells (.l [.int .i64 (.ofNat 6), .int .i64 (.ofNat 7)])),
    (pOf 1484, .cells (.b wnk6 4096)),
    (pOf 1530, .cells (.b wnk7 4096)),
    (pOf 1726, .cells (.l [.int .i64 (.ofNat 4), .int .i64 (.ofNat 5)])),
    (pOf 1728, .cells (.l [.int .i64 (.ofNat 6), .int .i64 (.ofNat 7)])),
    (pOf 1730, .cells (.l [.ptr (some ⟨pOf 1729, 0⟩), .map (some (pOf 1731))])),
    (pOf 1731, .map .i64 (some (.any)) [((.ofNat 1), .fn (.func 45) [.ptr (some ⟨pOf 1730, 0⟩)] []), ((.ofNat 2), .fn (.func 46) [.ptr (some ⟨pOf 1730, 0⟩)] []), ((.ofNat 3), .fn (.func 47) [.ptr (some ⟨pOf 1730, 0⟩)] []), ((.ofNat 4), .fn (.func 48) [.ptr (some ⟨pOf 1730, 0⟩)] []), ((.ofNat 5), .fn (.func 49) [.ptr (some ⟨pOf 1730, 0⟩)] []), ((.ofNat 6), .fn (.func 49) [.ptr (some ⟨pOf 1730, 0⟩)] []), ((.ofNat 7), .fn (.func 50) [.ptr (some ⟨pOf 1730, 0⟩)] []), ((.ofNat 8), .fn (.func 51) [.ptr (some ⟨pOf 1730, 0⟩)] []), ((.ofNat 9), .fn (.func 52) [.ptr (some ⟨pOf 1730, 0⟩)] []), ((.ofNat 10), .fn (.func 53) [.ptr (some ⟨pOf 1730, 0⟩)] []), ((.ofNat 11), .fn (.func 54) [.ptr (some ⟨pOf 1730, 0⟩)] []), ((.ofNat 12), .fn (.func 55) [.ptr (some ⟨pOf 1730, 0⟩)] []), ((.ofNat 13), .fn (.func 56) [.ptr (some ⟨pOf 1730, 0⟩)] [])])],
   [(pOf 953, wno2),
    (pOf 955, wno4),
    (pOf 1729, wno5)],
   .agg [.int .i64 (.ofNat 0), .int .u64 (.ofNat 0), .sl ⟨none, 0, 0, 0⟩, .sl ⟨none, 0, 0, 0⟩], pOf 2293,
   [(pOf 953, .cells (.l [.bool true, .int .i64 (.ofNat 2), .int .i64 (.ofNat 0), .bool true, .bool true, .sl ⟨some ⟨pOf 2085, 0⟩, 4096, 4096, 1⟩, .bool true, .int .i64 (.ofNat 3), .int .i64 (.ofNat 0), .bool true, .bool true, .sl ⟨some ⟨pOf 2268, 0⟩, 4096, 4096, 1⟩, .bool true, .int .i64 (.ofNat 4), .int .i64 (.ofNat 0), .bool false, .bool true, .sl ⟨some ⟨pOf 1316, 0⟩, 4096, 4096, 1⟩, .bool true, .int .i64 (.ofNat 5), .int .i64 (.ofNat 0), .bool false, .bool true, .sl ⟨some ⟨pOf 1365, 0⟩, 4096, 4096, 1⟩, .bool true, .int .i64 (.ofNat 6), .int .i64 (.ofNat 0), .bool false, .bool true, .sl ⟨some ⟨pOf 1484, 0⟩, 4096, 4096, 1⟩, .bool true, .int .i64 (.ofNat 7), .int .i64 (.ofNat 0), .bool false, .bool true, .sl ⟨some ⟨pOf 1530, 0⟩, 4096, 4096, 1⟩, .bool false, .int .i64 (.ofNat 0), .int .i64 (.ofNat 0), .bool false, .bool false, .sl ⟨none, 0, 0, 0⟩, .bool false, .int .i64 (.ofNat 0), .int .i64 (.ofNat 0), .bool false, .bool false, .sl ⟨none, 0, 0, 0⟩])),
    (pOf 955, .cells (.l [.ptr (some ⟨pOf 843, 0⟩), .ptr (some ⟨pOf 954, 0⟩), .int .u64 (.ofNat 2), .int .u64 (.ofNat 64), .int .u64 (.ofNat 6), .int .u64 (.ofNat 7), .int .u64 (.ofNat 2), .int .u64 (.ofNat 2), .int .u64 (.ofNat 0), .int .u64 (.ofNat 0), .int .u64 (.ofNat 0), .sl ⟨some ⟨pOf 1380, 0⟩, 2, 2, 1⟩, .sl ⟨some ⟨pOf 1422, 0⟩, 2, 2, 1⟩, .sl ⟨none, 0, 0, 0⟩, .int .u64 (.ofNat 2), .int .u64 (.ofNat 64), .int .u64 (.ofNat 6), .int .u64 (.ofNat 7), .int .u64 (.ofNat 2), .int .u64 (.ofNat 2), .int .u64 (.ofNat 0), .int .u64 (.ofNat 0), .int .u64 (.ofNat 0), .sl ⟨some ⟨pOf 2285, 0⟩, 3, 3, 1⟩, .sl ⟨some ⟨pOf 1728, 0⟩, 2, 2, 1⟩, .sl ⟨some ⟨pOf 2290, 0⟩, 2, 2, 1⟩, .bool false, .int .i64 (.negSucc 0)])),
    (pOf 1729, .cells (.l [.ptr (some ⟨pOf 955, 0⟩), .int .i64 (.ofNat 1), .int .i64 (.ofNat 3), .int .u64 (.ofNat 1)])),
    (pOf 2085, .cells (.b (Nat.add wnk8 (Nat.shiftLeft wnk9 28672)) 4096)),
    (pOf 2268, .cells (.b wnk10 4096)),
    (pOf 2285, .cells (.l [.int .i64 (.ofNat 3), .int .i64 (.ofNat 5), .int .i64 (.ofNat 2)])),
    (pOf 2290, .cells (.l [.int .i64 (.ofNat 2), .int .i64 (.ofNat 3)]))]⟩
noncomputable def wnm1_1 : ME := ⟨[.ptr (some ⟨pOf 2714, 0⟩), .agg [.int .i64 (.ofNat 5), .sl ⟨some ⟨pOf 850, 0⟩, 1, 1, 1⟩, .sl ⟨none, 0, 0, 0⟩, .int .i64 (.ofNat 1), .int .i64 (.ofNat 4), .sl ⟨none, 0, 0, 0⟩, .sl ⟨none, 0, 0, 0⟩]], pOf 2731,
   [(pOf 841, wno0),
    (pOf 842, .map .i64 (some (.sl)) []),
    (pOf 843, wno1),
    (pOf 850, .cells (.b 97 1)),
    (pOf 2348, .cells (.l [.ptr (some ⟨pOf 843, 0⟩), .sl ⟨some ⟨pOf 2347, 0⟩, 8, 8, 0⟩, .int .i64 (.ofNat 0)])),
    (pOf 2349, .cells (.l [.ptr (some ⟨pOf 843, 0⟩), .ptr (some ⟨pOf 2348, 0⟩), .int .u64 (.ofNat 2), .int .u64 (.ofNat 64), .int .u64 (.ofNat 6), .int .u64 (.ofNat 7), .int .u64 (.ofNat 2), .int .u64 (.ofNat 2), .int .u64 (.ofNat 0), .int .u64 (.ofNat 0), .int .u64 (.ofNat 0), .sl ⟨some ⟨pOf 2668, 0⟩, 2, 2, 1⟩, .sl ⟨some ⟨pOf 2701, 0⟩, 2, 2, 1⟩, .sl ⟨none, 0, 0, 0⟩, .int .u64 (.ofNat 2), .int .u64 (.ofNat 64), .int .u64 (.ofNat 6), .int .u64 (.ofNat 7), .int .u64 (.ofNat 2), .int .u64 (.ofNat 2), .int .u64 (.ofNat 0), .int .u64 (.ofNat 0), .int .u64 (.ofNat 0), .sl ⟨some ⟨pOf 2705, 0⟩, 2, 2, 1⟩, .sl ⟨some ⟨pOf 2707, 0⟩, 2, 2, 1⟩, .sl ⟨none, 0, 0, 0⟩, .bool false, .int .i64 (.negSucc 0)])),
    (pOf 2544, .cells (.b wnk6 4096)),
    (pOf 2631, .cells (.b wnk7 4096)),
    (pOf 2668, .cells (.l [.int .i64 (.ofNat 4), .int .i64 (.ofNat 5)])),
    (pOf 2701, .cells (.l [.int .i64 (.ofNat 6), .int .i64 (.ofNat 7)])),
    (pOf 2705, .cells (.l [.int .i64 (.ofNat 4), .int .i64 (.ofNat 5)])),
    (pOf 2707, .cells (.l [.int .i64 (.ofNat 6), .int .i64 (.ofNat 7)])),
    (pOf 2713, .cells (.l [.ptr (some ⟨pOf 2349, 0⟩), .int .i64 (.ofNat 1), .int .i64 (.ofNat 0), .int .u64 (.ofNat 0)])),
    (pOf 2714, .cells (.l [.ptr (some ⟨pOf 2713, 0⟩), .map (some (pOf 2715))])),
    (pOf 2715, .map .i64 (some (.any)) [((.ofNat 1), .fn (.func 45) [.ptr (some ⟨pOf 2714, 0⟩)] []), ((.ofNat 2), .fn (.func 46) [.ptr (some ⟨pOf 2714, 0⟩)] []), ((.ofNat 3), .fn (.func 47) [.ptr (some ⟨pOf 2714, 0⟩)] []), ((.ofNat 4), .fn (.func 48) [.ptr (some ⟨pOf 2714, 0⟩)] []), ((.ofNat 5), .fn (.func 49) [.ptr (some ⟨pOf 2714, 0⟩)] []), ((.ofNat 6), .fn (.func 49) [.ptr (some ⟨pOf 2714, 0⟩)] []), ((.ofNat 7), .fn (.func 50) [.ptr (some ⟨pOf 2714, 0⟩)] []), ((.ofNat 8), .fn (.func 51) [.ptr (some ⟨pOf 2714, 0⟩)] []), ((.ofNat 9), .fn (.func 52) [.ptr (some ⟨pOf 2714, 0⟩)] []), ((.ofNat 10), .fn (.func 53) [.ptr (some ⟨pOf 2714, 0⟩)] []), ((.ofNat 11), .fn (.func 54) [.ptr (some ⟨pOf 2714, 0⟩)] []), ((.ofNat 12), .fn (.func 55) [.ptr (some ⟨pOf 2714, 0⟩)] []), ((.ofNat 13), .fn (.func 56) [.ptr (some ⟨pOf 2714, 0⟩)] [])])],
   [(pOf 2347, .cells (.l [.bool true, .int .i64 (.ofNat 6), .int .i64 (.ofNat 0), .bool false, .bool true, .sl ⟨some ⟨pOf 2544, 0⟩, 4096, 4096, 1⟩, .bool true, .int .i64 (.ofNat 7), .int .i64 (.ofNat 0), .bool false, .bool true, .sl ⟨some ⟨pOf 2631, 0⟩, 4096, 4096, 1⟩, .bool false, .int .i64 (.ofNat 0), .int .i64 (.ofNat 0), .bool false, .bool false, .sl ⟨none, 0, 0, 0⟩, .bool false, .int .i64 (.ofNat 0), .int .i64 (.ofNat 0), .bool false, .bool false, .sl ⟨none, 0, 0, 0⟩, .bool false, .int .i64 (.ofNat 0), .int .i64 (.ofNat 0), .bool false, .bool false, .sl ⟨none, 0, 0, 0⟩, .bool false, .int .i64 (.ofNat 0), .int .i64 (.ofNat 0), .bool false, .bool false, .sl ⟨none, 0, 0, 0⟩, .bool false, .int .i64 (.ofNat 0), .int .i64 (.ofNat 0), .bool false, .bool false, .sl ⟨none, 0, 0, 0⟩, .bool false, .int .i64 (.ofNat 0), .int .i64 (.ofNat 0), .bool false, .bool false, .sl ⟨none, 0, 0, 0⟩]))],
   .agg [.int .i64 (.ofNat 6), .int .u64 (.ofNat 0), .sl ⟨none, 0, 0, 0⟩, .sl ⟨none, 0, 0, 0⟩], pOf 2879,
   [(pOf 2347, .cells (.l [.bool true, .int .i64 (.ofNat 6), .int .i64 (.ofNat 0), .bool false, .bool true, .sl ⟨some ⟨pOf 2544, 0⟩, 4096, 4096, 1⟩, .bool true, .int .i64 (.ofNat 7), .int .i64 (.ofNat 0), .bool false, .bool true, .sl ⟨some ⟨pOf 2631, 0⟩, 4096, 4096, 1⟩, .bool true, .int .i64 (.ofNat 5), .int .i64 (.ofNat 0), .bool false, .bool true, .sl ⟨some ⟨pOf 2773, 0⟩, 4096, 4096, 1⟩, .bool true, .int .i64 (.ofNat 4), .int .i64 (.ofNat 0), .bool false, .bool true, .sl ⟨some ⟨pOf 2845, 0⟩, 4096, 4096, 1⟩, .bool false, .int .i64 (.ofNat 0), .int .i64 (.ofNat 0), .bool false, .bool false, .sl ⟨none, 0, 0, 0⟩, .bool false, .int .i64 (.ofNat 0), .int .i64 (.ofNat 0), .bool false, .bool false, .sl ⟨none, 0, 0, 0⟩, .bool false, .int .i64 (.ofNat 0), .int .i64 (.ofNat 0), .bool false, .bool false, .sl ⟨none, 0, 0, 0⟩, .bool false, .int .i64 (.ofNat 0), .int .i64 (.ofNat 0), .bool false, .bool false, .sl ⟨none, 0, 0, 0⟩])),
    (pOf 2773, .cells (.b wnk5 4096)),
    (pOf 2845, .cells (.b wnk4 4096))]⟩
noncomputable def wnes1 : List ME := [wnm1_0, wnm1_1]
noncomputable def wnf2 : Nat → Option FI := overF wnf1 9 (iMemo wnes1)
noncomputable def wnm2_0 : ME := ⟨[], pOf 839,
   [],
   [],
   .bool true, pOf 2894,
   []⟩
noncomputable def wnes2 : List ME := [wnm2_0]
noncomputable def wnf3 : Nat → Option FI := overF wnf2 20 (iMemo wnes2)
noncomputable def wnm3_0 : ME := ⟨[], pOf 0,
   [],
   [],
   .bool true, pOf 2930,
   []⟩
noncomputable def wnes3 : List ME := [wnm3_0]
noncomputable def wnf4 : Nat → Option FI := overF wnf3 4 (iMemo wnes3)
end Go.XS.Tryz
