/- The tables of a run: the types. -/
import Derived.Test.YtbiehdiklgdhnaaGreatDoorProg
import Derived.Test.YtbiehdiklgdhnaaGreatDoorTsS1
import Derived.Test.YtbiehdiklgdhnaaGreatDoorXsTab
import Derived.Test.YtbiehdiklgdhnaaGreatDoorXiIns
import Derived.Test.YtbiehdiklgdhnaaGreatDoorXiBase
import Derived.Test.YtbiehdiklgdhnaaGreatDoorXiTrim
import Derived.Test.YtbiehdiklgdhnaaGreatDoorXsMemo
set_option linter.unusedSimpArgs false
set_option linter.unusedVariables false
namespace Go.XS.Tryz
open Go Go.TS
set_option maxRecDepth 100000
def ti3 : TI := ⟨.int .i64, (Value.int .i64 0), 1, 8, .leaf (.int .i64)⟩
def ti4 : TI := ⟨.bool, (Value.bool false), 1, 1, .leaf (.bool)⟩
def ti5 : TI := ⟨.int .u8, (Value.int .u8 0), 1, 1, .leaf (.int .u8)⟩
def ti9 : TI := ⟨.string, (Value.string ByteArray.empty), 1, 16, .leaf (.str)⟩
def ti21 : TI := ⟨.int .i32, (Value.int .i32 0), 1, 4, .leaf (.int .i32)⟩
def ti22 : TI := ⟨.pointer 60, (Value.pointer none), 1, 8, .leaf (.ptr)⟩
def ti23 : TI := ⟨.pointer 128, (Value.pointer none), 1, 8, .leaf (.ptr)⟩
def ti26 : TI := ⟨.slice 171, (Value.slice none 0 0), 1, 24, .leaf (.sl)⟩
def ti28 : TI := ⟨.struct #[⟨ "P", 3, 0, false, "", "", 0⟩, ⟨ "Regs", 26, 1, false, "", "", 8⟩], (Value.agg #[(Value.int .i64 0), (Value.slice none 0 0)]), 2, 32, .agg [.int .i64, .sl]⟩
def ti29 : TI := ⟨.slice 30, (Value.slice none 0 0), 1, 24, .leaf (.sl)⟩
def ti30 : TI := ⟨.int .u64, (Value.int .u64 0), 1, 8, .leaf (.int .u64)⟩
def ti32 : TI := ⟨.struct #[⟨ "K", 3, 0, false, "", "", 0⟩, ⟨ "Hashes", 29, 1, false, "", "", 8⟩, ⟨ "Limit", 30, 2, false, "", "", 32⟩], (Value.agg #[(Value.int .i64 0), (Value.slice none 0 0), (Value.int .u64 0)]), 3, 40, .agg [.int .i64, .sl, .int .u64]⟩
def ti34 : TI := ⟨.struct #[⟨ "Kind", 3, 0, false, "", "", 0⟩, ⟨ "Hll", 28, 1, false, "", "", 8⟩, ⟨ "Theta", 32, 3, false, "", "", 40⟩], (Value.agg #[(Value.int .i64 0), (Value.int .i64 0), (Value.slice none 0 0), (Value.int .i64 0), (Value.slice none 0 0), (Value.int .u64 0)]), 6, 80, .agg [.int .i64, .int .i64, .sl, .int .i64, .sl, .int .u64]⟩
def ti35 : TI := ⟨.int .i64, (Value.int .i64 0), 1, 8, .leaf (.int .i64)⟩
def ti39 : TI := ⟨.slice 5, (Value.slice none 0 0), 1, 24, .leaf (.sl)⟩
def ti47 : TI := ⟨.func #[] #[35] false, .nilFunc, 1, 8, .leaf .any⟩
def ti50 : TI := ⟨.struct #[⟨ "Dir", 3, 0, false, "", "", 0⟩, ⟨ "Hint", 3, 1, false, "", "", 8⟩, ⟨ "Count", 30, 2, false, "", "", 16⟩], (Value.agg #[(Value.int .i64 0), (Value.int .i64 0), (Value.int .u64 0)]), 3, 24, .agg [.int .i64, .int .i64, .int .u64]⟩
def ti58 : TI := ⟨.pointer 124, (Value.pointer none), 1, 8, .leaf (.ptr)⟩
def ti60 : TI := ⟨.struct #[⟨ "Store", 58, 0, true, "", "", 0⟩, ⟨ "top", 50, 1, false, "", "tallyman/store", 8⟩], (Value.agg #[(Value.pointer none), (Value.int .i64 0), (Value.int .i64 0), (Value.int .u64 0)]), 4, 32, .agg [.ptr, .int .i64, .int .i64, .int .u64]⟩
def ti69 : TI := ⟨.array 4 30, (Value.agg #[(Value.int .u64 0), (Value.int .u64 0), (Value.int .u64 0), (Value.int .u64 0)]), 4, 32, .agg [.int .u64, .int .u64, .int .u64, .int .u64]⟩
def ti71 : TI := ⟨.struct #[⟨ "Epoch", 30, 0, false, "", "", 0⟩, ⟨ "Pages", 30, 1, false, "", "", 8⟩, ⟨ "Table", 30, 2, false, "", "", 16⟩, ⟨ "Space", 30, 3, false, "", "", 24⟩, ⟨ "Logical", 30, 4, false, "", "", 32⟩, ⟨ "Meta", 69, 5, false, "", "", 40⟩], (Value.agg #[(Value.int .u64 0), (Value.int .u64 0), (Value.int .u64 0), (Value.int .u64 0), (Value.int .u64 0), (Value.int .u64 0), (Value.int .u64 0), (Value.int .u64 0), (Value.int .u64 0)]), 9, 72, .agg [.int .u64, .int .u64, .int .u64, .int .u64, .int .u64, .int .u64, .int .u64, .int .u64, .int .u64]⟩
def ti79 : TI := ⟨.slice 4, (Value.slice none 0 0), 1, 24, .leaf (.sl)⟩
def ti81 : TI := ⟨.struct #[⟨ "Keep", 79, 0, false, "", "", 0⟩, ⟨ "Torn", 3, 1, false, "", "", 24⟩, ⟨ "Bytes", 3, 2, false, "", "", 32⟩], (Value.agg #[(Value.slice none 0 0), (Value.int .i64 0), (Value.int .i64 0)]), 3, 40, .agg [.sl, .int .i64, .int .i64]⟩
def ti85 : TI := ⟨.struct #[⟨ "Page", 3, 0, false, "", "", 0⟩, ⟨ "Slot", 3, 1, false, "", "", 8⟩], (Value.agg #[(Value.int .i64 0), (Value.int .i64 0)]), 2, 16, .agg [.int .i64, .int .i64]⟩
def ti87 : TI := ⟨.struct #[⟨ "Key", 39, 0, false, "", "", 0⟩, ⟨ "Over", 3, 1, false, "", "", 24⟩, ⟨ "Size", 3, 2, false, "", "", 32⟩, ⟨ "Value", 39, 3, false, "", "", 40⟩], (Value.agg #[(Value.slice none 0 0), (Value.int .i64 0), (Value.int .i64 0), (Value.slice none 0 0)]), 4, 64, .agg [.sl, .int .i64, .int .i64, .sl]⟩
def ti91 : TI := ⟨.slice 3, (Value.slice none 0 0), 1, 24, .leaf (.sl)⟩
def ti107 : TI := ⟨.pointer 110, (Value.pointer none), 1, 8, .leaf (.ptr)⟩
def ti110 : TI := ⟨.struct #[⟨ "s", 58, 0, false, "", "tallyman/entry", 0⟩, ⟨ "t", 50, 1, false, "", "tallyman/entry", 8⟩, ⟨ "hash", 30, 4, false, "", "tallyman/entry", 32⟩, ⟨ "at", 85, 5, false, "", "tallyman/entry", 40⟩, ⟨ "old", 87, 7, false, "", "tallyman/entry", 56⟩, ⟨ "rec", 39, 11, false, "", "tallyman/entry", 120⟩], (Value.agg #[(Value.pointer none), (Value.int .i64 0), (Value.int .i64 0), (Value.int .u64 0), (Value.int .u64 0), (Value.int .i64 0), (Value.int .i64 0), (Value.slice none 0 0), (Value.int .i64 0), (Value.int .i64 0), (Value.slice none 0 0), (Value.slice none 0 0)]), 12, 144, .agg [.ptr, .int .i64, .int .i64, .int .u64, .int .u64, .int .i64, .int .i64, .sl, .int .i64, .int .i64, .sl, .sl]⟩
def ti116 : TI := ⟨.struct #[⟨ "Hash", 30, 0, false, "", "", 0⟩, ⟨ "Place", 85, 1, false, "", "", 8⟩], (Value.agg #[(Value.int .u64 0), (Value.int .i64 0), (Value.int .i64 0)]), 3, 24, .agg [.int .u64, .int .i64, .int .i64]⟩
def ti119 : TI := ⟨.struct #[⟨ "Phys", 91, 0, false, "", "", 0⟩], (Value.agg #[(Value.slice none 0 0)]), 1, 24, .agg [.sl]⟩
def ti121 : TI := ⟨.struct #[⟨ "root", 71, 0, false, "", "tallyman/shadow", 0⟩, ⟨ "table", 119, 9, false, "", "tallyman/shadow", 72⟩, ⟨ "own", 91, 10, false, "", "tallyman/shadow", 96⟩, ⟨ "fresh", 91, 11, false, "", "tallyman/shadow", 120⟩], (Value.agg #[(Value.int .u64 0), (Value.int .u64 0), (Value.int .u64 0), (Value.int .u64 0), (Value.int .u64 0), (Value.int .u64 0), (Value.int .u64 0), (Value.int .u64 0), (Value.int .u64 0), (Value.slice none 0 0), (Value.slice none 0 0), (Value.slice none 0 0)]), 12, 144, .agg [.int .u64, .int .u64, .int .u64, .int .u64, .int .u64, .int .u64, .int .u64, .int .u64, .int .u64, .sl, .sl, .sl]⟩
def ti122 : TI := ⟨.pointer 244, (Value.pointer none), 1, 8, .leaf (.ptr)⟩
def ti124 : TI := ⟨.struct #[⟨ "d", 23, 0, false, "", "tallyman/shadow", 0⟩, ⟨ "p", 122, 1, false, "", "tallyman/shadow", 8⟩, ⟨ "kept", 121, 2, false, "", "tallyman/shadow", 16⟩, ⟨ "now", 121, 14, false, "", "tallyman/shadow", 160⟩, ⟨ "broken", 4, 26, false, "", "tallyman/shadow", 304⟩, ⟨ "doubt", 3, 27, false, "", "tallyman/shadow", 312⟩], (Value.agg #[(Value.pointer none), (Value.pointer none), (Value.int .u64 0), (Value.int .u64 0), (Value.int .u64 0), (Value.int .u64 0), (Value.int .u64 0), (Value.int .u64 0), (Value.int .u64 0), (Value.int .u64 0), (Value.int .u64 0), (Value.slice none 0 0), (Value.slice none 0 0), (Value.slice none 0 0), (Value.int .u64 0), (Value.int .u64 0), (Value.int .u64 0), (Value.int .u64 0), (Value.int .u64 0), (Value.int .u64 0), (Value.int .u64 0), (Value.int .u64 0), (Value.int .u64 0), (Value.slice none 0 0), (Value.slice none 0 0), (Value.slice none 0 0), (Value.bool false), (Value.int .i64 0)]), 28, 320, .agg [.ptr, .ptr, .int .u64, .int .u64, .int .u64, .int .u64, .int .u64, .int .u64, .int .u64, .int .u64, .int .u64, .sl, .sl, .sl, .int .u64, .int .u64, .int .u64, .int .u64, .int .u64, .int .u64, .int .u64, .int .u64, .int .u64, .sl, .sl, .sl, .bool, .int .i64]⟩
def ti125 : TI := ⟨.map 3 39, (Value.map none), 1, 8, .leaf (.map)⟩
def ti126 : TI := ⟨.pointer 3, (Value.pointer none), 1, 8, .leaf (.ptr)⟩
def ti128 : TI := ⟨.struct #[⟨ "b", 39, 0, false, "", "tallyman/sector", 0⟩, ⟨ "cache", 125, 1, false, "", "tallyman/sector", 24⟩, ⟨ "order", 91, 2, false, "", "tallyman/sector", 32⟩, ⟨ "left", 126, 3, false, "", "tallyman/sector", 56⟩], (Value.agg #[(Value.slice none 0 0), (Value.map none), (Value.slice none 0 0), (Value.pointer none)]), 4, 64, .agg [.sl, .map, .sl, .ptr]⟩
def ti133 : TI := ⟨.pointer 35, (Value.pointer none), 1, 8, .leaf (.ptr)⟩
def ti137 : TI := ⟨.struct #[⟨ "Pages", 3, 0, false, "", "", 0⟩, ⟨ "Used", 79, 1, false, "", "", 8⟩], (Value.agg #[(Value.int .i64 0), (Value.slice none 0 0)]), 2, 32, .agg [.int .i64, .sl]⟩
def ti141 : TI := ⟨.func #[3] #[3] false, .nilFunc, 1, 8, .leaf .any⟩
def ti150 : TI := ⟨.slice 39, (Value.slice none 0 0), 1, 24, .leaf (.sl)⟩
def ti156 : TI := ⟨.slice 85, (Value.slice none 0 0), 1, 24, .leaf (.sl)⟩
def ti161 : TI := ⟨.int .u32, (Value.int .u32 0), 1, 4, .leaf (.int .u32)⟩
def ti163 : TI := ⟨.struct #[⟨ "Kind", 3, 0, false, "", "", 0⟩, ⟨ "Number", 161, 1, false, "", "", 8⟩, ⟨ "Body", 39, 2, false, "", "", 16⟩], (Value.agg #[(Value.int .i64 0), (Value.int .u32 0), (Value.slice none 0 0)]), 3, 40, .agg [.int .i64, .int .u32, .sl]⟩
def ti166 : TI := ⟨.pointer 258, (Value.pointer none), 1, 8, .leaf (.ptr)⟩
def ti171 : TI := ⟨.struct #[⟨ "Index", 3, 0, false, "", "", 0⟩, ⟨ "Rank", 3, 1, false, "", "", 8⟩], (Value.agg #[(Value.int .i64 0), (Value.int .i64 0)]), 2, 16, .agg [.int .i64, .int .i64]⟩
def ti175 : TI := ⟨.pointer 28, (Value.pointer none), 1, 8, .leaf (.ptr)⟩
def ti177 : TI := ⟨.struct #[⟨ "h", 175, 0, false, "", "tallyman/sketch", 0⟩], (Value.agg #[(Value.pointer none)]), 1, 8, .agg [.ptr]⟩
def ti179 : TI := ⟨.pointer 181, (Value.pointer none), 1, 8, .leaf (.ptr)⟩
def ti181 : TI := ⟨.struct #[⟨ "t", 32, 0, false, "", "tallyman/sketch", 0⟩], (Value.agg #[(Value.int .i64 0), (Value.slice none 0 0), (Value.int .u64 0)]), 3, 40, .agg [.int .i64, .sl, .int .u64]⟩
def ti189 : TI := ⟨.slice 47, (Value.slice none 0 0), 1, 24, .leaf (.sl)⟩
def ti197 : TI := ⟨.struct #[⟨ "Depth", 3, 0, false, "", "", 0⟩, ⟨ "Buckets", 91, 1, false, "", "", 8⟩], (Value.agg #[(Value.int .i64 0), (Value.slice none 0 0)]), 2, 32, .agg [.int .i64, .sl]⟩
def ti198 : TI := ⟨.slice 206, (Value.slice none 0 0), 1, 24, .leaf (.sl)⟩
def ti200 : TI := ⟨.struct #[⟨ "d", 197, 0, false, "", "tallyman/index", 0⟩, ⟨ "l", 198, 2, false, "", "tallyman/index", 32⟩, ⟨ "pages", 91, 3, false, "", "tallyman/index", 56⟩], (Value.agg #[(Value.int .i64 0), (Value.slice none 0 0), (Value.slice none 0 0), (Value.slice none 0 0)]), 4, 80, .agg [.int .i64, .sl, .sl, .sl]⟩
def ti204 : TI := ⟨.slice 116, (Value.slice none 0 0), 1, 24, .leaf (.sl)⟩
def ti206 : TI := ⟨.struct #[⟨ "Next", 3, 0, false, "", "", 0⟩, ⟨ "Refs", 204, 1, false, "", "", 8⟩], (Value.agg #[(Value.int .i64 0), (Value.slice none 0 0)]), 2, 32, .agg [.int .i64, .sl]⟩
def ti237 : TI := ⟨.slice 91, (Value.slice none 0 0), 1, 24, .leaf (.sl)⟩
def ti240 : TI := ⟨.slice 326, (Value.slice none 0 0), 1, 24, .leaf (.sl)⟩
def ti242 : TI := ⟨.slice 328, (Value.slice none 0 0), 1, 24, .leaf (.sl)⟩
def ti244 : TI := ⟨.struct #[⟨ "d", 23, 0, false, "", "tallyman/pool", 0⟩, ⟨ "frames", 242, 1, false, "", "tallyman/pool", 8⟩, ⟨ "hand", 3, 2, false, "", "tallyman/pool", 32⟩], (Value.agg #[(Value.pointer none), (Value.slice none 0 0), (Value.int .i64 0)]), 3, 40, .agg [.ptr, .sl, .int .i64]⟩
def ti258 : TI := ⟨.struct #[⟨ "b", 39, 0, false, "", "tallyman/octet", 0⟩, ⟨ "at", 3, 1, false, "", "tallyman/octet", 24⟩, ⟨ "err", 35, 2, false, "", "tallyman/octet", 32⟩, ⟨ "is", 4, 3, false, "", "tallyman/octet", 40⟩], (Value.agg #[(Value.slice none 0 0), (Value.int .i64 0), (Value.int .i64 0), (Value.bool false)]), 4, 48, .agg [.sl, .int .i64, .int .i64, .bool]⟩
def ti261 : TI := ⟨.int .u64, (Value.int .u64 0), 1, 8, .leaf (.int .u64)⟩
def ti284 : TI := ⟨.func #[206] #[4] false, .nilFunc, 1, 8, .leaf .any⟩
def ti301 : TI := ⟨.array 2 71, (Value.agg #[(Value.int .u64 0), (Value.int .u64 0), (Value.int .u64 0), (Value.int .u64 0), (Value.int .u64 0), (Value.int .u64 0), (Value.int .u64 0), (Value.int .u64 0), (Value.int .u64 0), (Value.int .u64 0), (Value.int .u64 0), (Value.int .u64 0), (Value.int .u64 0), (Value.int .u64 0), (Value.int .u64 0), (Value.int .u64 0), (Value.int .u64 0), (Value.int .u64 0)]), 18, 144, .agg [.int .u64, .int .u64, .int .u64, .int .u64, .int .u64, .int .u64, .int .u64, .int .u64, .int .u64, .int .u64, .int .u64, .int .u64, .int .u64, .int .u64, .int .u64, .int .u64, .int .u64, .int .u64]⟩
def ti302 : TI := ⟨.array 2 4, (Value.agg #[(Value.bool false), (Value.bool false)]), 2, 2, .agg [.bool, .bool]⟩
def ti312 : TI := ⟨.struct #[⟨ "page", 3, 0, false, "", "tallyman/chain", 0⟩, ⟨ "b", 39, 1, false, "", "tallyman/chain", 8⟩], (Value.agg #[(Value.int .i64 0), (Value.slice none 0 0)]), 2, 32, .agg [.int .i64, .sl]⟩
def ti316 : TI := ⟨.map 3 317, (Value.map none), 1, 8, .leaf (.map)⟩
def ti317 : TI := ⟨.struct #[], (Value.agg #[]), 0, 0, .agg []⟩
def ti319 : TI := ⟨.map 3 3, (Value.map none), 1, 8, .leaf (.map)⟩
def ti322 : TI := ⟨.func #[155] #[] false, .nilFunc, 1, 8, .leaf .any⟩
def ti326 : TI := ⟨.struct #[⟨ "Is", 4, 0, false, "", "", 0⟩, ⟨ "Page", 3, 1, false, "", "", 8⟩, ⟨ "Pins", 3, 2, false, "", "", 16⟩, ⟨ "Dirty", 4, 3, false, "", "", 24⟩, ⟨ "Used", 4, 4, false, "", "", 25⟩], (Value.agg #[(Value.bool false), (Value.int .i64 0), (Value.int .i64 0), (Value.bool false), (Value.bool false)]), 5, 32, .agg [.bool, .int .i64, .int .i64, .bool, .bool]⟩
def ti328 : TI := ⟨.struct #[⟨ "Frame", 326, 0, true, "", "", 0⟩, ⟨ "b", 39, 5, false, "", "tallyman/pool", 32⟩], (Value.agg #[(Value.bool false), (Value.int .i64 0), (Value.int .i64 0), (Value.bool false), (Value.bool false), (Value.slice none 0 0)]), 6, 56, .agg [.bool, .int .i64, .int .i64, .bool, .bool, .sl]⟩
def ti329 : TI := ⟨.pointer 328, (Value.pointer none), 1, 8, .leaf (.ptr)⟩
def ti335 : TI := ⟨.array 9 30, (Value.agg #[(Value.int .u64 0), (Value.int .u64 0), (Value.int .u64 0), (Value.int .u64 0), (Value.int .u64 0), (Value.int .u64 0), (Value.int .u64 0), (Value.int .u64 0), (Value.int .u64 0)]), 9, 72, .agg [.int .u64, .int .u64, .int .u64, .int .u64, .int .u64, .int .u64, .int .u64, .int .u64, .int .u64]⟩
def ti339 : TI := ⟨.func #[39, 39] #[3] false, .nilFunc, 1, 8, .leaf .any⟩
def ti350 : TI := ⟨.pointer 360, (Value.pointer none), 1, 8, .leaf (.ptr)⟩
def ti354 : TI := ⟨.struct #[⟨ "slot", 3, 0, false, "", "tallyman/slots", 0⟩, ⟨ "at", 3, 1, false, "", "tallyman/slots", 8⟩, ⟨ "n", 3, 2, false, "", "tallyman/slots", 16⟩], (Value.agg #[(Value.int .i64 0), (Value.int .i64 0), (Value.int .i64 0)]), 3, 24, .agg [.int .i64, .int .i64, .int .i64]⟩
def ti360 : TI := ⟨.array 4080 5, (Value.agg (Array.replicate 4080 (Value.int .u8 0))), 4080, 4080, .arr 4080⟩
def ti363 : TI := ⟨.func #[5] #[4] false, .nilFunc, 1, 8, .leaf .any⟩
def ti369 : TI := ⟨.func #[116, 116] #[3] false, .nilFunc, 1, 8, .leaf .any⟩
def ti381 : TI := ⟨.int .i64, (Value.int .i64 0), 1, 8, .leaf (.int .i64)⟩
def ti391 : TI := ⟨.array 2 30, (Value.agg #[(Value.int .u64 0), (Value.int .u64 0)]), 2, 16, .agg [.int .u64, .int .u64]⟩
def ti395 : TI := ⟨.slice 354, (Value.slice none 0 0), 1, 24, .leaf (.sl)⟩
def ti409 : TI := ⟨.array 256 4, (Value.agg (Array.replicate 256 (Value.bool false))), 256, 256, .arr 256⟩
def ti413 : TI := ⟨.pointer 409, (Value.pointer none), 1, 8, .leaf (.ptr)⟩
def ti414 : TI := ⟨.int .u64, (Value.int .u64 0), 1, 8, .leaf (.int .u64)⟩
def ti421 : TI := ⟨.func #[354, 354] #[3] false, .nilFunc, 1, 8, .leaf .any⟩
def ti441 : TI := ⟨.array 256 161, (Value.agg (Array.replicate 256 (Value.int .u32 0))), 256, 1024, .arr 256⟩
def ti453 : TI := ⟨.array 256 5, (Value.agg (Array.replicate 256 (Value.int .u8 0))), 256, 256, .arr 256⟩
def ti455 : TI := ⟨.struct #[⟨ "lo", 5, 0, false, "", "unicode/utf8", 0⟩, ⟨ "hi", 5, 1, false, "", "unicode/utf8", 1⟩], (Value.agg #[(Value.int .u8 0), (Value.int .u8 0)]), 2, 2, .agg [.int .u8, .int .u8]⟩
def ti456 : TI := ⟨.array 16 455, (Value.agg #[(Value.int .u8 0), (Value.int .u8 0), (Value.int .u8 0), (Value.int .u8 0), (Value.int .u8 0), (Value.int .u8 0), (Value.int .u8 0), (Value.int .u8 0), (Value.int .u8 0), (Value.int .u8 0), (Value.int .u8 0), (Value.int .u8 0), (Value.int .u8 0), (Value.int .u8 0), (Value.int .u8 0), (Value.int .u8 0), (Value.int .u8 0), (Value.int .u8 0), (Value.int .u8 0), (Value.int .u8 0), (Value.int .u8 0), (Value.int .u8 0), (Value.int .u8 0), (Value.int .u8 0), (Value.int .u8 0), (Value.int .u8 0), (Value.int .u8 0), (Value.int .u8 0), (Value.int .u8 0), (Value.int .u8 0), (Value.int .u8 0), (Value.int .u8 0)]), 32, 32, .agg [.int .u8, .int .u8, .int .u8, .int .u8, .int .u8, .int .u8, .int .u8, .int .u8, .int .u8, .int .u8, .int .u8, .int .u8, .int .u8, .int .u8, .int .u8, .int .u8, .int .u8, .int .u8, .int .u8, .int .u8, .int .u8, .int .u8, .int .u8, .int .u8, .int .u8, .int .u8, .int .u8, .int .u8, .int .u8, .int .u8, .int .u8, .int .u8]⟩
def tyl : List (Nat × TI) := [(3, ti3), (4, ti4), (5, ti5), (9, ti9), (21, ti21), (22, ti22), (23, ti23), (26, ti26), (28, ti28), (29, ti29), (30, ti30), (32, ti32), (34, ti34), (35, ti35), (39, ti39), (47, ti47), (50, ti50), (58, ti58), (60, ti60), (69, ti69), (71, ti71), (79, ti79), (81, ti81), (85, ti85), (87, ti87), (91, ti91), (107, ti107), (110, ti110), (116, ti116), (119, ti119), (121, ti121), (122, ti122), (124, ti124), (125, ti125), (126, ti126), (128, ti128), (133, ti133), (137, ti137), (141, ti141), (150, ti150), (156, ti156), (161, ti161), (163, ti163), (166, ti166), (171, ti171), (175, ti175), (177, ti177), (179, ti179), (181, ti181), (189, ti189), (197, ti197), (198, ti198), (200, ti200), (204, ti204), (206, ti206), (237, ti237), (240, ti240), (242, ti242), (244, ti244), (258, ti258), (261, ti261), (284, ti284), (301, ti301), (302, ti302), (312, ti312), (316, ti316), (317, ti317), (319, ti319), (322, ti322), (326, ti326), (328, ti328), (329, ti329), (335, ti335), (339, ti339), (350, ti350), (354, ti354), (360, ti360), (363, ti363), (369, ti369), (381, ti381), (391, ti391), (395, ti395), (409, ti409), (413, ti413), (414, ti414), (421, ti421), (441, ti441), (453, ti453), (455, ti455), (456, ti456)]
def mtl : List (String × Nat × Nat) := [("tallyman/sketch.bytes", 177, 405), ("tallyman/sketch.check", 177, 406), ("tallyman/sketch.bytes", 179, 413), ("tallyman/sketch.check", 179, 414)]
def tys : Tys := ⟨trOf tyl, mtT mtl⟩
end Go.XS.Tryz
/- The tables of a run: the functions. -/
namespace Go.XS.Tryz
open Go Go.TS
set_option maxRecDepth 100000
noncomputable def fnl : List (Nat × FI) := [(40, fiOf Go.Proofs.Tryz.f40), (28, fiOf Go.Proofs.Tryz.f28), (10, fiOf Go.Proofs.Tryz.f10), (64, fiOf Go.Proofs.Tryz.f64), (68, fiOf Go.Proofs.Tryz.f68), (69, fiOf Go.Proofs.Tryz.f69), (133, .intr iSectors), (70, fiOf Go.Proofs.Tryz.f70), (229, fiOf Go.Proofs.Tryz.f229), (149, fiOf Go.Proofs.Tryz.f149), (150, fiOf Go.Proofs.Tryz.f150), (71, fiOf Go.Proofs.Tryz.f71), (72, fiOf Go.Proofs.Tryz.f72), (112, .intr iWord), (151, fiOf Go.Proofs.Tryz.f151), (73, fiOf Go.Proofs.Tryz.f73), (74, fiOf Go.Proofs.Tryz.f74), (152, fiOf Go.Proofs.Tryz.f152), (76, fiOf Go.Proofs.Tryz.f76), (77, fiOf Go.Proofs.Tryz.f77), (145, fiOf Go.Proofs.Tryz.f145), (75, fiOf Go.Proofs.Tryz.f75), (224, fiOf Go.Proofs.Tryz.f224), (298, fiOf Go.Proofs.Tryz.f298), (230, fiOf Go.Proofs.Tryz.f230), (299, fiOf Go.Proofs.Tryz.f299), (231, fiOf Go.Proofs.Tryz.f231), (337, .intr iParts), (300, fiOf Go.Proofs.Tryz.f300), (232, fiOf Go.Proofs.Tryz.f232), (153, fiOf Go.Proofs.Tryz.f153), (233, fiOf Go.Proofs.Tryz.f233), (154, fiOf Go.Proofs.Tryz.f154), (234, fiOf Go.Proofs.Tryz.f234), (235, fiOf Go.Proofs.Tryz.f235), (142, fiOf Go.Proofs.Tryz.f142), (143, fiOf Go.Proofs.Tryz.f143), (86, fiOf Go.Proofs.Tryz.f86), (158, fiOf Go.Proofs.Tryz.f158), (144, fiOf Go.Proofs.Tryz.f144), (65, fiOf Go.Proofs.Tryz.f65), (237, fiOf Go.Proofs.Tryz.f237), (236, fiOf Go.Proofs.Tryz.f236), (155, fiOf Go.Proofs.Tryz.f155), (78, fiOf Go.Proofs.Tryz.f78), (82, .intr iFlush), (156, fiOf Go.Proofs.Tryz.f156), (79, fiOf Go.Proofs.Tryz.f79), (80, fiOf Go.Proofs.Tryz.f80), (238, fiOf Go.Proofs.Tryz.f238), (157, fiOf Go.Proofs.Tryz.f157), (81, fiOf Go.Proofs.Tryz.f81), (159, fiOf Go.Proofs.Tryz.f159), (83, fiOf Go.Proofs.Tryz.f83), (31, fiOf Go.Proofs.Tryz.f31), (134, fiOf Go.Proofs.Tryz.f134), (62, fiOf Go.Proofs.Tryz.f62), (29, fiOf Go.Proofs.Tryz.f29), (36, fiOf Go.Proofs.Tryz.f36), (66, fiOf Go.Proofs.Tryz.f66), (170, fiOf Go.Proofs.Tryz.f170), (184, fiOf Go.Proofs.Tryz.f184), (167, fiOf Go.Proofs.Tryz.f167), (304, fiOf Go.Proofs.Tryz.f304), (250, fiOf Go.Proofs.Tryz.f250), (251, fiOf Go.Proofs.Tryz.f251), (180, fiOf Go.Proofs.Tryz.f180), (249, fiOf Go.Proofs.Tryz.f249), (166, fiOf Go.Proofs.Tryz.f166), (305, fiOf Go.Proofs.Tryz.f305), (253, fiOf Go.Proofs.Tryz.f253), (254, .intr iInsert), (185, fiOf Go.Proofs.Tryz.f185), (113, fiOf Go.Proofs.Tryz.f113), (204, fiOf Go.Proofs.Tryz.f204), (318, fiOf Go.Proofs.Tryz.f318), (347, fiOf Go.Proofs.Tryz.f347), (319, fiOf Go.Proofs.Tryz.f319), (320, fiOf Go.Proofs.Tryz.f320), (272, fiOf Go.Proofs.Tryz.f272), (203, fiOf Go.Proofs.Tryz.f203), (208, fiOf Go.Proofs.Tryz.f208), (146, fiOf Go.Proofs.Tryz.f146), (228, fiOf Go.Proofs.Tryz.f228), (147, fiOf Go.Proofs.Tryz.f147), (210, fiOf Go.Proofs.Tryz.f210), (209, fiOf Go.Proofs.Tryz.f209), (148, fiOf Go.Proofs.Tryz.f148), (67, fiOf Go.Proofs.Tryz.f67), (30, fiOf Go.Proofs.Tryz.f30), (32, fiOf Go.Proofs.Tryz.f32), (11, fiOf Go.Proofs.Tryz.f11), (4, fiOf Go.Proofs.Tryz.f4), (37, fiOf Go.Proofs.Tryz.f37), (17, fiOf Go.Proofs.Tryz.f17), (88, fiOf Go.Proofs.Tryz.f88), (89, fiOf Go.Proofs.Tryz.f89), (38, fiOf Go.Proofs.Tryz.f38), (18, fiOf Go.Proofs.Tryz.f18), (5, fiOf Go.Proofs.Tryz.f5), (13, fiOf Go.Proofs.Tryz.f13), (188, fiOf Go.Proofs.Tryz.f188), (186, fiOf Go.Proofs.Tryz.f186), (96, fiOf Go.Proofs.Tryz.f96), (97, .intr iRdWord), (187, fiOf Go.Proofs.Tryz.f187), (189, fiOf Go.Proofs.Tryz.f189), (190, fiOf Go.Proofs.Tryz.f190), (116, fiOf Go.Proofs.Tryz.f116), (49, fiOf Go.Proofs.Tryz.f49), (90, fiOf Go.Proofs.Tryz.f90), (87, fiOf Go.Proofs.Tryz.f87), (285, fiOf Go.Proofs.Tryz.f285), (221, fiOf Go.Proofs.Tryz.f221), (244, fiOf Go.Proofs.Tryz.f244), (168, fiOf Go.Proofs.Tryz.f168), (245, fiOf Go.Proofs.Tryz.f245), (169, fiOf Go.Proofs.Tryz.f169), (95, fiOf Go.Proofs.Tryz.f95), (314, .intr (iZeros 267)), (266, fiOf Go.Proofs.Tryz.f266), (267, fiOf Go.Proofs.Tryz.f267), (174, fiOf Go.Proofs.Tryz.f174), (175, fiOf Go.Proofs.Tryz.f175), (268, fiOf Go.Proofs.Tryz.f268), (197, fiOf Go.Proofs.Tryz.f197), (315, fiOf Go.Proofs.Tryz.f315), (269, fiOf Go.Proofs.Tryz.f269), (198, fiOf Go.Proofs.Tryz.f198), (94, fiOf Go.Proofs.Tryz.f94), (346, .intr iBRead), (317, fiOf Go.Proofs.Tryz.f317), (316, fiOf Go.Proofs.Tryz.f316), (270, fiOf Go.Proofs.Tryz.f270), (199, fiOf Go.Proofs.Tryz.f199), (123, fiOf Go.Proofs.Tryz.f123), (163, fiOf Go.Proofs.Tryz.f163), (91, fiOf Go.Proofs.Tryz.f91), (323, fiOf Go.Proofs.Tryz.f323), (279, fiOf Go.Proofs.Tryz.f279), (280, fiOf Go.Proofs.Tryz.f280), (309, fiOf Go.Proofs.Tryz.f309), (296, fiOf Go.Proofs.Tryz.f296), (297, fiOf Go.Proofs.Tryz.f297), (227, fiOf Go.Proofs.Tryz.f227), (376, fiOf Go.Proofs.Tryz.f376), (385, fiOf Go.Proofs.Tryz.f385), (377, fiOf Go.Proofs.Tryz.f377), (333, fiOf Go.Proofs.Tryz.f333), (334, fiOf Go.Proofs.Tryz.f334), (378, fiOf Go.Proofs.Tryz.f378), (388, fiOf Go.Proofs.Tryz.f388), (387, fiOf Go.Proofs.Tryz.f387), (386, fiOf Go.Proofs.Tryz.f386), (379, fiOf Go.Proofs.Tryz.f379), (380, fiOf Go.Proofs.Tryz.f380), (381, fiOf Go.Proofs.Tryz.f381), (382, fiOf Go.Proofs.Tryz.f382), (383, fiOf Go.Proofs.Tryz.f383), (368, fiOf Go.Proofs.Tryz.f368), (344, fiOf Go.Proofs.Tryz.f344), (345, fiOf Go.Proofs.Tryz.f345), (310, fiOf Go.Proofs.Tryz.f310), (312, fiOf Go.Proofs.Tryz.f312), (343, .intr iNoughts), (308, fiOf Go.Proofs.Tryz.f308), (256, fiOf Go.Proofs.Tryz.f256), (255, fiOf Go.Proofs.Tryz.f255), (191, fiOf Go.Proofs.Tryz.f191), (257, fiOf Go.Proofs.Tryz.f257), (242, fiOf Go.Proofs.Tryz.f242), (164, fiOf Go.Proofs.Tryz.f164), (171, fiOf Go.Proofs.Tryz.f171), (172, fiOf Go.Proofs.Tryz.f172), (246, fiOf Go.Proofs.Tryz.f246), (173, fiOf Go.Proofs.Tryz.f173), (98, fiOf Go.Proofs.Tryz.f98), (99, fiOf Go.Proofs.Tryz.f99), (101, fiOf Go.Proofs.Tryz.f101), (108, fiOf Go.Proofs.Tryz.f108), (115, fiOf Go.Proofs.Tryz.f115), (243, fiOf Go.Proofs.Tryz.f243), (165, fiOf Go.Proofs.Tryz.f165), (92, fiOf Go.Proofs.Tryz.f92), (93, fiOf Go.Proofs.Tryz.f93), (39, fiOf Go.Proofs.Tryz.f39), (41, fiOf Go.Proofs.Tryz.f41), (19, fiOf Go.Proofs.Tryz.f19), (100, fiOf Go.Proofs.Tryz.f100), (102, fiOf Go.Proofs.Tryz.f102), (247, fiOf Go.Proofs.Tryz.f247), (176, fiOf Go.Proofs.Tryz.f176), (248, fiOf Go.Proofs.Tryz.f248), (177, fiOf Go.Proofs.Tryz.f177), (103, fiOf Go.Proofs.Tryz.f103), (42, fiOf Go.Proofs.Tryz.f42), (104, fiOf Go.Proofs.Tryz.f104), (43, fiOf Go.Proofs.Tryz.f43), (20, fiOf Go.Proofs.Tryz.f20), (6, fiOf Go.Proofs.Tryz.f6), (105, fiOf Go.Proofs.Tryz.f105), (106, fiOf Go.Proofs.Tryz.f106), (406, fiOf Go.Proofs.Tryz.f406), (414, fiOf Go.Proofs.Tryz.f414), (44, fiOf Go.Proofs.Tryz.f44), (405, fiOf Go.Proofs.Tryz.f405), (420, fiOf Go.Proofs.Tryz.f420), (413, fiOf Go.Proofs.Tryz.f413), (21, fiOf Go.Proofs.Tryz.f21), (22, fiOf Go.Proofs.Tryz.f22), (107, fiOf Go.Proofs.Tryz.f107), (45, fiOf Go.Proofs.Tryz.f45), (178, fiOf Go.Proofs.Tryz.f178), (109, fiOf Go.Proofs.Tryz.f109), (46, fiOf Go.Proofs.Tryz.f46), (179, fiOf Go.Proofs.Tryz.f179), (181, .intr iDelete), (182, fiOf Go.Proofs.Tryz.f182), (111, fiOf Go.Proofs.Tryz.f111), (110, fiOf Go.Proofs.Tryz.f110), (47, fiOf Go.Proofs.Tryz.f47), (114, fiOf Go.Proofs.Tryz.f114), (48, fiOf Go.Proofs.Tryz.f48), (50, fiOf Go.Proofs.Tryz.f50), (51, fiOf Go.Proofs.Tryz.f51), (52, fiOf Go.Proofs.Tryz.f52), (193, fiOf Go.Proofs.Tryz.f193), (259, fiOf Go.Proofs.Tryz.f259), (264, fiOf Go.Proofs.Tryz.f264), (263, fiOf Go.Proofs.Tryz.f263), (194, fiOf Go.Proofs.Tryz.f194), (258, fiOf Go.Proofs.Tryz.f258), (265, fiOf Go.Proofs.Tryz.f265), (311, fiOf Go.Proofs.Tryz.f311), (313, fiOf Go.Proofs.Tryz.f313), (261, fiOf Go.Proofs.Tryz.f261), (262, fiOf Go.Proofs.Tryz.f262), (195, fiOf Go.Proofs.Tryz.f195), (196, fiOf Go.Proofs.Tryz.f196), (121, fiOf Go.Proofs.Tryz.f121), (55, fiOf Go.Proofs.Tryz.f55), (260, fiOf Go.Proofs.Tryz.f260), (214, fiOf Go.Proofs.Tryz.f214), (215, fiOf Go.Proofs.Tryz.f215), (130, fiOf Go.Proofs.Tryz.f130), (59, fiOf Go.Proofs.Tryz.f59), (192, fiOf Go.Proofs.Tryz.f192), (117, fiOf Go.Proofs.Tryz.f117), (58, fiOf Go.Proofs.Tryz.f58), (273, fiOf Go.Proofs.Tryz.f273), (274, fiOf Go.Proofs.Tryz.f274), (205, fiOf Go.Proofs.Tryz.f205), (206, .intr iInsertR), (207, fiOf Go.Proofs.Tryz.f207), (125, fiOf Go.Proofs.Tryz.f125), (122, fiOf Go.Proofs.Tryz.f122), (200, fiOf Go.Proofs.Tryz.f200), (271, fiOf Go.Proofs.Tryz.f271), (202, fiOf Go.Proofs.Tryz.f202), (201, fiOf Go.Proofs.Tryz.f201), (124, fiOf Go.Proofs.Tryz.f124), (126, fiOf Go.Proofs.Tryz.f126), (216, .intr iDelR), (131, fiOf Go.Proofs.Tryz.f131), (119, fiOf Go.Proofs.Tryz.f119), (118, fiOf Go.Proofs.Tryz.f118), (53, fiOf Go.Proofs.Tryz.f53), (120, fiOf Go.Proofs.Tryz.f120), (54, fiOf Go.Proofs.Tryz.f54), (127, fiOf Go.Proofs.Tryz.f127), (128, fiOf Go.Proofs.Tryz.f128), (211, fiOf Go.Proofs.Tryz.f211), (349, fiOf Go.Proofs.Tryz.f349), (350, fiOf Go.Proofs.Tryz.f350), (322, fiOf Go.Proofs.Tryz.f322), (277, fiOf Go.Proofs.Tryz.f277), (278, fiOf Go.Proofs.Tryz.f278), (212, fiOf Go.Proofs.Tryz.f212), (213, fiOf Go.Proofs.Tryz.f213), (129, fiOf Go.Proofs.Tryz.f129), (57, fiOf Go.Proofs.Tryz.f57), (56, fiOf Go.Proofs.Tryz.f56), (23, fiOf Go.Proofs.Tryz.f23), (7, fiOf Go.Proofs.Tryz.f7), (281, fiOf Go.Proofs.Tryz.f281), (217, fiOf Go.Proofs.Tryz.f217), (351, fiOf Go.Proofs.Tryz.f351), (369, fiOf Go.Proofs.Tryz.f369), (352, fiOf Go.Proofs.Tryz.f352), (353, fiOf Go.Proofs.Tryz.f353), (384, fiOf Go.Proofs.Tryz.f384), (371, fiOf Go.Proofs.Tryz.f371), (370, fiOf Go.Proofs.Tryz.f370), (354, fiOf Go.Proofs.Tryz.f354), (355, fiOf Go.Proofs.Tryz.f355), (356, fiOf Go.Proofs.Tryz.f356), (357, fiOf Go.Proofs.Tryz.f357), (358, fiOf Go.Proofs.Tryz.f358), (324, fiOf Go.Proofs.Tryz.f324), (282, fiOf Go.Proofs.Tryz.f282), (283, fiOf Go.Proofs.Tryz.f283), (218, fiOf Go.Proofs.Tryz.f218), (284, fiOf Go.Proofs.Tryz.f284), (219, fiOf Go.Proofs.Tryz.f219), (132, fiOf Go.Proofs.Tryz.f132), (61, fiOf Go.Proofs.Tryz.f61), (60, fiOf Go.Proofs.Tryz.f60), (24, fiOf Go.Proofs.Tryz.f24), (8, fiOf Go.Proofs.Tryz.f8), (220, fiOf Go.Proofs.Tryz.f220), (222, fiOf Go.Proofs.Tryz.f222), (223, fiOf Go.Proofs.Tryz.f223), (135, fiOf Go.Proofs.Tryz.f135), (325, fiOf Go.Proofs.Tryz.f325), (326, .intr iTrimR), (327, fiOf Go.Proofs.Tryz.f327), (359, fiOf Go.Proofs.Tryz.f359), (328, fiOf Go.Proofs.Tryz.f328), (329, fiOf Go.Proofs.Tryz.f329), (372, fiOf Go.Proofs.Tryz.f372), (360, fiOf Go.Proofs.Tryz.f360), (361, fiOf Go.Proofs.Tryz.f361), (330, fiOf Go.Proofs.Tryz.f330), (373, fiOf Go.Proofs.Tryz.f373), (362, fiOf Go.Proofs.Tryz.f362), (331, fiOf Go.Proofs.Tryz.f331), (287, fiOf Go.Proofs.Tryz.f287), (286, fiOf Go.Proofs.Tryz.f286), (225, fiOf Go.Proofs.Tryz.f225), (136, fiOf Go.Proofs.Tryz.f136), (137, fiOf Go.Proofs.Tryz.f137), (138, fiOf Go.Proofs.Tryz.f138), (139, fiOf Go.Proofs.Tryz.f139), (140, fiOf Go.Proofs.Tryz.f140), (288, fiOf Go.Proofs.Tryz.f288), (332, fiOf Go.Proofs.Tryz.f332), (289, fiOf Go.Proofs.Tryz.f289), (290, fiOf Go.Proofs.Tryz.f290), (363, fiOf Go.Proofs.Tryz.f363), (336, fiOf Go.Proofs.Tryz.f336), (335, fiOf Go.Proofs.Tryz.f335), (291, fiOf Go.Proofs.Tryz.f291), (292, fiOf Go.Proofs.Tryz.f292), (293, fiOf Go.Proofs.Tryz.f293), (294, fiOf Go.Proofs.Tryz.f294), (295, fiOf Go.Proofs.Tryz.f295), (226, fiOf Go.Proofs.Tryz.f226), (141, fiOf Go.Proofs.Tryz.f141), (63, fiOf Go.Proofs.Tryz.f63), (25, fiOf Go.Proofs.Tryz.f25), (26, fiOf Go.Proofs.Tryz.f26), (27, fiOf Go.Proofs.Tryz.f27), (9, fiOf Go.Proofs.Tryz.f9), (15, fiOf Go.Proofs.Tryz.f15), (160, fiOf Go.Proofs.Tryz.f160), (161, fiOf Go.Proofs.Tryz.f161), (84, fiOf Go.Proofs.Tryz.f84), (33, fiOf Go.Proofs.Tryz.f33), (338, fiOf Go.Proofs.Tryz.f338), (301, fiOf Go.Proofs.Tryz.f301), (239, fiOf Go.Proofs.Tryz.f239), (339, fiOf Go.Proofs.Tryz.f339), (375, fiOf Go.Proofs.Tryz.f375), (366, fiOf Go.Proofs.Tryz.f366), (340, fiOf Go.Proofs.Tryz.f340), (302, fiOf Go.Proofs.Tryz.f302), (240, fiOf Go.Proofs.Tryz.f240), (341, .intr iCompare), (303, fiOf Go.Proofs.Tryz.f303), (241, fiOf Go.Proofs.Tryz.f241), (162, fiOf Go.Proofs.Tryz.f162), (85, fiOf Go.Proofs.Tryz.f85), (34, fiOf Go.Proofs.Tryz.f34), (35, fiOf Go.Proofs.Tryz.f35), (12, fiOf Go.Proofs.Tryz.f12), (14, fiOf Go.Proofs.Tryz.f14), (16, fiOf Go.Proofs.Tryz.f16), (3, fiOf Go.Proofs.Tryz.f3)]
noncomputable def fnt : PT FI := fnTree fnl
noncomputable def fns : Nat → Option FI := fnGet fnt
def n_tallymanlaw25_StoreNames : Nat := 3
end Go.XS.Tryz
/- Calls of a closed run: the calls. -/
namespace Go.XS.Tryz
open Go Go.TS
set_option maxRecDepth 100000
set_option linter.unusedVariables false
def srk0 : Nat := 0x2000000000000000200000000000000070000000000000006000000000000004000000000000000028049b999000000000000000201014d54
def srk1 : Nat := 0x300000000000000020000000000000040000000000000000100a6f3fb000000000000000101014d54
def srk2 : Nat := 0x100000000c08c10d8000000000000000002014d54
def srk3 : Nat := 0xf00000040000c00000000571dbd5c000000000000000003014d54
def srk4 : Nat := 0xa5ced327000000000000000005014d54
def srk5 : Nat := 0xca1cb84c000000000000000104014d54
def srk6 : Nat := 0x50402000300000000c6708a2a000000000000000002014d54
def srk7 : Nat := 0xf300000040000c00000000c0a850c3000000000000000003014d54
def srk8 : Nat := 0xf0fe10fe10001db170657000000000000000206014d54
def srk9 : Nat := 0x10020b0061010000000000000000000000000000000000000000000000000000000000000000000000000000000000000000000000000000000000000000000000000000000000000000000000000000000000000000000000000000000000000000000000000000000000000000000000000000000000000000000000000000000000000000000000000000000000000000000000000000000000000000000000000000000000000000000000000000000000000000000000000000000000000000000000000000000000000000000000000000000000000000000000000000000000000000000000000000000000000000000000000000000000000000000000000000000000000000000000000000000000000000000000000000000000000000000000000000000000000000000000000000000000000000000000000000000000000000000000000000000000000000000000000000000000000000000000000000000000000000000000000000000000000000000000000000000000000000000000000000000000000000000000000000000000000000000000000000000000000000000000000000000000000000000000000000000000000000000000000000000000000000000000000000000000000000000000000000000000000000000000000000000000000000000000000000000000
def srk10 : Nat := 0x2d24ec4f1a98c6e5b0001000000008c84fe08000000000000000005014d54
def srk11 : Nat := 0x10000000000000003000000000000000200000000000000030000000000000009000000000000000800000000000000400000000000000003f8be03db000000000000000301014d54
def srk12 : Nat := 0x2050303000400000000ced37751000000000000000002014d54
def srk13 : Nat := 0x32f00000040000c00000000a56280a5000000000000000003014d54
def srk14 : Nat := 0xf0fd2000f0fe10fd200025dd744f2000000000000000206014d54
def srk15 : Nat := 0x10020b00610100000000000000000010020b0062010000000000000000000000000000000000000000000000000000000000000000000000000000000000000000000000000000000000000000000000000000000000000000000000000000000000000000000000000000000000000000000000000000000000000000000000000000000000000000000000000000000000000000000000000000000000000000000000000000000000000000000000000000000000000000000000000000000000000000000000000000000000000000000000000000000000000000000000000000000000000000000000000000000000000000000000000000000000000000000000000000000000000000000000000000000000000000000000000000000000000000000000000000000000000000000000000000000000000000000000000000000000000000000000000000000000000000000000000000000000000000000000000000000000000000000000000000000000000000000000000000000000000000000000000000000000000000000000000000000000000000000000000000000000000000000000000000000000000000000000000000000000000000000000000000000000000000000000000000000000000000000000000000000000000000000000000000000000000000000000000000
def srk16 : Nat := 0x2d24ec4f1a98c6e5b00010000000278452aa11af39f9b0002000000001e5c81d7000000000000000005014d54
noncomputable def sro0 : AO := .cells (.l [.sl ⟨some ⟨pOf 2, 0⟩, 262144, 262144, 1⟩, .map (some (pOf 3)), .sl ⟨none, 0, 0, 0⟩, .ptr none])
noncomputable def sro1 : AO := .cells (.b (Nat.add (Nat.add (Nat.add (Nat.add (Nat.add (Nat.add (Nat.add srk0 (Nat.shiftLeft srk1 32768)) (Nat.shiftLeft srk2 65536)) (Nat.shiftLeft srk3 98304)) (Nat.shiftLeft srk4 131072)) (Nat.shiftLeft srk5 163840)) (Nat.shiftLeft srk6 196608)) (Nat.shiftLeft srk7 229376)) 262144)
noncomputable def sro2 : AO := .cells (.l [.bool true, .int .i64 (.ofNat 2), .int .i64 (.ofNat 0), .bool false, .bool true, .sl ⟨some ⟨pOf 158, 0⟩, 4096, 4096, 1⟩, .bool true, .int .i64 (.ofNat 3), .int .i64 (.ofNat 0), .bool false, .bool true, .sl ⟨some ⟨pOf 204, 0⟩, 4096, 4096, 1⟩, .bool true, .int .i64 (.ofNat 4), .int .i64 (.ofNat 0), .bool false, .bool true, .sl ⟨some ⟨pOf 368, 0⟩, 4096, 4096, 1⟩, .bool true, .int .i64 (.ofNat 5), .int .i64 (.ofNat 0), .bool false, .bool true, .sl ⟨some ⟨pOf 417, 0⟩, 4096, 4096, 1⟩, .bool true, .int .i64 (.ofNat 6), .int .i64 (.ofNat 0), .bool false, .bool true, .sl ⟨some ⟨pOf 536, 0⟩, 4096, 4096, 1⟩, .bool true, .int .i64 (.ofNat 7), .int .i64 (.ofNat 0), .bool false, .bool true, .sl ⟨some ⟨pOf 582, 0⟩, 4096, 4096, 1⟩, .bool false, .int .i64 (.ofNat 0), .int .i64 (.ofNat 0), .bool false, .bool false, .sl ⟨none, 0, 0, 0⟩, .bool false, .int .i64 (.ofNat 0), .int .i64 (.ofNat 0), .bool false, .bool false, .sl ⟨none, 0, 0, 0⟩])
noncomputable def sro3 : AO := .cells (.l [.ptr (some ⟨pOf 4, 0⟩), .sl ⟨some ⟨pOf 5, 0⟩, 8, 8, 0⟩, .int .i64 (.ofNat 0)])
noncomputable def sro4 : AO := .cells (.l [.ptr (some ⟨pOf 4, 0⟩), .ptr (some ⟨pOf 6, 0⟩), .int .u64 (.ofNat 2), .int .u64 (.ofNat 64), .int .u64 (.ofNat 6), .int .u64 (.ofNat 7), .int .u64 (.ofNat 2), .int .u64 (.ofNat 2), .int .u64 (.ofNat 0), .int .u64 (.ofNat 0), .int .u64 (.ofNat 0), .sl ⟨some ⟨pOf 432, 0⟩, 2, 2, 1⟩, .sl ⟨some ⟨pOf 474, 0⟩, 2, 2, 1⟩, .sl ⟨none, 0, 0, 0⟩, .int .u64 (.ofNat 2), .int .u64 (.ofNat 64), .int .u64 (.ofNat 6), .int .u64 (.ofNat 7), .int .u64 (.ofNat 2), .int .u64 (.ofNat 2), .int .u64 (.ofNat 0), .int .u64 (.ofNat 0), .int .u64 (.ofNat 0), .sl ⟨some ⟨pOf 778, 0⟩, 2, 2, 1⟩, .sl ⟨some ⟨pOf 780, 0⟩, 2, 2, 1⟩, .sl ⟨none, 0, 0, 0⟩, .bool false, .int .i64 (.negSucc 0)])
noncomputable def sro5 : AO := .cells (.l [.ptr (some ⟨pOf 7, 0⟩), .int .i64 (.ofNat 1), .int .i64 (.ofNat 0), .int .u64 (.ofNat 0)])
noncomputable def sro6 : AO := .cells (.l [.sl ⟨some ⟨pOf 1029, 0⟩, 262144, 262144, 1⟩, .map (some (pOf 1030)), .sl ⟨none, 0, 0, 0⟩, .ptr none])
noncomputable def sro7 : AO := .cells (.l [.sl ⟨some ⟨pOf 1115, 0⟩, 262144, 262144, 1⟩, .map (some (pOf 1116)), .sl ⟨none, 0, 0, 0⟩, .ptr none])
noncomputable def sro8 : AO := .cells (.l [.bool true, .int .i64 (.ofNat 2), .int .i64 (.ofNat 0), .bool false, .bool true, .sl ⟨some ⟨pOf 1271, 0⟩, 4096, 4096, 1⟩, .bool true, .int .i64 (.ofNat 3), .int .i64 (.ofNat 0), .bool false, .bool true, .sl ⟨some ⟨pOf 1317, 0⟩, 4096, 4096, 1⟩, .bool true, .int .i64 (.ofNat 4), .int .i64 (.ofNat 0), .bool false, .bool true, .sl ⟨some ⟨pOf 1481, 0⟩, 4096, 4096, 1⟩, .bool true, .int .i64 (.ofNat 5), .int .i64 (.ofNat 0), .bool false, .bool true, .sl ⟨some ⟨pOf 1530, 0⟩, 4096, 4096, 1⟩, .bool true, .int .i64 (.ofNat 6), .int .i64 (.ofNat 0), .bool false, .bool true, .sl ⟨some ⟨pOf 1649, 0⟩, 4096, 4096, 1⟩, .bool true, .int .i64 (.ofNat 7), .int .i64 (.ofNat 0), .bool false, .bool true, .sl ⟨some ⟨pOf 1695, 0⟩, 4096, 4096, 1⟩, .bool false, .int .i64 (.ofNat 0), .int .i64 (.ofNat 0), .bool false, .bool false, .sl ⟨none, 0, 0, 0⟩, .bool false, .int .i64 (.ofNat 0), .int .i64 (.ofNat 0), .bool false, .bool false, .sl ⟨none, 0, 0, 0⟩])
noncomputable def sro9 : AO := .cells (.l [.ptr (some ⟨pOf 1117, 0⟩), .sl ⟨some ⟨pOf 1118, 0⟩, 8, 8, 0⟩, .int .i64 (.ofNat 0)])
noncomputable def sro10 : AO := .cells (.l [.ptr (some ⟨pOf 1117, 0⟩), .ptr (some ⟨pOf 1119, 0⟩), .int .u64 (.ofNat 2), .int .u64 (.ofNat 64), .int .u64 (.ofNat 6), .int .u64 (.ofNat 7), .int .u64 (.ofNat 2), .int .u64 (.ofNat 2), .int .u64 (.ofNat 0), .int .u64 (.ofNat 0), .int .u64 (.ofNat 0), .sl ⟨some ⟨pOf 1545, 0⟩, 2, 2, 1⟩, .sl ⟨some ⟨pOf 1587, 0⟩, 2, 2, 1⟩, .sl ⟨none, 0, 0, 0⟩, .int .u64 (.ofNat 2), .int .u64 (.ofNat 64), .int .u64 (.ofNat 6), .int .u64 (.ofNat 7), .int .u64 (.ofNat 2), .int .u64 (.ofNat 2), .int .u64 (.ofNat 0), .int .u64 (.ofNat 0), .int .u64 (.ofNat 0), .sl ⟨some ⟨pOf 1891, 0⟩, 2, 2, 1⟩, .sl ⟨some ⟨pOf 1893, 0⟩, 2, 2, 1⟩, .sl ⟨none, 0, 0, 0⟩, .bool false, .int .i64 (.negSucc 0)])
noncomputable def sro11 : AO := .cells (.l [.ptr (some ⟨pOf 1120, 0⟩), .int .i64 (.ofNat 1), .int .i64 (.ofNat 0), .int .u64 (.ofNat 0)])
noncomputable def sro12 : AO := .cells (.l [.bool true, .int .i64 (.ofNat 2), .int .i64 (.ofNat 0), .bool true, .bool true, .sl ⟨some ⟨pOf 2121, 0⟩, 4096, 4096, 1⟩, .bool true, .int .i64 (.ofNat 3), .int .i64 (.ofNat 0), .bool true, .bool true, .sl ⟨some ⟨pOf 2304, 0⟩, 4096, 4096, 1⟩, .bool true, .int .i64 (.ofNat 4), .int .i64 (.ofNat 0), .bool false, .bool true, .sl ⟨some ⟨pOf 1481, 0⟩, 4096, 4096, 1⟩, .bool true, .int .i64 (.ofNat 5), .int .i64 (.ofNat 0), .bool false, .bool true, .sl ⟨some ⟨pOf 1530, 0⟩, 4096, 4096, 1⟩, .bool true, .int .i64 (.ofNat 6), .int .i64 (.ofNat 0), .bool false, .bool true, .sl ⟨some ⟨pOf 1649, 0⟩, 4096, 4096, 1⟩, .bool true, .int .i64 (.ofNat 7), .int .i64 (.ofNat 0), .bool false, .bool true, .sl ⟨some ⟨pOf 1695, 0⟩, 4096, 4096, 1⟩, .bool false, .int .i64 (.ofNat 0), .int .i64 (.ofNat 0), .bool false, .bool false, .sl ⟨none, 0, 0, 0⟩, .bool false, .int .i64 (.ofNat 0), .int .i64 (.ofNat 0), .bool false, .bool false, .sl ⟨none, 0, 0, 0⟩])
noncomputable def sro13 : AO := .cells (.l [.ptr (some ⟨pOf 1117, 0⟩), .ptr (some ⟨pOf 1119, 0⟩), .int .u64 (.ofNat 2), .int .u64 (.ofNat 64), .int .u64 (.ofNat 6), .int .u64 (.ofNat 7), .int .u64 (.ofNat 2), .int .u64 (.ofNat 2), .int .u64 (.ofNat 0), .int .u64 (.ofNat 0), .int .u64 (.ofNat 0), .sl ⟨some ⟨pOf 1545, 0⟩, 2, 2, 1⟩, .sl ⟨some ⟨pOf 1587, 0⟩, 2, 2, 1⟩, .sl ⟨none, 0, 0, 0⟩, .int .u64 (.ofNat 2), .int .u64 (.ofNat 64), .int .u64 (.ofNat 6), .int .u64 (.ofNat 7), .int .u64 (.ofNat 2), .int .u64 (.ofNat 2), .int .u64 (.ofNat 0), .int .u64 (.ofNat 0), .int .u64 (.ofNat 0), .sl ⟨some ⟨pOf 2321, 0⟩, 3, 3, 1⟩, .sl ⟨some ⟨pOf 1893, 0⟩, 2, 2, 1⟩, .sl ⟨some ⟨pOf 2326, 0⟩, 2, 2, 1⟩, .bool false, .int .i64 (.negSucc 0)])
noncomputable def sro14 : AO := .cells (.l [.ptr (some ⟨pOf 1120, 0⟩), .int .i64 (.ofNat 1), .int .i64 (.ofNat 3), .int .u64 (.ofNat 1)])
noncomputable def sro15 : AO := .cells (.l [.int .i64 (.ofNat 3), .int .i64 (.ofNat 5), .int .i64 (.ofNat 2)])
noncomputable def sro16 : AO := .cells (.b (Nat.add (Nat.add (Nat.add (Nat.add (Nat.add (Nat.add (Nat.add (Nat.add (Nat.add (Nat.add srk0 (Nat.shiftLeft srk11 32768)) (Nat.shiftLeft srk8 65536)) (Nat.shiftLeft srk9 94208)) (Nat.shiftLeft srk10 98304)) (Nat.shiftLeft srk4 131072)) (Nat.shiftLeft srk5 163840)) (Nat.shiftLeft srk6 196608)) (Nat.shiftLeft srk7 229376)) (Nat.shiftLeft srk12 262144)) (Nat.shiftLeft srk13 294912)) 262144)
noncomputable def sro17 : AO := .cells (.l [.bool true, .int .i64 (.ofNat 2), .int .i64 (.ofNat 0), .bool false, .bool true, .sl ⟨some ⟨pOf 2121, 0⟩, 4096, 4096, 1⟩, .bool true, .int .i64 (.ofNat 3), .int .i64 (.ofNat 0), .bool false, .bool true, .sl ⟨some ⟨pOf 2304, 0⟩, 4096, 4096, 1⟩, .bool true, .int .i64 (.ofNat 4), .int .i64 (.ofNat 0), .bool false, .bool true, .sl ⟨some ⟨pOf 1481, 0⟩, 4096, 4096, 1⟩, .bool true, .int .i64 (.ofNat 5), .int .i64 (.ofNat 0), .bool false, .bool true, .sl ⟨some ⟨pOf 1530, 0⟩, 4096, 4096, 1⟩, .bool true, .int .i64 (.ofNat 6), .int .i64 (.ofNat 0), .bool false, .bool true, .sl ⟨some ⟨pOf 1649, 0⟩, 4096, 4096, 1⟩, .bool true, .int .i64 (.ofNat 7), .int .i64 (.ofNat 0), .bool false, .bool true, .sl ⟨some ⟨pOf 1695, 0⟩, 4096, 4096, 1⟩, .bool true, .int .i64 (.ofNat 8), .int .i64 (.ofNat 0), .bool false, .bool true, .sl ⟨some ⟨pOf 2439, 0⟩, 4096, 4096, 1⟩, .bool true, .int .i64 (.ofNat 9), .int .i64 (.ofNat 0), .bool false, .bool true, .sl ⟨some ⟨pOf 2485, 0⟩, 4096, 4096, 1⟩])
noncomputable def sro18 : AO := .cells (.l [.ptr (some ⟨pOf 1117, 0⟩), .ptr (some ⟨pOf 1119, 0⟩), .int .u64 (.ofNat 3), .int .u64 (.ofNat 64), .int .u64 (.ofNat 8), .int .u64 (.ofNat 9), .int .u64 (.ofNat 3), .int .u64 (.ofNat 2), .int .u64 (.ofNat 3), .int .u64 (.ofNat 1), .int .u64 (.ofNat 0), .sl ⟨some ⟨pOf 2321, 0⟩, 3, 3, 1⟩, .sl ⟨some ⟨pOf 2374, 0⟩, 2, 2, 1⟩, .sl ⟨none, 0, 0, 0⟩, .int .u64 (.ofNat 3), .int .u64 (.ofNat 64), .int .u64 (.ofNat 8), .int .u64 (.ofNat 9), .int .u64 (.ofNat 3), .int .u64 (.ofNat 2), .int .u64 (.ofNat 3), .int .u64 (.ofNat 1), .int .u64 (.ofNat 0), .sl ⟨some ⟨pOf 2681, 0⟩, 3, 3, 1⟩, .sl ⟨some ⟨pOf 2683, 0⟩, 2, 2, 1⟩, .sl ⟨none, 0, 0, 0⟩, .bool false, .int .i64 (.negSucc 0)])
noncomputable def sro19 : AO := .cells (.l [.bool true, .int .i64 (.ofNat 2), .int .i64 (.ofNat 0), .bool false, .bool true, .sl ⟨some ⟨pOf 2121, 0⟩, 4096, 4096, 1⟩, .bool true, .int .i64 (.ofNat 3), .int .i64 (.ofNat 0), .bool false, .bool true, .sl ⟨some ⟨pOf 2304, 0⟩, 4096, 4096, 1⟩, .bool true, .int .i64 (.ofNat 4), .int .i64 (.ofNat 0), .bool true, .bool true, .sl ⟨some ⟨pOf 2978, 0⟩, 4096, 4096, 1⟩, .bool true, .int .i64 (.ofNat 5), .int .i64 (.ofNat 0), .bool false, .bool true, .sl ⟨some ⟨pOf 1530, 0⟩, 4096, 4096, 1⟩, .bool true, .int .i64 (.ofNat 6), .int .i64 (.ofNat 0), .bool true, .bool true, .sl ⟨some ⟨pOf 3184, 0⟩, 4096, 4096, 1⟩, .bool true, .int .i64 (.ofNat 7), .int .i64 (.ofNat 0), .bool false, .bool true, .sl ⟨some ⟨pOf 1695, 0⟩, 4096, 4096, 1⟩, .bool true, .int .i64 (.ofNat 8), .int .i64 (.ofNat 0), .bool false, .bool true, .sl ⟨some ⟨pOf 2439, 0⟩, 4096, 4096, 1⟩, .bool true, .int .i64 (.ofNat 9), .int .i64 (.ofNat 0), .bool false, .bool true, .sl ⟨some ⟨pOf 2485, 0⟩, 4096, 4096, 1⟩])
noncomputable def sro20 : AO := .cells (.l [.ptr (some ⟨pOf 1117, 0⟩), .ptr (some ⟨pOf 1119, 0⟩), .int .u64 (.ofNat 3), .int .u64 (.ofNat 64), .int .u64 (.ofNat 8), .int .u64 (.ofNat 9), .int .u64 (.ofNat 3), .int .u64 (.ofNat 2), .int .u64 (.ofNat 3), .int .u64 (.ofNat 1), .int .u64 (.ofNat 0), .sl ⟨some ⟨pOf 2321, 0⟩, 3, 3, 1⟩, .sl ⟨some ⟨pOf 2374, 0⟩, 2, 2, 1⟩, .sl ⟨none, 0, 0, 0⟩, .int .u64 (.ofNat 3), .int .u64 (.ofNat 64), .int .u64 (.ofNat 8), .int .u64 (.ofNat 9), .int .u64 (.ofNat 3), .int .u64 (.ofNat 2), .int .u64 (.ofNat 3), .int .u64 (.ofNat 1), .int .u64 (.ofNat 0), .sl ⟨some ⟨pOf 3201, 0⟩, 3, 3, 1⟩, .sl ⟨some ⟨pOf 2683, 0⟩, 2, 2, 1⟩, .sl ⟨some ⟨pOf 3206, 0⟩, 2, 2, 1⟩, .bool false, .int .i64 (.negSucc 0)])
noncomputable def sro21 : AO := .cells (.l [.ptr (some ⟨pOf 1120, 0⟩), .int .i64 (.ofNat 1), .int .i64 (.ofNat 3), .int .u64 (.ofNat 2)])
noncomputable def sro22 : AO := .cells (.l [.int .i64 (.ofNat 6), .int .i64 (.ofNat 5), .int .i64 (.ofNat 4)])
noncomputable def srm0_0 : ME := ⟨[.ptr (some ⟨pOf 4, 0⟩), .int .i64 (.ofNat 8)], pOf 5,
   [(pOf 3, .map .i64 (some (.sl)) []),
    (pOf 4, sro0)],
   [(pOf 2, .cells (.b 0 262144))],
   .tup [.ptr (some ⟨pOf 781, 0⟩), .int .i64 (.ofNat 0)], pOf 782,
   [(pOf 2, sro1),
    (pOf 5, sro2),
    (pOf 6, sro3),
    (pOf 7, sro4),
    (pOf 158, .cells (.b srk2 4096)),
    (pOf 204, .cells (.b srk3 4096)),
    (pOf 368, .cells (.b srk4 4096)),
    (pOf 417, .cells (.b srk5 4096)),
    (pOf 432, .cells (.l [.int .i64 (.ofNat 4), .int .i64 (.ofNat 5)])),
    (pOf 474, .cells (.l [.int .i64 (.ofNat 6), .int .i64 (.ofNat 7)])),
    (pOf 536, .cells (.b srk6 4096)),
    (pOf 582, .cells (.b srk7 4096)),
    (pOf 778, .cells (.l [.int .i64 (.ofNat 4), .int .i64 (.ofNat 5)])),
    (pOf 780, .cells (.l [.int .i64 (.ofNat 6), .int .i64 (.ofNat 7)])),
    (pOf 781, sro5)]⟩
noncomputable def srm0_1 : ME := ⟨[.ptr (some ⟨pOf 1031, 0⟩), .int .i64 (.ofNat 3)], pOf 1113,
   [(pOf 1029, .cells (.b 0 262144)),
    (pOf 1030, .map .i64 (some (.sl)) []),
    (pOf 1031, sro6)],
   [],
   .tup [.ptr none, .int .i64 (.ofNat 2)], pOf 1113,
   []⟩
noncomputable def srm0_2 : ME := ⟨[.ptr (some ⟨pOf 1117, 0⟩), .int .i64 (.ofNat 8)], pOf 1118,
   [(pOf 1116, .map .i64 (some (.sl)) []),
    (pOf 1117, sro7)],
   [(pOf 1115, .cells (.b 0 262144))],
   .tup [.ptr (some ⟨pOf 1894, 0⟩), .int .i64 (.ofNat 0)], pOf 1895,
   [(pOf 1115, sro1),
    (pOf 1118, sro8),
    (pOf 1119, sro9),
    (pOf 1120, sro10),
    (pOf 1271, .cells (.b srk2 4096)),
    (pOf 1317, .cells (.b srk3 4096)),
    (pOf 1481, .cells (.b srk4 4096)),
    (pOf 1530, .cells (.b srk5 4096)),
    (pOf 1545, .cells (.l [.int .i64 (.ofNat 4), .int .i64 (.ofNat 5)])),
    (pOf 1587, .cells (.l [.int .i64 (.ofNat 6), .int .i64 (.ofNat 7)])),
    (pOf 1649, .cells (.b srk6 4096)),
    (pOf 1695, .cells (.b srk7 4096)),
    (pOf 1891, .cells (.l [.int .i64 (.ofNat 4), .int .i64 (.ofNat 5)])),
    (pOf 1893, .cells (.l [.int .i64 (.ofNat 6), .int .i64 (.ofNat 7)])),
    (pOf 1894, sro11)]⟩
noncomputable def sres0 : List ME := [srm0_0, srm0_1, srm0_2]
noncomputable def srf1 : Nat → Option FI := overF fns 11 (iMemo sres0)
noncomputable def srm1_0 : ME := ⟨[.ptr (some ⟨pOf 781, 0⟩), .sl ⟨some ⟨pOf 881, 0⟩, 1, 1, 0⟩, .agg [.int .i64 (.ofNat 0), .int .i64 (.ofNat 0), .sl ⟨none, 0, 0, 0⟩, .int .i64 (.ofNat 0), .sl ⟨none, 0, 0, 0⟩, .int .u64 (.ofNat 0)]], pOf 882,
   [(pOf 2, sro1),
    (pOf 3, .map .i64 (some (.sl)) []),
    (pOf 4, sro0),
    (pOf 5, sro2),
    (pOf 6, sro3),
    (pOf 7, sro4),
    (pOf 158, .cells (.b srk2 4096)),
    (pOf 204, .cells (.b srk3 4096)),
    (pOf 368, .cells (.b srk4 4096)),
    (pOf 417, .cells (.b srk5 4096)),
    (pOf 432, .cells (.l [.int .i64 (.ofNat 4), .int .i64 (.ofNat 5)])),
    (pOf 474, .cells (.l [.int .i64 (.ofNat 6), .int .i64 (.ofNat 7)])),
    (pOf 536, .cells (.b srk6 4096)),
    (pOf 582, .cells (.b srk7 4096)),
    (pOf 778, .cells (.l [.int .i64 (.ofNat 4), .int .i64 (.ofNat 5)])),
    (pOf 780, .cells (.l [.int .i64 (.ofNat 6), .int .i64 (.ofNat 7)])),
    (pOf 781, sro5),
    (pOf 881, .cells (.b 97 1))],
   [],
   .int .i64 (.ofNat 11), pOf 885,
   []⟩
noncomputable def srm1_1 : ME := ⟨[.ptr (some ⟨pOf 781, 0⟩), .sl ⟨none, 0, 0, 0⟩, .agg [.int .i64 (.ofNat 1), .int .i64 (.ofNat 4), .sl ⟨none, 0, 0, 0⟩, .int .i64 (.ofNat 0), .sl ⟨none, 0, 0, 0⟩, .int .u64 (.ofNat 0)]], pOf 885,
   [(pOf 2, sro1),
    (pOf 3, .map .i64 (some (.sl)) []),
    (pOf 4, sro0),
    (pOf 5, sro2),
    (pOf 6, sro3),
    (pOf 7, sro4),
    (pOf 158, .cells (.b srk2 4096)),
    (pOf 204, .cells (.b srk3 4096)),
    (pOf 368, .cells (.b srk4 4096)),
    (pOf 417, .cells (.b srk5 4096)),
    (pOf 432, .cells (.l [.int .i64 (.ofNat 4), .int .i64 (.ofNat 5)])),
    (pOf 474, .cells (.l [.int .i64 (.ofNat 6), .int .i64 (.ofNat 7)])),
    (pOf 536, .cells (.b srk6 4096)),
    (pOf 582, .cells (.b srk7 4096)),
    (pOf 778, .cells (.l [.int .i64 (.ofNat 4), .int .i64 (.ofNat 5)])),
    (pOf 780, .cells (.l [.int .i64 (.ofNat 6), .int .i64 (.ofNat 7)])),
    (pOf 781, sro5)],
   [],
   .int .i64 (.ofNat 2), pOf 919,
   []⟩
noncomputable def srm1_2 : ME := ⟨[.ptr (some ⟨pOf 1894, 0⟩), .sl ⟨some ⟨pOf 1902, 0⟩, 1, 1, 0⟩, .agg [.int .i64 (.ofNat 2), .int .i64 (.ofNat 0), .sl ⟨none, 0, 0, 0⟩, .int .i64 (.ofNat 16), .sl ⟨none, 0, 0, 0⟩, .int .u64 (.ofNat 0)]], pOf 1903,
   [(pOf 1115, sro1),
    (pOf 1116, .map .i64 (some (.sl)) []),
    (pOf 1117, sro7),
    (pOf 1119, sro9),
    (pOf 1271, .cells (.b srk2 4096)),
    (pOf 1317, .cells (.b srk3 4096)),
    (pOf 1481, .cells (.b srk4 4096)),
    (pOf 1530, .cells (.b srk5 4096)),
    (pOf 1545, .cells (.l [.int .i64 (.ofNat 4), .int .i64 (.ofNat 5)])),
    (pOf 1587, .cells (.l [.int .i64 (.ofNat 6), .int .i64 (.ofNat 7)])),
    (pOf 1649, .cells (.b srk6 4096)),
    (pOf 1695, .cells (.b srk7 4096)),
    (pOf 1891, .cells (.l [.int .i64 (.ofNat 4), .int .i64 (.ofNat 5)])),
    (pOf 1893, .cells (.l [.int .i64 (.ofNat 6), .int .i64 (.ofNat 7)])),
    (pOf 1902, .cells (.b 97 1))],
   [(pOf 1118, sro8),
    (pOf 1120, sro10),
    (pOf 1894, sro11)],
   .int .i64 (.ofNat 0), pOf 2329,
   [(pOf 1118, sro12),
    (pOf 1120, sro13),
    (pOf 1894, sro14),
    (pOf 2121, .cells (.b (Nat.add srk8 (Nat.shiftLeft srk9 28672)) 4096)),
    (pOf 2304, .cells (.b srk10 4096)),
    (pOf 2321, sro15),
    (pOf 2326, .cells (.l [.int .i64 (.ofNat 2), .int .i64 (.ofNat 3)]))]⟩
noncomputable def srm1_3 : ME := ⟨[.ptr (some ⟨pOf 1894, 0⟩), .sl ⟨some ⟨pOf 2684, 0⟩, 1, 1, 0⟩, .agg [.int .i64 (.ofNat 2), .int .i64 (.ofNat 0), .sl ⟨none, 0, 0, 0⟩, .int .i64 (.ofNat 16), .sl ⟨none, 0, 0, 0⟩, .int .u64 (.ofNat 0)]], pOf 2685,
   [(pOf 1115, sro16),
    (pOf 1116, .map .i64 (some (.sl)) []),
    (pOf 1117, sro7),
    (pOf 1119, sro9),
    (pOf 1481, .cells (.b srk4 4096)),
    (pOf 1530, .cells (.b srk5 4096)),
    (pOf 1649, .cells (.b srk6 4096)),
    (pOf 1695, .cells (.b srk7 4096)),
    (pOf 2121, .cells (.b (Nat.add srk8 (Nat.shiftLeft srk9 28672)) 4096)),
    (pOf 2304, .cells (.b srk10 4096)),
    (pOf 2321, sro15),
    (pOf 2374, .cells (.l [.int .i64 (.ofNat 8), .int .i64 (.ofNat 9)])),
    (pOf 2439, .cells (.b srk12 4096)),
    (pOf 2485, .cells (.b srk13 4096)),
    (pOf 2681, sro15),
    (pOf 2683, .cells (.l [.int .i64 (.ofNat 8), .int .i64 (.ofNat 9)])),
    (pOf 2684, .cells (.b 98 1))],
   [(pOf 1118, sro17),
    (pOf 1120, sro18),
    (pOf 1894, sro14)],
   .int .i64 (.ofNat 0), pOf 3209,
   [(pOf 1118, sro19),
    (pOf 1120, sro20),
    (pOf 1894, sro21),
    (pOf 2978, .cells (.b (Nat.add srk14 (Nat.shiftLeft srk15 28672)) 4096)),
    (pOf 3184, .cells (.b srk16 4096)),
    (pOf 3201, sro22),
    (pOf 3206, .cells (.l [.int .i64 (.ofNat 4), .int .i64 (.ofNat 6)]))]⟩
noncomputable def sres1 : List ME := [srm1_0, srm1_1, srm1_2, srm1_3]
noncomputable def srf2 : Nat → Option FI := overF srf1 7 (iMemo sres1)
noncomputable def srm2_0 : ME := ⟨[.ptr (some ⟨pOf 1894, 0⟩)], pOf 2329,
   [(pOf 1116, .map .i64 (some (.sl)) []),
    (pOf 1117, sro7),
    (pOf 1119, sro9),
    (pOf 1481, .cells (.b srk4 4096)),
    (pOf 1530, .cells (.b srk5 4096)),
    (pOf 1545, .cells (.l [.int .i64 (.ofNat 4), .int .i64 (.ofNat 5)])),
    (pOf 1587, .cells (.l [.int .i64 (.ofNat 6), .int .i64 (.ofNat 7)])),
    (pOf 1649, .cells (.b srk6 4096)),
    (pOf 1695, .cells (.b srk7 4096)),
    (pOf 1893, .cells (.l [.int .i64 (.ofNat 6), .int .i64 (.ofNat 7)])),
    (pOf 1894, sro14),
    (pOf 2121, .cells (.b (Nat.add srk8 (Nat.shiftLeft srk9 28672)) 4096)),
    (pOf 2304, .cells (.b srk10 4096)),
    (pOf 2321, sro15),
    (pOf 2326, .cells (.l [.int .i64 (.ofNat 2), .int .i64 (.ofNat 3)]))],
   [(pOf 1115, sro1),
    (pOf 1118, sro12),
    (pOf 1120, sro13)],
   .int .i64 (.ofNat 0), pOf 2684,
   [(pOf 1115, sro16),
    (pOf 1118, sro17),
    (pOf 1120, sro18),
    (pOf 2374, .cells (.l [.int .i64 (.ofNat 8), .int .i64 (.ofNat 9)])),
    (pOf 2439, .cells (.b srk12 4096)),
    (pOf 2485, .cells (.b srk13 4096)),
    (pOf 2681, sro15),
    (pOf 2683, .cells (.l [.int .i64 (.ofNat 8), .int .i64 (.ofNat 9)]))]⟩
noncomputable def srm2_1 : ME := ⟨[.ptr none], pOf 4411,
   [],
   [],
   .int .i64 (.ofNat 1), pOf 4411,
   []⟩
noncomputable def sres2 : List ME := [srm2_0, srm2_1]
noncomputable def srf3 : Nat → Option FI := overF srf2 15 (iMemo sres2)
noncomputable def srm3_0 : ME := ⟨[.ptr (some ⟨pOf 1894, 0⟩)], pOf 3209,
   [(pOf 1115, sro16),
    (pOf 1116, .map .i64 (some (.sl)) []),
    (pOf 1117, sro7),
    (pOf 1119, sro9),
    (pOf 1530, .cells (.b srk5 4096)),
    (pOf 1695, .cells (.b srk7 4096)),
    (pOf 2121, .cells (.b (Nat.add srk8 (Nat.shiftLeft srk9 28672)) 4096)),
    (pOf 2304, .cells (.b srk10 4096)),
    (pOf 2321, sro15),
    (pOf 2374, .cells (.l [.int .i64 (.ofNat 8), .int .i64 (.ofNat 9)])),
    (pOf 2439, .cells (.b srk12 4096)),
    (pOf 2485, .cells (.b srk13 4096)),
    (pOf 2683, .cells (.l [.int .i64 (.ofNat 8), .int .i64 (.ofNat 9)])),
    (pOf 2978, .cells (.b (Nat.add srk14 (Nat.shiftLeft srk15 28672)) 4096)),
    (pOf 3184, .cells (.b srk16 4096)),
    (pOf 3201, sro22),
    (pOf 3206, .cells (.l [.int .i64 (.ofNat 4), .int .i64 (.ofNat 6)]))],
   [(pOf 1118, sro19),
    (pOf 1120, sro20),
    (pOf 1894, sro21)],
   .int .i64 (.ofNat 0), pOf 3580,
   [(pOf 1118, .cells (.l [.bool true, .int .i64 (.ofNat 8), .int .i64 (.ofNat 0), .bool false, .bool true, .sl ⟨some ⟨pOf 3405, 0⟩, 4096, 4096, 1⟩, .bool true, .int .i64 (.ofNat 9), .int .i64 (.ofNat 0), .bool false, .bool true, .sl ⟨some ⟨pOf 3492, 0⟩, 4096, 4096, 1⟩, .bool false, .int .i64 (.ofNat 0), .int .i64 (.ofNat 0), .bool false, .bool false, .sl ⟨none, 0, 0, 0⟩, .bool false, .int .i64 (.ofNat 0), .int .i64 (.ofNat 0), .bool false, .bool false, .sl ⟨none, 0, 0, 0⟩, .bool false, .int .i64 (.ofNat 0), .int .i64 (.ofNat 0), .bool false, .bool false, .sl ⟨none, 0, 0, 0⟩, .bool false, .int .i64 (.ofNat 0), .int .i64 (.ofNat 0), .bool false, .bool false, .sl ⟨none, 0, 0, 0⟩, .bool false, .int .i64 (.ofNat 0), .int .i64 (.ofNat 0), .bool false, .bool false, .sl ⟨none, 0, 0, 0⟩, .bool false, .int .i64 (.ofNat 0), .int .i64 (.ofNat 0), .bool false, .bool false, .sl ⟨none, 0, 0, 0⟩])),
    (pOf 1120, .cells (.l [.ptr (some ⟨pOf 1117, 0⟩), .ptr (some ⟨pOf 1119, 0⟩), .int .u64 (.ofNat 3), .int .u64 (.ofNat 64), .int .u64 (.ofNat 8), .int .u64 (.ofNat 9), .int .u64 (.ofNat 3), .int .u64 (.ofNat 2), .int .u64 (.ofNat 3), .int .u64 (.ofNat 1), .int .u64 (.ofNat 0), .sl ⟨some ⟨pOf 3531, 0⟩, 3, 3, 1⟩, .sl ⟨some ⟨pOf 3568, 0⟩, 2, 2, 1⟩, .sl ⟨none, 0, 0, 0⟩, .int .u64 (.ofNat 3), .int .u64 (.ofNat 64), .int .u64 (.ofNat 8), .int .u64 (.ofNat 9), .int .u64 (.ofNat 3), .int .u64 (.ofNat 2), .int .u64 (.ofNat 3), .int .u64 (.ofNat 1), .int .u64 (.ofNat 0), .sl ⟨some ⟨pOf 3572, 0⟩, 3, 3, 1⟩, .sl ⟨some ⟨pOf 3574, 0⟩, 2, 2, 1⟩, .sl ⟨none, 0, 0, 0⟩, .bool false, .int .i64 (.negSucc 0)])),
    (pOf 1894, sro14),
    (pOf 3405, .cells (.b srk12 4096)),
    (pOf 3492, .cells (.b srk13 4096)),
    (pOf 3531, sro15),
    (pOf 3568, .cells (.l [.int .i64 (.ofNat 8), .int .i64 (.ofNat 9)])),
    (pOf 3572, sro15),
    (pOf 3574, .cells (.l [.int .i64 (.ofNat 8), .int .i64 (.ofNat 9)]))]⟩
noncomputable def sres3 : List ME := [srm3_0]
noncomputable def srf4 : Nat → Option FI := overF srf3 33 (iMemo sres3)
noncomputable def srm4_0 : ME := ⟨[.ptr none, .int .i64 (.ofNat 8)], pOf 1027,
   [],
   [],
   .tup [.ptr none, .int .i64 (.ofNat 1)], pOf 1027,
   []⟩
noncomputable def srm4_1 : ME := ⟨[.ptr (some ⟨pOf 1031, 0⟩), .int .i64 (.ofNat 8)], pOf 1032,
   [(pOf 1029, .cells (.b 0 262144)),
    (pOf 1030, .map .i64 (some (.sl)) []),
    (pOf 1031, sro6)],
   [],
   .tup [.ptr none, .int .i64 (.ofNat 4)], pOf 1113,
   []⟩
noncomputable def srm4_2 : ME := ⟨[.ptr (some ⟨pOf 1117, 0⟩), .int .i64 (.ofNat 8)], pOf 3809,
   [(pOf 1115, sro16),
    (pOf 1116, .map .i64 (some (.sl)) []),
    (pOf 1117, sro7)],
   [],
   .tup [.ptr (some ⟨pOf 4181, 0⟩), .int .i64 (.ofNat 0)], pOf 4182,
   [(pOf 3809, .cells (.l [.bool true, .int .i64 (.ofNat 8), .int .i64 (.ofNat 0), .bool false, .bool true, .sl ⟨some ⟨pOf 4006, 0⟩, 4096, 4096, 1⟩, .bool true, .int .i64 (.ofNat 9), .int .i64 (.ofNat 0), .bool false, .bool true, .sl ⟨some ⟨pOf 4093, 0⟩, 4096, 4096, 1⟩, .bool false, .int .i64 (.ofNat 0), .int .i64 (.ofNat 0), .bool false, .bool false, .sl ⟨none, 0, 0, 0⟩, .bool false, .int .i64 (.ofNat 0), .int .i64 (.ofNat 0), .bool false, .bool false, .sl ⟨none, 0, 0, 0⟩, .bool false, .int .i64 (.ofNat 0), .int .i64 (.ofNat 0), .bool false, .bool false, .sl ⟨none, 0, 0, 0⟩, .bool false, .int .i64 (.ofNat 0), .int .i64 (.ofNat 0), .bool false, .bool false, .sl ⟨none, 0, 0, 0⟩, .bool false, .int .i64 (.ofNat 0), .int .i64 (.ofNat 0), .bool false, .bool false, .sl ⟨none, 0, 0, 0⟩, .bool false, .int .i64 (.ofNat 0), .int .i64 (.ofNat 0), .bool false, .bool false, .sl ⟨none, 0, 0, 0⟩])),
    (pOf 3810, .cells (.l [.ptr (some ⟨pOf 1117, 0⟩), .sl ⟨some ⟨pOf 3809, 0⟩, 8, 8, 0⟩, .int .i64 (.ofNat 0)])),
    (pOf 3811, .cells (.l [.ptr (some ⟨pOf 1117, 0⟩), .ptr (some ⟨pOf 3810, 0⟩), .int .u64 (.ofNat 3), .int .u64 (.ofNat 64), .int .u64 (.ofNat 8), .int .u64 (.ofNat 9), .int .u64 (.ofNat 3), .int .u64 (.ofNat 2), .int .u64 (.ofNat 3), .int .u64 (.ofNat 1), .int .u64 (.ofNat 0), .sl ⟨some ⟨pOf 4132, 0⟩, 3, 3, 1⟩, .sl ⟨some ⟨pOf 4169, 0⟩, 2, 2, 1⟩, .sl ⟨none, 0, 0, 0⟩, .int .u64 (.ofNat 3), .int .u64 (.ofNat 64), .int .u64 (.ofNat 8), .int .u64 (.ofNat 9), .int .u64 (.ofNat 3), .int .u64 (.ofNat 2), .int .u64 (.ofNat 3), .int .u64 (.ofNat 1), .int .u64 (.ofNat 0), .sl ⟨some ⟨pOf 4173, 0⟩, 3, 3, 1⟩, .sl ⟨some ⟨pOf 4175, 0⟩, 2, 2, 1⟩, .sl ⟨none, 0, 0, 0⟩, .bool false, .int .i64 (.negSucc 0)])),
    (pOf 4006, .cells (.b srk12 4096)),
    (pOf 4093, .cells (.b srk13 4096)),
    (pOf 4132, sro15),
    (pOf 4169, .cells (.l [.int .i64 (.ofNat 8), .int .i64 (.ofNat 9)])),
    (pOf 4173, sro15),
    (pOf 4175, .cells (.l [.int .i64 (.ofNat 8), .int .i64 (.ofNat 9)])),
    (pOf 4181, .cells (.l [.ptr (some ⟨pOf 3811, 0⟩), .int .i64 (.ofNat 1), .int .i64 (.ofNat 3), .int .u64 (.ofNat 1)]))]⟩
noncomputable def sres4 : List ME := [srm4_0, srm4_1, srm4_2]
noncomputable def srf5 : Nat → Option FI := overF srf4 9 (iMemo sres4)
noncomputable def srm5_0 : ME := ⟨[], pOf 1113,
   [],
   [],
   .bool true, pOf 4410,
   []⟩
noncomputable def sres5 : List ME := [srm5_0]
noncomputable def srf6 : Nat → Option FI := overF srf5 12 (iMemo sres5)
noncomputable def srm6_0 : ME := ⟨[], pOf 0,
   [],
   [],
   .bool true, pOf 4412,
   []⟩
noncomputable def sres6 : List ME := [srm6_0]
noncomputable def srf7 : Nat → Option FI := overF srf6 3 (iMemo sres6)
end Go.XS.Tryz
