/- The tables of a run: the types. -/
import Derived.Test.YtpgpdmbhlpadmaaGreatProg
import Derived.Test.YtpgpdmbhlpadmaaGreatTsS1
import Derived.Test.YtpgpdmbhlpadmaaGreatXsTab
import Derived.Test.YtpgpdmbhlpadmaaGreatXiIns
import Derived.Test.YtpgpdmbhlpadmaaGreatXiBase
import Derived.Test.YtpgpdmbhlpadmaaGreatXsMemo
set_option linter.unusedSimpArgs false
set_option linter.unusedVariables false
namespace Go.XS.Tryz
open Go Go.TS
set_option maxRecDepth 100000
def ti3 : TI := ⟨.int .i64, (Value.int .i64 0), 1, 8, .leaf (.int .i64)⟩
def ti4 : TI := ⟨.bool, (Value.bool false), 1, 1, .leaf (.bool)⟩
def ti5 : TI := ⟨.int .u8, (Value.int .u8 0), 1, 1, .leaf (.int .u8)⟩
def ti9 : TI := ⟨.string, (Value.string ByteArray.empty), 1, 16, .leaf (.str)⟩
def ti22 : TI := ⟨.pointer 91, (Value.pointer none), 1, 8, .leaf (.ptr)⟩
def ti25 : TI := ⟨.int .i64, (Value.int .i64 0), 1, 8, .leaf (.int .i64)⟩
def ti27 : TI := ⟨.slice 5, (Value.slice none 0 0), 1, 24, .leaf (.sl)⟩
def ti28 : TI := ⟨.slice 411, (Value.slice none 0 0), 1, 24, .leaf (.sl)⟩
def ti30 : TI := ⟨.struct #[⟨ "P", 3, 0, false, "", "", 0⟩, ⟨ "Regs", 28, 1, false, "", "", 8⟩], (Value.agg #[(Value.int .i64 0), (Value.slice none 0 0)]), 2, 32, .agg [.int .i64, .sl]⟩
def ti31 : TI := ⟨.slice 32, (Value.slice none 0 0), 1, 24, .leaf (.sl)⟩
def ti32 : TI := ⟨.int .u64, (Value.int .u64 0), 1, 8, .leaf (.int .u64)⟩
def ti34 : TI := ⟨.struct #[⟨ "K", 3, 0, false, "", "", 0⟩, ⟨ "Hashes", 31, 1, false, "", "", 8⟩, ⟨ "Limit", 32, 2, false, "", "", 32⟩], (Value.agg #[(Value.int .i64 0), (Value.slice none 0 0), (Value.int .u64 0)]), 3, 40, .agg [.int .i64, .sl, .int .u64]⟩
def ti36 : TI := ⟨.struct #[⟨ "Kind", 3, 0, false, "", "", 0⟩, ⟨ "Hll", 30, 1, false, "", "", 8⟩, ⟨ "Theta", 34, 3, false, "", "", 40⟩], (Value.agg #[(Value.int .i64 0), (Value.int .i64 0), (Value.slice none 0 0), (Value.int .i64 0), (Value.slice none 0 0), (Value.int .u64 0)]), 6, 80, .agg [.int .i64, .int .i64, .sl, .int .i64, .sl, .int .u64]⟩
def ti42 : TI := ⟨.struct #[⟨ "Page", 3, 0, false, "", "", 0⟩, ⟨ "Slot", 3, 1, false, "", "", 8⟩], (Value.agg #[(Value.int .i64 0), (Value.int .i64 0)]), 2, 16, .agg [.int .i64, .int .i64]⟩
def ti46 : TI := ⟨.slice 3, (Value.slice none 0 0), 1, 24, .leaf (.sl)⟩
def ti49 : TI := ⟨.pointer 200, (Value.pointer none), 1, 8, .leaf (.ptr)⟩
def ti54 : TI := ⟨.struct #[⟨ "Dir", 3, 0, false, "", "", 0⟩, ⟨ "Hint", 3, 1, false, "", "", 8⟩, ⟨ "Count", 32, 2, false, "", "", 16⟩], (Value.agg #[(Value.int .i64 0), (Value.int .i64 0), (Value.int .u64 0)]), 3, 24, .agg [.int .i64, .int .i64, .int .u64]⟩
def ti61 : TI := ⟨.array 4 32, (Value.agg #[(Value.int .u64 0), (Value.int .u64 0), (Value.int .u64 0), (Value.int .u64 0)]), 4, 32, .agg [.int .u64, .int .u64, .int .u64, .int .u64]⟩
def ti64 : TI := ⟨.pointer 277, (Value.pointer none), 1, 8, .leaf (.ptr)⟩
def ti67 : TI := ⟨.slice 42, (Value.slice none 0 0), 1, 24, .leaf (.sl)⟩
def ti68 : TI := ⟨.slice 80, (Value.slice none 0 0), 1, 24, .leaf (.sl)⟩
def ti71 : TI := ⟨.map 3 3, (Value.map none), 1, 8, .leaf (.map)⟩
def ti76 : TI := ⟨.slice 160, (Value.slice none 0 0), 1, 24, .leaf (.sl)⟩
def ti80 : TI := ⟨.struct #[⟨ "Key", 27, 0, false, "", "", 0⟩, ⟨ "Over", 3, 1, false, "", "", 24⟩, ⟨ "Size", 3, 2, false, "", "", 32⟩, ⟨ "Value", 27, 3, false, "", "", 40⟩], (Value.agg #[(Value.slice none 0 0), (Value.int .i64 0), (Value.int .i64 0), (Value.slice none 0 0)]), 4, 64, .agg [.sl, .int .i64, .int .i64, .sl]⟩
def ti86 : TI := ⟨.func #[] #[25] false, .nilFunc, 1, 8, .leaf .any⟩
def ti91 : TI := ⟨.struct #[⟨ "Store", 49, 0, true, "", "", 0⟩, ⟨ "top", 54, 1, false, "", "tallyman/store", 8⟩], (Value.agg #[(Value.pointer none), (Value.int .i64 0), (Value.int .i64 0), (Value.int .u64 0)]), 4, 32, .agg [.ptr, .int .i64, .int .i64, .int .u64]⟩
def ti94 : TI := ⟨.slice 27, (Value.slice none 0 0), 1, 24, .leaf (.sl)⟩
def ti101 : TI := ⟨.func #[3] #[3] false, .nilFunc, 1, 8, .leaf .any⟩
def ti110 : TI := ⟨.struct #[⟨ "Phys", 46, 0, false, "", "", 0⟩], (Value.agg #[(Value.slice none 0 0)]), 1, 24, .agg [.sl]⟩
def ti112 : TI := ⟨.int .u32, (Value.int .u32 0), 1, 4, .leaf (.int .u32)⟩
def ti114 : TI := ⟨.struct #[⟨ "Kind", 3, 0, false, "", "", 0⟩, ⟨ "Number", 112, 1, false, "", "", 8⟩, ⟨ "Body", 27, 2, false, "", "", 16⟩], (Value.agg #[(Value.int .i64 0), (Value.int .u32 0), (Value.slice none 0 0)]), 3, 40, .agg [.int .i64, .int .u32, .sl]⟩
def ti126 : TI := ⟨.pointer 129, (Value.pointer none), 1, 8, .leaf (.ptr)⟩
def ti129 : TI := ⟨.struct #[⟨ "s", 49, 0, false, "", "tallyman/entry", 0⟩, ⟨ "t", 54, 1, false, "", "tallyman/entry", 8⟩, ⟨ "hash", 32, 4, false, "", "tallyman/entry", 32⟩, ⟨ "at", 42, 5, false, "", "tallyman/entry", 40⟩, ⟨ "old", 80, 7, false, "", "tallyman/entry", 56⟩, ⟨ "rec", 27, 11, false, "", "tallyman/entry", 120⟩], (Value.agg #[(Value.pointer none), (Value.int .i64 0), (Value.int .i64 0), (Value.int .u64 0), (Value.int .u64 0), (Value.int .i64 0), (Value.int .i64 0), (Value.slice none 0 0), (Value.int .i64 0), (Value.int .i64 0), (Value.slice none 0 0), (Value.slice none 0 0)]), 12, 144, .agg [.ptr, .int .i64, .int .i64, .int .u64, .int .u64, .int .i64, .int .i64, .sl, .int .i64, .int .i64, .sl, .sl]⟩
def ti135 : TI := ⟨.struct #[⟨ "Hash", 32, 0, false, "", "", 0⟩, ⟨ "Place", 42, 1, false, "", "", 8⟩], (Value.agg #[(Value.int .u64 0), (Value.int .i64 0), (Value.int .i64 0)]), 3, 24, .agg [.int .u64, .int .i64, .int .i64]⟩
def ti143 : TI := ⟨.pointer 148, (Value.pointer none), 1, 8, .leaf (.ptr)⟩
def ti146 : TI := ⟨.slice 150, (Value.slice none 0 0), 1, 24, .leaf (.sl)⟩
def ti148 : TI := ⟨.struct #[⟨ "t", 22, 0, false, "", "tallyman/audit", 0⟩, ⟨ "s", 49, 1, false, "", "tallyman/audit", 8⟩, ⟨ "flaws", 76, 2, false, "", "tallyman/audit", 16⟩, ⟨ "recs", 146, 3, false, "", "tallyman/audit", 40⟩], (Value.agg #[(Value.pointer none), (Value.pointer none), (Value.slice none 0 0), (Value.slice none 0 0)]), 4, 64, .agg [.ptr, .ptr, .sl, .sl]⟩
def ti150 : TI := ⟨.struct #[⟨ "at", 42, 0, false, "", "tallyman/audit", 0⟩, ⟨ "b", 27, 2, false, "", "tallyman/audit", 16⟩], (Value.agg #[(Value.int .i64 0), (Value.int .i64 0), (Value.slice none 0 0)]), 3, 40, .agg [.int .i64, .int .i64, .sl]⟩
def ti154 : TI := ⟨.func #[143] #[4, 25] false, .nilFunc, 1, 8, .leaf .any⟩
def ti156 : TI := ⟨.slice 154, (Value.slice none 0 0), 1, 24, .leaf (.sl)⟩
def ti160 : TI := ⟨.struct #[⟨ "What", 3, 0, false, "", "", 0⟩, ⟨ "Page", 3, 1, false, "", "", 8⟩, ⟨ "Slot", 3, 2, false, "", "", 16⟩], (Value.agg #[(Value.int .i64 0), (Value.int .i64 0), (Value.int .i64 0)]), 3, 24, .agg [.int .i64, .int .i64, .int .i64]⟩
def ti161 : TI := ⟨.array 11 9, (Value.agg #[(Value.string ByteArray.empty), (Value.string ByteArray.empty), (Value.string ByteArray.empty), (Value.string ByteArray.empty), (Value.string ByteArray.empty), (Value.string ByteArray.empty), (Value.string ByteArray.empty), (Value.string ByteArray.empty), (Value.string ByteArray.empty), (Value.string ByteArray.empty), (Value.string ByteArray.empty)]), 11, 176, .agg [.str, .str, .str, .str, .str, .str, .str, .str, .str, .str, .str]⟩
def ti173 : TI := ⟨.pointer 301, (Value.pointer none), 1, 8, .leaf (.ptr)⟩
def ti177 : TI := ⟨.struct #[⟨ "slot", 3, 0, false, "", "tallyman/slots", 0⟩, ⟨ "at", 3, 1, false, "", "tallyman/slots", 8⟩, ⟨ "n", 3, 2, false, "", "tallyman/slots", 16⟩], (Value.agg #[(Value.int .i64 0), (Value.int .i64 0), (Value.int .i64 0)]), 3, 24, .agg [.int .i64, .int .i64, .int .i64]⟩
def ti186 : TI := ⟨.slice 4, (Value.slice none 0 0), 1, 24, .leaf (.sl)⟩
def ti195 : TI := ⟨.struct #[⟨ "Epoch", 32, 0, false, "", "", 0⟩, ⟨ "Pages", 32, 1, false, "", "", 8⟩, ⟨ "Table", 32, 2, false, "", "", 16⟩, ⟨ "Space", 32, 3, false, "", "", 24⟩, ⟨ "Logical", 32, 4, false, "", "", 32⟩, ⟨ "Meta", 61, 5, false, "", "", 40⟩], (Value.agg #[(Value.int .u64 0), (Value.int .u64 0), (Value.int .u64 0), (Value.int .u64 0), (Value.int .u64 0), (Value.int .u64 0), (Value.int .u64 0), (Value.int .u64 0), (Value.int .u64 0)]), 9, 72, .agg [.int .u64, .int .u64, .int .u64, .int .u64, .int .u64, .int .u64, .int .u64, .int .u64, .int .u64]⟩
def ti197 : TI := ⟨.struct #[⟨ "root", 195, 0, false, "", "tallyman/shadow", 0⟩, ⟨ "table", 110, 9, false, "", "tallyman/shadow", 72⟩, ⟨ "own", 46, 10, false, "", "tallyman/shadow", 96⟩, ⟨ "fresh", 46, 11, false, "", "tallyman/shadow", 120⟩], (Value.agg #[(Value.int .u64 0), (Value.int .u64 0), (Value.int .u64 0), (Value.int .u64 0), (Value.int .u64 0), (Value.int .u64 0), (Value.int .u64 0), (Value.int .u64 0), (Value.int .u64 0), (Value.slice none 0 0), (Value.slice none 0 0), (Value.slice none 0 0)]), 12, 144, .agg [.int .u64, .int .u64, .int .u64, .int .u64, .int .u64, .int .u64, .int .u64, .int .u64, .int .u64, .sl, .sl, .sl]⟩
def ti198 : TI := ⟨.pointer 379, (Value.pointer none), 1, 8, .leaf (.ptr)⟩
def ti200 : TI := ⟨.struct #[⟨ "d", 64, 0, false, "", "tallyman/shadow", 0⟩, ⟨ "p", 198, 1, false, "", "tallyman/shadow", 8⟩, ⟨ "kept", 197, 2, false, "", "tallyman/shadow", 16⟩, ⟨ "now", 197, 14, false, "", "tallyman/shadow", 160⟩, ⟨ "broken", 4, 26, false, "", "tallyman/shadow", 304⟩, ⟨ "doubt", 3, 27, false, "", "tallyman/shadow", 312⟩], (Value.agg #[(Value.pointer none), (Value.pointer none), (Value.int .u64 0), (Value.int .u64 0), (Value.int .u64 0), (Value.int .u64 0), (Value.int .u64 0), (Value.int .u64 0), (Value.int .u64 0), (Value.int .u64 0), (Value.int .u64 0), (Value.slice none 0 0), (Value.slice none 0 0), (Value.slice none 0 0), (Value.int .u64 0), (Value.int .u64 0), (Value.int .u64 0), (Value.int .u64 0), (Value.int .u64 0), (Value.int .u64 0), (Value.int .u64 0), (Value.int .u64 0), (Value.int .u64 0), (Value.slice none 0 0), (Value.slice none 0 0), (Value.slice none 0 0), (Value.bool false), (Value.int .i64 0)]), 28, 320, .agg [.ptr, .ptr, .int .u64, .int .u64, .int .u64, .int .u64, .int .u64, .int .u64, .int .u64, .int .u64, .int .u64, .sl, .sl, .sl, .int .u64, .int .u64, .int .u64, .int .u64, .int .u64, .int .u64, .int .u64, .int .u64, .int .u64, .sl, .sl, .sl, .bool, .int .i64]⟩
def ti203 : TI := ⟨.pointer 25, (Value.pointer none), 1, 8, .leaf (.ptr)⟩
def ti219 : TI := ⟨.slice 86, (Value.slice none 0 0), 1, 24, .leaf (.sl)⟩
def ti224 : TI := ⟨.struct #[⟨ "Depth", 3, 0, false, "", "", 0⟩, ⟨ "Buckets", 46, 1, false, "", "", 8⟩], (Value.agg #[(Value.int .i64 0), (Value.slice none 0 0)]), 2, 32, .agg [.int .i64, .sl]⟩
def ti225 : TI := ⟨.slice 233, (Value.slice none 0 0), 1, 24, .leaf (.sl)⟩
def ti227 : TI := ⟨.struct #[⟨ "d", 224, 0, false, "", "tallyman/index", 0⟩, ⟨ "l", 225, 2, false, "", "tallyman/index", 32⟩, ⟨ "pages", 46, 3, false, "", "tallyman/index", 56⟩], (Value.agg #[(Value.int .i64 0), (Value.slice none 0 0), (Value.slice none 0 0), (Value.slice none 0 0)]), 4, 80, .agg [.int .i64, .sl, .sl, .sl]⟩
def ti231 : TI := ⟨.slice 135, (Value.slice none 0 0), 1, 24, .leaf (.sl)⟩
def ti233 : TI := ⟨.struct #[⟨ "Next", 3, 0, false, "", "", 0⟩, ⟨ "Refs", 231, 1, false, "", "", 8⟩], (Value.agg #[(Value.int .i64 0), (Value.slice none 0 0)]), 2, 32, .agg [.int .i64, .sl]⟩
def ti253 : TI := ⟨.pointer 352, (Value.pointer none), 1, 8, .leaf (.ptr)⟩
def ti260 : TI := ⟨.map 42 3, (Value.map none), 1, 8, .leaf (.map)⟩
def ti265 : TI := ⟨.map 9 3, (Value.map none), 1, 8, .leaf (.map)⟩
def ti274 : TI := ⟨.map 3 27, (Value.map none), 1, 8, .leaf (.map)⟩
def ti275 : TI := ⟨.pointer 3, (Value.pointer none), 1, 8, .leaf (.ptr)⟩
def ti277 : TI := ⟨.struct #[⟨ "b", 27, 0, false, "", "tallyman/sector", 0⟩, ⟨ "cache", 274, 1, false, "", "tallyman/sector", 24⟩, ⟨ "order", 46, 2, false, "", "tallyman/sector", 32⟩, ⟨ "left", 275, 3, false, "", "tallyman/sector", 56⟩], (Value.agg #[(Value.slice none 0 0), (Value.map none), (Value.slice none 0 0), (Value.pointer none)]), 4, 64, .agg [.sl, .map, .sl, .ptr]⟩
def ti281 : TI := ⟨.struct #[⟨ "Pages", 3, 0, false, "", "", 0⟩, ⟨ "Used", 186, 1, false, "", "", 8⟩], (Value.agg #[(Value.int .i64 0), (Value.slice none 0 0)]), 2, 32, .agg [.int .i64, .sl]⟩
def ti291 : TI := ⟨.pointer 30, (Value.pointer none), 1, 8, .leaf (.ptr)⟩
def ti293 : TI := ⟨.struct #[⟨ "h", 291, 0, false, "", "tallyman/sketch", 0⟩], (Value.agg #[(Value.pointer none)]), 1, 8, .agg [.ptr]⟩
def ti295 : TI := ⟨.pointer 297, (Value.pointer none), 1, 8, .leaf (.ptr)⟩
def ti297 : TI := ⟨.struct #[⟨ "t", 34, 0, false, "", "tallyman/sketch", 0⟩], (Value.agg #[(Value.int .i64 0), (Value.slice none 0 0), (Value.int .u64 0)]), 3, 40, .agg [.int .i64, .sl, .int .u64]⟩
def ti301 : TI := ⟨.array 4080 5, (Value.agg (Array.replicate 4080 (Value.int .u8 0))), 4080, 4080, .arr 4080⟩
def ti307 : TI := ⟨.pointer 313, (Value.pointer none), 1, 8, .leaf (.ptr)⟩
def ti311 : TI := ⟨.struct #[⟨ "Is", 4, 0, false, "", "", 0⟩, ⟨ "Page", 3, 1, false, "", "", 8⟩, ⟨ "Pins", 3, 2, false, "", "", 16⟩, ⟨ "Dirty", 4, 3, false, "", "", 24⟩, ⟨ "Used", 4, 4, false, "", "", 25⟩], (Value.agg #[(Value.bool false), (Value.int .i64 0), (Value.int .i64 0), (Value.bool false), (Value.bool false)]), 5, 32, .agg [.bool, .int .i64, .int .i64, .bool, .bool]⟩
def ti313 : TI := ⟨.struct #[⟨ "Frame", 311, 0, true, "", "", 0⟩, ⟨ "b", 27, 5, false, "", "tallyman/pool", 32⟩], (Value.agg #[(Value.bool false), (Value.int .i64 0), (Value.int .i64 0), (Value.bool false), (Value.bool false), (Value.slice none 0 0)]), 6, 56, .agg [.bool, .int .i64, .int .i64, .bool, .bool, .sl]⟩
def ti327 : TI := ⟨.int .u64, (Value.int .u64 0), 1, 8, .leaf (.int .u64)⟩
def ti335 : TI := ⟨.func #[233] #[4] false, .nilFunc, 1, 8, .leaf .any⟩
def ti352 : TI := ⟨.struct #[⟨ "b", 27, 0, false, "", "tallyman/octet", 0⟩, ⟨ "at", 3, 1, false, "", "tallyman/octet", 24⟩, ⟨ "err", 25, 2, false, "", "tallyman/octet", 32⟩, ⟨ "is", 4, 3, false, "", "tallyman/octet", 40⟩], (Value.agg #[(Value.slice none 0 0), (Value.int .i64 0), (Value.int .i64 0), (Value.bool false)]), 4, 48, .agg [.sl, .int .i64, .int .i64, .bool]⟩
def ti359 : TI := ⟨.func #[5] #[4] false, .nilFunc, 1, 8, .leaf .any⟩
def ti366 : TI := ⟨.slice 46, (Value.slice none 0 0), 1, 24, .leaf (.sl)⟩
def ti375 : TI := ⟨.slice 311, (Value.slice none 0 0), 1, 24, .leaf (.sl)⟩
def ti377 : TI := ⟨.slice 313, (Value.slice none 0 0), 1, 24, .leaf (.sl)⟩
def ti379 : TI := ⟨.struct #[⟨ "d", 64, 0, false, "", "tallyman/pool", 0⟩, ⟨ "frames", 377, 1, false, "", "tallyman/pool", 8⟩, ⟨ "hand", 3, 2, false, "", "tallyman/pool", 32⟩], (Value.agg #[(Value.pointer none), (Value.slice none 0 0), (Value.int .i64 0)]), 3, 40, .agg [.ptr, .sl, .int .i64]⟩
def ti382 : TI := ⟨.slice 177, (Value.slice none 0 0), 1, 24, .leaf (.sl)⟩
def ti384 : TI := ⟨.map 3 385, (Value.map none), 1, 8, .leaf (.map)⟩
def ti385 : TI := ⟨.struct #[], (Value.agg #[]), 0, 0, .agg []⟩
def ti411 : TI := ⟨.struct #[⟨ "Index", 3, 0, false, "", "", 0⟩, ⟨ "Rank", 3, 1, false, "", "", 8⟩], (Value.agg #[(Value.int .i64 0), (Value.int .i64 0)]), 2, 16, .agg [.int .i64, .int .i64]⟩
def ti415 : TI := ⟨.int .i64, (Value.int .i64 0), 1, 8, .leaf (.int .i64)⟩
def ti426 : TI := ⟨.func #[210] #[] false, .nilFunc, 1, 8, .leaf .any⟩
def ti430 : TI := ⟨.array 9 32, (Value.agg #[(Value.int .u64 0), (Value.int .u64 0), (Value.int .u64 0), (Value.int .u64 0), (Value.int .u64 0), (Value.int .u64 0), (Value.int .u64 0), (Value.int .u64 0), (Value.int .u64 0)]), 9, 72, .agg [.int .u64, .int .u64, .int .u64, .int .u64, .int .u64, .int .u64, .int .u64, .int .u64, .int .u64]⟩
def ti432 : TI := ⟨.func #[177, 177] #[3] false, .nilFunc, 1, 8, .leaf .any⟩
def ti439 : TI := ⟨.int .u64, (Value.int .u64 0), 1, 8, .leaf (.int .u64)⟩
def ti443 : TI := ⟨.array 2 32, (Value.agg #[(Value.int .u64 0), (Value.int .u64 0)]), 2, 16, .agg [.int .u64, .int .u64]⟩
def ti446 : TI := ⟨.array 256 112, (Value.agg (Array.replicate 256 (Value.int .u32 0))), 256, 1024, .arr 256⟩
def tyl : List (Nat × TI) := [(3, ti3), (4, ti4), (5, ti5), (9, ti9), (22, ti22), (25, ti25), (27, ti27), (28, ti28), (30, ti30), (31, ti31), (32, ti32), (34, ti34), (36, ti36), (42, ti42), (46, ti46), (49, ti49), (54, ti54), (61, ti61), (64, ti64), (67, ti67), (68, ti68), (71, ti71), (76, ti76), (80, ti80), (86, ti86), (91, ti91), (94, ti94), (101, ti101), (110, ti110), (112, ti112), (114, ti114), (126, ti126), (129, ti129), (135, ti135), (143, ti143), (146, ti146), (148, ti148), (150, ti150), (154, ti154), (156, ti156), (160, ti160), (161, ti161), (173, ti173), (177, ti177), (186, ti186), (195, ti195), (197, ti197), (198, ti198), (200, ti200), (203, ti203), (219, ti219), (224, ti224), (225, ti225), (227, ti227), (231, ti231), (233, ti233), (253, ti253), (260, ti260), (265, ti265), (274, ti274), (275, ti275), (277, ti277), (281, ti281), (291, ti291), (293, ti293), (295, ti295), (297, ti297), (301, ti301), (307, ti307), (311, ti311), (313, ti313), (327, ti327), (335, ti335), (352, ti352), (359, ti359), (366, ti366), (375, ti375), (377, ti377), (379, ti379), (382, ti382), (384, ti384), (385, ti385), (411, ti411), (415, ti415), (426, ti426), (430, ti430), (432, ti432), (439, ti439), (443, ti443), (446, ti446)]
def mtl : List (String × Nat × Nat) := [("tallyman/sketch.bytes", 293, 416), ("tallyman/sketch.check", 293, 417), ("tallyman/sketch.bytes", 295, 424), ("tallyman/sketch.check", 295, 425)]
def tys : Tys := ⟨trOf tyl, mtT mtl⟩
end Go.XS.Tryz
/- The tables of a run: the functions. -/
namespace Go.XS.Tryz
open Go Go.TS
set_option maxRecDepth 100000
noncomputable def fnl : List (Nat × FI) := [(105, fiOf Go.Proofs.Tryz.f105), (270, fiOf Go.Proofs.Tryz.f270), (172, fiOf Go.Proofs.Tryz.f172), (216, .intr iSectors), (180, fiOf Go.Proofs.Tryz.f180), (290, fiOf Go.Proofs.Tryz.f290), (210, fiOf Go.Proofs.Tryz.f210), (186, fiOf Go.Proofs.Tryz.f186), (106, fiOf Go.Proofs.Tryz.f106), (48, fiOf Go.Proofs.Tryz.f48), (113, fiOf Go.Proofs.Tryz.f113), (73, fiOf Go.Proofs.Tryz.f73), (121, fiOf Go.Proofs.Tryz.f121), (122, fiOf Go.Proofs.Tryz.f122), (55, fiOf Go.Proofs.Tryz.f55), (231, fiOf Go.Proofs.Tryz.f231), (229, fiOf Go.Proofs.Tryz.f229), (98, fiOf Go.Proofs.Tryz.f98), (156, fiOf Go.Proofs.Tryz.f156), (213, .intr iRdWord), (230, fiOf Go.Proofs.Tryz.f230), (232, fiOf Go.Proofs.Tryz.f232), (233, fiOf Go.Proofs.Tryz.f233), (133, fiOf Go.Proofs.Tryz.f133), (60, fiOf Go.Proofs.Tryz.f60), (114, fiOf Go.Proofs.Tryz.f114), (115, fiOf Go.Proofs.Tryz.f115), (211, fiOf Go.Proofs.Tryz.f211), (291, fiOf Go.Proofs.Tryz.f291), (292, fiOf Go.Proofs.Tryz.f292), (218, fiOf Go.Proofs.Tryz.f218), (219, fiOf Go.Proofs.Tryz.f219), (282, fiOf Go.Proofs.Tryz.f282), (283, fiOf Go.Proofs.Tryz.f283), (220, fiOf Go.Proofs.Tryz.f220), (120, fiOf Go.Proofs.Tryz.f120), (339, fiOf Go.Proofs.Tryz.f339), (293, fiOf Go.Proofs.Tryz.f293), (284, fiOf Go.Proofs.Tryz.f284), (343, fiOf Go.Proofs.Tryz.f343), (294, fiOf Go.Proofs.Tryz.f294), (212, fiOf Go.Proofs.Tryz.f212), (116, fiOf Go.Proofs.Tryz.f116), (130, .intr iWord), (344, .intr iParts), (295, fiOf Go.Proofs.Tryz.f295), (214, fiOf Go.Proofs.Tryz.f214), (215, fiOf Go.Proofs.Tryz.f215), (117, fiOf Go.Proofs.Tryz.f117), (118, fiOf Go.Proofs.Tryz.f118), (51, fiOf Go.Proofs.Tryz.f51), (316, .intr (iZeros 264)), (263, fiOf Go.Proofs.Tryz.f263), (264, fiOf Go.Proofs.Tryz.f264), (271, fiOf Go.Proofs.Tryz.f271), (245, fiOf Go.Proofs.Tryz.f245), (253, fiOf Go.Proofs.Tryz.f253), (244, fiOf Go.Proofs.Tryz.f244), (260, fiOf Go.Proofs.Tryz.f260), (261, fiOf Go.Proofs.Tryz.f261), (265, fiOf Go.Proofs.Tryz.f265), (165, fiOf Go.Proofs.Tryz.f165), (174, fiOf Go.Proofs.Tryz.f174), (262, .intr iBRead), (318, fiOf Go.Proofs.Tryz.f318), (317, fiOf Go.Proofs.Tryz.f317), (266, fiOf Go.Proofs.Tryz.f266), (167, fiOf Go.Proofs.Tryz.f167), (319, fiOf Go.Proofs.Tryz.f319), (267, fiOf Go.Proofs.Tryz.f267), (168, fiOf Go.Proofs.Tryz.f168), (138, fiOf Go.Proofs.Tryz.f138), (239, fiOf Go.Proofs.Tryz.f239), (346, fiOf Go.Proofs.Tryz.f346), (366, fiOf Go.Proofs.Tryz.f366), (347, fiOf Go.Proofs.Tryz.f347), (345, fiOf Go.Proofs.Tryz.f345), (348, fiOf Go.Proofs.Tryz.f348), (301, fiOf Go.Proofs.Tryz.f301), (238, fiOf Go.Proofs.Tryz.f238), (221, fiOf Go.Proofs.Tryz.f221), (123, fiOf Go.Proofs.Tryz.f123), (126, fiOf Go.Proofs.Tryz.f126), (132, fiOf Go.Proofs.Tryz.f132), (256, fiOf Go.Proofs.Tryz.f256), (258, fiOf Go.Proofs.Tryz.f258), (159, fiOf Go.Proofs.Tryz.f159), (257, fiOf Go.Proofs.Tryz.f257), (157, fiOf Go.Proofs.Tryz.f157), (259, fiOf Go.Proofs.Tryz.f259), (158, fiOf Go.Proofs.Tryz.f158), (160, fiOf Go.Proofs.Tryz.f160), (79, fiOf Go.Proofs.Tryz.f79), (197, fiOf Go.Proofs.Tryz.f197), (95, fiOf Go.Proofs.Tryz.f95), (96, fiOf Go.Proofs.Tryz.f96), (199, fiOf Go.Proofs.Tryz.f199), (200, fiOf Go.Proofs.Tryz.f200), (287, .intr iNoughts), (331, fiOf Go.Proofs.Tryz.f331), (332, fiOf Go.Proofs.Tryz.f332), (273, fiOf Go.Proofs.Tryz.f273), (383, fiOf Go.Proofs.Tryz.f383), (395, fiOf Go.Proofs.Tryz.f395), (384, fiOf Go.Proofs.Tryz.f384), (356, fiOf Go.Proofs.Tryz.f356), (357, fiOf Go.Proofs.Tryz.f357), (385, fiOf Go.Proofs.Tryz.f385), (399, fiOf Go.Proofs.Tryz.f399), (397, fiOf Go.Proofs.Tryz.f397), (396, fiOf Go.Proofs.Tryz.f396), (386, fiOf Go.Proofs.Tryz.f386), (387, fiOf Go.Proofs.Tryz.f387), (388, fiOf Go.Proofs.Tryz.f388), (389, fiOf Go.Proofs.Tryz.f389), (390, fiOf Go.Proofs.Tryz.f390), (363, fiOf Go.Proofs.Tryz.f363), (341, fiOf Go.Proofs.Tryz.f341), (342, fiOf Go.Proofs.Tryz.f342), (288, fiOf Go.Proofs.Tryz.f288), (196, fiOf Go.Proofs.Tryz.f196), (94, fiOf Go.Proofs.Tryz.f94), (97, fiOf Go.Proofs.Tryz.f97), (44, fiOf Go.Proofs.Tryz.f44), (93, fiOf Go.Proofs.Tryz.f93), (205, fiOf Go.Proofs.Tryz.f205), (107, fiOf Go.Proofs.Tryz.f107), (124, fiOf Go.Proofs.Tryz.f124), (125, fiOf Go.Proofs.Tryz.f125), (56, fiOf Go.Proofs.Tryz.f56), (223, fiOf Go.Proofs.Tryz.f223), (222, fiOf Go.Proofs.Tryz.f222), (127, fiOf Go.Proofs.Tryz.f127), (57, fiOf Go.Proofs.Tryz.f57), (178, fiOf Go.Proofs.Tryz.f178), (185, fiOf Go.Proofs.Tryz.f185), (209, fiOf Go.Proofs.Tryz.f209), (297, fiOf Go.Proofs.Tryz.f297), (298, fiOf Go.Proofs.Tryz.f298), (225, fiOf Go.Proofs.Tryz.f225), (274, fiOf Go.Proofs.Tryz.f274), (296, fiOf Go.Proofs.Tryz.f296), (333, fiOf Go.Proofs.Tryz.f333), (275, fiOf Go.Proofs.Tryz.f275), (276, .intr iInsert), (179, fiOf Go.Proofs.Tryz.f179), (86, fiOf Go.Proofs.Tryz.f86), (224, fiOf Go.Proofs.Tryz.f224), (226, .intr iDelete), (227, fiOf Go.Proofs.Tryz.f227), (129, fiOf Go.Proofs.Tryz.f129), (128, fiOf Go.Proofs.Tryz.f128), (58, fiOf Go.Proofs.Tryz.f58), (131, fiOf Go.Proofs.Tryz.f131), (59, fiOf Go.Proofs.Tryz.f59), (61, fiOf Go.Proofs.Tryz.f61), (62, fiOf Go.Proofs.Tryz.f62), (63, fiOf Go.Proofs.Tryz.f63), (101, fiOf Go.Proofs.Tryz.f101), (198, fiOf Go.Proofs.Tryz.f198), (99, fiOf Go.Proofs.Tryz.f99), (45, fiOf Go.Proofs.Tryz.f45), (100, fiOf Go.Proofs.Tryz.f100), (202, fiOf Go.Proofs.Tryz.f202), (203, fiOf Go.Proofs.Tryz.f203), (201, fiOf Go.Proofs.Tryz.f201), (102, fiOf Go.Proofs.Tryz.f102), (103, fiOf Go.Proofs.Tryz.f103), (46, fiOf Go.Proofs.Tryz.f46), (206, fiOf Go.Proofs.Tryz.f206), (207, fiOf Go.Proofs.Tryz.f207), (108, fiOf Go.Proofs.Tryz.f108), (66, fiOf Go.Proofs.Tryz.f66), (42, fiOf Go.Proofs.Tryz.f42), (289, fiOf Go.Proofs.Tryz.f289), (208, fiOf Go.Proofs.Tryz.f208), (111, fiOf Go.Proofs.Tryz.f111), (70, fiOf Go.Proofs.Tryz.f70), (234, fiOf Go.Proofs.Tryz.f234), (134, fiOf Go.Proofs.Tryz.f134), (69, fiOf Go.Proofs.Tryz.f69), (302, fiOf Go.Proofs.Tryz.f302), (303, fiOf Go.Proofs.Tryz.f303), (240, fiOf Go.Proofs.Tryz.f240), (241, .intr iInsertR), (242, fiOf Go.Proofs.Tryz.f242), (140, fiOf Go.Proofs.Tryz.f140), (137, fiOf Go.Proofs.Tryz.f137), (235, fiOf Go.Proofs.Tryz.f235), (300, fiOf Go.Proofs.Tryz.f300), (237, fiOf Go.Proofs.Tryz.f237), (236, fiOf Go.Proofs.Tryz.f236), (139, fiOf Go.Proofs.Tryz.f139), (243, fiOf Go.Proofs.Tryz.f243), (141, fiOf Go.Proofs.Tryz.f141), (249, .intr iDelR), (145, fiOf Go.Proofs.Tryz.f145), (109, fiOf Go.Proofs.Tryz.f109), (135, fiOf Go.Proofs.Tryz.f135), (64, fiOf Go.Proofs.Tryz.f64), (150, fiOf Go.Proofs.Tryz.f150), (136, fiOf Go.Proofs.Tryz.f136), (65, fiOf Go.Proofs.Tryz.f65), (142, fiOf Go.Proofs.Tryz.f142), (147, fiOf Go.Proofs.Tryz.f147), (143, fiOf Go.Proofs.Tryz.f143), (246, fiOf Go.Proofs.Tryz.f246), (368, fiOf Go.Proofs.Tryz.f368), (369, fiOf Go.Proofs.Tryz.f369), (350, fiOf Go.Proofs.Tryz.f350), (306, fiOf Go.Proofs.Tryz.f306), (307, fiOf Go.Proofs.Tryz.f307), (247, fiOf Go.Proofs.Tryz.f247), (149, fiOf Go.Proofs.Tryz.f149), (248, fiOf Go.Proofs.Tryz.f248), (144, fiOf Go.Proofs.Tryz.f144), (68, fiOf Go.Proofs.Tryz.f68), (67, fiOf Go.Proofs.Tryz.f67), (18, fiOf Go.Proofs.Tryz.f18), (34, fiOf Go.Proofs.Tryz.f34), (192, fiOf Go.Proofs.Tryz.f192), (193, fiOf Go.Proofs.Tryz.f193), (379, fiOf Go.Proofs.Tryz.f379), (417, fiOf Go.Proofs.Tryz.f417), (322, fiOf Go.Proofs.Tryz.f322), (425, fiOf Go.Proofs.Tryz.f425), (90, fiOf Go.Proofs.Tryz.f90), (353, fiOf Go.Proofs.Tryz.f353), (380, fiOf Go.Proofs.Tryz.f380), (354, fiOf Go.Proofs.Tryz.f354), (321, fiOf Go.Proofs.Tryz.f321), (416, fiOf Go.Proofs.Tryz.f416), (431, fiOf Go.Proofs.Tryz.f431), (424, fiOf Go.Proofs.Tryz.f424), (35, fiOf Go.Proofs.Tryz.f35), (36, fiOf Go.Proofs.Tryz.f36), (7, fiOf Go.Proofs.Tryz.f7), (88, fiOf Go.Proofs.Tryz.f88), (32, fiOf Go.Proofs.Tryz.f32), (21, fiOf Go.Proofs.Tryz.f21), (148, fiOf Go.Proofs.Tryz.f148), (74, fiOf Go.Proofs.Tryz.f74), (22, fiOf Go.Proofs.Tryz.f22), (112, fiOf Go.Proofs.Tryz.f112), (181, fiOf Go.Proofs.Tryz.f181), (182, fiOf Go.Proofs.Tryz.f182), (277, fiOf Go.Proofs.Tryz.f277), (183, fiOf Go.Proofs.Tryz.f183), (184, fiOf Go.Proofs.Tryz.f184), (336, fiOf Go.Proofs.Tryz.f336), (361, fiOf Go.Proofs.Tryz.f361), (337, fiOf Go.Proofs.Tryz.f337), (362, fiOf Go.Proofs.Tryz.f362), (338, fiOf Go.Proofs.Tryz.f338), (278, fiOf Go.Proofs.Tryz.f278), (279, fiOf Go.Proofs.Tryz.f279), (187, fiOf Go.Proofs.Tryz.f187), (191, .intr iFlush), (280, fiOf Go.Proofs.Tryz.f280), (188, fiOf Go.Proofs.Tryz.f188), (189, fiOf Go.Proofs.Tryz.f189), (340, fiOf Go.Proofs.Tryz.f340), (281, fiOf Go.Proofs.Tryz.f281), (190, fiOf Go.Proofs.Tryz.f190), (89, fiOf Go.Proofs.Tryz.f89), (217, fiOf Go.Proofs.Tryz.f217), (119, fiOf Go.Proofs.Tryz.f119), (54, fiOf Go.Proofs.Tryz.f54), (33, fiOf Go.Proofs.Tryz.f33), (24, fiOf Go.Proofs.Tryz.f24), (194, fiOf Go.Proofs.Tryz.f194), (91, fiOf Go.Proofs.Tryz.f91), (285, fiOf Go.Proofs.Tryz.f285), (286, fiOf Go.Proofs.Tryz.f286), (195, fiOf Go.Proofs.Tryz.f195), (92, fiOf Go.Proofs.Tryz.f92), (37, fiOf Go.Proofs.Tryz.f37), (25, fiOf Go.Proofs.Tryz.f25), (14, fiOf Go.Proofs.Tryz.f14), (50, fiOf Go.Proofs.Tryz.f50), (154, fiOf Go.Proofs.Tryz.f154), (155, fiOf Go.Proofs.Tryz.f155), (78, fiOf Go.Proofs.Tryz.f78), (26, fiOf Go.Proofs.Tryz.f26), (13, fiOf Go.Proofs.Tryz.f13), (110, fiOf Go.Proofs.Tryz.f110), (161, fiOf Go.Proofs.Tryz.f161), (323, fiOf Go.Proofs.Tryz.f323), (355, fiOf Go.Proofs.Tryz.f355), (324, fiOf Go.Proofs.Tryz.f324), (325, fiOf Go.Proofs.Tryz.f325), (381, fiOf Go.Proofs.Tryz.f381), (359, fiOf Go.Proofs.Tryz.f359), (358, fiOf Go.Proofs.Tryz.f358), (326, fiOf Go.Proofs.Tryz.f326), (327, fiOf Go.Proofs.Tryz.f327), (328, fiOf Go.Proofs.Tryz.f328), (329, fiOf Go.Proofs.Tryz.f329), (330, fiOf Go.Proofs.Tryz.f330), (272, fiOf Go.Proofs.Tryz.f272), (175, fiOf Go.Proofs.Tryz.f175), (176, fiOf Go.Proofs.Tryz.f176), (166, fiOf Go.Proofs.Tryz.f166), (162, fiOf Go.Proofs.Tryz.f162), (80, fiOf Go.Proofs.Tryz.f80), (27, fiOf Go.Proofs.Tryz.f27), (163, fiOf Go.Proofs.Tryz.f163), (164, fiOf Go.Proofs.Tryz.f164), (81, fiOf Go.Proofs.Tryz.f81), (82, fiOf Go.Proofs.Tryz.f82), (83, fiOf Go.Proofs.Tryz.f83), (151, fiOf Go.Proofs.Tryz.f151), (169, fiOf Go.Proofs.Tryz.f169), (315, fiOf Go.Proofs.Tryz.f315), (320, fiOf Go.Proofs.Tryz.f320), (268, fiOf Go.Proofs.Tryz.f268), (269, fiOf Go.Proofs.Tryz.f269), (170, fiOf Go.Proofs.Tryz.f170), (84, fiOf Go.Proofs.Tryz.f84), (171, fiOf Go.Proofs.Tryz.f171), (173, fiOf Go.Proofs.Tryz.f173), (177, fiOf Go.Proofs.Tryz.f177), (85, fiOf Go.Proofs.Tryz.f85), (29, fiOf Go.Proofs.Tryz.f29), (28, fiOf Go.Proofs.Tryz.f28), (87, fiOf Go.Proofs.Tryz.f87), (30, fiOf Go.Proofs.Tryz.f30), (31, fiOf Go.Proofs.Tryz.f31), (5, fiOf Go.Proofs.Tryz.f5)]
noncomputable def fnt : PT FI := fnTree fnl
noncomputable def fns : Nat → Option FI := fnGet fnt
def n_tallymanlaw27_AuditNames : Nat := 5
end Go.XS.Tryz
/- Calls of a closed run: the calls. -/
namespace Go.XS.Tryz
open Go Go.TS
set_option maxRecDepth 100000
set_option linter.unusedVariables false
def ank0 : Nat := 0x20000000000000002000000000000000700000000000000060000000000000050000000000000000248fcd385000000000000000201014d54
def ank1 : Nat := 0x3000000000000000200000000000000500000000000000001c81399e7000000000000000101014d54
def ank2 : Nat := 0x100000000c08c10d8000000000000000002014d54
def ank3 : Nat := 0xf00000050000e00000000410fa632000000000000000003014d54
def ank4 : Nat := 0xa5ced327000000000000000005014d54
def ank5 : Nat := 0xca1cb84c000000000000000104014d54
def ank6 : Nat := 0x50402000300000000c6708a2a000000000000000002014d54
def ank7 : Nat := 0xf300000050000e00000000d6ba4bad000000000000000003014d54
def ank8 : Nat := 0x280fc80fc8000178456a4c000000000000000206014d54
def ank9 : Nat := 0x700000000000000040000000000000001032080022400610100000000000000000000000000000000000000000000000000000000000000000000000000000000000000000000000000000000000000000000000000000000000000000000000000000000000000000000000000000000000000000000000000000000000000000000000000000000000000000000000000000000000000000000000000000000000000000000000000000000000000000000000000000000000000000000000000000000000000000000000000000000000000000000000000000000000000000000000000000000000000000000000000000000000000000000000000000000000000000000000000000000000000000000000000000000000000000000000000000000000000000000000000000000000000000000000000000000000000000000000000000000000000000000000000000000000000000000000000000000000000000000000000000000000000000000000000000000000000000000000000000000000000000000000000000000000000000000000000000000000000000000000000000000000000000000000000000000000000000000000000000000000000000000000000000000000000000000000000000000000000000000000000000000000000000000000000000000
def ank10 : Nat := 0x2d24ec4f1a98c6e5b0001000000008c84fe08000000000000000005014d54
def ank11 : Nat := 0x7a6a05f1000000000000000207014d54
noncomputable def ano0 : AO := .cells (.l [.sl ⟨some ⟨pOf 2, 0⟩, 327680, 327680, 1⟩, .map (some (pOf 3)), .sl ⟨none, 0, 0, 0⟩, .ptr none])
noncomputable def ano1 : AO := .cells (.b (Nat.add (Nat.add (Nat.add (Nat.add (Nat.add (Nat.add (Nat.add ank0 (Nat.shiftLeft ank1 32768)) (Nat.shiftLeft ank2 65536)) (Nat.shiftLeft ank3 98304)) (Nat.shiftLeft ank4 131072)) (Nat.shiftLeft ank5 163840)) (Nat.shiftLeft ank6 196608)) (Nat.shiftLeft ank7 229376)) 327680)
noncomputable def ano2 : AO := .cells (.l [.bool true, .int .i64 (.ofNat 2), .int .i64 (.ofNat 0), .bool false, .bool true, .sl ⟨some ⟨pOf 158, 0⟩, 4096, 4096, 1⟩, .bool true, .int .i64 (.ofNat 3), .int .i64 (.ofNat 0), .bool false, .bool true, .sl ⟨some ⟨pOf 204, 0⟩, 4096, 4096, 1⟩, .bool true, .int .i64 (.ofNat 4), .int .i64 (.ofNat 0), .bool false, .bool true, .sl ⟨some ⟨pOf 368, 0⟩, 4096, 4096, 1⟩, .bool true, .int .i64 (.ofNat 5), .int .i64 (.ofNat 0), .bool false, .bool true, .sl ⟨some ⟨pOf 417, 0⟩, 4096, 4096, 1⟩, .bool true, .int .i64 (.ofNat 6), .int .i64 (.ofNat 0), .bool false, .bool true, .sl ⟨some ⟨pOf 536, 0⟩, 4096, 4096, 1⟩, .bool true, .int .i64 (.ofNat 7), .int .i64 (.ofNat 0), .bool false, .bool true, .sl ⟨some ⟨pOf 582, 0⟩, 4096, 4096, 1⟩, .bool false, .int .i64 (.ofNat 0), .int .i64 (.ofNat 0), .bool false, .bool false, .sl ⟨none, 0, 0, 0⟩, .bool false, .int .i64 (.ofNat 0), .int .i64 (.ofNat 0), .bool false, .bool false, .sl ⟨none, 0, 0, 0⟩])
noncomputable def ano3 : AO := .cells (.l [.ptr (some ⟨pOf 4, 0⟩), .sl ⟨some ⟨pOf 5, 0⟩, 8, 8, 0⟩, .int .i64 (.ofNat 0)])
noncomputable def ano4 : AO := .cells (.l [.ptr (some ⟨pOf 4, 0⟩), .ptr (some ⟨pOf 6, 0⟩), .int .u64 (.ofNat 2), .int .u64 (.ofNat 80), .int .u64 (.ofNat 6), .int .u64 (.ofNat 7), .int .u64 (.ofNat 2), .int .u64 (.ofNat 2), .int .u64 (.ofNat 0), .int .u64 (.ofNat 0), .int .u64 (.ofNat 0), .sl ⟨some ⟨pOf 432, 0⟩, 2, 2, 1⟩, .sl ⟨some ⟨pOf 474, 0⟩, 2, 2, 1⟩, .sl ⟨none, 0, 0, 0⟩, .int .u64 (.ofNat 2), .int .u64 (.ofNat 80), .int .u64 (.ofNat 6), .int .u64 (.ofNat 7), .int .u64 (.ofNat 2), .int .u64 (.ofNat 2), .int .u64 (.ofNat 0), .int .u64 (.ofNat 0), .int .u64 (.ofNat 0), .sl ⟨some ⟨pOf 778, 0⟩, 2, 2, 1⟩, .sl ⟨some ⟨pOf 780, 0⟩, 2, 2, 1⟩, .sl ⟨none, 0, 0, 0⟩, .bool false, .int .i64 (.negSucc 0)])
noncomputable def ano5 : AO := .cells (.l [.ptr (some ⟨pOf 7, 0⟩), .int .i64 (.ofNat 1), .int .i64 (.ofNat 0), .int .u64 (.ofNat 0)])
noncomputable def ano6 : AO := .cells (.l [.sl ⟨some ⟨pOf 2495, 0⟩, 327680, 327680, 1⟩, .map (some (pOf 2496)), .sl ⟨none, 0, 0, 0⟩, .ptr none])
noncomputable def ano7 : AO := .cells (.l [.bool true, .int .i64 (.ofNat 2), .int .i64 (.ofNat 0), .bool false, .bool true, .sl ⟨some ⟨pOf 2651, 0⟩, 4096, 4096, 1⟩, .bool true, .int .i64 (.ofNat 3), .int .i64 (.ofNat 0), .bool false, .bool true, .sl ⟨some ⟨pOf 2697, 0⟩, 4096, 4096, 1⟩, .bool true, .int .i64 (.ofNat 4), .int .i64 (.ofNat 0), .bool false, .bool true, .sl ⟨some ⟨pOf 2861, 0⟩, 4096, 4096, 1⟩, .bool true, .int .i64 (.ofNat 5), .int .i64 (.ofNat 0), .bool false, .bool true, .sl ⟨some ⟨pOf 2910, 0⟩, 4096, 4096, 1⟩, .bool true, .int .i64 (.ofNat 6), .int .i64 (.ofNat 0), .bool false, .bool true, .sl ⟨some ⟨pOf 3029, 0⟩, 4096, 4096, 1⟩, .bool true, .int .i64 (.ofNat 7), .int .i64 (.ofNat 0), .bool false, .bool true, .sl ⟨some ⟨pOf 3075, 0⟩, 4096, 4096, 1⟩, .bool false, .int .i64 (.ofNat 0), .int .i64 (.ofNat 0), .bool false, .bool false, .sl ⟨none, 0, 0, 0⟩, .bool false, .int .i64 (.ofNat 0), .int .i64 (.ofNat 0), .bool false, .bool false, .sl ⟨none, 0, 0, 0⟩])
noncomputable def ano8 : AO := .cells (.l [.ptr (some ⟨pOf 2497, 0⟩), .sl ⟨some ⟨pOf 2498, 0⟩, 8, 8, 0⟩, .int .i64 (.ofNat 0)])
noncomputable def ano9 : AO := .cells (.l [.ptr (some ⟨pOf 2497, 0⟩), .ptr (some ⟨pOf 2499, 0⟩), .int .u64 (.ofNat 2), .int .u64 (.ofNat 80), .int .u64 (.ofNat 6), .int .u64 (.ofNat 7), .int .u64 (.ofNat 2), .int .u64 (.ofNat 2), .int .u64 (.ofNat 0), .int .u64 (.ofNat 0), .int .u64 (.ofNat 0), .sl ⟨some ⟨pOf 2925, 0⟩, 2, 2, 1⟩, .sl ⟨some ⟨pOf 2967, 0⟩, 2, 2, 1⟩, .sl ⟨none, 0, 0, 0⟩, .int .u64 (.ofNat 2), .int .u64 (.ofNat 80), .int .u64 (.ofNat 6), .int .u64 (.ofNat 7), .int .u64 (.ofNat 2), .int .u64 (.ofNat 2), .int .u64 (.ofNat 0), .int .u64 (.ofNat 0), .int .u64 (.ofNat 0), .sl ⟨some ⟨pOf 3271, 0⟩, 2, 2, 1⟩, .sl ⟨some ⟨pOf 3273, 0⟩, 2, 2, 1⟩, .sl ⟨none, 0, 0, 0⟩, .bool false, .int .i64 (.negSucc 0)])
noncomputable def ano10 : AO := .cells (.l [.ptr (some ⟨pOf 2500, 0⟩), .int .i64 (.ofNat 1), .int .i64 (.ofNat 0), .int .u64 (.ofNat 0)])
noncomputable def ano11 : AO := .cells (.l [.bool true, .int .i64 (.ofNat 2), .int .i64 (.ofNat 0), .bool true, .bool true, .sl ⟨some ⟨pOf 1023, 0⟩, 4096, 4096, 1⟩, .bool true, .int .i64 (.ofNat 3), .int .i64 (.ofNat 0), .bool true, .bool true, .sl ⟨some ⟨pOf 1206, 0⟩, 4096, 4096, 1⟩, .bool true, .int .i64 (.ofNat 4), .int .i64 (.ofNat 0), .bool false, .bool true, .sl ⟨some ⟨pOf 368, 0⟩, 4096, 4096, 1⟩, .bool true, .int .i64 (.ofNat 5), .int .i64 (.ofNat 0), .bool false, .bool true, .sl ⟨some ⟨pOf 417, 0⟩, 4096, 4096, 1⟩, .bool true, .int .i64 (.ofNat 6), .int .i64 (.ofNat 0), .bool false, .bool true, .sl ⟨some ⟨pOf 536, 0⟩, 4096, 4096, 1⟩, .bool true, .int .i64 (.ofNat 7), .int .i64 (.ofNat 0), .bool false, .bool true, .sl ⟨some ⟨pOf 582, 0⟩, 4096, 4096, 1⟩, .bool false, .int .i64 (.ofNat 0), .int .i64 (.ofNat 0), .bool false, .bool false, .sl ⟨none, 0, 0, 0⟩, .bool false, .int .i64 (.ofNat 0), .int .i64 (.ofNat 0), .bool false, .bool false, .sl ⟨none, 0, 0, 0⟩])
noncomputable def ano12 : AO := .cells (.l [.ptr (some ⟨pOf 4, 0⟩), .ptr (some ⟨pOf 6, 0⟩), .int .u64 (.ofNat 2), .int .u64 (.ofNat 80), .int .u64 (.ofNat 6), .int .u64 (.ofNat 7), .int .u64 (.ofNat 2), .int .u64 (.ofNat 2), .int .u64 (.ofNat 0), .int .u64 (.ofNat 0), .int .u64 (.ofNat 0), .sl ⟨some ⟨pOf 432, 0⟩, 2, 2, 1⟩, .sl ⟨some ⟨pOf 474, 0⟩, 2, 2, 1⟩, .sl ⟨none, 0, 0, 0⟩, .int .u64 (.ofNat 2), .int .u64 (.ofNat 80), .int .u64 (.ofNat 6), .int .u64 (.ofNat 7), .int .u64 (.ofNat 2), .int .u64 (.ofNat 2), .int .u64 (.ofNat 0), .int .u64 (.ofNat 0), .int .u64 (.ofNat 0), .sl ⟨some ⟨pOf 1223, 0⟩, 3, 3, 1⟩, .sl ⟨some ⟨pOf 780, 0⟩, 2, 2, 1⟩, .sl ⟨some ⟨pOf 1228, 0⟩, 2, 2, 1⟩, .bool false, .int .i64 (.negSucc 0)])
noncomputable def ano13 : AO := .cells (.l [.ptr (some ⟨pOf 7, 0⟩), .int .i64 (.ofNat 1), .int .i64 (.ofNat 3), .int .u64 (.ofNat 1)])
noncomputable def ano14 : AO := .cells (.l [.int .i64 (.ofNat 3), .int .i64 (.ofNat 5), .int .i64 (.ofNat 2)])
noncomputable def anm0_0 : ME := ⟨[.ptr (some ⟨pOf 4, 0⟩), .int .i64 (.ofNat 8)], pOf 5,
   [(pOf 3, .map .i64 (some (.sl)) []),
    (pOf 4, ano0)],
   [(pOf 2, .cells (.b 0 327680))],
   .tup [.ptr (some ⟨pOf 781, 0⟩), .int .i64 (.ofNat 0)], pOf 782,
   [(pOf 2, ano1),
    (pOf 5, ano2),
    (pOf 6, ano3),
    (pOf 7, ano4),
    (pOf 158, .cells (.b ank2 4096)),
    (pOf 204, .cells (.b ank3 4096)),
    (pOf 368, .cells (.b ank4 4096)),
    (pOf 417, .cells (.b ank5 4096)),
    (pOf 432, .cells (.l [.int .i64 (.ofNat 4), .int .i64 (.ofNat 5)])),
    (pOf 474, .cells (.l [.int .i64 (.ofNat 6), .int .i64 (.ofNat 7)])),
    (pOf 536, .cells (.b ank6 4096)),
    (pOf 582, .cells (.b ank7 4096)),
    (pOf 778, .cells (.l [.int .i64 (.ofNat 4), .int .i64 (.ofNat 5)])),
    (pOf 780, .cells (.l [.int .i64 (.ofNat 6), .int .i64 (.ofNat 7)])),
    (pOf 781, ano5)]⟩
noncomputable def anm0_1 : ME := ⟨[.ptr (some ⟨pOf 2497, 0⟩), .int .i64 (.ofNat 8)], pOf 2498,
   [(pOf 2496, .map .i64 (some (.sl)) []),
    (pOf 2497, ano6)],
   [(pOf 2495, .cells (.b 0 327680))],
   .tup [.ptr (some ⟨pOf 3274, 0⟩), .int .i64 (.ofNat 0)], pOf 3275,
   [(pOf 2495, ano1),
    (pOf 2498, ano7),
    (pOf 2499, ano8),
    (pOf 2500, ano9),
    (pOf 2651, .cells (.b ank2 4096)),
    (pOf 2697, .cells (.b ank3 4096)),
    (pOf 2861, .cells (.b ank4 4096)),
    (pOf 2910, .cells (.b ank5 4096)),
    (pOf 2925, .cells (.l [.int .i64 (.ofNat 4), .int .i64 (.ofNat 5)])),
    (pOf 2967, .cells (.l [.int .i64 (.ofNat 6), .int .i64 (.ofNat 7)])),
    (pOf 3029, .cells (.b ank6 4096)),
    (pOf 3075, .cells (.b ank7 4096)),
    (pOf 3271, .cells (.l [.int .i64 (.ofNat 4), .int .i64 (.ofNat 5)])),
    (pOf 3273, .cells (.l [.int .i64 (.ofNat 6), .int .i64 (.ofNat 7)])),
    (pOf 3274, ano10)]⟩
noncomputable def anes0 : List ME := [anm0_0, anm0_1]
noncomputable def anf1 : Nat → Option FI := overF fns 33 (iMemo anes0)
noncomputable def anm1_0 : ME := ⟨[.ptr (some ⟨pOf 781, 0⟩), .sl ⟨some ⟨pOf 782, 0⟩, 1, 1, 0⟩, .agg [.int .i64 (.ofNat 2), .int .i64 (.ofNat 0), .sl ⟨none, 0, 0, 0⟩, .int .i64 (.ofNat 4096), .sl ⟨some ⟨pOf 796, 0⟩, 3, 3, 1⟩, .int .u64 (.ofNat 0)]], pOf 797,
   [(pOf 2, ano1),
    (pOf 3, .map .i64 (some (.sl)) []),
    (pOf 4, ano0),
    (pOf 6, ano3),
    (pOf 158, .cells (.b ank2 4096)),
    (pOf 204, .cells (.b ank3 4096)),
    (pOf 368, .cells (.b ank4 4096)),
    (pOf 417, .cells (.b ank5 4096)),
    (pOf 432, .cells (.l [.int .i64 (.ofNat 4), .int .i64 (.ofNat 5)])),
    (pOf 474, .cells (.l [.int .i64 (.ofNat 6), .int .i64 (.ofNat 7)])),
    (pOf 536, .cells (.b ank6 4096)),
    (pOf 582, .cells (.b ank7 4096)),
    (pOf 778, .cells (.l [.int .i64 (.ofNat 4), .int .i64 (.ofNat 5)])),
    (pOf 780, .cells (.l [.int .i64 (.ofNat 6), .int .i64 (.ofNat 7)])),
    (pOf 782, .cells (.b 97 1)),
    (pOf 796, .cells (.l [.int .u64 (.ofNat 1), .int .u64 (.ofNat 4), .int .u64 (.ofNat 7)]))],
   [(pOf 5, ano2),
    (pOf 7, ano4),
    (pOf 781, ano5)],
   .int .i64 (.ofNat 0), pOf 1231,
   [(pOf 5, ano11),
    (pOf 7, ano12),
    (pOf 781, ano13),
    (pOf 1023, .cells (.b (Nat.add ank8 (Nat.shiftLeft ank9 28672)) 4096)),
    (pOf 1206, .cells (.b ank10 4096)),
    (pOf 1223, ano14),
    (pOf 1228, .cells (.l [.int .i64 (.ofNat 2), .int .i64 (.ofNat 3)]))]⟩
noncomputable def anes1 : List ME := [anm1_0]
noncomputable def anf2 : Nat → Option FI := overF anf1 7 (iMemo anes1)
noncomputable def anm2_0 : ME := ⟨[.ptr (some ⟨pOf 781, 0⟩)], pOf 1681,
   [(pOf 2, ano1),
    (pOf 3, .map .i64 (some (.sl)) []),
    (pOf 4, ano0),
    (pOf 5, ano11),
    (pOf 6, ano3),
    (pOf 7, ano12),
    (pOf 368, .cells (.b ank4 4096)),
    (pOf 417, .cells (.b ank5 4096)),
    (pOf 432, .cells (.l [.int .i64 (.ofNat 4), .int .i64 (.ofNat 5)])),
    (pOf 474, .cells (.l [.int .i64 (.ofNat 6), .int .i64 (.ofNat 7)])),
    (pOf 536, .cells (.b ank6 4096)),
    (pOf 582, .cells (.b ank7 4096)),
    (pOf 780, .cells (.l [.int .i64 (.ofNat 6), .int .i64 (.ofNat 7)])),
    (pOf 781, ano13),
    (pOf 1023, .cells (.b (Nat.add ank8 (Nat.shiftLeft ank9 28672)) 4096)),
    (pOf 1206, .cells (.b ank10 4096)),
    (pOf 1223, ano14),
    (pOf 1228, .cells (.l [.int .i64 (.ofNat 2), .int .i64 (.ofNat 3)]))],
   [],
   .tup [.sl ⟨none, 0, 0, 0⟩, .int .i64 (.ofNat 0)], pOf 2493,
   []⟩
noncomputable def anm2_1 : ME := ⟨[.ptr none], pOf 2493,
   [],
   [],
   .tup [.sl ⟨none, 0, 0, 0⟩, .int .i64 (.ofNat 1)], pOf 2493,
   []⟩
noncomputable def anm2_2 : ME := ⟨[.ptr (some ⟨pOf 3274, 0⟩)], pOf 3275,
   [(pOf 2495, ano1),
    (pOf 2496, .map .i64 (some (.sl)) []),
    (pOf 2497, ano6),
    (pOf 2498, ano7),
    (pOf 2499, ano8),
    (pOf 2500, ano9),
    (pOf 2651, .cells (.b ank2 4096)),
    (pOf 2697, .cells (.b ank3 4096)),
    (pOf 2861, .cells (.b ank4 4096)),
    (pOf 2910, .cells (.b ank5 4096)),
    (pOf 2925, .cells (.l [.int .i64 (.ofNat 4), .int .i64 (.ofNat 5)])),
    (pOf 2967, .cells (.l [.int .i64 (.ofNat 6), .int .i64 (.ofNat 7)])),
    (pOf 3029, .cells (.b ank6 4096)),
    (pOf 3075, .cells (.b ank7 4096)),
    (pOf 3271, .cells (.l [.int .i64 (.ofNat 4), .int .i64 (.ofNat 5)])),
    (pOf 3273, .cells (.l [.int .i64 (.ofNat 6), .int .i64 (.ofNat 7)])),
    (pOf 3274, ano10)],
   [],
   .tup [.sl ⟨none, 0, 0, 0⟩, .int .i64 (.ofNat 0)], pOf 3827,
   []⟩
noncomputable def anm2_3 : ME := ⟨[.ptr (some ⟨pOf 3274, 0⟩)], pOf 3882,
   [(pOf 2495, ano1),
    (pOf 2496, .map .i64 (some (.sl)) []),
    (pOf 2497, ano6),
    (pOf 2498, .cells (.l [.bool true, .int .i64 (.ofNat 2), .int .i64 (.ofNat 0), .bool true, .bool true, .sl ⟨some ⟨pOf 3861, 0⟩, 4096, 4096, 1⟩, .bool true, .int .i64 (.ofNat 3), .int .i64 (.ofNat 0), .bool false, .bool true, .sl ⟨some ⟨pOf 2697, 0⟩, 4096, 4096, 1⟩, .bool true, .int .i64 (.ofNat 4), .int .i64 (.ofNat 0), .bool false, .bool true, .sl ⟨some ⟨pOf 2861, 0⟩, 4096, 4096, 1⟩, .bool true, .int .i64 (.ofNat 5), .int .i64 (.ofNat 0), .bool false, .bool true, .sl ⟨some ⟨pOf 2910, 0⟩, 4096, 4096, 1⟩, .bool true, .int .i64 (.ofNat 6), .int .i64 (.ofNat 0), .bool false, .bool true, .sl ⟨some ⟨pOf 3029, 0⟩, 4096, 4096, 1⟩, .bool true, .int .i64 (.ofNat 7), .int .i64 (.ofNat 0), .bool false, .bool true, .sl ⟨some ⟨pOf 3075, 0⟩, 4096, 4096, 1⟩, .bool false, .int .i64 (.ofNat 0), .int .i64 (.ofNat 0), .bool false, .bool false, .sl ⟨none, 0, 0, 0⟩, .bool false, .int .i64 (.ofNat 0), .int .i64 (.ofNat 0), .bool false, .bool false, .sl ⟨none, 0, 0, 0⟩])),
    (pOf 2499, ano8),
    (pOf 2500, .cells (.l [.ptr (some ⟨pOf 2497, 0⟩), .ptr (some ⟨pOf 2499, 0⟩), .int .u64 (.ofNat 2), .int .u64 (.ofNat 80), .int .u64 (.ofNat 6), .int .u64 (.ofNat 7), .int .u64 (.ofNat 2), .int .u64 (.ofNat 2), .int .u64 (.ofNat 0), .int .u64 (.ofNat 0), .int .u64 (.ofNat 0), .sl ⟨some ⟨pOf 2925, 0⟩, 2, 2, 1⟩, .sl ⟨some ⟨pOf 2967, 0⟩, 2, 2, 1⟩, .sl ⟨none, 0, 0, 0⟩, .int .u64 (.ofNat 2), .int .u64 (.ofNat 80), .int .u64 (.ofNat 6), .int .u64 (.ofNat 7), .int .u64 (.ofNat 2), .int .u64 (.ofNat 2), .int .u64 (.ofNat 0), .int .u64 (.ofNat 0), .int .u64 (.ofNat 0), .sl ⟨some ⟨pOf 3878, 0⟩, 3, 3, 1⟩, .sl ⟨some ⟨pOf 3273, 0⟩, 2, 2, 1⟩, .sl ⟨some ⟨pOf 3881, 0⟩, 1, 1, 1⟩, .bool false, .int .i64 (.negSucc 0)])),
    (pOf 2697, .cells (.b ank3 4096)),
    (pOf 2861, .cells (.b ank4 4096)),
    (pOf 2910, .cells (.b ank5 4096)),
    (pOf 2925, .cells (.l [.int .i64 (.ofNat 4), .int .i64 (.ofNat 5)])),
    (pOf 2967, .cells (.l [.int .i64 (.ofNat 6), .int .i64 (.ofNat 7)])),
    (pOf 3029, .cells (.b ank6 4096)),
    (pOf 3075, .cells (.b ank7 4096)),
    (pOf 3273, .cells (.l [.int .i64 (.ofNat 6), .int .i64 (.ofNat 7)])),
    (pOf 3274, ano10),
    (pOf 3861, .cells (.b ank11 4096)),
    (pOf 3878, .cells (.l [.int .i64 (.ofNat 4), .int .i64 (.ofNat 5), .int .i64 (.ofNat 2)])),
    (pOf 3881, .cells (.l [.int .i64 (.ofNat 2)]))],
   [],
   .tup [.sl ⟨some ⟨pOf 4332, 0⟩, 1, 1, 3⟩, .int .i64 (.ofNat 0)], pOf 4544,
   [(pOf 4332, .cells (.l [.int .i64 (.ofNat 2), .int .i64 (.ofNat 2), .int .i64 (.ofNat 0)]))]⟩
noncomputable def anes2 : List ME := [anm2_0, anm2_1, anm2_2, anm2_3]
noncomputable def anf3 : Nat → Option FI := overF anf2 29 (iMemo anes2)
noncomputable def anm3_0 : ME := ⟨[], pOf 2493,
   [],
   [],
   .bool true, pOf 4545,
   []⟩
noncomputable def anes3 : List ME := [anm3_0]
noncomputable def anf4 : Nat → Option FI := overF anf3 30 (iMemo anes3)
noncomputable def anm4_0 : ME := ⟨[], pOf 0,
   [],
   [],
   .bool true, pOf 4547,
   []⟩
noncomputable def anes4 : List ME := [anm4_0]
noncomputable def anf5 : Nat → Option FI := overF anf4 5 (iMemo anes4)
end Go.XS.Tryz
