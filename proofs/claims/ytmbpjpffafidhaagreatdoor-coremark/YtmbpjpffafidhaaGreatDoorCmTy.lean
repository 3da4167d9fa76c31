import Derived.Test.YtmbpjpffafidhaaGreatDoorCmL6
import Derived.Test.YtmbpjpffafidhaaGreatDoorProg
namespace Go.Proofs.YtmbpjpffafidhaaGreatDoor
open Go.Ev
set_option maxRecDepth 100000
def ti2 : TI := ⟨.int .i64, 1, 8, [(.i .i64 0)]⟩
def ti3 : TI := ⟨.int .i64, 1, 8, [(.i .i64 0)]⟩
def ti4 : TI := ⟨.bool, 1, 1, [(.b false)]⟩
def ti5 : TI := ⟨.int .u8, 1, 1, [(.i .u8 0)]⟩
def ti9 : TI := ⟨.string, 1, 16, [(.s [])]⟩
def ti21 : TI := ⟨.int .i32, 1, 4, [(.i .i32 0)]⟩
def ti24 : TI := ⟨.slice 9, 1, 24, [.sn]⟩
def ti25 : TI := ⟨.slice 33, 1, 24, [.sn]⟩
def ti26 : TI := ⟨.int .i64, 1, 8, [(.i .i64 0)]⟩
def ti29 : TI := ⟨.slice 34, 1, 24, [.sn]⟩
def ti33 : TI := ⟨.struct #[⟨ "No", 3, 0, false, "", "", 0⟩, ⟨ "Head", 4, 1, false, "", "", 8⟩, ⟨ "Words", 24, 2, false, "", "", 16⟩], 3, 40, [(.i .i64 0), (.b false), .sn]⟩
def ti34 : TI := ⟨.struct #[⟨ "No", 3, 0, false, "", "", 0⟩, ⟨ "Head", 4, 1, false, "", "", 8⟩, ⟨ "Words", 24, 2, false, "", "", 16⟩], 3, 40, [(.i .i64 0), (.b false), .sn]⟩
def ti37 : TI := ⟨.slice 3, 1, 24, [.sn]⟩
def ti38 : TI := ⟨.slice 24, 1, 24, [.sn]⟩
def ti39 : TI := ⟨.int .u64, 1, 8, [(.i .u64 0)]⟩
def ti42 : TI := ⟨.struct #[⟨ "Col", 3, 0, false, "", "", 0⟩, ⟨ "V", 9, 1, false, "", "", 8⟩], 2, 24, [(.i .i64 0), (.s [])]⟩
def ti43 : TI := ⟨.slice 42, 1, 24, [.sn]⟩
def ti46 : TI := ⟨.struct #[⟨ "Name", 9, 0, false, "", "", 0⟩, ⟨ "Kind", 3, 1, false, "", "", 16⟩, ⟨ "Coef", 43, 2, false, "", "", 24⟩, ⟨ "Rhs", 9, 3, false, "", "", 48⟩, ⟨ "Range", 9, 4, false, "", "", 64⟩], 5, 80, [(.s []), (.i .i64 0), .sn, (.s []), (.s [])]⟩
def ti47 : TI := ⟨.slice 46, 1, 24, [.sn]⟩
def ti49 : TI := ⟨.struct #[⟨ "Name", 9, 0, false, "", "", 0⟩, ⟨ "Low", 9, 1, false, "", "", 16⟩, ⟨ "Up", 9, 2, false, "", "", 32⟩, ⟨ "Cost", 9, 3, false, "", "", 48⟩, ⟨ "Int", 4, 4, false, "", "", 64⟩], 5, 72, [(.s []), (.s []), (.s []), (.s []), (.b false)]⟩
def ti50 : TI := ⟨.slice 49, 1, 24, [.sn]⟩
def ti52 : TI := ⟨.struct #[⟨ "Name", 9, 0, false, "", "", 0⟩, ⟨ "Obj", 9, 1, false, "", "", 16⟩, ⟨ "Rows", 47, 2, false, "", "", 32⟩, ⟨ "Cols", 50, 3, false, "", "", 56⟩], 4, 80, [(.s []), (.s []), .sn, .sn]⟩
def ti54 : TI := ⟨.struct #[⟨ "Cols", 50, 0, false, "", "", 0⟩, ⟨ "Rows", 47, 1, false, "", "", 24⟩], 2, 48, [.sn, .sn]⟩
def ti55 : TI := ⟨.slice 43, 1, 24, [.sn]⟩
def ti57 : TI := ⟨.struct #[⟨ "First", 54, 0, false, "", "", 0⟩, ⟨ "Second", 54, 2, false, "", "", 48⟩, ⟨ "Tech", 55, 4, false, "", "", 96⟩], 5, 120, [.sn, .sn, .sn, .sn, .sn]⟩
def ti61 : TI := ⟨.struct #[⟨ "Col", 9, 0, false, "", "", 0⟩, ⟨ "Row", 9, 1, false, "", "", 16⟩, ⟨ "Name", 9, 2, false, "", "", 32⟩], 3, 48, [(.s []), (.s []), (.s [])]⟩
def ti62 : TI := ⟨.slice 61, 1, 24, [.sn]⟩
def ti63 : TI := ⟨.slice 3, 1, 24, [.sn]⟩
def ti65 : TI := ⟨.struct #[⟨ "Neg", 4, 0, false, "", "", 0⟩, ⟨ "N", 63, 1, false, "", "", 8⟩, ⟨ "D", 63, 2, false, "", "", 32⟩], 3, 56, [(.b false), .sn, .sn]⟩
def ti72 : TI := ⟨.struct #[⟨ "Core", 9, 0, false, "", "", 0⟩, ⟨ "Time", 9, 1, false, "", "", 16⟩, ⟨ "Stoch", 9, 2, false, "", "", 32⟩], 3, 48, [(.s []), (.s []), (.s [])]⟩
def ti79 : TI := ⟨.struct #[⟨ "Col", 9, 0, false, "", "", 0⟩, ⟨ "Row", 9, 1, false, "", "", 16⟩], 2, 32, [(.s []), (.s [])]⟩
def ti80 : TI := ⟨.slice 79, 1, 24, [.sn]⟩
def ti81 : TI := ⟨.slice 86, 1, 24, [.sn]⟩
def ti83 : TI := ⟨.struct #[⟨ "Kind", 3, 0, false, "", "", 0⟩, ⟨ "Groups", 81, 1, false, "", "", 8⟩], 2, 32, [(.i .i64 0), .sn]⟩
def ti84 : TI := ⟨.slice 93, 1, 24, [.sn]⟩
def ti86 : TI := ⟨.struct #[⟨ "Name", 9, 0, false, "", "", 0⟩, ⟨ "Cases", 84, 1, false, "", "", 16⟩], 2, 40, [(.s []), .sn]⟩
def ti90 : TI := ⟨.struct #[⟨ "At", 79, 0, false, "", "", 0⟩, ⟨ "V", 9, 2, false, "", "", 32⟩], 3, 48, [(.s []), (.s []), (.s [])]⟩
def ti91 : TI := ⟨.slice 90, 1, 24, [.sn]⟩
def ti93 : TI := ⟨.struct #[⟨ "P", 9, 0, false, "", "", 0⟩, ⟨ "Es", 91, 1, false, "", "", 16⟩], 2, 40, [(.s []), .sn]⟩
def ti94 : TI := ⟨.slice 101, 1, 24, [.sn]⟩
def ti101 : TI := ⟨.struct #[⟨ "P", 9, 0, false, "", "", 0⟩, ⟨ "Second", 54, 1, false, "", "", 16⟩, ⟨ "Tech", 55, 3, false, "", "", 64⟩], 4, 88, [(.s []), .sn, .sn, .sn]⟩
def ti104 : TI := ⟨.slice 4, 1, 24, [.sn]⟩
def ti107 : TI := ⟨.int .u64, 1, 8, [(.i .u64 0)]⟩
def ti126 : TI := ⟨.slice 5, 1, 24, [.sn]⟩
def ti142 : TI := ⟨.pointer 146, 1, 8, [.pn]⟩
def ti143 : TI := ⟨.map 9 3, 1, 8, [.mn]⟩
def ti144 : TI := ⟨.map 9 4, 1, 8, [.mn]⟩
def ti146 : TI := ⟨.struct #[⟨ "c", 52, 0, false, "", "victualler/core", 0⟩, ⟨ "at", 3, 4, false, "", "victualler/core", 80⟩, ⟨ "rows", 143, 5, false, "", "victualler/core", 88⟩, ⟨ "cols", 143, 6, false, "", "victualler/core", 96⟩, ⟨ "seen", 144, 7, false, "", "victualler/core", 104⟩, ⟨ "integer", 4, 8, false, "", "victualler/core", 112⟩, ⟨ "l", 24, 9, false, "", "victualler/core", 120⟩, ⟨ "e", 26, 10, false, "", "victualler/core", 144⟩], 11, 152, [(.s []), (.s []), .sn, .sn, (.i .i64 0), .mn, .mn, .mn, (.b false), .sn, (.i .i64 0)]⟩
def ti150 : TI := ⟨.struct #[⟨ "name", 9, 0, false, "", "victualler/period", 0⟩, ⟨ "ps", 62, 1, false, "", "victualler/period", 16⟩, ⟨ "at", 3, 2, false, "", "victualler/period", 40⟩], 3, 48, [(.s []), .sn, (.i .i64 0)]⟩
def ti152 : TI := ⟨.map 79 207, 1, 8, [.mn]⟩
def ti159 : TI := ⟨.pointer 93, 1, 8, [.pn]⟩
def ti161 : TI := ⟨.struct #[⟨ "name", 9, 0, false, "", "victualler/stoch", 0⟩, ⟨ "s", 83, 1, false, "", "victualler/stoch", 16⟩, ⟨ "at", 3, 3, false, "", "victualler/stoch", 48⟩, ⟨ "last", 159, 4, false, "", "victualler/stoch", 56⟩, ⟨ "names", 144, 5, false, "", "victualler/stoch", 64⟩, ⟨ "l", 24, 6, false, "", "victualler/stoch", 72⟩, ⟨ "e", 26, 7, false, "", "victualler/stoch", 96⟩], 8, 104, [(.s []), (.i .i64 0), .sn, (.i .i64 0), .pn, .mn, .sn, (.i .i64 0)]⟩
def ti164 : TI := ⟨.pointer 166, 1, 8, [.pn]⟩
def ti166 : TI := ⟨.struct #[⟨ "addr", 164, 0, false, "", "strings", 0⟩, ⟨ "buf", 126, 1, false, "", "strings", 8⟩], 2, 32, [.pn, .sn]⟩
def ti168 : TI := ⟨.struct #[⟨ "b", 166, 0, false, "", "victualler/write", 0⟩, ⟨ "bad", 4, 2, false, "", "victualler/write", 32⟩], 3, 40, [.pn, .sn, (.b false)]⟩
def ti190 : TI := ⟨.slice 192, 1, 24, [.sn]⟩
def ti192 : TI := ⟨.struct #[⟨ "start", 3, 0, false, "", "strings", 0⟩, ⟨ "end", 3, 1, false, "", "strings", 8⟩], 2, 16, [(.i .i64 0), (.i .i64 0)]⟩
def ti196 : TI := ⟨.pointer 251, 1, 8, [.pn]⟩
def ti205 : TI := ⟨.map 79 3, 1, 8, [.mn]⟩
def ti207 : TI := ⟨.struct #[⟨ "kind", 3, 0, false, "", "victualler/tree", 0⟩, ⟨ "row", 3, 1, false, "", "victualler/tree", 8⟩, ⟨ "col", 3, 2, false, "", "victualler/tree", 16⟩], 3, 24, [(.i .i64 0), (.i .i64 0), (.i .i64 0)]⟩
def ti215 : TI := ⟨.interface #[("Error", 88)], 1, 16, [.inn]⟩
def ti226 : TI := ⟨.pointer 306, 1, 8, [.pn]⟩
def ti229 : TI := ⟨.pointer 286, 1, 8, [.pn]⟩
def ti232 : TI := ⟨.pointer 294, 1, 8, [.pn]⟩
def ti235 : TI := ⟨.slice 196, 1, 24, [.sn]⟩
def ti242 : TI := ⟨.map 79 4, 1, 8, [.mn]⟩
def ti251 : TI := ⟨.struct #[⟨ "neg", 4, 0, false, "", "victualler/frac", 0⟩, ⟨ "n", 226, 1, false, "", "victualler/frac", 8⟩, ⟨ "d", 226, 2, false, "", "victualler/frac", 16⟩], 3, 24, [(.b false), .pn, .pn]⟩
def ti273 : TI := ⟨.pointer 5, 1, 8, [.pn]⟩
def ti283 : TI := ⟨.map 3 4, 1, 8, [.mn]⟩
def ti284 : TI := ⟨.slice 288, 1, 24, [.sn]⟩
def ti286 : TI := ⟨.struct #[⟨ "l", 284, 0, false, "", "victualler/vec", 0⟩], 1, 24, [.sn]⟩
def ti288 : TI := ⟨.struct #[⟨ "at", 3, 0, false, "", "victualler/vec", 0⟩, ⟨ "v", 196, 1, false, "", "victualler/vec", 8⟩], 2, 16, [(.i .i64 0), .pn]⟩
def ti292 : TI := ⟨.slice 235, 1, 24, [.sn]⟩
def ti294 : TI := ⟨.struct #[⟨ "l", 292, 0, false, "", "victualler/mat", 0⟩, ⟨ "cols", 3, 1, false, "", "victualler/mat", 24⟩], 2, 32, [.sn, (.i .i64 0)]⟩
def ti300 : TI := ⟨.slice 302, 1, 24, [.sn]⟩
def ti302 : TI := ⟨.int .u32, 1, 4, [(.i .u32 0)]⟩
def ti306 : TI := ⟨.struct #[⟨ "d", 300, 0, false, "", "victualler/nat", 0⟩], 1, 24, [.sn]⟩
def ti318 : TI := ⟨.unsafePointer, 1, 8, [.pn]⟩
def ti322 : TI := ⟨.array 256 4, 256, 256, [(.b false), (.b false), (.b false), (.b false), (.b false), (.b false), (.b false), (.b false), (.b false), (.b false), (.b false), (.b false), (.b false), (.b false), (.b false), (.b false), (.b false), (.b false), (.b false), (.b false), (.b false), (.b false), (.b false), (.b false), (.b false), (.b false), (.b false), (.b false), (.b false), (.b false), (.b false), (.b false), (.b false), (.b false), (.b false), (.b false), (.b false), (.b false), (.b false), (.b false), (.b false), (.b false), (.b false), (.b false), (.b false), (.b false), (.b false), (.b false), (.b false), (.b false), (.b false), (.b false), (.b false), (.b false), (.b false), (.b false), (.b false), (.b false), (.b false), (.b false), (.b false), (.b false), (.b false), (.b false), (.b false), (.b false), (.b false), (.b false), (.b false), (.b false), (.b false), (.b false), (.b false), (.b false), (.b false), (.b false), (.b false), (.b false), (.b false), (.b false), (.b false), (.b false), (.b false), (.b false), (.b false), (.b false), (.b false), (.b false), (.b false), (.b false), (.b false), (.b false), (.b false), (.b false), (.b false), (.b false), (.b false), (.b false), (.b false), (.b false), (.b false), (.b false), (.b false), (.b false), (.b false), (.b false), (.b false), (.b false), (.b false), (.b false), (.b false), (.b false), (.b false), (.b false), (.b false), (.b false), (.b false), (.b false), (.b false), (.b false), (.b false), (.b false), (.b false), (.b false), (.b false), (.b false), (.b false), (.b false), (.b false), (.b false), (.b false), (.b false), (.b false), (.b false), (.b false), (.b false), (.b false), (.b false), (.b false), (.b false), (.b false), (.b false), (.b false), (.b false), (.b false), (.b false), (.b false), (.b false), (.b false), (.b false), (.b false), (.b false), (.b false), (.b false), (.b false), (.b false), (.b false), (.b false), (.b false), (.b false), (.b false), (.b false), (.b false), (.b false), (.b false), (.b false), (.b false), (.b false), (.b false), (.b false), (.b false), (.b false), (.b false), (.b false), (.b false), (.b false), (.b false), (.b false), (.b false), (.b false), (.b false), (.b false), (.b false), (.b false), (.b false), (.b false), (.b false), (.b false), (.b false), (.b false), (.b false), (.b false), (.b false), (.b false), (.b false), (.b false), (.b false), (.b false), (.b false), (.b false), (.b false), (.b false), (.b false), (.b false), (.b false), (.b false), (.b false), (.b false), (.b false), (.b false), (.b false), (.b false), (.b false), (.b false), (.b false), (.b false), (.b false), (.b false), (.b false), (.b false), (.b false), (.b false), (.b false), (.b false), (.b false), (.b false), (.b false), (.b false), (.b false), (.b false), (.b false), (.b false), (.b false), (.b false), (.b false), (.b false), (.b false), (.b false), (.b false), (.b false), (.b false), (.b false), (.b false), (.b false), (.b false), (.b false), (.b false), (.b false), (.b false), (.b false), (.b false), (.b false), (.b false), (.b false), (.b false), (.b false)]⟩
def ti346 : TI := ⟨.int .i64, 1, 8, [(.i .i64 0)]⟩
def ti348 : TI := ⟨.pointer 371, 1, 8, [.pn]⟩
def ti356 : TI := ⟨.int .i64, 1, 8, [(.i .i64 0)]⟩
def ti364 : TI := ⟨.array 24 5, 24, 24, [(.i .u8 0), (.i .u8 0), (.i .u8 0), (.i .u8 0), (.i .u8 0), (.i .u8 0), (.i .u8 0), (.i .u8 0), (.i .u8 0), (.i .u8 0), (.i .u8 0), (.i .u8 0), (.i .u8 0), (.i .u8 0), (.i .u8 0), (.i .u8 0), (.i .u8 0), (.i .u8 0), (.i .u8 0), (.i .u8 0), (.i .u8 0), (.i .u8 0), (.i .u8 0), (.i .u8 0)]⟩
def ti371 : TI := ⟨.struct #[⟨ "Func", 9, 0, false, "", "", 0⟩, ⟨ "Num", 9, 1, false, "", "", 16⟩, ⟨ "Err", 215, 2, false, "", "", 32⟩], 3, 48, [(.s []), (.s []), .inn]⟩
def ti375 : TI := ⟨.int .u64, 1, 8, [(.i .u64 0)]⟩
def ti382 : TI := ⟨.array 20 107, 20, 160, [(.i .u64 0), (.i .u64 0), (.i .u64 0), (.i .u64 0), (.i .u64 0), (.i .u64 0), (.i .u64 0), (.i .u64 0), (.i .u64 0), (.i .u64 0), (.i .u64 0), (.i .u64 0), (.i .u64 0), (.i .u64 0), (.i .u64 0), (.i .u64 0), (.i .u64 0), (.i .u64 0), (.i .u64 0), (.i .u64 0)]⟩
def ti383 : TI := ⟨.array 65 5, 65, 65, [(.i .u8 0), (.i .u8 0), (.i .u8 0), (.i .u8 0), (.i .u8 0), (.i .u8 0), (.i .u8 0), (.i .u8 0), (.i .u8 0), (.i .u8 0), (.i .u8 0), (.i .u8 0), (.i .u8 0), (.i .u8 0), (.i .u8 0), (.i .u8 0), (.i .u8 0), (.i .u8 0), (.i .u8 0), (.i .u8 0), (.i .u8 0), (.i .u8 0), (.i .u8 0), (.i .u8 0), (.i .u8 0), (.i .u8 0), (.i .u8 0), (.i .u8 0), (.i .u8 0), (.i .u8 0), (.i .u8 0), (.i .u8 0), (.i .u8 0), (.i .u8 0), (.i .u8 0), (.i .u8 0), (.i .u8 0), (.i .u8 0), (.i .u8 0), (.i .u8 0), (.i .u8 0), (.i .u8 0), (.i .u8 0), (.i .u8 0), (.i .u8 0), (.i .u8 0), (.i .u8 0), (.i .u8 0), (.i .u8 0), (.i .u8 0), (.i .u8 0), (.i .u8 0), (.i .u8 0), (.i .u8 0), (.i .u8 0), (.i .u8 0), (.i .u8 0), (.i .u8 0), (.i .u8 0), (.i .u8 0), (.i .u8 0), (.i .u8 0), (.i .u8 0), (.i .u8 0), (.i .u8 0)]⟩
def ti384 : TI := ⟨.array 256 5, 256, 256, [(.i .u8 0), (.i .u8 0), (.i .u8 0), (.i .u8 0), (.i .u8 0), (.i .u8 0), (.i .u8 0), (.i .u8 0), (.i .u8 0), (.i .u8 0), (.i .u8 0), (.i .u8 0), (.i .u8 0), (.i .u8 0), (.i .u8 0), (.i .u8 0), (.i .u8 0), (.i .u8 0), (.i .u8 0), (.i .u8 0), (.i .u8 0), (.i .u8 0), (.i .u8 0), (.i .u8 0), (.i .u8 0), (.i .u8 0), (.i .u8 0), (.i .u8 0), (.i .u8 0), (.i .u8 0), (.i .u8 0), (.i .u8 0), (.i .u8 0), (.i .u8 0), (.i .u8 0), (.i .u8 0), (.i .u8 0), (.i .u8 0), (.i .u8 0), (.i .u8 0), (.i .u8 0), (.i .u8 0), (.i .u8 0), (.i .u8 0), (.i .u8 0), (.i .u8 0), (.i .u8 0), (.i .u8 0), (.i .u8 0), (.i .u8 0), (.i .u8 0), (.i .u8 0), (.i .u8 0), (.i .u8 0), (.i .u8 0), (.i .u8 0), (.i .u8 0), (.i .u8 0), (.i .u8 0), (.i .u8 0), (.i .u8 0), (.i .u8 0), (.i .u8 0), (.i .u8 0), (.i .u8 0), (.i .u8 0), (.i .u8 0), (.i .u8 0), (.i .u8 0), (.i .u8 0), (.i .u8 0), (.i .u8 0), (.i .u8 0), (.i .u8 0), (.i .u8 0), (.i .u8 0), (.i .u8 0), (.i .u8 0), (.i .u8 0), (.i .u8 0), (.i .u8 0), (.i .u8 0), (.i .u8 0), (.i .u8 0), (.i .u8 0), (.i .u8 0), (.i .u8 0), (.i .u8 0), (.i .u8 0), (.i .u8 0), (.i .u8 0), (.i .u8 0), (.i .u8 0), (.i .u8 0), (.i .u8 0), (.i .u8 0), (.i .u8 0), (.i .u8 0), (.i .u8 0), (.i .u8 0), (.i .u8 0), (.i .u8 0), (.i .u8 0), (.i .u8 0), (.i .u8 0), (.i .u8 0), (.i .u8 0), (.i .u8 0), (.i .u8 0), (.i .u8 0), (.i .u8 0), (.i .u8 0), (.i .u8 0), (.i .u8 0), (.i .u8 0), (.i .u8 0), (.i .u8 0), (.i .u8 0), (.i .u8 0), (.i .u8 0), (.i .u8 0), (.i .u8 0), (.i .u8 0), (.i .u8 0), (.i .u8 0), (.i .u8 0), (.i .u8 0), (.i .u8 0), (.i .u8 0), (.i .u8 0), (.i .u8 0), (.i .u8 0), (.i .u8 0), (.i .u8 0), (.i .u8 0), (.i .u8 0), (.i .u8 0), (.i .u8 0), (.i .u8 0), (.i .u8 0), (.i .u8 0), (.i .u8 0), (.i .u8 0), (.i .u8 0), (.i .u8 0), (.i .u8 0), (.i .u8 0), (.i .u8 0), (.i .u8 0), (.i .u8 0), (.i .u8 0), (.i .u8 0), (.i .u8 0), (.i .u8 0), (.i .u8 0), (.i .u8 0), (.i .u8 0), (.i .u8 0), (.i .u8 0), (.i .u8 0), (.i .u8 0), (.i .u8 0), (.i .u8 0), (.i .u8 0), (.i .u8 0), (.i .u8 0), (.i .u8 0), (.i .u8 0), (.i .u8 0), (.i .u8 0), (.i .u8 0), (.i .u8 0), (.i .u8 0), (.i .u8 0), (.i .u8 0), (.i .u8 0), (.i .u8 0), (.i .u8 0), (.i .u8 0), (.i .u8 0), (.i .u8 0), (.i .u8 0), (.i .u8 0), (.i .u8 0), (.i .u8 0), (.i .u8 0), (.i .u8 0), (.i .u8 0), (.i .u8 0), (.i .u8 0), (.i .u8 0), (.i .u8 0), (.i .u8 0), (.i .u8 0), (.i .u8 0), (.i .u8 0), (.i .u8 0), (.i .u8 0), (.i .u8 0), (.i .u8 0), (.i .u8 0), (.i .u8 0), (.i .u8 0), (.i .u8 0), (.i .u8 0), (.i .u8 0), (.i .u8 0), (.i .u8 0), (.i .u8 0), (.i .u8 0), (.i .u8 0), (.i .u8 0), (.i .u8 0), (.i .u8 0), (.i .u8 0), (.i .u8 0), (.i .u8 0), (.i .u8 0), (.i .u8 0), (.i .u8 0), (.i .u8 0), (.i .u8 0), (.i .u8 0), (.i .u8 0), (.i .u8 0), (.i .u8 0), (.i .u8 0), (.i .u8 0), (.i .u8 0), (.i .u8 0), (.i .u8 0), (.i .u8 0), (.i .u8 0), (.i .u8 0), (.i .u8 0), (.i .u8 0), (.i .u8 0), (.i .u8 0), (.i .u8 0), (.i .u8 0), (.i .u8 0), (.i .u8 0), (.i .u8 0), (.i .u8 0), (.i .u8 0), (.i .u8 0), (.i .u8 0), (.i .u8 0), (.i .u8 0), (.i .u8 0), (.i .u8 0), (.i .u8 0), (.i .u8 0), (.i .u8 0), (.i .u8 0), (.i .u8 0)]⟩
def ti386 : TI := ⟨.struct #[⟨ "lo", 5, 0, false, "", "unicode/utf8", 0⟩, ⟨ "hi", 5, 1, false, "", "unicode/utf8", 1⟩], 2, 2, [(.i .u8 0), (.i .u8 0)]⟩
def ti387 : TI := ⟨.array 16 386, 32, 32, [(.i .u8 0), (.i .u8 0), (.i .u8 0), (.i .u8 0), (.i .u8 0), (.i .u8 0), (.i .u8 0), (.i .u8 0), (.i .u8 0), (.i .u8 0), (.i .u8 0), (.i .u8 0), (.i .u8 0), (.i .u8 0), (.i .u8 0), (.i .u8 0), (.i .u8 0), (.i .u8 0), (.i .u8 0), (.i .u8 0), (.i .u8 0), (.i .u8 0), (.i .u8 0), (.i .u8 0), (.i .u8 0), (.i .u8 0), (.i .u8 0), (.i .u8 0), (.i .u8 0), (.i .u8 0), (.i .u8 0), (.i .u8 0)]⟩
def ti388 : TI := ⟨.pointer 390, 1, 8, [.pn]⟩
def ti390 : TI := ⟨.struct #[⟨ "s", 9, 0, false, "", "errors", 0⟩], 1, 16, [(.s [])]⟩
def ti394 : TI := ⟨.array 32 5, 32, 32, [(.i .u8 0), (.i .u8 0), (.i .u8 0), (.i .u8 0), (.i .u8 0), (.i .u8 0), (.i .u8 0), (.i .u8 0), (.i .u8 0), (.i .u8 0), (.i .u8 0), (.i .u8 0), (.i .u8 0), (.i .u8 0), (.i .u8 0), (.i .u8 0), (.i .u8 0), (.i .u8 0), (.i .u8 0), (.i .u8 0), (.i .u8 0), (.i .u8 0), (.i .u8 0), (.i .u8 0), (.i .u8 0), (.i .u8 0), (.i .u8 0), (.i .u8 0), (.i .u8 0), (.i .u8 0), (.i .u8 0), (.i .u8 0)]⟩
def ti395 : TI := ⟨.array 64 5, 64, 64, [(.i .u8 0), (.i .u8 0), (.i .u8 0), (.i .u8 0), (.i .u8 0), (.i .u8 0), (.i .u8 0), (.i .u8 0), (.i .u8 0), (.i .u8 0), (.i .u8 0), (.i .u8 0), (.i .u8 0), (.i .u8 0), (.i .u8 0), (.i .u8 0), (.i .u8 0), (.i .u8 0), (.i .u8 0), (.i .u8 0), (.i .u8 0), (.i .u8 0), (.i .u8 0), (.i .u8 0), (.i .u8 0), (.i .u8 0), (.i .u8 0), (.i .u8 0), (.i .u8 0), (.i .u8 0), (.i .u8 0), (.i .u8 0), (.i .u8 0), (.i .u8 0), (.i .u8 0), (.i .u8 0), (.i .u8 0), (.i .u8 0), (.i .u8 0), (.i .u8 0), (.i .u8 0), (.i .u8 0), (.i .u8 0), (.i .u8 0), (.i .u8 0), (.i .u8 0), (.i .u8 0), (.i .u8 0), (.i .u8 0), (.i .u8 0), (.i .u8 0), (.i .u8 0), (.i .u8 0), (.i .u8 0), (.i .u8 0), (.i .u8 0), (.i .u8 0), (.i .u8 0), (.i .u8 0), (.i .u8 0), (.i .u8 0), (.i .u8 0), (.i .u8 0), (.i .u8 0)]⟩
def TYT : Tr TI := (.nd (.nd (.nd (.nd (.nd (.nd (.nd (.nd .lf none (.nd .lf (some (ti383)) .lf)) (some (ti63)) .lf) none (.nd (.nd .lf (some (ti159)) .lf) none .lf)) none (.nd (.nd (.nd .lf (some (ti143)) .lf) (some (ti79)) (.nd .lf (some (ti207)) .lf)) (some (ti47)) .lf)) none (.nd (.nd .lf (some (ti39)) .lf) none (.nd (.nd .lf none (.nd .lf (some (ti215)) .lf)) (some (ti55)) (.nd .lf none (.nd (.nd .lf (some (ti375)) .lf) none .lf))))) (some (ti3)) (.nd (.nd (.nd (.nd (.nd .lf none (.nd .lf (some (ti387)) .lf)) none .lf) none .lf) none (.nd (.nd .lf (some (ti83)) .lf) none (.nd .lf none (.nd (.nd .lf (some (ti371)) .lf) none .lf)))) none (.nd (.nd (.nd (.nd .lf none (.nd .lf (some (ti395)) .lf)) none .lf) (some (ti43)) (.nd .lf (some (ti107)) (.nd .lf (some (ti235)) .lf))) none (.nd (.nd (.nd (.nd .lf (some (ti283)) .lf) none .lf) (some (ti91)) .lf) none (.nd .lf none (.nd .lf (some (ti251)) .lf)))))) none (.nd (.nd (.nd (.nd (.nd .lf (some (ti65)) .lf) (some (ti33)) (.nd (.nd .lf (some (ti161)) .lf) none .lf)) none (.nd (.nd (.nd (.nd .lf (some (ti273)) .lf) none .lf) (some (ti81)) .lf) (some (ti49)) .lf)) (some (ti9)) (.nd .lf (some (ti25)) (.nd .lf (some (ti57)) .lf))) (some (ti5)) (.nd (.nd (.nd .lf (some (ti37)) (.nd .lf (some (ti101)) (.nd .lf (some (ti229)) .lf))) (some (ti21)) .lf) none (.nd (.nd (.nd .lf none (.nd .lf (some (ti205)) .lf)) none .lf) (some (ti29)) (.nd (.nd .lf (some (ti93)) .lf) (some (ti61)) .lf))))) none (.nd (.nd (.nd (.nd (.nd (.nd (.nd .lf none (.nd .lf (some (ti384)) .lf)) none (.nd .lf (some (ti192)) .lf)) none (.nd (.nd (.nd .lf (some (ti288)) .lf) none .lf) none .lf)) none (.nd (.nd (.nd .lf (some (ti144)) .lf) (some (ti80)) .lf) none .lf)) none (.nd (.nd (.nd .lf (some (ti72)) .lf) none (.nd (.nd .lf (some (ti168)) .lf) (some (ti104)) (.nd .lf (some (ti232)) .lf))) (some (ti24)) (.nd (.nd (.nd .lf (some (ti152)) .lf) none .lf) none .lf))) (some (ti4)) (.nd (.nd (.nd (.nd (.nd .lf none (.nd .lf (some (ti388)) .lf)) none (.nd .lf (some (ti196)) .lf)) none (.nd (.nd (.nd .lf (some (ti292)) .lf) (some (ti164)) .lf) none (.nd (.nd .lf (some (ti356)) .lf) none .lf))) none (.nd (.nd .lf (some (ti84)) .lf) (some (ti52)) .lf)) none (.nd (.nd .lf none (.nd (.nd (.nd .lf (some (ti300)) .lf) none .lf) none (.nd (.nd .lf (some (ti364)) .lf) none .lf))) none (.nd (.nd (.nd (.nd .lf (some (ti284)) .lf) none .lf) none (.nd (.nd .lf (some (ti348)) .lf) none .lf)) none .lf)))) (some (ti2)) (.nd (.nd (.nd (.nd (.nd (.nd .lf none (.nd .lf (some (ti386)) .lf)) none (.nd (.nd .lf (some (ti322)) .lf) none .lf)) (some (ti34)) (.nd .lf none (.nd .lf (some (ti226)) .lf))) none (.nd (.nd (.nd .lf (some (ti146)) .lf) none .lf) (some (ti50)) (.nd (.nd (.nd .lf (some (ti306)) .lf) none .lf) none (.nd .lf (some (ti242)) .lf)))) none (.nd (.nd (.nd (.nd .lf none (.nd .lf (some (ti394)) .lf)) none .lf) (some (ti42)) .lf) (some (ti26)) (.nd (.nd .lf (some (ti90)) (.nd (.nd .lf (some (ti346)) .lf) none .lf)) none .lf))) none (.nd (.nd (.nd (.nd (.nd .lf none (.nd .lf (some (ti390)) .lf)) none .lf) (some (ti38)) (.nd (.nd (.nd .lf (some (ti294)) .lf) (some (ti166)) .lf) none .lf)) none (.nd (.nd (.nd .lf (some (ti150)) .lf) (some (ti86)) .lf) (some (ti54)) .lf)) none (.nd (.nd (.nd (.nd .lf (some (ti142)) .lf) none .lf) (some (ti46)) (.nd (.nd (.nd .lf (some (ti302)) .lf) none .lf) none .lf)) none (.nd (.nd (.nd (.nd .lf (some (ti286)) .lf) none .lf) (some (ti94)) .lf) (some (ti62)) (.nd (.nd (.nd .lf (some (ti318)) .lf) (some (ti190)) .lf) (some (ti126)) (.nd (.nd .lf (some (ti382)) .lf) none .lf))))))))
def FLT : Tr Nat := (.nd (.nd (.nd (.nd (.nd .lf none (.nd (.nd .lf (some (10)) (.nd .lf (some (21)) .lf)) none .lf)) none .lf) none .lf) none (.nd (.nd (.nd .lf none (.nd .lf (some (938)) .lf)) none .lf) none (.nd .lf none (.nd .lf none (.nd .lf (some (42)) .lf))))) none (.nd (.nd (.nd (.nd (.nd (.nd .lf none (.nd .lf (some (5)) .lf)) none .lf) none .lf) none (.nd (.nd (.nd .lf (some (42)) .lf) none .lf) none .lf)) none .lf) none (.nd (.nd (.nd (.nd (.nd (.nd .lf none (.nd .lf (some (5)) .lf)) none .lf) none .lf) none .lf) none (.nd (.nd .lf (some (9)) .lf) none .lf)) none (.nd (.nd (.nd (.nd (.nd .lf none (.nd .lf (some (2)) .lf)) none .lf) none .lf) none .lf) none .lf))))
def T : TT := { ty := fun t => TYT.get t, flat := fun t => (FLT.get t).getD 0, ixb := fun f => Nat.beq f 287, nesc := fun f => Nat.beq f 256, mnz := fun f => if Nat.beq f 292 then some 5 else none, lies := fun u => if Nat.beq u 166 then [(165, 2), (166, 2), (167, 3), (168, 3)] else [], ng := 8 }
theorem tg2 : TGood Tryz.prog 2 ti2 := tgood (j := Tryz.t2) (z := Tryz.t2.zero.getD .nilIface) (by kernel_rfl) Tryz.underlying2 (by kernel_rfl) (by kernel_rfl) (by kernel_rfl) (by kernel_rfl) (by kernel_rfl)
theorem tg3 : TGood Tryz.prog 3 ti3 := tgood (j := Tryz.t3) (z := Tryz.t3.zero.getD .nilIface) (by kernel_rfl) Tryz.underlying3 (by kernel_rfl) (by kernel_rfl) (by kernel_rfl) (by kernel_rfl) (by kernel_rfl)
theorem tg4 : TGood Tryz.prog 4 ti4 := tgood (j := Tryz.t4) (z := Tryz.t4.zero.getD .nilIface) (by kernel_rfl) Tryz.underlying4 (by kernel_rfl) (by kernel_rfl) (by kernel_rfl) (by kernel_rfl) (by kernel_rfl)
theorem tg5 : TGood Tryz.prog 5 ti5 := tgood (j := Tryz.t5) (z := Tryz.t5.zero.getD .nilIface) (by kernel_rfl) Tryz.underlying5 (by kernel_rfl) (by kernel_rfl) (by kernel_rfl) (by kernel_rfl) (by kernel_rfl)
theorem tg9 : TGood Tryz.prog 9 ti9 := tgood (j := Tryz.t9) (z := Tryz.t9.zero.getD .nilIface) (by kernel_rfl) Tryz.underlying9 (by kernel_rfl) (by kernel_rfl) (by kernel_rfl) (by kernel_rfl) (by kernel_rfl)
theorem tg21 : TGood Tryz.prog 21 ti21 := tgood (j := Tryz.t21) (z := Tryz.t21.zero.getD .nilIface) (by kernel_rfl) Tryz.underlying21 (by kernel_rfl) (by kernel_rfl) (by kernel_rfl) (by kernel_rfl) (by kernel_rfl)
theorem tg24 : TGood Tryz.prog 24 ti24 := tgood (j := Tryz.t24) (z := Tryz.t24.zero.getD .nilIface) (by kernel_rfl) Tryz.underlying24 (by kernel_rfl) (by kernel_rfl) (by kernel_rfl) (by kernel_rfl) (by kernel_rfl)
theorem tg25 : TGood Tryz.prog 25 ti25 := tgood (j := Tryz.t25) (z := Tryz.t25.zero.getD .nilIface) (by kernel_rfl) Tryz.underlying25 (by kernel_rfl) (by kernel_rfl) (by kernel_rfl) (by kernel_rfl) (by kernel_rfl)
theorem tg26 : TGood Tryz.prog 26 ti26 := tgood (j := Tryz.t26) (z := Tryz.t26.zero.getD .nilIface) (by kernel_rfl) Tryz.underlying26 (by kernel_rfl) (by kernel_rfl) (by kernel_rfl) (by kernel_rfl) (by kernel_rfl)
theorem tg29 : TGood Tryz.prog 29 ti29 := tgood (j := Tryz.t29) (z := Tryz.t29.zero.getD .nilIface) (by kernel_rfl) Tryz.underlying29 (by kernel_rfl) (by kernel_rfl) (by kernel_rfl) (by kernel_rfl) (by kernel_rfl)
theorem tg33 : TGood Tryz.prog 33 ti33 := tgood (j := Tryz.t33) (z := Tryz.t33.zero.getD .nilIface) (by kernel_rfl) Tryz.underlying33 (by kernel_rfl) (by kernel_rfl) (by kernel_rfl) (by kernel_rfl) (by kernel_rfl)
theorem tg34 : TGood Tryz.prog 34 ti34 := tgood (j := Tryz.t34) (z := Tryz.t34.zero.getD .nilIface) (by kernel_rfl) Tryz.underlying34 (by kernel_rfl) (by kernel_rfl) (by kernel_rfl) (by kernel_rfl) (by kernel_rfl)
theorem tg37 : TGood Tryz.prog 37 ti37 := tgood (j := Tryz.t37) (z := Tryz.t37.zero.getD .nilIface) (by kernel_rfl) Tryz.underlying37 (by kernel_rfl) (by kernel_rfl) (by kernel_rfl) (by kernel_rfl) (by kernel_rfl)
theorem tg38 : TGood Tryz.prog 38 ti38 := tgood (j := Tryz.t38) (z := Tryz.t38.zero.getD .nilIface) (by kernel_rfl) Tryz.underlying38 (by kernel_rfl) (by kernel_rfl) (by kernel_rfl) (by kernel_rfl) (by kernel_rfl)
theorem tg39 : TGood Tryz.prog 39 ti39 := tgood (j := Tryz.t39) (z := Tryz.t39.zero.getD .nilIface) (by kernel_rfl) Tryz.underlying39 (by kernel_rfl) (by kernel_rfl) (by kernel_rfl) (by kernel_rfl) (by kernel_rfl)
theorem tg42 : TGood Tryz.prog 42 ti42 := tgood (j := Tryz.t42) (z := Tryz.t42.zero.getD .nilIface) (by kernel_rfl) Tryz.underlying42 (by kernel_rfl) (by kernel_rfl) (by kernel_rfl) (by kernel_rfl) (by kernel_rfl)
theorem tg43 : TGood Tryz.prog 43 ti43 := tgood (j := Tryz.t43) (z := Tryz.t43.zero.getD .nilIface) (by kernel_rfl) Tryz.underlying43 (by kernel_rfl) (by kernel_rfl) (by kernel_rfl) (by kernel_rfl) (by kernel_rfl)
theorem tg46 : TGood Tryz.prog 46 ti46 := tgood (j := Tryz.t46) (z := Tryz.t46.zero.getD .nilIface) (by kernel_rfl) Tryz.underlying46 (by kernel_rfl) (by kernel_rfl) (by kernel_rfl) (by kernel_rfl) (by kernel_rfl)
theorem tg47 : TGood Tryz.prog 47 ti47 := tgood (j := Tryz.t47) (z := Tryz.t47.zero.getD .nilIface) (by kernel_rfl) Tryz.underlying47 (by kernel_rfl) (by kernel_rfl) (by kernel_rfl) (by kernel_rfl) (by kernel_rfl)
theorem tg49 : TGood Tryz.prog 49 ti49 := tgood (j := Tryz.t49) (z := Tryz.t49.zero.getD .nilIface) (by kernel_rfl) Tryz.underlying49 (by kernel_rfl) (by kernel_rfl) (by kernel_rfl) (by kernel_rfl) (by kernel_rfl)
theorem tg50 : TGood Tryz.prog 50 ti50 := tgood (j := Tryz.t50) (z := Tryz.t50.zero.getD .nilIface) (by kernel_rfl) Tryz.underlying50 (by kernel_rfl) (by kernel_rfl) (by kernel_rfl) (by kernel_rfl) (by kernel_rfl)
theorem tg52 : TGood Tryz.prog 52 ti52 := tgood (j := Tryz.t52) (z := Tryz.t52.zero.getD .nilIface) (by kernel_rfl) Tryz.underlying52 (by kernel_rfl) (by kernel_rfl) (by kernel_rfl) (by kernel_rfl) (by kernel_rfl)
theorem tg54 : TGood Tryz.prog 54 ti54 := tgood (j := Tryz.t54) (z := Tryz.t54.zero.getD .nilIface) (by kernel_rfl) Tryz.underlying54 (by kernel_rfl) (by kernel_rfl) (by kernel_rfl) (by kernel_rfl) (by kernel_rfl)
theorem tg55 : TGood Tryz.prog 55 ti55 := tgood (j := Tryz.t55) (z := Tryz.t55.zero.getD .nilIface) (by kernel_rfl) Tryz.underlying55 (by kernel_rfl) (by kernel_rfl) (by kernel_rfl) (by kernel_rfl) (by kernel_rfl)
theorem tg57 : TGood Tryz.prog 57 ti57 := tgood (j := Tryz.t57) (z := Tryz.t57.zero.getD .nilIface) (by kernel_rfl) Tryz.underlying57 (by kernel_rfl) (by kernel_rfl) (by kernel_rfl) (by kernel_rfl) (by kernel_rfl)
theorem tg61 : TGood Tryz.prog 61 ti61 := tgood (j := Tryz.t61) (z := Tryz.t61.zero.getD .nilIface) (by kernel_rfl) Tryz.underlying61 (by kernel_rfl) (by kernel_rfl) (by kernel_rfl) (by kernel_rfl) (by kernel_rfl)
theorem tg62 : TGood Tryz.prog 62 ti62 := tgood (j := Tryz.t62) (z := Tryz.t62.zero.getD .nilIface) (by kernel_rfl) Tryz.underlying62 (by kernel_rfl) (by kernel_rfl) (by kernel_rfl) (by kernel_rfl) (by kernel_rfl)
theorem tg63 : TGood Tryz.prog 63 ti63 := tgood (j := Tryz.t63) (z := Tryz.t63.zero.getD .nilIface) (by kernel_rfl) Tryz.underlying63 (by kernel_rfl) (by kernel_rfl) (by kernel_rfl) (by kernel_rfl) (by kernel_rfl)
theorem tg65 : TGood Tryz.prog 65 ti65 := tgood (j := Tryz.t65) (z := Tryz.t65.zero.getD .nilIface) (by kernel_rfl) Tryz.underlying65 (by kernel_rfl) (by kernel_rfl) (by kernel_rfl) (by kernel_rfl) (by kernel_rfl)
theorem tg72 : TGood Tryz.prog 72 ti72 := tgood (j := Tryz.t72) (z := Tryz.t72.zero.getD .nilIface) (by kernel_rfl) Tryz.underlying72 (by kernel_rfl) (by kernel_rfl) (by kernel_rfl) (by kernel_rfl) (by kernel_rfl)
theorem tg79 : TGood Tryz.prog 79 ti79 := tgood (j := Tryz.t79) (z := Tryz.t79.zero.getD .nilIface) (by kernel_rfl) Tryz.underlying79 (by kernel_rfl) (by kernel_rfl) (by kernel_rfl) (by kernel_rfl) (by kernel_rfl)
theorem tg80 : TGood Tryz.prog 80 ti80 := tgood (j := Tryz.t80) (z := Tryz.t80.zero.getD .nilIface) (by kernel_rfl) Tryz.underlying80 (by kernel_rfl) (by kernel_rfl) (by kernel_rfl) (by kernel_rfl) (by kernel_rfl)
theorem tg81 : TGood Tryz.prog 81 ti81 := tgood (j := Tryz.t81) (z := Tryz.t81.zero.getD .nilIface) (by kernel_rfl) Tryz.underlying81 (by kernel_rfl) (by kernel_rfl) (by kernel_rfl) (by kernel_rfl) (by kernel_rfl)
theorem tg83 : TGood Tryz.prog 83 ti83 := tgood (j := Tryz.t83) (z := Tryz.t83.zero.getD .nilIface) (by kernel_rfl) Tryz.underlying83 (by kernel_rfl) (by kernel_rfl) (by kernel_rfl) (by kernel_rfl) (by kernel_rfl)
theorem tg84 : TGood Tryz.prog 84 ti84 := tgood (j := Tryz.t84) (z := Tryz.t84.zero.getD .nilIface) (by kernel_rfl) Tryz.underlying84 (by kernel_rfl) (by kernel_rfl) (by kernel_rfl) (by kernel_rfl) (by kernel_rfl)
theorem tg86 : TGood Tryz.prog 86 ti86 := tgood (j := Tryz.t86) (z := Tryz.t86.zero.getD .nilIface) (by kernel_rfl) Tryz.underlying86 (by kernel_rfl) (by kernel_rfl) (by kernel_rfl) (by kernel_rfl) (by kernel_rfl)
theorem tg90 : TGood Tryz.prog 90 ti90 := tgood (j := Tryz.t90) (z := Tryz.t90.zero.getD .nilIface) (by kernel_rfl) Tryz.underlying90 (by kernel_rfl) (by kernel_rfl) (by kernel_rfl) (by kernel_rfl) (by kernel_rfl)
theorem tg91 : TGood Tryz.prog 91 ti91 := tgood (j := Tryz.t91) (z := Tryz.t91.zero.getD .nilIface) (by kernel_rfl) Tryz.underlying91 (by kernel_rfl) (by kernel_rfl) (by kernel_rfl) (by kernel_rfl) (by kernel_rfl)
theorem tg93 : TGood Tryz.prog 93 ti93 := tgood (j := Tryz.t93) (z := Tryz.t93.zero.getD .nilIface) (by kernel_rfl) Tryz.underlying93 (by kernel_rfl) (by kernel_rfl) (by kernel_rfl) (by kernel_rfl) (by kernel_rfl)
theorem tg94 : TGood Tryz.prog 94 ti94 := tgood (j := Tryz.t94) (z := Tryz.t94.zero.getD .nilIface) (by kernel_rfl) Tryz.underlying94 (by kernel_rfl) (by kernel_rfl) (by kernel_rfl) (by kernel_rfl) (by kernel_rfl)
theorem tg101 : TGood Tryz.prog 101 ti101 := tgood (j := Tryz.t101) (z := Tryz.t101.zero.getD .nilIface) (by kernel_rfl) Tryz.underlying101 (by kernel_rfl) (by kernel_rfl) (by kernel_rfl) (by kernel_rfl) (by kernel_rfl)
theorem tg104 : TGood Tryz.prog 104 ti104 := tgood (j := Tryz.t104) (z := Tryz.t104.zero.getD .nilIface) (by kernel_rfl) Tryz.underlying104 (by kernel_rfl) (by kernel_rfl) (by kernel_rfl) (by kernel_rfl) (by kernel_rfl)
theorem tg107 : TGood Tryz.prog 107 ti107 := tgood (j := Tryz.t107) (z := Tryz.t107.zero.getD .nilIface) (by kernel_rfl) Tryz.underlying107 (by kernel_rfl) (by kernel_rfl) (by kernel_rfl) (by kernel_rfl) (by kernel_rfl)
theorem tg126 : TGood Tryz.prog 126 ti126 := tgood (j := Tryz.t126) (z := Tryz.t126.zero.getD .nilIface) (by kernel_rfl) Tryz.underlying126 (by kernel_rfl) (by kernel_rfl) (by kernel_rfl) (by kernel_rfl) (by kernel_rfl)
theorem tg142 : TGood Tryz.prog 142 ti142 := tgood (j := Tryz.t142) (z := Tryz.t142.zero.getD .nilIface) (by kernel_rfl) Tryz.underlying142 (by kernel_rfl) (by kernel_rfl) (by kernel_rfl) (by kernel_rfl) (by kernel_rfl)
theorem tg143 : TGood Tryz.prog 143 ti143 := tgood (j := Tryz.t143) (z := Tryz.t143.zero.getD .nilIface) (by kernel_rfl) Tryz.underlying143 (by kernel_rfl) (by kernel_rfl) (by kernel_rfl) (by kernel_rfl) (by kernel_rfl)
theorem tg144 : TGood Tryz.prog 144 ti144 := tgood (j := Tryz.t144) (z := Tryz.t144.zero.getD .nilIface) (by kernel_rfl) Tryz.underlying144 (by kernel_rfl) (by kernel_rfl) (by kernel_rfl) (by kernel_rfl) (by kernel_rfl)
theorem tg146 : TGood Tryz.prog 146 ti146 := tgood (j := Tryz.t146) (z := Tryz.t146.zero.getD .nilIface) (by kernel_rfl) Tryz.underlying146 (by kernel_rfl) (by kernel_rfl) (by kernel_rfl) (by kernel_rfl) (by kernel_rfl)
theorem tg150 : TGood Tryz.prog 150 ti150 := tgood (j := Tryz.t150) (z := Tryz.t150.zero.getD .nilIface) (by kernel_rfl) Tryz.underlying150 (by kernel_rfl) (by kernel_rfl) (by kernel_rfl) (by kernel_rfl) (by kernel_rfl)
theorem tg152 : TGood Tryz.prog 152 ti152 := tgood (j := Tryz.t152) (z := Tryz.t152.zero.getD .nilIface) (by kernel_rfl) Tryz.underlying152 (by kernel_rfl) (by kernel_rfl) (by kernel_rfl) (by kernel_rfl) (by kernel_rfl)
theorem tg159 : TGood Tryz.prog 159 ti159 := tgood (j := Tryz.t159) (z := Tryz.t159.zero.getD .nilIface) (by kernel_rfl) Tryz.underlying159 (by kernel_rfl) (by kernel_rfl) (by kernel_rfl) (by kernel_rfl) (by kernel_rfl)
theorem tg161 : TGood Tryz.prog 161 ti161 := tgood (j := Tryz.t161) (z := Tryz.t161.zero.getD .nilIface) (by kernel_rfl) Tryz.underlying161 (by kernel_rfl) (by kernel_rfl) (by kernel_rfl) (by kernel_rfl) (by kernel_rfl)
theorem tg164 : TGood Tryz.prog 164 ti164 := tgood (j := Tryz.t164) (z := Tryz.t164.zero.getD .nilIface) (by kernel_rfl) Tryz.underlying164 (by kernel_rfl) (by kernel_rfl) (by kernel_rfl) (by kernel_rfl) (by kernel_rfl)
theorem tg166 : TGood Tryz.prog 166 ti166 := tgood (j := Tryz.t166) (z := Tryz.t166.zero.getD .nilIface) (by kernel_rfl) Tryz.underlying166 (by kernel_rfl) (by kernel_rfl) (by kernel_rfl) (by kernel_rfl) (by kernel_rfl)
theorem tg168 : TGood Tryz.prog 168 ti168 := tgood (j := Tryz.t168) (z := Tryz.t168.zero.getD .nilIface) (by kernel_rfl) Tryz.underlying168 (by kernel_rfl) (by kernel_rfl) (by kernel_rfl) (by kernel_rfl) (by kernel_rfl)
theorem tg190 : TGood Tryz.prog 190 ti190 := tgood (j := Tryz.t190) (z := Tryz.t190.zero.getD .nilIface) (by kernel_rfl) Tryz.underlying190 (by kernel_rfl) (by kernel_rfl) (by kernel_rfl) (by kernel_rfl) (by kernel_rfl)
theorem tg192 : TGood Tryz.prog 192 ti192 := tgood (j := Tryz.t192) (z := Tryz.t192.zero.getD .nilIface) (by kernel_rfl) Tryz.underlying192 (by kernel_rfl) (by kernel_rfl) (by kernel_rfl) (by kernel_rfl) (by kernel_rfl)
theorem tg196 : TGood Tryz.prog 196 ti196 := tgood (j := Tryz.t196) (z := Tryz.t196.zero.getD .nilIface) (by kernel_rfl) Tryz.underlying196 (by kernel_rfl) (by kernel_rfl) (by kernel_rfl) (by kernel_rfl) (by kernel_rfl)
theorem tg205 : TGood Tryz.prog 205 ti205 := tgood (j := Tryz.t205) (z := Tryz.t205.zero.getD .nilIface) (by kernel_rfl) Tryz.underlying205 (by kernel_rfl) (by kernel_rfl) (by kernel_rfl) (by kernel_rfl) (by kernel_rfl)
theorem tg207 : TGood Tryz.prog 207 ti207 := tgood (j := Tryz.t207) (z := Tryz.t207.zero.getD .nilIface) (by kernel_rfl) Tryz.underlying207 (by kernel_rfl) (by kernel_rfl) (by kernel_rfl) (by kernel_rfl) (by kernel_rfl)
theorem tg215 : TGood Tryz.prog 215 ti215 := tgood (j := Tryz.t215) (z := Tryz.t215.zero.getD .nilIface) (by kernel_rfl) Tryz.underlying215 (by kernel_rfl) (by kernel_rfl) (by kernel_rfl) (by kernel_rfl) (by kernel_rfl)
theorem tg226 : TGood Tryz.prog 226 ti226 := tgood (j := Tryz.t226) (z := Tryz.t226.zero.getD .nilIface) (by kernel_rfl) Tryz.underlying226 (by kernel_rfl) (by kernel_rfl) (by kernel_rfl) (by kernel_rfl) (by kernel_rfl)
theorem tg229 : TGood Tryz.prog 229 ti229 := tgood (j := Tryz.t229) (z := Tryz.t229.zero.getD .nilIface) (by kernel_rfl) Tryz.underlying229 (by kernel_rfl) (by kernel_rfl) (by kernel_rfl) (by kernel_rfl) (by kernel_rfl)
theorem tg232 : TGood Tryz.prog 232 ti232 := tgood (j := Tryz.t232) (z := Tryz.t232.zero.getD .nilIface) (by kernel_rfl) Tryz.underlying232 (by kernel_rfl) (by kernel_rfl) (by kernel_rfl) (by kernel_rfl) (by kernel_rfl)
theorem tg235 : TGood Tryz.prog 235 ti235 := tgood (j := Tryz.t235) (z := Tryz.t235.zero.getD .nilIface) (by kernel_rfl) Tryz.underlying235 (by kernel_rfl) (by kernel_rfl) (by kernel_rfl) (by kernel_rfl) (by kernel_rfl)
theorem tg242 : TGood Tryz.prog 242 ti242 := tgood (j := Tryz.t242) (z := Tryz.t242.zero.getD .nilIface) (by kernel_rfl) Tryz.underlying242 (by kernel_rfl) (by kernel_rfl) (by kernel_rfl) (by kernel_rfl) (by kernel_rfl)
theorem tg251 : TGood Tryz.prog 251 ti251 := tgood (j := Tryz.t251) (z := Tryz.t251.zero.getD .nilIface) (by kernel_rfl) Tryz.underlying251 (by kernel_rfl) (by kernel_rfl) (by kernel_rfl) (by kernel_rfl) (by kernel_rfl)
theorem tg273 : TGood Tryz.prog 273 ti273 := tgood (j := Tryz.t273) (z := Tryz.t273.zero.getD .nilIface) (by kernel_rfl) Tryz.underlying273 (by kernel_rfl) (by kernel_rfl) (by kernel_rfl) (by kernel_rfl) (by kernel_rfl)
theorem tg283 : TGood Tryz.prog 283 ti283 := tgood (j := Tryz.t283) (z := Tryz.t283.zero.getD .nilIface) (by kernel_rfl) Tryz.underlying283 (by kernel_rfl) (by kernel_rfl) (by kernel_rfl) (by kernel_rfl) (by kernel_rfl)
theorem tg284 : TGood Tryz.prog 284 ti284 := tgood (j := Tryz.t284) (z := Tryz.t284.zero.getD .nilIface) (by kernel_rfl) Tryz.underlying284 (by kernel_rfl) (by kernel_rfl) (by kernel_rfl) (by kernel_rfl) (by kernel_rfl)
theorem tg286 : TGood Tryz.prog 286 ti286 := tgood (j := Tryz.t286) (z := Tryz.t286.zero.getD .nilIface) (by kernel_rfl) Tryz.underlying286 (by kernel_rfl) (by kernel_rfl) (by kernel_rfl) (by kernel_rfl) (by kernel_rfl)
theorem tg288 : TGood Tryz.prog 288 ti288 := tgood (j := Tryz.t288) (z := Tryz.t288.zero.getD .nilIface) (by kernel_rfl) Tryz.underlying288 (by kernel_rfl) (by kernel_rfl) (by kernel_rfl) (by kernel_rfl) (by kernel_rfl)
theorem tg292 : TGood Tryz.prog 292 ti292 := tgood (j := Tryz.t292) (z := Tryz.t292.zero.getD .nilIface) (by kernel_rfl) Tryz.underlying292 (by kernel_rfl) (by kernel_rfl) (by kernel_rfl) (by kernel_rfl) (by kernel_rfl)
theorem tg294 : TGood Tryz.prog 294 ti294 := tgood (j := Tryz.t294) (z := Tryz.t294.zero.getD .nilIface) (by kernel_rfl) Tryz.underlying294 (by kernel_rfl) (by kernel_rfl) (by kernel_rfl) (by kernel_rfl) (by kernel_rfl)
theorem tg300 : TGood Tryz.prog 300 ti300 := tgood (j := Tryz.t300) (z := Tryz.t300.zero.getD .nilIface) (by kernel_rfl) Tryz.underlying300 (by kernel_rfl) (by kernel_rfl) (by kernel_rfl) (by kernel_rfl) (by kernel_rfl)
theorem tg302 : TGood Tryz.prog 302 ti302 := tgood (j := Tryz.t302) (z := Tryz.t302.zero.getD .nilIface) (by kernel_rfl) Tryz.underlying302 (by kernel_rfl) (by kernel_rfl) (by kernel_rfl) (by kernel_rfl) (by kernel_rfl)
theorem tg306 : TGood Tryz.prog 306 ti306 := tgood (j := Tryz.t306) (z := Tryz.t306.zero.getD .nilIface) (by kernel_rfl) Tryz.underlying306 (by kernel_rfl) (by kernel_rfl) (by kernel_rfl) (by kernel_rfl) (by kernel_rfl)
theorem tg318 : TGood Tryz.prog 318 ti318 := tgood (j := Tryz.t318) (z := Tryz.t318.zero.getD .nilIface) (by kernel_rfl) Tryz.underlying318 (by kernel_rfl) (by kernel_rfl) (by kernel_rfl) (by kernel_rfl) (by kernel_rfl)
theorem tg322 : TGood Tryz.prog 322 ti322 := tgood (j := Tryz.t322) (z := Tryz.t322.zero.getD .nilIface) (by kernel_rfl) Tryz.underlying322 (by kernel_rfl) (by kernel_rfl) (by kernel_rfl) (by kernel_rfl) (by kernel_rfl)
theorem tg346 : TGood Tryz.prog 346 ti346 := tgood (j := Tryz.t346) (z := Tryz.t346.zero.getD .nilIface) (by kernel_rfl) Tryz.underlying346 (by kernel_rfl) (by kernel_rfl) (by kernel_rfl) (by kernel_rfl) (by kernel_rfl)
theorem tg348 : TGood Tryz.prog 348 ti348 := tgood (j := Tryz.t348) (z := Tryz.t348.zero.getD .nilIface) (by kernel_rfl) Tryz.underlying348 (by kernel_rfl) (by kernel_rfl) (by kernel_rfl) (by kernel_rfl) (by kernel_rfl)
theorem tg356 : TGood Tryz.prog 356 ti356 := tgood (j := Tryz.t356) (z := Tryz.t356.zero.getD .nilIface) (by kernel_rfl) Tryz.underlying356 (by kernel_rfl) (by kernel_rfl) (by kernel_rfl) (by kernel_rfl) (by kernel_rfl)
theorem tg364 : TGood Tryz.prog 364 ti364 := tgood (j := Tryz.t364) (z := Tryz.t364.zero.getD .nilIface) (by kernel_rfl) Tryz.underlying364 (by kernel_rfl) (by kernel_rfl) (by kernel_rfl) (by kernel_rfl) (by kernel_rfl)
theorem tg371 : TGood Tryz.prog 371 ti371 := tgood (j := Tryz.t371) (z := Tryz.t371.zero.getD .nilIface) (by kernel_rfl) Tryz.underlying371 (by kernel_rfl) (by kernel_rfl) (by kernel_rfl) (by kernel_rfl) (by kernel_rfl)
theorem tg375 : TGood Tryz.prog 375 ti375 := tgood (j := Tryz.t375) (z := Tryz.t375.zero.getD .nilIface) (by kernel_rfl) Tryz.underlying375 (by kernel_rfl) (by kernel_rfl) (by kernel_rfl) (by kernel_rfl) (by kernel_rfl)
theorem tg382 : TGood Tryz.prog 382 ti382 := tgood (j := Tryz.t382) (z := Tryz.t382.zero.getD .nilIface) (by kernel_rfl) Tryz.underlying382 (by kernel_rfl) (by kernel_rfl) (by kernel_rfl) (by kernel_rfl) (by kernel_rfl)
theorem tg383 : TGood Tryz.prog 383 ti383 := tgood (j := Tryz.t383) (z := Tryz.t383.zero.getD .nilIface) (by kernel_rfl) Tryz.underlying383 (by kernel_rfl) (by kernel_rfl) (by kernel_rfl) (by kernel_rfl) (by kernel_rfl)
theorem tg384 : TGood Tryz.prog 384 ti384 := tgood (j := Tryz.t384) (z := Tryz.t384.zero.getD .nilIface) (by kernel_rfl) Tryz.underlying384 (by kernel_rfl) (by kernel_rfl) (by kernel_rfl) (by kernel_rfl) (by kernel_rfl)
theorem tg386 : TGood Tryz.prog 386 ti386 := tgood (j := Tryz.t386) (z := Tryz.t386.zero.getD .nilIface) (by kernel_rfl) Tryz.underlying386 (by kernel_rfl) (by kernel_rfl) (by kernel_rfl) (by kernel_rfl) (by kernel_rfl)
theorem tg387 : TGood Tryz.prog 387 ti387 := tgood (j := Tryz.t387) (z := Tryz.t387.zero.getD .nilIface) (by kernel_rfl) Tryz.underlying387 (by kernel_rfl) (by kernel_rfl) (by kernel_rfl) (by kernel_rfl) (by kernel_rfl)
theorem tg388 : TGood Tryz.prog 388 ti388 := tgood (j := Tryz.t388) (z := Tryz.t388.zero.getD .nilIface) (by kernel_rfl) Tryz.underlying388 (by kernel_rfl) (by kernel_rfl) (by kernel_rfl) (by kernel_rfl) (by kernel_rfl)
theorem tg390 : TGood Tryz.prog 390 ti390 := tgood (j := Tryz.t390) (z := Tryz.t390.zero.getD .nilIface) (by kernel_rfl) Tryz.underlying390 (by kernel_rfl) (by kernel_rfl) (by kernel_rfl) (by kernel_rfl) (by kernel_rfl)
theorem tg394 : TGood Tryz.prog 394 ti394 := tgood (j := Tryz.t394) (z := Tryz.t394.zero.getD .nilIface) (by kernel_rfl) Tryz.underlying394 (by kernel_rfl) (by kernel_rfl) (by kernel_rfl) (by kernel_rfl) (by kernel_rfl)
theorem tg395 : TGood Tryz.prog 395 ti395 := tgood (j := Tryz.t395) (z := Tryz.t395.zero.getD .nilIface) (by kernel_rfl) Tryz.underlying395 (by kernel_rfl) (by kernel_rfl) (by kernel_rfl) (by kernel_rfl) (by kernel_rfl)
theorem tyAll : TrAll (TGood Tryz.prog) TYT id := ⟨⟨⟨⟨⟨⟨⟨⟨trivial, trivial, ⟨trivial, tg383, trivial⟩⟩, tg63, trivial⟩, trivial, ⟨⟨trivial, tg159, trivial⟩, trivial, trivial⟩⟩, trivial, ⟨⟨⟨trivial, tg143, trivial⟩, tg79, ⟨trivial, tg207, trivial⟩⟩, tg47, trivial⟩⟩, trivial, ⟨⟨trivial, tg39, trivial⟩, trivial, ⟨⟨trivial, trivial, ⟨trivial, tg215, trivial⟩⟩, tg55, ⟨trivial, trivial, ⟨⟨trivial, tg375, trivial⟩, trivial, trivial⟩⟩⟩⟩⟩, tg3, ⟨⟨⟨⟨⟨trivial, trivial, ⟨trivial, tg387, trivial⟩⟩, trivial, trivial⟩, trivial, trivial⟩, trivial, ⟨⟨trivial, tg83, trivial⟩, trivial, ⟨trivial, trivial, ⟨⟨trivial, tg371, trivial⟩, trivial, trivial⟩⟩⟩⟩, trivial, ⟨⟨⟨⟨trivial, trivial, ⟨trivial, tg395, trivial⟩⟩, trivial, trivial⟩, tg43, ⟨trivial, tg107, ⟨trivial, tg235, trivial⟩⟩⟩, trivial, ⟨⟨⟨⟨trivial, tg283, trivial⟩, trivial, trivial⟩, tg91, trivial⟩, trivial, ⟨trivial, trivial, ⟨trivial, tg251, trivial⟩⟩⟩⟩⟩⟩, trivial, ⟨⟨⟨⟨⟨trivial, tg65, trivial⟩, tg33, ⟨⟨trivial, tg161, trivial⟩, trivial, trivial⟩⟩, trivial, ⟨⟨⟨⟨trivial, tg273, trivial⟩, trivial, trivial⟩, tg81, trivial⟩, tg49, trivial⟩⟩, tg9, ⟨trivial, tg25, ⟨trivial, tg57, trivial⟩⟩⟩, tg5, ⟨⟨⟨trivial, tg37, ⟨trivial, tg101, ⟨trivial, tg229, trivial⟩⟩⟩, tg21, trivial⟩, trivial, ⟨⟨⟨trivial, trivial, ⟨trivial, tg205, trivial⟩⟩, trivial, trivial⟩, tg29, ⟨⟨trivial, tg93, trivial⟩, tg61, trivial⟩⟩⟩⟩⟩, trivial, ⟨⟨⟨⟨⟨⟨⟨trivial, trivial, ⟨trivial, tg384, trivial⟩⟩, trivial, ⟨trivial, tg192, trivial⟩⟩, trivial, ⟨⟨⟨trivial, tg288, trivial⟩, trivial, trivial⟩, trivial, trivial⟩⟩, trivial, ⟨⟨⟨trivial, tg144, trivial⟩, tg80, trivial⟩, trivial, trivial⟩⟩, trivial, ⟨⟨⟨trivial, tg72, trivial⟩, trivial, ⟨⟨trivial, tg168, trivial⟩, tg104, ⟨trivial, tg232, trivial⟩⟩⟩, tg24, ⟨⟨⟨trivial, tg152, trivial⟩, trivial, trivial⟩, trivial, trivial⟩⟩⟩, tg4, ⟨⟨⟨⟨⟨trivial, trivial, ⟨trivial, tg388, trivial⟩⟩, trivial, ⟨trivial, tg196, trivial⟩⟩, trivial, ⟨⟨⟨trivial, tg292, trivial⟩, tg164, trivial⟩, trivial, ⟨⟨trivial, tg356, trivial⟩, trivial, trivial⟩⟩⟩, trivial, ⟨⟨trivial, tg84, trivial⟩, tg52, trivial⟩⟩, trivial, ⟨⟨trivial, trivial, ⟨⟨⟨trivial, tg300, trivial⟩, trivial, trivial⟩, trivial, ⟨⟨trivial, tg364, trivial⟩, trivial, trivial⟩⟩⟩, trivial, ⟨⟨⟨⟨trivial, tg284, trivial⟩, trivial, trivial⟩, trivial, ⟨⟨trivial, tg348, trivial⟩, trivial, trivial⟩⟩, trivial, trivial⟩⟩⟩⟩, tg2, ⟨⟨⟨⟨⟨⟨trivial, trivial, ⟨trivial, tg386, trivial⟩⟩, trivial, ⟨⟨trivial, tg322, trivial⟩, trivial, trivial⟩⟩, tg34, ⟨trivial, trivial, ⟨trivial, tg226, trivial⟩⟩⟩, trivial, ⟨⟨⟨trivial, tg146, trivial⟩, trivial, trivial⟩, tg50, ⟨⟨⟨trivial, tg306, trivial⟩, trivial, trivial⟩, trivial, ⟨trivial, tg242, trivial⟩⟩⟩⟩, trivial, ⟨⟨⟨⟨trivial, trivial, ⟨trivial, tg394, trivial⟩⟩, trivial, trivial⟩, tg42, trivial⟩, tg26, ⟨⟨trivial, tg90, ⟨⟨trivial, tg346, trivial⟩, trivial, trivial⟩⟩, trivial, trivial⟩⟩⟩, trivial, ⟨⟨⟨⟨⟨trivial, trivial, ⟨trivial, tg390, trivial⟩⟩, trivial, trivial⟩, tg38, ⟨⟨⟨trivial, tg294, trivial⟩, tg166, trivial⟩, trivial, trivial⟩⟩, trivial, ⟨⟨⟨trivial, tg150, trivial⟩, tg86, trivial⟩, tg54, trivial⟩⟩, trivial, ⟨⟨⟨⟨trivial, tg142, trivial⟩, trivial, trivial⟩, tg46, ⟨⟨⟨trivial, tg302, trivial⟩, trivial, trivial⟩, trivial, trivial⟩⟩, trivial, ⟨⟨⟨⟨trivial, tg286, trivial⟩, trivial, trivial⟩, tg94, trivial⟩, tg62, ⟨⟨⟨trivial, tg318, trivial⟩, tg190, trivial⟩, tg126, ⟨⟨trivial, tg382, trivial⟩, trivial, trivial⟩⟩⟩⟩⟩⟩⟩⟩
theorem fl42 : FlatT Tryz.prog 42 9 := ⟨⟨_, Tryz.underlying42, ⟨rfl, by decide, .inl ⟨rfl, _, Tryz.underlying3⟩, ⟨rfl, by decide, .inr (.inl ⟨rfl, Tryz.underlying9⟩), rfl⟩⟩⟩, by kernel_rfl, by kernel_rfl⟩
theorem fl49 : FlatT Tryz.prog 49 938 := ⟨⟨_, Tryz.underlying49, ⟨rfl, by decide, .inr (.inl ⟨rfl, Tryz.underlying9⟩), ⟨rfl, by decide, .inr (.inl ⟨rfl, Tryz.underlying9⟩), ⟨rfl, by decide, .inr (.inl ⟨rfl, Tryz.underlying9⟩), ⟨rfl, by decide, .inr (.inl ⟨rfl, Tryz.underlying9⟩), ⟨rfl, by decide, .inr (.inr ⟨rfl, Tryz.underlying4⟩), rfl⟩⟩⟩⟩⟩⟩, by kernel_rfl, by kernel_rfl⟩
theorem fl61 : FlatT Tryz.prog 61 42 := ⟨⟨_, Tryz.underlying61, ⟨rfl, by decide, .inr (.inl ⟨rfl, Tryz.underlying9⟩), ⟨rfl, by decide, .inr (.inl ⟨rfl, Tryz.underlying9⟩), ⟨rfl, by decide, .inr (.inl ⟨rfl, Tryz.underlying9⟩), rfl⟩⟩⟩⟩, by kernel_rfl, by kernel_rfl⟩
theorem fl72 : FlatT Tryz.prog 72 42 := ⟨⟨_, Tryz.underlying72, ⟨rfl, by decide, .inr (.inl ⟨rfl, Tryz.underlying9⟩), ⟨rfl, by decide, .inr (.inl ⟨rfl, Tryz.underlying9⟩), ⟨rfl, by decide, .inr (.inl ⟨rfl, Tryz.underlying9⟩), rfl⟩⟩⟩⟩, by kernel_rfl, by kernel_rfl⟩
theorem fl79 : FlatT Tryz.prog 79 10 := ⟨⟨_, Tryz.underlying79, ⟨rfl, by decide, .inr (.inl ⟨rfl, Tryz.underlying9⟩), ⟨rfl, by decide, .inr (.inl ⟨rfl, Tryz.underlying9⟩), rfl⟩⟩⟩, by kernel_rfl, by kernel_rfl⟩
theorem fl192 : FlatT Tryz.prog 192 5 := ⟨⟨_, Tryz.underlying192, ⟨rfl, by decide, .inl ⟨rfl, _, Tryz.underlying3⟩, ⟨rfl, by decide, .inl ⟨rfl, _, Tryz.underlying3⟩, rfl⟩⟩⟩, by kernel_rfl, by kernel_rfl⟩
theorem fl207 : FlatT Tryz.prog 207 21 := ⟨⟨_, Tryz.underlying207, ⟨rfl, by decide, .inl ⟨rfl, _, Tryz.underlying3⟩, ⟨rfl, by decide, .inl ⟨rfl, _, Tryz.underlying3⟩, ⟨rfl, by decide, .inl ⟨rfl, _, Tryz.underlying3⟩, rfl⟩⟩⟩⟩, by kernel_rfl, by kernel_rfl⟩
theorem fl386 : FlatT Tryz.prog 386 5 := ⟨⟨_, Tryz.underlying386, ⟨rfl, by decide, .inl ⟨rfl, _, Tryz.underlying5⟩, ⟨rfl, by decide, .inl ⟨rfl, _, Tryz.underlying5⟩, rfl⟩⟩⟩, by kernel_rfl, by kernel_rfl⟩
theorem fl390 : FlatT Tryz.prog 390 2 := ⟨⟨_, Tryz.underlying390, ⟨rfl, by decide, .inr (.inl ⟨rfl, Tryz.underlying9⟩), rfl⟩⟩, by kernel_rfl, by kernel_rfl⟩
theorem flAll : TrAll (FlatT Tryz.prog) FLT id := ⟨⟨⟨⟨⟨trivial, trivial, ⟨⟨trivial, fl79, ⟨trivial, fl207, trivial⟩⟩, trivial, trivial⟩⟩, trivial, trivial⟩, trivial, trivial⟩, trivial, ⟨⟨⟨trivial, trivial, ⟨trivial, fl49, trivial⟩⟩, trivial, trivial⟩, trivial, ⟨trivial, trivial, ⟨trivial, trivial, ⟨trivial, fl61, trivial⟩⟩⟩⟩⟩, trivial, ⟨⟨⟨⟨⟨⟨trivial, trivial, ⟨trivial, fl192, trivial⟩⟩, trivial, trivial⟩, trivial, trivial⟩, trivial, ⟨⟨⟨trivial, fl72, trivial⟩, trivial, trivial⟩, trivial, trivial⟩⟩, trivial, trivial⟩, trivial, ⟨⟨⟨⟨⟨⟨trivial, trivial, ⟨trivial, fl386, trivial⟩⟩, trivial, trivial⟩, trivial, trivial⟩, trivial, trivial⟩, trivial, ⟨⟨trivial, fl42, trivial⟩, trivial, trivial⟩⟩, trivial, ⟨⟨⟨⟨⟨trivial, trivial, ⟨trivial, fl390, trivial⟩⟩, trivial, trivial⟩, trivial, trivial⟩, trivial, trivial⟩, trivial, trivial⟩⟩⟩⟩
theorem tok : TOK Tryz.prog T where
  ng := by rw [Tryz.globals_size]; decide
  ty t i h := tyAll.get h
  ixb := fun f hf => by
    have e : f = 287 := Nat.eq_of_beq_eq_true hf
    subst e
    exact ixb_of Tryz.func287 (by kernel_rfl) (by kernel_rfl) (by kernel_rfl) (by kernel_rfl)
  nesc := fun f hf => by
    have e : f = 256 := Nat.eq_of_beq_eq_true hf
    subst e
    exact nesc_of Tryz.func256 (by kernel_rfl) (by kernel_rfl) (by kernel_rfl) (by kernel_rfl)
  mnz f e hf := by
    have hf' : (if Nat.beq f 292 = true then some 5 else none) = some e := hf
    split at hf'
    · rename_i h
      injection hf' with he
      subst he
      have ef : f = 292 := Nat.eq_of_beq_eq_true h
      subst ef
      exact mnz_of (t := 126) (ps := #[3]) Tryz.func292 (by kernel_rfl) (by kernel_rfl) (by kernel_rfl) (by kernel_rfl) Tryz.underlying126
    · cases hf'
  lies u p hp count hc := by
    have hp0 : p ∈ (if Nat.beq u 166 then [(165, 2), (166, 2), (167, 3), (168, 3)] else [] : List (Nat × Nat)) := hp
    by_cases h166 : Nat.beq u 166 = true
    · have eu : u = 166 := Nat.eq_of_beq_eq_true h166
      subst eu
      have hp' : p ∈ [((165, 2) : Nat × Nat), ((166, 2) : Nat × Nat), ((167, 3) : Nat × Nat), ((168, 3) : Nat × Nat)] := hp
      simp only [List.mem_cons, List.mem_nil_iff, or_false] at hp'
      rcases hp' with rfl | rfl | rfl | rfl
      · exact lies_of (D := 1017) (by kernel_rfl) (by kernel_rfl) (by kernel_rfl) (by decide) count hc
      · exact lies_of (D := 1017) (by kernel_rfl) (by kernel_rfl) (by kernel_rfl) (by decide) count hc
      · exact lies_of (D := 1017) (by kernel_rfl) (by kernel_rfl) (by kernel_rfl) (by decide) count hc
      · exact lies_of (D := 1017) (by kernel_rfl) (by kernel_rfl) (by kernel_rfl) (by decide) count hc
    simp [h166] at hp0
  eqs t n hf ι xs ys a b r w ha hb h1 h2 he := by
    have hg : FLT.get t = some (n + 1) := flat_get hf
    exact FlatT.eqs (flAll.get hg) w ha hb h1 h2 he
  eqg t n hf := by
    have hg : FLT.get t = some (n + 1) := flat_get hf
    exact (flAll.get hg).hg
  ckey t n hf e ι a xs w ha h1 := by
    have hg : FLT.get t = some (n + 1) := flat_get hf
    exact FlatT.ckey (flAll.get hg) e w ha h1
theorem mix : Tryz.prog.follows .mixedOrders = true := by kernel_rfl
abbrev oA (d p : Nat) (x : AO X) : BS := .op ⟨some d, some (p, true), x⟩
abbrev oB (d p : Nat) (x : AO X) : BS := .op ⟨some d, some (p, false), x⟩
abbrev oC (x : AO X) : BS := .op ⟨none, none, x⟩
abbrev kJ (n : Int) : X := .k (.i .i64 n)
abbrev kF : X := .k (.b false)
abbrev kU : X := .k (.b true)
abbrev u0 : X := .t 0
abbrev u1 : X := .t 1
abbrev u2 : X := .t 2
abbrev u3 : X := .t 3
abbrev u4 : X := .t 4
abbrev u5 : X := .t 5
abbrev u6 : X := .t 6
abbrev u7 : X := .t 7
abbrev u8 : X := .t 8
abbrev u9 : X := .t 9
abbrev u10 : X := .t 10
abbrev u11 : X := .t 11
abbrev u12 : X := .t 12
abbrev u13 : X := .t 13
abbrev u14 : X := .t 14
abbrev u15 : X := .t 15
abbrev u16 : X := .t 16
abbrev u17 : X := .t 17
abbrev u18 : X := .t 18
abbrev u19 : X := .t 19
abbrev u20 : X := .t 20
abbrev u21 : X := .t 21
abbrev u22 : X := .t 22
abbrev u23 : X := .t 23
abbrev u24 : X := .t 24
abbrev u25 : X := .t 25
abbrev u26 : X := .t 26
abbrev u27 : X := .t 27
abbrev u28 : X := .t 28
abbrev u29 : X := .t 29
abbrev u30 : X := .t 30
abbrev u31 : X := .t 31
abbrev u32 : X := .t 32
abbrev u33 : X := .t 33
abbrev u34 : X := .t 34
abbrev u35 : X := .t 35
abbrev u36 : X := .t 36
abbrev u37 : X := .t 37
abbrev u38 : X := .t 38
abbrev u39 : X := .t 39
abbrev u40 : X := .t 40
abbrev u41 : X := .t 41
abbrev u42 : X := .t 42
abbrev u43 : X := .t 43
abbrev u44 : X := .t 44
abbrev u45 : X := .t 45
abbrev u46 : X := .t 46
abbrev u47 : X := .t 47
abbrev u48 : X := .t 48
abbrev u49 : X := .t 49
abbrev u50 : X := .t 50
abbrev u51 : X := .t 51
abbrev u52 : X := .t 52
abbrev u53 : X := .t 53
abbrev u54 : X := .t 54
abbrev u55 : X := .t 55
abbrev u56 : X := .t 56
abbrev u57 : X := .t 57
abbrev u58 : X := .t 58
abbrev u59 : X := .t 59
abbrev u60 : X := .t 60
abbrev u61 : X := .t 61
abbrev u62 : X := .t 62
abbrev u63 : X := .t 63
abbrev u64 : X := .t 64
abbrev u65 : X := .t 65
abbrev u66 : X := .t 66
abbrev u67 : X := .t 67
abbrev u68 : X := .t 68
abbrev u69 : X := .t 69
abbrev u70 : X := .t 70
abbrev u71 : X := .t 71
abbrev u72 : X := .t 72
abbrev u73 : X := .t 73
abbrev u74 : X := .t 74
abbrev u75 : X := .t 75
abbrev u76 : X := .t 76
abbrev u77 : X := .t 77
abbrev u78 : X := .t 78
abbrev u79 : X := .t 79
abbrev u80 : X := .t 80
abbrev u81 : X := .t 81
abbrev u82 : X := .t 82
abbrev u83 : X := .t 83
abbrev u84 : X := .t 84
abbrev u85 : X := .t 85
abbrev u86 : X := .t 86
abbrev u87 : X := .t 87
abbrev u88 : X := .t 88
abbrev u89 : X := .t 89
abbrev u90 : X := .t 90
abbrev u91 : X := .t 91
abbrev u92 : X := .t 92
abbrev u93 : X := .t 93
abbrev u94 : X := .t 94
abbrev u95 : X := .t 95
abbrev u96 : X := .t 96
abbrev u97 : X := .t 97
abbrev u98 : X := .t 98
abbrev u99 : X := .t 99
abbrev u100 : X := .t 100
abbrev u101 : X := .t 101
abbrev u102 : X := .t 102
abbrev u103 : X := .t 103
abbrev u104 : X := .t 104
abbrev u105 : X := .t 105
abbrev u106 : X := .t 106
abbrev u107 : X := .t 107
abbrev u108 : X := .t 108
abbrev u109 : X := .t 109
abbrev u110 : X := .t 110
abbrev u111 : X := .t 111
end Go.Proofs.YtmbpjpffafidhaaGreatDoor
