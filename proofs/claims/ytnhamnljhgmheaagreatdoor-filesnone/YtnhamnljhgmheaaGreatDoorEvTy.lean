import Derived.Test.YtnhamnljhgmheaaGreatDoorEvL6
import Derived.Test.YtnhamnljhgmheaaGreatDoorProg
namespace Go.Proofs.YtnhamnljhgmheaaGreatDoor
open Go.Ev
set_option maxRecDepth 100000
def ti1 : TI := ⟨.func #[] #[] false, 1, 8, [.fn]⟩
def ti2 : TI := ⟨.int .i64, 1, 8, [(.i .i64 0)]⟩
def ti3 : TI := ⟨.int .i64, 1, 8, [(.i .i64 0)]⟩
def ti4 : TI := ⟨.bool, 1, 1, [(.b false)]⟩
def ti5 : TI := ⟨.int .u8, 1, 1, [(.i .u8 0)]⟩
def ti6 : TI := ⟨.int .u8, 1, 1, [(.i .u8 0)]⟩
def ti7 : TI := ⟨.struct #[⟨ "x", 2, 0, false, "", "runtime", 0⟩, ⟨ "y", 3, 1, false, "", "runtime", 8⟩, ⟨ "signed", 4, 2, false, "", "runtime", 16⟩, ⟨ "code", 6, 3, false, "", "runtime", 17⟩], 4, 24, [(.i .i64 0), (.i .i64 0), (.b false), (.i .u8 0)]⟩
def ti8 : TI := ⟨.struct #[⟨ "x", 2, 0, false, "", "runtime", 0⟩, ⟨ "y", 3, 1, false, "", "runtime", 8⟩, ⟨ "signed", 4, 2, false, "", "runtime", 16⟩, ⟨ "code", 6, 3, false, "", "runtime", 17⟩], 4, 24, [(.i .i64 0), (.i .i64 0), (.b false), (.i .u8 0)]⟩
def ti9 : TI := ⟨.string, 1, 16, [(.s [])]⟩
def ti10 : TI := ⟨.string, 1, 16, [(.s [])]⟩
def ti11 : TI := ⟨.string, 1, 16, [(.s [])]⟩
def ti12 : TI := ⟨.int .u64, 1, 8, [(.i .u64 0)]⟩
def ti13 : TI := ⟨.struct #[⟨ "msg", 9, 0, false, "", "runtime", 0⟩, ⟨ "addr", 12, 1, false, "", "runtime", 16⟩], 2, 24, [(.s []), (.i .u64 0)]⟩
def ti14 : TI := ⟨.struct #[⟨ "msg", 9, 0, false, "", "runtime", 0⟩, ⟨ "addr", 12, 1, false, "", "runtime", 16⟩], 2, 24, [(.s []), (.i .u64 0)]⟩
def ti15 : TI := ⟨.pointer 366, 1, 8, [.pn]⟩
def ti16 : TI := ⟨.pointer 369, 1, 8, [.pn]⟩
def ti17 : TI := ⟨.pointer 376, 1, 8, [.pn]⟩
def ti18 : TI := ⟨.struct #[⟨ "typ", 17, 0, false, "", "internal/runtime/maps", 0⟩], 1, 8, [.pn]⟩
def ti19 : TI := ⟨.struct #[⟨ "typ", 17, 0, false, "", "internal/runtime/maps", 0⟩], 1, 8, [.pn]⟩
def ti20 : TI := ⟨.interface #[], 1, 16, [.inn]⟩
def ti21 : TI := ⟨.int .i32, 1, 4, [(.i .i32 0)]⟩
def ti22 : TI := ⟨.slice 64, 1, 24, [.sn]⟩
def ti23 : TI := ⟨.int .i64, 1, 8, [(.i .i64 0)]⟩
def ti25 : TI := ⟨.func #[9] #[22, 3, 23] false, 1, 8, [.fn]⟩
def ti26 : TI := ⟨.slice 88, 1, 24, [.sn]⟩
def ti27 : TI := ⟨.slice 85, 1, 24, [.sn]⟩
def ti28 : TI := ⟨.struct #[⟨ "Name", 9, 0, false, "", "", 0⟩, ⟨ "Obj", 9, 1, false, "", "", 16⟩, ⟨ "Rows", 26, 2, false, "", "", 32⟩, ⟨ "Cols", 27, 3, false, "", "", 56⟩], 4, 80, [(.s []), (.s []), .sn, .sn]⟩
def ti29 : TI := ⟨.struct #[⟨ "Name", 9, 0, false, "", "", 0⟩, ⟨ "Obj", 9, 1, false, "", "", 16⟩, ⟨ "Rows", 26, 2, false, "", "", 32⟩, ⟨ "Cols", 27, 3, false, "", "", 56⟩], 4, 80, [(.s []), (.s []), .sn, .sn]⟩
def ti31 : TI := ⟨.func #[9] #[29, 3, 23] false, 1, 8, [.fn]⟩
def ti32 : TI := ⟨.slice 147, 1, 24, [.sn]⟩
def ti34 : TI := ⟨.func #[9] #[9, 32, 3, 23] false, 1, 8, [.fn]⟩
def ti35 : TI := ⟨.slice 101, 1, 24, [.sn]⟩
def ti36 : TI := ⟨.struct #[⟨ "Kind", 3, 0, false, "", "", 0⟩, ⟨ "Groups", 35, 1, false, "", "", 8⟩], 2, 32, [(.i .i64 0), .sn]⟩
def ti37 : TI := ⟨.struct #[⟨ "Kind", 3, 0, false, "", "", 0⟩, ⟨ "Groups", 35, 1, false, "", "", 8⟩], 2, 32, [(.i .i64 0), .sn]⟩
def ti39 : TI := ⟨.func #[9] #[9, 37, 3, 23] false, 1, 8, [.fn]⟩
def ti40 : TI := ⟨.struct #[⟨ "Cols", 27, 0, false, "", "", 0⟩, ⟨ "Rows", 26, 1, false, "", "", 24⟩], 2, 48, [.sn, .sn]⟩
def ti41 : TI := ⟨.struct #[⟨ "Cols", 27, 0, false, "", "", 0⟩, ⟨ "Rows", 26, 1, false, "", "", 24⟩], 2, 48, [.sn, .sn]⟩
def ti42 : TI := ⟨.slice 86, 1, 24, [.sn]⟩
def ti43 : TI := ⟨.struct #[⟨ "First", 41, 0, false, "", "", 0⟩, ⟨ "Second", 41, 2, false, "", "", 48⟩, ⟨ "Tech", 42, 4, false, "", "", 96⟩], 5, 120, [.sn, .sn, .sn, .sn, .sn]⟩
def ti44 : TI := ⟨.struct #[⟨ "First", 41, 0, false, "", "", 0⟩, ⟨ "Second", 41, 2, false, "", "", 48⟩, ⟨ "Tech", 42, 4, false, "", "", 96⟩], 5, 120, [.sn, .sn, .sn, .sn, .sn]⟩
def ti46 : TI := ⟨.func #[29, 32] #[44, 23] false, 1, 8, [.fn]⟩
def ti47 : TI := ⟨.slice 97, 1, 24, [.sn]⟩
def ti49 : TI := ⟨.func #[29, 32, 37, 3] #[44, 47, 23] false, 1, 8, [.fn]⟩
def ti51 : TI := ⟨.func #[29] #[9, 4] false, 1, 8, [.fn]⟩
def ti53 : TI := ⟨.func #[37, 3] #[3, 4] false, 1, 8, [.fn]⟩
def ti54 : TI := ⟨.func #[] #[4] false, 1, 8, [.fn]⟩
def ti55 : TI := ⟨.func #[37] #[23] false, 1, 8, [.fn]⟩
def ti56 : TI := ⟨.func #[29] #[23] false, 1, 8, [.fn]⟩
def ti58 : TI := ⟨.func #[9, 9] #[9, 9, 4] false, 1, 8, [.fn]⟩
def ti59 : TI := ⟨.func #[9] #[23] false, 1, 8, [.fn]⟩
def ti60 : TI := ⟨.slice 9, 1, 24, [.sn]⟩
def ti61 : TI := ⟨.func #[9, 62] #[60] false, 1, 8, [.fn]⟩
def ti62 : TI := ⟨.func #[21] #[4] false, 1, 8, [.fn]⟩
def ti63 : TI := ⟨.struct #[⟨ "No", 3, 0, false, "", "", 0⟩, ⟨ "Head", 4, 1, false, "", "", 8⟩, ⟨ "Words", 60, 2, false, "", "", 16⟩], 3, 40, [(.i .i64 0), (.b false), .sn]⟩
def ti64 : TI := ⟨.struct #[⟨ "No", 3, 0, false, "", "", 0⟩, ⟨ "Head", 4, 1, false, "", "", 8⟩, ⟨ "Words", 60, 2, false, "", "", 16⟩], 3, 40, [(.i .i64 0), (.b false), .sn]⟩
def ti65 : TI := ⟨.pointer 69, 1, 8, [.pn]⟩
def ti66 : TI := ⟨.map 9 3, 1, 8, [.mn]⟩
def ti67 : TI := ⟨.map 9 4, 1, 8, [.mn]⟩
def ti68 : TI := ⟨.struct #[⟨ "c", 29, 0, false, "", "victualler/core", 0⟩, ⟨ "at", 3, 4, false, "", "victualler/core", 80⟩, ⟨ "rows", 66, 5, false, "", "victualler/core", 88⟩, ⟨ "cols", 66, 6, false, "", "victualler/core", 96⟩, ⟨ "seen", 67, 7, false, "", "victualler/core", 104⟩, ⟨ "integer", 4, 8, false, "", "victualler/core", 112⟩, ⟨ "l", 60, 9, false, "", "victualler/core", 120⟩, ⟨ "e", 23, 10, false, "", "victualler/core", 144⟩], 11, 152, [(.s []), (.s []), .sn, .sn, (.i .i64 0), .mn, .mn, .mn, (.b false), .sn, (.i .i64 0)]⟩
def ti69 : TI := ⟨.struct #[⟨ "c", 29, 0, false, "", "victualler/core", 0⟩, ⟨ "at", 3, 4, false, "", "victualler/core", 80⟩, ⟨ "rows", 66, 5, false, "", "victualler/core", 88⟩, ⟨ "cols", 66, 6, false, "", "victualler/core", 96⟩, ⟨ "seen", 67, 7, false, "", "victualler/core", 104⟩, ⟨ "integer", 4, 8, false, "", "victualler/core", 112⟩, ⟨ "l", 60, 9, false, "", "victualler/core", 120⟩, ⟨ "e", 23, 10, false, "", "victualler/core", 144⟩], 11, 152, [(.s []), (.s []), .sn, .sn, (.i .i64 0), .mn, .mn, .mn, (.b false), .sn, (.i .i64 0)]⟩
def ti70 : TI := ⟨.func #[64] #[] false, 1, 8, [.fn]⟩
def ti71 : TI := ⟨.pointer 73, 1, 8, [.pn]⟩
def ti72 : TI := ⟨.struct #[⟨ "name", 9, 0, false, "", "victualler/period", 0⟩, ⟨ "ps", 32, 1, false, "", "victualler/period", 16⟩, ⟨ "at", 3, 2, false, "", "victualler/period", 40⟩], 3, 48, [(.s []), .sn, (.i .i64 0)]⟩
def ti73 : TI := ⟨.struct #[⟨ "name", 9, 0, false, "", "victualler/period", 0⟩, ⟨ "ps", 32, 1, false, "", "victualler/period", 16⟩, ⟨ "at", 3, 2, false, "", "victualler/period", 40⟩], 3, 48, [(.s []), .sn, (.i .i64 0)]⟩
def ti74 : TI := ⟨.func #[60] #[23] false, 1, 8, [.fn]⟩
def ti75 : TI := ⟨.pointer 78, 1, 8, [.pn]⟩
def ti76 : TI := ⟨.pointer 106, 1, 8, [.pn]⟩
def ti77 : TI := ⟨.struct #[⟨ "name", 9, 0, false, "", "victualler/stoch", 0⟩, ⟨ "s", 37, 1, false, "", "victualler/stoch", 16⟩, ⟨ "at", 3, 3, false, "", "victualler/stoch", 48⟩, ⟨ "last", 76, 4, false, "", "victualler/stoch", 56⟩, ⟨ "names", 67, 5, false, "", "victualler/stoch", 64⟩, ⟨ "l", 60, 6, false, "", "victualler/stoch", 72⟩, ⟨ "e", 23, 7, false, "", "victualler/stoch", 96⟩], 8, 104, [(.s []), (.i .i64 0), .sn, (.i .i64 0), .pn, .mn, .sn, (.i .i64 0)]⟩
def ti78 : TI := ⟨.struct #[⟨ "name", 9, 0, false, "", "victualler/stoch", 0⟩, ⟨ "s", 37, 1, false, "", "victualler/stoch", 16⟩, ⟨ "at", 3, 3, false, "", "victualler/stoch", 48⟩, ⟨ "last", 76, 4, false, "", "victualler/stoch", 56⟩, ⟨ "names", 67, 5, false, "", "victualler/stoch", 64⟩, ⟨ "l", 60, 6, false, "", "victualler/stoch", 72⟩, ⟨ "e", 23, 7, false, "", "victualler/stoch", 96⟩], 8, 104, [(.s []), (.i .i64 0), .sn, (.i .i64 0), .pn, .mn, .sn, (.i .i64 0)]⟩
def ti79 : TI := ⟨.func #[29, 32] #[23] false, 1, 8, [.fn]⟩
def ti81 : TI := ⟨.func #[29, 32] #[3, 3] false, 1, 8, [.fn]⟩
def ti82 : TI := ⟨.func #[29, 3, 3] #[23] false, 1, 8, [.fn]⟩
def ti83 : TI := ⟨.func #[27] #[27] false, 1, 8, [.fn]⟩
def ti84 : TI := ⟨.struct #[⟨ "Name", 9, 0, false, "", "", 0⟩, ⟨ "Low", 9, 1, false, "", "", 16⟩, ⟨ "Up", 9, 2, false, "", "", 32⟩, ⟨ "Cost", 9, 3, false, "", "", 48⟩, ⟨ "Int", 4, 4, false, "", "", 64⟩], 5, 72, [(.s []), (.s []), (.s []), (.s []), (.b false)]⟩
def ti85 : TI := ⟨.struct #[⟨ "Name", 9, 0, false, "", "", 0⟩, ⟨ "Low", 9, 1, false, "", "", 16⟩, ⟨ "Up", 9, 2, false, "", "", 32⟩, ⟨ "Cost", 9, 3, false, "", "", 48⟩, ⟨ "Int", 4, 4, false, "", "", 64⟩], 5, 72, [(.s []), (.s []), (.s []), (.s []), (.b false)]⟩
def ti86 : TI := ⟨.slice 126, 1, 24, [.sn]⟩
def ti87 : TI := ⟨.struct #[⟨ "Name", 9, 0, false, "", "", 0⟩, ⟨ "Kind", 3, 1, false, "", "", 16⟩, ⟨ "Coef", 86, 2, false, "", "", 24⟩, ⟨ "Rhs", 9, 3, false, "", "", 48⟩, ⟨ "Range", 9, 4, false, "", "", 64⟩], 5, 80, [(.s []), (.i .i64 0), .sn, (.s []), (.s [])]⟩
def ti88 : TI := ⟨.struct #[⟨ "Name", 9, 0, false, "", "", 0⟩, ⟨ "Kind", 3, 1, false, "", "", 16⟩, ⟨ "Coef", 86, 2, false, "", "", 24⟩, ⟨ "Rhs", 9, 3, false, "", "", 48⟩, ⟨ "Range", 9, 4, false, "", "", 64⟩], 5, 80, [(.s []), (.i .i64 0), .sn, (.s []), (.s [])]⟩
def ti89 : TI := ⟨.func #[88] #[26] false, 1, 8, [.fn]⟩
def ti90 : TI := ⟨.func #[88, 86] #[88] false, 1, 8, [.fn]⟩
def ti92 : TI := ⟨.func #[86, 3] #[86, 86] false, 1, 8, [.fn]⟩
def ti93 : TI := ⟨.map 123 164, 1, 8, [.mn]⟩
def ti95 : TI := ⟨.func #[29, 32, 37] #[93, 23] false, 1, 8, [.fn]⟩
def ti96 : TI := ⟨.struct #[⟨ "P", 9, 0, false, "", "", 0⟩, ⟨ "Second", 41, 1, false, "", "", 16⟩, ⟨ "Tech", 42, 3, false, "", "", 64⟩], 4, 88, [(.s []), .sn, .sn, .sn]⟩
def ti97 : TI := ⟨.struct #[⟨ "P", 9, 0, false, "", "", 0⟩, ⟨ "Second", 41, 1, false, "", "", 16⟩, ⟨ "Tech", 42, 3, false, "", "", 64⟩], 4, 88, [(.s []), .sn, .sn, .sn]⟩
def ti98 : TI := ⟨.func #[44] #[97] false, 1, 8, [.fn]⟩
def ti99 : TI := ⟨.slice 106, 1, 24, [.sn]⟩
def ti100 : TI := ⟨.struct #[⟨ "Name", 9, 0, false, "", "", 0⟩, ⟨ "Cases", 99, 1, false, "", "", 16⟩], 2, 40, [(.s []), .sn]⟩
def ti101 : TI := ⟨.struct #[⟨ "Name", 9, 0, false, "", "", 0⟩, ⟨ "Cases", 99, 1, false, "", "", 16⟩], 2, 40, [(.s []), .sn]⟩
def ti102 : TI := ⟨.func #[103, 106, 93] #[] false, 1, 8, [.fn]⟩
def ti103 : TI := ⟨.pointer 97, 1, 8, [.pn]⟩
def ti104 : TI := ⟨.slice 162, 1, 24, [.sn]⟩
def ti105 : TI := ⟨.struct #[⟨ "P", 9, 0, false, "", "", 0⟩, ⟨ "Es", 104, 1, false, "", "", 16⟩], 2, 40, [(.s []), .sn]⟩
def ti106 : TI := ⟨.struct #[⟨ "P", 9, 0, false, "", "", 0⟩, ⟨ "Es", 104, 1, false, "", "", 16⟩], 2, 40, [(.s []), .sn]⟩
def ti107 : TI := ⟨.pointer 113, 1, 8, [.pn]⟩
def ti108 : TI := ⟨.pointer 111, 1, 8, [.pn]⟩
def ti109 : TI := ⟨.slice 5, 1, 24, [.sn]⟩
def ti110 : TI := ⟨.struct #[⟨ "addr", 108, 0, false, "", "strings", 0⟩, ⟨ "buf", 109, 1, false, "", "strings", 8⟩], 2, 32, [.pn, .sn]⟩
def ti111 : TI := ⟨.struct #[⟨ "addr", 108, 0, false, "", "strings", 0⟩, ⟨ "buf", 109, 1, false, "", "strings", 8⟩], 2, 32, [.pn, .sn]⟩
def ti112 : TI := ⟨.struct #[⟨ "b", 111, 0, false, "", "victualler/write", 0⟩, ⟨ "bad", 4, 2, false, "", "victualler/write", 32⟩], 3, 40, [.pn, .sn, (.b false)]⟩
def ti113 : TI := ⟨.struct #[⟨ "b", 111, 0, false, "", "victualler/write", 0⟩, ⟨ "bad", 4, 2, false, "", "victualler/write", 32⟩], 3, 40, [.pn, .sn, (.b false)]⟩
def ti114 : TI := ⟨.func #[60] #[] true, 1, 8, [.fn]⟩
def ti115 : TI := ⟨.func #[29] #[] false, 1, 8, [.fn]⟩
def ti116 : TI := ⟨.func #[] #[9, 4] false, 1, 8, [.fn]⟩
def ti117 : TI := ⟨.struct #[⟨ "Core", 9, 0, false, "", "", 0⟩, ⟨ "Time", 9, 1, false, "", "", 16⟩, ⟨ "Stoch", 9, 2, false, "", "", 32⟩], 3, 48, [(.s []), (.s []), (.s [])]⟩
def ti118 : TI := ⟨.struct #[⟨ "Core", 9, 0, false, "", "", 0⟩, ⟨ "Time", 9, 1, false, "", "", 16⟩, ⟨ "Stoch", 9, 2, false, "", "", 32⟩], 3, 48, [(.s []), (.s []), (.s [])]⟩
def ti119 : TI := ⟨.func #[] #[118] false, 1, 8, [.fn]⟩
def ti121 : TI := ⟨.func #[29, 32, 123] #[3, 3, 3, 23] false, 1, 8, [.fn]⟩
def ti122 : TI := ⟨.struct #[⟨ "Col", 9, 0, false, "", "", 0⟩, ⟨ "Row", 9, 1, false, "", "", 16⟩], 2, 32, [(.s []), (.s [])]⟩
def ti123 : TI := ⟨.struct #[⟨ "Col", 9, 0, false, "", "", 0⟩, ⟨ "Row", 9, 1, false, "", "", 16⟩], 2, 32, [(.s []), (.s [])]⟩
def ti124 : TI := ⟨.func #[29, 29] #[4] false, 1, 8, [.fn]⟩
def ti125 : TI := ⟨.struct #[⟨ "Col", 3, 0, false, "", "", 0⟩, ⟨ "V", 9, 1, false, "", "", 8⟩], 2, 24, [(.i .i64 0), (.s [])]⟩
def ti126 : TI := ⟨.struct #[⟨ "Col", 3, 0, false, "", "", 0⟩, ⟨ "V", 9, 1, false, "", "", 8⟩], 2, 24, [(.i .i64 0), (.s [])]⟩
def ti127 : TI := ⟨.func #[99, 128] #[4] false, 1, 8, [.fn]⟩
def ti128 : TI := ⟨.func #[106] #[4] false, 1, 8, [.fn]⟩
def ti129 : TI := ⟨.func #[101] #[4] false, 1, 8, [.fn]⟩
def ti130 : TI := ⟨.func #[37] #[4] false, 1, 8, [.fn]⟩
def ti131 : TI := ⟨.func #[35, 129] #[4] false, 1, 8, [.fn]⟩
def ti132 : TI := ⟨.func #[9] #[4] false, 1, 8, [.fn]⟩
def ti133 : TI := ⟨.func #[86, 3] #[4] false, 1, 8, [.fn]⟩
def ti134 : TI := ⟨.func #[88] #[4] false, 1, 8, [.fn]⟩
def ti135 : TI := ⟨.func #[85] #[4] false, 1, 8, [.fn]⟩
def ti136 : TI := ⟨.func #[29] #[4] false, 1, 8, [.fn]⟩
def ti137 : TI := ⟨.func #[26, 134] #[4] false, 1, 8, [.fn]⟩
def ti138 : TI := ⟨.func #[27, 135] #[4] false, 1, 8, [.fn]⟩
def ti139 : TI := ⟨.func #[9, 9] #[9] false, 1, 8, [.fn]⟩
def ti140 : TI := ⟨.func #[109, 141] #[4] false, 1, 8, [.fn]⟩
def ti141 : TI := ⟨.func #[5] #[4] false, 1, 8, [.fn]⟩
def ti142 : TI := ⟨.slice 144, 1, 24, [.sn]⟩
def ti143 : TI := ⟨.struct #[⟨ "start", 3, 0, false, "", "strings", 0⟩, ⟨ "end", 3, 1, false, "", "strings", 8⟩], 2, 16, [(.i .i64 0), (.i .i64 0)]⟩
def ti144 : TI := ⟨.struct #[⟨ "start", 3, 0, false, "", "strings", 0⟩, ⟨ "end", 3, 1, false, "", "strings", 8⟩], 2, 16, [(.i .i64 0), (.i .i64 0)]⟩
def ti145 : TI := ⟨.func #[4, 23] #[] false, 1, 8, [.fn]⟩
def ti146 : TI := ⟨.struct #[⟨ "Col", 9, 0, false, "", "", 0⟩, ⟨ "Row", 9, 1, false, "", "", 16⟩, ⟨ "Name", 9, 2, false, "", "", 32⟩], 3, 48, [(.s []), (.s []), (.s [])]⟩
def ti147 : TI := ⟨.struct #[⟨ "Col", 9, 0, false, "", "", 0⟩, ⟨ "Row", 9, 1, false, "", "", 16⟩, ⟨ "Name", 9, 2, false, "", "", 32⟩], 3, 48, [(.s []), (.s []), (.s [])]⟩
def ti148 : TI := ⟨.func #[29, 9] #[3] false, 1, 8, [.fn]⟩
def ti149 : TI := ⟨.func #[27, 135] #[3] false, 1, 8, [.fn]⟩
def ti150 : TI := ⟨.func #[26, 134] #[3] false, 1, 8, [.fn]⟩
def ti151 : TI := ⟨.func #[86, 152] #[4] false, 1, 8, [.fn]⟩
def ti152 : TI := ⟨.func #[126] #[4] false, 1, 8, [.fn]⟩
def ti153 : TI := ⟨.pointer 205, 1, 8, [.pn]⟩
def ti154 : TI := ⟨.func #[9] #[153] false, 1, 8, [.fn]⟩
def ti155 : TI := ⟨.func #[] #[3] false, 1, 8, [.fn]⟩
def ti156 : TI := ⟨.func #[] #[153] false, 1, 8, [.fn]⟩
def ti157 : TI := ⟨.func #[153] #[153] false, 1, 8, [.fn]⟩
def ti158 : TI := ⟨.func #[] #[9] false, 1, 8, [.fn]⟩
def ti159 : TI := ⟨.func #[86] #[86] false, 1, 8, [.fn]⟩
def ti160 : TI := ⟨.map 123 3, 1, 8, [.mn]⟩
def ti161 : TI := ⟨.struct #[⟨ "At", 123, 0, false, "", "", 0⟩, ⟨ "V", 9, 2, false, "", "", 32⟩], 3, 48, [(.s []), (.s []), (.s [])]⟩
def ti162 : TI := ⟨.struct #[⟨ "At", 123, 0, false, "", "", 0⟩, ⟨ "V", 9, 2, false, "", "", 32⟩], 3, 48, [(.s []), (.s []), (.s [])]⟩
def ti163 : TI := ⟨.struct #[⟨ "kind", 3, 0, false, "", "victualler/tree", 0⟩, ⟨ "row", 3, 1, false, "", "victualler/tree", 8⟩, ⟨ "col", 3, 2, false, "", "victualler/tree", 16⟩], 3, 24, [(.i .i64 0), (.i .i64 0), (.i .i64 0)]⟩
def ti164 : TI := ⟨.struct #[⟨ "kind", 3, 0, false, "", "victualler/tree", 0⟩, ⟨ "row", 3, 1, false, "", "victualler/tree", 8⟩, ⟨ "col", 3, 2, false, "", "victualler/tree", 16⟩], 3, 24, [(.i .i64 0), (.i .i64 0), (.i .i64 0)]⟩
def ti165 : TI := ⟨.func #[26] #[26] false, 1, 8, [.fn]⟩
def ti167 : TI := ⟨.func #[9] #[153, 4] false, 1, 8, [.fn]⟩
def ti168 : TI := ⟨.func #[86, 3, 9] #[86] false, 1, 8, [.fn]⟩
def ti169 : TI := ⟨.interface #[("Error", 158)], 1, 16, [.inn]⟩
def ti170 : TI := ⟨.interface #[("Error", 158)], 1, 16, [.inn]⟩
def ti172 : TI := ⟨.func #[9] #[3, 170] false, 1, 8, [.fn]⟩
def ti173 : TI := ⟨.func #[60, 9] #[9] false, 1, 8, [.fn]⟩
def ti174 : TI := ⟨.func #[9, 60] #[] false, 1, 8, [.fn]⟩
def ti175 : TI := ⟨.func #[29, 3] #[60] false, 1, 8, [.fn]⟩
def ti176 : TI := ⟨.func #[9] #[9] false, 1, 8, [.fn]⟩
def ti177 : TI := ⟨.func #[86, 86] #[4] false, 1, 8, [.fn]⟩
def ti178 : TI := ⟨.func #[88, 88] #[4] false, 1, 8, [.fn]⟩
def ti179 : TI := ⟨.func #[26, 26, 178] #[4] false, 1, 8, [.fn]⟩
def ti180 : TI := ⟨.func #[27, 27] #[4] false, 1, 8, [.fn]⟩
def ti181 : TI := ⟨.func #[99, 128] #[3] false, 1, 8, [.fn]⟩
def ti182 : TI := ⟨.map 123 4, 1, 8, [.mn]⟩
def ti183 : TI := ⟨.func #[35, 129] #[3] false, 1, 8, [.fn]⟩
def ti184 : TI := ⟨.func #[2] #[153] false, 1, 8, [.fn]⟩
def ti185 : TI := ⟨.func #[153] #[3] false, 1, 8, [.fn]⟩
def ti186 : TI := ⟨.func #[9, 9] #[3] false, 1, 8, [.fn]⟩
def ti187 : TI := ⟨.func #[109, 141] #[3] false, 1, 8, [.fn]⟩
def ti188 : TI := ⟨.func #[60, 9] #[3] false, 1, 8, [.fn]⟩
def ti189 : TI := ⟨.func #[] #[60] false, 1, 8, [.fn]⟩
def ti190 : TI := ⟨.func #[244] #[] true, 1, 8, [.fn]⟩
def ti191 : TI := ⟨.func #[192] #[] false, 1, 8, [.fn]⟩
def ti192 : TI := ⟨.func #[3, 153] #[] false, 1, 8, [.fn]⟩
def ti193 : TI := ⟨.pointer 85, 1, 8, [.pn]⟩
def ti194 : TI := ⟨.func #[3] #[9] false, 1, 8, [.fn]⟩
def ti195 : TI := ⟨.func #[] #[123] false, 1, 8, [.fn]⟩
def ti196 : TI := ⟨.func #[3, 9] #[] false, 1, 8, [.fn]⟩
def ti197 : TI := ⟨.func #[104, 198] #[4] false, 1, 8, [.fn]⟩
def ti198 : TI := ⟨.func #[162] #[4] false, 1, 8, [.fn]⟩
def ti199 : TI := ⟨.func #[86, 152] #[3] false, 1, 8, [.fn]⟩
def ti200 : TI := ⟨.pointer 254, 1, 8, [.pn]⟩
def ti202 : TI := ⟨.func #[] #[4, 200, 200] false, 1, 8, [.fn]⟩
def ti203 : TI := ⟨.func #[200] #[4] false, 1, 8, [.fn]⟩
def ti204 : TI := ⟨.struct #[⟨ "neg", 4, 0, false, "", "victualler/frac", 0⟩, ⟨ "n", 200, 1, false, "", "victualler/frac", 8⟩, ⟨ "d", 200, 2, false, "", "victualler/frac", 16⟩], 3, 24, [(.b false), .pn, .pn]⟩
def ti205 : TI := ⟨.struct #[⟨ "neg", 4, 0, false, "", "victualler/frac", 0⟩, ⟨ "n", 200, 1, false, "", "victualler/frac", 8⟩, ⟨ "d", 200, 2, false, "", "victualler/frac", 16⟩], 3, 24, [(.b false), .pn, .pn]⟩
def ti206 : TI := ⟨.func #[4, 200, 200] #[153] false, 1, 8, [.fn]⟩
def ti207 : TI := ⟨.func #[200] #[3] false, 1, 8, [.fn]⟩
def ti209 : TI := ⟨.func #[4, 200, 4, 200] #[4, 200] false, 1, 8, [.fn]⟩
def ti210 : TI := ⟨.func #[200] #[200] false, 1, 8, [.fn]⟩
def ti211 : TI := ⟨.func #[9, 9] #[9, 4] false, 1, 8, [.fn]⟩
def ti213 : TI := ⟨.func #[9] #[200, 4] false, 1, 8, [.fn]⟩
def ti214 : TI := ⟨.func #[86, 3, 215] #[3, 4] false, 1, 8, [.fn]⟩
def ti215 : TI := ⟨.func #[126, 3] #[3] false, 1, 8, [.fn]⟩
def ti216 : TI := ⟨.func #[86, 3, 3] #[86] false, 1, 8, [.fn]⟩
def ti217 : TI := ⟨.func #[86, 3, 86] #[86] true, 1, 8, [.fn]⟩
def ti218 : TI := ⟨.func #[3] #[] false, 1, 8, [.fn]⟩
def ti219 : TI := ⟨.pointer 5, 1, 8, [.pn]⟩
def ti220 : TI := ⟨.int .u64, 1, 8, [(.i .u64 0)]⟩
def ti222 : TI := ⟨.func #[220, 220] #[220, 220] false, 1, 8, [.fn]⟩
def ti224 : TI := ⟨.func #[220, 220, 220] #[220, 220, 4] false, 1, 8, [.fn]⟩
def ti225 : TI := ⟨.pointer 273, 1, 8, [.pn]⟩
def ti227 : TI := ⟨.func #[86] #[225, 4] true, 1, 8, [.fn]⟩
def ti228 : TI := ⟨.pointer 281, 1, 8, [.pn]⟩
def ti230 : TI := ⟨.func #[231] #[228, 4] false, 1, 8, [.fn]⟩
def ti231 : TI := ⟨.slice 60, 1, 24, [.sn]⟩
def ti232 : TI := ⟨.slice 153, 1, 24, [.sn]⟩
def ti234 : TI := ⟨.func #[232] #[232, 4] false, 1, 8, [.fn]⟩
def ti235 : TI := ⟨.func #[3] #[153] false, 1, 8, [.fn]⟩
def ti236 : TI := ⟨.func #[220] #[3] false, 1, 8, [.fn]⟩
def ti237 : TI := ⟨.func #[123] #[4] false, 1, 8, [.fn]⟩
def ti238 : TI := ⟨.func #[220] #[200] false, 1, 8, [.fn]⟩
def ti239 : TI := ⟨.func #[2] #[220] false, 1, 8, [.fn]⟩
def ti240 : TI := ⟨.func #[9, 5] #[3] false, 1, 8, [.fn]⟩
def ti241 : TI := ⟨.func #[3] #[3] false, 1, 8, [.fn]⟩
def ti242 : TI := ⟨.int .u64, 1, 8, [(.i .u64 0)]⟩
def ti243 : TI := ⟨.func #[9, 9] #[4] false, 1, 8, [.fn]⟩
def ti244 : TI := ⟨.slice 3, 1, 24, [.sn]⟩
def ti245 : TI := ⟨.func #[244, 3] #[4] false, 1, 8, [.fn]⟩
def ti246 : TI := ⟨.func #[9] #[3, 4] false, 1, 8, [.fn]⟩
def ti247 : TI := ⟨.pointer 101, 1, 8, [.pn]⟩
def ti248 : TI := ⟨.func #[104, 198] #[3] false, 1, 8, [.fn]⟩
def ti249 : TI := ⟨.slice 261, 1, 24, [.sn]⟩
def ti250 : TI := ⟨.func #[] #[249] false, 1, 8, [.fn]⟩
def ti252 : TI := ⟨.func #[249, 220] #[249, 220] false, 1, 8, [.fn]⟩
def ti253 : TI := ⟨.struct #[⟨ "d", 249, 0, false, "", "victualler/nat", 0⟩], 1, 24, [.sn]⟩
def ti254 : TI := ⟨.struct #[⟨ "d", 249, 0, false, "", "victualler/nat", 0⟩], 1, 24, [.sn]⟩
def ti255 : TI := ⟨.func #[249] #[200] false, 1, 8, [.fn]⟩
def ti256 : TI := ⟨.func #[220, 3] #[9] false, 1, 8, [.fn]⟩
def ti257 : TI := ⟨.func #[9, 3] #[9] false, 1, 8, [.fn]⟩
def ti258 : TI := ⟨.func #[4, 200, 200] #[153, 4] false, 1, 8, [.fn]⟩
def ti259 : TI := ⟨.func #[249, 3] #[220] false, 1, 8, [.fn]⟩
def ti260 : TI := ⟨.func #[200] #[200, 4] false, 1, 8, [.fn]⟩
def ti261 : TI := ⟨.int .u32, 1, 4, [(.i .u32 0)]⟩
def ti263 : TI := ⟨.func #[9, 3, 3] #[220, 170] false, 1, 8, [.fn]⟩
def ti264 : TI := ⟨.func #[86, 3] #[] false, 1, 8, [.fn]⟩
def ti265 : TI := ⟨.unsafePointer, 1, 8, [.pn]⟩
def ti266 : TI := ⟨.func #[265] #[265] false, 1, 8, [.fn]⟩
def ti267 : TI := ⟨.func #[220, 3] #[220] false, 1, 8, [.fn]⟩
def ti268 : TI := ⟨.func #[220, 220, 220] #[220, 220] false, 1, 8, [.fn]⟩
def ti269 : TI := ⟨.func #[3] #[200] false, 1, 8, [.fn]⟩
def ti270 : TI := ⟨.map 3 4, 1, 8, [.mn]⟩
def ti271 : TI := ⟨.slice 275, 1, 24, [.sn]⟩
def ti272 : TI := ⟨.struct #[⟨ "l", 271, 0, false, "", "victualler/vec", 0⟩], 1, 24, [.sn]⟩
def ti273 : TI := ⟨.struct #[⟨ "l", 271, 0, false, "", "victualler/vec", 0⟩], 1, 24, [.sn]⟩
def ti274 : TI := ⟨.struct #[⟨ "at", 3, 0, false, "", "victualler/vec", 0⟩, ⟨ "v", 153, 1, false, "", "victualler/vec", 8⟩], 2, 16, [(.i .i64 0), .pn]⟩
def ti275 : TI := ⟨.struct #[⟨ "at", 3, 0, false, "", "victualler/vec", 0⟩, ⟨ "v", 153, 1, false, "", "victualler/vec", 8⟩], 2, 16, [(.i .i64 0), .pn]⟩
def ti276 : TI := ⟨.func #[271, 278] #[] false, 1, 8, [.fn]⟩
def ti277 : TI := ⟨.func #[3, 3] #[3] false, 1, 8, [.fn]⟩
def ti278 : TI := ⟨.func #[275, 275] #[3] false, 1, 8, [.fn]⟩
def ti279 : TI := ⟨.slice 232, 1, 24, [.sn]⟩
def ti280 : TI := ⟨.struct #[⟨ "l", 279, 0, false, "", "victualler/mat", 0⟩, ⟨ "cols", 3, 1, false, "", "victualler/mat", 24⟩], 2, 32, [.sn, (.i .i64 0)]⟩
def ti281 : TI := ⟨.struct #[⟨ "l", 279, 0, false, "", "victualler/mat", 0⟩, ⟨ "cols", 3, 1, false, "", "victualler/mat", 24⟩], 2, 32, [.sn, (.i .i64 0)]⟩
def ti282 : TI := ⟨.func #[] #[3, 3] false, 1, 8, [.fn]⟩
def ti283 : TI := ⟨.func #[284] #[279] false, 1, 8, [.fn]⟩
def ti284 : TI := ⟨.func #[3] #[232] false, 1, 8, [.fn]⟩
def ti285 : TI := ⟨.func #[279, 3] #[3] false, 1, 8, [.fn]⟩
def ti287 : TI := ⟨.func #[200] #[200, 200, 4] false, 1, 8, [.fn]⟩
def ti288 : TI := ⟨.func #[] #[271] false, 1, 8, [.fn]⟩
def ti290 : TI := ⟨.func #[9] #[261, 261] false, 1, 8, [.fn]⟩
def ti291 : TI := ⟨.func #[244, 3] #[3] false, 1, 8, [.fn]⟩
def ti293 : TI := ⟨.func #[242, 242] #[242, 242] false, 1, 8, [.fn]⟩
def ti294 : TI := ⟨.func #[9, 5] #[9] false, 1, 8, [.fn]⟩
def ti295 : TI := ⟨.array 256 4, 256, 256, [(.b false), (.b false), (.b false), (.b false), (.b false), (.b false), (.b false), (.b false), (.b false), (.b false), (.b false), (.b false), (.b false), (.b false), (.b false), (.b false), (.b false), (.b false), (.b false), (.b false), (.b false), (.b false), (.b false), (.b false), (.b false), (.b false), (.b false), (.b false), (.b false), (.b false), (.b false), (.b false), (.b false), (.b false), (.b false), (.b false), (.b false), (.b false), (.b false), (.b false), (.b false), (.b false), (.b false), (.b false), (.b false), (.b false), (.b false), (.b false), (.b false), (.b false), (.b false), (.b false), (.b false), (.b false), (.b false), (.b false), (.b false), (.b false), (.b false), (.b false), (.b false), (.b false), (.b false), (.b false), (.b false), (.b false), (.b false), (.b false), (.b false), (.b false), (.b false), (.b false), (.b false), (.b false), (.b false), (.b false), (.b false), (.b false), (.b false), (.b false), (.b false), (.b false), (.b false), (.b false), (.b false), (.b false), (.b false), (.b false), (.b false), (.b false), (.b false), (.b false), (.b false), (.b false), (.b false), (.b false), (.b false), (.b false), (.b false), (.b false), (.b false), (.b false), (.b false), (.b false), (.b false), (.b false), (.b false), (.b false), (.b false), (.b false), (.b false), (.b false), (.b false), (.b false), (.b false), (.b false), (.b false), (.b false), (.b false), (.b false), (.b false), (.b false), (.b false), (.b false), (.b false), (.b false), (.b false), (.b false), (.b false), (.b false), (.b false), (.b false), (.b false), (.b false), (.b false), (.b false), (.b false), (.b false), (.b false), (.b false), (.b false), (.b false), (.b false), (.b false), (.b false), (.b false), (.b false), (.b false), (.b false), (.b false), (.b false), (.b false), (.b false), (.b false), (.b false), (.b false), (.b false), (.b false), (.b false), (.b false), (.b false), (.b false), (.b false), (.b false), (.b false), (.b false), (.b false), (.b false), (.b false), (.b false), (.b false), (.b false), (.b false), (.b false), (.b false), (.b false), (.b false), (.b false), (.b false), (.b false), (.b false), (.b false), (.b false), (.b false), (.b false), (.b false), (.b false), (.b false), (.b false), (.b false), (.b false), (.b false), (.b false), (.b false), (.b false), (.b false), (.b false), (.b false), (.b false), (.b false), (.b false), (.b false), (.b false), (.b false), (.b false), (.b false), (.b false), (.b false), (.b false), (.b false), (.b false), (.b false), (.b false), (.b false), (.b false), (.b false), (.b false), (.b false), (.b false), (.b false), (.b false), (.b false), (.b false), (.b false), (.b false), (.b false), (.b false), (.b false), (.b false), (.b false), (.b false), (.b false), (.b false), (.b false), (.b false), (.b false), (.b false), (.b false), (.b false), (.b false), (.b false), (.b false), (.b false), (.b false), (.b false), (.b false), (.b false), (.b false), (.b false), (.b false), (.b false), (.b false), (.b false), (.b false), (.b false), (.b false)]⟩
def ti296 : TI := ⟨.array 256 4, 256, 256, [(.b false), (.b false), (.b false), (.b false), (.b false), (.b false), (.b false), (.b false), (.b false), (.b false), (.b false), (.b false), (.b false), (.b false), (.b false), (.b false), (.b false), (.b false), (.b false), (.b false), (.b false), (.b false), (.b false), (.b false), (.b false), (.b false), (.b false), (.b false), (.b false), (.b false), (.b false), (.b false), (.b false), (.b false), (.b false), (.b false), (.b false), (.b false), (.b false), (.b false), (.b false), (.b false), (.b false), (.b false), (.b false), (.b false), (.b false), (.b false), (.b false), (.b false), (.b false), (.b false), (.b false), (.b false), (.b false), (.b false), (.b false), (.b false), (.b false), (.b false), (.b false), (.b false), (.b false), (.b false), (.b false), (.b false), (.b false), (.b false), (.b false), (.b false), (.b false), (.b false), (.b false), (.b false), (.b false), (.b false), (.b false), (.b false), (.b false), (.b false), (.b false), (.b false), (.b false), (.b false), (.b false), (.b false), (.b false), (.b false), (.b false), (.b false), (.b false), (.b false), (.b false), (.b false), (.b false), (.b false), (.b false), (.b false), (.b false), (.b false), (.b false), (.b false), (.b false), (.b false), (.b false), (.b false), (.b false), (.b false), (.b false), (.b false), (.b false), (.b false), (.b false), (.b false), (.b false), (.b false), (.b false), (.b false), (.b false), (.b false), (.b false), (.b false), (.b false), (.b false), (.b false), (.b false), (.b false), (.b false), (.b false), (.b false), (.b false), (.b false), (.b false), (.b false), (.b false), (.b false), (.b false), (.b false), (.b false), (.b false), (.b false), (.b false), (.b false), (.b false), (.b false), (.b false), (.b false), (.b false), (.b false), (.b false), (.b false), (.b false), (.b false), (.b false), (.b false), (.b false), (.b false), (.b false), (.b false), (.b false), (.b false), (.b false), (.b false), (.b false), (.b false), (.b false), (.b false), (.b false), (.b false), (.b false), (.b false), (.b false), (.b false), (.b false), (.b false), (.b false), (.b false), (.b false), (.b false), (.b false), (.b false), (.b false), (.b false), (.b false), (.b false), (.b false), (.b false), (.b false), (.b false), (.b false), (.b false), (.b false), (.b false), (.b false), (.b false), (.b false), (.b false), (.b false), (.b false), (.b false), (.b false), (.b false), (.b false), (.b false), (.b false), (.b false), (.b false), (.b false), (.b false), (.b false), (.b false), (.b false), (.b false), (.b false), (.b false), (.b false), (.b false), (.b false), (.b false), (.b false), (.b false), (.b false), (.b false), (.b false), (.b false), (.b false), (.b false), (.b false), (.b false), (.b false), (.b false), (.b false), (.b false), (.b false), (.b false), (.b false), (.b false), (.b false), (.b false), (.b false), (.b false), (.b false), (.b false), (.b false), (.b false), (.b false), (.b false), (.b false), (.b false), (.b false), (.b false), (.b false), (.b false), (.b false), (.b false), (.b false)]⟩
def ti298 : TI := ⟨.func #[9] #[296, 4] false, 1, 8, [.fn]⟩
def ti299 : TI := ⟨.func #[9, 300] #[9] false, 1, 8, [.fn]⟩
def ti300 : TI := ⟨.pointer 296, 1, 8, [.pn]⟩
def ti301 : TI := ⟨.func #[9, 9, 3, 3, 170] #[170] false, 1, 8, [.fn]⟩
def ti302 : TI := ⟨.func #[3] #[109] false, 1, 8, [.fn]⟩
def ti303 : TI := ⟨.func #[9, 21] #[3] false, 1, 8, [.fn]⟩
def ti304 : TI := ⟨.func #[3] #[4] false, 1, 8, [.fn]⟩
def ti305 : TI := ⟨.func #[271, 3, 3, 3, 278] #[] false, 1, 8, [.fn]⟩
def ti306 : TI := ⟨.func #[242] #[3] false, 1, 8, [.fn]⟩
def ti307 : TI := ⟨.func #[232] #[232] false, 1, 8, [.fn]⟩
def ti308 : TI := ⟨.func #[279, 309] #[3] false, 1, 8, [.fn]⟩
def ti309 : TI := ⟨.func #[232] #[4] false, 1, 8, [.fn]⟩
def ti310 : TI := ⟨.func #[279, 3, 3] #[] false, 1, 8, [.fn]⟩
def ti311 : TI := ⟨.func #[249, 249] #[261] false, 1, 8, [.fn]⟩
def ti312 : TI := ⟨.array 24 5, 24, 24, [(.i .u8 0), (.i .u8 0), (.i .u8 0), (.i .u8 0), (.i .u8 0), (.i .u8 0), (.i .u8 0), (.i .u8 0), (.i .u8 0), (.i .u8 0), (.i .u8 0), (.i .u8 0), (.i .u8 0), (.i .u8 0), (.i .u8 0), (.i .u8 0), (.i .u8 0), (.i .u8 0), (.i .u8 0), (.i .u8 0), (.i .u8 0), (.i .u8 0), (.i .u8 0), (.i .u8 0)]⟩
def ti313 : TI := ⟨.func #[109, 220] #[] false, 1, 8, [.fn]⟩
def ti315 : TI := ⟨.func #[109, 220, 3, 4, 4] #[109, 9] false, 1, 8, [.fn]⟩
def ti316 : TI := ⟨.func #[261, 261] #[261, 261] false, 1, 8, [.fn]⟩
def ti318 : TI := ⟨.func #[] #[220, 4] false, 1, 8, [.fn]⟩
def ti319 : TI := ⟨.func #[220, 220] #[220] false, 1, 8, [.fn]⟩
def ti320 : TI := ⟨.func #[200, 200] #[200] false, 1, 8, [.fn]⟩
def ti322 : TI := ⟨.func #[9] #[21, 3] false, 1, 8, [.fn]⟩
def ti323 : TI := ⟨.func #[9, 21] #[4] false, 1, 8, [.fn]⟩
def ti324 : TI := ⟨.int .i64, 1, 8, [(.i .i64 0)]⟩
def ti325 : TI := ⟨.func #[5] #[5] false, 1, 8, [.fn]⟩
def ti326 : TI := ⟨.pointer 343, 1, 8, [.pn]⟩
def ti327 : TI := ⟨.func #[9, 9] #[326] false, 1, 8, [.fn]⟩
def ti328 : TI := ⟨.func #[9, 9, 3] #[326] false, 1, 8, [.fn]⟩
def ti329 : TI := ⟨.func #[86] #[] false, 1, 8, [.fn]⟩
def ti330 : TI := ⟨.func #[271, 3, 3, 278] #[] false, 1, 8, [.fn]⟩
def ti331 : TI := ⟨.int .i64, 1, 8, [(.i .i64 0)]⟩
def ti333 : TI := ⟨.func #[271, 3, 3, 278] #[3, 331] false, 1, 8, [.fn]⟩
def ti334 : TI := ⟨.func #[271, 3, 3, 278] #[4] false, 1, 8, [.fn]⟩
def ti335 : TI := ⟨.func #[271, 3, 3, 3, 278] #[3] false, 1, 8, [.fn]⟩
def ti336 : TI := ⟨.func #[271, 3, 3, 3, 278] #[3, 4] false, 1, 8, [.fn]⟩
def ti337 : TI := ⟨.func #[261] #[3] false, 1, 8, [.fn]⟩
def ti338 : TI := ⟨.func #[153] #[153, 4] false, 1, 8, [.fn]⟩
def ti339 : TI := ⟨.func #[4] #[3] false, 1, 8, [.fn]⟩
def ti340 : TI := ⟨.array 20 220, 20, 160, [(.i .u64 0), (.i .u64 0), (.i .u64 0), (.i .u64 0), (.i .u64 0), (.i .u64 0), (.i .u64 0), (.i .u64 0), (.i .u64 0), (.i .u64 0), (.i .u64 0), (.i .u64 0), (.i .u64 0), (.i .u64 0), (.i .u64 0), (.i .u64 0), (.i .u64 0), (.i .u64 0), (.i .u64 0), (.i .u64 0)]⟩
def ti341 : TI := ⟨.array 65 5, 65, 65, [(.i .u8 0), (.i .u8 0), (.i .u8 0), (.i .u8 0), (.i .u8 0), (.i .u8 0), (.i .u8 0), (.i .u8 0), (.i .u8 0), (.i .u8 0), (.i .u8 0), (.i .u8 0), (.i .u8 0), (.i .u8 0), (.i .u8 0), (.i .u8 0), (.i .u8 0), (.i .u8 0), (.i .u8 0), (.i .u8 0), (.i .u8 0), (.i .u8 0), (.i .u8 0), (.i .u8 0), (.i .u8 0), (.i .u8 0), (.i .u8 0), (.i .u8 0), (.i .u8 0), (.i .u8 0), (.i .u8 0), (.i .u8 0), (.i .u8 0), (.i .u8 0), (.i .u8 0), (.i .u8 0), (.i .u8 0), (.i .u8 0), (.i .u8 0), (.i .u8 0), (.i .u8 0), (.i .u8 0), (.i .u8 0), (.i .u8 0), (.i .u8 0), (.i .u8 0), (.i .u8 0), (.i .u8 0), (.i .u8 0), (.i .u8 0), (.i .u8 0), (.i .u8 0), (.i .u8 0), (.i .u8 0), (.i .u8 0), (.i .u8 0), (.i .u8 0), (.i .u8 0), (.i .u8 0), (.i .u8 0), (.i .u8 0), (.i .u8 0), (.i .u8 0), (.i .u8 0), (.i .u8 0)]⟩
def ti342 : TI := ⟨.struct #[⟨ "Func", 9, 0, false, "", "", 0⟩, ⟨ "Num", 9, 1, false, "", "", 16⟩, ⟨ "Err", 170, 2, false, "", "", 32⟩], 3, 48, [(.s []), (.s []), .inn]⟩
def ti343 : TI := ⟨.struct #[⟨ "Func", 9, 0, false, "", "", 0⟩, ⟨ "Num", 9, 1, false, "", "", 16⟩, ⟨ "Err", 170, 2, false, "", "", 32⟩], 3, 48, [(.s []), (.s []), .inn]⟩
def ti344 : TI := ⟨.func #[9] #[170] false, 1, 8, [.fn]⟩
def ti346 : TI := ⟨.func #[9, 3, 3] #[2, 170] false, 1, 8, [.fn]⟩
def ti347 : TI := ⟨.int .u64, 1, 8, [(.i .u64 0)]⟩
def ti348 : TI := ⟨.func #[3] #[242] false, 1, 8, [.fn]⟩
def ti349 : TI := ⟨.func #[] #[220] false, 1, 8, [.fn]⟩
def ti350 : TI := ⟨.func #[271, 3, 351, 278] #[3] false, 1, 8, [.fn]⟩
def ti351 : TI := ⟨.pointer 3, 1, 8, [.pn]⟩
def ti352 : TI := ⟨.func #[271, 3, 3, 3, 351, 278] #[3] false, 1, 8, [.fn]⟩
def ti353 : TI := ⟨.array 256 5, 256, 256, [(.i .u8 0), (.i .u8 0), (.i .u8 0), (.i .u8 0), (.i .u8 0), (.i .u8 0), (.i .u8 0), (.i .u8 0), (.i .u8 0), (.i .u8 0), (.i .u8 0), (.i .u8 0), (.i .u8 0), (.i .u8 0), (.i .u8 0), (.i .u8 0), (.i .u8 0), (.i .u8 0), (.i .u8 0), (.i .u8 0), (.i .u8 0), (.i .u8 0), (.i .u8 0), (.i .u8 0), (.i .u8 0), (.i .u8 0), (.i .u8 0), (.i .u8 0), (.i .u8 0), (.i .u8 0), (.i .u8 0), (.i .u8 0), (.i .u8 0), (.i .u8 0), (.i .u8 0), (.i .u8 0), (.i .u8 0), (.i .u8 0), (.i .u8 0), (.i .u8 0), (.i .u8 0), (.i .u8 0), (.i .u8 0), (.i .u8 0), (.i .u8 0), (.i .u8 0), (.i .u8 0), (.i .u8 0), (.i .u8 0), (.i .u8 0), (.i .u8 0), (.i .u8 0), (.i .u8 0), (.i .u8 0), (.i .u8 0), (.i .u8 0), (.i .u8 0), (.i .u8 0), (.i .u8 0), (.i .u8 0), (.i .u8 0), (.i .u8 0), (.i .u8 0), (.i .u8 0), (.i .u8 0), (.i .u8 0), (.i .u8 0), (.i .u8 0), (.i .u8 0), (.i .u8 0), (.i .u8 0), (.i .u8 0), (.i .u8 0), (.i .u8 0), (.i .u8 0), (.i .u8 0), (.i .u8 0), (.i .u8 0), (.i .u8 0), (.i .u8 0), (.i .u8 0), (.i .u8 0), (.i .u8 0), (.i .u8 0), (.i .u8 0), (.i .u8 0), (.i .u8 0), (.i .u8 0), (.i .u8 0), (.i .u8 0), (.i .u8 0), (.i .u8 0), (.i .u8 0), (.i .u8 0), (.i .u8 0), (.i .u8 0), (.i .u8 0), (.i .u8 0), (.i .u8 0), (.i .u8 0), (.i .u8 0), (.i .u8 0), (.i .u8 0), (.i .u8 0), (.i .u8 0), (.i .u8 0), (.i .u8 0), (.i .u8 0), (.i .u8 0), (.i .u8 0), (.i .u8 0), (.i .u8 0), (.i .u8 0), (.i .u8 0), (.i .u8 0), (.i .u8 0), (.i .u8 0), (.i .u8 0), (.i .u8 0), (.i .u8 0), (.i .u8 0), (.i .u8 0), (.i .u8 0), (.i .u8 0), (.i .u8 0), (.i .u8 0), (.i .u8 0), (.i .u8 0), (.i .u8 0), (.i .u8 0), (.i .u8 0), (.i .u8 0), (.i .u8 0), (.i .u8 0), (.i .u8 0), (.i .u8 0), (.i .u8 0), (.i .u8 0), (.i .u8 0), (.i .u8 0), (.i .u8 0), (.i .u8 0), (.i .u8 0), (.i .u8 0), (.i .u8 0), (.i .u8 0), (.i .u8 0), (.i .u8 0), (.i .u8 0), (.i .u8 0), (.i .u8 0), (.i .u8 0), (.i .u8 0), (.i .u8 0), (.i .u8 0), (.i .u8 0), (.i .u8 0), (.i .u8 0), (.i .u8 0), (.i .u8 0), (.i .u8 0), (.i .u8 0), (.i .u8 0), (.i .u8 0), (.i .u8 0), (.i .u8 0), (.i .u8 0), (.i .u8 0), (.i .u8 0), (.i .u8 0), (.i .u8 0), (.i .u8 0), (.i .u8 0), (.i .u8 0), (.i .u8 0), (.i .u8 0), (.i .u8 0), (.i .u8 0), (.i .u8 0), (.i .u8 0), (.i .u8 0), (.i .u8 0), (.i .u8 0), (.i .u8 0), (.i .u8 0), (.i .u8 0), (.i .u8 0), (.i .u8 0), (.i .u8 0), (.i .u8 0), (.i .u8 0), (.i .u8 0), (.i .u8 0), (.i .u8 0), (.i .u8 0), (.i .u8 0), (.i .u8 0), (.i .u8 0), (.i .u8 0), (.i .u8 0), (.i .u8 0), (.i .u8 0), (.i .u8 0), (.i .u8 0), (.i .u8 0), (.i .u8 0), (.i .u8 0), (.i .u8 0), (.i .u8 0), (.i .u8 0), (.i .u8 0), (.i .u8 0), (.i .u8 0), (.i .u8 0), (.i .u8 0), (.i .u8 0), (.i .u8 0), (.i .u8 0), (.i .u8 0), (.i .u8 0), (.i .u8 0), (.i .u8 0), (.i .u8 0), (.i .u8 0), (.i .u8 0), (.i .u8 0), (.i .u8 0), (.i .u8 0), (.i .u8 0), (.i .u8 0), (.i .u8 0), (.i .u8 0), (.i .u8 0), (.i .u8 0), (.i .u8 0), (.i .u8 0), (.i .u8 0), (.i .u8 0), (.i .u8 0), (.i .u8 0), (.i .u8 0), (.i .u8 0), (.i .u8 0), (.i .u8 0), (.i .u8 0), (.i .u8 0), (.i .u8 0), (.i .u8 0), (.i .u8 0), (.i .u8 0), (.i .u8 0), (.i .u8 0), (.i .u8 0), (.i .u8 0), (.i .u8 0), (.i .u8 0)]⟩
def ti354 : TI := ⟨.struct #[⟨ "lo", 5, 0, false, "", "unicode/utf8", 0⟩, ⟨ "hi", 5, 1, false, "", "unicode/utf8", 1⟩], 2, 2, [(.i .u8 0), (.i .u8 0)]⟩
def ti355 : TI := ⟨.struct #[⟨ "lo", 5, 0, false, "", "unicode/utf8", 0⟩, ⟨ "hi", 5, 1, false, "", "unicode/utf8", 1⟩], 2, 2, [(.i .u8 0), (.i .u8 0)]⟩
def ti356 : TI := ⟨.array 16 355, 32, 32, [(.i .u8 0), (.i .u8 0), (.i .u8 0), (.i .u8 0), (.i .u8 0), (.i .u8 0), (.i .u8 0), (.i .u8 0), (.i .u8 0), (.i .u8 0), (.i .u8 0), (.i .u8 0), (.i .u8 0), (.i .u8 0), (.i .u8 0), (.i .u8 0), (.i .u8 0), (.i .u8 0), (.i .u8 0), (.i .u8 0), (.i .u8 0), (.i .u8 0), (.i .u8 0), (.i .u8 0), (.i .u8 0), (.i .u8 0), (.i .u8 0), (.i .u8 0), (.i .u8 0), (.i .u8 0), (.i .u8 0), (.i .u8 0)]⟩
def ti357 : TI := ⟨.pointer 359, 1, 8, [.pn]⟩
def ti358 : TI := ⟨.struct #[⟨ "s", 9, 0, false, "", "errors", 0⟩], 1, 16, [(.s [])]⟩
def ti359 : TI := ⟨.struct #[⟨ "s", 9, 0, false, "", "errors", 0⟩], 1, 16, [(.s [])]⟩
def ti360 : TI := ⟨.pointer 347, 1, 8, [.pn]⟩
def ti361 : TI := ⟨.func #[271, 3, 3, 351, 278] #[3, 3] false, 1, 8, [.fn]⟩
def ti362 : TI := ⟨.array 32 5, 32, 32, [(.i .u8 0), (.i .u8 0), (.i .u8 0), (.i .u8 0), (.i .u8 0), (.i .u8 0), (.i .u8 0), (.i .u8 0), (.i .u8 0), (.i .u8 0), (.i .u8 0), (.i .u8 0), (.i .u8 0), (.i .u8 0), (.i .u8 0), (.i .u8 0), (.i .u8 0), (.i .u8 0), (.i .u8 0), (.i .u8 0), (.i .u8 0), (.i .u8 0), (.i .u8 0), (.i .u8 0), (.i .u8 0), (.i .u8 0), (.i .u8 0), (.i .u8 0), (.i .u8 0), (.i .u8 0), (.i .u8 0), (.i .u8 0)]⟩
def ti363 : TI := ⟨.array 64 5, 64, 64, [(.i .u8 0), (.i .u8 0), (.i .u8 0), (.i .u8 0), (.i .u8 0), (.i .u8 0), (.i .u8 0), (.i .u8 0), (.i .u8 0), (.i .u8 0), (.i .u8 0), (.i .u8 0), (.i .u8 0), (.i .u8 0), (.i .u8 0), (.i .u8 0), (.i .u8 0), (.i .u8 0), (.i .u8 0), (.i .u8 0), (.i .u8 0), (.i .u8 0), (.i .u8 0), (.i .u8 0), (.i .u8 0), (.i .u8 0), (.i .u8 0), (.i .u8 0), (.i .u8 0), (.i .u8 0), (.i .u8 0), (.i .u8 0), (.i .u8 0), (.i .u8 0), (.i .u8 0), (.i .u8 0), (.i .u8 0), (.i .u8 0), (.i .u8 0), (.i .u8 0), (.i .u8 0), (.i .u8 0), (.i .u8 0), (.i .u8 0), (.i .u8 0), (.i .u8 0), (.i .u8 0), (.i .u8 0), (.i .u8 0), (.i .u8 0), (.i .u8 0), (.i .u8 0), (.i .u8 0), (.i .u8 0), (.i .u8 0), (.i .u8 0), (.i .u8 0), (.i .u8 0), (.i .u8 0), (.i .u8 0), (.i .u8 0), (.i .u8 0), (.i .u8 0), (.i .u8 0)]⟩
def ti364 : TI := ⟨.func #[2, 3] #[9] false, 1, 8, [.fn]⟩
def ti365 : TI := ⟨.struct #[⟨ "_interface", 17, 0, false, "", "runtime", 0⟩, ⟨ "concrete", 17, 1, false, "", "runtime", 8⟩, ⟨ "asserted", 17, 2, false, "", "runtime", 16⟩, ⟨ "missingMethod", 9, 3, false, "", "runtime", 24⟩], 4, 40, [.pn, .pn, .pn, (.s [])]⟩
def ti366 : TI := ⟨.struct #[⟨ "_interface", 17, 0, false, "", "runtime", 0⟩, ⟨ "concrete", 17, 1, false, "", "runtime", 8⟩, ⟨ "asserted", 17, 2, false, "", "runtime", 16⟩, ⟨ "missingMethod", 9, 3, false, "", "runtime", 24⟩], 4, 40, [.pn, .pn, .pn, (.s [])]⟩
def ti367 : TI := ⟨.array 0 16, 0, 0, []⟩
def ti368 : TI := ⟨.struct #[⟨ "_", 367, 0, false, "", "runtime", 0⟩], 0, 0, []⟩
def ti369 : TI := ⟨.struct #[⟨ "_", 367, 0, false, "", "runtime", 0⟩], 0, 0, []⟩
def ti370 : TI := ⟨.int .u8, 1, 1, [(.i .u8 0)]⟩
def ti371 : TI := ⟨.int .u8, 1, 1, [(.i .u8 0)]⟩
def ti372 : TI := ⟨.func #[265, 265] #[4] false, 1, 8, [.fn]⟩
def ti373 : TI := ⟨.int .i32, 1, 4, [(.i .i32 0)]⟩
def ti374 : TI := ⟨.int .i32, 1, 4, [(.i .i32 0)]⟩
def ti375 : TI := ⟨.struct #[⟨ "Size_", 12, 0, false, "", "", 0⟩, ⟨ "PtrBytes", 12, 1, false, "", "", 8⟩, ⟨ "Hash", 261, 2, false, "", "", 16⟩, ⟨ "TFlag", 370, 3, false, "", "", 20⟩, ⟨ "Align_", 5, 4, false, "", "", 21⟩, ⟨ "FieldAlign_", 5, 5, false, "", "", 22⟩, ⟨ "Kind_", 371, 6, false, "", "", 23⟩, ⟨ "Equal", 372, 7, false, "", "", 24⟩, ⟨ "GCData", 219, 8, false, "", "", 32⟩, ⟨ "Str", 373, 9, false, "", "", 40⟩, ⟨ "PtrToThis", 374, 10, false, "", "", 44⟩], 11, 48, [(.i .u64 0), (.i .u64 0), (.i .u32 0), (.i .u8 0), (.i .u8 0), (.i .u8 0), (.i .u8 0), .fn, .pn, (.i .i32 0), (.i .i32 0)]⟩
def ti376 : TI := ⟨.struct #[⟨ "Size_", 12, 0, false, "", "", 0⟩, ⟨ "PtrBytes", 12, 1, false, "", "", 8⟩, ⟨ "Hash", 261, 2, false, "", "", 16⟩, ⟨ "TFlag", 370, 3, false, "", "", 20⟩, ⟨ "Align_", 5, 4, false, "", "", 21⟩, ⟨ "FieldAlign_", 5, 5, false, "", "", 22⟩, ⟨ "Kind_", 371, 6, false, "", "", 23⟩, ⟨ "Equal", 372, 7, false, "", "", 24⟩, ⟨ "GCData", 219, 8, false, "", "", 32⟩, ⟨ "Str", 373, 9, false, "", "", 40⟩, ⟨ "PtrToThis", 374, 10, false, "", "", 44⟩], 11, 48, [(.i .u64 0), (.i .u64 0), (.i .u32 0), (.i .u8 0), (.i .u8 0), (.i .u8 0), (.i .u8 0), .fn, .pn, (.i .i32 0), (.i .i32 0)]⟩
def TYT : Tr TI := (.nd (.nd (.nd (.nd (.nd (.nd (.nd (.nd (.nd .lf (some (ti255)) .lf) (some (ti127)) .lf) (some (ti63)) (.nd (.nd .lf (some (ti319)) .lf) (some (ti191)) .lf)) (some (ti31)) (.nd (.nd (.nd .lf (some (ti287)) .lf) (some (ti159)) .lf) (some (ti95)) (.nd (.nd .lf (some (ti351)) .lf) none .lf))) (some (ti15)) (.nd (.nd (.nd (.nd .lf (some (ti271)) .lf) (some (ti143)) .lf) (some (ti79)) (.nd (.nd .lf (some (ti335)) .lf) (some (ti207)) .lf)) (some (ti47)) (.nd (.nd (.nd .lf (some (ti303)) .lf) (some (ti175)) .lf) (some (ti111)) (.nd (.nd .lf (some (ti367)) .lf) (some (ti239)) .lf)))) (some (ti7)) (.nd (.nd (.nd (.nd (.nd .lf (some (ti263)) .lf) (some (ti135)) .lf) (some (ti71)) (.nd (.nd .lf (some (ti327)) .lf) (some (ti199)) .lf)) (some (ti39)) (.nd (.nd (.nd .lf (some (ti295)) .lf) (some (ti167)) .lf) (some (ti103)) (.nd (.nd .lf (some (ti359)) .lf) (some (ti231)) .lf))) (some (ti23)) (.nd (.nd (.nd (.nd .lf (some (ti279)) .lf) (some (ti151)) .lf) (some (ti87)) (.nd (.nd .lf (some (ti343)) .lf) (some (ti215)) .lf)) (some (ti55)) (.nd (.nd (.nd .lf (some (ti311)) .lf) (some (ti183)) .lf) (some (ti119)) (.nd (.nd .lf (some (ti375)) .lf) (some (ti247)) .lf))))) (some (ti3)) (.nd (.nd (.nd (.nd (.nd (.nd .lf (some (ti259)) .lf) (some (ti131)) .lf) (some (ti67)) (.nd (.nd .lf (some (ti323)) .lf) (some (ti195)) .lf)) (some (ti35)) (.nd (.nd (.nd .lf (some (ti291)) .lf) (some (ti163)) .lf) (some (ti99)) (.nd (.nd .lf (some (ti355)) .lf) (some (ti227)) .lf))) (some (ti19)) (.nd (.nd (.nd (.nd .lf (some (ti275)) .lf) (some (ti147)) .lf) (some (ti83)) (.nd (.nd .lf (some (ti339)) .lf) (some (ti211)) .lf)) (some (ti51)) (.nd (.nd (.nd .lf (some (ti307)) .lf) (some (ti179)) .lf) (some (ti115)) (.nd (.nd .lf (some (ti371)) .lf) (some (ti243)) .lf)))) (some (ti11)) (.nd (.nd (.nd (.nd (.nd .lf (some (ti267)) .lf) (some (ti139)) .lf) (some (ti75)) (.nd (.nd .lf (some (ti331)) .lf) (some (ti203)) .lf)) (some (ti43)) (.nd (.nd (.nd .lf (some (ti299)) .lf) none .lf) (some (ti107)) (.nd (.nd .lf (some (ti363)) .lf) (some (ti235)) .lf))) (some (ti27)) (.nd (.nd (.nd (.nd .lf (some (ti283)) .lf) (some (ti155)) .lf) none (.nd (.nd .lf (some (ti347)) .lf) (some (ti219)) .lf)) (some (ti59)) (.nd (.nd (.nd .lf (some (ti315)) .lf) (some (ti187)) .lf) (some (ti123)) .lf))))) (some (ti1)) (.nd (.nd (.nd (.nd (.nd (.nd (.nd .lf (some (ti257)) .lf) (some (ti129)) .lf) (some (ti65)) (.nd .lf (some (ti193)) .lf)) none (.nd (.nd .lf (some (ti161)) .lf) (some (ti97)) (.nd (.nd .lf (some (ti353)) .lf) (some (ti225)) .lf))) (some (ti17)) (.nd (.nd (.nd (.nd .lf (some (ti273)) .lf) (some (ti145)) .lf) (some (ti81)) (.nd (.nd .lf (some (ti337)) .lf) (some (ti209)) .lf)) (some (ti49)) (.nd (.nd (.nd .lf (some (ti305)) .lf) (some (ti177)) .lf) (some (ti113)) (.nd (.nd .lf (some (ti369)) .lf) (some (ti241)) .lf)))) (some (ti9)) (.nd (.nd (.nd (.nd (.nd .lf (some (ti265)) .lf) (some (ti137)) .lf) (some (ti73)) (.nd (.nd .lf (some (ti329)) .lf) none .lf)) (some (ti41)) (.nd (.nd .lf (some (ti169)) .lf) (some (ti105)) (.nd (.nd .lf (some (ti361)) .lf) none .lf))) (some (ti25)) (.nd (.nd (.nd (.nd .lf (some (ti281)) .lf) (some (ti153)) .lf) (some (ti89)) (.nd .lf (some (ti217)) .lf)) none (.nd (.nd (.nd .lf (some (ti313)) .lf) (some (ti185)) .lf) (some (ti121)) (.nd .lf (some (ti249)) .lf))))) (some (ti5)) (.nd (.nd (.nd (.nd (.nd (.nd .lf (some (ti261)) .lf) (some (ti133)) .lf) (some (ti69)) (.nd (.nd .lf (some (ti325)) .lf) (some (ti197)) .lf)) (some (ti37)) (.nd (.nd (.nd .lf (some (ti293)) .lf) (some (ti165)) .lf) (some (ti101)) (.nd (.nd .lf (some (ti357)) .lf) none .lf))) (some (ti21)) (.nd (.nd (.nd (.nd .lf (some (ti277)) .lf) (some (ti149)) .lf) (some (ti85)) (.nd (.nd .lf (some (ti341)) .lf) (some (ti213)) .lf)) (some (ti53)) (.nd (.nd (.nd .lf (some (ti309)) .lf) (some (ti181)) .lf) (some (ti117)) (.nd (.nd .lf (some (ti373)) .lf) (some (ti245)) .lf)))) (some (ti13)) (.nd (.nd (.nd (.nd (.nd .lf (some (ti269)) .lf) (some (ti141)) .lf) (some (ti77)) (.nd (.nd .lf (some (ti333)) .lf) (some (ti205)) .lf)) none (.nd (.nd (.nd .lf (some (ti301)) .lf) (some (ti173)) .lf) (some (ti109)) (.nd (.nd .lf (some (ti365)) .lf) (some (ti237)) .lf))) (some (ti29)) (.nd (.nd (.nd (.nd .lf (some (ti285)) .lf) (some (ti157)) .lf) (some (ti93)) (.nd (.nd .lf (some (ti349)) .lf) none .lf)) (some (ti61)) (.nd (.nd .lf (some (ti189)) .lf) (some (ti125)) (.nd .lf (some (ti253)) .lf))))))) none (.nd (.nd (.nd (.nd (.nd (.nd (.nd (.nd .lf (some (ti256)) .lf) (some (ti128)) .lf) (some (ti64)) (.nd (.nd .lf (some (ti320)) .lf) (some (ti192)) .lf)) (some (ti32)) (.nd (.nd (.nd .lf (some (ti288)) .lf) (some (ti160)) .lf) (some (ti96)) (.nd (.nd .lf (some (ti352)) .lf) (some (ti224)) .lf))) (some (ti16)) (.nd (.nd (.nd (.nd .lf (some (ti272)) .lf) (some (ti144)) .lf) none (.nd (.nd .lf (some (ti336)) .lf) none .lf)) none (.nd (.nd (.nd .lf (some (ti304)) .lf) (some (ti176)) .lf) (some (ti112)) (.nd (.nd .lf (some (ti368)) .lf) (some (ti240)) .lf)))) (some (ti8)) (.nd (.nd (.nd (.nd (.nd .lf (some (ti264)) .lf) (some (ti136)) .lf) (some (ti72)) (.nd (.nd .lf (some (ti328)) .lf) (some (ti200)) .lf)) (some (ti40)) (.nd (.nd (.nd .lf (some (ti296)) .lf) (some (ti168)) .lf) (some (ti104)) (.nd (.nd .lf (some (ti360)) .lf) (some (ti232)) .lf))) none (.nd (.nd (.nd (.nd .lf (some (ti280)) .lf) (some (ti152)) .lf) (some (ti88)) (.nd (.nd .lf (some (ti344)) .lf) (some (ti216)) .lf)) (some (ti56)) (.nd (.nd (.nd .lf (some (ti312)) .lf) (some (ti184)) .lf) none (.nd (.nd .lf (some (ti376)) .lf) (some (ti248)) .lf))))) (some (ti4)) (.nd (.nd (.nd (.nd (.nd (.nd .lf (some (ti260)) .lf) (some (ti132)) .lf) (some (ti68)) (.nd (.nd .lf (some (ti324)) .lf) (some (ti196)) .lf)) (some (ti36)) (.nd (.nd .lf (some (ti164)) .lf) (some (ti100)) (.nd (.nd .lf (some (ti356)) .lf) (some (ti228)) .lf))) (some (ti20)) (.nd (.nd (.nd (.nd .lf (some (ti276)) .lf) (some (ti148)) .lf) (some (ti84)) (.nd (.nd .lf (some (ti340)) .lf) none .lf)) none (.nd (.nd (.nd .lf (some (ti308)) .lf) (some (ti180)) .lf) (some (ti116)) (.nd (.nd .lf (some (ti372)) .lf) (some (ti244)) .lf)))) (some (ti12)) (.nd (.nd (.nd (.nd (.nd .lf (some (ti268)) .lf) (some (ti140)) .lf) (some (ti76)) (.nd .lf (some (ti204)) .lf)) (some (ti44)) (.nd (.nd (.nd .lf (some (ti300)) .lf) (some (ti172)) .lf) (some (ti108)) (.nd (.nd .lf (some (ti364)) .lf) (some (ti236)) .lf))) (some (ti28)) (.nd (.nd (.nd (.nd .lf (some (ti284)) .lf) (some (ti156)) .lf) (some (ti92)) (.nd (.nd .lf (some (ti348)) .lf) (some (ti220)) .lf)) (some (ti60)) (.nd (.nd (.nd .lf (some (ti316)) .lf) (some (ti188)) .lf) (some (ti124)) (.nd .lf (some (ti252)) .lf)))))) (some (ti2)) (.nd (.nd (.nd (.nd (.nd (.nd (.nd .lf (some (ti258)) .lf) (some (ti130)) .lf) (some (ti66)) (.nd (.nd .lf (some (ti322)) .lf) (some (ti194)) .lf)) (some (ti34)) (.nd (.nd (.nd .lf (some (ti290)) .lf) (some (ti162)) .lf) (some (ti98)) (.nd (.nd .lf (some (ti354)) .lf) none .lf))) (some (ti18)) (.nd (.nd (.nd (.nd .lf (some (ti274)) .lf) (some (ti146)) .lf) (some (ti82)) (.nd (.nd .lf (some (ti338)) .lf) (some (ti210)) .lf)) none (.nd (.nd (.nd .lf (some (ti306)) .lf) (some (ti178)) .lf) (some (ti114)) (.nd (.nd .lf (some (ti370)) .lf) (some (ti242)) .lf)))) (some (ti10)) (.nd (.nd (.nd (.nd (.nd .lf (some (ti266)) .lf) (some (ti138)) .lf) (some (ti74)) (.nd (.nd .lf (some (ti330)) .lf) (some (ti202)) .lf)) (some (ti42)) (.nd (.nd (.nd .lf (some (ti298)) .lf) (some (ti170)) .lf) (some (ti106)) (.nd (.nd .lf (some (ti362)) .lf) (some (ti234)) .lf))) (some (ti26)) (.nd (.nd (.nd (.nd .lf (some (ti282)) .lf) (some (ti154)) .lf) (some (ti90)) (.nd (.nd .lf (some (ti346)) .lf) (some (ti218)) .lf)) (some (ti58)) (.nd (.nd .lf (some (ti186)) .lf) (some (ti122)) (.nd .lf (some (ti250)) .lf))))) (some (ti6)) (.nd (.nd (.nd (.nd (.nd .lf (some (ti134)) .lf) (some (ti70)) (.nd (.nd .lf (some (ti326)) .lf) (some (ti198)) .lf)) none (.nd (.nd (.nd .lf (some (ti294)) .lf) none .lf) (some (ti102)) (.nd (.nd .lf (some (ti358)) .lf) (some (ti230)) .lf))) (some (ti22)) (.nd (.nd (.nd (.nd .lf (some (ti278)) .lf) (some (ti150)) .lf) (some (ti86)) (.nd (.nd .lf (some (ti342)) .lf) (some (ti214)) .lf)) (some (ti54)) (.nd (.nd (.nd .lf (some (ti310)) .lf) (some (ti182)) .lf) (some (ti118)) (.nd (.nd .lf (some (ti374)) .lf) (some (ti246)) .lf)))) (some (ti14)) (.nd (.nd (.nd (.nd (.nd .lf (some (ti270)) .lf) (some (ti142)) .lf) (some (ti78)) (.nd (.nd .lf (some (ti334)) .lf) (some (ti206)) .lf)) (some (ti46)) (.nd (.nd (.nd .lf (some (ti302)) .lf) (some (ti174)) .lf) (some (ti110)) (.nd (.nd .lf (some (ti366)) .lf) (some (ti238)) .lf))) none (.nd (.nd (.nd .lf (some (ti158)) .lf) none (.nd (.nd .lf (some (ti350)) .lf) (some (ti222)) .lf)) (some (ti62)) (.nd (.nd (.nd .lf (some (ti318)) .lf) (some (ti190)) .lf) (some (ti126)) (.nd .lf (some (ti254)) .lf))))))))
def FLT : Tr Nat := (.nd (.nd (.nd (.nd (.nd .lf none (.nd (.nd (.nd .lf (some (5)) .lf) none .lf) none .lf)) (some (117)) (.nd (.nd .lf none (.nd .lf none (.nd (.nd .lf (some (2)) .lf) none .lf))) none .lf)) none (.nd (.nd (.nd .lf none (.nd (.nd .lf (some (21)) .lf) none (.nd (.nd .lf (some (5)) .lf) none .lf))) none (.nd (.nd (.nd .lf (some (42)) .lf) none .lf) none .lf)) none (.nd .lf none (.nd .lf none (.nd .lf (some (10)) .lf))))) none (.nd .lf none (.nd (.nd .lf none (.nd (.nd .lf (some (938)) .lf) none (.nd .lf (some (42)) .lf))) none (.nd .lf none (.nd .lf none (.nd .lf (some (9)) .lf)))))) none (.nd (.nd (.nd (.nd .lf none (.nd (.nd (.nd .lf (some (5)) .lf) none .lf) none .lf)) (some (117)) .lf) none (.nd (.nd (.nd .lf none (.nd (.nd .lf (some (21)) .lf) none .lf)) none (.nd (.nd .lf (some (938)) .lf) none .lf)) none .lf)) none (.nd (.nd (.nd (.nd .lf none (.nd .lf none (.nd (.nd .lf (some (5)) .lf) none .lf))) none (.nd (.nd (.nd .lf (some (42)) .lf) none .lf) none .lf)) none (.nd .lf none (.nd .lf none (.nd .lf (some (10)) .lf)))) none (.nd (.nd (.nd .lf none (.nd .lf none (.nd (.nd .lf (some (2)) .lf) none .lf))) none (.nd .lf none (.nd .lf (some (42)) .lf))) none (.nd .lf none (.nd .lf none (.nd .lf (some (9)) .lf)))))))
def T : TT := { ty := fun t => TYT.get t, flat := fun t => (FLT.get t).getD 0, ixb := fun f => Nat.beq f 222, nesc := fun f => Nat.beq f 199, mnz := fun f => if Nat.beq f 241 then some 5 else none, lies := fun u => if Nat.beq u 111 then [(110, 2), (111, 2), (112, 3), (113, 3)] else [], ng := 8 }
theorem tg1 : TGood Tryz.prog 1 ti1 := tgood (j := Tryz.t1) (z := Tryz.t1.zero.getD .nilIface) (by kernel_rfl) Tryz.underlying1 (by kernel_rfl) (by kernel_rfl) (by kernel_rfl) (by kernel_rfl) (by kernel_rfl)
theorem tg2 : TGood Tryz.prog 2 ti2 := tgood (j := Tryz.t2) (z := Tryz.t2.zero.getD .nilIface) (by kernel_rfl) Tryz.underlying2 (by kernel_rfl) (by kernel_rfl) (by kernel_rfl) (by kernel_rfl) (by kernel_rfl)
theorem tg3 : TGood Tryz.prog 3 ti3 := tgood (j := Tryz.t3) (z := Tryz.t3.zero.getD .nilIface) (by kernel_rfl) Tryz.underlying3 (by kernel_rfl) (by kernel_rfl) (by kernel_rfl) (by kernel_rfl) (by kernel_rfl)
theorem tg4 : TGood Tryz.prog 4 ti4 := tgood (j := Tryz.t4) (z := Tryz.t4.zero.getD .nilIface) (by kernel_rfl) Tryz.underlying4 (by kernel_rfl) (by kernel_rfl) (by kernel_rfl) (by kernel_rfl) (by kernel_rfl)
theorem tg5 : TGood Tryz.prog 5 ti5 := tgood (j := Tryz.t5) (z := Tryz.t5.zero.getD .nilIface) (by kernel_rfl) Tryz.underlying5 (by kernel_rfl) (by kernel_rfl) (by kernel_rfl) (by kernel_rfl) (by kernel_rfl)
theorem tg6 : TGood Tryz.prog 6 ti6 := tgood (j := Tryz.t6) (z := Tryz.t6.zero.getD .nilIface) (by kernel_rfl) Tryz.underlying6 (by kernel_rfl) (by kernel_rfl) (by kernel_rfl) (by kernel_rfl) (by kernel_rfl)
theorem tg7 : TGood Tryz.prog 7 ti7 := tgood (j := Tryz.t7) (z := Tryz.t7.zero.getD .nilIface) (by kernel_rfl) Tryz.underlying7 (by kernel_rfl) (by kernel_rfl) (by kernel_rfl) (by kernel_rfl) (by kernel_rfl)
theorem tg8 : TGood Tryz.prog 8 ti8 := tgood (j := Tryz.t8) (z := Tryz.t8.zero.getD .nilIface) (by kernel_rfl) Tryz.underlying8 (by kernel_rfl) (by kernel_rfl) (by kernel_rfl) (by kernel_rfl) (by kernel_rfl)
theorem tg9 : TGood Tryz.prog 9 ti9 := tgood (j := Tryz.t9) (z := Tryz.t9.zero.getD .nilIface) (by kernel_rfl) Tryz.underlying9 (by kernel_rfl) (by kernel_rfl) (by kernel_rfl) (by kernel_rfl) (by kernel_rfl)
theorem tg10 : TGood Tryz.prog 10 ti10 := tgood (j := Tryz.t10) (z := Tryz.t10.zero.getD .nilIface) (by kernel_rfl) Tryz.underlying10 (by kernel_rfl) (by kernel_rfl) (by kernel_rfl) (by kernel_rfl) (by kernel_rfl)
theorem tg11 : TGood Tryz.prog 11 ti11 := tgood (j := Tryz.t11) (z := Tryz.t11.zero.getD .nilIface) (by kernel_rfl) Tryz.underlying11 (by kernel_rfl) (by kernel_rfl) (by kernel_rfl) (by kernel_rfl) (by kernel_rfl)
theorem tg12 : TGood Tryz.prog 12 ti12 := tgood (j := Tryz.t12) (z := Tryz.t12.zero.getD .nilIface) (by kernel_rfl) Tryz.underlying12 (by kernel_rfl) (by kernel_rfl) (by kernel_rfl) (by kernel_rfl) (by kernel_rfl)
theorem tg13 : TGood Tryz.prog 13 ti13 := tgood (j := Tryz.t13) (z := Tryz.t13.zero.getD .nilIface) (by kernel_rfl) Tryz.underlying13 (by kernel_rfl) (by kernel_rfl) (by kernel_rfl) (by kernel_rfl) (by kernel_rfl)
theorem tg14 : TGood Tryz.prog 14 ti14 := tgood (j := Tryz.t14) (z := Tryz.t14.zero.getD .nilIface) (by kernel_rfl) Tryz.underlying14 (by kernel_rfl) (by kernel_rfl) (by kernel_rfl) (by kernel_rfl) (by kernel_rfl)
theorem tg15 : TGood Tryz.prog 15 ti15 := tgood (j := Tryz.t15) (z := Tryz.t15.zero.getD .nilIface) (by kernel_rfl) Tryz.underlying15 (by kernel_rfl) (by kernel_rfl) (by kernel_rfl) (by kernel_rfl) (by kernel_rfl)
theorem tg16 : TGood Tryz.prog 16 ti16 := tgood (j := Tryz.t16) (z := Tryz.t16.zero.getD .nilIface) (by kernel_rfl) Tryz.underlying16 (by kernel_rfl) (by kernel_rfl) (by kernel_rfl) (by kernel_rfl) (by kernel_rfl)
theorem tg17 : TGood Tryz.prog 17 ti17 := tgood (j := Tryz.t17) (z := Tryz.t17.zero.getD .nilIface) (by kernel_rfl) Tryz.underlying17 (by kernel_rfl) (by kernel_rfl) (by kernel_rfl) (by kernel_rfl) (by kernel_rfl)
theorem tg18 : TGood Tryz.prog 18 ti18 := tgood (j := Tryz.t18) (z := Tryz.t18.zero.getD .nilIface) (by kernel_rfl) Tryz.underlying18 (by kernel_rfl) (by kernel_rfl) (by kernel_rfl) (by kernel_rfl) (by kernel_rfl)
theorem tg19 : TGood Tryz.prog 19 ti19 := tgood (j := Tryz.t19) (z := Tryz.t19.zero.getD .nilIface) (by kernel_rfl) Tryz.underlying19 (by kernel_rfl) (by kernel_rfl) (by kernel_rfl) (by kernel_rfl) (by kernel_rfl)
theorem tg20 : TGood Tryz.prog 20 ti20 := tgood (j := Tryz.t20) (z := Tryz.t20.zero.getD .nilIface) (by kernel_rfl) Tryz.underlying20 (by kernel_rfl) (by kernel_rfl) (by kernel_rfl) (by kernel_rfl) (by kernel_rfl)
theorem tg21 : TGood Tryz.prog 21 ti21 := tgood (j := Tryz.t21) (z := Tryz.t21.zero.getD .nilIface) (by kernel_rfl) Tryz.underlying21 (by kernel_rfl) (by kernel_rfl) (by kernel_rfl) (by kernel_rfl) (by kernel_rfl)
theorem tg22 : TGood Tryz.prog 22 ti22 := tgood (j := Tryz.t22) (z := Tryz.t22.zero.getD .nilIface) (by kernel_rfl) Tryz.underlying22 (by kernel_rfl) (by kernel_rfl) (by kernel_rfl) (by kernel_rfl) (by kernel_rfl)
theorem tg23 : TGood Tryz.prog 23 ti23 := tgood (j := Tryz.t23) (z := Tryz.t23.zero.getD .nilIface) (by kernel_rfl) Tryz.underlying23 (by kernel_rfl) (by kernel_rfl) (by kernel_rfl) (by kernel_rfl) (by kernel_rfl)
theorem tg25 : TGood Tryz.prog 25 ti25 := tgood (j := Tryz.t25) (z := Tryz.t25.zero.getD .nilIface) (by kernel_rfl) Tryz.underlying25 (by kernel_rfl) (by kernel_rfl) (by kernel_rfl) (by kernel_rfl) (by kernel_rfl)
theorem tg26 : TGood Tryz.prog 26 ti26 := tgood (j := Tryz.t26) (z := Tryz.t26.zero.getD .nilIface) (by kernel_rfl) Tryz.underlying26 (by kernel_rfl) (by kernel_rfl) (by kernel_rfl) (by kernel_rfl) (by kernel_rfl)
theorem tg27 : TGood Tryz.prog 27 ti27 := tgood (j := Tryz.t27) (z := Tryz.t27.zero.getD .nilIface) (by kernel_rfl) Tryz.underlying27 (by kernel_rfl) (by kernel_rfl) (by kernel_rfl) (by kernel_rfl) (by kernel_rfl)
theorem tg28 : TGood Tryz.prog 28 ti28 := tgood (j := Tryz.t28) (z := Tryz.t28.zero.getD .nilIface) (by kernel_rfl) Tryz.underlying28 (by kernel_rfl) (by kernel_rfl) (by kernel_rfl) (by kernel_rfl) (by kernel_rfl)
theorem tg29 : TGood Tryz.prog 29 ti29 := tgood (j := Tryz.t29) (z := Tryz.t29.zero.getD .nilIface) (by kernel_rfl) Tryz.underlying29 (by kernel_rfl) (by kernel_rfl) (by kernel_rfl) (by kernel_rfl) (by kernel_rfl)
theorem tg31 : TGood Tryz.prog 31 ti31 := tgood (j := Tryz.t31) (z := Tryz.t31.zero.getD .nilIface) (by kernel_rfl) Tryz.underlying31 (by kernel_rfl) (by kernel_rfl) (by kernel_rfl) (by kernel_rfl) (by kernel_rfl)
theorem tg32 : TGood Tryz.prog 32 ti32 := tgood (j := Tryz.t32) (z := Tryz.t32.zero.getD .nilIface) (by kernel_rfl) Tryz.underlying32 (by kernel_rfl) (by kernel_rfl) (by kernel_rfl) (by kernel_rfl) (by kernel_rfl)
theorem tg34 : TGood Tryz.prog 34 ti34 := tgood (j := Tryz.t34) (z := Tryz.t34.zero.getD .nilIface) (by kernel_rfl) Tryz.underlying34 (by kernel_rfl) (by kernel_rfl) (by kernel_rfl) (by kernel_rfl) (by kernel_rfl)
theorem tg35 : TGood Tryz.prog 35 ti35 := tgood (j := Tryz.t35) (z := Tryz.t35.zero.getD .nilIface) (by kernel_rfl) Tryz.underlying35 (by kernel_rfl) (by kernel_rfl) (by kernel_rfl) (by kernel_rfl) (by kernel_rfl)
theorem tg36 : TGood Tryz.prog 36 ti36 := tgood (j := Tryz.t36) (z := Tryz.t36.zero.getD .nilIface) (by kernel_rfl) Tryz.underlying36 (by kernel_rfl) (by kernel_rfl) (by kernel_rfl) (by kernel_rfl) (by kernel_rfl)
theorem tg37 : TGood Tryz.prog 37 ti37 := tgood (j := Tryz.t37) (z := Tryz.t37.zero.getD .nilIface) (by kernel_rfl) Tryz.underlying37 (by kernel_rfl) (by kernel_rfl) (by kernel_rfl) (by kernel_rfl) (by kernel_rfl)
theorem tg39 : TGood Tryz.prog 39 ti39 := tgood (j := Tryz.t39) (z := Tryz.t39.zero.getD .nilIface) (by kernel_rfl) Tryz.underlying39 (by kernel_rfl) (by kernel_rfl) (by kernel_rfl) (by kernel_rfl) (by kernel_rfl)
theorem tg40 : TGood Tryz.prog 40 ti40 := tgood (j := Tryz.t40) (z := Tryz.t40.zero.getD .nilIface) (by kernel_rfl) Tryz.underlying40 (by kernel_rfl) (by kernel_rfl) (by kernel_rfl) (by kernel_rfl) (by kernel_rfl)
theorem tg41 : TGood Tryz.prog 41 ti41 := tgood (j := Tryz.t41) (z := Tryz.t41.zero.getD .nilIface) (by kernel_rfl) Tryz.underlying41 (by kernel_rfl) (by kernel_rfl) (by kernel_rfl) (by kernel_rfl) (by kernel_rfl)
theorem tg42 : TGood Tryz.prog 42 ti42 := tgood (j := Tryz.t42) (z := Tryz.t42.zero.getD .nilIface) (by kernel_rfl) Tryz.underlying42 (by kernel_rfl) (by kernel_rfl) (by kernel_rfl) (by kernel_rfl) (by kernel_rfl)
theorem tg43 : TGood Tryz.prog 43 ti43 := tgood (j := Tryz.t43) (z := Tryz.t43.zero.getD .nilIface) (by kernel_rfl) Tryz.underlying43 (by kernel_rfl) (by kernel_rfl) (by kernel_rfl) (by kernel_rfl) (by kernel_rfl)
theorem tg44 : TGood Tryz.prog 44 ti44 := tgood (j := Tryz.t44) (z := Tryz.t44.zero.getD .nilIface) (by kernel_rfl) Tryz.underlying44 (by kernel_rfl) (by kernel_rfl) (by kernel_rfl) (by kernel_rfl) (by kernel_rfl)
theorem tg46 : TGood Tryz.prog 46 ti46 := tgood (j := Tryz.t46) (z := Tryz.t46.zero.getD .nilIface) (by kernel_rfl) Tryz.underlying46 (by kernel_rfl) (by kernel_rfl) (by kernel_rfl) (by kernel_rfl) (by kernel_rfl)
theorem tg47 : TGood Tryz.prog 47 ti47 := tgood (j := Tryz.t47) (z := Tryz.t47.zero.getD .nilIface) (by kernel_rfl) Tryz.underlying47 (by kernel_rfl) (by kernel_rfl) (by kernel_rfl) (by kernel_rfl) (by kernel_rfl)
theorem tg49 : TGood Tryz.prog 49 ti49 := tgood (j := Tryz.t49) (z := Tryz.t49.zero.getD .nilIface) (by kernel_rfl) Tryz.underlying49 (by kernel_rfl) (by kernel_rfl) (by kernel_rfl) (by kernel_rfl) (by kernel_rfl)
theorem tg51 : TGood Tryz.prog 51 ti51 := tgood (j := Tryz.t51) (z := Tryz.t51.zero.getD .nilIface) (by kernel_rfl) Tryz.underlying51 (by kernel_rfl) (by kernel_rfl) (by kernel_rfl) (by kernel_rfl) (by kernel_rfl)
theorem tg53 : TGood Tryz.prog 53 ti53 := tgood (j := Tryz.t53) (z := Tryz.t53.zero.getD .nilIface) (by kernel_rfl) Tryz.underlying53 (by kernel_rfl) (by kernel_rfl) (by kernel_rfl) (by kernel_rfl) (by kernel_rfl)
theorem tg54 : TGood Tryz.prog 54 ti54 := tgood (j := Tryz.t54) (z := Tryz.t54.zero.getD .nilIface) (by kernel_rfl) Tryz.underlying54 (by kernel_rfl) (by kernel_rfl) (by kernel_rfl) (by kernel_rfl) (by kernel_rfl)
theorem tg55 : TGood Tryz.prog 55 ti55 := tgood (j := Tryz.t55) (z := Tryz.t55.zero.getD .nilIface) (by kernel_rfl) Tryz.underlying55 (by kernel_rfl) (by kernel_rfl) (by kernel_rfl) (by kernel_rfl) (by kernel_rfl)
theorem tg56 : TGood Tryz.prog 56 ti56 := tgood (j := Tryz.t56) (z := Tryz.t56.zero.getD .nilIface) (by kernel_rfl) Tryz.underlying56 (by kernel_rfl) (by kernel_rfl) (by kernel_rfl) (by kernel_rfl) (by kernel_rfl)
theorem tg58 : TGood Tryz.prog 58 ti58 := tgood (j := Tryz.t58) (z := Tryz.t58.zero.getD .nilIface) (by kernel_rfl) Tryz.underlying58 (by kernel_rfl) (by kernel_rfl) (by kernel_rfl) (by kernel_rfl) (by kernel_rfl)
theorem tg59 : TGood Tryz.prog 59 ti59 := tgood (j := Tryz.t59) (z := Tryz.t59.zero.getD .nilIface) (by kernel_rfl) Tryz.underlying59 (by kernel_rfl) (by kernel_rfl) (by kernel_rfl) (by kernel_rfl) (by kernel_rfl)
theorem tg60 : TGood Tryz.prog 60 ti60 := tgood (j := Tryz.t60) (z := Tryz.t60.zero.getD .nilIface) (by kernel_rfl) Tryz.underlying60 (by kernel_rfl) (by kernel_rfl) (by kernel_rfl) (by kernel_rfl) (by kernel_rfl)
theorem tg61 : TGood Tryz.prog 61 ti61 := tgood (j := Tryz.t61) (z := Tryz.t61.zero.getD .nilIface) (by kernel_rfl) Tryz.underlying61 (by kernel_rfl) (by kernel_rfl) (by kernel_rfl) (by kernel_rfl) (by kernel_rfl)
theorem tg62 : TGood Tryz.prog 62 ti62 := tgood (j := Tryz.t62) (z := Tryz.t62.zero.getD .nilIface) (by kernel_rfl) Tryz.underlying62 (by kernel_rfl) (by kernel_rfl) (by kernel_rfl) (by kernel_rfl) (by kernel_rfl)
theorem tg63 : TGood Tryz.prog 63 ti63 := tgood (j := Tryz.t63) (z := Tryz.t63.zero.getD .nilIface) (by kernel_rfl) Tryz.underlying63 (by kernel_rfl) (by kernel_rfl) (by kernel_rfl) (by kernel_rfl) (by kernel_rfl)
theorem tg64 : TGood Tryz.prog 64 ti64 := tgood (j := Tryz.t64) (z := Tryz.t64.zero.getD .nilIface) (by kernel_rfl) Tryz.underlying64 (by kernel_rfl) (by kernel_rfl) (by kernel_rfl) (by kernel_rfl) (by kernel_rfl)
theorem tg65 : TGood Tryz.prog 65 ti65 := tgood (j := Tryz.t65) (z := Tryz.t65.zero.getD .nilIface) (by kernel_rfl) Tryz.underlying65 (by kernel_rfl) (by kernel_rfl) (by kernel_rfl) (by kernel_rfl) (by kernel_rfl)
theorem tg66 : TGood Tryz.prog 66 ti66 := tgood (j := Tryz.t66) (z := Tryz.t66.zero.getD .nilIface) (by kernel_rfl) Tryz.underlying66 (by kernel_rfl) (by kernel_rfl) (by kernel_rfl) (by kernel_rfl) (by kernel_rfl)
theorem tg67 : TGood Tryz.prog 67 ti67 := tgood (j := Tryz.t67) (z := Tryz.t67.zero.getD .nilIface) (by kernel_rfl) Tryz.underlying67 (by kernel_rfl) (by kernel_rfl) (by kernel_rfl) (by kernel_rfl) (by kernel_rfl)
theorem tg68 : TGood Tryz.prog 68 ti68 := tgood (j := Tryz.t68) (z := Tryz.t68.zero.getD .nilIface) (by kernel_rfl) Tryz.underlying68 (by kernel_rfl) (by kernel_rfl) (by kernel_rfl) (by kernel_rfl) (by kernel_rfl)
theorem tg69 : TGood Tryz.prog 69 ti69 := tgood (j := Tryz.t69) (z := Tryz.t69.zero.getD .nilIface) (by kernel_rfl) Tryz.underlying69 (by kernel_rfl) (by kernel_rfl) (by kernel_rfl) (by kernel_rfl) (by kernel_rfl)
theorem tg70 : TGood Tryz.prog 70 ti70 := tgood (j := Tryz.t70) (z := Tryz.t70.zero.getD .nilIface) (by kernel_rfl) Tryz.underlying70 (by kernel_rfl) (by kernel_rfl) (by kernel_rfl) (by kernel_rfl) (by kernel_rfl)
theorem tg71 : TGood Tryz.prog 71 ti71 := tgood (j := Tryz.t71) (z := Tryz.t71.zero.getD .nilIface) (by kernel_rfl) Tryz.underlying71 (by kernel_rfl) (by kernel_rfl) (by kernel_rfl) (by kernel_rfl) (by kernel_rfl)
theorem tg72 : TGood Tryz.prog 72 ti72 := tgood (j := Tryz.t72) (z := Tryz.t72.zero.getD .nilIface) (by kernel_rfl) Tryz.underlying72 (by kernel_rfl) (by kernel_rfl) (by kernel_rfl) (by kernel_rfl) (by kernel_rfl)
theorem tg73 : TGood Tryz.prog 73 ti73 := tgood (j := Tryz.t73) (z := Tryz.t73.zero.getD .nilIface) (by kernel_rfl) Tryz.underlying73 (by kernel_rfl) (by kernel_rfl) (by kernel_rfl) (by kernel_rfl) (by kernel_rfl)
theorem tg74 : TGood Tryz.prog 74 ti74 := tgood (j := Tryz.t74) (z := Tryz.t74.zero.getD .nilIface) (by kernel_rfl) Tryz.underlying74 (by kernel_rfl) (by kernel_rfl) (by kernel_rfl) (by kernel_rfl) (by kernel_rfl)
theorem tg75 : TGood Tryz.prog 75 ti75 := tgood (j := Tryz.t75) (z := Tryz.t75.zero.getD .nilIface) (by kernel_rfl) Tryz.underlying75 (by kernel_rfl) (by kernel_rfl) (by kernel_rfl) (by kernel_rfl) (by kernel_rfl)
theorem tg76 : TGood Tryz.prog 76 ti76 := tgood (j := Tryz.t76) (z := Tryz.t76.zero.getD .nilIface) (by kernel_rfl) Tryz.underlying76 (by kernel_rfl) (by kernel_rfl) (by kernel_rfl) (by kernel_rfl) (by kernel_rfl)
theorem tg77 : TGood Tryz.prog 77 ti77 := tgood (j := Tryz.t77) (z := Tryz.t77.zero.getD .nilIface) (by kernel_rfl) Tryz.underlying77 (by kernel_rfl) (by kernel_rfl) (by kernel_rfl) (by kernel_rfl) (by kernel_rfl)
theorem tg78 : TGood Tryz.prog 78 ti78 := tgood (j := Tryz.t78) (z := Tryz.t78.zero.getD .nilIface) (by kernel_rfl) Tryz.underlying78 (by kernel_rfl) (by kernel_rfl) (by kernel_rfl) (by kernel_rfl) (by kernel_rfl)
theorem tg79 : TGood Tryz.prog 79 ti79 := tgood (j := Tryz.t79) (z := Tryz.t79.zero.getD .nilIface) (by kernel_rfl) Tryz.underlying79 (by kernel_rfl) (by kernel_rfl) (by kernel_rfl) (by kernel_rfl) (by kernel_rfl)
theorem tg81 : TGood Tryz.prog 81 ti81 := tgood (j := Tryz.t81) (z := Tryz.t81.zero.getD .nilIface) (by kernel_rfl) Tryz.underlying81 (by kernel_rfl) (by kernel_rfl) (by kernel_rfl) (by kernel_rfl) (by kernel_rfl)
theorem tg82 : TGood Tryz.prog 82 ti82 := tgood (j := Tryz.t82) (z := Tryz.t82.zero.getD .nilIface) (by kernel_rfl) Tryz.underlying82 (by kernel_rfl) (by kernel_rfl) (by kernel_rfl) (by kernel_rfl) (by kernel_rfl)
theorem tg83 : TGood Tryz.prog 83 ti83 := tgood (j := Tryz.t83) (z := Tryz.t83.zero.getD .nilIface) (by kernel_rfl) Tryz.underlying83 (by kernel_rfl) (by kernel_rfl) (by kernel_rfl) (by kernel_rfl) (by kernel_rfl)
theorem tg84 : TGood Tryz.prog 84 ti84 := tgood (j := Tryz.t84) (z := Tryz.t84.zero.getD .nilIface) (by kernel_rfl) Tryz.underlying84 (by kernel_rfl) (by kernel_rfl) (by kernel_rfl) (by kernel_rfl) (by kernel_rfl)
theorem tg85 : TGood Tryz.prog 85 ti85 := tgood (j := Tryz.t85) (z := Tryz.t85.zero.getD .nilIface) (by kernel_rfl) Tryz.underlying85 (by kernel_rfl) (by kernel_rfl) (by kernel_rfl) (by kernel_rfl) (by kernel_rfl)
theorem tg86 : TGood Tryz.prog 86 ti86 := tgood (j := Tryz.t86) (z := Tryz.t86.zero.getD .nilIface) (by kernel_rfl) Tryz.underlying86 (by kernel_rfl) (by kernel_rfl) (by kernel_rfl) (by kernel_rfl) (by kernel_rfl)
theorem tg87 : TGood Tryz.prog 87 ti87 := tgood (j := Tryz.t87) (z := Tryz.t87.zero.getD .nilIface) (by kernel_rfl) Tryz.underlying87 (by kernel_rfl) (by kernel_rfl) (by kernel_rfl) (by kernel_rfl) (by kernel_rfl)
theorem tg88 : TGood Tryz.prog 88 ti88 := tgood (j := Tryz.t88) (z := Tryz.t88.zero.getD .nilIface) (by kernel_rfl) Tryz.underlying88 (by kernel_rfl) (by kernel_rfl) (by kernel_rfl) (by kernel_rfl) (by kernel_rfl)
theorem tg89 : TGood Tryz.prog 89 ti89 := tgood (j := Tryz.t89) (z := Tryz.t89.zero.getD .nilIface) (by kernel_rfl) Tryz.underlying89 (by kernel_rfl) (by kernel_rfl) (by kernel_rfl) (by kernel_rfl) (by kernel_rfl)
theorem tg90 : TGood Tryz.prog 90 ti90 := tgood (j := Tryz.t90) (z := Tryz.t90.zero.getD .nilIface) (by kernel_rfl) Tryz.underlying90 (by kernel_rfl) (by kernel_rfl) (by kernel_rfl) (by kernel_rfl) (by kernel_rfl)
theorem tg92 : TGood Tryz.prog 92 ti92 := tgood (j := Tryz.t92) (z := Tryz.t92.zero.getD .nilIface) (by kernel_rfl) Tryz.underlying92 (by kernel_rfl) (by kernel_rfl) (by kernel_rfl) (by kernel_rfl) (by kernel_rfl)
theorem tg93 : TGood Tryz.prog 93 ti93 := tgood (j := Tryz.t93) (z := Tryz.t93.zero.getD .nilIface) (by kernel_rfl) Tryz.underlying93 (by kernel_rfl) (by kernel_rfl) (by kernel_rfl) (by kernel_rfl) (by kernel_rfl)
theorem tg95 : TGood Tryz.prog 95 ti95 := tgood (j := Tryz.t95) (z := Tryz.t95.zero.getD .nilIface) (by kernel_rfl) Tryz.underlying95 (by kernel_rfl) (by kernel_rfl) (by kernel_rfl) (by kernel_rfl) (by kernel_rfl)
theorem tg96 : TGood Tryz.prog 96 ti96 := tgood (j := Tryz.t96) (z := Tryz.t96.zero.getD .nilIface) (by kernel_rfl) Tryz.underlying96 (by kernel_rfl) (by kernel_rfl) (by kernel_rfl) (by kernel_rfl) (by kernel_rfl)
theorem tg97 : TGood Tryz.prog 97 ti97 := tgood (j := Tryz.t97) (z := Tryz.t97.zero.getD .nilIface) (by kernel_rfl) Tryz.underlying97 (by kernel_rfl) (by kernel_rfl) (by kernel_rfl) (by kernel_rfl) (by kernel_rfl)
theorem tg98 : TGood Tryz.prog 98 ti98 := tgood (j := Tryz.t98) (z := Tryz.t98.zero.getD .nilIface) (by kernel_rfl) Tryz.underlying98 (by kernel_rfl) (by kernel_rfl) (by kernel_rfl) (by kernel_rfl) (by kernel_rfl)
theorem tg99 : TGood Tryz.prog 99 ti99 := tgood (j := Tryz.t99) (z := Tryz.t99.zero.getD .nilIface) (by kernel_rfl) Tryz.underlying99 (by kernel_rfl) (by kernel_rfl) (by kernel_rfl) (by kernel_rfl) (by kernel_rfl)
theorem tg100 : TGood Tryz.prog 100 ti100 := tgood (j := Tryz.t100) (z := Tryz.t100.zero.getD .nilIface) (by kernel_rfl) Tryz.underlying100 (by kernel_rfl) (by kernel_rfl) (by kernel_rfl) (by kernel_rfl) (by kernel_rfl)
theorem tg101 : TGood Tryz.prog 101 ti101 := tgood (j := Tryz.t101) (z := Tryz.t101.zero.getD .nilIface) (by kernel_rfl) Tryz.underlying101 (by kernel_rfl) (by kernel_rfl) (by kernel_rfl) (by kernel_rfl) (by kernel_rfl)
theorem tg102 : TGood Tryz.prog 102 ti102 := tgood (j := Tryz.t102) (z := Tryz.t102.zero.getD .nilIface) (by kernel_rfl) Tryz.underlying102 (by kernel_rfl) (by kernel_rfl) (by kernel_rfl) (by kernel_rfl) (by kernel_rfl)
theorem tg103 : TGood Tryz.prog 103 ti103 := tgood (j := Tryz.t103) (z := Tryz.t103.zero.getD .nilIface) (by kernel_rfl) Tryz.underlying103 (by kernel_rfl) (by kernel_rfl) (by kernel_rfl) (by kernel_rfl) (by kernel_rfl)
theorem tg104 : TGood Tryz.prog 104 ti104 := tgood (j := Tryz.t104) (z := Tryz.t104.zero.getD .nilIface) (by kernel_rfl) Tryz.underlying104 (by kernel_rfl) (by kernel_rfl) (by kernel_rfl) (by kernel_rfl) (by kernel_rfl)
theorem tg105 : TGood Tryz.prog 105 ti105 := tgood (j := Tryz.t105) (z := Tryz.t105.zero.getD .nilIface) (by kernel_rfl) Tryz.underlying105 (by kernel_rfl) (by kernel_rfl) (by kernel_rfl) (by kernel_rfl) (by kernel_rfl)
theorem tg106 : TGood Tryz.prog 106 ti106 := tgood (j := Tryz.t106) (z := Tryz.t106.zero.getD .nilIface) (by kernel_rfl) Tryz.underlying106 (by kernel_rfl) (by kernel_rfl) (by kernel_rfl) (by kernel_rfl) (by kernel_rfl)
theorem tg107 : TGood Tryz.prog 107 ti107 := tgood (j := Tryz.t107) (z := Tryz.t107.zero.getD .nilIface) (by kernel_rfl) Tryz.underlying107 (by kernel_rfl) (by kernel_rfl) (by kernel_rfl) (by kernel_rfl) (by kernel_rfl)
theorem tg108 : TGood Tryz.prog 108 ti108 := tgood (j := Tryz.t108) (z := Tryz.t108.zero.getD .nilIface) (by kernel_rfl) Tryz.underlying108 (by kernel_rfl) (by kernel_rfl) (by kernel_rfl) (by kernel_rfl) (by kernel_rfl)
theorem tg109 : TGood Tryz.prog 109 ti109 := tgood (j := Tryz.t109) (z := Tryz.t109.zero.getD .nilIface) (by kernel_rfl) Tryz.underlying109 (by kernel_rfl) (by kernel_rfl) (by kernel_rfl) (by kernel_rfl) (by kernel_rfl)
theorem tg110 : TGood Tryz.prog 110 ti110 := tgood (j := Tryz.t110) (z := Tryz.t110.zero.getD .nilIface) (by kernel_rfl) Tryz.underlying110 (by kernel_rfl) (by kernel_rfl) (by kernel_rfl) (by kernel_rfl) (by kernel_rfl)
theorem tg111 : TGood Tryz.prog 111 ti111 := tgood (j := Tryz.t111) (z := Tryz.t111.zero.getD .nilIface) (by kernel_rfl) Tryz.underlying111 (by kernel_rfl) (by kernel_rfl) (by kernel_rfl) (by kernel_rfl) (by kernel_rfl)
theorem tg112 : TGood Tryz.prog 112 ti112 := tgood (j := Tryz.t112) (z := Tryz.t112.zero.getD .nilIface) (by kernel_rfl) Tryz.underlying112 (by kernel_rfl) (by kernel_rfl) (by kernel_rfl) (by kernel_rfl) (by kernel_rfl)
theorem tg113 : TGood Tryz.prog 113 ti113 := tgood (j := Tryz.t113) (z := Tryz.t113.zero.getD .nilIface) (by kernel_rfl) Tryz.underlying113 (by kernel_rfl) (by kernel_rfl) (by kernel_rfl) (by kernel_rfl) (by kernel_rfl)
theorem tg114 : TGood Tryz.prog 114 ti114 := tgood (j := Tryz.t114) (z := Tryz.t114.zero.getD .nilIface) (by kernel_rfl) Tryz.underlying114 (by kernel_rfl) (by kernel_rfl) (by kernel_rfl) (by kernel_rfl) (by kernel_rfl)
theorem tg115 : TGood Tryz.prog 115 ti115 := tgood (j := Tryz.t115) (z := Tryz.t115.zero.getD .nilIface) (by kernel_rfl) Tryz.underlying115 (by kernel_rfl) (by kernel_rfl) (by kernel_rfl) (by kernel_rfl) (by kernel_rfl)
theorem tg116 : TGood Tryz.prog 116 ti116 := tgood (j := Tryz.t116) (z := Tryz.t116.zero.getD .nilIface) (by kernel_rfl) Tryz.underlying116 (by kernel_rfl) (by kernel_rfl) (by kernel_rfl) (by kernel_rfl) (by kernel_rfl)
theorem tg117 : TGood Tryz.prog 117 ti117 := tgood (j := Tryz.t117) (z := Tryz.t117.zero.getD .nilIface) (by kernel_rfl) Tryz.underlying117 (by kernel_rfl) (by kernel_rfl) (by kernel_rfl) (by kernel_rfl) (by kernel_rfl)
theorem tg118 : TGood Tryz.prog 118 ti118 := tgood (j := Tryz.t118) (z := Tryz.t118.zero.getD .nilIface) (by kernel_rfl) Tryz.underlying118 (by kernel_rfl) (by kernel_rfl) (by kernel_rfl) (by kernel_rfl) (by kernel_rfl)
theorem tg119 : TGood Tryz.prog 119 ti119 := tgood (j := Tryz.t119) (z := Tryz.t119.zero.getD .nilIface) (by kernel_rfl) Tryz.underlying119 (by kernel_rfl) (by kernel_rfl) (by kernel_rfl) (by kernel_rfl) (by kernel_rfl)
theorem tg121 : TGood Tryz.prog 121 ti121 := tgood (j := Tryz.t121) (z := Tryz.t121.zero.getD .nilIface) (by kernel_rfl) Tryz.underlying121 (by kernel_rfl) (by kernel_rfl) (by kernel_rfl) (by kernel_rfl) (by kernel_rfl)
theorem tg122 : TGood Tryz.prog 122 ti122 := tgood (j := Tryz.t122) (z := Tryz.t122.zero.getD .nilIface) (by kernel_rfl) Tryz.underlying122 (by kernel_rfl) (by kernel_rfl) (by kernel_rfl) (by kernel_rfl) (by kernel_rfl)
theorem tg123 : TGood Tryz.prog 123 ti123 := tgood (j := Tryz.t123) (z := Tryz.t123.zero.getD .nilIface) (by kernel_rfl) Tryz.underlying123 (by kernel_rfl) (by kernel_rfl) (by kernel_rfl) (by kernel_rfl) (by kernel_rfl)
theorem tg124 : TGood Tryz.prog 124 ti124 := tgood (j := Tryz.t124) (z := Tryz.t124.zero.getD .nilIface) (by kernel_rfl) Tryz.underlying124 (by kernel_rfl) (by kernel_rfl) (by kernel_rfl) (by kernel_rfl) (by kernel_rfl)
theorem tg125 : TGood Tryz.prog 125 ti125 := tgood (j := Tryz.t125) (z := Tryz.t125.zero.getD .nilIface) (by kernel_rfl) Tryz.underlying125 (by kernel_rfl) (by kernel_rfl) (by kernel_rfl) (by kernel_rfl) (by kernel_rfl)
theorem tg126 : TGood Tryz.prog 126 ti126 := tgood (j := Tryz.t126) (z := Tryz.t126.zero.getD .nilIface) (by kernel_rfl) Tryz.underlying126 (by kernel_rfl) (by kernel_rfl) (by kernel_rfl) (by kernel_rfl) (by kernel_rfl)
theorem tg127 : TGood Tryz.prog 127 ti127 := tgood (j := Tryz.t127) (z := Tryz.t127.zero.getD .nilIface) (by kernel_rfl) Tryz.underlying127 (by kernel_rfl) (by kernel_rfl) (by kernel_rfl) (by kernel_rfl) (by kernel_rfl)
theorem tg128 : TGood Tryz.prog 128 ti128 := tgood (j := Tryz.t128) (z := Tryz.t128.zero.getD .nilIface) (by kernel_rfl) Tryz.underlying128 (by kernel_rfl) (by kernel_rfl) (by kernel_rfl) (by kernel_rfl) (by kernel_rfl)
theorem tg129 : TGood Tryz.prog 129 ti129 := tgood (j := Tryz.t129) (z := Tryz.t129.zero.getD .nilIface) (by kernel_rfl) Tryz.underlying129 (by kernel_rfl) (by kernel_rfl) (by kernel_rfl) (by kernel_rfl) (by kernel_rfl)
theorem tg130 : TGood Tryz.prog 130 ti130 := tgood (j := Tryz.t130) (z := Tryz.t130.zero.getD .nilIface) (by kernel_rfl) Tryz.underlying130 (by kernel_rfl) (by kernel_rfl) (by kernel_rfl) (by kernel_rfl) (by kernel_rfl)
theorem tg131 : TGood Tryz.prog 131 ti131 := tgood (j := Tryz.t131) (z := Tryz.t131.zero.getD .nilIface) (by kernel_rfl) Tryz.underlying131 (by kernel_rfl) (by kernel_rfl) (by kernel_rfl) (by kernel_rfl) (by kernel_rfl)
theorem tg132 : TGood Tryz.prog 132 ti132 := tgood (j := Tryz.t132) (z := Tryz.t132.zero.getD .nilIface) (by kernel_rfl) Tryz.underlying132 (by kernel_rfl) (by kernel_rfl) (by kernel_rfl) (by kernel_rfl) (by kernel_rfl)
theorem tg133 : TGood Tryz.prog 133 ti133 := tgood (j := Tryz.t133) (z := Tryz.t133.zero.getD .nilIface) (by kernel_rfl) Tryz.underlying133 (by kernel_rfl) (by kernel_rfl) (by kernel_rfl) (by kernel_rfl) (by kernel_rfl)
theorem tg134 : TGood Tryz.prog 134 ti134 := tgood (j := Tryz.t134) (z := Tryz.t134.zero.getD .nilIface) (by kernel_rfl) Tryz.underlying134 (by kernel_rfl) (by kernel_rfl) (by kernel_rfl) (by kernel_rfl) (by kernel_rfl)
theorem tg135 : TGood Tryz.prog 135 ti135 := tgood (j := Tryz.t135) (z := Tryz.t135.zero.getD .nilIface) (by kernel_rfl) Tryz.underlying135 (by kernel_rfl) (by kernel_rfl) (by kernel_rfl) (by kernel_rfl) (by kernel_rfl)
theorem tg136 : TGood Tryz.prog 136 ti136 := tgood (j := Tryz.t136) (z := Tryz.t136.zero.getD .nilIface) (by kernel_rfl) Tryz.underlying136 (by kernel_rfl) (by kernel_rfl) (by kernel_rfl) (by kernel_rfl) (by kernel_rfl)
theorem tg137 : TGood Tryz.prog 137 ti137 := tgood (j := Tryz.t137) (z := Tryz.t137.zero.getD .nilIface) (by kernel_rfl) Tryz.underlying137 (by kernel_rfl) (by kernel_rfl) (by kernel_rfl) (by kernel_rfl) (by kernel_rfl)
theorem tg138 : TGood Tryz.prog 138 ti138 := tgood (j := Tryz.t138) (z := Tryz.t138.zero.getD .nilIface) (by kernel_rfl) Tryz.underlying138 (by kernel_rfl) (by kernel_rfl) (by kernel_rfl) (by kernel_rfl) (by kernel_rfl)
theorem tg139 : TGood Tryz.prog 139 ti139 := tgood (j := Tryz.t139) (z := Tryz.t139.zero.getD .nilIface) (by kernel_rfl) Tryz.underlying139 (by kernel_rfl) (by kernel_rfl) (by kernel_rfl) (by kernel_rfl) (by kernel_rfl)
theorem tg140 : TGood Tryz.prog 140 ti140 := tgood (j := Tryz.t140) (z := Tryz.t140.zero.getD .nilIface) (by kernel_rfl) Tryz.underlying140 (by kernel_rfl) (by kernel_rfl) (by kernel_rfl) (by kernel_rfl) (by kernel_rfl)
theorem tg141 : TGood Tryz.prog 141 ti141 := tgood (j := Tryz.t141) (z := Tryz.t141.zero.getD .nilIface) (by kernel_rfl) Tryz.underlying141 (by kernel_rfl) (by kernel_rfl) (by kernel_rfl) (by kernel_rfl) (by kernel_rfl)
theorem tg142 : TGood Tryz.prog 142 ti142 := tgood (j := Tryz.t142) (z := Tryz.t142.zero.getD .nilIface) (by kernel_rfl) Tryz.underlying142 (by kernel_rfl) (by kernel_rfl) (by kernel_rfl) (by kernel_rfl) (by kernel_rfl)
theorem tg143 : TGood Tryz.prog 143 ti143 := tgood (j := Tryz.t143) (z := Tryz.t143.zero.getD .nilIface) (by kernel_rfl) Tryz.underlying143 (by kernel_rfl) (by kernel_rfl) (by kernel_rfl) (by kernel_rfl) (by kernel_rfl)
theorem tg144 : TGood Tryz.prog 144 ti144 := tgood (j := Tryz.t144) (z := Tryz.t144.zero.getD .nilIface) (by kernel_rfl) Tryz.underlying144 (by kernel_rfl) (by kernel_rfl) (by kernel_rfl) (by kernel_rfl) (by kernel_rfl)
theorem tg145 : TGood Tryz.prog 145 ti145 := tgood (j := Tryz.t145) (z := Tryz.t145.zero.getD .nilIface) (by kernel_rfl) Tryz.underlying145 (by kernel_rfl) (by kernel_rfl) (by kernel_rfl) (by kernel_rfl) (by kernel_rfl)
theorem tg146 : TGood Tryz.prog 146 ti146 := tgood (j := Tryz.t146) (z := Tryz.t146.zero.getD .nilIface) (by kernel_rfl) Tryz.underlying146 (by kernel_rfl) (by kernel_rfl) (by kernel_rfl) (by kernel_rfl) (by kernel_rfl)
theorem tg147 : TGood Tryz.prog 147 ti147 := tgood (j := Tryz.t147) (z := Tryz.t147.zero.getD .nilIface) (by kernel_rfl) Tryz.underlying147 (by kernel_rfl) (by kernel_rfl) (by kernel_rfl) (by kernel_rfl) (by kernel_rfl)
theorem tg148 : TGood Tryz.prog 148 ti148 := tgood (j := Tryz.t148) (z := Tryz.t148.zero.getD .nilIface) (by kernel_rfl) Tryz.underlying148 (by kernel_rfl) (by kernel_rfl) (by kernel_rfl) (by kernel_rfl) (by kernel_rfl)
theorem tg149 : TGood Tryz.prog 149 ti149 := tgood (j := Tryz.t149) (z := Tryz.t149.zero.getD .nilIface) (by kernel_rfl) Tryz.underlying149 (by kernel_rfl) (by kernel_rfl) (by kernel_rfl) (by kernel_rfl) (by kernel_rfl)
theorem tg150 : TGood Tryz.prog 150 ti150 := tgood (j := Tryz.t150) (z := Tryz.t150.zero.getD .nilIface) (by kernel_rfl) Tryz.underlying150 (by kernel_rfl) (by kernel_rfl) (by kernel_rfl) (by kernel_rfl) (by kernel_rfl)
theorem tg151 : TGood Tryz.prog 151 ti151 := tgood (j := Tryz.t151) (z := Tryz.t151.zero.getD .nilIface) (by kernel_rfl) Tryz.underlying151 (by kernel_rfl) (by kernel_rfl) (by kernel_rfl) (by kernel_rfl) (by kernel_rfl)
theorem tg152 : TGood Tryz.prog 152 ti152 := tgood (j := Tryz.t152) (z := Tryz.t152.zero.getD .nilIface) (by kernel_rfl) Tryz.underlying152 (by kernel_rfl) (by kernel_rfl) (by kernel_rfl) (by kernel_rfl) (by kernel_rfl)
theorem tg153 : TGood Tryz.prog 153 ti153 := tgood (j := Tryz.t153) (z := Tryz.t153.zero.getD .nilIface) (by kernel_rfl) Tryz.underlying153 (by kernel_rfl) (by kernel_rfl) (by kernel_rfl) (by kernel_rfl) (by kernel_rfl)
theorem tg154 : TGood Tryz.prog 154 ti154 := tgood (j := Tryz.t154) (z := Tryz.t154.zero.getD .nilIface) (by kernel_rfl) Tryz.underlying154 (by kernel_rfl) (by kernel_rfl) (by kernel_rfl) (by kernel_rfl) (by kernel_rfl)
theorem tg155 : TGood Tryz.prog 155 ti155 := tgood (j := Tryz.t155) (z := Tryz.t155.zero.getD .nilIface) (by kernel_rfl) Tryz.underlying155 (by kernel_rfl) (by kernel_rfl) (by kernel_rfl) (by kernel_rfl) (by kernel_rfl)
theorem tg156 : TGood Tryz.prog 156 ti156 := tgood (j := Tryz.t156) (z := Tryz.t156.zero.getD .nilIface) (by kernel_rfl) Tryz.underlying156 (by kernel_rfl) (by kernel_rfl) (by kernel_rfl) (by kernel_rfl) (by kernel_rfl)
theorem tg157 : TGood Tryz.prog 157 ti157 := tgood (j := Tryz.t157) (z := Tryz.t157.zero.getD .nilIface) (by kernel_rfl) Tryz.underlying157 (by kernel_rfl) (by kernel_rfl) (by kernel_rfl) (by kernel_rfl) (by kernel_rfl)
theorem tg158 : TGood Tryz.prog 158 ti158 := tgood (j := Tryz.t158) (z := Tryz.t158.zero.getD .nilIface) (by kernel_rfl) Tryz.underlying158 (by kernel_rfl) (by kernel_rfl) (by kernel_rfl) (by kernel_rfl) (by kernel_rfl)
theorem tg159 : TGood Tryz.prog 159 ti159 := tgood (j := Tryz.t159) (z := Tryz.t159.zero.getD .nilIface) (by kernel_rfl) Tryz.underlying159 (by kernel_rfl) (by kernel_rfl) (by kernel_rfl) (by kernel_rfl) (by kernel_rfl)
theorem tg160 : TGood Tryz.prog 160 ti160 := tgood (j := Tryz.t160) (z := Tryz.t160.zero.getD .nilIface) (by kernel_rfl) Tryz.underlying160 (by kernel_rfl) (by kernel_rfl) (by kernel_rfl) (by kernel_rfl) (by kernel_rfl)
theorem tg161 : TGood Tryz.prog 161 ti161 := tgood (j := Tryz.t161) (z := Tryz.t161.zero.getD .nilIface) (by kernel_rfl) Tryz.underlying161 (by kernel_rfl) (by kernel_rfl) (by kernel_rfl) (by kernel_rfl) (by kernel_rfl)
theorem tg162 : TGood Tryz.prog 162 ti162 := tgood (j := Tryz.t162) (z := Tryz.t162.zero.getD .nilIface) (by kernel_rfl) Tryz.underlying162 (by kernel_rfl) (by kernel_rfl) (by kernel_rfl) (by kernel_rfl) (by kernel_rfl)
theorem tg163 : TGood Tryz.prog 163 ti163 := tgood (j := Tryz.t163) (z := Tryz.t163.zero.getD .nilIface) (by kernel_rfl) Tryz.underlying163 (by kernel_rfl) (by kernel_rfl) (by kernel_rfl) (by kernel_rfl) (by kernel_rfl)
theorem tg164 : TGood Tryz.prog 164 ti164 := tgood (j := Tryz.t164) (z := Tryz.t164.zero.getD .nilIface) (by kernel_rfl) Tryz.underlying164 (by kernel_rfl) (by kernel_rfl) (by kernel_rfl) (by kernel_rfl) (by kernel_rfl)
theorem tg165 : TGood Tryz.prog 165 ti165 := tgood (j := Tryz.t165) (z := Tryz.t165.zero.getD .nilIface) (by kernel_rfl) Tryz.underlying165 (by kernel_rfl) (by kernel_rfl) (by kernel_rfl) (by kernel_rfl) (by kernel_rfl)
theorem tg167 : TGood Tryz.prog 167 ti167 := tgood (j := Tryz.t167) (z := Tryz.t167.zero.getD .nilIface) (by kernel_rfl) Tryz.underlying167 (by kernel_rfl) (by kernel_rfl) (by kernel_rfl) (by kernel_rfl) (by kernel_rfl)
theorem tg168 : TGood Tryz.prog 168 ti168 := tgood (j := Tryz.t168) (z := Tryz.t168.zero.getD .nilIface) (by kernel_rfl) Tryz.underlying168 (by kernel_rfl) (by kernel_rfl) (by kernel_rfl) (by kernel_rfl) (by kernel_rfl)
theorem tg169 : TGood Tryz.prog 169 ti169 := tgood (j := Tryz.t169) (z := Tryz.t169.zero.getD .nilIface) (by kernel_rfl) Tryz.underlying169 (by kernel_rfl) (by kernel_rfl) (by kernel_rfl) (by kernel_rfl) (by kernel_rfl)
theorem tg170 : TGood Tryz.prog 170 ti170 := tgood (j := Tryz.t170) (z := Tryz.t170.zero.getD .nilIface) (by kernel_rfl) Tryz.underlying170 (by kernel_rfl) (by kernel_rfl) (by kernel_rfl) (by kernel_rfl) (by kernel_rfl)
theorem tg172 : TGood Tryz.prog 172 ti172 := tgood (j := Tryz.t172) (z := Tryz.t172.zero.getD .nilIface) (by kernel_rfl) Tryz.underlying172 (by kernel_rfl) (by kernel_rfl) (by kernel_rfl) (by kernel_rfl) (by kernel_rfl)
theorem tg173 : TGood Tryz.prog 173 ti173 := tgood (j := Tryz.t173) (z := Tryz.t173.zero.getD .nilIface) (by kernel_rfl) Tryz.underlying173 (by kernel_rfl) (by kernel_rfl) (by kernel_rfl) (by kernel_rfl) (by kernel_rfl)
theorem tg174 : TGood Tryz.prog 174 ti174 := tgood (j := Tryz.t174) (z := Tryz.t174.zero.getD .nilIface) (by kernel_rfl) Tryz.underlying174 (by kernel_rfl) (by kernel_rfl) (by kernel_rfl) (by kernel_rfl) (by kernel_rfl)
theorem tg175 : TGood Tryz.prog 175 ti175 := tgood (j := Tryz.t175) (z := Tryz.t175.zero.getD .nilIface) (by kernel_rfl) Tryz.underlying175 (by kernel_rfl) (by kernel_rfl) (by kernel_rfl) (by kernel_rfl) (by kernel_rfl)
theorem tg176 : TGood Tryz.prog 176 ti176 := tgood (j := Tryz.t176) (z := Tryz.t176.zero.getD .nilIface) (by kernel_rfl) Tryz.underlying176 (by kernel_rfl) (by kernel_rfl) (by kernel_rfl) (by kernel_rfl) (by kernel_rfl)
theorem tg177 : TGood Tryz.prog 177 ti177 := tgood (j := Tryz.t177) (z := Tryz.t177.zero.getD .nilIface) (by kernel_rfl) Tryz.underlying177 (by kernel_rfl) (by kernel_rfl) (by kernel_rfl) (by kernel_rfl) (by kernel_rfl)
theorem tg178 : TGood Tryz.prog 178 ti178 := tgood (j := Tryz.t178) (z := Tryz.t178.zero.getD .nilIface) (by kernel_rfl) Tryz.underlying178 (by kernel_rfl) (by kernel_rfl) (by kernel_rfl) (by kernel_rfl) (by kernel_rfl)
theorem tg179 : TGood Tryz.prog 179 ti179 := tgood (j := Tryz.t179) (z := Tryz.t179.zero.getD .nilIface) (by kernel_rfl) Tryz.underlying179 (by kernel_rfl) (by kernel_rfl) (by kernel_rfl) (by kernel_rfl) (by kernel_rfl)
theorem tg180 : TGood Tryz.prog 180 ti180 := tgood (j := Tryz.t180) (z := Tryz.t180.zero.getD .nilIface) (by kernel_rfl) Tryz.underlying180 (by kernel_rfl) (by kernel_rfl) (by kernel_rfl) (by kernel_rfl) (by kernel_rfl)
theorem tg181 : TGood Tryz.prog 181 ti181 := tgood (j := Tryz.t181) (z := Tryz.t181.zero.getD .nilIface) (by kernel_rfl) Tryz.underlying181 (by kernel_rfl) (by kernel_rfl) (by kernel_rfl) (by kernel_rfl) (by kernel_rfl)
theorem tg182 : TGood Tryz.prog 182 ti182 := tgood (j := Tryz.t182) (z := Tryz.t182.zero.getD .nilIface) (by kernel_rfl) Tryz.underlying182 (by kernel_rfl) (by kernel_rfl) (by kernel_rfl) (by kernel_rfl) (by kernel_rfl)
theorem tg183 : TGood Tryz.prog 183 ti183 := tgood (j := Tryz.t183) (z := Tryz.t183.zero.getD .nilIface) (by kernel_rfl) Tryz.underlying183 (by kernel_rfl) (by kernel_rfl) (by kernel_rfl) (by kernel_rfl) (by kernel_rfl)
theorem tg184 : TGood Tryz.prog 184 ti184 := tgood (j := Tryz.t184) (z := Tryz.t184.zero.getD .nilIface) (by kernel_rfl) Tryz.underlying184 (by kernel_rfl) (by kernel_rfl) (by kernel_rfl) (by kernel_rfl) (by kernel_rfl)
theorem tg185 : TGood Tryz.prog 185 ti185 := tgood (j := Tryz.t185) (z := Tryz.t185.zero.getD .nilIface) (by kernel_rfl) Tryz.underlying185 (by kernel_rfl) (by kernel_rfl) (by kernel_rfl) (by kernel_rfl) (by kernel_rfl)
theorem tg186 : TGood Tryz.prog 186 ti186 := tgood (j := Tryz.t186) (z := Tryz.t186.zero.getD .nilIface) (by kernel_rfl) Tryz.underlying186 (by kernel_rfl) (by kernel_rfl) (by kernel_rfl) (by kernel_rfl) (by kernel_rfl)
theorem tg187 : TGood Tryz.prog 187 ti187 := tgood (j := Tryz.t187) (z := Tryz.t187.zero.getD .nilIface) (by kernel_rfl) Tryz.underlying187 (by kernel_rfl) (by kernel_rfl) (by kernel_rfl) (by kernel_rfl) (by kernel_rfl)
theorem tg188 : TGood Tryz.prog 188 ti188 := tgood (j := Tryz.t188) (z := Tryz.t188.zero.getD .nilIface) (by kernel_rfl) Tryz.underlying188 (by kernel_rfl) (by kernel_rfl) (by kernel_rfl) (by kernel_rfl) (by kernel_rfl)
theorem tg189 : TGood Tryz.prog 189 ti189 := tgood (j := Tryz.t189) (z := Tryz.t189.zero.getD .nilIface) (by kernel_rfl) Tryz.underlying189 (by kernel_rfl) (by kernel_rfl) (by kernel_rfl) (by kernel_rfl) (by kernel_rfl)
theorem tg190 : TGood Tryz.prog 190 ti190 := tgood (j := Tryz.t190) (z := Tryz.t190.zero.getD .nilIface) (by kernel_rfl) Tryz.underlying190 (by kernel_rfl) (by kernel_rfl) (by kernel_rfl) (by kernel_rfl) (by kernel_rfl)
theorem tg191 : TGood Tryz.prog 191 ti191 := tgood (j := Tryz.t191) (z := Tryz.t191.zero.getD .nilIface) (by kernel_rfl) Tryz.underlying191 (by kernel_rfl) (by kernel_rfl) (by kernel_rfl) (by kernel_rfl) (by kernel_rfl)
theorem tg192 : TGood Tryz.prog 192 ti192 := tgood (j := Tryz.t192) (z := Tryz.t192.zero.getD .nilIface) (by kernel_rfl) Tryz.underlying192 (by kernel_rfl) (by kernel_rfl) (by kernel_rfl) (by kernel_rfl) (by kernel_rfl)
theorem tg193 : TGood Tryz.prog 193 ti193 := tgood (j := Tryz.t193) (z := Tryz.t193.zero.getD .nilIface) (by kernel_rfl) Tryz.underlying193 (by kernel_rfl) (by kernel_rfl) (by kernel_rfl) (by kernel_rfl) (by kernel_rfl)
theorem tg194 : TGood Tryz.prog 194 ti194 := tgood (j := Tryz.t194) (z := Tryz.t194.zero.getD .nilIface) (by kernel_rfl) Tryz.underlying194 (by kernel_rfl) (by kernel_rfl) (by kernel_rfl) (by kernel_rfl) (by kernel_rfl)
theorem tg195 : TGood Tryz.prog 195 ti195 := tgood (j := Tryz.t195) (z := Tryz.t195.zero.getD .nilIface) (by kernel_rfl) Tryz.underlying195 (by kernel_rfl) (by kernel_rfl) (by kernel_rfl) (by kernel_rfl) (by kernel_rfl)
theorem tg196 : TGood Tryz.prog 196 ti196 := tgood (j := Tryz.t196) (z := Tryz.t196.zero.getD .nilIface) (by kernel_rfl) Tryz.underlying196 (by kernel_rfl) (by kernel_rfl) (by kernel_rfl) (by kernel_rfl) (by kernel_rfl)
theorem tg197 : TGood Tryz.prog 197 ti197 := tgood (j := Tryz.t197) (z := Tryz.t197.zero.getD .nilIface) (by kernel_rfl) Tryz.underlying197 (by kernel_rfl) (by kernel_rfl) (by kernel_rfl) (by kernel_rfl) (by kernel_rfl)
theorem tg198 : TGood Tryz.prog 198 ti198 := tgood (j := Tryz.t198) (z := Tryz.t198.zero.getD .nilIface) (by kernel_rfl) Tryz.underlying198 (by kernel_rfl) (by kernel_rfl) (by kernel_rfl) (by kernel_rfl) (by kernel_rfl)
theorem tg199 : TGood Tryz.prog 199 ti199 := tgood (j := Tryz.t199) (z := Tryz.t199.zero.getD .nilIface) (by kernel_rfl) Tryz.underlying199 (by kernel_rfl) (by kernel_rfl) (by kernel_rfl) (by kernel_rfl) (by kernel_rfl)
theorem tg200 : TGood Tryz.prog 200 ti200 := tgood (j := Tryz.t200) (z := Tryz.t200.zero.getD .nilIface) (by kernel_rfl) Tryz.underlying200 (by kernel_rfl) (by kernel_rfl) (by kernel_rfl) (by kernel_rfl) (by kernel_rfl)
theorem tg202 : TGood Tryz.prog 202 ti202 := tgood (j := Tryz.t202) (z := Tryz.t202.zero.getD .nilIface) (by kernel_rfl) Tryz.underlying202 (by kernel_rfl) (by kernel_rfl) (by kernel_rfl) (by kernel_rfl) (by kernel_rfl)
theorem tg203 : TGood Tryz.prog 203 ti203 := tgood (j := Tryz.t203) (z := Tryz.t203.zero.getD .nilIface) (by kernel_rfl) Tryz.underlying203 (by kernel_rfl) (by kernel_rfl) (by kernel_rfl) (by kernel_rfl) (by kernel_rfl)
theorem tg204 : TGood Tryz.prog 204 ti204 := tgood (j := Tryz.t204) (z := Tryz.t204.zero.getD .nilIface) (by kernel_rfl) Tryz.underlying204 (by kernel_rfl) (by kernel_rfl) (by kernel_rfl) (by kernel_rfl) (by kernel_rfl)
theorem tg205 : TGood Tryz.prog 205 ti205 := tgood (j := Tryz.t205) (z := Tryz.t205.zero.getD .nilIface) (by kernel_rfl) Tryz.underlying205 (by kernel_rfl) (by kernel_rfl) (by kernel_rfl) (by kernel_rfl) (by kernel_rfl)
theorem tg206 : TGood Tryz.prog 206 ti206 := tgood (j := Tryz.t206) (z := Tryz.t206.zero.getD .nilIface) (by kernel_rfl) Tryz.underlying206 (by kernel_rfl) (by kernel_rfl) (by kernel_rfl) (by kernel_rfl) (by kernel_rfl)
theorem tg207 : TGood Tryz.prog 207 ti207 := tgood (j := Tryz.t207) (z := Tryz.t207.zero.getD .nilIface) (by kernel_rfl) Tryz.underlying207 (by kernel_rfl) (by kernel_rfl) (by kernel_rfl) (by kernel_rfl) (by kernel_rfl)
theorem tg209 : TGood Tryz.prog 209 ti209 := tgood (j := Tryz.t209) (z := Tryz.t209.zero.getD .nilIface) (by kernel_rfl) Tryz.underlying209 (by kernel_rfl) (by kernel_rfl) (by kernel_rfl) (by kernel_rfl) (by kernel_rfl)
theorem tg210 : TGood Tryz.prog 210 ti210 := tgood (j := Tryz.t210) (z := Tryz.t210.zero.getD .nilIface) (by kernel_rfl) Tryz.underlying210 (by kernel_rfl) (by kernel_rfl) (by kernel_rfl) (by kernel_rfl) (by kernel_rfl)
theorem tg211 : TGood Tryz.prog 211 ti211 := tgood (j := Tryz.t211) (z := Tryz.t211.zero.getD .nilIface) (by kernel_rfl) Tryz.underlying211 (by kernel_rfl) (by kernel_rfl) (by kernel_rfl) (by kernel_rfl) (by kernel_rfl)
theorem tg213 : TGood Tryz.prog 213 ti213 := tgood (j := Tryz.t213) (z := Tryz.t213.zero.getD .nilIface) (by kernel_rfl) Tryz.underlying213 (by kernel_rfl) (by kernel_rfl) (by kernel_rfl) (by kernel_rfl) (by kernel_rfl)
theorem tg214 : TGood Tryz.prog 214 ti214 := tgood (j := Tryz.t214) (z := Tryz.t214.zero.getD .nilIface) (by kernel_rfl) Tryz.underlying214 (by kernel_rfl) (by kernel_rfl) (by kernel_rfl) (by kernel_rfl) (by kernel_rfl)
theorem tg215 : TGood Tryz.prog 215 ti215 := tgood (j := Tryz.t215) (z := Tryz.t215.zero.getD .nilIface) (by kernel_rfl) Tryz.underlying215 (by kernel_rfl) (by kernel_rfl) (by kernel_rfl) (by kernel_rfl) (by kernel_rfl)
theorem tg216 : TGood Tryz.prog 216 ti216 := tgood (j := Tryz.t216) (z := Tryz.t216.zero.getD .nilIface) (by kernel_rfl) Tryz.underlying216 (by kernel_rfl) (by kernel_rfl) (by kernel_rfl) (by kernel_rfl) (by kernel_rfl)
theorem tg217 : TGood Tryz.prog 217 ti217 := tgood (j := Tryz.t217) (z := Tryz.t217.zero.getD .nilIface) (by kernel_rfl) Tryz.underlying217 (by kernel_rfl) (by kernel_rfl) (by kernel_rfl) (by kernel_rfl) (by kernel_rfl)
theorem tg218 : TGood Tryz.prog 218 ti218 := tgood (j := Tryz.t218) (z := Tryz.t218.zero.getD .nilIface) (by kernel_rfl) Tryz.underlying218 (by kernel_rfl) (by kernel_rfl) (by kernel_rfl) (by kernel_rfl) (by kernel_rfl)
theorem tg219 : TGood Tryz.prog 219 ti219 := tgood (j := Tryz.t219) (z := Tryz.t219.zero.getD .nilIface) (by kernel_rfl) Tryz.underlying219 (by kernel_rfl) (by kernel_rfl) (by kernel_rfl) (by kernel_rfl) (by kernel_rfl)
theorem tg220 : TGood Tryz.prog 220 ti220 := tgood (j := Tryz.t220) (z := Tryz.t220.zero.getD .nilIface) (by kernel_rfl) Tryz.underlying220 (by kernel_rfl) (by kernel_rfl) (by kernel_rfl) (by kernel_rfl) (by kernel_rfl)
theorem tg222 : TGood Tryz.prog 222 ti222 := tgood (j := Tryz.t222) (z := Tryz.t222.zero.getD .nilIface) (by kernel_rfl) Tryz.underlying222 (by kernel_rfl) (by kernel_rfl) (by kernel_rfl) (by kernel_rfl) (by kernel_rfl)
theorem tg224 : TGood Tryz.prog 224 ti224 := tgood (j := Tryz.t224) (z := Tryz.t224.zero.getD .nilIface) (by kernel_rfl) Tryz.underlying224 (by kernel_rfl) (by kernel_rfl) (by kernel_rfl) (by kernel_rfl) (by kernel_rfl)
theorem tg225 : TGood Tryz.prog 225 ti225 := tgood (j := Tryz.t225) (z := Tryz.t225.zero.getD .nilIface) (by kernel_rfl) Tryz.underlying225 (by kernel_rfl) (by kernel_rfl) (by kernel_rfl) (by kernel_rfl) (by kernel_rfl)
theorem tg227 : TGood Tryz.prog 227 ti227 := tgood (j := Tryz.t227) (z := Tryz.t227.zero.getD .nilIface) (by kernel_rfl) Tryz.underlying227 (by kernel_rfl) (by kernel_rfl) (by kernel_rfl) (by kernel_rfl) (by kernel_rfl)
theorem tg228 : TGood Tryz.prog 228 ti228 := tgood (j := Tryz.t228) (z := Tryz.t228.zero.getD .nilIface) (by kernel_rfl) Tryz.underlying228 (by kernel_rfl) (by kernel_rfl) (by kernel_rfl) (by kernel_rfl) (by kernel_rfl)
theorem tg230 : TGood Tryz.prog 230 ti230 := tgood (j := Tryz.t230) (z := Tryz.t230.zero.getD .nilIface) (by kernel_rfl) Tryz.underlying230 (by kernel_rfl) (by kernel_rfl) (by kernel_rfl) (by kernel_rfl) (by kernel_rfl)
theorem tg231 : TGood Tryz.prog 231 ti231 := tgood (j := Tryz.t231) (z := Tryz.t231.zero.getD .nilIface) (by kernel_rfl) Tryz.underlying231 (by kernel_rfl) (by kernel_rfl) (by kernel_rfl) (by kernel_rfl) (by kernel_rfl)
theorem tg232 : TGood Tryz.prog 232 ti232 := tgood (j := Tryz.t232) (z := Tryz.t232.zero.getD .nilIface) (by kernel_rfl) Tryz.underlying232 (by kernel_rfl) (by kernel_rfl) (by kernel_rfl) (by kernel_rfl) (by kernel_rfl)
theorem tg234 : TGood Tryz.prog 234 ti234 := tgood (j := Tryz.t234) (z := Tryz.t234.zero.getD .nilIface) (by kernel_rfl) Tryz.underlying234 (by kernel_rfl) (by kernel_rfl) (by kernel_rfl) (by kernel_rfl) (by kernel_rfl)
theorem tg235 : TGood Tryz.prog 235 ti235 := tgood (j := Tryz.t235) (z := Tryz.t235.zero.getD .nilIface) (by kernel_rfl) Tryz.underlying235 (by kernel_rfl) (by kernel_rfl) (by kernel_rfl) (by kernel_rfl) (by kernel_rfl)
theorem tg236 : TGood Tryz.prog 236 ti236 := tgood (j := Tryz.t236) (z := Tryz.t236.zero.getD .nilIface) (by kernel_rfl) Tryz.underlying236 (by kernel_rfl) (by kernel_rfl) (by kernel_rfl) (by kernel_rfl) (by kernel_rfl)
theorem tg237 : TGood Tryz.prog 237 ti237 := tgood (j := Tryz.t237) (z := Tryz.t237.zero.getD .nilIface) (by kernel_rfl) Tryz.underlying237 (by kernel_rfl) (by kernel_rfl) (by kernel_rfl) (by kernel_rfl) (by kernel_rfl)
theorem tg238 : TGood Tryz.prog 238 ti238 := tgood (j := Tryz.t238) (z := Tryz.t238.zero.getD .nilIface) (by kernel_rfl) Tryz.underlying238 (by kernel_rfl) (by kernel_rfl) (by kernel_rfl) (by kernel_rfl) (by kernel_rfl)
theorem tg239 : TGood Tryz.prog 239 ti239 := tgood (j := Tryz.t239) (z := Tryz.t239.zero.getD .nilIface) (by kernel_rfl) Tryz.underlying239 (by kernel_rfl) (by kernel_rfl) (by kernel_rfl) (by kernel_rfl) (by kernel_rfl)
theorem tg240 : TGood Tryz.prog 240 ti240 := tgood (j := Tryz.t240) (z := Tryz.t240.zero.getD .nilIface) (by kernel_rfl) Tryz.underlying240 (by kernel_rfl) (by kernel_rfl) (by kernel_rfl) (by kernel_rfl) (by kernel_rfl)
theorem tg241 : TGood Tryz.prog 241 ti241 := tgood (j := Tryz.t241) (z := Tryz.t241.zero.getD .nilIface) (by kernel_rfl) Tryz.underlying241 (by kernel_rfl) (by kernel_rfl) (by kernel_rfl) (by kernel_rfl) (by kernel_rfl)
theorem tg242 : TGood Tryz.prog 242 ti242 := tgood (j := Tryz.t242) (z := Tryz.t242.zero.getD .nilIface) (by kernel_rfl) Tryz.underlying242 (by kernel_rfl) (by kernel_rfl) (by kernel_rfl) (by kernel_rfl) (by kernel_rfl)
theorem tg243 : TGood Tryz.prog 243 ti243 := tgood (j := Tryz.t243) (z := Tryz.t243.zero.getD .nilIface) (by kernel_rfl) Tryz.underlying243 (by kernel_rfl) (by kernel_rfl) (by kernel_rfl) (by kernel_rfl) (by kernel_rfl)
theorem tg244 : TGood Tryz.prog 244 ti244 := tgood (j := Tryz.t244) (z := Tryz.t244.zero.getD .nilIface) (by kernel_rfl) Tryz.underlying244 (by kernel_rfl) (by kernel_rfl) (by kernel_rfl) (by kernel_rfl) (by kernel_rfl)
theorem tg245 : TGood Tryz.prog 245 ti245 := tgood (j := Tryz.t245) (z := Tryz.t245.zero.getD .nilIface) (by kernel_rfl) Tryz.underlying245 (by kernel_rfl) (by kernel_rfl) (by kernel_rfl) (by kernel_rfl) (by kernel_rfl)
theorem tg246 : TGood Tryz.prog 246 ti246 := tgood (j := Tryz.t246) (z := Tryz.t246.zero.getD .nilIface) (by kernel_rfl) Tryz.underlying246 (by kernel_rfl) (by kernel_rfl) (by kernel_rfl) (by kernel_rfl) (by kernel_rfl)
theorem tg247 : TGood Tryz.prog 247 ti247 := tgood (j := Tryz.t247) (z := Tryz.t247.zero.getD .nilIface) (by kernel_rfl) Tryz.underlying247 (by kernel_rfl) (by kernel_rfl) (by kernel_rfl) (by kernel_rfl) (by kernel_rfl)
theorem tg248 : TGood Tryz.prog 248 ti248 := tgood (j := Tryz.t248) (z := Tryz.t248.zero.getD .nilIface) (by kernel_rfl) Tryz.underlying248 (by kernel_rfl) (by kernel_rfl) (by kernel_rfl) (by kernel_rfl) (by kernel_rfl)
theorem tg249 : TGood Tryz.prog 249 ti249 := tgood (j := Tryz.t249) (z := Tryz.t249.zero.getD .nilIface) (by kernel_rfl) Tryz.underlying249 (by kernel_rfl) (by kernel_rfl) (by kernel_rfl) (by kernel_rfl) (by kernel_rfl)
theorem tg250 : TGood Tryz.prog 250 ti250 := tgood (j := Tryz.t250) (z := Tryz.t250.zero.getD .nilIface) (by kernel_rfl) Tryz.underlying250 (by kernel_rfl) (by kernel_rfl) (by kernel_rfl) (by kernel_rfl) (by kernel_rfl)
theorem tg252 : TGood Tryz.prog 252 ti252 := tgood (j := Tryz.t252) (z := Tryz.t252.zero.getD .nilIface) (by kernel_rfl) Tryz.underlying252 (by kernel_rfl) (by kernel_rfl) (by kernel_rfl) (by kernel_rfl) (by kernel_rfl)
theorem tg253 : TGood Tryz.prog 253 ti253 := tgood (j := Tryz.t253) (z := Tryz.t253.zero.getD .nilIface) (by kernel_rfl) Tryz.underlying253 (by kernel_rfl) (by kernel_rfl) (by kernel_rfl) (by kernel_rfl) (by kernel_rfl)
theorem tg254 : TGood Tryz.prog 254 ti254 := tgood (j := Tryz.t254) (z := Tryz.t254.zero.getD .nilIface) (by kernel_rfl) Tryz.underlying254 (by kernel_rfl) (by kernel_rfl) (by kernel_rfl) (by kernel_rfl) (by kernel_rfl)
theorem tg255 : TGood Tryz.prog 255 ti255 := tgood (j := Tryz.t255) (z := Tryz.t255.zero.getD .nilIface) (by kernel_rfl) Tryz.underlying255 (by kernel_rfl) (by kernel_rfl) (by kernel_rfl) (by kernel_rfl) (by kernel_rfl)
theorem tg256 : TGood Tryz.prog 256 ti256 := tgood (j := Tryz.t256) (z := Tryz.t256.zero.getD .nilIface) (by kernel_rfl) Tryz.underlying256 (by kernel_rfl) (by kernel_rfl) (by kernel_rfl) (by kernel_rfl) (by kernel_rfl)
theorem tg257 : TGood Tryz.prog 257 ti257 := tgood (j := Tryz.t257) (z := Tryz.t257.zero.getD .nilIface) (by kernel_rfl) Tryz.underlying257 (by kernel_rfl) (by kernel_rfl) (by kernel_rfl) (by kernel_rfl) (by kernel_rfl)
theorem tg258 : TGood Tryz.prog 258 ti258 := tgood (j := Tryz.t258) (z := Tryz.t258.zero.getD .nilIface) (by kernel_rfl) Tryz.underlying258 (by kernel_rfl) (by kernel_rfl) (by kernel_rfl) (by kernel_rfl) (by kernel_rfl)
theorem tg259 : TGood Tryz.prog 259 ti259 := tgood (j := Tryz.t259) (z := Tryz.t259.zero.getD .nilIface) (by kernel_rfl) Tryz.underlying259 (by kernel_rfl) (by kernel_rfl) (by kernel_rfl) (by kernel_rfl) (by kernel_rfl)
theorem tg260 : TGood Tryz.prog 260 ti260 := tgood (j := Tryz.t260) (z := Tryz.t260.zero.getD .nilIface) (by kernel_rfl) Tryz.underlying260 (by kernel_rfl) (by kernel_rfl) (by kernel_rfl) (by kernel_rfl) (by kernel_rfl)
theorem tg261 : TGood Tryz.prog 261 ti261 := tgood (j := Tryz.t261) (z := Tryz.t261.zero.getD .nilIface) (by kernel_rfl) Tryz.underlying261 (by kernel_rfl) (by kernel_rfl) (by kernel_rfl) (by kernel_rfl) (by kernel_rfl)
theorem tg263 : TGood Tryz.prog 263 ti263 := tgood (j := Tryz.t263) (z := Tryz.t263.zero.getD .nilIface) (by kernel_rfl) Tryz.underlying263 (by kernel_rfl) (by kernel_rfl) (by kernel_rfl) (by kernel_rfl) (by kernel_rfl)
theorem tg264 : TGood Tryz.prog 264 ti264 := tgood (j := Tryz.t264) (z := Tryz.t264.zero.getD .nilIface) (by kernel_rfl) Tryz.underlying264 (by kernel_rfl) (by kernel_rfl) (by kernel_rfl) (by kernel_rfl) (by kernel_rfl)
theorem tg265 : TGood Tryz.prog 265 ti265 := tgood (j := Tryz.t265) (z := Tryz.t265.zero.getD .nilIface) (by kernel_rfl) Tryz.underlying265 (by kernel_rfl) (by kernel_rfl) (by kernel_rfl) (by kernel_rfl) (by kernel_rfl)
theorem tg266 : TGood Tryz.prog 266 ti266 := tgood (j := Tryz.t266) (z := Tryz.t266.zero.getD .nilIface) (by kernel_rfl) Tryz.underlying266 (by kernel_rfl) (by kernel_rfl) (by kernel_rfl) (by kernel_rfl) (by kernel_rfl)
theorem tg267 : TGood Tryz.prog 267 ti267 := tgood (j := Tryz.t267) (z := Tryz.t267.zero.getD .nilIface) (by kernel_rfl) Tryz.underlying267 (by kernel_rfl) (by kernel_rfl) (by kernel_rfl) (by kernel_rfl) (by kernel_rfl)
theorem tg268 : TGood Tryz.prog 268 ti268 := tgood (j := Tryz.t268) (z := Tryz.t268.zero.getD .nilIface) (by kernel_rfl) Tryz.underlying268 (by kernel_rfl) (by kernel_rfl) (by kernel_rfl) (by kernel_rfl) (by kernel_rfl)
theorem tg269 : TGood Tryz.prog 269 ti269 := tgood (j := Tryz.t269) (z := Tryz.t269.zero.getD .nilIface) (by kernel_rfl) Tryz.underlying269 (by kernel_rfl) (by kernel_rfl) (by kernel_rfl) (by kernel_rfl) (by kernel_rfl)
theorem tg270 : TGood Tryz.prog 270 ti270 := tgood (j := Tryz.t270) (z := Tryz.t270.zero.getD .nilIface) (by kernel_rfl) Tryz.underlying270 (by kernel_rfl) (by kernel_rfl) (by kernel_rfl) (by kernel_rfl) (by kernel_rfl)
theorem tg271 : TGood Tryz.prog 271 ti271 := tgood (j := Tryz.t271) (z := Tryz.t271.zero.getD .nilIface) (by kernel_rfl) Tryz.underlying271 (by kernel_rfl) (by kernel_rfl) (by kernel_rfl) (by kernel_rfl) (by kernel_rfl)
theorem tg272 : TGood Tryz.prog 272 ti272 := tgood (j := Tryz.t272) (z := Tryz.t272.zero.getD .nilIface) (by kernel_rfl) Tryz.underlying272 (by kernel_rfl) (by kernel_rfl) (by kernel_rfl) (by kernel_rfl) (by kernel_rfl)
theorem tg273 : TGood Tryz.prog 273 ti273 := tgood (j := Tryz.t273) (z := Tryz.t273.zero.getD .nilIface) (by kernel_rfl) Tryz.underlying273 (by kernel_rfl) (by kernel_rfl) (by kernel_rfl) (by kernel_rfl) (by kernel_rfl)
theorem tg274 : TGood Tryz.prog 274 ti274 := tgood (j := Tryz.t274) (z := Tryz.t274.zero.getD .nilIface) (by kernel_rfl) Tryz.underlying274 (by kernel_rfl) (by kernel_rfl) (by kernel_rfl) (by kernel_rfl) (by kernel_rfl)
theorem tg275 : TGood Tryz.prog 275 ti275 := tgood (j := Tryz.t275) (z := Tryz.t275.zero.getD .nilIface) (by kernel_rfl) Tryz.underlying275 (by kernel_rfl) (by kernel_rfl) (by kernel_rfl) (by kernel_rfl) (by kernel_rfl)
theorem tg276 : TGood Tryz.prog 276 ti276 := tgood (j := Tryz.t276) (z := Tryz.t276.zero.getD .nilIface) (by kernel_rfl) Tryz.underlying276 (by kernel_rfl) (by kernel_rfl) (by kernel_rfl) (by kernel_rfl) (by kernel_rfl)
theorem tg277 : TGood Tryz.prog 277 ti277 := tgood (j := Tryz.t277) (z := Tryz.t277.zero.getD .nilIface) (by kernel_rfl) Tryz.underlying277 (by kernel_rfl) (by kernel_rfl) (by kernel_rfl) (by kernel_rfl) (by kernel_rfl)
theorem tg278 : TGood Tryz.prog 278 ti278 := tgood (j := Tryz.t278) (z := Tryz.t278.zero.getD .nilIface) (by kernel_rfl) Tryz.underlying278 (by kernel_rfl) (by kernel_rfl) (by kernel_rfl) (by kernel_rfl) (by kernel_rfl)
theorem tg279 : TGood Tryz.prog 279 ti279 := tgood (j := Tryz.t279) (z := Tryz.t279.zero.getD .nilIface) (by kernel_rfl) Tryz.underlying279 (by kernel_rfl) (by kernel_rfl) (by kernel_rfl) (by kernel_rfl) (by kernel_rfl)
theorem tg280 : TGood Tryz.prog 280 ti280 := tgood (j := Tryz.t280) (z := Tryz.t280.zero.getD .nilIface) (by kernel_rfl) Tryz.underlying280 (by kernel_rfl) (by kernel_rfl) (by kernel_rfl) (by kernel_rfl) (by kernel_rfl)
theorem tg281 : TGood Tryz.prog 281 ti281 := tgood (j := Tryz.t281) (z := Tryz.t281.zero.getD .nilIface) (by kernel_rfl) Tryz.underlying281 (by kernel_rfl) (by kernel_rfl) (by kernel_rfl) (by kernel_rfl) (by kernel_rfl)
theorem tg282 : TGood Tryz.prog 282 ti282 := tgood (j := Tryz.t282) (z := Tryz.t282.zero.getD .nilIface) (by kernel_rfl) Tryz.underlying282 (by kernel_rfl) (by kernel_rfl) (by kernel_rfl) (by kernel_rfl) (by kernel_rfl)
theorem tg283 : TGood Tryz.prog 283 ti283 := tgood (j := Tryz.t283) (z := Tryz.t283.zero.getD .nilIface) (by kernel_rfl) Tryz.underlying283 (by kernel_rfl) (by kernel_rfl) (by kernel_rfl) (by kernel_rfl) (by kernel_rfl)
theorem tg284 : TGood Tryz.prog 284 ti284 := tgood (j := Tryz.t284) (z := Tryz.t284.zero.getD .nilIface) (by kernel_rfl) Tryz.underlying284 (by kernel_rfl) (by kernel_rfl) (by kernel_rfl) (by kernel_rfl) (by kernel_rfl)
theorem tg285 : TGood Tryz.prog 285 ti285 := tgood (j := Tryz.t285) (z := Tryz.t285.zero.getD .nilIface) (by kernel_rfl) Tryz.underlying285 (by kernel_rfl) (by kernel_rfl) (by kernel_rfl) (by kernel_rfl) (by kernel_rfl)
theorem tg287 : TGood Tryz.prog 287 ti287 := tgood (j := Tryz.t287) (z := Tryz.t287.zero.getD .nilIface) (by kernel_rfl) Tryz.underlying287 (by kernel_rfl) (by kernel_rfl) (by kernel_rfl) (by kernel_rfl) (by kernel_rfl)
theorem tg288 : TGood Tryz.prog 288 ti288 := tgood (j := Tryz.t288) (z := Tryz.t288.zero.getD .nilIface) (by kernel_rfl) Tryz.underlying288 (by kernel_rfl) (by kernel_rfl) (by kernel_rfl) (by kernel_rfl) (by kernel_rfl)
theorem tg290 : TGood Tryz.prog 290 ti290 := tgood (j := Tryz.t290) (z := Tryz.t290.zero.getD .nilIface) (by kernel_rfl) Tryz.underlying290 (by kernel_rfl) (by kernel_rfl) (by kernel_rfl) (by kernel_rfl) (by kernel_rfl)
theorem tg291 : TGood Tryz.prog 291 ti291 := tgood (j := Tryz.t291) (z := Tryz.t291.zero.getD .nilIface) (by kernel_rfl) Tryz.underlying291 (by kernel_rfl) (by kernel_rfl) (by kernel_rfl) (by kernel_rfl) (by kernel_rfl)
theorem tg293 : TGood Tryz.prog 293 ti293 := tgood (j := Tryz.t293) (z := Tryz.t293.zero.getD .nilIface) (by kernel_rfl) Tryz.underlying293 (by kernel_rfl) (by kernel_rfl) (by kernel_rfl) (by kernel_rfl) (by kernel_rfl)
theorem tg294 : TGood Tryz.prog 294 ti294 := tgood (j := Tryz.t294) (z := Tryz.t294.zero.getD .nilIface) (by kernel_rfl) Tryz.underlying294 (by kernel_rfl) (by kernel_rfl) (by kernel_rfl) (by kernel_rfl) (by kernel_rfl)
theorem tg295 : TGood Tryz.prog 295 ti295 := tgood (j := Tryz.t295) (z := Tryz.t295.zero.getD .nilIface) (by kernel_rfl) Tryz.underlying295 (by kernel_rfl) (by kernel_rfl) (by kernel_rfl) (by kernel_rfl) (by kernel_rfl)
theorem tg296 : TGood Tryz.prog 296 ti296 := tgood (j := Tryz.t296) (z := Tryz.t296.zero.getD .nilIface) (by kernel_rfl) Tryz.underlying296 (by kernel_rfl) (by kernel_rfl) (by kernel_rfl) (by kernel_rfl) (by kernel_rfl)
theorem tg298 : TGood Tryz.prog 298 ti298 := tgood (j := Tryz.t298) (z := Tryz.t298.zero.getD .nilIface) (by kernel_rfl) Tryz.underlying298 (by kernel_rfl) (by kernel_rfl) (by kernel_rfl) (by kernel_rfl) (by kernel_rfl)
theorem tg299 : TGood Tryz.prog 299 ti299 := tgood (j := Tryz.t299) (z := Tryz.t299.zero.getD .nilIface) (by kernel_rfl) Tryz.underlying299 (by kernel_rfl) (by kernel_rfl) (by kernel_rfl) (by kernel_rfl) (by kernel_rfl)
theorem tg300 : TGood Tryz.prog 300 ti300 := tgood (j := Tryz.t300) (z := Tryz.t300.zero.getD .nilIface) (by kernel_rfl) Tryz.underlying300 (by kernel_rfl) (by kernel_rfl) (by kernel_rfl) (by kernel_rfl) (by kernel_rfl)
theorem tg301 : TGood Tryz.prog 301 ti301 := tgood (j := Tryz.t301) (z := Tryz.t301.zero.getD .nilIface) (by kernel_rfl) Tryz.underlying301 (by kernel_rfl) (by kernel_rfl) (by kernel_rfl) (by kernel_rfl) (by kernel_rfl)
theorem tg302 : TGood Tryz.prog 302 ti302 := tgood (j := Tryz.t302) (z := Tryz.t302.zero.getD .nilIface) (by kernel_rfl) Tryz.underlying302 (by kernel_rfl) (by kernel_rfl) (by kernel_rfl) (by kernel_rfl) (by kernel_rfl)
theorem tg303 : TGood Tryz.prog 303 ti303 := tgood (j := Tryz.t303) (z := Tryz.t303.zero.getD .nilIface) (by kernel_rfl) Tryz.underlying303 (by kernel_rfl) (by kernel_rfl) (by kernel_rfl) (by kernel_rfl) (by kernel_rfl)
theorem tg304 : TGood Tryz.prog 304 ti304 := tgood (j := Tryz.t304) (z := Tryz.t304.zero.getD .nilIface) (by kernel_rfl) Tryz.underlying304 (by kernel_rfl) (by kernel_rfl) (by kernel_rfl) (by kernel_rfl) (by kernel_rfl)
theorem tg305 : TGood Tryz.prog 305 ti305 := tgood (j := Tryz.t305) (z := Tryz.t305.zero.getD .nilIface) (by kernel_rfl) Tryz.underlying305 (by kernel_rfl) (by kernel_rfl) (by kernel_rfl) (by kernel_rfl) (by kernel_rfl)
theorem tg306 : TGood Tryz.prog 306 ti306 := tgood (j := Tryz.t306) (z := Tryz.t306.zero.getD .nilIface) (by kernel_rfl) Tryz.underlying306 (by kernel_rfl) (by kernel_rfl) (by kernel_rfl) (by kernel_rfl) (by kernel_rfl)
theorem tg307 : TGood Tryz.prog 307 ti307 := tgood (j := Tryz.t307) (z := Tryz.t307.zero.getD .nilIface) (by kernel_rfl) Tryz.underlying307 (by kernel_rfl) (by kernel_rfl) (by kernel_rfl) (by kernel_rfl) (by kernel_rfl)
theorem tg308 : TGood Tryz.prog 308 ti308 := tgood (j := Tryz.t308) (z := Tryz.t308.zero.getD .nilIface) (by kernel_rfl) Tryz.underlying308 (by kernel_rfl) (by kernel_rfl) (by kernel_rfl) (by kernel_rfl) (by kernel_rfl)
theorem tg309 : TGood Tryz.prog 309 ti309 := tgood (j := Tryz.t309) (z := Tryz.t309.zero.getD .nilIface) (by kernel_rfl) Tryz.underlying309 (by kernel_rfl) (by kernel_rfl) (by kernel_rfl) (by kernel_rfl) (by kernel_rfl)
theorem tg310 : TGood Tryz.prog 310 ti310 := tgood (j := Tryz.t310) (z := Tryz.t310.zero.getD .nilIface) (by kernel_rfl) Tryz.underlying310 (by kernel_rfl) (by kernel_rfl) (by kernel_rfl) (by kernel_rfl) (by kernel_rfl)
theorem tg311 : TGood Tryz.prog 311 ti311 := tgood (j := Tryz.t311) (z := Tryz.t311.zero.getD .nilIface) (by kernel_rfl) Tryz.underlying311 (by kernel_rfl) (by kernel_rfl) (by kernel_rfl) (by kernel_rfl) (by kernel_rfl)
theorem tg312 : TGood Tryz.prog 312 ti312 := tgood (j := Tryz.t312) (z := Tryz.t312.zero.getD .nilIface) (by kernel_rfl) Tryz.underlying312 (by kernel_rfl) (by kernel_rfl) (by kernel_rfl) (by kernel_rfl) (by kernel_rfl)
theorem tg313 : TGood Tryz.prog 313 ti313 := tgood (j := Tryz.t313) (z := Tryz.t313.zero.getD .nilIface) (by kernel_rfl) Tryz.underlying313 (by kernel_rfl) (by kernel_rfl) (by kernel_rfl) (by kernel_rfl) (by kernel_rfl)
theorem tg315 : TGood Tryz.prog 315 ti315 := tgood (j := Tryz.t315) (z := Tryz.t315.zero.getD .nilIface) (by kernel_rfl) Tryz.underlying315 (by kernel_rfl) (by kernel_rfl) (by kernel_rfl) (by kernel_rfl) (by kernel_rfl)
theorem tg316 : TGood Tryz.prog 316 ti316 := tgood (j := Tryz.t316) (z := Tryz.t316.zero.getD .nilIface) (by kernel_rfl) Tryz.underlying316 (by kernel_rfl) (by kernel_rfl) (by kernel_rfl) (by kernel_rfl) (by kernel_rfl)
theorem tg318 : TGood Tryz.prog 318 ti318 := tgood (j := Tryz.t318) (z := Tryz.t318.zero.getD .nilIface) (by kernel_rfl) Tryz.underlying318 (by kernel_rfl) (by kernel_rfl) (by kernel_rfl) (by kernel_rfl) (by kernel_rfl)
theorem tg319 : TGood Tryz.prog 319 ti319 := tgood (j := Tryz.t319) (z := Tryz.t319.zero.getD .nilIface) (by kernel_rfl) Tryz.underlying319 (by kernel_rfl) (by kernel_rfl) (by kernel_rfl) (by kernel_rfl) (by kernel_rfl)
theorem tg320 : TGood Tryz.prog 320 ti320 := tgood (j := Tryz.t320) (z := Tryz.t320.zero.getD .nilIface) (by kernel_rfl) Tryz.underlying320 (by kernel_rfl) (by kernel_rfl) (by kernel_rfl) (by kernel_rfl) (by kernel_rfl)
theorem tg322 : TGood Tryz.prog 322 ti322 := tgood (j := Tryz.t322) (z := Tryz.t322.zero.getD .nilIface) (by kernel_rfl) Tryz.underlying322 (by kernel_rfl) (by kernel_rfl) (by kernel_rfl) (by kernel_rfl) (by kernel_rfl)
theorem tg323 : TGood Tryz.prog 323 ti323 := tgood (j := Tryz.t323) (z := Tryz.t323.zero.getD .nilIface) (by kernel_rfl) Tryz.underlying323 (by kernel_rfl) (by kernel_rfl) (by kernel_rfl) (by kernel_rfl) (by kernel_rfl)
theorem tg324 : TGood Tryz.prog 324 ti324 := tgood (j := Tryz.t324) (z := Tryz.t324.zero.getD .nilIface) (by kernel_rfl) Tryz.underlying324 (by kernel_rfl) (by kernel_rfl) (by kernel_rfl) (by kernel_rfl) (by kernel_rfl)
theorem tg325 : TGood Tryz.prog 325 ti325 := tgood (j := Tryz.t325) (z := Tryz.t325.zero.getD .nilIface) (by kernel_rfl) Tryz.underlying325 (by kernel_rfl) (by kernel_rfl) (by kernel_rfl) (by kernel_rfl) (by kernel_rfl)
theorem tg326 : TGood Tryz.prog 326 ti326 := tgood (j := Tryz.t326) (z := Tryz.t326.zero.getD .nilIface) (by kernel_rfl) Tryz.underlying326 (by kernel_rfl) (by kernel_rfl) (by kernel_rfl) (by kernel_rfl) (by kernel_rfl)
theorem tg327 : TGood Tryz.prog 327 ti327 := tgood (j := Tryz.t327) (z := Tryz.t327.zero.getD .nilIface) (by kernel_rfl) Tryz.underlying327 (by kernel_rfl) (by kernel_rfl) (by kernel_rfl) (by kernel_rfl) (by kernel_rfl)
theorem tg328 : TGood Tryz.prog 328 ti328 := tgood (j := Tryz.t328) (z := Tryz.t328.zero.getD .nilIface) (by kernel_rfl) Tryz.underlying328 (by kernel_rfl) (by kernel_rfl) (by kernel_rfl) (by kernel_rfl) (by kernel_rfl)
theorem tg329 : TGood Tryz.prog 329 ti329 := tgood (j := Tryz.t329) (z := Tryz.t329.zero.getD .nilIface) (by kernel_rfl) Tryz.underlying329 (by kernel_rfl) (by kernel_rfl) (by kernel_rfl) (by kernel_rfl) (by kernel_rfl)
theorem tg330 : TGood Tryz.prog 330 ti330 := tgood (j := Tryz.t330) (z := Tryz.t330.zero.getD .nilIface) (by kernel_rfl) Tryz.underlying330 (by kernel_rfl) (by kernel_rfl) (by kernel_rfl) (by kernel_rfl) (by kernel_rfl)
theorem tg331 : TGood Tryz.prog 331 ti331 := tgood (j := Tryz.t331) (z := Tryz.t331.zero.getD .nilIface) (by kernel_rfl) Tryz.underlying331 (by kernel_rfl) (by kernel_rfl) (by kernel_rfl) (by kernel_rfl) (by kernel_rfl)
theorem tg333 : TGood Tryz.prog 333 ti333 := tgood (j := Tryz.t333) (z := Tryz.t333.zero.getD .nilIface) (by kernel_rfl) Tryz.underlying333 (by kernel_rfl) (by kernel_rfl) (by kernel_rfl) (by kernel_rfl) (by kernel_rfl)
theorem tg334 : TGood Tryz.prog 334 ti334 := tgood (j := Tryz.t334) (z := Tryz.t334.zero.getD .nilIface) (by kernel_rfl) Tryz.underlying334 (by kernel_rfl) (by kernel_rfl) (by kernel_rfl) (by kernel_rfl) (by kernel_rfl)
theorem tg335 : TGood Tryz.prog 335 ti335 := tgood (j := Tryz.t335) (z := Tryz.t335.zero.getD .nilIface) (by kernel_rfl) Tryz.underlying335 (by kernel_rfl) (by kernel_rfl) (by kernel_rfl) (by kernel_rfl) (by kernel_rfl)
theorem tg336 : TGood Tryz.prog 336 ti336 := tgood (j := Tryz.t336) (z := Tryz.t336.zero.getD .nilIface) (by kernel_rfl) Tryz.underlying336 (by kernel_rfl) (by kernel_rfl) (by kernel_rfl) (by kernel_rfl) (by kernel_rfl)
theorem tg337 : TGood Tryz.prog 337 ti337 := tgood (j := Tryz.t337) (z := Tryz.t337.zero.getD .nilIface) (by kernel_rfl) Tryz.underlying337 (by kernel_rfl) (by kernel_rfl) (by kernel_rfl) (by kernel_rfl) (by kernel_rfl)
theorem tg338 : TGood Tryz.prog 338 ti338 := tgood (j := Tryz.t338) (z := Tryz.t338.zero.getD .nilIface) (by kernel_rfl) Tryz.underlying338 (by kernel_rfl) (by kernel_rfl) (by kernel_rfl) (by kernel_rfl) (by kernel_rfl)
theorem tg339 : TGood Tryz.prog 339 ti339 := tgood (j := Tryz.t339) (z := Tryz.t339.zero.getD .nilIface) (by kernel_rfl) Tryz.underlying339 (by kernel_rfl) (by kernel_rfl) (by kernel_rfl) (by kernel_rfl) (by kernel_rfl)
theorem tg340 : TGood Tryz.prog 340 ti340 := tgood (j := Tryz.t340) (z := Tryz.t340.zero.getD .nilIface) (by kernel_rfl) Tryz.underlying340 (by kernel_rfl) (by kernel_rfl) (by kernel_rfl) (by kernel_rfl) (by kernel_rfl)
theorem tg341 : TGood Tryz.prog 341 ti341 := tgood (j := Tryz.t341) (z := Tryz.t341.zero.getD .nilIface) (by kernel_rfl) Tryz.underlying341 (by kernel_rfl) (by kernel_rfl) (by kernel_rfl) (by kernel_rfl) (by kernel_rfl)
theorem tg342 : TGood Tryz.prog 342 ti342 := tgood (j := Tryz.t342) (z := Tryz.t342.zero.getD .nilIface) (by kernel_rfl) Tryz.underlying342 (by kernel_rfl) (by kernel_rfl) (by kernel_rfl) (by kernel_rfl) (by kernel_rfl)
theorem tg343 : TGood Tryz.prog 343 ti343 := tgood (j := Tryz.t343) (z := Tryz.t343.zero.getD .nilIface) (by kernel_rfl) Tryz.underlying343 (by kernel_rfl) (by kernel_rfl) (by kernel_rfl) (by kernel_rfl) (by kernel_rfl)
theorem tg344 : TGood Tryz.prog 344 ti344 := tgood (j := Tryz.t344) (z := Tryz.t344.zero.getD .nilIface) (by kernel_rfl) Tryz.underlying344 (by kernel_rfl) (by kernel_rfl) (by kernel_rfl) (by kernel_rfl) (by kernel_rfl)
theorem tg346 : TGood Tryz.prog 346 ti346 := tgood (j := Tryz.t346) (z := Tryz.t346.zero.getD .nilIface) (by kernel_rfl) Tryz.underlying346 (by kernel_rfl) (by kernel_rfl) (by kernel_rfl) (by kernel_rfl) (by kernel_rfl)
theorem tg347 : TGood Tryz.prog 347 ti347 := tgood (j := Tryz.t347) (z := Tryz.t347.zero.getD .nilIface) (by kernel_rfl) Tryz.underlying347 (by kernel_rfl) (by kernel_rfl) (by kernel_rfl) (by kernel_rfl) (by kernel_rfl)
theorem tg348 : TGood Tryz.prog 348 ti348 := tgood (j := Tryz.t348) (z := Tryz.t348.zero.getD .nilIface) (by kernel_rfl) Tryz.underlying348 (by kernel_rfl) (by kernel_rfl) (by kernel_rfl) (by kernel_rfl) (by kernel_rfl)
theorem tg349 : TGood Tryz.prog 349 ti349 := tgood (j := Tryz.t349) (z := Tryz.t349.zero.getD .nilIface) (by kernel_rfl) Tryz.underlying349 (by kernel_rfl) (by kernel_rfl) (by kernel_rfl) (by kernel_rfl) (by kernel_rfl)
theorem tg350 : TGood Tryz.prog 350 ti350 := tgood (j := Tryz.t350) (z := Tryz.t350.zero.getD .nilIface) (by kernel_rfl) Tryz.underlying350 (by kernel_rfl) (by kernel_rfl) (by kernel_rfl) (by kernel_rfl) (by kernel_rfl)
theorem tg351 : TGood Tryz.prog 351 ti351 := tgood (j := Tryz.t351) (z := Tryz.t351.zero.getD .nilIface) (by kernel_rfl) Tryz.underlying351 (by kernel_rfl) (by kernel_rfl) (by kernel_rfl) (by kernel_rfl) (by kernel_rfl)
theorem tg352 : TGood Tryz.prog 352 ti352 := tgood (j := Tryz.t352) (z := Tryz.t352.zero.getD .nilIface) (by kernel_rfl) Tryz.underlying352 (by kernel_rfl) (by kernel_rfl) (by kernel_rfl) (by kernel_rfl) (by kernel_rfl)
theorem tg353 : TGood Tryz.prog 353 ti353 := tgood (j := Tryz.t353) (z := Tryz.t353.zero.getD .nilIface) (by kernel_rfl) Tryz.underlying353 (by kernel_rfl) (by kernel_rfl) (by kernel_rfl) (by kernel_rfl) (by kernel_rfl)
theorem tg354 : TGood Tryz.prog 354 ti354 := tgood (j := Tryz.t354) (z := Tryz.t354.zero.getD .nilIface) (by kernel_rfl) Tryz.underlying354 (by kernel_rfl) (by kernel_rfl) (by kernel_rfl) (by kernel_rfl) (by kernel_rfl)
theorem tg355 : TGood Tryz.prog 355 ti355 := tgood (j := Tryz.t355) (z := Tryz.t355.zero.getD .nilIface) (by kernel_rfl) Tryz.underlying355 (by kernel_rfl) (by kernel_rfl) (by kernel_rfl) (by kernel_rfl) (by kernel_rfl)
theorem tg356 : TGood Tryz.prog 356 ti356 := tgood (j := Tryz.t356) (z := Tryz.t356.zero.getD .nilIface) (by kernel_rfl) Tryz.underlying356 (by kernel_rfl) (by kernel_rfl) (by kernel_rfl) (by kernel_rfl) (by kernel_rfl)
theorem tg357 : TGood Tryz.prog 357 ti357 := tgood (j := Tryz.t357) (z := Tryz.t357.zero.getD .nilIface) (by kernel_rfl) Tryz.underlying357 (by kernel_rfl) (by kernel_rfl) (by kernel_rfl) (by kernel_rfl) (by kernel_rfl)
theorem tg358 : TGood Tryz.prog 358 ti358 := tgood (j := Tryz.t358) (z := Tryz.t358.zero.getD .nilIface) (by kernel_rfl) Tryz.underlying358 (by kernel_rfl) (by kernel_rfl) (by kernel_rfl) (by kernel_rfl) (by kernel_rfl)
theorem tg359 : TGood Tryz.prog 359 ti359 := tgood (j := Tryz.t359) (z := Tryz.t359.zero.getD .nilIface) (by kernel_rfl) Tryz.underlying359 (by kernel_rfl) (by kernel_rfl) (by kernel_rfl) (by kernel_rfl) (by kernel_rfl)
theorem tg360 : TGood Tryz.prog 360 ti360 := tgood (j := Tryz.t360) (z := Tryz.t360.zero.getD .nilIface) (by kernel_rfl) Tryz.underlying360 (by kernel_rfl) (by kernel_rfl) (by kernel_rfl) (by kernel_rfl) (by kernel_rfl)
theorem tg361 : TGood Tryz.prog 361 ti361 := tgood (j := Tryz.t361) (z := Tryz.t361.zero.getD .nilIface) (by kernel_rfl) Tryz.underlying361 (by kernel_rfl) (by kernel_rfl) (by kernel_rfl) (by kernel_rfl) (by kernel_rfl)
theorem tg362 : TGood Tryz.prog 362 ti362 := tgood (j := Tryz.t362) (z := Tryz.t362.zero.getD .nilIface) (by kernel_rfl) Tryz.underlying362 (by kernel_rfl) (by kernel_rfl) (by kernel_rfl) (by kernel_rfl) (by kernel_rfl)
theorem tg363 : TGood Tryz.prog 363 ti363 := tgood (j := Tryz.t363) (z := Tryz.t363.zero.getD .nilIface) (by kernel_rfl) Tryz.underlying363 (by kernel_rfl) (by kernel_rfl) (by kernel_rfl) (by kernel_rfl) (by kernel_rfl)
theorem tg364 : TGood Tryz.prog 364 ti364 := tgood (j := Tryz.t364) (z := Tryz.t364.zero.getD .nilIface) (by kernel_rfl) Tryz.underlying364 (by kernel_rfl) (by kernel_rfl) (by kernel_rfl) (by kernel_rfl) (by kernel_rfl)
theorem tg365 : TGood Tryz.prog 365 ti365 := tgood (j := Tryz.t365) (z := Tryz.t365.zero.getD .nilIface) (by kernel_rfl) Tryz.underlying365 (by kernel_rfl) (by kernel_rfl) (by kernel_rfl) (by kernel_rfl) (by kernel_rfl)
theorem tg366 : TGood Tryz.prog 366 ti366 := tgood (j := Tryz.t366) (z := Tryz.t366.zero.getD .nilIface) (by kernel_rfl) Tryz.underlying366 (by kernel_rfl) (by kernel_rfl) (by kernel_rfl) (by kernel_rfl) (by kernel_rfl)
theorem tg367 : TGood Tryz.prog 367 ti367 := tgood (j := Tryz.t367) (z := Tryz.t367.zero.getD .nilIface) (by kernel_rfl) Tryz.underlying367 (by kernel_rfl) (by kernel_rfl) (by kernel_rfl) (by kernel_rfl) (by kernel_rfl)
theorem tg368 : TGood Tryz.prog 368 ti368 := tgood (j := Tryz.t368) (z := Tryz.t368.zero.getD .nilIface) (by kernel_rfl) Tryz.underlying368 (by kernel_rfl) (by kernel_rfl) (by kernel_rfl) (by kernel_rfl) (by kernel_rfl)
theorem tg369 : TGood Tryz.prog 369 ti369 := tgood (j := Tryz.t369) (z := Tryz.t369.zero.getD .nilIface) (by kernel_rfl) Tryz.underlying369 (by kernel_rfl) (by kernel_rfl) (by kernel_rfl) (by kernel_rfl) (by kernel_rfl)
theorem tg370 : TGood Tryz.prog 370 ti370 := tgood (j := Tryz.t370) (z := Tryz.t370.zero.getD .nilIface) (by kernel_rfl) Tryz.underlying370 (by kernel_rfl) (by kernel_rfl) (by kernel_rfl) (by kernel_rfl) (by kernel_rfl)
theorem tg371 : TGood Tryz.prog 371 ti371 := tgood (j := Tryz.t371) (z := Tryz.t371.zero.getD .nilIface) (by kernel_rfl) Tryz.underlying371 (by kernel_rfl) (by kernel_rfl) (by kernel_rfl) (by kernel_rfl) (by kernel_rfl)
theorem tg372 : TGood Tryz.prog 372 ti372 := tgood (j := Tryz.t372) (z := Tryz.t372.zero.getD .nilIface) (by kernel_rfl) Tryz.underlying372 (by kernel_rfl) (by kernel_rfl) (by kernel_rfl) (by kernel_rfl) (by kernel_rfl)
theorem tg373 : TGood Tryz.prog 373 ti373 := tgood (j := Tryz.t373) (z := Tryz.t373.zero.getD .nilIface) (by kernel_rfl) Tryz.underlying373 (by kernel_rfl) (by kernel_rfl) (by kernel_rfl) (by kernel_rfl) (by kernel_rfl)
theorem tg374 : TGood Tryz.prog 374 ti374 := tgood (j := Tryz.t374) (z := Tryz.t374.zero.getD .nilIface) (by kernel_rfl) Tryz.underlying374 (by kernel_rfl) (by kernel_rfl) (by kernel_rfl) (by kernel_rfl) (by kernel_rfl)
theorem tg375 : TGood Tryz.prog 375 ti375 := tgood (j := Tryz.t375) (z := Tryz.t375.zero.getD .nilIface) (by kernel_rfl) Tryz.underlying375 (by kernel_rfl) (by kernel_rfl) (by kernel_rfl) (by kernel_rfl) (by kernel_rfl)
theorem tg376 : TGood Tryz.prog 376 ti376 := tgood (j := Tryz.t376) (z := Tryz.t376.zero.getD .nilIface) (by kernel_rfl) Tryz.underlying376 (by kernel_rfl) (by kernel_rfl) (by kernel_rfl) (by kernel_rfl) (by kernel_rfl)
theorem tyAll : TrAll (TGood Tryz.prog) TYT id := ⟨⟨⟨⟨⟨⟨⟨⟨⟨trivial, tg255, trivial⟩, tg127, trivial⟩, tg63, ⟨⟨trivial, tg319, trivial⟩, tg191, trivial⟩⟩, tg31, ⟨⟨⟨trivial, tg287, trivial⟩, tg159, trivial⟩, tg95, ⟨⟨trivial, tg351, trivial⟩, trivial, trivial⟩⟩⟩, tg15, ⟨⟨⟨⟨trivial, tg271, trivial⟩, tg143, trivial⟩, tg79, ⟨⟨trivial, tg335, trivial⟩, tg207, trivial⟩⟩, tg47, ⟨⟨⟨trivial, tg303, trivial⟩, tg175, trivial⟩, tg111, ⟨⟨trivial, tg367, trivial⟩, tg239, trivial⟩⟩⟩⟩, tg7, ⟨⟨⟨⟨⟨trivial, tg263, trivial⟩, tg135, trivial⟩, tg71, ⟨⟨trivial, tg327, trivial⟩, tg199, trivial⟩⟩, tg39, ⟨⟨⟨trivial, tg295, trivial⟩, tg167, trivial⟩, tg103, ⟨⟨trivial, tg359, trivial⟩, tg231, trivial⟩⟩⟩, tg23, ⟨⟨⟨⟨trivial, tg279, trivial⟩, tg151, trivial⟩, tg87, ⟨⟨trivial, tg343, trivial⟩, tg215, trivial⟩⟩, tg55, ⟨⟨⟨trivial, tg311, trivial⟩, tg183, trivial⟩, tg119, ⟨⟨trivial, tg375, trivial⟩, tg247, trivial⟩⟩⟩⟩⟩, tg3, ⟨⟨⟨⟨⟨⟨trivial, tg259, trivial⟩, tg131, trivial⟩, tg67, ⟨⟨trivial, tg323, trivial⟩, tg195, trivial⟩⟩, tg35, ⟨⟨⟨trivial, tg291, trivial⟩, tg163, trivial⟩, tg99, ⟨⟨trivial, tg355, trivial⟩, tg227, trivial⟩⟩⟩, tg19, ⟨⟨⟨⟨trivial, tg275, trivial⟩, tg147, trivial⟩, tg83, ⟨⟨trivial, tg339, trivial⟩, tg211, trivial⟩⟩, tg51, ⟨⟨⟨trivial, tg307, trivial⟩, tg179, trivial⟩, tg115, ⟨⟨trivial, tg371, trivial⟩, tg243, trivial⟩⟩⟩⟩, tg11, ⟨⟨⟨⟨⟨trivial, tg267, trivial⟩, tg139, trivial⟩, tg75, ⟨⟨trivial, tg331, trivial⟩, tg203, trivial⟩⟩, tg43, ⟨⟨⟨trivial, tg299, trivial⟩, trivial, trivial⟩, tg107, ⟨⟨trivial, tg363, trivial⟩, tg235, trivial⟩⟩⟩, tg27, ⟨⟨⟨⟨trivial, tg283, trivial⟩, tg155, trivial⟩, trivial, ⟨⟨trivial, tg347, trivial⟩, tg219, trivial⟩⟩, tg59, ⟨⟨⟨trivial, tg315, trivial⟩, tg187, trivial⟩, tg123, trivial⟩⟩⟩⟩⟩, tg1, ⟨⟨⟨⟨⟨⟨⟨trivial, tg257, trivial⟩, tg129, trivial⟩, tg65, ⟨trivial, tg193, trivial⟩⟩, trivial, ⟨⟨trivial, tg161, trivial⟩, tg97, ⟨⟨trivial, tg353, trivial⟩, tg225, trivial⟩⟩⟩, tg17, ⟨⟨⟨⟨trivial, tg273, trivial⟩, tg145, trivial⟩, tg81, ⟨⟨trivial, tg337, trivial⟩, tg209, trivial⟩⟩, tg49, ⟨⟨⟨trivial, tg305, trivial⟩, tg177, trivial⟩, tg113, ⟨⟨trivial, tg369, trivial⟩, tg241, trivial⟩⟩⟩⟩, tg9, ⟨⟨⟨⟨⟨trivial, tg265, trivial⟩, tg137, trivial⟩, tg73, ⟨⟨trivial, tg329, trivial⟩, trivial, trivial⟩⟩, tg41, ⟨⟨trivial, tg169, trivial⟩, tg105, ⟨⟨trivial, tg361, trivial⟩, trivial, trivial⟩⟩⟩, tg25, ⟨⟨⟨⟨trivial, tg281, trivial⟩, tg153, trivial⟩, tg89, ⟨trivial, tg217, trivial⟩⟩, trivial, ⟨⟨⟨trivial, tg313, trivial⟩, tg185, trivial⟩, tg121, ⟨trivial, tg249, trivial⟩⟩⟩⟩⟩, tg5, ⟨⟨⟨⟨⟨⟨trivial, tg261, trivial⟩, tg133, trivial⟩, tg69, ⟨⟨trivial, tg325, trivial⟩, tg197, trivial⟩⟩, tg37, ⟨⟨⟨trivial, tg293, trivial⟩, tg165, trivial⟩, tg101, ⟨⟨trivial, tg357, trivial⟩, trivial, trivial⟩⟩⟩, tg21, ⟨⟨⟨⟨trivial, tg277, trivial⟩, tg149, trivial⟩, tg85, ⟨⟨trivial, tg341, trivial⟩, tg213, trivial⟩⟩, tg53, ⟨⟨⟨trivial, tg309, trivial⟩, tg181, trivial⟩, tg117, ⟨⟨trivial, tg373, trivial⟩, tg245, trivial⟩⟩⟩⟩, tg13, ⟨⟨⟨⟨⟨trivial, tg269, trivial⟩, tg141, trivial⟩, tg77, ⟨⟨trivial, tg333, trivial⟩, tg205, trivial⟩⟩, trivial, ⟨⟨⟨trivial, tg301, trivial⟩, tg173, trivial⟩, tg109, ⟨⟨trivial, tg365, trivial⟩, tg237, trivial⟩⟩⟩, tg29, ⟨⟨⟨⟨trivial, tg285, trivial⟩, tg157, trivial⟩, tg93, ⟨⟨trivial, tg349, trivial⟩, trivial, trivial⟩⟩, tg61, ⟨⟨trivial, tg189, trivial⟩, tg125, ⟨trivial, tg253, trivial⟩⟩⟩⟩⟩⟩⟩, trivial, ⟨⟨⟨⟨⟨⟨⟨⟨trivial, tg256, trivial⟩, tg128, trivial⟩, tg64, ⟨⟨trivial, tg320, trivial⟩, tg192, trivial⟩⟩, tg32, ⟨⟨⟨trivial, tg288, trivial⟩, tg160, trivial⟩, tg96, ⟨⟨trivial, tg352, trivial⟩, tg224, trivial⟩⟩⟩, tg16, ⟨⟨⟨⟨trivial, tg272, trivial⟩, tg144, trivial⟩, trivial, ⟨⟨trivial, tg336, trivial⟩, trivial, trivial⟩⟩, trivial, ⟨⟨⟨trivial, tg304, trivial⟩, tg176, trivial⟩, tg112, ⟨⟨trivial, tg368, trivial⟩, tg240, trivial⟩⟩⟩⟩, tg8, ⟨⟨⟨⟨⟨trivial, tg264, trivial⟩, tg136, trivial⟩, tg72, ⟨⟨trivial, tg328, trivial⟩, tg200, trivial⟩⟩, tg40, ⟨⟨⟨trivial, tg296, trivial⟩, tg168, trivial⟩, tg104, ⟨⟨trivial, tg360, trivial⟩, tg232, trivial⟩⟩⟩, trivial, ⟨⟨⟨⟨trivial, tg280, trivial⟩, tg152, trivial⟩, tg88, ⟨⟨trivial, tg344, trivial⟩, tg216, trivial⟩⟩, tg56, ⟨⟨⟨trivial, tg312, trivial⟩, tg184, trivial⟩, trivial, ⟨⟨trivial, tg376, trivial⟩, tg248, trivial⟩⟩⟩⟩⟩, tg4, ⟨⟨⟨⟨⟨⟨trivial, tg260, trivial⟩, tg132, trivial⟩, tg68, ⟨⟨trivial, tg324, trivial⟩, tg196, trivial⟩⟩, tg36, ⟨⟨trivial, tg164, trivial⟩, tg100, ⟨⟨trivial, tg356, trivial⟩, tg228, trivial⟩⟩⟩, tg20, ⟨⟨⟨⟨trivial, tg276, trivial⟩, tg148, trivial⟩, tg84, ⟨⟨trivial, tg340, trivial⟩, trivial, trivial⟩⟩, trivial, ⟨⟨⟨trivial, tg308, trivial⟩, tg180, trivial⟩, tg116, ⟨⟨trivial, tg372, trivial⟩, tg244, trivial⟩⟩⟩⟩, tg12, ⟨⟨⟨⟨⟨trivial, tg268, trivial⟩, tg140, trivial⟩, tg76, ⟨trivial, tg204, trivial⟩⟩, tg44, ⟨⟨⟨trivial, tg300, trivial⟩, tg172, trivial⟩, tg108, ⟨⟨trivial, tg364, trivial⟩, tg236, trivial⟩⟩⟩, tg28, ⟨⟨⟨⟨trivial, tg284, trivial⟩, tg156, trivial⟩, tg92, ⟨⟨trivial, tg348, trivial⟩, tg220, trivial⟩⟩, tg60, ⟨⟨⟨trivial, tg316, trivial⟩, tg188, trivial⟩, tg124, ⟨trivial, tg252, trivial⟩⟩⟩⟩⟩⟩, tg2, ⟨⟨⟨⟨⟨⟨⟨trivial, tg258, trivial⟩, tg130, trivial⟩, tg66, ⟨⟨trivial, tg322, trivial⟩, tg194, trivial⟩⟩, tg34, ⟨⟨⟨trivial, tg290, trivial⟩, tg162, trivial⟩, tg98, ⟨⟨trivial, tg354, trivial⟩, trivial, trivial⟩⟩⟩, tg18, ⟨⟨⟨⟨trivial, tg274, trivial⟩, tg146, trivial⟩, tg82, ⟨⟨trivial, tg338, trivial⟩, tg210, trivial⟩⟩, trivial, ⟨⟨⟨trivial, tg306, trivial⟩, tg178, trivial⟩, tg114, ⟨⟨trivial, tg370, trivial⟩, tg242, trivial⟩⟩⟩⟩, tg10, ⟨⟨⟨⟨⟨trivial, tg266, trivial⟩, tg138, trivial⟩, tg74, ⟨⟨trivial, tg330, trivial⟩, tg202, trivial⟩⟩, tg42, ⟨⟨⟨trivial, tg298, trivial⟩, tg170, trivial⟩, tg106, ⟨⟨trivial, tg362, trivial⟩, tg234, trivial⟩⟩⟩, tg26, ⟨⟨⟨⟨trivial, tg282, trivial⟩, tg154, trivial⟩, tg90, ⟨⟨trivial, tg346, trivial⟩, tg218, trivial⟩⟩, tg58, ⟨⟨trivial, tg186, trivial⟩, tg122, ⟨trivial, tg250, trivial⟩⟩⟩⟩⟩, tg6, ⟨⟨⟨⟨⟨trivial, tg134, trivial⟩, tg70, ⟨⟨trivial, tg326, trivial⟩, tg198, trivial⟩⟩, trivial, ⟨⟨⟨trivial, tg294, trivial⟩, trivial, trivial⟩, tg102, ⟨⟨trivial, tg358, trivial⟩, tg230, trivial⟩⟩⟩, tg22, ⟨⟨⟨⟨trivial, tg278, trivial⟩, tg150, trivial⟩, tg86, ⟨⟨trivial, tg342, trivial⟩, tg214, trivial⟩⟩, tg54, ⟨⟨⟨trivial, tg310, trivial⟩, tg182, trivial⟩, tg118, ⟨⟨trivial, tg374, trivial⟩, tg246, trivial⟩⟩⟩⟩, tg14, ⟨⟨⟨⟨⟨trivial, tg270, trivial⟩, tg142, trivial⟩, tg78, ⟨⟨trivial, tg334, trivial⟩, tg206, trivial⟩⟩, tg46, ⟨⟨⟨trivial, tg302, trivial⟩, tg174, trivial⟩, tg110, ⟨⟨trivial, tg366, trivial⟩, tg238, trivial⟩⟩⟩, trivial, ⟨⟨⟨trivial, tg158, trivial⟩, trivial, ⟨⟨trivial, tg350, trivial⟩, tg222, trivial⟩⟩, tg62, ⟨⟨⟨trivial, tg318, trivial⟩, tg190, trivial⟩, tg126, ⟨trivial, tg254, trivial⟩⟩⟩⟩⟩⟩⟩⟩
theorem fl7 : FlatT Tryz.prog 7 117 := ⟨⟨_, Tryz.underlying7, ⟨rfl, by decide, .inl ⟨rfl, _, Tryz.underlying2⟩, ⟨rfl, by decide, .inl ⟨rfl, _, Tryz.underlying3⟩, ⟨rfl, by decide, .inr (.inr ⟨rfl, Tryz.underlying4⟩), ⟨rfl, by decide, .inl ⟨rfl, _, Tryz.underlying6⟩, rfl⟩⟩⟩⟩⟩, by kernel_rfl, by kernel_rfl⟩
theorem fl8 : FlatT Tryz.prog 8 117 := ⟨⟨_, Tryz.underlying8, ⟨rfl, by decide, .inl ⟨rfl, _, Tryz.underlying2⟩, ⟨rfl, by decide, .inl ⟨rfl, _, Tryz.underlying3⟩, ⟨rfl, by decide, .inr (.inr ⟨rfl, Tryz.underlying4⟩), ⟨rfl, by decide, .inl ⟨rfl, _, Tryz.underlying6⟩, rfl⟩⟩⟩⟩⟩, by kernel_rfl, by kernel_rfl⟩
theorem fl84 : FlatT Tryz.prog 84 938 := ⟨⟨_, Tryz.underlying84, ⟨rfl, by decide, .inr (.inl ⟨rfl, Tryz.underlying9⟩), ⟨rfl, by decide, .inr (.inl ⟨rfl, Tryz.underlying9⟩), ⟨rfl, by decide, .inr (.inl ⟨rfl, Tryz.underlying9⟩), ⟨rfl, by decide, .inr (.inl ⟨rfl, Tryz.underlying9⟩), ⟨rfl, by decide, .inr (.inr ⟨rfl, Tryz.underlying4⟩), rfl⟩⟩⟩⟩⟩⟩, by kernel_rfl, by kernel_rfl⟩
theorem fl85 : FlatT Tryz.prog 85 938 := ⟨⟨_, Tryz.underlying85, ⟨rfl, by decide, .inr (.inl ⟨rfl, Tryz.underlying9⟩), ⟨rfl, by decide, .inr (.inl ⟨rfl, Tryz.underlying9⟩), ⟨rfl, by decide, .inr (.inl ⟨rfl, Tryz.underlying9⟩), ⟨rfl, by decide, .inr (.inl ⟨rfl, Tryz.underlying9⟩), ⟨rfl, by decide, .inr (.inr ⟨rfl, Tryz.underlying4⟩), rfl⟩⟩⟩⟩⟩⟩, by kernel_rfl, by kernel_rfl⟩
theorem fl117 : FlatT Tryz.prog 117 42 := ⟨⟨_, Tryz.underlying117, ⟨rfl, by decide, .inr (.inl ⟨rfl, Tryz.underlying9⟩), ⟨rfl, by decide, .inr (.inl ⟨rfl, Tryz.underlying9⟩), ⟨rfl, by decide, .inr (.inl ⟨rfl, Tryz.underlying9⟩), rfl⟩⟩⟩⟩, by kernel_rfl, by kernel_rfl⟩
theorem fl118 : FlatT Tryz.prog 118 42 := ⟨⟨_, Tryz.underlying118, ⟨rfl, by decide, .inr (.inl ⟨rfl, Tryz.underlying9⟩), ⟨rfl, by decide, .inr (.inl ⟨rfl, Tryz.underlying9⟩), ⟨rfl, by decide, .inr (.inl ⟨rfl, Tryz.underlying9⟩), rfl⟩⟩⟩⟩, by kernel_rfl, by kernel_rfl⟩
theorem fl122 : FlatT Tryz.prog 122 10 := ⟨⟨_, Tryz.underlying122, ⟨rfl, by decide, .inr (.inl ⟨rfl, Tryz.underlying9⟩), ⟨rfl, by decide, .inr (.inl ⟨rfl, Tryz.underlying9⟩), rfl⟩⟩⟩, by kernel_rfl, by kernel_rfl⟩
theorem fl123 : FlatT Tryz.prog 123 10 := ⟨⟨_, Tryz.underlying123, ⟨rfl, by decide, .inr (.inl ⟨rfl, Tryz.underlying9⟩), ⟨rfl, by decide, .inr (.inl ⟨rfl, Tryz.underlying9⟩), rfl⟩⟩⟩, by kernel_rfl, by kernel_rfl⟩
theorem fl125 : FlatT Tryz.prog 125 9 := ⟨⟨_, Tryz.underlying125, ⟨rfl, by decide, .inl ⟨rfl, _, Tryz.underlying3⟩, ⟨rfl, by decide, .inr (.inl ⟨rfl, Tryz.underlying9⟩), rfl⟩⟩⟩, by kernel_rfl, by kernel_rfl⟩
theorem fl126 : FlatT Tryz.prog 126 9 := ⟨⟨_, Tryz.underlying126, ⟨rfl, by decide, .inl ⟨rfl, _, Tryz.underlying3⟩, ⟨rfl, by decide, .inr (.inl ⟨rfl, Tryz.underlying9⟩), rfl⟩⟩⟩, by kernel_rfl, by kernel_rfl⟩
theorem fl143 : FlatT Tryz.prog 143 5 := ⟨⟨_, Tryz.underlying143, ⟨rfl, by decide, .inl ⟨rfl, _, Tryz.underlying3⟩, ⟨rfl, by decide, .inl ⟨rfl, _, Tryz.underlying3⟩, rfl⟩⟩⟩, by kernel_rfl, by kernel_rfl⟩
theorem fl144 : FlatT Tryz.prog 144 5 := ⟨⟨_, Tryz.underlying144, ⟨rfl, by decide, .inl ⟨rfl, _, Tryz.underlying3⟩, ⟨rfl, by decide, .inl ⟨rfl, _, Tryz.underlying3⟩, rfl⟩⟩⟩, by kernel_rfl, by kernel_rfl⟩
theorem fl146 : FlatT Tryz.prog 146 42 := ⟨⟨_, Tryz.underlying146, ⟨rfl, by decide, .inr (.inl ⟨rfl, Tryz.underlying9⟩), ⟨rfl, by decide, .inr (.inl ⟨rfl, Tryz.underlying9⟩), ⟨rfl, by decide, .inr (.inl ⟨rfl, Tryz.underlying9⟩), rfl⟩⟩⟩⟩, by kernel_rfl, by kernel_rfl⟩
theorem fl147 : FlatT Tryz.prog 147 42 := ⟨⟨_, Tryz.underlying147, ⟨rfl, by decide, .inr (.inl ⟨rfl, Tryz.underlying9⟩), ⟨rfl, by decide, .inr (.inl ⟨rfl, Tryz.underlying9⟩), ⟨rfl, by decide, .inr (.inl ⟨rfl, Tryz.underlying9⟩), rfl⟩⟩⟩⟩, by kernel_rfl, by kernel_rfl⟩
theorem fl163 : FlatT Tryz.prog 163 21 := ⟨⟨_, Tryz.underlying163, ⟨rfl, by decide, .inl ⟨rfl, _, Tryz.underlying3⟩, ⟨rfl, by decide, .inl ⟨rfl, _, Tryz.underlying3⟩, ⟨rfl, by decide, .inl ⟨rfl, _, Tryz.underlying3⟩, rfl⟩⟩⟩⟩, by kernel_rfl, by kernel_rfl⟩
theorem fl164 : FlatT Tryz.prog 164 21 := ⟨⟨_, Tryz.underlying164, ⟨rfl, by decide, .inl ⟨rfl, _, Tryz.underlying3⟩, ⟨rfl, by decide, .inl ⟨rfl, _, Tryz.underlying3⟩, ⟨rfl, by decide, .inl ⟨rfl, _, Tryz.underlying3⟩, rfl⟩⟩⟩⟩, by kernel_rfl, by kernel_rfl⟩
theorem fl354 : FlatT Tryz.prog 354 5 := ⟨⟨_, Tryz.underlying354, ⟨rfl, by decide, .inl ⟨rfl, _, Tryz.underlying5⟩, ⟨rfl, by decide, .inl ⟨rfl, _, Tryz.underlying5⟩, rfl⟩⟩⟩, by kernel_rfl, by kernel_rfl⟩
theorem fl355 : FlatT Tryz.prog 355 5 := ⟨⟨_, Tryz.underlying355, ⟨rfl, by decide, .inl ⟨rfl, _, Tryz.underlying5⟩, ⟨rfl, by decide, .inl ⟨rfl, _, Tryz.underlying5⟩, rfl⟩⟩⟩, by kernel_rfl, by kernel_rfl⟩
theorem fl358 : FlatT Tryz.prog 358 2 := ⟨⟨_, Tryz.underlying358, ⟨rfl, by decide, .inr (.inl ⟨rfl, Tryz.underlying9⟩), rfl⟩⟩, by kernel_rfl, by kernel_rfl⟩
theorem fl359 : FlatT Tryz.prog 359 2 := ⟨⟨_, Tryz.underlying359, ⟨rfl, by decide, .inr (.inl ⟨rfl, Tryz.underlying9⟩), rfl⟩⟩, by kernel_rfl, by kernel_rfl⟩
theorem flAll : TrAll (FlatT Tryz.prog) FLT id := ⟨⟨⟨⟨⟨trivial, trivial, ⟨⟨⟨trivial, fl143, trivial⟩, trivial, trivial⟩, trivial, trivial⟩⟩, fl7, ⟨⟨trivial, trivial, ⟨trivial, trivial, ⟨⟨trivial, fl359, trivial⟩, trivial, trivial⟩⟩⟩, trivial, trivial⟩⟩, trivial, ⟨⟨⟨trivial, trivial, ⟨⟨trivial, fl163, trivial⟩, trivial, ⟨⟨trivial, fl355, trivial⟩, trivial, trivial⟩⟩⟩, trivial, ⟨⟨⟨trivial, fl147, trivial⟩, trivial, trivial⟩, trivial, trivial⟩⟩, trivial, ⟨trivial, trivial, ⟨trivial, trivial, ⟨trivial, fl123, trivial⟩⟩⟩⟩⟩, trivial, ⟨trivial, trivial, ⟨⟨trivial, trivial, ⟨⟨trivial, fl85, trivial⟩, trivial, ⟨trivial, fl117, trivial⟩⟩⟩, trivial, ⟨trivial, trivial, ⟨trivial, trivial, ⟨trivial, fl125, trivial⟩⟩⟩⟩⟩⟩, trivial, ⟨⟨⟨⟨trivial, trivial, ⟨⟨⟨trivial, fl144, trivial⟩, trivial, trivial⟩, trivial, trivial⟩⟩, fl8, trivial⟩, trivial, ⟨⟨⟨trivial, trivial, ⟨⟨trivial, fl164, trivial⟩, trivial, trivial⟩⟩, trivial, ⟨⟨trivial, fl84, trivial⟩, trivial, trivial⟩⟩, trivial, trivial⟩⟩, trivial, ⟨⟨⟨⟨trivial, trivial, ⟨trivial, trivial, ⟨⟨trivial, fl354, trivial⟩, trivial, trivial⟩⟩⟩, trivial, ⟨⟨⟨trivial, fl146, trivial⟩, trivial, trivial⟩, trivial, trivial⟩⟩, trivial, ⟨trivial, trivial, ⟨trivial, trivial, ⟨trivial, fl122, trivial⟩⟩⟩⟩, trivial, ⟨⟨⟨trivial, trivial, ⟨trivial, trivial, ⟨⟨trivial, fl358, trivial⟩, trivial, trivial⟩⟩⟩, trivial, ⟨trivial, trivial, ⟨trivial, fl118, trivial⟩⟩⟩, trivial, ⟨trivial, trivial, ⟨trivial, trivial, ⟨trivial, fl126, trivial⟩⟩⟩⟩⟩⟩⟩
theorem tok : TOK Tryz.prog T where
  ng := by rw [Tryz.globals_size]; decide
  ty t i h := tyAll.get h
  ixb := fun f hf => by
    have e : f = 222 := Nat.eq_of_beq_eq_true hf
    subst e
    exact ixb_of Tryz.func222 (by kernel_rfl) (by kernel_rfl) (by kernel_rfl) (by kernel_rfl)
  nesc := fun f hf => by
    have e : f = 199 := Nat.eq_of_beq_eq_true hf
    subst e
    exact nesc_of Tryz.func199 (by kernel_rfl) (by kernel_rfl) (by kernel_rfl) (by kernel_rfl)
  mnz f e hf := by
    have hf' : (if Nat.beq f 241 = true then some 5 else none) = some e := hf
    split at hf'
    · rename_i h
      injection hf' with he
      subst he
      have ef : f = 241 := Nat.eq_of_beq_eq_true h
      subst ef
      exact mnz_of (t := 109) (ps := #[3]) Tryz.func241 (by kernel_rfl) (by kernel_rfl) (by kernel_rfl) (by kernel_rfl) Tryz.underlying109
    · cases hf'
  lies u p hp count hc := by
    have hp0 : p ∈ (if Nat.beq u 111 then [(110, 2), (111, 2), (112, 3), (113, 3)] else [] : List (Nat × Nat)) := hp
    by_cases h111 : Nat.beq u 111 = true
    · have eu : u = 111 := Nat.eq_of_beq_eq_true h111
      subst eu
      have hp' : p ∈ [((110, 2) : Nat × Nat), ((111, 2) : Nat × Nat), ((112, 3) : Nat × Nat), ((113, 3) : Nat × Nat)] := hp
      simp only [List.mem_cons, List.mem_nil_iff, or_false] at hp'
      rcases hp' with rfl | rfl | rfl | rfl
      · exact lies_of (D := 955) (by kernel_rfl) (by kernel_rfl) (by kernel_rfl) (by decide) count hc
      · exact lies_of (D := 955) (by kernel_rfl) (by kernel_rfl) (by kernel_rfl) (by decide) count hc
      · exact lies_of (D := 955) (by kernel_rfl) (by kernel_rfl) (by kernel_rfl) (by decide) count hc
      · exact lies_of (D := 955) (by kernel_rfl) (by kernel_rfl) (by kernel_rfl) (by decide) count hc
    simp [h111] at hp0
  eqs t n hf ι xs ys a b r w ha hb h1 h2 he := by
    have hg : FLT.get t = some (n + 1) := flat_get hf
    exact FlatT.eqs (flAll.get hg) w ha hb h1 h2 he
  eqg t n hf := by
    have hg : FLT.get t = some (n + 1) := flat_get hf
    exact (flAll.get hg).hg
  ckey t n hf e ι a xs w ha h1 := by
    have hg : FLT.get t = some (n + 1) := flat_get hf
    exact FlatT.ckey (flAll.get hg) e w ha h1
theorem mix : Tryz.prog.follows .mixedOrders = true := by kernel_rfl
end Go.Proofs.YtnhamnljhgmheaaGreatDoor
