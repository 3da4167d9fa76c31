import Derived.Test.YtlnffaalhedfmaaGreatDoorEvL6
import Derived.Test.YtlnffaalhedfmaaGreatDoorProg
namespace Go.Proofs.YtlnffaalhedfmaaGreatDoor
open Go.Ev
set_option maxRecDepth 100000
def ti1 : TI := ⟨.func #[] #[] false, 1, 8, [.fn]⟩
def ti2 : TI := ⟨.int .i64, 1, 8, [(.i .i64 0)]⟩
def ti3 : TI := ⟨.int .i64, 1, 8, [(.i .i64 0)]⟩
def ti4 : TI := ⟨.bool, 1, 1, [(.b false)]⟩
def ti5 : TI := ⟨.int .u8, 1, 1, [(.i .u8 0)]⟩
def ti6 : TI := ⟨.int .u8, 1, 1, [(.i .u8 0)]⟩
def ti7 : TI := ⟨.struct #[⟨ "x", 2, 0, false, "", "runtime", 0⟩, ⟨ "y", 3, 1, false, "", "runtime", 8⟩, ⟨ "signed", 4, 2, false, "", "runtime", 16⟩, ⟨ "code", 6, 3, false, "", "runtime", 17⟩], 4, 24, [(.i .i64 0), (.i .i64 0), (.b false), (.i .u8 0)]⟩
def ti8 : TI := ⟨.struct #[⟨ "x", 2, 0, false, "", "runtime", 0⟩, ⟨ "y", 3, 1, false, "", "runtime", 8⟩, ⟨ "signed", 4, 2, false, "", "runtime", 16⟩, ⟨ "code", 6, 3, false, "", "runtime", 17⟩], 4, 24, [(.i .i64 0), (.i .i64 0), (.b false), (.i .u8 0)]⟩
def ti9 : TI := ⟨.string, 1, 16, [(.s [])]⟩
def ti10 : TI := ⟨.string, 1, 16, [(.s [])]⟩
def ti11 : TI := ⟨.string, 1, 16, [(.s [])]⟩
def ti12 : TI := ⟨.int .u64, 1, 8, [(.i .u64 0)]⟩
def ti13 : TI := ⟨.struct #[⟨ "msg", 9, 0, false, "", "runtime", 0⟩, ⟨ "addr", 12, 1, false, "", "runtime", 16⟩], 2, 24, [(.s []), (.i .u64 0)]⟩
def ti14 : TI := ⟨.struct #[⟨ "msg", 9, 0, false, "", "runtime", 0⟩, ⟨ "addr", 12, 1, false, "", "runtime", 16⟩], 2, 24, [(.s []), (.i .u64 0)]⟩
def ti15 : TI := ⟨.pointer 382, 1, 8, [.pn]⟩
def ti16 : TI := ⟨.pointer 385, 1, 8, [.pn]⟩
def ti17 : TI := ⟨.pointer 392, 1, 8, [.pn]⟩
def ti18 : TI := ⟨.struct #[⟨ "typ", 17, 0, false, "", "internal/runtime/maps", 0⟩], 1, 8, [.pn]⟩
def ti19 : TI := ⟨.struct #[⟨ "typ", 17, 0, false, "", "internal/runtime/maps", 0⟩], 1, 8, [.pn]⟩
def ti20 : TI := ⟨.interface #[], 1, 16, [.inn]⟩
def ti21 : TI := ⟨.int .i32, 1, 4, [(.i .i32 0)]⟩
def ti22 : TI := ⟨.func #[] #[4] false, 1, 8, [.fn]⟩
def ti23 : TI := ⟨.slice 5, 1, 24, [.sn]⟩
def ti24 : TI := ⟨.slice 85, 1, 24, [.sn]⟩
def ti25 : TI := ⟨.int .i64, 1, 8, [(.i .i64 0)]⟩
def ti27 : TI := ⟨.func #[9] #[24, 3, 25] false, 1, 8, [.fn]⟩
def ti28 : TI := ⟨.func #[3, 3] #[4] false, 1, 8, [.fn]⟩
def ti29 : TI := ⟨.func #[3] #[9] false, 1, 8, [.fn]⟩
def ti30 : TI := ⟨.slice 38, 1, 24, [.sn]⟩
def ti31 : TI := ⟨.slice 40, 1, 24, [.sn]⟩
def ti32 : TI := ⟨.struct #[⟨ "Name", 9, 0, false, "", "", 0⟩, ⟨ "Obj", 9, 1, false, "", "", 16⟩, ⟨ "Rows", 30, 2, false, "", "", 32⟩, ⟨ "Cols", 31, 3, false, "", "", 56⟩], 4, 80, [(.s []), (.s []), .sn, .sn]⟩
def ti33 : TI := ⟨.struct #[⟨ "Name", 9, 0, false, "", "", 0⟩, ⟨ "Obj", 9, 1, false, "", "", 16⟩, ⟨ "Rows", 30, 2, false, "", "", 32⟩, ⟨ "Cols", 31, 3, false, "", "", 56⟩], 4, 80, [(.s []), (.s []), .sn, .sn]⟩
def ti35 : TI := ⟨.func #[9] #[33, 3, 25] false, 1, 8, [.fn]⟩
def ti36 : TI := ⟨.slice 42, 1, 24, [.sn]⟩
def ti37 : TI := ⟨.struct #[⟨ "Name", 9, 0, false, "", "", 0⟩, ⟨ "Kind", 3, 1, false, "", "", 16⟩, ⟨ "Coef", 36, 2, false, "", "", 24⟩, ⟨ "Rhs", 9, 3, false, "", "", 48⟩, ⟨ "Range", 9, 4, false, "", "", 64⟩], 5, 80, [(.s []), (.i .i64 0), .sn, (.s []), (.s [])]⟩
def ti38 : TI := ⟨.struct #[⟨ "Name", 9, 0, false, "", "", 0⟩, ⟨ "Kind", 3, 1, false, "", "", 16⟩, ⟨ "Coef", 36, 2, false, "", "", 24⟩, ⟨ "Rhs", 9, 3, false, "", "", 48⟩, ⟨ "Range", 9, 4, false, "", "", 64⟩], 5, 80, [(.s []), (.i .i64 0), .sn, (.s []), (.s [])]⟩
def ti39 : TI := ⟨.struct #[⟨ "Name", 9, 0, false, "", "", 0⟩, ⟨ "Low", 9, 1, false, "", "", 16⟩, ⟨ "Up", 9, 2, false, "", "", 32⟩, ⟨ "Cost", 9, 3, false, "", "", 48⟩, ⟨ "Int", 4, 4, false, "", "", 64⟩], 5, 72, [(.s []), (.s []), (.s []), (.s []), (.b false)]⟩
def ti40 : TI := ⟨.struct #[⟨ "Name", 9, 0, false, "", "", 0⟩, ⟨ "Low", 9, 1, false, "", "", 16⟩, ⟨ "Up", 9, 2, false, "", "", 32⟩, ⟨ "Cost", 9, 3, false, "", "", 48⟩, ⟨ "Int", 4, 4, false, "", "", 64⟩], 5, 72, [(.s []), (.s []), (.s []), (.s []), (.b false)]⟩
def ti41 : TI := ⟨.struct #[⟨ "Col", 3, 0, false, "", "", 0⟩, ⟨ "V", 9, 1, false, "", "", 8⟩], 2, 24, [(.i .i64 0), (.s [])]⟩
def ti42 : TI := ⟨.struct #[⟨ "Col", 3, 0, false, "", "", 0⟩, ⟨ "V", 9, 1, false, "", "", 8⟩], 2, 24, [(.i .i64 0), (.s [])]⟩
def ti43 : TI := ⟨.struct #[⟨ "Col", 9, 0, false, "", "", 0⟩, ⟨ "Row", 9, 1, false, "", "", 16⟩, ⟨ "Name", 9, 2, false, "", "", 32⟩], 3, 48, [(.s []), (.s []), (.s [])]⟩
def ti44 : TI := ⟨.struct #[⟨ "Col", 9, 0, false, "", "", 0⟩, ⟨ "Row", 9, 1, false, "", "", 16⟩, ⟨ "Name", 9, 2, false, "", "", 32⟩], 3, 48, [(.s []), (.s []), (.s [])]⟩
def ti45 : TI := ⟨.slice 44, 1, 24, [.sn]⟩
def ti46 : TI := ⟨.struct #[⟨ "Cols", 31, 0, false, "", "", 0⟩, ⟨ "Rows", 30, 1, false, "", "", 24⟩], 2, 48, [.sn, .sn]⟩
def ti47 : TI := ⟨.struct #[⟨ "Cols", 31, 0, false, "", "", 0⟩, ⟨ "Rows", 30, 1, false, "", "", 24⟩], 2, 48, [.sn, .sn]⟩
def ti48 : TI := ⟨.slice 36, 1, 24, [.sn]⟩
def ti49 : TI := ⟨.struct #[⟨ "First", 47, 0, false, "", "", 0⟩, ⟨ "Second", 47, 2, false, "", "", 48⟩, ⟨ "Tech", 48, 4, false, "", "", 96⟩], 5, 120, [.sn, .sn, .sn, .sn, .sn]⟩
def ti50 : TI := ⟨.struct #[⟨ "First", 47, 0, false, "", "", 0⟩, ⟨ "Second", 47, 2, false, "", "", 48⟩, ⟨ "Tech", 48, 4, false, "", "", 96⟩], 5, 120, [.sn, .sn, .sn, .sn, .sn]⟩
def ti52 : TI := ⟨.func #[33, 45] #[50, 25] false, 1, 8, [.fn]⟩
def ti53 : TI := ⟨.func #[33, 45] #[25] false, 1, 8, [.fn]⟩
def ti54 : TI := ⟨.func #[3, 3, 3, 3] #[4] false, 1, 8, [.fn]⟩
def ti55 : TI := ⟨.struct #[⟨ "Core", 9, 0, false, "", "", 0⟩, ⟨ "Time", 9, 1, false, "", "", 16⟩, ⟨ "Stoch", 9, 2, false, "", "", 32⟩], 3, 48, [(.s []), (.s []), (.s [])]⟩
def ti56 : TI := ⟨.struct #[⟨ "Core", 9, 0, false, "", "", 0⟩, ⟨ "Time", 9, 1, false, "", "", 16⟩, ⟨ "Stoch", 9, 2, false, "", "", 32⟩], 3, 48, [(.s []), (.s []), (.s [])]⟩
def ti57 : TI := ⟨.func #[] #[56] false, 1, 8, [.fn]⟩
def ti59 : TI := ⟨.func #[9] #[9, 45, 3, 25] false, 1, 8, [.fn]⟩
def ti60 : TI := ⟨.func #[3] #[4] false, 1, 8, [.fn]⟩
def ti61 : TI := ⟨.slice 129, 1, 24, [.sn]⟩
def ti62 : TI := ⟨.struct #[⟨ "Kind", 3, 0, false, "", "", 0⟩, ⟨ "Groups", 61, 1, false, "", "", 8⟩], 2, 32, [(.i .i64 0), .sn]⟩
def ti63 : TI := ⟨.struct #[⟨ "Kind", 3, 0, false, "", "", 0⟩, ⟨ "Groups", 61, 1, false, "", "", 8⟩], 2, 32, [(.i .i64 0), .sn]⟩
def ti65 : TI := ⟨.func #[9] #[9, 63, 3, 25] false, 1, 8, [.fn]⟩
def ti66 : TI := ⟨.slice 70, 1, 24, [.sn]⟩
def ti68 : TI := ⟨.func #[33, 45, 63, 3] #[50, 66, 25] false, 1, 8, [.fn]⟩
def ti69 : TI := ⟨.struct #[⟨ "P", 9, 0, false, "", "", 0⟩, ⟨ "Second", 47, 1, false, "", "", 16⟩, ⟨ "Tech", 48, 3, false, "", "", 64⟩], 4, 88, [(.s []), .sn, .sn, .sn]⟩
def ti70 : TI := ⟨.struct #[⟨ "P", 9, 0, false, "", "", 0⟩, ⟨ "Second", 47, 1, false, "", "", 16⟩, ⟨ "Tech", 48, 3, false, "", "", 64⟩], 4, 88, [(.s []), .sn, .sn, .sn]⟩
def ti71 : TI := ⟨.func #[9, 3] #[9] false, 1, 8, [.fn]⟩
def ti72 : TI := ⟨.func #[47, 47] #[4] false, 1, 8, [.fn]⟩
def ti73 : TI := ⟨.func #[48, 48] #[4] false, 1, 8, [.fn]⟩
def ti74 : TI := ⟨.func #[9] #[4] false, 1, 8, [.fn]⟩
def ti76 : TI := ⟨.func #[33] #[9, 4] false, 1, 8, [.fn]⟩
def ti78 : TI := ⟨.func #[63, 3] #[3, 4] false, 1, 8, [.fn]⟩
def ti80 : TI := ⟨.func #[33, 45, 82] #[3, 3, 3, 25] false, 1, 8, [.fn]⟩
def ti81 : TI := ⟨.struct #[⟨ "Col", 9, 0, false, "", "", 0⟩, ⟨ "Row", 9, 1, false, "", "", 16⟩], 2, 32, [(.s []), (.s [])]⟩
def ti82 : TI := ⟨.struct #[⟨ "Col", 9, 0, false, "", "", 0⟩, ⟨ "Row", 9, 1, false, "", "", 16⟩], 2, 32, [(.s []), (.s [])]⟩
def ti83 : TI := ⟨.slice 9, 1, 24, [.sn]⟩
def ti84 : TI := ⟨.struct #[⟨ "No", 3, 0, false, "", "", 0⟩, ⟨ "Head", 4, 1, false, "", "", 8⟩, ⟨ "Words", 83, 2, false, "", "", 16⟩], 3, 40, [(.i .i64 0), (.b false), .sn]⟩
def ti85 : TI := ⟨.struct #[⟨ "No", 3, 0, false, "", "", 0⟩, ⟨ "Head", 4, 1, false, "", "", 8⟩, ⟨ "Words", 83, 2, false, "", "", 16⟩], 3, 40, [(.i .i64 0), (.b false), .sn]⟩
def ti86 : TI := ⟨.func #[33, 33] #[4] false, 1, 8, [.fn]⟩
def ti87 : TI := ⟨.func #[33] #[25] false, 1, 8, [.fn]⟩
def ti88 : TI := ⟨.func #[63] #[25] false, 1, 8, [.fn]⟩
def ti90 : TI := ⟨.func #[9, 9] #[9, 9, 4] false, 1, 8, [.fn]⟩
def ti91 : TI := ⟨.func #[9] #[25] false, 1, 8, [.fn]⟩
def ti92 : TI := ⟨.func #[9, 93] #[83] false, 1, 8, [.fn]⟩
def ti93 : TI := ⟨.func #[21] #[4] false, 1, 8, [.fn]⟩
def ti94 : TI := ⟨.slice 3, 1, 24, [.sn]⟩
def ti95 : TI := ⟨.slice 3, 1, 24, [.sn]⟩
def ti96 : TI := ⟨.struct #[⟨ "Neg", 4, 0, false, "", "", 0⟩, ⟨ "N", 95, 1, false, "", "", 8⟩, ⟨ "D", 95, 2, false, "", "", 32⟩], 3, 56, [(.b false), .sn, .sn]⟩
def ti97 : TI := ⟨.struct #[⟨ "Neg", 4, 0, false, "", "", 0⟩, ⟨ "N", 95, 1, false, "", "", 8⟩, ⟨ "D", 95, 2, false, "", "", 32⟩], 3, 56, [(.b false), .sn, .sn]⟩
def ti98 : TI := ⟨.func #[2] #[97] false, 1, 8, [.fn]⟩
def ti99 : TI := ⟨.func #[] #[9] false, 1, 8, [.fn]⟩
def ti100 : TI := ⟨.pointer 104, 1, 8, [.pn]⟩
def ti101 : TI := ⟨.map 9 3, 1, 8, [.mn]⟩
def ti102 : TI := ⟨.map 9 4, 1, 8, [.mn]⟩
def ti103 : TI := ⟨.struct #[⟨ "c", 33, 0, false, "", "victualler/core", 0⟩, ⟨ "at", 3, 4, false, "", "victualler/core", 80⟩, ⟨ "rows", 101, 5, false, "", "victualler/core", 88⟩, ⟨ "cols", 101, 6, false, "", "victualler/core", 96⟩, ⟨ "seen", 102, 7, false, "", "victualler/core", 104⟩, ⟨ "integer", 4, 8, false, "", "victualler/core", 112⟩, ⟨ "l", 83, 9, false, "", "victualler/core", 120⟩, ⟨ "e", 25, 10, false, "", "victualler/core", 144⟩], 11, 152, [(.s []), (.s []), .sn, .sn, (.i .i64 0), .mn, .mn, .mn, (.b false), .sn, (.i .i64 0)]⟩
def ti104 : TI := ⟨.struct #[⟨ "c", 33, 0, false, "", "victualler/core", 0⟩, ⟨ "at", 3, 4, false, "", "victualler/core", 80⟩, ⟨ "rows", 101, 5, false, "", "victualler/core", 88⟩, ⟨ "cols", 101, 6, false, "", "victualler/core", 96⟩, ⟨ "seen", 102, 7, false, "", "victualler/core", 104⟩, ⟨ "integer", 4, 8, false, "", "victualler/core", 112⟩, ⟨ "l", 83, 9, false, "", "victualler/core", 120⟩, ⟨ "e", 25, 10, false, "", "victualler/core", 144⟩], 11, 152, [(.s []), (.s []), .sn, .sn, (.i .i64 0), .mn, .mn, .mn, (.b false), .sn, (.i .i64 0)]⟩
def ti105 : TI := ⟨.func #[85] #[] false, 1, 8, [.fn]⟩
def ti107 : TI := ⟨.func #[33, 45] #[3, 3] false, 1, 8, [.fn]⟩
def ti108 : TI := ⟨.func #[33, 3, 3] #[25] false, 1, 8, [.fn]⟩
def ti109 : TI := ⟨.func #[31] #[31] false, 1, 8, [.fn]⟩
def ti110 : TI := ⟨.func #[38] #[30] false, 1, 8, [.fn]⟩
def ti111 : TI := ⟨.func #[38, 36] #[38] false, 1, 8, [.fn]⟩
def ti113 : TI := ⟨.func #[36, 3] #[36, 36] false, 1, 8, [.fn]⟩
def ti114 : TI := ⟨.func #[33, 9] #[3] false, 1, 8, [.fn]⟩
def ti115 : TI := ⟨.pointer 117, 1, 8, [.pn]⟩
def ti116 : TI := ⟨.struct #[⟨ "name", 9, 0, false, "", "victualler/period", 0⟩, ⟨ "ps", 45, 1, false, "", "victualler/period", 16⟩, ⟨ "at", 3, 2, false, "", "victualler/period", 40⟩], 3, 48, [(.s []), .sn, (.i .i64 0)]⟩
def ti117 : TI := ⟨.struct #[⟨ "name", 9, 0, false, "", "victualler/period", 0⟩, ⟨ "ps", 45, 1, false, "", "victualler/period", 16⟩, ⟨ "at", 3, 2, false, "", "victualler/period", 40⟩], 3, 48, [(.s []), .sn, (.i .i64 0)]⟩
def ti118 : TI := ⟨.func #[83] #[25] false, 1, 8, [.fn]⟩
def ti119 : TI := ⟨.pointer 122, 1, 8, [.pn]⟩
def ti120 : TI := ⟨.pointer 134, 1, 8, [.pn]⟩
def ti121 : TI := ⟨.struct #[⟨ "name", 9, 0, false, "", "victualler/stoch", 0⟩, ⟨ "s", 63, 1, false, "", "victualler/stoch", 16⟩, ⟨ "at", 3, 3, false, "", "victualler/stoch", 48⟩, ⟨ "last", 120, 4, false, "", "victualler/stoch", 56⟩, ⟨ "names", 102, 5, false, "", "victualler/stoch", 64⟩, ⟨ "l", 83, 6, false, "", "victualler/stoch", 72⟩, ⟨ "e", 25, 7, false, "", "victualler/stoch", 96⟩], 8, 104, [(.s []), (.i .i64 0), .sn, (.i .i64 0), .pn, .mn, .sn, (.i .i64 0)]⟩
def ti122 : TI := ⟨.struct #[⟨ "name", 9, 0, false, "", "victualler/stoch", 0⟩, ⟨ "s", 63, 1, false, "", "victualler/stoch", 16⟩, ⟨ "at", 3, 3, false, "", "victualler/stoch", 48⟩, ⟨ "last", 120, 4, false, "", "victualler/stoch", 56⟩, ⟨ "names", 102, 5, false, "", "victualler/stoch", 64⟩, ⟨ "l", 83, 6, false, "", "victualler/stoch", 72⟩, ⟨ "e", 25, 7, false, "", "victualler/stoch", 96⟩], 8, 104, [(.s []), (.i .i64 0), .sn, (.i .i64 0), .pn, .mn, .sn, (.i .i64 0)]⟩
def ti123 : TI := ⟨.map 82 184, 1, 8, [.mn]⟩
def ti125 : TI := ⟨.func #[33, 45, 63] #[123, 25] false, 1, 8, [.fn]⟩
def ti126 : TI := ⟨.func #[50] #[70] false, 1, 8, [.fn]⟩
def ti127 : TI := ⟨.slice 134, 1, 24, [.sn]⟩
def ti128 : TI := ⟨.struct #[⟨ "Name", 9, 0, false, "", "", 0⟩, ⟨ "Cases", 127, 1, false, "", "", 16⟩], 2, 40, [(.s []), .sn]⟩
def ti129 : TI := ⟨.struct #[⟨ "Name", 9, 0, false, "", "", 0⟩, ⟨ "Cases", 127, 1, false, "", "", 16⟩], 2, 40, [(.s []), .sn]⟩
def ti130 : TI := ⟨.func #[131, 134, 123] #[] false, 1, 8, [.fn]⟩
def ti131 : TI := ⟨.pointer 70, 1, 8, [.pn]⟩
def ti132 : TI := ⟨.slice 182, 1, 24, [.sn]⟩
def ti133 : TI := ⟨.struct #[⟨ "P", 9, 0, false, "", "", 0⟩, ⟨ "Es", 132, 1, false, "", "", 16⟩], 2, 40, [(.s []), .sn]⟩
def ti134 : TI := ⟨.struct #[⟨ "P", 9, 0, false, "", "", 0⟩, ⟨ "Es", 132, 1, false, "", "", 16⟩], 2, 40, [(.s []), .sn]⟩
def ti135 : TI := ⟨.func #[38, 38] #[4] false, 1, 8, [.fn]⟩
def ti136 : TI := ⟨.func #[36, 36] #[4] false, 1, 8, [.fn]⟩
def ti137 : TI := ⟨.pointer 142, 1, 8, [.pn]⟩
def ti138 : TI := ⟨.pointer 140, 1, 8, [.pn]⟩
def ti139 : TI := ⟨.struct #[⟨ "addr", 138, 0, false, "", "strings", 0⟩, ⟨ "buf", 23, 1, false, "", "strings", 8⟩], 2, 32, [.pn, .sn]⟩
def ti140 : TI := ⟨.struct #[⟨ "addr", 138, 0, false, "", "strings", 0⟩, ⟨ "buf", 23, 1, false, "", "strings", 8⟩], 2, 32, [.pn, .sn]⟩
def ti141 : TI := ⟨.struct #[⟨ "b", 140, 0, false, "", "victualler/write", 0⟩, ⟨ "bad", 4, 2, false, "", "victualler/write", 32⟩], 3, 40, [.pn, .sn, (.b false)]⟩
def ti142 : TI := ⟨.struct #[⟨ "b", 140, 0, false, "", "victualler/write", 0⟩, ⟨ "bad", 4, 2, false, "", "victualler/write", 32⟩], 3, 40, [.pn, .sn, (.b false)]⟩
def ti143 : TI := ⟨.func #[83] #[] true, 1, 8, [.fn]⟩
def ti144 : TI := ⟨.func #[33] #[] false, 1, 8, [.fn]⟩
def ti145 : TI := ⟨.func #[] #[9, 4] false, 1, 8, [.fn]⟩
def ti146 : TI := ⟨.func #[30, 147] #[3] false, 1, 8, [.fn]⟩
def ti147 : TI := ⟨.func #[38] #[4] false, 1, 8, [.fn]⟩
def ti148 : TI := ⟨.func #[31, 149] #[3] false, 1, 8, [.fn]⟩
def ti149 : TI := ⟨.func #[40] #[4] false, 1, 8, [.fn]⟩
def ti150 : TI := ⟨.func #[30, 30, 135] #[4] false, 1, 8, [.fn]⟩
def ti151 : TI := ⟨.func #[31, 31] #[4] false, 1, 8, [.fn]⟩
def ti152 : TI := ⟨.func #[36, 3] #[4] false, 1, 8, [.fn]⟩
def ti153 : TI := ⟨.func #[33] #[4] false, 1, 8, [.fn]⟩
def ti154 : TI := ⟨.func #[30, 147] #[4] false, 1, 8, [.fn]⟩
def ti155 : TI := ⟨.func #[31, 149] #[4] false, 1, 8, [.fn]⟩
def ti156 : TI := ⟨.func #[127, 157] #[4] false, 1, 8, [.fn]⟩
def ti157 : TI := ⟨.func #[134] #[4] false, 1, 8, [.fn]⟩
def ti158 : TI := ⟨.func #[129] #[4] false, 1, 8, [.fn]⟩
def ti159 : TI := ⟨.func #[63] #[4] false, 1, 8, [.fn]⟩
def ti160 : TI := ⟨.func #[61, 158] #[4] false, 1, 8, [.fn]⟩
def ti161 : TI := ⟨.func #[9, 9] #[9] false, 1, 8, [.fn]⟩
def ti162 : TI := ⟨.func #[23, 163] #[4] false, 1, 8, [.fn]⟩
def ti163 : TI := ⟨.func #[5] #[4] false, 1, 8, [.fn]⟩
def ti164 : TI := ⟨.slice 166, 1, 24, [.sn]⟩
def ti165 : TI := ⟨.struct #[⟨ "start", 3, 0, false, "", "strings", 0⟩, ⟨ "end", 3, 1, false, "", "strings", 8⟩], 2, 16, [(.i .i64 0), (.i .i64 0)]⟩
def ti166 : TI := ⟨.struct #[⟨ "start", 3, 0, false, "", "strings", 0⟩, ⟨ "end", 3, 1, false, "", "strings", 8⟩], 2, 16, [(.i .i64 0), (.i .i64 0)]⟩
def ti167 : TI := ⟨.func #[168] #[95] false, 1, 8, [.fn]⟩
def ti168 : TI := ⟨.int .u64, 1, 8, [(.i .u64 0)]⟩
def ti169 : TI := ⟨.func #[] #[97] false, 1, 8, [.fn]⟩
def ti170 : TI := ⟨.func #[95, 95] #[3] false, 1, 8, [.fn]⟩
def ti171 : TI := ⟨.func #[4, 25] #[] false, 1, 8, [.fn]⟩
def ti172 : TI := ⟨.func #[36, 173] #[4] false, 1, 8, [.fn]⟩
def ti173 : TI := ⟨.func #[42] #[4] false, 1, 8, [.fn]⟩
def ti174 : TI := ⟨.pointer 238, 1, 8, [.pn]⟩
def ti175 : TI := ⟨.func #[9] #[174] false, 1, 8, [.fn]⟩
def ti176 : TI := ⟨.func #[] #[3] false, 1, 8, [.fn]⟩
def ti177 : TI := ⟨.func #[] #[174] false, 1, 8, [.fn]⟩
def ti178 : TI := ⟨.func #[174] #[174] false, 1, 8, [.fn]⟩
def ti179 : TI := ⟨.func #[36] #[36] false, 1, 8, [.fn]⟩
def ti180 : TI := ⟨.map 82 3, 1, 8, [.mn]⟩
def ti181 : TI := ⟨.struct #[⟨ "At", 82, 0, false, "", "", 0⟩, ⟨ "V", 9, 2, false, "", "", 32⟩], 3, 48, [(.s []), (.s []), (.s [])]⟩
def ti182 : TI := ⟨.struct #[⟨ "At", 82, 0, false, "", "", 0⟩, ⟨ "V", 9, 2, false, "", "", 32⟩], 3, 48, [(.s []), (.s []), (.s [])]⟩
def ti183 : TI := ⟨.struct #[⟨ "kind", 3, 0, false, "", "victualler/tree", 0⟩, ⟨ "row", 3, 1, false, "", "victualler/tree", 8⟩, ⟨ "col", 3, 2, false, "", "victualler/tree", 16⟩], 3, 24, [(.i .i64 0), (.i .i64 0), (.i .i64 0)]⟩
def ti184 : TI := ⟨.struct #[⟨ "kind", 3, 0, false, "", "victualler/tree", 0⟩, ⟨ "row", 3, 1, false, "", "victualler/tree", 8⟩, ⟨ "col", 3, 2, false, "", "victualler/tree", 16⟩], 3, 24, [(.i .i64 0), (.i .i64 0), (.i .i64 0)]⟩
def ti185 : TI := ⟨.func #[30] #[30] false, 1, 8, [.fn]⟩
def ti187 : TI := ⟨.func #[9] #[174, 4] false, 1, 8, [.fn]⟩
def ti188 : TI := ⟨.func #[36, 3, 9] #[36] false, 1, 8, [.fn]⟩
def ti189 : TI := ⟨.interface #[("Error", 99)], 1, 16, [.inn]⟩
def ti190 : TI := ⟨.interface #[("Error", 99)], 1, 16, [.inn]⟩
def ti192 : TI := ⟨.func #[9] #[3, 190] false, 1, 8, [.fn]⟩
def ti193 : TI := ⟨.func #[83, 9] #[9] false, 1, 8, [.fn]⟩
def ti194 : TI := ⟨.func #[9, 83] #[] false, 1, 8, [.fn]⟩
def ti195 : TI := ⟨.func #[33, 3] #[83] false, 1, 8, [.fn]⟩
def ti196 : TI := ⟨.func #[9] #[9] false, 1, 8, [.fn]⟩
def ti198 : TI := ⟨.func #[168, 168] #[168, 168] false, 1, 8, [.fn]⟩
def ti200 : TI := ⟨.func #[168, 168, 168] #[168, 168, 4] false, 1, 8, [.fn]⟩
def ti201 : TI := ⟨.pointer 289, 1, 8, [.pn]⟩
def ti203 : TI := ⟨.func #[9] #[201, 4] false, 1, 8, [.fn]⟩
def ti204 : TI := ⟨.pointer 269, 1, 8, [.pn]⟩
def ti206 : TI := ⟨.func #[36] #[204, 4] true, 1, 8, [.fn]⟩
def ti207 : TI := ⟨.pointer 277, 1, 8, [.pn]⟩
def ti209 : TI := ⟨.func #[210] #[207, 4] false, 1, 8, [.fn]⟩
def ti210 : TI := ⟨.slice 83, 1, 24, [.sn]⟩
def ti211 : TI := ⟨.slice 174, 1, 24, [.sn]⟩
def ti213 : TI := ⟨.func #[211] #[211, 4] false, 1, 8, [.fn]⟩
def ti214 : TI := ⟨.func #[2] #[174] false, 1, 8, [.fn]⟩
def ti215 : TI := ⟨.func #[3] #[174] false, 1, 8, [.fn]⟩
def ti216 : TI := ⟨.func #[168] #[3] false, 1, 8, [.fn]⟩
def ti217 : TI := ⟨.func #[127, 157] #[3] false, 1, 8, [.fn]⟩
def ti218 : TI := ⟨.map 82 4, 1, 8, [.mn]⟩
def ti219 : TI := ⟨.func #[61, 158] #[3] false, 1, 8, [.fn]⟩
def ti220 : TI := ⟨.func #[174] #[3] false, 1, 8, [.fn]⟩
def ti221 : TI := ⟨.func #[9, 9] #[3] false, 1, 8, [.fn]⟩
def ti222 : TI := ⟨.func #[23, 163] #[3] false, 1, 8, [.fn]⟩
def ti223 : TI := ⟨.func #[95, 95] #[95] false, 1, 8, [.fn]⟩
def ti225 : TI := ⟨.func #[95, 95] #[95, 95] false, 1, 8, [.fn]⟩
def ti226 : TI := ⟨.func #[4, 95, 95] #[97] false, 1, 8, [.fn]⟩
def ti227 : TI := ⟨.func #[83, 9] #[3] false, 1, 8, [.fn]⟩
def ti228 : TI := ⟨.func #[] #[83] false, 1, 8, [.fn]⟩
def ti229 : TI := ⟨.func #[94] #[] true, 1, 8, [.fn]⟩
def ti230 : TI := ⟨.func #[231] #[] false, 1, 8, [.fn]⟩
def ti231 : TI := ⟨.func #[3, 174] #[] false, 1, 8, [.fn]⟩
def ti232 : TI := ⟨.pointer 40, 1, 8, [.pn]⟩
def ti233 : TI := ⟨.func #[36, 173] #[3] false, 1, 8, [.fn]⟩
def ti235 : TI := ⟨.func #[] #[4, 201, 201] false, 1, 8, [.fn]⟩
def ti236 : TI := ⟨.func #[201] #[4] false, 1, 8, [.fn]⟩
def ti237 : TI := ⟨.struct #[⟨ "neg", 4, 0, false, "", "victualler/frac", 0⟩, ⟨ "n", 201, 1, false, "", "victualler/frac", 8⟩, ⟨ "d", 201, 2, false, "", "victualler/frac", 16⟩], 3, 24, [(.b false), .pn, .pn]⟩
def ti238 : TI := ⟨.struct #[⟨ "neg", 4, 0, false, "", "victualler/frac", 0⟩, ⟨ "n", 201, 1, false, "", "victualler/frac", 8⟩, ⟨ "d", 201, 2, false, "", "victualler/frac", 16⟩], 3, 24, [(.b false), .pn, .pn]⟩
def ti239 : TI := ⟨.func #[4, 201, 201] #[174] false, 1, 8, [.fn]⟩
def ti240 : TI := ⟨.func #[201] #[3] false, 1, 8, [.fn]⟩
def ti242 : TI := ⟨.func #[4, 201, 4, 201] #[4, 201] false, 1, 8, [.fn]⟩
def ti243 : TI := ⟨.func #[201] #[201] false, 1, 8, [.fn]⟩
def ti244 : TI := ⟨.func #[] #[82] false, 1, 8, [.fn]⟩
def ti245 : TI := ⟨.func #[3, 9] #[] false, 1, 8, [.fn]⟩
def ti246 : TI := ⟨.func #[132, 247] #[4] false, 1, 8, [.fn]⟩
def ti247 : TI := ⟨.func #[182] #[4] false, 1, 8, [.fn]⟩
def ti248 : TI := ⟨.func #[9, 9] #[9, 4] false, 1, 8, [.fn]⟩
def ti249 : TI := ⟨.func #[36, 3, 250] #[3, 4] false, 1, 8, [.fn]⟩
def ti250 : TI := ⟨.func #[42, 3] #[3] false, 1, 8, [.fn]⟩
def ti251 : TI := ⟨.func #[36, 3, 3] #[36] false, 1, 8, [.fn]⟩
def ti252 : TI := ⟨.func #[36, 3, 36] #[36] true, 1, 8, [.fn]⟩
def ti253 : TI := ⟨.func #[3] #[] false, 1, 8, [.fn]⟩
def ti254 : TI := ⟨.pointer 5, 1, 8, [.pn]⟩
def ti255 : TI := ⟨.int .u64, 1, 8, [(.i .u64 0)]⟩
def ti256 : TI := ⟨.func #[168, 3] #[168] false, 1, 8, [.fn]⟩
def ti257 : TI := ⟨.func #[168, 168, 168] #[168, 168] false, 1, 8, [.fn]⟩
def ti258 : TI := ⟨.func #[283] #[201] false, 1, 8, [.fn]⟩
def ti260 : TI := ⟨.func #[9, 3, 3] #[168, 190] false, 1, 8, [.fn]⟩
def ti261 : TI := ⟨.func #[168] #[201] false, 1, 8, [.fn]⟩
def ti262 : TI := ⟨.func #[9, 9] #[4] false, 1, 8, [.fn]⟩
def ti263 : TI := ⟨.func #[9] #[3, 4] false, 1, 8, [.fn]⟩
def ti264 : TI := ⟨.func #[4, 201, 201] #[174, 4] false, 1, 8, [.fn]⟩
def ti265 : TI := ⟨.func #[3] #[201] false, 1, 8, [.fn]⟩
def ti266 : TI := ⟨.map 3 4, 1, 8, [.mn]⟩
def ti267 : TI := ⟨.slice 271, 1, 24, [.sn]⟩
def ti268 : TI := ⟨.struct #[⟨ "l", 267, 0, false, "", "victualler/vec", 0⟩], 1, 24, [.sn]⟩
def ti269 : TI := ⟨.struct #[⟨ "l", 267, 0, false, "", "victualler/vec", 0⟩], 1, 24, [.sn]⟩
def ti270 : TI := ⟨.struct #[⟨ "at", 3, 0, false, "", "victualler/vec", 0⟩, ⟨ "v", 174, 1, false, "", "victualler/vec", 8⟩], 2, 16, [(.i .i64 0), .pn]⟩
def ti271 : TI := ⟨.struct #[⟨ "at", 3, 0, false, "", "victualler/vec", 0⟩, ⟨ "v", 174, 1, false, "", "victualler/vec", 8⟩], 2, 16, [(.i .i64 0), .pn]⟩
def ti272 : TI := ⟨.func #[267, 274] #[] false, 1, 8, [.fn]⟩
def ti273 : TI := ⟨.func #[3, 3] #[3] false, 1, 8, [.fn]⟩
def ti274 : TI := ⟨.func #[271, 271] #[3] false, 1, 8, [.fn]⟩
def ti275 : TI := ⟨.slice 211, 1, 24, [.sn]⟩
def ti276 : TI := ⟨.struct #[⟨ "l", 275, 0, false, "", "victualler/mat", 0⟩, ⟨ "cols", 3, 1, false, "", "victualler/mat", 24⟩], 2, 32, [.sn, (.i .i64 0)]⟩
def ti277 : TI := ⟨.struct #[⟨ "l", 275, 0, false, "", "victualler/mat", 0⟩, ⟨ "cols", 3, 1, false, "", "victualler/mat", 24⟩], 2, 32, [.sn, (.i .i64 0)]⟩
def ti278 : TI := ⟨.func #[] #[3, 3] false, 1, 8, [.fn]⟩
def ti279 : TI := ⟨.func #[280] #[275] false, 1, 8, [.fn]⟩
def ti280 : TI := ⟨.func #[3] #[211] false, 1, 8, [.fn]⟩
def ti281 : TI := ⟨.func #[275, 3] #[3] false, 1, 8, [.fn]⟩
def ti282 : TI := ⟨.func #[2] #[168] false, 1, 8, [.fn]⟩
def ti283 : TI := ⟨.slice 285, 1, 24, [.sn]⟩
def ti284 : TI := ⟨.func #[] #[283] false, 1, 8, [.fn]⟩
def ti285 : TI := ⟨.int .u32, 1, 4, [(.i .u32 0)]⟩
def ti287 : TI := ⟨.func #[283, 168] #[283, 168] false, 1, 8, [.fn]⟩
def ti288 : TI := ⟨.struct #[⟨ "d", 283, 0, false, "", "victualler/nat", 0⟩], 1, 24, [.sn]⟩
def ti289 : TI := ⟨.struct #[⟨ "d", 283, 0, false, "", "victualler/nat", 0⟩], 1, 24, [.sn]⟩
def ti290 : TI := ⟨.func #[168, 3] #[9] false, 1, 8, [.fn]⟩
def ti292 : TI := ⟨.func #[201] #[201, 201, 4] false, 1, 8, [.fn]⟩
def ti293 : TI := ⟨.func #[] #[267] false, 1, 8, [.fn]⟩
def ti294 : TI := ⟨.func #[82] #[4] false, 1, 8, [.fn]⟩
def ti295 : TI := ⟨.func #[9, 5] #[3] false, 1, 8, [.fn]⟩
def ti296 : TI := ⟨.func #[3] #[3] false, 1, 8, [.fn]⟩
def ti297 : TI := ⟨.func #[95] #[95] false, 1, 8, [.fn]⟩
def ti298 : TI := ⟨.func #[94, 3] #[4] false, 1, 8, [.fn]⟩
def ti299 : TI := ⟨.func #[283, 3] #[168] false, 1, 8, [.fn]⟩
def ti300 : TI := ⟨.func #[201] #[201, 4] false, 1, 8, [.fn]⟩
def ti301 : TI := ⟨.pointer 129, 1, 8, [.pn]⟩
def ti302 : TI := ⟨.func #[132, 247] #[3] false, 1, 8, [.fn]⟩
def ti303 : TI := ⟨.func #[36, 3] #[] false, 1, 8, [.fn]⟩
def ti304 : TI := ⟨.unsafePointer, 1, 8, [.pn]⟩
def ti305 : TI := ⟨.func #[304] #[304] false, 1, 8, [.fn]⟩
def ti306 : TI := ⟨.func #[9, 5] #[9] false, 1, 8, [.fn]⟩
def ti307 : TI := ⟨.array 256 4, 256, 256, [(.b false), (.b false), (.b false), (.b false), (.b false), (.b false), (.b false), (.b false), (.b false), (.b false), (.b false), (.b false), (.b false), (.b false), (.b false), (.b false), (.b false), (.b false), (.b false), (.b false), (.b false), (.b false), (.b false), (.b false), (.b false), (.b false), (.b false), (.b false), (.b false), (.b false), (.b false), (.b false), (.b false), (.b false), (.b false), (.b false), (.b false), (.b false), (.b false), (.b false), (.b false), (.b false), (.b false), (.b false), (.b false), (.b false), (.b false), (.b false), (.b false), (.b false), (.b false), (.b false), (.b false), (.b false), (.b false), (.b false), (.b false), (.b false), (.b false), (.b false), (.b false), (.b false), (.b false), (.b false), (.b false), (.b false), (.b false), (.b false), (.b false), (.b false), (.b false), (.b false), (.b false), (.b false), (.b false), (.b false), (.b false), (.b false), (.b false), (.b false), (.b false), (.b false), (.b false), (.b false), (.b false), (.b false), (.b false), (.b false), (.b false), (.b false), (.b false), (.b false), (.b false), (.b false), (.b false), (.b false), (.b false), (.b false), (.b false), (.b false), (.b false), (.b false), (.b false), (.b false), (.b false), (.b false), (.b false), (.b false), (.b false), (.b false), (.b false), (.b false), (.b false), (.b false), (.b false), (.b false), (.b false), (.b false), (.b false), (.b false), (.b false), (.b false), (.b false), (.b false), (.b false), (.b false), (.b false), (.b false), (.b false), (.b false), (.b false), (.b false), (.b false), (.b false), (.b false), (.b false), (.b false), (.b false), (.b false), (.b false), (.b false), (.b false), (.b false), (.b false), (.b false), (.b false), (.b false), (.b false), (.b false), (.b false), (.b false), (.b false), (.b false), (.b false), (.b false), (.b false), (.b false), (.b false), (.b false), (.b false), (.b false), (.b false), (.b false), (.b false), (.b false), (.b false), (.b false), (.b false), (.b false), (.b false), (.b false), (.b false), (.b false), (.b false), (.b false), (.b false), (.b false), (.b false), (.b false), (.b false), (.b false), (.b false), (.b false), (.b false), (.b false), (.b false), (.b false), (.b false), (.b false), (.b false), (.b false), (.b false), (.b false), (.b false), (.b false), (.b false), (.b false), (.b false), (.b false), (.b false), (.b false), (.b false), (.b false), (.b false), (.b false), (.b false), (.b false), (.b false), (.b false), (.b false), (.b false), (.b false), (.b false), (.b false), (.b false), (.b false), (.b false), (.b false), (.b false), (.b false), (.b false), (.b false), (.b false), (.b false), (.b false), (.b false), (.b false), (.b false), (.b false), (.b false), (.b false), (.b false), (.b false), (.b false), (.b false), (.b false), (.b false), (.b false), (.b false), (.b false), (.b false), (.b false), (.b false), (.b false), (.b false), (.b false), (.b false), (.b false), (.b false), (.b false), (.b false), (.b false), (.b false), (.b false), (.b false), (.b false)]⟩
def ti308 : TI := ⟨.array 256 4, 256, 256, [(.b false), (.b false), (.b false), (.b false), (.b false), (.b false), (.b false), (.b false), (.b false), (.b false), (.b false), (.b false), (.b false), (.b false), (.b false), (.b false), (.b false), (.b false), (.b false), (.b false), (.b false), (.b false), (.b false), (.b false), (.b false), (.b false), (.b false), (.b false), (.b false), (.b false), (.b false), (.b false), (.b false), (.b false), (.b false), (.b false), (.b false), (.b false), (.b false), (.b false), (.b false), (.b false), (.b false), (.b false), (.b false), (.b false), (.b false), (.b false), (.b false), (.b false), (.b false), (.b false), (.b false), (.b false), (.b false), (.b false), (.b false), (.b false), (.b false), (.b false), (.b false), (.b false), (.b false), (.b false), (.b false), (.b false), (.b false), (.b false), (.b false), (.b false), (.b false), (.b false), (.b false), (.b false), (.b false), (.b false), (.b false), (.b false), (.b false), (.b false), (.b false), (.b false), (.b false), (.b false), (.b false), (.b false), (.b false), (.b false), (.b false), (.b false), (.b false), (.b false), (.b false), (.b false), (.b false), (.b false), (.b false), (.b false), (.b false), (.b false), (.b false), (.b false), (.b false), (.b false), (.b false), (.b false), (.b false), (.b false), (.b false), (.b false), (.b false), (.b false), (.b false), (.b false), (.b false), (.b false), (.b false), (.b false), (.b false), (.b false), (.b false), (.b false), (.b false), (.b false), (.b false), (.b false), (.b false), (.b false), (.b false), (.b false), (.b false), (.b false), (.b false), (.b false), (.b false), (.b false), (.b false), (.b false), (.b false), (.b false), (.b false), (.b false), (.b false), (.b false), (.b false), (.b false), (.b false), (.b false), (.b false), (.b false), (.b false), (.b false), (.b false), (.b false), (.b false), (.b false), (.b false), (.b false), (.b false), (.b false), (.b false), (.b false), (.b false), (.b false), (.b false), (.b false), (.b false), (.b false), (.b false), (.b false), (.b false), (.b false), (.b false), (.b false), (.b false), (.b false), (.b false), (.b false), (.b false), (.b false), (.b false), (.b false), (.b false), (.b false), (.b false), (.b false), (.b false), (.b false), (.b false), (.b false), (.b false), (.b false), (.b false), (.b false), (.b false), (.b false), (.b false), (.b false), (.b false), (.b false), (.b false), (.b false), (.b false), (.b false), (.b false), (.b false), (.b false), (.b false), (.b false), (.b false), (.b false), (.b false), (.b false), (.b false), (.b false), (.b false), (.b false), (.b false), (.b false), (.b false), (.b false), (.b false), (.b false), (.b false), (.b false), (.b false), (.b false), (.b false), (.b false), (.b false), (.b false), (.b false), (.b false), (.b false), (.b false), (.b false), (.b false), (.b false), (.b false), (.b false), (.b false), (.b false), (.b false), (.b false), (.b false), (.b false), (.b false), (.b false), (.b false), (.b false), (.b false), (.b false), (.b false), (.b false), (.b false), (.b false)]⟩
def ti310 : TI := ⟨.func #[9] #[308, 4] false, 1, 8, [.fn]⟩
def ti311 : TI := ⟨.func #[9, 312] #[9] false, 1, 8, [.fn]⟩
def ti312 : TI := ⟨.pointer 308, 1, 8, [.pn]⟩
def ti313 : TI := ⟨.func #[9, 9, 3, 3, 190] #[190] false, 1, 8, [.fn]⟩
def ti314 : TI := ⟨.func #[9, 21] #[3] false, 1, 8, [.fn]⟩
def ti315 : TI := ⟨.func #[267, 3, 3, 3, 274] #[] false, 1, 8, [.fn]⟩
def ti316 : TI := ⟨.func #[255] #[3] false, 1, 8, [.fn]⟩
def ti317 : TI := ⟨.func #[211] #[211] false, 1, 8, [.fn]⟩
def ti318 : TI := ⟨.func #[275, 319] #[3] false, 1, 8, [.fn]⟩
def ti319 : TI := ⟨.func #[211] #[4] false, 1, 8, [.fn]⟩
def ti320 : TI := ⟨.func #[275, 3, 3] #[] false, 1, 8, [.fn]⟩
def ti322 : TI := ⟨.func #[255, 255] #[255, 255] false, 1, 8, [.fn]⟩
def ti323 : TI := ⟨.func #[283, 283] #[285] false, 1, 8, [.fn]⟩
def ti325 : TI := ⟨.func #[9] #[285, 285] false, 1, 8, [.fn]⟩
def ti326 : TI := ⟨.func #[94, 3] #[3] false, 1, 8, [.fn]⟩
def ti327 : TI := ⟨.func #[3] #[23] false, 1, 8, [.fn]⟩
def ti329 : TI := ⟨.func #[9] #[21, 3] false, 1, 8, [.fn]⟩
def ti330 : TI := ⟨.func #[9, 21] #[4] false, 1, 8, [.fn]⟩
def ti331 : TI := ⟨.int .i64, 1, 8, [(.i .i64 0)]⟩
def ti332 : TI := ⟨.func #[5] #[5] false, 1, 8, [.fn]⟩
def ti333 : TI := ⟨.pointer 356, 1, 8, [.pn]⟩
def ti334 : TI := ⟨.func #[9, 9] #[333] false, 1, 8, [.fn]⟩
def ti335 : TI := ⟨.func #[9, 9, 3] #[333] false, 1, 8, [.fn]⟩
def ti337 : TI := ⟨.func #[] #[168, 4] false, 1, 8, [.fn]⟩
def ti338 : TI := ⟨.func #[168, 168] #[168] false, 1, 8, [.fn]⟩
def ti339 : TI := ⟨.func #[201, 201] #[201] false, 1, 8, [.fn]⟩
def ti340 : TI := ⟨.func #[267, 3, 3, 274] #[] false, 1, 8, [.fn]⟩
def ti341 : TI := ⟨.int .i64, 1, 8, [(.i .i64 0)]⟩
def ti343 : TI := ⟨.func #[267, 3, 3, 274] #[3, 341] false, 1, 8, [.fn]⟩
def ti344 : TI := ⟨.func #[267, 3, 3, 274] #[4] false, 1, 8, [.fn]⟩
def ti345 : TI := ⟨.func #[267, 3, 3, 3, 274] #[3] false, 1, 8, [.fn]⟩
def ti346 : TI := ⟨.func #[267, 3, 3, 3, 274] #[3, 4] false, 1, 8, [.fn]⟩
def ti347 : TI := ⟨.func #[285] #[3] false, 1, 8, [.fn]⟩
def ti348 : TI := ⟨.func #[174] #[174, 4] false, 1, 8, [.fn]⟩
def ti349 : TI := ⟨.array 24 5, 24, 24, [(.i .u8 0), (.i .u8 0), (.i .u8 0), (.i .u8 0), (.i .u8 0), (.i .u8 0), (.i .u8 0), (.i .u8 0), (.i .u8 0), (.i .u8 0), (.i .u8 0), (.i .u8 0), (.i .u8 0), (.i .u8 0), (.i .u8 0), (.i .u8 0), (.i .u8 0), (.i .u8 0), (.i .u8 0), (.i .u8 0), (.i .u8 0), (.i .u8 0), (.i .u8 0), (.i .u8 0)]⟩
def ti350 : TI := ⟨.func #[23, 168] #[] false, 1, 8, [.fn]⟩
def ti352 : TI := ⟨.func #[23, 168, 3, 4, 4] #[23, 9] false, 1, 8, [.fn]⟩
def ti353 : TI := ⟨.func #[285, 285] #[285, 285] false, 1, 8, [.fn]⟩
def ti354 : TI := ⟨.func #[36] #[] false, 1, 8, [.fn]⟩
def ti355 : TI := ⟨.struct #[⟨ "Func", 9, 0, false, "", "", 0⟩, ⟨ "Num", 9, 1, false, "", "", 16⟩, ⟨ "Err", 190, 2, false, "", "", 32⟩], 3, 48, [(.s []), (.s []), .inn]⟩
def ti356 : TI := ⟨.struct #[⟨ "Func", 9, 0, false, "", "", 0⟩, ⟨ "Num", 9, 1, false, "", "", 16⟩, ⟨ "Err", 190, 2, false, "", "", 32⟩], 3, 48, [(.s []), (.s []), .inn]⟩
def ti357 : TI := ⟨.func #[9] #[190] false, 1, 8, [.fn]⟩
def ti359 : TI := ⟨.func #[9, 3, 3] #[2, 190] false, 1, 8, [.fn]⟩
def ti360 : TI := ⟨.int .u64, 1, 8, [(.i .u64 0)]⟩
def ti361 : TI := ⟨.func #[3] #[255] false, 1, 8, [.fn]⟩
def ti362 : TI := ⟨.func #[] #[168] false, 1, 8, [.fn]⟩
def ti363 : TI := ⟨.func #[267, 3, 364, 274] #[3] false, 1, 8, [.fn]⟩
def ti364 : TI := ⟨.pointer 3, 1, 8, [.pn]⟩
def ti365 : TI := ⟨.func #[267, 3, 3, 3, 364, 274] #[3] false, 1, 8, [.fn]⟩
def ti366 : TI := ⟨.func #[4] #[3] false, 1, 8, [.fn]⟩
def ti367 : TI := ⟨.array 20 168, 20, 160, [(.i .u64 0), (.i .u64 0), (.i .u64 0), (.i .u64 0), (.i .u64 0), (.i .u64 0), (.i .u64 0), (.i .u64 0), (.i .u64 0), (.i .u64 0), (.i .u64 0), (.i .u64 0), (.i .u64 0), (.i .u64 0), (.i .u64 0), (.i .u64 0), (.i .u64 0), (.i .u64 0), (.i .u64 0), (.i .u64 0)]⟩
def ti368 : TI := ⟨.array 65 5, 65, 65, [(.i .u8 0), (.i .u8 0), (.i .u8 0), (.i .u8 0), (.i .u8 0), (.i .u8 0), (.i .u8 0), (.i .u8 0), (.i .u8 0), (.i .u8 0), (.i .u8 0), (.i .u8 0), (.i .u8 0), (.i .u8 0), (.i .u8 0), (.i .u8 0), (.i .u8 0), (.i .u8 0), (.i .u8 0), (.i .u8 0), (.i .u8 0), (.i .u8 0), (.i .u8 0), (.i .u8 0), (.i .u8 0), (.i .u8 0), (.i .u8 0), (.i .u8 0), (.i .u8 0), (.i .u8 0), (.i .u8 0), (.i .u8 0), (.i .u8 0), (.i .u8 0), (.i .u8 0), (.i .u8 0), (.i .u8 0), (.i .u8 0), (.i .u8 0), (.i .u8 0), (.i .u8 0), (.i .u8 0), (.i .u8 0), (.i .u8 0), (.i .u8 0), (.i .u8 0), (.i .u8 0), (.i .u8 0), (.i .u8 0), (.i .u8 0), (.i .u8 0), (.i .u8 0), (.i .u8 0), (.i .u8 0), (.i .u8 0), (.i .u8 0), (.i .u8 0), (.i .u8 0), (.i .u8 0), (.i .u8 0), (.i .u8 0), (.i .u8 0), (.i .u8 0), (.i .u8 0), (.i .u8 0)]⟩
def ti369 : TI := ⟨.array 256 5, 256, 256, [(.i .u8 0), (.i .u8 0), (.i .u8 0), (.i .u8 0), (.i .u8 0), (.i .u8 0), (.i .u8 0), (.i .u8 0), (.i .u8 0), (.i .u8 0), (.i .u8 0), (.i .u8 0), (.i .u8 0), (.i .u8 0), (.i .u8 0), (.i .u8 0), (.i .u8 0), (.i .u8 0), (.i .u8 0), (.i .u8 0), (.i .u8 0), (.i .u8 0), (.i .u8 0), (.i .u8 0), (.i .u8 0), (.i .u8 0), (.i .u8 0), (.i .u8 0), (.i .u8 0), (.i .u8 0), (.i .u8 0), (.i .u8 0), (.i .u8 0), (.i .u8 0), (.i .u8 0), (.i .u8 0), (.i .u8 0), (.i .u8 0), (.i .u8 0), (.i .u8 0), (.i .u8 0), (.i .u8 0), (.i .u8 0), (.i .u8 0), (.i .u8 0), (.i .u8 0), (.i .u8 0), (.i .u8 0), (.i .u8 0), (.i .u8 0), (.i .u8 0), (.i .u8 0), (.i .u8 0), (.i .u8 0), (.i .u8 0), (.i .u8 0), (.i .u8 0), (.i .u8 0), (.i .u8 0), (.i .u8 0), (.i .u8 0), (.i .u8 0), (.i .u8 0), (.i .u8 0), (.i .u8 0), (.i .u8 0), (.i .u8 0), (.i .u8 0), (.i .u8 0), (.i .u8 0), (.i .u8 0), (.i .u8 0), (.i .u8 0), (.i .u8 0), (.i .u8 0), (.i .u8 0), (.i .u8 0), (.i .u8 0), (.i .u8 0), (.i .u8 0), (.i .u8 0), (.i .u8 0), (.i .u8 0), (.i .u8 0), (.i .u8 0), (.i .u8 0), (.i .u8 0), (.i .u8 0), (.i .u8 0), (.i .u8 0), (.i .u8 0), (.i .u8 0), (.i .u8 0), (.i .u8 0), (.i .u8 0), (.i .u8 0), (.i .u8 0), (.i .u8 0), (.i .u8 0), (.i .u8 0), (.i .u8 0), (.i .u8 0), (.i .u8 0), (.i .u8 0), (.i .u8 0), (.i .u8 0), (.i .u8 0), (.i .u8 0), (.i .u8 0), (.i .u8 0), (.i .u8 0), (.i .u8 0), (.i .u8 0), (.i .u8 0), (.i .u8 0), (.i .u8 0), (.i .u8 0), (.i .u8 0), (.i .u8 0), (.i .u8 0), (.i .u8 0), (.i .u8 0), (.i .u8 0), (.i .u8 0), (.i .u8 0), (.i .u8 0), (.i .u8 0), (.i .u8 0), (.i .u8 0), (.i .u8 0), (.i .u8 0), (.i .u8 0), (.i .u8 0), (.i .u8 0), (.i .u8 0), (.i .u8 0), (.i .u8 0), (.i .u8 0), (.i .u8 0), (.i .u8 0), (.i .u8 0), (.i .u8 0), (.i .u8 0), (.i .u8 0), (.i .u8 0), (.i .u8 0), (.i .u8 0), (.i .u8 0), (.i .u8 0), (.i .u8 0), (.i .u8 0), (.i .u8 0), (.i .u8 0), (.i .u8 0), (.i .u8 0), (.i .u8 0), (.i .u8 0), (.i .u8 0), (.i .u8 0), (.i .u8 0), (.i .u8 0), (.i .u8 0), (.i .u8 0), (.i .u8 0), (.i .u8 0), (.i .u8 0), (.i .u8 0), (.i .u8 0), (.i .u8 0), (.i .u8 0), (.i .u8 0), (.i .u8 0), (.i .u8 0), (.i .u8 0), (.i .u8 0), (.i .u8 0), (.i .u8 0), (.i .u8 0), (.i .u8 0), (.i .u8 0), (.i .u8 0), (.i .u8 0), (.i .u8 0), (.i .u8 0), (.i .u8 0), (.i .u8 0), (.i .u8 0), (.i .u8 0), (.i .u8 0), (.i .u8 0), (.i .u8 0), (.i .u8 0), (.i .u8 0), (.i .u8 0), (.i .u8 0), (.i .u8 0), (.i .u8 0), (.i .u8 0), (.i .u8 0), (.i .u8 0), (.i .u8 0), (.i .u8 0), (.i .u8 0), (.i .u8 0), (.i .u8 0), (.i .u8 0), (.i .u8 0), (.i .u8 0), (.i .u8 0), (.i .u8 0), (.i .u8 0), (.i .u8 0), (.i .u8 0), (.i .u8 0), (.i .u8 0), (.i .u8 0), (.i .u8 0), (.i .u8 0), (.i .u8 0), (.i .u8 0), (.i .u8 0), (.i .u8 0), (.i .u8 0), (.i .u8 0), (.i .u8 0), (.i .u8 0), (.i .u8 0), (.i .u8 0), (.i .u8 0), (.i .u8 0), (.i .u8 0), (.i .u8 0), (.i .u8 0), (.i .u8 0), (.i .u8 0), (.i .u8 0), (.i .u8 0), (.i .u8 0), (.i .u8 0), (.i .u8 0), (.i .u8 0), (.i .u8 0), (.i .u8 0), (.i .u8 0), (.i .u8 0), (.i .u8 0), (.i .u8 0), (.i .u8 0), (.i .u8 0), (.i .u8 0), (.i .u8 0), (.i .u8 0), (.i .u8 0), (.i .u8 0), (.i .u8 0), (.i .u8 0)]⟩
def ti370 : TI := ⟨.struct #[⟨ "lo", 5, 0, false, "", "unicode/utf8", 0⟩, ⟨ "hi", 5, 1, false, "", "unicode/utf8", 1⟩], 2, 2, [(.i .u8 0), (.i .u8 0)]⟩
def ti371 : TI := ⟨.struct #[⟨ "lo", 5, 0, false, "", "unicode/utf8", 0⟩, ⟨ "hi", 5, 1, false, "", "unicode/utf8", 1⟩], 2, 2, [(.i .u8 0), (.i .u8 0)]⟩
def ti372 : TI := ⟨.array 16 371, 32, 32, [(.i .u8 0), (.i .u8 0), (.i .u8 0), (.i .u8 0), (.i .u8 0), (.i .u8 0), (.i .u8 0), (.i .u8 0), (.i .u8 0), (.i .u8 0), (.i .u8 0), (.i .u8 0), (.i .u8 0), (.i .u8 0), (.i .u8 0), (.i .u8 0), (.i .u8 0), (.i .u8 0), (.i .u8 0), (.i .u8 0), (.i .u8 0), (.i .u8 0), (.i .u8 0), (.i .u8 0), (.i .u8 0), (.i .u8 0), (.i .u8 0), (.i .u8 0), (.i .u8 0), (.i .u8 0), (.i .u8 0), (.i .u8 0)]⟩
def ti373 : TI := ⟨.pointer 375, 1, 8, [.pn]⟩
def ti374 : TI := ⟨.struct #[⟨ "s", 9, 0, false, "", "errors", 0⟩], 1, 16, [(.s [])]⟩
def ti375 : TI := ⟨.struct #[⟨ "s", 9, 0, false, "", "errors", 0⟩], 1, 16, [(.s [])]⟩
def ti376 : TI := ⟨.pointer 360, 1, 8, [.pn]⟩
def ti377 : TI := ⟨.func #[267, 3, 3, 364, 274] #[3, 3] false, 1, 8, [.fn]⟩
def ti378 : TI := ⟨.func #[2, 3] #[9] false, 1, 8, [.fn]⟩
def ti379 : TI := ⟨.array 32 5, 32, 32, [(.i .u8 0), (.i .u8 0), (.i .u8 0), (.i .u8 0), (.i .u8 0), (.i .u8 0), (.i .u8 0), (.i .u8 0), (.i .u8 0), (.i .u8 0), (.i .u8 0), (.i .u8 0), (.i .u8 0), (.i .u8 0), (.i .u8 0), (.i .u8 0), (.i .u8 0), (.i .u8 0), (.i .u8 0), (.i .u8 0), (.i .u8 0), (.i .u8 0), (.i .u8 0), (.i .u8 0), (.i .u8 0), (.i .u8 0), (.i .u8 0), (.i .u8 0), (.i .u8 0), (.i .u8 0), (.i .u8 0), (.i .u8 0)]⟩
def ti380 : TI := ⟨.array 64 5, 64, 64, [(.i .u8 0), (.i .u8 0), (.i .u8 0), (.i .u8 0), (.i .u8 0), (.i .u8 0), (.i .u8 0), (.i .u8 0), (.i .u8 0), (.i .u8 0), (.i .u8 0), (.i .u8 0), (.i .u8 0), (.i .u8 0), (.i .u8 0), (.i .u8 0), (.i .u8 0), (.i .u8 0), (.i .u8 0), (.i .u8 0), (.i .u8 0), (.i .u8 0), (.i .u8 0), (.i .u8 0), (.i .u8 0), (.i .u8 0), (.i .u8 0), (.i .u8 0), (.i .u8 0), (.i .u8 0), (.i .u8 0), (.i .u8 0), (.i .u8 0), (.i .u8 0), (.i .u8 0), (.i .u8 0), (.i .u8 0), (.i .u8 0), (.i .u8 0), (.i .u8 0), (.i .u8 0), (.i .u8 0), (.i .u8 0), (.i .u8 0), (.i .u8 0), (.i .u8 0), (.i .u8 0), (.i .u8 0), (.i .u8 0), (.i .u8 0), (.i .u8 0), (.i .u8 0), (.i .u8 0), (.i .u8 0), (.i .u8 0), (.i .u8 0), (.i .u8 0), (.i .u8 0), (.i .u8 0), (.i .u8 0), (.i .u8 0), (.i .u8 0), (.i .u8 0), (.i .u8 0)]⟩
def ti381 : TI := ⟨.struct #[⟨ "_interface", 17, 0, false, "", "runtime", 0⟩, ⟨ "concrete", 17, 1, false, "", "runtime", 8⟩, ⟨ "asserted", 17, 2, false, "", "runtime", 16⟩, ⟨ "missingMethod", 9, 3, false, "", "runtime", 24⟩], 4, 40, [.pn, .pn, .pn, (.s [])]⟩
def ti382 : TI := ⟨.struct #[⟨ "_interface", 17, 0, false, "", "runtime", 0⟩, ⟨ "concrete", 17, 1, false, "", "runtime", 8⟩, ⟨ "asserted", 17, 2, false, "", "runtime", 16⟩, ⟨ "missingMethod", 9, 3, false, "", "runtime", 24⟩], 4, 40, [.pn, .pn, .pn, (.s [])]⟩
def ti383 : TI := ⟨.array 0 16, 0, 0, []⟩
def ti384 : TI := ⟨.struct #[⟨ "_", 383, 0, false, "", "runtime", 0⟩], 0, 0, []⟩
def ti385 : TI := ⟨.struct #[⟨ "_", 383, 0, false, "", "runtime", 0⟩], 0, 0, []⟩
def ti386 : TI := ⟨.int .u8, 1, 1, [(.i .u8 0)]⟩
def ti387 : TI := ⟨.int .u8, 1, 1, [(.i .u8 0)]⟩
def ti388 : TI := ⟨.func #[304, 304] #[4] false, 1, 8, [.fn]⟩
def ti389 : TI := ⟨.int .i32, 1, 4, [(.i .i32 0)]⟩
def ti390 : TI := ⟨.int .i32, 1, 4, [(.i .i32 0)]⟩
def ti391 : TI := ⟨.struct #[⟨ "Size_", 12, 0, false, "", "", 0⟩, ⟨ "PtrBytes", 12, 1, false, "", "", 8⟩, ⟨ "Hash", 285, 2, false, "", "", 16⟩, ⟨ "TFlag", 386, 3, false, "", "", 20⟩, ⟨ "Align_", 5, 4, false, "", "", 21⟩, ⟨ "FieldAlign_", 5, 5, false, "", "", 22⟩, ⟨ "Kind_", 387, 6, false, "", "", 23⟩, ⟨ "Equal", 388, 7, false, "", "", 24⟩, ⟨ "GCData", 254, 8, false, "", "", 32⟩, ⟨ "Str", 389, 9, false, "", "", 40⟩, ⟨ "PtrToThis", 390, 10, false, "", "", 44⟩], 11, 48, [(.i .u64 0), (.i .u64 0), (.i .u32 0), (.i .u8 0), (.i .u8 0), (.i .u8 0), (.i .u8 0), .fn, .pn, (.i .i32 0), (.i .i32 0)]⟩
def ti392 : TI := ⟨.struct #[⟨ "Size_", 12, 0, false, "", "", 0⟩, ⟨ "PtrBytes", 12, 1, false, "", "", 8⟩, ⟨ "Hash", 285, 2, false, "", "", 16⟩, ⟨ "TFlag", 386, 3, false, "", "", 20⟩, ⟨ "Align_", 5, 4, false, "", "", 21⟩, ⟨ "FieldAlign_", 5, 5, false, "", "", 22⟩, ⟨ "Kind_", 387, 6, false, "", "", 23⟩, ⟨ "Equal", 388, 7, false, "", "", 24⟩, ⟨ "GCData", 254, 8, false, "", "", 32⟩, ⟨ "Str", 389, 9, false, "", "", 40⟩, ⟨ "PtrToThis", 390, 10, false, "", "", 44⟩], 11, 48, [(.i .u64 0), (.i .u64 0), (.i .u32 0), (.i .u8 0), (.i .u8 0), (.i .u8 0), (.i .u8 0), .fn, .pn, (.i .i32 0), (.i .i32 0)]⟩
def TYT : Tr TI := (.nd (.nd (.nd (.nd (.nd (.nd (.nd (.nd (.nd .lf (some (ti255)) .lf) (some (ti127)) (.nd .lf (some (ti383)) .lf)) (some (ti63)) (.nd (.nd .lf (some (ti319)) .lf) none .lf)) (some (ti31)) (.nd (.nd (.nd .lf (some (ti287)) .lf) (some (ti159)) .lf) (some (ti95)) (.nd .lf (some (ti223)) .lf))) (some (ti15)) (.nd (.nd (.nd (.nd .lf (some (ti271)) .lf) (some (ti143)) .lf) none (.nd (.nd .lf (some (ti335)) .lf) (some (ti207)) .lf)) (some (ti47)) (.nd (.nd (.nd .lf (some (ti303)) .lf) (some (ti175)) .lf) (some (ti111)) (.nd (.nd .lf (some (ti367)) .lf) (some (ti239)) .lf)))) (some (ti7)) (.nd (.nd (.nd (.nd (.nd .lf (some (ti263)) .lf) (some (ti135)) (.nd .lf (some (ti391)) .lf)) (some (ti71)) (.nd (.nd .lf (some (ti327)) .lf) none .lf)) (some (ti39)) (.nd (.nd (.nd .lf (some (ti295)) .lf) (some (ti167)) .lf) (some (ti103)) (.nd (.nd .lf (some (ti359)) .lf) (some (ti231)) .lf))) (some (ti23)) (.nd (.nd (.nd (.nd .lf (some (ti279)) .lf) (some (ti151)) .lf) (some (ti87)) (.nd (.nd .lf (some (ti343)) .lf) (some (ti215)) .lf)) (some (ti55)) (.nd (.nd (.nd .lf (some (ti311)) .lf) (some (ti183)) .lf) (some (ti119)) (.nd (.nd .lf (some (ti375)) .lf) (some (ti247)) .lf))))) (some (ti3)) (.nd (.nd (.nd (.nd (.nd .lf (some (ti131)) (.nd .lf (some (ti387)) .lf)) none (.nd (.nd .lf (some (ti323)) .lf) (some (ti195)) .lf)) (some (ti35)) (.nd (.nd .lf (some (ti163)) .lf) (some (ti99)) (.nd (.nd .lf (some (ti355)) .lf) (some (ti227)) .lf))) (some (ti19)) (.nd (.nd (.nd (.nd .lf (some (ti275)) .lf) (some (ti147)) .lf) (some (ti83)) (.nd (.nd .lf (some (ti339)) .lf) (some (ti211)) .lf)) none (.nd (.nd (.nd .lf (some (ti307)) .lf) (some (ti179)) .lf) (some (ti115)) (.nd (.nd .lf (some (ti371)) .lf) (some (ti243)) .lf)))) (some (ti11)) (.nd (.nd (.nd (.nd (.nd .lf (some (ti267)) .lf) (some (ti139)) .lf) none (.nd (.nd .lf (some (ti331)) .lf) (some (ti203)) .lf)) (some (ti43)) (.nd (.nd (.nd .lf (some (ti299)) .lf) (some (ti171)) .lf) (some (ti107)) (.nd (.nd .lf (some (ti363)) .lf) (some (ti235)) .lf))) (some (ti27)) (.nd (.nd (.nd (.nd .lf (some (ti283)) .lf) (some (ti155)) .lf) (some (ti91)) (.nd (.nd .lf (some (ti347)) .lf) (some (ti219)) .lf)) (some (ti59)) (.nd (.nd (.nd .lf (some (ti315)) .lf) (some (ti187)) .lf) (some (ti123)) (.nd (.nd .lf (some (ti379)) .lf) (some (ti251)) .lf)))))) (some (ti1)) (.nd (.nd (.nd (.nd (.nd (.nd (.nd .lf (some (ti257)) .lf) (some (ti129)) (.nd .lf (some (ti385)) .lf)) (some (ti65)) (.nd .lf (some (ti193)) .lf)) (some (ti33)) (.nd (.nd (.nd .lf (some (ti289)) .lf) (some (ti161)) .lf) (some (ti97)) (.nd (.nd .lf (some (ti353)) .lf) (some (ti225)) .lf))) (some (ti17)) (.nd (.nd (.nd (.nd .lf (some (ti273)) .lf) (some (ti145)) .lf) (some (ti81)) (.nd (.nd .lf (some (ti337)) .lf) (some (ti209)) .lf)) (some (ti49)) (.nd (.nd (.nd .lf (some (ti305)) .lf) (some (ti177)) .lf) (some (ti113)) (.nd (.nd .lf (some (ti369)) .lf) none .lf)))) (some (ti9)) (.nd (.nd (.nd (.nd (.nd .lf (some (ti265)) .lf) (some (ti137)) .lf) (some (ti73)) (.nd (.nd .lf (some (ti329)) .lf) (some (ti201)) .lf)) (some (ti41)) (.nd (.nd (.nd .lf (some (ti297)) .lf) (some (ti169)) .lf) (some (ti105)) (.nd (.nd .lf (some (ti361)) .lf) (some (ti233)) .lf))) (some (ti25)) (.nd (.nd (.nd (.nd .lf (some (ti281)) .lf) (some (ti153)) .lf) none (.nd (.nd .lf (some (ti345)) .lf) (some (ti217)) .lf)) (some (ti57)) (.nd (.nd (.nd .lf (some (ti313)) .lf) (some (ti185)) .lf) (some (ti121)) (.nd (.nd .lf (some (ti377)) .lf) (some (ti249)) .lf))))) (some (ti5)) (.nd (.nd (.nd (.nd (.nd (.nd .lf (some (ti261)) .lf) (some (ti133)) (.nd .lf (some (ti389)) .lf)) (some (ti69)) (.nd (.nd .lf (some (ti325)) .lf) none .lf)) (some (ti37)) (.nd (.nd (.nd .lf (some (ti293)) .lf) (some (ti165)) .lf) (some (ti101)) (.nd (.nd .lf (some (ti357)) .lf) (some (ti229)) .lf))) (some (ti21)) (.nd (.nd (.nd (.nd .lf (some (ti277)) .lf) (some (ti149)) .lf) (some (ti85)) (.nd (.nd .lf (some (ti341)) .lf) (some (ti213)) .lf)) (some (ti53)) (.nd (.nd .lf (some (ti181)) .lf) (some (ti117)) (.nd (.nd .lf (some (ti373)) .lf) (some (ti245)) .lf)))) (some (ti13)) (.nd (.nd (.nd (.nd (.nd .lf (some (ti269)) .lf) (some (ti141)) .lf) none (.nd (.nd .lf (some (ti333)) .lf) none .lf)) (some (ti45)) (.nd (.nd (.nd .lf (some (ti301)) .lf) (some (ti173)) .lf) (some (ti109)) (.nd (.nd .lf (some (ti365)) .lf) (some (ti237)) .lf))) (some (ti29)) (.nd (.nd (.nd (.nd .lf (some (ti285)) .lf) (some (ti157)) .lf) (some (ti93)) (.nd (.nd .lf (some (ti349)) .lf) (some (ti221)) .lf)) (some (ti61)) (.nd (.nd (.nd .lf (some (ti317)) .lf) (some (ti189)) .lf) (some (ti125)) (.nd (.nd .lf (some (ti381)) .lf) (some (ti253)) .lf))))))) none (.nd (.nd (.nd (.nd (.nd (.nd (.nd (.nd .lf (some (ti256)) .lf) (some (ti128)) (.nd .lf (some (ti384)) .lf)) none (.nd (.nd .lf (some (ti320)) .lf) (some (ti192)) .lf)) (some (ti32)) (.nd (.nd (.nd .lf (some (ti288)) .lf) (some (ti160)) .lf) (some (ti96)) (.nd (.nd .lf (some (ti352)) .lf) none .lf))) (some (ti16)) (.nd (.nd (.nd (.nd .lf (some (ti272)) .lf) (some (ti144)) .lf) (some (ti80)) .lf) (some (ti48)) (.nd (.nd (.nd .lf (some (ti304)) .lf) (some (ti176)) .lf) none (.nd (.nd .lf (some (ti368)) .lf) (some (ti240)) .lf)))) (some (ti8)) (.nd (.nd (.nd (.nd (.nd .lf (some (ti264)) .lf) (some (ti136)) (.nd .lf (some (ti392)) .lf)) (some (ti72)) (.nd .lf (some (ti200)) .lf)) (some (ti40)) (.nd (.nd (.nd .lf (some (ti296)) .lf) (some (ti168)) .lf) (some (ti104)) (.nd (.nd .lf (some (ti360)) .lf) (some (ti232)) .lf))) (some (ti24)) (.nd (.nd (.nd (.nd .lf (some (ti280)) .lf) (some (ti152)) .lf) (some (ti88)) (.nd (.nd .lf (some (ti344)) .lf) (some (ti216)) .lf)) (some (ti56)) (.nd (.nd (.nd .lf (some (ti312)) .lf) (some (ti184)) .lf) (some (ti120)) (.nd (.nd .lf (some (ti376)) .lf) (some (ti248)) .lf))))) (some (ti4)) (.nd (.nd (.nd (.nd (.nd (.nd .lf (some (ti260)) .lf) (some (ti132)) (.nd .lf (some (ti388)) .lf)) (some (ti68)) (.nd .lf (some (ti196)) .lf)) (some (ti36)) (.nd (.nd (.nd .lf (some (ti292)) .lf) (some (ti164)) .lf) (some (ti100)) (.nd (.nd .lf (some (ti356)) .lf) (some (ti228)) .lf))) (some (ti20)) (.nd (.nd (.nd (.nd .lf (some (ti276)) .lf) (some (ti148)) .lf) (some (ti84)) (.nd (.nd .lf (some (ti340)) .lf) none .lf)) (some (ti52)) (.nd (.nd (.nd .lf (some (ti308)) .lf) (some (ti180)) .lf) (some (ti116)) (.nd (.nd .lf (some (ti372)) .lf) (some (ti244)) .lf)))) (some (ti12)) (.nd (.nd (.nd (.nd (.nd .lf (some (ti268)) .lf) (some (ti140)) .lf) (some (ti76)) (.nd (.nd .lf (some (ti332)) .lf) (some (ti204)) .lf)) (some (ti44)) (.nd (.nd (.nd .lf (some (ti300)) .lf) (some (ti172)) .lf) (some (ti108)) (.nd (.nd .lf (some (ti364)) .lf) (some (ti236)) .lf))) (some (ti28)) (.nd (.nd (.nd (.nd .lf (some (ti284)) .lf) (some (ti156)) .lf) (some (ti92)) (.nd (.nd .lf (some (ti348)) .lf) (some (ti220)) .lf)) (some (ti60)) (.nd (.nd (.nd .lf (some (ti316)) .lf) (some (ti188)) .lf) none (.nd (.nd .lf (some (ti380)) .lf) (some (ti252)) .lf)))))) (some (ti2)) (.nd (.nd (.nd (.nd (.nd (.nd (.nd .lf (some (ti258)) .lf) (some (ti130)) (.nd .lf (some (ti386)) .lf)) (some (ti66)) (.nd (.nd .lf (some (ti322)) .lf) (some (ti194)) .lf)) none (.nd (.nd (.nd .lf (some (ti290)) .lf) (some (ti162)) .lf) (some (ti98)) (.nd (.nd .lf (some (ti354)) .lf) (some (ti226)) .lf))) (some (ti18)) (.nd (.nd (.nd (.nd .lf (some (ti274)) .lf) (some (ti146)) .lf) (some (ti82)) (.nd (.nd .lf (some (ti338)) .lf) (some (ti210)) .lf)) (some (ti50)) (.nd (.nd (.nd .lf (some (ti306)) .lf) (some (ti178)) .lf) (some (ti114)) (.nd (.nd .lf (some (ti370)) .lf) (some (ti242)) .lf)))) (some (ti10)) (.nd (.nd (.nd (.nd (.nd .lf (some (ti266)) .lf) (some (ti138)) .lf) (some (ti74)) (.nd (.nd .lf (some (ti330)) .lf) none .lf)) (some (ti42)) (.nd (.nd (.nd .lf (some (ti298)) .lf) (some (ti170)) .lf) none (.nd (.nd .lf (some (ti362)) .lf) none .lf))) none (.nd (.nd (.nd (.nd .lf (some (ti282)) .lf) (some (ti154)) .lf) (some (ti90)) (.nd (.nd .lf (some (ti346)) .lf) (some (ti218)) .lf)) none (.nd (.nd (.nd .lf (some (ti314)) .lf) none .lf) (some (ti122)) (.nd (.nd .lf (some (ti378)) .lf) (some (ti250)) .lf))))) (some (ti6)) (.nd (.nd (.nd (.nd (.nd (.nd .lf (some (ti262)) .lf) (some (ti134)) (.nd .lf (some (ti390)) .lf)) (some (ti70)) (.nd (.nd .lf (some (ti326)) .lf) (some (ti198)) .lf)) (some (ti38)) (.nd (.nd (.nd .lf (some (ti294)) .lf) (some (ti166)) .lf) (some (ti102)) (.nd .lf (some (ti230)) .lf))) (some (ti22)) (.nd (.nd (.nd (.nd .lf (some (ti278)) .lf) (some (ti150)) .lf) (some (ti86)) (.nd .lf (some (ti214)) .lf)) (some (ti54)) (.nd (.nd (.nd .lf (some (ti310)) .lf) (some (ti182)) .lf) (some (ti118)) (.nd (.nd .lf (some (ti374)) .lf) (some (ti246)) .lf)))) (some (ti14)) (.nd (.nd (.nd (.nd (.nd .lf (some (ti270)) .lf) (some (ti142)) .lf) (some (ti78)) (.nd (.nd .lf (some (ti334)) .lf) (some (ti206)) .lf)) (some (ti46)) (.nd (.nd (.nd .lf (some (ti302)) .lf) (some (ti174)) .lf) (some (ti110)) (.nd (.nd .lf (some (ti366)) .lf) (some (ti238)) .lf))) (some (ti30)) (.nd (.nd (.nd .lf (some (ti158)) .lf) (some (ti94)) (.nd (.nd .lf (some (ti350)) .lf) (some (ti222)) .lf)) (some (ti62)) (.nd (.nd (.nd .lf (some (ti318)) .lf) (some (ti190)) .lf) (some (ti126)) (.nd (.nd .lf (some (ti382)) .lf) (some (ti254)) .lf))))))))
def FLT : Tr Nat := (.nd (.nd (.nd (.nd .lf (some (117)) (.nd (.nd .lf (some (938)) .lf) none (.nd .lf (some (42)) (.nd (.nd .lf (some (21)) .lf) none (.nd (.nd .lf (some (2)) .lf) none .lf))))) none (.nd (.nd .lf none (.nd .lf none (.nd .lf none (.nd (.nd .lf (some (5)) .lf) none .lf)))) none (.nd (.nd .lf (some (42)) .lf) none .lf))) none (.nd (.nd (.nd .lf none (.nd (.nd .lf (some (10)) .lf) none .lf)) none (.nd (.nd .lf (some (9)) .lf) none .lf)) none (.nd (.nd (.nd .lf none (.nd (.nd .lf (some (5)) .lf) none .lf)) none .lf) none .lf))) none (.nd (.nd (.nd .lf (some (117)) (.nd (.nd .lf (some (938)) .lf) none (.nd .lf (some (42)) (.nd (.nd .lf (some (21)) .lf) none .lf)))) none (.nd .lf none (.nd (.nd .lf (some (42)) .lf) none .lf))) none (.nd (.nd (.nd .lf none (.nd (.nd .lf (some (10)) .lf) none (.nd .lf none (.nd (.nd .lf (some (5)) .lf) none .lf)))) none (.nd (.nd .lf (some (9)) .lf) none .lf)) none (.nd (.nd (.nd .lf none (.nd (.nd .lf (some (5)) .lf) none .lf)) none (.nd .lf none (.nd .lf none (.nd (.nd .lf (some (2)) .lf) none .lf)))) none .lf))))
def T : TT := { ty := fun t => TYT.get t, flat := fun t => (FLT.get t).getD 0, ixb := fun f => Nat.beq f 273, nesc := fun f => Nat.beq f 242, mnz := fun f => if Nat.beq f 278 then some 5 else none, lies := fun u => if Nat.beq u 140 then [(139, 2), (140, 2), (141, 3), (142, 3)] else [], ng := 8 }
theorem tg1 : TGood Tryz.prog 1 ti1 := tgood (j := Tryz.t1) (z := Tryz.t1.zero.getD .nilIface) (by kernel_rfl) Tryz.underlying1 (by kernel_rfl) (by kernel_rfl) (by kernel_rfl) (by kernel_rfl) (by kernel_rfl)
theorem tg2 : TGood Tryz.prog 2 ti2 := tgood (j := Tryz.t2) (z := Tryz.t2.zero.getD .nilIface) (by kernel_rfl) Tryz.underlying2 (by kernel_rfl) (by kernel_rfl) (by kernel_rfl) (by kernel_rfl) (by kernel_rfl)
theorem tg3 : TGood Tryz.prog 3 ti3 := tgood (j := Tryz.t3) (z := Tryz.t3.zero.getD .nilIface) (by kernel_rfl) Tryz.underlying3 (by kernel_rfl) (by kernel_rfl) (by kernel_rfl) (by kernel_rfl) (by kernel_rfl)
theorem tg4 : TGood Tryz.prog 4 ti4 := tgood (j := Tryz.t4) (z := Tryz.t4.zero.getD .nilIface) (by kernel_rfl) Tryz.underlying4 (by kernel_rfl) (by kernel_rfl) (by kernel_rfl) (by kernel_rfl) (by kernel_rfl)
theorem tg5 : TGood Tryz.prog 5 ti5 := tgood (j := Tryz.t5) (z := Tryz.t5.zero.getD .nilIface) (by kernel_rfl) Tryz.underlying5 (by kernel_rfl) (by kernel_rfl) (by kernel_rfl) (by kernel_rfl) (by kernel_rfl)
theorem tg6 : TGood Tryz.prog 6 ti6 := tgood (j := Tryz.t6) (z := Tryz.t6.zero.getD .nilIface) (by kernel_rfl) Tryz.underlying6 (by kernel_rfl) (by kernel_rfl) (by kernel_rfl) (by kernel_rfl) (by kernel_rfl)
theorem tg7 : TGood Tryz.prog 7 ti7 := tgood (j := Tryz.t7) (z := Tryz.t7.zero.getD .nilIface) (by kernel_rfl) Tryz.underlying7 (by kernel_rfl) (by kernel_rfl) (by kernel_rfl) (by kernel_rfl) (by kernel_rfl)
theorem tg8 : TGood Tryz.prog 8 ti8 := tgood (j := Tryz.t8) (z := Tryz.t8.zero.getD .nilIface) (by kernel_rfl) Tryz.underlying8 (by kernel_rfl) (by kernel_rfl) (by kernel_rfl) (by kernel_rfl) (by kernel_rfl)
theorem tg9 : TGood Tryz.prog 9 ti9 := tgood (j := Tryz.t9) (z := Tryz.t9.zero.getD .nilIface) (by kernel_rfl) Tryz.underlying9 (by kernel_rfl) (by kernel_rfl) (by kernel_rfl) (by kernel_rfl) (by kernel_rfl)
theorem tg10 : TGood Tryz.prog 10 ti10 := tgood (j := Tryz.t10) (z := Tryz.t10.zero.getD .nilIface) (by kernel_rfl) Tryz.underlying10 (by kernel_rfl) (by kernel_rfl) (by kernel_rfl) (by kernel_rfl) (by kernel_rfl)
theorem tg11 : TGood Tryz.prog 11 ti11 := tgood (j := Tryz.t11) (z := Tryz.t11.zero.getD .nilIface) (by kernel_rfl) Tryz.underlying11 (by kernel_rfl) (by kernel_rfl) (by kernel_rfl) (by kernel_rfl) (by kernel_rfl)
theorem tg12 : TGood Tryz.prog 12 ti12 := tgood (j := Tryz.t12) (z := Tryz.t12.zero.getD .nilIface) (by kernel_rfl) Tryz.underlying12 (by kernel_rfl) (by kernel_rfl) (by kernel_rfl) (by kernel_rfl) (by kernel_rfl)
theorem tg13 : TGood Tryz.prog 13 ti13 := tgood (j := Tryz.t13) (z := Tryz.t13.zero.getD .nilIface) (by kernel_rfl) Tryz.underlying13 (by kernel_rfl) (by kernel_rfl) (by kernel_rfl) (by kernel_rfl) (by kernel_rfl)
theorem tg14 : TGood Tryz.prog 14 ti14 := tgood (j := Tryz.t14) (z := Tryz.t14.zero.getD .nilIface) (by kernel_rfl) Tryz.underlying14 (by kernel_rfl) (by kernel_rfl) (by kernel_rfl) (by kernel_rfl) (by kernel_rfl)
theorem tg15 : TGood Tryz.prog 15 ti15 := tgood (j := Tryz.t15) (z := Tryz.t15.zero.getD .nilIface) (by kernel_rfl) Tryz.underlying15 (by kernel_rfl) (by kernel_rfl) (by kernel_rfl) (by kernel_rfl) (by kernel_rfl)
theorem tg16 : TGood Tryz.prog 16 ti16 := tgood (j := Tryz.t16) (z := Tryz.t16.zero.getD .nilIface) (by kernel_rfl) Tryz.underlying16 (by kernel_rfl) (by kernel_rfl) (by kernel_rfl) (by kernel_rfl) (by kernel_rfl)
theorem tg17 : TGood Tryz.prog 17 ti17 := tgood (j := Tryz.t17) (z := Tryz.t17.zero.getD .nilIface) (by kernel_rfl) Tryz.underlying17 (by kernel_rfl) (by kernel_rfl) (by kernel_rfl) (by kernel_rfl) (by kernel_rfl)
theorem tg18 : TGood Tryz.prog 18 ti18 := tgood (j := Tryz.t18) (z := Tryz.t18.zero.getD .nilIface) (by kernel_rfl) Tryz.underlying18 (by kernel_rfl) (by kernel_rfl) (by kernel_rfl) (by kernel_rfl) (by kernel_rfl)
theorem tg19 : TGood Tryz.prog 19 ti19 := tgood (j := Tryz.t19) (z := Tryz.t19.zero.getD .nilIface) (by kernel_rfl) Tryz.underlying19 (by kernel_rfl) (by kernel_rfl) (by kernel_rfl) (by kernel_rfl) (by kernel_rfl)
theorem tg20 : TGood Tryz.prog 20 ti20 := tgood (j := Tryz.t20) (z := Tryz.t20.zero.getD .nilIface) (by kernel_rfl) Tryz.underlying20 (by kernel_rfl) (by kernel_rfl) (by kernel_rfl) (by kernel_rfl) (by kernel_rfl)
theorem tg21 : TGood Tryz.prog 21 ti21 := tgood (j := Tryz.t21) (z := Tryz.t21.zero.getD .nilIface) (by kernel_rfl) Tryz.underlying21 (by kernel_rfl) (by kernel_rfl) (by kernel_rfl) (by kernel_rfl) (by kernel_rfl)
theorem tg22 : TGood Tryz.prog 22 ti22 := tgood (j := Tryz.t22) (z := Tryz.t22.zero.getD .nilIface) (by kernel_rfl) Tryz.underlying22 (by kernel_rfl) (by kernel_rfl) (by kernel_rfl) (by kernel_rfl) (by kernel_rfl)
theorem tg23 : TGood Tryz.prog 23 ti23 := tgood (j := Tryz.t23) (z := Tryz.t23.zero.getD .nilIface) (by kernel_rfl) Tryz.underlying23 (by kernel_rfl) (by kernel_rfl) (by kernel_rfl) (by kernel_rfl) (by kernel_rfl)
theorem tg24 : TGood Tryz.prog 24 ti24 := tgood (j := Tryz.t24) (z := Tryz.t24.zero.getD .nilIface) (by kernel_rfl) Tryz.underlying24 (by kernel_rfl) (by kernel_rfl) (by kernel_rfl) (by kernel_rfl) (by kernel_rfl)
theorem tg25 : TGood Tryz.prog 25 ti25 := tgood (j := Tryz.t25) (z := Tryz.t25.zero.getD .nilIface) (by kernel_rfl) Tryz.underlying25 (by kernel_rfl) (by kernel_rfl) (by kernel_rfl) (by kernel_rfl) (by kernel_rfl)
theorem tg27 : TGood Tryz.prog 27 ti27 := tgood (j := Tryz.t27) (z := Tryz.t27.zero.getD .nilIface) (by kernel_rfl) Tryz.underlying27 (by kernel_rfl) (by kernel_rfl) (by kernel_rfl) (by kernel_rfl) (by kernel_rfl)
theorem tg28 : TGood Tryz.prog 28 ti28 := tgood (j := Tryz.t28) (z := Tryz.t28.zero.getD .nilIface) (by kernel_rfl) Tryz.underlying28 (by kernel_rfl) (by kernel_rfl) (by kernel_rfl) (by kernel_rfl) (by kernel_rfl)
theorem tg29 : TGood Tryz.prog 29 ti29 := tgood (j := Tryz.t29) (z := Tryz.t29.zero.getD .nilIface) (by kernel_rfl) Tryz.underlying29 (by kernel_rfl) (by kernel_rfl) (by kernel_rfl) (by kernel_rfl) (by kernel_rfl)
theorem tg30 : TGood Tryz.prog 30 ti30 := tgood (j := Tryz.t30) (z := Tryz.t30.zero.getD .nilIface) (by kernel_rfl) Tryz.underlying30 (by kernel_rfl) (by kernel_rfl) (by kernel_rfl) (by kernel_rfl) (by kernel_rfl)
theorem tg31 : TGood Tryz.prog 31 ti31 := tgood (j := Tryz.t31) (z := Tryz.t31.zero.getD .nilIface) (by kernel_rfl) Tryz.underlying31 (by kernel_rfl) (by kernel_rfl) (by kernel_rfl) (by kernel_rfl) (by kernel_rfl)
theorem tg32 : TGood Tryz.prog 32 ti32 := tgood (j := Tryz.t32) (z := Tryz.t32.zero.getD .nilIface) (by kernel_rfl) Tryz.underlying32 (by kernel_rfl) (by kernel_rfl) (by kernel_rfl) (by kernel_rfl) (by kernel_rfl)
theorem tg33 : TGood Tryz.prog 33 ti33 := tgood (j := Tryz.t33) (z := Tryz.t33.zero.getD .nilIface) (by kernel_rfl) Tryz.underlying33 (by kernel_rfl) (by kernel_rfl) (by kernel_rfl) (by kernel_rfl) (by kernel_rfl)
theorem tg35 : TGood Tryz.prog 35 ti35 := tgood (j := Tryz.t35) (z := Tryz.t35.zero.getD .nilIface) (by kernel_rfl) Tryz.underlying35 (by kernel_rfl) (by kernel_rfl) (by kernel_rfl) (by kernel_rfl) (by kernel_rfl)
theorem tg36 : TGood Tryz.prog 36 ti36 := tgood (j := Tryz.t36) (z := Tryz.t36.zero.getD .nilIface) (by kernel_rfl) Tryz.underlying36 (by kernel_rfl) (by kernel_rfl) (by kernel_rfl) (by kernel_rfl) (by kernel_rfl)
theorem tg37 : TGood Tryz.prog 37 ti37 := tgood (j := Tryz.t37) (z := Tryz.t37.zero.getD .nilIface) (by kernel_rfl) Tryz.underlying37 (by kernel_rfl) (by kernel_rfl) (by kernel_rfl) (by kernel_rfl) (by kernel_rfl)
theorem tg38 : TGood Tryz.prog 38 ti38 := tgood (j := Tryz.t38) (z := Tryz.t38.zero.getD .nilIface) (by kernel_rfl) Tryz.underlying38 (by kernel_rfl) (by kernel_rfl) (by kernel_rfl) (by kernel_rfl) (by kernel_rfl)
theorem tg39 : TGood Tryz.prog 39 ti39 := tgood (j := Tryz.t39) (z := Tryz.t39.zero.getD .nilIface) (by kernel_rfl) Tryz.underlying39 (by kernel_rfl) (by kernel_rfl) (by kernel_rfl) (by kernel_rfl) (by kernel_rfl)
theorem tg40 : TGood Tryz.prog 40 ti40 := tgood (j := Tryz.t40) (z := Tryz.t40.zero.getD .nilIface) (by kernel_rfl) Tryz.underlying40 (by kernel_rfl) (by kernel_rfl) (by kernel_rfl) (by kernel_rfl) (by kernel_rfl)
theorem tg41 : TGood Tryz.prog 41 ti41 := tgood (j := Tryz.t41) (z := Tryz.t41.zero.getD .nilIface) (by kernel_rfl) Tryz.underlying41 (by kernel_rfl) (by kernel_rfl) (by kernel_rfl) (by kernel_rfl) (by kernel_rfl)
theorem tg42 : TGood Tryz.prog 42 ti42 := tgood (j := Tryz.t42) (z := Tryz.t42.zero.getD .nilIface) (by kernel_rfl) Tryz.underlying42 (by kernel_rfl) (by kernel_rfl) (by kernel_rfl) (by kernel_rfl) (by kernel_rfl)
theorem tg43 : TGood Tryz.prog 43 ti43 := tgood (j := Tryz.t43) (z := Tryz.t43.zero.getD .nilIface) (by kernel_rfl) Tryz.underlying43 (by kernel_rfl) (by kernel_rfl) (by kernel_rfl) (by kernel_rfl) (by kernel_rfl)
theorem tg44 : TGood Tryz.prog 44 ti44 := tgood (j := Tryz.t44) (z := Tryz.t44.zero.getD .nilIface) (by kernel_rfl) Tryz.underlying44 (by kernel_rfl) (by kernel_rfl) (by kernel_rfl) (by kernel_rfl) (by kernel_rfl)
theorem tg45 : TGood Tryz.prog 45 ti45 := tgood (j := Tryz.t45) (z := Tryz.t45.zero.getD .nilIface) (by kernel_rfl) Tryz.underlying45 (by kernel_rfl) (by kernel_rfl) (by kernel_rfl) (by kernel_rfl) (by kernel_rfl)
theorem tg46 : TGood Tryz.prog 46 ti46 := tgood (j := Tryz.t46) (z := Tryz.t46.zero.getD .nilIface) (by kernel_rfl) Tryz.underlying46 (by kernel_rfl) (by kernel_rfl) (by kernel_rfl) (by kernel_rfl) (by kernel_rfl)
theorem tg47 : TGood Tryz.prog 47 ti47 := tgood (j := Tryz.t47) (z := Tryz.t47.zero.getD .nilIface) (by kernel_rfl) Tryz.underlying47 (by kernel_rfl) (by kernel_rfl) (by kernel_rfl) (by kernel_rfl) (by kernel_rfl)
theorem tg48 : TGood Tryz.prog 48 ti48 := tgood (j := Tryz.t48) (z := Tryz.t48.zero.getD .nilIface) (by kernel_rfl) Tryz.underlying48 (by kernel_rfl) (by kernel_rfl) (by kernel_rfl) (by kernel_rfl) (by kernel_rfl)
theorem tg49 : TGood Tryz.prog 49 ti49 := tgood (j := Tryz.t49) (z := Tryz.t49.zero.getD .nilIface) (by kernel_rfl) Tryz.underlying49 (by kernel_rfl) (by kernel_rfl) (by kernel_rfl) (by kernel_rfl) (by kernel_rfl)
theorem tg50 : TGood Tryz.prog 50 ti50 := tgood (j := Tryz.t50) (z := Tryz.t50.zero.getD .nilIface) (by kernel_rfl) Tryz.underlying50 (by kernel_rfl) (by kernel_rfl) (by kernel_rfl) (by kernel_rfl) (by kernel_rfl)
theorem tg52 : TGood Tryz.prog 52 ti52 := tgood (j := Tryz.t52) (z := Tryz.t52.zero.getD .nilIface) (by kernel_rfl) Tryz.underlying52 (by kernel_rfl) (by kernel_rfl) (by kernel_rfl) (by kernel_rfl) (by kernel_rfl)
theorem tg53 : TGood Tryz.prog 53 ti53 := tgood (j := Tryz.t53) (z := Tryz.t53.zero.getD .nilIface) (by kernel_rfl) Tryz.underlying53 (by kernel_rfl) (by kernel_rfl) (by kernel_rfl) (by kernel_rfl) (by kernel_rfl)
theorem tg54 : TGood Tryz.prog 54 ti54 := tgood (j := Tryz.t54) (z := Tryz.t54.zero.getD .nilIface) (by kernel_rfl) Tryz.underlying54 (by kernel_rfl) (by kernel_rfl) (by kernel_rfl) (by kernel_rfl) (by kernel_rfl)
theorem tg55 : TGood Tryz.prog 55 ti55 := tgood (j := Tryz.t55) (z := Tryz.t55.zero.getD .nilIface) (by kernel_rfl) Tryz.underlying55 (by kernel_rfl) (by kernel_rfl) (by kernel_rfl) (by kernel_rfl) (by kernel_rfl)
theorem tg56 : TGood Tryz.prog 56 ti56 := tgood (j := Tryz.t56) (z := Tryz.t56.zero.getD .nilIface) (by kernel_rfl) Tryz.underlying56 (by kernel_rfl) (by kernel_rfl) (by kernel_rfl) (by kernel_rfl) (by kernel_rfl)
theorem tg57 : TGood Tryz.prog 57 ti57 := tgood (j := Tryz.t57) (z := Tryz.t57.zero.getD .nilIface) (by kernel_rfl) Tryz.underlying57 (by kernel_rfl) (by kernel_rfl) (by kernel_rfl) (by kernel_rfl) (by kernel_rfl)
theorem tg59 : TGood Tryz.prog 59 ti59 := tgood (j := Tryz.t59) (z := Tryz.t59.zero.getD .nilIface) (by kernel_rfl) Tryz.underlying59 (by kernel_rfl) (by kernel_rfl) (by kernel_rfl) (by kernel_rfl) (by kernel_rfl)
theorem tg60 : TGood Tryz.prog 60 ti60 := tgood (j := Tryz.t60) (z := Tryz.t60.zero.getD .nilIface) (by kernel_rfl) Tryz.underlying60 (by kernel_rfl) (by kernel_rfl) (by kernel_rfl) (by kernel_rfl) (by kernel_rfl)
theorem tg61 : TGood Tryz.prog 61 ti61 := tgood (j := Tryz.t61) (z := Tryz.t61.zero.getD .nilIface) (by kernel_rfl) Tryz.underlying61 (by kernel_rfl) (by kernel_rfl) (by kernel_rfl) (by kernel_rfl) (by kernel_rfl)
theorem tg62 : TGood Tryz.prog 62 ti62 := tgood (j := Tryz.t62) (z := Tryz.t62.zero.getD .nilIface) (by kernel_rfl) Tryz.underlying62 (by kernel_rfl) (by kernel_rfl) (by kernel_rfl) (by kernel_rfl) (by kernel_rfl)
theorem tg63 : TGood Tryz.prog 63 ti63 := tgood (j := Tryz.t63) (z := Tryz.t63.zero.getD .nilIface) (by kernel_rfl) Tryz.underlying63 (by kernel_rfl) (by kernel_rfl) (by kernel_rfl) (by kernel_rfl) (by kernel_rfl)
theorem tg65 : TGood Tryz.prog 65 ti65 := tgood (j := Tryz.t65) (z := Tryz.t65.zero.getD .nilIface) (by kernel_rfl) Tryz.underlying65 (by kernel_rfl) (by kernel_rfl) (by kernel_rfl) (by kernel_rfl) (by kernel_rfl)
theorem tg66 : TGood Tryz.prog 66 ti66 := tgood (j := Tryz.t66) (z := Tryz.t66.zero.getD .nilIface) (by kernel_rfl) Tryz.underlying66 (by kernel_rfl) (by kernel_rfl) (by kernel_rfl) (by kernel_rfl) (by kernel_rfl)
theorem tg68 : TGood Tryz.prog 68 ti68 := tgood (j := Tryz.t68) (z := Tryz.t68.zero.getD .nilIface) (by kernel_rfl) Tryz.underlying68 (by kernel_rfl) (by kernel_rfl) (by kernel_rfl) (by kernel_rfl) (by kernel_rfl)
theorem tg69 : TGood Tryz.prog 69 ti69 := tgood (j := Tryz.t69) (z := Tryz.t69.zero.getD .nilIface) (by kernel_rfl) Tryz.underlying69 (by kernel_rfl) (by kernel_rfl) (by kernel_rfl) (by kernel_rfl) (by kernel_rfl)
theorem tg70 : TGood Tryz.prog 70 ti70 := tgood (j := Tryz.t70) (z := Tryz.t70.zero.getD .nilIface) (by kernel_rfl) Tryz.underlying70 (by kernel_rfl) (by kernel_rfl) (by kernel_rfl) (by kernel_rfl) (by kernel_rfl)
theorem tg71 : TGood Tryz.prog 71 ti71 := tgood (j := Tryz.t71) (z := Tryz.t71.zero.getD .nilIface) (by kernel_rfl) Tryz.underlying71 (by kernel_rfl) (by kernel_rfl) (by kernel_rfl) (by kernel_rfl) (by kernel_rfl)
theorem tg72 : TGood Tryz.prog 72 ti72 := tgood (j := Tryz.t72) (z := Tryz.t72.zero.getD .nilIface) (by kernel_rfl) Tryz.underlying72 (by kernel_rfl) (by kernel_rfl) (by kernel_rfl) (by kernel_rfl) (by kernel_rfl)
theorem tg73 : TGood Tryz.prog 73 ti73 := tgood (j := Tryz.t73) (z := Tryz.t73.zero.getD .nilIface) (by kernel_rfl) Tryz.underlying73 (by kernel_rfl) (by kernel_rfl) (by kernel_rfl) (by kernel_rfl) (by kernel_rfl)
theorem tg74 : TGood Tryz.prog 74 ti74 := tgood (j := Tryz.t74) (z := Tryz.t74.zero.getD .nilIface) (by kernel_rfl) Tryz.underlying74 (by kernel_rfl) (by kernel_rfl) (by kernel_rfl) (by kernel_rfl) (by kernel_rfl)
theorem tg76 : TGood Tryz.prog 76 ti76 := tgood (j := Tryz.t76) (z := Tryz.t76.zero.getD .nilIface) (by kernel_rfl) Tryz.underlying76 (by kernel_rfl) (by kernel_rfl) (by kernel_rfl) (by kernel_rfl) (by kernel_rfl)
theorem tg78 : TGood Tryz.prog 78 ti78 := tgood (j := Tryz.t78) (z := Tryz.t78.zero.getD .nilIface) (by kernel_rfl) Tryz.underlying78 (by kernel_rfl) (by kernel_rfl) (by kernel_rfl) (by kernel_rfl) (by kernel_rfl)
theorem tg80 : TGood Tryz.prog 80 ti80 := tgood (j := Tryz.t80) (z := Tryz.t80.zero.getD .nilIface) (by kernel_rfl) Tryz.underlying80 (by kernel_rfl) (by kernel_rfl) (by kernel_rfl) (by kernel_rfl) (by kernel_rfl)
theorem tg81 : TGood Tryz.prog 81 ti81 := tgood (j := Tryz.t81) (z := Tryz.t81.zero.getD .nilIface) (by kernel_rfl) Tryz.underlying81 (by kernel_rfl) (by kernel_rfl) (by kernel_rfl) (by kernel_rfl) (by kernel_rfl)
theorem tg82 : TGood Tryz.prog 82 ti82 := tgood (j := Tryz.t82) (z := Tryz.t82.zero.getD .nilIface) (by kernel_rfl) Tryz.underlying82 (by kernel_rfl) (by kernel_rfl) (by kernel_rfl) (by kernel_rfl) (by kernel_rfl)
theorem tg83 : TGood Tryz.prog 83 ti83 := tgood (j := Tryz.t83) (z := Tryz.t83.zero.getD .nilIface) (by kernel_rfl) Tryz.underlying83 (by kernel_rfl) (by kernel_rfl) (by kernel_rfl) (by kernel_rfl) (by kernel_rfl)
theorem tg84 : TGood Tryz.prog 84 ti84 := tgood (j := Tryz.t84) (z := Tryz.t84.zero.getD .nilIface) (by kernel_rfl) Tryz.underlying84 (by kernel_rfl) (by kernel_rfl) (by kernel_rfl) (by kernel_rfl) (by kernel_rfl)
theorem tg85 : TGood Tryz.prog 85 ti85 := tgood (j := Tryz.t85) (z := Tryz.t85.zero.getD .nilIface) (by kernel_rfl) Tryz.underlying85 (by kernel_rfl) (by kernel_rfl) (by kernel_rfl) (by kernel_rfl) (by kernel_rfl)
theorem tg86 : TGood Tryz.prog 86 ti86 := tgood (j := Tryz.t86) (z := Tryz.t86.zero.getD .nilIface) (by kernel_rfl) Tryz.underlying86 (by kernel_rfl) (by kernel_rfl) (by kernel_rfl) (by kernel_rfl) (by kernel_rfl)
theorem tg87 : TGood Tryz.prog 87 ti87 := tgood (j := Tryz.t87) (z := Tryz.t87.zero.getD .nilIface) (by kernel_rfl) Tryz.underlying87 (by kernel_rfl) (by kernel_rfl) (by kernel_rfl) (by kernel_rfl) (by kernel_rfl)
theorem tg88 : TGood Tryz.prog 88 ti88 := tgood (j := Tryz.t88) (z := Tryz.t88.zero.getD .nilIface) (by kernel_rfl) Tryz.underlying88 (by kernel_rfl) (by kernel_rfl) (by kernel_rfl) (by kernel_rfl) (by kernel_rfl)
theorem tg90 : TGood Tryz.prog 90 ti90 := tgood (j := Tryz.t90) (z := Tryz.t90.zero.getD .nilIface) (by kernel_rfl) Tryz.underlying90 (by kernel_rfl) (by kernel_rfl) (by kernel_rfl) (by kernel_rfl) (by kernel_rfl)
theorem tg91 : TGood Tryz.prog 91 ti91 := tgood (j := Tryz.t91) (z := Tryz.t91.zero.getD .nilIface) (by kernel_rfl) Tryz.underlying91 (by kernel_rfl) (by kernel_rfl) (by kernel_rfl) (by kernel_rfl) (by kernel_rfl)
theorem tg92 : TGood Tryz.prog 92 ti92 := tgood (j := Tryz.t92) (z := Tryz.t92.zero.getD .nilIface) (by kernel_rfl) Tryz.underlying92 (by kernel_rfl) (by kernel_rfl) (by kernel_rfl) (by kernel_rfl) (by kernel_rfl)
theorem tg93 : TGood Tryz.prog 93 ti93 := tgood (j := Tryz.t93) (z := Tryz.t93.zero.getD .nilIface) (by kernel_rfl) Tryz.underlying93 (by kernel_rfl) (by kernel_rfl) (by kernel_rfl) (by kernel_rfl) (by kernel_rfl)
theorem tg94 : TGood Tryz.prog 94 ti94 := tgood (j := Tryz.t94) (z := Tryz.t94.zero.getD .nilIface) (by kernel_rfl) Tryz.underlying94 (by kernel_rfl) (by kernel_rfl) (by kernel_rfl) (by kernel_rfl) (by kernel_rfl)
theorem tg95 : TGood Tryz.prog 95 ti95 := tgood (j := Tryz.t95) (z := Tryz.t95.zero.getD .nilIface) (by kernel_rfl) Tryz.underlying95 (by kernel_rfl) (by kernel_rfl) (by kernel_rfl) (by kernel_rfl) (by kernel_rfl)
theorem tg96 : TGood Tryz.prog 96 ti96 := tgood (j := Tryz.t96) (z := Tryz.t96.zero.getD .nilIface) (by kernel_rfl) Tryz.underlying96 (by kernel_rfl) (by kernel_rfl) (by kernel_rfl) (by kernel_rfl) (by kernel_rfl)
theorem tg97 : TGood Tryz.prog 97 ti97 := tgood (j := Tryz.t97) (z := Tryz.t97.zero.getD .nilIface) (by kernel_rfl) Tryz.underlying97 (by kernel_rfl) (by kernel_rfl) (by kernel_rfl) (by kernel_rfl) (by kernel_rfl)
theorem tg98 : TGood Tryz.prog 98 ti98 := tgood (j := Tryz.t98) (z := Tryz.t98.zero.getD .nilIface) (by kernel_rfl) Tryz.underlying98 (by kernel_rfl) (by kernel_rfl) (by kernel_rfl) (by kernel_rfl) (by kernel_rfl)
theorem tg99 : TGood Tryz.prog 99 ti99 := tgood (j := Tryz.t99) (z := Tryz.t99.zero.getD .nilIface) (by kernel_rfl) Tryz.underlying99 (by kernel_rfl) (by kernel_rfl) (by kernel_rfl) (by kernel_rfl) (by kernel_rfl)
theorem tg100 : TGood Tryz.prog 100 ti100 := tgood (j := Tryz.t100) (z := Tryz.t100.zero.getD .nilIface) (by kernel_rfl) Tryz.underlying100 (by kernel_rfl) (by kernel_rfl) (by kernel_rfl) (by kernel_rfl) (by kernel_rfl)
theorem tg101 : TGood Tryz.prog 101 ti101 := tgood (j := Tryz.t101) (z := Tryz.t101.zero.getD .nilIface) (by kernel_rfl) Tryz.underlying101 (by kernel_rfl) (by kernel_rfl) (by kernel_rfl) (by kernel_rfl) (by kernel_rfl)
theorem tg102 : TGood Tryz.prog 102 ti102 := tgood (j := Tryz.t102) (z := Tryz.t102.zero.getD .nilIface) (by kernel_rfl) Tryz.underlying102 (by kernel_rfl) (by kernel_rfl) (by kernel_rfl) (by kernel_rfl) (by kernel_rfl)
theorem tg103 : TGood Tryz.prog 103 ti103 := tgood (j := Tryz.t103) (z := Tryz.t103.zero.getD .nilIface) (by kernel_rfl) Tryz.underlying103 (by kernel_rfl) (by kernel_rfl) (by kernel_rfl) (by kernel_rfl) (by kernel_rfl)
theorem tg104 : TGood Tryz.prog 104 ti104 := tgood (j := Tryz.t104) (z := Tryz.t104.zero.getD .nilIface) (by kernel_rfl) Tryz.underlying104 (by kernel_rfl) (by kernel_rfl) (by kernel_rfl) (by kernel_rfl) (by kernel_rfl)
theorem tg105 : TGood Tryz.prog 105 ti105 := tgood (j := Tryz.t105) (z := Tryz.t105.zero.getD .nilIface) (by kernel_rfl) Tryz.underlying105 (by kernel_rfl) (by kernel_rfl) (by kernel_rfl) (by kernel_rfl) (by kernel_rfl)
theorem tg107 : TGood Tryz.prog 107 ti107 := tgood (j := Tryz.t107) (z := Tryz.t107.zero.getD .nilIface) (by kernel_rfl) Tryz.underlying107 (by kernel_rfl) (by kernel_rfl) (by kernel_rfl) (by kernel_rfl) (by kernel_rfl)
theorem tg108 : TGood Tryz.prog 108 ti108 := tgood (j := Tryz.t108) (z := Tryz.t108.zero.getD .nilIface) (by kernel_rfl) Tryz.underlying108 (by kernel_rfl) (by kernel_rfl) (by kernel_rfl) (by kernel_rfl) (by kernel_rfl)
theorem tg109 : TGood Tryz.prog 109 ti109 := tgood (j := Tryz.t109) (z := Tryz.t109.zero.getD .nilIface) (by kernel_rfl) Tryz.underlying109 (by kernel_rfl) (by kernel_rfl) (by kernel_rfl) (by kernel_rfl) (by kernel_rfl)
theorem tg110 : TGood Tryz.prog 110 ti110 := tgood (j := Tryz.t110) (z := Tryz.t110.zero.getD .nilIface) (by kernel_rfl) Tryz.underlying110 (by kernel_rfl) (by kernel_rfl) (by kernel_rfl) (by kernel_rfl) (by kernel_rfl)
theorem tg111 : TGood Tryz.prog 111 ti111 := tgood (j := Tryz.t111) (z := Tryz.t111.zero.getD .nilIface) (by kernel_rfl) Tryz.underlying111 (by kernel_rfl) (by kernel_rfl) (by kernel_rfl) (by kernel_rfl) (by kernel_rfl)
theorem tg113 : TGood Tryz.prog 113 ti113 := tgood (j := Tryz.t113) (z := Tryz.t113.zero.getD .nilIface) (by kernel_rfl) Tryz.underlying113 (by kernel_rfl) (by kernel_rfl) (by kernel_rfl) (by kernel_rfl) (by kernel_rfl)
theorem tg114 : TGood Tryz.prog 114 ti114 := tgood (j := Tryz.t114) (z := Tryz.t114.zero.getD .nilIface) (by kernel_rfl) Tryz.underlying114 (by kernel_rfl) (by kernel_rfl) (by kernel_rfl) (by kernel_rfl) (by kernel_rfl)
theorem tg115 : TGood Tryz.prog 115 ti115 := tgood (j := Tryz.t115) (z := Tryz.t115.zero.getD .nilIface) (by kernel_rfl) Tryz.underlying115 (by kernel_rfl) (by kernel_rfl) (by kernel_rfl) (by kernel_rfl) (by kernel_rfl)
theorem tg116 : TGood Tryz.prog 116 ti116 := tgood (j := Tryz.t116) (z := Tryz.t116.zero.getD .nilIface) (by kernel_rfl) Tryz.underlying116 (by kernel_rfl) (by kernel_rfl) (by kernel_rfl) (by kernel_rfl) (by kernel_rfl)
theorem tg117 : TGood Tryz.prog 117 ti117 := tgood (j := Tryz.t117) (z := Tryz.t117.zero.getD .nilIface) (by kernel_rfl) Tryz.underlying117 (by kernel_rfl) (by kernel_rfl) (by kernel_rfl) (by kernel_rfl) (by kernel_rfl)
theorem tg118 : TGood Tryz.prog 118 ti118 := tgood (j := Tryz.t118) (z := Tryz.t118.zero.getD .nilIface) (by kernel_rfl) Tryz.underlying118 (by kernel_rfl) (by kernel_rfl) (by kernel_rfl) (by kernel_rfl) (by kernel_rfl)
theorem tg119 : TGood Tryz.prog 119 ti119 := tgood (j := Tryz.t119) (z := Tryz.t119.zero.getD .nilIface) (by kernel_rfl) Tryz.underlying119 (by kernel_rfl) (by kernel_rfl) (by kernel_rfl) (by kernel_rfl) (by kernel_rfl)
theorem tg120 : TGood Tryz.prog 120 ti120 := tgood (j := Tryz.t120) (z := Tryz.t120.zero.getD .nilIface) (by kernel_rfl) Tryz.underlying120 (by kernel_rfl) (by kernel_rfl) (by kernel_rfl) (by kernel_rfl) (by kernel_rfl)
theorem tg121 : TGood Tryz.prog 121 ti121 := tgood (j := Tryz.t121) (z := Tryz.t121.zero.getD .nilIface) (by kernel_rfl) Tryz.underlying121 (by kernel_rfl) (by kernel_rfl) (by kernel_rfl) (by kernel_rfl) (by kernel_rfl)
theorem tg122 : TGood Tryz.prog 122 ti122 := tgood (j := Tryz.t122) (z := Tryz.t122.zero.getD .nilIface) (by kernel_rfl) Tryz.underlying122 (by kernel_rfl) (by kernel_rfl) (by kernel_rfl) (by kernel_rfl) (by kernel_rfl)
theorem tg123 : TGood Tryz.prog 123 ti123 := tgood (j := Tryz.t123) (z := Tryz.t123.zero.getD .nilIface) (by kernel_rfl) Tryz.underlying123 (by kernel_rfl) (by kernel_rfl) (by kernel_rfl) (by kernel_rfl) (by kernel_rfl)
theorem tg125 : TGood Tryz.prog 125 ti125 := tgood (j := Tryz.t125) (z := Tryz.t125.zero.getD .nilIface) (by kernel_rfl) Tryz.underlying125 (by kernel_rfl) (by kernel_rfl) (by kernel_rfl) (by kernel_rfl) (by kernel_rfl)
theorem tg126 : TGood Tryz.prog 126 ti126 := tgood (j := Tryz.t126) (z := Tryz.t126.zero.getD .nilIface) (by kernel_rfl) Tryz.underlying126 (by kernel_rfl) (by kernel_rfl) (by kernel_rfl) (by kernel_rfl) (by kernel_rfl)
theorem tg127 : TGood Tryz.prog 127 ti127 := tgood (j := Tryz.t127) (z := Tryz.t127.zero.getD .nilIface) (by kernel_rfl) Tryz.underlying127 (by kernel_rfl) (by kernel_rfl) (by kernel_rfl) (by kernel_rfl) (by kernel_rfl)
theorem tg128 : TGood Tryz.prog 128 ti128 := tgood (j := Tryz.t128) (z := Tryz.t128.zero.getD .nilIface) (by kernel_rfl) Tryz.underlying128 (by kernel_rfl) (by kernel_rfl) (by kernel_rfl) (by kernel_rfl) (by kernel_rfl)
theorem tg129 : TGood Tryz.prog 129 ti129 := tgood (j := Tryz.t129) (z := Tryz.t129.zero.getD .nilIface) (by kernel_rfl) Tryz.underlying129 (by kernel_rfl) (by kernel_rfl) (by kernel_rfl) (by kernel_rfl) (by kernel_rfl)
theorem tg130 : TGood Tryz.prog 130 ti130 := tgood (j := Tryz.t130) (z := Tryz.t130.zero.getD .nilIface) (by kernel_rfl) Tryz.underlying130 (by kernel_rfl) (by kernel_rfl) (by kernel_rfl) (by kernel_rfl) (by kernel_rfl)
theorem tg131 : TGood Tryz.prog 131 ti131 := tgood (j := Tryz.t131) (z := Tryz.t131.zero.getD .nilIface) (by kernel_rfl) Tryz.underlying131 (by kernel_rfl) (by kernel_rfl) (by kernel_rfl) (by kernel_rfl) (by kernel_rfl)
theorem tg132 : TGood Tryz.prog 132 ti132 := tgood (j := Tryz.t132) (z := Tryz.t132.zero.getD .nilIface) (by kernel_rfl) Tryz.underlying132 (by kernel_rfl) (by kernel_rfl) (by kernel_rfl) (by kernel_rfl) (by kernel_rfl)
theorem tg133 : TGood Tryz.prog 133 ti133 := tgood (j := Tryz.t133) (z := Tryz.t133.zero.getD .nilIface) (by kernel_rfl) Tryz.underlying133 (by kernel_rfl) (by kernel_rfl) (by kernel_rfl) (by kernel_rfl) (by kernel_rfl)
theorem tg134 : TGood Tryz.prog 134 ti134 := tgood (j := Tryz.t134) (z := Tryz.t134.zero.getD .nilIface) (by kernel_rfl) Tryz.underlying134 (by kernel_rfl) (by kernel_rfl) (by kernel_rfl) (by kernel_rfl) (by kernel_rfl)
theorem tg135 : TGood Tryz.prog 135 ti135 := tgood (j := Tryz.t135) (z := Tryz.t135.zero.getD .nilIface) (by kernel_rfl) Tryz.underlying135 (by kernel_rfl) (by kernel_rfl) (by kernel_rfl) (by kernel_rfl) (by kernel_rfl)
theorem tg136 : TGood Tryz.prog 136 ti136 := tgood (j := Tryz.t136) (z := Tryz.t136.zero.getD .nilIface) (by kernel_rfl) Tryz.underlying136 (by kernel_rfl) (by kernel_rfl) (by kernel_rfl) (by kernel_rfl) (by kernel_rfl)
theorem tg137 : TGood Tryz.prog 137 ti137 := tgood (j := Tryz.t137) (z := Tryz.t137.zero.getD .nilIface) (by kernel_rfl) Tryz.underlying137 (by kernel_rfl) (by kernel_rfl) (by kernel_rfl) (by kernel_rfl) (by kernel_rfl)
theorem tg138 : TGood Tryz.prog 138 ti138 := tgood (j := Tryz.t138) (z := Tryz.t138.zero.getD .nilIface) (by kernel_rfl) Tryz.underlying138 (by kernel_rfl) (by kernel_rfl) (by kernel_rfl) (by kernel_rfl) (by kernel_rfl)
theorem tg139 : TGood Tryz.prog 139 ti139 := tgood (j := Tryz.t139) (z := Tryz.t139.zero.getD .nilIface) (by kernel_rfl) Tryz.underlying139 (by kernel_rfl) (by kernel_rfl) (by kernel_rfl) (by kernel_rfl) (by kernel_rfl)
theorem tg140 : TGood Tryz.prog 140 ti140 := tgood (j := Tryz.t140) (z := Tryz.t140.zero.getD .nilIface) (by kernel_rfl) Tryz.underlying140 (by kernel_rfl) (by kernel_rfl) (by kernel_rfl) (by kernel_rfl) (by kernel_rfl)
theorem tg141 : TGood Tryz.prog 141 ti141 := tgood (j := Tryz.t141) (z := Tryz.t141.zero.getD .nilIface) (by kernel_rfl) Tryz.underlying141 (by kernel_rfl) (by kernel_rfl) (by kernel_rfl) (by kernel_rfl) (by kernel_rfl)
theorem tg142 : TGood Tryz.prog 142 ti142 := tgood (j := Tryz.t142) (z := Tryz.t142.zero.getD .nilIface) (by kernel_rfl) Tryz.underlying142 (by kernel_rfl) (by kernel_rfl) (by kernel_rfl) (by kernel_rfl) (by kernel_rfl)
theorem tg143 : TGood Tryz.prog 143 ti143 := tgood (j := Tryz.t143) (z := Tryz.t143.zero.getD .nilIface) (by kernel_rfl) Tryz.underlying143 (by kernel_rfl) (by kernel_rfl) (by kernel_rfl) (by kernel_rfl) (by kernel_rfl)
theorem tg144 : TGood Tryz.prog 144 ti144 := tgood (j := Tryz.t144) (z := Tryz.t144.zero.getD .nilIface) (by kernel_rfl) Tryz.underlying144 (by kernel_rfl) (by kernel_rfl) (by kernel_rfl) (by kernel_rfl) (by kernel_rfl)
theorem tg145 : TGood Tryz.prog 145 ti145 := tgood (j := Tryz.t145) (z := Tryz.t145.zero.getD .nilIface) (by kernel_rfl) Tryz.underlying145 (by kernel_rfl) (by kernel_rfl) (by kernel_rfl) (by kernel_rfl) (by kernel_rfl)
theorem tg146 : TGood Tryz.prog 146 ti146 := tgood (j := Tryz.t146) (z := Tryz.t146.zero.getD .nilIface) (by kernel_rfl) Tryz.underlying146 (by kernel_rfl) (by kernel_rfl) (by kernel_rfl) (by kernel_rfl) (by kernel_rfl)
theorem tg147 : TGood Tryz.prog 147 ti147 := tgood (j := Tryz.t147) (z := Tryz.t147.zero.getD .nilIface) (by kernel_rfl) Tryz.underlying147 (by kernel_rfl) (by kernel_rfl) (by kernel_rfl) (by kernel_rfl) (by kernel_rfl)
theorem tg148 : TGood Tryz.prog 148 ti148 := tgood (j := Tryz.t148) (z := Tryz.t148.zero.getD .nilIface) (by kernel_rfl) Tryz.underlying148 (by kernel_rfl) (by kernel_rfl) (by kernel_rfl) (by kernel_rfl) (by kernel_rfl)
theorem tg149 : TGood Tryz.prog 149 ti149 := tgood (j := Tryz.t149) (z := Tryz.t149.zero.getD .nilIface) (by kernel_rfl) Tryz.underlying149 (by kernel_rfl) (by kernel_rfl) (by kernel_rfl) (by kernel_rfl) (by kernel_rfl)
theorem tg150 : TGood Tryz.prog 150 ti150 := tgood (j := Tryz.t150) (z := Tryz.t150.zero.getD .nilIface) (by kernel_rfl) Tryz.underlying150 (by kernel_rfl) (by kernel_rfl) (by kernel_rfl) (by kernel_rfl) (by kernel_rfl)
theorem tg151 : TGood Tryz.prog 151 ti151 := tgood (j := Tryz.t151) (z := Tryz.t151.zero.getD .nilIface) (by kernel_rfl) Tryz.underlying151 (by kernel_rfl) (by kernel_rfl) (by kernel_rfl) (by kernel_rfl) (by kernel_rfl)
theorem tg152 : TGood Tryz.prog 152 ti152 := tgood (j := Tryz.t152) (z := Tryz.t152.zero.getD .nilIface) (by kernel_rfl) Tryz.underlying152 (by kernel_rfl) (by kernel_rfl) (by kernel_rfl) (by kernel_rfl) (by kernel_rfl)
theorem tg153 : TGood Tryz.prog 153 ti153 := tgood (j := Tryz.t153) (z := Tryz.t153.zero.getD .nilIface) (by kernel_rfl) Tryz.underlying153 (by kernel_rfl) (by kernel_rfl) (by kernel_rfl) (by kernel_rfl) (by kernel_rfl)
theorem tg154 : TGood Tryz.prog 154 ti154 := tgood (j := Tryz.t154) (z := Tryz.t154.zero.getD .nilIface) (by kernel_rfl) Tryz.underlying154 (by kernel_rfl) (by kernel_rfl) (by kernel_rfl) (by kernel_rfl) (by kernel_rfl)
theorem tg155 : TGood Tryz.prog 155 ti155 := tgood (j := Tryz.t155) (z := Tryz.t155.zero.getD .nilIface) (by kernel_rfl) Tryz.underlying155 (by kernel_rfl) (by kernel_rfl) (by kernel_rfl) (by kernel_rfl) (by kernel_rfl)
theorem tg156 : TGood Tryz.prog 156 ti156 := tgood (j := Tryz.t156) (z := Tryz.t156.zero.getD .nilIface) (by kernel_rfl) Tryz.underlying156 (by kernel_rfl) (by kernel_rfl) (by kernel_rfl) (by kernel_rfl) (by kernel_rfl)
theorem tg157 : TGood Tryz.prog 157 ti157 := tgood (j := Tryz.t157) (z := Tryz.t157.zero.getD .nilIface) (by kernel_rfl) Tryz.underlying157 (by kernel_rfl) (by kernel_rfl) (by kernel_rfl) (by kernel_rfl) (by kernel_rfl)
theorem tg158 : TGood Tryz.prog 158 ti158 := tgood (j := Tryz.t158) (z := Tryz.t158.zero.getD .nilIface) (by kernel_rfl) Tryz.underlying158 (by kernel_rfl) (by kernel_rfl) (by kernel_rfl) (by kernel_rfl) (by kernel_rfl)
theorem tg159 : TGood Tryz.prog 159 ti159 := tgood (j := Tryz.t159) (z := Tryz.t159.zero.getD .nilIface) (by kernel_rfl) Tryz.underlying159 (by kernel_rfl) (by kernel_rfl) (by kernel_rfl) (by kernel_rfl) (by kernel_rfl)
theorem tg160 : TGood Tryz.prog 160 ti160 := tgood (j := Tryz.t160) (z := Tryz.t160.zero.getD .nilIface) (by kernel_rfl) Tryz.underlying160 (by kernel_rfl) (by kernel_rfl) (by kernel_rfl) (by kernel_rfl) (by kernel_rfl)
theorem tg161 : TGood Tryz.prog 161 ti161 := tgood (j := Tryz.t161) (z := Tryz.t161.zero.getD .nilIface) (by kernel_rfl) Tryz.underlying161 (by kernel_rfl) (by kernel_rfl) (by kernel_rfl) (by kernel_rfl) (by kernel_rfl)
theorem tg162 : TGood Tryz.prog 162 ti162 := tgood (j := Tryz.t162) (z := Tryz.t162.zero.getD .nilIface) (by kernel_rfl) Tryz.underlying162 (by kernel_rfl) (by kernel_rfl) (by kernel_rfl) (by kernel_rfl) (by kernel_rfl)
theorem tg163 : TGood Tryz.prog 163 ti163 := tgood (j := Tryz.t163) (z := Tryz.t163.zero.getD .nilIface) (by kernel_rfl) Tryz.underlying163 (by kernel_rfl) (by kernel_rfl) (by kernel_rfl) (by kernel_rfl) (by kernel_rfl)
theorem tg164 : TGood Tryz.prog 164 ti164 := tgood (j := Tryz.t164) (z := Tryz.t164.zero.getD .nilIface) (by kernel_rfl) Tryz.underlying164 (by kernel_rfl) (by kernel_rfl) (by kernel_rfl) (by kernel_rfl) (by kernel_rfl)
theorem tg165 : TGood Tryz.prog 165 ti165 := tgood (j := Tryz.t165) (z := Tryz.t165.zero.getD .nilIface) (by kernel_rfl) Tryz.underlying165 (by kernel_rfl) (by kernel_rfl) (by kernel_rfl) (by kernel_rfl) (by kernel_rfl)
theorem tg166 : TGood Tryz.prog 166 ti166 := tgood (j := Tryz.t166) (z := Tryz.t166.zero.getD .nilIface) (by kernel_rfl) Tryz.underlying166 (by kernel_rfl) (by kernel_rfl) (by kernel_rfl) (by kernel_rfl) (by kernel_rfl)
theorem tg167 : TGood Tryz.prog 167 ti167 := tgood (j := Tryz.t167) (z := Tryz.t167.zero.getD .nilIface) (by kernel_rfl) Tryz.underlying167 (by kernel_rfl) (by kernel_rfl) (by kernel_rfl) (by kernel_rfl) (by kernel_rfl)
theorem tg168 : TGood Tryz.prog 168 ti168 := tgood (j := Tryz.t168) (z := Tryz.t168.zero.getD .nilIface) (by kernel_rfl) Tryz.underlying168 (by kernel_rfl) (by kernel_rfl) (by kernel_rfl) (by kernel_rfl) (by kernel_rfl)
theorem tg169 : TGood Tryz.prog 169 ti169 := tgood (j := Tryz.t169) (z := Tryz.t169.zero.getD .nilIface) (by kernel_rfl) Tryz.underlying169 (by kernel_rfl) (by kernel_rfl) (by kernel_rfl) (by kernel_rfl) (by kernel_rfl)
theorem tg170 : TGood Tryz.prog 170 ti170 := tgood (j := Tryz.t170) (z := Tryz.t170.zero.getD .nilIface) (by kernel_rfl) Tryz.underlying170 (by kernel_rfl) (by kernel_rfl) (by kernel_rfl) (by kernel_rfl) (by kernel_rfl)
theorem tg171 : TGood Tryz.prog 171 ti171 := tgood (j := Tryz.t171) (z := Tryz.t171.zero.getD .nilIface) (by kernel_rfl) Tryz.underlying171 (by kernel_rfl) (by kernel_rfl) (by kernel_rfl) (by kernel_rfl) (by kernel_rfl)
theorem tg172 : TGood Tryz.prog 172 ti172 := tgood (j := Tryz.t172) (z := Tryz.t172.zero.getD .nilIface) (by kernel_rfl) Tryz.underlying172 (by kernel_rfl) (by kernel_rfl) (by kernel_rfl) (by kernel_rfl) (by kernel_rfl)
theorem tg173 : TGood Tryz.prog 173 ti173 := tgood (j := Tryz.t173) (z := Tryz.t173.zero.getD .nilIface) (by kernel_rfl) Tryz.underlying173 (by kernel_rfl) (by kernel_rfl) (by kernel_rfl) (by kernel_rfl) (by kernel_rfl)
theorem tg174 : TGood Tryz.prog 174 ti174 := tgood (j := Tryz.t174) (z := Tryz.t174.zero.getD .nilIface) (by kernel_rfl) Tryz.underlying174 (by kernel_rfl) (by kernel_rfl) (by kernel_rfl) (by kernel_rfl) (by kernel_rfl)
theorem tg175 : TGood Tryz.prog 175 ti175 := tgood (j := Tryz.t175) (z := Tryz.t175.zero.getD .nilIface) (by kernel_rfl) Tryz.underlying175 (by kernel_rfl) (by kernel_rfl) (by kernel_rfl) (by kernel_rfl) (by kernel_rfl)
theorem tg176 : TGood Tryz.prog 176 ti176 := tgood (j := Tryz.t176) (z := Tryz.t176.zero.getD .nilIface) (by kernel_rfl) Tryz.underlying176 (by kernel_rfl) (by kernel_rfl) (by kernel_rfl) (by kernel_rfl) (by kernel_rfl)
theorem tg177 : TGood Tryz.prog 177 ti177 := tgood (j := Tryz.t177) (z := Tryz.t177.zero.getD .nilIface) (by kernel_rfl) Tryz.underlying177 (by kernel_rfl) (by kernel_rfl) (by kernel_rfl) (by kernel_rfl) (by kernel_rfl)
theorem tg178 : TGood Tryz.prog 178 ti178 := tgood (j := Tryz.t178) (z := Tryz.t178.zero.getD .nilIface) (by kernel_rfl) Tryz.underlying178 (by kernel_rfl) (by kernel_rfl) (by kernel_rfl) (by kernel_rfl) (by kernel_rfl)
theorem tg179 : TGood Tryz.prog 179 ti179 := tgood (j := Tryz.t179) (z := Tryz.t179.zero.getD .nilIface) (by kernel_rfl) Tryz.underlying179 (by kernel_rfl) (by kernel_rfl) (by kernel_rfl) (by kernel_rfl) (by kernel_rfl)
theorem tg180 : TGood Tryz.prog 180 ti180 := tgood (j := Tryz.t180) (z := Tryz.t180.zero.getD .nilIface) (by kernel_rfl) Tryz.underlying180 (by kernel_rfl) (by kernel_rfl) (by kernel_rfl) (by kernel_rfl) (by kernel_rfl)
theorem tg181 : TGood Tryz.prog 181 ti181 := tgood (j := Tryz.t181) (z := Tryz.t181.zero.getD .nilIface) (by kernel_rfl) Tryz.underlying181 (by kernel_rfl) (by kernel_rfl) (by kernel_rfl) (by kernel_rfl) (by kernel_rfl)
theorem tg182 : TGood Tryz.prog 182 ti182 := tgood (j := Tryz.t182) (z := Tryz.t182.zero.getD .nilIface) (by kernel_rfl) Tryz.underlying182 (by kernel_rfl) (by kernel_rfl) (by kernel_rfl) (by kernel_rfl) (by kernel_rfl)
theorem tg183 : TGood Tryz.prog 183 ti183 := tgood (j := Tryz.t183) (z := Tryz.t183.zero.getD .nilIface) (by kernel_rfl) Tryz.underlying183 (by kernel_rfl) (by kernel_rfl) (by kernel_rfl) (by kernel_rfl) (by kernel_rfl)
theorem tg184 : TGood Tryz.prog 184 ti184 := tgood (j := Tryz.t184) (z := Tryz.t184.zero.getD .nilIface) (by kernel_rfl) Tryz.underlying184 (by kernel_rfl) (by kernel_rfl) (by kernel_rfl) (by kernel_rfl) (by kernel_rfl)
theorem tg185 : TGood Tryz.prog 185 ti185 := tgood (j := Tryz.t185) (z := Tryz.t185.zero.getD .nilIface) (by kernel_rfl) Tryz.underlying185 (by kernel_rfl) (by kernel_rfl) (by kernel_rfl) (by kernel_rfl) (by kernel_rfl)
theorem tg187 : TGood Tryz.prog 187 ti187 := tgood (j := Tryz.t187) (z := Tryz.t187.zero.getD .nilIface) (by kernel_rfl) Tryz.underlying187 (by kernel_rfl) (by kernel_rfl) (by kernel_rfl) (by kernel_rfl) (by kernel_rfl)
theorem tg188 : TGood Tryz.prog 188 ti188 := tgood (j := Tryz.t188) (z := Tryz.t188.zero.getD .nilIface) (by kernel_rfl) Tryz.underlying188 (by kernel_rfl) (by kernel_rfl) (by kernel_rfl) (by kernel_rfl) (by kernel_rfl)
theorem tg189 : TGood Tryz.prog 189 ti189 := tgood (j := Tryz.t189) (z := Tryz.t189.zero.getD .nilIface) (by kernel_rfl) Tryz.underlying189 (by kernel_rfl) (by kernel_rfl) (by kernel_rfl) (by kernel_rfl) (by kernel_rfl)
theorem tg190 : TGood Tryz.prog 190 ti190 := tgood (j := Tryz.t190) (z := Tryz.t190.zero.getD .nilIface) (by kernel_rfl) Tryz.underlying190 (by kernel_rfl) (by kernel_rfl) (by kernel_rfl) (by kernel_rfl) (by kernel_rfl)
theorem tg192 : TGood Tryz.prog 192 ti192 := tgood (j := Tryz.t192) (z := Tryz.t192.zero.getD .nilIface) (by kernel_rfl) Tryz.underlying192 (by kernel_rfl) (by kernel_rfl) (by kernel_rfl) (by kernel_rfl) (by kernel_rfl)
theorem tg193 : TGood Tryz.prog 193 ti193 := tgood (j := Tryz.t193) (z := Tryz.t193.zero.getD .nilIface) (by kernel_rfl) Tryz.underlying193 (by kernel_rfl) (by kernel_rfl) (by kernel_rfl) (by kernel_rfl) (by kernel_rfl)
theorem tg194 : TGood Tryz.prog 194 ti194 := tgood (j := Tryz.t194) (z := Tryz.t194.zero.getD .nilIface) (by kernel_rfl) Tryz.underlying194 (by kernel_rfl) (by kernel_rfl) (by kernel_rfl) (by kernel_rfl) (by kernel_rfl)
theorem tg195 : TGood Tryz.prog 195 ti195 := tgood (j := Tryz.t195) (z := Tryz.t195.zero.getD .nilIface) (by kernel_rfl) Tryz.underlying195 (by kernel_rfl) (by kernel_rfl) (by kernel_rfl) (by kernel_rfl) (by kernel_rfl)
theorem tg196 : TGood Tryz.prog 196 ti196 := tgood (j := Tryz.t196) (z := Tryz.t196.zero.getD .nilIface) (by kernel_rfl) Tryz.underlying196 (by kernel_rfl) (by kernel_rfl) (by kernel_rfl) (by kernel_rfl) (by kernel_rfl)
theorem tg198 : TGood Tryz.prog 198 ti198 := tgood (j := Tryz.t198) (z := Tryz.t198.zero.getD .nilIface) (by kernel_rfl) Tryz.underlying198 (by kernel_rfl) (by kernel_rfl) (by kernel_rfl) (by kernel_rfl) (by kernel_rfl)
theorem tg200 : TGood Tryz.prog 200 ti200 := tgood (j := Tryz.t200) (z := Tryz.t200.zero.getD .nilIface) (by kernel_rfl) Tryz.underlying200 (by kernel_rfl) (by kernel_rfl) (by kernel_rfl) (by kernel_rfl) (by kernel_rfl)
theorem tg201 : TGood Tryz.prog 201 ti201 := tgood (j := Tryz.t201) (z := Tryz.t201.zero.getD .nilIface) (by kernel_rfl) Tryz.underlying201 (by kernel_rfl) (by kernel_rfl) (by kernel_rfl) (by kernel_rfl) (by kernel_rfl)
theorem tg203 : TGood Tryz.prog 203 ti203 := tgood (j := Tryz.t203) (z := Tryz.t203.zero.getD .nilIface) (by kernel_rfl) Tryz.underlying203 (by kernel_rfl) (by kernel_rfl) (by kernel_rfl) (by kernel_rfl) (by kernel_rfl)
theorem tg204 : TGood Tryz.prog 204 ti204 := tgood (j := Tryz.t204) (z := Tryz.t204.zero.getD .nilIface) (by kernel_rfl) Tryz.underlying204 (by kernel_rfl) (by kernel_rfl) (by kernel_rfl) (by kernel_rfl) (by kernel_rfl)
theorem tg206 : TGood Tryz.prog 206 ti206 := tgood (j := Tryz.t206) (z := Tryz.t206.zero.getD .nilIface) (by kernel_rfl) Tryz.underlying206 (by kernel_rfl) (by kernel_rfl) (by kernel_rfl) (by kernel_rfl) (by kernel_rfl)
theorem tg207 : TGood Tryz.prog 207 ti207 := tgood (j := Tryz.t207) (z := Tryz.t207.zero.getD .nilIface) (by kernel_rfl) Tryz.underlying207 (by kernel_rfl) (by kernel_rfl) (by kernel_rfl) (by kernel_rfl) (by kernel_rfl)
theorem tg209 : TGood Tryz.prog 209 ti209 := tgood (j := Tryz.t209) (z := Tryz.t209.zero.getD .nilIface) (by kernel_rfl) Tryz.underlying209 (by kernel_rfl) (by kernel_rfl) (by kernel_rfl) (by kernel_rfl) (by kernel_rfl)
theorem tg210 : TGood Tryz.prog 210 ti210 := tgood (j := Tryz.t210) (z := Tryz.t210.zero.getD .nilIface) (by kernel_rfl) Tryz.underlying210 (by kernel_rfl) (by kernel_rfl) (by kernel_rfl) (by kernel_rfl) (by kernel_rfl)
theorem tg211 : TGood Tryz.prog 211 ti211 := tgood (j := Tryz.t211) (z := Tryz.t211.zero.getD .nilIface) (by kernel_rfl) Tryz.underlying211 (by kernel_rfl) (by kernel_rfl) (by kernel_rfl) (by kernel_rfl) (by kernel_rfl)
theorem tg213 : TGood Tryz.prog 213 ti213 := tgood (j := Tryz.t213) (z := Tryz.t213.zero.getD .nilIface) (by kernel_rfl) Tryz.underlying213 (by kernel_rfl) (by kernel_rfl) (by kernel_rfl) (by kernel_rfl) (by kernel_rfl)
theorem tg214 : TGood Tryz.prog 214 ti214 := tgood (j := Tryz.t214) (z := Tryz.t214.zero.getD .nilIface) (by kernel_rfl) Tryz.underlying214 (by kernel_rfl) (by kernel_rfl) (by kernel_rfl) (by kernel_rfl) (by kernel_rfl)
theorem tg215 : TGood Tryz.prog 215 ti215 := tgood (j := Tryz.t215) (z := Tryz.t215.zero.getD .nilIface) (by kernel_rfl) Tryz.underlying215 (by kernel_rfl) (by kernel_rfl) (by kernel_rfl) (by kernel_rfl) (by kernel_rfl)
theorem tg216 : TGood Tryz.prog 216 ti216 := tgood (j := Tryz.t216) (z := Tryz.t216.zero.getD .nilIface) (by kernel_rfl) Tryz.underlying216 (by kernel_rfl) (by kernel_rfl) (by kernel_rfl) (by kernel_rfl) (by kernel_rfl)
theorem tg217 : TGood Tryz.prog 217 ti217 := tgood (j := Tryz.t217) (z := Tryz.t217.zero.getD .nilIface) (by kernel_rfl) Tryz.underlying217 (by kernel_rfl) (by kernel_rfl) (by kernel_rfl) (by kernel_rfl) (by kernel_rfl)
theorem tg218 : TGood Tryz.prog 218 ti218 := tgood (j := Tryz.t218) (z := Tryz.t218.zero.getD .nilIface) (by kernel_rfl) Tryz.underlying218 (by kernel_rfl) (by kernel_rfl) (by kernel_rfl) (by kernel_rfl) (by kernel_rfl)
theorem tg219 : TGood Tryz.prog 219 ti219 := tgood (j := Tryz.t219) (z := Tryz.t219.zero.getD .nilIface) (by kernel_rfl) Tryz.underlying219 (by kernel_rfl) (by kernel_rfl) (by kernel_rfl) (by kernel_rfl) (by kernel_rfl)
theorem tg220 : TGood Tryz.prog 220 ti220 := tgood (j := Tryz.t220) (z := Tryz.t220.zero.getD .nilIface) (by kernel_rfl) Tryz.underlying220 (by kernel_rfl) (by kernel_rfl) (by kernel_rfl) (by kernel_rfl) (by kernel_rfl)
theorem tg221 : TGood Tryz.prog 221 ti221 := tgood (j := Tryz.t221) (z := Tryz.t221.zero.getD .nilIface) (by kernel_rfl) Tryz.underlying221 (by kernel_rfl) (by kernel_rfl) (by kernel_rfl) (by kernel_rfl) (by kernel_rfl)
theorem tg222 : TGood Tryz.prog 222 ti222 := tgood (j := Tryz.t222) (z := Tryz.t222.zero.getD .nilIface) (by kernel_rfl) Tryz.underlying222 (by kernel_rfl) (by kernel_rfl) (by kernel_rfl) (by kernel_rfl) (by kernel_rfl)
theorem tg223 : TGood Tryz.prog 223 ti223 := tgood (j := Tryz.t223) (z := Tryz.t223.zero.getD .nilIface) (by kernel_rfl) Tryz.underlying223 (by kernel_rfl) (by kernel_rfl) (by kernel_rfl) (by kernel_rfl) (by kernel_rfl)
theorem tg225 : TGood Tryz.prog 225 ti225 := tgood (j := Tryz.t225) (z := Tryz.t225.zero.getD .nilIface) (by kernel_rfl) Tryz.underlying225 (by kernel_rfl) (by kernel_rfl) (by kernel_rfl) (by kernel_rfl) (by kernel_rfl)
theorem tg226 : TGood Tryz.prog 226 ti226 := tgood (j := Tryz.t226) (z := Tryz.t226.zero.getD .nilIface) (by kernel_rfl) Tryz.underlying226 (by kernel_rfl) (by kernel_rfl) (by kernel_rfl) (by kernel_rfl) (by kernel_rfl)
theorem tg227 : TGood Tryz.prog 227 ti227 := tgood (j := Tryz.t227) (z := Tryz.t227.zero.getD .nilIface) (by kernel_rfl) Tryz.underlying227 (by kernel_rfl) (by kernel_rfl) (by kernel_rfl) (by kernel_rfl) (by kernel_rfl)
theorem tg228 : TGood Tryz.prog 228 ti228 := tgood (j := Tryz.t228) (z := Tryz.t228.zero.getD .nilIface) (by kernel_rfl) Tryz.underlying228 (by kernel_rfl) (by kernel_rfl) (by kernel_rfl) (by kernel_rfl) (by kernel_rfl)
theorem tg229 : TGood Tryz.prog 229 ti229 := tgood (j := Tryz.t229) (z := Tryz.t229.zero.getD .nilIface) (by kernel_rfl) Tryz.underlying229 (by kernel_rfl) (by kernel_rfl) (by kernel_rfl) (by kernel_rfl) (by kernel_rfl)
theorem tg230 : TGood Tryz.prog 230 ti230 := tgood (j := Tryz.t230) (z := Tryz.t230.zero.getD .nilIface) (by kernel_rfl) Tryz.underlying230 (by kernel_rfl) (by kernel_rfl) (by kernel_rfl) (by kernel_rfl) (by kernel_rfl)
theorem tg231 : TGood Tryz.prog 231 ti231 := tgood (j := Tryz.t231) (z := Tryz.t231.zero.getD .nilIface) (by kernel_rfl) Tryz.underlying231 (by kernel_rfl) (by kernel_rfl) (by kernel_rfl) (by kernel_rfl) (by kernel_rfl)
theorem tg232 : TGood Tryz.prog 232 ti232 := tgood (j := Tryz.t232) (z := Tryz.t232.zero.getD .nilIface) (by kernel_rfl) Tryz.underlying232 (by kernel_rfl) (by kernel_rfl) (by kernel_rfl) (by kernel_rfl) (by kernel_rfl)
theorem tg233 : TGood Tryz.prog 233 ti233 := tgood (j := Tryz.t233) (z := Tryz.t233.zero.getD .nilIface) (by kernel_rfl) Tryz.underlying233 (by kernel_rfl) (by kernel_rfl) (by kernel_rfl) (by kernel_rfl) (by kernel_rfl)
theorem tg235 : TGood Tryz.prog 235 ti235 := tgood (j := Tryz.t235) (z := Tryz.t235.zero.getD .nilIface) (by kernel_rfl) Tryz.underlying235 (by kernel_rfl) (by kernel_rfl) (by kernel_rfl) (by kernel_rfl) (by kernel_rfl)
theorem tg236 : TGood Tryz.prog 236 ti236 := tgood (j := Tryz.t236) (z := Tryz.t236.zero.getD .nilIface) (by kernel_rfl) Tryz.underlying236 (by kernel_rfl) (by kernel_rfl) (by kernel_rfl) (by kernel_rfl) (by kernel_rfl)
theorem tg237 : TGood Tryz.prog 237 ti237 := tgood (j := Tryz.t237) (z := Tryz.t237.zero.getD .nilIface) (by kernel_rfl) Tryz.underlying237 (by kernel_rfl) (by kernel_rfl) (by kernel_rfl) (by kernel_rfl) (by kernel_rfl)
theorem tg238 : TGood Tryz.prog 238 ti238 := tgood (j := Tryz.t238) (z := Tryz.t238.zero.getD .nilIface) (by kernel_rfl) Tryz.underlying238 (by kernel_rfl) (by kernel_rfl) (by kernel_rfl) (by kernel_rfl) (by kernel_rfl)
theorem tg239 : TGood Tryz.prog 239 ti239 := tgood (j := Tryz.t239) (z := Tryz.t239.zero.getD .nilIface) (by kernel_rfl) Tryz.underlying239 (by kernel_rfl) (by kernel_rfl) (by kernel_rfl) (by kernel_rfl) (by kernel_rfl)
theorem tg240 : TGood Tryz.prog 240 ti240 := tgood (j := Tryz.t240) (z := Tryz.t240.zero.getD .nilIface) (by kernel_rfl) Tryz.underlying240 (by kernel_rfl) (by kernel_rfl) (by kernel_rfl) (by kernel_rfl) (by kernel_rfl)
theorem tg242 : TGood Tryz.prog 242 ti242 := tgood (j := Tryz.t242) (z := Tryz.t242.zero.getD .nilIface) (by kernel_rfl) Tryz.underlying242 (by kernel_rfl) (by kernel_rfl) (by kernel_rfl) (by kernel_rfl) (by kernel_rfl)
theorem tg243 : TGood Tryz.prog 243 ti243 := tgood (j := Tryz.t243) (z := Tryz.t243.zero.getD .nilIface) (by kernel_rfl) Tryz.underlying243 (by kernel_rfl) (by kernel_rfl) (by kernel_rfl) (by kernel_rfl) (by kernel_rfl)
theorem tg244 : TGood Tryz.prog 244 ti244 := tgood (j := Tryz.t244) (z := Tryz.t244.zero.getD .nilIface) (by kernel_rfl) Tryz.underlying244 (by kernel_rfl) (by kernel_rfl) (by kernel_rfl) (by kernel_rfl) (by kernel_rfl)
theorem tg245 : TGood Tryz.prog 245 ti245 := tgood (j := Tryz.t245) (z := Tryz.t245.zero.getD .nilIface) (by kernel_rfl) Tryz.underlying245 (by kernel_rfl) (by kernel_rfl) (by kernel_rfl) (by kernel_rfl) (by kernel_rfl)
theorem tg246 : TGood Tryz.prog 246 ti246 := tgood (j := Tryz.t246) (z := Tryz.t246.zero.getD .nilIface) (by kernel_rfl) Tryz.underlying246 (by kernel_rfl) (by kernel_rfl) (by kernel_rfl) (by kernel_rfl) (by kernel_rfl)
theorem tg247 : TGood Tryz.prog 247 ti247 := tgood (j := Tryz.t247) (z := Tryz.t247.zero.getD .nilIface) (by kernel_rfl) Tryz.underlying247 (by kernel_rfl) (by kernel_rfl) (by kernel_rfl) (by kernel_rfl) (by kernel_rfl)
theorem tg248 : TGood Tryz.prog 248 ti248 := tgood (j := Tryz.t248) (z := Tryz.t248.zero.getD .nilIface) (by kernel_rfl) Tryz.underlying248 (by kernel_rfl) (by kernel_rfl) (by kernel_rfl) (by kernel_rfl) (by kernel_rfl)
theorem tg249 : TGood Tryz.prog 249 ti249 := tgood (j := Tryz.t249) (z := Tryz.t249.zero.getD .nilIface) (by kernel_rfl) Tryz.underlying249 (by kernel_rfl) (by kernel_rfl) (by kernel_rfl) (by kernel_rfl) (by kernel_rfl)
theorem tg250 : TGood Tryz.prog 250 ti250 := tgood (j := Tryz.t250) (z := Tryz.t250.zero.getD .nilIface) (by kernel_rfl) Tryz.underlying250 (by kernel_rfl) (by kernel_rfl) (by kernel_rfl) (by kernel_rfl) (by kernel_rfl)
theorem tg251 : TGood Tryz.prog 251 ti251 := tgood (j := Tryz.t251) (z := Tryz.t251.zero.getD .nilIface) (by kernel_rfl) Tryz.underlying251 (by kernel_rfl) (by kernel_rfl) (by kernel_rfl) (by kernel_rfl) (by kernel_rfl)
theorem tg252 : TGood Tryz.prog 252 ti252 := tgood (j := Tryz.t252) (z := Tryz.t252.zero.getD .nilIface) (by kernel_rfl) Tryz.underlying252 (by kernel_rfl) (by kernel_rfl) (by kernel_rfl) (by kernel_rfl) (by kernel_rfl)
theorem tg253 : TGood Tryz.prog 253 ti253 := tgood (j := Tryz.t253) (z := Tryz.t253.zero.getD .nilIface) (by kernel_rfl) Tryz.underlying253 (by kernel_rfl) (by kernel_rfl) (by kernel_rfl) (by kernel_rfl) (by kernel_rfl)
theorem tg254 : TGood Tryz.prog 254 ti254 := tgood (j := Tryz.t254) (z := Tryz.t254.zero.getD .nilIface) (by kernel_rfl) Tryz.underlying254 (by kernel_rfl) (by kernel_rfl) (by kernel_rfl) (by kernel_rfl) (by kernel_rfl)
theorem tg255 : TGood Tryz.prog 255 ti255 := tgood (j := Tryz.t255) (z := Tryz.t255.zero.getD .nilIface) (by kernel_rfl) Tryz.underlying255 (by kernel_rfl) (by kernel_rfl) (by kernel_rfl) (by kernel_rfl) (by kernel_rfl)
theorem tg256 : TGood Tryz.prog 256 ti256 := tgood (j := Tryz.t256) (z := Tryz.t256.zero.getD .nilIface) (by kernel_rfl) Tryz.underlying256 (by kernel_rfl) (by kernel_rfl) (by kernel_rfl) (by kernel_rfl) (by kernel_rfl)
theorem tg257 : TGood Tryz.prog 257 ti257 := tgood (j := Tryz.t257) (z := Tryz.t257.zero.getD .nilIface) (by kernel_rfl) Tryz.underlying257 (by kernel_rfl) (by kernel_rfl) (by kernel_rfl) (by kernel_rfl) (by kernel_rfl)
theorem tg258 : TGood Tryz.prog 258 ti258 := tgood (j := Tryz.t258) (z := Tryz.t258.zero.getD .nilIface) (by kernel_rfl) Tryz.underlying258 (by kernel_rfl) (by kernel_rfl) (by kernel_rfl) (by kernel_rfl) (by kernel_rfl)
theorem tg260 : TGood Tryz.prog 260 ti260 := tgood (j := Tryz.t260) (z := Tryz.t260.zero.getD .nilIface) (by kernel_rfl) Tryz.underlying260 (by kernel_rfl) (by kernel_rfl) (by kernel_rfl) (by kernel_rfl) (by kernel_rfl)
theorem tg261 : TGood Tryz.prog 261 ti261 := tgood (j := Tryz.t261) (z := Tryz.t261.zero.getD .nilIface) (by kernel_rfl) Tryz.underlying261 (by kernel_rfl) (by kernel_rfl) (by kernel_rfl) (by kernel_rfl) (by kernel_rfl)
theorem tg262 : TGood Tryz.prog 262 ti262 := tgood (j := Tryz.t262) (z := Tryz.t262.zero.getD .nilIface) (by kernel_rfl) Tryz.underlying262 (by kernel_rfl) (by kernel_rfl) (by kernel_rfl) (by kernel_rfl) (by kernel_rfl)
theorem tg263 : TGood Tryz.prog 263 ti263 := tgood (j := Tryz.t263) (z := Tryz.t263.zero.getD .nilIface) (by kernel_rfl) Tryz.underlying263 (by kernel_rfl) (by kernel_rfl) (by kernel_rfl) (by kernel_rfl) (by kernel_rfl)
theorem tg264 : TGood Tryz.prog 264 ti264 := tgood (j := Tryz.t264) (z := Tryz.t264.zero.getD .nilIface) (by kernel_rfl) Tryz.underlying264 (by kernel_rfl) (by kernel_rfl) (by kernel_rfl) (by kernel_rfl) (by kernel_rfl)
theorem tg265 : TGood Tryz.prog 265 ti265 := tgood (j := Tryz.t265) (z := Tryz.t265.zero.getD .nilIface) (by kernel_rfl) Tryz.underlying265 (by kernel_rfl) (by kernel_rfl) (by kernel_rfl) (by kernel_rfl) (by kernel_rfl)
theorem tg266 : TGood Tryz.prog 266 ti266 := tgood (j := Tryz.t266) (z := Tryz.t266.zero.getD .nilIface) (by kernel_rfl) Tryz.underlying266 (by kernel_rfl) (by kernel_rfl) (by kernel_rfl) (by kernel_rfl) (by kernel_rfl)
theorem tg267 : TGood Tryz.prog 267 ti267 := tgood (j := Tryz.t267) (z := Tryz.t267.zero.getD .nilIface) (by kernel_rfl) Tryz.underlying267 (by kernel_rfl) (by kernel_rfl) (by kernel_rfl) (by kernel_rfl) (by kernel_rfl)
theorem tg268 : TGood Tryz.prog 268 ti268 := tgood (j := Tryz.t268) (z := Tryz.t268.zero.getD .nilIface) (by kernel_rfl) Tryz.underlying268 (by kernel_rfl) (by kernel_rfl) (by kernel_rfl) (by kernel_rfl) (by kernel_rfl)
theorem tg269 : TGood Tryz.prog 269 ti269 := tgood (j := Tryz.t269) (z := Tryz.t269.zero.getD .nilIface) (by kernel_rfl) Tryz.underlying269 (by kernel_rfl) (by kernel_rfl) (by kernel_rfl) (by kernel_rfl) (by kernel_rfl)
theorem tg270 : TGood Tryz.prog 270 ti270 := tgood (j := Tryz.t270) (z := Tryz.t270.zero.getD .nilIface) (by kernel_rfl) Tryz.underlying270 (by kernel_rfl) (by kernel_rfl) (by kernel_rfl) (by kernel_rfl) (by kernel_rfl)
theorem tg271 : TGood Tryz.prog 271 ti271 := tgood (j := Tryz.t271) (z := Tryz.t271.zero.getD .nilIface) (by kernel_rfl) Tryz.underlying271 (by kernel_rfl) (by kernel_rfl) (by kernel_rfl) (by kernel_rfl) (by kernel_rfl)
theorem tg272 : TGood Tryz.prog 272 ti272 := tgood (j := Tryz.t272) (z := Tryz.t272.zero.getD .nilIface) (by kernel_rfl) Tryz.underlying272 (by kernel_rfl) (by kernel_rfl) (by kernel_rfl) (by kernel_rfl) (by kernel_rfl)
theorem tg273 : TGood Tryz.prog 273 ti273 := tgood (j := Tryz.t273) (z := Tryz.t273.zero.getD .nilIface) (by kernel_rfl) Tryz.underlying273 (by kernel_rfl) (by kernel_rfl) (by kernel_rfl) (by kernel_rfl) (by kernel_rfl)
theorem tg274 : TGood Tryz.prog 274 ti274 := tgood (j := Tryz.t274) (z := Tryz.t274.zero.getD .nilIface) (by kernel_rfl) Tryz.underlying274 (by kernel_rfl) (by kernel_rfl) (by kernel_rfl) (by kernel_rfl) (by kernel_rfl)
theorem tg275 : TGood Tryz.prog 275 ti275 := tgood (j := Tryz.t275) (z := Tryz.t275.zero.getD .nilIface) (by kernel_rfl) Tryz.underlying275 (by kernel_rfl) (by kernel_rfl) (by kernel_rfl) (by kernel_rfl) (by kernel_rfl)
theorem tg276 : TGood Tryz.prog 276 ti276 := tgood (j := Tryz.t276) (z := Tryz.t276.zero.getD .nilIface) (by kernel_rfl) Tryz.underlying276 (by kernel_rfl) (by kernel_rfl) (by kernel_rfl) (by kernel_rfl) (by kernel_rfl)
theorem tg277 : TGood Tryz.prog 277 ti277 := tgood (j := Tryz.t277) (z := Tryz.t277.zero.getD .nilIface) (by kernel_rfl) Tryz.underlying277 (by kernel_rfl) (by kernel_rfl) (by kernel_rfl) (by kernel_rfl) (by kernel_rfl)
theorem tg278 : TGood Tryz.prog 278 ti278 := tgood (j := Tryz.t278) (z := Tryz.t278.zero.getD .nilIface) (by kernel_rfl) Tryz.underlying278 (by kernel_rfl) (by kernel_rfl) (by kernel_rfl) (by kernel_rfl) (by kernel_rfl)
theorem tg279 : TGood Tryz.prog 279 ti279 := tgood (j := Tryz.t279) (z := Tryz.t279.zero.getD .nilIface) (by kernel_rfl) Tryz.underlying279 (by kernel_rfl) (by kernel_rfl) (by kernel_rfl) (by kernel_rfl) (by kernel_rfl)
theorem tg280 : TGood Tryz.prog 280 ti280 := tgood (j := Tryz.t280) (z := Tryz.t280.zero.getD .nilIface) (by kernel_rfl) Tryz.underlying280 (by kernel_rfl) (by kernel_rfl) (by kernel_rfl) (by kernel_rfl) (by kernel_rfl)
theorem tg281 : TGood Tryz.prog 281 ti281 := tgood (j := Tryz.t281) (z := Tryz.t281.zero.getD .nilIface) (by kernel_rfl) Tryz.underlying281 (by kernel_rfl) (by kernel_rfl) (by kernel_rfl) (by kernel_rfl) (by kernel_rfl)
theorem tg282 : TGood Tryz.prog 282 ti282 := tgood (j := Tryz.t282) (z := Tryz.t282.zero.getD .nilIface) (by kernel_rfl) Tryz.underlying282 (by kernel_rfl) (by kernel_rfl) (by kernel_rfl) (by kernel_rfl) (by kernel_rfl)
theorem tg283 : TGood Tryz.prog 283 ti283 := tgood (j := Tryz.t283) (z := Tryz.t283.zero.getD .nilIface) (by kernel_rfl) Tryz.underlying283 (by kernel_rfl) (by kernel_rfl) (by kernel_rfl) (by kernel_rfl) (by kernel_rfl)
theorem tg284 : TGood Tryz.prog 284 ti284 := tgood (j := Tryz.t284) (z := Tryz.t284.zero.getD .nilIface) (by kernel_rfl) Tryz.underlying284 (by kernel_rfl) (by kernel_rfl) (by kernel_rfl) (by kernel_rfl) (by kernel_rfl)
theorem tg285 : TGood Tryz.prog 285 ti285 := tgood (j := Tryz.t285) (z := Tryz.t285.zero.getD .nilIface) (by kernel_rfl) Tryz.underlying285 (by kernel_rfl) (by kernel_rfl) (by kernel_rfl) (by kernel_rfl) (by kernel_rfl)
theorem tg287 : TGood Tryz.prog 287 ti287 := tgood (j := Tryz.t287) (z := Tryz.t287.zero.getD .nilIface) (by kernel_rfl) Tryz.underlying287 (by kernel_rfl) (by kernel_rfl) (by kernel_rfl) (by kernel_rfl) (by kernel_rfl)
theorem tg288 : TGood Tryz.prog 288 ti288 := tgood (j := Tryz.t288) (z := Tryz.t288.zero.getD .nilIface) (by kernel_rfl) Tryz.underlying288 (by kernel_rfl) (by kernel_rfl) (by kernel_rfl) (by kernel_rfl) (by kernel_rfl)
theorem tg289 : TGood Tryz.prog 289 ti289 := tgood (j := Tryz.t289) (z := Tryz.t289.zero.getD .nilIface) (by kernel_rfl) Tryz.underlying289 (by kernel_rfl) (by kernel_rfl) (by kernel_rfl) (by kernel_rfl) (by kernel_rfl)
theorem tg290 : TGood Tryz.prog 290 ti290 := tgood (j := Tryz.t290) (z := Tryz.t290.zero.getD .nilIface) (by kernel_rfl) Tryz.underlying290 (by kernel_rfl) (by kernel_rfl) (by kernel_rfl) (by kernel_rfl) (by kernel_rfl)
theorem tg292 : TGood Tryz.prog 292 ti292 := tgood (j := Tryz.t292) (z := Tryz.t292.zero.getD .nilIface) (by kernel_rfl) Tryz.underlying292 (by kernel_rfl) (by kernel_rfl) (by kernel_rfl) (by kernel_rfl) (by kernel_rfl)
theorem tg293 : TGood Tryz.prog 293 ti293 := tgood (j := Tryz.t293) (z := Tryz.t293.zero.getD .nilIface) (by kernel_rfl) Tryz.underlying293 (by kernel_rfl) (by kernel_rfl) (by kernel_rfl) (by kernel_rfl) (by kernel_rfl)
theorem tg294 : TGood Tryz.prog 294 ti294 := tgood (j := Tryz.t294) (z := Tryz.t294.zero.getD .nilIface) (by kernel_rfl) Tryz.underlying294 (by kernel_rfl) (by kernel_rfl) (by kernel_rfl) (by kernel_rfl) (by kernel_rfl)
theorem tg295 : TGood Tryz.prog 295 ti295 := tgood (j := Tryz.t295) (z := Tryz.t295.zero.getD .nilIface) (by kernel_rfl) Tryz.underlying295 (by kernel_rfl) (by kernel_rfl) (by kernel_rfl) (by kernel_rfl) (by kernel_rfl)
theorem tg296 : TGood Tryz.prog 296 ti296 := tgood (j := Tryz.t296) (z := Tryz.t296.zero.getD .nilIface) (by kernel_rfl) Tryz.underlying296 (by kernel_rfl) (by kernel_rfl) (by kernel_rfl) (by kernel_rfl) (by kernel_rfl)
theorem tg297 : TGood Tryz.prog 297 ti297 := tgood (j := Tryz.t297) (z := Tryz.t297.zero.getD .nilIface) (by kernel_rfl) Tryz.underlying297 (by kernel_rfl) (by kernel_rfl) (by kernel_rfl) (by kernel_rfl) (by kernel_rfl)
theorem tg298 : TGood Tryz.prog 298 ti298 := tgood (j := Tryz.t298) (z := Tryz.t298.zero.getD .nilIface) (by kernel_rfl) Tryz.underlying298 (by kernel_rfl) (by kernel_rfl) (by kernel_rfl) (by kernel_rfl) (by kernel_rfl)
theorem tg299 : TGood Tryz.prog 299 ti299 := tgood (j := Tryz.t299) (z := Tryz.t299.zero.getD .nilIface) (by kernel_rfl) Tryz.underlying299 (by kernel_rfl) (by kernel_rfl) (by kernel_rfl) (by kernel_rfl) (by kernel_rfl)
theorem tg300 : TGood Tryz.prog 300 ti300 := tgood (j := Tryz.t300) (z := Tryz.t300.zero.getD .nilIface) (by kernel_rfl) Tryz.underlying300 (by kernel_rfl) (by kernel_rfl) (by kernel_rfl) (by kernel_rfl) (by kernel_rfl)
theorem tg301 : TGood Tryz.prog 301 ti301 := tgood (j := Tryz.t301) (z := Tryz.t301.zero.getD .nilIface) (by kernel_rfl) Tryz.underlying301 (by kernel_rfl) (by kernel_rfl) (by kernel_rfl) (by kernel_rfl) (by kernel_rfl)
theorem tg302 : TGood Tryz.prog 302 ti302 := tgood (j := Tryz.t302) (z := Tryz.t302.zero.getD .nilIface) (by kernel_rfl) Tryz.underlying302 (by kernel_rfl) (by kernel_rfl) (by kernel_rfl) (by kernel_rfl) (by kernel_rfl)
theorem tg303 : TGood Tryz.prog 303 ti303 := tgood (j := Tryz.t303) (z := Tryz.t303.zero.getD .nilIface) (by kernel_rfl) Tryz.underlying303 (by kernel_rfl) (by kernel_rfl) (by kernel_rfl) (by kernel_rfl) (by kernel_rfl)
theorem tg304 : TGood Tryz.prog 304 ti304 := tgood (j := Tryz.t304) (z := Tryz.t304.zero.getD .nilIface) (by kernel_rfl) Tryz.underlying304 (by kernel_rfl) (by kernel_rfl) (by kernel_rfl) (by kernel_rfl) (by kernel_rfl)
theorem tg305 : TGood Tryz.prog 305 ti305 := tgood (j := Tryz.t305) (z := Tryz.t305.zero.getD .nilIface) (by kernel_rfl) Tryz.underlying305 (by kernel_rfl) (by kernel_rfl) (by kernel_rfl) (by kernel_rfl) (by kernel_rfl)
theorem tg306 : TGood Tryz.prog 306 ti306 := tgood (j := Tryz.t306) (z := Tryz.t306.zero.getD .nilIface) (by kernel_rfl) Tryz.underlying306 (by kernel_rfl) (by kernel_rfl) (by kernel_rfl) (by kernel_rfl) (by kernel_rfl)
theorem tg307 : TGood Tryz.prog 307 ti307 := tgood (j := Tryz.t307) (z := Tryz.t307.zero.getD .nilIface) (by kernel_rfl) Tryz.underlying307 (by kernel_rfl) (by kernel_rfl) (by kernel_rfl) (by kernel_rfl) (by kernel_rfl)
theorem tg308 : TGood Tryz.prog 308 ti308 := tgood (j := Tryz.t308) (z := Tryz.t308.zero.getD .nilIface) (by kernel_rfl) Tryz.underlying308 (by kernel_rfl) (by kernel_rfl) (by kernel_rfl) (by kernel_rfl) (by kernel_rfl)
theorem tg310 : TGood Tryz.prog 310 ti310 := tgood (j := Tryz.t310) (z := Tryz.t310.zero.getD .nilIface) (by kernel_rfl) Tryz.underlying310 (by kernel_rfl) (by kernel_rfl) (by kernel_rfl) (by kernel_rfl) (by kernel_rfl)
theorem tg311 : TGood Tryz.prog 311 ti311 := tgood (j := Tryz.t311) (z := Tryz.t311.zero.getD .nilIface) (by kernel_rfl) Tryz.underlying311 (by kernel_rfl) (by kernel_rfl) (by kernel_rfl) (by kernel_rfl) (by kernel_rfl)
theorem tg312 : TGood Tryz.prog 312 ti312 := tgood (j := Tryz.t312) (z := Tryz.t312.zero.getD .nilIface) (by kernel_rfl) Tryz.underlying312 (by kernel_rfl) (by kernel_rfl) (by kernel_rfl) (by kernel_rfl) (by kernel_rfl)
theorem tg313 : TGood Tryz.prog 313 ti313 := tgood (j := Tryz.t313) (z := Tryz.t313.zero.getD .nilIface) (by kernel_rfl) Tryz.underlying313 (by kernel_rfl) (by kernel_rfl) (by kernel_rfl) (by kernel_rfl) (by kernel_rfl)
theorem tg314 : TGood Tryz.prog 314 ti314 := tgood (j := Tryz.t314) (z := Tryz.t314.zero.getD .nilIface) (by kernel_rfl) Tryz.underlying314 (by kernel_rfl) (by kernel_rfl) (by kernel_rfl) (by kernel_rfl) (by kernel_rfl)
theorem tg315 : TGood Tryz.prog 315 ti315 := tgood (j := Tryz.t315) (z := Tryz.t315.zero.getD .nilIface) (by kernel_rfl) Tryz.underlying315 (by kernel_rfl) (by kernel_rfl) (by kernel_rfl) (by kernel_rfl) (by kernel_rfl)
theorem tg316 : TGood Tryz.prog 316 ti316 := tgood (j := Tryz.t316) (z := Tryz.t316.zero.getD .nilIface) (by kernel_rfl) Tryz.underlying316 (by kernel_rfl) (by kernel_rfl) (by kernel_rfl) (by kernel_rfl) (by kernel_rfl)
theorem tg317 : TGood Tryz.prog 317 ti317 := tgood (j := Tryz.t317) (z := Tryz.t317.zero.getD .nilIface) (by kernel_rfl) Tryz.underlying317 (by kernel_rfl) (by kernel_rfl) (by kernel_rfl) (by kernel_rfl) (by kernel_rfl)
theorem tg318 : TGood Tryz.prog 318 ti318 := tgood (j := Tryz.t318) (z := Tryz.t318.zero.getD .nilIface) (by kernel_rfl) Tryz.underlying318 (by kernel_rfl) (by kernel_rfl) (by kernel_rfl) (by kernel_rfl) (by kernel_rfl)
theorem tg319 : TGood Tryz.prog 319 ti319 := tgood (j := Tryz.t319) (z := Tryz.t319.zero.getD .nilIface) (by kernel_rfl) Tryz.underlying319 (by kernel_rfl) (by kernel_rfl) (by kernel_rfl) (by kernel_rfl) (by kernel_rfl)
theorem tg320 : TGood Tryz.prog 320 ti320 := tgood (j := Tryz.t320) (z := Tryz.t320.zero.getD .nilIface) (by kernel_rfl) Tryz.underlying320 (by kernel_rfl) (by kernel_rfl) (by kernel_rfl) (by kernel_rfl) (by kernel_rfl)
theorem tg322 : TGood Tryz.prog 322 ti322 := tgood (j := Tryz.t322) (z := Tryz.t322.zero.getD .nilIface) (by kernel_rfl) Tryz.underlying322 (by kernel_rfl) (by kernel_rfl) (by kernel_rfl) (by kernel_rfl) (by kernel_rfl)
theorem tg323 : TGood Tryz.prog 323 ti323 := tgood (j := Tryz.t323) (z := Tryz.t323.zero.getD .nilIface) (by kernel_rfl) Tryz.underlying323 (by kernel_rfl) (by kernel_rfl) (by kernel_rfl) (by kernel_rfl) (by kernel_rfl)
theorem tg325 : TGood Tryz.prog 325 ti325 := tgood (j := Tryz.t325) (z := Tryz.t325.zero.getD .nilIface) (by kernel_rfl) Tryz.underlying325 (by kernel_rfl) (by kernel_rfl) (by kernel_rfl) (by kernel_rfl) (by kernel_rfl)
theorem tg326 : TGood Tryz.prog 326 ti326 := tgood (j := Tryz.t326) (z := Tryz.t326.zero.getD .nilIface) (by kernel_rfl) Tryz.underlying326 (by kernel_rfl) (by kernel_rfl) (by kernel_rfl) (by kernel_rfl) (by kernel_rfl)
theorem tg327 : TGood Tryz.prog 327 ti327 := tgood (j := Tryz.t327) (z := Tryz.t327.zero.getD .nilIface) (by kernel_rfl) Tryz.underlying327 (by kernel_rfl) (by kernel_rfl) (by kernel_rfl) (by kernel_rfl) (by kernel_rfl)
theorem tg329 : TGood Tryz.prog 329 ti329 := tgood (j := Tryz.t329) (z := Tryz.t329.zero.getD .nilIface) (by kernel_rfl) Tryz.underlying329 (by kernel_rfl) (by kernel_rfl) (by kernel_rfl) (by kernel_rfl) (by kernel_rfl)
theorem tg330 : TGood Tryz.prog 330 ti330 := tgood (j := Tryz.t330) (z := Tryz.t330.zero.getD .nilIface) (by kernel_rfl) Tryz.underlying330 (by kernel_rfl) (by kernel_rfl) (by kernel_rfl) (by kernel_rfl) (by kernel_rfl)
theorem tg331 : TGood Tryz.prog 331 ti331 := tgood (j := Tryz.t331) (z := Tryz.t331.zero.getD .nilIface) (by kernel_rfl) Tryz.underlying331 (by kernel_rfl) (by kernel_rfl) (by kernel_rfl) (by kernel_rfl) (by kernel_rfl)
theorem tg332 : TGood Tryz.prog 332 ti332 := tgood (j := Tryz.t332) (z := Tryz.t332.zero.getD .nilIface) (by kernel_rfl) Tryz.underlying332 (by kernel_rfl) (by kernel_rfl) (by kernel_rfl) (by kernel_rfl) (by kernel_rfl)
theorem tg333 : TGood Tryz.prog 333 ti333 := tgood (j := Tryz.t333) (z := Tryz.t333.zero.getD .nilIface) (by kernel_rfl) Tryz.underlying333 (by kernel_rfl) (by kernel_rfl) (by kernel_rfl) (by kernel_rfl) (by kernel_rfl)
theorem tg334 : TGood Tryz.prog 334 ti334 := tgood (j := Tryz.t334) (z := Tryz.t334.zero.getD .nilIface) (by kernel_rfl) Tryz.underlying334 (by kernel_rfl) (by kernel_rfl) (by kernel_rfl) (by kernel_rfl) (by kernel_rfl)
theorem tg335 : TGood Tryz.prog 335 ti335 := tgood (j := Tryz.t335) (z := Tryz.t335.zero.getD .nilIface) (by kernel_rfl) Tryz.underlying335 (by kernel_rfl) (by kernel_rfl) (by kernel_rfl) (by kernel_rfl) (by kernel_rfl)
theorem tg337 : TGood Tryz.prog 337 ti337 := tgood (j := Tryz.t337) (z := Tryz.t337.zero.getD .nilIface) (by kernel_rfl) Tryz.underlying337 (by kernel_rfl) (by kernel_rfl) (by kernel_rfl) (by kernel_rfl) (by kernel_rfl)
theorem tg338 : TGood Tryz.prog 338 ti338 := tgood (j := Tryz.t338) (z := Tryz.t338.zero.getD .nilIface) (by kernel_rfl) Tryz.underlying338 (by kernel_rfl) (by kernel_rfl) (by kernel_rfl) (by kernel_rfl) (by kernel_rfl)
theorem tg339 : TGood Tryz.prog 339 ti339 := tgood (j := Tryz.t339) (z := Tryz.t339.zero.getD .nilIface) (by kernel_rfl) Tryz.underlying339 (by kernel_rfl) (by kernel_rfl) (by kernel_rfl) (by kernel_rfl) (by kernel_rfl)
theorem tg340 : TGood Tryz.prog 340 ti340 := tgood (j := Tryz.t340) (z := Tryz.t340.zero.getD .nilIface) (by kernel_rfl) Tryz.underlying340 (by kernel_rfl) (by kernel_rfl) (by kernel_rfl) (by kernel_rfl) (by kernel_rfl)
theorem tg341 : TGood Tryz.prog 341 ti341 := tgood (j := Tryz.t341) (z := Tryz.t341.zero.getD .nilIface) (by kernel_rfl) Tryz.underlying341 (by kernel_rfl) (by kernel_rfl) (by kernel_rfl) (by kernel_rfl) (by kernel_rfl)
theorem tg343 : TGood Tryz.prog 343 ti343 := tgood (j := Tryz.t343) (z := Tryz.t343.zero.getD .nilIface) (by kernel_rfl) Tryz.underlying343 (by kernel_rfl) (by kernel_rfl) (by kernel_rfl) (by kernel_rfl) (by kernel_rfl)
theorem tg344 : TGood Tryz.prog 344 ti344 := tgood (j := Tryz.t344) (z := Tryz.t344.zero.getD .nilIface) (by kernel_rfl) Tryz.underlying344 (by kernel_rfl) (by kernel_rfl) (by kernel_rfl) (by kernel_rfl) (by kernel_rfl)
theorem tg345 : TGood Tryz.prog 345 ti345 := tgood (j := Tryz.t345) (z := Tryz.t345.zero.getD .nilIface) (by kernel_rfl) Tryz.underlying345 (by kernel_rfl) (by kernel_rfl) (by kernel_rfl) (by kernel_rfl) (by kernel_rfl)
theorem tg346 : TGood Tryz.prog 346 ti346 := tgood (j := Tryz.t346) (z := Tryz.t346.zero.getD .nilIface) (by kernel_rfl) Tryz.underlying346 (by kernel_rfl) (by kernel_rfl) (by kernel_rfl) (by kernel_rfl) (by kernel_rfl)
theorem tg347 : TGood Tryz.prog 347 ti347 := tgood (j := Tryz.t347) (z := Tryz.t347.zero.getD .nilIface) (by kernel_rfl) Tryz.underlying347 (by kernel_rfl) (by kernel_rfl) (by kernel_rfl) (by kernel_rfl) (by kernel_rfl)
theorem tg348 : TGood Tryz.prog 348 ti348 := tgood (j := Tryz.t348) (z := Tryz.t348.zero.getD .nilIface) (by kernel_rfl) Tryz.underlying348 (by kernel_rfl) (by kernel_rfl) (by kernel_rfl) (by kernel_rfl) (by kernel_rfl)
theorem tg349 : TGood Tryz.prog 349 ti349 := tgood (j := Tryz.t349) (z := Tryz.t349.zero.getD .nilIface) (by kernel_rfl) Tryz.underlying349 (by kernel_rfl) (by kernel_rfl) (by kernel_rfl) (by kernel_rfl) (by kernel_rfl)
theorem tg350 : TGood Tryz.prog 350 ti350 := tgood (j := Tryz.t350) (z := Tryz.t350.zero.getD .nilIface) (by kernel_rfl) Tryz.underlying350 (by kernel_rfl) (by kernel_rfl) (by kernel_rfl) (by kernel_rfl) (by kernel_rfl)
theorem tg352 : TGood Tryz.prog 352 ti352 := tgood (j := Tryz.t352) (z := Tryz.t352.zero.getD .nilIface) (by kernel_rfl) Tryz.underlying352 (by kernel_rfl) (by kernel_rfl) (by kernel_rfl) (by kernel_rfl) (by kernel_rfl)
theorem tg353 : TGood Tryz.prog 353 ti353 := tgood (j := Tryz.t353) (z := Tryz.t353.zero.getD .nilIface) (by kernel_rfl) Tryz.underlying353 (by kernel_rfl) (by kernel_rfl) (by kernel_rfl) (by kernel_rfl) (by kernel_rfl)
theorem tg354 : TGood Tryz.prog 354 ti354 := tgood (j := Tryz.t354) (z := Tryz.t354.zero.getD .nilIface) (by kernel_rfl) Tryz.underlying354 (by kernel_rfl) (by kernel_rfl) (by kernel_rfl) (by kernel_rfl) (by kernel_rfl)
theorem tg355 : TGood Tryz.prog 355 ti355 := tgood (j := Tryz.t355) (z := Tryz.t355.zero.getD .nilIface) (by kernel_rfl) Tryz.underlying355 (by kernel_rfl) (by kernel_rfl) (by kernel_rfl) (by kernel_rfl) (by kernel_rfl)
theorem tg356 : TGood Tryz.prog 356 ti356 := tgood (j := Tryz.t356) (z := Tryz.t356.zero.getD .nilIface) (by kernel_rfl) Tryz.underlying356 (by kernel_rfl) (by kernel_rfl) (by kernel_rfl) (by kernel_rfl) (by kernel_rfl)
theorem tg357 : TGood Tryz.prog 357 ti357 := tgood (j := Tryz.t357) (z := Tryz.t357.zero.getD .nilIface) (by kernel_rfl) Tryz.underlying357 (by kernel_rfl) (by kernel_rfl) (by kernel_rfl) (by kernel_rfl) (by kernel_rfl)
theorem tg359 : TGood Tryz.prog 359 ti359 := tgood (j := Tryz.t359) (z := Tryz.t359.zero.getD .nilIface) (by kernel_rfl) Tryz.underlying359 (by kernel_rfl) (by kernel_rfl) (by kernel_rfl) (by kernel_rfl) (by kernel_rfl)
theorem tg360 : TGood Tryz.prog 360 ti360 := tgood (j := Tryz.t360) (z := Tryz.t360.zero.getD .nilIface) (by kernel_rfl) Tryz.underlying360 (by kernel_rfl) (by kernel_rfl) (by kernel_rfl) (by kernel_rfl) (by kernel_rfl)
theorem tg361 : TGood Tryz.prog 361 ti361 := tgood (j := Tryz.t361) (z := Tryz.t361.zero.getD .nilIface) (by kernel_rfl) Tryz.underlying361 (by kernel_rfl) (by kernel_rfl) (by kernel_rfl) (by kernel_rfl) (by kernel_rfl)
theorem tg362 : TGood Tryz.prog 362 ti362 := tgood (j := Tryz.t362) (z := Tryz.t362.zero.getD .nilIface) (by kernel_rfl) Tryz.underlying362 (by kernel_rfl) (by kernel_rfl) (by kernel_rfl) (by kernel_rfl) (by kernel_rfl)
theorem tg363 : TGood Tryz.prog 363 ti363 := tgood (j := Tryz.t363) (z := Tryz.t363.zero.getD .nilIface) (by kernel_rfl) Tryz.underlying363 (by kernel_rfl) (by kernel_rfl) (by kernel_rfl) (by kernel_rfl) (by kernel_rfl)
theorem tg364 : TGood Tryz.prog 364 ti364 := tgood (j := Tryz.t364) (z := Tryz.t364.zero.getD .nilIface) (by kernel_rfl) Tryz.underlying364 (by kernel_rfl) (by kernel_rfl) (by kernel_rfl) (by kernel_rfl) (by kernel_rfl)
theorem tg365 : TGood Tryz.prog 365 ti365 := tgood (j := Tryz.t365) (z := Tryz.t365.zero.getD .nilIface) (by kernel_rfl) Tryz.underlying365 (by kernel_rfl) (by kernel_rfl) (by kernel_rfl) (by kernel_rfl) (by kernel_rfl)
theorem tg366 : TGood Tryz.prog 366 ti366 := tgood (j := Tryz.t366) (z := Tryz.t366.zero.getD .nilIface) (by kernel_rfl) Tryz.underlying366 (by kernel_rfl) (by kernel_rfl) (by kernel_rfl) (by kernel_rfl) (by kernel_rfl)
theorem tg367 : TGood Tryz.prog 367 ti367 := tgood (j := Tryz.t367) (z := Tryz.t367.zero.getD .nilIface) (by kernel_rfl) Tryz.underlying367 (by kernel_rfl) (by kernel_rfl) (by kernel_rfl) (by kernel_rfl) (by kernel_rfl)
theorem tg368 : TGood Tryz.prog 368 ti368 := tgood (j := Tryz.t368) (z := Tryz.t368.zero.getD .nilIface) (by kernel_rfl) Tryz.underlying368 (by kernel_rfl) (by kernel_rfl) (by kernel_rfl) (by kernel_rfl) (by kernel_rfl)
theorem tg369 : TGood Tryz.prog 369 ti369 := tgood (j := Tryz.t369) (z := Tryz.t369.zero.getD .nilIface) (by kernel_rfl) Tryz.underlying369 (by kernel_rfl) (by kernel_rfl) (by kernel_rfl) (by kernel_rfl) (by kernel_rfl)
theorem tg370 : TGood Tryz.prog 370 ti370 := tgood (j := Tryz.t370) (z := Tryz.t370.zero.getD .nilIface) (by kernel_rfl) Tryz.underlying370 (by kernel_rfl) (by kernel_rfl) (by kernel_rfl) (by kernel_rfl) (by kernel_rfl)
theorem tg371 : TGood Tryz.prog 371 ti371 := tgood (j := Tryz.t371) (z := Tryz.t371.zero.getD .nilIface) (by kernel_rfl) Tryz.underlying371 (by kernel_rfl) (by kernel_rfl) (by kernel_rfl) (by kernel_rfl) (by kernel_rfl)
theorem tg372 : TGood Tryz.prog 372 ti372 := tgood (j := Tryz.t372) (z := Tryz.t372.zero.getD .nilIface) (by kernel_rfl) Tryz.underlying372 (by kernel_rfl) (by kernel_rfl) (by kernel_rfl) (by kernel_rfl) (by kernel_rfl)
theorem tg373 : TGood Tryz.prog 373 ti373 := tgood (j := Tryz.t373) (z := Tryz.t373.zero.getD .nilIface) (by kernel_rfl) Tryz.underlying373 (by kernel_rfl) (by kernel_rfl) (by kernel_rfl) (by kernel_rfl) (by kernel_rfl)
theorem tg374 : TGood Tryz.prog 374 ti374 := tgood (j := Tryz.t374) (z := Tryz.t374.zero.getD .nilIface) (by kernel_rfl) Tryz.underlying374 (by kernel_rfl) (by kernel_rfl) (by kernel_rfl) (by kernel_rfl) (by kernel_rfl)
theorem tg375 : TGood Tryz.prog 375 ti375 := tgood (j := Tryz.t375) (z := Tryz.t375.zero.getD .nilIface) (by kernel_rfl) Tryz.underlying375 (by kernel_rfl) (by kernel_rfl) (by kernel_rfl) (by kernel_rfl) (by kernel_rfl)
theorem tg376 : TGood Tryz.prog 376 ti376 := tgood (j := Tryz.t376) (z := Tryz.t376.zero.getD .nilIface) (by kernel_rfl) Tryz.underlying376 (by kernel_rfl) (by kernel_rfl) (by kernel_rfl) (by kernel_rfl) (by kernel_rfl)
theorem tg377 : TGood Tryz.prog 377 ti377 := tgood (j := Tryz.t377) (z := Tryz.t377.zero.getD .nilIface) (by kernel_rfl) Tryz.underlying377 (by kernel_rfl) (by kernel_rfl) (by kernel_rfl) (by kernel_rfl) (by kernel_rfl)
theorem tg378 : TGood Tryz.prog 378 ti378 := tgood (j := Tryz.t378) (z := Tryz.t378.zero.getD .nilIface) (by kernel_rfl) Tryz.underlying378 (by kernel_rfl) (by kernel_rfl) (by kernel_rfl) (by kernel_rfl) (by kernel_rfl)
theorem tg379 : TGood Tryz.prog 379 ti379 := tgood (j := Tryz.t379) (z := Tryz.t379.zero.getD .nilIface) (by kernel_rfl) Tryz.underlying379 (by kernel_rfl) (by kernel_rfl) (by kernel_rfl) (by kernel_rfl) (by kernel_rfl)
theorem tg380 : TGood Tryz.prog 380 ti380 := tgood (j := Tryz.t380) (z := Tryz.t380.zero.getD .nilIface) (by kernel_rfl) Tryz.underlying380 (by kernel_rfl) (by kernel_rfl) (by kernel_rfl) (by kernel_rfl) (by kernel_rfl)
theorem tg381 : TGood Tryz.prog 381 ti381 := tgood (j := Tryz.t381) (z := Tryz.t381.zero.getD .nilIface) (by kernel_rfl) Tryz.underlying381 (by kernel_rfl) (by kernel_rfl) (by kernel_rfl) (by kernel_rfl) (by kernel_rfl)
theorem tg382 : TGood Tryz.prog 382 ti382 := tgood (j := Tryz.t382) (z := Tryz.t382.zero.getD .nilIface) (by kernel_rfl) Tryz.underlying382 (by kernel_rfl) (by kernel_rfl) (by kernel_rfl) (by kernel_rfl) (by kernel_rfl)
theorem tg383 : TGood Tryz.prog 383 ti383 := tgood (j := Tryz.t383) (z := Tryz.t383.zero.getD .nilIface) (by kernel_rfl) Tryz.underlying383 (by kernel_rfl) (by kernel_rfl) (by kernel_rfl) (by kernel_rfl) (by kernel_rfl)
theorem tg384 : TGood Tryz.prog 384 ti384 := tgood (j := Tryz.t384) (z := Tryz.t384.zero.getD .nilIface) (by kernel_rfl) Tryz.underlying384 (by kernel_rfl) (by kernel_rfl) (by kernel_rfl) (by kernel_rfl) (by kernel_rfl)
theorem tg385 : TGood Tryz.prog 385 ti385 := tgood (j := Tryz.t385) (z := Tryz.t385.zero.getD .nilIface) (by kernel_rfl) Tryz.underlying385 (by kernel_rfl) (by kernel_rfl) (by kernel_rfl) (by kernel_rfl) (by kernel_rfl)
theorem tg386 : TGood Tryz.prog 386 ti386 := tgood (j := Tryz.t386) (z := Tryz.t386.zero.getD .nilIface) (by kernel_rfl) Tryz.underlying386 (by kernel_rfl) (by kernel_rfl) (by kernel_rfl) (by kernel_rfl) (by kernel_rfl)
theorem tg387 : TGood Tryz.prog 387 ti387 := tgood (j := Tryz.t387) (z := Tryz.t387.zero.getD .nilIface) (by kernel_rfl) Tryz.underlying387 (by kernel_rfl) (by kernel_rfl) (by kernel_rfl) (by kernel_rfl) (by kernel_rfl)
theorem tg388 : TGood Tryz.prog 388 ti388 := tgood (j := Tryz.t388) (z := Tryz.t388.zero.getD .nilIface) (by kernel_rfl) Tryz.underlying388 (by kernel_rfl) (by kernel_rfl) (by kernel_rfl) (by kernel_rfl) (by kernel_rfl)
theorem tg389 : TGood Tryz.prog 389 ti389 := tgood (j := Tryz.t389) (z := Tryz.t389.zero.getD .nilIface) (by kernel_rfl) Tryz.underlying389 (by kernel_rfl) (by kernel_rfl) (by kernel_rfl) (by kernel_rfl) (by kernel_rfl)
theorem tg390 : TGood Tryz.prog 390 ti390 := tgood (j := Tryz.t390) (z := Tryz.t390.zero.getD .nilIface) (by kernel_rfl) Tryz.underlying390 (by kernel_rfl) (by kernel_rfl) (by kernel_rfl) (by kernel_rfl) (by kernel_rfl)
theorem tg391 : TGood Tryz.prog 391 ti391 := tgood (j := Tryz.t391) (z := Tryz.t391.zero.getD .nilIface) (by kernel_rfl) Tryz.underlying391 (by kernel_rfl) (by kernel_rfl) (by kernel_rfl) (by kernel_rfl) (by kernel_rfl)
theorem tg392 : TGood Tryz.prog 392 ti392 := tgood (j := Tryz.t392) (z := Tryz.t392.zero.getD .nilIface) (by kernel_rfl) Tryz.underlying392 (by kernel_rfl) (by kernel_rfl) (by kernel_rfl) (by kernel_rfl) (by kernel_rfl)
theorem tyAll : TrAll (TGood Tryz.prog) TYT id := ⟨⟨⟨⟨⟨⟨⟨⟨⟨trivial, tg255, trivial⟩, tg127, ⟨trivial, tg383, trivial⟩⟩, tg63, ⟨⟨trivial, tg319, trivial⟩, trivial, trivial⟩⟩, tg31, ⟨⟨⟨trivial, tg287, trivial⟩, tg159, trivial⟩, tg95, ⟨trivial, tg223, trivial⟩⟩⟩, tg15, ⟨⟨⟨⟨trivial, tg271, trivial⟩, tg143, trivial⟩, trivial, ⟨⟨trivial, tg335, trivial⟩, tg207, trivial⟩⟩, tg47, ⟨⟨⟨trivial, tg303, trivial⟩, tg175, trivial⟩, tg111, ⟨⟨trivial, tg367, trivial⟩, tg239, trivial⟩⟩⟩⟩, tg7, ⟨⟨⟨⟨⟨trivial, tg263, trivial⟩, tg135, ⟨trivial, tg391, trivial⟩⟩, tg71, ⟨⟨trivial, tg327, trivial⟩, trivial, trivial⟩⟩, tg39, ⟨⟨⟨trivial, tg295, trivial⟩, tg167, trivial⟩, tg103, ⟨⟨trivial, tg359, trivial⟩, tg231, trivial⟩⟩⟩, tg23, ⟨⟨⟨⟨trivial, tg279, trivial⟩, tg151, trivial⟩, tg87, ⟨⟨trivial, tg343, trivial⟩, tg215, trivial⟩⟩, tg55, ⟨⟨⟨trivial, tg311, trivial⟩, tg183, trivial⟩, tg119, ⟨⟨trivial, tg375, trivial⟩, tg247, trivial⟩⟩⟩⟩⟩, tg3, ⟨⟨⟨⟨⟨trivial, tg131, ⟨trivial, tg387, trivial⟩⟩, trivial, ⟨⟨trivial, tg323, trivial⟩, tg195, trivial⟩⟩, tg35, ⟨⟨trivial, tg163, trivial⟩, tg99, ⟨⟨trivial, tg355, trivial⟩, tg227, trivial⟩⟩⟩, tg19, ⟨⟨⟨⟨trivial, tg275, trivial⟩, tg147, trivial⟩, tg83, ⟨⟨trivial, tg339, trivial⟩, tg211, trivial⟩⟩, trivial, ⟨⟨⟨trivial, tg307, trivial⟩, tg179, trivial⟩, tg115, ⟨⟨trivial, tg371, trivial⟩, tg243, trivial⟩⟩⟩⟩, tg11, ⟨⟨⟨⟨⟨trivial, tg267, trivial⟩, tg139, trivial⟩, trivial, ⟨⟨trivial, tg331, trivial⟩, tg203, trivial⟩⟩, tg43, ⟨⟨⟨trivial, tg299, trivial⟩, tg171, trivial⟩, tg107, ⟨⟨trivial, tg363, trivial⟩, tg235, trivial⟩⟩⟩, tg27, ⟨⟨⟨⟨trivial, tg283, trivial⟩, tg155, trivial⟩, tg91, ⟨⟨trivial, tg347, trivial⟩, tg219, trivial⟩⟩, tg59, ⟨⟨⟨trivial, tg315, trivial⟩, tg187, trivial⟩, tg123, ⟨⟨trivial, tg379, trivial⟩, tg251, trivial⟩⟩⟩⟩⟩⟩, tg1, ⟨⟨⟨⟨⟨⟨⟨trivial, tg257, trivial⟩, tg129, ⟨trivial, tg385, trivial⟩⟩, tg65, ⟨trivial, tg193, trivial⟩⟩, tg33, ⟨⟨⟨trivial, tg289, trivial⟩, tg161, trivial⟩, tg97, ⟨⟨trivial, tg353, trivial⟩, tg225, trivial⟩⟩⟩, tg17, ⟨⟨⟨⟨trivial, tg273, trivial⟩, tg145, trivial⟩, tg81, ⟨⟨trivial, tg337, trivial⟩, tg209, trivial⟩⟩, tg49, ⟨⟨⟨trivial, tg305, trivial⟩, tg177, trivial⟩, tg113, ⟨⟨trivial, tg369, trivial⟩, trivial, trivial⟩⟩⟩⟩, tg9, ⟨⟨⟨⟨⟨trivial, tg265, trivial⟩, tg137, trivial⟩, tg73, ⟨⟨trivial, tg329, trivial⟩, tg201, trivial⟩⟩, tg41, ⟨⟨⟨trivial, tg297, trivial⟩, tg169, trivial⟩, tg105, ⟨⟨trivial, tg361, trivial⟩, tg233, trivial⟩⟩⟩, tg25, ⟨⟨⟨⟨trivial, tg281, trivial⟩, tg153, trivial⟩, trivial, ⟨⟨trivial, tg345, trivial⟩, tg217, trivial⟩⟩, tg57, ⟨⟨⟨trivial, tg313, trivial⟩, tg185, trivial⟩, tg121, ⟨⟨trivial, tg377, trivial⟩, tg249, trivial⟩⟩⟩⟩⟩, tg5, ⟨⟨⟨⟨⟨⟨trivial, tg261, trivial⟩, tg133, ⟨trivial, tg389, trivial⟩⟩, tg69, ⟨⟨trivial, tg325, trivial⟩, trivial, trivial⟩⟩, tg37, ⟨⟨⟨trivial, tg293, trivial⟩, tg165, trivial⟩, tg101, ⟨⟨trivial, tg357, trivial⟩, tg229, trivial⟩⟩⟩, tg21, ⟨⟨⟨⟨trivial, tg277, trivial⟩, tg149, trivial⟩, tg85, ⟨⟨trivial, tg341, trivial⟩, tg213, trivial⟩⟩, tg53, ⟨⟨trivial, tg181, trivial⟩, tg117, ⟨⟨trivial, tg373, trivial⟩, tg245, trivial⟩⟩⟩⟩, tg13, ⟨⟨⟨⟨⟨trivial, tg269, trivial⟩, tg141, trivial⟩, trivial, ⟨⟨trivial, tg333, trivial⟩, trivial, trivial⟩⟩, tg45, ⟨⟨⟨trivial, tg301, trivial⟩, tg173, trivial⟩, tg109, ⟨⟨trivial, tg365, trivial⟩, tg237, trivial⟩⟩⟩, tg29, ⟨⟨⟨⟨trivial, tg285, trivial⟩, tg157, trivial⟩, tg93, ⟨⟨trivial, tg349, trivial⟩, tg221, trivial⟩⟩, tg61, ⟨⟨⟨trivial, tg317, trivial⟩, tg189, trivial⟩, tg125, ⟨⟨trivial, tg381, trivial⟩, tg253, trivial⟩⟩⟩⟩⟩⟩⟩, trivial, ⟨⟨⟨⟨⟨⟨⟨⟨trivial, tg256, trivial⟩, tg128, ⟨trivial, tg384, trivial⟩⟩, trivial, ⟨⟨trivial, tg320, trivial⟩, tg192, trivial⟩⟩, tg32, ⟨⟨⟨trivial, tg288, trivial⟩, tg160, trivial⟩, tg96, ⟨⟨trivial, tg352, trivial⟩, trivial, trivial⟩⟩⟩, tg16, ⟨⟨⟨⟨trivial, tg272, trivial⟩, tg144, trivial⟩, tg80, trivial⟩, tg48, ⟨⟨⟨trivial, tg304, trivial⟩, tg176, trivial⟩, trivial, ⟨⟨trivial, tg368, trivial⟩, tg240, trivial⟩⟩⟩⟩, tg8, ⟨⟨⟨⟨⟨trivial, tg264, trivial⟩, tg136, ⟨trivial, tg392, trivial⟩⟩, tg72, ⟨trivial, tg200, trivial⟩⟩, tg40, ⟨⟨⟨trivial, tg296, trivial⟩, tg168, trivial⟩, tg104, ⟨⟨trivial, tg360, trivial⟩, tg232, trivial⟩⟩⟩, tg24, ⟨⟨⟨⟨trivial, tg280, trivial⟩, tg152, trivial⟩, tg88, ⟨⟨trivial, tg344, trivial⟩, tg216, trivial⟩⟩, tg56, ⟨⟨⟨trivial, tg312, trivial⟩, tg184, trivial⟩, tg120, ⟨⟨trivial, tg376, trivial⟩, tg248, trivial⟩⟩⟩⟩⟩, tg4, ⟨⟨⟨⟨⟨⟨trivial, tg260, trivial⟩, tg132, ⟨trivial, tg388, trivial⟩⟩, tg68, ⟨trivial, tg196, trivial⟩⟩, tg36, ⟨⟨⟨trivial, tg292, trivial⟩, tg164, trivial⟩, tg100, ⟨⟨trivial, tg356, trivial⟩, tg228, trivial⟩⟩⟩, tg20, ⟨⟨⟨⟨trivial, tg276, trivial⟩, tg148, trivial⟩, tg84, ⟨⟨trivial, tg340, trivial⟩, trivial, trivial⟩⟩, tg52, ⟨⟨⟨trivial, tg308, trivial⟩, tg180, trivial⟩, tg116, ⟨⟨trivial, tg372, trivial⟩, tg244, trivial⟩⟩⟩⟩, tg12, ⟨⟨⟨⟨⟨trivial, tg268, trivial⟩, tg140, trivial⟩, tg76, ⟨⟨trivial, tg332, trivial⟩, tg204, trivial⟩⟩, tg44, ⟨⟨⟨trivial, tg300, trivial⟩, tg172, trivial⟩, tg108, ⟨⟨trivial, tg364, trivial⟩, tg236, trivial⟩⟩⟩, tg28, ⟨⟨⟨⟨trivial, tg284, trivial⟩, tg156, trivial⟩, tg92, ⟨⟨trivial, tg348, trivial⟩, tg220, trivial⟩⟩, tg60, ⟨⟨⟨trivial, tg316, trivial⟩, tg188, trivial⟩, trivial, ⟨⟨trivial, tg380, trivial⟩, tg252, trivial⟩⟩⟩⟩⟩⟩, tg2, ⟨⟨⟨⟨⟨⟨⟨trivial, tg258, trivial⟩, tg130, ⟨trivial, tg386, trivial⟩⟩, tg66, ⟨⟨trivial, tg322, trivial⟩, tg194, trivial⟩⟩, trivial, ⟨⟨⟨trivial, tg290, trivial⟩, tg162, trivial⟩, tg98, ⟨⟨trivial, tg354, trivial⟩, tg226, trivial⟩⟩⟩, tg18, ⟨⟨⟨⟨trivial, tg274, trivial⟩, tg146, trivial⟩, tg82, ⟨⟨trivial, tg338, trivial⟩, tg210, trivial⟩⟩, tg50, ⟨⟨⟨trivial, tg306, trivial⟩, tg178, trivial⟩, tg114, ⟨⟨trivial, tg370, trivial⟩, tg242, trivial⟩⟩⟩⟩, tg10, ⟨⟨⟨⟨⟨trivial, tg266, trivial⟩, tg138, trivial⟩, tg74, ⟨⟨trivial, tg330, trivial⟩, trivial, trivial⟩⟩, tg42, ⟨⟨⟨trivial, tg298, trivial⟩, tg170, trivial⟩, trivial, ⟨⟨trivial, tg362, trivial⟩, trivial, trivial⟩⟩⟩, trivial, ⟨⟨⟨⟨trivial, tg282, trivial⟩, tg154, trivial⟩, tg90, ⟨⟨trivial, tg346, trivial⟩, tg218, trivial⟩⟩, trivial, ⟨⟨⟨trivial, tg314, trivial⟩, trivial, trivial⟩, tg122, ⟨⟨trivial, tg378, trivial⟩, tg250, trivial⟩⟩⟩⟩⟩, tg6, ⟨⟨⟨⟨⟨⟨trivial, tg262, trivial⟩, tg134, ⟨trivial, tg390, trivial⟩⟩, tg70, ⟨⟨trivial, tg326, trivial⟩, tg198, trivial⟩⟩, tg38, ⟨⟨⟨trivial, tg294, trivial⟩, tg166, trivial⟩, tg102, ⟨trivial, tg230, trivial⟩⟩⟩, tg22, ⟨⟨⟨⟨trivial, tg278, trivial⟩, tg150, trivial⟩, tg86, ⟨trivial, tg214, trivial⟩⟩, tg54, ⟨⟨⟨trivial, tg310, trivial⟩, tg182, trivial⟩, tg118, ⟨⟨trivial, tg374, trivial⟩, tg246, trivial⟩⟩⟩⟩, tg14, ⟨⟨⟨⟨⟨trivial, tg270, trivial⟩, tg142, trivial⟩, tg78, ⟨⟨trivial, tg334, trivial⟩, tg206, trivial⟩⟩, tg46, ⟨⟨⟨trivial, tg302, trivial⟩, tg174, trivial⟩, tg110, ⟨⟨trivial, tg366, trivial⟩, tg238, trivial⟩⟩⟩, tg30, ⟨⟨⟨trivial, tg158, trivial⟩, tg94, ⟨⟨trivial, tg350, trivial⟩, tg222, trivial⟩⟩, tg62, ⟨⟨⟨trivial, tg318, trivial⟩, tg190, trivial⟩, tg126, ⟨⟨trivial, tg382, trivial⟩, tg254, trivial⟩⟩⟩⟩⟩⟩⟩⟩
theorem fl7 : FlatT Tryz.prog 7 117 := ⟨⟨_, Tryz.underlying7, ⟨rfl, by decide, .inl ⟨rfl, _, Tryz.underlying2⟩, ⟨rfl, by decide, .inl ⟨rfl, _, Tryz.underlying3⟩, ⟨rfl, by decide, .inr (.inr ⟨rfl, Tryz.underlying4⟩), ⟨rfl, by decide, .inl ⟨rfl, _, Tryz.underlying6⟩, rfl⟩⟩⟩⟩⟩, by kernel_rfl, by kernel_rfl⟩
theorem fl8 : FlatT Tryz.prog 8 117 := ⟨⟨_, Tryz.underlying8, ⟨rfl, by decide, .inl ⟨rfl, _, Tryz.underlying2⟩, ⟨rfl, by decide, .inl ⟨rfl, _, Tryz.underlying3⟩, ⟨rfl, by decide, .inr (.inr ⟨rfl, Tryz.underlying4⟩), ⟨rfl, by decide, .inl ⟨rfl, _, Tryz.underlying6⟩, rfl⟩⟩⟩⟩⟩, by kernel_rfl, by kernel_rfl⟩
theorem fl39 : FlatT Tryz.prog 39 938 := ⟨⟨_, Tryz.underlying39, ⟨rfl, by decide, .inr (.inl ⟨rfl, Tryz.underlying9⟩), ⟨rfl, by decide, .inr (.inl ⟨rfl, Tryz.underlying9⟩), ⟨rfl, by decide, .inr (.inl ⟨rfl, Tryz.underlying9⟩), ⟨rfl, by decide, .inr (.inl ⟨rfl, Tryz.underlying9⟩), ⟨rfl, by decide, .inr (.inr ⟨rfl, Tryz.underlying4⟩), rfl⟩⟩⟩⟩⟩⟩, by kernel_rfl, by kernel_rfl⟩
theorem fl40 : FlatT Tryz.prog 40 938 := ⟨⟨_, Tryz.underlying40, ⟨rfl, by decide, .inr (.inl ⟨rfl, Tryz.underlying9⟩), ⟨rfl, by decide, .inr (.inl ⟨rfl, Tryz.underlying9⟩), ⟨rfl, by decide, .inr (.inl ⟨rfl, Tryz.underlying9⟩), ⟨rfl, by decide, .inr (.inl ⟨rfl, Tryz.underlying9⟩), ⟨rfl, by decide, .inr (.inr ⟨rfl, Tryz.underlying4⟩), rfl⟩⟩⟩⟩⟩⟩, by kernel_rfl, by kernel_rfl⟩
theorem fl41 : FlatT Tryz.prog 41 9 := ⟨⟨_, Tryz.underlying41, ⟨rfl, by decide, .inl ⟨rfl, _, Tryz.underlying3⟩, ⟨rfl, by decide, .inr (.inl ⟨rfl, Tryz.underlying9⟩), rfl⟩⟩⟩, by kernel_rfl, by kernel_rfl⟩
theorem fl42 : FlatT Tryz.prog 42 9 := ⟨⟨_, Tryz.underlying42, ⟨rfl, by decide, .inl ⟨rfl, _, Tryz.underlying3⟩, ⟨rfl, by decide, .inr (.inl ⟨rfl, Tryz.underlying9⟩), rfl⟩⟩⟩, by kernel_rfl, by kernel_rfl⟩
theorem fl43 : FlatT Tryz.prog 43 42 := ⟨⟨_, Tryz.underlying43, ⟨rfl, by decide, .inr (.inl ⟨rfl, Tryz.underlying9⟩), ⟨rfl, by decide, .inr (.inl ⟨rfl, Tryz.underlying9⟩), ⟨rfl, by decide, .inr (.inl ⟨rfl, Tryz.underlying9⟩), rfl⟩⟩⟩⟩, by kernel_rfl, by kernel_rfl⟩
theorem fl44 : FlatT Tryz.prog 44 42 := ⟨⟨_, Tryz.underlying44, ⟨rfl, by decide, .inr (.inl ⟨rfl, Tryz.underlying9⟩), ⟨rfl, by decide, .inr (.inl ⟨rfl, Tryz.underlying9⟩), ⟨rfl, by decide, .inr (.inl ⟨rfl, Tryz.underlying9⟩), rfl⟩⟩⟩⟩, by kernel_rfl, by kernel_rfl⟩
theorem fl55 : FlatT Tryz.prog 55 42 := ⟨⟨_, Tryz.underlying55, ⟨rfl, by decide, .inr (.inl ⟨rfl, Tryz.underlying9⟩), ⟨rfl, by decide, .inr (.inl ⟨rfl, Tryz.underlying9⟩), ⟨rfl, by decide, .inr (.inl ⟨rfl, Tryz.underlying9⟩), rfl⟩⟩⟩⟩, by kernel_rfl, by kernel_rfl⟩
theorem fl56 : FlatT Tryz.prog 56 42 := ⟨⟨_, Tryz.underlying56, ⟨rfl, by decide, .inr (.inl ⟨rfl, Tryz.underlying9⟩), ⟨rfl, by decide, .inr (.inl ⟨rfl, Tryz.underlying9⟩), ⟨rfl, by decide, .inr (.inl ⟨rfl, Tryz.underlying9⟩), rfl⟩⟩⟩⟩, by kernel_rfl, by kernel_rfl⟩
theorem fl81 : FlatT Tryz.prog 81 10 := ⟨⟨_, Tryz.underlying81, ⟨rfl, by decide, .inr (.inl ⟨rfl, Tryz.underlying9⟩), ⟨rfl, by decide, .inr (.inl ⟨rfl, Tryz.underlying9⟩), rfl⟩⟩⟩, by kernel_rfl, by kernel_rfl⟩
theorem fl82 : FlatT Tryz.prog 82 10 := ⟨⟨_, Tryz.underlying82, ⟨rfl, by decide, .inr (.inl ⟨rfl, Tryz.underlying9⟩), ⟨rfl, by decide, .inr (.inl ⟨rfl, Tryz.underlying9⟩), rfl⟩⟩⟩, by kernel_rfl, by kernel_rfl⟩
theorem fl165 : FlatT Tryz.prog 165 5 := ⟨⟨_, Tryz.underlying165, ⟨rfl, by decide, .inl ⟨rfl, _, Tryz.underlying3⟩, ⟨rfl, by decide, .inl ⟨rfl, _, Tryz.underlying3⟩, rfl⟩⟩⟩, by kernel_rfl, by kernel_rfl⟩
theorem fl166 : FlatT Tryz.prog 166 5 := ⟨⟨_, Tryz.underlying166, ⟨rfl, by decide, .inl ⟨rfl, _, Tryz.underlying3⟩, ⟨rfl, by decide, .inl ⟨rfl, _, Tryz.underlying3⟩, rfl⟩⟩⟩, by kernel_rfl, by kernel_rfl⟩
theorem fl183 : FlatT Tryz.prog 183 21 := ⟨⟨_, Tryz.underlying183, ⟨rfl, by decide, .inl ⟨rfl, _, Tryz.underlying3⟩, ⟨rfl, by decide, .inl ⟨rfl, _, Tryz.underlying3⟩, ⟨rfl, by decide, .inl ⟨rfl, _, Tryz.underlying3⟩, rfl⟩⟩⟩⟩, by kernel_rfl, by kernel_rfl⟩
theorem fl184 : FlatT Tryz.prog 184 21 := ⟨⟨_, Tryz.underlying184, ⟨rfl, by decide, .inl ⟨rfl, _, Tryz.underlying3⟩, ⟨rfl, by decide, .inl ⟨rfl, _, Tryz.underlying3⟩, ⟨rfl, by decide, .inl ⟨rfl, _, Tryz.underlying3⟩, rfl⟩⟩⟩⟩, by kernel_rfl, by kernel_rfl⟩
theorem fl370 : FlatT Tryz.prog 370 5 := ⟨⟨_, Tryz.underlying370, ⟨rfl, by decide, .inl ⟨rfl, _, Tryz.underlying5⟩, ⟨rfl, by decide, .inl ⟨rfl, _, Tryz.underlying5⟩, rfl⟩⟩⟩, by kernel_rfl, by kernel_rfl⟩
theorem fl371 : FlatT Tryz.prog 371 5 := ⟨⟨_, Tryz.underlying371, ⟨rfl, by decide, .inl ⟨rfl, _, Tryz.underlying5⟩, ⟨rfl, by decide, .inl ⟨rfl, _, Tryz.underlying5⟩, rfl⟩⟩⟩, by kernel_rfl, by kernel_rfl⟩
theorem fl374 : FlatT Tryz.prog 374 2 := ⟨⟨_, Tryz.underlying374, ⟨rfl, by decide, .inr (.inl ⟨rfl, Tryz.underlying9⟩), rfl⟩⟩, by kernel_rfl, by kernel_rfl⟩
theorem fl375 : FlatT Tryz.prog 375 2 := ⟨⟨_, Tryz.underlying375, ⟨rfl, by decide, .inr (.inl ⟨rfl, Tryz.underlying9⟩), rfl⟩⟩, by kernel_rfl, by kernel_rfl⟩
theorem flAll : TrAll (FlatT Tryz.prog) FLT id := ⟨⟨⟨⟨trivial, fl7, ⟨⟨trivial, fl39, trivial⟩, trivial, ⟨trivial, fl55, ⟨⟨trivial, fl183, trivial⟩, trivial, ⟨⟨trivial, fl375, trivial⟩, trivial, trivial⟩⟩⟩⟩⟩, trivial, ⟨⟨trivial, trivial, ⟨trivial, trivial, ⟨trivial, trivial, ⟨⟨trivial, fl371, trivial⟩, trivial, trivial⟩⟩⟩⟩, trivial, ⟨⟨trivial, fl43, trivial⟩, trivial, trivial⟩⟩⟩, trivial, ⟨⟨⟨trivial, trivial, ⟨⟨trivial, fl81, trivial⟩, trivial, trivial⟩⟩, trivial, ⟨⟨trivial, fl41, trivial⟩, trivial, trivial⟩⟩, trivial, ⟨⟨⟨trivial, trivial, ⟨⟨trivial, fl165, trivial⟩, trivial, trivial⟩⟩, trivial, trivial⟩, trivial, trivial⟩⟩⟩, trivial, ⟨⟨⟨trivial, fl8, ⟨⟨trivial, fl40, trivial⟩, trivial, ⟨trivial, fl56, ⟨⟨trivial, fl184, trivial⟩, trivial, trivial⟩⟩⟩⟩, trivial, ⟨trivial, trivial, ⟨⟨trivial, fl44, trivial⟩, trivial, trivial⟩⟩⟩, trivial, ⟨⟨⟨trivial, trivial, ⟨⟨trivial, fl82, trivial⟩, trivial, ⟨trivial, trivial, ⟨⟨trivial, fl370, trivial⟩, trivial, trivial⟩⟩⟩⟩, trivial, ⟨⟨trivial, fl42, trivial⟩, trivial, trivial⟩⟩, trivial, ⟨⟨⟨trivial, trivial, ⟨⟨trivial, fl166, trivial⟩, trivial, trivial⟩⟩, trivial, ⟨trivial, trivial, ⟨trivial, trivial, ⟨⟨trivial, fl374, trivial⟩, trivial, trivial⟩⟩⟩⟩, trivial, trivial⟩⟩⟩⟩
theorem tok : TOK Tryz.prog T where
  ng := by rw [Tryz.globals_size]; decide
  ty t i h := tyAll.get h
  ixb := fun f hf => by
    have e : f = 273 := Nat.eq_of_beq_eq_true hf
    subst e
    exact ixb_of Tryz.func273 (by kernel_rfl) (by kernel_rfl) (by kernel_rfl) (by kernel_rfl)
  nesc := fun f hf => by
    have e : f = 242 := Nat.eq_of_beq_eq_true hf
    subst e
    exact nesc_of Tryz.func242 (by kernel_rfl) (by kernel_rfl) (by kernel_rfl) (by kernel_rfl)
  mnz f e hf := by
    have hf' : (if Nat.beq f 278 = true then some 5 else none) = some e := hf
    split at hf'
    · rename_i h
      injection hf' with he
      subst he
      have ef : f = 278 := Nat.eq_of_beq_eq_true h
      subst ef
      exact mnz_of (t := 23) (ps := #[3]) Tryz.func278 (by kernel_rfl) (by kernel_rfl) (by kernel_rfl) (by kernel_rfl) Tryz.underlying23
    · cases hf'
  lies u p hp count hc := by
    have hp0 : p ∈ (if Nat.beq u 140 then [(139, 2), (140, 2), (141, 3), (142, 3)] else [] : List (Nat × Nat)) := hp
    by_cases h140 : Nat.beq u 140 = true
    · have eu : u = 140 := Nat.eq_of_beq_eq_true h140
      subst eu
      have hp' : p ∈ [((139, 2) : Nat × Nat), ((140, 2) : Nat × Nat), ((141, 3) : Nat × Nat), ((142, 3) : Nat × Nat)] := hp
      simp only [List.mem_cons, List.mem_nil_iff, or_false] at hp'
      rcases hp' with rfl | rfl | rfl | rfl
      · exact lies_of (D := 987) (by kernel_rfl) (by kernel_rfl) (by kernel_rfl) (by decide) count hc
      · exact lies_of (D := 987) (by kernel_rfl) (by kernel_rfl) (by kernel_rfl) (by decide) count hc
      · exact lies_of (D := 987) (by kernel_rfl) (by kernel_rfl) (by kernel_rfl) (by decide) count hc
      · exact lies_of (D := 987) (by kernel_rfl) (by kernel_rfl) (by kernel_rfl) (by decide) count hc
    simp [h140] at hp0
  eqs t n hf ι xs ys a b r w ha hb h1 h2 he := by
    have hg : FLT.get t = some (n + 1) := flat_get hf
    exact FlatT.eqs (flAll.get hg) w ha hb h1 h2 he
  eqg t n hf := by
    have hg : FLT.get t = some (n + 1) := flat_get hf
    exact (flAll.get hg).hg
  ckey t n hf e ι a xs w ha h1 := by
    have hg : FLT.get t = some (n + 1) := flat_get hf
    exact FlatT.ckey (flAll.get hg) e w ha h1
theorem mix : Tryz.prog.follows .mixedOrders = true := by kernel_rfl
end Go.Proofs.YtlnffaalhedfmaaGreatDoor
