/- Part AdmG of the proof of GensPins. -/
import Derived.KernelRfl
import Derived.Test.YtkhhpimjofkbiaaGreatDoorProg
import Derived.Test.YtkhhpimjofkbiaaGreatDoorRoom3
set_option linter.unusedVariables false
set_option linter.unusedSimpArgs false
set_option linter.all false
namespace Go.Adm
open Go Go.Proofs
set_option maxRecDepth 100000
noncomputable def ty0 : TyI := ⟨.other, 1, 0, .any⟩
noncomputable def ty1 : TyI := ⟨.func, 1, 8, .nilf⟩
noncomputable def ty2 : TyI := ⟨.int .i64, 1, 8, (.i .i64 0)⟩
noncomputable def ty3 : TyI := ⟨.int .i64, 1, 8, (.i .i64 0)⟩
noncomputable def ty4 : TyI := ⟨.bool, 1, 1, (.b false)⟩
noncomputable def ty5 : TyI := ⟨.int .u8, 1, 1, (.i .u8 0)⟩
noncomputable def ty6 : TyI := ⟨.int .u8, 1, 1, (.i .u8 0)⟩
noncomputable def ty7 : TyI := ⟨.struct [(0, 2), (1, 3), (2, 4), (3, 6)] none, 4, 24, (.agg [(.i .i64 0), (.i .i64 0), (.b false), (.i .u8 0)])⟩
noncomputable def ty8 : TyI := ⟨.struct [(0, 2), (1, 3), (2, 4), (3, 6)] none, 4, 24, (.agg [(.i .i64 0), (.i .i64 0), (.b false), (.i .u8 0)])⟩
noncomputable def ty9 : TyI := ⟨.str, 1, 16, (.s [])⟩
noncomputable def ty10 : TyI := ⟨.str, 1, 16, (.s [])⟩
noncomputable def ty11 : TyI := ⟨.str, 1, 16, (.s [])⟩
noncomputable def ty12 : TyI := ⟨.int .u64, 1, 8, (.i .u64 0)⟩
noncomputable def ty13 : TyI := ⟨.struct [(0, 9), (1, 12)] none, 2, 24, (.agg [(.s []), (.i .u64 0)])⟩
noncomputable def ty14 : TyI := ⟨.struct [(0, 9), (1, 12)] none, 2, 24, (.agg [(.s []), (.i .u64 0)])⟩
noncomputable def ty15 : TyI := ⟨.ptr 381, 1, 8, .nilp⟩
noncomputable def ty16 : TyI := ⟨.ptr 384, 1, 8, .nilp⟩
noncomputable def ty17 : TyI := ⟨.ptr 391, 1, 8, .nilp⟩
noncomputable def ty18 : TyI := ⟨.struct [(0, 17)] none, 1, 8, (.agg [.nilp])⟩
noncomputable def ty19 : TyI := ⟨.struct [(0, 17)] none, 1, 8, (.agg [.nilp])⟩
noncomputable def ty20 : TyI := ⟨.iface, 1, 16, .nili⟩
noncomputable def ty21 : TyI := ⟨.int .i32, 1, 4, (.i .i32 0)⟩
noncomputable def ty22 : TyI := ⟨.slice 5, 1, 24, (.sl [] 0 .nil)⟩
noncomputable def ty23 : TyI := ⟨.func, 1, 8, .nilf⟩
noncomputable def ty24 : TyI := ⟨.ptr 103, 1, 8, .nilp⟩
noncomputable def ty25 : TyI := ⟨.func, 1, 8, .nilf⟩
noncomputable def ty26 : TyI := ⟨.ptr 105, 1, 8, .nilp⟩
noncomputable def ty27 : TyI := ⟨.int .i64, 1, 8, (.i .i64 0)⟩
noncomputable def ty28 : TyI := ⟨.other, 1, 0, .any⟩
noncomputable def ty29 : TyI := ⟨.func, 1, 8, .nilf⟩
noncomputable def ty30 : TyI := ⟨.ptr 111, 1, 8, .nilp⟩
noncomputable def ty31 : TyI := ⟨.func, 1, 8, .nilf⟩
noncomputable def ty32 : TyI := ⟨.func, 1, 8, .nilf⟩
noncomputable def ty33 : TyI := ⟨.struct [(0, 3), (1, 22)] none, 2, 32, (.agg [(.i .i64 0), (.sl [] 0 .nil)])⟩
noncomputable def ty34 : TyI := ⟨.struct [(0, 3), (1, 22)] none, 2, 32, (.agg [(.i .i64 0), (.sl [] 0 .nil)])⟩
noncomputable def ty35 : TyI := ⟨.ptr 134, 1, 8, .nilp⟩
noncomputable def ty36 : TyI := ⟨.other, 1, 0, .any⟩
noncomputable def ty37 : TyI := ⟨.func, 1, 8, .nilf⟩
noncomputable def ty38 : TyI := ⟨.slice 128, 1, 24, (.sl [] 0 .nil)⟩
noncomputable def ty39 : TyI := ⟨.struct [(0, 3), (1, 38)] none, 2, 32, (.agg [(.i .i64 0), (.sl [] 0 .nil)])⟩
noncomputable def ty40 : TyI := ⟨.struct [(0, 3), (1, 38)] none, 2, 32, (.agg [(.i .i64 0), (.sl [] 0 .nil)])⟩
noncomputable def ty41 : TyI := ⟨.slice 126, 1, 24, (.sl [] 0 .nil)⟩
noncomputable def ty42 : TyI := ⟨.struct [(0, 41)] none, 1, 24, (.agg [(.sl [] 0 .nil)])⟩
noncomputable def ty43 : TyI := ⟨.struct [(0, 41)] none, 1, 24, (.agg [(.sl [] 0 .nil)])⟩
noncomputable def ty44 : TyI := ⟨.struct [(0, 3), (1, 40), (3, 4), (4, 43)] none, 5, 72, (.agg [(.i .i64 0), (.i .i64 0), (.sl [] 0 .nil), (.b false), (.sl [] 0 .nil)])⟩
noncomputable def ty45 : TyI := ⟨.struct [(0, 3), (1, 40), (3, 4), (4, 43)] none, 5, 72, (.agg [(.i .i64 0), (.i .i64 0), (.sl [] 0 .nil), (.b false), (.sl [] 0 .nil)])⟩
noncomputable def ty46 : TyI := ⟨.other, 1, 0, .any⟩
noncomputable def ty47 : TyI := ⟨.func, 1, 8, .nilf⟩
noncomputable def ty48 : TyI := ⟨.func, 1, 8, .nilf⟩
noncomputable def ty49 : TyI := ⟨.func, 1, 8, .nilf⟩
noncomputable def ty50 : TyI := ⟨.func, 1, 8, .nilf⟩
noncomputable def ty51 : TyI := ⟨.slice 137, 1, 24, (.sl [] 0 .nil)⟩
noncomputable def ty52 : TyI := ⟨.struct [(0, 3), (1, 51)] none, 2, 32, (.agg [(.i .i64 0), (.sl [] 0 .nil)])⟩
noncomputable def ty53 : TyI := ⟨.struct [(0, 3), (1, 51)] none, 2, 32, (.agg [(.i .i64 0), (.sl [] 0 .nil)])⟩
noncomputable def ty54 : TyI := ⟨.func, 1, 8, .nilf⟩
noncomputable def ty55 : TyI := ⟨.func, 1, 8, .nilf⟩
noncomputable def ty56 : TyI := ⟨.struct [(0, 27), (1, 3)] none, 2, 16, (.agg [(.i .i64 0), (.i .i64 0)])⟩
noncomputable def ty57 : TyI := ⟨.struct [(0, 27), (1, 3)] (some [.int .i64, .int .i64]), 2, 16, (.agg [(.i .i64 0), (.i .i64 0)])⟩
noncomputable def ty58 : TyI := ⟨.slice 209, 1, 24, (.sl [] 0 .nil)⟩
noncomputable def ty59 : TyI := ⟨.struct [(0, 27), (1, 57), (3, 58)] none, 4, 48, (.agg [(.i .i64 0), (.i .i64 0), (.i .i64 0), (.sl [] 0 .nil)])⟩
noncomputable def ty60 : TyI := ⟨.struct [(0, 27), (1, 57), (3, 58)] none, 4, 48, (.agg [(.i .i64 0), (.i .i64 0), (.i .i64 0), (.sl [] 0 .nil)])⟩
noncomputable def ty61 : TyI := ⟨.func, 1, 8, .nilf⟩
noncomputable def ty62 : TyI := ⟨.func, 1, 8, .nilf⟩
noncomputable def ty63 : TyI := ⟨.slice 66, 1, 24, (.sl [] 0 .nil)⟩
noncomputable def ty64 : TyI := ⟨.func, 1, 8, .nilf⟩
noncomputable def ty65 : TyI := ⟨.struct [(0, 3), (1, 3)] none, 2, 16, (.agg [(.i .i64 0), (.i .i64 0)])⟩
noncomputable def ty66 : TyI := ⟨.struct [(0, 3), (1, 3)] (some [.int .i64, .int .i64]), 2, 16, (.agg [(.i .i64 0), (.i .i64 0)])⟩
noncomputable def ty67 : TyI := ⟨.func, 1, 8, .nilf⟩
noncomputable def ty68 : TyI := ⟨.slice 135, 1, 24, (.sl [] 0 .nil)⟩
noncomputable def ty69 : TyI := ⟨.struct [(0, 68)] none, 1, 24, (.agg [(.sl [] 0 .nil)])⟩
noncomputable def ty70 : TyI := ⟨.struct [(0, 68)] none, 1, 24, (.agg [(.sl [] 0 .nil)])⟩
noncomputable def ty71 : TyI := ⟨.other, 1, 0, .any⟩
noncomputable def ty72 : TyI := ⟨.func, 1, 8, .nilf⟩
noncomputable def ty73 : TyI := ⟨.func, 1, 8, .nilf⟩
noncomputable def ty74 : TyI := ⟨.func, 1, 8, .nilf⟩
noncomputable def ty75 : TyI := ⟨.func, 1, 8, .nilf⟩
noncomputable def ty76 : TyI := ⟨.func, 1, 8, .nilf⟩
noncomputable def ty77 : TyI := ⟨.func, 1, 8, .nilf⟩
noncomputable def ty78 : TyI := ⟨.slice 84, 1, 24, (.sl [] 0 .nil)⟩
noncomputable def ty79 : TyI := ⟨.func, 1, 8, .nilf⟩
noncomputable def ty80 : TyI := ⟨.map 3 40, 1, 8, .nilm⟩
noncomputable def ty81 : TyI := ⟨.map 3 3, 1, 8, .nilm⟩
noncomputable def ty82 : TyI := ⟨.slice 4, 1, 24, (.sl [] 0 .nil)⟩
noncomputable def ty83 : TyI := ⟨.struct [(0, 3), (1, 3), (2, 9), (3, 82)] none, 4, 56, (.agg [(.i .i64 0), (.i .i64 0), (.s []), (.sl [] 0 .nil)])⟩
noncomputable def ty84 : TyI := ⟨.struct [(0, 3), (1, 3), (2, 9), (3, 82)] none, 4, 56, (.agg [(.i .i64 0), (.i .i64 0), (.s []), (.sl [] 0 .nil)])⟩
noncomputable def ty85 : TyI := ⟨.other, 1, 0, .any⟩
noncomputable def ty86 : TyI := ⟨.func, 1, 8, .nilf⟩
noncomputable def ty87 : TyI := ⟨.func, 1, 8, .nilf⟩
noncomputable def ty88 : TyI := ⟨.ptr 93, 1, 8, .nilp⟩
noncomputable def ty89 : TyI := ⟨.ptr 155, 1, 8, .nilp⟩
noncomputable def ty90 : TyI := ⟨.func, 1, 8, .nilf⟩
noncomputable def ty91 : TyI := ⟨.ptr 163, 1, 8, .nilp⟩
noncomputable def ty92 : TyI := ⟨.struct [(0, 24), (1, 35), (2, 89), (3, 91)] none, 4, 32, (.agg [.nilp, .nilp, .nilp, .nilp])⟩
noncomputable def ty93 : TyI := ⟨.struct [(0, 24), (1, 35), (2, 89), (3, 91)] none, 4, 32, (.agg [.nilp, .nilp, .nilp, .nilp])⟩
noncomputable def ty94 : TyI := ⟨.func, 1, 8, .nilf⟩
noncomputable def ty95 : TyI := ⟨.other, 1, 0, .any⟩
noncomputable def ty96 : TyI := ⟨.func, 1, 8, .nilf⟩
noncomputable def ty97 : TyI := ⟨.func, 1, 8, .nilf⟩
noncomputable def ty98 : TyI := ⟨.func, 1, 8, .nilf⟩
noncomputable def ty99 : TyI := ⟨.slice 214, 1, 24, (.sl [] 0 .nil)⟩
noncomputable def ty100 : TyI := ⟨.map 3 214, 1, 8, .nilm⟩
noncomputable def ty101 : TyI := ⟨.map 3 4, 1, 8, .nilm⟩
noncomputable def ty102 : TyI := ⟨.struct [(0, 99), (1, 100), (2, 101), (3, 3), (4, 4)] none, 5, 56, (.agg [(.sl [] 0 .nil), .nilm, .nilm, (.i .i64 0), (.b false)])⟩
noncomputable def ty103 : TyI := ⟨.struct [(0, 99), (1, 100), (2, 101), (3, 3), (4, 4)] none, 5, 56, (.agg [(.sl [] 0 .nil), .nilm, .nilm, (.i .i64 0), (.b false)])⟩
noncomputable def ty104 : TyI := ⟨.struct [(0, 24), (1, 4)] none, 2, 16, (.agg [.nilp, (.b false)])⟩
noncomputable def ty105 : TyI := ⟨.struct [(0, 24), (1, 4)] none, 2, 16, (.agg [.nilp, (.b false)])⟩
noncomputable def ty106 : TyI := ⟨.slice 173, 1, 24, (.sl [] 0 .nil)⟩
noncomputable def ty107 : TyI := ⟨.other, 1, 0, .any⟩
noncomputable def ty108 : TyI := ⟨.func, 1, 8, .nilf⟩
noncomputable def ty109 : TyI := ⟨.func, 1, 8, .nilf⟩
noncomputable def ty110 : TyI := ⟨.struct [(0, 26)] none, 1, 8, (.agg [.nilp])⟩
noncomputable def ty111 : TyI := ⟨.struct [(0, 26)] none, 1, 8, (.agg [.nilp])⟩
noncomputable def ty112 : TyI := ⟨.slice 34, 1, 24, (.sl [] 0 .nil)⟩
noncomputable def ty113 : TyI := ⟨.func, 1, 8, .nilf⟩
noncomputable def ty114 : TyI := ⟨.func, 1, 8, .nilf⟩
noncomputable def ty115 : TyI := ⟨.func, 1, 8, .nilf⟩
noncomputable def ty116 : TyI := ⟨.func, 1, 8, .nilf⟩
noncomputable def ty117 : TyI := ⟨.ptr 119, 1, 8, .nilp⟩
noncomputable def ty118 : TyI := ⟨.struct [(0, 22), (1, 3), (2, 4)] none, 3, 40, (.agg [(.sl [] 0 .nil), (.i .i64 0), (.b false)])⟩
noncomputable def ty119 : TyI := ⟨.struct [(0, 22), (1, 3), (2, 4)] none, 3, 40, (.agg [(.sl [] 0 .nil), (.i .i64 0), (.b false)])⟩
noncomputable def ty120 : TyI := ⟨.func, 1, 8, .nilf⟩
noncomputable def ty121 : TyI := ⟨.func, 1, 8, .nilf⟩
noncomputable def ty122 : TyI := ⟨.slice 3, 1, 24, (.sl [] 0 .nil)⟩
noncomputable def ty123 : TyI := ⟨.func, 1, 8, .nilf⟩
noncomputable def ty124 : TyI := ⟨.slice 9, 1, 24, (.sl [] 0 .nil)⟩
noncomputable def ty125 : TyI := ⟨.struct [(0, 9), (1, 3), (2, 3), (3, 3), (4, 4), (5, 4), (6, 124)] none, 7, 72, (.agg [(.s []), (.i .i64 0), (.i .i64 0), (.i .i64 0), (.b false), (.b false), (.sl [] 0 .nil)])⟩
noncomputable def ty126 : TyI := ⟨.struct [(0, 9), (1, 3), (2, 3), (3, 3), (4, 4), (5, 4), (6, 124)] none, 7, 72, (.agg [(.s []), (.i .i64 0), (.i .i64 0), (.i .i64 0), (.b false), (.b false), (.sl [] 0 .nil)])⟩
noncomputable def ty127 : TyI := ⟨.struct [(0, 126), (7, 3)] none, 8, 80, (.agg [(.s []), (.i .i64 0), (.i .i64 0), (.i .i64 0), (.b false), (.b false), (.sl [] 0 .nil), (.i .i64 0)])⟩
noncomputable def ty128 : TyI := ⟨.struct [(0, 126), (7, 3)] none, 8, 80, (.agg [(.s []), (.i .i64 0), (.i .i64 0), (.i .i64 0), (.b false), (.b false), (.sl [] 0 .nil), (.i .i64 0)])⟩
noncomputable def ty129 : TyI := ⟨.ptr 70, 1, 8, .nilp⟩
noncomputable def ty130 : TyI := ⟨.struct [(0, 3), (1, 53), (3, 129)] none, 4, 48, (.agg [(.i .i64 0), (.i .i64 0), (.sl [] 0 .nil), .nilp])⟩
noncomputable def ty131 : TyI := ⟨.struct [(0, 3), (1, 53), (3, 129)] none, 4, 48, (.agg [(.i .i64 0), (.i .i64 0), (.sl [] 0 .nil), .nilp])⟩
noncomputable def ty132 : TyI := ⟨.map 3 53, 1, 8, .nilm⟩
noncomputable def ty133 : TyI := ⟨.struct [(0, 30), (1, 131), (5, 81), (6, 132)] none, 7, 72, (.agg [.nilp, (.i .i64 0), (.i .i64 0), (.sl [] 0 .nil), .nilp, .nilm, .nilm])⟩
noncomputable def ty134 : TyI := ⟨.struct [(0, 30), (1, 131), (5, 81), (6, 132)] none, 7, 72, (.agg [.nilp, (.i .i64 0), (.i .i64 0), (.sl [] 0 .nil), .nilp, .nilm, .nilm])⟩
noncomputable def ty135 : TyI := ⟨.struct [(0, 9), (1, 3), (2, 3), (3, 3), (4, 4), (5, 4), (6, 124)] none, 7, 72, (.agg [(.s []), (.i .i64 0), (.i .i64 0), (.i .i64 0), (.b false), (.b false), (.sl [] 0 .nil)])⟩
noncomputable def ty136 : TyI := ⟨.struct [(0, 135), (7, 3)] none, 8, 80, (.agg [(.s []), (.i .i64 0), (.i .i64 0), (.i .i64 0), (.b false), (.b false), (.sl [] 0 .nil), (.i .i64 0)])⟩
noncomputable def ty137 : TyI := ⟨.struct [(0, 135), (7, 3)] none, 8, 80, (.agg [(.s []), (.i .i64 0), (.i .i64 0), (.i .i64 0), (.b false), (.b false), (.sl [] 0 .nil), (.i .i64 0)])⟩
noncomputable def ty138 : TyI := ⟨.func, 1, 8, .nilf⟩
noncomputable def ty139 : TyI := ⟨.func, 1, 8, .nilf⟩
noncomputable def ty140 : TyI := ⟨.func, 1, 8, .nilf⟩
noncomputable def ty141 : TyI := ⟨.func, 1, 8, .nilf⟩
noncomputable def ty142 : TyI := ⟨.func, 1, 8, .nilf⟩
noncomputable def ty143 : TyI := ⟨.func, 1, 8, .nilf⟩
noncomputable def ty144 : TyI := ⟨.func, 1, 8, .nilf⟩
noncomputable def ty145 : TyI := ⟨.ptr 149, 1, 8, .nilp⟩
noncomputable def ty146 : TyI := ⟨.slice 187, 1, 24, (.sl [] 0 .nil)⟩
noncomputable def ty147 : TyI := ⟨.func, 1, 8, .nilf⟩
noncomputable def ty148 : TyI := ⟨.struct [(0, 146), (1, 57)] none, 3, 40, (.agg [(.sl [] 0 .nil), (.i .i64 0), (.i .i64 0)])⟩
noncomputable def ty149 : TyI := ⟨.struct [(0, 146), (1, 57)] none, 3, 40, (.agg [(.sl [] 0 .nil), (.i .i64 0), (.i .i64 0)])⟩
noncomputable def ty150 : TyI := ⟨.func, 1, 8, .nilf⟩
noncomputable def ty151 : TyI := ⟨.func, 1, 8, .nilf⟩
noncomputable def ty152 : TyI := ⟨.func, 1, 8, .nilf⟩
noncomputable def ty153 : TyI := ⟨.slice 22, 1, 24, (.sl [] 0 .nil)⟩
noncomputable def ty154 : TyI := ⟨.struct [(0, 153), (1, 153), (2, 82), (3, 3), (4, 4), (5, 4)] none, 6, 88, (.agg [(.sl [] 0 .nil), (.sl [] 0 .nil), (.sl [] 0 .nil), (.i .i64 0), (.b false), (.b false)])⟩
noncomputable def ty155 : TyI := ⟨.struct [(0, 153), (1, 153), (2, 82), (3, 3), (4, 4), (5, 4)] none, 6, 88, (.agg [(.sl [] 0 .nil), (.sl [] 0 .nil), (.sl [] 0 .nil), (.i .i64 0), (.b false), (.b false)])⟩
noncomputable def ty156 : TyI := ⟨.ptr 202, 1, 8, .nilp⟩
noncomputable def ty157 : TyI := ⟨.other, 1, 0, .any⟩
noncomputable def ty158 : TyI := ⟨.func, 1, 8, .nilf⟩
noncomputable def ty159 : TyI := ⟨.other, 1, 0, .any⟩
noncomputable def ty160 : TyI := ⟨.func, 1, 8, .nilf⟩
noncomputable def ty161 : TyI := ⟨.slice 168, 1, 24, (.sl [] 0 .nil)⟩
noncomputable def ty162 : TyI := ⟨.struct [(0, 156), (1, 45), (6, 161)] none, 7, 104, (.agg [.nilp, (.i .i64 0), (.i .i64 0), (.sl [] 0 .nil), (.b false), (.sl [] 0 .nil), (.sl [] 0 .nil)])⟩
noncomputable def ty163 : TyI := ⟨.struct [(0, 156), (1, 45), (6, 161)] none, 7, 104, (.agg [.nilp, (.i .i64 0), (.i .i64 0), (.sl [] 0 .nil), (.b false), (.sl [] 0 .nil), (.sl [] 0 .nil)])⟩
noncomputable def ty164 : TyI := ⟨.other, 1, 0, .any⟩
noncomputable def ty165 : TyI := ⟨.func, 1, 8, .nilf⟩
noncomputable def ty166 : TyI := ⟨.func, 1, 8, .nilf⟩
noncomputable def ty167 : TyI := ⟨.struct [(0, 40), (2, 3)] none, 3, 40, (.agg [(.i .i64 0), (.sl [] 0 .nil), (.i .i64 0)])⟩
noncomputable def ty168 : TyI := ⟨.struct [(0, 40), (2, 3)] none, 3, 40, (.agg [(.i .i64 0), (.sl [] 0 .nil), (.i .i64 0)])⟩
noncomputable def ty169 : TyI := ⟨.other, 1, 0, .any⟩
noncomputable def ty170 : TyI := ⟨.func, 1, 8, .nilf⟩
noncomputable def ty171 : TyI := ⟨.int .u64, 1, 8, (.i .u64 0)⟩
noncomputable def ty172 : TyI := ⟨.struct [(0, 3), (1, 22)] none, 2, 32, (.agg [(.i .i64 0), (.sl [] 0 .nil)])⟩
noncomputable def ty173 : TyI := ⟨.struct [(0, 3), (1, 22)] none, 2, 32, (.agg [(.i .i64 0), (.sl [] 0 .nil)])⟩
noncomputable def ty174 : TyI := ⟨.func, 1, 8, .nilf⟩
noncomputable def ty175 : TyI := ⟨.func, 1, 8, .nilf⟩
noncomputable def ty176 : TyI := ⟨.other, 1, 0, .any⟩
noncomputable def ty177 : TyI := ⟨.func, 1, 8, .nilf⟩
noncomputable def ty178 : TyI := ⟨.other, 1, 0, .any⟩
noncomputable def ty179 : TyI := ⟨.func, 1, 8, .nilf⟩
noncomputable def ty180 : TyI := ⟨.func, 1, 8, .nilf⟩
noncomputable def ty181 : TyI := ⟨.func, 1, 8, .nilf⟩
noncomputable def ty182 : TyI := ⟨.other, 1, 0, .any⟩
noncomputable def ty183 : TyI := ⟨.func, 1, 8, .nilf⟩
noncomputable def ty184 : TyI := ⟨.func, 1, 8, .nilf⟩
noncomputable def ty185 : TyI := ⟨.func, 1, 8, .nilf⟩
noncomputable def ty186 : TyI := ⟨.struct [(0, 9), (1, 3)] none, 2, 24, (.agg [(.s []), (.i .i64 0)])⟩
noncomputable def ty187 : TyI := ⟨.struct [(0, 9), (1, 3)] none, 2, 24, (.agg [(.s []), (.i .i64 0)])⟩
noncomputable def ty188 : TyI := ⟨.func, 1, 8, .nilf⟩
noncomputable def ty189 : TyI := ⟨.func, 1, 8, .nilf⟩
noncomputable def ty190 : TyI := ⟨.other, 1, 0, .any⟩
noncomputable def ty191 : TyI := ⟨.func, 1, 8, .nilf⟩
noncomputable def ty192 : TyI := ⟨.other, 1, 0, .any⟩
noncomputable def ty193 : TyI := ⟨.func, 1, 8, .nilf⟩
noncomputable def ty194 : TyI := ⟨.map 9 4, 1, 8, .nilm⟩
noncomputable def ty195 : TyI := ⟨.func, 1, 8, .nilf⟩
noncomputable def ty196 : TyI := ⟨.ptr 135, 1, 8, .nilp⟩
noncomputable def ty197 : TyI := ⟨.slice 250, 1, 24, (.sl [] 0 .nil)⟩
noncomputable def ty198 : TyI := ⟨.other, 1, 0, .any⟩
noncomputable def ty199 : TyI := ⟨.func, 1, 8, .nilf⟩
noncomputable def ty200 : TyI := ⟨.func, 1, 8, .nilf⟩
noncomputable def ty201 : TyI := ⟨.struct [(0, 89), (1, 4)] none, 2, 16, (.agg [.nilp, (.b false)])⟩
noncomputable def ty202 : TyI := ⟨.struct [(0, 89), (1, 4)] none, 2, 16, (.agg [.nilp, (.b false)])⟩
noncomputable def ty203 : TyI := ⟨.other, 1, 0, .any⟩
noncomputable def ty204 : TyI := ⟨.func, 1, 8, .nilf⟩
noncomputable def ty205 : TyI := ⟨.func, 1, 8, .nilf⟩
noncomputable def ty206 : TyI := ⟨.slice 210, 1, 24, (.sl [] 0 .nil)⟩
noncomputable def ty207 : TyI := ⟨.func, 1, 8, .nilf⟩
noncomputable def ty208 : TyI := ⟨.struct [(0, 3), (1, 9)] none, 2, 24, (.agg [(.i .i64 0), (.s [])])⟩
noncomputable def ty209 : TyI := ⟨.struct [(0, 3), (1, 9)] none, 2, 24, (.agg [(.i .i64 0), (.s [])])⟩
noncomputable def ty210 : TyI := ⟨.struct [(0, 3), (1, 9)] (some [.int .i64, .str]), 2, 24, (.agg [(.i .i64 0), (.s [])])⟩
noncomputable def ty211 : TyI := ⟨.func, 1, 8, .nilf⟩
noncomputable def ty212 : TyI := ⟨.func, 1, 8, .nilf⟩
noncomputable def ty213 : TyI := ⟨.arr 64 5, 64, 64, (.agg (List.replicate 64 (.i .u8 0)))⟩
noncomputable def ty214 : TyI := ⟨.arr 64 5, 64, 64, (.agg (List.replicate 64 (.i .u8 0)))⟩
noncomputable def ty215 : TyI := ⟨.other, 1, 0, .any⟩
noncomputable def ty216 : TyI := ⟨.func, 1, 8, .nilf⟩
noncomputable def ty217 : TyI := ⟨.int .u32, 1, 4, (.i .u32 0)⟩
noncomputable def ty218 : TyI := ⟨.func, 1, 8, .nilf⟩
noncomputable def ty219 : TyI := ⟨.func, 1, 8, .nilf⟩
noncomputable def ty220 : TyI := ⟨.func, 1, 8, .nilf⟩
noncomputable def ty221 : TyI := ⟨.other, 1, 0, .any⟩
noncomputable def ty222 : TyI := ⟨.func, 1, 8, .nilf⟩
noncomputable def ty223 : TyI := ⟨.ptr 225, 1, 8, .nilp⟩
noncomputable def ty224 : TyI := ⟨.struct [(0, 22), (1, 4)] none, 2, 32, (.agg [(.sl [] 0 .nil), (.b false)])⟩
noncomputable def ty225 : TyI := ⟨.struct [(0, 22), (1, 4)] none, 2, 32, (.agg [(.sl [] 0 .nil), (.b false)])⟩
noncomputable def ty226 : TyI := ⟨.ptr 229, 1, 8, .nilp⟩
noncomputable def ty227 : TyI := ⟨.func, 1, 8, .nilf⟩
noncomputable def ty228 : TyI := ⟨.struct [(0, 124), (1, 122), (2, 3), (3, 3), (4, 3)] none, 5, 72, (.agg [(.sl [] 0 .nil), (.sl [] 0 .nil), (.i .i64 0), (.i .i64 0), (.i .i64 0)])⟩
noncomputable def ty229 : TyI := ⟨.struct [(0, 124), (1, 122), (2, 3), (3, 3), (4, 3)] none, 5, 72, (.agg [(.sl [] 0 .nil), (.sl [] 0 .nil), (.i .i64 0), (.i .i64 0), (.i .i64 0)])⟩
noncomputable def ty230 : TyI := ⟨.func, 1, 8, .nilf⟩
noncomputable def ty231 : TyI := ⟨.func, 1, 8, .nilf⟩
noncomputable def ty232 : TyI := ⟨.other, 1, 0, .any⟩
noncomputable def ty233 : TyI := ⟨.func, 1, 8, .nilf⟩
noncomputable def ty234 : TyI := ⟨.func, 1, 8, .nilf⟩
noncomputable def ty235 : TyI := ⟨.func, 1, 8, .nilf⟩
noncomputable def ty236 : TyI := ⟨.func, 1, 8, .nilf⟩
noncomputable def ty237 : TyI := ⟨.func, 1, 8, .nilf⟩
noncomputable def ty238 : TyI := ⟨.func, 1, 8, .nilf⟩
noncomputable def ty239 : TyI := ⟨.func, 1, 8, .nilf⟩
noncomputable def ty240 : TyI := ⟨.other, 1, 0, .any⟩
noncomputable def ty241 : TyI := ⟨.func, 1, 8, .nilf⟩
noncomputable def ty242 : TyI := ⟨.other, 1, 0, .any⟩
noncomputable def ty243 : TyI := ⟨.func, 1, 8, .nilf⟩
noncomputable def ty244 : TyI := ⟨.func, 1, 8, .nilf⟩
noncomputable def ty245 : TyI := ⟨.func, 1, 8, .nilf⟩
noncomputable def ty246 : TyI := ⟨.func, 1, 8, .nilf⟩
noncomputable def ty247 : TyI := ⟨.func, 1, 8, .nilf⟩
noncomputable def ty248 : TyI := ⟨.func, 1, 8, .nilf⟩
noncomputable def ty249 : TyI := ⟨.func, 1, 8, .nilf⟩
noncomputable def ty250 : TyI := ⟨.struct [(0, 3), (1, 22)] none, 2, 32, (.agg [(.i .i64 0), (.sl [] 0 .nil)])⟩
noncomputable def ty251 : TyI := ⟨.func, 1, 8, .nilf⟩
noncomputable def ty252 : TyI := ⟨.func, 1, 8, .nilf⟩
noncomputable def ty253 : TyI := ⟨.func, 1, 8, .nilf⟩
noncomputable def ty254 : TyI := ⟨.func, 1, 8, .nilf⟩
noncomputable def ty255 : TyI := ⟨.func, 1, 8, .nilf⟩
noncomputable def ty256 : TyI := ⟨.func, 1, 8, .nilf⟩
noncomputable def ty257 : TyI := ⟨.func, 1, 8, .nilf⟩
noncomputable def ty258 : TyI := ⟨.func, 1, 8, .nilf⟩
noncomputable def ty259 : TyI := ⟨.func, 1, 8, .nilf⟩
noncomputable def ty260 : TyI := ⟨.func, 1, 8, .nilf⟩
noncomputable def ty261 : TyI := ⟨.struct [(0, 3), (1, 22)] none, 2, 32, (.agg [(.i .i64 0), (.sl [] 0 .nil)])⟩
noncomputable def ty262 : TyI := ⟨.slice 261, 1, 24, (.sl [] 0 .nil)⟩
noncomputable def ty263 : TyI := ⟨.func, 1, 8, .nilf⟩
noncomputable def ty264 : TyI := ⟨.func, 1, 8, .nilf⟩
noncomputable def ty265 : TyI := ⟨.func, 1, 8, .nilf⟩
noncomputable def ty266 : TyI := ⟨.func, 1, 8, .nilf⟩
noncomputable def ty267 : TyI := ⟨.func, 1, 8, .nilf⟩
noncomputable def ty268 : TyI := ⟨.func, 1, 8, .nilf⟩
noncomputable def ty269 : TyI := ⟨.func, 1, 8, .nilf⟩
noncomputable def ty270 : TyI := ⟨.other, 1, 0, .any⟩
noncomputable def ty271 : TyI := ⟨.func, 1, 8, .nilf⟩
noncomputable def ty272 : TyI := ⟨.func, 1, 8, .nilf⟩
noncomputable def ty273 : TyI := ⟨.func, 1, 8, .nilf⟩
noncomputable def ty274 : TyI := ⟨.ptr 126, 1, 8, .nilp⟩
noncomputable def ty275 : TyI := ⟨.func, 1, 8, .nilf⟩
noncomputable def ty276 : TyI := ⟨.func, 1, 8, .nilf⟩
noncomputable def ty277 : TyI := ⟨.map 9 3, 1, 8, .nilm⟩
noncomputable def ty278 : TyI := ⟨.func, 1, 8, .nilf⟩
noncomputable def ty279 : TyI := ⟨.func, 1, 8, .nilf⟩
noncomputable def ty280 : TyI := ⟨.func, 1, 8, .nilf⟩
noncomputable def ty281 : TyI := ⟨.func, 1, 8, .nilf⟩
noncomputable def ty282 : TyI := ⟨.func, 1, 8, .nilf⟩
noncomputable def ty283 : TyI := ⟨.func, 1, 8, .nilf⟩
noncomputable def ty284 : TyI := ⟨.func, 1, 8, .nilf⟩
noncomputable def ty285 : TyI := ⟨.int .i64, 1, 8, (.i .i64 0)⟩
noncomputable def ty286 : TyI := ⟨.other, 1, 0, .any⟩
noncomputable def ty287 : TyI := ⟨.func, 1, 8, .nilf⟩
noncomputable def ty288 : TyI := ⟨.func, 1, 8, .nilf⟩
noncomputable def ty289 : TyI := ⟨.func, 1, 8, .nilf⟩
noncomputable def ty290 : TyI := ⟨.func, 1, 8, .nilf⟩
noncomputable def ty291 : TyI := ⟨.func, 1, 8, .nilf⟩
noncomputable def ty292 : TyI := ⟨.func, 1, 8, .nilf⟩
noncomputable def ty293 : TyI := ⟨.int .u64, 1, 8, (.i .u64 0)⟩
noncomputable def ty294 : TyI := ⟨.func, 1, 8, .nilf⟩
noncomputable def ty295 : TyI := ⟨.func, 1, 8, .nilf⟩
noncomputable def ty296 : TyI := ⟨.arr 256 4, 256, 256, (.agg (List.replicate 256 (.b false)))⟩
noncomputable def ty297 : TyI := ⟨.arr 256 4, 256, 256, (.agg (List.replicate 256 (.b false)))⟩
noncomputable def ty298 : TyI := ⟨.other, 1, 0, .any⟩
noncomputable def ty299 : TyI := ⟨.func, 1, 8, .nilf⟩
noncomputable def ty300 : TyI := ⟨.func, 1, 8, .nilf⟩
noncomputable def ty301 : TyI := ⟨.ptr 297, 1, 8, .nilp⟩
noncomputable def ty302 : TyI := ⟨.iface, 1, 16, .nili⟩
noncomputable def ty303 : TyI := ⟨.iface, 1, 16, .nili⟩
noncomputable def ty304 : TyI := ⟨.other, 1, 0, .any⟩
noncomputable def ty305 : TyI := ⟨.func, 1, 8, .nilf⟩
noncomputable def ty306 : TyI := ⟨.func, 1, 8, .nilf⟩
noncomputable def ty307 : TyI := ⟨.func, 1, 8, .nilf⟩
noncomputable def ty308 : TyI := ⟨.func, 1, 8, .nilf⟩
noncomputable def ty309 : TyI := ⟨.func, 1, 8, .nilf⟩
noncomputable def ty310 : TyI := ⟨.func, 1, 8, .nilf⟩
noncomputable def ty311 : TyI := ⟨.ptr 313, 1, 8, .nilp⟩
noncomputable def ty312 : TyI := ⟨.struct [(0, 311), (1, 22)] none, 2, 32, (.agg [.nilp, (.sl [] 0 .nil)])⟩
noncomputable def ty313 : TyI := ⟨.struct [(0, 311), (1, 22)] none, 2, 32, (.agg [.nilp, (.sl [] 0 .nil)])⟩
noncomputable def ty314 : TyI := ⟨.func, 1, 8, .nilf⟩
noncomputable def ty315 : TyI := ⟨.func, 1, 8, .nilf⟩
noncomputable def ty316 : TyI := ⟨.func, 1, 8, .nilf⟩
noncomputable def ty317 : TyI := ⟨.func, 1, 8, .nilf⟩
noncomputable def ty318 : TyI := ⟨.func, 1, 8, .nilf⟩
noncomputable def ty319 : TyI := ⟨.int .u64, 1, 8, (.i .u64 0)⟩
noncomputable def ty320 : TyI := ⟨.func, 1, 8, .nilf⟩
noncomputable def ty321 : TyI := ⟨.func, 1, 8, .nilf⟩
noncomputable def ty322 : TyI := ⟨.func, 1, 8, .nilf⟩
noncomputable def ty323 : TyI := ⟨.ptr 3, 1, 8, .nilp⟩
noncomputable def ty324 : TyI := ⟨.func, 1, 8, .nilf⟩
noncomputable def ty325 : TyI := ⟨.func, 1, 8, .nilf⟩
noncomputable def ty326 : TyI := ⟨.other, 1, 0, .any⟩
noncomputable def ty327 : TyI := ⟨.func, 1, 8, .nilf⟩
noncomputable def ty328 : TyI := ⟨.func, 1, 8, .nilf⟩
noncomputable def ty329 : TyI := ⟨.func, 1, 8, .nilf⟩
noncomputable def ty330 : TyI := ⟨.func, 1, 8, .nilf⟩
noncomputable def ty331 : TyI := ⟨.ptr 5, 1, 8, .nilp⟩
noncomputable def ty332 : TyI := ⟨.func, 1, 8, .nilf⟩
noncomputable def ty333 : TyI := ⟨.func, 1, 8, .nilf⟩
noncomputable def ty334 : TyI := ⟨.func, 1, 8, .nilf⟩
noncomputable def ty335 : TyI := ⟨.ptr 319, 1, 8, .nilp⟩
noncomputable def ty336 : TyI := ⟨.func, 1, 8, .nilf⟩
noncomputable def ty337 : TyI := ⟨.func, 1, 8, .nilf⟩
noncomputable def ty338 : TyI := ⟨.int .i64, 1, 8, (.i .i64 0)⟩
noncomputable def ty339 : TyI := ⟨.other, 1, 0, .any⟩
noncomputable def ty340 : TyI := ⟨.func, 1, 8, .nilf⟩
noncomputable def ty341 : TyI := ⟨.ptr 363, 1, 8, .nilp⟩
noncomputable def ty342 : TyI := ⟨.func, 1, 8, .nilf⟩
noncomputable def ty343 : TyI := ⟨.func, 1, 8, .nilf⟩
noncomputable def ty344 : TyI := ⟨.uptr, 1, 8, .nilp⟩
noncomputable def ty345 : TyI := ⟨.func, 1, 8, .nilf⟩
noncomputable def ty346 : TyI := ⟨.func, 1, 8, .nilf⟩
noncomputable def ty347 : TyI := ⟨.func, 1, 8, .nilf⟩
noncomputable def ty348 : TyI := ⟨.func, 1, 8, .nilf⟩
noncomputable def ty349 : TyI := ⟨.func, 1, 8, .nilf⟩
noncomputable def ty350 : TyI := ⟨.func, 1, 8, .nilf⟩
noncomputable def ty351 : TyI := ⟨.func, 1, 8, .nilf⟩
noncomputable def ty352 : TyI := ⟨.func, 1, 8, .nilf⟩
noncomputable def ty353 : TyI := ⟨.other, 1, 0, .any⟩
noncomputable def ty354 : TyI := ⟨.func, 1, 8, .nilf⟩
noncomputable def ty355 : TyI := ⟨.arr 256 5, 256, 256, (.agg (List.replicate 256 (.i .u8 0)))⟩
noncomputable def ty356 : TyI := ⟨.struct [(0, 5), (1, 5)] none, 2, 2, (.agg [(.i .u8 0), (.i .u8 0)])⟩
noncomputable def ty357 : TyI := ⟨.struct [(0, 5), (1, 5)] none, 2, 2, (.agg [(.i .u8 0), (.i .u8 0)])⟩
noncomputable def ty358 : TyI := ⟨.arr 16 357, 32, 32, (.agg [(.i .u8 0), (.i .u8 0), (.i .u8 0), (.i .u8 0), (.i .u8 0), (.i .u8 0), (.i .u8 0), (.i .u8 0), (.i .u8 0), (.i .u8 0), (.i .u8 0), (.i .u8 0), (.i .u8 0), (.i .u8 0), (.i .u8 0), (.i .u8 0), (.i .u8 0), (.i .u8 0), (.i .u8 0), (.i .u8 0), (.i .u8 0), (.i .u8 0), (.i .u8 0), (.i .u8 0), (.i .u8 0), (.i .u8 0), (.i .u8 0), (.i .u8 0), (.i .u8 0), (.i .u8 0), (.i .u8 0), (.i .u8 0)])⟩
noncomputable def ty359 : TyI := ⟨.func, 1, 8, .nilf⟩
noncomputable def ty360 : TyI := ⟨.other, 1, 0, .any⟩
noncomputable def ty361 : TyI := ⟨.func, 1, 8, .nilf⟩
noncomputable def ty362 : TyI := ⟨.struct [(0, 9), (1, 9), (2, 303)] none, 3, 48, (.agg [(.s []), (.s []), .nili])⟩
noncomputable def ty363 : TyI := ⟨.struct [(0, 9), (1, 9), (2, 303)] none, 3, 48, (.agg [(.s []), (.s []), .nili])⟩
noncomputable def ty364 : TyI := ⟨.func, 1, 8, .nilf⟩
noncomputable def ty365 : TyI := ⟨.arr 24 5, 24, 24, (.agg [(.i .u8 0), (.i .u8 0), (.i .u8 0), (.i .u8 0), (.i .u8 0), (.i .u8 0), (.i .u8 0), (.i .u8 0), (.i .u8 0), (.i .u8 0), (.i .u8 0), (.i .u8 0), (.i .u8 0), (.i .u8 0), (.i .u8 0), (.i .u8 0), (.i .u8 0), (.i .u8 0), (.i .u8 0), (.i .u8 0), (.i .u8 0), (.i .u8 0), (.i .u8 0), (.i .u8 0)])⟩
noncomputable def ty366 : TyI := ⟨.func, 1, 8, .nilf⟩
noncomputable def ty367 : TyI := ⟨.other, 1, 0, .any⟩
noncomputable def ty368 : TyI := ⟨.func, 1, 8, .nilf⟩
noncomputable def ty369 : TyI := ⟨.func, 1, 8, .nilf⟩
noncomputable def ty370 : TyI := ⟨.func, 1, 8, .nilf⟩
noncomputable def ty371 : TyI := ⟨.func, 1, 8, .nilf⟩
noncomputable def ty372 : TyI := ⟨.ptr 374, 1, 8, .nilp⟩
noncomputable def ty373 : TyI := ⟨.struct [(0, 9)] none, 1, 16, (.agg [(.s [])])⟩
noncomputable def ty374 : TyI := ⟨.struct [(0, 9)] none, 1, 16, (.agg [(.s [])])⟩
noncomputable def ty375 : TyI := ⟨.func, 1, 8, .nilf⟩
noncomputable def ty376 : TyI := ⟨.arr 20 293, 20, 160, (.agg [(.i .u64 0), (.i .u64 0), (.i .u64 0), (.i .u64 0), (.i .u64 0), (.i .u64 0), (.i .u64 0), (.i .u64 0), (.i .u64 0), (.i .u64 0), (.i .u64 0), (.i .u64 0), (.i .u64 0), (.i .u64 0), (.i .u64 0), (.i .u64 0), (.i .u64 0), (.i .u64 0), (.i .u64 0), (.i .u64 0)])⟩
noncomputable def ty377 : TyI := ⟨.arr 65 5, 65, 65, (.agg (List.replicate 65 (.i .u8 0)))⟩
noncomputable def ty378 : TyI := ⟨.func, 1, 8, .nilf⟩
noncomputable def ty379 : TyI := ⟨.arr 32 5, 32, 32, (.agg [(.i .u8 0), (.i .u8 0), (.i .u8 0), (.i .u8 0), (.i .u8 0), (.i .u8 0), (.i .u8 0), (.i .u8 0), (.i .u8 0), (.i .u8 0), (.i .u8 0), (.i .u8 0), (.i .u8 0), (.i .u8 0), (.i .u8 0), (.i .u8 0), (.i .u8 0), (.i .u8 0), (.i .u8 0), (.i .u8 0), (.i .u8 0), (.i .u8 0), (.i .u8 0), (.i .u8 0), (.i .u8 0), (.i .u8 0), (.i .u8 0), (.i .u8 0), (.i .u8 0), (.i .u8 0), (.i .u8 0), (.i .u8 0)])⟩
noncomputable def ty380 : TyI := ⟨.struct [(0, 17), (1, 17), (2, 17), (3, 9)] none, 4, 40, (.agg [.nilp, .nilp, .nilp, (.s [])])⟩
noncomputable def ty381 : TyI := ⟨.struct [(0, 17), (1, 17), (2, 17), (3, 9)] none, 4, 40, (.agg [.nilp, .nilp, .nilp, (.s [])])⟩
noncomputable def ty382 : TyI := ⟨.arr 0 16, 0, 0, (.agg [])⟩
noncomputable def ty383 : TyI := ⟨.struct [(0, 382)] none, 0, 0, (.agg [])⟩
noncomputable def ty384 : TyI := ⟨.struct [(0, 382)] none, 0, 0, (.agg [])⟩
noncomputable def ty385 : TyI := ⟨.int .u8, 1, 1, (.i .u8 0)⟩
noncomputable def ty386 : TyI := ⟨.int .u8, 1, 1, (.i .u8 0)⟩
noncomputable def ty387 : TyI := ⟨.func, 1, 8, .nilf⟩
noncomputable def ty388 : TyI := ⟨.int .i32, 1, 4, (.i .i32 0)⟩
noncomputable def ty389 : TyI := ⟨.int .i32, 1, 4, (.i .i32 0)⟩
noncomputable def ty390 : TyI := ⟨.struct [(0, 12), (1, 12), (2, 217), (3, 385), (4, 5), (5, 5), (6, 386), (7, 387), (8, 331), (9, 388), (10, 389)] none, 11, 48, (.agg [(.i .u64 0), (.i .u64 0), (.i .u32 0), (.i .u8 0), (.i .u8 0), (.i .u8 0), (.i .u8 0), .nilf, .nilp, (.i .i32 0), (.i .i32 0)])⟩
noncomputable def ty391 : TyI := ⟨.struct [(0, 12), (1, 12), (2, 217), (3, 385), (4, 5), (5, 5), (6, 386), (7, 387), (8, 331), (9, 388), (10, 389)] none, 11, 48, (.agg [(.i .u64 0), (.i .u64 0), (.i .u32 0), (.i .u8 0), (.i .u8 0), (.i .u8 0), (.i .u8 0), .nilf, .nilp, (.i .i32 0), (.i .i32 0)])⟩
noncomputable def gty (n : Nat) : TyI := bif Nat.blt n 392 then (bif Nat.blt n 196 then (bif Nat.blt n 98 then (bif Nat.blt n 49 then (bif Nat.blt n 24 then (bif Nat.blt n 12 then (bif Nat.blt n 6 then (bif Nat.blt n 3 then (bif Nat.blt n 1 then ty0 else (bif Nat.blt n 2 then ty1 else ty2)) else (bif Nat.blt n 4 then ty3 else (bif Nat.blt n 5 then ty4 else ty5))) else (bif Nat.blt n 9 then (bif Nat.blt n 7 then ty6 else (bif Nat.blt n 8 then ty7 else ty8)) else (bif Nat.blt n 10 then ty9 else (bif Nat.blt n 11 then ty10 else ty11)))) else (bif Nat.blt n 18 then (bif Nat.blt n 15 then (bif Nat.blt n 13 then ty12 else (bif Nat.blt n 14 then ty13 else ty14)) else (bif Nat.blt n 16 then ty15 else (bif Nat.blt n 17 then ty16 else ty17))) else (bif Nat.blt n 21 then (bif Nat.blt n 19 then ty18 else (bif Nat.blt n 20 then ty19 else ty20)) else (bif Nat.blt n 22 then ty21 else (bif Nat.blt n 23 then ty22 else ty23))))) else (bif Nat.blt n 36 then (bif Nat.blt n 30 then (bif Nat.blt n 27 then (bif Nat.blt n 25 then ty24 else (bif Nat.blt n 26 then ty25 else ty26)) else (bif Nat.blt n 28 then ty27 else (bif Nat.blt n 29 then ty28 else ty29))) else (bif Nat.blt n 33 then (bif Nat.blt n 31 then ty30 else (bif Nat.blt n 32 then ty31 else ty32)) else (bif Nat.blt n 34 then ty33 else (bif Nat.blt n 35 then ty34 else ty35)))) else (bif Nat.blt n 42 then (bif Nat.blt n 39 then (bif Nat.blt n 37 then ty36 else (bif Nat.blt n 38 then ty37 else ty38)) else (bif Nat.blt n 40 then ty39 else (bif Nat.blt n 41 then ty40 else ty41))) else (bif Nat.blt n 45 then (bif Nat.blt n 43 then ty42 else (bif Nat.blt n 44 then ty43 else ty44)) else (bif Nat.blt n 47 then (bif Nat.blt n 46 then ty45 else ty46) else (bif Nat.blt n 48 then ty47 else ty48)))))) else (bif Nat.blt n 73 then (bif Nat.blt n 61 then (bif Nat.blt n 55 then (bif Nat.blt n 52 then (bif Nat.blt n 50 then ty49 else (bif Nat.blt n 51 then ty50 else ty51)) else (bif Nat.blt n 53 then ty52 else (bif Nat.blt n 54 then ty53 else ty54))) else (bif Nat.blt n 58 then (bif Nat.blt n 56 then ty55 else (bif Nat.blt n 57 then ty56 else ty57)) else (bif Nat.blt n 59 then ty58 else (bif Nat.blt n 60 then ty59 else ty60)))) else (bif Nat.blt n 67 then (bif Nat.blt n 64 then (bif Nat.blt n 62 then ty61 else (bif Nat.blt n 63 then ty62 else ty63)) else (bif Nat.blt n 65 then ty64 else (bif Nat.blt n 66 then ty65 else ty66))) else (bif Nat.blt n 70 then (bif Nat.blt n 68 then ty67 else (bif Nat.blt n 69 then ty68 else ty69)) else (bif Nat.blt n 71 then ty70 else (bif Nat.blt n 72 then ty71 else ty72))))) else (bif Nat.blt n 85 then (bif Nat.blt n 79 then (bif Nat.blt n 76 then (bif Nat.blt n 74 then ty73 else (bif Nat.blt n 75 then ty74 else ty75)) else (bif Nat.blt n 77 then ty76 else (bif Nat.blt n 78 then ty77 else ty78))) else (bif Nat.blt n 82 then (bif Nat.blt n 80 then ty79 else (bif Nat.blt n 81 then ty80 else ty81)) else (bif Nat.blt n 83 then ty82 else (bif Nat.blt n 84 then ty83 else ty84)))) else (bif Nat.blt n 91 then (bif Nat.blt n 88 then (bif Nat.blt n 86 then ty85 else (bif Nat.blt n 87 then ty86 else ty87)) else (bif Nat.blt n 89 then ty88 else (bif Nat.blt n 90 then ty89 else ty90))) else (bif Nat.blt n 94 then (bif Nat.blt n 92 then ty91 else (bif Nat.blt n 93 then ty92 else ty93)) else (bif Nat.blt n 96 then (bif Nat.blt n 95 then ty94 else ty95) else (bif Nat.blt n 97 then ty96 else ty97))))))) else (bif Nat.blt n 147 then (bif Nat.blt n 122 then (bif Nat.blt n 110 then (bif Nat.blt n 104 then (bif Nat.blt n 101 then (bif Nat.blt n 99 then ty98 else (bif Nat.blt n 100 then ty99 else ty100)) else (bif Nat.blt n 102 then ty101 else (bif Nat.blt n 103 then ty102 else ty103))) else (bif Nat.blt n 107 then (bif Nat.blt n 105 then ty104 else (bif Nat.blt n 106 then ty105 else ty106)) else (bif Nat.blt n 108 then ty107 else (bif Nat.blt n 109 then ty108 else ty109)))) else (bif Nat.blt n 116 then (bif Nat.blt n 113 then (bif Nat.blt n 111 then ty110 else (bif Nat.blt n 112 then ty111 else ty112)) else (bif Nat.blt n 114 then ty113 else (bif Nat.blt n 115 then ty114 else ty115))) else (bif Nat.blt n 119 then (bif Nat.blt n 117 then ty116 else (bif Nat.blt n 118 then ty117 else ty118)) else (bif Nat.blt n 120 then ty119 else (bif Nat.blt n 121 then ty120 else ty121))))) else (bif Nat.blt n 134 then (bif Nat.blt n 128 then (bif Nat.blt n 125 then (bif Nat.blt n 123 then ty122 else (bif Nat.blt n 124 then ty123 else ty124)) else (bif Nat.blt n 126 then ty125 else (bif Nat.blt n 127 then ty126 else ty127))) else (bif Nat.blt n 131 then (bif Nat.blt n 129 then ty128 else (bif Nat.blt n 130 then ty129 else ty130)) else (bif Nat.blt n 132 then ty131 else (bif Nat.blt n 133 then ty132 else ty133)))) else (bif Nat.blt n 140 then (bif Nat.blt n 137 then (bif Nat.blt n 135 then ty134 else (bif Nat.blt n 136 then ty135 else ty136)) else (bif Nat.blt n 138 then ty137 else (bif Nat.blt n 139 then ty138 else ty139))) else (bif Nat.blt n 143 then (bif Nat.blt n 141 then ty140 else (bif Nat.blt n 142 then ty141 else ty142)) else (bif Nat.blt n 145 then (bif Nat.blt n 144 then ty143 else ty144) else (bif Nat.blt n 146 then ty145 else ty146)))))) else (bif Nat.blt n 171 then (bif Nat.blt n 159 then (bif Nat.blt n 153 then (bif Nat.blt n 150 then (bif Nat.blt n 148 then ty147 else (bif Nat.blt n 149 then ty148 else ty149)) else (bif Nat.blt n 151 then ty150 else (bif Nat.blt n 152 then ty151 else ty152))) else (bif Nat.blt n 156 then (bif Nat.blt n 154 then ty153 else (bif Nat.blt n 155 then ty154 else ty155)) else (bif Nat.blt n 157 then ty156 else (bif Nat.blt n 158 then ty157 else ty158)))) else (bif Nat.blt n 165 then (bif Nat.blt n 162 then (bif Nat.blt n 160 then ty159 else (bif Nat.blt n 161 then ty160 else ty161)) else (bif Nat.blt n 163 then ty162 else (bif Nat.blt n 164 then ty163 else ty164))) else (bif Nat.blt n 168 then (bif Nat.blt n 166 then ty165 else (bif Nat.blt n 167 then ty166 else ty167)) else (bif Nat.blt n 169 then ty168 else (bif Nat.blt n 170 then ty169 else ty170))))) else (bif Nat.blt n 183 then (bif Nat.blt n 177 then (bif Nat.blt n 174 then (bif Nat.blt n 172 then ty171 else (bif Nat.blt n 173 then ty172 else ty173)) else (bif Nat.blt n 175 then ty174 else (bif Nat.blt n 176 then ty175 else ty176))) else (bif Nat.blt n 180 then (bif Nat.blt n 178 then ty177 else (bif Nat.blt n 179 then ty178 else ty179)) else (bif Nat.blt n 181 then ty180 else (bif Nat.blt n 182 then ty181 else ty182)))) else (bif Nat.blt n 189 then (bif Nat.blt n 186 then (bif Nat.blt n 184 then ty183 else (bif Nat.blt n 185 then ty184 else ty185)) else (bif Nat.blt n 187 then ty186 else (bif Nat.blt n 188 then ty187 else ty188))) else (bif Nat.blt n 192 then (bif Nat.blt n 190 then ty189 else (bif Nat.blt n 191 then ty190 else ty191)) else (bif Nat.blt n 194 then (bif Nat.blt n 193 then ty192 else ty193) else (bif Nat.blt n 195 then ty194 else ty195)))))))) else (bif Nat.blt n 294 then (bif Nat.blt n 245 then (bif Nat.blt n 220 then (bif Nat.blt n 208 then (bif Nat.blt n 202 then (bif Nat.blt n 199 then (bif Nat.blt n 197 then ty196 else (bif Nat.blt n 198 then ty197 else ty198)) else (bif Nat.blt n 200 then ty199 else (bif Nat.blt n 201 then ty200 else ty201))) else (bif Nat.blt n 205 then (bif Nat.blt n 203 then ty202 else (bif Nat.blt n 204 then ty203 else ty204)) else (bif Nat.blt n 206 then ty205 else (bif Nat.blt n 207 then ty206 else ty207)))) else (bif Nat.blt n 214 then (bif Nat.blt n 211 then (bif Nat.blt n 209 then ty208 else (bif Nat.blt n 210 then ty209 else ty210)) else (bif Nat.blt n 212 then ty211 else (bif Nat.blt n 213 then ty212 else ty213))) else (bif Nat.blt n 217 then (bif Nat.blt n 215 then ty214 else (bif Nat.blt n 216 then ty215 else ty216)) else (bif Nat.blt n 218 then ty217 else (bif Nat.blt n 219 then ty218 else ty219))))) else (bif Nat.blt n 232 then (bif Nat.blt n 226 then (bif Nat.blt n 223 then (bif Nat.blt n 221 then ty220 else (bif Nat.blt n 222 then ty221 else ty222)) else (bif Nat.blt n 224 then ty223 else (bif Nat.blt n 225 then ty224 else ty225))) else (bif Nat.blt n 229 then (bif Nat.blt n 227 then ty226 else (bif Nat.blt n 228 then ty227 else ty228)) else (bif Nat.blt n 230 then ty229 else (bif Nat.blt n 231 then ty230 else ty231)))) else (bif Nat.blt n 238 then (bif Nat.blt n 235 then (bif Nat.blt n 233 then ty232 else (bif Nat.blt n 234 then ty233 else ty234)) else (bif Nat.blt n 236 then ty235 else (bif Nat.blt n 237 then ty236 else ty237))) else (bif Nat.blt n 241 then (bif Nat.blt n 239 then ty238 else (bif Nat.blt n 240 then ty239 else ty240)) else (bif Nat.blt n 243 then (bif Nat.blt n 242 then ty241 else ty242) else (bif Nat.blt n 244 then ty243 else ty244)))))) else (bif Nat.blt n 269 then (bif Nat.blt n 257 then (bif Nat.blt n 251 then (bif Nat.blt n 248 then (bif Nat.blt n 246 then ty245 else (bif Nat.blt n 247 then ty246 else ty247)) else (bif Nat.blt n 249 then ty248 else (bif Nat.blt n 250 then ty249 else ty250))) else (bif Nat.blt n 254 then (bif Nat.blt n 252 then ty251 else (bif Nat.blt n 253 then ty252 else ty253)) else (bif Nat.blt n 255 then ty254 else (bif Nat.blt n 256 then ty255 else ty256)))) else (bif Nat.blt n 263 then (bif Nat.blt n 260 then (bif Nat.blt n 258 then ty257 else (bif Nat.blt n 259 then ty258 else ty259)) else (bif Nat.blt n 261 then ty260 else (bif Nat.blt n 262 then ty261 else ty262))) else (bif Nat.blt n 266 then (bif Nat.blt n 264 then ty263 else (bif Nat.blt n 265 then ty264 else ty265)) else (bif Nat.blt n 267 then ty266 else (bif Nat.blt n 268 then ty267 else ty268))))) else (bif Nat.blt n 281 then (bif Nat.blt n 275 then (bif Nat.blt n 272 then (bif Nat.blt n 270 then ty269 else (bif Nat.blt n 271 then ty270 else ty271)) else (bif Nat.blt n 273 then ty272 else (bif Nat.blt n 274 then ty273 else ty274))) else (bif Nat.blt n 278 then (bif Nat.blt n 276 then ty275 else (bif Nat.blt n 277 then ty276 else ty277)) else (bif Nat.blt n 279 then ty278 else (bif Nat.blt n 280 then ty279 else ty280)))) else (bif Nat.blt n 287 then (bif Nat.blt n 284 then (bif Nat.blt n 282 then ty281 else (bif Nat.blt n 283 then ty282 else ty283)) else (bif Nat.blt n 285 then ty284 else (bif Nat.blt n 286 then ty285 else ty286))) else (bif Nat.blt n 290 then (bif Nat.blt n 288 then ty287 else (bif Nat.blt n 289 then ty288 else ty289)) else (bif Nat.blt n 292 then (bif Nat.blt n 291 then ty290 else ty291) else (bif Nat.blt n 293 then ty292 else ty293))))))) else (bif Nat.blt n 343 then (bif Nat.blt n 318 then (bif Nat.blt n 306 then (bif Nat.blt n 300 then (bif Nat.blt n 297 then (bif Nat.blt n 295 then ty294 else (bif Nat.blt n 296 then ty295 else ty296)) else (bif Nat.blt n 298 then ty297 else (bif Nat.blt n 299 then ty298 else ty299))) else (bif Nat.blt n 303 then (bif Nat.blt n 301 then ty300 else (bif Nat.blt n 302 then ty301 else ty302)) else (bif Nat.blt n 304 then ty303 else (bif Nat.blt n 305 then ty304 else ty305)))) else (bif Nat.blt n 312 then (bif Nat.blt n 309 then (bif Nat.blt n 307 then ty306 else (bif Nat.blt n 308 then ty307 else ty308)) else (bif Nat.blt n 310 then ty309 else (bif Nat.blt n 311 then ty310 else ty311))) else (bif Nat.blt n 315 then (bif Nat.blt n 313 then ty312 else (bif Nat.blt n 314 then ty313 else ty314)) else (bif Nat.blt n 316 then ty315 else (bif Nat.blt n 317 then ty316 else ty317))))) else (bif Nat.blt n 330 then (bif Nat.blt n 324 then (bif Nat.blt n 321 then (bif Nat.blt n 319 then ty318 else (bif Nat.blt n 320 then ty319 else ty320)) else (bif Nat.blt n 322 then ty321 else (bif Nat.blt n 323 then ty322 else ty323))) else (bif Nat.blt n 327 then (bif Nat.blt n 325 then ty324 else (bif Nat.blt n 326 then ty325 else ty326)) else (bif Nat.blt n 328 then ty327 else (bif Nat.blt n 329 then ty328 else ty329)))) else (bif Nat.blt n 336 then (bif Nat.blt n 333 then (bif Nat.blt n 331 then ty330 else (bif Nat.blt n 332 then ty331 else ty332)) else (bif Nat.blt n 334 then ty333 else (bif Nat.blt n 335 then ty334 else ty335))) else (bif Nat.blt n 339 then (bif Nat.blt n 337 then ty336 else (bif Nat.blt n 338 then ty337 else ty338)) else (bif Nat.blt n 341 then (bif Nat.blt n 340 then ty339 else ty340) else (bif Nat.blt n 342 then ty341 else ty342)))))) else (bif Nat.blt n 367 then (bif Nat.blt n 355 then (bif Nat.blt n 349 then (bif Nat.blt n 346 then (bif Nat.blt n 344 then ty343 else (bif Nat.blt n 345 then ty344 else ty345)) else (bif Nat.blt n 347 then ty346 else (bif Nat.blt n 348 then ty347 else ty348))) else (bif Nat.blt n 352 then (bif Nat.blt n 350 then ty349 else (bif Nat.blt n 351 then ty350 else ty351)) else (bif Nat.blt n 353 then ty352 else (bif Nat.blt n 354 then ty353 else ty354)))) else (bif Nat.blt n 361 then (bif Nat.blt n 358 then (bif Nat.blt n 356 then ty355 else (bif Nat.blt n 357 then ty356 else ty357)) else (bif Nat.blt n 359 then ty358 else (bif Nat.blt n 360 then ty359 else ty360))) else (bif Nat.blt n 364 then (bif Nat.blt n 362 then ty361 else (bif Nat.blt n 363 then ty362 else ty363)) else (bif Nat.blt n 365 then ty364 else (bif Nat.blt n 366 then ty365 else ty366))))) else (bif Nat.blt n 379 then (bif Nat.blt n 373 then (bif Nat.blt n 370 then (bif Nat.blt n 368 then ty367 else (bif Nat.blt n 369 then ty368 else ty369)) else (bif Nat.blt n 371 then ty370 else (bif Nat.blt n 372 then ty371 else ty372))) else (bif Nat.blt n 376 then (bif Nat.blt n 374 then ty373 else (bif Nat.blt n 375 then ty374 else ty375)) else (bif Nat.blt n 377 then ty376 else (bif Nat.blt n 378 then ty377 else ty378)))) else (bif Nat.blt n 385 then (bif Nat.blt n 382 then (bif Nat.blt n 380 then ty379 else (bif Nat.blt n 381 then ty380 else ty381)) else (bif Nat.blt n 383 then ty382 else (bif Nat.blt n 384 then ty383 else ty384))) else (bif Nat.blt n 388 then (bif Nat.blt n 386 then ty385 else (bif Nat.blt n 387 then ty386 else ty387)) else (bif Nat.blt n 390 then (bif Nat.blt n 389 then ty388 else ty389) else (bif Nat.blt n 391 then ty390 else ty391))))))))) else ⟨.bad, 0, 0, .any⟩
noncomputable def bodyOf (f : Func) : Code := match f.body with | some c => c | none => .skip
noncomputable def fd3 : FnD := ⟨bodyOf Tryz.f3, 76, [.tmp 2]⟩
noncomputable def fd4 : FnD := ⟨bodyOf Tryz.f4, 84, [.tmp 4]⟩
noncomputable def fd5 : FnD := ⟨bodyOf Tryz.f5, 107, [.tmp 6]⟩
noncomputable def fd6 : FnD := ⟨bodyOf Tryz.f6, 129, [.tmp 2]⟩
noncomputable def fd7 : FnD := ⟨bodyOf Tryz.f7, 107, [.tmp 2]⟩
noncomputable def fd8 : FnD := ⟨bodyOf Tryz.f8, 66, [.tmp 0]⟩
noncomputable def fd9 : FnD := ⟨bodyOf Tryz.f9, 15, [.tmp 2]⟩
noncomputable def fd10 : FnD := ⟨bodyOf Tryz.f10, 32, [.tmp 2, .tmp 3]⟩
noncomputable def fd11 : FnD := ⟨bodyOf Tryz.f11, 6, [.tmp 2]⟩
noncomputable def fd12 : FnD := ⟨bodyOf Tryz.f12, 64, [.tmp 4]⟩
noncomputable def fd13 : FnD := ⟨bodyOf Tryz.f13, 19, [.tmp 2, .tmp 3]⟩
noncomputable def fd14 : FnD := ⟨bodyOf Tryz.f14, 148, [.cell 2 45, .tmp 3]⟩
noncomputable def fd15 : FnD := ⟨bodyOf Tryz.f15, 8, [.tmp 2]⟩
noncomputable def fd16 : FnD := ⟨bodyOf Tryz.f16, 39, [.tmp 4]⟩
noncomputable def fd17 : FnD := ⟨bodyOf Tryz.f17, 29, [.cell 2 40]⟩
noncomputable def fd18 : FnD := ⟨bodyOf Tryz.f18, 9, [.cell 2 53]⟩
noncomputable def fd19 : FnD := ⟨bodyOf Tryz.f19, 22, [.cell 4 60]⟩
noncomputable def fd20 : FnD := ⟨bodyOf Tryz.f20, 21, [.tmp 2]⟩
noncomputable def fd21 : FnD := ⟨bodyOf Tryz.f21, 21, [.tmp 4]⟩
noncomputable def fd22 : FnD := ⟨bodyOf Tryz.f22, 30, [.tmp 2]⟩
noncomputable def fd23 : FnD := ⟨bodyOf Tryz.f23, 44, [.cell 2 70, .cell 3 57]⟩
noncomputable def fd24 : FnD := ⟨bodyOf Tryz.f24, 19, [.cell 2 60]⟩
noncomputable def fd25 : FnD := ⟨bodyOf Tryz.f25, 32, [.tmp 4]⟩
noncomputable def fd26 : FnD := ⟨bodyOf Tryz.f26, 22, [.cell 2 43]⟩
noncomputable def fd27 : FnD := ⟨bodyOf Tryz.f27, 28, [.cell 2 70]⟩
noncomputable def fd28 : FnD := ⟨bodyOf Tryz.f28, 28, [.tmp 4]⟩
noncomputable def fd29 : FnD := ⟨bodyOf Tryz.f29, 20, [.cell 4 53, .tmp 5]⟩
noncomputable def fd30 : FnD := ⟨bodyOf Tryz.f30, 27, [.tmp 2]⟩
noncomputable def fd31 : FnD := ⟨bodyOf Tryz.f31, 53, [.tmp 2]⟩
noncomputable def fd32 : FnD := ⟨bodyOf Tryz.f32, 9, []⟩
noncomputable def fd33 : FnD := ⟨bodyOf Tryz.f33, 13, []⟩
noncomputable def fd34 : FnD := ⟨bodyOf Tryz.f34, 118, [.tmp 4, .tmp 5]⟩
noncomputable def fd35 : FnD := ⟨bodyOf Tryz.f35, 13, []⟩
noncomputable def fd36 : FnD := ⟨bodyOf Tryz.f36, 61, []⟩
noncomputable def fd37 : FnD := ⟨bodyOf Tryz.f37, 112, [.tmp 2]⟩
noncomputable def fd38 : FnD := ⟨bodyOf Tryz.f38, 8, [.tmp 2]⟩
noncomputable def fd39 : FnD := ⟨bodyOf Tryz.f39, 120, [.tmp 2, .tmp 3]⟩
noncomputable def fd40 : FnD := ⟨bodyOf Tryz.f40, 35, [.tmp 4]⟩
noncomputable def fd41 : FnD := ⟨bodyOf Tryz.f41, 13, [.tmp 4]⟩
noncomputable def fd42 : FnD := ⟨bodyOf Tryz.f42, 55, [.tmp 2]⟩
noncomputable def fd43 : FnD := ⟨bodyOf Tryz.f43, 61, [.tmp 4]⟩
noncomputable def fd44 : FnD := ⟨bodyOf Tryz.f44, 53, [.tmp 2, .tmp 3]⟩
noncomputable def fd45 : FnD := ⟨bodyOf Tryz.f45, 58, [.tmp 4]⟩
noncomputable def fd46 : FnD := ⟨bodyOf Tryz.f46, 21, [.tmp 2]⟩
noncomputable def fd47 : FnD := ⟨bodyOf Tryz.f47, 74, [.cell 2 43]⟩
noncomputable def fd48 : FnD := ⟨bodyOf Tryz.f48, 40, [.tmp 2]⟩
noncomputable def fd49 : FnD := ⟨bodyOf Tryz.f49, 24, [.cell 2 43]⟩
noncomputable def fd50 : FnD := ⟨bodyOf Tryz.f50, 4, [.cell 2 126]⟩
noncomputable def fd51 : FnD := ⟨bodyOf Tryz.f51, 30, [.cell 2 53]⟩
noncomputable def fd52 : FnD := ⟨bodyOf Tryz.f52, 67, [.cell 4 60]⟩
noncomputable def fd55 : FnD := ⟨bodyOf Tryz.f55, 4, [.tmp 2]⟩
noncomputable def fd56 : FnD := ⟨bodyOf Tryz.f56, 108, [.tmp 2]⟩
noncomputable def fd57 : FnD := ⟨bodyOf Tryz.f57, 95, []⟩
noncomputable def fd58 : FnD := ⟨bodyOf Tryz.f58, 73, [.tmp 4]⟩
noncomputable def fd59 : FnD := ⟨bodyOf Tryz.f59, 8, [.tmp 2]⟩
noncomputable def fd60 : FnD := ⟨bodyOf Tryz.f60, 33, [.tmp 2, .tmp 3]⟩
noncomputable def fd61 : FnD := ⟨bodyOf Tryz.f61, 49, [.tmp 2, .tmp 3]⟩
noncomputable def fd62 : FnD := ⟨bodyOf Tryz.f62, 22, [.tmp 4, .tmp 5]⟩
noncomputable def fd63 : FnD := ⟨bodyOf Tryz.f63, 85, [.tmp 10]⟩
noncomputable def fd64 : FnD := ⟨bodyOf Tryz.f64, 16, [.tmp 2]⟩
noncomputable def fd65 : FnD := ⟨bodyOf Tryz.f65, 21, [.tmp 4]⟩
noncomputable def fd66 : FnD := ⟨bodyOf Tryz.f66, 21, [.tmp 4]⟩
noncomputable def fd67 : FnD := ⟨bodyOf Tryz.f67, 30, [.tmp 2]⟩
noncomputable def fd68 : FnD := ⟨bodyOf Tryz.f68, 35, [.tmp 4]⟩
noncomputable def fd69 : FnD := ⟨bodyOf Tryz.f69, 34, []⟩
noncomputable def fd70 : FnD := ⟨bodyOf Tryz.f70, 14, [.tmp 3]⟩
noncomputable def fd71 : FnD := ⟨bodyOf Tryz.f71, 45, [.tmp 4, .tmp 5]⟩
noncomputable def fd72 : FnD := ⟨bodyOf Tryz.f72, 44, [.tmp 4]⟩
noncomputable def fd73 : FnD := ⟨bodyOf Tryz.f73, 97, [.tmp 2]⟩
noncomputable def fd74 : FnD := ⟨bodyOf Tryz.f74, 32, [.tmp 4]⟩
noncomputable def fd75 : FnD := ⟨bodyOf Tryz.f75, 9, [.tmp 2]⟩
noncomputable def fd76 : FnD := ⟨bodyOf Tryz.f76, 7, [.tmp 2]⟩
noncomputable def fd77 : FnD := ⟨bodyOf Tryz.f77, 58, [.tmp 4, .tmp 5]⟩
noncomputable def fd78 : FnD := ⟨bodyOf Tryz.f78, 140, [.cell 2 131, .tmp 3]⟩
noncomputable def fd79 : FnD := ⟨bodyOf Tryz.f79, 54, [.cell 2 43, .tmp 3, .tmp 4]⟩
noncomputable def fd80 : FnD := ⟨bodyOf Tryz.f80, 66, [.tmp 2]⟩
noncomputable def fd81 : FnD := ⟨bodyOf Tryz.f81, 41, [.tmp 2]⟩
noncomputable def fd82 : FnD := ⟨bodyOf Tryz.f82, 8, [.tmp 2]⟩
noncomputable def fd83 : FnD := ⟨bodyOf Tryz.f83, 74, [.cell 4 53, .tmp 5, .tmp 6]⟩
noncomputable def fd84 : FnD := ⟨bodyOf Tryz.f84, 38, [.tmp 4]⟩
noncomputable def fd85 : FnD := ⟨bodyOf Tryz.f85, 5, [.tmp 2]⟩
noncomputable def fd86 : FnD := ⟨bodyOf Tryz.f86, 11, []⟩
noncomputable def fd87 : FnD := ⟨bodyOf Tryz.f87, 14, []⟩
noncomputable def fd88 : FnD := ⟨bodyOf Tryz.f88, 17, []⟩
noncomputable def fd89 : FnD := ⟨bodyOf Tryz.f89, 16, [.tmp 2]⟩
noncomputable def fd90 : FnD := ⟨bodyOf Tryz.f90, 22, []⟩
noncomputable def fd91 : FnD := ⟨bodyOf Tryz.f91, 12, []⟩
noncomputable def fd92 : FnD := ⟨bodyOf Tryz.f92, 63, [.tmp 2, .tmp 3]⟩
noncomputable def fd93 : FnD := ⟨bodyOf Tryz.f93, 26, [.cell 4 135, .tmp 5]⟩
noncomputable def fd94 : FnD := ⟨bodyOf Tryz.f94, 24, []⟩
noncomputable def fd95 : FnD := ⟨bodyOf Tryz.f95, 79, []⟩
noncomputable def fd96 : FnD := ⟨bodyOf Tryz.f96, 117, [.tmp 2, .tmp 3]⟩
noncomputable def fd97 : FnD := ⟨bodyOf Tryz.f97, 42, [.tmp 4]⟩
noncomputable def fd98 : FnD := ⟨bodyOf Tryz.f98, 55, [.tmp 4, .tmp 5]⟩
noncomputable def fd99 : FnD := ⟨bodyOf Tryz.f99, 75, [.tmp 4]⟩
noncomputable def fd100 : FnD := ⟨bodyOf Tryz.f100, 62, [.tmp 4]⟩
noncomputable def fd101 : FnD := ⟨bodyOf Tryz.f101, 27, [.tmp 4]⟩
noncomputable def fd102 : FnD := ⟨bodyOf Tryz.f102, 27, [.tmp 4]⟩
noncomputable def fd103 : FnD := ⟨bodyOf Tryz.f103, 46, []⟩
noncomputable def fd104 : FnD := ⟨bodyOf Tryz.f104, 9, [.tmp 2]⟩
noncomputable def fd105 : FnD := ⟨bodyOf Tryz.f105, 16, [.tmp 4]⟩
noncomputable def fd106 : FnD := ⟨bodyOf Tryz.f106, 8, [.tmp 2]⟩
noncomputable def fd107 : FnD := ⟨bodyOf Tryz.f107, 13, [.tmp 4]⟩
noncomputable def fd108 : FnD := ⟨bodyOf Tryz.f108, 9, [.tmp 2]⟩
noncomputable def fd109 : FnD := ⟨bodyOf Tryz.f109, 29, [.tmp 4]⟩
noncomputable def fd110 : FnD := ⟨bodyOf Tryz.f110, 36, [.tmp 6]⟩
noncomputable def fd111 : FnD := ⟨bodyOf Tryz.f111, 14, [.tmp 2]⟩
noncomputable def fd112 : FnD := ⟨bodyOf Tryz.f112, 9, [.tmp 2]⟩
noncomputable def fd113 : FnD := ⟨bodyOf Tryz.f113, 41, [.tmp 4, .tmp 5]⟩
noncomputable def fd114 : FnD := ⟨bodyOf Tryz.f114, 25, [.tmp 4, .tmp 5]⟩
noncomputable def fd115 : FnD := ⟨bodyOf Tryz.f115, 23, [.tmp 4]⟩
noncomputable def fd116 : FnD := ⟨bodyOf Tryz.f116, 20, [.tmp 2]⟩
noncomputable def fd117 : FnD := ⟨bodyOf Tryz.f117, 41, [.cell 2 70]⟩
noncomputable def fd118 : FnD := ⟨bodyOf Tryz.f118, 22, [.tmp 2]⟩
noncomputable def fd119 : FnD := ⟨bodyOf Tryz.f119, 142, [.tmp 2]⟩
noncomputable def fd120 : FnD := ⟨bodyOf Tryz.f120, 82, [.cell 4 126]⟩
noncomputable def fd121 : FnD := ⟨bodyOf Tryz.f121, 20, [.tmp 2]⟩
noncomputable def fd122 : FnD := ⟨bodyOf Tryz.f122, 85, [.tmp 2]⟩
noncomputable def fd123 : FnD := ⟨bodyOf Tryz.f123, 31, [.tmp 2]⟩
noncomputable def fd124 : FnD := ⟨bodyOf Tryz.f124, 29, [.cell 4 137, .tmp 5]⟩
noncomputable def fd125 : FnD := ⟨bodyOf Tryz.f125, 45, [.tmp 4]⟩
noncomputable def fd126 : FnD := ⟨bodyOf Tryz.f126, 76, [.tmp 4]⟩
noncomputable def fd127 : FnD := ⟨bodyOf Tryz.f127, 61, [.tmp 2]⟩
noncomputable def fd128 : FnD := ⟨bodyOf Tryz.f128, 13, [.tmp 4]⟩
noncomputable def fd129 : FnD := ⟨bodyOf Tryz.f129, 134, []⟩
noncomputable def fd131 : FnD := ⟨bodyOf Tryz.f131, 13, [.tmp 4, .tmp 5, .tmp 6]⟩
noncomputable def fd132 : FnD := ⟨bodyOf Tryz.f132, 34, [.tmp 2, .tmp 3]⟩
noncomputable def fd133 : FnD := ⟨bodyOf Tryz.f133, 26, [.tmp 4]⟩
noncomputable def fd134 : FnD := ⟨bodyOf Tryz.f134, 30, [.tmp 2]⟩
noncomputable def fd136 : FnD := ⟨bodyOf Tryz.f136, 57, [.tmp 6]⟩
noncomputable def fd137 : FnD := ⟨bodyOf Tryz.f137, 89, []⟩
noncomputable def fd138 : FnD := ⟨bodyOf Tryz.f138, 44, [.tmp 4, .tmp 5]⟩
noncomputable def fd139 : FnD := ⟨bodyOf Tryz.f139, 61, [.tmp 4]⟩
noncomputable def fd140 : FnD := ⟨bodyOf Tryz.f140, 9, [.tmp 2]⟩
noncomputable def fd141 : FnD := ⟨bodyOf Tryz.f141, 61, [.tmp 2]⟩
noncomputable def fd142 : FnD := ⟨bodyOf Tryz.f142, 34, [.tmp 6]⟩
noncomputable def fd143 : FnD := ⟨bodyOf Tryz.f143, 49, [.tmp 2]⟩
noncomputable def fd144 : FnD := ⟨bodyOf Tryz.f144, 9, [.tmp 2]⟩
noncomputable def fd145 : FnD := ⟨bodyOf Tryz.f145, 44, [.tmp 4, .tmp 5]⟩
noncomputable def fd146 : FnD := ⟨bodyOf Tryz.f146, 30, [.tmp 4, .tmp 5]⟩
noncomputable def fd147 : FnD := ⟨bodyOf Tryz.f147, 61, [.cell 4 40]⟩
noncomputable def fd148 : FnD := ⟨bodyOf Tryz.f148, 48, [.tmp 4]⟩
noncomputable def fd149 : FnD := ⟨bodyOf Tryz.f149, 30, [.tmp 6]⟩
noncomputable def fd150 : FnD := ⟨bodyOf Tryz.f150, 65, [.tmp 2]⟩
noncomputable def fd151 : FnD := ⟨bodyOf Tryz.f151, 71, [.tmp 4]⟩
noncomputable def fd152 : FnD := ⟨bodyOf Tryz.f152, 4, [.tmp 2]⟩
noncomputable def fd153 : FnD := ⟨bodyOf Tryz.f153, 25, [.tmp 2]⟩
noncomputable def fd154 : FnD := ⟨bodyOf Tryz.f154, 3, [.tmp 2]⟩
noncomputable def fd155 : FnD := ⟨bodyOf Tryz.f155, 42, [.tmp 4]⟩
noncomputable def fd156 : FnD := ⟨bodyOf Tryz.f156, 71, [.tmp 2, .tmp 3]⟩
noncomputable def fd157 : FnD := ⟨bodyOf Tryz.f157, 9, [.tmp 4]⟩
noncomputable def fd158 : FnD := ⟨bodyOf Tryz.f158, 14, [.tmp 3]⟩
noncomputable def fd159 : FnD := ⟨bodyOf Tryz.f159, 23, [.tmp 4]⟩
noncomputable def fd160 : FnD := ⟨bodyOf Tryz.f160, 25, [.tmp 2]⟩
noncomputable def fd161 : FnD := ⟨bodyOf Tryz.f161, 13, [.tmp 2]⟩
noncomputable def fd162 : FnD := ⟨bodyOf Tryz.f162, 26, []⟩
noncomputable def fd163 : FnD := ⟨bodyOf Tryz.f163, 19, []⟩
noncomputable def fd164 : FnD := ⟨bodyOf Tryz.f164, 85, [.tmp 2, .tmp 3]⟩
noncomputable def fd165 : FnD := ⟨bodyOf Tryz.f165, 22, [.tmp 4]⟩
noncomputable def fd166 : FnD := ⟨bodyOf Tryz.f166, 27, []⟩
noncomputable def fd167 : FnD := ⟨bodyOf Tryz.f167, 83, [.tmp 6]⟩
noncomputable def fd168 : FnD := ⟨bodyOf Tryz.f168, 16, [.tmp 2]⟩
noncomputable def fd169 : FnD := ⟨bodyOf Tryz.f169, 63, [.tmp 2]⟩
noncomputable def fd170 : FnD := ⟨bodyOf Tryz.f170, 26, [.tmp 4]⟩
noncomputable def fd172 : FnD := ⟨bodyOf Tryz.f172, 4, [.tmp 2]⟩
noncomputable def fd173 : FnD := ⟨bodyOf Tryz.f173, 32, [.tmp 6]⟩
noncomputable def fd174 : FnD := ⟨bodyOf Tryz.f174, 19, [.tmp 4]⟩
noncomputable def fd175 : FnD := ⟨bodyOf Tryz.f175, 49, []⟩
noncomputable def fd176 : FnD := ⟨bodyOf Tryz.f176, 56, []⟩
noncomputable def fd177 : FnD := ⟨bodyOf Tryz.f177, 65, []⟩
noncomputable def fd178 : FnD := ⟨bodyOf Tryz.f178, 57, [.tmp 6, .tmp 7]⟩
noncomputable def fd179 : FnD := ⟨bodyOf Tryz.f179, 32, []⟩
noncomputable def fd180 : FnD := ⟨bodyOf Tryz.f180, 133, [.tmp 6]⟩
noncomputable def fd181 : FnD := ⟨bodyOf Tryz.f181, 17, [.tmp 4]⟩
noncomputable def fd182 : FnD := ⟨bodyOf Tryz.f182, 84, [.tmp 8]⟩
noncomputable def fd183 : FnD := ⟨bodyOf Tryz.f183, 168, [.tmp 8, .tmp 9]⟩
noncomputable def fd185 : FnD := ⟨bodyOf Tryz.f185, 25, [.tmp 2]⟩
noncomputable def fd186 : FnD := ⟨bodyOf Tryz.f186, 23, [.tmp 4, .tmp 5, .tmp 6]⟩
noncomputable def fd187 : FnD := ⟨bodyOf Tryz.f187, 25, [.tmp 2]⟩
noncomputable def fd194 : FnD := ⟨bodyOf Tryz.f194, 16, [.tmp 2]⟩
noncomputable def fd195 : FnD := ⟨bodyOf Tryz.f195, 20, [.tmp 2]⟩
noncomputable def fd196 : FnD := ⟨bodyOf Tryz.f196, 16, [.tmp 4]⟩
noncomputable def fd197 : FnD := ⟨bodyOf Tryz.f197, 35, [.tmp 2]⟩
noncomputable def fd198 : FnD := ⟨bodyOf Tryz.f198, 14, [.tmp 2]⟩
noncomputable def fd199 : FnD := ⟨bodyOf Tryz.f199, 31, [.tmp 2]⟩
noncomputable def fd200 : FnD := ⟨bodyOf Tryz.f200, 11, [.tmp 4]⟩
noncomputable def fd201 : FnD := ⟨bodyOf Tryz.f201, 24, [.tmp 4]⟩
noncomputable def fd202 : FnD := ⟨bodyOf Tryz.f202, 11, [.tmp 2]⟩
noncomputable def fd203 : FnD := ⟨bodyOf Tryz.f203, 57, [.tmp 2]⟩
noncomputable def fd204 : FnD := ⟨bodyOf Tryz.f204, 38, [.tmp 4]⟩
noncomputable def fd205 : FnD := ⟨bodyOf Tryz.f205, 14, []⟩
noncomputable def fd206 : FnD := ⟨bodyOf Tryz.f206, 19, [.tmp 4, .tmp 5]⟩
noncomputable def fd207 : FnD := ⟨bodyOf Tryz.f207, 7, [.tmp 2]⟩
noncomputable def fd208 : FnD := ⟨bodyOf Tryz.f208, 5, [.tmp 2]⟩
noncomputable def fd209 : FnD := ⟨bodyOf Tryz.f209, 14, [.tmp 2]⟩
noncomputable def fd210 : FnD := ⟨bodyOf Tryz.f210, 19, [.tmp 4]⟩
noncomputable def fd211 : FnD := ⟨bodyOf Tryz.f211, 25, [.tmp 2]⟩
noncomputable def fd212 : FnD := ⟨bodyOf Tryz.f212, 29, [.tmp 2]⟩
noncomputable def fd213 : FnD := ⟨bodyOf Tryz.f213, 38, [.tmp 2, .tmp 3]⟩
noncomputable def fd214 : FnD := ⟨bodyOf Tryz.f214, 20, [.tmp 2]⟩
noncomputable def fd215 : FnD := ⟨bodyOf Tryz.f215, 68, [.tmp 6]⟩
noncomputable def fd216 : FnD := ⟨bodyOf Tryz.f216, 40, []⟩
noncomputable def fd217 : FnD := ⟨bodyOf Tryz.f217, 29, []⟩
noncomputable def fd218 : FnD := ⟨bodyOf Tryz.f218, 18, [.tmp 2]⟩
noncomputable def fd219 : FnD := ⟨bodyOf Tryz.f219, 9, [.tmp 4]⟩
noncomputable def fd220 : FnD := ⟨bodyOf Tryz.f220, 6, [.tmp 2]⟩
noncomputable def fd221 : FnD := ⟨bodyOf Tryz.f221, 5, [.tmp 2]⟩
noncomputable def fd222 : FnD := ⟨bodyOf Tryz.f222, 11, []⟩
noncomputable def fd224 : FnD := ⟨bodyOf Tryz.f224, 76, []⟩
noncomputable def fd225 : FnD := ⟨bodyOf Tryz.f225, 7, [.tmp 2]⟩
noncomputable def fd227 : FnD := ⟨bodyOf Tryz.f227, 15, [.tmp 6]⟩
noncomputable def fd228 : FnD := ⟨bodyOf Tryz.f228, 36, [.tmp 10]⟩
noncomputable def fd229 : FnD := ⟨bodyOf Tryz.f229, 6, [.tmp 2]⟩
noncomputable def fd230 : FnD := ⟨bodyOf Tryz.f230, 143, [.tmp 4]⟩
noncomputable def fd231 : FnD := ⟨bodyOf Tryz.f231, 8, [.tmp 4]⟩
noncomputable def fd237 : FnD := ⟨bodyOf Tryz.f237, 24, [.tmp 2]⟩
noncomputable def fd238 : FnD := ⟨bodyOf Tryz.f238, 64, [.tmp 4]⟩
noncomputable def fd239 : FnD := ⟨bodyOf Tryz.f239, 20, []⟩
noncomputable def fd241 : FnD := ⟨bodyOf Tryz.f241, 5, [.tmp 2]⟩
noncomputable def fd242 : FnD := ⟨bodyOf Tryz.f242, 57, []⟩
noncomputable def fd243 : FnD := ⟨bodyOf Tryz.f243, 22, [.tmp 2]⟩
noncomputable def fd244 : FnD := ⟨bodyOf Tryz.f244, 19, [.tmp 4]⟩
noncomputable def fd245 : FnD := ⟨bodyOf Tryz.f245, 13, [.tmp 4]⟩
noncomputable def fd246 : FnD := ⟨bodyOf Tryz.f246, 134, []⟩
noncomputable def fd247 : FnD := ⟨bodyOf Tryz.f247, 28, [.tmp 8, .tmp 9]⟩
noncomputable def fd259 : FnD := ⟨bodyOf Tryz.f259, 25, [.tmp 2]⟩
noncomputable def fd262 : FnD := ⟨bodyOf Tryz.f262, 54, [.tmp 4]⟩
noncomputable def fd263 : FnD := ⟨bodyOf Tryz.f263, 49, []⟩
noncomputable def fd264 : FnD := ⟨bodyOf Tryz.f264, 56, []⟩
noncomputable def fd265 : FnD := ⟨bodyOf Tryz.f265, 65, []⟩
noncomputable def fd266 : FnD := ⟨bodyOf Tryz.f266, 57, [.tmp 6, .tmp 7]⟩
noncomputable def fd267 : FnD := ⟨bodyOf Tryz.f267, 32, []⟩
noncomputable def fd268 : FnD := ⟨bodyOf Tryz.f268, 133, [.tmp 6]⟩
noncomputable def fd269 : FnD := ⟨bodyOf Tryz.f269, 17, [.tmp 4]⟩
noncomputable def fd270 : FnD := ⟨bodyOf Tryz.f270, 84, [.tmp 8]⟩
noncomputable def fd271 : FnD := ⟨bodyOf Tryz.f271, 168, [.tmp 8, .tmp 9]⟩
noncomputable def fd278 : FnD := ⟨bodyOf Tryz.f278, 15, [.tmp 2]⟩
noncomputable def fd279 : FnD := ⟨bodyOf Tryz.f279, 15, [.tmp 2]⟩
noncomputable def fd280 : FnD := ⟨bodyOf Tryz.f280, 167, []⟩
noncomputable def fd282 : FnD := ⟨bodyOf Tryz.f282, 76, []⟩
noncomputable def fd283 : FnD := ⟨bodyOf Tryz.f283, 15, [.tmp 6]⟩
noncomputable def fd284 : FnD := ⟨bodyOf Tryz.f284, 36, [.tmp 10]⟩
noncomputable def fd285 : FnD := ⟨bodyOf Tryz.f285, 6, [.tmp 2]⟩
noncomputable def fd289 : FnD := ⟨bodyOf Tryz.f289, 6, [.tmp 2]⟩
noncomputable def fd290 : FnD := ⟨bodyOf Tryz.f290, 4, [.tmp 2]⟩
noncomputable def fd293 : FnD := ⟨bodyOf Tryz.f293, 28, [.tmp 8, .tmp 9]⟩
noncomputable def gfn (n : Nat) : Option FnD := (bif Nat.blt n 294 then (bif Nat.blt n 147 then (bif Nat.blt n 73 then (bif Nat.blt n 36 then (bif Nat.blt n 18 then (bif Nat.blt n 9 then (bif Nat.blt n 4 then (bif Nat.blt n 2 then none else (bif Nat.blt n 3 then none else some fd3)) else (bif Nat.blt n 6 then (bif Nat.blt n 5 then some fd4 else some fd5) else (bif Nat.blt n 7 then some fd6 else (bif Nat.blt n 8 then some fd7 else some fd8)))) else (bif Nat.blt n 13 then (bif Nat.blt n 11 then (bif Nat.blt n 10 then some fd9 else some fd10) else (bif Nat.blt n 12 then some fd11 else some fd12)) else (bif Nat.blt n 15 then (bif Nat.blt n 14 then some fd13 else some fd14) else (bif Nat.blt n 16 then some fd15 else (bif Nat.blt n 17 then some fd16 else some fd17))))) else (bif Nat.blt n 27 then (bif Nat.blt n 22 then (bif Nat.blt n 20 then (bif Nat.blt n 19 then some fd18 else some fd19) else (bif Nat.blt n 21 then some fd20 else some fd21)) else (bif Nat.blt n 24 then (bif Nat.blt n 23 then some fd22 else some fd23) else (bif Nat.blt n 25 then some fd24 else (bif Nat.blt n 26 then some fd25 else some fd26)))) else (bif Nat.blt n 31 then (bif Nat.blt n 29 then (bif Nat.blt n 28 then some fd27 else some fd28) else (bif Nat.blt n 30 then some fd29 else some fd30)) else (bif Nat.blt n 33 then (bif Nat.blt n 32 then some fd31 else some fd32) else (bif Nat.blt n 34 then some fd33 else (bif Nat.blt n 35 then some fd34 else some fd35)))))) else (bif Nat.blt n 54 then (bif Nat.blt n 45 then (bif Nat.blt n 40 then (bif Nat.blt n 38 then (bif Nat.blt n 37 then some fd36 else some fd37) else (bif Nat.blt n 39 then some fd38 else some fd39)) else (bif Nat.blt n 42 then (bif Nat.blt n 41 then some fd40 else some fd41) else (bif Nat.blt n 43 then some fd42 else (bif Nat.blt n 44 then some fd43 else some fd44)))) else (bif Nat.blt n 49 then (bif Nat.blt n 47 then (bif Nat.blt n 46 then some fd45 else some fd46) else (bif Nat.blt n 48 then some fd47 else some fd48)) else (bif Nat.blt n 51 then (bif Nat.blt n 50 then some fd49 else some fd50) else (bif Nat.blt n 52 then some fd51 else (bif Nat.blt n 53 then some fd52 else none))))) else (bif Nat.blt n 63 then (bif Nat.blt n 58 then (bif Nat.blt n 56 then (bif Nat.blt n 55 then none else some fd55) else (bif Nat.blt n 57 then some fd56 else some fd57)) else (bif Nat.blt n 60 then (bif Nat.blt n 59 then some fd58 else some fd59) else (bif Nat.blt n 61 then some fd60 else (bif Nat.blt n 62 then some fd61 else some fd62)))) else (bif Nat.blt n 68 then (bif Nat.blt n 65 then (bif Nat.blt n 64 then some fd63 else some fd64) else (bif Nat.blt n 66 then some fd65 else (bif Nat.blt n 67 then some fd66 else some fd67))) else (bif Nat.blt n 70 then (bif Nat.blt n 69 then some fd68 else some fd69) else (bif Nat.blt n 71 then some fd70 else (bif Nat.blt n 72 then some fd71 else some fd72))))))) else (bif Nat.blt n 110 then (bif Nat.blt n 91 then (bif Nat.blt n 82 then (bif Nat.blt n 77 then (bif Nat.blt n 75 then (bif Nat.blt n 74 then some fd73 else some fd74) else (bif Nat.blt n 76 then some fd75 else some fd76)) else (bif Nat.blt n 79 then (bif Nat.blt n 78 then some fd77 else some fd78) else (bif Nat.blt n 80 then some fd79 else (bif Nat.blt n 81 then some fd80 else some fd81)))) else (bif Nat.blt n 86 then (bif Nat.blt n 84 then (bif Nat.blt n 83 then some fd82 else some fd83) else (bif Nat.blt n 85 then some fd84 else some fd85)) else (bif Nat.blt n 88 then (bif Nat.blt n 87 then some fd86 else some fd87) else (bif Nat.blt n 89 then some fd88 else (bif Nat.blt n 90 then some fd89 else some fd90))))) else (bif Nat.blt n 100 then (bif Nat.blt n 95 then (bif Nat.blt n 93 then (bif Nat.blt n 92 then some fd91 else some fd92) else (bif Nat.blt n 94 then some fd93 else some fd94)) else (bif Nat.blt n 97 then (bif Nat.blt n 96 then some fd95 else some fd96) else (bif Nat.blt n 98 then some fd97 else (bif Nat.blt n 99 then some fd98 else some fd99)))) else (bif Nat.blt n 105 then (bif Nat.blt n 102 then (bif Nat.blt n 101 then some fd100 else some fd101) else (bif Nat.blt n 103 then some fd102 else (bif Nat.blt n 104 then some fd103 else some fd104))) else (bif Nat.blt n 107 then (bif Nat.blt n 106 then some fd105 else some fd106) else (bif Nat.blt n 108 then some fd107 else (bif Nat.blt n 109 then some fd108 else some fd109)))))) else (bif Nat.blt n 128 then (bif Nat.blt n 119 then (bif Nat.blt n 114 then (bif Nat.blt n 112 then (bif Nat.blt n 111 then some fd110 else some fd111) else (bif Nat.blt n 113 then some fd112 else some fd113)) else (bif Nat.blt n 116 then (bif Nat.blt n 115 then some fd114 else some fd115) else (bif Nat.blt n 117 then some fd116 else (bif Nat.blt n 118 then some fd117 else some fd118)))) else (bif Nat.blt n 123 then (bif Nat.blt n 121 then (bif Nat.blt n 120 then some fd119 else some fd120) else (bif Nat.blt n 122 then some fd121 else some fd122)) else (bif Nat.blt n 125 then (bif Nat.blt n 124 then some fd123 else some fd124) else (bif Nat.blt n 126 then some fd125 else (bif Nat.blt n 127 then some fd126 else some fd127))))) else (bif Nat.blt n 137 then (bif Nat.blt n 132 then (bif Nat.blt n 130 then (bif Nat.blt n 129 then some fd128 else some fd129) else (bif Nat.blt n 131 then none else some fd131)) else (bif Nat.blt n 134 then (bif Nat.blt n 133 then some fd132 else some fd133) else (bif Nat.blt n 135 then some fd134 else (bif Nat.blt n 136 then none else some fd136)))) else (bif Nat.blt n 142 then (bif Nat.blt n 139 then (bif Nat.blt n 138 then some fd137 else some fd138) else (bif Nat.blt n 140 then some fd139 else (bif Nat.blt n 141 then some fd140 else some fd141))) else (bif Nat.blt n 144 then (bif Nat.blt n 143 then some fd142 else some fd143) else (bif Nat.blt n 145 then some fd144 else (bif Nat.blt n 146 then some fd145 else some fd146)))))))) else (bif Nat.blt n 220 then (bif Nat.blt n 183 then (bif Nat.blt n 165 then (bif Nat.blt n 156 then (bif Nat.blt n 151 then (bif Nat.blt n 149 then (bif Nat.blt n 148 then some fd147 else some fd148) else (bif Nat.blt n 150 then some fd149 else some fd150)) else (bif Nat.blt n 153 then (bif Nat.blt n 152 then some fd151 else some fd152) else (bif Nat.blt n 154 then some fd153 else (bif Nat.blt n 155 then some fd154 else some fd155)))) else (bif Nat.blt n 160 then (bif Nat.blt n 158 then (bif Nat.blt n 157 then some fd156 else some fd157) else (bif Nat.blt n 159 then some fd158 else some fd159)) else (bif Nat.blt n 162 then (bif Nat.blt n 161 then some fd160 else some fd161) else (bif Nat.blt n 163 then some fd162 else (bif Nat.blt n 164 then some fd163 else some fd164))))) else (bif Nat.blt n 174 then (bif Nat.blt n 169 then (bif Nat.blt n 167 then (bif Nat.blt n 166 then some fd165 else some fd166) else (bif Nat.blt n 168 then some fd167 else some fd168)) else (bif Nat.blt n 171 then (bif Nat.blt n 170 then some fd169 else some fd170) else (bif Nat.blt n 172 then none else (bif Nat.blt n 173 then some fd172 else some fd173)))) else (bif Nat.blt n 178 then (bif Nat.blt n 176 then (bif Nat.blt n 175 then some fd174 else some fd175) else (bif Nat.blt n 177 then some fd176 else some fd177)) else (bif Nat.blt n 180 then (bif Nat.blt n 179 then some fd178 else some fd179) else (bif Nat.blt n 181 then some fd180 else (bif Nat.blt n 182 then some fd181 else some fd182)))))) else (bif Nat.blt n 201 then (bif Nat.blt n 192 then (bif Nat.blt n 187 then (bif Nat.blt n 185 then (bif Nat.blt n 184 then some fd183 else none) else (bif Nat.blt n 186 then some fd185 else some fd186)) else (bif Nat.blt n 189 then (bif Nat.blt n 188 then some fd187 else none) else none)) else (bif Nat.blt n 196 then (bif Nat.blt n 194 then none else (bif Nat.blt n 195 then some fd194 else some fd195)) else (bif Nat.blt n 198 then (bif Nat.blt n 197 then some fd196 else some fd197) else (bif Nat.blt n 199 then some fd198 else (bif Nat.blt n 200 then some fd199 else some fd200))))) else (bif Nat.blt n 210 then (bif Nat.blt n 205 then (bif Nat.blt n 203 then (bif Nat.blt n 202 then some fd201 else some fd202) else (bif Nat.blt n 204 then some fd203 else some fd204)) else (bif Nat.blt n 207 then (bif Nat.blt n 206 then some fd205 else some fd206) else (bif Nat.blt n 208 then some fd207 else (bif Nat.blt n 209 then some fd208 else some fd209)))) else (bif Nat.blt n 215 then (bif Nat.blt n 212 then (bif Nat.blt n 211 then some fd210 else some fd211) else (bif Nat.blt n 213 then some fd212 else (bif Nat.blt n 214 then some fd213 else some fd214))) else (bif Nat.blt n 217 then (bif Nat.blt n 216 then some fd215 else some fd216) else (bif Nat.blt n 218 then some fd217 else (bif Nat.blt n 219 then some fd218 else some fd219))))))) else (bif Nat.blt n 257 then (bif Nat.blt n 238 then (bif Nat.blt n 229 then (bif Nat.blt n 224 then (bif Nat.blt n 222 then (bif Nat.blt n 221 then some fd220 else some fd221) else (bif Nat.blt n 223 then some fd222 else none)) else (bif Nat.blt n 226 then (bif Nat.blt n 225 then some fd224 else some fd225) else (bif Nat.blt n 227 then none else (bif Nat.blt n 228 then some fd227 else some fd228)))) else (bif Nat.blt n 233 then (bif Nat.blt n 231 then (bif Nat.blt n 230 then some fd229 else some fd230) else (bif Nat.blt n 232 then some fd231 else none)) else (bif Nat.blt n 235 then none else (bif Nat.blt n 236 then none else (bif Nat.blt n 237 then none else some fd237))))) else (bif Nat.blt n 247 then (bif Nat.blt n 242 then (bif Nat.blt n 240 then (bif Nat.blt n 239 then some fd238 else some fd239) else (bif Nat.blt n 241 then none else some fd241)) else (bif Nat.blt n 244 then (bif Nat.blt n 243 then some fd242 else some fd243) else (bif Nat.blt n 245 then some fd244 else (bif Nat.blt n 246 then some fd245 else some fd246)))) else (bif Nat.blt n 252 then (bif Nat.blt n 249 then (bif Nat.blt n 248 then some fd247 else none) else none) else none))) else (bif Nat.blt n 275 then (bif Nat.blt n 266 then (bif Nat.blt n 261 then (bif Nat.blt n 259 then none else (bif Nat.blt n 260 then some fd259 else none)) else (bif Nat.blt n 263 then (bif Nat.blt n 262 then none else some fd262) else (bif Nat.blt n 264 then some fd263 else (bif Nat.blt n 265 then some fd264 else some fd265)))) else (bif Nat.blt n 270 then (bif Nat.blt n 268 then (bif Nat.blt n 267 then some fd266 else some fd267) else (bif Nat.blt n 269 then some fd268 else some fd269)) else (bif Nat.blt n 272 then (bif Nat.blt n 271 then some fd270 else some fd271) else none))) else (bif Nat.blt n 284 then (bif Nat.blt n 279 then (bif Nat.blt n 277 then none else (bif Nat.blt n 278 then none else some fd278)) else (bif Nat.blt n 281 then (bif Nat.blt n 280 then some fd279 else some fd280) else (bif Nat.blt n 282 then none else (bif Nat.blt n 283 then some fd282 else some fd283)))) else (bif Nat.blt n 289 then (bif Nat.blt n 286 then (bif Nat.blt n 285 then some fd284 else some fd285) else none) else (bif Nat.blt n 291 then (bif Nat.blt n 290 then some fd289 else some fd290) else (bif Nat.blt n 292 then none else (bif Nat.blt n 293 then none else some fd293))))))))) else none)
def cmpOn (t : TypeId) : Bool := t == 57 || t == 66 || t == 210
theorem gty_list : (List.range 392).map gty = (List.range 392).map (tyOf Tryz.prog cmpOn) := by kernel_rfl
theorem gty_ok (t : Nat) : gty t = tyOf Tryz.prog cmpOn t := by
  by_cases h : t < 392
  · have := congrArg (fun l => l[t]?) gty_list
    simpa [h] using this
  · have h2 : tyOf Tryz.prog cmpOn t = ⟨.bad, 0, 0, .any⟩ := by
      unfold tyOf
      rw [if_neg (by rw [Tryz.types_size]; exact h)]
    rw [h2]
    have hb : Nat.blt t 392 = false := by
      rw [← Bool.not_eq_true, Nat.blt_eq]; exact h
    rw [gty, hb]
    rfl
theorem deps_ok : ((List.range 392).all fun t => !hasT Tryz.prog t || (depsOf (Tryz.prog.underlying t)).all (hasT Tryz.prog)) = true := by kernel_rfl
theorem cond_some {α : Type} {b : Bool} {x y : Option α} {z : α} (h : cond b x y = some z) : (b = true ∧ x = some z) ∨ (b = false ∧ y = some z) := by cases b <;> simp_all
def FnOK (f : Nat) (fd : FnD) : Prop := ∃ F : Func, Tryz.prog.funcs[f]? = some F ∧ F.body = some fd.body ∧ F.ntmps = fd.ntmps ∧ F.results.toList = fd.results ∧ (F.name == "runtime.NumGoroutine") = false
theorem blt_t {n m : Nat} (h : Nat.blt n m = true) : n < m := by rwa [Nat.blt_eq] at h
theorem blt_f {n m : Nat} (h : Nat.blt n m = false) : m ≤ n := by rw [← Bool.not_eq_true, Nat.blt_eq] at h; omega
theorem fok3 : FnOK 3 fd3 := ⟨Tryz.f3, Tryz.func3, by kernel_rfl, by kernel_rfl, by kernel_rfl, by kernel_rfl⟩
theorem fok4 : FnOK 4 fd4 := ⟨Tryz.f4, Tryz.func4, by kernel_rfl, by kernel_rfl, by kernel_rfl, by kernel_rfl⟩
theorem fok5 : FnOK 5 fd5 := ⟨Tryz.f5, Tryz.func5, by kernel_rfl, by kernel_rfl, by kernel_rfl, by kernel_rfl⟩
theorem fok6 : FnOK 6 fd6 := ⟨Tryz.f6, Tryz.func6, by kernel_rfl, by kernel_rfl, by kernel_rfl, by kernel_rfl⟩
theorem fok7 : FnOK 7 fd7 := ⟨Tryz.f7, Tryz.func7, by kernel_rfl, by kernel_rfl, by kernel_rfl, by kernel_rfl⟩
theorem fok8 : FnOK 8 fd8 := ⟨Tryz.f8, Tryz.func8, by kernel_rfl, by kernel_rfl, by kernel_rfl, by kernel_rfl⟩
theorem fok9 : FnOK 9 fd9 := ⟨Tryz.f9, Tryz.func9, by kernel_rfl, by kernel_rfl, by kernel_rfl, by kernel_rfl⟩
theorem fok10 : FnOK 10 fd10 := ⟨Tryz.f10, Tryz.func10, by kernel_rfl, by kernel_rfl, by kernel_rfl, by kernel_rfl⟩
theorem fok11 : FnOK 11 fd11 := ⟨Tryz.f11, Tryz.func11, by kernel_rfl, by kernel_rfl, by kernel_rfl, by kernel_rfl⟩
theorem fok12 : FnOK 12 fd12 := ⟨Tryz.f12, Tryz.func12, by kernel_rfl, by kernel_rfl, by kernel_rfl, by kernel_rfl⟩
theorem fok13 : FnOK 13 fd13 := ⟨Tryz.f13, Tryz.func13, by kernel_rfl, by kernel_rfl, by kernel_rfl, by kernel_rfl⟩
theorem fok14 : FnOK 14 fd14 := ⟨Tryz.f14, Tryz.func14, by kernel_rfl, by kernel_rfl, by kernel_rfl, by kernel_rfl⟩
theorem fok15 : FnOK 15 fd15 := ⟨Tryz.f15, Tryz.func15, by kernel_rfl, by kernel_rfl, by kernel_rfl, by kernel_rfl⟩
theorem fok16 : FnOK 16 fd16 := ⟨Tryz.f16, Tryz.func16, by kernel_rfl, by kernel_rfl, by kernel_rfl, by kernel_rfl⟩
theorem fok17 : FnOK 17 fd17 := ⟨Tryz.f17, Tryz.func17, by kernel_rfl, by kernel_rfl, by kernel_rfl, by kernel_rfl⟩
theorem fok18 : FnOK 18 fd18 := ⟨Tryz.f18, Tryz.func18, by kernel_rfl, by kernel_rfl, by kernel_rfl, by kernel_rfl⟩
theorem fok19 : FnOK 19 fd19 := ⟨Tryz.f19, Tryz.func19, by kernel_rfl, by kernel_rfl, by kernel_rfl, by kernel_rfl⟩
theorem fok20 : FnOK 20 fd20 := ⟨Tryz.f20, Tryz.func20, by kernel_rfl, by kernel_rfl, by kernel_rfl, by kernel_rfl⟩
theorem fok21 : FnOK 21 fd21 := ⟨Tryz.f21, Tryz.func21, by kernel_rfl, by kernel_rfl, by kernel_rfl, by kernel_rfl⟩
theorem fok22 : FnOK 22 fd22 := ⟨Tryz.f22, Tryz.func22, by kernel_rfl, by kernel_rfl, by kernel_rfl, by kernel_rfl⟩
theorem fok23 : FnOK 23 fd23 := ⟨Tryz.f23, Tryz.func23, by kernel_rfl, by kernel_rfl, by kernel_rfl, by kernel_rfl⟩
theorem fok24 : FnOK 24 fd24 := ⟨Tryz.f24, Tryz.func24, by kernel_rfl, by kernel_rfl, by kernel_rfl, by kernel_rfl⟩
theorem fok25 : FnOK 25 fd25 := ⟨Tryz.f25, Tryz.func25, by kernel_rfl, by kernel_rfl, by kernel_rfl, by kernel_rfl⟩
theorem fok26 : FnOK 26 fd26 := ⟨Tryz.f26, Tryz.func26, by kernel_rfl, by kernel_rfl, by kernel_rfl, by kernel_rfl⟩
theorem fok27 : FnOK 27 fd27 := ⟨Tryz.f27, Tryz.func27, by kernel_rfl, by kernel_rfl, by kernel_rfl, by kernel_rfl⟩
theorem fok28 : FnOK 28 fd28 := ⟨Tryz.f28, Tryz.func28, by kernel_rfl, by kernel_rfl, by kernel_rfl, by kernel_rfl⟩
theorem fok29 : FnOK 29 fd29 := ⟨Tryz.f29, Tryz.func29, by kernel_rfl, by kernel_rfl, by kernel_rfl, by kernel_rfl⟩
theorem fok30 : FnOK 30 fd30 := ⟨Tryz.f30, Tryz.func30, by kernel_rfl, by kernel_rfl, by kernel_rfl, by kernel_rfl⟩
theorem fok31 : FnOK 31 fd31 := ⟨Tryz.f31, Tryz.func31, by kernel_rfl, by kernel_rfl, by kernel_rfl, by kernel_rfl⟩
theorem fok32 : FnOK 32 fd32 := ⟨Tryz.f32, Tryz.func32, by kernel_rfl, by kernel_rfl, by kernel_rfl, by kernel_rfl⟩
theorem fok33 : FnOK 33 fd33 := ⟨Tryz.f33, Tryz.func33, by kernel_rfl, by kernel_rfl, by kernel_rfl, by kernel_rfl⟩
theorem fok34 : FnOK 34 fd34 := ⟨Tryz.f34, Tryz.func34, by kernel_rfl, by kernel_rfl, by kernel_rfl, by kernel_rfl⟩
theorem fok35 : FnOK 35 fd35 := ⟨Tryz.f35, Tryz.func35, by kernel_rfl, by kernel_rfl, by kernel_rfl, by kernel_rfl⟩
theorem fok36 : FnOK 36 fd36 := ⟨Tryz.f36, Tryz.func36, by kernel_rfl, by kernel_rfl, by kernel_rfl, by kernel_rfl⟩
theorem fok37 : FnOK 37 fd37 := ⟨Tryz.f37, Tryz.func37, by kernel_rfl, by kernel_rfl, by kernel_rfl, by kernel_rfl⟩
theorem fok38 : FnOK 38 fd38 := ⟨Tryz.f38, Tryz.func38, by kernel_rfl, by kernel_rfl, by kernel_rfl, by kernel_rfl⟩
theorem fok39 : FnOK 39 fd39 := ⟨Tryz.f39, Tryz.func39, by kernel_rfl, by kernel_rfl, by kernel_rfl, by kernel_rfl⟩
theorem fok40 : FnOK 40 fd40 := ⟨Tryz.f40, Tryz.func40, by kernel_rfl, by kernel_rfl, by kernel_rfl, by kernel_rfl⟩
theorem fok41 : FnOK 41 fd41 := ⟨Tryz.f41, Tryz.func41, by kernel_rfl, by kernel_rfl, by kernel_rfl, by kernel_rfl⟩
theorem fok42 : FnOK 42 fd42 := ⟨Tryz.f42, Tryz.func42, by kernel_rfl, by kernel_rfl, by kernel_rfl, by kernel_rfl⟩
theorem fok43 : FnOK 43 fd43 := ⟨Tryz.f43, Tryz.func43, by kernel_rfl, by kernel_rfl, by kernel_rfl, by kernel_rfl⟩
theorem fok44 : FnOK 44 fd44 := ⟨Tryz.f44, Tryz.func44, by kernel_rfl, by kernel_rfl, by kernel_rfl, by kernel_rfl⟩
theorem fok45 : FnOK 45 fd45 := ⟨Tryz.f45, Tryz.func45, by kernel_rfl, by kernel_rfl, by kernel_rfl, by kernel_rfl⟩
theorem fok46 : FnOK 46 fd46 := ⟨Tryz.f46, Tryz.func46, by kernel_rfl, by kernel_rfl, by kernel_rfl, by kernel_rfl⟩
theorem fok47 : FnOK 47 fd47 := ⟨Tryz.f47, Tryz.func47, by kernel_rfl, by kernel_rfl, by kernel_rfl, by kernel_rfl⟩
theorem fok48 : FnOK 48 fd48 := ⟨Tryz.f48, Tryz.func48, by kernel_rfl, by kernel_rfl, by kernel_rfl, by kernel_rfl⟩
theorem fok49 : FnOK 49 fd49 := ⟨Tryz.f49, Tryz.func49, by kernel_rfl, by kernel_rfl, by kernel_rfl, by kernel_rfl⟩
theorem fok50 : FnOK 50 fd50 := ⟨Tryz.f50, Tryz.func50, by kernel_rfl, by kernel_rfl, by kernel_rfl, by kernel_rfl⟩
theorem fok51 : FnOK 51 fd51 := ⟨Tryz.f51, Tryz.func51, by kernel_rfl, by kernel_rfl, by kernel_rfl, by kernel_rfl⟩
theorem fok52 : FnOK 52 fd52 := ⟨Tryz.f52, Tryz.func52, by kernel_rfl, by kernel_rfl, by kernel_rfl, by kernel_rfl⟩
theorem fok55 : FnOK 55 fd55 := ⟨Tryz.f55, Tryz.func55, by kernel_rfl, by kernel_rfl, by kernel_rfl, by kernel_rfl⟩
theorem fok56 : FnOK 56 fd56 := ⟨Tryz.f56, Tryz.func56, by kernel_rfl, by kernel_rfl, by kernel_rfl, by kernel_rfl⟩
theorem fok57 : FnOK 57 fd57 := ⟨Tryz.f57, Tryz.func57, by kernel_rfl, by kernel_rfl, by kernel_rfl, by kernel_rfl⟩
theorem fok58 : FnOK 58 fd58 := ⟨Tryz.f58, Tryz.func58, by kernel_rfl, by kernel_rfl, by kernel_rfl, by kernel_rfl⟩
theorem fok59 : FnOK 59 fd59 := ⟨Tryz.f59, Tryz.func59, by kernel_rfl, by kernel_rfl, by kernel_rfl, by kernel_rfl⟩
theorem fok60 : FnOK 60 fd60 := ⟨Tryz.f60, Tryz.func60, by kernel_rfl, by kernel_rfl, by kernel_rfl, by kernel_rfl⟩
theorem fok61 : FnOK 61 fd61 := ⟨Tryz.f61, Tryz.func61, by kernel_rfl, by kernel_rfl, by kernel_rfl, by kernel_rfl⟩
theorem fok62 : FnOK 62 fd62 := ⟨Tryz.f62, Tryz.func62, by kernel_rfl, by kernel_rfl, by kernel_rfl, by kernel_rfl⟩
theorem fok63 : FnOK 63 fd63 := ⟨Tryz.f63, Tryz.func63, by kernel_rfl, by kernel_rfl, by kernel_rfl, by kernel_rfl⟩
theorem fok64 : FnOK 64 fd64 := ⟨Tryz.f64, Tryz.func64, by kernel_rfl, by kernel_rfl, by kernel_rfl, by kernel_rfl⟩
theorem fok65 : FnOK 65 fd65 := ⟨Tryz.f65, Tryz.func65, by kernel_rfl, by kernel_rfl, by kernel_rfl, by kernel_rfl⟩
theorem fok66 : FnOK 66 fd66 := ⟨Tryz.f66, Tryz.func66, by kernel_rfl, by kernel_rfl, by kernel_rfl, by kernel_rfl⟩
theorem fok67 : FnOK 67 fd67 := ⟨Tryz.f67, Tryz.func67, by kernel_rfl, by kernel_rfl, by kernel_rfl, by kernel_rfl⟩
theorem fok68 : FnOK 68 fd68 := ⟨Tryz.f68, Tryz.func68, by kernel_rfl, by kernel_rfl, by kernel_rfl, by kernel_rfl⟩
theorem fok69 : FnOK 69 fd69 := ⟨Tryz.f69, Tryz.func69, by kernel_rfl, by kernel_rfl, by kernel_rfl, by kernel_rfl⟩
theorem fok70 : FnOK 70 fd70 := ⟨Tryz.f70, Tryz.func70, by kernel_rfl, by kernel_rfl, by kernel_rfl, by kernel_rfl⟩
theorem fok71 : FnOK 71 fd71 := ⟨Tryz.f71, Tryz.func71, by kernel_rfl, by kernel_rfl, by kernel_rfl, by kernel_rfl⟩
theorem fok72 : FnOK 72 fd72 := ⟨Tryz.f72, Tryz.func72, by kernel_rfl, by kernel_rfl, by kernel_rfl, by kernel_rfl⟩
theorem fok73 : FnOK 73 fd73 := ⟨Tryz.f73, Tryz.func73, by kernel_rfl, by kernel_rfl, by kernel_rfl, by kernel_rfl⟩
theorem fok74 : FnOK 74 fd74 := ⟨Tryz.f74, Tryz.func74, by kernel_rfl, by kernel_rfl, by kernel_rfl, by kernel_rfl⟩
theorem fok75 : FnOK 75 fd75 := ⟨Tryz.f75, Tryz.func75, by kernel_rfl, by kernel_rfl, by kernel_rfl, by kernel_rfl⟩
theorem fok76 : FnOK 76 fd76 := ⟨Tryz.f76, Tryz.func76, by kernel_rfl, by kernel_rfl, by kernel_rfl, by kernel_rfl⟩
theorem fok77 : FnOK 77 fd77 := ⟨Tryz.f77, Tryz.func77, by kernel_rfl, by kernel_rfl, by kernel_rfl, by kernel_rfl⟩
theorem fok78 : FnOK 78 fd78 := ⟨Tryz.f78, Tryz.func78, by kernel_rfl, by kernel_rfl, by kernel_rfl, by kernel_rfl⟩
theorem fok79 : FnOK 79 fd79 := ⟨Tryz.f79, Tryz.func79, by kernel_rfl, by kernel_rfl, by kernel_rfl, by kernel_rfl⟩
theorem fok80 : FnOK 80 fd80 := ⟨Tryz.f80, Tryz.func80, by kernel_rfl, by kernel_rfl, by kernel_rfl, by kernel_rfl⟩
theorem fok81 : FnOK 81 fd81 := ⟨Tryz.f81, Tryz.func81, by kernel_rfl, by kernel_rfl, by kernel_rfl, by kernel_rfl⟩
theorem fok82 : FnOK 82 fd82 := ⟨Tryz.f82, Tryz.func82, by kernel_rfl, by kernel_rfl, by kernel_rfl, by kernel_rfl⟩
theorem fok83 : FnOK 83 fd83 := ⟨Tryz.f83, Tryz.func83, by kernel_rfl, by kernel_rfl, by kernel_rfl, by kernel_rfl⟩
theorem fok84 : FnOK 84 fd84 := ⟨Tryz.f84, Tryz.func84, by kernel_rfl, by kernel_rfl, by kernel_rfl, by kernel_rfl⟩
theorem fok85 : FnOK 85 fd85 := ⟨Tryz.f85, Tryz.func85, by kernel_rfl, by kernel_rfl, by kernel_rfl, by kernel_rfl⟩
theorem fok86 : FnOK 86 fd86 := ⟨Tryz.f86, Tryz.func86, by kernel_rfl, by kernel_rfl, by kernel_rfl, by kernel_rfl⟩
theorem fok87 : FnOK 87 fd87 := ⟨Tryz.f87, Tryz.func87, by kernel_rfl, by kernel_rfl, by kernel_rfl, by kernel_rfl⟩
theorem fok88 : FnOK 88 fd88 := ⟨Tryz.f88, Tryz.func88, by kernel_rfl, by kernel_rfl, by kernel_rfl, by kernel_rfl⟩
theorem fok89 : FnOK 89 fd89 := ⟨Tryz.f89, Tryz.func89, by kernel_rfl, by kernel_rfl, by kernel_rfl, by kernel_rfl⟩
theorem fok90 : FnOK 90 fd90 := ⟨Tryz.f90, Tryz.func90, by kernel_rfl, by kernel_rfl, by kernel_rfl, by kernel_rfl⟩
theorem fok91 : FnOK 91 fd91 := ⟨Tryz.f91, Tryz.func91, by kernel_rfl, by kernel_rfl, by kernel_rfl, by kernel_rfl⟩
theorem fok92 : FnOK 92 fd92 := ⟨Tryz.f92, Tryz.func92, by kernel_rfl, by kernel_rfl, by kernel_rfl, by kernel_rfl⟩
theorem fok93 : FnOK 93 fd93 := ⟨Tryz.f93, Tryz.func93, by kernel_rfl, by kernel_rfl, by kernel_rfl, by kernel_rfl⟩
theorem fok94 : FnOK 94 fd94 := ⟨Tryz.f94, Tryz.func94, by kernel_rfl, by kernel_rfl, by kernel_rfl, by kernel_rfl⟩
theorem fok95 : FnOK 95 fd95 := ⟨Tryz.f95, Tryz.func95, by kernel_rfl, by kernel_rfl, by kernel_rfl, by kernel_rfl⟩
theorem fok96 : FnOK 96 fd96 := ⟨Tryz.f96, Tryz.func96, by kernel_rfl, by kernel_rfl, by kernel_rfl, by kernel_rfl⟩
theorem fok97 : FnOK 97 fd97 := ⟨Tryz.f97, Tryz.func97, by kernel_rfl, by kernel_rfl, by kernel_rfl, by kernel_rfl⟩
theorem fok98 : FnOK 98 fd98 := ⟨Tryz.f98, Tryz.func98, by kernel_rfl, by kernel_rfl, by kernel_rfl, by kernel_rfl⟩
theorem fok99 : FnOK 99 fd99 := ⟨Tryz.f99, Tryz.func99, by kernel_rfl, by kernel_rfl, by kernel_rfl, by kernel_rfl⟩
theorem fok100 : FnOK 100 fd100 := ⟨Tryz.f100, Tryz.func100, by kernel_rfl, by kernel_rfl, by kernel_rfl, by kernel_rfl⟩
theorem fok101 : FnOK 101 fd101 := ⟨Tryz.f101, Tryz.func101, by kernel_rfl, by kernel_rfl, by kernel_rfl, by kernel_rfl⟩
theorem fok102 : FnOK 102 fd102 := ⟨Tryz.f102, Tryz.func102, by kernel_rfl, by kernel_rfl, by kernel_rfl, by kernel_rfl⟩
theorem fok103 : FnOK 103 fd103 := ⟨Tryz.f103, Tryz.func103, by kernel_rfl, by kernel_rfl, by kernel_rfl, by kernel_rfl⟩
theorem fok104 : FnOK 104 fd104 := ⟨Tryz.f104, Tryz.func104, by kernel_rfl, by kernel_rfl, by kernel_rfl, by kernel_rfl⟩
theorem fok105 : FnOK 105 fd105 := ⟨Tryz.f105, Tryz.func105, by kernel_rfl, by kernel_rfl, by kernel_rfl, by kernel_rfl⟩
theorem fok106 : FnOK 106 fd106 := ⟨Tryz.f106, Tryz.func106, by kernel_rfl, by kernel_rfl, by kernel_rfl, by kernel_rfl⟩
theorem fok107 : FnOK 107 fd107 := ⟨Tryz.f107, Tryz.func107, by kernel_rfl, by kernel_rfl, by kernel_rfl, by kernel_rfl⟩
theorem fok108 : FnOK 108 fd108 := ⟨Tryz.f108, Tryz.func108, by kernel_rfl, by kernel_rfl, by kernel_rfl, by kernel_rfl⟩
theorem fok109 : FnOK 109 fd109 := ⟨Tryz.f109, Tryz.func109, by kernel_rfl, by kernel_rfl, by kernel_rfl, by kernel_rfl⟩
theorem fok110 : FnOK 110 fd110 := ⟨Tryz.f110, Tryz.func110, by kernel_rfl, by kernel_rfl, by kernel_rfl, by kernel_rfl⟩
theorem fok111 : FnOK 111 fd111 := ⟨Tryz.f111, Tryz.func111, by kernel_rfl, by kernel_rfl, by kernel_rfl, by kernel_rfl⟩
theorem fok112 : FnOK 112 fd112 := ⟨Tryz.f112, Tryz.func112, by kernel_rfl, by kernel_rfl, by kernel_rfl, by kernel_rfl⟩
theorem fok113 : FnOK 113 fd113 := ⟨Tryz.f113, Tryz.func113, by kernel_rfl, by kernel_rfl, by kernel_rfl, by kernel_rfl⟩
theorem fok114 : FnOK 114 fd114 := ⟨Tryz.f114, Tryz.func114, by kernel_rfl, by kernel_rfl, by kernel_rfl, by kernel_rfl⟩
theorem fok115 : FnOK 115 fd115 := ⟨Tryz.f115, Tryz.func115, by kernel_rfl, by kernel_rfl, by kernel_rfl, by kernel_rfl⟩
theorem fok116 : FnOK 116 fd116 := ⟨Tryz.f116, Tryz.func116, by kernel_rfl, by kernel_rfl, by kernel_rfl, by kernel_rfl⟩
theorem fok117 : FnOK 117 fd117 := ⟨Tryz.f117, Tryz.func117, by kernel_rfl, by kernel_rfl, by kernel_rfl, by kernel_rfl⟩
theorem fok118 : FnOK 118 fd118 := ⟨Tryz.f118, Tryz.func118, by kernel_rfl, by kernel_rfl, by kernel_rfl, by kernel_rfl⟩
theorem fok119 : FnOK 119 fd119 := ⟨Tryz.f119, Tryz.func119, by kernel_rfl, by kernel_rfl, by kernel_rfl, by kernel_rfl⟩
theorem fok120 : FnOK 120 fd120 := ⟨Tryz.f120, Tryz.func120, by kernel_rfl, by kernel_rfl, by kernel_rfl, by kernel_rfl⟩
theorem fok121 : FnOK 121 fd121 := ⟨Tryz.f121, Tryz.func121, by kernel_rfl, by kernel_rfl, by kernel_rfl, by kernel_rfl⟩
theorem fok122 : FnOK 122 fd122 := ⟨Tryz.f122, Tryz.func122, by kernel_rfl, by kernel_rfl, by kernel_rfl, by kernel_rfl⟩
theorem fok123 : FnOK 123 fd123 := ⟨Tryz.f123, Tryz.func123, by kernel_rfl, by kernel_rfl, by kernel_rfl, by kernel_rfl⟩
theorem fok124 : FnOK 124 fd124 := ⟨Tryz.f124, Tryz.func124, by kernel_rfl, by kernel_rfl, by kernel_rfl, by kernel_rfl⟩
theorem fok125 : FnOK 125 fd125 := ⟨Tryz.f125, Tryz.func125, by kernel_rfl, by kernel_rfl, by kernel_rfl, by kernel_rfl⟩
theorem fok126 : FnOK 126 fd126 := ⟨Tryz.f126, Tryz.func126, by kernel_rfl, by kernel_rfl, by kernel_rfl, by kernel_rfl⟩
theorem fok127 : FnOK 127 fd127 := ⟨Tryz.f127, Tryz.func127, by kernel_rfl, by kernel_rfl, by kernel_rfl, by kernel_rfl⟩
theorem fok128 : FnOK 128 fd128 := ⟨Tryz.f128, Tryz.func128, by kernel_rfl, by kernel_rfl, by kernel_rfl, by kernel_rfl⟩
theorem fok129 : FnOK 129 fd129 := ⟨Tryz.f129, Tryz.func129, by kernel_rfl, by kernel_rfl, by kernel_rfl, by kernel_rfl⟩
theorem fok131 : FnOK 131 fd131 := ⟨Tryz.f131, Tryz.func131, by kernel_rfl, by kernel_rfl, by kernel_rfl, by kernel_rfl⟩
theorem fok132 : FnOK 132 fd132 := ⟨Tryz.f132, Tryz.func132, by kernel_rfl, by kernel_rfl, by kernel_rfl, by kernel_rfl⟩
theorem fok133 : FnOK 133 fd133 := ⟨Tryz.f133, Tryz.func133, by kernel_rfl, by kernel_rfl, by kernel_rfl, by kernel_rfl⟩
theorem fok134 : FnOK 134 fd134 := ⟨Tryz.f134, Tryz.func134, by kernel_rfl, by kernel_rfl, by kernel_rfl, by kernel_rfl⟩
theorem fok136 : FnOK 136 fd136 := ⟨Tryz.f136, Tryz.func136, by kernel_rfl, by kernel_rfl, by kernel_rfl, by kernel_rfl⟩
theorem fok137 : FnOK 137 fd137 := ⟨Tryz.f137, Tryz.func137, by kernel_rfl, by kernel_rfl, by kernel_rfl, by kernel_rfl⟩
theorem fok138 : FnOK 138 fd138 := ⟨Tryz.f138, Tryz.func138, by kernel_rfl, by kernel_rfl, by kernel_rfl, by kernel_rfl⟩
theorem fok139 : FnOK 139 fd139 := ⟨Tryz.f139, Tryz.func139, by kernel_rfl, by kernel_rfl, by kernel_rfl, by kernel_rfl⟩
theorem fok140 : FnOK 140 fd140 := ⟨Tryz.f140, Tryz.func140, by kernel_rfl, by kernel_rfl, by kernel_rfl, by kernel_rfl⟩
theorem fok141 : FnOK 141 fd141 := ⟨Tryz.f141, Tryz.func141, by kernel_rfl, by kernel_rfl, by kernel_rfl, by kernel_rfl⟩
theorem fok142 : FnOK 142 fd142 := ⟨Tryz.f142, Tryz.func142, by kernel_rfl, by kernel_rfl, by kernel_rfl, by kernel_rfl⟩
theorem fok143 : FnOK 143 fd143 := ⟨Tryz.f143, Tryz.func143, by kernel_rfl, by kernel_rfl, by kernel_rfl, by kernel_rfl⟩
theorem fok144 : FnOK 144 fd144 := ⟨Tryz.f144, Tryz.func144, by kernel_rfl, by kernel_rfl, by kernel_rfl, by kernel_rfl⟩
theorem fok145 : FnOK 145 fd145 := ⟨Tryz.f145, Tryz.func145, by kernel_rfl, by kernel_rfl, by kernel_rfl, by kernel_rfl⟩
theorem fok146 : FnOK 146 fd146 := ⟨Tryz.f146, Tryz.func146, by kernel_rfl, by kernel_rfl, by kernel_rfl, by kernel_rfl⟩
theorem fok147 : FnOK 147 fd147 := ⟨Tryz.f147, Tryz.func147, by kernel_rfl, by kernel_rfl, by kernel_rfl, by kernel_rfl⟩
theorem fok148 : FnOK 148 fd148 := ⟨Tryz.f148, Tryz.func148, by kernel_rfl, by kernel_rfl, by kernel_rfl, by kernel_rfl⟩
theorem fok149 : FnOK 149 fd149 := ⟨Tryz.f149, Tryz.func149, by kernel_rfl, by kernel_rfl, by kernel_rfl, by kernel_rfl⟩
theorem fok150 : FnOK 150 fd150 := ⟨Tryz.f150, Tryz.func150, by kernel_rfl, by kernel_rfl, by kernel_rfl, by kernel_rfl⟩
theorem fok151 : FnOK 151 fd151 := ⟨Tryz.f151, Tryz.func151, by kernel_rfl, by kernel_rfl, by kernel_rfl, by kernel_rfl⟩
theorem fok152 : FnOK 152 fd152 := ⟨Tryz.f152, Tryz.func152, by kernel_rfl, by kernel_rfl, by kernel_rfl, by kernel_rfl⟩
theorem fok153 : FnOK 153 fd153 := ⟨Tryz.f153, Tryz.func153, by kernel_rfl, by kernel_rfl, by kernel_rfl, by kernel_rfl⟩
theorem fok154 : FnOK 154 fd154 := ⟨Tryz.f154, Tryz.func154, by kernel_rfl, by kernel_rfl, by kernel_rfl, by kernel_rfl⟩
theorem fok155 : FnOK 155 fd155 := ⟨Tryz.f155, Tryz.func155, by kernel_rfl, by kernel_rfl, by kernel_rfl, by kernel_rfl⟩
theorem fok156 : FnOK 156 fd156 := ⟨Tryz.f156, Tryz.func156, by kernel_rfl, by kernel_rfl, by kernel_rfl, by kernel_rfl⟩
theorem fok157 : FnOK 157 fd157 := ⟨Tryz.f157, Tryz.func157, by kernel_rfl, by kernel_rfl, by kernel_rfl, by kernel_rfl⟩
theorem fok158 : FnOK 158 fd158 := ⟨Tryz.f158, Tryz.func158, by kernel_rfl, by kernel_rfl, by kernel_rfl, by kernel_rfl⟩
theorem fok159 : FnOK 159 fd159 := ⟨Tryz.f159, Tryz.func159, by kernel_rfl, by kernel_rfl, by kernel_rfl, by kernel_rfl⟩
theorem fok160 : FnOK 160 fd160 := ⟨Tryz.f160, Tryz.func160, by kernel_rfl, by kernel_rfl, by kernel_rfl, by kernel_rfl⟩
theorem fok161 : FnOK 161 fd161 := ⟨Tryz.f161, Tryz.func161, by kernel_rfl, by kernel_rfl, by kernel_rfl, by kernel_rfl⟩
theorem fok162 : FnOK 162 fd162 := ⟨Tryz.f162, Tryz.func162, by kernel_rfl, by kernel_rfl, by kernel_rfl, by kernel_rfl⟩
theorem fok163 : FnOK 163 fd163 := ⟨Tryz.f163, Tryz.func163, by kernel_rfl, by kernel_rfl, by kernel_rfl, by kernel_rfl⟩
theorem fok164 : FnOK 164 fd164 := ⟨Tryz.f164, Tryz.func164, by kernel_rfl, by kernel_rfl, by kernel_rfl, by kernel_rfl⟩
theorem fok165 : FnOK 165 fd165 := ⟨Tryz.f165, Tryz.func165, by kernel_rfl, by kernel_rfl, by kernel_rfl, by kernel_rfl⟩
theorem fok166 : FnOK 166 fd166 := ⟨Tryz.f166, Tryz.func166, by kernel_rfl, by kernel_rfl, by kernel_rfl, by kernel_rfl⟩
theorem fok167 : FnOK 167 fd167 := ⟨Tryz.f167, Tryz.func167, by kernel_rfl, by kernel_rfl, by kernel_rfl, by kernel_rfl⟩
theorem fok168 : FnOK 168 fd168 := ⟨Tryz.f168, Tryz.func168, by kernel_rfl, by kernel_rfl, by kernel_rfl, by kernel_rfl⟩
theorem fok169 : FnOK 169 fd169 := ⟨Tryz.f169, Tryz.func169, by kernel_rfl, by kernel_rfl, by kernel_rfl, by kernel_rfl⟩
theorem fok170 : FnOK 170 fd170 := ⟨Tryz.f170, Tryz.func170, by kernel_rfl, by kernel_rfl, by kernel_rfl, by kernel_rfl⟩
theorem fok172 : FnOK 172 fd172 := ⟨Tryz.f172, Tryz.func172, by kernel_rfl, by kernel_rfl, by kernel_rfl, by kernel_rfl⟩
theorem fok173 : FnOK 173 fd173 := ⟨Tryz.f173, Tryz.func173, by kernel_rfl, by kernel_rfl, by kernel_rfl, by kernel_rfl⟩
theorem fok174 : FnOK 174 fd174 := ⟨Tryz.f174, Tryz.func174, by kernel_rfl, by kernel_rfl, by kernel_rfl, by kernel_rfl⟩
theorem fok175 : FnOK 175 fd175 := ⟨Tryz.f175, Tryz.func175, by kernel_rfl, by kernel_rfl, by kernel_rfl, by kernel_rfl⟩
theorem fok176 : FnOK 176 fd176 := ⟨Tryz.f176, Tryz.func176, by kernel_rfl, by kernel_rfl, by kernel_rfl, by kernel_rfl⟩
theorem fok177 : FnOK 177 fd177 := ⟨Tryz.f177, Tryz.func177, by kernel_rfl, by kernel_rfl, by kernel_rfl, by kernel_rfl⟩
theorem fok178 : FnOK 178 fd178 := ⟨Tryz.f178, Tryz.func178, by kernel_rfl, by kernel_rfl, by kernel_rfl, by kernel_rfl⟩
theorem fok179 : FnOK 179 fd179 := ⟨Tryz.f179, Tryz.func179, by kernel_rfl, by kernel_rfl, by kernel_rfl, by kernel_rfl⟩
theorem fok180 : FnOK 180 fd180 := ⟨Tryz.f180, Tryz.func180, by kernel_rfl, by kernel_rfl, by kernel_rfl, by kernel_rfl⟩
theorem fok181 : FnOK 181 fd181 := ⟨Tryz.f181, Tryz.func181, by kernel_rfl, by kernel_rfl, by kernel_rfl, by kernel_rfl⟩
theorem fok182 : FnOK 182 fd182 := ⟨Tryz.f182, Tryz.func182, by kernel_rfl, by kernel_rfl, by kernel_rfl, by kernel_rfl⟩
theorem fok183 : FnOK 183 fd183 := ⟨Tryz.f183, Tryz.func183, by kernel_rfl, by kernel_rfl, by kernel_rfl, by kernel_rfl⟩
theorem fok185 : FnOK 185 fd185 := ⟨Tryz.f185, Tryz.func185, by kernel_rfl, by kernel_rfl, by kernel_rfl, by kernel_rfl⟩
theorem fok186 : FnOK 186 fd186 := ⟨Tryz.f186, Tryz.func186, by kernel_rfl, by kernel_rfl, by kernel_rfl, by kernel_rfl⟩
theorem fok187 : FnOK 187 fd187 := ⟨Tryz.f187, Tryz.func187, by kernel_rfl, by kernel_rfl, by kernel_rfl, by kernel_rfl⟩
theorem fok194 : FnOK 194 fd194 := ⟨Tryz.f194, Tryz.func194, by kernel_rfl, by kernel_rfl, by kernel_rfl, by kernel_rfl⟩
theorem fok195 : FnOK 195 fd195 := ⟨Tryz.f195, Tryz.func195, by kernel_rfl, by kernel_rfl, by kernel_rfl, by kernel_rfl⟩
theorem fok196 : FnOK 196 fd196 := ⟨Tryz.f196, Tryz.func196, by kernel_rfl, by kernel_rfl, by kernel_rfl, by kernel_rfl⟩
theorem fok197 : FnOK 197 fd197 := ⟨Tryz.f197, Tryz.func197, by kernel_rfl, by kernel_rfl, by kernel_rfl, by kernel_rfl⟩
theorem fok198 : FnOK 198 fd198 := ⟨Tryz.f198, Tryz.func198, by kernel_rfl, by kernel_rfl, by kernel_rfl, by kernel_rfl⟩
theorem fok199 : FnOK 199 fd199 := ⟨Tryz.f199, Tryz.func199, by kernel_rfl, by kernel_rfl, by kernel_rfl, by kernel_rfl⟩
theorem fok200 : FnOK 200 fd200 := ⟨Tryz.f200, Tryz.func200, by kernel_rfl, by kernel_rfl, by kernel_rfl, by kernel_rfl⟩
theorem fok201 : FnOK 201 fd201 := ⟨Tryz.f201, Tryz.func201, by kernel_rfl, by kernel_rfl, by kernel_rfl, by kernel_rfl⟩
theorem fok202 : FnOK 202 fd202 := ⟨Tryz.f202, Tryz.func202, by kernel_rfl, by kernel_rfl, by kernel_rfl, by kernel_rfl⟩
theorem fok203 : FnOK 203 fd203 := ⟨Tryz.f203, Tryz.func203, by kernel_rfl, by kernel_rfl, by kernel_rfl, by kernel_rfl⟩
theorem fok204 : FnOK 204 fd204 := ⟨Tryz.f204, Tryz.func204, by kernel_rfl, by kernel_rfl, by kernel_rfl, by kernel_rfl⟩
theorem fok205 : FnOK 205 fd205 := ⟨Tryz.f205, Tryz.func205, by kernel_rfl, by kernel_rfl, by kernel_rfl, by kernel_rfl⟩
theorem fok206 : FnOK 206 fd206 := ⟨Tryz.f206, Tryz.func206, by kernel_rfl, by kernel_rfl, by kernel_rfl, by kernel_rfl⟩
theorem fok207 : FnOK 207 fd207 := ⟨Tryz.f207, Tryz.func207, by kernel_rfl, by kernel_rfl, by kernel_rfl, by kernel_rfl⟩
theorem fok208 : FnOK 208 fd208 := ⟨Tryz.f208, Tryz.func208, by kernel_rfl, by kernel_rfl, by kernel_rfl, by kernel_rfl⟩
theorem fok209 : FnOK 209 fd209 := ⟨Tryz.f209, Tryz.func209, by kernel_rfl, by kernel_rfl, by kernel_rfl, by kernel_rfl⟩
theorem fok210 : FnOK 210 fd210 := ⟨Tryz.f210, Tryz.func210, by kernel_rfl, by kernel_rfl, by kernel_rfl, by kernel_rfl⟩
theorem fok211 : FnOK 211 fd211 := ⟨Tryz.f211, Tryz.func211, by kernel_rfl, by kernel_rfl, by kernel_rfl, by kernel_rfl⟩
theorem fok212 : FnOK 212 fd212 := ⟨Tryz.f212, Tryz.func212, by kernel_rfl, by kernel_rfl, by kernel_rfl, by kernel_rfl⟩
theorem fok213 : FnOK 213 fd213 := ⟨Tryz.f213, Tryz.func213, by kernel_rfl, by kernel_rfl, by kernel_rfl, by kernel_rfl⟩
theorem fok214 : FnOK 214 fd214 := ⟨Tryz.f214, Tryz.func214, by kernel_rfl, by kernel_rfl, by kernel_rfl, by kernel_rfl⟩
theorem fok215 : FnOK 215 fd215 := ⟨Tryz.f215, Tryz.func215, by kernel_rfl, by kernel_rfl, by kernel_rfl, by kernel_rfl⟩
theorem fok216 : FnOK 216 fd216 := ⟨Tryz.f216, Tryz.func216, by kernel_rfl, by kernel_rfl, by kernel_rfl, by kernel_rfl⟩
theorem fok217 : FnOK 217 fd217 := ⟨Tryz.f217, Tryz.func217, by kernel_rfl, by kernel_rfl, by kernel_rfl, by kernel_rfl⟩
theorem fok218 : FnOK 218 fd218 := ⟨Tryz.f218, Tryz.func218, by kernel_rfl, by kernel_rfl, by kernel_rfl, by kernel_rfl⟩
theorem fok219 : FnOK 219 fd219 := ⟨Tryz.f219, Tryz.func219, by kernel_rfl, by kernel_rfl, by kernel_rfl, by kernel_rfl⟩
theorem fok220 : FnOK 220 fd220 := ⟨Tryz.f220, Tryz.func220, by kernel_rfl, by kernel_rfl, by kernel_rfl, by kernel_rfl⟩
theorem fok221 : FnOK 221 fd221 := ⟨Tryz.f221, Tryz.func221, by kernel_rfl, by kernel_rfl, by kernel_rfl, by kernel_rfl⟩
theorem fok222 : FnOK 222 fd222 := ⟨Tryz.f222, Tryz.func222, by kernel_rfl, by kernel_rfl, by kernel_rfl, by kernel_rfl⟩
theorem fok224 : FnOK 224 fd224 := ⟨Tryz.f224, Tryz.func224, by kernel_rfl, by kernel_rfl, by kernel_rfl, by kernel_rfl⟩
theorem fok225 : FnOK 225 fd225 := ⟨Tryz.f225, Tryz.func225, by kernel_rfl, by kernel_rfl, by kernel_rfl, by kernel_rfl⟩
theorem fok227 : FnOK 227 fd227 := ⟨Tryz.f227, Tryz.func227, by kernel_rfl, by kernel_rfl, by kernel_rfl, by kernel_rfl⟩
theorem fok228 : FnOK 228 fd228 := ⟨Tryz.f228, Tryz.func228, by kernel_rfl, by kernel_rfl, by kernel_rfl, by kernel_rfl⟩
theorem fok229 : FnOK 229 fd229 := ⟨Tryz.f229, Tryz.func229, by kernel_rfl, by kernel_rfl, by kernel_rfl, by kernel_rfl⟩
theorem fok230 : FnOK 230 fd230 := ⟨Tryz.f230, Tryz.func230, by kernel_rfl, by kernel_rfl, by kernel_rfl, by kernel_rfl⟩
theorem fok231 : FnOK 231 fd231 := ⟨Tryz.f231, Tryz.func231, by kernel_rfl, by kernel_rfl, by kernel_rfl, by kernel_rfl⟩
theorem fok237 : FnOK 237 fd237 := ⟨Tryz.f237, Tryz.func237, by kernel_rfl, by kernel_rfl, by kernel_rfl, by kernel_rfl⟩
theorem fok238 : FnOK 238 fd238 := ⟨Tryz.f238, Tryz.func238, by kernel_rfl, by kernel_rfl, by kernel_rfl, by kernel_rfl⟩
theorem fok239 : FnOK 239 fd239 := ⟨Tryz.f239, Tryz.func239, by kernel_rfl, by kernel_rfl, by kernel_rfl, by kernel_rfl⟩
theorem fok241 : FnOK 241 fd241 := ⟨Tryz.f241, Tryz.func241, by kernel_rfl, by kernel_rfl, by kernel_rfl, by kernel_rfl⟩
theorem fok242 : FnOK 242 fd242 := ⟨Tryz.f242, Tryz.func242, by kernel_rfl, by kernel_rfl, by kernel_rfl, by kernel_rfl⟩
theorem fok243 : FnOK 243 fd243 := ⟨Tryz.f243, Tryz.func243, by kernel_rfl, by kernel_rfl, by kernel_rfl, by kernel_rfl⟩
theorem fok244 : FnOK 244 fd244 := ⟨Tryz.f244, Tryz.func244, by kernel_rfl, by kernel_rfl, by kernel_rfl, by kernel_rfl⟩
theorem fok245 : FnOK 245 fd245 := ⟨Tryz.f245, Tryz.func245, by kernel_rfl, by kernel_rfl, by kernel_rfl, by kernel_rfl⟩
theorem fok246 : FnOK 246 fd246 := ⟨Tryz.f246, Tryz.func246, by kernel_rfl, by kernel_rfl, by kernel_rfl, by kernel_rfl⟩
theorem fok247 : FnOK 247 fd247 := ⟨Tryz.f247, Tryz.func247, by kernel_rfl, by kernel_rfl, by kernel_rfl, by kernel_rfl⟩
theorem fok259 : FnOK 259 fd259 := ⟨Tryz.f259, Tryz.func259, by kernel_rfl, by kernel_rfl, by kernel_rfl, by kernel_rfl⟩
theorem fok262 : FnOK 262 fd262 := ⟨Tryz.f262, Tryz.func262, by kernel_rfl, by kernel_rfl, by kernel_rfl, by kernel_rfl⟩
theorem fok263 : FnOK 263 fd263 := ⟨Tryz.f263, Tryz.func263, by kernel_rfl, by kernel_rfl, by kernel_rfl, by kernel_rfl⟩
theorem fok264 : FnOK 264 fd264 := ⟨Tryz.f264, Tryz.func264, by kernel_rfl, by kernel_rfl, by kernel_rfl, by kernel_rfl⟩
theorem fok265 : FnOK 265 fd265 := ⟨Tryz.f265, Tryz.func265, by kernel_rfl, by kernel_rfl, by kernel_rfl, by kernel_rfl⟩
theorem fok266 : FnOK 266 fd266 := ⟨Tryz.f266, Tryz.func266, by kernel_rfl, by kernel_rfl, by kernel_rfl, by kernel_rfl⟩
theorem fok267 : FnOK 267 fd267 := ⟨Tryz.f267, Tryz.func267, by kernel_rfl, by kernel_rfl, by kernel_rfl, by kernel_rfl⟩
theorem fok268 : FnOK 268 fd268 := ⟨Tryz.f268, Tryz.func268, by kernel_rfl, by kernel_rfl, by kernel_rfl, by kernel_rfl⟩
theorem fok269 : FnOK 269 fd269 := ⟨Tryz.f269, Tryz.func269, by kernel_rfl, by kernel_rfl, by kernel_rfl, by kernel_rfl⟩
theorem fok270 : FnOK 270 fd270 := ⟨Tryz.f270, Tryz.func270, by kernel_rfl, by kernel_rfl, by kernel_rfl, by kernel_rfl⟩
theorem fok271 : FnOK 271 fd271 := ⟨Tryz.f271, Tryz.func271, by kernel_rfl, by kernel_rfl, by kernel_rfl, by kernel_rfl⟩
theorem fok278 : FnOK 278 fd278 := ⟨Tryz.f278, Tryz.func278, by kernel_rfl, by kernel_rfl, by kernel_rfl, by kernel_rfl⟩
theorem fok279 : FnOK 279 fd279 := ⟨Tryz.f279, Tryz.func279, by kernel_rfl, by kernel_rfl, by kernel_rfl, by kernel_rfl⟩
theorem fok280 : FnOK 280 fd280 := ⟨Tryz.f280, Tryz.func280, by kernel_rfl, by kernel_rfl, by kernel_rfl, by kernel_rfl⟩
theorem fok282 : FnOK 282 fd282 := ⟨Tryz.f282, Tryz.func282, by kernel_rfl, by kernel_rfl, by kernel_rfl, by kernel_rfl⟩
theorem fok283 : FnOK 283 fd283 := ⟨Tryz.f283, Tryz.func283, by kernel_rfl, by kernel_rfl, by kernel_rfl, by kernel_rfl⟩
theorem fok284 : FnOK 284 fd284 := ⟨Tryz.f284, Tryz.func284, by kernel_rfl, by kernel_rfl, by kernel_rfl, by kernel_rfl⟩
theorem fok285 : FnOK 285 fd285 := ⟨Tryz.f285, Tryz.func285, by kernel_rfl, by kernel_rfl, by kernel_rfl, by kernel_rfl⟩
theorem fok289 : FnOK 289 fd289 := ⟨Tryz.f289, Tryz.func289, by kernel_rfl, by kernel_rfl, by kernel_rfl, by kernel_rfl⟩
theorem fok290 : FnOK 290 fd290 := ⟨Tryz.f290, Tryz.func290, by kernel_rfl, by kernel_rfl, by kernel_rfl, by kernel_rfl⟩
theorem fok293 : FnOK 293 fd293 := ⟨Tryz.f293, Tryz.func293, by kernel_rfl, by kernel_rfl, by kernel_rfl, by kernel_rfl⟩
theorem gfn_ok (n : Nat) (fd : FnD) (h : gfn n = some fd) : FnOK n fd := by
  unfold gfn at h
  rcases cond_some h with ⟨h0, h⟩ | ⟨h0, h⟩
  · have h0 := blt_t h0
    rcases cond_some h with ⟨h1, h⟩ | ⟨h1, h⟩
    · have h1 := blt_t h1
      rcases cond_some h with ⟨h1, h⟩ | ⟨h1, h⟩
      · have h1 := blt_t h1
        rcases cond_some h with ⟨h1, h⟩ | ⟨h1, h⟩
        · have h1 := blt_t h1
          rcases cond_some h with ⟨h1, h⟩ | ⟨h1, h⟩
          · have h1 := blt_t h1
            rcases cond_some h with ⟨h1, h⟩ | ⟨h1, h⟩
            · have h1 := blt_t h1
              rcases cond_some h with ⟨h1, h⟩ | ⟨h1, h⟩
              · have h1 := blt_t h1
                rcases cond_some h with ⟨h1, h⟩ | ⟨h1, h⟩
                · have h1 := blt_t h1
                  cases h
                · have h1 := blt_f h1
                  rcases cond_some h with ⟨h1, h⟩ | ⟨h1, h⟩
                  · have h1 := blt_t h1
                    cases h
                  · have h1 := blt_f h1
                    cases h
                    have : n = 3 := by omega
                    subst this
                    exact fok3
              · have h1 := blt_f h1
                rcases cond_some h with ⟨h1, h⟩ | ⟨h1, h⟩
                · have h1 := blt_t h1
                  rcases cond_some h with ⟨h1, h⟩ | ⟨h1, h⟩
                  · have h1 := blt_t h1
                    cases h
                    have : n = 4 := by omega
                    subst this
                    exact fok4
                  · have h1 := blt_f h1
                    cases h
                    have : n = 5 := by omega
                    subst this
                    exact fok5
                · have h1 := blt_f h1
                  rcases cond_some h with ⟨h1, h⟩ | ⟨h1, h⟩
                  · have h1 := blt_t h1
                    cases h
                    have : n = 6 := by omega
                    subst this
                    exact fok6
                  · have h1 := blt_f h1
                    rcases cond_some h with ⟨h1, h⟩ | ⟨h1, h⟩
                    · have h1 := blt_t h1
                      cases h
                      have : n = 7 := by omega
                      subst this
                      exact fok7
                    · have h1 := blt_f h1
                      cases h
                      have : n = 8 := by omega
                      subst this
                      exact fok8
            · have h1 := blt_f h1
              rcases cond_some h with ⟨h1, h⟩ | ⟨h1, h⟩
              · have h1 := blt_t h1
                rcases cond_some h with ⟨h1, h⟩ | ⟨h1, h⟩
                · have h1 := blt_t h1
                  rcases cond_some h with ⟨h1, h⟩ | ⟨h1, h⟩
                  · have h1 := blt_t h1
                    cases h
                    have : n = 9 := by omega
                    subst this
                    exact fok9
                  · have h1 := blt_f h1
                    cases h
                    have : n = 10 := by omega
                    subst this
                    exact fok10
                · have h1 := blt_f h1
                  rcases cond_some h with ⟨h1, h⟩ | ⟨h1, h⟩
                  · have h1 := blt_t h1
                    cases h
                    have : n = 11 := by omega
                    subst this
                    exact fok11
                  · have h1 := blt_f h1
                    cases h
                    have : n = 12 := by omega
                    subst this
                    exact fok12
              · have h1 := blt_f h1
                rcases cond_some h with ⟨h1, h⟩ | ⟨h1, h⟩
                · have h1 := blt_t h1
                  rcases cond_some h with ⟨h1, h⟩ | ⟨h1, h⟩
                  · have h1 := blt_t h1
                    cases h
                    have : n = 13 := by omega
                    subst this
                    exact fok13
                  · have h1 := blt_f h1
                    cases h
                    have : n = 14 := by omega
                    subst this
                    exact fok14
                · have h1 := blt_f h1
                  rcases cond_some h with ⟨h1, h⟩ | ⟨h1, h⟩
                  · have h1 := blt_t h1
                    cases h
                    have : n = 15 := by omega
                    subst this
                    exact fok15
                  · have h1 := blt_f h1
                    rcases cond_some h with ⟨h1, h⟩ | ⟨h1, h⟩
                    · have h1 := blt_t h1
                      cases h
                      have : n = 16 := by omega
                      subst this
                      exact fok16
                    · have h1 := blt_f h1
                      cases h
                      have : n = 17 := by omega
                      subst this
                      exact fok17
          · have h1 := blt_f h1
            rcases cond_some h with ⟨h1, h⟩ | ⟨h1, h⟩
            · have h1 := blt_t h1
              rcases cond_some h with ⟨h1, h⟩ | ⟨h1, h⟩
              · have h1 := blt_t h1
                rcases cond_some h with ⟨h1, h⟩ | ⟨h1, h⟩
                · have h1 := blt_t h1
                  rcases cond_some h with ⟨h1, h⟩ | ⟨h1, h⟩
                  · have h1 := blt_t h1
                    cases h
                    have : n = 18 := by omega
                    subst this
                    exact fok18
                  · have h1 := blt_f h1
                    cases h
                    have : n = 19 := by omega
                    subst this
                    exact fok19
                · have h1 := blt_f h1
                  rcases cond_some h with ⟨h1, h⟩ | ⟨h1, h⟩
                  · have h1 := blt_t h1
                    cases h
                    have : n = 20 := by omega
                    subst this
                    exact fok20
                  · have h1 := blt_f h1
                    cases h
                    have : n = 21 := by omega
                    subst this
                    exact fok21
              · have h1 := blt_f h1
                rcases cond_some h with ⟨h1, h⟩ | ⟨h1, h⟩
                · have h1 := blt_t h1
                  rcases cond_some h with ⟨h1, h⟩ | ⟨h1, h⟩
                  · have h1 := blt_t h1
                    cases h
                    have : n = 22 := by omega
                    subst this
                    exact fok22
                  · have h1 := blt_f h1
                    cases h
                    have : n = 23 := by omega
                    subst this
                    exact fok23
                · have h1 := blt_f h1
                  rcases cond_some h with ⟨h1, h⟩ | ⟨h1, h⟩
                  · have h1 := blt_t h1
                    cases h
                    have : n = 24 := by omega
                    subst this
                    exact fok24
                  · have h1 := blt_f h1
                    rcases cond_some h with ⟨h1, h⟩ | ⟨h1, h⟩
                    · have h1 := blt_t h1
                      cases h
                      have : n = 25 := by omega
                      subst this
                      exact fok25
                    · have h1 := blt_f h1
                      cases h
                      have : n = 26 := by omega
                      subst this
                      exact fok26
            · have h1 := blt_f h1
              rcases cond_some h with ⟨h1, h⟩ | ⟨h1, h⟩
              · have h1 := blt_t h1
                rcases cond_some h with ⟨h1, h⟩ | ⟨h1, h⟩
                · have h1 := blt_t h1
                  rcases cond_some h with ⟨h1, h⟩ | ⟨h1, h⟩
                  · have h1 := blt_t h1
                    cases h
                    have : n = 27 := by omega
                    subst this
                    exact fok27
                  · have h1 := blt_f h1
                    cases h
                    have : n = 28 := by omega
                    subst this
                    exact fok28
                · have h1 := blt_f h1
                  rcases cond_some h with ⟨h1, h⟩ | ⟨h1, h⟩
                  · have h1 := blt_t h1
                    cases h
                    have : n = 29 := by omega
                    subst this
                    exact fok29
                  · have h1 := blt_f h1
                    cases h
                    have : n = 30 := by omega
                    subst this
                    exact fok30
              · have h1 := blt_f h1
                rcases cond_some h with ⟨h1, h⟩ | ⟨h1, h⟩
                · have h1 := blt_t h1
                  rcases cond_some h with ⟨h1, h⟩ | ⟨h1, h⟩
                  · have h1 := blt_t h1
                    cases h
                    have : n = 31 := by omega
                    subst this
                    exact fok31
                  · have h1 := blt_f h1
                    cases h
                    have : n = 32 := by omega
                    subst this
                    exact fok32
                · have h1 := blt_f h1
                  rcases cond_some h with ⟨h1, h⟩ | ⟨h1, h⟩
                  · have h1 := blt_t h1
                    cases h
                    have : n = 33 := by omega
                    subst this
                    exact fok33
                  · have h1 := blt_f h1
                    rcases cond_some h with ⟨h1, h⟩ | ⟨h1, h⟩
                    · have h1 := blt_t h1
                      cases h
                      have : n = 34 := by omega
                      subst this
                      exact fok34
                    · have h1 := blt_f h1
                      cases h
                      have : n = 35 := by omega
                      subst this
                      exact fok35
        · have h1 := blt_f h1
          rcases cond_some h with ⟨h1, h⟩ | ⟨h1, h⟩
          · have h1 := blt_t h1
            rcases cond_some h with ⟨h1, h⟩ | ⟨h1, h⟩
            · have h1 := blt_t h1
              rcases cond_some h with ⟨h1, h⟩ | ⟨h1, h⟩
              · have h1 := blt_t h1
                rcases cond_some h with ⟨h1, h⟩ | ⟨h1, h⟩
                · have h1 := blt_t h1
                  rcases cond_some h with ⟨h1, h⟩ | ⟨h1, h⟩
                  · have h1 := blt_t h1
                    cases h
                    have : n = 36 := by omega
                    subst this
                    exact fok36
                  · have h1 := blt_f h1
                    cases h
                    have : n = 37 := by omega
                    subst this
                    exact fok37
                · have h1 := blt_f h1
                  rcases cond_some h with ⟨h1, h⟩ | ⟨h1, h⟩
                  · have h1 := blt_t h1
                    cases h
                    have : n = 38 := by omega
                    subst this
                    exact fok38
                  · have h1 := blt_f h1
                    cases h
                    have : n = 39 := by omega
                    subst this
                    exact fok39
              · have h1 := blt_f h1
                rcases cond_some h with ⟨h1, h⟩ | ⟨h1, h⟩
                · have h1 := blt_t h1
                  rcases cond_some h with ⟨h1, h⟩ | ⟨h1, h⟩
                  · have h1 := blt_t h1
                    cases h
                    have : n = 40 := by omega
                    subst this
                    exact fok40
                  · have h1 := blt_f h1
                    cases h
                    have : n = 41 := by omega
                    subst this
                    exact fok41
                · have h1 := blt_f h1
                  rcases cond_some h with ⟨h1, h⟩ | ⟨h1, h⟩
                  · have h1 := blt_t h1
                    cases h
                    have : n = 42 := by omega
                    subst this
                    exact fok42
                  · have h1 := blt_f h1
                    rcases cond_some h with ⟨h1, h⟩ | ⟨h1, h⟩
                    · have h1 := blt_t h1
                      cases h
                      have : n = 43 := by omega
                      subst this
                      exact fok43
                    · have h1 := blt_f h1
                      cases h
                      have : n = 44 := by omega
                      subst this
                      exact fok44
            · have h1 := blt_f h1
              rcases cond_some h with ⟨h1, h⟩ | ⟨h1, h⟩
              · have h1 := blt_t h1
                rcases cond_some h with ⟨h1, h⟩ | ⟨h1, h⟩
                · have h1 := blt_t h1
                  rcases cond_some h with ⟨h1, h⟩ | ⟨h1, h⟩
                  · have h1 := blt_t h1
                    cases h
                    have : n = 45 := by omega
                    subst this
                    exact fok45
                  · have h1 := blt_f h1
                    cases h
                    have : n = 46 := by omega
                    subst this
                    exact fok46
                · have h1 := blt_f h1
                  rcases cond_some h with ⟨h1, h⟩ | ⟨h1, h⟩
                  · have h1 := blt_t h1
                    cases h
                    have : n = 47 := by omega
                    subst this
                    exact fok47
                  · have h1 := blt_f h1
                    cases h
                    have : n = 48 := by omega
                    subst this
                    exact fok48
              · have h1 := blt_f h1
                rcases cond_some h with ⟨h1, h⟩ | ⟨h1, h⟩
                · have h1 := blt_t h1
                  rcases cond_some h with ⟨h1, h⟩ | ⟨h1, h⟩
                  · have h1 := blt_t h1
                    cases h
                    have : n = 49 := by omega
                    subst this
                    exact fok49
                  · have h1 := blt_f h1
                    cases h
                    have : n = 50 := by omega
                    subst this
                    exact fok50
                · have h1 := blt_f h1
                  rcases cond_some h with ⟨h1, h⟩ | ⟨h1, h⟩
                  · have h1 := blt_t h1
                    cases h
                    have : n = 51 := by omega
                    subst this
                    exact fok51
                  · have h1 := blt_f h1
                    rcases cond_some h with ⟨h1, h⟩ | ⟨h1, h⟩
                    · have h1 := blt_t h1
                      cases h
                      have : n = 52 := by omega
                      subst this
                      exact fok52
                    · have h1 := blt_f h1
                      cases h
          · have h1 := blt_f h1
            rcases cond_some h with ⟨h1, h⟩ | ⟨h1, h⟩
            · have h1 := blt_t h1
              rcases cond_some h with ⟨h1, h⟩ | ⟨h1, h⟩
              · have h1 := blt_t h1
                rcases cond_some h with ⟨h1, h⟩ | ⟨h1, h⟩
                · have h1 := blt_t h1
                  rcases cond_some h with ⟨h1, h⟩ | ⟨h1, h⟩
                  · have h1 := blt_t h1
                    cases h
                  · have h1 := blt_f h1
                    cases h
                    have : n = 55 := by omega
                    subst this
                    exact fok55
                · have h1 := blt_f h1
                  rcases cond_some h with ⟨h1, h⟩ | ⟨h1, h⟩
                  · have h1 := blt_t h1
                    cases h
                    have : n = 56 := by omega
                    subst this
                    exact fok56
                  · have h1 := blt_f h1
                    cases h
                    have : n = 57 := by omega
                    subst this
                    exact fok57
              · have h1 := blt_f h1
                rcases cond_some h with ⟨h1, h⟩ | ⟨h1, h⟩
                · have h1 := blt_t h1
                  rcases cond_some h with ⟨h1, h⟩ | ⟨h1, h⟩
                  · have h1 := blt_t h1
                    cases h
                    have : n = 58 := by omega
                    subst this
                    exact fok58
                  · have h1 := blt_f h1
                    cases h
                    have : n = 59 := by omega
                    subst this
                    exact fok59
                · have h1 := blt_f h1
                  rcases cond_some h with ⟨h1, h⟩ | ⟨h1, h⟩
                  · have h1 := blt_t h1
                    cases h
                    have : n = 60 := by omega
                    subst this
                    exact fok60
                  · have h1 := blt_f h1
                    rcases cond_some h with ⟨h1, h⟩ | ⟨h1, h⟩
                    · have h1 := blt_t h1
                      cases h
                      have : n = 61 := by omega
                      subst this
                      exact fok61
                    · have h1 := blt_f h1
                      cases h
                      have : n = 62 := by omega
                      subst this
                      exact fok62
            · have h1 := blt_f h1
              rcases cond_some h with ⟨h1, h⟩ | ⟨h1, h⟩
              · have h1 := blt_t h1
                rcases cond_some h with ⟨h1, h⟩ | ⟨h1, h⟩
                · have h1 := blt_t h1
                  rcases cond_some h with ⟨h1, h⟩ | ⟨h1, h⟩
                  · have h1 := blt_t h1
                    cases h
                    have : n = 63 := by omega
                    subst this
                    exact fok63
                  · have h1 := blt_f h1
                    cases h
                    have : n = 64 := by omega
                    subst this
                    exact fok64
                · have h1 := blt_f h1
                  rcases cond_some h with ⟨h1, h⟩ | ⟨h1, h⟩
                  · have h1 := blt_t h1
                    cases h
                    have : n = 65 := by omega
                    subst this
                    exact fok65
                  · have h1 := blt_f h1
                    rcases cond_some h with ⟨h1, h⟩ | ⟨h1, h⟩
                    · have h1 := blt_t h1
                      cases h
                      have : n = 66 := by omega
                      subst this
                      exact fok66
                    · have h1 := blt_f h1
                      cases h
                      have : n = 67 := by omega
                      subst this
                      exact fok67
              · have h1 := blt_f h1
                rcases cond_some h with ⟨h1, h⟩ | ⟨h1, h⟩
                · have h1 := blt_t h1
                  rcases cond_some h with ⟨h1, h⟩ | ⟨h1, h⟩
                  · have h1 := blt_t h1
                    cases h
                    have : n = 68 := by omega
                    subst this
                    exact fok68
                  · have h1 := blt_f h1
                    cases h
                    have : n = 69 := by omega
                    subst this
                    exact fok69
                · have h1 := blt_f h1
                  rcases cond_some h with ⟨h1, h⟩ | ⟨h1, h⟩
                  · have h1 := blt_t h1
                    cases h
                    have : n = 70 := by omega
                    subst this
                    exact fok70
                  · have h1 := blt_f h1
                    rcases cond_some h with ⟨h1, h⟩ | ⟨h1, h⟩
                    · have h1 := blt_t h1
                      cases h
                      have : n = 71 := by omega
                      subst this
                      exact fok71
                    · have h1 := blt_f h1
                      cases h
                      have : n = 72 := by omega
                      subst this
                      exact fok72
      · have h1 := blt_f h1
        rcases cond_some h with ⟨h1, h⟩ | ⟨h1, h⟩
        · have h1 := blt_t h1
          rcases cond_some h with ⟨h1, h⟩ | ⟨h1, h⟩
          · have h1 := blt_t h1
            rcases cond_some h with ⟨h1, h⟩ | ⟨h1, h⟩
            · have h1 := blt_t h1
              rcases cond_some h with ⟨h1, h⟩ | ⟨h1, h⟩
              · have h1 := blt_t h1
                rcases cond_some h with ⟨h1, h⟩ | ⟨h1, h⟩
                · have h1 := blt_t h1
                  rcases cond_some h with ⟨h1, h⟩ | ⟨h1, h⟩
                  · have h1 := blt_t h1
                    cases h
                    have : n = 73 := by omega
                    subst this
                    exact fok73
                  · have h1 := blt_f h1
                    cases h
                    have : n = 74 := by omega
                    subst this
                    exact fok74
                · have h1 := blt_f h1
                  rcases cond_some h with ⟨h1, h⟩ | ⟨h1, h⟩
                  · have h1 := blt_t h1
                    cases h
                    have : n = 75 := by omega
                    subst this
                    exact fok75
                  · have h1 := blt_f h1
                    cases h
                    have : n = 76 := by omega
                    subst this
                    exact fok76
              · have h1 := blt_f h1
                rcases cond_some h with ⟨h1, h⟩ | ⟨h1, h⟩
                · have h1 := blt_t h1
                  rcases cond_some h with ⟨h1, h⟩ | ⟨h1, h⟩
                  · have h1 := blt_t h1
                    cases h
                    have : n = 77 := by omega
                    subst this
                    exact fok77
                  · have h1 := blt_f h1
                    cases h
                    have : n = 78 := by omega
                    subst this
                    exact fok78
                · have h1 := blt_f h1
                  rcases cond_some h with ⟨h1, h⟩ | ⟨h1, h⟩
                  · have h1 := blt_t h1
                    cases h
                    have : n = 79 := by omega
                    subst this
                    exact fok79
                  · have h1 := blt_f h1
                    rcases cond_some h with ⟨h1, h⟩ | ⟨h1, h⟩
                    · have h1 := blt_t h1
                      cases h
                      have : n = 80 := by omega
                      subst this
                      exact fok80
                    · have h1 := blt_f h1
                      cases h
                      have : n = 81 := by omega
                      subst this
                      exact fok81
            · have h1 := blt_f h1
              rcases cond_some h with ⟨h1, h⟩ | ⟨h1, h⟩
              · have h1 := blt_t h1
                rcases cond_some h with ⟨h1, h⟩ | ⟨h1, h⟩
                · have h1 := blt_t h1
                  rcases cond_some h with ⟨h1, h⟩ | ⟨h1, h⟩
                  · have h1 := blt_t h1
                    cases h
                    have : n = 82 := by omega
                    subst this
                    exact fok82
                  · have h1 := blt_f h1
                    cases h
                    have : n = 83 := by omega
                    subst this
                    exact fok83
                · have h1 := blt_f h1
                  rcases cond_some h with ⟨h1, h⟩ | ⟨h1, h⟩
                  · have h1 := blt_t h1
                    cases h
                    have : n = 84 := by omega
                    subst this
                    exact fok84
                  · have h1 := blt_f h1
                    cases h
                    have : n = 85 := by omega
                    subst this
                    exact fok85
              · have h1 := blt_f h1
                rcases cond_some h with ⟨h1, h⟩ | ⟨h1, h⟩
                · have h1 := blt_t h1
                  rcases cond_some h with ⟨h1, h⟩ | ⟨h1, h⟩
                  · have h1 := blt_t h1
                    cases h
                    have : n = 86 := by omega
                    subst this
                    exact fok86
                  · have h1 := blt_f h1
                    cases h
                    have : n = 87 := by omega
                    subst this
                    exact fok87
                · have h1 := blt_f h1
                  rcases cond_some h with ⟨h1, h⟩ | ⟨h1, h⟩
                  · have h1 := blt_t h1
                    cases h
                    have : n = 88 := by omega
                    subst this
                    exact fok88
                  · have h1 := blt_f h1
                    rcases cond_some h with ⟨h1, h⟩ | ⟨h1, h⟩
                    · have h1 := blt_t h1
                      cases h
                      have : n = 89 := by omega
                      subst this
                      exact fok89
                    · have h1 := blt_f h1
                      cases h
                      have : n = 90 := by omega
                      subst this
                      exact fok90
          · have h1 := blt_f h1
            rcases cond_some h with ⟨h1, h⟩ | ⟨h1, h⟩
            · have h1 := blt_t h1
              rcases cond_some h with ⟨h1, h⟩ | ⟨h1, h⟩
              · have h1 := blt_t h1
                rcases cond_some h with ⟨h1, h⟩ | ⟨h1, h⟩
                · have h1 := blt_t h1
                  rcases cond_some h with ⟨h1, h⟩ | ⟨h1, h⟩
                  · have h1 := blt_t h1
                    cases h
                    have : n = 91 := by omega
                    subst this
                    exact fok91
                  · have h1 := blt_f h1
                    cases h
                    have : n = 92 := by omega
                    subst this
                    exact fok92
                · have h1 := blt_f h1
                  rcases cond_some h with ⟨h1, h⟩ | ⟨h1, h⟩
                  · have h1 := blt_t h1
                    cases h
                    have : n = 93 := by omega
                    subst this
                    exact fok93
                  · have h1 := blt_f h1
                    cases h
                    have : n = 94 := by omega
                    subst this
                    exact fok94
              · have h1 := blt_f h1
                rcases cond_some h with ⟨h1, h⟩ | ⟨h1, h⟩
                · have h1 := blt_t h1
                  rcases cond_some h with ⟨h1, h⟩ | ⟨h1, h⟩
                  · have h1 := blt_t h1
                    cases h
                    have : n = 95 := by omega
                    subst this
                    exact fok95
                  · have h1 := blt_f h1
                    cases h
                    have : n = 96 := by omega
                    subst this
                    exact fok96
                · have h1 := blt_f h1
                  rcases cond_some h with ⟨h1, h⟩ | ⟨h1, h⟩
                  · have h1 := blt_t h1
                    cases h
                    have : n = 97 := by omega
                    subst this
                    exact fok97
                  · have h1 := blt_f h1
                    rcases cond_some h with ⟨h1, h⟩ | ⟨h1, h⟩
                    · have h1 := blt_t h1
                      cases h
                      have : n = 98 := by omega
                      subst this
                      exact fok98
                    · have h1 := blt_f h1
                      cases h
                      have : n = 99 := by omega
                      subst this
                      exact fok99
            · have h1 := blt_f h1
              rcases cond_some h with ⟨h1, h⟩ | ⟨h1, h⟩
              · have h1 := blt_t h1
                rcases cond_some h with ⟨h1, h⟩ | ⟨h1, h⟩
                · have h1 := blt_t h1
                  rcases cond_some h with ⟨h1, h⟩ | ⟨h1, h⟩
                  · have h1 := blt_t h1
                    cases h
                    have : n = 100 := by omega
                    subst this
                    exact fok100
                  · have h1 := blt_f h1
                    cases h
                    have : n = 101 := by omega
                    subst this
                    exact fok101
                · have h1 := blt_f h1
                  rcases cond_some h with ⟨h1, h⟩ | ⟨h1, h⟩
                  · have h1 := blt_t h1
                    cases h
                    have : n = 102 := by omega
                    subst this
                    exact fok102
                  · have h1 := blt_f h1
                    rcases cond_some h with ⟨h1, h⟩ | ⟨h1, h⟩
                    · have h1 := blt_t h1
                      cases h
                      have : n = 103 := by omega
                      subst this
                      exact fok103
                    · have h1 := blt_f h1
                      cases h
                      have : n = 104 := by omega
                      subst this
                      exact fok104
              · have h1 := blt_f h1
                rcases cond_some h with ⟨h1, h⟩ | ⟨h1, h⟩
                · have h1 := blt_t h1
                  rcases cond_some h with ⟨h1, h⟩ | ⟨h1, h⟩
                  · have h1 := blt_t h1
                    cases h
                    have : n = 105 := by omega
                    subst this
                    exact fok105
                  · have h1 := blt_f h1
                    cases h
                    have : n = 106 := by omega
                    subst this
                    exact fok106
                · have h1 := blt_f h1
                  rcases cond_some h with ⟨h1, h⟩ | ⟨h1, h⟩
                  · have h1 := blt_t h1
                    cases h
                    have : n = 107 := by omega
                    subst this
                    exact fok107
                  · have h1 := blt_f h1
                    rcases cond_some h with ⟨h1, h⟩ | ⟨h1, h⟩
                    · have h1 := blt_t h1
                      cases h
                      have : n = 108 := by omega
                      subst this
                      exact fok108
                    · have h1 := blt_f h1
                      cases h
                      have : n = 109 := by omega
                      subst this
                      exact fok109
        · have h1 := blt_f h1
          rcases cond_some h with ⟨h1, h⟩ | ⟨h1, h⟩
          · have h1 := blt_t h1
            rcases cond_some h with ⟨h1, h⟩ | ⟨h1, h⟩
            · have h1 := blt_t h1
              rcases cond_some h with ⟨h1, h⟩ | ⟨h1, h⟩
              · have h1 := blt_t h1
                rcases cond_some h with ⟨h1, h⟩ | ⟨h1, h⟩
                · have h1 := blt_t h1
                  rcases cond_some h with ⟨h1, h⟩ | ⟨h1, h⟩
                  · have h1 := blt_t h1
                    cases h
                    have : n = 110 := by omega
                    subst this
                    exact fok110
                  · have h1 := blt_f h1
                    cases h
                    have : n = 111 := by omega
                    subst this
                    exact fok111
                · have h1 := blt_f h1
                  rcases cond_some h with ⟨h1, h⟩ | ⟨h1, h⟩
                  · have h1 := blt_t h1
                    cases h
                    have : n = 112 := by omega
                    subst this
                    exact fok112
                  · have h1 := blt_f h1
                    cases h
                    have : n = 113 := by omega
                    subst this
                    exact fok113
              · have h1 := blt_f h1
                rcases cond_some h with ⟨h1, h⟩ | ⟨h1, h⟩
                · have h1 := blt_t h1
                  rcases cond_some h with ⟨h1, h⟩ | ⟨h1, h⟩
                  · have h1 := blt_t h1
                    cases h
                    have : n = 114 := by omega
                    subst this
                    exact fok114
                  · have h1 := blt_f h1
                    cases h
                    have : n = 115 := by omega
                    subst this
                    exact fok115
                · have h1 := blt_f h1
                  rcases cond_some h with ⟨h1, h⟩ | ⟨h1, h⟩
                  · have h1 := blt_t h1
                    cases h
                    have : n = 116 := by omega
                    subst this
                    exact fok116
                  · have h1 := blt_f h1
                    rcases cond_some h with ⟨h1, h⟩ | ⟨h1, h⟩
                    · have h1 := blt_t h1
                      cases h
                      have : n = 117 := by omega
                      subst this
                      exact fok117
                    · have h1 := blt_f h1
                      cases h
                      have : n = 118 := by omega
                      subst this
                      exact fok118
            · have h1 := blt_f h1
              rcases cond_some h with ⟨h1, h⟩ | ⟨h1, h⟩
              · have h1 := blt_t h1
                rcases cond_some h with ⟨h1, h⟩ | ⟨h1, h⟩
                · have h1 := blt_t h1
                  rcases cond_some h with ⟨h1, h⟩ | ⟨h1, h⟩
                  · have h1 := blt_t h1
                    cases h
                    have : n = 119 := by omega
                    subst this
                    exact fok119
                  · have h1 := blt_f h1
                    cases h
                    have : n = 120 := by omega
                    subst this
                    exact fok120
                · have h1 := blt_f h1
                  rcases cond_some h with ⟨h1, h⟩ | ⟨h1, h⟩
                  · have h1 := blt_t h1
                    cases h
                    have : n = 121 := by omega
                    subst this
                    exact fok121
                  · have h1 := blt_f h1
                    cases h
                    have : n = 122 := by omega
                    subst this
                    exact fok122
              · have h1 := blt_f h1
                rcases cond_some h with ⟨h1, h⟩ | ⟨h1, h⟩
                · have h1 := blt_t h1
                  rcases cond_some h with ⟨h1, h⟩ | ⟨h1, h⟩
                  · have h1 := blt_t h1
                    cases h
                    have : n = 123 := by omega
                    subst this
                    exact fok123
                  · have h1 := blt_f h1
                    cases h
                    have : n = 124 := by omega
                    subst this
                    exact fok124
                · have h1 := blt_f h1
                  rcases cond_some h with ⟨h1, h⟩ | ⟨h1, h⟩
                  · have h1 := blt_t h1
                    cases h
                    have : n = 125 := by omega
                    subst this
                    exact fok125
                  · have h1 := blt_f h1
                    rcases cond_some h with ⟨h1, h⟩ | ⟨h1, h⟩
                    · have h1 := blt_t h1
                      cases h
                      have : n = 126 := by omega
                      subst this
                      exact fok126
                    · have h1 := blt_f h1
                      cases h
                      have : n = 127 := by omega
                      subst this
                      exact fok127
          · have h1 := blt_f h1
            rcases cond_some h with ⟨h1, h⟩ | ⟨h1, h⟩
            · have h1 := blt_t h1
              rcases cond_some h with ⟨h1, h⟩ | ⟨h1, h⟩
              · have h1 := blt_t h1
                rcases cond_some h with ⟨h1, h⟩ | ⟨h1, h⟩
                · have h1 := blt_t h1
                  rcases cond_some h with ⟨h1, h⟩ | ⟨h1, h⟩
                  · have h1 := blt_t h1
                    cases h
                    have : n = 128 := by omega
                    subst this
                    exact fok128
                  · have h1 := blt_f h1
                    cases h
                    have : n = 129 := by omega
                    subst this
                    exact fok129
                · have h1 := blt_f h1
                  rcases cond_some h with ⟨h1, h⟩ | ⟨h1, h⟩
                  · have h1 := blt_t h1
                    cases h
                  · have h1 := blt_f h1
                    cases h
                    have : n = 131 := by omega
                    subst this
                    exact fok131
              · have h1 := blt_f h1
                rcases cond_some h with ⟨h1, h⟩ | ⟨h1, h⟩
                · have h1 := blt_t h1
                  rcases cond_some h with ⟨h1, h⟩ | ⟨h1, h⟩
                  · have h1 := blt_t h1
                    cases h
                    have : n = 132 := by omega
                    subst this
                    exact fok132
                  · have h1 := blt_f h1
                    cases h
                    have : n = 133 := by omega
                    subst this
                    exact fok133
                · have h1 := blt_f h1
                  rcases cond_some h with ⟨h1, h⟩ | ⟨h1, h⟩
                  · have h1 := blt_t h1
                    cases h
                    have : n = 134 := by omega
                    subst this
                    exact fok134
                  · have h1 := blt_f h1
                    rcases cond_some h with ⟨h1, h⟩ | ⟨h1, h⟩
                    · have h1 := blt_t h1
                      cases h
                    · have h1 := blt_f h1
                      cases h
                      have : n = 136 := by omega
                      subst this
                      exact fok136
            · have h1 := blt_f h1
              rcases cond_some h with ⟨h1, h⟩ | ⟨h1, h⟩
              · have h1 := blt_t h1
                rcases cond_some h with ⟨h1, h⟩ | ⟨h1, h⟩
                · have h1 := blt_t h1
                  rcases cond_some h with ⟨h1, h⟩ | ⟨h1, h⟩
                  · have h1 := blt_t h1
                    cases h
                    have : n = 137 := by omega
                    subst this
                    exact fok137
                  · have h1 := blt_f h1
                    cases h
                    have : n = 138 := by omega
                    subst this
                    exact fok138
                · have h1 := blt_f h1
                  rcases cond_some h with ⟨h1, h⟩ | ⟨h1, h⟩
                  · have h1 := blt_t h1
                    cases h
                    have : n = 139 := by omega
                    subst this
                    exact fok139
                  · have h1 := blt_f h1
                    rcases cond_some h with ⟨h1, h⟩ | ⟨h1, h⟩
                    · have h1 := blt_t h1
                      cases h
                      have : n = 140 := by omega
                      subst this
                      exact fok140
                    · have h1 := blt_f h1
                      cases h
                      have : n = 141 := by omega
                      subst this
                      exact fok141
              · have h1 := blt_f h1
                rcases cond_some h with ⟨h1, h⟩ | ⟨h1, h⟩
                · have h1 := blt_t h1
                  rcases cond_some h with ⟨h1, h⟩ | ⟨h1, h⟩
                  · have h1 := blt_t h1
                    cases h
                    have : n = 142 := by omega
                    subst this
                    exact fok142
                  · have h1 := blt_f h1
                    cases h
                    have : n = 143 := by omega
                    subst this
                    exact fok143
                · have h1 := blt_f h1
                  rcases cond_some h with ⟨h1, h⟩ | ⟨h1, h⟩
                  · have h1 := blt_t h1
                    cases h
                    have : n = 144 := by omega
                    subst this
                    exact fok144
                  · have h1 := blt_f h1
                    rcases cond_some h with ⟨h1, h⟩ | ⟨h1, h⟩
                    · have h1 := blt_t h1
                      cases h
                      have : n = 145 := by omega
                      subst this
                      exact fok145
                    · have h1 := blt_f h1
                      cases h
                      have : n = 146 := by omega
                      subst this
                      exact fok146
    · have h1 := blt_f h1
      rcases cond_some h with ⟨h1, h⟩ | ⟨h1, h⟩
      · have h1 := blt_t h1
        rcases cond_some h with ⟨h1, h⟩ | ⟨h1, h⟩
        · have h1 := blt_t h1
          rcases cond_some h with ⟨h1, h⟩ | ⟨h1, h⟩
          · have h1 := blt_t h1
            rcases cond_some h with ⟨h1, h⟩ | ⟨h1, h⟩
            · have h1 := blt_t h1
              rcases cond_some h with ⟨h1, h⟩ | ⟨h1, h⟩
              · have h1 := blt_t h1
                rcases cond_some h with ⟨h1, h⟩ | ⟨h1, h⟩
                · have h1 := blt_t h1
                  rcases cond_some h with ⟨h1, h⟩ | ⟨h1, h⟩
                  · have h1 := blt_t h1
                    cases h
                    have : n = 147 := by omega
                    subst this
                    exact fok147
                  · have h1 := blt_f h1
                    cases h
                    have : n = 148 := by omega
                    subst this
                    exact fok148
                · have h1 := blt_f h1
                  rcases cond_some h with ⟨h1, h⟩ | ⟨h1, h⟩
                  · have h1 := blt_t h1
                    cases h
                    have : n = 149 := by omega
                    subst this
                    exact fok149
                  · have h1 := blt_f h1
                    cases h
                    have : n = 150 := by omega
                    subst this
                    exact fok150
              · have h1 := blt_f h1
                rcases cond_some h with ⟨h1, h⟩ | ⟨h1, h⟩
                · have h1 := blt_t h1
                  rcases cond_some h with ⟨h1, h⟩ | ⟨h1, h⟩
                  · have h1 := blt_t h1
                    cases h
                    have : n = 151 := by omega
                    subst this
                    exact fok151
                  · have h1 := blt_f h1
                    cases h
                    have : n = 152 := by omega
                    subst this
                    exact fok152
                · have h1 := blt_f h1
                  rcases cond_some h with ⟨h1, h⟩ | ⟨h1, h⟩
                  · have h1 := blt_t h1
                    cases h
                    have : n = 153 := by omega
                    subst this
                    exact fok153
                  · have h1 := blt_f h1
                    rcases cond_some h with ⟨h1, h⟩ | ⟨h1, h⟩
                    · have h1 := blt_t h1
                      cases h
                      have : n = 154 := by omega
                      subst this
                      exact fok154
                    · have h1 := blt_f h1
                      cases h
                      have : n = 155 := by omega
                      subst this
                      exact fok155
            · have h1 := blt_f h1
              rcases cond_some h with ⟨h1, h⟩ | ⟨h1, h⟩
              · have h1 := blt_t h1
                rcases cond_some h with ⟨h1, h⟩ | ⟨h1, h⟩
                · have h1 := blt_t h1
                  rcases cond_some h with ⟨h1, h⟩ | ⟨h1, h⟩
                  · have h1 := blt_t h1
                    cases h
                    have : n = 156 := by omega
                    subst this
                    exact fok156
                  · have h1 := blt_f h1
                    cases h
                    have : n = 157 := by omega
                    subst this
                    exact fok157
                · have h1 := blt_f h1
                  rcases cond_some h with ⟨h1, h⟩ | ⟨h1, h⟩
                  · have h1 := blt_t h1
                    cases h
                    have : n = 158 := by omega
                    subst this
                    exact fok158
                  · have h1 := blt_f h1
                    cases h
                    have : n = 159 := by omega
                    subst this
                    exact fok159
              · have h1 := blt_f h1
                rcases cond_some h with ⟨h1, h⟩ | ⟨h1, h⟩
                · have h1 := blt_t h1
                  rcases cond_some h with ⟨h1, h⟩ | ⟨h1, h⟩
                  · have h1 := blt_t h1
                    cases h
                    have : n = 160 := by omega
                    subst this
                    exact fok160
                  · have h1 := blt_f h1
                    cases h
                    have : n = 161 := by omega
                    subst this
                    exact fok161
                · have h1 := blt_f h1
                  rcases cond_some h with ⟨h1, h⟩ | ⟨h1, h⟩
                  · have h1 := blt_t h1
                    cases h
                    have : n = 162 := by omega
                    subst this
                    exact fok162
                  · have h1 := blt_f h1
                    rcases cond_some h with ⟨h1, h⟩ | ⟨h1, h⟩
                    · have h1 := blt_t h1
                      cases h
                      have : n = 163 := by omega
                      subst this
                      exact fok163
                    · have h1 := blt_f h1
                      cases h
                      have : n = 164 := by omega
                      subst this
                      exact fok164
          · have h1 := blt_f h1
            rcases cond_some h with ⟨h1, h⟩ | ⟨h1, h⟩
            · have h1 := blt_t h1
              rcases cond_some h with ⟨h1, h⟩ | ⟨h1, h⟩
              · have h1 := blt_t h1
                rcases cond_some h with ⟨h1, h⟩ | ⟨h1, h⟩
                · have h1 := blt_t h1
                  rcases cond_some h with ⟨h1, h⟩ | ⟨h1, h⟩
                  · have h1 := blt_t h1
                    cases h
                    have : n = 165 := by omega
                    subst this
                    exact fok165
                  · have h1 := blt_f h1
                    cases h
                    have : n = 166 := by omega
                    subst this
                    exact fok166
                · have h1 := blt_f h1
                  rcases cond_some h with ⟨h1, h⟩ | ⟨h1, h⟩
                  · have h1 := blt_t h1
                    cases h
                    have : n = 167 := by omega
                    subst this
                    exact fok167
                  · have h1 := blt_f h1
                    cases h
                    have : n = 168 := by omega
                    subst this
                    exact fok168
              · have h1 := blt_f h1
                rcases cond_some h with ⟨h1, h⟩ | ⟨h1, h⟩
                · have h1 := blt_t h1
                  rcases cond_some h with ⟨h1, h⟩ | ⟨h1, h⟩
                  · have h1 := blt_t h1
                    cases h
                    have : n = 169 := by omega
                    subst this
                    exact fok169
                  · have h1 := blt_f h1
                    cases h
                    have : n = 170 := by omega
                    subst this
                    exact fok170
                · have h1 := blt_f h1
                  rcases cond_some h with ⟨h1, h⟩ | ⟨h1, h⟩
                  · have h1 := blt_t h1
                    cases h
                  · have h1 := blt_f h1
                    rcases cond_some h with ⟨h1, h⟩ | ⟨h1, h⟩
                    · have h1 := blt_t h1
                      cases h
                      have : n = 172 := by omega
                      subst this
                      exact fok172
                    · have h1 := blt_f h1
                      cases h
                      have : n = 173 := by omega
                      subst this
                      exact fok173
            · have h1 := blt_f h1
              rcases cond_some h with ⟨h1, h⟩ | ⟨h1, h⟩
              · have h1 := blt_t h1
                rcases cond_some h with ⟨h1, h⟩ | ⟨h1, h⟩
                · have h1 := blt_t h1
                  rcases cond_some h with ⟨h1, h⟩ | ⟨h1, h⟩
                  · have h1 := blt_t h1
                    cases h
                    have : n = 174 := by omega
                    subst this
                    exact fok174
                  · have h1 := blt_f h1
                    cases h
                    have : n = 175 := by omega
                    subst this
                    exact fok175
                · have h1 := blt_f h1
                  rcases cond_some h with ⟨h1, h⟩ | ⟨h1, h⟩
                  · have h1 := blt_t h1
                    cases h
                    have : n = 176 := by omega
                    subst this
                    exact fok176
                  · have h1 := blt_f h1
                    cases h
                    have : n = 177 := by omega
                    subst this
                    exact fok177
              · have h1 := blt_f h1
                rcases cond_some h with ⟨h1, h⟩ | ⟨h1, h⟩
                · have h1 := blt_t h1
                  rcases cond_some h with ⟨h1, h⟩ | ⟨h1, h⟩
                  · have h1 := blt_t h1
                    cases h
                    have : n = 178 := by omega
                    subst this
                    exact fok178
                  · have h1 := blt_f h1
                    cases h
                    have : n = 179 := by omega
                    subst this
                    exact fok179
                · have h1 := blt_f h1
                  rcases cond_some h with ⟨h1, h⟩ | ⟨h1, h⟩
                  · have h1 := blt_t h1
                    cases h
                    have : n = 180 := by omega
                    subst this
                    exact fok180
                  · have h1 := blt_f h1
                    rcases cond_some h with ⟨h1, h⟩ | ⟨h1, h⟩
                    · have h1 := blt_t h1
                      cases h
                      have : n = 181 := by omega
                      subst this
                      exact fok181
                    · have h1 := blt_f h1
                      cases h
                      have : n = 182 := by omega
                      subst this
                      exact fok182
        · have h1 := blt_f h1
          rcases cond_some h with ⟨h1, h⟩ | ⟨h1, h⟩
          · have h1 := blt_t h1
            rcases cond_some h with ⟨h1, h⟩ | ⟨h1, h⟩
            · have h1 := blt_t h1
              rcases cond_some h with ⟨h1, h⟩ | ⟨h1, h⟩
              · have h1 := blt_t h1
                rcases cond_some h with ⟨h1, h⟩ | ⟨h1, h⟩
                · have h1 := blt_t h1
                  rcases cond_some h with ⟨h1, h⟩ | ⟨h1, h⟩
                  · have h1 := blt_t h1
                    cases h
                    have : n = 183 := by omega
                    subst this
                    exact fok183
                  · have h1 := blt_f h1
                    cases h
                · have h1 := blt_f h1
                  rcases cond_some h with ⟨h1, h⟩ | ⟨h1, h⟩
                  · have h1 := blt_t h1
                    cases h
                    have : n = 185 := by omega
                    subst this
                    exact fok185
                  · have h1 := blt_f h1
                    cases h
                    have : n = 186 := by omega
                    subst this
                    exact fok186
              · have h1 := blt_f h1
                rcases cond_some h with ⟨h1, h⟩ | ⟨h1, h⟩
                · have h1 := blt_t h1
                  rcases cond_some h with ⟨h1, h⟩ | ⟨h1, h⟩
                  · have h1 := blt_t h1
                    cases h
                    have : n = 187 := by omega
                    subst this
                    exact fok187
                  · have h1 := blt_f h1
                    cases h
                · have h1 := blt_f h1
                  cases h
            · have h1 := blt_f h1
              rcases cond_some h with ⟨h1, h⟩ | ⟨h1, h⟩
              · have h1 := blt_t h1
                rcases cond_some h with ⟨h1, h⟩ | ⟨h1, h⟩
                · have h1 := blt_t h1
                  cases h
                · have h1 := blt_f h1
                  rcases cond_some h with ⟨h1, h⟩ | ⟨h1, h⟩
                  · have h1 := blt_t h1
                    cases h
                    have : n = 194 := by omega
                    subst this
                    exact fok194
                  · have h1 := blt_f h1
                    cases h
                    have : n = 195 := by omega
                    subst this
                    exact fok195
              · have h1 := blt_f h1
                rcases cond_some h with ⟨h1, h⟩ | ⟨h1, h⟩
                · have h1 := blt_t h1
                  rcases cond_some h with ⟨h1, h⟩ | ⟨h1, h⟩
                  · have h1 := blt_t h1
                    cases h
                    have : n = 196 := by omega
                    subst this
                    exact fok196
                  · have h1 := blt_f h1
                    cases h
                    have : n = 197 := by omega
                    subst this
                    exact fok197
                · have h1 := blt_f h1
                  rcases cond_some h with ⟨h1, h⟩ | ⟨h1, h⟩
                  · have h1 := blt_t h1
                    cases h
                    have : n = 198 := by omega
                    subst this
                    exact fok198
                  · have h1 := blt_f h1
                    rcases cond_some h with ⟨h1, h⟩ | ⟨h1, h⟩
                    · have h1 := blt_t h1
                      cases h
                      have : n = 199 := by omega
                      subst this
                      exact fok199
                    · have h1 := blt_f h1
                      cases h
                      have : n = 200 := by omega
                      subst this
                      exact fok200
          · have h1 := blt_f h1
            rcases cond_some h with ⟨h1, h⟩ | ⟨h1, h⟩
            · have h1 := blt_t h1
              rcases cond_some h with ⟨h1, h⟩ | ⟨h1, h⟩
              · have h1 := blt_t h1
                rcases cond_some h with ⟨h1, h⟩ | ⟨h1, h⟩
                · have h1 := blt_t h1
                  rcases cond_some h with ⟨h1, h⟩ | ⟨h1, h⟩
                  · have h1 := blt_t h1
                    cases h
                    have : n = 201 := by omega
                    subst this
                    exact fok201
                  · have h1 := blt_f h1
                    cases h
                    have : n = 202 := by omega
                    subst this
                    exact fok202
                · have h1 := blt_f h1
                  rcases cond_some h with ⟨h1, h⟩ | ⟨h1, h⟩
                  · have h1 := blt_t h1
                    cases h
                    have : n = 203 := by omega
                    subst this
                    exact fok203
                  · have h1 := blt_f h1
                    cases h
                    have : n = 204 := by omega
                    subst this
                    exact fok204
              · have h1 := blt_f h1
                rcases cond_some h with ⟨h1, h⟩ | ⟨h1, h⟩
                · have h1 := blt_t h1
                  rcases cond_some h with ⟨h1, h⟩ | ⟨h1, h⟩
                  · have h1 := blt_t h1
                    cases h
                    have : n = 205 := by omega
                    subst this
                    exact fok205
                  · have h1 := blt_f h1
                    cases h
                    have : n = 206 := by omega
                    subst this
                    exact fok206
                · have h1 := blt_f h1
                  rcases cond_some h with ⟨h1, h⟩ | ⟨h1, h⟩
                  · have h1 := blt_t h1
                    cases h
                    have : n = 207 := by omega
                    subst this
                    exact fok207
                  · have h1 := blt_f h1
                    rcases cond_some h with ⟨h1, h⟩ | ⟨h1, h⟩
                    · have h1 := blt_t h1
                      cases h
                      have : n = 208 := by omega
                      subst this
                      exact fok208
                    · have h1 := blt_f h1
                      cases h
                      have : n = 209 := by omega
                      subst this
                      exact fok209
            · have h1 := blt_f h1
              rcases cond_some h with ⟨h1, h⟩ | ⟨h1, h⟩
              · have h1 := blt_t h1
                rcases cond_some h with ⟨h1, h⟩ | ⟨h1, h⟩
                · have h1 := blt_t h1
                  rcases cond_some h with ⟨h1, h⟩ | ⟨h1, h⟩
                  · have h1 := blt_t h1
                    cases h
                    have : n = 210 := by omega
                    subst this
                    exact fok210
                  · have h1 := blt_f h1
                    cases h
                    have : n = 211 := by omega
                    subst this
                    exact fok211
                · have h1 := blt_f h1
                  rcases cond_some h with ⟨h1, h⟩ | ⟨h1, h⟩
                  · have h1 := blt_t h1
                    cases h
                    have : n = 212 := by omega
                    subst this
                    exact fok212
                  · have h1 := blt_f h1
                    rcases cond_some h with ⟨h1, h⟩ | ⟨h1, h⟩
                    · have h1 := blt_t h1
                      cases h
                      have : n = 213 := by omega
                      subst this
                      exact fok213
                    · have h1 := blt_f h1
                      cases h
                      have : n = 214 := by omega
                      subst this
                      exact fok214
              · have h1 := blt_f h1
                rcases cond_some h with ⟨h1, h⟩ | ⟨h1, h⟩
                · have h1 := blt_t h1
                  rcases cond_some h with ⟨h1, h⟩ | ⟨h1, h⟩
                  · have h1 := blt_t h1
                    cases h
                    have : n = 215 := by omega
                    subst this
                    exact fok215
                  · have h1 := blt_f h1
                    cases h
                    have : n = 216 := by omega
                    subst this
                    exact fok216
                · have h1 := blt_f h1
                  rcases cond_some h with ⟨h1, h⟩ | ⟨h1, h⟩
                  · have h1 := blt_t h1
                    cases h
                    have : n = 217 := by omega
                    subst this
                    exact fok217
                  · have h1 := blt_f h1
                    rcases cond_some h with ⟨h1, h⟩ | ⟨h1, h⟩
                    · have h1 := blt_t h1
                      cases h
                      have : n = 218 := by omega
                      subst this
                      exact fok218
                    · have h1 := blt_f h1
                      cases h
                      have : n = 219 := by omega
                      subst this
                      exact fok219
      · have h1 := blt_f h1
        rcases cond_some h with ⟨h1, h⟩ | ⟨h1, h⟩
        · have h1 := blt_t h1
          rcases cond_some h with ⟨h1, h⟩ | ⟨h1, h⟩
          · have h1 := blt_t h1
            rcases cond_some h with ⟨h1, h⟩ | ⟨h1, h⟩
            · have h1 := blt_t h1
              rcases cond_some h with ⟨h1, h⟩ | ⟨h1, h⟩
              · have h1 := blt_t h1
                rcases cond_some h with ⟨h1, h⟩ | ⟨h1, h⟩
                · have h1 := blt_t h1
                  rcases cond_some h with ⟨h1, h⟩ | ⟨h1, h⟩
                  · have h1 := blt_t h1
                    cases h
                    have : n = 220 := by omega
                    subst this
                    exact fok220
                  · have h1 := blt_f h1
                    cases h
                    have : n = 221 := by omega
                    subst this
                    exact fok221
                · have h1 := blt_f h1
                  rcases cond_some h with ⟨h1, h⟩ | ⟨h1, h⟩
                  · have h1 := blt_t h1
                    cases h
                    have : n = 222 := by omega
                    subst this
                    exact fok222
                  · have h1 := blt_f h1
                    cases h
              · have h1 := blt_f h1
                rcases cond_some h with ⟨h1, h⟩ | ⟨h1, h⟩
                · have h1 := blt_t h1
                  rcases cond_some h with ⟨h1, h⟩ | ⟨h1, h⟩
                  · have h1 := blt_t h1
                    cases h
                    have : n = 224 := by omega
                    subst this
                    exact fok224
                  · have h1 := blt_f h1
                    cases h
                    have : n = 225 := by omega
                    subst this
                    exact fok225
                · have h1 := blt_f h1
                  rcases cond_some h with ⟨h1, h⟩ | ⟨h1, h⟩
                  · have h1 := blt_t h1
                    cases h
                  · have h1 := blt_f h1
                    rcases cond_some h with ⟨h1, h⟩ | ⟨h1, h⟩
                    · have h1 := blt_t h1
                      cases h
                      have : n = 227 := by omega
                      subst this
                      exact fok227
                    · have h1 := blt_f h1
                      cases h
                      have : n = 228 := by omega
                      subst this
                      exact fok228
            · have h1 := blt_f h1
              rcases cond_some h with ⟨h1, h⟩ | ⟨h1, h⟩
              · have h1 := blt_t h1
                rcases cond_some h with ⟨h1, h⟩ | ⟨h1, h⟩
                · have h1 := blt_t h1
                  rcases cond_some h with ⟨h1, h⟩ | ⟨h1, h⟩
                  · have h1 := blt_t h1
                    cases h
                    have : n = 229 := by omega
                    subst this
                    exact fok229
                  · have h1 := blt_f h1
                    cases h
                    have : n = 230 := by omega
                    subst this
                    exact fok230
                · have h1 := blt_f h1
                  rcases cond_some h with ⟨h1, h⟩ | ⟨h1, h⟩
                  · have h1 := blt_t h1
                    cases h
                    have : n = 231 := by omega
                    subst this
                    exact fok231
                  · have h1 := blt_f h1
                    cases h
              · have h1 := blt_f h1
                rcases cond_some h with ⟨h1, h⟩ | ⟨h1, h⟩
                · have h1 := blt_t h1
                  cases h
                · have h1 := blt_f h1
                  rcases cond_some h with ⟨h1, h⟩ | ⟨h1, h⟩
                  · have h1 := blt_t h1
                    cases h
                  · have h1 := blt_f h1
                    rcases cond_some h with ⟨h1, h⟩ | ⟨h1, h⟩
                    · have h1 := blt_t h1
                      cases h
                    · have h1 := blt_f h1
                      cases h
                      have : n = 237 := by omega
                      subst this
                      exact fok237
          · have h1 := blt_f h1
            rcases cond_some h with ⟨h1, h⟩ | ⟨h1, h⟩
            · have h1 := blt_t h1
              rcases cond_some h with ⟨h1, h⟩ | ⟨h1, h⟩
              · have h1 := blt_t h1
                rcases cond_some h with ⟨h1, h⟩ | ⟨h1, h⟩
                · have h1 := blt_t h1
                  rcases cond_some h with ⟨h1, h⟩ | ⟨h1, h⟩
                  · have h1 := blt_t h1
                    cases h
                    have : n = 238 := by omega
                    subst this
                    exact fok238
                  · have h1 := blt_f h1
                    cases h
                    have : n = 239 := by omega
                    subst this
                    exact fok239
                · have h1 := blt_f h1
                  rcases cond_some h with ⟨h1, h⟩ | ⟨h1, h⟩
                  · have h1 := blt_t h1
                    cases h
                  · have h1 := blt_f h1
                    cases h
                    have : n = 241 := by omega
                    subst this
                    exact fok241
              · have h1 := blt_f h1
                rcases cond_some h with ⟨h1, h⟩ | ⟨h1, h⟩
                · have h1 := blt_t h1
                  rcases cond_some h with ⟨h1, h⟩ | ⟨h1, h⟩
                  · have h1 := blt_t h1
                    cases h
                    have : n = 242 := by omega
                    subst this
                    exact fok242
                  · have h1 := blt_f h1
                    cases h
                    have : n = 243 := by omega
                    subst this
                    exact fok243
                · have h1 := blt_f h1
                  rcases cond_some h with ⟨h1, h⟩ | ⟨h1, h⟩
                  · have h1 := blt_t h1
                    cases h
                    have : n = 244 := by omega
                    subst this
                    exact fok244
                  · have h1 := blt_f h1
                    rcases cond_some h with ⟨h1, h⟩ | ⟨h1, h⟩
                    · have h1 := blt_t h1
                      cases h
                      have : n = 245 := by omega
                      subst this
                      exact fok245
                    · have h1 := blt_f h1
                      cases h
                      have : n = 246 := by omega
                      subst this
                      exact fok246
            · have h1 := blt_f h1
              rcases cond_some h with ⟨h1, h⟩ | ⟨h1, h⟩
              · have h1 := blt_t h1
                rcases cond_some h with ⟨h1, h⟩ | ⟨h1, h⟩
                · have h1 := blt_t h1
                  rcases cond_some h with ⟨h1, h⟩ | ⟨h1, h⟩
                  · have h1 := blt_t h1
                    cases h
                    have : n = 247 := by omega
                    subst this
                    exact fok247
                  · have h1 := blt_f h1
                    cases h
                · have h1 := blt_f h1
                  cases h
              · have h1 := blt_f h1
                cases h
        · have h1 := blt_f h1
          rcases cond_some h with ⟨h1, h⟩ | ⟨h1, h⟩
          · have h1 := blt_t h1
            rcases cond_some h with ⟨h1, h⟩ | ⟨h1, h⟩
            · have h1 := blt_t h1
              rcases cond_some h with ⟨h1, h⟩ | ⟨h1, h⟩
              · have h1 := blt_t h1
                rcases cond_some h with ⟨h1, h⟩ | ⟨h1, h⟩
                · have h1 := blt_t h1
                  cases h
                · have h1 := blt_f h1
                  rcases cond_some h with ⟨h1, h⟩ | ⟨h1, h⟩
                  · have h1 := blt_t h1
                    cases h
                    have : n = 259 := by omega
                    subst this
                    exact fok259
                  · have h1 := blt_f h1
                    cases h
              · have h1 := blt_f h1
                rcases cond_some h with ⟨h1, h⟩ | ⟨h1, h⟩
                · have h1 := blt_t h1
                  rcases cond_some h with ⟨h1, h⟩ | ⟨h1, h⟩
                  · have h1 := blt_t h1
                    cases h
                  · have h1 := blt_f h1
                    cases h
                    have : n = 262 := by omega
                    subst this
                    exact fok262
                · have h1 := blt_f h1
                  rcases cond_some h with ⟨h1, h⟩ | ⟨h1, h⟩
                  · have h1 := blt_t h1
                    cases h
                    have : n = 263 := by omega
                    subst this
                    exact fok263
                  · have h1 := blt_f h1
                    rcases cond_some h with ⟨h1, h⟩ | ⟨h1, h⟩
                    · have h1 := blt_t h1
                      cases h
                      have : n = 264 := by omega
                      subst this
                      exact fok264
                    · have h1 := blt_f h1
                      cases h
                      have : n = 265 := by omega
                      subst this
                      exact fok265
            · have h1 := blt_f h1
              rcases cond_some h with ⟨h1, h⟩ | ⟨h1, h⟩
              · have h1 := blt_t h1
                rcases cond_some h with ⟨h1, h⟩ | ⟨h1, h⟩
                · have h1 := blt_t h1
                  rcases cond_some h with ⟨h1, h⟩ | ⟨h1, h⟩
                  · have h1 := blt_t h1
                    cases h
                    have : n = 266 := by omega
                    subst this
                    exact fok266
                  · have h1 := blt_f h1
                    cases h
                    have : n = 267 := by omega
                    subst this
                    exact fok267
                · have h1 := blt_f h1
                  rcases cond_some h with ⟨h1, h⟩ | ⟨h1, h⟩
                  · have h1 := blt_t h1
                    cases h
                    have : n = 268 := by omega
                    subst this
                    exact fok268
                  · have h1 := blt_f h1
                    cases h
                    have : n = 269 := by omega
                    subst this
                    exact fok269
              · have h1 := blt_f h1
                rcases cond_some h with ⟨h1, h⟩ | ⟨h1, h⟩
                · have h1 := blt_t h1
                  rcases cond_some h with ⟨h1, h⟩ | ⟨h1, h⟩
                  · have h1 := blt_t h1
                    cases h
                    have : n = 270 := by omega
                    subst this
                    exact fok270
                  · have h1 := blt_f h1
                    cases h
                    have : n = 271 := by omega
                    subst this
                    exact fok271
                · have h1 := blt_f h1
                  cases h
          · have h1 := blt_f h1
            rcases cond_some h with ⟨h1, h⟩ | ⟨h1, h⟩
            · have h1 := blt_t h1
              rcases cond_some h with ⟨h1, h⟩ | ⟨h1, h⟩
              · have h1 := blt_t h1
                rcases cond_some h with ⟨h1, h⟩ | ⟨h1, h⟩
                · have h1 := blt_t h1
                  cases h
                · have h1 := blt_f h1
                  rcases cond_some h with ⟨h1, h⟩ | ⟨h1, h⟩
                  · have h1 := blt_t h1
                    cases h
                  · have h1 := blt_f h1
                    cases h
                    have : n = 278 := by omega
                    subst this
                    exact fok278
              · have h1 := blt_f h1
                rcases cond_some h with ⟨h1, h⟩ | ⟨h1, h⟩
                · have h1 := blt_t h1
                  rcases cond_some h with ⟨h1, h⟩ | ⟨h1, h⟩
                  · have h1 := blt_t h1
                    cases h
                    have : n = 279 := by omega
                    subst this
                    exact fok279
                  · have h1 := blt_f h1
                    cases h
                    have : n = 280 := by omega
                    subst this
                    exact fok280
                · have h1 := blt_f h1
                  rcases cond_some h with ⟨h1, h⟩ | ⟨h1, h⟩
                  · have h1 := blt_t h1
                    cases h
                  · have h1 := blt_f h1
                    rcases cond_some h with ⟨h1, h⟩ | ⟨h1, h⟩
                    · have h1 := blt_t h1
                      cases h
                      have : n = 282 := by omega
                      subst this
                      exact fok282
                    · have h1 := blt_f h1
                      cases h
                      have : n = 283 := by omega
                      subst this
                      exact fok283
            · have h1 := blt_f h1
              rcases cond_some h with ⟨h1, h⟩ | ⟨h1, h⟩
              · have h1 := blt_t h1
                rcases cond_some h with ⟨h1, h⟩ | ⟨h1, h⟩
                · have h1 := blt_t h1
                  rcases cond_some h with ⟨h1, h⟩ | ⟨h1, h⟩
                  · have h1 := blt_t h1
                    cases h
                    have : n = 284 := by omega
                    subst this
                    exact fok284
                  · have h1 := blt_f h1
                    cases h
                    have : n = 285 := by omega
                    subst this
                    exact fok285
                · have h1 := blt_f h1
                  cases h
              · have h1 := blt_f h1
                rcases cond_some h with ⟨h1, h⟩ | ⟨h1, h⟩
                · have h1 := blt_t h1
                  rcases cond_some h with ⟨h1, h⟩ | ⟨h1, h⟩
                  · have h1 := blt_t h1
                    cases h
                    have : n = 289 := by omega
                    subst this
                    exact fok289
                  · have h1 := blt_f h1
                    cases h
                    have : n = 290 := by omega
                    subst this
                    exact fok290
                · have h1 := blt_f h1
                  rcases cond_some h with ⟨h1, h⟩ | ⟨h1, h⟩
                  · have h1 := blt_t h1
                    cases h
                  · have h1 := blt_f h1
                    rcases cond_some h with ⟨h1, h⟩ | ⟨h1, h⟩
                    · have h1 := blt_t h1
                      cases h
                    · have h1 := blt_f h1
                      cases h
                      have : n = 293 := by omega
                      subst this
                      exact fok293
  · cases h
theorem prgOK (G : Prg) (h1 : G.ty = gty) (h2 : G.fn = gfn) (h3 : ∀ f p, G.ext f = some p → ExtOK Tryz.prog f p) : PrgOK G Tryz.prog := {
  ext := h3
  ty := tyOK_of (fun t => by rw [h1]; exact gty_ok t) (fun t ht e he => by
    have ht' : t < 392 := by
      simp only [hasT, Bool.and_eq_true, decide_eq_true_eq, Tryz.types_size] at ht
      exact ht.1
    have := List.all_eq_true.1 deps_ok t (List.mem_range.2 ht')
    simp only [ht, Bool.not_true, Bool.false_or] at this
    exact List.all_eq_true.1 this e he)
  fn f fd h := gfn_ok f fd (by rw [← h2]; exact h) }
theorem mixed : Tryz.prog.follows .mixedOrders = true := by kernel_rfl
end Go.Adm
