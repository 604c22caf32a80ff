/- MADE BY gen_ctx.py: the types and functions of a translation, as the evaluator wants them. -/
import Derived.Test.YtikcninaepoojaaProg
import Derived.Test.YtikcninaepoojaaWr
import Derived.Test.YtikcninaepoojaaEvE
import Derived.Test.YtikcninaepoojaaEvF
namespace Go.Proofs.Ytikcninaepoojaa.Ev
set_option maxRecDepth 100000
set_option maxHeartbeats 4000000
noncomputable def ti1 : TI := ⟨.func, 1, 8, [.nilFunc]⟩
theorem ti1_ok : tiOf Try.prog 1 = some ti1 := by kernel_rfl
noncomputable def ti2 : TI := ⟨.int .i64, 1, 8, [.int .i64 0]⟩
theorem ti2_ok : tiOf Try.prog 2 = some ti2 := by kernel_rfl
noncomputable def ti3 : TI := ⟨.int .i64, 1, 8, [.int .i64 0]⟩
theorem ti3_ok : tiOf Try.prog 3 = some ti3 := by kernel_rfl
noncomputable def ti4 : TI := ⟨.bool, 1, 1, [.bool false]⟩
theorem ti4_ok : tiOf Try.prog 4 = some ti4 := by kernel_rfl
noncomputable def ti5 : TI := ⟨.int .u8, 1, 1, [.int .u8 0]⟩
theorem ti5_ok : tiOf Try.prog 5 = some ti5 := by kernel_rfl
noncomputable def ti6 : TI := ⟨.int .u8, 1, 1, [.int .u8 0]⟩
theorem ti6_ok : tiOf Try.prog 6 = some ti6 := by kernel_rfl
noncomputable def ti7 : TI := ⟨.struct [(0, 2), (1, 3), (2, 4), (3, 6)], 4, 24, [.int .i64 0, .int .i64 0, .bool false, .int .u8 0]⟩
theorem ti7_ok : tiOf Try.prog 7 = some ti7 := by kernel_rfl
noncomputable def ti8 : TI := ⟨.struct [(0, 2), (1, 3), (2, 4), (3, 6)], 4, 24, [.int .i64 0, .int .i64 0, .bool false, .int .u8 0]⟩
theorem ti8_ok : tiOf Try.prog 8 = some ti8 := by kernel_rfl
noncomputable def ti9 : TI := ⟨.string, 1, 16, [.string ⟨#[]⟩]⟩
theorem ti9_ok : tiOf Try.prog 9 = some ti9 := by kernel_rfl
noncomputable def ti10 : TI := ⟨.string, 1, 16, [.string ⟨#[]⟩]⟩
theorem ti10_ok : tiOf Try.prog 10 = some ti10 := by kernel_rfl
noncomputable def ti11 : TI := ⟨.string, 1, 16, [.string ⟨#[]⟩]⟩
theorem ti11_ok : tiOf Try.prog 11 = some ti11 := by kernel_rfl
noncomputable def ti12 : TI := ⟨.int .u64, 1, 8, [.int .u64 0]⟩
theorem ti12_ok : tiOf Try.prog 12 = some ti12 := by kernel_rfl
noncomputable def ti13 : TI := ⟨.struct [(0, 9), (1, 12)], 2, 24, [.string ⟨#[]⟩, .int .u64 0]⟩
theorem ti13_ok : tiOf Try.prog 13 = some ti13 := by kernel_rfl
noncomputable def ti14 : TI := ⟨.struct [(0, 9), (1, 12)], 2, 24, [.string ⟨#[]⟩, .int .u64 0]⟩
theorem ti14_ok : tiOf Try.prog 14 = some ti14 := by kernel_rfl
noncomputable def ti15 : TI := ⟨.ptr 161, 1, 8, [.pointer none]⟩
theorem ti15_ok : tiOf Try.prog 15 = some ti15 := by kernel_rfl
noncomputable def ti16 : TI := ⟨.ptr 164, 1, 8, [.pointer none]⟩
theorem ti16_ok : tiOf Try.prog 16 = some ti16 := by kernel_rfl
noncomputable def ti17 : TI := ⟨.ptr 173, 1, 8, [.pointer none]⟩
theorem ti17_ok : tiOf Try.prog 17 = some ti17 := by kernel_rfl
noncomputable def ti18 : TI := ⟨.struct [(0, 17)], 1, 8, [.pointer none]⟩
theorem ti18_ok : tiOf Try.prog 18 = some ti18 := by kernel_rfl
noncomputable def ti19 : TI := ⟨.struct [(0, 17)], 1, 8, [.pointer none]⟩
theorem ti19_ok : tiOf Try.prog 19 = some ti19 := by kernel_rfl
noncomputable def ti21 : TI := ⟨.int .i32, 1, 4, [.int .i32 0]⟩
theorem ti21_ok : tiOf Try.prog 21 = some ti21 := by kernel_rfl
noncomputable def ti22 : TI := ⟨.slice 33, 1, 24, [.slice none 0 0]⟩
theorem ti22_ok : tiOf Try.prog 22 = some ti22 := by kernel_rfl
noncomputable def ti23 : TI := ⟨.slice 39, 1, 24, [.slice none 0 0]⟩
theorem ti23_ok : tiOf Try.prog 23 = some ti23 := by kernel_rfl
noncomputable def ti24 : TI := ⟨.func, 1, 8, [.nilFunc]⟩
theorem ti24_ok : tiOf Try.prog 24 = some ti24 := by kernel_rfl
noncomputable def ti25 : TI := ⟨.func, 1, 8, [.nilFunc]⟩
theorem ti25_ok : tiOf Try.prog 25 = some ti25 := by kernel_rfl
noncomputable def ti26 : TI := ⟨.func, 1, 8, [.nilFunc]⟩
theorem ti26_ok : tiOf Try.prog 26 = some ti26 := by kernel_rfl
noncomputable def ti27 : TI := ⟨.ptr 90, 1, 8, [.pointer none]⟩
theorem ti27_ok : tiOf Try.prog 27 = some ti27 := by kernel_rfl
noncomputable def ti29 : TI := ⟨.func, 1, 8, [.nilFunc]⟩
theorem ti29_ok : tiOf Try.prog 29 = some ti29 := by kernel_rfl
noncomputable def ti30 : TI := ⟨.slice 9, 1, 24, [.slice none 0 0]⟩
theorem ti30_ok : tiOf Try.prog 30 = some ti30 := by kernel_rfl
noncomputable def ti31 : TI := ⟨.slice 88, 1, 24, [.slice none 0 0]⟩
theorem ti31_ok : tiOf Try.prog 31 = some ti31 := by kernel_rfl
noncomputable def ti32 : TI := ⟨.struct [(0, 3), (1, 9), (2, 9), (3, 30), (4, 31)], 5, 88, [.int .i64 0, .string ⟨#[]⟩, .string ⟨#[]⟩, .slice none 0 0, .slice none 0 0]⟩
theorem ti32_ok : tiOf Try.prog 32 = some ti32 := by kernel_rfl
noncomputable def ti33 : TI := ⟨.struct [(0, 3), (1, 9), (2, 9), (3, 30), (4, 31)], 5, 88, [.int .i64 0, .string ⟨#[]⟩, .string ⟨#[]⟩, .slice none 0 0, .slice none 0 0]⟩
theorem ti33_ok : tiOf Try.prog 33 = some ti33 := by kernel_rfl
noncomputable def ti34 : TI := ⟨.func, 1, 8, [.nilFunc]⟩
theorem ti34_ok : tiOf Try.prog 34 = some ti34 := by kernel_rfl
noncomputable def ti35 : TI := ⟨.func, 1, 8, [.nilFunc]⟩
theorem ti35_ok : tiOf Try.prog 35 = some ti35 := by kernel_rfl
noncomputable def ti36 : TI := ⟨.func, 1, 8, [.nilFunc]⟩
theorem ti36_ok : tiOf Try.prog 36 = some ti36 := by kernel_rfl
noncomputable def ti37 : TI := ⟨.slice 59, 1, 24, [.slice none 0 0]⟩
theorem ti37_ok : tiOf Try.prog 37 = some ti37 := by kernel_rfl
noncomputable def ti38 : TI := ⟨.struct [(0, 37)], 1, 24, [.slice none 0 0]⟩
theorem ti38_ok : tiOf Try.prog 38 = some ti38 := by kernel_rfl
noncomputable def ti39 : TI := ⟨.struct [(0, 37)], 1, 24, [.slice none 0 0]⟩
theorem ti39_ok : tiOf Try.prog 39 = some ti39 := by kernel_rfl
noncomputable def ti40 : TI := ⟨.func, 1, 8, [.nilFunc]⟩
theorem ti40_ok : tiOf Try.prog 40 = some ti40 := by kernel_rfl
noncomputable def ti41 : TI := ⟨.func, 1, 8, [.nilFunc]⟩
theorem ti41_ok : tiOf Try.prog 41 = some ti41 := by kernel_rfl
noncomputable def ti42 : TI := ⟨.slice 97, 1, 24, [.slice none 0 0]⟩
theorem ti42_ok : tiOf Try.prog 42 = some ti42 := by kernel_rfl
noncomputable def ti43 : TI := ⟨.func, 1, 8, [.nilFunc]⟩
theorem ti43_ok : tiOf Try.prog 43 = some ti43 := by kernel_rfl
noncomputable def ti44 : TI := ⟨.func, 1, 8, [.nilFunc]⟩
theorem ti44_ok : tiOf Try.prog 44 = some ti44 := by kernel_rfl
noncomputable def ti45 : TI := ⟨.func, 1, 8, [.nilFunc]⟩
theorem ti45_ok : tiOf Try.prog 45 = some ti45 := by kernel_rfl
noncomputable def ti46 : TI := ⟨.func, 1, 8, [.nilFunc]⟩
theorem ti46_ok : tiOf Try.prog 46 = some ti46 := by kernel_rfl
noncomputable def ti47 : TI := ⟨.slice 101, 1, 24, [.slice none 0 0]⟩
theorem ti47_ok : tiOf Try.prog 47 = some ti47 := by kernel_rfl
noncomputable def ti48 : TI := ⟨.func, 1, 8, [.nilFunc]⟩
theorem ti48_ok : tiOf Try.prog 48 = some ti48 := by kernel_rfl
noncomputable def ti49 : TI := ⟨.func, 1, 8, [.nilFunc]⟩
theorem ti49_ok : tiOf Try.prog 49 = some ti49 := by kernel_rfl
noncomputable def ti50 : TI := ⟨.func, 1, 8, [.nilFunc]⟩
theorem ti50_ok : tiOf Try.prog 50 = some ti50 := by kernel_rfl
noncomputable def ti51 : TI := ⟨.func, 1, 8, [.nilFunc]⟩
theorem ti51_ok : tiOf Try.prog 51 = some ti51 := by kernel_rfl
noncomputable def ti52 : TI := ⟨.func, 1, 8, [.nilFunc]⟩
theorem ti52_ok : tiOf Try.prog 52 = some ti52 := by kernel_rfl
noncomputable def ti53 : TI := ⟨.func, 1, 8, [.nilFunc]⟩
theorem ti53_ok : tiOf Try.prog 53 = some ti53 := by kernel_rfl
noncomputable def ti54 : TI := ⟨.slice 64, 1, 24, [.slice none 0 0]⟩
theorem ti54_ok : tiOf Try.prog 54 = some ti54 := by kernel_rfl
noncomputable def ti55 : TI := ⟨.slice 66, 1, 24, [.slice none 0 0]⟩
theorem ti55_ok : tiOf Try.prog 55 = some ti55 := by kernel_rfl
noncomputable def ti56 : TI := ⟨.struct [(0, 9), (1, 30), (2, 30), (3, 54), (4, 55)], 5, 112, [.string ⟨#[]⟩, .slice none 0 0, .slice none 0 0, .slice none 0 0, .slice none 0 0]⟩
theorem ti56_ok : tiOf Try.prog 56 = some ti56 := by kernel_rfl
noncomputable def ti57 : TI := ⟨.struct [(0, 9), (1, 30), (2, 30), (3, 54), (4, 55)], 5, 112, [.string ⟨#[]⟩, .slice none 0 0, .slice none 0 0, .slice none 0 0, .slice none 0 0]⟩
theorem ti57_ok : tiOf Try.prog 57 = some ti57 := by kernel_rfl
noncomputable def ti58 : TI := ⟨.struct [(0, 3), (1, 57)], 6, 120, [.int .i64 0, .string ⟨#[]⟩, .slice none 0 0, .slice none 0 0, .slice none 0 0, .slice none 0 0]⟩
theorem ti58_ok : tiOf Try.prog 58 = some ti58 := by kernel_rfl
noncomputable def ti59 : TI := ⟨.struct [(0, 3), (1, 57)], 6, 120, [.int .i64 0, .string ⟨#[]⟩, .slice none 0 0, .slice none 0 0, .slice none 0 0, .slice none 0 0]⟩
theorem ti59_ok : tiOf Try.prog 59 = some ti59 := by kernel_rfl
noncomputable def ti60 : TI := ⟨.func, 1, 8, [.nilFunc]⟩
theorem ti60_ok : tiOf Try.prog 60 = some ti60 := by kernel_rfl
noncomputable def ti61 : TI := ⟨.int .u64, 1, 8, [.int .u64 0]⟩
theorem ti61_ok : tiOf Try.prog 61 = some ti61 := by kernel_rfl
noncomputable def ti62 : TI := ⟨.func, 1, 8, [.nilFunc]⟩
theorem ti62_ok : tiOf Try.prog 62 = some ti62 := by kernel_rfl
noncomputable def ti63 : TI := ⟨.struct [(0, 9), (1, 3), (2, 9)], 3, 40, [.string ⟨#[]⟩, .int .i64 0, .string ⟨#[]⟩]⟩
theorem ti63_ok : tiOf Try.prog 63 = some ti63 := by kernel_rfl
noncomputable def ti64 : TI := ⟨.struct [(0, 9), (1, 3), (2, 9)], 3, 40, [.string ⟨#[]⟩, .int .i64 0, .string ⟨#[]⟩]⟩
theorem ti64_ok : tiOf Try.prog 64 = some ti64 := by kernel_rfl
noncomputable def ti65 : TI := ⟨.struct [(0, 3), (1, 3), (2, 3), (3, 23)], 4, 48, [.int .i64 0, .int .i64 0, .int .i64 0, .slice none 0 0]⟩
theorem ti65_ok : tiOf Try.prog 65 = some ti65 := by kernel_rfl
noncomputable def ti66 : TI := ⟨.struct [(0, 3), (1, 3), (2, 3), (3, 23)], 4, 48, [.int .i64 0, .int .i64 0, .int .i64 0, .slice none 0 0]⟩
theorem ti66_ok : tiOf Try.prog 66 = some ti66 := by kernel_rfl
noncomputable def ti67 : TI := ⟨.slice 57, 1, 24, [.slice none 0 0]⟩
theorem ti67_ok : tiOf Try.prog 67 = some ti67 := by kernel_rfl
noncomputable def ti68 : TI := ⟨.slice 3, 1, 24, [.slice none 0 0]⟩
theorem ti68_ok : tiOf Try.prog 68 = some ti68 := by kernel_rfl
noncomputable def ti69 : TI := ⟨.func, 1, 8, [.nilFunc]⟩
theorem ti69_ok : tiOf Try.prog 69 = some ti69 := by kernel_rfl
noncomputable def ti70 : TI := ⟨.func, 1, 8, [.nilFunc]⟩
theorem ti70_ok : tiOf Try.prog 70 = some ti70 := by kernel_rfl
noncomputable def ti71 : TI := ⟨.func, 1, 8, [.nilFunc]⟩
theorem ti71_ok : tiOf Try.prog 71 = some ti71 := by kernel_rfl
noncomputable def ti72 : TI := ⟨.array 8 3, 8, 64, [.int .i64 0, .int .i64 0, .int .i64 0, .int .i64 0, .int .i64 0, .int .i64 0, .int .i64 0, .int .i64 0]⟩
theorem ti72_ok : tiOf Try.prog 72 = some ti72 := by kernel_rfl
noncomputable def ti73 : TI := ⟨.array 8 3, 8, 64, [.int .i64 0, .int .i64 0, .int .i64 0, .int .i64 0, .int .i64 0, .int .i64 0, .int .i64 0, .int .i64 0]⟩
theorem ti73_ok : tiOf Try.prog 73 = some ti73 := by kernel_rfl
noncomputable def ti74 : TI := ⟨.struct [(0, 3), (1, 3)], 2, 16, [.int .i64 0, .int .i64 0]⟩
theorem ti74_ok : tiOf Try.prog 74 = some ti74 := by kernel_rfl
noncomputable def ti75 : TI := ⟨.struct [(0, 3), (1, 3)], 2, 16, [.int .i64 0, .int .i64 0]⟩
theorem ti75_ok : tiOf Try.prog 75 = some ti75 := by kernel_rfl
noncomputable def ti76 : TI := ⟨.array 8 75, 16, 128, [.int .i64 0, .int .i64 0, .int .i64 0, .int .i64 0, .int .i64 0, .int .i64 0, .int .i64 0, .int .i64 0, .int .i64 0, .int .i64 0, .int .i64 0, .int .i64 0, .int .i64 0, .int .i64 0, .int .i64 0, .int .i64 0]⟩
theorem ti76_ok : tiOf Try.prog 76 = some ti76 := by kernel_rfl
noncomputable def ti77 : TI := ⟨.ptr 73, 1, 8, [.pointer none]⟩
theorem ti77_ok : tiOf Try.prog 77 = some ti77 := by kernel_rfl
noncomputable def ti78 : TI := ⟨.func, 1, 8, [.nilFunc]⟩
theorem ti78_ok : tiOf Try.prog 78 = some ti78 := by kernel_rfl
noncomputable def ti79 : TI := ⟨.func, 1, 8, [.nilFunc]⟩
theorem ti79_ok : tiOf Try.prog 79 = some ti79 := by kernel_rfl
noncomputable def ti80 : TI := ⟨.func, 1, 8, [.nilFunc]⟩
theorem ti80_ok : tiOf Try.prog 80 = some ti80 := by kernel_rfl
noncomputable def ti81 : TI := ⟨.func, 1, 8, [.nilFunc]⟩
theorem ti81_ok : tiOf Try.prog 81 = some ti81 := by kernel_rfl
noncomputable def ti82 : TI := ⟨.func, 1, 8, [.nilFunc]⟩
theorem ti82_ok : tiOf Try.prog 82 = some ti82 := by kernel_rfl
noncomputable def ti83 : TI := ⟨.slice 68, 1, 24, [.slice none 0 0]⟩
theorem ti83_ok : tiOf Try.prog 83 = some ti83 := by kernel_rfl
noncomputable def ti84 : TI := ⟨.func, 1, 8, [.nilFunc]⟩
theorem ti84_ok : tiOf Try.prog 84 = some ti84 := by kernel_rfl
noncomputable def ti85 : TI := ⟨.func, 1, 8, [.nilFunc]⟩
theorem ti85_ok : tiOf Try.prog 85 = some ti85 := by kernel_rfl
noncomputable def ti86 : TI := ⟨.func, 1, 8, [.nilFunc]⟩
theorem ti86_ok : tiOf Try.prog 86 = some ti86 := by kernel_rfl
noncomputable def ti87 : TI := ⟨.struct [(0, 9), (1, 9)], 2, 32, [.string ⟨#[]⟩, .string ⟨#[]⟩]⟩
theorem ti87_ok : tiOf Try.prog 87 = some ti87 := by kernel_rfl
noncomputable def ti88 : TI := ⟨.struct [(0, 9), (1, 9)], 2, 32, [.string ⟨#[]⟩, .string ⟨#[]⟩]⟩
theorem ti88_ok : tiOf Try.prog 88 = some ti88 := by kernel_rfl
noncomputable def ti89 : TI := ⟨.struct [(0, 22), (1, 68)], 2, 48, [.slice none 0 0, .slice none 0 0]⟩
theorem ti89_ok : tiOf Try.prog 89 = some ti89 := by kernel_rfl
noncomputable def ti90 : TI := ⟨.struct [(0, 22), (1, 68)], 2, 48, [.slice none 0 0, .slice none 0 0]⟩
theorem ti90_ok : tiOf Try.prog 90 = some ti90 := by kernel_rfl
noncomputable def ti91 : TI := ⟨.func, 1, 8, [.nilFunc]⟩
theorem ti91_ok : tiOf Try.prog 91 = some ti91 := by kernel_rfl
noncomputable def ti92 : TI := ⟨.func, 1, 8, [.nilFunc]⟩
theorem ti92_ok : tiOf Try.prog 92 = some ti92 := by kernel_rfl
noncomputable def ti93 : TI := ⟨.func, 1, 8, [.nilFunc]⟩
theorem ti93_ok : tiOf Try.prog 93 = some ti93 := by kernel_rfl
noncomputable def ti94 : TI := ⟨.func, 1, 8, [.nilFunc]⟩
theorem ti94_ok : tiOf Try.prog 94 = some ti94 := by kernel_rfl
noncomputable def ti95 : TI := ⟨.slice 175, 1, 24, [.slice none 0 0]⟩
theorem ti95_ok : tiOf Try.prog 95 = some ti95 := by kernel_rfl
noncomputable def ti96 : TI := ⟨.struct [(0, 23), (1, 95)], 2, 48, [.slice none 0 0, .slice none 0 0]⟩
theorem ti96_ok : tiOf Try.prog 96 = some ti96 := by kernel_rfl
noncomputable def ti97 : TI := ⟨.struct [(0, 23), (1, 95)], 2, 48, [.slice none 0 0, .slice none 0 0]⟩
theorem ti97_ok : tiOf Try.prog 97 = some ti97 := by kernel_rfl
noncomputable def ti98 : TI := ⟨.func, 1, 8, [.nilFunc]⟩
theorem ti98_ok : tiOf Try.prog 98 = some ti98 := by kernel_rfl
noncomputable def ti99 : TI := ⟨.func, 1, 8, [.nilFunc]⟩
theorem ti99_ok : tiOf Try.prog 99 = some ti99 := by kernel_rfl
noncomputable def ti100 : TI := ⟨.struct [(0, 3), (1, 3)], 2, 16, [.int .i64 0, .int .i64 0]⟩
theorem ti100_ok : tiOf Try.prog 100 = some ti100 := by kernel_rfl
noncomputable def ti101 : TI := ⟨.struct [(0, 3), (1, 3)], 2, 16, [.int .i64 0, .int .i64 0]⟩
theorem ti101_ok : tiOf Try.prog 101 = some ti101 := by kernel_rfl
noncomputable def ti102 : TI := ⟨.array 64 4, 64, 64, [.bool false, .bool false, .bool false, .bool false, .bool false, .bool false, .bool false, .bool false, .bool false, .bool false, .bool false, .bool false, .bool false, .bool false, .bool false, .bool false, .bool false, .bool false, .bool false, .bool false, .bool false, .bool false, .bool false, .bool false, .bool false, .bool false, .bool false, .bool false, .bool false, .bool false, .bool false, .bool false, .bool false, .bool false, .bool false, .bool false, .bool false, .bool false, .bool false, .bool false, .bool false, .bool false, .bool false, .bool false, .bool false, .bool false, .bool false, .bool false, .bool false, .bool false, .bool false, .bool false, .bool false, .bool false, .bool false, .bool false, .bool false, .bool false, .bool false, .bool false, .bool false, .bool false, .bool false, .bool false]⟩
theorem ti102_ok : tiOf Try.prog 102 = some ti102 := by kernel_rfl
noncomputable def ti103 : TI := ⟨.func, 1, 8, [.nilFunc]⟩
theorem ti103_ok : tiOf Try.prog 103 = some ti103 := by kernel_rfl
noncomputable def ti104 : TI := ⟨.func, 1, 8, [.nilFunc]⟩
theorem ti104_ok : tiOf Try.prog 104 = some ti104 := by kernel_rfl
noncomputable def ti105 : TI := ⟨.func, 1, 8, [.nilFunc]⟩
theorem ti105_ok : tiOf Try.prog 105 = some ti105 := by kernel_rfl
noncomputable def ti106 : TI := ⟨.func, 1, 8, [.nilFunc]⟩
theorem ti106_ok : tiOf Try.prog 106 = some ti106 := by kernel_rfl
noncomputable def ti108 : TI := ⟨.func, 1, 8, [.nilFunc]⟩
theorem ti108_ok : tiOf Try.prog 108 = some ti108 := by kernel_rfl
noncomputable def ti109 : TI := ⟨.func, 1, 8, [.nilFunc]⟩
theorem ti109_ok : tiOf Try.prog 109 = some ti109 := by kernel_rfl
noncomputable def ti111 : TI := ⟨.func, 1, 8, [.nilFunc]⟩
theorem ti111_ok : tiOf Try.prog 111 = some ti111 := by kernel_rfl
noncomputable def ti112 : TI := ⟨.slice 134, 1, 24, [.slice none 0 0]⟩
theorem ti112_ok : tiOf Try.prog 112 = some ti112 := by kernel_rfl
noncomputable def ti113 : TI := ⟨.func, 1, 8, [.nilFunc]⟩
theorem ti113_ok : tiOf Try.prog 113 = some ti113 := by kernel_rfl
noncomputable def ti114 : TI := ⟨.func, 1, 8, [.nilFunc]⟩
theorem ti114_ok : tiOf Try.prog 114 = some ti114 := by kernel_rfl
noncomputable def ti115 : TI := ⟨.slice 5, 1, 24, [.slice none 0 0]⟩
theorem ti115_ok : tiOf Try.prog 115 = some ti115 := by kernel_rfl
noncomputable def ti116 : TI := ⟨.func, 1, 8, [.nilFunc]⟩
theorem ti116_ok : tiOf Try.prog 116 = some ti116 := by kernel_rfl
noncomputable def ti117 : TI := ⟨.func, 1, 8, [.nilFunc]⟩
theorem ti117_ok : tiOf Try.prog 117 = some ti117 := by kernel_rfl
noncomputable def ti118 : TI := ⟨.func, 1, 8, [.nilFunc]⟩
theorem ti118_ok : tiOf Try.prog 118 = some ti118 := by kernel_rfl
noncomputable def ti119 : TI := ⟨.array 3 3, 3, 24, [.int .i64 0, .int .i64 0, .int .i64 0]⟩
theorem ti119_ok : tiOf Try.prog 119 = some ti119 := by kernel_rfl
noncomputable def ti120 : TI := ⟨.array 3 3, 3, 24, [.int .i64 0, .int .i64 0, .int .i64 0]⟩
theorem ti120_ok : tiOf Try.prog 120 = some ti120 := by kernel_rfl
noncomputable def ti121 : TI := ⟨.func, 1, 8, [.nilFunc]⟩
theorem ti121_ok : tiOf Try.prog 121 = some ti121 := by kernel_rfl
noncomputable def ti122 : TI := ⟨.func, 1, 8, [.nilFunc]⟩
theorem ti122_ok : tiOf Try.prog 122 = some ti122 := by kernel_rfl
noncomputable def ti123 : TI := ⟨.func, 1, 8, [.nilFunc]⟩
theorem ti123_ok : tiOf Try.prog 123 = some ti123 := by kernel_rfl
noncomputable def ti124 : TI := ⟨.func, 1, 8, [.nilFunc]⟩
theorem ti124_ok : tiOf Try.prog 124 = some ti124 := by kernel_rfl
noncomputable def ti125 : TI := ⟨.func, 1, 8, [.nilFunc]⟩
theorem ti125_ok : tiOf Try.prog 125 = some ti125 := by kernel_rfl
noncomputable def ti126 : TI := ⟨.ptr 128, 1, 8, [.pointer none]⟩
theorem ti126_ok : tiOf Try.prog 126 = some ti126 := by kernel_rfl
noncomputable def ti127 : TI := ⟨.struct [(0, 112), (1, 3), (2, 4), (3, 3)], 4, 48, [.slice none 0 0, .int .i64 0, .bool false, .int .i64 0]⟩
theorem ti127_ok : tiOf Try.prog 127 = some ti127 := by kernel_rfl
noncomputable def ti128 : TI := ⟨.struct [(0, 112), (1, 3), (2, 4), (3, 3)], 4, 48, [.slice none 0 0, .int .i64 0, .bool false, .int .i64 0]⟩
theorem ti128_ok : tiOf Try.prog 128 = some ti128 := by kernel_rfl
noncomputable def ti129 : TI := ⟨.func, 1, 8, [.nilFunc]⟩
theorem ti129_ok : tiOf Try.prog 129 = some ti129 := by kernel_rfl
noncomputable def ti130 : TI := ⟨.ptr 132, 1, 8, [.pointer none]⟩
theorem ti130_ok : tiOf Try.prog 130 = some ti130 := by kernel_rfl
noncomputable def ti131 : TI := ⟨.struct [(0, 68), (1, 3)], 2, 32, [.slice none 0 0, .int .i64 0]⟩
theorem ti131_ok : tiOf Try.prog 131 = some ti131 := by kernel_rfl
noncomputable def ti132 : TI := ⟨.struct [(0, 68), (1, 3)], 2, 32, [.slice none 0 0, .int .i64 0]⟩
theorem ti132_ok : tiOf Try.prog 132 = some ti132 := by kernel_rfl
noncomputable def ti133 : TI := ⟨.struct [(0, 3), (1, 9), (2, 3), (3, 4), (4, 3)], 5, 48, [.int .i64 0, .string ⟨#[]⟩, .int .i64 0, .bool false, .int .i64 0]⟩
theorem ti133_ok : tiOf Try.prog 133 = some ti133 := by kernel_rfl
noncomputable def ti134 : TI := ⟨.struct [(0, 3), (1, 9), (2, 3), (3, 4), (4, 3)], 5, 48, [.int .i64 0, .string ⟨#[]⟩, .int .i64 0, .bool false, .int .i64 0]⟩
theorem ti134_ok : tiOf Try.prog 134 = some ti134 := by kernel_rfl
noncomputable def ti135 : TI := ⟨.func, 1, 8, [.nilFunc]⟩
theorem ti135_ok : tiOf Try.prog 135 = some ti135 := by kernel_rfl
noncomputable def ti136 : TI := ⟨.func, 1, 8, [.nilFunc]⟩
theorem ti136_ok : tiOf Try.prog 136 = some ti136 := by kernel_rfl
noncomputable def ti137 : TI := ⟨.func, 1, 8, [.nilFunc]⟩
theorem ti137_ok : tiOf Try.prog 137 = some ti137 := by kernel_rfl
noncomputable def ti138 : TI := ⟨.ptr 120, 1, 8, [.pointer none]⟩
theorem ti138_ok : tiOf Try.prog 138 = some ti138 := by kernel_rfl
noncomputable def ti139 : TI := ⟨.func, 1, 8, [.nilFunc]⟩
theorem ti139_ok : tiOf Try.prog 139 = some ti139 := by kernel_rfl
noncomputable def ti140 : TI := ⟨.func, 1, 8, [.nilFunc]⟩
theorem ti140_ok : tiOf Try.prog 140 = some ti140 := by kernel_rfl
noncomputable def ti141 : TI := ⟨.func, 1, 8, [.nilFunc]⟩
theorem ti141_ok : tiOf Try.prog 141 = some ti141 := by kernel_rfl
noncomputable def ti142 : TI := ⟨.func, 1, 8, [.nilFunc]⟩
theorem ti142_ok : tiOf Try.prog 142 = some ti142 := by kernel_rfl
noncomputable def ti143 : TI := ⟨.func, 1, 8, [.nilFunc]⟩
theorem ti143_ok : tiOf Try.prog 143 = some ti143 := by kernel_rfl
noncomputable def ti144 : TI := ⟨.func, 1, 8, [.nilFunc]⟩
theorem ti144_ok : tiOf Try.prog 144 = some ti144 := by kernel_rfl
noncomputable def ti146 : TI := ⟨.func, 1, 8, [.nilFunc]⟩
theorem ti146_ok : tiOf Try.prog 146 = some ti146 := by kernel_rfl
noncomputable def ti147 : TI := ⟨.func, 1, 8, [.nilFunc]⟩
theorem ti147_ok : tiOf Try.prog 147 = some ti147 := by kernel_rfl
noncomputable def ti148 : TI := ⟨.func, 1, 8, [.nilFunc]⟩
theorem ti148_ok : tiOf Try.prog 148 = some ti148 := by kernel_rfl
noncomputable def ti149 : TI := ⟨.func, 1, 8, [.nilFunc]⟩
theorem ti149_ok : tiOf Try.prog 149 = some ti149 := by kernel_rfl
noncomputable def ti150 : TI := ⟨.func, 1, 8, [.nilFunc]⟩
theorem ti150_ok : tiOf Try.prog 150 = some ti150 := by kernel_rfl
noncomputable def ti151 : TI := ⟨.func, 1, 8, [.nilFunc]⟩
theorem ti151_ok : tiOf Try.prog 151 = some ti151 := by kernel_rfl
noncomputable def ti152 : TI := ⟨.func, 1, 8, [.nilFunc]⟩
theorem ti152_ok : tiOf Try.prog 152 = some ti152 := by kernel_rfl
noncomputable def ti153 : TI := ⟨.func, 1, 8, [.nilFunc]⟩
theorem ti153_ok : tiOf Try.prog 153 = some ti153 := by kernel_rfl
noncomputable def ti154 : TI := ⟨.func, 1, 8, [.nilFunc]⟩
theorem ti154_ok : tiOf Try.prog 154 = some ti154 := by kernel_rfl
noncomputable def ti155 : TI := ⟨.func, 1, 8, [.nilFunc]⟩
theorem ti155_ok : tiOf Try.prog 155 = some ti155 := by kernel_rfl
noncomputable def ti156 : TI := ⟨.func, 1, 8, [.nilFunc]⟩
theorem ti156_ok : tiOf Try.prog 156 = some ti156 := by kernel_rfl
noncomputable def ti157 : TI := ⟨.func, 1, 8, [.nilFunc]⟩
theorem ti157_ok : tiOf Try.prog 157 = some ti157 := by kernel_rfl
noncomputable def ti158 : TI := ⟨.func, 1, 8, [.nilFunc]⟩
theorem ti158_ok : tiOf Try.prog 158 = some ti158 := by kernel_rfl
noncomputable def ti159 : TI := ⟨.int .u64, 1, 8, [.int .u64 0]⟩
theorem ti159_ok : tiOf Try.prog 159 = some ti159 := by kernel_rfl
noncomputable def ti160 : TI := ⟨.struct [(0, 17), (1, 17), (2, 17), (3, 9)], 4, 40, [.pointer none, .pointer none, .pointer none, .string ⟨#[]⟩]⟩
theorem ti160_ok : tiOf Try.prog 160 = some ti160 := by kernel_rfl
noncomputable def ti161 : TI := ⟨.struct [(0, 17), (1, 17), (2, 17), (3, 9)], 4, 40, [.pointer none, .pointer none, .pointer none, .string ⟨#[]⟩]⟩
theorem ti161_ok : tiOf Try.prog 161 = some ti161 := by kernel_rfl
noncomputable def ti162 : TI := ⟨.array 0 16, 0, 0, []⟩
theorem ti162_ok : tiOf Try.prog 162 = some ti162 := by kernel_rfl
noncomputable def ti163 : TI := ⟨.struct [(0, 162)], 0, 0, []⟩
theorem ti163_ok : tiOf Try.prog 163 = some ti163 := by kernel_rfl
noncomputable def ti164 : TI := ⟨.struct [(0, 162)], 0, 0, []⟩
theorem ti164_ok : tiOf Try.prog 164 = some ti164 := by kernel_rfl
noncomputable def ti165 : TI := ⟨.int .u32, 1, 4, [.int .u32 0]⟩
theorem ti165_ok : tiOf Try.prog 165 = some ti165 := by kernel_rfl
noncomputable def ti166 : TI := ⟨.int .u8, 1, 1, [.int .u8 0]⟩
theorem ti166_ok : tiOf Try.prog 166 = some ti166 := by kernel_rfl
noncomputable def ti167 : TI := ⟨.int .u8, 1, 1, [.int .u8 0]⟩
theorem ti167_ok : tiOf Try.prog 167 = some ti167 := by kernel_rfl
noncomputable def ti168 : TI := ⟨.func, 1, 8, [.nilFunc]⟩
theorem ti168_ok : tiOf Try.prog 168 = some ti168 := by kernel_rfl
noncomputable def ti169 : TI := ⟨.ptr 5, 1, 8, [.pointer none]⟩
theorem ti169_ok : tiOf Try.prog 169 = some ti169 := by kernel_rfl
noncomputable def ti170 : TI := ⟨.int .i32, 1, 4, [.int .i32 0]⟩
theorem ti170_ok : tiOf Try.prog 170 = some ti170 := by kernel_rfl
noncomputable def ti171 : TI := ⟨.int .i32, 1, 4, [.int .i32 0]⟩
theorem ti171_ok : tiOf Try.prog 171 = some ti171 := by kernel_rfl
noncomputable def ti172 : TI := ⟨.struct [(0, 12), (1, 12), (2, 165), (3, 166), (4, 5), (5, 5), (6, 167), (7, 168), (8, 169), (9, 170), (10, 171)], 11, 48, [.int .u64 0, .int .u64 0, .int .u32 0, .int .u8 0, .int .u8 0, .int .u8 0, .int .u8 0, .nilFunc, .pointer none, .int .i32 0, .int .i32 0]⟩
theorem ti172_ok : tiOf Try.prog 172 = some ti172 := by kernel_rfl
noncomputable def ti173 : TI := ⟨.struct [(0, 12), (1, 12), (2, 165), (3, 166), (4, 5), (5, 5), (6, 167), (7, 168), (8, 169), (9, 170), (10, 171)], 11, 48, [.int .u64 0, .int .u64 0, .int .u32 0, .int .u8 0, .int .u8 0, .int .u8 0, .int .u8 0, .nilFunc, .pointer none, .int .i32 0, .int .i32 0]⟩
theorem ti173_ok : tiOf Try.prog 173 = some ti173 := by kernel_rfl
noncomputable def ti174 : TI := ⟨.struct [(0, 3), (1, 75), (3, 4)], 4, 32, [.int .i64 0, .int .i64 0, .int .i64 0, .bool false]⟩
theorem ti174_ok : tiOf Try.prog 174 = some ti174 := by kernel_rfl
noncomputable def ti175 : TI := ⟨.struct [(0, 3), (1, 75), (3, 4)], 4, 32, [.int .i64 0, .int .i64 0, .int .i64 0, .bool false]⟩
theorem ti175_ok : tiOf Try.prog 175 = some ti175 := by kernel_rfl
noncomputable def tiT : Tr TI := .node none (.node (some ti1) (.node (some ti3) (.node (some ti7) (.node (some ti15) (.node (some ti31) (.node (some ti63) (.node (some ti127) (.leaf) (.leaf)) (.leaf)) (.node (some ti95) (.node (some ti159) (.leaf) (.leaf)) (.leaf))) (.node (some ti47) (.node (some ti79) (.node (some ti143) (.leaf) (.leaf)) (.leaf)) (.node (some ti111) (.node (some ti175) (.leaf) (.leaf)) (.leaf)))) (.node (some ti23) (.node (some ti39) (.node (some ti71) (.node (some ti135) (.leaf) (.leaf)) (.leaf)) (.node (some ti103) (.node (some ti167) (.leaf) (.leaf)) (.leaf))) (.node (some ti55) (.node (some ti87) (.node (some ti151) (.leaf) (.leaf)) (.leaf)) (.node (some ti119) (.leaf) (.leaf))))) (.node (some ti11) (.node (some ti19) (.node (some ti35) (.node (some ti67) (.node (some ti131) (.leaf) (.leaf)) (.leaf)) (.node (some ti99) (.node (some ti163) (.leaf) (.leaf)) (.leaf))) (.node (some ti51) (.node (some ti83) (.node (some ti147) (.leaf) (.leaf)) (.leaf)) (.node (some ti115) (.leaf) (.leaf)))) (.node (some ti27) (.node (some ti43) (.node (some ti75) (.node (some ti139) (.leaf) (.leaf)) (.leaf)) (.node none (.node (some ti171) (.leaf) (.leaf)) (.leaf))) (.node (some ti59) (.node (some ti91) (.node (some ti155) (.leaf) (.leaf)) (.leaf)) (.node (some ti123) (.leaf) (.leaf)))))) (.node (some ti5) (.node (some ti9) (.node (some ti17) (.node (some ti33) (.node (some ti65) (.node (some ti129) (.leaf) (.leaf)) (.leaf)) (.node (some ti97) (.node (some ti161) (.leaf) (.leaf)) (.leaf))) (.node (some ti49) (.node (some ti81) (.leaf) (.leaf)) (.node (some ti113) (.leaf) (.leaf)))) (.node (some ti25) (.node (some ti41) (.node (some ti73) (.node (some ti137) (.leaf) (.leaf)) (.leaf)) (.node (some ti105) (.node (some ti169) (.leaf) (.leaf)) (.leaf))) (.node (some ti57) (.node (some ti89) (.node (some ti153) (.leaf) (.leaf)) (.leaf)) (.node (some ti121) (.leaf) (.leaf))))) (.node (some ti13) (.node (some ti21) (.node (some ti37) (.node (some ti69) (.node (some ti133) (.leaf) (.leaf)) (.leaf)) (.node (some ti101) (.node (some ti165) (.leaf) (.leaf)) (.leaf))) (.node (some ti53) (.node (some ti85) (.node (some ti149) (.leaf) (.leaf)) (.leaf)) (.node (some ti117) (.leaf) (.leaf)))) (.node (some ti29) (.node (some ti45) (.node (some ti77) (.node (some ti141) (.leaf) (.leaf)) (.leaf)) (.node (some ti109) (.node (some ti173) (.leaf) (.leaf)) (.leaf))) (.node (some ti61) (.node (some ti93) (.node (some ti157) (.leaf) (.leaf)) (.leaf)) (.node (some ti125) (.leaf) (.leaf))))))) (.node (some ti2) (.node (some ti4) (.node (some ti8) (.node (some ti16) (.node (some ti32) (.node (some ti64) (.node (some ti128) (.leaf) (.leaf)) (.leaf)) (.node (some ti96) (.node (some ti160) (.leaf) (.leaf)) (.leaf))) (.node (some ti48) (.node (some ti80) (.node (some ti144) (.leaf) (.leaf)) (.leaf)) (.node (some ti112) (.leaf) (.leaf)))) (.node (some ti24) (.node (some ti40) (.node (some ti72) (.node (some ti136) (.leaf) (.leaf)) (.leaf)) (.node (some ti104) (.node (some ti168) (.leaf) (.leaf)) (.leaf))) (.node (some ti56) (.node (some ti88) (.node (some ti152) (.leaf) (.leaf)) (.leaf)) (.node (some ti120) (.leaf) (.leaf))))) (.node (some ti12) (.node none (.node (some ti36) (.node (some ti68) (.node (some ti132) (.leaf) (.leaf)) (.leaf)) (.node (some ti100) (.node (some ti164) (.leaf) (.leaf)) (.leaf))) (.node (some ti52) (.node (some ti84) (.node (some ti148) (.leaf) (.leaf)) (.leaf)) (.node (some ti116) (.leaf) (.leaf)))) (.node none (.node (some ti44) (.node (some ti76) (.node (some ti140) (.leaf) (.leaf)) (.leaf)) (.node (some ti108) (.node (some ti172) (.leaf) (.leaf)) (.leaf))) (.node (some ti60) (.node (some ti92) (.node (some ti156) (.leaf) (.leaf)) (.leaf)) (.node (some ti124) (.leaf) (.leaf)))))) (.node (some ti6) (.node (some ti10) (.node (some ti18) (.node (some ti34) (.node (some ti66) (.node (some ti130) (.leaf) (.leaf)) (.leaf)) (.node (some ti98) (.node (some ti162) (.leaf) (.leaf)) (.leaf))) (.node (some ti50) (.node (some ti82) (.node (some ti146) (.leaf) (.leaf)) (.leaf)) (.node (some ti114) (.leaf) (.leaf)))) (.node (some ti26) (.node (some ti42) (.node (some ti74) (.node (some ti138) (.leaf) (.leaf)) (.leaf)) (.node (some ti106) (.node (some ti170) (.leaf) (.leaf)) (.leaf))) (.node (some ti58) (.node (some ti90) (.node (some ti154) (.leaf) (.leaf)) (.leaf)) (.node (some ti122) (.leaf) (.leaf))))) (.node (some ti14) (.node (some ti22) (.node (some ti38) (.node (some ti70) (.node (some ti134) (.leaf) (.leaf)) (.leaf)) (.node (some ti102) (.node (some ti166) (.leaf) (.leaf)) (.leaf))) (.node (some ti54) (.node (some ti86) (.node (some ti150) (.leaf) (.leaf)) (.leaf)) (.node (some ti118) (.leaf) (.leaf)))) (.node (some ti30) (.node (some ti46) (.node (some ti78) (.node (some ti142) (.leaf) (.leaf)) (.leaf)) (.node none (.node (some ti174) (.leaf) (.leaf)) (.leaf))) (.node (some ti62) (.node (some ti94) (.node (some ti158) (.leaf) (.leaf)) (.leaf)) (.node (some ti126) (.leaf) (.leaf)))))))
theorem tiT_list : tiT.toL = [(1, ti1), (3, ti3), (7, ti7), (15, ti15), (31, ti31), (63, ti63), (127, ti127), (95, ti95), (159, ti159), (47, ti47), (79, ti79), (143, ti143), (111, ti111), (175, ti175), (23, ti23), (39, ti39), (71, ti71), (135, ti135), (103, ti103), (167, ti167), (55, ti55), (87, ti87), (151, ti151), (119, ti119), (11, ti11), (19, ti19), (35, ti35), (67, ti67), (131, ti131), (99, ti99), (163, ti163), (51, ti51), (83, ti83), (147, ti147), (115, ti115), (27, ti27), (43, ti43), (75, ti75), (139, ti139), (171, ti171), (59, ti59), (91, ti91), (155, ti155), (123, ti123), (5, ti5), (9, ti9), (17, ti17), (33, ti33), (65, ti65), (129, ti129), (97, ti97), (161, ti161), (49, ti49), (81, ti81), (113, ti113), (25, ti25), (41, ti41), (73, ti73), (137, ti137), (105, ti105), (169, ti169), (57, ti57), (89, ti89), (153, ti153), (121, ti121), (13, ti13), (21, ti21), (37, ti37), (69, ti69), (133, ti133), (101, ti101), (165, ti165), (53, ti53), (85, ti85), (149, ti149), (117, ti117), (29, ti29), (45, ti45), (77, ti77), (141, ti141), (109, ti109), (173, ti173), (61, ti61), (93, ti93), (157, ti157), (125, ti125), (2, ti2), (4, ti4), (8, ti8), (16, ti16), (32, ti32), (64, ti64), (128, ti128), (96, ti96), (160, ti160), (48, ti48), (80, ti80), (144, ti144), (112, ti112), (24, ti24), (40, ti40), (72, ti72), (136, ti136), (104, ti104), (168, ti168), (56, ti56), (88, ti88), (152, ti152), (120, ti120), (12, ti12), (36, ti36), (68, ti68), (132, ti132), (100, ti100), (164, ti164), (52, ti52), (84, ti84), (148, ti148), (116, ti116), (44, ti44), (76, ti76), (140, ti140), (108, ti108), (172, ti172), (60, ti60), (92, ti92), (156, ti156), (124, ti124), (6, ti6), (10, ti10), (18, ti18), (34, ti34), (66, ti66), (130, ti130), (98, ti98), (162, ti162), (50, ti50), (82, ti82), (146, ti146), (114, ti114), (26, ti26), (42, ti42), (74, ti74), (138, ti138), (106, ti106), (170, ti170), (58, ti58), (90, ti90), (154, ti154), (122, ti122), (14, ti14), (22, ti22), (38, ti38), (70, ti70), (134, ti134), (102, ti102), (166, ti166), (54, ti54), (86, ti86), (150, ti150), (118, ti118), (30, ti30), (46, ti46), (78, ti78), (142, ti142), (174, ti174), (62, ti62), (94, ti94), (158, ti158), (126, ti126)] := by kernel_rfl
theorem tiT_ok : ∀ t i, tiT.get t = some i → tiOf Try.prog t = some i := by
  refine Tr.all_get (p := fun t i => tiOf Try.prog t = some i) ?_
  rw [tiT_list]
  exact .cons ti1_ok (.cons ti3_ok (.cons ti7_ok (.cons ti15_ok (.cons ti31_ok (.cons ti63_ok (.cons ti127_ok (.cons ti95_ok (.cons ti159_ok (.cons ti47_ok (.cons ti79_ok (.cons ti143_ok (.cons ti111_ok (.cons ti175_ok (.cons ti23_ok (.cons ti39_ok (.cons ti71_ok (.cons ti135_ok (.cons ti103_ok (.cons ti167_ok (.cons ti55_ok (.cons ti87_ok (.cons ti151_ok (.cons ti119_ok (.cons ti11_ok (.cons ti19_ok (.cons ti35_ok (.cons ti67_ok (.cons ti131_ok (.cons ti99_ok (.cons ti163_ok (.cons ti51_ok (.cons ti83_ok (.cons ti147_ok (.cons ti115_ok (.cons ti27_ok (.cons ti43_ok (.cons ti75_ok (.cons ti139_ok (.cons ti171_ok (.cons ti59_ok (.cons ti91_ok (.cons ti155_ok (.cons ti123_ok (.cons ti5_ok (.cons ti9_ok (.cons ti17_ok (.cons ti33_ok (.cons ti65_ok (.cons ti129_ok (.cons ti97_ok (.cons ti161_ok (.cons ti49_ok (.cons ti81_ok (.cons ti113_ok (.cons ti25_ok (.cons ti41_ok (.cons ti73_ok (.cons ti137_ok (.cons ti105_ok (.cons ti169_ok (.cons ti57_ok (.cons ti89_ok (.cons ti153_ok (.cons ti121_ok (.cons ti13_ok (.cons ti21_ok (.cons ti37_ok (.cons ti69_ok (.cons ti133_ok (.cons ti101_ok (.cons ti165_ok (.cons ti53_ok (.cons ti85_ok (.cons ti149_ok (.cons ti117_ok (.cons ti29_ok (.cons ti45_ok (.cons ti77_ok (.cons ti141_ok (.cons ti109_ok (.cons ti173_ok (.cons ti61_ok (.cons ti93_ok (.cons ti157_ok (.cons ti125_ok (.cons ti2_ok (.cons ti4_ok (.cons ti8_ok (.cons ti16_ok (.cons ti32_ok (.cons ti64_ok (.cons ti128_ok (.cons ti96_ok (.cons ti160_ok (.cons ti48_ok (.cons ti80_ok (.cons ti144_ok (.cons ti112_ok (.cons ti24_ok (.cons ti40_ok (.cons ti72_ok (.cons ti136_ok (.cons ti104_ok (.cons ti168_ok (.cons ti56_ok (.cons ti88_ok (.cons ti152_ok (.cons ti120_ok (.cons ti12_ok (.cons ti36_ok (.cons ti68_ok (.cons ti132_ok (.cons ti100_ok (.cons ti164_ok (.cons ti52_ok (.cons ti84_ok (.cons ti148_ok (.cons ti116_ok (.cons ti44_ok (.cons ti76_ok (.cons ti140_ok (.cons ti108_ok (.cons ti172_ok (.cons ti60_ok (.cons ti92_ok (.cons ti156_ok (.cons ti124_ok (.cons ti6_ok (.cons ti10_ok (.cons ti18_ok (.cons ti34_ok (.cons ti66_ok (.cons ti130_ok (.cons ti98_ok (.cons ti162_ok (.cons ti50_ok (.cons ti82_ok (.cons ti146_ok (.cons ti114_ok (.cons ti26_ok (.cons ti42_ok (.cons ti74_ok (.cons ti138_ok (.cons ti106_ok (.cons ti170_ok (.cons ti58_ok (.cons ti90_ok (.cons ti154_ok (.cons ti122_ok (.cons ti14_ok (.cons ti22_ok (.cons ti38_ok (.cons ti70_ok (.cons ti134_ok (.cons ti102_ok (.cons ti166_ok (.cons ti54_ok (.cons ti86_ok (.cons ti150_ok (.cons ti118_ok (.cons ti30_ok (.cons ti46_ok (.cons ti78_ok (.cons ti142_ok (.cons ti174_ok (.cons ti62_ok (.cons ti94_ok (.cons ti158_ok (.cons ti126_ok (.nil))))))))))))))))))))))))))))))))))))))))))))))))))))))))))))))))))))))))))))))))))))))))))))))))))))))))))))))))))))))))))))))))))))))))))))))))))))))))))))))))))))))))))
noncomputable def fnT : Tr Func := .node none (.node none (.node (some Try.f3) (.node (some Try.f7) (.node (some Try.f15) (.node (some Try.f31) (.node (some Try.f63) (.node (some Try.f127) (.leaf) (.leaf)) (.leaf)) (.node (some Try.f95) (.leaf) (.leaf))) (.node (some Try.f47) (.node (some Try.f79) (.leaf) (.leaf)) (.node (some Try.f111) (.leaf) (.leaf)))) (.node (some Try.f23) (.node (some Try.f39) (.node (some Try.f71) (.leaf) (.leaf)) (.node (some Try.f103) (.leaf) (.leaf))) (.node (some Try.f55) (.node (some Try.f87) (.leaf) (.leaf)) (.node (some Try.f119) (.leaf) (.leaf))))) (.node (some Try.f11) (.node (some Try.f19) (.node (some Try.f35) (.node (some Try.f67) (.node (some Try.f131) (.leaf) (.leaf)) (.leaf)) (.node (some Try.f99) (.leaf) (.leaf))) (.node (some Try.f51) (.node (some Try.f83) (.leaf) (.leaf)) (.node (some Try.f115) (.leaf) (.leaf)))) (.node (some Try.f27) (.node (some Try.f43) (.node (some Try.f75) (.leaf) (.leaf)) (.node (some Try.f107) (.leaf) (.leaf))) (.node (some Try.f59) (.node (some Try.f91) (.leaf) (.leaf)) (.node (some Try.f123) (.leaf) (.leaf)))))) (.node (some Try.f5) (.node (some Try.f9) (.node (some Try.f17) (.node (some Try.f33) (.node (some Try.f65) (.node (some Try.f129) (.leaf) (.leaf)) (.leaf)) (.node (some Try.f97) (.leaf) (.leaf))) (.node (some Try.f49) (.node (some Try.f81) (.leaf) (.leaf)) (.node (some Try.f113) (.leaf) (.leaf)))) (.node (some Try.f25) (.node (some Try.f41) (.node (some Try.f73) (.leaf) (.leaf)) (.node (some Try.f105) (.leaf) (.leaf))) (.node (some Try.f57) (.node (some Try.f89) (.leaf) (.leaf)) (.node (some Try.f121) (.leaf) (.leaf))))) (.node (some Try.f13) (.node (some Try.f21) (.node (some Try.f37) (.node (some Try.f69) (.leaf) (.leaf)) (.node (some Try.f101) (.leaf) (.leaf))) (.node (some Try.f53) (.node (some Try.f85) (.leaf) (.leaf)) (.node (some Try.f117) (.leaf) (.leaf)))) (.node (some Try.f29) (.node (some Try.f45) (.node (some Try.f77) (.leaf) (.leaf)) (.node (some Try.f109) (.leaf) (.leaf))) (.node (some Try.f61) (.node (some Try.f93) (.leaf) (.leaf)) (.node (some Try.f125) (.leaf) (.leaf))))))) (.node none (.node (some Try.f4) (.node (some Try.f8) (.node (some Try.f16) (.node (some Try.f32) (.node (some Try.f64) (.node (some Try.f128) (.leaf) (.leaf)) (.leaf)) (.node (some Try.f96) (.leaf) (.leaf))) (.node (some Try.f48) (.node (some Try.f80) (.leaf) (.leaf)) (.node (some Try.f112) (.leaf) (.leaf)))) (.node (some Try.f24) (.node (some Try.f40) (.node (some Try.f72) (.leaf) (.leaf)) (.node (some Try.f104) (.leaf) (.leaf))) (.node (some Try.f56) (.node (some Try.f88) (.leaf) (.leaf)) (.node (some Try.f120) (.leaf) (.leaf))))) (.node (some Try.f12) (.node (some Try.f20) (.node (some Try.f36) (.node (some Try.f68) (.leaf) (.leaf)) (.node (some Try.f100) (.leaf) (.leaf))) (.node (some Try.f52) (.node (some Try.f84) (.leaf) (.leaf)) (.node (some Try.f116) (.leaf) (.leaf)))) (.node (some Try.f28) (.node (some Try.f44) (.node (some Try.f76) (.leaf) (.leaf)) (.node (some Try.f108) (.leaf) (.leaf))) (.node (some Try.f60) (.node (some Try.f92) (.leaf) (.leaf)) (.node (some Try.f124) (.leaf) (.leaf)))))) (.node (some Try.f6) (.node (some Try.f10) (.node (some Try.f18) (.node (some Try.f34) (.node (some Try.f66) (.node (some Try.f130) (.leaf) (.leaf)) (.leaf)) (.node (some Try.f98) (.leaf) (.leaf))) (.node (some Try.f50) (.node (some Try.f82) (.leaf) (.leaf)) (.node (some Try.f114) (.leaf) (.leaf)))) (.node (some Try.f26) (.node (some Try.f42) (.node (some Try.f74) (.leaf) (.leaf)) (.node (some Try.f106) (.leaf) (.leaf))) (.node (some Try.f58) (.node (some Try.f90) (.leaf) (.leaf)) (.node (some Try.f122) (.leaf) (.leaf))))) (.node (some Try.f14) (.node (some Try.f22) (.node (some Try.f38) (.node (some Try.f70) (.leaf) (.leaf)) (.node (some Try.f102) (.leaf) (.leaf))) (.node (some Try.f54) (.node (some Try.f86) (.leaf) (.leaf)) (.node (some Try.f118) (.leaf) (.leaf)))) (.node (some Try.f30) (.node (some Try.f46) (.node (some Try.f78) (.leaf) (.leaf)) (.node (some Try.f110) (.leaf) (.leaf))) (.node (some Try.f62) (.node (some Try.f94) (.leaf) (.leaf)) (.node (some Try.f126) (.leaf) (.leaf)))))))
theorem fnT_list : fnT.toL = [(3, Try.f3), (7, Try.f7), (15, Try.f15), (31, Try.f31), (63, Try.f63), (127, Try.f127), (95, Try.f95), (47, Try.f47), (79, Try.f79), (111, Try.f111), (23, Try.f23), (39, Try.f39), (71, Try.f71), (103, Try.f103), (55, Try.f55), (87, Try.f87), (119, Try.f119), (11, Try.f11), (19, Try.f19), (35, Try.f35), (67, Try.f67), (131, Try.f131), (99, Try.f99), (51, Try.f51), (83, Try.f83), (115, Try.f115), (27, Try.f27), (43, Try.f43), (75, Try.f75), (107, Try.f107), (59, Try.f59), (91, Try.f91), (123, Try.f123), (5, Try.f5), (9, Try.f9), (17, Try.f17), (33, Try.f33), (65, Try.f65), (129, Try.f129), (97, Try.f97), (49, Try.f49), (81, Try.f81), (113, Try.f113), (25, Try.f25), (41, Try.f41), (73, Try.f73), (105, Try.f105), (57, Try.f57), (89, Try.f89), (121, Try.f121), (13, Try.f13), (21, Try.f21), (37, Try.f37), (69, Try.f69), (101, Try.f101), (53, Try.f53), (85, Try.f85), (117, Try.f117), (29, Try.f29), (45, Try.f45), (77, Try.f77), (109, Try.f109), (61, Try.f61), (93, Try.f93), (125, Try.f125), (4, Try.f4), (8, Try.f8), (16, Try.f16), (32, Try.f32), (64, Try.f64), (128, Try.f128), (96, Try.f96), (48, Try.f48), (80, Try.f80), (112, Try.f112), (24, Try.f24), (40, Try.f40), (72, Try.f72), (104, Try.f104), (56, Try.f56), (88, Try.f88), (120, Try.f120), (12, Try.f12), (20, Try.f20), (36, Try.f36), (68, Try.f68), (100, Try.f100), (52, Try.f52), (84, Try.f84), (116, Try.f116), (28, Try.f28), (44, Try.f44), (76, Try.f76), (108, Try.f108), (60, Try.f60), (92, Try.f92), (124, Try.f124), (6, Try.f6), (10, Try.f10), (18, Try.f18), (34, Try.f34), (66, Try.f66), (130, Try.f130), (98, Try.f98), (50, Try.f50), (82, Try.f82), (114, Try.f114), (26, Try.f26), (42, Try.f42), (74, Try.f74), (106, Try.f106), (58, Try.f58), (90, Try.f90), (122, Try.f122), (14, Try.f14), (22, Try.f22), (38, Try.f38), (70, Try.f70), (102, Try.f102), (54, Try.f54), (86, Try.f86), (118, Try.f118), (30, Try.f30), (46, Try.f46), (78, Try.f78), (110, Try.f110), (62, Try.f62), (94, Try.f94), (126, Try.f126)] := by kernel_rfl
def fnP (k : Nat) (f : Func) : Prop := Try.prog.funcs[k]? = some f ∧ (f.name == "runtime.NumGoroutine") = false
theorem fnT_ok : ∀ k f, fnT.get k = some f → Try.prog.funcs[k]? = some f ∧ (f.name == "runtime.NumGoroutine") = false := by
  refine Tr.all_get (p := fnP) ?_
  rw [fnT_list]
  exact .cons ⟨Try.func3, by kernel_rfl⟩ (.cons ⟨Try.func7, by kernel_rfl⟩ (.cons ⟨Try.func15, by kernel_rfl⟩ (.cons ⟨Try.func31, by kernel_rfl⟩ (.cons ⟨Try.func63, by kernel_rfl⟩ (.cons ⟨Try.func127, by kernel_rfl⟩ (.cons ⟨Try.func95, by kernel_rfl⟩ (.cons ⟨Try.func47, by kernel_rfl⟩ (.cons ⟨Try.func79, by kernel_rfl⟩ (.cons ⟨Try.func111, by kernel_rfl⟩ (.cons ⟨Try.func23, by kernel_rfl⟩ (.cons ⟨Try.func39, by kernel_rfl⟩ (.cons ⟨Try.func71, by kernel_rfl⟩ (.cons ⟨Try.func103, by kernel_rfl⟩ (.cons ⟨Try.func55, by kernel_rfl⟩ (.cons ⟨Try.func87, by kernel_rfl⟩ (.cons ⟨Try.func119, by kernel_rfl⟩ (.cons ⟨Try.func11, by kernel_rfl⟩ (.cons ⟨Try.func19, by kernel_rfl⟩ (.cons ⟨Try.func35, by kernel_rfl⟩ (.cons ⟨Try.func67, by kernel_rfl⟩ (.cons ⟨Try.func131, by kernel_rfl⟩ (.cons ⟨Try.func99, by kernel_rfl⟩ (.cons ⟨Try.func51, by kernel_rfl⟩ (.cons ⟨Try.func83, by kernel_rfl⟩ (.cons ⟨Try.func115, by kernel_rfl⟩ (.cons ⟨Try.func27, by kernel_rfl⟩ (.cons ⟨Try.func43, by kernel_rfl⟩ (.cons ⟨Try.func75, by kernel_rfl⟩ (.cons ⟨Try.func107, by kernel_rfl⟩ (.cons ⟨Try.func59, by kernel_rfl⟩ (.cons ⟨Try.func91, by kernel_rfl⟩ (.cons ⟨Try.func123, by kernel_rfl⟩ (.cons ⟨Try.func5, by kernel_rfl⟩ (.cons ⟨Try.func9, by kernel_rfl⟩ (.cons ⟨Try.func17, by kernel_rfl⟩ (.cons ⟨Try.func33, by kernel_rfl⟩ (.cons ⟨Try.func65, by kernel_rfl⟩ (.cons ⟨Try.func129, by kernel_rfl⟩ (.cons ⟨Try.func97, by kernel_rfl⟩ (.cons ⟨Try.func49, by kernel_rfl⟩ (.cons ⟨Try.func81, by kernel_rfl⟩ (.cons ⟨Try.func113, by kernel_rfl⟩ (.cons ⟨Try.func25, by kernel_rfl⟩ (.cons ⟨Try.func41, by kernel_rfl⟩ (.cons ⟨Try.func73, by kernel_rfl⟩ (.cons ⟨Try.func105, by kernel_rfl⟩ (.cons ⟨Try.func57, by kernel_rfl⟩ (.cons ⟨Try.func89, by kernel_rfl⟩ (.cons ⟨Try.func121, by kernel_rfl⟩ (.cons ⟨Try.func13, by kernel_rfl⟩ (.cons ⟨Try.func21, by kernel_rfl⟩ (.cons ⟨Try.func37, by kernel_rfl⟩ (.cons ⟨Try.func69, by kernel_rfl⟩ (.cons ⟨Try.func101, by kernel_rfl⟩ (.cons ⟨Try.func53, by kernel_rfl⟩ (.cons ⟨Try.func85, by kernel_rfl⟩ (.cons ⟨Try.func117, by kernel_rfl⟩ (.cons ⟨Try.func29, by kernel_rfl⟩ (.cons ⟨Try.func45, by kernel_rfl⟩ (.cons ⟨Try.func77, by kernel_rfl⟩ (.cons ⟨Try.func109, by kernel_rfl⟩ (.cons ⟨Try.func61, by kernel_rfl⟩ (.cons ⟨Try.func93, by kernel_rfl⟩ (.cons ⟨Try.func125, by kernel_rfl⟩ (.cons ⟨Try.func4, by kernel_rfl⟩ (.cons ⟨Try.func8, by kernel_rfl⟩ (.cons ⟨Try.func16, by kernel_rfl⟩ (.cons ⟨Try.func32, by kernel_rfl⟩ (.cons ⟨Try.func64, by kernel_rfl⟩ (.cons ⟨Try.func128, by kernel_rfl⟩ (.cons ⟨Try.func96, by kernel_rfl⟩ (.cons ⟨Try.func48, by kernel_rfl⟩ (.cons ⟨Try.func80, by kernel_rfl⟩ (.cons ⟨Try.func112, by kernel_rfl⟩ (.cons ⟨Try.func24, by kernel_rfl⟩ (.cons ⟨Try.func40, by kernel_rfl⟩ (.cons ⟨Try.func72, by kernel_rfl⟩ (.cons ⟨Try.func104, by kernel_rfl⟩ (.cons ⟨Try.func56, by kernel_rfl⟩ (.cons ⟨Try.func88, by kernel_rfl⟩ (.cons ⟨Try.func120, by kernel_rfl⟩ (.cons ⟨Try.func12, by kernel_rfl⟩ (.cons ⟨Try.func20, by kernel_rfl⟩ (.cons ⟨Try.func36, by kernel_rfl⟩ (.cons ⟨Try.func68, by kernel_rfl⟩ (.cons ⟨Try.func100, by kernel_rfl⟩ (.cons ⟨Try.func52, by kernel_rfl⟩ (.cons ⟨Try.func84, by kernel_rfl⟩ (.cons ⟨Try.func116, by kernel_rfl⟩ (.cons ⟨Try.func28, by kernel_rfl⟩ (.cons ⟨Try.func44, by kernel_rfl⟩ (.cons ⟨Try.func76, by kernel_rfl⟩ (.cons ⟨Try.func108, by kernel_rfl⟩ (.cons ⟨Try.func60, by kernel_rfl⟩ (.cons ⟨Try.func92, by kernel_rfl⟩ (.cons ⟨Try.func124, by kernel_rfl⟩ (.cons ⟨Try.func6, by kernel_rfl⟩ (.cons ⟨Try.func10, by kernel_rfl⟩ (.cons ⟨Try.func18, by kernel_rfl⟩ (.cons ⟨Try.func34, by kernel_rfl⟩ (.cons ⟨Try.func66, by kernel_rfl⟩ (.cons ⟨Try.func130, by kernel_rfl⟩ (.cons ⟨Try.func98, by kernel_rfl⟩ (.cons ⟨Try.func50, by kernel_rfl⟩ (.cons ⟨Try.func82, by kernel_rfl⟩ (.cons ⟨Try.func114, by kernel_rfl⟩ (.cons ⟨Try.func26, by kernel_rfl⟩ (.cons ⟨Try.func42, by kernel_rfl⟩ (.cons ⟨Try.func74, by kernel_rfl⟩ (.cons ⟨Try.func106, by kernel_rfl⟩ (.cons ⟨Try.func58, by kernel_rfl⟩ (.cons ⟨Try.func90, by kernel_rfl⟩ (.cons ⟨Try.func122, by kernel_rfl⟩ (.cons ⟨Try.func14, by kernel_rfl⟩ (.cons ⟨Try.func22, by kernel_rfl⟩ (.cons ⟨Try.func38, by kernel_rfl⟩ (.cons ⟨Try.func70, by kernel_rfl⟩ (.cons ⟨Try.func102, by kernel_rfl⟩ (.cons ⟨Try.func54, by kernel_rfl⟩ (.cons ⟨Try.func86, by kernel_rfl⟩ (.cons ⟨Try.func118, by kernel_rfl⟩ (.cons ⟨Try.func30, by kernel_rfl⟩ (.cons ⟨Try.func46, by kernel_rfl⟩ (.cons ⟨Try.func78, by kernel_rfl⟩ (.cons ⟨Try.func110, by kernel_rfl⟩ (.cons ⟨Try.func62, by kernel_rfl⟩ (.cons ⟨Try.func94, by kernel_rfl⟩ (.cons ⟨Try.func126, by kernel_rfl⟩ (.nil)))))))))))))))))))))))))))))))))))))))))))))))))))))))))))))))))))))))))))))))))))))))))))))))))))))))))))))))))))))))))))))))))
noncomputable def ky7 : List KK := [.int .i64, .int .i64, .bool, .int .u8]
theorem ky7_ok : keysOf Try.prog 7 = some ky7 := by kernel_rfl
noncomputable def ky8 : List KK := [.int .i64, .int .i64, .bool, .int .u8]
theorem ky8_ok : keysOf Try.prog 8 = some ky8 := by kernel_rfl
noncomputable def ky63 : List KK := [.string, .int .i64, .string]
theorem ky63_ok : keysOf Try.prog 63 = some ky63 := by kernel_rfl
noncomputable def ky64 : List KK := [.string, .int .i64, .string]
theorem ky64_ok : keysOf Try.prog 64 = some ky64 := by kernel_rfl
noncomputable def ky72 : List KK := [.int .i64, .int .i64, .int .i64, .int .i64, .int .i64, .int .i64, .int .i64, .int .i64]
theorem ky72_ok : keysOf Try.prog 72 = some ky72 := by kernel_rfl
noncomputable def ky73 : List KK := [.int .i64, .int .i64, .int .i64, .int .i64, .int .i64, .int .i64, .int .i64, .int .i64]
theorem ky73_ok : keysOf Try.prog 73 = some ky73 := by kernel_rfl
noncomputable def ky74 : List KK := [.int .i64, .int .i64]
theorem ky74_ok : keysOf Try.prog 74 = some ky74 := by kernel_rfl
noncomputable def ky75 : List KK := [.int .i64, .int .i64]
theorem ky75_ok : keysOf Try.prog 75 = some ky75 := by kernel_rfl
noncomputable def ky76 : List KK := [.int .i64, .int .i64, .int .i64, .int .i64, .int .i64, .int .i64, .int .i64, .int .i64, .int .i64, .int .i64, .int .i64, .int .i64, .int .i64, .int .i64, .int .i64, .int .i64]
theorem ky76_ok : keysOf Try.prog 76 = some ky76 := by kernel_rfl
noncomputable def ky87 : List KK := [.string, .string]
theorem ky87_ok : keysOf Try.prog 87 = some ky87 := by kernel_rfl
noncomputable def ky88 : List KK := [.string, .string]
theorem ky88_ok : keysOf Try.prog 88 = some ky88 := by kernel_rfl
noncomputable def ky100 : List KK := [.int .i64, .int .i64]
theorem ky100_ok : keysOf Try.prog 100 = some ky100 := by kernel_rfl
noncomputable def ky101 : List KK := [.int .i64, .int .i64]
theorem ky101_ok : keysOf Try.prog 101 = some ky101 := by kernel_rfl
noncomputable def ky102 : List KK := [.bool, .bool, .bool, .bool, .bool, .bool, .bool, .bool, .bool, .bool, .bool, .bool, .bool, .bool, .bool, .bool, .bool, .bool, .bool, .bool, .bool, .bool, .bool, .bool, .bool, .bool, .bool, .bool, .bool, .bool, .bool, .bool, .bool, .bool, .bool, .bool, .bool, .bool, .bool, .bool, .bool, .bool, .bool, .bool, .bool, .bool, .bool, .bool, .bool, .bool, .bool, .bool, .bool, .bool, .bool, .bool, .bool, .bool, .bool, .bool, .bool, .bool, .bool, .bool]
theorem ky102_ok : keysOf Try.prog 102 = some ky102 := by kernel_rfl
noncomputable def ky119 : List KK := [.int .i64, .int .i64, .int .i64]
theorem ky119_ok : keysOf Try.prog 119 = some ky119 := by kernel_rfl
noncomputable def ky120 : List KK := [.int .i64, .int .i64, .int .i64]
theorem ky120_ok : keysOf Try.prog 120 = some ky120 := by kernel_rfl
noncomputable def ky133 : List KK := [.int .i64, .string, .int .i64, .bool, .int .i64]
theorem ky133_ok : keysOf Try.prog 133 = some ky133 := by kernel_rfl
noncomputable def ky134 : List KK := [.int .i64, .string, .int .i64, .bool, .int .i64]
theorem ky134_ok : keysOf Try.prog 134 = some ky134 := by kernel_rfl
noncomputable def ky174 : List KK := [.int .i64, .int .i64, .int .i64, .bool]
theorem ky174_ok : keysOf Try.prog 174 = some ky174 := by kernel_rfl
noncomputable def ky175 : List KK := [.int .i64, .int .i64, .int .i64, .bool]
theorem ky175_ok : keysOf Try.prog 175 = some ky175 := by kernel_rfl
noncomputable def kyT : Tr (List KK) := .node none (.node none (.node none (.node (some ky7) (.node none (.node none (.node (some ky63) (.leaf) (.leaf)) (.leaf)) (.node none (.leaf) (.node none (.node (some ky175) (.leaf) (.leaf)) (.leaf)))) (.node none (.leaf) (.node none (.node (some ky87) (.leaf) (.leaf)) (.node (some ky119) (.leaf) (.leaf))))) (.node none (.leaf) (.node none (.node none (.node (some ky75) (.leaf) (.leaf)) (.leaf)) (.leaf)))) (.node none (.node none (.leaf) (.node none (.node none (.node (some ky73) (.leaf) (.leaf)) (.leaf)) (.leaf))) (.node none (.node none (.node none (.node none (.node (some ky133) (.leaf) (.leaf)) (.leaf)) (.node (some ky101) (.leaf) (.leaf))) (.leaf)) (.leaf)))) (.node none (.node none (.node (some ky8) (.node none (.node none (.node (some ky64) (.leaf) (.leaf)) (.leaf)) (.leaf)) (.node none (.node none (.node (some ky72) (.leaf) (.leaf)) (.leaf)) (.node none (.node (some ky88) (.leaf) (.leaf)) (.node (some ky120) (.leaf) (.leaf))))) (.node none (.node none (.node none (.leaf) (.node (some ky100) (.leaf) (.leaf))) (.leaf)) (.node none (.node none (.node (some ky76) (.leaf) (.leaf)) (.leaf)) (.leaf)))) (.node none (.node none (.leaf) (.node none (.node none (.node (some ky74) (.leaf) (.leaf)) (.leaf)) (.leaf))) (.node none (.node none (.node none (.node none (.node (some ky134) (.leaf) (.leaf)) (.leaf)) (.node (some ky102) (.leaf) (.leaf))) (.leaf)) (.node none (.node none (.leaf) (.node none (.node (some ky174) (.leaf) (.leaf)) (.leaf))) (.leaf)))))
theorem kyT_list : kyT.toL = [(7, ky7), (63, ky63), (175, ky175), (87, ky87), (119, ky119), (75, ky75), (73, ky73), (133, ky133), (101, ky101), (8, ky8), (64, ky64), (72, ky72), (88, ky88), (120, ky120), (100, ky100), (76, ky76), (74, ky74), (134, ky134), (102, ky102), (174, ky174)] := by kernel_rfl
theorem kyT_ok : ∀ t ks, kyT.get t = some ks → KeyOk Try.prog t ks := by
  refine Tr.all_get (p := fun t ks => KeyOk Try.prog t ks) ?_
  rw [kyT_list]
  exact .cons (keysOf_ok ky7_ok) (.cons (keysOf_ok ky63_ok) (.cons (keysOf_ok ky175_ok) (.cons (keysOf_ok ky87_ok) (.cons (keysOf_ok ky119_ok) (.cons (keysOf_ok ky75_ok) (.cons (keysOf_ok ky73_ok) (.cons (keysOf_ok ky133_ok) (.cons (keysOf_ok ky101_ok) (.cons (keysOf_ok ky8_ok) (.cons (keysOf_ok ky64_ok) (.cons (keysOf_ok ky72_ok) (.cons (keysOf_ok ky88_ok) (.cons (keysOf_ok ky120_ok) (.cons (keysOf_ok ky100_ok) (.cons (keysOf_ok ky76_ok) (.cons (keysOf_ok ky74_ok) (.cons (keysOf_ok ky134_ok) (.cons (keysOf_ok ky102_ok) (.cons (keysOf_ok ky174_ok) (.nil))))))))))))))))))))
noncomputable def CX (σ : Sig) (kn : List (BExp × Bool)) (hkn : Known σ kn) : Ctx Try.prog := ⟨tiT.get, tiT_ok, kyT.get, kyT_ok, σ, kn, hkn⟩
theorem mixed : Try.prog.follows .mixedOrders = true := by kernel_rfl
end Go.Proofs.Ytikcninaepoojaa.Ev
