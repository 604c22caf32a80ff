/- The walks, part 3: the evaluator, the functions, the laws. Conditions: none. -/
import Derived.Test.YtaoegkmfgfefgaaProg
import Derived.Test.YtaoegkmfgfefgaaZ2
namespace Go.Proofs.Ytaoegkmfgfefgaa.Ev
set_option maxRecDepth 100000
set_option maxHeartbeats 4000000
noncomputable def ti1 : TI := ⟨.func, 1, 8, [.nilFunc]⟩
theorem ti1_ok : tiOf Try.prog 1 = some ti1 := by kernel_rfl
noncomputable def ti2 : TI := ⟨.int .i64, 1, 8, [.int .i64 0]⟩
theorem ti2_ok : tiOf Try.prog 2 = some ti2 := by kernel_rfl
noncomputable def ti3 : TI := ⟨.int .i64, 1, 8, [.int .i64 0]⟩
theorem ti3_ok : tiOf Try.prog 3 = some ti3 := by kernel_rfl
noncomputable def ti4 : TI := ⟨.bool, 1, 1, [.bool false]⟩
theorem ti4_ok : tiOf Try.prog 4 = some ti4 := by kernel_rfl
noncomputable def ti5 : TI := ⟨.int .u8, 1, 1, [.int .u8 0]⟩
theorem ti5_ok : tiOf Try.prog 5 = some ti5 := by kernel_rfl
noncomputable def ti6 : TI := ⟨.int .u8, 1, 1, [.int .u8 0]⟩
theorem ti6_ok : tiOf Try.prog 6 = some ti6 := by kernel_rfl
noncomputable def ti7 : TI := ⟨.struct [(0, 2), (1, 3), (2, 4), (3, 6)], 4, 24, [.int .i64 0, .int .i64 0, .bool false, .int .u8 0]⟩
theorem ti7_ok : tiOf Try.prog 7 = some ti7 := by kernel_rfl
noncomputable def ti8 : TI := ⟨.struct [(0, 2), (1, 3), (2, 4), (3, 6)], 4, 24, [.int .i64 0, .int .i64 0, .bool false, .int .u8 0]⟩
theorem ti8_ok : tiOf Try.prog 8 = some ti8 := by kernel_rfl
noncomputable def ti9 : TI := ⟨.string, 1, 16, [.string ⟨#[]⟩]⟩
theorem ti9_ok : tiOf Try.prog 9 = some ti9 := by kernel_rfl
noncomputable def ti10 : TI := ⟨.string, 1, 16, [.string ⟨#[]⟩]⟩
theorem ti10_ok : tiOf Try.prog 10 = some ti10 := by kernel_rfl
noncomputable def ti11 : TI := ⟨.string, 1, 16, [.string ⟨#[]⟩]⟩
theorem ti11_ok : tiOf Try.prog 11 = some ti11 := by kernel_rfl
noncomputable def ti12 : TI := ⟨.int .u64, 1, 8, [.int .u64 0]⟩
theorem ti12_ok : tiOf Try.prog 12 = some ti12 := by kernel_rfl
noncomputable def ti13 : TI := ⟨.struct [(0, 9), (1, 12)], 2, 24, [.string ⟨#[]⟩, .int .u64 0]⟩
theorem ti13_ok : tiOf Try.prog 13 = some ti13 := by kernel_rfl
noncomputable def ti14 : TI := ⟨.struct [(0, 9), (1, 12)], 2, 24, [.string ⟨#[]⟩, .int .u64 0]⟩
theorem ti14_ok : tiOf Try.prog 14 = some ti14 := by kernel_rfl
noncomputable def ti15 : TI := ⟨.ptr 235, 1, 8, [.pointer none]⟩
theorem ti15_ok : tiOf Try.prog 15 = some ti15 := by kernel_rfl
noncomputable def ti16 : TI := ⟨.ptr 238, 1, 8, [.pointer none]⟩
theorem ti16_ok : tiOf Try.prog 16 = some ti16 := by kernel_rfl
noncomputable def ti17 : TI := ⟨.ptr 246, 1, 8, [.pointer none]⟩
theorem ti17_ok : tiOf Try.prog 17 = some ti17 := by kernel_rfl
noncomputable def ti18 : TI := ⟨.struct [(0, 17)], 1, 8, [.pointer none]⟩
theorem ti18_ok : tiOf Try.prog 18 = some ti18 := by kernel_rfl
noncomputable def ti19 : TI := ⟨.struct [(0, 17)], 1, 8, [.pointer none]⟩
theorem ti19_ok : tiOf Try.prog 19 = some ti19 := by kernel_rfl
noncomputable def ti21 : TI := ⟨.int .i32, 1, 4, [.int .i32 0]⟩
theorem ti21_ok : tiOf Try.prog 21 = some ti21 := by kernel_rfl
noncomputable def ti22 : TI := ⟨.slice 33, 1, 24, [.slice none 0 0]⟩
theorem ti22_ok : tiOf Try.prog 22 = some ti22 := by kernel_rfl
noncomputable def ti23 : TI := ⟨.slice 39, 1, 24, [.slice none 0 0]⟩
theorem ti23_ok : tiOf Try.prog 23 = some ti23 := by kernel_rfl
noncomputable def ti24 : TI := ⟨.func, 1, 8, [.nilFunc]⟩
theorem ti24_ok : tiOf Try.prog 24 = some ti24 := by kernel_rfl
noncomputable def ti25 : TI := ⟨.func, 1, 8, [.nilFunc]⟩
theorem ti25_ok : tiOf Try.prog 25 = some ti25 := by kernel_rfl
noncomputable def ti26 : TI := ⟨.func, 1, 8, [.nilFunc]⟩
theorem ti26_ok : tiOf Try.prog 26 = some ti26 := by kernel_rfl
noncomputable def ti27 : TI := ⟨.ptr 75, 1, 8, [.pointer none]⟩
theorem ti27_ok : tiOf Try.prog 27 = some ti27 := by kernel_rfl
noncomputable def ti29 : TI := ⟨.func, 1, 8, [.nilFunc]⟩
theorem ti29_ok : tiOf Try.prog 29 = some ti29 := by kernel_rfl
noncomputable def ti30 : TI := ⟨.slice 9, 1, 24, [.slice none 0 0]⟩
theorem ti30_ok : tiOf Try.prog 30 = some ti30 := by kernel_rfl
noncomputable def ti31 : TI := ⟨.slice 73, 1, 24, [.slice none 0 0]⟩
theorem ti31_ok : tiOf Try.prog 31 = some ti31 := by kernel_rfl
noncomputable def ti32 : TI := ⟨.struct [(0, 3), (1, 9), (2, 9), (3, 30), (4, 31)], 5, 88, [.int .i64 0, .string ⟨#[]⟩, .string ⟨#[]⟩, .slice none 0 0, .slice none 0 0]⟩
theorem ti32_ok : tiOf Try.prog 32 = some ti32 := by kernel_rfl
noncomputable def ti33 : TI := ⟨.struct [(0, 3), (1, 9), (2, 9), (3, 30), (4, 31)], 5, 88, [.int .i64 0, .string ⟨#[]⟩, .string ⟨#[]⟩, .slice none 0 0, .slice none 0 0]⟩
theorem ti33_ok : tiOf Try.prog 33 = some ti33 := by kernel_rfl
noncomputable def ti34 : TI := ⟨.func, 1, 8, [.nilFunc]⟩
theorem ti34_ok : tiOf Try.prog 34 = some ti34 := by kernel_rfl
noncomputable def ti35 : TI := ⟨.func, 1, 8, [.nilFunc]⟩
theorem ti35_ok : tiOf Try.prog 35 = some ti35 := by kernel_rfl
noncomputable def ti36 : TI := ⟨.func, 1, 8, [.nilFunc]⟩
theorem ti36_ok : tiOf Try.prog 36 = some ti36 := by kernel_rfl
noncomputable def ti37 : TI := ⟨.slice 84, 1, 24, [.slice none 0 0]⟩
theorem ti37_ok : tiOf Try.prog 37 = some ti37 := by kernel_rfl
noncomputable def ti38 : TI := ⟨.struct [(0, 37)], 1, 24, [.slice none 0 0]⟩
theorem ti38_ok : tiOf Try.prog 38 = some ti38 := by kernel_rfl
noncomputable def ti39 : TI := ⟨.struct [(0, 37)], 1, 24, [.slice none 0 0]⟩
theorem ti39_ok : tiOf Try.prog 39 = some ti39 := by kernel_rfl
noncomputable def ti40 : TI := ⟨.func, 1, 8, [.nilFunc]⟩
theorem ti40_ok : tiOf Try.prog 40 = some ti40 := by kernel_rfl
noncomputable def ti41 : TI := ⟨.func, 1, 8, [.nilFunc]⟩
theorem ti41_ok : tiOf Try.prog 41 = some ti41 := by kernel_rfl
noncomputable def ti42 : TI := ⟨.slice 89, 1, 24, [.slice none 0 0]⟩
theorem ti42_ok : tiOf Try.prog 42 = some ti42 := by kernel_rfl
noncomputable def ti43 : TI := ⟨.func, 1, 8, [.nilFunc]⟩
theorem ti43_ok : tiOf Try.prog 43 = some ti43 := by kernel_rfl
noncomputable def ti44 : TI := ⟨.func, 1, 8, [.nilFunc]⟩
theorem ti44_ok : tiOf Try.prog 44 = some ti44 := by kernel_rfl
noncomputable def ti45 : TI := ⟨.func, 1, 8, [.nilFunc]⟩
theorem ti45_ok : tiOf Try.prog 45 = some ti45 := by kernel_rfl
noncomputable def ti46 : TI := ⟨.func, 1, 8, [.nilFunc]⟩
theorem ti46_ok : tiOf Try.prog 46 = some ti46 := by kernel_rfl
noncomputable def ti47 : TI := ⟨.ptr 96, 1, 8, [.pointer none]⟩
theorem ti47_ok : tiOf Try.prog 47 = some ti47 := by kernel_rfl
noncomputable def ti48 : TI := ⟨.func, 1, 8, [.nilFunc]⟩
theorem ti48_ok : tiOf Try.prog 48 = some ti48 := by kernel_rfl
noncomputable def ti49 : TI := ⟨.func, 1, 8, [.nilFunc]⟩
theorem ti49_ok : tiOf Try.prog 49 = some ti49 := by kernel_rfl
noncomputable def ti50 : TI := ⟨.slice 3, 1, 24, [.slice none 0 0]⟩
theorem ti50_ok : tiOf Try.prog 50 = some ti50 := by kernel_rfl
noncomputable def ti51 : TI := ⟨.func, 1, 8, [.nilFunc]⟩
theorem ti51_ok : tiOf Try.prog 51 = some ti51 := by kernel_rfl
noncomputable def ti52 : TI := ⟨.func, 1, 8, [.nilFunc]⟩
theorem ti52_ok : tiOf Try.prog 52 = some ti52 := by kernel_rfl
noncomputable def ti53 : TI := ⟨.func, 1, 8, [.nilFunc]⟩
theorem ti53_ok : tiOf Try.prog 53 = some ti53 := by kernel_rfl
noncomputable def ti54 : TI := ⟨.func, 1, 8, [.nilFunc]⟩
theorem ti54_ok : tiOf Try.prog 54 = some ti54 := by kernel_rfl
noncomputable def ti55 : TI := ⟨.func, 1, 8, [.nilFunc]⟩
theorem ti55_ok : tiOf Try.prog 55 = some ti55 := by kernel_rfl
noncomputable def ti56 : TI := ⟨.func, 1, 8, [.nilFunc]⟩
theorem ti56_ok : tiOf Try.prog 56 = some ti56 := by kernel_rfl
noncomputable def ti57 : TI := ⟨.func, 1, 8, [.nilFunc]⟩
theorem ti57_ok : tiOf Try.prog 57 = some ti57 := by kernel_rfl
noncomputable def ti58 : TI := ⟨.ptr 141, 1, 8, [.pointer none]⟩
theorem ti58_ok : tiOf Try.prog 58 = some ti58 := by kernel_rfl
noncomputable def ti60 : TI := ⟨.func, 1, 8, [.nilFunc]⟩
theorem ti60_ok : tiOf Try.prog 60 = some ti60 := by kernel_rfl
noncomputable def ti61 : TI := ⟨.func, 1, 8, [.nilFunc]⟩
theorem ti61_ok : tiOf Try.prog 61 = some ti61 := by kernel_rfl
noncomputable def ti62 : TI := ⟨.func, 1, 8, [.nilFunc]⟩
theorem ti62_ok : tiOf Try.prog 62 = some ti62 := by kernel_rfl
noncomputable def ti63 : TI := ⟨.func, 1, 8, [.nilFunc]⟩
theorem ti63_ok : tiOf Try.prog 63 = some ti63 := by kernel_rfl
noncomputable def ti64 : TI := ⟨.struct [(0, 3), (1, 3)], 2, 16, [.int .i64 0, .int .i64 0]⟩
theorem ti64_ok : tiOf Try.prog 64 = some ti64 := by kernel_rfl
noncomputable def ti65 : TI := ⟨.struct [(0, 3), (1, 3)], 2, 16, [.int .i64 0, .int .i64 0]⟩
theorem ti65_ok : tiOf Try.prog 65 = some ti65 := by kernel_rfl
noncomputable def ti66 : TI := ⟨.array 8 65, 16, 128, [.int .i64 0, .int .i64 0, .int .i64 0, .int .i64 0, .int .i64 0, .int .i64 0, .int .i64 0, .int .i64 0, .int .i64 0, .int .i64 0, .int .i64 0, .int .i64 0, .int .i64 0, .int .i64 0, .int .i64 0, .int .i64 0]⟩
theorem ti66_ok : tiOf Try.prog 66 = some ti66 := by kernel_rfl
noncomputable def ti67 : TI := ⟨.func, 1, 8, [.nilFunc]⟩
theorem ti67_ok : tiOf Try.prog 67 = some ti67 := by kernel_rfl
noncomputable def ti68 : TI := ⟨.func, 1, 8, [.nilFunc]⟩
theorem ti68_ok : tiOf Try.prog 68 = some ti68 := by kernel_rfl
noncomputable def ti69 : TI := ⟨.func, 1, 8, [.nilFunc]⟩
theorem ti69_ok : tiOf Try.prog 69 = some ti69 := by kernel_rfl
noncomputable def ti70 : TI := ⟨.func, 1, 8, [.nilFunc]⟩
theorem ti70_ok : tiOf Try.prog 70 = some ti70 := by kernel_rfl
noncomputable def ti71 : TI := ⟨.func, 1, 8, [.nilFunc]⟩
theorem ti71_ok : tiOf Try.prog 71 = some ti71 := by kernel_rfl
noncomputable def ti72 : TI := ⟨.struct [(0, 9), (1, 9)], 2, 32, [.string ⟨#[]⟩, .string ⟨#[]⟩]⟩
theorem ti72_ok : tiOf Try.prog 72 = some ti72 := by kernel_rfl
noncomputable def ti73 : TI := ⟨.struct [(0, 9), (1, 9)], 2, 32, [.string ⟨#[]⟩, .string ⟨#[]⟩]⟩
theorem ti73_ok : tiOf Try.prog 73 = some ti73 := by kernel_rfl
noncomputable def ti74 : TI := ⟨.struct [(0, 22), (1, 50)], 2, 48, [.slice none 0 0, .slice none 0 0]⟩
theorem ti74_ok : tiOf Try.prog 74 = some ti74 := by kernel_rfl
noncomputable def ti75 : TI := ⟨.struct [(0, 22), (1, 50)], 2, 48, [.slice none 0 0, .slice none 0 0]⟩
theorem ti75_ok : tiOf Try.prog 75 = some ti75 := by kernel_rfl
noncomputable def ti76 : TI := ⟨.func, 1, 8, [.nilFunc]⟩
theorem ti76_ok : tiOf Try.prog 76 = some ti76 := by kernel_rfl
noncomputable def ti77 : TI := ⟨.func, 1, 8, [.nilFunc]⟩
theorem ti77_ok : tiOf Try.prog 77 = some ti77 := by kernel_rfl
noncomputable def ti78 : TI := ⟨.func, 1, 8, [.nilFunc]⟩
theorem ti78_ok : tiOf Try.prog 78 = some ti78 := by kernel_rfl
noncomputable def ti79 : TI := ⟨.slice 131, 1, 24, [.slice none 0 0]⟩
theorem ti79_ok : tiOf Try.prog 79 = some ti79 := by kernel_rfl
noncomputable def ti80 : TI := ⟨.slice 126, 1, 24, [.slice none 0 0]⟩
theorem ti80_ok : tiOf Try.prog 80 = some ti80 := by kernel_rfl
noncomputable def ti81 : TI := ⟨.struct [(0, 9), (1, 30), (2, 30), (3, 79), (4, 80)], 5, 112, [.string ⟨#[]⟩, .slice none 0 0, .slice none 0 0, .slice none 0 0, .slice none 0 0]⟩
theorem ti81_ok : tiOf Try.prog 81 = some ti81 := by kernel_rfl
noncomputable def ti82 : TI := ⟨.struct [(0, 9), (1, 30), (2, 30), (3, 79), (4, 80)], 5, 112, [.string ⟨#[]⟩, .slice none 0 0, .slice none 0 0, .slice none 0 0, .slice none 0 0]⟩
theorem ti82_ok : tiOf Try.prog 82 = some ti82 := by kernel_rfl
noncomputable def ti83 : TI := ⟨.struct [(0, 3), (1, 82)], 6, 120, [.int .i64 0, .string ⟨#[]⟩, .slice none 0 0, .slice none 0 0, .slice none 0 0, .slice none 0 0]⟩
theorem ti83_ok : tiOf Try.prog 83 = some ti83 := by kernel_rfl
noncomputable def ti84 : TI := ⟨.struct [(0, 3), (1, 82)], 6, 120, [.int .i64 0, .string ⟨#[]⟩, .slice none 0 0, .slice none 0 0, .slice none 0 0, .slice none 0 0]⟩
theorem ti84_ok : tiOf Try.prog 84 = some ti84 := by kernel_rfl
noncomputable def ti85 : TI := ⟨.func, 1, 8, [.nilFunc]⟩
theorem ti85_ok : tiOf Try.prog 85 = some ti85 := by kernel_rfl
noncomputable def ti86 : TI := ⟨.func, 1, 8, [.nilFunc]⟩
theorem ti86_ok : tiOf Try.prog 86 = some ti86 := by kernel_rfl
noncomputable def ti87 : TI := ⟨.slice 118, 1, 24, [.slice none 0 0]⟩
theorem ti87_ok : tiOf Try.prog 87 = some ti87 := by kernel_rfl
noncomputable def ti88 : TI := ⟨.struct [(0, 23), (1, 87)], 2, 48, [.slice none 0 0, .slice none 0 0]⟩
theorem ti88_ok : tiOf Try.prog 88 = some ti88 := by kernel_rfl
noncomputable def ti89 : TI := ⟨.struct [(0, 23), (1, 87)], 2, 48, [.slice none 0 0, .slice none 0 0]⟩
theorem ti89_ok : tiOf Try.prog 89 = some ti89 := by kernel_rfl
noncomputable def ti90 : TI := ⟨.func, 1, 8, [.nilFunc]⟩
theorem ti90_ok : tiOf Try.prog 90 = some ti90 := by kernel_rfl
noncomputable def ti91 : TI := ⟨.func, 1, 8, [.nilFunc]⟩
theorem ti91_ok : tiOf Try.prog 91 = some ti91 := by kernel_rfl
noncomputable def ti92 : TI := ⟨.map 99 50, 1, 8, [.map none]⟩
theorem ti92_ok : tiOf Try.prog 92 = some ti92 := by kernel_rfl
noncomputable def ti93 : TI := ⟨.struct [(0, 92)], 1, 8, [.map none]⟩
theorem ti93_ok : tiOf Try.prog 93 = some ti93 := by kernel_rfl
noncomputable def ti94 : TI := ⟨.struct [(0, 92)], 1, 8, [.map none]⟩
theorem ti94_ok : tiOf Try.prog 94 = some ti94 := by kernel_rfl
noncomputable def ti95 : TI := ⟨.struct [(0, 94), (1, 3)], 2, 16, [.map none, .int .i64 0]⟩
theorem ti95_ok : tiOf Try.prog 95 = some ti95 := by kernel_rfl
noncomputable def ti96 : TI := ⟨.struct [(0, 94), (1, 3)], 2, 16, [.map none, .int .i64 0]⟩
theorem ti96_ok : tiOf Try.prog 96 = some ti96 := by kernel_rfl
noncomputable def ti97 : TI := ⟨.func, 1, 8, [.nilFunc]⟩
theorem ti97_ok : tiOf Try.prog 97 = some ti97 := by kernel_rfl
noncomputable def ti98 : TI := ⟨.struct [(0, 3), (1, 9)], 2, 24, [.int .i64 0, .string ⟨#[]⟩]⟩
theorem ti98_ok : tiOf Try.prog 98 = some ti98 := by kernel_rfl
noncomputable def ti99 : TI := ⟨.struct [(0, 3), (1, 9)], 2, 24, [.int .i64 0, .string ⟨#[]⟩]⟩
theorem ti99_ok : tiOf Try.prog 99 = some ti99 := by kernel_rfl
noncomputable def ti100 : TI := ⟨.func, 1, 8, [.nilFunc]⟩
theorem ti100_ok : tiOf Try.prog 100 = some ti100 := by kernel_rfl
noncomputable def ti101 : TI := ⟨.func, 1, 8, [.nilFunc]⟩
theorem ti101_ok : tiOf Try.prog 101 = some ti101 := by kernel_rfl
noncomputable def ti102 : TI := ⟨.func, 1, 8, [.nilFunc]⟩
theorem ti102_ok : tiOf Try.prog 102 = some ti102 := by kernel_rfl
noncomputable def ti103 : TI := ⟨.func, 1, 8, [.nilFunc]⟩
theorem ti103_ok : tiOf Try.prog 103 = some ti103 := by kernel_rfl
noncomputable def ti104 : TI := ⟨.func, 1, 8, [.nilFunc]⟩
theorem ti104_ok : tiOf Try.prog 104 = some ti104 := by kernel_rfl
noncomputable def ti105 : TI := ⟨.int .i64, 1, 8, [.int .i64 0]⟩
theorem ti105_ok : tiOf Try.prog 105 = some ti105 := by kernel_rfl
noncomputable def ti107 : TI := ⟨.func, 1, 8, [.nilFunc]⟩
theorem ti107_ok : tiOf Try.prog 107 = some ti107 := by kernel_rfl
noncomputable def ti108 : TI := ⟨.func, 1, 8, [.nilFunc]⟩
theorem ti108_ok : tiOf Try.prog 108 = some ti108 := by kernel_rfl
noncomputable def ti109 : TI := ⟨.func, 1, 8, [.nilFunc]⟩
theorem ti109_ok : tiOf Try.prog 109 = some ti109 := by kernel_rfl
noncomputable def ti110 : TI := ⟨.slice 4, 1, 24, [.slice none 0 0]⟩
theorem ti110_ok : tiOf Try.prog 110 = some ti110 := by kernel_rfl
noncomputable def ti111 : TI := ⟨.func, 1, 8, [.nilFunc]⟩
theorem ti111_ok : tiOf Try.prog 111 = some ti111 := by kernel_rfl
noncomputable def ti112 : TI := ⟨.func, 1, 8, [.nilFunc]⟩
theorem ti112_ok : tiOf Try.prog 112 = some ti112 := by kernel_rfl
noncomputable def ti113 : TI := ⟨.array 8 3, 8, 64, [.int .i64 0, .int .i64 0, .int .i64 0, .int .i64 0, .int .i64 0, .int .i64 0, .int .i64 0, .int .i64 0]⟩
theorem ti113_ok : tiOf Try.prog 113 = some ti113 := by kernel_rfl
noncomputable def ti114 : TI := ⟨.array 8 4, 8, 8, [.bool false, .bool false, .bool false, .bool false, .bool false, .bool false, .bool false, .bool false]⟩
theorem ti114_ok : tiOf Try.prog 114 = some ti114 := by kernel_rfl
noncomputable def ti116 : TI := ⟨.func, 1, 8, [.nilFunc]⟩
theorem ti116_ok : tiOf Try.prog 116 = some ti116 := by kernel_rfl
noncomputable def ti117 : TI := ⟨.struct [(0, 3), (1, 65), (3, 4)], 4, 32, [.int .i64 0, .int .i64 0, .int .i64 0, .bool false]⟩
theorem ti117_ok : tiOf Try.prog 117 = some ti117 := by kernel_rfl
noncomputable def ti118 : TI := ⟨.struct [(0, 3), (1, 65), (3, 4)], 4, 32, [.int .i64 0, .int .i64 0, .int .i64 0, .bool false]⟩
theorem ti118_ok : tiOf Try.prog 118 = some ti118 := by kernel_rfl
noncomputable def ti120 : TI := ⟨.func, 1, 8, [.nilFunc]⟩
theorem ti120_ok : tiOf Try.prog 120 = some ti120 := by kernel_rfl
noncomputable def ti121 : TI := ⟨.slice 156, 1, 24, [.slice none 0 0]⟩
theorem ti121_ok : tiOf Try.prog 121 = some ti121 := by kernel_rfl
noncomputable def ti122 : TI := ⟨.func, 1, 8, [.nilFunc]⟩
theorem ti122_ok : tiOf Try.prog 122 = some ti122 := by kernel_rfl
noncomputable def ti123 : TI := ⟨.func, 1, 8, [.nilFunc]⟩
theorem ti123_ok : tiOf Try.prog 123 = some ti123 := by kernel_rfl
noncomputable def ti124 : TI := ⟨.slice 5, 1, 24, [.slice none 0 0]⟩
theorem ti124_ok : tiOf Try.prog 124 = some ti124 := by kernel_rfl
noncomputable def ti125 : TI := ⟨.struct [(0, 3), (1, 3), (2, 3), (3, 23)], 4, 48, [.int .i64 0, .int .i64 0, .int .i64 0, .slice none 0 0]⟩
theorem ti125_ok : tiOf Try.prog 125 = some ti125 := by kernel_rfl
noncomputable def ti126 : TI := ⟨.struct [(0, 3), (1, 3), (2, 3), (3, 23)], 4, 48, [.int .i64 0, .int .i64 0, .int .i64 0, .slice none 0 0]⟩
theorem ti126_ok : tiOf Try.prog 126 = some ti126 := by kernel_rfl
noncomputable def ti127 : TI := ⟨.func, 1, 8, [.nilFunc]⟩
theorem ti127_ok : tiOf Try.prog 127 = some ti127 := by kernel_rfl
noncomputable def ti128 : TI := ⟨.func, 1, 8, [.nilFunc]⟩
theorem ti128_ok : tiOf Try.prog 128 = some ti128 := by kernel_rfl
noncomputable def ti129 : TI := ⟨.func, 1, 8, [.nilFunc]⟩
theorem ti129_ok : tiOf Try.prog 129 = some ti129 := by kernel_rfl
noncomputable def ti130 : TI := ⟨.struct [(0, 9), (1, 3), (2, 9)], 3, 40, [.string ⟨#[]⟩, .int .i64 0, .string ⟨#[]⟩]⟩
theorem ti130_ok : tiOf Try.prog 130 = some ti130 := by kernel_rfl
noncomputable def ti131 : TI := ⟨.struct [(0, 9), (1, 3), (2, 9)], 3, 40, [.string ⟨#[]⟩, .int .i64 0, .string ⟨#[]⟩]⟩
theorem ti131_ok : tiOf Try.prog 131 = some ti131 := by kernel_rfl
noncomputable def ti132 : TI := ⟨.ptr 94, 1, 8, [.pointer none]⟩
theorem ti132_ok : tiOf Try.prog 132 = some ti132 := by kernel_rfl
noncomputable def ti133 : TI := ⟨.slice 50, 1, 24, [.slice none 0 0]⟩
theorem ti133_ok : tiOf Try.prog 133 = some ti133 := by kernel_rfl
noncomputable def ti134 : TI := ⟨.func, 1, 8, [.nilFunc]⟩
theorem ti134_ok : tiOf Try.prog 134 = some ti134 := by kernel_rfl
noncomputable def ti135 : TI := ⟨.func, 1, 8, [.nilFunc]⟩
theorem ti135_ok : tiOf Try.prog 135 = some ti135 := by kernel_rfl
noncomputable def ti136 : TI := ⟨.func, 1, 8, [.nilFunc]⟩
theorem ti136_ok : tiOf Try.prog 136 = some ti136 := by kernel_rfl
noncomputable def ti137 : TI := ⟨.int .u64, 1, 8, [.int .u64 0]⟩
theorem ti137_ok : tiOf Try.prog 137 = some ti137 := by kernel_rfl
noncomputable def ti138 : TI := ⟨.func, 1, 8, [.nilFunc]⟩
theorem ti138_ok : tiOf Try.prog 138 = some ti138 := by kernel_rfl
noncomputable def ti139 : TI := ⟨.slice 144, 1, 24, [.slice none 0 0]⟩
theorem ti139_ok : tiOf Try.prog 139 = some ti139 := by kernel_rfl
noncomputable def ti140 : TI := ⟨.struct [(0, 139)], 1, 24, [.slice none 0 0]⟩
theorem ti140_ok : tiOf Try.prog 140 = some ti140 := by kernel_rfl
noncomputable def ti141 : TI := ⟨.struct [(0, 139)], 1, 24, [.slice none 0 0]⟩
theorem ti141_ok : tiOf Try.prog 141 = some ti141 := by kernel_rfl
noncomputable def ti142 : TI := ⟨.func, 1, 8, [.nilFunc]⟩
theorem ti142_ok : tiOf Try.prog 142 = some ti142 := by kernel_rfl
noncomputable def ti143 : TI := ⟨.struct [(0, 33), (5, 50), (6, 3), (7, 3), (8, 3)], 9, 136, [.int .i64 0, .string ⟨#[]⟩, .string ⟨#[]⟩, .slice none 0 0, .slice none 0 0, .slice none 0 0, .int .i64 0, .int .i64 0, .int .i64 0]⟩
theorem ti143_ok : tiOf Try.prog 143 = some ti143 := by kernel_rfl
noncomputable def ti144 : TI := ⟨.struct [(0, 33), (5, 50), (6, 3), (7, 3), (8, 3)], 9, 136, [.int .i64 0, .string ⟨#[]⟩, .string ⟨#[]⟩, .slice none 0 0, .slice none 0 0, .slice none 0 0, .int .i64 0, .int .i64 0, .int .i64 0]⟩
theorem ti144_ok : tiOf Try.prog 144 = some ti144 := by kernel_rfl
noncomputable def ti145 : TI := ⟨.func, 1, 8, [.nilFunc]⟩
theorem ti145_ok : tiOf Try.prog 145 = some ti145 := by kernel_rfl
noncomputable def ti146 : TI := ⟨.func, 1, 8, [.nilFunc]⟩
theorem ti146_ok : tiOf Try.prog 146 = some ti146 := by kernel_rfl
noncomputable def ti147 : TI := ⟨.func, 1, 8, [.nilFunc]⟩
theorem ti147_ok : tiOf Try.prog 147 = some ti147 := by kernel_rfl
noncomputable def ti148 : TI := ⟨.ptr 150, 1, 8, [.pointer none]⟩
theorem ti148_ok : tiOf Try.prog 148 = some ti148 := by kernel_rfl
noncomputable def ti149 : TI := ⟨.struct [(0, 121), (1, 3), (2, 4), (3, 3)], 4, 48, [.slice none 0 0, .int .i64 0, .bool false, .int .i64 0]⟩
theorem ti149_ok : tiOf Try.prog 149 = some ti149 := by kernel_rfl
noncomputable def ti150 : TI := ⟨.struct [(0, 121), (1, 3), (2, 4), (3, 3)], 4, 48, [.slice none 0 0, .int .i64 0, .bool false, .int .i64 0]⟩
theorem ti150_ok : tiOf Try.prog 150 = some ti150 := by kernel_rfl
noncomputable def ti151 : TI := ⟨.func, 1, 8, [.nilFunc]⟩
theorem ti151_ok : tiOf Try.prog 151 = some ti151 := by kernel_rfl
noncomputable def ti152 : TI := ⟨.ptr 154, 1, 8, [.pointer none]⟩
theorem ti152_ok : tiOf Try.prog 152 = some ti152 := by kernel_rfl
noncomputable def ti153 : TI := ⟨.struct [(0, 50), (1, 3)], 2, 32, [.slice none 0 0, .int .i64 0]⟩
theorem ti153_ok : tiOf Try.prog 153 = some ti153 := by kernel_rfl
noncomputable def ti154 : TI := ⟨.struct [(0, 50), (1, 3)], 2, 32, [.slice none 0 0, .int .i64 0]⟩
theorem ti154_ok : tiOf Try.prog 154 = some ti154 := by kernel_rfl
noncomputable def ti155 : TI := ⟨.struct [(0, 3), (1, 9), (2, 3), (3, 4), (4, 3)], 5, 48, [.int .i64 0, .string ⟨#[]⟩, .int .i64 0, .bool false, .int .i64 0]⟩
theorem ti155_ok : tiOf Try.prog 155 = some ti155 := by kernel_rfl
noncomputable def ti156 : TI := ⟨.struct [(0, 3), (1, 9), (2, 3), (3, 4), (4, 3)], 5, 48, [.int .i64 0, .string ⟨#[]⟩, .int .i64 0, .bool false, .int .i64 0]⟩
theorem ti156_ok : tiOf Try.prog 156 = some ti156 := by kernel_rfl
noncomputable def ti157 : TI := ⟨.func, 1, 8, [.nilFunc]⟩
theorem ti157_ok : tiOf Try.prog 157 = some ti157 := by kernel_rfl
noncomputable def ti158 : TI := ⟨.func, 1, 8, [.nilFunc]⟩
theorem ti158_ok : tiOf Try.prog 158 = some ti158 := by kernel_rfl
noncomputable def ti159 : TI := ⟨.func, 1, 8, [.nilFunc]⟩
theorem ti159_ok : tiOf Try.prog 159 = some ti159 := by kernel_rfl
noncomputable def ti160 : TI := ⟨.func, 1, 8, [.nilFunc]⟩
theorem ti160_ok : tiOf Try.prog 160 = some ti160 := by kernel_rfl
noncomputable def ti161 : TI := ⟨.int .i64, 1, 8, [.int .i64 0]⟩
theorem ti161_ok : tiOf Try.prog 161 = some ti161 := by kernel_rfl
noncomputable def ti163 : TI := ⟨.func, 1, 8, [.nilFunc]⟩
theorem ti163_ok : tiOf Try.prog 163 = some ti163 := by kernel_rfl
noncomputable def ti164 : TI := ⟨.func, 1, 8, [.nilFunc]⟩
theorem ti164_ok : tiOf Try.prog 164 = some ti164 := by kernel_rfl
noncomputable def ti165 : TI := ⟨.func, 1, 8, [.nilFunc]⟩
theorem ti165_ok : tiOf Try.prog 165 = some ti165 := by kernel_rfl
noncomputable def ti166 : TI := ⟨.func, 1, 8, [.nilFunc]⟩
theorem ti166_ok : tiOf Try.prog 166 = some ti166 := by kernel_rfl
noncomputable def ti167 : TI := ⟨.func, 1, 8, [.nilFunc]⟩
theorem ti167_ok : tiOf Try.prog 167 = some ti167 := by kernel_rfl
noncomputable def ti168 : TI := ⟨.func, 1, 8, [.nilFunc]⟩
theorem ti168_ok : tiOf Try.prog 168 = some ti168 := by kernel_rfl
noncomputable def ti169 : TI := ⟨.int .u32, 1, 4, [.int .u32 0]⟩
theorem ti169_ok : tiOf Try.prog 169 = some ti169 := by kernel_rfl
noncomputable def ti170 : TI := ⟨.func, 1, 8, [.nilFunc]⟩
theorem ti170_ok : tiOf Try.prog 170 = some ti170 := by kernel_rfl
noncomputable def ti171 : TI := ⟨.int .u64, 1, 8, [.int .u64 0]⟩
theorem ti171_ok : tiOf Try.prog 171 = some ti171 := by kernel_rfl
noncomputable def ti172 : TI := ⟨.ptr 144, 1, 8, [.pointer none]⟩
theorem ti172_ok : tiOf Try.prog 172 = some ti172 := by kernel_rfl
noncomputable def ti173 : TI := ⟨.func, 1, 8, [.nilFunc]⟩
theorem ti173_ok : tiOf Try.prog 173 = some ti173 := by kernel_rfl
noncomputable def ti174 : TI := ⟨.func, 1, 8, [.nilFunc]⟩
theorem ti174_ok : tiOf Try.prog 174 = some ti174 := by kernel_rfl
noncomputable def ti175 : TI := ⟨.func, 1, 8, [.nilFunc]⟩
theorem ti175_ok : tiOf Try.prog 175 = some ti175 := by kernel_rfl
noncomputable def ti176 : TI := ⟨.func, 1, 8, [.nilFunc]⟩
theorem ti176_ok : tiOf Try.prog 176 = some ti176 := by kernel_rfl
noncomputable def ti177 : TI := ⟨.func, 1, 8, [.nilFunc]⟩
theorem ti177_ok : tiOf Try.prog 177 = some ti177 := by kernel_rfl
noncomputable def ti178 : TI := ⟨.func, 1, 8, [.nilFunc]⟩
theorem ti178_ok : tiOf Try.prog 178 = some ti178 := by kernel_rfl
noncomputable def ti179 : TI := ⟨.func, 1, 8, [.nilFunc]⟩
theorem ti179_ok : tiOf Try.prog 179 = some ti179 := by kernel_rfl
noncomputable def ti180 : TI := ⟨.func, 1, 8, [.nilFunc]⟩
theorem ti180_ok : tiOf Try.prog 180 = some ti180 := by kernel_rfl
noncomputable def ti182 : TI := ⟨.func, 1, 8, [.nilFunc]⟩
theorem ti182_ok : tiOf Try.prog 182 = some ti182 := by kernel_rfl
noncomputable def ti183 : TI := ⟨.func, 1, 8, [.nilFunc]⟩
theorem ti183_ok : tiOf Try.prog 183 = some ti183 := by kernel_rfl
noncomputable def ti184 : TI := ⟨.func, 1, 8, [.nilFunc]⟩
theorem ti184_ok : tiOf Try.prog 184 = some ti184 := by kernel_rfl
noncomputable def ti185 : TI := ⟨.int .u64, 1, 8, [.int .u64 0]⟩
theorem ti185_ok : tiOf Try.prog 185 = some ti185 := by kernel_rfl
noncomputable def ti186 : TI := ⟨.func, 1, 8, [.nilFunc]⟩
theorem ti186_ok : tiOf Try.prog 186 = some ti186 := by kernel_rfl
noncomputable def ti187 : TI := ⟨.func, 1, 8, [.nilFunc]⟩
theorem ti187_ok : tiOf Try.prog 187 = some ti187 := by kernel_rfl
noncomputable def ti188 : TI := ⟨.func, 1, 8, [.nilFunc]⟩
theorem ti188_ok : tiOf Try.prog 188 = some ti188 := by kernel_rfl
noncomputable def ti189 : TI := ⟨.ptr 3, 1, 8, [.pointer none]⟩
theorem ti189_ok : tiOf Try.prog 189 = some ti189 := by kernel_rfl
noncomputable def ti190 : TI := ⟨.func, 1, 8, [.nilFunc]⟩
theorem ti190_ok : tiOf Try.prog 190 = some ti190 := by kernel_rfl
noncomputable def ti191 : TI := ⟨.func, 1, 8, [.nilFunc]⟩
theorem ti191_ok : tiOf Try.prog 191 = some ti191 := by kernel_rfl
noncomputable def ti192 : TI := ⟨.ptr 209, 1, 8, [.pointer none]⟩
theorem ti192_ok : tiOf Try.prog 192 = some ti192 := by kernel_rfl
noncomputable def ti193 : TI := ⟨.func, 1, 8, [.nilFunc]⟩
theorem ti193_ok : tiOf Try.prog 193 = some ti193 := by kernel_rfl
noncomputable def ti194 : TI := ⟨.func, 1, 8, [.nilFunc]⟩
theorem ti194_ok : tiOf Try.prog 194 = some ti194 := by kernel_rfl
noncomputable def ti195 : TI := ⟨.func, 1, 8, [.nilFunc]⟩
theorem ti195_ok : tiOf Try.prog 195 = some ti195 := by kernel_rfl
noncomputable def ti196 : TI := ⟨.func, 1, 8, [.nilFunc]⟩
theorem ti196_ok : tiOf Try.prog 196 = some ti196 := by kernel_rfl
noncomputable def ti197 : TI := ⟨.array 3 3, 3, 24, [.int .i64 0, .int .i64 0, .int .i64 0]⟩
theorem ti197_ok : tiOf Try.prog 197 = some ti197 := by kernel_rfl
noncomputable def ti198 : TI := ⟨.func, 1, 8, [.nilFunc]⟩
theorem ti198_ok : tiOf Try.prog 198 = some ti198 := by kernel_rfl
noncomputable def ti199 : TI := ⟨.func, 1, 8, [.nilFunc]⟩
theorem ti199_ok : tiOf Try.prog 199 = some ti199 := by kernel_rfl
noncomputable def ti200 : TI := ⟨.func, 1, 8, [.nilFunc]⟩
theorem ti200_ok : tiOf Try.prog 200 = some ti200 := by kernel_rfl
noncomputable def ti201 : TI := ⟨.func, 1, 8, [.nilFunc]⟩
theorem ti201_ok : tiOf Try.prog 201 = some ti201 := by kernel_rfl
noncomputable def ti202 : TI := ⟨.func, 1, 8, [.nilFunc]⟩
theorem ti202_ok : tiOf Try.prog 202 = some ti202 := by kernel_rfl
noncomputable def ti203 : TI := ⟨.func, 1, 8, [.nilFunc]⟩
theorem ti203_ok : tiOf Try.prog 203 = some ti203 := by kernel_rfl
noncomputable def ti204 : TI := ⟨.ptr 185, 1, 8, [.pointer none]⟩
theorem ti204_ok : tiOf Try.prog 204 = some ti204 := by kernel_rfl
noncomputable def ti205 : TI := ⟨.func, 1, 8, [.nilFunc]⟩
theorem ti205_ok : tiOf Try.prog 205 = some ti205 := by kernel_rfl
noncomputable def ti206 : TI := ⟨.map 218 4, 1, 8, [.map none]⟩
theorem ti206_ok : tiOf Try.prog 206 = some ti206 := by kernel_rfl
noncomputable def ti207 : TI := ⟨.slice 210, 1, 24, [.slice none 0 0]⟩
theorem ti207_ok : tiOf Try.prog 207 = some ti207 := by kernel_rfl
noncomputable def ti208 : TI := ⟨.struct [(0, 58), (1, 207), (2, 206)], 3, 40, [.pointer none, .slice none 0 0, .map none]⟩
theorem ti208_ok : tiOf Try.prog 208 = some ti208 := by kernel_rfl
noncomputable def ti209 : TI := ⟨.struct [(0, 58), (1, 207), (2, 206)], 3, 40, [.pointer none, .slice none 0 0, .map none]⟩
theorem ti209_ok : tiOf Try.prog 209 = some ti209 := by kernel_rfl
noncomputable def ti210 : TI := ⟨.slice 212, 1, 24, [.slice none 0 0]⟩
theorem ti210_ok : tiOf Try.prog 210 = some ti210 := by kernel_rfl
noncomputable def ti211 : TI := ⟨.struct [(0, 84), (6, 133)], 7, 144, [.int .i64 0, .string ⟨#[]⟩, .slice none 0 0, .slice none 0 0, .slice none 0 0, .slice none 0 0, .slice none 0 0]⟩
theorem ti211_ok : tiOf Try.prog 211 = some ti211 := by kernel_rfl
noncomputable def ti212 : TI := ⟨.struct [(0, 84), (6, 133)], 7, 144, [.int .i64 0, .string ⟨#[]⟩, .slice none 0 0, .slice none 0 0, .slice none 0 0, .slice none 0 0, .slice none 0 0]⟩
theorem ti212_ok : tiOf Try.prog 212 = some ti212 := by kernel_rfl
noncomputable def ti213 : TI := ⟨.func, 1, 8, [.nilFunc]⟩
theorem ti213_ok : tiOf Try.prog 213 = some ti213 := by kernel_rfl
noncomputable def ti214 : TI := ⟨.func, 1, 8, [.nilFunc]⟩
theorem ti214_ok : tiOf Try.prog 214 = some ti214 := by kernel_rfl
noncomputable def ti215 : TI := ⟨.func, 1, 8, [.nilFunc]⟩
theorem ti215_ok : tiOf Try.prog 215 = some ti215 := by kernel_rfl
noncomputable def ti216 : TI := ⟨.func, 1, 8, [.nilFunc]⟩
theorem ti216_ok : tiOf Try.prog 216 = some ti216 := by kernel_rfl
noncomputable def ti217 : TI := ⟨.struct [(0, 3), (1, 3), (2, 3), (3, 4)], 4, 32, [.int .i64 0, .int .i64 0, .int .i64 0, .bool false]⟩
theorem ti217_ok : tiOf Try.prog 217 = some ti217 := by kernel_rfl
noncomputable def ti218 : TI := ⟨.struct [(0, 3), (1, 3), (2, 3), (3, 4)], 4, 32, [.int .i64 0, .int .i64 0, .int .i64 0, .bool false]⟩
theorem ti218_ok : tiOf Try.prog 218 = some ti218 := by kernel_rfl
noncomputable def ti219 : TI := ⟨.func, 1, 8, [.nilFunc]⟩
theorem ti219_ok : tiOf Try.prog 219 = some ti219 := by kernel_rfl
noncomputable def ti220 : TI := ⟨.func, 1, 8, [.nilFunc]⟩
theorem ti220_ok : tiOf Try.prog 220 = some ti220 := by kernel_rfl
noncomputable def ti222 : TI := ⟨.func, 1, 8, [.nilFunc]⟩
theorem ti222_ok : tiOf Try.prog 222 = some ti222 := by kernel_rfl
noncomputable def ti223 : TI := ⟨.func, 1, 8, [.nilFunc]⟩
theorem ti223_ok : tiOf Try.prog 223 = some ti223 := by kernel_rfl
noncomputable def ti224 : TI := ⟨.func, 1, 8, [.nilFunc]⟩
theorem ti224_ok : tiOf Try.prog 224 = some ti224 := by kernel_rfl
noncomputable def ti225 : TI := ⟨.func, 1, 8, [.nilFunc]⟩
theorem ti225_ok : tiOf Try.prog 225 = some ti225 := by kernel_rfl
noncomputable def ti226 : TI := ⟨.func, 1, 8, [.nilFunc]⟩
theorem ti226_ok : tiOf Try.prog 226 = some ti226 := by kernel_rfl
noncomputable def ti227 : TI := ⟨.func, 1, 8, [.nilFunc]⟩
theorem ti227_ok : tiOf Try.prog 227 = some ti227 := by kernel_rfl
noncomputable def ti228 : TI := ⟨.func, 1, 8, [.nilFunc]⟩
theorem ti228_ok : tiOf Try.prog 228 = some ti228 := by kernel_rfl
noncomputable def ti229 : TI := ⟨.func, 1, 8, [.nilFunc]⟩
theorem ti229_ok : tiOf Try.prog 229 = some ti229 := by kernel_rfl
noncomputable def ti230 : TI := ⟨.func, 1, 8, [.nilFunc]⟩
theorem ti230_ok : tiOf Try.prog 230 = some ti230 := by kernel_rfl
noncomputable def ti231 : TI := ⟨.func, 1, 8, [.nilFunc]⟩
theorem ti231_ok : tiOf Try.prog 231 = some ti231 := by kernel_rfl
noncomputable def ti233 : TI := ⟨.func, 1, 8, [.nilFunc]⟩
theorem ti233_ok : tiOf Try.prog 233 = some ti233 := by kernel_rfl
noncomputable def ti234 : TI := ⟨.struct [(0, 17), (1, 17), (2, 17), (3, 9)], 4, 40, [.pointer none, .pointer none, .pointer none, .string ⟨#[]⟩]⟩
theorem ti234_ok : tiOf Try.prog 234 = some ti234 := by kernel_rfl
noncomputable def ti235 : TI := ⟨.struct [(0, 17), (1, 17), (2, 17), (3, 9)], 4, 40, [.pointer none, .pointer none, .pointer none, .string ⟨#[]⟩]⟩
theorem ti235_ok : tiOf Try.prog 235 = some ti235 := by kernel_rfl
noncomputable def ti236 : TI := ⟨.array 0 16, 0, 0, []⟩
theorem ti236_ok : tiOf Try.prog 236 = some ti236 := by kernel_rfl
noncomputable def ti237 : TI := ⟨.struct [(0, 236)], 0, 0, []⟩
theorem ti237_ok : tiOf Try.prog 237 = some ti237 := by kernel_rfl
noncomputable def ti238 : TI := ⟨.struct [(0, 236)], 0, 0, []⟩
theorem ti238_ok : tiOf Try.prog 238 = some ti238 := by kernel_rfl
noncomputable def ti239 : TI := ⟨.int .u8, 1, 1, [.int .u8 0]⟩
theorem ti239_ok : tiOf Try.prog 239 = some ti239 := by kernel_rfl
noncomputable def ti240 : TI := ⟨.int .u8, 1, 1, [.int .u8 0]⟩
theorem ti240_ok : tiOf Try.prog 240 = some ti240 := by kernel_rfl
noncomputable def ti241 : TI := ⟨.func, 1, 8, [.nilFunc]⟩
theorem ti241_ok : tiOf Try.prog 241 = some ti241 := by kernel_rfl
noncomputable def ti242 : TI := ⟨.ptr 5, 1, 8, [.pointer none]⟩
theorem ti242_ok : tiOf Try.prog 242 = some ti242 := by kernel_rfl
noncomputable def ti243 : TI := ⟨.int .i32, 1, 4, [.int .i32 0]⟩
theorem ti243_ok : tiOf Try.prog 243 = some ti243 := by kernel_rfl
noncomputable def ti244 : TI := ⟨.int .i32, 1, 4, [.int .i32 0]⟩
theorem ti244_ok : tiOf Try.prog 244 = some ti244 := by kernel_rfl
noncomputable def ti245 : TI := ⟨.struct [(0, 12), (1, 12), (2, 169), (3, 239), (4, 5), (5, 5), (6, 240), (7, 241), (8, 242), (9, 243), (10, 244)], 11, 48, [.int .u64 0, .int .u64 0, .int .u32 0, .int .u8 0, .int .u8 0, .int .u8 0, .int .u8 0, .nilFunc, .pointer none, .int .i32 0, .int .i32 0]⟩
theorem ti245_ok : tiOf Try.prog 245 = some ti245 := by kernel_rfl
noncomputable def ti246 : TI := ⟨.struct [(0, 12), (1, 12), (2, 169), (3, 239), (4, 5), (5, 5), (6, 240), (7, 241), (8, 242), (9, 243), (10, 244)], 11, 48, [.int .u64 0, .int .u64 0, .int .u32 0, .int .u8 0, .int .u8 0, .int .u8 0, .int .u8 0, .nilFunc, .pointer none, .int .i32 0, .int .i32 0]⟩
theorem ti246_ok : tiOf Try.prog 246 = some ti246 := by kernel_rfl
noncomputable def tiT : Tr TI := .node none (.node (some ti1) (.node (some ti3) (.node (some ti7) (.node (some ti15) (.node (some ti31) (.node (some ti63) (.node (some ti127) (.leaf) (.leaf)) (.node (some ti191) (.leaf) (.leaf))) (.node (some ti95) (.node (some ti159) (.leaf) (.leaf)) (.node (some ti223) (.leaf) (.leaf)))) (.node (some ti47) (.node (some ti79) (.node (some ti143) (.leaf) (.leaf)) (.node (some ti207) (.leaf) (.leaf))) (.node (some ti111) (.node (some ti175) (.leaf) (.leaf)) (.node (some ti239) (.leaf) (.leaf))))) (.node (some ti23) (.node (some ti39) (.node (some ti71) (.node (some ti135) (.leaf) (.leaf)) (.node (some ti199) (.leaf) (.leaf))) (.node (some ti103) (.node (some ti167) (.leaf) (.leaf)) (.node (some ti231) (.leaf) (.leaf)))) (.node (some ti55) (.node (some ti87) (.node (some ti151) (.leaf) (.leaf)) (.node (some ti215) (.leaf) (.leaf))) (.node none (.node (some ti183) (.leaf) (.leaf)) (.leaf))))) (.node (some ti11) (.node (some ti19) (.node (some ti35) (.node (some ti67) (.node (some ti131) (.leaf) (.leaf)) (.node (some ti195) (.leaf) (.leaf))) (.node (some ti99) (.node (some ti163) (.leaf) (.leaf)) (.node (some ti227) (.leaf) (.leaf)))) (.node (some ti51) (.node (some ti83) (.node (some ti147) (.leaf) (.leaf)) (.node (some ti211) (.leaf) (.leaf))) (.node none (.node (some ti179) (.leaf) (.leaf)) (.node (some ti243) (.leaf) (.leaf))))) (.node (some ti27) (.node (some ti43) (.node (some ti75) (.node (some ti139) (.leaf) (.leaf)) (.node (some ti203) (.leaf) (.leaf))) (.node (some ti107) (.node (some ti171) (.leaf) (.leaf)) (.node (some ti235) (.leaf) (.leaf)))) (.node none (.node (some ti91) (.node (some ti155) (.leaf) (.leaf)) (.node (some ti219) (.leaf) (.leaf))) (.node (some ti123) (.node (some ti187) (.leaf) (.leaf)) (.leaf)))))) (.node (some ti5) (.node (some ti9) (.node (some ti17) (.node (some ti33) (.node (some ti65) (.node (some ti129) (.leaf) (.leaf)) (.node (some ti193) (.leaf) (.leaf))) (.node (some ti97) (.node (some ti161) (.leaf) (.leaf)) (.node (some ti225) (.leaf) (.leaf)))) (.node (some ti49) (.node (some ti81) (.node (some ti145) (.leaf) (.leaf)) (.node (some ti209) (.leaf) (.leaf))) (.node (some ti113) (.node (some ti177) (.leaf) (.leaf)) (.node (some ti241) (.leaf) (.leaf))))) (.node (some ti25) (.node (some ti41) (.node (some ti73) (.node (some ti137) (.leaf) (.leaf)) (.node (some ti201) (.leaf) (.leaf))) (.node (some ti105) (.node (some ti169) (.leaf) (.leaf)) (.node (some ti233) (.leaf) (.leaf)))) (.node (some ti57) (.node (some ti89) (.node (some ti153) (.leaf) (.leaf)) (.node (some ti217) (.leaf) (.leaf))) (.node (some ti121) (.node (some ti185) (.leaf) (.leaf)) (.leaf))))) (.node (some ti13) (.node (some ti21) (.node (some ti37) (.node (some ti69) (.node (some ti133) (.leaf) (.leaf)) (.node (some ti197) (.leaf) (.leaf))) (.node (some ti101) (.node (some ti165) (.leaf) (.leaf)) (.node (some ti229) (.leaf) (.leaf)))) (.node (some ti53) (.node (some ti85) (.node (some ti149) (.leaf) (.leaf)) (.node (some ti213) (.leaf) (.leaf))) (.node (some ti117) (.leaf) (.node (some ti245) (.leaf) (.leaf))))) (.node (some ti29) (.node (some ti45) (.node (some ti77) (.node (some ti141) (.leaf) (.leaf)) (.node (some ti205) (.leaf) (.leaf))) (.node (some ti109) (.node (some ti173) (.leaf) (.leaf)) (.node (some ti237) (.leaf) (.leaf)))) (.node (some ti61) (.node (some ti93) (.node (some ti157) (.leaf) (.leaf)) (.leaf)) (.node (some ti125) (.node (some ti189) (.leaf) (.leaf)) (.leaf))))))) (.node (some ti2) (.node (some ti4) (.node (some ti8) (.node (some ti16) (.node (some ti32) (.node (some ti64) (.node (some ti128) (.leaf) (.leaf)) (.node (some ti192) (.leaf) (.leaf))) (.node (some ti96) (.node (some ti160) (.leaf) (.leaf)) (.node (some ti224) (.leaf) (.leaf)))) (.node (some ti48) (.node (some ti80) (.node (some ti144) (.leaf) (.leaf)) (.node (some ti208) (.leaf) (.leaf))) (.node (some ti112) (.node (some ti176) (.leaf) (.leaf)) (.node (some ti240) (.leaf) (.leaf))))) (.node (some ti24) (.node (some ti40) (.node (some ti72) (.node (some ti136) (.leaf) (.leaf)) (.node (some ti200) (.leaf) (.leaf))) (.node (some ti104) (.node (some ti168) (.leaf) (.leaf)) (.leaf))) (.node (some ti56) (.node (some ti88) (.node (some ti152) (.leaf) (.leaf)) (.node (some ti216) (.leaf) (.leaf))) (.node (some ti120) (.node (some ti184) (.leaf) (.leaf)) (.leaf))))) (.node (some ti12) (.node none (.node (some ti36) (.node (some ti68) (.node (some ti132) (.leaf) (.leaf)) (.node (some ti196) (.leaf) (.leaf))) (.node (some ti100) (.node (some ti164) (.leaf) (.leaf)) (.node (some ti228) (.leaf) (.leaf)))) (.node (some ti52) (.node (some ti84) (.node (some ti148) (.leaf) (.leaf)) (.node (some ti212) (.leaf) (.leaf))) (.node (some ti116) (.node (some ti180) (.leaf) (.leaf)) (.node (some ti244) (.leaf) (.leaf))))) (.node none (.node (some ti44) (.node (some ti76) (.node (some ti140) (.leaf) (.leaf)) (.node (some ti204) (.leaf) (.leaf))) (.node (some ti108) (.node (some ti172) (.leaf) (.leaf)) (.node (some ti236) (.leaf) (.leaf)))) (.node (some ti60) (.node (some ti92) (.node (some ti156) (.leaf) (.leaf)) (.node (some ti220) (.leaf) (.leaf))) (.node (some ti124) (.node (some ti188) (.leaf) (.leaf)) (.leaf)))))) (.node (some ti6) (.node (some ti10) (.node (some ti18) (.node (some ti34) (.node (some ti66) (.node (some ti130) (.leaf) (.leaf)) (.node (some ti194) (.leaf) (.leaf))) (.node (some ti98) (.leaf) (.node (some ti226) (.leaf) (.leaf)))) (.node (some ti50) (.node (some ti82) (.node (some ti146) (.leaf) (.leaf)) (.node (some ti210) (.leaf) (.leaf))) (.node (some ti114) (.node (some ti178) (.leaf) (.leaf)) (.node (some ti242) (.leaf) (.leaf))))) (.node (some ti26) (.node (some ti42) (.node (some ti74) (.node (some ti138) (.leaf) (.leaf)) (.node (some ti202) (.leaf) (.leaf))) (.node none (.node (some ti170) (.leaf) (.leaf)) (.node (some ti234) (.leaf) (.leaf)))) (.node (some ti58) (.node (some ti90) (.node (some ti154) (.leaf) (.leaf)) (.node (some ti218) (.leaf) (.leaf))) (.node (some ti122) (.node (some ti186) (.leaf) (.leaf)) (.leaf))))) (.node (some ti14) (.node (some ti22) (.node (some ti38) (.node (some ti70) (.node (some ti134) (.leaf) (.leaf)) (.node (some ti198) (.leaf) (.leaf))) (.node (some ti102) (.node (some ti166) (.leaf) (.leaf)) (.node (some ti230) (.leaf) (.leaf)))) (.node (some ti54) (.node (some ti86) (.node (some ti150) (.leaf) (.leaf)) (.node (some ti214) (.leaf) (.leaf))) (.node (some ti118) (.node (some ti182) (.leaf) (.leaf)) (.node (some ti246) (.leaf) (.leaf))))) (.node (some ti30) (.node (some ti46) (.node (some ti78) (.node (some ti142) (.leaf) (.leaf)) (.node (some ti206) (.leaf) (.leaf))) (.node (some ti110) (.node (some ti174) (.leaf) (.leaf)) (.node (some ti238) (.leaf) (.leaf)))) (.node (some ti62) (.node (some ti94) (.node (some ti158) (.leaf) (.leaf)) (.node (some ti222) (.leaf) (.leaf))) (.node (some ti126) (.node (some ti190) (.leaf) (.leaf)) (.leaf)))))))
theorem tiT_list : tiT.toL = [(1, ti1), (3, ti3), (7, ti7), (15, ti15), (31, ti31), (63, ti63), (127, ti127), (191, ti191), (95, ti95), (159, ti159), (223, ti223), (47, ti47), (79, ti79), (143, ti143), (207, ti207), (111, ti111), (175, ti175), (239, ti239), (23, ti23), (39, ti39), (71, ti71), (135, ti135), (199, ti199), (103, ti103), (167, ti167), (231, ti231), (55, ti55), (87, ti87), (151, ti151), (215, ti215), (183, ti183), (11, ti11), (19, ti19), (35, ti35), (67, ti67), (131, ti131), (195, ti195), (99, ti99), (163, ti163), (227, ti227), (51, ti51), (83, ti83), (147, ti147), (211, ti211), (179, ti179), (243, ti243), (27, ti27), (43, ti43), (75, ti75), (139, ti139), (203, ti203), (107, ti107), (171, ti171), (235, ti235), (91, ti91), (155, ti155), (219, ti219), (123, ti123), (187, ti187), (5, ti5), (9, ti9), (17, ti17), (33, ti33), (65, ti65), (129, ti129), (193, ti193), (97, ti97), (161, ti161), (225, ti225), (49, ti49), (81, ti81), (145, ti145), (209, ti209), (113, ti113), (177, ti177), (241, ti241), (25, ti25), (41, ti41), (73, ti73), (137, ti137), (201, ti201), (105, ti105), (169, ti169), (233, ti233), (57, ti57), (89, ti89), (153, ti153), (217, ti217), (121, ti121), (185, ti185), (13, ti13), (21, ti21), (37, ti37), (69, ti69), (133, ti133), (197, ti197), (101, ti101), (165, ti165), (229, ti229), (53, ti53), (85, ti85), (149, ti149), (213, ti213), (117, ti117), (245, ti245), (29, ti29), (45, ti45), (77, ti77), (141, ti141), (205, ti205), (109, ti109), (173, ti173), (237, ti237), (61, ti61), (93, ti93), (157, ti157), (125, ti125), (189, ti189), (2, ti2), (4, ti4), (8, ti8), (16, ti16), (32, ti32), (64, ti64), (128, ti128), (192, ti192), (96, ti96), (160, ti160), (224, ti224), (48, ti48), (80, ti80), (144, ti144), (208, ti208), (112, ti112), (176, ti176), (240, ti240), (24, ti24), (40, ti40), (72, ti72), (136, ti136), (200, ti200), (104, ti104), (168, ti168), (56, ti56), (88, ti88), (152, ti152), (216, ti216), (120, ti120), (184, ti184), (12, ti12), (36, ti36), (68, ti68), (132, ti132), (196, ti196), (100, ti100), (164, ti164), (228, ti228), (52, ti52), (84, ti84), (148, ti148), (212, ti212), (116, ti116), (180, ti180), (244, ti244), (44, ti44), (76, ti76), (140, ti140), (204, ti204), (108, ti108), (172, ti172), (236, ti236), (60, ti60), (92, ti92), (156, ti156), (220, ti220), (124, ti124), (188, ti188), (6, ti6), (10, ti10), (18, ti18), (34, ti34), (66, ti66), (130, ti130), (194, ti194), (98, ti98), (226, ti226), (50, ti50), (82, ti82), (146, ti146), (210, ti210), (114, ti114), (178, ti178), (242, ti242), (26, ti26), (42, ti42), (74, ti74), (138, ti138), (202, ti202), (170, ti170), (234, ti234), (58, ti58), (90, ti90), (154, ti154), (218, ti218), (122, ti122), (186, ti186), (14, ti14), (22, ti22), (38, ti38), (70, ti70), (134, ti134), (198, ti198), (102, ti102), (166, ti166), (230, ti230), (54, ti54), (86, ti86), (150, ti150), (214, ti214), (118, ti118), (182, ti182), (246, ti246), (30, ti30), (46, ti46), (78, ti78), (142, ti142), (206, ti206), (110, ti110), (174, ti174), (238, ti238), (62, ti62), (94, ti94), (158, ti158), (222, ti222), (126, ti126), (190, ti190)] := by kernel_rfl
theorem tiT_ok : ∀ t i, tiT.get t = some i → tiOf Try.prog t = some i := by
  refine Tr.all_get (p := fun t i => tiOf Try.prog t = some i) ?_
  rw [tiT_list]
  exact .cons ti1_ok (.cons ti3_ok (.cons ti7_ok (.cons ti15_ok (.cons ti31_ok (.cons ti63_ok (.cons ti127_ok (.cons ti191_ok (.cons ti95_ok (.cons ti159_ok (.cons ti223_ok (.cons ti47_ok (.cons ti79_ok (.cons ti143_ok (.cons ti207_ok (.cons ti111_ok (.cons ti175_ok (.cons ti239_ok (.cons ti23_ok (.cons ti39_ok (.cons ti71_ok (.cons ti135_ok (.cons ti199_ok (.cons ti103_ok (.cons ti167_ok (.cons ti231_ok (.cons ti55_ok (.cons ti87_ok (.cons ti151_ok (.cons ti215_ok (.cons ti183_ok (.cons ti11_ok (.cons ti19_ok (.cons ti35_ok (.cons ti67_ok (.cons ti131_ok (.cons ti195_ok (.cons ti99_ok (.cons ti163_ok (.cons ti227_ok (.cons ti51_ok (.cons ti83_ok (.cons ti147_ok (.cons ti211_ok (.cons ti179_ok (.cons ti243_ok (.cons ti27_ok (.cons ti43_ok (.cons ti75_ok (.cons ti139_ok (.cons ti203_ok (.cons ti107_ok (.cons ti171_ok (.cons ti235_ok (.cons ti91_ok (.cons ti155_ok (.cons ti219_ok (.cons ti123_ok (.cons ti187_ok (.cons ti5_ok (.cons ti9_ok (.cons ti17_ok (.cons ti33_ok (.cons ti65_ok (.cons ti129_ok (.cons ti193_ok (.cons ti97_ok (.cons ti161_ok (.cons ti225_ok (.cons ti49_ok (.cons ti81_ok (.cons ti145_ok (.cons ti209_ok (.cons ti113_ok (.cons ti177_ok (.cons ti241_ok (.cons ti25_ok (.cons ti41_ok (.cons ti73_ok (.cons ti137_ok (.cons ti201_ok (.cons ti105_ok (.cons ti169_ok (.cons ti233_ok (.cons ti57_ok (.cons ti89_ok (.cons ti153_ok (.cons ti217_ok (.cons ti121_ok (.cons ti185_ok (.cons ti13_ok (.cons ti21_ok (.cons ti37_ok (.cons ti69_ok (.cons ti133_ok (.cons ti197_ok (.cons ti101_ok (.cons ti165_ok (.cons ti229_ok (.cons ti53_ok (.cons ti85_ok (.cons ti149_ok (.cons ti213_ok (.cons ti117_ok (.cons ti245_ok (.cons ti29_ok (.cons ti45_ok (.cons ti77_ok (.cons ti141_ok (.cons ti205_ok (.cons ti109_ok (.cons ti173_ok (.cons ti237_ok (.cons ti61_ok (.cons ti93_ok (.cons ti157_ok (.cons ti125_ok (.cons ti189_ok (.cons ti2_ok (.cons ti4_ok (.cons ti8_ok (.cons ti16_ok (.cons ti32_ok (.cons ti64_ok (.cons ti128_ok (.cons ti192_ok (.cons ti96_ok (.cons ti160_ok (.cons ti224_ok (.cons ti48_ok (.cons ti80_ok (.cons ti144_ok (.cons ti208_ok (.cons ti112_ok (.cons ti176_ok (.cons ti240_ok (.cons ti24_ok (.cons ti40_ok (.cons ti72_ok (.cons ti136_ok (.cons ti200_ok (.cons ti104_ok (.cons ti168_ok (.cons ti56_ok (.cons ti88_ok (.cons ti152_ok (.cons ti216_ok (.cons ti120_ok (.cons ti184_ok (.cons ti12_ok (.cons ti36_ok (.cons ti68_ok (.cons ti132_ok (.cons ti196_ok (.cons ti100_ok (.cons ti164_ok (.cons ti228_ok (.cons ti52_ok (.cons ti84_ok (.cons ti148_ok (.cons ti212_ok (.cons ti116_ok (.cons ti180_ok (.cons ti244_ok (.cons ti44_ok (.cons ti76_ok (.cons ti140_ok (.cons ti204_ok (.cons ti108_ok (.cons ti172_ok (.cons ti236_ok (.cons ti60_ok (.cons ti92_ok (.cons ti156_ok (.cons ti220_ok (.cons ti124_ok (.cons ti188_ok (.cons ti6_ok (.cons ti10_ok (.cons ti18_ok (.cons ti34_ok (.cons ti66_ok (.cons ti130_ok (.cons ti194_ok (.cons ti98_ok (.cons ti226_ok (.cons ti50_ok (.cons ti82_ok (.cons ti146_ok (.cons ti210_ok (.cons ti114_ok (.cons ti178_ok (.cons ti242_ok (.cons ti26_ok (.cons ti42_ok (.cons ti74_ok (.cons ti138_ok (.cons ti202_ok (.cons ti170_ok (.cons ti234_ok (.cons ti58_ok (.cons ti90_ok (.cons ti154_ok (.cons ti218_ok (.cons ti122_ok (.cons ti186_ok (.cons ti14_ok (.cons ti22_ok (.cons ti38_ok (.cons ti70_ok (.cons ti134_ok (.cons ti198_ok (.cons ti102_ok (.cons ti166_ok (.cons ti230_ok (.cons ti54_ok (.cons ti86_ok (.cons ti150_ok (.cons ti214_ok (.cons ti118_ok (.cons ti182_ok (.cons ti246_ok (.cons ti30_ok (.cons ti46_ok (.cons ti78_ok (.cons ti142_ok (.cons ti206_ok (.cons ti110_ok (.cons ti174_ok (.cons ti238_ok (.cons ti62_ok (.cons ti94_ok (.cons ti158_ok (.cons ti222_ok (.cons ti126_ok (.cons ti190_ok (.nil))))))))))))))))))))))))))))))))))))))))))))))))))))))))))))))))))))))))))))))))))))))))))))))))))))))))))))))))))))))))))))))))))))))))))))))))))))))))))))))))))))))))))))))))))))))))))))))))))))))))))))))))))))))))))))))))))))))))))))
noncomputable def fnT : Tr Func := .node none (.node none (.node (some Try.f3) (.node (some Try.f7) (.node (some Try.f15) (.node (some Try.f31) (.node (some Try.f63) (.node (some Try.f127) (.leaf) (.leaf)) (.node (some Try.f191) (.leaf) (.leaf))) (.node (some Try.f95) (.node (some Try.f159) (.leaf) (.leaf)) (.leaf))) (.node (some Try.f47) (.node (some Try.f79) (.node (some Try.f143) (.leaf) (.leaf)) (.leaf)) (.node (some Try.f111) (.node (some Try.f175) (.leaf) (.leaf)) (.leaf)))) (.node (some Try.f23) (.node (some Try.f39) (.node (some Try.f71) (.node (some Try.f135) (.leaf) (.leaf)) (.leaf)) (.node (some Try.f103) (.node (some Try.f167) (.leaf) (.leaf)) (.leaf))) (.node (some Try.f55) (.node (some Try.f87) (.node (some Try.f151) (.leaf) (.leaf)) (.leaf)) (.node (some Try.f119) (.node (some Try.f183) (.leaf) (.leaf)) (.leaf))))) (.node (some Try.f11) (.node (some Try.f19) (.node (some Try.f35) (.node (some Try.f67) (.node (some Try.f131) (.leaf) (.leaf)) (.leaf)) (.node (some Try.f99) (.node (some Try.f163) (.leaf) (.leaf)) (.leaf))) (.node (some Try.f51) (.node (some Try.f83) (.node (some Try.f147) (.leaf) (.leaf)) (.leaf)) (.node (some Try.f115) (.node (some Try.f179) (.leaf) (.leaf)) (.leaf)))) (.node (some Try.f27) (.node (some Try.f43) (.node (some Try.f75) (.node (some Try.f139) (.leaf) (.leaf)) (.leaf)) (.node (some Try.f107) (.node (some Try.f171) (.leaf) (.leaf)) (.leaf))) (.node (some Try.f59) (.node (some Try.f91) (.node (some Try.f155) (.leaf) (.leaf)) (.leaf)) (.node (some Try.f123) (.node (some Try.f187) (.leaf) (.leaf)) (.leaf)))))) (.node (some Try.f5) (.node (some Try.f9) (.node (some Try.f17) (.node (some Try.f33) (.node (some Try.f65) (.node (some Try.f129) (.leaf) (.leaf)) (.node (some Try.f193) (.leaf) (.leaf))) (.node (some Try.f97) (.node (some Try.f161) (.leaf) (.leaf)) (.leaf))) (.node (some Try.f49) (.node (some Try.f81) (.node (some Try.f145) (.leaf) (.leaf)) (.leaf)) (.node (some Try.f113) (.node (some Try.f177) (.leaf) (.leaf)) (.leaf)))) (.node (some Try.f25) (.node (some Try.f41) (.node (some Try.f73) (.node (some Try.f137) (.leaf) (.leaf)) (.leaf)) (.node (some Try.f105) (.node (some Try.f169) (.leaf) (.leaf)) (.leaf))) (.node (some Try.f57) (.node (some Try.f89) (.node (some Try.f153) (.leaf) (.leaf)) (.leaf)) (.node (some Try.f121) (.node (some Try.f185) (.leaf) (.leaf)) (.leaf))))) (.node (some Try.f13) (.node (some Try.f21) (.node (some Try.f37) (.node (some Try.f69) (.node (some Try.f133) (.leaf) (.leaf)) (.leaf)) (.node (some Try.f101) (.node (some Try.f165) (.leaf) (.leaf)) (.leaf))) (.node (some Try.f53) (.node (some Try.f85) (.node (some Try.f149) (.leaf) (.leaf)) (.leaf)) (.node (some Try.f117) (.node (some Try.f181) (.leaf) (.leaf)) (.leaf)))) (.node (some Try.f29) (.node (some Try.f45) (.node (some Try.f77) (.node (some Try.f141) (.leaf) (.leaf)) (.leaf)) (.node (some Try.f109) (.node (some Try.f173) (.leaf) (.leaf)) (.leaf))) (.node (some Try.f61) (.node (some Try.f93) (.node (some Try.f157) (.leaf) (.leaf)) (.leaf)) (.node (some Try.f125) (.node (some Try.f189) (.leaf) (.leaf)) (.leaf))))))) (.node none (.node (some Try.f4) (.node (some Try.f8) (.node (some Try.f16) (.node (some Try.f32) (.node (some Try.f64) (.node (some Try.f128) (.leaf) (.leaf)) (.node (some Try.f192) (.leaf) (.leaf))) (.node (some Try.f96) (.node (some Try.f160) (.leaf) (.leaf)) (.leaf))) (.node (some Try.f48) (.node (some Try.f80) (.node (some Try.f144) (.leaf) (.leaf)) (.leaf)) (.node (some Try.f112) (.node (some Try.f176) (.leaf) (.leaf)) (.leaf)))) (.node (some Try.f24) (.node (some Try.f40) (.node (some Try.f72) (.node (some Try.f136) (.leaf) (.leaf)) (.leaf)) (.node (some Try.f104) (.node (some Try.f168) (.leaf) (.leaf)) (.leaf))) (.node (some Try.f56) (.node (some Try.f88) (.node (some Try.f152) (.leaf) (.leaf)) (.leaf)) (.node (some Try.f120) (.node (some Try.f184) (.leaf) (.leaf)) (.leaf))))) (.node (some Try.f12) (.node (some Try.f20) (.node (some Try.f36) (.node (some Try.f68) (.node (some Try.f132) (.leaf) (.leaf)) (.leaf)) (.node (some Try.f100) (.node (some Try.f164) (.leaf) (.leaf)) (.leaf))) (.node (some Try.f52) (.node (some Try.f84) (.node (some Try.f148) (.leaf) (.leaf)) (.leaf)) (.node (some Try.f116) (.node (some Try.f180) (.leaf) (.leaf)) (.leaf)))) (.node (some Try.f28) (.node (some Try.f44) (.node (some Try.f76) (.node (some Try.f140) (.leaf) (.leaf)) (.leaf)) (.node (some Try.f108) (.node (some Try.f172) (.leaf) (.leaf)) (.leaf))) (.node (some Try.f60) (.node (some Try.f92) (.node (some Try.f156) (.leaf) (.leaf)) (.leaf)) (.node (some Try.f124) (.node (some Try.f188) (.leaf) (.leaf)) (.leaf)))))) (.node (some Try.f6) (.node (some Try.f10) (.node (some Try.f18) (.node (some Try.f34) (.node (some Try.f66) (.node (some Try.f130) (.leaf) (.leaf)) (.leaf)) (.node (some Try.f98) (.node (some Try.f162) (.leaf) (.leaf)) (.leaf))) (.node (some Try.f50) (.node (some Try.f82) (.node (some Try.f146) (.leaf) (.leaf)) (.leaf)) (.node (some Try.f114) (.node (some Try.f178) (.leaf) (.leaf)) (.leaf)))) (.node (some Try.f26) (.node (some Try.f42) (.node (some Try.f74) (.node (some Try.f138) (.leaf) (.leaf)) (.leaf)) (.node (some Try.f106) (.node (some Try.f170) (.leaf) (.leaf)) (.leaf))) (.node (some Try.f58) (.node (some Try.f90) (.node (some Try.f154) (.leaf) (.leaf)) (.leaf)) (.node (some Try.f122) (.node (some Try.f186) (.leaf) (.leaf)) (.leaf))))) (.node (some Try.f14) (.node (some Try.f22) (.node (some Try.f38) (.node (some Try.f70) (.node (some Try.f134) (.leaf) (.leaf)) (.leaf)) (.node (some Try.f102) (.node (some Try.f166) (.leaf) (.leaf)) (.leaf))) (.node (some Try.f54) (.node (some Try.f86) (.node (some Try.f150) (.leaf) (.leaf)) (.leaf)) (.node (some Try.f118) (.node (some Try.f182) (.leaf) (.leaf)) (.leaf)))) (.node (some Try.f30) (.node (some Try.f46) (.node (some Try.f78) (.node (some Try.f142) (.leaf) (.leaf)) (.leaf)) (.node (some Try.f110) (.node (some Try.f174) (.leaf) (.leaf)) (.leaf))) (.node (some Try.f62) (.node (some Try.f94) (.node (some Try.f158) (.leaf) (.leaf)) (.leaf)) (.node (some Try.f126) (.node (some Try.f190) (.leaf) (.leaf)) (.leaf)))))))
theorem fnT_list : fnT.toL = [(3, Try.f3), (7, Try.f7), (15, Try.f15), (31, Try.f31), (63, Try.f63), (127, Try.f127), (191, Try.f191), (95, Try.f95), (159, Try.f159), (47, Try.f47), (79, Try.f79), (143, Try.f143), (111, Try.f111), (175, Try.f175), (23, Try.f23), (39, Try.f39), (71, Try.f71), (135, Try.f135), (103, Try.f103), (167, Try.f167), (55, Try.f55), (87, Try.f87), (151, Try.f151), (119, Try.f119), (183, Try.f183), (11, Try.f11), (19, Try.f19), (35, Try.f35), (67, Try.f67), (131, Try.f131), (99, Try.f99), (163, Try.f163), (51, Try.f51), (83, Try.f83), (147, Try.f147), (115, Try.f115), (179, Try.f179), (27, Try.f27), (43, Try.f43), (75, Try.f75), (139, Try.f139), (107, Try.f107), (171, Try.f171), (59, Try.f59), (91, Try.f91), (155, Try.f155), (123, Try.f123), (187, Try.f187), (5, Try.f5), (9, Try.f9), (17, Try.f17), (33, Try.f33), (65, Try.f65), (129, Try.f129), (193, Try.f193), (97, Try.f97), (161, Try.f161), (49, Try.f49), (81, Try.f81), (145, Try.f145), (113, Try.f113), (177, Try.f177), (25, Try.f25), (41, Try.f41), (73, Try.f73), (137, Try.f137), (105, Try.f105), (169, Try.f169), (57, Try.f57), (89, Try.f89), (153, Try.f153), (121, Try.f121), (185, Try.f185), (13, Try.f13), (21, Try.f21), (37, Try.f37), (69, Try.f69), (133, Try.f133), (101, Try.f101), (165, Try.f165), (53, Try.f53), (85, Try.f85), (149, Try.f149), (117, Try.f117), (181, Try.f181), (29, Try.f29), (45, Try.f45), (77, Try.f77), (141, Try.f141), (109, Try.f109), (173, Try.f173), (61, Try.f61), (93, Try.f93), (157, Try.f157), (125, Try.f125), (189, Try.f189), (4, Try.f4), (8, Try.f8), (16, Try.f16), (32, Try.f32), (64, Try.f64), (128, Try.f128), (192, Try.f192), (96, Try.f96), (160, Try.f160), (48, Try.f48), (80, Try.f80), (144, Try.f144), (112, Try.f112), (176, Try.f176), (24, Try.f24), (40, Try.f40), (72, Try.f72), (136, Try.f136), (104, Try.f104), (168, Try.f168), (56, Try.f56), (88, Try.f88), (152, Try.f152), (120, Try.f120), (184, Try.f184), (12, Try.f12), (20, Try.f20), (36, Try.f36), (68, Try.f68), (132, Try.f132), (100, Try.f100), (164, Try.f164), (52, Try.f52), (84, Try.f84), (148, Try.f148), (116, Try.f116), (180, Try.f180), (28, Try.f28), (44, Try.f44), (76, Try.f76), (140, Try.f140), (108, Try.f108), (172, Try.f172), (60, Try.f60), (92, Try.f92), (156, Try.f156), (124, Try.f124), (188, Try.f188), (6, Try.f6), (10, Try.f10), (18, Try.f18), (34, Try.f34), (66, Try.f66), (130, Try.f130), (98, Try.f98), (162, Try.f162), (50, Try.f50), (82, Try.f82), (146, Try.f146), (114, Try.f114), (178, Try.f178), (26, Try.f26), (42, Try.f42), (74, Try.f74), (138, Try.f138), (106, Try.f106), (170, Try.f170), (58, Try.f58), (90, Try.f90), (154, Try.f154), (122, Try.f122), (186, Try.f186), (14, Try.f14), (22, Try.f22), (38, Try.f38), (70, Try.f70), (134, Try.f134), (102, Try.f102), (166, Try.f166), (54, Try.f54), (86, Try.f86), (150, Try.f150), (118, Try.f118), (182, Try.f182), (30, Try.f30), (46, Try.f46), (78, Try.f78), (142, Try.f142), (110, Try.f110), (174, Try.f174), (62, Try.f62), (94, Try.f94), (158, Try.f158), (126, Try.f126), (190, Try.f190)] := by kernel_rfl
def fnP (k : Nat) (f : Func) : Prop := Try.prog.funcs[k]? = some f ∧ (f.name == "runtime.NumGoroutine") = false
theorem fnT_ok : ∀ k f, fnT.get k = some f → Try.prog.funcs[k]? = some f ∧ (f.name == "runtime.NumGoroutine") = false := by
  refine Tr.all_get (p := fnP) ?_
  rw [fnT_list]
  exact .cons ⟨Try.func3, by kernel_rfl⟩ (.cons ⟨Try.func7, by kernel_rfl⟩ (.cons ⟨Try.func15, by kernel_rfl⟩ (.cons ⟨Try.func31, by kernel_rfl⟩ (.cons ⟨Try.func63, by kernel_rfl⟩ (.cons ⟨Try.func127, by kernel_rfl⟩ (.cons ⟨Try.func191, by kernel_rfl⟩ (.cons ⟨Try.func95, by kernel_rfl⟩ (.cons ⟨Try.func159, by kernel_rfl⟩ (.cons ⟨Try.func47, by kernel_rfl⟩ (.cons ⟨Try.func79, by kernel_rfl⟩ (.cons ⟨Try.func143, by kernel_rfl⟩ (.cons ⟨Try.func111, by kernel_rfl⟩ (.cons ⟨Try.func175, by kernel_rfl⟩ (.cons ⟨Try.func23, by kernel_rfl⟩ (.cons ⟨Try.func39, by kernel_rfl⟩ (.cons ⟨Try.func71, by kernel_rfl⟩ (.cons ⟨Try.func135, by kernel_rfl⟩ (.cons ⟨Try.func103, by kernel_rfl⟩ (.cons ⟨Try.func167, by kernel_rfl⟩ (.cons ⟨Try.func55, by kernel_rfl⟩ (.cons ⟨Try.func87, by kernel_rfl⟩ (.cons ⟨Try.func151, by kernel_rfl⟩ (.cons ⟨Try.func119, by kernel_rfl⟩ (.cons ⟨Try.func183, by kernel_rfl⟩ (.cons ⟨Try.func11, by kernel_rfl⟩ (.cons ⟨Try.func19, by kernel_rfl⟩ (.cons ⟨Try.func35, by kernel_rfl⟩ (.cons ⟨Try.func67, by kernel_rfl⟩ (.cons ⟨Try.func131, by kernel_rfl⟩ (.cons ⟨Try.func99, by kernel_rfl⟩ (.cons ⟨Try.func163, by kernel_rfl⟩ (.cons ⟨Try.func51, by kernel_rfl⟩ (.cons ⟨Try.func83, by kernel_rfl⟩ (.cons ⟨Try.func147, by kernel_rfl⟩ (.cons ⟨Try.func115, by kernel_rfl⟩ (.cons ⟨Try.func179, by kernel_rfl⟩ (.cons ⟨Try.func27, by kernel_rfl⟩ (.cons ⟨Try.func43, by kernel_rfl⟩ (.cons ⟨Try.func75, by kernel_rfl⟩ (.cons ⟨Try.func139, by kernel_rfl⟩ (.cons ⟨Try.func107, by kernel_rfl⟩ (.cons ⟨Try.func171, by kernel_rfl⟩ (.cons ⟨Try.func59, by kernel_rfl⟩ (.cons ⟨Try.func91, by kernel_rfl⟩ (.cons ⟨Try.func155, by kernel_rfl⟩ (.cons ⟨Try.func123, by kernel_rfl⟩ (.cons ⟨Try.func187, by kernel_rfl⟩ (.cons ⟨Try.func5, by kernel_rfl⟩ (.cons ⟨Try.func9, by kernel_rfl⟩ (.cons ⟨Try.func17, by kernel_rfl⟩ (.cons ⟨Try.func33, by kernel_rfl⟩ (.cons ⟨Try.func65, by kernel_rfl⟩ (.cons ⟨Try.func129, by kernel_rfl⟩ (.cons ⟨Try.func193, by kernel_rfl⟩ (.cons ⟨Try.func97, by kernel_rfl⟩ (.cons ⟨Try.func161, by kernel_rfl⟩ (.cons ⟨Try.func49, by kernel_rfl⟩ (.cons ⟨Try.func81, by kernel_rfl⟩ (.cons ⟨Try.func145, by kernel_rfl⟩ (.cons ⟨Try.func113, by kernel_rfl⟩ (.cons ⟨Try.func177, by kernel_rfl⟩ (.cons ⟨Try.func25, by kernel_rfl⟩ (.cons ⟨Try.func41, by kernel_rfl⟩ (.cons ⟨Try.func73, by kernel_rfl⟩ (.cons ⟨Try.func137, by kernel_rfl⟩ (.cons ⟨Try.func105, by kernel_rfl⟩ (.cons ⟨Try.func169, by kernel_rfl⟩ (.cons ⟨Try.func57, by kernel_rfl⟩ (.cons ⟨Try.func89, by kernel_rfl⟩ (.cons ⟨Try.func153, by kernel_rfl⟩ (.cons ⟨Try.func121, by kernel_rfl⟩ (.cons ⟨Try.func185, by kernel_rfl⟩ (.cons ⟨Try.func13, by kernel_rfl⟩ (.cons ⟨Try.func21, by kernel_rfl⟩ (.cons ⟨Try.func37, by kernel_rfl⟩ (.cons ⟨Try.func69, by kernel_rfl⟩ (.cons ⟨Try.func133, by kernel_rfl⟩ (.cons ⟨Try.func101, by kernel_rfl⟩ (.cons ⟨Try.func165, by kernel_rfl⟩ (.cons ⟨Try.func53, by kernel_rfl⟩ (.cons ⟨Try.func85, by kernel_rfl⟩ (.cons ⟨Try.func149, by kernel_rfl⟩ (.cons ⟨Try.func117, by kernel_rfl⟩ (.cons ⟨Try.func181, by kernel_rfl⟩ (.cons ⟨Try.func29, by kernel_rfl⟩ (.cons ⟨Try.func45, by kernel_rfl⟩ (.cons ⟨Try.func77, by kernel_rfl⟩ (.cons ⟨Try.func141, by kernel_rfl⟩ (.cons ⟨Try.func109, by kernel_rfl⟩ (.cons ⟨Try.func173, by kernel_rfl⟩ (.cons ⟨Try.func61, by kernel_rfl⟩ (.cons ⟨Try.func93, by kernel_rfl⟩ (.cons ⟨Try.func157, by kernel_rfl⟩ (.cons ⟨Try.func125, by kernel_rfl⟩ (.cons ⟨Try.func189, by kernel_rfl⟩ (.cons ⟨Try.func4, by kernel_rfl⟩ (.cons ⟨Try.func8, by kernel_rfl⟩ (.cons ⟨Try.func16, by kernel_rfl⟩ (.cons ⟨Try.func32, by kernel_rfl⟩ (.cons ⟨Try.func64, by kernel_rfl⟩ (.cons ⟨Try.func128, by kernel_rfl⟩ (.cons ⟨Try.func192, by kernel_rfl⟩ (.cons ⟨Try.func96, by kernel_rfl⟩ (.cons ⟨Try.func160, by kernel_rfl⟩ (.cons ⟨Try.func48, by kernel_rfl⟩ (.cons ⟨Try.func80, by kernel_rfl⟩ (.cons ⟨Try.func144, by kernel_rfl⟩ (.cons ⟨Try.func112, by kernel_rfl⟩ (.cons ⟨Try.func176, by kernel_rfl⟩ (.cons ⟨Try.func24, by kernel_rfl⟩ (.cons ⟨Try.func40, by kernel_rfl⟩ (.cons ⟨Try.func72, by kernel_rfl⟩ (.cons ⟨Try.func136, by kernel_rfl⟩ (.cons ⟨Try.func104, by kernel_rfl⟩ (.cons ⟨Try.func168, by kernel_rfl⟩ (.cons ⟨Try.func56, by kernel_rfl⟩ (.cons ⟨Try.func88, by kernel_rfl⟩ (.cons ⟨Try.func152, by kernel_rfl⟩ (.cons ⟨Try.func120, by kernel_rfl⟩ (.cons ⟨Try.func184, by kernel_rfl⟩ (.cons ⟨Try.func12, by kernel_rfl⟩ (.cons ⟨Try.func20, by kernel_rfl⟩ (.cons ⟨Try.func36, by kernel_rfl⟩ (.cons ⟨Try.func68, by kernel_rfl⟩ (.cons ⟨Try.func132, by kernel_rfl⟩ (.cons ⟨Try.func100, by kernel_rfl⟩ (.cons ⟨Try.func164, by kernel_rfl⟩ (.cons ⟨Try.func52, by kernel_rfl⟩ (.cons ⟨Try.func84, by kernel_rfl⟩ (.cons ⟨Try.func148, by kernel_rfl⟩ (.cons ⟨Try.func116, by kernel_rfl⟩ (.cons ⟨Try.func180, by kernel_rfl⟩ (.cons ⟨Try.func28, by kernel_rfl⟩ (.cons ⟨Try.func44, by kernel_rfl⟩ (.cons ⟨Try.func76, by kernel_rfl⟩ (.cons ⟨Try.func140, by kernel_rfl⟩ (.cons ⟨Try.func108, by kernel_rfl⟩ (.cons ⟨Try.func172, by kernel_rfl⟩ (.cons ⟨Try.func60, by kernel_rfl⟩ (.cons ⟨Try.func92, by kernel_rfl⟩ (.cons ⟨Try.func156, by kernel_rfl⟩ (.cons ⟨Try.func124, by kernel_rfl⟩ (.cons ⟨Try.func188, by kernel_rfl⟩ (.cons ⟨Try.func6, by kernel_rfl⟩ (.cons ⟨Try.func10, by kernel_rfl⟩ (.cons ⟨Try.func18, by kernel_rfl⟩ (.cons ⟨Try.func34, by kernel_rfl⟩ (.cons ⟨Try.func66, by kernel_rfl⟩ (.cons ⟨Try.func130, by kernel_rfl⟩ (.cons ⟨Try.func98, by kernel_rfl⟩ (.cons ⟨Try.func162, by kernel_rfl⟩ (.cons ⟨Try.func50, by kernel_rfl⟩ (.cons ⟨Try.func82, by kernel_rfl⟩ (.cons ⟨Try.func146, by kernel_rfl⟩ (.cons ⟨Try.func114, by kernel_rfl⟩ (.cons ⟨Try.func178, by kernel_rfl⟩ (.cons ⟨Try.func26, by kernel_rfl⟩ (.cons ⟨Try.func42, by kernel_rfl⟩ (.cons ⟨Try.func74, by kernel_rfl⟩ (.cons ⟨Try.func138, by kernel_rfl⟩ (.cons ⟨Try.func106, by kernel_rfl⟩ (.cons ⟨Try.func170, by kernel_rfl⟩ (.cons ⟨Try.func58, by kernel_rfl⟩ (.cons ⟨Try.func90, by kernel_rfl⟩ (.cons ⟨Try.func154, by kernel_rfl⟩ (.cons ⟨Try.func122, by kernel_rfl⟩ (.cons ⟨Try.func186, by kernel_rfl⟩ (.cons ⟨Try.func14, by kernel_rfl⟩ (.cons ⟨Try.func22, by kernel_rfl⟩ (.cons ⟨Try.func38, by kernel_rfl⟩ (.cons ⟨Try.func70, by kernel_rfl⟩ (.cons ⟨Try.func134, by kernel_rfl⟩ (.cons ⟨Try.func102, by kernel_rfl⟩ (.cons ⟨Try.func166, by kernel_rfl⟩ (.cons ⟨Try.func54, by kernel_rfl⟩ (.cons ⟨Try.func86, by kernel_rfl⟩ (.cons ⟨Try.func150, by kernel_rfl⟩ (.cons ⟨Try.func118, by kernel_rfl⟩ (.cons ⟨Try.func182, by kernel_rfl⟩ (.cons ⟨Try.func30, by kernel_rfl⟩ (.cons ⟨Try.func46, by kernel_rfl⟩ (.cons ⟨Try.func78, by kernel_rfl⟩ (.cons ⟨Try.func142, by kernel_rfl⟩ (.cons ⟨Try.func110, by kernel_rfl⟩ (.cons ⟨Try.func174, by kernel_rfl⟩ (.cons ⟨Try.func62, by kernel_rfl⟩ (.cons ⟨Try.func94, by kernel_rfl⟩ (.cons ⟨Try.func158, by kernel_rfl⟩ (.cons ⟨Try.func126, by kernel_rfl⟩ (.cons ⟨Try.func190, by kernel_rfl⟩ (.nil)))))))))))))))))))))))))))))))))))))))))))))))))))))))))))))))))))))))))))))))))))))))))))))))))))))))))))))))))))))))))))))))))))))))))))))))))))))))))))))))))))))))))))))))))))))))))))))))
noncomputable def ky7 : List KK := [.int .i64, .int .i64, .bool, .int .u8]
theorem ky7_ok : keysOf Try.prog 7 = some ky7 := by kernel_rfl
noncomputable def ky8 : List KK := [.int .i64, .int .i64, .bool, .int .u8]
theorem ky8_ok : keysOf Try.prog 8 = some ky8 := by kernel_rfl
noncomputable def ky64 : List KK := [.int .i64, .int .i64]
theorem ky64_ok : keysOf Try.prog 64 = some ky64 := by kernel_rfl
noncomputable def ky65 : List KK := [.int .i64, .int .i64]
theorem ky65_ok : keysOf Try.prog 65 = some ky65 := by kernel_rfl
noncomputable def ky66 : List KK := [.int .i64, .int .i64, .int .i64, .int .i64, .int .i64, .int .i64, .int .i64, .int .i64, .int .i64, .int .i64, .int .i64, .int .i64, .int .i64, .int .i64, .int .i64, .int .i64]
theorem ky66_ok : keysOf Try.prog 66 = some ky66 := by kernel_rfl
noncomputable def ky72 : List KK := [.string, .string]
theorem ky72_ok : keysOf Try.prog 72 = some ky72 := by kernel_rfl
noncomputable def ky73 : List KK := [.string, .string]
theorem ky73_ok : keysOf Try.prog 73 = some ky73 := by kernel_rfl
noncomputable def ky98 : List KK := [.int .i64, .string]
theorem ky98_ok : keysOf Try.prog 98 = some ky98 := by kernel_rfl
noncomputable def ky99 : List KK := [.int .i64, .string]
theorem ky99_ok : keysOf Try.prog 99 = some ky99 := by kernel_rfl
noncomputable def ky113 : List KK := [.int .i64, .int .i64, .int .i64, .int .i64, .int .i64, .int .i64, .int .i64, .int .i64]
theorem ky113_ok : keysOf Try.prog 113 = some ky113 := by kernel_rfl
noncomputable def ky114 : List KK := [.bool, .bool, .bool, .bool, .bool, .bool, .bool, .bool]
theorem ky114_ok : keysOf Try.prog 114 = some ky114 := by kernel_rfl
noncomputable def ky117 : List KK := [.int .i64, .int .i64, .int .i64, .bool]
theorem ky117_ok : keysOf Try.prog 117 = some ky117 := by kernel_rfl
noncomputable def ky118 : List KK := [.int .i64, .int .i64, .int .i64, .bool]
theorem ky118_ok : keysOf Try.prog 118 = some ky118 := by kernel_rfl
noncomputable def ky130 : List KK := [.string, .int .i64, .string]
theorem ky130_ok : keysOf Try.prog 130 = some ky130 := by kernel_rfl
noncomputable def ky131 : List KK := [.string, .int .i64, .string]
theorem ky131_ok : keysOf Try.prog 131 = some ky131 := by kernel_rfl
noncomputable def ky155 : List KK := [.int .i64, .string, .int .i64, .bool, .int .i64]
theorem ky155_ok : keysOf Try.prog 155 = some ky155 := by kernel_rfl
noncomputable def ky156 : List KK := [.int .i64, .string, .int .i64, .bool, .int .i64]
theorem ky156_ok : keysOf Try.prog 156 = some ky156 := by kernel_rfl
noncomputable def ky197 : List KK := [.int .i64, .int .i64, .int .i64]
theorem ky197_ok : keysOf Try.prog 197 = some ky197 := by kernel_rfl
noncomputable def ky217 : List KK := [.int .i64, .int .i64, .int .i64, .bool]
theorem ky217_ok : keysOf Try.prog 217 = some ky217 := by kernel_rfl
noncomputable def ky218 : List KK := [.int .i64, .int .i64, .int .i64, .bool]
theorem ky218_ok : keysOf Try.prog 218 = some ky218 := by kernel_rfl
noncomputable def kyT : Tr (List KK) := .node none (.node none (.node none (.node (some ky7) (.leaf) (.leaf)) (.node none (.node none (.node none (.node none (.node (some ky131) (.leaf) (.leaf)) (.leaf)) (.node (some ky99) (.leaf) (.leaf))) (.leaf)) (.node none (.leaf) (.node none (.node none (.node (some ky155) (.leaf) (.leaf)) (.leaf)) (.leaf))))) (.node none (.node none (.node none (.node none (.node (some ky65) (.leaf) (.leaf)) (.leaf)) (.node none (.leaf) (.node (some ky113) (.leaf) (.leaf)))) (.node none (.node none (.node (some ky73) (.leaf) (.leaf)) (.leaf)) (.node none (.node none (.leaf) (.node (some ky217) (.leaf) (.leaf))) (.leaf)))) (.node none (.node none (.node none (.node none (.leaf) (.node (some ky197) (.leaf) (.leaf))) (.leaf)) (.node none (.leaf) (.node (some ky117) (.leaf) (.leaf)))) (.leaf)))) (.node none (.node none (.node (some ky8) (.node none (.node none (.node (some ky64) (.leaf) (.leaf)) (.leaf)) (.leaf)) (.node none (.node none (.node (some ky72) (.leaf) (.leaf)) (.leaf)) (.leaf))) (.node none (.leaf) (.node none (.leaf) (.node none (.node none (.node (some ky156) (.leaf) (.leaf)) (.leaf)) (.leaf))))) (.node none (.node none (.node none (.node none (.node (some ky66) (.node (some ky130) (.leaf) (.leaf)) (.leaf)) (.node (some ky98) (.leaf) (.leaf))) (.node none (.leaf) (.node (some ky114) (.leaf) (.leaf)))) (.node none (.leaf) (.node none (.node none (.leaf) (.node (some ky218) (.leaf) (.leaf))) (.leaf)))) (.node none (.node none (.leaf) (.node none (.leaf) (.node (some ky118) (.leaf) (.leaf)))) (.leaf))))
theorem kyT_list : kyT.toL = [(7, ky7), (131, ky131), (99, ky99), (155, ky155), (65, ky65), (113, ky113), (73, ky73), (217, ky217), (197, ky197), (117, ky117), (8, ky8), (64, ky64), (72, ky72), (156, ky156), (66, ky66), (130, ky130), (98, ky98), (114, ky114), (218, ky218), (118, ky118)] := by kernel_rfl
theorem kyT_ok : ∀ t ks, kyT.get t = some ks → KeyOk Try.prog t ks := by
  refine Tr.all_get (p := fun t ks => KeyOk Try.prog t ks) ?_
  rw [kyT_list]
  exact .cons (keysOf_ok ky7_ok) (.cons (keysOf_ok ky131_ok) (.cons (keysOf_ok ky99_ok) (.cons (keysOf_ok ky155_ok) (.cons (keysOf_ok ky65_ok) (.cons (keysOf_ok ky113_ok) (.cons (keysOf_ok ky73_ok) (.cons (keysOf_ok ky217_ok) (.cons (keysOf_ok ky197_ok) (.cons (keysOf_ok ky117_ok) (.cons (keysOf_ok ky8_ok) (.cons (keysOf_ok ky64_ok) (.cons (keysOf_ok ky72_ok) (.cons (keysOf_ok ky156_ok) (.cons (keysOf_ok ky66_ok) (.cons (keysOf_ok ky130_ok) (.cons (keysOf_ok ky98_ok) (.cons (keysOf_ok ky114_ok) (.cons (keysOf_ok ky218_ok) (.cons (keysOf_ok ky118_ok) (.nil))))))))))))))))))))
noncomputable def CX (σ : Sig) (kn : List (BExp × Bool)) (hkn : Known σ kn) : Ctx Try.prog := ⟨tiT.get, tiT_ok, kyT.get, kyT_ok, σ, kn, hkn⟩
theorem mixed : Try.prog.follows .mixedOrders = true := by kernel_rfl
end Go.Proofs.Ytaoegkmfgfefgaa.Ev
namespace Go.Proofs.Ytaoegkmfgfefgaa.Ev
set_option maxRecDepth 100000
set_option maxHeartbeats 4000000
abbrev n_law12_BucketParts : Nat := 6
abbrev n_law10_Dear : Nat := 13
abbrev n_law12_Dear : Nat := 20
abbrev n_law12_alive : Nat := 23
abbrev n_bucket_New : Nat := 24
abbrev n_ref9_SameInts : Nat := 25
abbrev n_bucket_Map_For : Nat := 26
abbrev n_bucket_Map_Len : Nat := 28
abbrev n_law10_Sels : Nat := 36
abbrev n_law10_dear : Nat := 37
abbrev n_bucket_lists_bucket_key_int_put : Nat := 45
abbrev n_bucket_of : Nat := 46
abbrev n_slices_Concat_int_int : Nat := 47
abbrev n_slices_Sort_int_int : Nat := 48
abbrev n_slices_Compact_int_int : Nat := 49
abbrev n_slices_Grow_int_int : Nat := 67
abbrev T_int : Nat := 3
abbrev T_bool : Nat := 4
abbrev T_string : Nat := 9
abbrev T_sl_api_Node : Nat := 22
abbrev T_sl_api_Selector : Nat := 23
abbrev T_sl_string : Nat := 30
abbrev T_sl_api_Pair : Nat := 31
abbrev T_api_Node : Nat := 33
abbrev T_sl_api_Part : Nat := 37
abbrev T_api_Selector : Nat := 39
abbrev T_sl_api_Rule : Nat := 42
abbrev T_api_Value : Nat := 65
abbrev T_api_Pair : Nat := 73
abbrev T_sl_api_Attr : Nat := 79
abbrev T_sl_api_Pseudo : Nat := 80
abbrev T_api_Compound : Nat := 82
abbrev T_api_Part : Nat := 84
abbrev T_sl_api_Set : Nat := 87
abbrev T_api_Rule : Nat := 89
abbrev T_api_Set : Nat := 118
abbrev T_api_Pseudo : Nat := 126
abbrev T_api_Attr : Nat := 131
theorem T_int_is : ∃ i, tiT.get T_int = some i ∧ i.d = .int .i64 ∧ i.size = 1 := ⟨_, (by kernel_rfl : tiT.get T_int = some ti3), by kernel_rfl, by kernel_rfl⟩
theorem T_bool_is : ∃ i, tiT.get T_bool = some i ∧ i.d = .bool ∧ i.size = 1 := ⟨_, (by kernel_rfl : tiT.get T_bool = some ti4), by kernel_rfl, by kernel_rfl⟩
theorem T_string_is : ∃ i, tiT.get T_string = some i ∧ i.d = .string ∧ i.size = 1 := ⟨_, (by kernel_rfl : tiT.get T_string = some ti9), by kernel_rfl, by kernel_rfl⟩
theorem T_sl_api_Selector_is : ∃ i, tiT.get T_sl_api_Selector = some i ∧ i.d = .slice T_api_Selector ∧ i.size = 1 := ⟨_, (by kernel_rfl : tiT.get T_sl_api_Selector = some ti23), by kernel_rfl, by kernel_rfl⟩
theorem T_sl_string_is : ∃ i, tiT.get T_sl_string = some i ∧ i.d = .slice T_string ∧ i.size = 1 := ⟨_, (by kernel_rfl : tiT.get T_sl_string = some ti30), by kernel_rfl, by kernel_rfl⟩
theorem T_sl_api_Pair_is : ∃ i, tiT.get T_sl_api_Pair = some i ∧ i.d = .slice T_api_Pair ∧ i.size = 1 := ⟨_, (by kernel_rfl : tiT.get T_sl_api_Pair = some ti31), by kernel_rfl, by kernel_rfl⟩
theorem T_api_Node_is : ∃ i, tiT.get T_api_Node = some i ∧ i.d = .struct [(0, T_int), (1, T_string), (2, T_string), (3, T_sl_string), (4, T_sl_api_Pair)] ∧ i.size = 5 := ⟨_, (by kernel_rfl : tiT.get T_api_Node = some ti33), by kernel_rfl, by kernel_rfl⟩
theorem T_sl_api_Part_is : ∃ i, tiT.get T_sl_api_Part = some i ∧ i.d = .slice T_api_Part ∧ i.size = 1 := ⟨_, (by kernel_rfl : tiT.get T_sl_api_Part = some ti37), by kernel_rfl, by kernel_rfl⟩
theorem T_api_Selector_is : ∃ i, tiT.get T_api_Selector = some i ∧ i.d = .struct [(0, T_sl_api_Part)] ∧ i.size = 1 := ⟨_, (by kernel_rfl : tiT.get T_api_Selector = some ti39), by kernel_rfl, by kernel_rfl⟩
theorem T_sl_api_Rule_is : ∃ i, tiT.get T_sl_api_Rule = some i ∧ i.d = .slice T_api_Rule ∧ i.size = 1 := ⟨_, (by kernel_rfl : tiT.get T_sl_api_Rule = some ti42), by kernel_rfl, by kernel_rfl⟩
theorem T_api_Value_is : ∃ i, tiT.get T_api_Value = some i ∧ i.d = .struct [(0, T_int), (1, T_int)] ∧ i.size = 2 := ⟨_, (by kernel_rfl : tiT.get T_api_Value = some ti65), by kernel_rfl, by kernel_rfl⟩
theorem T_api_Pair_is : ∃ i, tiT.get T_api_Pair = some i ∧ i.d = .struct [(0, T_string), (1, T_string)] ∧ i.size = 2 := ⟨_, (by kernel_rfl : tiT.get T_api_Pair = some ti73), by kernel_rfl, by kernel_rfl⟩
theorem T_sl_api_Attr_is : ∃ i, tiT.get T_sl_api_Attr = some i ∧ i.d = .slice T_api_Attr ∧ i.size = 1 := ⟨_, (by kernel_rfl : tiT.get T_sl_api_Attr = some ti79), by kernel_rfl, by kernel_rfl⟩
theorem T_sl_api_Pseudo_is : ∃ i, tiT.get T_sl_api_Pseudo = some i ∧ i.d = .slice T_api_Pseudo ∧ i.size = 1 := ⟨_, (by kernel_rfl : tiT.get T_sl_api_Pseudo = some ti80), by kernel_rfl, by kernel_rfl⟩
theorem T_api_Compound_is : ∃ i, tiT.get T_api_Compound = some i ∧ i.d = .struct [(0, T_string), (1, T_sl_string), (2, T_sl_string), (3, T_sl_api_Attr), (4, T_sl_api_Pseudo)] ∧ i.size = 5 := ⟨_, (by kernel_rfl : tiT.get T_api_Compound = some ti82), by kernel_rfl, by kernel_rfl⟩
theorem T_api_Part_is : ∃ i, tiT.get T_api_Part = some i ∧ i.d = .struct [(0, T_int), (1, T_api_Compound)] ∧ i.size = 6 := ⟨_, (by kernel_rfl : tiT.get T_api_Part = some ti84), by kernel_rfl, by kernel_rfl⟩
theorem T_sl_api_Set_is : ∃ i, tiT.get T_sl_api_Set = some i ∧ i.d = .slice T_api_Set ∧ i.size = 1 := ⟨_, (by kernel_rfl : tiT.get T_sl_api_Set = some ti87), by kernel_rfl, by kernel_rfl⟩
theorem T_api_Rule_is : ∃ i, tiT.get T_api_Rule = some i ∧ i.d = .struct [(0, T_sl_api_Selector), (1, T_sl_api_Set)] ∧ i.size = 2 := ⟨_, (by kernel_rfl : tiT.get T_api_Rule = some ti89), by kernel_rfl, by kernel_rfl⟩
theorem T_api_Set_is : ∃ i, tiT.get T_api_Set = some i ∧ i.d = .struct [(0, T_int), (1, T_api_Value), (3, T_bool)] ∧ i.size = 4 := ⟨_, (by kernel_rfl : tiT.get T_api_Set = some ti118), by kernel_rfl, by kernel_rfl⟩
theorem T_api_Pseudo_is : ∃ i, tiT.get T_api_Pseudo = some i ∧ i.d = .struct [(0, T_int), (1, T_int), (2, T_int), (3, T_sl_api_Selector)] ∧ i.size = 4 := ⟨_, (by kernel_rfl : tiT.get T_api_Pseudo = some ti126), by kernel_rfl, by kernel_rfl⟩
theorem T_api_Attr_is : ∃ i, tiT.get T_api_Attr = some i ∧ i.d = .struct [(0, T_string), (1, T_int), (2, T_string)] ∧ i.size = 3 := ⟨_, (by kernel_rfl : tiT.get T_api_Attr = some ti131), by kernel_rfl, by kernel_rfl⟩
end Go.Proofs.Ytaoegkmfgfefgaa.Ev
namespace Go.Proofs.Ytaoegkmfgfefgaa.Ev
set_option maxRecDepth 100000
set_option maxHeartbeats 4000000
set_option linter.unusedVariables false
variable {σ : Sig}
noncomputable def law12_BucketParts.code : Code := bodyOf Try.f6
noncomputable def law12_BucketParts.L0 (σ : Sig) (K : AV → Hp → Prop) (y0 y5 y10 y11 y12 y13 y14 y15 : AV) (H : Hp) : Prop := ∀ js : Nat → AV, LoopP (CX σ [] known_nil) (lB (bB (sR (sL (sR (sR (sR (sR (sR (sR (sR (sR (sR (sR law12_BucketParts.code)))))))))))))) [y0, js 1, js 2, js 3, js 4, y5, js 6, js 7, js 8, js 9, y10, y11, y12, y13, y14, y15, js 16, js 17, js 18, js 19, js 20, js 21, js 22, js 23, js 24, js 25, js 26, js 27, js 28, js 29, js 30, js 31, js 32, js 33, js 34, js 35, js 36, js 37, js 38, js 39, js 40, js 41, js 42, js 43, js 44, js 45, js 46, js 47, js 48, js 49, js 50, js 51, js 52, js 53, js 54, js 55, js 56, js 57, js 58, js 59, js 60, js 61, js 62, js 63, js 64, js 65, js 66, js 67, js 68, js 69, js 70, js 71, js 72, js 73, js 74, js 75, js 76, js 77] H (fun e T1 H1 => (nx (fnQ (CX σ [] known_nil).ti Try.f6.results.toList K) fun T1 H1 => wp (CX σ [] known_nil) 64545 (sR (sR (sR (sR (sR (sR (sR (sR (sR (sR (sR law12_BucketParts.code))))))))))) T1 H1 (fnQ (CX σ [] known_nil).ti Try.f6.results.toList K)) (unblock 0 e) T1 H1)
theorem law12_BucketParts.L0_step {K : AV → Hp → Prop} {y0 y5 y10 y11 y12 y13 y14 y15 : AV} {H : Hp} (h : bnd (lenSl y14) fun x1 => bnd (binR .lss y15 x1) fun x2 => ifB x2 (bnd (lenSl y0) fun x3 => bnd (ixaSl 1 y14 y15) fun x4 => bnd (ldA false 1 H x4) fun x5 => bnd (binR .add x3 x5) fun x6 => bnd (bldSlR [.int .i64 0] 1 1 H [(0, 1, x6)]) fun p7 => bnd (appR false 1 8 p7.2 y13 p7.1) fun p8 => bnd (binR .add y15 (.lit (.int .i64 1))) fun x9 => law12_BucketParts.L0 σ K y0 y5 y10 y11 y12 p8.1 y14 x9 p8.2) (bnd (ldA true 5 H y5) fun x10 => callK Try.prog σ n_bucket_Map_For [y12, x10] H fun x11 H12 => callK Try.prog σ n_ref9_SameInts [x11, y13] H12 fun x13 H14 => ifB x13 (callK Try.prog σ n_bucket_Map_Len [y12] H14 fun x15 H16 => callK Try.prog σ n_bucket_Map_Len [y10] H16 fun x17 H18 => callK Try.prog σ n_bucket_Map_Len [y11] H18 fun x19 H20 => bnd (binR .add x17 x19) fun x21 => bnd (binR .eql x15 x21) fun x22 => K x22 H20) (K (.lit (.bool false)) H14))) : law12_BucketParts.L0 σ K y0 y5 y10 y11 y12 y13 y14 y15 H :=
  fun js => LoopP.round (CX σ [] known_nil) mixed (g := 64545) (Eq.mpr (by kernel_rfl) h)
theorem law12_BucketParts.run {a0 a1 a2 : AV} {H : Hp} {K : AV → Hp → Prop} (h : boxK a2 H fun x1 H2 => callK Try.prog σ n_law12_alive [] H2 fun x3 H4 => bnd (appR false 2 48 H4 (.lit (.slice none 0 0)) a0) fun p5 => bnd (appR false 2 48 p5.2 p5.1 a1) fun p6 => callK Try.prog σ n_law12_Dear [p6.1] p6.2 fun x7 H8 => bnd (unR .not x3) fun x9 => ifB x9 (K x3 H8) (ifB x7 (K x3 H8) (bnd (shiftA x1 3) fun x10 => bnd (ldA false 1 H8 x10) fun x11 => bnd (lenSl x11) fun x12 => bnd (binR .gtr x12 (.lit (.int .i64 20))) fun x13 => ifB x13 (K x3 H8) (callK Try.prog σ n_bucket_New [a0] H8 fun x14 H15 => callK Try.prog σ n_bucket_New [a1] H15 fun x16 H17 => callK Try.prog σ n_bucket_New [p6.1] H17 fun x18 H19 => bnd (ldA true 5 H19 x1) fun x20 => callK Try.prog σ n_bucket_Map_For [x14, x20] H19 fun x21 H22 => bnd (ldA true 5 H22 x1) fun x23 => callK Try.prog σ n_bucket_Map_For [x16, x23] H22 fun x24 H25 => law12_BucketParts.L0 σ K a0 x1 x14 x16 x18 x21 x24 (.lit (.int .i64 0)) H25)))) : ∃ r H1, Good Try.prog σ n_law12_BucketParts [a0, a1, a2] H r H1 ∧ K r H1 :=
  good_of_wp (CX σ [] known_nil) mixed 64545 (fn := Try.f6) (f := n_law12_BucketParts) (c := law12_BucketParts.code) (fnT_ok 6 _ (by kernel_rfl)).1 (by kernel_rfl) (fnT_ok 6 _ (by kernel_rfl)).2 (Eq.mpr (by kernel_rfl) h)
noncomputable def law10_Dear.code : Code := bodyOf Try.f13
theorem law10_Dear.run {a0 : AV} {H : Hp} {K : AV → Hp → Prop} (h : callK Try.prog σ n_law10_dear [a0, (.lit (.int .i64 0))] H fun x1 H2 => bnd (binR .gtr x1 (.lit (.int .i64 40))) fun x3 => K x3 H2) : ∃ r H1, Good Try.prog σ n_law10_Dear [a0] H r H1 ∧ K r H1 :=
  good_of_wp (CX σ [] known_nil) mixed 0 (fn := Try.f13) (f := n_law10_Dear) (c := law10_Dear.code) (fnT_ok 13 _ (by kernel_rfl)).1 (by kernel_rfl) (fnT_ok 13 _ (by kernel_rfl)).2 (Eq.mpr (by kernel_rfl) h)
noncomputable def law12_Dear.code : Code := bodyOf Try.f20
noncomputable def law12_Dear.L0 (σ : Sig) (K : AV → Hp → Prop) (y0 y3 y4 y5 y6 : AV) (H : Hp) : Prop := ∀ js : Nat → AV, LoopP (CX σ [] known_nil) (lB (bB (sR (sL (sR (sR (sR law12_Dear.code))))))) [y0, js 1, js 2, y3, y4, y5, y6, js 7, js 8, js 9, js 10, js 11, js 12, js 13, js 14, js 15, js 16, js 17, js 18, js 19, js 20, js 21, js 22, js 23, js 24, js 25, js 26, js 27, js 28, js 29, js 30, js 31, js 32, js 33, js 34, js 35, js 36, js 37, js 38, js 39, js 40, js 41, js 42, js 43, js 44, js 45, js 46, js 47, js 48, js 49, js 50, js 51, js 52, js 53, js 54, js 55, js 56, js 57, js 58, js 59, js 60, js 61, js 62] H (fun e T1 H1 => (nx (fnQ (CX σ [] known_nil).ti Try.f20.results.toList K) fun T1 H1 => wp (CX σ [] known_nil) 121 (sR (sR (sR (sR law12_Dear.code)))) T1 H1 (fnQ (CX σ [] known_nil).ti Try.f20.results.toList K)) (unblock 0 e) T1 H1)
noncomputable def law12_Dear.L1 (σ : Sig) (K : AV → Hp → Prop) (y0 y3 y4 y5 y6 : AV) (H : Hp) : Prop := ∀ js : Nat → AV, LoopP (CX σ [] known_nil) (lB (bB (sR (sL (sR (sR (sR (sR (sR law12_Dear.code))))))))) [y0, js 1, js 2, y3, y4, y5, y6, js 7, js 8, js 9, js 10, js 11, js 12, js 13, js 14, js 15, js 16, js 17, js 18, js 19, js 20, js 21, js 22, js 23, js 24, js 25, js 26, js 27, js 28, js 29, js 30, js 31, js 32, js 33, js 34, js 35, js 36, js 37, js 38, js 39, js 40, js 41, js 42, js 43, js 44, js 45, js 46, js 47, js 48, js 49, js 50, js 51, js 52, js 53, js 54, js 55, js 56, js 57, js 58, js 59, js 60, js 61, js 62] H (fun e T1 H1 => (nx (fnQ (CX σ [] known_nil).ti Try.f20.results.toList K) fun T1 H1 => wp (CX σ [] known_nil) 121 (sR (sR (sR (sR (sR (sR law12_Dear.code)))))) T1 H1 (fnQ (CX σ [] known_nil).ti Try.f20.results.toList K)) (unblock 2 e) T1 H1)
theorem law12_Dear.L0_step {K : AV → Hp → Prop} {y0 y3 y4 y5 y6 : AV} {H : Hp} (h : bnd (lenSl y0) fun x1 => bnd (binR .lss y4 x1) fun x2 => ifB x2 (bnd (ixaSl 2 y0 y4) fun x3 => bnd (shiftA x3 0) fun x4 => bnd (ldA false 1 H x4) fun x5 => bnd (lenSl x5) fun x6 => bnd (binR .gtr x6 (.lit (.int .i64 8))) fun x7 => ifB x7 (K (.lit (.bool true)) H) (bnd (ixaSl 2 y0 y4) fun x8 => bnd (shiftA x8 1) fun x9 => bnd (ldA false 1 H x9) fun x10 => bnd (lenSl x10) fun x11 => bnd (binR .gtr x11 (.lit (.int .i64 30))) fun x12 => ifB x12 (K (.lit (.bool true)) H) (bnd (ixaSl 2 y0 y4) fun x13 => bnd (shiftA x13 0) fun x14 => bnd (ldA false 1 H x14) fun x15 => bnd (appR false 1 24 H y3 x15) fun p16 => bnd (binR .add y4 (.lit (.int .i64 1))) fun x17 => law12_Dear.L0 σ K y0 p16.1 x17 y5 y6 p16.2))) (law12_Dear.L1 σ K y0 y3 y4 (.lit (.int .i64 0)) (.lit (.int .i64 0)) H)) : law12_Dear.L0 σ K y0 y3 y4 y5 y6 H :=
  fun js => LoopP.round (CX σ [] known_nil) mixed (g := 121) (Eq.mpr (by kernel_rfl) h)
theorem law12_Dear.L1_step {K : AV → Hp → Prop} {y0 y3 y4 y5 y6 : AV} {H : Hp} (h : bnd (lenSl y3) fun x1 => bnd (binR .lss y6 x1) fun x2 => ifB x2 (bnd (binR .add y6 (.lit (.int .i64 1))) fun x3 => bnd (slSl 1 y3 (some y6) (some x3) none) fun x4 => callK Try.prog σ n_law10_Dear [x4] H fun x5 H6 => ifB x5 (K (.lit (.bool true)) H6) (bnd (ixaSl 1 y3 y6) fun x7 => bnd (shiftA x7 0) fun x8 => bnd (ldA false 1 H6 x8) fun x9 => bnd (lenSl x9) fun x10 => bnd (binR .add y5 x10) fun x11 => bnd (binR .add y6 (.lit (.int .i64 1))) fun x12 => law12_Dear.L1 σ K y0 y3 y4 x11 x12 H6)) (bnd (binR .gtr y5 (.lit (.int .i64 120))) fun x13 => K x13 H)) : law12_Dear.L1 σ K y0 y3 y4 y5 y6 H :=
  fun js => LoopP.round (CX σ [] known_nil) mixed (g := 121) (Eq.mpr (by kernel_rfl) h)
theorem law12_Dear.run {a0 : AV} {H : Hp} {K : AV → Hp → Prop} (h : bnd (lenSl a0) fun x1 => bnd (binR .gtr x1 (.lit (.int .i64 30))) fun x2 => ifB x2 (K (.lit (.bool true)) H) (law12_Dear.L0 σ K a0 (.lit (.slice none 0 0)) (.lit (.int .i64 0)) (.lit undef) (.lit undef) H)) : ∃ r H1, Good Try.prog σ n_law12_Dear [a0] H r H1 ∧ K r H1 :=
  good_of_wp (CX σ [] known_nil) mixed 121 (fn := Try.f20) (f := n_law12_Dear) (c := law12_Dear.code) (fnT_ok 20 _ (by kernel_rfl)).1 (by kernel_rfl) (fnT_ok 20 _ (by kernel_rfl)).2 (Eq.mpr (by kernel_rfl) h)
noncomputable def law12_alive.code : Code := bodyOf Try.f23
theorem law12_alive.run {H : Hp} {K : AV → Hp → Prop} (h : callK Try.prog σ n_law10_Sels [(.lit (.string ⟨#[46, 98]⟩))] H fun x1 H2 => bnd (bldR [.lit (.slice none 0 0), .lit (.slice none 0 0)] [(0, 1, x1)]) fun l3 => callK Try.prog σ n_law10_Sels [(.lit (.string ⟨#[97, 32, 62, 32, 98]⟩))] H2 fun x4 H5 => bnd (bldR [.lit (.slice none 0 0), .lit (.slice none 0 0)] [(0, 1, x4)]) fun l6 => bnd (bldSlR [.slice none 0 0, .slice none 0 0] 2 2 H5 [(0, 2, (.agg l3)), (2, 2, (.agg l6))]) fun p7 => callK Try.prog σ n_bucket_New [p7.1] p7.2 fun x8 H9 => bnd (eqPtrR .neq x8 (.lit (.pointer none))) fun x10 => ifB x10 (callK Try.prog σ n_bucket_Map_Len [x8] H9 fun x11 H12 => bnd (binR .eql x11 (.lit (.int .i64 2))) fun x13 => ifB x13 (bnd (bldSlR [.string ⟨#[]⟩] 1 1 H12 [(0, 1, (.lit (.string ⟨#[98]⟩)))]) fun p14 => bnd (bldR [.lit (.int .i64 0), .lit (.string ⟨#[]⟩), .lit (.string ⟨#[]⟩), .lit (.slice none 0 0), .lit (.slice none 0 0)] [(3, 1, p14.1)]) fun l15 => callK Try.prog σ n_bucket_Map_For [x8, (.agg l15)] p14.2 fun x16 H17 => bnd (lenSl x16) fun x18 => bnd (binR .eql x18 (.lit (.int .i64 1))) fun x19 => K x19 H17) (K (.lit (.bool false)) H12)) (K (.lit (.bool false)) H9)) : ∃ r H1, Good Try.prog σ n_law12_alive [] H r H1 ∧ K r H1 :=
  good_of_wp (CX σ [] known_nil) mixed 0 (fn := Try.f23) (f := n_law12_alive) (c := law12_alive.code) (fnT_ok 23 _ (by kernel_rfl)).1 (by kernel_rfl) (fnT_ok 23 _ (by kernel_rfl)).2 (Eq.mpr (by kernel_rfl) h)
noncomputable def bucket_New.code : Code := bodyOf Try.f24
noncomputable def bucket_New.L0 (σ : Sig) (K : AV → Hp → Prop) (y3 y4 y11 y12 y13 y19 y20 y21 : AV) (H : Hp) : Prop := ∀ js : Nat → AV, LoopP (CX σ [] known_nil) (lB (bB (sR (sL (sR (sR bucket_New.code)))))) [js 0, js 1, js 2, y3, y4, js 5, js 6, js 7, js 8, js 9, js 10, y11, y12, y13, js 14, js 15, js 16, js 17, js 18, y19, y20, y21, js 22, js 23, js 24, js 25, js 26, js 27, js 28, js 29, js 30, js 31, js 32, js 33, js 34, js 35, js 36, js 37, js 38, js 39, js 40, js 41, js 42, js 43, js 44, js 45, js 46, js 47, js 48, js 49, js 50, js 51, js 52] H (fun e T1 H1 => (nx (fnQ (CX σ [] known_nil).ti Try.f24.results.toList K) fun T1 H1 => wp (CX σ [] known_nil) 3684376 (sR (sR (sR bucket_New.code))) T1 H1 (fnQ (CX σ [] known_nil).ti Try.f24.results.toList K)) (unblock 0 e) T1 H1)
noncomputable def bucket_New.L1 (σ : Sig) (K : AV → Hp → Prop) (y3 y4 y11 y12 y13 y19 y20 y21 : AV) (H : Hp) : Prop := ∀ js : Nat → AV, LoopP (CX σ [] known_nil) (lB (bB (sR (sR (bB (sL (sR (sR (lB (bB (sR (sL (sR (sR bucket_New.code)))))))))))))) [js 0, js 1, js 2, y3, y4, js 5, js 6, js 7, js 8, js 9, js 10, y11, y12, y13, js 14, js 15, js 16, js 17, js 18, y19, y20, y21, js 22, js 23, js 24, js 25, js 26, js 27, js 28, js 29, js 30, js 31, js 32, js 33, js 34, js 35, js 36, js 37, js 38, js 39, js 40, js 41, js 42, js 43, js 44, js 45, js 46, js 47, js 48, js 49, js 50, js 51, js 52] H (fun e T1 H1 => (fun e T1 H1 => (nx (nx (fun e T1 H1 => (nx (fnQ (CX σ [] known_nil).ti Try.f24.results.toList K) fun T1 H1 => wp (CX σ [] known_nil) 3684376 (sR (sR (sR bucket_New.code))) T1 H1 (fnQ (CX σ [] known_nil).ti Try.f24.results.toList K)) (unblock 0 e) T1 H1) fun T1 H1 => ∀ js, LoopP (CX σ [] known_nil) (lB (bB (sR (sL (sR (sR bucket_New.code)))))) (maskA 3684376 js 0 T1) H1 (fun e T1 H1 => (nx (fnQ (CX σ [] known_nil).ti Try.f24.results.toList K) fun T1 H1 => wp (CX σ [] known_nil) 3684376 (sR (sR (sR bucket_New.code))) T1 H1 (fnQ (CX σ [] known_nil).ti Try.f24.results.toList K)) (unblock 0 e) T1 H1)) fun T1 H1 => wp (CX σ [] known_nil) 3684376 (sR (sR (sR (lB (bB (sR (sL (sR (sR bucket_New.code))))))))) T1 H1 (nx (fun e T1 H1 => (nx (fnQ (CX σ [] known_nil).ti Try.f24.results.toList K) fun T1 H1 => wp (CX σ [] known_nil) 3684376 (sR (sR (sR bucket_New.code))) T1 H1 (fnQ (CX σ [] known_nil).ti Try.f24.results.toList K)) (unblock 0 e) T1 H1) fun T1 H1 => ∀ js, LoopP (CX σ [] known_nil) (lB (bB (sR (sL (sR (sR bucket_New.code)))))) (maskA 3684376 js 0 T1) H1 (fun e T1 H1 => (nx (fnQ (CX σ [] known_nil).ti Try.f24.results.toList K) fun T1 H1 => wp (CX σ [] known_nil) 3684376 (sR (sR (sR bucket_New.code))) T1 H1 (fnQ (CX σ [] known_nil).ti Try.f24.results.toList K)) (unblock 0 e) T1 H1))) (unblock 1 e) T1 H1) (unblock 2 e) T1 H1)
noncomputable def bucket_New.J2 (σ : Sig) (K : AV → Hp → Prop) (y3 y4 y11 y12 y13 y19 y20 y21 : AV) (H : Hp) : Prop := ∀ js : Nat → AV, wp (CX σ [] known_nil) 3684376 (sR (sR (sR (lB (bB (sR (sR (bB (sL (sR (sR (lB (bB (sR (sL (sR (sR bucket_New.code))))))))))))))))) [js 0, js 1, js 2, y3, y4, js 5, js 6, js 7, js 8, js 9, js 10, y11, y12, y13, js 14, js 15, js 16, js 17, js 18, y19, y20, y21, js 22, js 23, js 24, js 25, js 26, js 27, js 28, js 29, js 30, js 31, js 32, js 33, js 34, js 35, js 36, js 37, js 38, js 39, js 40, js 41, js 42, js 43, js 44, js 45, js 46, js 47, js 48, js 49, js 50, js 51, js 52] H (nx (fun e T1 H1 => (fun e T1 H1 => (nx (nx (fun e T1 H1 => (nx (fnQ (CX σ [] known_nil).ti Try.f24.results.toList K) fun T1 H1 => wp (CX σ [] known_nil) 3684376 (sR (sR (sR bucket_New.code))) T1 H1 (fnQ (CX σ [] known_nil).ti Try.f24.results.toList K)) (unblock 0 e) T1 H1) fun T1 H1 => ∀ js, LoopP (CX σ [] known_nil) (lB (bB (sR (sL (sR (sR bucket_New.code)))))) (maskA 3684376 js 0 T1) H1 (fun e T1 H1 => (nx (fnQ (CX σ [] known_nil).ti Try.f24.results.toList K) fun T1 H1 => wp (CX σ [] known_nil) 3684376 (sR (sR (sR bucket_New.code))) T1 H1 (fnQ (CX σ [] known_nil).ti Try.f24.results.toList K)) (unblock 0 e) T1 H1)) fun T1 H1 => wp (CX σ [] known_nil) 3684376 (sR (sR (sR (lB (bB (sR (sL (sR (sR bucket_New.code))))))))) T1 H1 (nx (fun e T1 H1 => (nx (fnQ (CX σ [] known_nil).ti Try.f24.results.toList K) fun T1 H1 => wp (CX σ [] known_nil) 3684376 (sR (sR (sR bucket_New.code))) T1 H1 (fnQ (CX σ [] known_nil).ti Try.f24.results.toList K)) (unblock 0 e) T1 H1) fun T1 H1 => ∀ js, LoopP (CX σ [] known_nil) (lB (bB (sR (sL (sR (sR bucket_New.code)))))) (maskA 3684376 js 0 T1) H1 (fun e T1 H1 => (nx (fnQ (CX σ [] known_nil).ti Try.f24.results.toList K) fun T1 H1 => wp (CX σ [] known_nil) 3684376 (sR (sR (sR bucket_New.code))) T1 H1 (fnQ (CX σ [] known_nil).ti Try.f24.results.toList K)) (unblock 0 e) T1 H1))) (unblock 1 e) T1 H1) (unblock 2 e) T1 H1) fun T1 H1 => ∀ js, LoopP (CX σ [] known_nil) (lB (bB (sR (sR (bB (sL (sR (sR (lB (bB (sR (sL (sR (sR bucket_New.code)))))))))))))) (maskA 3684376 js 0 T1) H1 (fun e T1 H1 => (fun e T1 H1 => (nx (nx (fun e T1 H1 => (nx (fnQ (CX σ [] known_nil).ti Try.f24.results.toList K) fun T1 H1 => wp (CX σ [] known_nil) 3684376 (sR (sR (sR bucket_New.code))) T1 H1 (fnQ (CX σ [] known_nil).ti Try.f24.results.toList K)) (unblock 0 e) T1 H1) fun T1 H1 => ∀ js, LoopP (CX σ [] known_nil) (lB (bB (sR (sL (sR (sR bucket_New.code)))))) (maskA 3684376 js 0 T1) H1 (fun e T1 H1 => (nx (fnQ (CX σ [] known_nil).ti Try.f24.results.toList K) fun T1 H1 => wp (CX σ [] known_nil) 3684376 (sR (sR (sR bucket_New.code))) T1 H1 (fnQ (CX σ [] known_nil).ti Try.f24.results.toList K)) (unblock 0 e) T1 H1)) fun T1 H1 => wp (CX σ [] known_nil) 3684376 (sR (sR (sR (lB (bB (sR (sL (sR (sR bucket_New.code))))))))) T1 H1 (nx (fun e T1 H1 => (nx (fnQ (CX σ [] known_nil).ti Try.f24.results.toList K) fun T1 H1 => wp (CX σ [] known_nil) 3684376 (sR (sR (sR bucket_New.code))) T1 H1 (fnQ (CX σ [] known_nil).ti Try.f24.results.toList K)) (unblock 0 e) T1 H1) fun T1 H1 => ∀ js, LoopP (CX σ [] known_nil) (lB (bB (sR (sL (sR (sR bucket_New.code)))))) (maskA 3684376 js 0 T1) H1 (fun e T1 H1 => (nx (fnQ (CX σ [] known_nil).ti Try.f24.results.toList K) fun T1 H1 => wp (CX σ [] known_nil) 3684376 (sR (sR (sR bucket_New.code))) T1 H1 (fnQ (CX σ [] known_nil).ti Try.f24.results.toList K)) (unblock 0 e) T1 H1))) (unblock 1 e) T1 H1) (unblock 2 e) T1 H1))
theorem bucket_New.L0_step {K : AV → Hp → Prop} {y3 y4 y11 y12 y13 y19 y20 y21 : AV} {H : Hp} (h : bnd (binR .lss y13 y12) fun x1 => ifB x1 (bnd (ixaSl 2 y11 y13) fun x2 => bnd (ldA true 2 H x2) fun x3 => allocK [.lit (.slice none 0 0), .lit (.slice none 0 0)] H fun x4 H5 => bnd (stA 2 H5 x4 x3) fun H6 => bnd (shiftA x4 0) fun x7 => bnd (ldA false 1 H6 x7) fun x8 => bnd (lenSl x8) fun x9 => bucket_New.L1 σ K y3 y13 y11 y12 y13 x8 x9 (.lit (.int .i64 0)) H6) (K y3 H)) : bucket_New.L0 σ K y3 y4 y11 y12 y13 y19 y20 y21 H :=
  fun js => LoopP.round (CX σ [] known_nil) mixed (g := 3684376) (Eq.mpr (by kernel_rfl) h)
theorem bucket_New.L1_step {K : AV → Hp → Prop} {y3 y4 y11 y12 y13 y19 y20 y21 : AV} {H : Hp} (h : bnd (binR .lss y21 y20) fun x1 => ifB x1 (bnd (ixaSl 1 y19 y21) fun x2 => bnd (ldA true 1 H x2) fun x3 => allocK [.lit (.slice none 0 0)] H fun x4 H5 => bnd (stA 1 H5 x4 x3) fun H6 => bnd (shiftA x4 0) fun x7 => bnd (ldA false 1 H6 x7) fun x8 => bnd (lenSl x8) fun x9 => bnd (binR .gtr x9 (.lit (.int .i64 0))) fun x10 => ifB x10 (bnd (nilR y3) fun x11 => bnd (shiftA x11 0) fun x12 => bnd (shiftA x4 0) fun x13 => bnd (ldA false 1 H6 x13) fun x14 => bnd (binR .sub x9 (.lit (.int .i64 1))) fun x15 => bnd (ixaSl 6 x14 x15) fun x16 => bnd (shiftA x16 1) fun x17 => bnd (ldA true 5 H6 x17) fun x18 => callK Try.prog σ n_bucket_of [x18] H6 fun x19 H20 => callK Try.prog σ n_bucket_lists_bucket_key_int_put [x12, x19, y4] H20 fun x21 H22 => bnd (nilR y3) fun x23 => bnd (shiftA x23 1) fun x24 => bnd (ldA false 1 H22 x24) fun x25 => bnd (binR .add x25 (.lit (.int .i64 1))) fun x26 => bnd (nilR y3) fun x27 => bnd (shiftA x27 1) fun x28 => bnd (stA 1 H22 x28 x26) fun H29 => bucket_New.J2 σ K y3 y4 y11 y12 y13 y19 y20 y21 H29) (bucket_New.J2 σ K y3 y4 y11 y12 y13 y19 y20 y21 H6)) (bnd (binR .add y13 (.lit (.int .i64 1))) fun x30 => bucket_New.L0 σ K y3 y4 y11 y12 x30 y19 y20 y21 H)) : bucket_New.L1 σ K y3 y4 y11 y12 y13 y19 y20 y21 H :=
  fun js => LoopP.round (CX σ [] known_nil) mixed (g := 3684376) (Eq.mpr (by kernel_rfl) h)
theorem bucket_New.J2_step {K : AV → Hp → Prop} {y3 y4 y11 y12 y13 y19 y20 y21 : AV} {H : Hp} (h : bnd (binR .add y21 (.lit (.int .i64 1))) fun x1 => bucket_New.L1 σ K y3 y4 y11 y12 y13 y19 y20 x1 H) : bucket_New.J2 σ K y3 y4 y11 y12 y13 y19 y20 y21 H :=
  fun js => Eq.mpr (by kernel_rfl) h
theorem bucket_New.run {a0 : AV} {H : Hp} {K : AV → Hp → Prop} (h : bnd (bldR [.lit (.map none), .lit (.int .i64 0)] []) fun l1 => boxK (.agg l1) H fun x2 H3 => bnd (lenSl a0) fun x4 => bucket_New.L0 σ K x2 (.lit undef) a0 x4 (.lit (.int .i64 0)) (.lit undef) (.lit undef) (.lit undef) H3) : ∃ r H1, Good Try.prog σ n_bucket_New [a0] H r H1 ∧ K r H1 :=
  good_of_wp (CX σ [] known_nil) mixed 3684376 (fn := Try.f24) (f := n_bucket_New) (c := bucket_New.code) (fnT_ok 24 _ (by kernel_rfl)).1 (by kernel_rfl) (fnT_ok 24 _ (by kernel_rfl)).2 (Eq.mpr (by kernel_rfl) h)
noncomputable def ref9_SameInts.code : Code := bodyOf Try.f25
noncomputable def ref9_SameInts.L0 (σ : Sig) (K : AV → Hp → Prop) (y0 y1 y5 : AV) (H : Hp) : Prop := ∀ js : Nat → AV, LoopP (CX σ [] known_nil) (lB (bB (sR (sL (sR (sR ref9_SameInts.code)))))) [y0, y1, js 2, js 3, js 4, y5, js 6, js 7, js 8, js 9, js 10, js 11, js 12, js 13, js 14, js 15, js 16, js 17, js 18, js 19, js 20, js 21, js 22, js 23, js 24, js 25] H (fun e T1 H1 => (nx (fnQ (CX σ [] known_nil).ti Try.f25.results.toList K) fun T1 H1 => wp (CX σ [] known_nil) 35 (sR (sR (sR ref9_SameInts.code))) T1 H1 (fnQ (CX σ [] known_nil).ti Try.f25.results.toList K)) (unblock 0 e) T1 H1)
theorem ref9_SameInts.L0_step {K : AV → Hp → Prop} {y0 y1 y5 : AV} {H : Hp} (h : bnd (lenSl y0) fun x1 => bnd (binR .lss y5 x1) fun x2 => ifB x2 (bnd (ixaSl 1 y0 y5) fun x3 => bnd (ldA false 1 H x3) fun x4 => bnd (ixaSl 1 y1 y5) fun x5 => bnd (ldA false 1 H x5) fun x6 => bnd (binR .neq x4 x6) fun x7 => ifB x7 (K (.lit (.bool false)) H) (bnd (binR .add y5 (.lit (.int .i64 1))) fun x8 => ref9_SameInts.L0 σ K y0 y1 x8 H)) (K (.lit (.bool true)) H)) : ref9_SameInts.L0 σ K y0 y1 y5 H :=
  fun js => LoopP.round (CX σ [] known_nil) mixed (g := 35) (Eq.mpr (by kernel_rfl) h)
theorem ref9_SameInts.run {a0 a1 : AV} {H : Hp} {K : AV → Hp → Prop} (h : bnd (lenSl a0) fun x1 => bnd (lenSl a1) fun x2 => bnd (binR .neq x1 x2) fun x3 => ifB x3 (K (.lit (.bool false)) H) (ref9_SameInts.L0 σ K a0 a1 (.lit (.int .i64 0)) H)) : ∃ r H1, Good Try.prog σ n_ref9_SameInts [a0, a1] H r H1 ∧ K r H1 :=
  good_of_wp (CX σ [] known_nil) mixed 35 (fn := Try.f25) (f := n_ref9_SameInts) (c := ref9_SameInts.code) (fnT_ok 25 _ (by kernel_rfl)).1 (by kernel_rfl) (fnT_ok 25 _ (by kernel_rfl)).2 (Eq.mpr (by kernel_rfl) h)
noncomputable def bucket_Map_For.code : Code := bodyOf Try.f26
noncomputable def bucket_Map_For.J0 (σ : Sig) (K : AV → Hp → Prop) (y0 y3 y5 y41 y42 y43 : AV) (H : Hp) : Prop := ∀ js : Nat → AV, wp (CX σ [] known_nil) 15393162788905 (sR (sR (sR bucket_Map_For.code))) [y0, js 1, js 2, y3, js 4, y5, js 6, js 7, js 8, js 9, js 10, js 11, js 12, js 13, js 14, js 15, js 16, js 17, js 18, js 19, js 20, js 21, js 22, js 23, js 24, js 25, js 26, js 27, js 28, js 29, js 30, js 31, js 32, js 33, js 34, js 35, js 36, js 37, js 38, js 39, js 40, y41, y42, y43, js 44, js 45, js 46, js 47, js 48, js 49, js 50, js 51, js 52, js 53, js 54, js 55, js 56, js 57, js 58, js 59, js 60, js 61] H (fnQ (CX σ [] known_nil).ti Try.f26.results.toList K)
noncomputable def bucket_Map_For.L1 (σ : Sig) (K : AV → Hp → Prop) (y0 y3 y5 y41 y42 y43 : AV) (H : Hp) : Prop := ∀ js : Nat → AV, LoopP (CX σ [] known_nil) (lB (bB (sR (sL (sR (sR (sR bucket_Map_For.code))))))) [y0, js 1, js 2, y3, js 4, y5, js 6, js 7, js 8, js 9, js 10, js 11, js 12, js 13, js 14, js 15, js 16, js 17, js 18, js 19, js 20, js 21, js 22, js 23, js 24, js 25, js 26, js 27, js 28, js 29, js 30, js 31, js 32, js 33, js 34, js 35, js 36, js 37, js 38, js 39, js 40, y41, y42, y43, js 44, js 45, js 46, js 47, js 48, js 49, js 50, js 51, js 52, js 53, js 54, js 55, js 56, js 57, js 58, js 59, js 60, js 61] H (fun e T1 H1 => (nx (fnQ (CX σ [] known_nil).ti Try.f26.results.toList K) fun T1 H1 => wp (CX σ [] known_nil) 15393162788905 (sR (sR (sR (sR bucket_Map_For.code)))) T1 H1 (fnQ (CX σ [] known_nil).ti Try.f26.results.toList K)) (unblock 0 e) T1 H1)
theorem bucket_Map_For.J0_step {K : AV → Hp → Prop} {y0 y3 y5 y41 y42 y43 : AV} {H : Hp} (h : bnd (shiftA y3 3) fun x1 => bnd (ldA false 1 H x1) fun x2 => bnd (lenSl x2) fun x3 => bucket_Map_For.L1 σ K y0 y3 y5 x2 x3 (.lit (.int .i64 0)) H) : bucket_Map_For.J0 σ K y0 y3 y5 y41 y42 y43 H :=
  fun js => Eq.mpr (by kernel_rfl) h
theorem bucket_Map_For.L1_step {K : AV → Hp → Prop} {y0 y3 y5 y41 y42 y43 : AV} {H : Hp} (h : bnd (binR .lss y43 y42) fun x1 => ifB x1 (bnd (ixaSl 1 y41 y43) fun x2 => bnd (ldA false 1 H x2) fun x3 => bnd (nilR y0) fun x4 => bnd (shiftA x4 0) fun x5 => bnd (shiftA x5 0) fun x6 => bnd (ldA false 1 H x6) fun x7 => bnd (bldR [.lit (.int .i64 0), .lit (.string ⟨#[]⟩)] [(0, 1, (.lit (.int .i64 2))), (1, 1, x3)]) fun l8 => bnd (lookR (.lit (.slice none 0 0)) true [.int .i64, .string] false H x7 (.agg l8)) fun x9 => bnd (appR false 1 8 H y5 x9) fun p10 => bnd (binR .add y43 (.lit (.int .i64 1))) fun x11 => bucket_Map_For.L1 σ K y0 y3 p10.1 y41 y42 x11 p10.2) (callK Try.prog σ n_slices_Sort_int_int [y5] H fun x12 H13 => callK Try.prog σ n_slices_Compact_int_int [y5] H13 fun x14 H15 => K x14 H15)) : bucket_Map_For.L1 σ K y0 y3 y5 y41 y42 y43 H :=
  fun js => LoopP.round (CX σ [] known_nil) mixed (g := 15393162788905) (Eq.mpr (by kernel_rfl) h)
theorem bucket_Map_For.run {a0 a1 : AV} {H : Hp} {K : AV → Hp → Prop} (h : boxK a1 H fun x1 H2 => bnd (nilR a0) fun x3 => bnd (shiftA x3 0) fun x4 => bnd (shiftA x4 0) fun x5 => bnd (ldA false 1 H2 x5) fun x6 => bnd (bldR [.lit (.int .i64 0), .lit (.string ⟨#[]⟩)] [(0, 1, (.lit (.int .i64 0)))]) fun l7 => bnd (lookR (.lit (.slice none 0 0)) true [.int .i64, .string] false H2 x6 (.agg l7)) fun x8 => bnd (nilR a0) fun x9 => bnd (shiftA x9 0) fun x10 => bnd (shiftA x10 0) fun x11 => bnd (ldA false 1 H2 x11) fun x12 => bnd (shiftA x1 1) fun x13 => bnd (ldA false 1 H2 x13) fun x14 => bnd (bldR [.lit (.int .i64 0), .lit (.string ⟨#[]⟩)] [(0, 1, (.lit (.int .i64 3))), (1, 1, x14)]) fun l15 => bnd (lookR (.lit (.slice none 0 0)) true [.int .i64, .string] false H2 x12 (.agg l15)) fun x16 => bnd (bldSlR [.slice none 0 0] 1 2 H2 [(0, 1, x8), (1, 1, x16)]) fun p17 => callK Try.prog σ n_slices_Concat_int_int [p17.1] p17.2 fun x18 H19 => bnd (shiftA x1 2) fun x20 => bnd (ldA false 1 H19 x20) fun x21 => bnd (binR .neq x21 (.lit (.string ⟨#[]⟩))) fun x22 => ifB x22 (bnd (nilR a0) fun x23 => bnd (shiftA x23 0) fun x24 => bnd (shiftA x24 0) fun x25 => bnd (ldA false 1 H19 x25) fun x26 => bnd (shiftA x1 2) fun x27 => bnd (ldA false 1 H19 x27) fun x28 => bnd (bldR [.lit (.int .i64 0), .lit (.string ⟨#[]⟩)] [(0, 1, (.lit (.int .i64 1))), (1, 1, x28)]) fun l29 => bnd (lookR (.lit (.slice none 0 0)) true [.int .i64, .string] false H19 x26 (.agg l29)) fun x30 => bnd (appR false 1 8 H19 x18 x30) fun p31 => bucket_Map_For.J0 σ K a0 x1 p31.1 (.lit undef) (.lit undef) (.lit undef) p31.2) (bucket_Map_For.J0 σ K a0 x1 x18 (.lit undef) (.lit undef) (.lit undef) H19)) : ∃ r H1, Good Try.prog σ n_bucket_Map_For [a0, a1] H r H1 ∧ K r H1 :=
  good_of_wp (CX σ [] known_nil) mixed 15393162788905 (fn := Try.f26) (f := n_bucket_Map_For) (c := bucket_Map_For.code) (fnT_ok 26 _ (by kernel_rfl)).1 (by kernel_rfl) (fnT_ok 26 _ (by kernel_rfl)).2 (Eq.mpr (by kernel_rfl) h)
noncomputable def bucket_Map_Len.code : Code := bodyOf Try.f28
theorem bucket_Map_Len.run {a0 : AV} {H : Hp} {K : AV → Hp → Prop} (h : bnd (nilR a0) fun x1 => bnd (shiftA x1 1) fun x2 => bnd (ldA false 1 H x2) fun x3 => K x3 H) : ∃ r H1, Good Try.prog σ n_bucket_Map_Len [a0] H r H1 ∧ K r H1 :=
  good_of_wp (CX σ [] known_nil) mixed 0 (fn := Try.f28) (f := n_bucket_Map_Len) (c := bucket_Map_Len.code) (fnT_ok 28 _ (by kernel_rfl)).1 (by kernel_rfl) (fnT_ok 28 _ (by kernel_rfl)).2 (Eq.mpr (by kernel_rfl) h)
noncomputable def law10_dear.code : Code := bodyOf Try.f37
noncomputable def law10_dear.L0 (σ : Sig) (K : AV → Hp → Prop) (y0 y1 y5 y6 y7 y8 y9 y10 : AV) (H : Hp) : Prop := ∀ js : Nat → AV, LoopP (CX σ [] known_nil) (lB (bB (sR (sL (sR (sR (sR law10_dear.code))))))) [y0, y1, js 2, js 3, js 4, y5, y6, y7, y8, y9, y10, js 11, js 12, js 13, js 14, js 15, js 16, js 17, js 18, js 19, js 20, js 21, js 22, js 23, js 24, js 25, js 26, js 27, js 28, js 29, js 30, js 31, js 32, js 33, js 34, js 35, js 36, js 37, js 38, js 39, js 40, js 41, js 42, js 43, js 44, js 45, js 46, js 47, js 48, js 49, js 50, js 51, js 52, js 53, js 54, js 55, js 56, js 57, js 58, js 59, js 60, js 61, js 62, js 63, js 64, js 65, js 66, js 67, js 68, js 69, js 70, js 71, js 72, js 73, js 74, js 75, js 76, js 77, js 78, js 79, js 80, js 81, js 82, js 83, js 84, js 85, js 86, js 87, js 88, js 89, js 90, js 91, js 92, js 93, js 94, js 95, js 96, js 97, js 98, js 99, js 100, js 101, js 102, js 103, js 104, js 105] H (fun e T1 H1 => (nx (fnQ (CX σ [] known_nil).ti Try.f37.results.toList K) fun T1 H1 => wp (CX σ [] known_nil) 2019 (sR (sR (sR (sR law10_dear.code)))) T1 H1 (fnQ (CX σ [] known_nil).ti Try.f37.results.toList K)) (unblock 0 e) T1 H1)
noncomputable def law10_dear.L1 (σ : Sig) (K : AV → Hp → Prop) (y0 y1 y5 y6 y7 y8 y9 y10 : AV) (H : Hp) : Prop := ∀ js : Nat → AV, LoopP (CX σ [] known_nil) (lB (bB (sR (sR (sR (bB (sL (sR (lB (bB (sR (sL (sR (sR (sR law10_dear.code))))))))))))))) [y0, y1, js 2, js 3, js 4, y5, y6, y7, y8, y9, y10, js 11, js 12, js 13, js 14, js 15, js 16, js 17, js 18, js 19, js 20, js 21, js 22, js 23, js 24, js 25, js 26, js 27, js 28, js 29, js 30, js 31, js 32, js 33, js 34, js 35, js 36, js 37, js 38, js 39, js 40, js 41, js 42, js 43, js 44, js 45, js 46, js 47, js 48, js 49, js 50, js 51, js 52, js 53, js 54, js 55, js 56, js 57, js 58, js 59, js 60, js 61, js 62, js 63, js 64, js 65, js 66, js 67, js 68, js 69, js 70, js 71, js 72, js 73, js 74, js 75, js 76, js 77, js 78, js 79, js 80, js 81, js 82, js 83, js 84, js 85, js 86, js 87, js 88, js 89, js 90, js 91, js 92, js 93, js 94, js 95, js 96, js 97, js 98, js 99, js 100, js 101, js 102, js 103, js 104, js 105] H (fun e T1 H1 => (fun e T1 H1 => (nx (nx (fun e T1 H1 => (nx (fnQ (CX σ [] known_nil).ti Try.f37.results.toList K) fun T1 H1 => wp (CX σ [] known_nil) 2019 (sR (sR (sR (sR law10_dear.code)))) T1 H1 (fnQ (CX σ [] known_nil).ti Try.f37.results.toList K)) (unblock 0 e) T1 H1) fun T1 H1 => ∀ js, LoopP (CX σ [] known_nil) (lB (bB (sR (sL (sR (sR (sR law10_dear.code))))))) (maskA 2019 js 0 T1) H1 (fun e T1 H1 => (nx (fnQ (CX σ [] known_nil).ti Try.f37.results.toList K) fun T1 H1 => wp (CX σ [] known_nil) 2019 (sR (sR (sR (sR law10_dear.code)))) T1 H1 (fnQ (CX σ [] known_nil).ti Try.f37.results.toList K)) (unblock 0 e) T1 H1)) fun T1 H1 => wp (CX σ [] known_nil) 2019 (sR (sR (lB (bB (sR (sL (sR (sR (sR law10_dear.code))))))))) T1 H1 (nx (fun e T1 H1 => (nx (fnQ (CX σ [] known_nil).ti Try.f37.results.toList K) fun T1 H1 => wp (CX σ [] known_nil) 2019 (sR (sR (sR (sR law10_dear.code)))) T1 H1 (fnQ (CX σ [] known_nil).ti Try.f37.results.toList K)) (unblock 0 e) T1 H1) fun T1 H1 => ∀ js, LoopP (CX σ [] known_nil) (lB (bB (sR (sL (sR (sR (sR law10_dear.code))))))) (maskA 2019 js 0 T1) H1 (fun e T1 H1 => (nx (fnQ (CX σ [] known_nil).ti Try.f37.results.toList K) fun T1 H1 => wp (CX σ [] known_nil) 2019 (sR (sR (sR (sR law10_dear.code)))) T1 H1 (fnQ (CX σ [] known_nil).ti Try.f37.results.toList K)) (unblock 0 e) T1 H1))) (unblock 1 e) T1 H1) (unblock 2 e) T1 H1)
noncomputable def law10_dear.L2 (σ : Sig) (K : AV → Hp → Prop) (y0 y1 y5 y6 y7 y8 y9 y10 : AV) (H : Hp) : Prop := ∀ js : Nat → AV, LoopP (CX σ [] known_nil) (lB (bB (sR (sR (sR (sR (bB (sL (sR (lB (bB (sR (sR (sR (bB (sL (sR (lB (bB (sR (sL (sR (sR (sR law10_dear.code)))))))))))))))))))))))) [y0, y1, js 2, js 3, js 4, y5, y6, y7, y8, y9, y10, js 11, js 12, js 13, js 14, js 15, js 16, js 17, js 18, js 19, js 20, js 21, js 22, js 23, js 24, js 25, js 26, js 27, js 28, js 29, js 30, js 31, js 32, js 33, js 34, js 35, js 36, js 37, js 38, js 39, js 40, js 41, js 42, js 43, js 44, js 45, js 46, js 47, js 48, js 49, js 50, js 51, js 52, js 53, js 54, js 55, js 56, js 57, js 58, js 59, js 60, js 61, js 62, js 63, js 64, js 65, js 66, js 67, js 68, js 69, js 70, js 71, js 72, js 73, js 74, js 75, js 76, js 77, js 78, js 79, js 80, js 81, js 82, js 83, js 84, js 85, js 86, js 87, js 88, js 89, js 90, js 91, js 92, js 93, js 94, js 95, js 96, js 97, js 98, js 99, js 100, js 101, js 102, js 103, js 104, js 105] H (fun e T1 H1 => (fun e T1 H1 => (nx (nx (fun e T1 H1 => (fun e T1 H1 => (nx (nx (fun e T1 H1 => (nx (fnQ (CX σ [] known_nil).ti Try.f37.results.toList K) fun T1 H1 => wp (CX σ [] known_nil) 2019 (sR (sR (sR (sR law10_dear.code)))) T1 H1 (fnQ (CX σ [] known_nil).ti Try.f37.results.toList K)) (unblock 0 e) T1 H1) fun T1 H1 => ∀ js, LoopP (CX σ [] known_nil) (lB (bB (sR (sL (sR (sR (sR law10_dear.code))))))) (maskA 2019 js 0 T1) H1 (fun e T1 H1 => (nx (fnQ (CX σ [] known_nil).ti Try.f37.results.toList K) fun T1 H1 => wp (CX σ [] known_nil) 2019 (sR (sR (sR (sR law10_dear.code)))) T1 H1 (fnQ (CX σ [] known_nil).ti Try.f37.results.toList K)) (unblock 0 e) T1 H1)) fun T1 H1 => wp (CX σ [] known_nil) 2019 (sR (sR (lB (bB (sR (sL (sR (sR (sR law10_dear.code))))))))) T1 H1 (nx (fun e T1 H1 => (nx (fnQ (CX σ [] known_nil).ti Try.f37.results.toList K) fun T1 H1 => wp (CX σ [] known_nil) 2019 (sR (sR (sR (sR law10_dear.code)))) T1 H1 (fnQ (CX σ [] known_nil).ti Try.f37.results.toList K)) (unblock 0 e) T1 H1) fun T1 H1 => ∀ js, LoopP (CX σ [] known_nil) (lB (bB (sR (sL (sR (sR (sR law10_dear.code))))))) (maskA 2019 js 0 T1) H1 (fun e T1 H1 => (nx (fnQ (CX σ [] known_nil).ti Try.f37.results.toList K) fun T1 H1 => wp (CX σ [] known_nil) 2019 (sR (sR (sR (sR law10_dear.code)))) T1 H1 (fnQ (CX σ [] known_nil).ti Try.f37.results.toList K)) (unblock 0 e) T1 H1))) (unblock 1 e) T1 H1) (unblock 2 e) T1 H1) fun T1 H1 => ∀ js, LoopP (CX σ [] known_nil) (lB (bB (sR (sR (sR (bB (sL (sR (lB (bB (sR (sL (sR (sR (sR law10_dear.code))))))))))))))) (maskA 2019 js 0 T1) H1 (fun e T1 H1 => (fun e T1 H1 => (nx (nx (fun e T1 H1 => (nx (fnQ (CX σ [] known_nil).ti Try.f37.results.toList K) fun T1 H1 => wp (CX σ [] known_nil) 2019 (sR (sR (sR (sR law10_dear.code)))) T1 H1 (fnQ (CX σ [] known_nil).ti Try.f37.results.toList K)) (unblock 0 e) T1 H1) fun T1 H1 => ∀ js, LoopP (CX σ [] known_nil) (lB (bB (sR (sL (sR (sR (sR law10_dear.code))))))) (maskA 2019 js 0 T1) H1 (fun e T1 H1 => (nx (fnQ (CX σ [] known_nil).ti Try.f37.results.toList K) fun T1 H1 => wp (CX σ [] known_nil) 2019 (sR (sR (sR (sR law10_dear.code)))) T1 H1 (fnQ (CX σ [] known_nil).ti Try.f37.results.toList K)) (unblock 0 e) T1 H1)) fun T1 H1 => wp (CX σ [] known_nil) 2019 (sR (sR (lB (bB (sR (sL (sR (sR (sR law10_dear.code))))))))) T1 H1 (nx (fun e T1 H1 => (nx (fnQ (CX σ [] known_nil).ti Try.f37.results.toList K) fun T1 H1 => wp (CX σ [] known_nil) 2019 (sR (sR (sR (sR law10_dear.code)))) T1 H1 (fnQ (CX σ [] known_nil).ti Try.f37.results.toList K)) (unblock 0 e) T1 H1) fun T1 H1 => ∀ js, LoopP (CX σ [] known_nil) (lB (bB (sR (sL (sR (sR (sR law10_dear.code))))))) (maskA 2019 js 0 T1) H1 (fun e T1 H1 => (nx (fnQ (CX σ [] known_nil).ti Try.f37.results.toList K) fun T1 H1 => wp (CX σ [] known_nil) 2019 (sR (sR (sR (sR law10_dear.code)))) T1 H1 (fnQ (CX σ [] known_nil).ti Try.f37.results.toList K)) (unblock 0 e) T1 H1))) (unblock 1 e) T1 H1) (unblock 2 e) T1 H1)) fun T1 H1 => wp (CX σ [] known_nil) 2019 (sR (sR (lB (bB (sR (sR (sR (bB (sL (sR (lB (bB (sR (sL (sR (sR (sR law10_dear.code))))))))))))))))) T1 H1 (nx (fun e T1 H1 => (fun e T1 H1 => (nx (nx (fun e T1 H1 => (nx (fnQ (CX σ [] known_nil).ti Try.f37.results.toList K) fun T1 H1 => wp (CX σ [] known_nil) 2019 (sR (sR (sR (sR law10_dear.code)))) T1 H1 (fnQ (CX σ [] known_nil).ti Try.f37.results.toList K)) (unblock 0 e) T1 H1) fun T1 H1 => ∀ js, LoopP (CX σ [] known_nil) (lB (bB (sR (sL (sR (sR (sR law10_dear.code))))))) (maskA 2019 js 0 T1) H1 (fun e T1 H1 => (nx (fnQ (CX σ [] known_nil).ti Try.f37.results.toList K) fun T1 H1 => wp (CX σ [] known_nil) 2019 (sR (sR (sR (sR law10_dear.code)))) T1 H1 (fnQ (CX σ [] known_nil).ti Try.f37.results.toList K)) (unblock 0 e) T1 H1)) fun T1 H1 => wp (CX σ [] known_nil) 2019 (sR (sR (lB (bB (sR (sL (sR (sR (sR law10_dear.code))))))))) T1 H1 (nx (fun e T1 H1 => (nx (fnQ (CX σ [] known_nil).ti Try.f37.results.toList K) fun T1 H1 => wp (CX σ [] known_nil) 2019 (sR (sR (sR (sR law10_dear.code)))) T1 H1 (fnQ (CX σ [] known_nil).ti Try.f37.results.toList K)) (unblock 0 e) T1 H1) fun T1 H1 => ∀ js, LoopP (CX σ [] known_nil) (lB (bB (sR (sL (sR (sR (sR law10_dear.code))))))) (maskA 2019 js 0 T1) H1 (fun e T1 H1 => (nx (fnQ (CX σ [] known_nil).ti Try.f37.results.toList K) fun T1 H1 => wp (CX σ [] known_nil) 2019 (sR (sR (sR (sR law10_dear.code)))) T1 H1 (fnQ (CX σ [] known_nil).ti Try.f37.results.toList K)) (unblock 0 e) T1 H1))) (unblock 1 e) T1 H1) (unblock 2 e) T1 H1) fun T1 H1 => ∀ js, LoopP (CX σ [] known_nil) (lB (bB (sR (sR (sR (bB (sL (sR (lB (bB (sR (sL (sR (sR (sR law10_dear.code))))))))))))))) (maskA 2019 js 0 T1) H1 (fun e T1 H1 => (fun e T1 H1 => (nx (nx (fun e T1 H1 => (nx (fnQ (CX σ [] known_nil).ti Try.f37.results.toList K) fun T1 H1 => wp (CX σ [] known_nil) 2019 (sR (sR (sR (sR law10_dear.code)))) T1 H1 (fnQ (CX σ [] known_nil).ti Try.f37.results.toList K)) (unblock 0 e) T1 H1) fun T1 H1 => ∀ js, LoopP (CX σ [] known_nil) (lB (bB (sR (sL (sR (sR (sR law10_dear.code))))))) (maskA 2019 js 0 T1) H1 (fun e T1 H1 => (nx (fnQ (CX σ [] known_nil).ti Try.f37.results.toList K) fun T1 H1 => wp (CX σ [] known_nil) 2019 (sR (sR (sR (sR law10_dear.code)))) T1 H1 (fnQ (CX σ [] known_nil).ti Try.f37.results.toList K)) (unblock 0 e) T1 H1)) fun T1 H1 => wp (CX σ [] known_nil) 2019 (sR (sR (lB (bB (sR (sL (sR (sR (sR law10_dear.code))))))))) T1 H1 (nx (fun e T1 H1 => (nx (fnQ (CX σ [] known_nil).ti Try.f37.results.toList K) fun T1 H1 => wp (CX σ [] known_nil) 2019 (sR (sR (sR (sR law10_dear.code)))) T1 H1 (fnQ (CX σ [] known_nil).ti Try.f37.results.toList K)) (unblock 0 e) T1 H1) fun T1 H1 => ∀ js, LoopP (CX σ [] known_nil) (lB (bB (sR (sL (sR (sR (sR law10_dear.code))))))) (maskA 2019 js 0 T1) H1 (fun e T1 H1 => (nx (fnQ (CX σ [] known_nil).ti Try.f37.results.toList K) fun T1 H1 => wp (CX σ [] known_nil) 2019 (sR (sR (sR (sR law10_dear.code)))) T1 H1 (fnQ (CX σ [] known_nil).ti Try.f37.results.toList K)) (unblock 0 e) T1 H1))) (unblock 1 e) T1 H1) (unblock 2 e) T1 H1))) (unblock 3 e) T1 H1) (unblock 4 e) T1 H1)
theorem law10_dear.L0_step {K : AV → Hp → Prop} {y0 y1 y5 y6 y7 y8 y9 y10 : AV} {H : Hp} (h : bnd (lenSl y0) fun x1 => bnd (binR .lss y6 x1) fun x2 => ifB x2 (bnd (binR .lss y5 (.lit (.int .i64 100))) fun x3 => ifB x3 (bnd (ixaSl 1 y0 y6) fun x4 => bnd (shiftA x4 0) fun x5 => bnd (ldA false 1 H x5) fun x6 => bnd (lenSl x6) fun x7 => bnd (binR .gtr x7 (.lit (.int .i64 12))) fun x8 => ifB x8 (bnd (lenSl x6) fun x9 => bnd (binR .lss x9 (.lit (.int .i64 50))) fun x10 => ifB x10 (K (.lit (.int .i64 100)) H) (bnd (lenSl x6) fun x11 => bnd (binR .gtr x11 (.lit (.int .i64 60))) fun x12 => ifB x12 (K (.lit (.int .i64 100)) H) (law10_dear.L1 σ K y0 y1 y5 y6 x6 (.lit (.int .i64 0)) y9 y10 H))) (bnd (lenSl x6) fun x13 => bnd (binR .gtr x13 (.lit (.int .i64 60))) fun x14 => ifB x14 (K (.lit (.int .i64 100)) H) (law10_dear.L1 σ K y0 y1 y5 y6 x6 (.lit (.int .i64 0)) y9 y10 H))) (K y5 H)) (K y5 H)) : law10_dear.L0 σ K y0 y1 y5 y6 y7 y8 y9 y10 H :=
  fun js => LoopP.round (CX σ [] known_nil) mixed (g := 2019) (Eq.mpr (by kernel_rfl) h)
theorem law10_dear.L1_step {K : AV → Hp → Prop} {y0 y1 y5 y6 y7 y8 y9 y10 : AV} {H : Hp} (h : bnd (lenSl y7) fun x1 => bnd (binR .lss y8 x1) fun x2 => ifB x2 (bnd (binR .lss y5 (.lit (.int .i64 100))) fun x3 => ifB x3 (bnd (ixaSl 6 y7 y8) fun x4 => bnd (shiftA x4 1) fun x5 => bnd (ldA true 5 H x5) fun x6 => allocK [.lit (.string ⟨#[]⟩), .lit (.slice none 0 0), .lit (.slice none 0 0), .lit (.slice none 0 0), .lit (.slice none 0 0)] H fun x7 H8 => bnd (stA 5 H8 x7 x6) fun H9 => bnd (binR .add y5 (.lit (.int .i64 1))) fun x10 => bnd (binR .add x10 y1) fun x11 => bnd (shiftA x7 1) fun x12 => bnd (ldA false 1 H9 x12) fun x13 => bnd (lenSl x13) fun x14 => bnd (binR .gtr x14 (.lit (.int .i64 5))) fun x15 => ifB x15 (K (.lit (.int .i64 100)) H9) (bnd (shiftA x7 2) fun x16 => bnd (ldA false 1 H9 x16) fun x17 => bnd (lenSl x17) fun x18 => bnd (binR .gtr x18 (.lit (.int .i64 5))) fun x19 => ifB x19 (K (.lit (.int .i64 100)) H9) (bnd (shiftA x7 3) fun x20 => bnd (ldA false 1 H9 x20) fun x21 => bnd (lenSl x21) fun x22 => bnd (binR .gtr x22 (.lit (.int .i64 5))) fun x23 => ifB x23 (K (.lit (.int .i64 100)) H9) (bnd (shiftA x7 4) fun x24 => bnd (ldA false 1 H9 x24) fun x25 => bnd (lenSl x25) fun x26 => bnd (binR .gtr x26 (.lit (.int .i64 5))) fun x27 => ifB x27 (K (.lit (.int .i64 100)) H9) (law10_dear.L2 σ K y0 y1 x11 y6 y7 y8 x7 (.lit (.int .i64 0)) H9))))) (bnd (binR .add y6 (.lit (.int .i64 1))) fun x28 => law10_dear.L0 σ K y0 y1 y5 x28 y7 y8 y9 y10 H)) (bnd (binR .add y6 (.lit (.int .i64 1))) fun x29 => law10_dear.L0 σ K y0 y1 y5 x29 y7 y8 y9 y10 H)) : law10_dear.L1 σ K y0 y1 y5 y6 y7 y8 y9 y10 H :=
  fun js => LoopP.round (CX σ [] known_nil) mixed (g := 2019) (Eq.mpr (by kernel_rfl) h)
theorem law10_dear.L2_step {K : AV → Hp → Prop} {y0 y1 y5 y6 y7 y8 y9 y10 : AV} {H : Hp} (h : bnd (shiftA y9 4) fun x1 => bnd (ldA false 1 H x1) fun x2 => bnd (lenSl x2) fun x3 => bnd (binR .lss y10 x3) fun x4 => ifB x4 (bnd (binR .lss y5 (.lit (.int .i64 100))) fun x5 => ifB x5 (bnd (shiftA y9 4) fun x6 => bnd (ldA false 1 H x6) fun x7 => bnd (ixaSl 4 x7 y10) fun x8 => bnd (shiftA x8 3) fun x9 => bnd (ldA false 1 H x9) fun x10 => bnd (binR .add y1 (.lit (.int .i64 1))) fun x11 => callK Try.prog σ n_law10_dear [x10, x11] H fun x12 H13 => bnd (binR .mul (.lit (.int .i64 3)) x12) fun x14 => bnd (binR .add y5 x14) fun x15 => bnd (binR .add y10 (.lit (.int .i64 1))) fun x16 => law10_dear.L2 σ K y0 y1 x15 y6 y7 y8 y9 x16 H13) (bnd (binR .add y8 (.lit (.int .i64 1))) fun x17 => law10_dear.L1 σ K y0 y1 y5 y6 y7 x17 y9 y10 H)) (bnd (binR .add y8 (.lit (.int .i64 1))) fun x18 => law10_dear.L1 σ K y0 y1 y5 y6 y7 x18 y9 y10 H)) : law10_dear.L2 σ K y0 y1 y5 y6 y7 y8 y9 y10 H :=
  fun js => LoopP.round (CX σ [] known_nil) mixed (g := 2019) (Eq.mpr (by kernel_rfl) h)
theorem law10_dear.run {a0 a1 : AV} {H : Hp} {K : AV → Hp → Prop} (h : bnd (binR .gtr a1 (.lit (.int .i64 10))) fun x1 => ifB x1 (K (.lit (.int .i64 100)) H) (law10_dear.L0 σ K a0 a1 (.lit (.int .i64 0)) (.lit (.int .i64 0)) (.lit undef) (.lit undef) (.lit undef) (.lit undef) H)) : ∃ r H1, Good Try.prog σ n_law10_dear [a0, a1] H r H1 ∧ K r H1 :=
  good_of_wp (CX σ [] known_nil) mixed 2019 (fn := Try.f37) (f := n_law10_dear) (c := law10_dear.code) (fnT_ok 37 _ (by kernel_rfl)).1 (by kernel_rfl) (fnT_ok 37 _ (by kernel_rfl)).2 (Eq.mpr (by kernel_rfl) h)
noncomputable def bucket_lists_bucket_key_int_put.code : Code := bodyOf Try.f45
noncomputable def bucket_lists_bucket_key_int_put.J0 (σ : Sig) (K : AV → Hp → Prop) (y0 y2 y4 : AV) (H : Hp) : Prop := ∀ js : Nat → AV, wp (CX σ [] known_nil) 21 (sR (sR bucket_lists_bucket_key_int_put.code)) [y0, js 1, y2, js 3, y4, js 5, js 6, js 7, js 8, js 9, js 10, js 11, js 12, js 13, js 14, js 15, js 16, js 17, js 18, js 19, js 20, js 21, js 22, js 23, js 24, js 25, js 26, js 27, js 28] H (fnQ (CX σ [] known_nil).ti Try.f45.results.toList K)
theorem bucket_lists_bucket_key_int_put.J0_step {K : AV → Hp → Prop} {y0 y2 y4 : AV} {H : Hp} (h : bnd (nilR y0) fun x1 => bnd (shiftA x1 0) fun x2 => bnd (ldA false 1 H x2) fun x3 => bnd (ldA true 2 H y4) fun x4 => bnd (nilR y0) fun x5 => bnd (shiftA x5 0) fun x6 => bnd (ldA false 1 H x6) fun x7 => bnd (ldA true 2 H y4) fun x8 => bnd (lookR (.lit (.slice none 0 0)) true [.int .i64, .string] false H x7 x8) fun x9 => bnd (bldSlR [.int .i64 0] 1 1 H [(0, 1, y2)]) fun p10 => kpK (x7, none) H p10.2 (kpK (y4, some 2) H p10.2 (kpK (x6, some 1) H p10.2 (kpK (y4, some 2) H p10.2 (kpK (x2, some 1) H p10.2 (bnd (appR false 1 8 p10.2 x9 p10.1) fun p11 => kpK (y4, some 2) p10.2 p11.2 (kpK (x2, some 1) p10.2 p11.2 (bnd (putR true [.int .i64, .string] p11.2 x3 x4 p11.1) fun H12 => K (.tup []) H12)))))))) : bucket_lists_bucket_key_int_put.J0 σ K y0 y2 y4 H :=
  fun js => Eq.mpr (by kernel_rfl) h
theorem bucket_lists_bucket_key_int_put.run {a0 a1 a2 : AV} {H : Hp} {K : AV → Hp → Prop} (h : boxK a1 H fun x1 H2 => bnd (nilR a0) fun x3 => bnd (shiftA x3 0) fun x4 => bnd (ldA false 1 H2 x4) fun x5 => bnd (eqMpR .eql x5 (.lit (.map none))) fun x6 => ifB x6 (bnd (nilR a0) fun x7 => bnd (shiftA x7 0) fun x8 => bnd (stA 1 (H2.new (.map [])) x8 (.mp H2.n)) fun H9 => bucket_lists_bucket_key_int_put.J0 σ K a0 a2 x1 H9) (bucket_lists_bucket_key_int_put.J0 σ K a0 a2 x1 H2)) : ∃ r H1, Good Try.prog σ n_bucket_lists_bucket_key_int_put [a0, a1, a2] H r H1 ∧ K r H1 :=
  good_of_wp (CX σ [] known_nil) mixed 21 (fn := Try.f45) (f := n_bucket_lists_bucket_key_int_put) (c := bucket_lists_bucket_key_int_put.code) (fnT_ok 45 _ (by kernel_rfl)).1 (by kernel_rfl) (fnT_ok 45 _ (by kernel_rfl)).2 (Eq.mpr (by kernel_rfl) h)
noncomputable def bucket_of.code : Code := bodyOf Try.f46
theorem bucket_of.run {a0 : AV} {H : Hp} {K : AV → Hp → Prop} (h : boxK a0 H fun x1 H2 => allocK [.lit (.int .i64 0), .lit (.string ⟨#[]⟩)] H2 fun x3 H4 => bnd (shiftA x1 1) fun x5 => bnd (ldA false 1 H4 x5) fun x6 => bnd (lenSl x6) fun x7 => bnd (binR .gtr x7 (.lit (.int .i64 0))) fun x8 => ifB x8 (bnd (shiftA x1 1) fun x9 => bnd (ldA false 1 H4 x9) fun x10 => bnd (ixaSl 1 x10 (.lit (.int .i64 0))) fun x11 => bnd (ldA false 1 H4 x11) fun x12 => bnd (bldR [.lit (.int .i64 0), .lit (.string ⟨#[]⟩)] [(0, 1, (.lit (.int .i64 1))), (1, 1, x12)]) fun l13 => bnd (stA 2 H4 x3 (.agg l13)) fun H14 => bnd (ldA true 2 H14 x3) fun r15 => K r15 H14) (bnd (shiftA x1 2) fun x16 => bnd (ldA false 1 H4 x16) fun x17 => bnd (lenSl x17) fun x18 => bnd (binR .gtr x18 (.lit (.int .i64 0))) fun x19 => ifB x19 (bnd (shiftA x1 2) fun x20 => bnd (ldA false 1 H4 x20) fun x21 => bnd (ixaSl 1 x21 (.lit (.int .i64 0))) fun x22 => bnd (ldA false 1 H4 x22) fun x23 => bnd (bldR [.lit (.int .i64 0), .lit (.string ⟨#[]⟩)] [(0, 1, (.lit (.int .i64 2))), (1, 1, x23)]) fun l24 => bnd (stA 2 H4 x3 (.agg l24)) fun H25 => bnd (ldA true 2 H25 x3) fun r26 => K r26 H25) (bnd (shiftA x1 0) fun x27 => bnd (ldA false 1 H4 x27) fun x28 => bnd (binR .neq x28 (.lit (.string ⟨#[]⟩))) fun x29 => ifB x29 (bnd (shiftA x1 0) fun x30 => bnd (ldA false 1 H4 x30) fun x31 => bnd (bldR [.lit (.int .i64 0), .lit (.string ⟨#[]⟩)] [(0, 1, (.lit (.int .i64 3))), (1, 1, x31)]) fun l32 => bnd (stA 2 H4 x3 (.agg l32)) fun H33 => bnd (ldA true 2 H33 x3) fun r34 => K r34 H33) (bnd (bldR [.lit (.int .i64 0), .lit (.string ⟨#[]⟩)] [(0, 1, (.lit (.int .i64 0)))]) fun l35 => bnd (stA 2 H4 x3 (.agg l35)) fun H36 => bnd (ldA true 2 H36 x3) fun r37 => K r37 H36)))) : ∃ r H1, Good Try.prog σ n_bucket_of [a0] H r H1 ∧ K r H1 :=
  good_of_wp (CX σ [] known_nil) mixed 0 (fn := Try.f46) (f := n_bucket_of) (c := bucket_of.code) (fnT_ok 46 _ (by kernel_rfl)).1 (by kernel_rfl) (fnT_ok 46 _ (by kernel_rfl)).2 (Eq.mpr (by kernel_rfl) h)
noncomputable def slices_Concat_int_int.code : Code := bodyOf Try.f47
noncomputable def slices_Concat_int_int.L0 (σ : Sig) (K : AV → Hp → Prop) (y0 y3 y6 y9 y10 y11 y25 y26 y27 : AV) (H : Hp) : Prop := ∀ js : Nat → AV, LoopP (CX σ [] known_nil) (lB (bB (sR (sL (sR (sR slices_Concat_int_int.code)))))) [y0, js 1, js 2, y3, js 4, js 5, y6, js 7, js 8, y9, y10, y11, js 12, js 13, js 14, js 15, js 16, js 17, js 18, js 19, js 20, js 21, js 22, js 23, js 24, y25, y26, y27, js 28, js 29, js 30, js 31, js 32, js 33, js 34, js 35] H (fun e T1 H1 => (nx (fnQ (CX σ [] known_nil).ti Try.f47.results.toList K) fun T1 H1 => wp (CX σ [] known_nil) 234884681 (sR (sR (sR slices_Concat_int_int.code))) T1 H1 (fnQ (CX σ [] known_nil).ti Try.f47.results.toList K)) (unblock 0 e) T1 H1)
noncomputable def slices_Concat_int_int.J1 (σ : Sig) (K : AV → Hp → Prop) (y0 y3 y6 y9 y10 y11 y25 y26 y27 : AV) (H : Hp) : Prop := ∀ js : Nat → AV, wp (CX σ [] known_nil) 234884681 (sR (sR (sR (lB (bB (sR (sL (sR (sR slices_Concat_int_int.code))))))))) [y0, js 1, js 2, y3, js 4, js 5, y6, js 7, js 8, y9, y10, y11, js 12, js 13, js 14, js 15, js 16, js 17, js 18, js 19, js 20, js 21, js 22, js 23, js 24, y25, y26, y27, js 28, js 29, js 30, js 31, js 32, js 33, js 34, js 35] H (nx (fun e T1 H1 => (nx (fnQ (CX σ [] known_nil).ti Try.f47.results.toList K) fun T1 H1 => wp (CX σ [] known_nil) 234884681 (sR (sR (sR slices_Concat_int_int.code))) T1 H1 (fnQ (CX σ [] known_nil).ti Try.f47.results.toList K)) (unblock 0 e) T1 H1) fun T1 H1 => ∀ js, LoopP (CX σ [] known_nil) (lB (bB (sR (sL (sR (sR slices_Concat_int_int.code)))))) (maskA 234884681 js 0 T1) H1 (fun e T1 H1 => (nx (fnQ (CX σ [] known_nil).ti Try.f47.results.toList K) fun T1 H1 => wp (CX σ [] known_nil) 234884681 (sR (sR (sR slices_Concat_int_int.code))) T1 H1 (fnQ (CX σ [] known_nil).ti Try.f47.results.toList K)) (unblock 0 e) T1 H1))
noncomputable def slices_Concat_int_int.L2 (σ : Sig) (K : AV → Hp → Prop) (y0 y3 y6 y9 y10 y11 y25 y26 y27 : AV) (H : Hp) : Prop := ∀ js : Nat → AV, LoopP (CX σ [] known_nil) (lB (bB (sR (sL (sR (sR (sR (sR slices_Concat_int_int.code)))))))) [y0, js 1, js 2, y3, js 4, js 5, y6, js 7, js 8, y9, y10, y11, js 12, js 13, js 14, js 15, js 16, js 17, js 18, js 19, js 20, js 21, js 22, js 23, js 24, y25, y26, y27, js 28, js 29, js 30, js 31, js 32, js 33, js 34, js 35] H (fun e T1 H1 => (nx (fnQ (CX σ [] known_nil).ti Try.f47.results.toList K) fun T1 H1 => wp (CX σ [] known_nil) 234884681 (sR (sR (sR (sR (sR slices_Concat_int_int.code))))) T1 H1 (fnQ (CX σ [] known_nil).ti Try.f47.results.toList K)) (unblock 2 e) T1 H1)
theorem slices_Concat_int_int.L0_step {K : AV → Hp → Prop} {y0 y3 y6 y9 y10 y11 y25 y26 y27 : AV} {H : Hp} (h : bnd (binR .lss y11 y10) fun x1 => ifB x1 (bnd (ixaSl 1 y9 y11) fun x2 => bnd (ldA false 1 H x2) fun x3 => bnd (lenSl x3) fun x4 => bnd (binR .add y3 x4) fun x5 => bnd (binR .lss x5 (.lit (.int .i64 0))) fun x6 => ifB x6 (False) (slices_Concat_int_int.J1 σ K y0 x5 y6 y9 y10 y11 y25 y26 y27 H)) (callK Try.prog σ n_slices_Grow_int_int [(.lit (.slice none 0 0)), y3] H fun x7 H8 => bnd (lenSl y0) fun x9 => slices_Concat_int_int.L2 σ K y0 y3 x7 y9 y10 y11 y0 x9 (.lit (.int .i64 0)) H8)) : slices_Concat_int_int.L0 σ K y0 y3 y6 y9 y10 y11 y25 y26 y27 H :=
  fun js => LoopP.round (CX σ [] known_nil) mixed (g := 234884681) (Eq.mpr (by kernel_rfl) h)
theorem slices_Concat_int_int.J1_step {K : AV → Hp → Prop} {y0 y3 y6 y9 y10 y11 y25 y26 y27 : AV} {H : Hp} (h : bnd (binR .add y11 (.lit (.int .i64 1))) fun x1 => slices_Concat_int_int.L0 σ K y0 y3 y6 y9 y10 x1 y25 y26 y27 H) : slices_Concat_int_int.J1 σ K y0 y3 y6 y9 y10 y11 y25 y26 y27 H :=
  fun js => Eq.mpr (by kernel_rfl) h
theorem slices_Concat_int_int.L2_step {K : AV → Hp → Prop} {y0 y3 y6 y9 y10 y11 y25 y26 y27 : AV} {H : Hp} (h : bnd (binR .lss y27 y26) fun x1 => ifB x1 (bnd (ixaSl 1 y25 y27) fun x2 => bnd (ldA false 1 H x2) fun x3 => bnd (appR false 1 8 H y6 x3) fun p4 => bnd (binR .add y27 (.lit (.int .i64 1))) fun x5 => slices_Concat_int_int.L2 σ K y0 y3 p4.1 y9 y10 y11 y25 y26 x5 p4.2) (K y6 H)) : slices_Concat_int_int.L2 σ K y0 y3 y6 y9 y10 y11 y25 y26 y27 H :=
  fun js => LoopP.round (CX σ [] known_nil) mixed (g := 234884681) (Eq.mpr (by kernel_rfl) h)
theorem slices_Concat_int_int.run {a0 : AV} {H : Hp} {K : AV → Hp → Prop} (h : bnd (lenSl a0) fun x1 => slices_Concat_int_int.L0 σ K a0 (.lit (.int .i64 0)) (.lit undef) a0 x1 (.lit (.int .i64 0)) (.lit undef) (.lit undef) (.lit undef) H) : ∃ r H1, Good Try.prog σ n_slices_Concat_int_int [a0] H r H1 ∧ K r H1 :=
  good_of_wp (CX σ [] known_nil) mixed 234884681 (fn := Try.f47) (f := n_slices_Concat_int_int) (c := slices_Concat_int_int.code) (fnT_ok 47 _ (by kernel_rfl)).1 (by kernel_rfl) (fnT_ok 47 _ (by kernel_rfl)).2 (Eq.mpr (by kernel_rfl) h)
end Go.Proofs.Ytaoegkmfgfefgaa.Ev
namespace Go.Proofs.Ytaoegkmfgfefgaa.Ev
set_option maxRecDepth 100000
set_option maxHeartbeats 4000000
set_option linter.unusedVariables false
variable {σ : Sig}
end Go.Proofs.Ytaoegkmfgfefgaa.Ev
namespace Go.Proofs.Ytaoegkmfgfefgaa.Ev
set_option maxRecDepth 100000
set_option maxHeartbeats 4000000
set_option linter.unusedVariables false
variable {σ : Sig}
end Go.Proofs.Ytaoegkmfgfefgaa.Ev
namespace Go.Proofs.Ytaoegkmfgfefgaa.Ev
set_option linter.unusedVariables false
set_option linter.unusedSimpArgs false
variable {σ : Sig}
def lowb (c : UInt8) : UInt8 := if 65 ≤ c.toNat ∧ c.toNat ≤ 90 then UInt8.ofNat (c.toNat + 32) else c
def lowB (s : ByteArray) : ByteArray := ⟨(s.data.toList.map lowb).toArray⟩
end Go.Proofs.Ytaoegkmfgfefgaa.Ev
namespace Go.Proofs.Ytaoegkmfgfefgaa.Ev
set_option linter.unusedVariables false
set_option linter.unusedSimpArgs false
variable {σ : Sig}
def lowPr (p : ByteArray × ByteArray) : ByteArray × ByteArray := (lowB p.1, p.2)
def lowN (n : Nd) : Nd := { n with tag := lowB n.tag, attrs := n.attrs.map lowPr }
structure NdWf (n : Nd) : Prop where
  parent : i64 n.parent
  tag : n.tag.data.size ≤ reachBytes
  classes : n.classes.length * 16 ≤ reachBytes
  attrs : n.attrs.length * 32 ≤ reachBytes
  names : ∀ p ∈ n.attrs, p.1.data.size ≤ reachBytes
@[simp] theorem st_strs (H : Hp) (id off : Nat) (l : List ByteArray) : stA 1 H (.ptr id off) (strs l) = stO 1 off [strs l] H id (H.get id) := st_ptr 1 H id off _ rfl rfl
end Go.Proofs.Ytaoegkmfgfefgaa.Ev
namespace Go.Proofs.Ytaoegkmfgfefgaa.Ev
set_option linter.unusedVariables false
set_option linter.unusedSimpArgs false
variable {σ : Sig}
end Go.Proofs.Ytaoegkmfgfefgaa.Ev
namespace Go.Proofs.Ytaoegkmfgfefgaa.Ev
set_option linter.unusedVariables false
set_option linter.unusedSimpArgs false
variable {σ : Sig}
structure TreeH (L : List Nd) (d : List Nat) (H : Hp) (t m : Nat) (sl : AV) (ch : List AV) : Prop where
  tlt : t < H.n
  tg : H.get t = some (.cells [sl] true)
  len : ch.length = m
  rows : Gs 9 H sl (rowsE L d ch lowN)
  kid : ∀ (i : Nat) (c : AV), ch[i]? = some c → Gs 1 H c ((kids L m i).map fun j : Nat => [I j])
  nt : ¬ own sl t
  nk : ∀ (i : Nat) (c : AV), ch[i]? = some c → ¬ own c t
  ns : ∀ (i : Nat) (c : AV), ch[i]? = some c → ∀ j, own c j → ¬ own sl j
  nd : ∀ (i i' : Nat) (c c' : AV), i ≠ i' → ch[i]? = some c → ch[i']? = some c' → ∀ j, own c j → ¬ own c' j
theorem TreeH.new {L : List Nd} {d : List Nat} {H : Hp} {t m : Nat} {sl : AV} {ch : List AV} (h : TreeH L d H t m sl ch) {H' : Hp} (hs : ∀ j, j < H.n → H'.get j = H.get j) (hn : H.n ≤ H'.n) : TreeH L d H' t m sl ch :=
  ⟨Nat.lt_of_lt_of_le h.tlt hn, by rw [hs t h.tlt]; exact h.tg, h.len, h.rows.keep (fun j hj => hs j (h.rows.lt hj)) hn, fun i c hc => (h.kid i c hc).keep (fun j hj => hs j ((h.kid i c hc).lt hj)) hn, h.nt, h.nk, h.ns, h.nd⟩
def elC (L : List Nd) (i : Nat) : AV := .imm 1 ((kids L L.length i).map fun j : Nat => [I j])
def elE (L : List Nd) (d : List Nat) (i : Nat) : List AV := rowE L d i (elC L i) lowN
def domT (L : List Nd) (d : List Nat) : AV := .ip [.imm 9 ((List.range L.length).map (elE L d))]
theorem noId_elC (L : List Nd) (i : Nat) : noId (elC L i) = true := by unfold elC; simp only [noId]; exact noIds_map _ (fun _ => rfl) _
theorem noIds_app : ∀ {a b : List AV}, noIds a = true → noIds b = true → noIds (a ++ b) = true
  | [], b, _, h => h
  | x :: a, b, ha, hb => by
    simp only [noIds, Bool.and_eq_true] at ha
    simp only [List.cons_append, noIds, ha.1, noIds_app ha.2 hb, Bool.and_self]
theorem noId_elE (L : List Nd) (d : List Nat) (i : Nat) : noIds (elE L d i) = true := by
  unfold elE rowE
  exact noIds_app (noId_Nd _) (by simp only [noIds, noId_elC, noId, Bool.and_self])
theorem noId_domT (L : List Nd) (d : List Nat) : noId (domT L d) = true := by
  unfold domT
  simp only [noId, noIds, noIds_map _ (noId_elE L d), Bool.and_self]
end Go.Proofs.Ytaoegkmfgfefgaa.Ev
namespace Go.Proofs.Ytaoegkmfgfefgaa.Ev
set_option linter.unusedVariables false
set_option linter.unusedSimpArgs false
variable {σ : Sig}
end Go.Proofs.Ytaoegkmfgfefgaa.Ev
namespace Go.Proofs.Ytaoegkmfgfefgaa.Ev
set_option linter.unusedVariables false
set_option linter.unusedSimpArgs false
variable {σ : Sig}
def childI (L : List Nd) (e k : Nat) : Int := match (kids L L.length e)[k]? with | some j => j | none => -1
def lastB (L : List Nd) (e : Nat) : Bool := decide (par L e < 0) || decide (childI L (par L e).toNat (place L e).toNat < 0)
end Go.Proofs.Ytaoegkmfgfefgaa.Ev
namespace Go.Proofs.Ytaoegkmfgfefgaa.Ev
set_option linter.unusedVariables false
set_option linter.unusedSimpArgs false
variable {σ : Sig}
def hasB (l : List ByteArray) (s : ByteArray) : Bool := l.any fun x => decide (x = s)
section
end
def wordB (s t : ByteArray) : Bool := decide (tl t ∈ wordsB (tl s))
def emp : ByteArray := ⟨#[]⟩
def soB (s : ByteArray) (a : At) : Bool :=
  if a.op = 0 then true else if a.op = 1 then decide (s = a.text) else if a.op = 2 then !decide (a.text = emp) && wordB s a.text
  else if a.op = 3 then decide (s = a.text) || preB (tl s) (tl a.text ++ [45]) else if a.op = 4 then !decide (a.text = emp) && preB (tl s) (tl a.text)
  else if a.op = 5 then !decide (a.text = emp) && sufB (tl s) (tl a.text) else if a.op = 6 then !decide (a.text = emp) && decide (0 ≤ Go.Lib.index (tl s) (tl a.text)) else false
structure AtWf (a : At) : Prop where
  text : a.text.data.size ≤ reachBytes
def attrB (l : List (ByteArray × ByteArray)) (a : At) : Bool := match l.find? fun p => decide (p.1 = a.name) with
  | some p => soB p.2 a
  | none => false
end Go.Proofs.Ytaoegkmfgfefgaa.Ev
namespace Go.Proofs.Ytaoegkmfgfefgaa.Ev
set_option linter.unusedVariables false
set_option linter.unusedSimpArgs false
variable {σ : Sig}
structure CpOk (c : Cp) : Prop where
  ids : c.ids.length ≤ reachBytes
  classes : c.classes.length ≤ reachBytes
  attrs : c.attrs.length ≤ reachBytes
  texts : ∀ a ∈ c.attrs, AtWf a
  ps : c.pseudos.length ≤ reachBytes
def tagB (n : Nd) (c : Cp) : Bool := decide (c.tag = emp) || decide (c.tag = n.tag)
def idB (n : Nd) (x : ByteArray) : Bool := !decide (x = emp) && decide (x = n.id)
def plainB (n : Nd) (c : Cp) : Bool := tagB n c && (c.ids.all (idB n) && (c.classes.all (hasB n.classes) && c.attrs.all (attrB n.attrs)))
section
end
def nthB (p a b : Int) : Bool := if a = 0 then decide (p = b) else if 0 < a then decide (b ≤ p) && decide ((p - b) % a = 0) else decide (p ≤ b) && decide ((b - p) % (-a) = 0)
def standI (L : List Nd) (e : Nat) (k : Int) : Int := if k = 1 ∨ k = 2 then par L e else if k = 3 ∨ k = 4 then before L e else -1
def farB (k : Int) : Bool := decide (k = 1) || decide (k = 4)
end Go.Proofs.Ytaoegkmfgfefgaa.Ev
namespace Go.Proofs.Ytaoegkmfgfefgaa.Ev
set_option linter.unusedVariables false
set_option linter.unusedSimpArgs false
variable {σ : Sig}
def FitC (c : Cp) : Prop := c.ids.length ≤ 5 ∧ c.classes.length ≤ 5 ∧ c.attrs.length ≤ 5 ∧ c.pseudos.length ≤ 5
def FitL : Nat → List Sl → Prop
  | 0, _ => False
  | f + 1, l => ∀ s ∈ l, s.length ≤ 60 ∧ ∀ p ∈ s, FitC p.c ∧ ∀ q ∈ p.c.pseudos, FitL f q.list
def FitS (f : Nat) (s : Sl) : Prop := s.length ≤ 60 ∧ ∀ p ∈ s, FitC p.c ∧ ∀ q ∈ p.c.pseudos, FitL f q.list
def FitP (f : Nat) (p : Pt) : Prop := FitC p.c ∧ ∀ q ∈ p.c.pseudos, FitL f q.list
def DearP (f : Nat) (l : List Sl) (n : Int) : Prop := 0 ≤ n ∧ n ≤ 200 * 4 ^ f ∧ (n ≤ 40 → FitL f l)
theorem dear_step (f : Nat) (hf : f ≤ 10) (ih : ∀ l, slsWf Lmax l → ∃ n, (∀ H, Good Try.prog σ n_law10_dear [sls l, I ((11 - f : Nat) : Int)] H (I n) H) ∧ DearP f l n) (l : List Sl) (hl : slsWf Lmax l) :
    ∃ n, (∀ H, Good Try.prog σ n_law10_dear [sls l, I ((10 - f : Nat) : Int)] H (I n) H) ∧ DearP (f + 1) l n := by
  have h4 : 4 ^ f ≥ 1 := Nat.one_le_pow _ _ (by omega)
  have h4b : 4 ^ f ≤ 1048576 := by
    calc 4 ^ f ≤ 4 ^ 10 := Nat.pow_le_pow_right (by omega) hf
      _ = 1048576 := by decide
  have hpow : (200 * 4 ^ (f + 1) : Int) = 800 * 4 ^ f := by rw [Int.pow_succ]; omega
  have cast4 : ((4 ^ f : Nat) : Int) = (4 : Int) ^ f := by simp
  let K : AV → Hp → Prop := fun r _ => ∃ n, r = I n ∧ DearP (f + 1) l n
  have stop : ∀ H, K (I 100) H := fun H => ⟨100, rfl, by omega, by rw [hpow]; omega, fun h => by omega⟩
  have L0 : ∀ (d k : Nat) (H : Hp) (n : Int) (y7 y8 y9 y10 : AV), l.length - k = d → k ≤ l.length → 0 ≤ n → n ≤ 200 * 4 ^ (f + 1) → (n ≤ 40 → ∀ s ∈ l.take k, FitS f s) →
      law10_dear.L0 σ K (sls l) (I ((10 - f : Nat) : Int)) (I n) (I k) y7 y8 y9 y10 H := by
    intro d
    induction d with
    | zero =>
      intro k H n y7 y8 y9 y10 hd hk hn hn2 hfit
      have e : k = l.length := by omega
      subst e
      refine law10_dear.L0_step ?_
      simp [sls]
      exact ⟨n, rfl, hn, hn2, fun h => by simpa [FitL, FitS] using hfit h⟩
    | succ d ihd =>
      intro k H n y7 y8 y9 y10 hd hk hn hn2 hfit
      have hlt : k < l.length := by omega
      obtain ⟨s, hs⟩ := get_lt hlt
      have hsw := hl.2 s (List.mem_of_getElem? hs)
      have htake : ∀ (P : Sl → Prop), (∀ x ∈ l.take k, P x) → P s → ∀ x ∈ l.take (k + 1), P x := by
        intro P h1 h2 x hx
        rw [List.take_add_one, hs] at hx
        simp only [Option.toList_some, List.mem_append, List.mem_singleton] at hx
        rcases hx with hx | rfl
        · exact h1 x hx
        · exact h2
      have L1 : ∀ (d2 j : Nat) (H : Hp) (n : Int) (y9 y10 : AV), s.length - j = d2 → j ≤ s.length → s.length ≤ 60 → 0 ≤ n → n ≤ 200 * 4 ^ (f + 1) → (n ≤ 40 → (∀ s ∈ l.take k, FitS f s) ∧ ∀ p ∈ s.take j, FitP f p) →
          law10_dear.L1 σ K (sls l) (I ((10 - f : Nat) : Int)) (I n) (I k) (.imm 6 (s.map encPt)) (I j) y9 y10 H := by
        intro d2
        induction d2 with
        | zero =>
          intro j H n y9 y10 hd2 hj h60 hn hn2 hfit2
          have e : j = s.length := by omega
          subst e
          refine law10_dear.L1_step ?_
          simp
          rw [wr_succL hlt hl.1]
          exact ihd (k + 1) H n _ _ _ _ (by omega) (by omega) hn hn2 fun h => htake _ (hfit2 h).1 ⟨h60, by simpa [FitP] using (hfit2 h).2⟩
        | succ d2 ihd2 =>
          intro j H n y9 y10 hd2 hj h60 hn hn2 hfit2
          have hjlt : j < s.length := by omega
          obtain ⟨p, hp⟩ := get_lt hjlt
          have hpw := (Pt.wf_iff.1 (hsw.2 p (List.mem_of_getElem? hp))).2
          have htake2 : ∀ (P : Pt → Prop), (∀ x ∈ s.take j, P x) → P p → ∀ x ∈ s.take (j + 1), P x := by
            intro P h1 h2 x hx
            rw [List.take_add_one, hp] at hx
            simp only [Option.toList_some, List.mem_append, List.mem_singleton] at hx
            rcases hx with hx | rfl
            · exact h1 x hx
            · exact h2
          have L2 : ∀ (d3 i : Nat) (H : Hp) (n : Int) (id : Nat), H.get id = some (.cells (encCp p.c) true) → p.c.pseudos.length - i = d3 → i ≤ p.c.pseudos.length → FitC p.c → 0 ≤ n → n ≤ 200 * 4 ^ (f + 1) →
              (n ≤ 40 → (∀ s ∈ l.take k, FitS f s) ∧ (∀ p ∈ s.take j, FitP f p) ∧ ∀ q ∈ p.c.pseudos.take i, FitL f q.list) →
              law10_dear.L2 σ K (sls l) (I ((10 - f : Nat) : Int)) (I n) (I k) (.imm 6 (s.map encPt)) (I j) (.ptr id 0) (I i) H := by
            intro d3
            induction d3 with
            | zero =>
              intro i H n id hid hd3 hi hc hn hn2 hfit3
              have e : i = p.c.pseudos.length := by omega
              subst e
              refine law10_dear.L2_step ?_
              simp [hid, encCp_eq]
              rw [wr_succL hjlt hsw.1]
              exact ihd2 (j + 1) H n _ _ (by omega) (by omega) h60 hn hn2 fun h => ⟨(hfit3 h).1, htake2 _ (hfit3 h).2.1 ⟨hc, by simpa using (hfit3 h).2.2⟩⟩
            | succ d3 ihd3 =>
              intro i H n id hid hd3 hi hc hn hn2 hfit3
              have hilt : i < p.c.pseudos.length := by omega
              obtain ⟨q, hq⟩ := get_lt hilt
              have hqw := (Ps.wf_iff.1 (hpw.ps q (List.mem_of_getElem? hq))).2.2.2
              obtain ⟨m, hm, hm0, hm1, hm2⟩ := ih q.list hqw
              refine law10_dear.L2_step ?_
              have e1 : wr .i64 (((10 - f : Nat) : Int) + 1) = ((11 - f : Nat) : Int) := by rw [wr64 (by omega) (by omega)]; omega
              simp [hid, encCp_eq, ix_map hq, encPs_eq, hilt]
              split
              · rename_i hlt100
                refine callK_of (by rw [e1]; exact hm H) ?_
                simp only [b_mul, bnd_some, b_add]
                have e2 : wr .i64 (3 * m) = 3 * m := wr64 (by omega) (by omega)
                have e3 : wr .i64 (n + 3 * m) = n + 3 * m := wr64 (by omega) (by omega)
                rw [e2, e3, wr_succL hilt hpw.psL]
                refine ihd3 (i + 1) H (n + 3 * m) id hid (by omega) (by omega) hc (by omega) (by rw [hpow]; omega) fun h => ?_
                have := hfit3 (by omega)
                refine ⟨this.1, this.2.1, fun x hx => ?_⟩
                rw [List.take_add_one, hq] at hx
                simp only [Option.toList_some, List.mem_append, List.mem_singleton] at hx
                rcases hx with hx | rfl
                · exact this.2.2 x hx
                · exact hm2 (by omega)
              · rw [wr_succL hjlt hsw.1]
                refine ihd2 (j + 1) H n _ _ (by omega) (by omega) h60 hn hn2 fun h => by omega
          refine law10_dear.L1_step ?_
          simp [ix_map hp, ldL_all, overlay_all, encPt_eq, encCp_eq, hjlt]
          split
          · rename_i hlt100
            have e1 : wr .i64 (n + 1) = n + 1 := wr64 (by omega) (by omega)
            have e2 : wr .i64 (n + 1 + ((10 - f : Nat) : Int)) = n + 1 + ((10 - f : Nat) : Int) := wr64 (by omega) (by omega)
            simp only [e1, e2]
            split
            · exact stop Hp.empty
            split
            · exact stop Hp.empty
            split
            · exact stop Hp.empty
            split
            · exact stop Hp.empty
            · refine L2 _ 0 _ _ H.n ?_ rfl (Nat.zero_le _) ⟨by omega, by omega, by omega, by omega⟩ (by omega) (by rw [hpow]; omega) fun h => ?_
              · simp [encCp_eq]
              · have := hfit2 (by omega)
                exact ⟨this.1, this.2, fun x hx => by simp at hx⟩
          · rw [wr_succL hlt hl.1]
            exact ihd (k + 1) H n _ _ _ _ (by omega) (by omega) hn hn2 fun h => by omega
      refine law10_dear.L0_step ?_
      simp only [sls]
      simp [ix_map hs, encSl, hlt]
      have go : s.length ≤ 60 → ∀ H, law10_dear.L1 σ K (.imm 1 (l.map encSl)) (I ((10 - f : Nat) : Int)) (I n) (I k) (.imm 6 (s.map encPt)) (I 0) y9 y10 H :=
        fun h60 H => L1 _ 0 H n y9 y10 rfl (Nat.zero_le _) h60 hn hn2 fun h => ⟨hfit h, fun x hx => by simp at hx⟩
      split
      · split
        · split
          · exact stop Hp.empty
          · split
            · exact stop Hp.empty
            · exact go (by omega) _
        · split
          · exact stop Hp.empty
          · exact go (by omega) _
      · exact ⟨n, rfl, hn, hn2, fun h => by omega⟩
  have run : ∃ r H1, Good Try.prog σ n_law10_dear [sls l, I ((10 - f : Nat) : Int)] Hp.empty r H1 ∧ K r H1 := by
    refine law10_dear.run ?_
    simp
    rw [if_neg (by omega)]
    exact L0 _ 0 _ 0 _ _ _ _ rfl (Nat.zero_le _) (by omega) (by rw [hpow]; omega) fun _ x hx => by simp at hx
  obtain ⟨r, H1, hg, n, rfl, hd⟩ := run
  exact ⟨n, fun H => hg.over (by simp [noIds, noId]) rfl H, hd⟩
theorem dear_ok : ∀ (f : Nat), f ≤ 11 → ∀ (l : List Sl), slsWf Lmax l → ∃ n, (∀ H, Good Try.prog σ n_law10_dear [sls l, I ((11 - f : Nat) : Int)] H (I n) H) ∧ DearP f l n
  | 0, _, l, hl => by
    have run : ∃ r H1, Good Try.prog σ n_law10_dear [sls l, I ((11 - 0 : Nat) : Int)] Hp.empty r H1 ∧ r = I 100 := law10_dear.run (by simp)
    obtain ⟨r, H1, hg, rfl⟩ := run
    exact ⟨100, fun H => hg.over (by simp [noIds, noId]) rfl H, by omega, by simp, fun h => by omega⟩
  | f + 1, hf, l, hl => by
    have := dear_step f (by omega) (dear_ok f (by omega)) l hl
    rwa [show 10 - f = 11 - (f + 1) by omega] at this
theorem Dear_ok (l : List Sl) (hl : slsWf Lmax l) : ∃ b, (∀ H, Good Try.prog σ n_law10_Dear [sls l] H (Bo b) H) ∧ (b = false → FitL 11 l) := by
  obtain ⟨n, hn, h0, h1, h2⟩ := dear_ok (σ := σ) 11 (by omega) l hl
  have run : ∃ r H1, Good Try.prog σ n_law10_Dear [sls l] Hp.empty r H1 ∧ r = Bo (decide (40 < n)) := by
    refine law10_Dear.run (callK_of (hn _) ?_)
    simp
  obtain ⟨r, H1, hg, rfl⟩ := run
  exact ⟨_, fun H => hg.over (by simp [noIds, noId]) rfl H, fun h => h2 (by simpa using h)⟩
end Go.Proofs.Ytaoegkmfgfefgaa.Ev
namespace Go.Proofs.Ytaoegkmfgfefgaa.Ev
set_option linter.unusedVariables false
set_option linter.unusedSimpArgs false
variable {σ : Sig}
structure Lk where
  part : Pt
  lists : List (List Nat)
def encN (n : Nat) : List AV := [I (n : Int)]
def ints (l : List Nat) : AV := .imm 1 (l.map encN)
def encLk (x : Lk) : List AV := encPt x.part ++ [.imm 1 (x.lists.map fun l => [ints l])]
def chainV (c : List Lk) : AV := .imm 7 (c.map encLk)
@[simp] theorem len_lk (x : Lk) : (encLk x).length = 7 := by simp [encLk]
def encQ (n i e : Nat) (a : Bool) : List AV := [I (n : Int), I (i : Int), I (e : Int), Bo a]
abbrev qKK : List KK := [.int .i64, .int .i64, .int .i64, .bool]
def MemoOk (N : Nat) (T : Nat → Nat → Nat → Bool → Bool) (es : List (AV × AV)) : Prop := ∀ p ∈ es, ∃ n i e a, n < N ∧ p = (.agg (encQ n i e a), Bo (T n i e a)) ∧ kOk true qKK p.1 = true
structure Asks (t : AV) (C : List (List Lk)) (T : Nat → Nat → Nat → Bool → Bool) (ab mb : Nat) (cs : AV) (H : Hp) : Prop where
  gab : H.get ab = some (.cells [t, cs, .mp mb] true)
  nab : ab < H.n
  nmb : mb < H.n
  ne : ab ≠ mb
  gcs : Gs 1 H cs (C.map fun c => [chainV c])
  csm : ¬ own cs mb
  memo : ∃ es, H.get mb = some (.map es) ∧ MemoOk C.length T es
structure Kp (mb : Nat) (H H' : Hp) : Prop where
  up : H.n ≤ H'.n
  get : ∀ (j : Nat), j < H.n → j ≠ mb → H'.get j = H.get j
theorem Kp.refl (mb : Nat) (H : Hp) : Kp mb H H := ⟨Nat.le_refl _, fun _ _ _ => rfl⟩
theorem Kp.trans {mb : Nat} {H H1 H2 : Hp} (h : Kp mb H H1) (k : Kp mb H1 H2) : Kp mb H H2 := ⟨Nat.le_trans h.up k.up, fun j hj hne => by rw [k.get j (Nat.lt_of_lt_of_le hj h.up) hne, h.get j hj hne]⟩
theorem Kp.new (mb : Nat) (H : Hp) (b : Blk) : Kp mb H (H.new b) := by
  refine ⟨by simp, fun j hj _ => ?_⟩
  have : j ≠ H.n := by omega
  simp [this]
theorem Asks.keep {t : AV} {C : List (List Lk)} {T : Nat → Nat → Nat → Bool → Bool} {ab mb : Nat} {cs : AV} {H H' : Hp} (h : Asks t C T ab mb cs H) (hn : H.n ≤ H'.n) (hg : ∀ j, j < H.n → H'.get j = H.get j) : Asks t C T ab mb cs H' := by
  obtain ⟨es, he, hm⟩ := h.memo
  exact ⟨by rw [hg _ h.nab]; exact h.gab, Nat.lt_of_lt_of_le h.nab hn, Nat.lt_of_lt_of_le h.nmb hn, h.ne, h.gcs.keep (fun j hj => hg j (h.gcs.lt hj)) hn, h.csm, es, by rw [hg _ h.nmb]; exact he, hm⟩
theorem Asks.new {t : AV} {C : List (List Lk)} {T : Nat → Nat → Nat → Bool → Bool} {ab mb : Nat} {cs : AV} {H : Hp} (h : Asks t C T ab mb cs H) (b : Blk) : Asks t C T ab mb cs (H.new b) := by
  refine h.keep (by simp) fun j hj => ?_
  have : j ≠ H.n := by omega
  simp [this]
theorem Asks.pure {L : List Nd} {d : List Nat} {C : List (List Lk)} {T : Nat → Nat → Nat → Bool → Bool} {ab mb : Nat} {cs : AV} {H : Hp} (h : Asks (domT L d) C T ab mb cs H) {f : Nat} {xs : List AV} {r : AV}
    (hg : Good Try.prog σ f (.ip (domT L d :: []) :: xs) Hp.empty r Hp.empty) (hx : noIds xs = true) (hr : plainV r = true) : Good Try.prog σ f (.ptr ab 0 :: xs) H r H := by
  refine hg.frzA (.cons (.ptr (fun _ => domT L d) h.gab (fun j y hj => ?_) (fun j y hj => ?_)) (FzL.refl hx)) hr
  · have : j = 0 := by have := (List.getElem?_eq_some_iff.1 hj).1; simp at this; omega
    subst this; simp
  · have : j = 0 := by have := (List.getElem?_eq_some_iff.1 hj).1; simp at this; omega
    subst this
    simp at hj; subst hj
    exact .refl (noId_domT L d)
end Go.Proofs.Ytaoegkmfgfefgaa.Ev
namespace Go.Proofs.Ytaoegkmfgfefgaa.Ev
set_option linter.unusedVariables false
set_option linter.unusedSimpArgs false
variable {σ : Sig}
def aheadF (g : Nat → Bool) (L : List Nd) (k : Int) : Nat → Nat → Bool
  | 0, _ => false
  | f + 1, e => decide (0 ≤ standI L e k) && (g (standI L e k).toNat || (farB k && aheadF g L k f (standI L e k).toNat))
def pseudoB (any : List Sl → Nat → Bool) (L : List Nd) (e : Nat) (q : Ps) : Bool :=
  if q.kind = 1 then decide (par L e < 0) else if q.kind = 2 then decide (place L e = 1) else if q.kind = 3 then lastB L e else if q.kind = 4 then decide (place L e = 1) && lastB L e
  else if q.kind = 5 then decide (childI L e 0 < 0) else if q.kind = 6 then nthB (place L e) q.a q.b else if q.kind = 7 then !any q.list e else if q.kind = 8 then any q.list e else false
def compB (any : List Sl → Nat → Bool) (L : List Nd) (e : Nat) (c : Cp) : Bool := plainB (lowN (ndAt L e)) c && c.pseudos.all (pseudoB any L e)
def frontB (any : List Sl → Nat → Bool) (L : List Nd) (s : Sl) : Nat → Nat → Bool
  | 0, e => match s[0]? with
    | some p => compB any L e p.c
    | none => false
  | i + 1, e => match s[i + 1]? with
    | some p => compB any L e p.c && aheadF (frontB any L s i) L p.comb (e + 1) e
    | none => false
def anyS (any : List Sl → Nat → Bool) (L : List Nd) (l : List Sl) (e : Nat) : Bool := l.any fun s => !decide (s.length = 0) && frontB any L s (s.length - 1) e
def anyB (L : List Nd) : Nat → List Sl → Nat → Bool
  | 0, _, _ => false
  | f + 1, l, e => anyS (anyB L f) L l e
def Nest : Nat → List Sl → Prop
  | 0, _ => False
  | f + 1, l => ∀ s ∈ l, ∀ p ∈ s, ∀ q ∈ p.c.pseudos, Nest f q.list
def AA (L : List Nd) : List Sl → Nat → Bool := anyB L 12
def selC (C : List (List Lk)) (n : Nat) : Sl := (C.getD n []).map (·.part)
def Tru (L : List Nd) (C : List (List Lk)) (n i e : Nat) : Bool → Bool
  | false => frontB (AA L) L (selC C n) i e
  | true => match (selC C n)[i]? with
    | some p => aheadF (frontB (AA L) L (selC C n) (i - 1)) L p.comb (e + 1) e
    | none => false
def RepC (R : List Sl → List Nat → Prop) (C : List (List Lk)) (s : Sl) (n : Nat) : Prop :=
  ∃ c, C[n]? = some c ∧ c.map (·.part) = s ∧ ∀ (k : Nat) (x : Lk), c[k]? = some x → x.lists.length = x.part.c.pseudos.length ∧ ∀ (j : Nat) (q : Ps) (ns : List Nat), x.part.c.pseudos[j]? = some q → x.lists[j]? = some ns → R q.list ns
def Rep (C : List (List Lk)) : Nat → List Sl → List Nat → Prop
  | 0, _, _ => False
  | f + 1, l, ns => ns.length = l.length ∧ ∀ (i : Nat) (s : Sl) (n : Nat), l[i]? = some s → ns[i]? = some n → RepC (Rep C f) C s n
section
variable {L : List Nd} {d : List Nat} {C : List (List Lk)}
def AskK (σ : Sig) (L : List Nd) (d : List Nat) (C : List (List Lk)) (f : Nat) (xs : List AV) (b : Bool) : Prop :=
  ∀ (ab mb : Nat) (cs : AV) (H : Hp) (K : AV → Hp → Prop), Asks (domT L d) C (Tru L C) ab mb cs H → (∀ H', Asks (domT L d) C (Tru L C) ab mb cs H' → Kp mb H H' → K (Bo b) H') → callK Try.prog σ f (.ptr ab 0 :: xs) H K
theorem AskK.pure {f : Nat} {xs : List AV} {b : Bool} (h : ∀ H, Good Try.prog σ f (.ip (domT L d :: []) :: xs) H (Bo b) H) (hx : noIds xs = true) : AskK σ L d C f xs b :=
  fun ab mb cs H K hA hK => callK_of (hA.pure (h Hp.empty) hx rfl) (hK H hA (.refl _ _))
section
end
section
end
end
end Go.Proofs.Ytaoegkmfgfefgaa.Ev
namespace Go.Proofs.Ytaoegkmfgfefgaa.Ev
set_option linter.unusedVariables false
set_option linter.unusedSimpArgs false
variable {σ : Sig}
section
end
end Go.Proofs.Ytaoegkmfgfefgaa.Ev
namespace Go.Proofs.Ytaoegkmfgfefgaa.Ev
set_option linter.unusedVariables false
set_option linter.unusedSimpArgs false
variable {σ : Sig}
def HFz (H H2 : Hp) : Prop := ∃ Hd : Hp, H2.n = H.n ∧ Hd.n = H.n ∧ (∀ id k, Hd.get id = some k → H.get id = some k ∧ H2.get id = none) ∧ (∀ id k2, H2.get id = some k2 → ∃ k1, H.get id = some k1 ∧ FzB Hd k1 k2)
theorem FzT.refl {Hd : Hp} : ∀ (T : List AV), FzT Hd T T
  | [] => .nil
  | x :: T => .same (.refl T)
theorem HFz.wk {H H2 : Hp} (h : HFz H H2) (T : List AV) : Wk σ T H T H2 := by
  obtain ⟨Hd, h1, h2, h3, h4⟩ := h
  exact Wk.frz h1 h2 h3 h4 (.refl T)
theorem HFz.loop {P : Program} {C : Ctx P} {c : Code} {T : List AV} {H H2 : Hp} {Q : Exit → List AV → Hp → Prop} (k : HFz H H2) (h : LoopP C c T H2 Q) : LoopP C c T H Q := LoopP.conv (k.wk T) h
abbrev NB : Nat := 1048576
def SlsOk : Nat → List Sl → Prop
  | 0, _ => False
  | f + 1, l => l.length ≤ NB ∧ ∀ s ∈ l, s.length ≤ NB ∧ ∀ p ∈ s, CpOk p.c ∧ p.c.pseudos.length ≤ NB ∧ ∀ q ∈ p.c.pseudos, (i64 q.a ∧ i64 q.b) ∧ SlsOk f q.list
theorem Rep.mono {C D : List (List Lk)} : ∀ {f : Nat} {l : List Sl} {ns : List Nat}, Rep C f l ns → Rep (C ++ D) f l ns
  | 0, l, ns, h => h
  | f + 1, l, ns, h => ⟨h.1, fun i s n hs hn => by
    obtain ⟨c, h1, h2, h3⟩ := h.2 i s n hs hn
    refine ⟨c, by rw [List.getElem?_append_left (List.getElem?_eq_some_iff.1 h1).1]; exact h1, h2, fun k x hx => ⟨(h3 k x hx).1, fun j q ns' hq hns => ((h3 k x hx).2 j q ns' hq hns).mono⟩⟩⟩
structure AFr (H : Hp) (cs : AV) (ab : Nat) (H' : Hp) (cs' : AV) : Prop where
  up : H.n ≤ H'.n
  get : ∀ (j : Nat), j < H.n → j ≠ ab → ¬ own cs j → H'.get j = H.get j
  mine : ∀ j, own cs' j → own cs j ∨ H.n ≤ j
theorem AFr.refl (H : Hp) (cs : AV) (ab : Nat) : AFr H cs ab H cs := ⟨Nat.le_refl _, fun _ _ _ _ => rfl, fun j h => .inl h⟩
theorem AFr.trans {H H1 H2 : Hp} {cs cs1 cs2 : AV} {ab : Nat} (h : AFr H cs ab H1 cs1) (k : AFr H1 cs1 ab H2 cs2) : AFr H cs ab H2 cs2 := by
  refine ⟨Nat.le_trans h.up k.up, fun j hj hne ho => ?_, fun j hj => ?_⟩
  · rw [k.get j (Nat.lt_of_lt_of_le hj h.up) hne (fun hc => by
      rcases h.mine j hc with h | h
      · exact ho h
      · omega), h.get j hj hne ho]
  · rcases k.mine j hj with h1 | h1
    · exact h.mine j h1
    · have := h.up; exact .inr (by omega)
section
end
end Go.Proofs.Ytaoegkmfgfefgaa.Ev
namespace Go.Proofs.Ytaoegkmfgfefgaa.Ev
set_option linter.unusedVariables false
set_option linter.unusedSimpArgs false
variable {σ : Sig}
theorem Nest.one {f : Nat} {l : List Sl} (h : Nest f l) {s : Sl} (hs : s ∈ l) : Nest f [s] := by
  cases f with
  | zero => exact h
  | succ f => exact fun s' hs' => by rw [List.mem_singleton.1 hs']; exact h s hs
theorem SlsOk.one {f : Nat} {l : List Sl} (h : SlsOk f l) {s : Sl} (hs : s ∈ l) : SlsOk f [s] := by
  cases f with
  | zero => exact h
  | succ f => exact ⟨(by show 1 ≤ NB; decide), fun s' hs' => by rw [List.mem_singleton.1 hs']; exact h.2 s hs⟩
theorem sl_one {l : List Sl} {m : Nat} {s : Sl} (h : l[m]? = some s) : slSl 1 (sls l) (some (I (m : Int))) (some (I ((m + 1 : Nat) : Int))) none = some (sls [s]) := by
  have hlt := (List.getElem?_eq_some_iff.1 h).1
  have e1 : ((m : Int) + 1) ≤ l.length := by omega
  have e2 : (0 : Int) ≤ (m : Int) + 1 := by omega
  have e3 : ((m : Int) + 1).toNat = m + 1 := by omega
  have e4 : (List.drop m (l.map encSl)).take 1 = [encSl s] := by
    rw [← List.map_drop, drop_get h]; rfl
  simp [slSl, intO, intA, slSl0, sls, boundsA, boundA, beqN, e1, e2, e3, e4, show ((m : Int) ≤ (m : Int) + 1) from by omega]
section
end
end Go.Proofs.Ytaoegkmfgfefgaa.Ev
namespace Go.Proofs.Ytaoegkmfgfefgaa.Ev
set_option linter.unusedVariables false
set_option linter.unusedSimpArgs false
variable {σ : Sig}
end Go.Proofs.Ytaoegkmfgfefgaa.Ev
namespace Go.Proofs.Ytaoegkmfgfefgaa.Ev
set_option linter.unusedVariables false
set_option linter.unusedSimpArgs false
variable {σ : Sig}
section
end
end Go.Proofs.Ytaoegkmfgfefgaa.Ev
namespace Go.Proofs.Ytaoegkmfgfefgaa.Ev
set_option linter.unusedVariables false
set_option linter.unusedSimpArgs false
variable {σ : Sig}
end Go.Proofs.Ytaoegkmfgfefgaa.Ev
namespace Go.Proofs.Ytaoegkmfgfefgaa.Ev
set_option linter.unusedVariables false
set_option linter.unusedSimpArgs false
variable {σ : Sig}
end Go.Proofs.Ytaoegkmfgfefgaa.Ev
namespace Go.Proofs.Ytaoegkmfgfefgaa.Ev
set_option linter.unusedVariables false
set_option linter.unusedSimpArgs false
variable {σ : Sig}
end Go.Proofs.Ytaoegkmfgfefgaa.Ev
namespace Go.Proofs.Ytaoegkmfgfefgaa.Ev
set_option linter.unusedVariables false
set_option linter.unusedSimpArgs false
variable {σ : Sig}
end Go.Proofs.Ytaoegkmfgfefgaa.Ev
namespace Go.Proofs.Ytaoegkmfgfefgaa.Ev
set_option linter.unusedVariables false
set_option linter.unusedSimpArgs false
variable {σ : Sig}
end Go.Proofs.Ytaoegkmfgfefgaa.Ev
namespace Go.Proofs.Ytaoegkmfgfefgaa.Ev
set_option linter.unusedVariables false
set_option linter.unusedSimpArgs false
variable {σ : Sig}
end Go.Proofs.Ytaoegkmfgfefgaa.Ev
namespace Go.Proofs.Ytaoegkmfgfefgaa.Ev
set_option linter.unusedVariables false
set_option linter.unusedSimpArgs false
variable {σ : Sig}
section
variable {L : List Nd} {d : List Nat} {e : Nat} {c : Cp} {n : Nd} {dp : Nat} {b6 b9 : Nat} {K : AV → Hp → Prop}
structure RcOk (c : Cp) : Prop where
  ids : c.ids.length ≤ reachBytes
  classes : c.classes.length ≤ reachBytes
  attrs : c.attrs.length ≤ reachBytes
  ps : c.pseudos.length ≤ reachBytes
  texts : ∀ a ∈ c.attrs, a.text.data.size < 4294967281
end
end Go.Proofs.Ytaoegkmfgfefgaa.Ev
namespace Go.Proofs.Ytaoegkmfgfefgaa.Ev
set_option linter.unusedVariables false
set_option linter.unusedSimpArgs false
variable {σ : Sig}
section
end
structure Kn (L : List Nd) (s : Sl) (kb M : Nat) (H : Hp) : Prop where
  lt : kb < H.n
  get : ∃ ks, H.get kb = some (.cells ks true) ∧ ks.length = M ∧ ∀ e k, e < L.length → k < s.length → ∃ v : Int, ks[e * s.length + k]? = some (I v) ∧ (v = 0 ∨ (v = 1 ∧ frontB (AA L) L s k e = true) ∨ (v = 2 ∧ frontB (AA L) L s k e = false))
theorem Kn.keep {L : List Nd} {s : Sl} {kb M : Nat} {H H' : Hp} (h : Kn L s kb M H) (hn : H.n ≤ H'.n) (hg : H'.get kb = H.get kb) : Kn L s kb M H' := by
  obtain ⟨ks, h1, h2, h3⟩ := h.get
  exact ⟨Nat.lt_of_lt_of_le h.lt hn, ks, by rw [hg]; exact h1, h2, h3⟩
theorem Kn.new {L : List Nd} {s : Sl} {kb M : Nat} {H : Hp} (h : Kn L s kb M H) (b : Blk) : Kn L s kb M (H.new b) := by
  refine h.keep (by simp) ?_
  have : kb ≠ H.n := by have := h.lt; omega
  simp [this]
theorem idx_inj {n a b x y : Nat} (hx : x < n) (hy : y < n) (h : a * n + x = b * n + y) : a = b ∧ x = y := by
  have h1 : (a * n + x) / n = (b * n + y) / n := by rw [h]
  have hn : 0 < n := by omega
  rw [Nat.mul_comm a, Nat.mul_comm b, Nat.mul_add_div hn, Nat.mul_add_div hn, Nat.div_eq_of_lt hx, Nat.div_eq_of_lt hy] at h1
  simp only [Nat.add_zero] at h1
  subst h1
  exact ⟨rfl, by omega⟩
theorem ov_set : ∀ (cs : List AV) (i : Nat) (x : AV), i < cs.length → overlay cs i [x] = cs.set i x := by
  intro cs
  induction cs with
  | nil => intro i x hi; simp at hi
  | cons c r ih =>
    intro i x hi
    cases i with
    | zero => simp
    | succ i => rw [overlay_s, List.set_cons_succ, ih i x (by simpa using hi)]
theorem Kn.put {L : List Nd} {s : Sl} {kb M : Nat} {H : Hp} (h : Kn L s kb M H) {e k : Nat} (he : e < L.length) (hk : k < s.length) {v : Int} (hv : v = 0 ∨ (v = 1 ∧ frontB (AA L) L s k e = true) ∨ (v = 2 ∧ frontB (AA L) L s k e = false)) :
    ∃ H', stA 1 H (.ptr kb (e * s.length + k)) (I v) = some H' ∧ Kn L s kb M H' ∧ Kp kb H H' ∧ ldA false 1 H' (.ptr kb (e * s.length + k)) = some (I v) := by
  obtain ⟨ks, h1, h2, h3⟩ := h.get
  obtain ⟨v0, hv0, _⟩ := h3 e k he hk
  have hlt := (List.getElem?_eq_some_iff.1 hv0).1
  refine ⟨H.set kb (some (.cells (ks.set (e * s.length + k) (I v)) true)), ?_, ⟨by simpa using h.lt, _, by simp; rfl, by simpa using h2, fun e' k' he' hk' => ?_⟩, ⟨by simp, fun j hj hne => by simp [hne]⟩, ?_⟩
  · have hlt' : e * s.length + k + [I v].length ≤ ks.length := by simp; omega
    rw [st_int, h1]
    simp only [stO_cells]
    rw [if_pos ⟨hlt', rfl⟩, ov_set _ _ _ hlt]
  · by_cases hi : e * s.length + k = e' * s.length + k'
    · obtain ⟨rfl, rfl⟩ := idx_inj hk hk' hi
      exact ⟨v, by simp [hlt], hv⟩
    · obtain ⟨w, hw, hw'⟩ := h3 e' k' he' hk'
      exact ⟨w, by simp [List.getElem?_set, hi, hw], hw'⟩
  · simp only [ld_ptr, hp_get_set, if_true, ldO_cells]
    rw [List.drop_eq_getElem_cons (by simpa using hlt), ldL_one]
    simp
section
variable {L : List Nd} {d : List Nat} {s : Sl} {dp kb M : Nat} {cap : Option Nat}
end
end Go.Proofs.Ytaoegkmfgfefgaa.Ev
namespace Go.Proofs.Ytaoegkmfgfefgaa.Ev
set_option linter.unusedVariables false
set_option linter.unusedSimpArgs false
variable {σ : Sig} {L : List Nd} {d : List Nat}
section
end
end Go.Proofs.Ytaoegkmfgfefgaa.Ev
namespace Go.Proofs.Ytaoegkmfgfefgaa.Ev
set_option linter.unusedVariables false
set_option linter.unusedSimpArgs false
inductive Sk where
  | same
  | sl (sz : Nat) (row : List Sk)
  | agg (row : List Sk)
  | ptr (row : List Sk)
def frzRows (sz : Nat) (g : List AV → Option (List AV)) : Nat → List AV → Option (List (List AV))
  | 0, _ => some []
  | n + 1, l => match g (l.take sz) with
    | some r => match frzRows sz g n (l.drop sz) with
      | some rs => some (r :: rs)
      | none => none
    | none => none
mutual
def frzS (H : Hp) : Sk → AV → Option AV
  | .same, x => bif noId x then some x else none
  | .sl sz row, x => match x with
    | .lit (.slice none 0 0) => some (.imm sz [])
    | .emp => some (.imm sz [])
    | .se _ _ _ => some (.imm sz [])
    | .imm s rows => bif noId (.imm s rows) then some (.imm s rows) else none
    | .sl id off s len _ => bif Nat.beq s sz then match H.get id with
        | some (.cells cs _) => match frzRows sz (fun l => frzR H row l) len (cs.drop off) with
          | some rows => bif Nat.beq row.length sz then some (.imm sz rows) else none
          | none => none
        | _ => none
      else none
    | _ => none
  | .agg row, x => match x with
    | .agg xs => match frzR H row xs with
      | some ys => some (.agg ys)
      | none => none
    | _ => none
  | .ptr row, x => match x with
    | .ptr id off => match H.get id with
      | some (.cells cs _) => match frzR H row ((cs.drop off).take row.length) with
        | some ys => some (.ip ys)
        | none => none
      | _ => none
    | _ => none
def frzR (H : Hp) : List Sk → List AV → Option (List AV)
  | [], xs => match xs with
    | [] => some []
    | _ => none
  | k :: ks, xs => match xs with
    | x :: xs => match frzS H k x with
      | some y => match frzR H ks xs with
        | some ys => some (y :: ys)
        | none => none
      | none => none
    | [] => none
end
theorem frzRows_ok {sz : Nat} {g : List AV → Option (List AV)} {H : Hp} (hg : ∀ l r, g l = some r → FzL H l r) : ∀ (n : Nat) (l : List AV) (rows : List (List AV)), frzRows sz g n l = some rows → rows.length = n ∧ ∀ (i : Nat) (row : List AV), rows[i]? = some row → FzL H ((l.drop (i * sz)).take sz) row
  | 0, l, rows, h => by
    simp only [frzRows, Option.some.injEq] at h
    subst h
    exact ⟨rfl, fun i row h => by simp at h⟩
  | n + 1, l, rows, h => by
    simp only [frzRows] at h
    split at h
    case h_2 => cases h
    rename_i r hr
    split at h
    case h_2 => cases h
    rename_i rs hrs
    simp only [Option.some.injEq] at h
    subst h
    obtain ⟨h1, h2⟩ := frzRows_ok hg n _ _ hrs
    refine ⟨by simp [h1], fun i row hi => ?_⟩
    cases i with
    | zero =>
      simp at hi
      subst hi
      simpa using hg _ _ hr
    | succ i =>
      simp at hi
      have := h2 i row hi
      rw [List.drop_drop] at this
      rw [Nat.succ_mul, Nat.add_comm]
      exact this
theorem FzL.len {H : Hp} {xs ys : List AV} (h : FzL H xs ys) : xs.length = ys.length := h.get.1
mutual
theorem frzS_ok {H : Hp} : ∀ (k : Sk) (x y : AV), frzS H k x = some y → Fz H x y
  | .same, x, y, h => by
    simp only [frzS] at h
    cases hn : noId x with
    | false => rw [hn] at h; cases h
    | true => rw [hn] at h; cases h; exact .refl hn
  | .sl sz row, x, y, h => by
    simp only [frzS] at h
    split at h
    · cases h; exact .nil
    · cases h; exact .emp
    · cases h; exact .se
    · rename_i s rows
      cases hn : noId (.imm s rows) with
      | false => rw [hn] at h; cases h
      | true => rw [hn] at h; cases h; exact .refl hn
    · rename_i id off s len cap
      cases hs : Nat.beq s sz with
      | false => rw [hs] at h; cases h
      | true =>
        rw [hs] at h
        have := Nat.eq_of_beq_eq_true hs
        subst this
        simp only [cond_true] at h
        split at h
        case h_2 => cases h
        rename_i cs ex hg
        split at h
        case h_2 => cases h
        rename_i rows hr
        cases hl : Nat.beq row.length s with
        | false => rw [hl] at h; cases h
        | true =>
          rw [hl] at h
          cases h
          have hlen := Nat.eq_of_beq_eq_true hl
          obtain ⟨h1, h2⟩ := frzRows_ok (fun l r hh => frzR_ok row l r hh) _ _ _ hr
          have hrow : ∀ (i : Nat) (r : List AV), rows[i]? = some r → r.length = s := by
            intro i r hi
            obtain ⟨_, hh⟩ := frzRows_ok (g := fun l => frzR H row l) (fun l r hh => frzR_ok row l r hh) _ _ _ hr
            exact frzRows_len (fun l r hh => by rw [← hlen]; exact frzR_len row l r hh) _ _ _ hr i r hi
          refine .sl (fun i j => cs.getD (off + (i * s + j)) .any) hg h1 hrow (fun i r j y hi hy => ?_) (fun i r j y hi hy => ?_)
          · obtain ⟨x, hx, _⟩ := (h2 i r hi).get.2 j y hy
            have hj : j < s := by rw [← hrow i r hi]; exact (List.getElem?_eq_some_iff.1 hy).1
            rw [List.getElem?_take, if_pos hj, List.getElem?_drop, List.getElem?_drop] at hx
            simp [hx]
          · obtain ⟨x, hx, hf⟩ := (h2 i r hi).get.2 j y hy
            have hj : j < s := by rw [← hrow i r hi]; exact (List.getElem?_eq_some_iff.1 hy).1
            rw [List.getElem?_take, if_pos hj, List.getElem?_drop, List.getElem?_drop] at hx
            simp [hx]
            exact hf
    · cases h
  | .agg row, x, y, h => by
    simp only [frzS] at h
    split at h
    case h_2 => cases h
    split at h
    case h_2 => cases h
    rename_i hr
    cases h
    exact Fz.aggL (frzR_ok row _ _ hr)
  | .ptr row, x, y, h => by
    simp only [frzS] at h
    split at h
    case h_2 => cases h
    rename_i id off
    split at h
    case h_2 => cases h
    rename_i cs ex hg
    split at h
    case h_2 => cases h
    rename_i ys hr
    cases h
    have hl := (frzR_ok row _ _ hr).get
    refine .ptr (fun j => cs.getD (off + j) .any) hg (fun j y hy => ?_) (fun j y hy => ?_)
    · obtain ⟨x, hx, _⟩ := hl.2 j y hy
      rw [List.getElem?_take] at hx
      split at hx
      · rw [List.getElem?_drop] at hx
        simp [hx]
      · cases hx
    · obtain ⟨x, hx, hf⟩ := hl.2 j y hy
      rw [List.getElem?_take] at hx
      split at hx
      · rw [List.getElem?_drop] at hx
        simp [hx]
        exact hf
      · cases hx
theorem frzR_ok {H : Hp} : ∀ (ks : List Sk) (xs ys : List AV), frzR H ks xs = some ys → FzL H xs ys
  | [], xs, ys, h => by
    simp only [frzR] at h
    split at h
    · cases h; exact .nil
    · cases h
  | k :: ks, xs, ys, h => by
    simp only [frzR] at h
    split at h
    case h_2 => cases h
    rename_i x xs
    split at h
    case h_2 => cases h
    rename_i y hy
    split at h
    case h_2 => cases h
    rename_i zs hz
    cases h
    exact .cons (frzS_ok k x y hy) (frzR_ok ks xs zs hz)
theorem frzR_len {H : Hp} : ∀ (ks : List Sk) (xs ys : List AV), frzR H ks xs = some ys → ys.length = ks.length
  | [], xs, ys, h => by
    simp only [frzR] at h
    split at h
    · cases h; rfl
    · cases h
  | k :: ks, xs, ys, h => by
    simp only [frzR] at h
    split at h
    case h_2 => cases h
    split at h
    case h_2 => cases h
    split at h
    case h_2 => cases h
    rename_i zs hz
    cases h
    simp [frzR_len ks _ _ hz]
theorem frzRows_len {sz : Nat} {g : List AV → Option (List AV)} (hg : ∀ l r, g l = some r → r.length = sz) : ∀ (n : Nat) (l : List AV) (rows : List (List AV)), frzRows sz g n l = some rows → ∀ (i : Nat) (r : List AV), rows[i]? = some r → r.length = sz
  | 0, l, rows, h, i, r, hi => by
    simp only [frzRows, Option.some.injEq] at h
    subst h
    simp at hi
  | n + 1, l, rows, h, i, r, hi => by
    simp only [frzRows] at h
    split at h
    case h_2 => cases h
    rename_i r0 hr0
    split at h
    case h_2 => cases h
    rename_i rs hrs
    cases h
    cases i with
    | zero => simp at hi; subst hi; exact hg _ _ hr0
    | succ i => exact frzRows_len hg n _ _ hrs i r (by simpa using hi)
end
def skStrs : Sk := .sl 1 [.same]
def skAts : Sk := .sl 3 [.same, .same, .same]
def skCp (pss : Sk) : List Sk := [.same, skStrs, skStrs, skAts, pss]
def skPss : Nat → Sk
  | 0 => .same
  | n + 1 => .sl 4 [.same, .same, .same, .sl 1 [.sl 6 (.same :: skCp (skPss n))]]
def skPts (n : Nat) : Sk := .sl 6 (.same :: skCp (skPss n))
def skSls (n : Nat) : Sk := .sl 1 [skPts n]
end Go.Proofs.Ytaoegkmfgfefgaa.Ev
namespace Go.Proofs.Ytaoegkmfgfefgaa.Ev
theorem Good.conv {P : Program} {σ : Sig} {f : Nat} {xs ys : List AV} {r : AV} {H H2 H3 : Hp} (k : Wk σ ys H xs H2) (h : Good P σ f xs H2 r H3) : Good P σ f ys H r H3 := by
  refine ⟨h.1, fun B w0 E w vs hσ hst hxs => ?_⟩
  obtain ⟨E2, h1, h2, h3⟩ := k hσ hst hxs
  refine (h.2 B w0 E2 w vs hσ h2 h3).mono fun e w' hh => ?_
  obtain ⟨E', v, rfl, hext, st2, hrel⟩ := hh
  exact ⟨E', v, rfl, h1.trans hext, st2, hrel⟩
def Hp.bare (n : Nat) : Hp := ⟨n, .leaf⟩
@[simp] theorem Hp.bare_n (n : Nat) : (Hp.bare n).n = n := rfl
@[simp] theorem Hp.bare_get (n j : Nat) : (Hp.bare n).get j = none := by simp [Hp.bare, Hp.get, Tr.get]
theorem FzL.t {H : Hp} {xs ys : List AV} (h : FzL H xs ys) : FzT H xs ys := by
  induction h with
  | nil => exact .nil
  | cons h hs ih => exact .fz h ih
theorem Good.drop {P : Program} {σ : Sig} {f : Nat} {xs ys : List AV} {r : AV} {H : Hp} (h : ∀ H, Good P σ f xs H r H) (hx : FzL H ys xs) : Good P σ f ys H r (Hp.bare H.n) :=
  Good.conv (Wk.frz (H2 := Hp.bare H.n) (Hd := H) rfl rfl (fun id k hk => ⟨hk, by simp⟩) (fun id k2 hk => by simp at hk) hx.t) (h _)
theorem bnd_of {α : Type} {o : Option α} {x : α} {K : α → Prop} (h : o = some x) (k : K x) : bnd o K := by rw [h]; exact k
end Go.Proofs.Ytaoegkmfgfefgaa.Ev
namespace Go.Proofs.Ytaoegkmfgfefgaa.Ev
set_option linter.unusedVariables false
set_option linter.unusedSimpArgs false
inductive Gsc (sz : Nat) (H : Hp) : AV → List (List AV) → Prop where
  | gs {x : AV} {rows : List (List AV)} (h : Gs sz H x rows) : Gsc sz H x rows
  | full {id : Nat} {ex : Bool} {rows : List (List AV)} (hlt : id < H.n) (hg : H.get id = some (.cells rows.flatten ex)) (hsz : ∀ row ∈ rows, row.length = sz) (h0 : rows ≠ []) : Gsc sz H (.sl id 0 sz rows.length (some rows.length)) rows
theorem Gsc.lit {sz : Nat} {H : Hp} {row : List AV} (hl : row.length = sz) : Gsc sz (H.new (.cells row true)) (.sl H.n 0 sz 1 (some 1)) [row] := by
  refine .full (id := H.n) (rows := [row]) (by simp) (by simp; rfl) (by simp [hl]) (by simp)
theorem LoopP.drop {P : Program} {C : Ctx P} {c : Code} {T T2 : List AV} {H : Hp} {Q : Exit → List AV → Hp → Prop} (hT : FzT H T T2) (h : LoopP C c T2 (Hp.bare H.n) Q) : LoopP C c T H Q :=
  LoopP.conv (Wk.frz (H2 := Hp.bare H.n) (Hd := H) rfl rfl (fun id k hk => ⟨hk, by simp⟩) (fun id k2 hk => by simp at hk) hT) h
end Go.Proofs.Ytaoegkmfgfefgaa.Ev
namespace Go.Proofs.Ytaoegkmfgfefgaa.Ev
theorem FzTr {Hd : Hp} : ∀ (T : List AV), FzT Hd T T
  | [] => .nil
  | x :: T => .same (FzTr T)
end Go.Proofs.Ytaoegkmfgfefgaa.Ev
namespace Go.Proofs.Ytaoegkmfgfefgaa.Ev
set_option linter.unusedVariables false
set_option linter.unusedSimpArgs false
variable {σ : Sig} {L : List Nd} {d : List Nat}
def TxL : Nat → List Sl → Prop
  | 0, _ => False
  | f + 1, l => ∀ s ∈ l, ∀ p ∈ s, (∀ a ∈ p.c.attrs, a.text.data.size < 4294967281) ∧ ∀ q ∈ p.c.pseudos, TxL f q.list
theorem TxL.one {f : Nat} {l : List Sl} (h : TxL f l) {s : Sl} (hs : s ∈ l) : TxL f [s] := by
  cases f with
  | zero => exact h
  | succ f => exact fun s' hs' => by rw [List.mem_singleton.1 hs']; exact h s hs
theorem RcOk.of {c : Cp} (h : CpOk c) (ht : ∀ a ∈ c.attrs, a.text.data.size < 4294967281) : RcOk c := ⟨h.ids, h.classes, h.attrs, h.ps, ht⟩
end Go.Proofs.Ytaoegkmfgfefgaa.Ev
namespace Go.Proofs.Ytaoegkmfgfefgaa.Ev
set_option linter.unusedVariables false
set_option linter.unusedSimpArgs false
variable {σ : Sig}
def bigS (s : ByteArray) : Bool := decide (60 < (s.data.size : Int))
def bigP (p : ByteArray × ByteArray) : Bool := bigS p.1 || decide (100 < (p.2.data.size : Int))
def bigN (n : Nd) : Bool := decide (8 < (n.classes.length : Int)) || (decide (8 < (n.attrs.length : Int)) || (bigS n.tag || (bigS n.id || (n.classes.any bigS || n.attrs.any bigP))))
structure NdSm (n : Nd) : Prop where
  classes : n.classes.length ≤ 8
  attrs : n.attrs.length ≤ 8
  tag : n.tag.data.size ≤ 60
  id : n.id.data.size ≤ 60
  cl : ∀ s ∈ n.classes, s.data.size ≤ 60
  at' : ∀ p ∈ n.attrs, p.1.data.size ≤ 60 ∧ p.2.data.size ≤ 100
theorem NdSm.of {n : Nd} (h : bigN n = false) : NdSm n := by
  unfold bigN bigP bigS at h
  simp only [Bool.or_eq_false_iff, decide_eq_false_iff_not, List.any_eq_false, Bool.or_eq_true, decide_eq_true_eq, not_or] at h
  obtain ⟨h1, h2, h3, h4, h5, h6⟩ := h
  exact ⟨by omega, by omega, by omega, by omega, fun s hs => by have := h5 s hs; omega, fun p hp => by have := h6 p hp; omega⟩
section
end
end Go.Proofs.Ytaoegkmfgfefgaa.Ev
namespace Go.Proofs.Ytaoegkmfgfefgaa.Ev
set_option linter.unusedVariables false
set_option linter.unusedSimpArgs false
theorem rows_map {α : Type} {f : α → List AV} {P : α → Prop} : ∀ {rows : List (List AV)}, (∀ row ∈ rows, ∃ x, row = f x ∧ P x) → ∃ l : List α, rows = l.map f ∧ ∀ x ∈ l, P x
  | [], _ => ⟨[], rfl, fun x hx => by cases hx⟩
  | r :: rs, h => by
    obtain ⟨x, hx, px⟩ := h r (by simp)
    obtain ⟨l, hl, pl⟩ := rows_map (rows := rs) fun row hr => h row (by simp [hr])
    refine ⟨x :: l, by rw [hx, hl]; rfl, fun y hy => ?_⟩
    rcases List.mem_cons.1 hy with rfl | hy
    · exact px
    · exact pl y hy
theorem d_int {ts : List Nat} {zs : List AV} (h : Sh tiT.get (T_int :: ts) zs) : ∃ n ys, zs = I n :: ys ∧ i64 n ∧ Sh tiT.get ts ys := by
  obtain ⟨i, hi, hd, _⟩ := T_int_is
  obtain ⟨n, ys, e, hw, hs⟩ := sh_int hi hd h
  refine ⟨n, ys, e, ?_, hs⟩
  simp [Lit.wf, IntKind.min, IntKind.max, IntKind.signed, IntKind.bits] at hw
  unfold i64
  omega
theorem d_str {ts : List Nat} {zs : List AV} (h : Sh tiT.get (T_string :: ts) zs) : ∃ s ys, zs = Sx s :: ys ∧ s.data.size ≤ Lmax ∧ Sh tiT.get ts ys := by
  obtain ⟨i, hi, hd, _⟩ := T_string_is
  obtain ⟨s, ys, e, hw, hs⟩ := sh_str hi hd h
  exact ⟨s, ys, e, Nat.le_trans hw (by decide), hs⟩
theorem d_bool {ts : List Nat} {zs : List AV} (h : Sh tiT.get (T_bool :: ts) zs) : ∃ b ys, zs = Bo b :: ys ∧ Sh tiT.get ts ys := by
  obtain ⟨i, hi, hd, _⟩ := T_bool_is
  exact sh_bool hi hd h
theorem d_slice {t e sz : Nat} (hT : ∃ i, tiT.get t = some i ∧ i.d = .slice e ∧ i.size = 1) (hE : ∃ i, tiT.get e = some i ∧ i.size = sz) {ts : List Nat} {zs : List AV} (h : Sh tiT.get (t :: ts) zs) :
    ∃ rows ys, zs = .imm sz rows :: ys ∧ (∀ row ∈ rows, Sh tiT.get [e] row) ∧ rows.length ≤ Lmax ∧ Sh tiT.get ts ys := by
  obtain ⟨i, hi, hd, _⟩ := hT
  obtain ⟨j', hj', hs'⟩ := hE
  rcases sh_slice hi hd h with ⟨ys, _, _⟩ | ⟨j, rows, ys, hj, e, hr, hl, hm, _, hs⟩
  · cases h with
    | sl h' hd' he hc hl hm hb hs => rw [hi] at h'; cases h'; rw [hd] at hd'; cases hd'; rw [hj'] at he; cases he; exact ⟨_, _, by rw [hs'], hc, hm, hs⟩
    | _ => simp_all
  · rw [hj'] at hj
    cases hj
    rw [hs'] at e
    exact ⟨rows, ys, e, hr, hm, hs⟩
theorem d_struct {t : Nat} {fs : List (Nat × Nat)} {sz : Nat} (hT : ∃ i, tiT.get t = some i ∧ i.d = .struct fs ∧ i.size = sz) {ts : List Nat} {zs : List AV} (h : Sh tiT.get (t :: ts) zs) : Sh tiT.get (fs.map (·.2) ++ ts) zs := by
  obtain ⟨i, hi, hd, _⟩ := hT
  exact sh_struct hi hd h
theorem sz_of {t sz : Nat} {d : TD} (h : ∃ i, tiT.get t = some i ∧ i.d = d ∧ i.size = sz) : ∃ i, tiT.get t = some i ∧ i.size = sz := by
  obtain ⟨i, a, _, b⟩ := h
  exact ⟨i, a, b⟩
theorem d_strs {ts : List Nat} {zs : List AV} (h : Sh tiT.get (T_sl_string :: ts) zs) : ∃ l ys, zs = strs l :: ys ∧ strsWf Lmax l ∧ Sh tiT.get ts ys := by
  obtain ⟨rows, ys, e, hr, hm, hs⟩ := d_slice T_sl_string_is (sz_of T_string_is) h
  obtain ⟨l, hl, hp⟩ := rows_map (f := fun s => [Sx s]) (P := fun s => s.data.size ≤ Lmax) fun row hrow => by
    obtain ⟨s, ys, e, hw, hs⟩ := d_str (hr row hrow)
    rw [sh_nil hs] at e
    exact ⟨s, e, hw⟩
  exact ⟨l, ys, by rw [e, hl]; rfl, ⟨by rw [hl] at hm; simpa using hm, hp⟩, hs⟩
theorem d_attrs {ts : List Nat} {zs : List AV} (h : Sh tiT.get (T_sl_api_Attr :: ts) zs) : ∃ (l : List At) (ys : List AV), zs = .imm 3 (l.map encAt) :: ys ∧ (l.length ≤ Lmax ∧ ∀ x ∈ l, x.name.data.size ≤ Lmax ∧ i64 x.op ∧ x.text.data.size ≤ Lmax) ∧ Sh tiT.get ts ys := by
  obtain ⟨rows, ys, e, hr, hm, hs⟩ := d_slice T_sl_api_Attr_is (sz_of T_api_Attr_is) h
  obtain ⟨l, hl, hp⟩ := rows_map (f := encAt) (P := fun x => x.name.data.size ≤ Lmax ∧ i64 x.op ∧ x.text.data.size ≤ Lmax) fun row hrow => by
    have h1 := d_struct T_api_Attr_is (hr row hrow)
    obtain ⟨a, y1, e1, w1, h2⟩ := d_str h1
    obtain ⟨b, y2, e2, w2, h3⟩ := d_int h2
    obtain ⟨c, y3, e3, w3, h4⟩ := d_str h3
    rw [sh_nil h4] at e3
    exact ⟨⟨a, b, c⟩, by rw [e1, e2, e3]; rfl, w1, w2, w3⟩
  exact ⟨l, ys, by rw [e, hl], ⟨by rw [hl] at hm; simpa using hm, hp⟩, hs⟩
theorem d_parts : ∀ (n : Nat) {ts : List Nat} {zs : List AV}, SizeOf.sizeOf zs ≤ n → Sh tiT.get (T_sl_api_Part :: ts) zs → ∃ (l : List Pt) (ys : List AV), zs = .imm 6 (l.map encPt) :: ys ∧ (l.length ≤ Lmax ∧ ∀ p ∈ l, Pt.wf Lmax p) ∧ Sh tiT.get ts ys
  | 0, ts, zs, hn, h => by cases zs <;> simp at hn
  | n + 1, ts, zs, hn, h => by
    obtain ⟨rows, ys, e, hr, hm, hs⟩ := d_slice T_sl_api_Part_is (sz_of T_api_Part_is) h
    obtain ⟨l, hl, hp⟩ := rows_map (f := encPt) (P := fun p => Pt.wf Lmax p) fun row hrow => by
      have hsz : SizeOf.sizeOf row < n := by
        have h1 : SizeOf.sizeOf row < SizeOf.sizeOf rows := List.sizeOf_lt_of_mem hrow
        rw [e] at hn
        simp only [List.cons.sizeOf_spec, AV.imm.sizeOf_spec] at hn
        omega
      obtain ⟨k, y1, e1, w1, h1⟩ := d_int (d_struct T_api_Part_is (hr row hrow))
      have h1 := d_struct T_api_Compound_is h1
      obtain ⟨t, y2, e2, w2, h2⟩ := d_str h1
      obtain ⟨i, y3, e3, w3, h3⟩ := d_strs h2
      obtain ⟨c, y4, e4, w4, h4⟩ := d_strs h3
      obtain ⟨a, y5, e5, w5, h5⟩ := d_attrs h4
      obtain ⟨prows, y6, e6, hpr, hpm, h6⟩ := d_slice T_sl_api_Pseudo_is (sz_of T_api_Pseudo_is) h5
      rw [sh_nil h6] at e6
      subst e6 e5 e4 e3 e2 e1
      obtain ⟨ps, hps, hpp⟩ := rows_map (f := encPs) (P := fun p => Ps.wf Lmax p) fun prow hprow => by
        have hsz2 : SizeOf.sizeOf prow < n := by
          have h1 : SizeOf.sizeOf prow < SizeOf.sizeOf prows := List.sizeOf_lt_of_mem hprow
          simp only [List.cons.sizeOf_spec, AV.imm.sizeOf_spec] at hsz
          omega
        have g1 := d_struct T_api_Pseudo_is (hpr prow hprow)
        obtain ⟨k, y1, e1, w1, g2⟩ := d_int g1
        obtain ⟨a, y2, e2, w2, g3⟩ := d_int g2
        obtain ⟨b, y3, e3, w3, g4⟩ := d_int g3
        obtain ⟨srows, y4, e4, hsr, hsm, g5⟩ := d_slice T_sl_api_Selector_is (sz_of T_api_Selector_is) g4
        rw [sh_nil g5] at e4
        subst e4 e3 e2 e1
        obtain ⟨ss, hss, hsp⟩ := rows_map (f := encSl) (P := slWf Lmax) fun srow hsrow => by
          have hsz3 : SizeOf.sizeOf srow < n := by
            have h1 : SizeOf.sizeOf srow < SizeOf.sizeOf srows := List.sizeOf_lt_of_mem hsrow
            simp only [List.cons.sizeOf_spec, AV.imm.sizeOf_spec] at hsz2
            omega
          obtain ⟨l, y1, e1, w1, q1⟩ := d_parts n (by omega) (d_struct T_api_Selector_is (hsr srow hsrow))
          rw [sh_nil q1] at e1
          exact ⟨l, e1, w1.1, w1.2⟩
        refine ⟨.mk k a b ss, by rw [encPs_eq, hss]; rfl, ?_⟩
        rw [Ps.wf_iff]
        exact ⟨w1, w2, w3, by rw [hss, List.length_map] at hsm; exact hsm, hsp⟩
      refine ⟨.mk k (.mk t i c a ps), by rw [encPt_eq, encCp_eq, hps]; rfl, ?_⟩
      rw [Pt.wf_iff]
      exact ⟨w1, w2, w3, w4, w5.1, w5.2, by rw [hps, List.length_map] at hpm; exact hpm, hpp⟩
    exact ⟨l, ys, by rw [e, hl], ⟨by rw [hl] at hm; simpa using hm, hp⟩, hs⟩
theorem d_sel {ts : List Nat} {zs : List AV} (h : Sh tiT.get (T_api_Selector :: ts) zs) : ∃ (s : Sl) (ys : List AV), zs = encSl s ++ ys ∧ slWf Lmax s ∧ Sh tiT.get ts ys := by
  obtain ⟨l, ys, e, w, hs⟩ := d_parts _ (Nat.le_refl _) (d_struct T_api_Selector_is h)
  exact ⟨l, ys, e, w, hs⟩
theorem d_sels {ts : List Nat} {zs : List AV} (h : Sh tiT.get (T_sl_api_Selector :: ts) zs) : ∃ l ys, zs = sls l :: ys ∧ slsWf Lmax l ∧ Sh tiT.get ts ys := by
  obtain ⟨rows, ys, e, hr, hm, hs⟩ := d_slice T_sl_api_Selector_is (sz_of T_api_Selector_is) h
  obtain ⟨l, hl, hp⟩ := rows_map (f := encSl) (P := slWf Lmax) fun row hrow => by
    obtain ⟨s, y, e, w, hs⟩ := d_sel (hr row hrow)
    rw [sh_nil hs, List.append_nil] at e
    exact ⟨s, e, w⟩
  exact ⟨l, ys, by rw [e, hl]; rfl, ⟨by rw [hl] at hm; simpa using hm, hp⟩, hs⟩
def readB : List Nat := [T_int, T_string, T_bool, T_sl_string, T_sl_api_Attr, T_api_Attr, T_sl_api_Part, T_api_Part, T_api_Compound, T_sl_api_Pseudo, T_api_Pseudo, T_sl_api_Selector, T_api_Selector, T_sl_api_Node, T_api_Node, T_sl_api_Pair, T_api_Pair]
end Go.Proofs.Ytaoegkmfgfefgaa.Ev
namespace Go.Proofs.Ytaoegkmfgfefgaa.Ev
theorem v_agg {t sz : Nat} {fs : List (Nat × Nat)} (hT : ∃ i, tiT.get t = some i ∧ i.d = .struct fs ∧ i.size = sz) {x : AV} (h : ShV tiT.get t x) : ∃ ys, x = .agg ys ∧ Sh tiT.get [t] ys := by
  obtain ⟨i, hi, hd, _⟩ := hT
  exact shV_agg hi (by rw [hd]; rfl) h
theorem v_one {t sz : Nat} {d : TD} (hT : ∃ i, tiT.get t = some i ∧ i.d = d ∧ i.size = sz) (ha : d.agg = false) {x : AV} (h : ShV tiT.get t x) : Sh tiT.get [t] [x] := by
  obtain ⟨i, hi, hd, _⟩ := hT
  unfold ShV at h
  rw [hi] at h
  simp only [hd, ha] at h
  exact h
end Go.Proofs.Ytaoegkmfgfefgaa.Ev
namespace Go.Proofs.Ytaoegkmfgfefgaa.Ev
theorem d_strR {ts : List Nat} {zs : List AV} (h : Sh tiT.get (T_string :: ts) zs) : ∃ s ys, zs = Sx s :: ys ∧ s.data.size ≤ reachBytes ∧ Sh tiT.get ts ys := by
  obtain ⟨i, hi, hd, _⟩ := T_string_is
  obtain ⟨s, ys, e, hw, hs⟩ := sh_str hi hd h
  exact ⟨s, ys, e, hw, hs⟩
theorem d_sliceB {t e sz B : Nat} (hT : ∃ i, tiT.get t = some i ∧ i.d = .slice e ∧ i.size = 1) (hE : ∃ i, tiT.get e = some i ∧ i.size = sz) (hB : (tiT.get e).map (·.bytes) = some B) {ts : List Nat} {zs : List AV} (h : Sh tiT.get (t :: ts) zs) :
    ∃ rows ys, zs = .imm sz rows :: ys ∧ (∀ row ∈ rows, Sh tiT.get [e] row) ∧ rows.length * B ≤ reachBytes ∧ Sh tiT.get ts ys := by
  obtain ⟨i, hi, hd, _⟩ := hT
  obtain ⟨j', hj', hs'⟩ := hE
  rw [hj'] at hB
  simp only [Option.map_some, Option.some.injEq] at hB
  cases h with
  | sl h' hd' he hc hl hm hb hs => rw [hi] at h'; cases h'; rw [hd] at hd'; cases hd'; rw [hj'] at he; cases he; exact ⟨_, _, by rw [hs'], hc, by rw [← hB]; exact hb, hs⟩
  | _ => simp_all
theorem d_strsR {ts : List Nat} {zs : List AV} (h : Sh tiT.get (T_sl_string :: ts) zs) : ∃ l ys, zs = strs l :: ys ∧ l.length * 16 ≤ reachBytes ∧ Sh tiT.get ts ys := by
  obtain ⟨rows, ys, e, hr, hm, hs⟩ := d_sliceB T_sl_string_is (sz_of T_string_is) (B := 16) (by kernel_rfl) h
  obtain ⟨l, hl, hp⟩ := rows_map (f := fun s => [Sx s]) (P := fun s => True) fun row hrow => by
    obtain ⟨s, ys, e, hw, hs⟩ := d_str (hr row hrow)
    rw [sh_nil hs] at e
    exact ⟨s, e, trivial⟩
  exact ⟨l, ys, by rw [e, hl]; rfl, by rw [hl] at hm; simpa using hm, hs⟩
theorem d_pairs {ts : List Nat} {zs : List AV} (h : Sh tiT.get (T_sl_api_Pair :: ts) zs) : ∃ (l : List (ByteArray × ByteArray)) (ys : List AV), zs = .imm 2 (l.map encPr) :: ys ∧ (l.length * 32 ≤ reachBytes ∧ ∀ x ∈ l, x.1.data.size ≤ reachBytes) ∧ Sh tiT.get ts ys := by
  obtain ⟨rows, ys, e, hr, hm, hs⟩ := d_sliceB T_sl_api_Pair_is (sz_of T_api_Pair_is) (B := 32) (by kernel_rfl) h
  obtain ⟨l, hl, hp⟩ := rows_map (f := encPr) (P := fun x => x.1.data.size ≤ reachBytes) fun row hrow => by
    obtain ⟨a, y1, e1, w1, h2⟩ := d_strR (d_struct T_api_Pair_is (hr row hrow))
    obtain ⟨b, y2, e2, w2, h3⟩ := d_strR h2
    rw [sh_nil h3] at e2
    exact ⟨⟨a, b⟩, by rw [e1, e2]; rfl, w1⟩
  exact ⟨l, ys, by rw [e, hl], ⟨by rw [hl] at hm; simpa using hm, hp⟩, hs⟩
end Go.Proofs.Ytaoegkmfgfefgaa.Ev
namespace Go.Proofs.Ytaoegkmfgfefgaa.Ev
set_option linter.unusedVariables false
set_option linter.unusedSimpArgs false
theorem sum_bk {α : Type} {f : α → List AV} {g : α → Nat} : ∀ {l : List α}, (∀ x ∈ l, g x ≤ bkL (f x)) → (l.map g).sum ≤ bkLL (l.map f)
  | [], _ => by simp [bkLL]
  | x :: r, h => by
    have h1 := h x (by simp)
    have h2 := sum_bk (f := f) (g := g) (l := r) fun y hy => h y (by simp [hy])
    simp only [List.map_cons, List.sum_cons, bkLL]
    omega
theorem len_bk {α : Type} {f : α → List AV} {l : List α} (h : ∀ x ∈ l, 1 ≤ bkL (f x)) : l.length ≤ bkLL (l.map f) := by
  have h1 := sum_bk (f := f) (g := fun _ => 1) (l := l) h
  have h2 : ∀ l : List α, (l.map fun _ => 1).sum = l.length := by
    intro l
    induction l with
    | nil => rfl
    | cons a r ih => simp only [List.map_cons, List.sum_cons, List.length_cons, ih]; omega
  rw [h2] at h1
  exact h1
theorem bk_imm (sz : Nat) (rows : List (List AV)) : bk (.imm sz rows) = bkLL rows + 1 := by simp [bk]
end Go.Proofs.Ytaoegkmfgfefgaa.Ev
namespace Go.Proofs.Ytaoegkmfgfefgaa.Ev
set_option linter.unusedVariables false
set_option linter.unusedSimpArgs false
variable {σ : Sig}
end Go.Proofs.Ytaoegkmfgfefgaa.Ev
namespace Go.Proofs.Ytaoegkmfgfefgaa.Ev
set_option linter.unusedVariables false
set_option linter.unusedSimpArgs false
variable {σ : Sig}
def eqFrom {α : Type} [DecidableEq α] (a b : List α) (k : Nat) : Bool := decide (a.drop k = b.drop k)
theorem eqFrom_step {α : Type} [DecidableEq α] {a b : List α} {k : Nat} {x y : α} (hx : a[k]? = some x) (hy : b[k]? = some y) : eqFrom a b k = (decide (x = y) && eqFrom a b (k + 1)) := by
  unfold eqFrom
  rw [drop_get hx, drop_get hy, ← Bool.decide_and, decide_eq_decide, List.cons.injEq]
theorem eqFrom_end {α : Type} [DecidableEq α] {a b : List α} (h : a.length = b.length) : eqFrom a b a.length = true := by
  unfold eqFrom
  rw [List.drop_length, h, List.drop_length]
  rfl
theorem eqFrom_len {α : Type} [DecidableEq α] {a b : List α} (h : a.length ≠ b.length) : decide (a = b) = false := decide_eq_false fun e => h (by rw [e])
section
end
section
end
end Go.Proofs.Ytaoegkmfgfefgaa.Ev
namespace Go.Proofs.Ytaoegkmfgfefgaa.Ev
set_option linter.unusedVariables false
set_option linter.unusedSimpArgs false
variable {σ : Sig}
structure RlWf (r : RL) : Prop where
  sels : slsWf Lmax r.sels
  setsL : r.sets.length ≤ Lmax
  sets : ∀ s ∈ r.sets, i64 s.prop ∧ i64 s.kind ∧ i64 s.n
def rlsWf (l : List RL) : Prop := l.length ≤ Lmax ∧ ∀ r ∈ l, RlWf r
theorem d_sets {ts : List Nat} {zs : List AV} (h : Sh tiT.get (T_sl_api_Set :: ts) zs) : ∃ (l : List ST) (ys : List AV), zs = .imm 4 (l.map encST) :: ys ∧ (l.length ≤ Lmax ∧ ∀ s ∈ l, i64 s.prop ∧ i64 s.kind ∧ i64 s.n) ∧ Sh tiT.get ts ys := by
  obtain ⟨rows, ys, e, hr, hm, hs⟩ := d_slice T_sl_api_Set_is (sz_of T_api_Set_is) h
  obtain ⟨l, hl, hp⟩ := rows_map (f := encST) (P := fun s => i64 s.prop ∧ i64 s.kind ∧ i64 s.n) fun row hrow => by
    obtain ⟨p, y1, e1, w1, h2⟩ := d_int (d_struct T_api_Set_is (hr row hrow))
    obtain ⟨k, y2, e2, w2, h3⟩ := d_int (d_struct T_api_Value_is h2)
    obtain ⟨n, y3, e3, w3, h4⟩ := d_int h3
    obtain ⟨b, y4, e4, h5⟩ := d_bool h4
    rw [sh_nil h5] at e4
    exact ⟨⟨p, k, n, b⟩, by rw [e1, e2, e3, e4]; rfl, w1, w2, w3⟩
  exact ⟨l, ys, by rw [e, hl], ⟨by rw [hl] at hm; simpa using hm, hp⟩, hs⟩
theorem d_rules {ts : List Nat} {zs : List AV} (h : Sh tiT.get (T_sl_api_Rule :: ts) zs) : ∃ (l : List RL) (ys : List AV), zs = rls l :: ys ∧ rlsWf l ∧ Sh tiT.get ts ys := by
  obtain ⟨rows, ys, e, hr, hm, hs⟩ := d_slice T_sl_api_Rule_is (sz_of T_api_Rule_is) h
  obtain ⟨l, hl, hp⟩ := rows_map (f := encRL) (P := RlWf) fun row hrow => by
    obtain ⟨s, y1, e1, w1, h2⟩ := d_sels (d_struct T_api_Rule_is (hr row hrow))
    obtain ⟨t, y2, e2, w2, h3⟩ := d_sets h2
    rw [sh_nil h3] at e2
    exact ⟨⟨s, t⟩, by rw [e1, e2]; rfl, w1, w2.1, w2.2⟩
  exact ⟨l, ys, by rw [e, hl]; rfl, ⟨by rw [hl] at hm; simpa using hm, hp⟩, hs⟩
def readR : List Nat := readB ++ [T_sl_api_Rule, T_api_Rule, T_sl_api_Set, T_api_Set, T_api_Value]
theorem readR_closed : closedB tiT.get readR = true := by kernel_rfl
theorem v_rules {x : AV} (h : ShV tiT.get T_sl_api_Rule x) : ∃ l, x = rls l ∧ rlsWf l := by
  obtain ⟨l, ys, e, w, hn⟩ := d_rules (v_one T_sl_api_Rule_is rfl h)
  cases e
  exact ⟨l, rfl, w⟩
theorem bk_rl (r : RL) : bkL (encRL r) = (bkLL (r.sels.map encSl) + 1) + (bkLL (r.sets.map encST) + 1) := by
  unfold encRL sls
  simp only [bkL, bk_imm, Nat.add_zero]
theorem bk_rls (l : List RL) : bk (rls l) = bkLL (l.map encRL) + 1 := by unfold rls; rw [bk_imm]
def allSels (l : List RL) : List Sl := l.flatMap (·.sels)
structure Fit12 (l : List RL) : Prop where
  len : l.length ≤ 30
  sels : ∀ r ∈ l, r.sels.length ≤ 8
  sets : ∀ r ∈ l, r.sets.length ≤ 30
  fit : ∀ r ∈ l, ∀ s ∈ r.sels, FitL 11 [s]
section
theorem dear12_drop {K : AV → Hp → Prop} {y0 y3 y3' y4 y5 y6 : AV} {H : Hp} (hf : Fz H y3 y3') (h : law12_Dear.L1 σ K y0 y3' y4 y5 y6 (Hp.bare H.n)) : law12_Dear.L1 σ K y0 y3 y4 y5 y6 H :=
  fun js => LoopP.drop (.same (.same (.same (.fz hf (FzTr _))))) (h js)
end
theorem all_len {l : List RL} (h : ∀ r ∈ l, r.sels.length ≤ 8) : (allSels l).length ≤ 8 * l.length := by
  induction l with
  | nil => simp [allSels]
  | cons r l ih =>
    have h1 := h r (by simp)
    have h2 := ih fun r hr => h r (by simp [hr])
    unfold allSels at h2 ⊢
    rw [List.flatMap_cons, List.length_append, List.length_cons]
    omega
section
attribute [local irreducible] law12_Dear.L0 law12_Dear.L1
theorem Dear12_ok (l : List RL) (hl : rlsWf l) : ∃ b, (∀ H, Good Try.prog σ n_law12_Dear [rls l] H (Bo b) H) ∧ (b = false → Fit12 l) := by
  have run : ∃ r H1, Good Try.prog σ n_law12_Dear [rls l] Hp.empty r H1 ∧ ∃ b, r = Bo b ∧ (b = false → Fit12 l) := by
    obtain ⟨K, hKd⟩ : ∃ K : AV → Hp → Prop, ∀ r H1, K r H1 ↔ ∃ b, r = Bo b ∧ (b = false → Fit12 l) := ⟨_, fun _ _ => Iff.rfl⟩
    have kt : ∀ H, K (Bo true) H := fun H => (hKd _ _).2 ⟨true, rfl, fun h => by cases h⟩
    suffices h : ∃ r H1, Good Try.prog σ n_law12_Dear [rls l] Hp.empty r H1 ∧ K r H1 by
      obtain ⟨r, H1, a, b⟩ := h
      exact ⟨r, H1, a, (hKd _ _).1 b⟩
    refine law12_Dear.run ?_
    simp only [len_rls, bnd_some, b_gtr, ifB_lit, decide_eq_true_eq]
    split
    · exact kt _
    rename_i h30
    have L1 : ∀ (all : List Sl), all = allSels l → (∀ r ∈ l, r.sels.length ≤ 8) → (∀ r ∈ l, r.sets.length ≤ 30) → ∀ (f j : Nat) (H : Hp) (n : Int) (y4 : AV), all.length - j = f → j ≤ all.length → (∀ s ∈ all.take j, FitL 11 [s]) → law12_Dear.L1 σ K (rls l) (sls all) y4 (I n) (I (j : Int)) H := by
      intro all hall h8 hst f
      have hal : all.length ≤ 240 := by
        have := all_len h8
        rw [hall]; omega
      have hawf : ∀ s ∈ all, slWf Lmax s := by
        intro s hs
        rw [hall] at hs
        obtain ⟨r, hr, hs⟩ := List.mem_flatMap.1 hs
        exact (hl.2 r hr).sels.2 s hs
      induction f with
      | zero =>
        intro j H n y4 hf hj hfit
        have : j = all.length := by omega
        subst this
        rw [List.take_length] at hfit
        refine law12_Dear.L1_step ?_
        simp only [len_sls, bnd_some, b_lss, Int.lt_irrefl, decide_false, ifB_lit, Bool.false_eq_true, if_false, b_gtr]
        rw [hKd]
        refine ⟨_, rfl, fun _ => ⟨by omega, h8, hst, fun r hr s hs => hfit s ?_⟩⟩
        rw [hall]
        exact List.mem_flatMap.2 ⟨r, hr, hs⟩
      | succ f ih =>
        intro j H n y4 hf hj hfit
        have hlt : j < all.length := by omega
        have hlt' : (j : Int) < all.length := by omega
        obtain ⟨s, hs⟩ := get_lt hlt
        have hsm := List.mem_of_getElem? hs
        obtain ⟨b, hd, hf1⟩ := Dear_ok (σ := σ) [s] ⟨by show 1 ≤ Lmax; decide, fun s' h => by rw [List.mem_singleton.1 h]; exact hawf s hsm⟩
        refine law12_Dear.L1_step ?_
        have hix : ixaSl 1 (sls all) (I (j : Int)) = some (.ip (encSl s)) := ix_map hs
        have hw : wr .i64 ((j : Int) + 1) = ((j + 1 : Nat) : Int) := wr_succ (by omega)
        simp only [len_sls, bnd_some, b_lss, hlt', decide_true, ifB_lit, if_true, b_add, hw, sl_one hs]
        refine callK_of (hd _) ?_
        simp only [ifB_lit]
        cases hb : b with
        | true => simp only [if_true]; exact kt _
        | false =>
          simp only [Bool.false_eq_true, if_false, hix, bnd_some, sh_ip, List.drop_zero, ld_ip, f_encSl0, len_imm, List.length_map, b_add]
          refine ih (j + 1) H _ y4 (by omega) (by omega) fun s' hs' => ?_
          rw [List.take_add_one, hs] at hs'
          rcases List.mem_append.1 hs' with h | h
          · exact hfit s' h
          · simp at h; subst h; exact hf1 hb
    have L0 : ∀ (f m : Nat) (H : Hp) (y3 y5 y6 : AV), l.length - m = f → m ≤ l.length → (∀ r ∈ l.take m, r.sels.length ≤ 8) → (∀ r ∈ l.take m, r.sets.length ≤ 30) → Gs 1 H y3 ((allSels (l.take m)).map encSl) → law12_Dear.L0 σ K (rls l) y3 (I (m : Int)) y5 y6 H := by
      intro f
      induction f with
      | zero =>
        intro m H y3 y5 y6 hf hm h8 hst hg
        have : m = l.length := by omega
        subst this
        rw [List.take_length] at h8 hst hg
        refine law12_Dear.L0_step ?_
        simp only [len_rls, bnd_some, b_lss, Int.lt_irrefl, decide_false, ifB_lit, Bool.false_eq_true, if_false]
        exact dear12_drop (hg.fz (noIds_map _ noId_Sl _)) (L1 _ rfl h8 hst _ 0 _ 0 _ rfl (Nat.zero_le _) (fun s h => by simp at h))
      | succ f ih =>
        intro m H y3 y5 y6 hf hm h8 hst hg
        have hlt : m < l.length := by omega
        have hlt' : (m : Int) < l.length := by omega
        obtain ⟨r, hr⟩ := get_lt hlt
        have hix : ixaSl 2 (rls l) (I (m : Int)) = some (.ip (encRL r)) := ix_map hr
        have e1 : ldA false 1 H (.ip (encRL r)) = some (sls r.sels) := rfl
        have e2 : ldA false 1 H (.ip ((encRL r).drop 1)) = some (.imm 4 (r.sets.map encST)) := rfl
        refine law12_Dear.L0_step ?_
        simp only [len_rls, bnd_some, b_lss, hlt', decide_true, ifB_lit, if_true, hix, sh_ip, List.drop_zero, e1, e2, len_sls, len_imm, List.length_map, b_gtr, decide_eq_true_eq]
        split
        · exact kt _
        split
        · exact kt _
        rename_i q1 q2
        have hal := all_len h8
        rw [List.length_take] at hal
        have hone : ((r.sels.map encSl).flatten).all AV.one = true := by
          rw [List.all_eq_true]; intro x hx
          obtain ⟨q, hq, hx⟩ := List.mem_flatten.1 hx
          obtain ⟨s, _, rfl⟩ := List.mem_map.1 hq
          exact List.all_eq_true.1 (one_Sl s) x hx
        refine bnd_app (y := .imm 1 (r.sels.map encSl)) hg rfl src_imm (fun q hq => by obtain ⟨s, _, rfl⟩ := List.mem_map.1 hq; rfl) hone (by simp only [List.length_map]; omega) (by simp only [List.length_map]; omega) fun x' H' g' _ => ?_
        rw [b_add, bnd_some, wr_succ (by omega)]
        have htk : l.take (m + 1) = l.take m ++ [r] := by rw [List.take_add_one, hr]; rfl
        refine ih (m + 1) H' x' _ _ (by omega) (by omega) ?_ ?_ ?_
        · intro q hq
          rw [htk] at hq
          rcases List.mem_append.1 hq with h | h
          · exact h8 q h
          · simp at h; subst h; omega
        · intro q hq
          rw [htk] at hq
          rcases List.mem_append.1 hq with h | h
          · exact hst q h
          · simp at h; subst h; omega
        · rw [htk]
          have : allSels (l.take m ++ [r]) = allSels (l.take m) ++ r.sels := by unfold allSels; simp
          rw [this, List.map_append]
          exact g'
    exact L0 _ 0 _ _ _ _ rfl (Nat.zero_le _) (fun r h => by simp at h) (fun r h => by simp at h) (by simpa [allSels] using Gs.nil)
  obtain ⟨r, H1, hg, b, rfl, hb⟩ := run
  exact ⟨b, fun H => hg.over (by simp [noIds]) rfl H, hb⟩
end
end Go.Proofs.Ytaoegkmfgfefgaa.Ev
namespace Go.Proofs.Ytaoegkmfgfefgaa.Ev
set_option linter.unusedVariables false
set_option linter.unusedSimpArgs false
variable {σ : Sig}
section
end
structure Rl8 (l : List RL) : Prop where
  len : l.length ≤ 60
  sels : ∀ r ∈ l, r.sels.length ≤ 8
  parts : ∀ r ∈ l, ∀ s ∈ r.sels, s.length < 9000000000000000000
section
end
section
end
section
end
end Go.Proofs.Ytaoegkmfgfefgaa.Ev
namespace Go.Proofs.Ytaoegkmfgfefgaa.Ev
set_option linter.unusedVariables false
set_option linter.unusedSimpArgs false
variable {σ : Sig}
def keyC (c : Cp) : Int × ByteArray := match c.ids with
  | x :: _ => (1, x)
  | [] => match c.classes with
    | x :: _ => (2, x)
    | [] => if c.tag = ⟨#[]⟩ then (0, ⟨#[]⟩) else (3, c.tag)
def encKey (k : Int × ByteArray) : List AV := [I k.1, Sx k.2]
theorem of_ok (c : Cp) (H : Hp) : Good Try.prog σ n_bucket_of [.agg (encCp c)] H (.agg (encKey (keyC c))) H := by
  refine good_by (fun K hK => bucket_of.run ?_) (by simp [noIds, noId, noId_Cp]) rfl H
  simp only [boxK_agg, allocK_eq]
  obtain ⟨H4, hH4⟩ : ∃ H4, H4 = (Hp.empty.new (.cells (encCp c) true)).new (.cells [I 0, .lit (.string ⟨#[]⟩)] true) := ⟨_, rfl⟩
  have e0 : (Hp.empty.new (.cells (encCp c) true)).n = 1 := rfl
  have e1 : Hp.empty.n = 0 := rfl
  rw [← hH4, e0, e1]
  have g0 : H4.get 0 = some (.cells (encCp c) true) := by rw [hH4]; simp [Hp.empty]
  have g1 : H4.get 1 = some (.cells [I 0, .lit (.string ⟨#[]⟩)] true) := by rw [hH4]; simp [Hp.empty]
  clear hH4
  have l1 : ldA false 1 H4 (.ptr 0 1) = some (strs c.ids) := by rw [ld_ptr, g0, ldO_cells, f_encCp1']
  have l2 : ldA false 1 H4 (.ptr 0 2) = some (strs c.classes) := by rw [ld_ptr, g0, ldO_cells, f_encCp2]
  have l0 : ldA false 1 H4 (.ptr 0 0) = some (Sx c.tag) := by rw [ld_ptr, g0, ldO_cells, List.drop_zero, f_encCp0]
  have fin : ∀ (k : Int) (s : ByteArray), (k, s) = keyC c → bnd (stA 2 H4 (.ptr 1 0) (.agg [I k, Sx s])) fun H14 => bnd (ldA true 2 H14 (.ptr 1 0)) fun r => K r H14 := by
    intro k s hk
    refine bnd_of (x := H4.set 1 (some (.cells [I k, Sx s] true))) ?_ ?_
    · rw [st_agg, g1]; rfl
    have l : ldA true 2 (H4.set 1 (some (.cells [I k, Sx s] true))) (.ptr 1 0) = some (.agg [I k, Sx s]) := by rw [ld_ptr, hp_get_set, if_pos rfl]; rfl
    rw [l, bnd_some]
    have : ([I k, Sx s] : List AV) = encKey (keyC c) := by rw [← hk]; rfl
    rw [this]
    exact hK _
  have b2 : ∀ (k : Int) (s : ByteArray), bldR [I 0, .lit (.string ⟨#[]⟩)] [(0, 1, I k), (1, 1, Sx s)] = some [I k, Sx s] := fun _ _ => rfl
  have b1 : bldR [I 0, .lit (.string ⟨#[]⟩)] [(0, 1, I 0)] = some [I 0, .lit (.string ⟨#[]⟩)] := rfl
  simp only [sh_ptr, Nat.zero_add, bnd_some, l1, l2, l0, len_strs, b_gtr, ifB_lit]
  cases hi : c.ids with
  | cons x r =>
    have hlt : (0 : Int) < ((x :: r).length : Int) := by simp
    have hx : ixaSl 1 (strs (x :: r)) (I 0) = some (.ip [Sx x]) := rfl
    have lx : ldA false 1 H4 (.ip [Sx x]) = some (Sx x) := rfl
    simp only [hlt, decide_true, if_true, hx, lx, bnd_some, b2]
    exact fin 1 x (by unfold keyC; rw [hi])
  | nil =>
    simp only [List.length_nil, Int.natCast_zero, Int.lt_irrefl, decide_false, Bool.false_eq_true, if_false]
    cases hc : c.classes with
    | cons x r =>
      have hlt : (0 : Int) < ((x :: r).length : Int) := by simp
      have hx : ixaSl 1 (strs (x :: r)) (I 0) = some (.ip [Sx x]) := rfl
      have lx : ldA false 1 H4 (.ip [Sx x]) = some (Sx x) := rfl
      simp only [hlt, decide_true, if_true, hx, lx, bnd_some, b2]
      exact fin 2 x (by unfold keyC; rw [hi, hc])
    | nil =>
      simp only [List.length_nil, Int.natCast_zero, Int.lt_irrefl, decide_false, Bool.false_eq_true, if_false, b_sneq, bnd_some, ifB_lit]
      by_cases ht : c.tag = ⟨#[]⟩
      · simp only [ht, decide_true, Bool.not_true, Bool.false_eq_true, if_false, b1, bnd_some]
        exact fin 0 ⟨#[]⟩ (by unfold keyC; rw [hi, hc, if_pos ht])
      · simp only [ht, decide_false, Bool.not_false, if_true, b2, bnd_some]
        exact fin 3 c.tag (by unfold keyC; rw [hi, hc, if_neg ht])
end Go.Proofs.Ytaoegkmfgfefgaa.Ev
namespace Go.Proofs.Ytaoegkmfgfefgaa.Ev
set_option linter.unusedVariables false
set_option linter.unusedSimpArgs false
variable {σ : Sig}
def cntS (l : List Sl) : Nat := (l.filter fun s => decide (0 < s.length)).length
def cntR : List RL → Nat
  | [] => 0
  | r :: l => cntS r.sels + cntR l
section
end
end Go.Proofs.Ytaoegkmfgfefgaa.Ev
namespace Go.Proofs.Ytaoegkmfgfefgaa.Ev
set_option linter.unusedVariables false
set_option linter.unusedSimpArgs false
variable {σ : Sig}
def bktC (c : Cp) (n : Nd) : Bool := match c.ids with
  | x :: _ => decide (n.id ≠ ⟨#[]⟩) && decide (x = n.id)
  | [] => match c.classes with
    | x :: _ => hasB n.classes x
    | [] => if c.tag = ⟨#[]⟩ then true else decide (c.tag = n.tag)
def bktB (s : Sl) (n : Nd) : Bool := match s[s.length - 1]? with
  | some p => bktC p.c n
  | none => false
end Go.Proofs.Ytaoegkmfgfefgaa.Ev
