/- The walks, part 3: the evaluator, the functions, the laws. Conditions: none. -/
import Derived.Test.YtnloolhaojoimaaProg
import Derived.Test.YtnloolhaojoimaaZ2
namespace Go.Proofs.Ytnloolhaojoimaa.Ev
set_option maxRecDepth 100000
set_option maxHeartbeats 4000000
noncomputable def ti1 : TI := ⟨.func, 1, 8, [.nilFunc]⟩
theorem ti1_ok : tiOf Try.prog 1 = some ti1 := by kernel_rfl
noncomputable def ti2 : TI := ⟨.int .i64, 1, 8, [.int .i64 0]⟩
theorem ti2_ok : tiOf Try.prog 2 = some ti2 := by kernel_rfl
noncomputable def ti3 : TI := ⟨.int .i64, 1, 8, [.int .i64 0]⟩
theorem ti3_ok : tiOf Try.prog 3 = some ti3 := by kernel_rfl
noncomputable def ti4 : TI := ⟨.bool, 1, 1, [.bool false]⟩
theorem ti4_ok : tiOf Try.prog 4 = some ti4 := by kernel_rfl
noncomputable def ti5 : TI := ⟨.int .u8, 1, 1, [.int .u8 0]⟩
theorem ti5_ok : tiOf Try.prog 5 = some ti5 := by kernel_rfl
noncomputable def ti6 : TI := ⟨.int .u8, 1, 1, [.int .u8 0]⟩
theorem ti6_ok : tiOf Try.prog 6 = some ti6 := by kernel_rfl
noncomputable def ti7 : TI := ⟨.struct [(0, 2), (1, 3), (2, 4), (3, 6)], 4, 24, [.int .i64 0, .int .i64 0, .bool false, .int .u8 0]⟩
theorem ti7_ok : tiOf Try.prog 7 = some ti7 := by kernel_rfl
noncomputable def ti8 : TI := ⟨.struct [(0, 2), (1, 3), (2, 4), (3, 6)], 4, 24, [.int .i64 0, .int .i64 0, .bool false, .int .u8 0]⟩
theorem ti8_ok : tiOf Try.prog 8 = some ti8 := by kernel_rfl
noncomputable def ti9 : TI := ⟨.string, 1, 16, [.string ⟨#[]⟩]⟩
theorem ti9_ok : tiOf Try.prog 9 = some ti9 := by kernel_rfl
noncomputable def ti10 : TI := ⟨.string, 1, 16, [.string ⟨#[]⟩]⟩
theorem ti10_ok : tiOf Try.prog 10 = some ti10 := by kernel_rfl
noncomputable def ti11 : TI := ⟨.string, 1, 16, [.string ⟨#[]⟩]⟩
theorem ti11_ok : tiOf Try.prog 11 = some ti11 := by kernel_rfl
noncomputable def ti12 : TI := ⟨.int .u64, 1, 8, [.int .u64 0]⟩
theorem ti12_ok : tiOf Try.prog 12 = some ti12 := by kernel_rfl
noncomputable def ti13 : TI := ⟨.struct [(0, 9), (1, 12)], 2, 24, [.string ⟨#[]⟩, .int .u64 0]⟩
theorem ti13_ok : tiOf Try.prog 13 = some ti13 := by kernel_rfl
noncomputable def ti14 : TI := ⟨.struct [(0, 9), (1, 12)], 2, 24, [.string ⟨#[]⟩, .int .u64 0]⟩
theorem ti14_ok : tiOf Try.prog 14 = some ti14 := by kernel_rfl
noncomputable def ti15 : TI := ⟨.ptr 82, 1, 8, [.pointer none]⟩
theorem ti15_ok : tiOf Try.prog 15 = some ti15 := by kernel_rfl
noncomputable def ti16 : TI := ⟨.ptr 85, 1, 8, [.pointer none]⟩
theorem ti16_ok : tiOf Try.prog 16 = some ti16 := by kernel_rfl
noncomputable def ti17 : TI := ⟨.ptr 94, 1, 8, [.pointer none]⟩
theorem ti17_ok : tiOf Try.prog 17 = some ti17 := by kernel_rfl
noncomputable def ti18 : TI := ⟨.struct [(0, 17)], 1, 8, [.pointer none]⟩
theorem ti18_ok : tiOf Try.prog 18 = some ti18 := by kernel_rfl
noncomputable def ti19 : TI := ⟨.struct [(0, 17)], 1, 8, [.pointer none]⟩
theorem ti19_ok : tiOf Try.prog 19 = some ti19 := by kernel_rfl
noncomputable def ti21 : TI := ⟨.int .i32, 1, 4, [.int .i32 0]⟩
theorem ti21_ok : tiOf Try.prog 21 = some ti21 := by kernel_rfl
noncomputable def ti22 : TI := ⟨.slice 3, 1, 24, [.slice none 0 0]⟩
theorem ti22_ok : tiOf Try.prog 22 = some ti22 := by kernel_rfl
noncomputable def ti23 : TI := ⟨.func, 1, 8, [.nilFunc]⟩
theorem ti23_ok : tiOf Try.prog 23 = some ti23 := by kernel_rfl
noncomputable def ti24 : TI := ⟨.ptr 62, 1, 8, [.pointer none]⟩
theorem ti24_ok : tiOf Try.prog 24 = some ti24 := by kernel_rfl
noncomputable def ti25 : TI := ⟨.func, 1, 8, [.nilFunc]⟩
theorem ti25_ok : tiOf Try.prog 25 = some ti25 := by kernel_rfl
noncomputable def ti26 : TI := ⟨.ptr 29, 1, 8, [.pointer none]⟩
theorem ti26_ok : tiOf Try.prog 26 = some ti26 := by kernel_rfl
noncomputable def ti27 : TI := ⟨.array 64 3, 64, 512, [.int .i64 0, .int .i64 0, .int .i64 0, .int .i64 0, .int .i64 0, .int .i64 0, .int .i64 0, .int .i64 0, .int .i64 0, .int .i64 0, .int .i64 0, .int .i64 0, .int .i64 0, .int .i64 0, .int .i64 0, .int .i64 0, .int .i64 0, .int .i64 0, .int .i64 0, .int .i64 0, .int .i64 0, .int .i64 0, .int .i64 0, .int .i64 0, .int .i64 0, .int .i64 0, .int .i64 0, .int .i64 0, .int .i64 0, .int .i64 0, .int .i64 0, .int .i64 0, .int .i64 0, .int .i64 0, .int .i64 0, .int .i64 0, .int .i64 0, .int .i64 0, .int .i64 0, .int .i64 0, .int .i64 0, .int .i64 0, .int .i64 0, .int .i64 0, .int .i64 0, .int .i64 0, .int .i64 0, .int .i64 0, .int .i64 0, .int .i64 0, .int .i64 0, .int .i64 0, .int .i64 0, .int .i64 0, .int .i64 0, .int .i64 0, .int .i64 0, .int .i64 0, .int .i64 0, .int .i64 0, .int .i64 0, .int .i64 0, .int .i64 0, .int .i64 0]⟩
theorem ti27_ok : tiOf Try.prog 27 = some ti27 := by kernel_rfl
noncomputable def ti28 : TI := ⟨.struct [(0, 27), (64, 27), (128, 3)], 129, 1032, [.int .i64 0, .int .i64 0, .int .i64 0, .int .i64 0, .int .i64 0, .int .i64 0, .int .i64 0, .int .i64 0, .int .i64 0, .int .i64 0, .int .i64 0, .int .i64 0, .int .i64 0, .int .i64 0, .int .i64 0, .int .i64 0, .int .i64 0, .int .i64 0, .int .i64 0, .int .i64 0, .int .i64 0, .int .i64 0, .int .i64 0, .int .i64 0, .int .i64 0, .int .i64 0, .int .i64 0, .int .i64 0, .int .i64 0, .int .i64 0, .int .i64 0, .int .i64 0, .int .i64 0, .int .i64 0, .int .i64 0, .int .i64 0, .int .i64 0, .int .i64 0, .int .i64 0, .int .i64 0, .int .i64 0, .int .i64 0, .int .i64 0, .int .i64 0, .int .i64 0, .int .i64 0, .int .i64 0, .int .i64 0, .int .i64 0, .int .i64 0, .int .i64 0, .int .i64 0, .int .i64 0, .int .i64 0, .int .i64 0, .int .i64 0, .int .i64 0, .int .i64 0, .int .i64 0, .int .i64 0, .int .i64 0, .int .i64 0, .int .i64 0, .int .i64 0, .int .i64 0, .int .i64 0, .int .i64 0, .int .i64 0, .int .i64 0, .int .i64 0, .int .i64 0, .int .i64 0, .int .i64 0, .int .i64 0, .int .i64 0, .int .i64 0, .int .i64 0, .int .i64 0, .int .i64 0, .int .i64 0, .int .i64 0, .int .i64 0, .int .i64 0, .int .i64 0, .int .i64 0, .int .i64 0, .int .i64 0, .int .i64 0, .int .i64 0, .int .i64 0, .int .i64 0, .int .i64 0, .int .i64 0, .int .i64 0, .int .i64 0, .int .i64 0, .int .i64 0, .int .i64 0, .int .i64 0, .int .i64 0, .int .i64 0, .int .i64 0, .int .i64 0, .int .i64 0, .int .i64 0, .int .i64 0, .int .i64 0, .int .i64 0, .int .i64 0, .int .i64 0, .int .i64 0, .int .i64 0, .int .i64 0, .int .i64 0, .int .i64 0, .int .i64 0, .int .i64 0, .int .i64 0, .int .i64 0, .int .i64 0, .int .i64 0, .int .i64 0, .int .i64 0, .int .i64 0, .int .i64 0, .int .i64 0, .int .i64 0, .int .i64 0, .int .i64 0]⟩
theorem ti28_ok : tiOf Try.prog 28 = some ti28 := by kernel_rfl
noncomputable def ti29 : TI := ⟨.struct [(0, 27), (64, 27), (128, 3)], 129, 1032, [.int .i64 0, .int .i64 0, .int .i64 0, .int .i64 0, .int .i64 0, .int .i64 0, .int .i64 0, .int .i64 0, .int .i64 0, .int .i64 0, .int .i64 0, .int .i64 0, .int .i64 0, .int .i64 0, .int .i64 0, .int .i64 0, .int .i64 0, .int .i64 0, .int .i64 0, .int .i64 0, .int .i64 0, .int .i64 0, .int .i64 0, .int .i64 0, .int .i64 0, .int .i64 0, .int .i64 0, .int .i64 0, .int .i64 0, .int .i64 0, .int .i64 0, .int .i64 0, .int .i64 0, .int .i64 0, .int .i64 0, .int .i64 0, .int .i64 0, .int .i64 0, .int .i64 0, .int .i64 0, .int .i64 0, .int .i64 0, .int .i64 0, .int .i64 0, .int .i64 0, .int .i64 0, .int .i64 0, .int .i64 0, .int .i64 0, .int .i64 0, .int .i64 0, .int .i64 0, .int .i64 0, .int .i64 0, .int .i64 0, .int .i64 0, .int .i64 0, .int .i64 0, .int .i64 0, .int .i64 0, .int .i64 0, .int .i64 0, .int .i64 0, .int .i64 0, .int .i64 0, .int .i64 0, .int .i64 0, .int .i64 0, .int .i64 0, .int .i64 0, .int .i64 0, .int .i64 0, .int .i64 0, .int .i64 0, .int .i64 0, .int .i64 0, .int .i64 0, .int .i64 0, .int .i64 0, .int .i64 0, .int .i64 0, .int .i64 0, .int .i64 0, .int .i64 0, .int .i64 0, .int .i64 0, .int .i64 0, .int .i64 0, .int .i64 0, .int .i64 0, .int .i64 0, .int .i64 0, .int .i64 0, .int .i64 0, .int .i64 0, .int .i64 0, .int .i64 0, .int .i64 0, .int .i64 0, .int .i64 0, .int .i64 0, .int .i64 0, .int .i64 0, .int .i64 0, .int .i64 0, .int .i64 0, .int .i64 0, .int .i64 0, .int .i64 0, .int .i64 0, .int .i64 0, .int .i64 0, .int .i64 0, .int .i64 0, .int .i64 0, .int .i64 0, .int .i64 0, .int .i64 0, .int .i64 0, .int .i64 0, .int .i64 0, .int .i64 0, .int .i64 0, .int .i64 0, .int .i64 0, .int .i64 0, .int .i64 0, .int .i64 0, .int .i64 0]⟩
theorem ti29_ok : tiOf Try.prog 29 = some ti29 := by kernel_rfl
noncomputable def ti30 : TI := ⟨.func, 1, 8, [.nilFunc]⟩
theorem ti30_ok : tiOf Try.prog 30 = some ti30 := by kernel_rfl
noncomputable def ti32 : TI := ⟨.func, 1, 8, [.nilFunc]⟩
theorem ti32_ok : tiOf Try.prog 32 = some ti32 := by kernel_rfl
noncomputable def ti33 : TI := ⟨.func, 1, 8, [.nilFunc]⟩
theorem ti33_ok : tiOf Try.prog 33 = some ti33 := by kernel_rfl
noncomputable def ti34 : TI := ⟨.int .u64, 1, 8, [.int .u64 0]⟩
theorem ti34_ok : tiOf Try.prog 34 = some ti34 := by kernel_rfl
noncomputable def ti35 : TI := ⟨.int .i64, 1, 8, [.int .i64 0]⟩
theorem ti35_ok : tiOf Try.prog 35 = some ti35 := by kernel_rfl
noncomputable def ti36 : TI := ⟨.func, 1, 8, [.nilFunc]⟩
theorem ti36_ok : tiOf Try.prog 36 = some ti36 := by kernel_rfl
noncomputable def ti37 : TI := ⟨.func, 1, 8, [.nilFunc]⟩
theorem ti37_ok : tiOf Try.prog 37 = some ti37 := by kernel_rfl
noncomputable def ti38 : TI := ⟨.func, 1, 8, [.nilFunc]⟩
theorem ti38_ok : tiOf Try.prog 38 = some ti38 := by kernel_rfl
noncomputable def ti39 : TI := ⟨.func, 1, 8, [.nilFunc]⟩
theorem ti39_ok : tiOf Try.prog 39 = some ti39 := by kernel_rfl
noncomputable def ti40 : TI := ⟨.slice 4, 1, 24, [.slice none 0 0]⟩
theorem ti40_ok : tiOf Try.prog 40 = some ti40 := by kernel_rfl
noncomputable def ti42 : TI := ⟨.func, 1, 8, [.nilFunc]⟩
theorem ti42_ok : tiOf Try.prog 42 = some ti42 := by kernel_rfl
noncomputable def ti43 : TI := ⟨.func, 1, 8, [.nilFunc]⟩
theorem ti43_ok : tiOf Try.prog 43 = some ti43 := by kernel_rfl
noncomputable def ti44 : TI := ⟨.func, 1, 8, [.nilFunc]⟩
theorem ti44_ok : tiOf Try.prog 44 = some ti44 := by kernel_rfl
noncomputable def ti45 : TI := ⟨.func, 1, 8, [.nilFunc]⟩
theorem ti45_ok : tiOf Try.prog 45 = some ti45 := by kernel_rfl
noncomputable def ti46 : TI := ⟨.func, 1, 8, [.nilFunc]⟩
theorem ti46_ok : tiOf Try.prog 46 = some ti46 := by kernel_rfl
noncomputable def ti47 : TI := ⟨.func, 1, 8, [.nilFunc]⟩
theorem ti47_ok : tiOf Try.prog 47 = some ti47 := by kernel_rfl
noncomputable def ti48 : TI := ⟨.func, 1, 8, [.nilFunc]⟩
theorem ti48_ok : tiOf Try.prog 48 = some ti48 := by kernel_rfl
noncomputable def ti49 : TI := ⟨.slice 53, 1, 24, [.slice none 0 0]⟩
theorem ti49_ok : tiOf Try.prog 49 = some ti49 := by kernel_rfl
noncomputable def ti50 : TI := ⟨.ptr 72, 1, 8, [.pointer none]⟩
theorem ti50_ok : tiOf Try.prog 50 = some ti50 := by kernel_rfl
noncomputable def ti51 : TI := ⟨.func, 1, 8, [.nilFunc]⟩
theorem ti51_ok : tiOf Try.prog 51 = some ti51 := by kernel_rfl
noncomputable def ti52 : TI := ⟨.struct [(0, 3), (1, 3), (2, 3)], 3, 24, [.int .i64 0, .int .i64 0, .int .i64 0]⟩
theorem ti52_ok : tiOf Try.prog 52 = some ti52 := by kernel_rfl
noncomputable def ti53 : TI := ⟨.struct [(0, 3), (1, 3), (2, 3)], 3, 24, [.int .i64 0, .int .i64 0, .int .i64 0]⟩
theorem ti53_ok : tiOf Try.prog 53 = some ti53 := by kernel_rfl
noncomputable def ti54 : TI := ⟨.func, 1, 8, [.nilFunc]⟩
theorem ti54_ok : tiOf Try.prog 54 = some ti54 := by kernel_rfl
noncomputable def ti55 : TI := ⟨.struct [(0, 3), (1, 3), (2, 4), (3, 4)], 4, 24, [.int .i64 0, .int .i64 0, .bool false, .bool false]⟩
theorem ti55_ok : tiOf Try.prog 55 = some ti55 := by kernel_rfl
noncomputable def ti56 : TI := ⟨.struct [(0, 3), (1, 3), (2, 4), (3, 4)], 4, 24, [.int .i64 0, .int .i64 0, .bool false, .bool false]⟩
theorem ti56_ok : tiOf Try.prog 56 = some ti56 := by kernel_rfl
noncomputable def ti57 : TI := ⟨.func, 1, 8, [.nilFunc]⟩
theorem ti57_ok : tiOf Try.prog 57 = some ti57 := by kernel_rfl
noncomputable def ti58 : TI := ⟨.func, 1, 8, [.nilFunc]⟩
theorem ti58_ok : tiOf Try.prog 58 = some ti58 := by kernel_rfl
noncomputable def ti59 : TI := ⟨.ptr 66, 1, 8, [.pointer none]⟩
theorem ti59_ok : tiOf Try.prog 59 = some ti59 := by kernel_rfl
noncomputable def ti60 : TI := ⟨.array 65 59, 65, 520, [.pointer none, .pointer none, .pointer none, .pointer none, .pointer none, .pointer none, .pointer none, .pointer none, .pointer none, .pointer none, .pointer none, .pointer none, .pointer none, .pointer none, .pointer none, .pointer none, .pointer none, .pointer none, .pointer none, .pointer none, .pointer none, .pointer none, .pointer none, .pointer none, .pointer none, .pointer none, .pointer none, .pointer none, .pointer none, .pointer none, .pointer none, .pointer none, .pointer none, .pointer none, .pointer none, .pointer none, .pointer none, .pointer none, .pointer none, .pointer none, .pointer none, .pointer none, .pointer none, .pointer none, .pointer none, .pointer none, .pointer none, .pointer none, .pointer none, .pointer none, .pointer none, .pointer none, .pointer none, .pointer none, .pointer none, .pointer none, .pointer none, .pointer none, .pointer none, .pointer none, .pointer none, .pointer none, .pointer none, .pointer none, .pointer none]⟩
theorem ti60_ok : tiOf Try.prog 60 = some ti60 := by kernel_rfl
noncomputable def ti61 : TI := ⟨.struct [(0, 22), (1, 3), (2, 3), (3, 60), (68, 56)], 72, 584, [.slice none 0 0, .int .i64 0, .int .i64 0, .pointer none, .pointer none, .pointer none, .pointer none, .pointer none, .pointer none, .pointer none, .pointer none, .pointer none, .pointer none, .pointer none, .pointer none, .pointer none, .pointer none, .pointer none, .pointer none, .pointer none, .pointer none, .pointer none, .pointer none, .pointer none, .pointer none, .pointer none, .pointer none, .pointer none, .pointer none, .pointer none, .pointer none, .pointer none, .pointer none, .pointer none, .pointer none, .pointer none, .pointer none, .pointer none, .pointer none, .pointer none, .pointer none, .pointer none, .pointer none, .pointer none, .pointer none, .pointer none, .pointer none, .pointer none, .pointer none, .pointer none, .pointer none, .pointer none, .pointer none, .pointer none, .pointer none, .pointer none, .pointer none, .pointer none, .pointer none, .pointer none, .pointer none, .pointer none, .pointer none, .pointer none, .pointer none, .pointer none, .pointer none, .pointer none, .int .i64 0, .int .i64 0, .bool false, .bool false]⟩
theorem ti61_ok : tiOf Try.prog 61 = some ti61 := by kernel_rfl
noncomputable def ti62 : TI := ⟨.struct [(0, 22), (1, 3), (2, 3), (3, 60), (68, 56)], 72, 584, [.slice none 0 0, .int .i64 0, .int .i64 0, .pointer none, .pointer none, .pointer none, .pointer none, .pointer none, .pointer none, .pointer none, .pointer none, .pointer none, .pointer none, .pointer none, .pointer none, .pointer none, .pointer none, .pointer none, .pointer none, .pointer none, .pointer none, .pointer none, .pointer none, .pointer none, .pointer none, .pointer none, .pointer none, .pointer none, .pointer none, .pointer none, .pointer none, .pointer none, .pointer none, .pointer none, .pointer none, .pointer none, .pointer none, .pointer none, .pointer none, .pointer none, .pointer none, .pointer none, .pointer none, .pointer none, .pointer none, .pointer none, .pointer none, .pointer none, .pointer none, .pointer none, .pointer none, .pointer none, .pointer none, .pointer none, .pointer none, .pointer none, .pointer none, .pointer none, .pointer none, .pointer none, .pointer none, .pointer none, .pointer none, .pointer none, .pointer none, .pointer none, .pointer none, .pointer none, .int .i64 0, .int .i64 0, .bool false, .bool false]⟩
theorem ti62_ok : tiOf Try.prog 62 = some ti62 := by kernel_rfl
noncomputable def ti63 : TI := ⟨.func, 1, 8, [.nilFunc]⟩
theorem ti63_ok : tiOf Try.prog 63 = some ti63 := by kernel_rfl
noncomputable def ti64 : TI := ⟨.func, 1, 8, [.nilFunc]⟩
theorem ti64_ok : tiOf Try.prog 64 = some ti64 := by kernel_rfl
noncomputable def ti65 : TI := ⟨.struct [(0, 24), (1, 3), (2, 3), (3, 3), (4, 3), (5, 4), (6, 64)], 7, 56, [.pointer none, .int .i64 0, .int .i64 0, .int .i64 0, .int .i64 0, .bool false, .nilFunc]⟩
theorem ti65_ok : tiOf Try.prog 65 = some ti65 := by kernel_rfl
noncomputable def ti66 : TI := ⟨.struct [(0, 24), (1, 3), (2, 3), (3, 3), (4, 3), (5, 4), (6, 64)], 7, 56, [.pointer none, .int .i64 0, .int .i64 0, .int .i64 0, .int .i64 0, .bool false, .nilFunc]⟩
theorem ti66_ok : tiOf Try.prog 66 = some ti66 := by kernel_rfl
noncomputable def ti67 : TI := ⟨.func, 1, 8, [.nilFunc]⟩
theorem ti67_ok : tiOf Try.prog 67 = some ti67 := by kernel_rfl
noncomputable def ti68 : TI := ⟨.struct [(0, 3), (1, 3), (2, 3), (3, 3), (4, 3), (5, 4)], 6, 48, [.int .i64 0, .int .i64 0, .int .i64 0, .int .i64 0, .int .i64 0, .bool false]⟩
theorem ti68_ok : tiOf Try.prog 68 = some ti68 := by kernel_rfl
noncomputable def ti69 : TI := ⟨.struct [(0, 3), (1, 3), (2, 3), (3, 3), (4, 3), (5, 4)], 6, 48, [.int .i64 0, .int .i64 0, .int .i64 0, .int .i64 0, .int .i64 0, .bool false]⟩
theorem ti69_ok : tiOf Try.prog 69 = some ti69 := by kernel_rfl
noncomputable def ti70 : TI := ⟨.array 65 69, 390, 3120, [.int .i64 0, .int .i64 0, .int .i64 0, .int .i64 0, .int .i64 0, .bool false, .int .i64 0, .int .i64 0, .int .i64 0, .int .i64 0, .int .i64 0, .bool false, .int .i64 0, .int .i64 0, .int .i64 0, .int .i64 0, .int .i64 0, .bool false, .int .i64 0, .int .i64 0, .int .i64 0, .int .i64 0, .int .i64 0, .bool false, .int .i64 0, .int .i64 0, .int .i64 0, .int .i64 0, .int .i64 0, .bool false, .int .i64 0, .int .i64 0, .int .i64 0, .int .i64 0, .int .i64 0, .bool false, .int .i64 0, .int .i64 0, .int .i64 0, .int .i64 0, .int .i64 0, .bool false, .int .i64 0, .int .i64 0, .int .i64 0, .int .i64 0, .int .i64 0, .bool false, .int .i64 0, .int .i64 0, .int .i64 0, .int .i64 0, .int .i64 0, .bool false, .int .i64 0, .int .i64 0, .int .i64 0, .int .i64 0, .int .i64 0, .bool false, .int .i64 0, .int .i64 0, .int .i64 0, .int .i64 0, .int .i64 0, .bool false, .int .i64 0, .int .i64 0, .int .i64 0, .int .i64 0, .int .i64 0, .bool false, .int .i64 0, .int .i64 0, .int .i64 0, .int .i64 0, .int .i64 0, .bool false, .int .i64 0, .int .i64 0, .int .i64 0, .int .i64 0, .int .i64 0, .bool false, .int .i64 0, .int .i64 0, .int .i64 0, .int .i64 0, .int .i64 0, .bool false, .int .i64 0, .int .i64 0, .int .i64 0, .int .i64 0, .int .i64 0, .bool false, .int .i64 0, .int .i64 0, .int .i64 0, .int .i64 0, .int .i64 0, .bool false, .int .i64 0, .int .i64 0, .int .i64 0, .int .i64 0, .int .i64 0, .bool false, .int .i64 0, .int .i64 0, .int .i64 0, .int .i64 0, .int .i64 0, .bool false, .int .i64 0, .int .i64 0, .int .i64 0, .int .i64 0, .int .i64 0, .bool false, .int .i64 0, .int .i64 0, .int .i64 0, .int .i64 0, .int .i64 0, .bool false, .int .i64 0, .int .i64 0, .int .i64 0, .int .i64 0, .int .i64 0, .bool false, .int .i64 0, .int .i64 0, .int .i64 0, .int .i64 0, .int .i64 0, .bool false, .int .i64 0, .int .i64 0, .int .i64 0, .int .i64 0, .int .i64 0, .bool false, .int .i64 0, .int .i64 0, .int .i64 0, .int .i64 0, .int .i64 0, .bool false, .int .i64 0, .int .i64 0, .int .i64 0, .int .i64 0, .int .i64 0, .bool false, .int .i64 0, .int .i64 0, .int .i64 0, .int .i64 0, .int .i64 0, .bool false, .int .i64 0, .int .i64 0, .int .i64 0, .int .i64 0, .int .i64 0, .bool false, .int .i64 0, .int .i64 0, .int .i64 0, .int .i64 0, .int .i64 0, .bool false, .int .i64 0, .int .i64 0, .int .i64 0, .int .i64 0, .int .i64 0, .bool false, .int .i64 0, .int .i64 0, .int .i64 0, .int .i64 0, .int .i64 0, .bool false, .int .i64 0, .int .i64 0, .int .i64 0, .int .i64 0, .int .i64 0, .bool false, .int .i64 0, .int .i64 0, .int .i64 0, .int .i64 0, .int .i64 0, .bool false, .int .i64 0, .int .i64 0, .int .i64 0, .int .i64 0, .int .i64 0, .bool false, .int .i64 0, .int .i64 0, .int .i64 0, .int .i64 0, .int .i64 0, .bool false, .int .i64 0, .int .i64 0, .int .i64 0, .int .i64 0, .int .i64 0, .bool false, .int .i64 0, .int .i64 0, .int .i64 0, .int .i64 0, .int .i64 0, .bool false, .int .i64 0, .int .i64 0, .int .i64 0, .int .i64 0, .int .i64 0, .bool false, .int .i64 0, .int .i64 0, .int .i64 0, .int .i64 0, .int .i64 0, .bool false, .int .i64 0, .int .i64 0, .int .i64 0, .int .i64 0, .int .i64 0, .bool false, .int .i64 0, .int .i64 0, .int .i64 0, .int .i64 0, .int .i64 0, .bool false, .int .i64 0, .int .i64 0, .int .i64 0, .int .i64 0, .int .i64 0, .bool false, .int .i64 0, .int .i64 0, .int .i64 0, .int .i64 0, .int .i64 0, .bool false, .int .i64 0, .int .i64 0, .int .i64 0, .int .i64 0, .int .i64 0, .bool false, .int .i64 0, .int .i64 0, .int .i64 0, .int .i64 0, .int .i64 0, .bool false, .int .i64 0, .int .i64 0, .int .i64 0, .int .i64 0, .int .i64 0, .bool false, .int .i64 0, .int .i64 0, .int .i64 0, .int .i64 0, .int .i64 0, .bool false, .int .i64 0, .int .i64 0, .int .i64 0, .int .i64 0, .int .i64 0, .bool false, .int .i64 0, .int .i64 0, .int .i64 0, .int .i64 0, .int .i64 0, .bool false, .int .i64 0, .int .i64 0, .int .i64 0, .int .i64 0, .int .i64 0, .bool false, .int .i64 0, .int .i64 0, .int .i64 0, .int .i64 0, .int .i64 0, .bool false, .int .i64 0, .int .i64 0, .int .i64 0, .int .i64 0, .int .i64 0, .bool false, .int .i64 0, .int .i64 0, .int .i64 0, .int .i64 0, .int .i64 0, .bool false, .int .i64 0, .int .i64 0, .int .i64 0, .int .i64 0, .int .i64 0, .bool false, .int .i64 0, .int .i64 0, .int .i64 0, .int .i64 0, .int .i64 0, .bool false, .int .i64 0, .int .i64 0, .int .i64 0, .int .i64 0, .int .i64 0, .bool false, .int .i64 0, .int .i64 0, .int .i64 0, .int .i64 0, .int .i64 0, .bool false, .int .i64 0, .int .i64 0, .int .i64 0, .int .i64 0, .int .i64 0, .bool false, .int .i64 0, .int .i64 0, .int .i64 0, .int .i64 0, .int .i64 0, .bool false, .int .i64 0, .int .i64 0, .int .i64 0, .int .i64 0, .int .i64 0, .bool false, .int .i64 0, .int .i64 0, .int .i64 0, .int .i64 0, .int .i64 0, .bool false, .int .i64 0, .int .i64 0, .int .i64 0, .int .i64 0, .int .i64 0, .bool false, .int .i64 0, .int .i64 0, .int .i64 0, .int .i64 0, .int .i64 0, .bool false, .int .i64 0, .int .i64 0, .int .i64 0, .int .i64 0, .int .i64 0, .bool false, .int .i64 0, .int .i64 0, .int .i64 0, .int .i64 0, .int .i64 0, .bool false]⟩
theorem ti70_ok : tiOf Try.prog 70 = some ti70 := by kernel_rfl
noncomputable def ti71 : TI := ⟨.struct [(0, 3), (1, 3), (2, 3), (3, 22), (4, 70), (394, 56)], 398, 3192, [.int .i64 0, .int .i64 0, .int .i64 0, .slice none 0 0, .int .i64 0, .int .i64 0, .int .i64 0, .int .i64 0, .int .i64 0, .bool false, .int .i64 0, .int .i64 0, .int .i64 0, .int .i64 0, .int .i64 0, .bool false, .int .i64 0, .int .i64 0, .int .i64 0, .int .i64 0, .int .i64 0, .bool false, .int .i64 0, .int .i64 0, .int .i64 0, .int .i64 0, .int .i64 0, .bool false, .int .i64 0, .int .i64 0, .int .i64 0, .int .i64 0, .int .i64 0, .bool false, .int .i64 0, .int .i64 0, .int .i64 0, .int .i64 0, .int .i64 0, .bool false, .int .i64 0, .int .i64 0, .int .i64 0, .int .i64 0, .int .i64 0, .bool false, .int .i64 0, .int .i64 0, .int .i64 0, .int .i64 0, .int .i64 0, .bool false, .int .i64 0, .int .i64 0, .int .i64 0, .int .i64 0, .int .i64 0, .bool false, .int .i64 0, .int .i64 0, .int .i64 0, .int .i64 0, .int .i64 0, .bool false, .int .i64 0, .int .i64 0, .int .i64 0, .int .i64 0, .int .i64 0, .bool false, .int .i64 0, .int .i64 0, .int .i64 0, .int .i64 0, .int .i64 0, .bool false, .int .i64 0, .int .i64 0, .int .i64 0, .int .i64 0, .int .i64 0, .bool false, .int .i64 0, .int .i64 0, .int .i64 0, .int .i64 0, .int .i64 0, .bool false, .int .i64 0, .int .i64 0, .int .i64 0, .int .i64 0, .int .i64 0, .bool false, .int .i64 0, .int .i64 0, .int .i64 0, .int .i64 0, .int .i64 0, .bool false, .int .i64 0, .int .i64 0, .int .i64 0, .int .i64 0, .int .i64 0, .bool false, .int .i64 0, .int .i64 0, .int .i64 0, .int .i64 0, .int .i64 0, .bool false, .int .i64 0, .int .i64 0, .int .i64 0, .int .i64 0, .int .i64 0, .bool false, .int .i64 0, .int .i64 0, .int .i64 0, .int .i64 0, .int .i64 0, .bool false, .int .i64 0, .int .i64 0, .int .i64 0, .int .i64 0, .int .i64 0, .bool false, .int .i64 0, .int .i64 0, .int .i64 0, .int .i64 0, .int .i64 0, .bool false, .int .i64 0, .int .i64 0, .int .i64 0, .int .i64 0, .int .i64 0, .bool false, .int .i64 0, .int .i64 0, .int .i64 0, .int .i64 0, .int .i64 0, .bool false, .int .i64 0, .int .i64 0, .int .i64 0, .int .i64 0, .int .i64 0, .bool false, .int .i64 0, .int .i64 0, .int .i64 0, .int .i64 0, .int .i64 0, .bool false, .int .i64 0, .int .i64 0, .int .i64 0, .int .i64 0, .int .i64 0, .bool false, .int .i64 0, .int .i64 0, .int .i64 0, .int .i64 0, .int .i64 0, .bool false, .int .i64 0, .int .i64 0, .int .i64 0, .int .i64 0, .int .i64 0, .bool false, .int .i64 0, .int .i64 0, .int .i64 0, .int .i64 0, .int .i64 0, .bool false, .int .i64 0, .int .i64 0, .int .i64 0, .int .i64 0, .int .i64 0, .bool false, .int .i64 0, .int .i64 0, .int .i64 0, .int .i64 0, .int .i64 0, .bool false, .int .i64 0, .int .i64 0, .int .i64 0, .int .i64 0, .int .i64 0, .bool false, .int .i64 0, .int .i64 0, .int .i64 0, .int .i64 0, .int .i64 0, .bool false, .int .i64 0, .int .i64 0, .int .i64 0, .int .i64 0, .int .i64 0, .bool false, .int .i64 0, .int .i64 0, .int .i64 0, .int .i64 0, .int .i64 0, .bool false, .int .i64 0, .int .i64 0, .int .i64 0, .int .i64 0, .int .i64 0, .bool false, .int .i64 0, .int .i64 0, .int .i64 0, .int .i64 0, .int .i64 0, .bool false, .int .i64 0, .int .i64 0, .int .i64 0, .int .i64 0, .int .i64 0, .bool false, .int .i64 0, .int .i64 0, .int .i64 0, .int .i64 0, .int .i64 0, .bool false, .int .i64 0, .int .i64 0, .int .i64 0, .int .i64 0, .int .i64 0, .bool false, .int .i64 0, .int .i64 0, .int .i64 0, .int .i64 0, .int .i64 0, .bool false, .int .i64 0, .int .i64 0, .int .i64 0, .int .i64 0, .int .i64 0, .bool false, .int .i64 0, .int .i64 0, .int .i64 0, .int .i64 0, .int .i64 0, .bool false, .int .i64 0, .int .i64 0, .int .i64 0, .int .i64 0, .int .i64 0, .bool false, .int .i64 0, .int .i64 0, .int .i64 0, .int .i64 0, .int .i64 0, .bool false, .int .i64 0, .int .i64 0, .int .i64 0, .int .i64 0, .int .i64 0, .bool false, .int .i64 0, .int .i64 0, .int .i64 0, .int .i64 0, .int .i64 0, .bool false, .int .i64 0, .int .i64 0, .int .i64 0, .int .i64 0, .int .i64 0, .bool false, .int .i64 0, .int .i64 0, .int .i64 0, .int .i64 0, .int .i64 0, .bool false, .int .i64 0, .int .i64 0, .int .i64 0, .int .i64 0, .int .i64 0, .bool false, .int .i64 0, .int .i64 0, .int .i64 0, .int .i64 0, .int .i64 0, .bool false, .int .i64 0, .int .i64 0, .int .i64 0, .int .i64 0, .int .i64 0, .bool false, .int .i64 0, .int .i64 0, .int .i64 0, .int .i64 0, .int .i64 0, .bool false, .int .i64 0, .int .i64 0, .int .i64 0, .int .i64 0, .int .i64 0, .bool false, .int .i64 0, .int .i64 0, .int .i64 0, .int .i64 0, .int .i64 0, .bool false, .int .i64 0, .int .i64 0, .int .i64 0, .int .i64 0, .int .i64 0, .bool false, .int .i64 0, .int .i64 0, .int .i64 0, .int .i64 0, .int .i64 0, .bool false, .int .i64 0, .int .i64 0, .int .i64 0, .int .i64 0, .int .i64 0, .bool false, .int .i64 0, .int .i64 0, .int .i64 0, .int .i64 0, .int .i64 0, .bool false, .int .i64 0, .int .i64 0, .int .i64 0, .int .i64 0, .int .i64 0, .bool false, .int .i64 0, .int .i64 0, .int .i64 0, .int .i64 0, .int .i64 0, .bool false, .int .i64 0, .int .i64 0, .int .i64 0, .int .i64 0, .int .i64 0, .bool false, .int .i64 0, .int .i64 0, .int .i64 0, .int .i64 0, .int .i64 0, .bool false, .int .i64 0, .int .i64 0, .int .i64 0, .int .i64 0, .int .i64 0, .bool false, .int .i64 0, .int .i64 0, .bool false, .bool false]⟩
theorem ti71_ok : tiOf Try.prog 71 = some ti71 := by kernel_rfl
noncomputable def ti72 : TI := ⟨.struct [(0, 3), (1, 3), (2, 3), (3, 22), (4, 70), (394, 56)], 398, 3192, [.int .i64 0, .int .i64 0, .int .i64 0, .slice none 0 0, .int .i64 0, .int .i64 0, .int .i64 0, .int .i64 0, .int .i64 0, .bool false, .int .i64 0, .int .i64 0, .int .i64 0, .int .i64 0, .int .i64 0, .bool false, .int .i64 0, .int .i64 0, .int .i64 0, .int .i64 0, .int .i64 0, .bool false, .int .i64 0, .int .i64 0, .int .i64 0, .int .i64 0, .int .i64 0, .bool false, .int .i64 0, .int .i64 0, .int .i64 0, .int .i64 0, .int .i64 0, .bool false, .int .i64 0, .int .i64 0, .int .i64 0, .int .i64 0, .int .i64 0, .bool false, .int .i64 0, .int .i64 0, .int .i64 0, .int .i64 0, .int .i64 0, .bool false, .int .i64 0, .int .i64 0, .int .i64 0, .int .i64 0, .int .i64 0, .bool false, .int .i64 0, .int .i64 0, .int .i64 0, .int .i64 0, .int .i64 0, .bool false, .int .i64 0, .int .i64 0, .int .i64 0, .int .i64 0, .int .i64 0, .bool false, .int .i64 0, .int .i64 0, .int .i64 0, .int .i64 0, .int .i64 0, .bool false, .int .i64 0, .int .i64 0, .int .i64 0, .int .i64 0, .int .i64 0, .bool false, .int .i64 0, .int .i64 0, .int .i64 0, .int .i64 0, .int .i64 0, .bool false, .int .i64 0, .int .i64 0, .int .i64 0, .int .i64 0, .int .i64 0, .bool false, .int .i64 0, .int .i64 0, .int .i64 0, .int .i64 0, .int .i64 0, .bool false, .int .i64 0, .int .i64 0, .int .i64 0, .int .i64 0, .int .i64 0, .bool false, .int .i64 0, .int .i64 0, .int .i64 0, .int .i64 0, .int .i64 0, .bool false, .int .i64 0, .int .i64 0, .int .i64 0, .int .i64 0, .int .i64 0, .bool false, .int .i64 0, .int .i64 0, .int .i64 0, .int .i64 0, .int .i64 0, .bool false, .int .i64 0, .int .i64 0, .int .i64 0, .int .i64 0, .int .i64 0, .bool false, .int .i64 0, .int .i64 0, .int .i64 0, .int .i64 0, .int .i64 0, .bool false, .int .i64 0, .int .i64 0, .int .i64 0, .int .i64 0, .int .i64 0, .bool false, .int .i64 0, .int .i64 0, .int .i64 0, .int .i64 0, .int .i64 0, .bool false, .int .i64 0, .int .i64 0, .int .i64 0, .int .i64 0, .int .i64 0, .bool false, .int .i64 0, .int .i64 0, .int .i64 0, .int .i64 0, .int .i64 0, .bool false, .int .i64 0, .int .i64 0, .int .i64 0, .int .i64 0, .int .i64 0, .bool false, .int .i64 0, .int .i64 0, .int .i64 0, .int .i64 0, .int .i64 0, .bool false, .int .i64 0, .int .i64 0, .int .i64 0, .int .i64 0, .int .i64 0, .bool false, .int .i64 0, .int .i64 0, .int .i64 0, .int .i64 0, .int .i64 0, .bool false, .int .i64 0, .int .i64 0, .int .i64 0, .int .i64 0, .int .i64 0, .bool false, .int .i64 0, .int .i64 0, .int .i64 0, .int .i64 0, .int .i64 0, .bool false, .int .i64 0, .int .i64 0, .int .i64 0, .int .i64 0, .int .i64 0, .bool false, .int .i64 0, .int .i64 0, .int .i64 0, .int .i64 0, .int .i64 0, .bool false, .int .i64 0, .int .i64 0, .int .i64 0, .int .i64 0, .int .i64 0, .bool false, .int .i64 0, .int .i64 0, .int .i64 0, .int .i64 0, .int .i64 0, .bool false, .int .i64 0, .int .i64 0, .int .i64 0, .int .i64 0, .int .i64 0, .bool false, .int .i64 0, .int .i64 0, .int .i64 0, .int .i64 0, .int .i64 0, .bool false, .int .i64 0, .int .i64 0, .int .i64 0, .int .i64 0, .int .i64 0, .bool false, .int .i64 0, .int .i64 0, .int .i64 0, .int .i64 0, .int .i64 0, .bool false, .int .i64 0, .int .i64 0, .int .i64 0, .int .i64 0, .int .i64 0, .bool false, .int .i64 0, .int .i64 0, .int .i64 0, .int .i64 0, .int .i64 0, .bool false, .int .i64 0, .int .i64 0, .int .i64 0, .int .i64 0, .int .i64 0, .bool false, .int .i64 0, .int .i64 0, .int .i64 0, .int .i64 0, .int .i64 0, .bool false, .int .i64 0, .int .i64 0, .int .i64 0, .int .i64 0, .int .i64 0, .bool false, .int .i64 0, .int .i64 0, .int .i64 0, .int .i64 0, .int .i64 0, .bool false, .int .i64 0, .int .i64 0, .int .i64 0, .int .i64 0, .int .i64 0, .bool false, .int .i64 0, .int .i64 0, .int .i64 0, .int .i64 0, .int .i64 0, .bool false, .int .i64 0, .int .i64 0, .int .i64 0, .int .i64 0, .int .i64 0, .bool false, .int .i64 0, .int .i64 0, .int .i64 0, .int .i64 0, .int .i64 0, .bool false, .int .i64 0, .int .i64 0, .int .i64 0, .int .i64 0, .int .i64 0, .bool false, .int .i64 0, .int .i64 0, .int .i64 0, .int .i64 0, .int .i64 0, .bool false, .int .i64 0, .int .i64 0, .int .i64 0, .int .i64 0, .int .i64 0, .bool false, .int .i64 0, .int .i64 0, .int .i64 0, .int .i64 0, .int .i64 0, .bool false, .int .i64 0, .int .i64 0, .int .i64 0, .int .i64 0, .int .i64 0, .bool false, .int .i64 0, .int .i64 0, .int .i64 0, .int .i64 0, .int .i64 0, .bool false, .int .i64 0, .int .i64 0, .int .i64 0, .int .i64 0, .int .i64 0, .bool false, .int .i64 0, .int .i64 0, .int .i64 0, .int .i64 0, .int .i64 0, .bool false, .int .i64 0, .int .i64 0, .int .i64 0, .int .i64 0, .int .i64 0, .bool false, .int .i64 0, .int .i64 0, .int .i64 0, .int .i64 0, .int .i64 0, .bool false, .int .i64 0, .int .i64 0, .int .i64 0, .int .i64 0, .int .i64 0, .bool false, .int .i64 0, .int .i64 0, .int .i64 0, .int .i64 0, .int .i64 0, .bool false, .int .i64 0, .int .i64 0, .int .i64 0, .int .i64 0, .int .i64 0, .bool false, .int .i64 0, .int .i64 0, .int .i64 0, .int .i64 0, .int .i64 0, .bool false, .int .i64 0, .int .i64 0, .int .i64 0, .int .i64 0, .int .i64 0, .bool false, .int .i64 0, .int .i64 0, .int .i64 0, .int .i64 0, .int .i64 0, .bool false, .int .i64 0, .int .i64 0, .bool false, .bool false]⟩
theorem ti72_ok : tiOf Try.prog 72 = some ti72 := by kernel_rfl
noncomputable def ti73 : TI := ⟨.ptr 69, 1, 8, [.pointer none]⟩
theorem ti73_ok : tiOf Try.prog 73 = some ti73 := by kernel_rfl
noncomputable def ti74 : TI := ⟨.func, 1, 8, [.nilFunc]⟩
theorem ti74_ok : tiOf Try.prog 74 = some ti74 := by kernel_rfl
noncomputable def ti75 : TI := ⟨.func, 1, 8, [.nilFunc]⟩
theorem ti75_ok : tiOf Try.prog 75 = some ti75 := by kernel_rfl
noncomputable def ti76 : TI := ⟨.func, 1, 8, [.nilFunc]⟩
theorem ti76_ok : tiOf Try.prog 76 = some ti76 := by kernel_rfl
noncomputable def ti77 : TI := ⟨.func, 1, 8, [.nilFunc]⟩
theorem ti77_ok : tiOf Try.prog 77 = some ti77 := by kernel_rfl
noncomputable def ti78 : TI := ⟨.func, 1, 8, [.nilFunc]⟩
theorem ti78_ok : tiOf Try.prog 78 = some ti78 := by kernel_rfl
noncomputable def ti79 : TI := ⟨.func, 1, 8, [.nilFunc]⟩
theorem ti79_ok : tiOf Try.prog 79 = some ti79 := by kernel_rfl
noncomputable def ti80 : TI := ⟨.func, 1, 8, [.nilFunc]⟩
theorem ti80_ok : tiOf Try.prog 80 = some ti80 := by kernel_rfl
noncomputable def ti81 : TI := ⟨.struct [(0, 17), (1, 17), (2, 17), (3, 9)], 4, 40, [.pointer none, .pointer none, .pointer none, .string ⟨#[]⟩]⟩
theorem ti81_ok : tiOf Try.prog 81 = some ti81 := by kernel_rfl
noncomputable def ti82 : TI := ⟨.struct [(0, 17), (1, 17), (2, 17), (3, 9)], 4, 40, [.pointer none, .pointer none, .pointer none, .string ⟨#[]⟩]⟩
theorem ti82_ok : tiOf Try.prog 82 = some ti82 := by kernel_rfl
noncomputable def ti83 : TI := ⟨.array 0 16, 0, 0, []⟩
theorem ti83_ok : tiOf Try.prog 83 = some ti83 := by kernel_rfl
noncomputable def ti84 : TI := ⟨.struct [(0, 83)], 0, 0, []⟩
theorem ti84_ok : tiOf Try.prog 84 = some ti84 := by kernel_rfl
noncomputable def ti85 : TI := ⟨.struct [(0, 83)], 0, 0, []⟩
theorem ti85_ok : tiOf Try.prog 85 = some ti85 := by kernel_rfl
noncomputable def ti86 : TI := ⟨.int .u32, 1, 4, [.int .u32 0]⟩
theorem ti86_ok : tiOf Try.prog 86 = some ti86 := by kernel_rfl
noncomputable def ti87 : TI := ⟨.int .u8, 1, 1, [.int .u8 0]⟩
theorem ti87_ok : tiOf Try.prog 87 = some ti87 := by kernel_rfl
noncomputable def ti88 : TI := ⟨.int .u8, 1, 1, [.int .u8 0]⟩
theorem ti88_ok : tiOf Try.prog 88 = some ti88 := by kernel_rfl
noncomputable def ti89 : TI := ⟨.func, 1, 8, [.nilFunc]⟩
theorem ti89_ok : tiOf Try.prog 89 = some ti89 := by kernel_rfl
noncomputable def ti90 : TI := ⟨.ptr 5, 1, 8, [.pointer none]⟩
theorem ti90_ok : tiOf Try.prog 90 = some ti90 := by kernel_rfl
noncomputable def ti91 : TI := ⟨.int .i32, 1, 4, [.int .i32 0]⟩
theorem ti91_ok : tiOf Try.prog 91 = some ti91 := by kernel_rfl
noncomputable def ti92 : TI := ⟨.int .i32, 1, 4, [.int .i32 0]⟩
theorem ti92_ok : tiOf Try.prog 92 = some ti92 := by kernel_rfl
noncomputable def ti93 : TI := ⟨.struct [(0, 12), (1, 12), (2, 86), (3, 87), (4, 5), (5, 5), (6, 88), (7, 89), (8, 90), (9, 91), (10, 92)], 11, 48, [.int .u64 0, .int .u64 0, .int .u32 0, .int .u8 0, .int .u8 0, .int .u8 0, .int .u8 0, .nilFunc, .pointer none, .int .i32 0, .int .i32 0]⟩
theorem ti93_ok : tiOf Try.prog 93 = some ti93 := by kernel_rfl
noncomputable def ti94 : TI := ⟨.struct [(0, 12), (1, 12), (2, 86), (3, 87), (4, 5), (5, 5), (6, 88), (7, 89), (8, 90), (9, 91), (10, 92)], 11, 48, [.int .u64 0, .int .u64 0, .int .u32 0, .int .u8 0, .int .u8 0, .int .u8 0, .int .u8 0, .nilFunc, .pointer none, .int .i32 0, .int .i32 0]⟩
theorem ti94_ok : tiOf Try.prog 94 = some ti94 := by kernel_rfl
noncomputable def tiT : Tr TI := .node none (.node (some ti1) (.node (some ti3) (.node (some ti7) (.node (some ti15) (.node none (.node (some ti63) (.leaf) (.leaf)) (.leaf)) (.node (some ti47) (.node (some ti79) (.leaf) (.leaf)) (.leaf))) (.node (some ti23) (.node (some ti39) (.node (some ti71) (.leaf) (.leaf)) (.leaf)) (.node (some ti55) (.node (some ti87) (.leaf) (.leaf)) (.leaf)))) (.node (some ti11) (.node (some ti19) (.node (some ti35) (.node (some ti67) (.leaf) (.leaf)) (.leaf)) (.node (some ti51) (.node (some ti83) (.leaf) (.leaf)) (.leaf))) (.node (some ti27) (.node (some ti43) (.node (some ti75) (.leaf) (.leaf)) (.leaf)) (.node (some ti59) (.node (some ti91) (.leaf) (.leaf)) (.leaf))))) (.node (some ti5) (.node (some ti9) (.node (some ti17) (.node (some ti33) (.node (some ti65) (.leaf) (.leaf)) (.leaf)) (.node (some ti49) (.node (some ti81) (.leaf) (.leaf)) (.leaf))) (.node (some ti25) (.node none (.node (some ti73) (.leaf) (.leaf)) (.leaf)) (.node (some ti57) (.node (some ti89) (.leaf) (.leaf)) (.leaf)))) (.node (some ti13) (.node (some ti21) (.node (some ti37) (.node (some ti69) (.leaf) (.leaf)) (.leaf)) (.node (some ti53) (.node (some ti85) (.leaf) (.leaf)) (.leaf))) (.node (some ti29) (.node (some ti45) (.node (some ti77) (.leaf) (.leaf)) (.leaf)) (.node (some ti61) (.node (some ti93) (.leaf) (.leaf)) (.leaf)))))) (.node (some ti2) (.node (some ti4) (.node (some ti8) (.node (some ti16) (.node (some ti32) (.node (some ti64) (.leaf) (.leaf)) (.leaf)) (.node (some ti48) (.node (some ti80) (.leaf) (.leaf)) (.leaf))) (.node (some ti24) (.node (some ti40) (.node (some ti72) (.leaf) (.leaf)) (.leaf)) (.node (some ti56) (.node (some ti88) (.leaf) (.leaf)) (.leaf)))) (.node (some ti12) (.node none (.node (some ti36) (.node (some ti68) (.leaf) (.leaf)) (.leaf)) (.node (some ti52) (.node (some ti84) (.leaf) (.leaf)) (.leaf))) (.node (some ti28) (.node (some ti44) (.node (some ti76) (.leaf) (.leaf)) (.leaf)) (.node (some ti60) (.node (some ti92) (.leaf) (.leaf)) (.leaf))))) (.node (some ti6) (.node (some ti10) (.node (some ti18) (.node (some ti34) (.node (some ti66) (.leaf) (.leaf)) (.leaf)) (.node (some ti50) (.node (some ti82) (.leaf) (.leaf)) (.leaf))) (.node (some ti26) (.node (some ti42) (.node (some ti74) (.leaf) (.leaf)) (.leaf)) (.node (some ti58) (.node (some ti90) (.leaf) (.leaf)) (.leaf)))) (.node (some ti14) (.node (some ti22) (.node (some ti38) (.node (some ti70) (.leaf) (.leaf)) (.leaf)) (.node (some ti54) (.node (some ti86) (.leaf) (.leaf)) (.leaf))) (.node (some ti30) (.node (some ti46) (.node (some ti78) (.leaf) (.leaf)) (.leaf)) (.node (some ti62) (.node (some ti94) (.leaf) (.leaf)) (.leaf))))))
theorem tiT_list : tiT.toL = [(1, ti1), (3, ti3), (7, ti7), (15, ti15), (63, ti63), (47, ti47), (79, ti79), (23, ti23), (39, ti39), (71, ti71), (55, ti55), (87, ti87), (11, ti11), (19, ti19), (35, ti35), (67, ti67), (51, ti51), (83, ti83), (27, ti27), (43, ti43), (75, ti75), (59, ti59), (91, ti91), (5, ti5), (9, ti9), (17, ti17), (33, ti33), (65, ti65), (49, ti49), (81, ti81), (25, ti25), (73, ti73), (57, ti57), (89, ti89), (13, ti13), (21, ti21), (37, ti37), (69, ti69), (53, ti53), (85, ti85), (29, ti29), (45, ti45), (77, ti77), (61, ti61), (93, ti93), (2, ti2), (4, ti4), (8, ti8), (16, ti16), (32, ti32), (64, ti64), (48, ti48), (80, ti80), (24, ti24), (40, ti40), (72, ti72), (56, ti56), (88, ti88), (12, ti12), (36, ti36), (68, ti68), (52, ti52), (84, ti84), (28, ti28), (44, ti44), (76, ti76), (60, ti60), (92, ti92), (6, ti6), (10, ti10), (18, ti18), (34, ti34), (66, ti66), (50, ti50), (82, ti82), (26, ti26), (42, ti42), (74, ti74), (58, ti58), (90, ti90), (14, ti14), (22, ti22), (38, ti38), (70, ti70), (54, ti54), (86, ti86), (30, ti30), (46, ti46), (78, ti78), (62, ti62), (94, ti94)] := by kernel_rfl
theorem tiT_ok : ∀ t i, tiT.get t = some i → tiOf Try.prog t = some i := by
  refine Tr.all_get (p := fun t i => tiOf Try.prog t = some i) ?_
  rw [tiT_list]
  exact .cons ti1_ok (.cons ti3_ok (.cons ti7_ok (.cons ti15_ok (.cons ti63_ok (.cons ti47_ok (.cons ti79_ok (.cons ti23_ok (.cons ti39_ok (.cons ti71_ok (.cons ti55_ok (.cons ti87_ok (.cons ti11_ok (.cons ti19_ok (.cons ti35_ok (.cons ti67_ok (.cons ti51_ok (.cons ti83_ok (.cons ti27_ok (.cons ti43_ok (.cons ti75_ok (.cons ti59_ok (.cons ti91_ok (.cons ti5_ok (.cons ti9_ok (.cons ti17_ok (.cons ti33_ok (.cons ti65_ok (.cons ti49_ok (.cons ti81_ok (.cons ti25_ok (.cons ti73_ok (.cons ti57_ok (.cons ti89_ok (.cons ti13_ok (.cons ti21_ok (.cons ti37_ok (.cons ti69_ok (.cons ti53_ok (.cons ti85_ok (.cons ti29_ok (.cons ti45_ok (.cons ti77_ok (.cons ti61_ok (.cons ti93_ok (.cons ti2_ok (.cons ti4_ok (.cons ti8_ok (.cons ti16_ok (.cons ti32_ok (.cons ti64_ok (.cons ti48_ok (.cons ti80_ok (.cons ti24_ok (.cons ti40_ok (.cons ti72_ok (.cons ti56_ok (.cons ti88_ok (.cons ti12_ok (.cons ti36_ok (.cons ti68_ok (.cons ti52_ok (.cons ti84_ok (.cons ti28_ok (.cons ti44_ok (.cons ti76_ok (.cons ti60_ok (.cons ti92_ok (.cons ti6_ok (.cons ti10_ok (.cons ti18_ok (.cons ti34_ok (.cons ti66_ok (.cons ti50_ok (.cons ti82_ok (.cons ti26_ok (.cons ti42_ok (.cons ti74_ok (.cons ti58_ok (.cons ti90_ok (.cons ti14_ok (.cons ti22_ok (.cons ti38_ok (.cons ti70_ok (.cons ti54_ok (.cons ti86_ok (.cons ti30_ok (.cons ti46_ok (.cons ti78_ok (.cons ti62_ok (.cons ti94_ok (.nil)))))))))))))))))))))))))))))))))))))))))))))))))))))))))))))))))))))))))))))))))))))))))))
noncomputable def fnT : Tr Func := .node none (.node none (.node (some Try.f3) (.node (some Try.f7) (.node (some Try.f15) (.node (some Try.f31) (.leaf) (.leaf)) (.node (some Try.f47) (.leaf) (.leaf))) (.node (some Try.f23) (.node (some Try.f39) (.leaf) (.leaf)) (.leaf))) (.node (some Try.f11) (.node (some Try.f19) (.node (some Try.f35) (.leaf) (.leaf)) (.node (some Try.f51) (.leaf) (.leaf))) (.node (some Try.f27) (.node (some Try.f43) (.leaf) (.leaf)) (.leaf)))) (.node (some Try.f5) (.node (some Try.f9) (.node (some Try.f17) (.node (some Try.f33) (.leaf) (.leaf)) (.node (some Try.f49) (.leaf) (.leaf))) (.node (some Try.f25) (.node (some Try.f41) (.leaf) (.leaf)) (.leaf))) (.node (some Try.f13) (.node (some Try.f21) (.node (some Try.f37) (.leaf) (.leaf)) (.node (some Try.f53) (.leaf) (.leaf))) (.node (some Try.f29) (.node (some Try.f45) (.leaf) (.leaf)) (.leaf))))) (.node none (.node (some Try.f4) (.node (some Try.f8) (.node (some Try.f16) (.node (some Try.f32) (.leaf) (.leaf)) (.node (some Try.f48) (.leaf) (.leaf))) (.node (some Try.f24) (.node (some Try.f40) (.leaf) (.leaf)) (.leaf))) (.node (some Try.f12) (.node (some Try.f20) (.node (some Try.f36) (.leaf) (.leaf)) (.node (some Try.f52) (.leaf) (.leaf))) (.node (some Try.f28) (.node (some Try.f44) (.leaf) (.leaf)) (.leaf)))) (.node (some Try.f6) (.node (some Try.f10) (.node (some Try.f18) (.node (some Try.f34) (.leaf) (.leaf)) (.node (some Try.f50) (.leaf) (.leaf))) (.node (some Try.f26) (.node (some Try.f42) (.leaf) (.leaf)) (.leaf))) (.node (some Try.f14) (.node (some Try.f22) (.node (some Try.f38) (.leaf) (.leaf)) (.node (some Try.f54) (.leaf) (.leaf))) (.node (some Try.f30) (.node (some Try.f46) (.leaf) (.leaf)) (.leaf)))))
theorem fnT_list : fnT.toL = [(3, Try.f3), (7, Try.f7), (15, Try.f15), (31, Try.f31), (47, Try.f47), (23, Try.f23), (39, Try.f39), (11, Try.f11), (19, Try.f19), (35, Try.f35), (51, Try.f51), (27, Try.f27), (43, Try.f43), (5, Try.f5), (9, Try.f9), (17, Try.f17), (33, Try.f33), (49, Try.f49), (25, Try.f25), (41, Try.f41), (13, Try.f13), (21, Try.f21), (37, Try.f37), (53, Try.f53), (29, Try.f29), (45, Try.f45), (4, Try.f4), (8, Try.f8), (16, Try.f16), (32, Try.f32), (48, Try.f48), (24, Try.f24), (40, Try.f40), (12, Try.f12), (20, Try.f20), (36, Try.f36), (52, Try.f52), (28, Try.f28), (44, Try.f44), (6, Try.f6), (10, Try.f10), (18, Try.f18), (34, Try.f34), (50, Try.f50), (26, Try.f26), (42, Try.f42), (14, Try.f14), (22, Try.f22), (38, Try.f38), (54, Try.f54), (30, Try.f30), (46, Try.f46)] := by kernel_rfl
def fnP (k : Nat) (f : Func) : Prop := Try.prog.funcs[k]? = some f ∧ (f.name == "runtime.NumGoroutine") = false
theorem fnT_ok : ∀ k f, fnT.get k = some f → Try.prog.funcs[k]? = some f ∧ (f.name == "runtime.NumGoroutine") = false := by
  refine Tr.all_get (p := fnP) ?_
  rw [fnT_list]
  exact .cons ⟨Try.func3, by kernel_rfl⟩ (.cons ⟨Try.func7, by kernel_rfl⟩ (.cons ⟨Try.func15, by kernel_rfl⟩ (.cons ⟨Try.func31, by kernel_rfl⟩ (.cons ⟨Try.func47, by kernel_rfl⟩ (.cons ⟨Try.func23, by kernel_rfl⟩ (.cons ⟨Try.func39, by kernel_rfl⟩ (.cons ⟨Try.func11, by kernel_rfl⟩ (.cons ⟨Try.func19, by kernel_rfl⟩ (.cons ⟨Try.func35, by kernel_rfl⟩ (.cons ⟨Try.func51, by kernel_rfl⟩ (.cons ⟨Try.func27, by kernel_rfl⟩ (.cons ⟨Try.func43, by kernel_rfl⟩ (.cons ⟨Try.func5, by kernel_rfl⟩ (.cons ⟨Try.func9, by kernel_rfl⟩ (.cons ⟨Try.func17, by kernel_rfl⟩ (.cons ⟨Try.func33, by kernel_rfl⟩ (.cons ⟨Try.func49, by kernel_rfl⟩ (.cons ⟨Try.func25, by kernel_rfl⟩ (.cons ⟨Try.func41, by kernel_rfl⟩ (.cons ⟨Try.func13, by kernel_rfl⟩ (.cons ⟨Try.func21, by kernel_rfl⟩ (.cons ⟨Try.func37, by kernel_rfl⟩ (.cons ⟨Try.func53, by kernel_rfl⟩ (.cons ⟨Try.func29, by kernel_rfl⟩ (.cons ⟨Try.func45, by kernel_rfl⟩ (.cons ⟨Try.func4, by kernel_rfl⟩ (.cons ⟨Try.func8, by kernel_rfl⟩ (.cons ⟨Try.func16, by kernel_rfl⟩ (.cons ⟨Try.func32, by kernel_rfl⟩ (.cons ⟨Try.func48, by kernel_rfl⟩ (.cons ⟨Try.func24, by kernel_rfl⟩ (.cons ⟨Try.func40, by kernel_rfl⟩ (.cons ⟨Try.func12, by kernel_rfl⟩ (.cons ⟨Try.func20, by kernel_rfl⟩ (.cons ⟨Try.func36, by kernel_rfl⟩ (.cons ⟨Try.func52, by kernel_rfl⟩ (.cons ⟨Try.func28, by kernel_rfl⟩ (.cons ⟨Try.func44, by kernel_rfl⟩ (.cons ⟨Try.func6, by kernel_rfl⟩ (.cons ⟨Try.func10, by kernel_rfl⟩ (.cons ⟨Try.func18, by kernel_rfl⟩ (.cons ⟨Try.func34, by kernel_rfl⟩ (.cons ⟨Try.func50, by kernel_rfl⟩ (.cons ⟨Try.func26, by kernel_rfl⟩ (.cons ⟨Try.func42, by kernel_rfl⟩ (.cons ⟨Try.func14, by kernel_rfl⟩ (.cons ⟨Try.func22, by kernel_rfl⟩ (.cons ⟨Try.func38, by kernel_rfl⟩ (.cons ⟨Try.func54, by kernel_rfl⟩ (.cons ⟨Try.func30, by kernel_rfl⟩ (.cons ⟨Try.func46, by kernel_rfl⟩ (.nil))))))))))))))))))))))))))))))))))))))))))))))))))))
noncomputable def ky7 : List KK := [.int .i64, .int .i64, .bool, .int .u8]
theorem ky7_ok : keysOf Try.prog 7 = some ky7 := by kernel_rfl
noncomputable def ky8 : List KK := [.int .i64, .int .i64, .bool, .int .u8]
theorem ky8_ok : keysOf Try.prog 8 = some ky8 := by kernel_rfl
noncomputable def ky27 : List KK := [.int .i64, .int .i64, .int .i64, .int .i64, .int .i64, .int .i64, .int .i64, .int .i64, .int .i64, .int .i64, .int .i64, .int .i64, .int .i64, .int .i64, .int .i64, .int .i64, .int .i64, .int .i64, .int .i64, .int .i64, .int .i64, .int .i64, .int .i64, .int .i64, .int .i64, .int .i64, .int .i64, .int .i64, .int .i64, .int .i64, .int .i64, .int .i64, .int .i64, .int .i64, .int .i64, .int .i64, .int .i64, .int .i64, .int .i64, .int .i64, .int .i64, .int .i64, .int .i64, .int .i64, .int .i64, .int .i64, .int .i64, .int .i64, .int .i64, .int .i64, .int .i64, .int .i64, .int .i64, .int .i64, .int .i64, .int .i64, .int .i64, .int .i64, .int .i64, .int .i64, .int .i64, .int .i64, .int .i64, .int .i64]
theorem ky27_ok : keysOf Try.prog 27 = some ky27 := by kernel_rfl
noncomputable def ky52 : List KK := [.int .i64, .int .i64, .int .i64]
theorem ky52_ok : keysOf Try.prog 52 = some ky52 := by kernel_rfl
noncomputable def ky53 : List KK := [.int .i64, .int .i64, .int .i64]
theorem ky53_ok : keysOf Try.prog 53 = some ky53 := by kernel_rfl
noncomputable def ky55 : List KK := [.int .i64, .int .i64, .bool, .bool]
theorem ky55_ok : keysOf Try.prog 55 = some ky55 := by kernel_rfl
noncomputable def ky56 : List KK := [.int .i64, .int .i64, .bool, .bool]
theorem ky56_ok : keysOf Try.prog 56 = some ky56 := by kernel_rfl
noncomputable def ky68 : List KK := [.int .i64, .int .i64, .int .i64, .int .i64, .int .i64, .bool]
theorem ky68_ok : keysOf Try.prog 68 = some ky68 := by kernel_rfl
noncomputable def ky69 : List KK := [.int .i64, .int .i64, .int .i64, .int .i64, .int .i64, .bool]
theorem ky69_ok : keysOf Try.prog 69 = some ky69 := by kernel_rfl
noncomputable def kyT : Tr (List KK) := .node none (.node none (.node none (.node (some ky7) (.leaf) (.node none (.leaf) (.node (some ky55) (.leaf) (.leaf)))) (.node none (.leaf) (.node (some ky27) (.leaf) (.leaf)))) (.node none (.leaf) (.node none (.node none (.node none (.node (some ky69) (.leaf) (.leaf)) (.leaf)) (.node (some ky53) (.leaf) (.leaf))) (.leaf)))) (.node none (.node none (.node (some ky8) (.leaf) (.node none (.leaf) (.node (some ky56) (.leaf) (.leaf)))) (.node none (.node none (.node none (.node (some ky68) (.leaf) (.leaf)) (.leaf)) (.node (some ky52) (.leaf) (.leaf))) (.leaf))) (.leaf))
theorem kyT_list : kyT.toL = [(7, ky7), (55, ky55), (27, ky27), (69, ky69), (53, ky53), (8, ky8), (56, ky56), (68, ky68), (52, ky52)] := by kernel_rfl
theorem kyT_ok : ∀ t ks, kyT.get t = some ks → KeyOk Try.prog t ks := by
  refine Tr.all_get (p := fun t ks => KeyOk Try.prog t ks) ?_
  rw [kyT_list]
  exact .cons (keysOf_ok ky7_ok) (.cons (keysOf_ok ky55_ok) (.cons (keysOf_ok ky27_ok) (.cons (keysOf_ok ky69_ok) (.cons (keysOf_ok ky53_ok) (.cons (keysOf_ok ky8_ok) (.cons (keysOf_ok ky56_ok) (.cons (keysOf_ok ky68_ok) (.cons (keysOf_ok ky52_ok) (.nil)))))))))
noncomputable def CX (σ : Sig) (kn : List (BExp × Bool)) (hkn : Known σ kn) : Ctx Try.prog := ⟨tiT.get, tiT_ok, kyT.get, kyT_ok, σ, kn, hkn⟩
theorem mixed : Try.prog.follows .mixedOrders = true := by kernel_rfl
end Go.Proofs.Ytnloolhaojoimaa.Ev
namespace Go.Proofs.Ytnloolhaojoimaa.Ev
set_option maxRecDepth 100000
set_option maxHeartbeats 4000000
abbrev n_law20_DequeOnce : Nat := 3
abbrev n_law20_alive : Nat := 11
abbrev n_deque_New : Nat := 12
abbrev n_deque_Deque_Busy : Nat := 13
abbrev n_deque_Deque_Step : Nat := 14
abbrev n_law20_tally_note : Nat := 15
abbrev n_deque_Deque_Begin : Nat := 16
abbrev n_law20_num : Nat := 17
abbrev n_deque_Deque_Len : Nat := 18
abbrev n_law20_whole : Nat := 19
abbrev n_deque_steps : Nat := 27
abbrev n_deque_push1 : Nat := 31
abbrev n_deque_pop1 : Nat := 32
abbrev n_deque_steal1 : Nat := 33
abbrev n_deque_operation_readBottom : Nat := 37
abbrev n_deque_push2 : Nat := 38
abbrev n_deque_pop2 : Nat := 39
abbrev n_deque_operation_readTop : Nat := 40
abbrev n_deque_steal2 : Nat := 41
abbrev n_deque_operation_access : Nat := 42
abbrev n_deque_push3 : Nat := 43
abbrev n_deque_operation_writeBottom : Nat := 44
abbrev n_deque_pop3 : Nat := 45
abbrev n_deque_steal3 : Nat := 46
abbrev n_deque_operation_at : Nat := 47
abbrev n_deque_push4 : Nat := 48
abbrev n_deque_pop6 : Nat := 49
abbrev n_deque_pop4 : Nat := 50
abbrev n_deque_operation_read : Nat := 51
abbrev n_deque_steal4 : Nat := 52
abbrev n_deque_pop5 : Nat := 53
abbrev n_deque_operation_takeTop : Nat := 54
abbrev T_int : Nat := 3
abbrev T_bool : Nat := 4
abbrev T_sl_int : Nat := 22
abbrev T_sl_bool : Nat := 40
theorem T_int_is : ∃ i, tiT.get T_int = some i ∧ i.d = .int .i64 ∧ i.size = 1 := ⟨_, (by kernel_rfl : tiT.get T_int = some ti3), by kernel_rfl, by kernel_rfl⟩
theorem T_sl_int_is : ∃ i, tiT.get T_sl_int = some i ∧ i.d = .slice T_int ∧ i.size = 1 := ⟨_, (by kernel_rfl : tiT.get T_sl_int = some ti22), by kernel_rfl, by kernel_rfl⟩
end Go.Proofs.Ytnloolhaojoimaa.Ev
namespace Go.Proofs.Ytnloolhaojoimaa.Ev
set_option maxRecDepth 100000
set_option maxHeartbeats 4000000
set_option linter.unusedVariables false
variable {σ : Sig}
noncomputable def law20_DequeOnce.code : Code := bodyOf Try.f3
noncomputable def law20_DequeOnce.L0 (σ : Sig) (K : AV → Hp → Prop) (y1 y2 y8 y9 y10 y11 y13 y18 y20 y21 y26 y27 : AV) (H : Hp) : Prop := ∀ js : Nat → AV, LoopP (CX σ [] known_nil) (lB (bB (sR (sL (sR (sR (sR (sR (sR (sR law20_DequeOnce.code)))))))))) [js 0, y1, y2, js 3, js 4, js 5, js 6, js 7, y8, y9, y10, y11, js 12, y13, js 14, js 15, js 16, js 17, y18, js 19, y20, y21, js 22, js 23, js 24, js 25, y26, y27, js 28, js 29, js 30, js 31, js 32, js 33, js 34, js 35, js 36, js 37, js 38, js 39, js 40, js 41, js 42, js 43, js 44, js 45, js 46, js 47, js 48, js 49, js 50, js 51, js 52, js 53, js 54, js 55, js 56, js 57, js 58, js 59, js 60, js 61, js 62, js 63, js 64, js 65, js 66, js 67, js 68, js 69, js 70, js 71, js 72, js 73, js 74, js 75, js 76, js 77, js 78, js 79, js 80, js 81, js 82, js 83, js 84, js 85, js 86, js 87, js 88, js 89, js 90, js 91, js 92, js 93, js 94, js 95, js 96, js 97, js 98, js 99, js 100, js 101, js 102, js 103, js 104, js 105, js 106, js 107, js 108, js 109, js 110, js 111, js 112, js 113, js 114, js 115, js 116, js 117, js 118, js 119, js 120, js 121, js 122, js 123, js 124, js 125, js 126, js 127, js 128, js 129, js 130, js 131, js 132, js 133, js 134, js 135, js 136, js 137, js 138, js 139, js 140, js 141, js 142, js 143, js 144, js 145, js 146, js 147, js 148, js 149, js 150, js 151, js 152, js 153, js 154, js 155, js 156, js 157, js 158, js 159, js 160, js 161, js 162, js 163, js 164, js 165, js 166, js 167, js 168, js 169, js 170, js 171, js 172, js 173, js 174, js 175, js 176, js 177, js 178, js 179, js 180, js 181, js 182] H (fun e T1 H1 => (nx (fnQ (CX σ [] known_nil).ti Try.f3.results.toList K) fun T1 H1 => wp (CX σ [] known_nil) 204746502 (sR (sR (sR (sR (sR (sR (sR law20_DequeOnce.code))))))) T1 H1 (fnQ (CX σ [] known_nil).ti Try.f3.results.toList K)) (unblock 0 e) T1 H1)
noncomputable def law20_DequeOnce.J1 (σ : Sig) (K : AV → Hp → Prop) (y1 y2 y8 y9 y10 y11 y13 y18 y20 y21 y26 y27 : AV) (H : Hp) : Prop := ∀ js : Nat → AV, wp (CX σ [] known_nil) 204746502 (sR (sR (lB (bB (sR (sL (sR (sR (sR (sR (sR (sR law20_DequeOnce.code)))))))))))) [js 0, y1, y2, js 3, js 4, js 5, js 6, js 7, y8, y9, y10, y11, js 12, y13, js 14, js 15, js 16, js 17, y18, js 19, y20, y21, js 22, js 23, js 24, js 25, y26, y27, js 28, js 29, js 30, js 31, js 32, js 33, js 34, js 35, js 36, js 37, js 38, js 39, js 40, js 41, js 42, js 43, js 44, js 45, js 46, js 47, js 48, js 49, js 50, js 51, js 52, js 53, js 54, js 55, js 56, js 57, js 58, js 59, js 60, js 61, js 62, js 63, js 64, js 65, js 66, js 67, js 68, js 69, js 70, js 71, js 72, js 73, js 74, js 75, js 76, js 77, js 78, js 79, js 80, js 81, js 82, js 83, js 84, js 85, js 86, js 87, js 88, js 89, js 90, js 91, js 92, js 93, js 94, js 95, js 96, js 97, js 98, js 99, js 100, js 101, js 102, js 103, js 104, js 105, js 106, js 107, js 108, js 109, js 110, js 111, js 112, js 113, js 114, js 115, js 116, js 117, js 118, js 119, js 120, js 121, js 122, js 123, js 124, js 125, js 126, js 127, js 128, js 129, js 130, js 131, js 132, js 133, js 134, js 135, js 136, js 137, js 138, js 139, js 140, js 141, js 142, js 143, js 144, js 145, js 146, js 147, js 148, js 149, js 150, js 151, js 152, js 153, js 154, js 155, js 156, js 157, js 158, js 159, js 160, js 161, js 162, js 163, js 164, js 165, js 166, js 167, js 168, js 169, js 170, js 171, js 172, js 173, js 174, js 175, js 176, js 177, js 178, js 179, js 180, js 181, js 182] H (nx (fun e T1 H1 => (nx (fnQ (CX σ [] known_nil).ti Try.f3.results.toList K) fun T1 H1 => wp (CX σ [] known_nil) 204746502 (sR (sR (sR (sR (sR (sR (sR law20_DequeOnce.code))))))) T1 H1 (fnQ (CX σ [] known_nil).ti Try.f3.results.toList K)) (unblock 0 e) T1 H1) fun T1 H1 => ∀ js, LoopP (CX σ [] known_nil) (lB (bB (sR (sL (sR (sR (sR (sR (sR (sR law20_DequeOnce.code)))))))))) (maskA 204746502 js 0 T1) H1 (fun e T1 H1 => (nx (fnQ (CX σ [] known_nil).ti Try.f3.results.toList K) fun T1 H1 => wp (CX σ [] known_nil) 204746502 (sR (sR (sR (sR (sR (sR (sR law20_DequeOnce.code))))))) T1 H1 (fnQ (CX σ [] known_nil).ti Try.f3.results.toList K)) (unblock 0 e) T1 H1))
noncomputable def law20_DequeOnce.J2 (σ : Sig) (K : AV → Hp → Prop) (y1 y2 y8 y9 y10 y11 y13 y18 y20 y21 y26 y27 : AV) (H : Hp) : Prop := ∀ js : Nat → AV, wp (CX σ [] known_nil) 204746502 (sR (sR (sR (sR (sR (bB (sL (sR (lB (bB (sR (sL (sR (sR (sR (sR (sR (sR law20_DequeOnce.code)))))))))))))))))) [js 0, y1, y2, js 3, js 4, js 5, js 6, js 7, y8, y9, y10, y11, js 12, y13, js 14, js 15, js 16, js 17, y18, js 19, y20, y21, js 22, js 23, js 24, js 25, y26, y27, js 28, js 29, js 30, js 31, js 32, js 33, js 34, js 35, js 36, js 37, js 38, js 39, js 40, js 41, js 42, js 43, js 44, js 45, js 46, js 47, js 48, js 49, js 50, js 51, js 52, js 53, js 54, js 55, js 56, js 57, js 58, js 59, js 60, js 61, js 62, js 63, js 64, js 65, js 66, js 67, js 68, js 69, js 70, js 71, js 72, js 73, js 74, js 75, js 76, js 77, js 78, js 79, js 80, js 81, js 82, js 83, js 84, js 85, js 86, js 87, js 88, js 89, js 90, js 91, js 92, js 93, js 94, js 95, js 96, js 97, js 98, js 99, js 100, js 101, js 102, js 103, js 104, js 105, js 106, js 107, js 108, js 109, js 110, js 111, js 112, js 113, js 114, js 115, js 116, js 117, js 118, js 119, js 120, js 121, js 122, js 123, js 124, js 125, js 126, js 127, js 128, js 129, js 130, js 131, js 132, js 133, js 134, js 135, js 136, js 137, js 138, js 139, js 140, js 141, js 142, js 143, js 144, js 145, js 146, js 147, js 148, js 149, js 150, js 151, js 152, js 153, js 154, js 155, js 156, js 157, js 158, js 159, js 160, js 161, js 162, js 163, js 164, js 165, js 166, js 167, js 168, js 169, js 170, js 171, js 172, js 173, js 174, js 175, js 176, js 177, js 178, js 179, js 180, js 181, js 182] H (fun e T1 H1 => (nx (nx (fun e T1 H1 => (nx (fnQ (CX σ [] known_nil).ti Try.f3.results.toList K) fun T1 H1 => wp (CX σ [] known_nil) 204746502 (sR (sR (sR (sR (sR (sR (sR law20_DequeOnce.code))))))) T1 H1 (fnQ (CX σ [] known_nil).ti Try.f3.results.toList K)) (unblock 0 e) T1 H1) fun T1 H1 => ∀ js, LoopP (CX σ [] known_nil) (lB (bB (sR (sL (sR (sR (sR (sR (sR (sR law20_DequeOnce.code)))))))))) (maskA 204746502 js 0 T1) H1 (fun e T1 H1 => (nx (fnQ (CX σ [] known_nil).ti Try.f3.results.toList K) fun T1 H1 => wp (CX σ [] known_nil) 204746502 (sR (sR (sR (sR (sR (sR (sR law20_DequeOnce.code))))))) T1 H1 (fnQ (CX σ [] known_nil).ti Try.f3.results.toList K)) (unblock 0 e) T1 H1)) fun T1 H1 => ∀ js, wp (CX σ [] known_nil) 204746502 (sR (sR (lB (bB (sR (sL (sR (sR (sR (sR (sR (sR law20_DequeOnce.code)))))))))))) (maskA 204746502 js 0 T1) H1 (nx (fun e T1 H1 => (nx (fnQ (CX σ [] known_nil).ti Try.f3.results.toList K) fun T1 H1 => wp (CX σ [] known_nil) 204746502 (sR (sR (sR (sR (sR (sR (sR law20_DequeOnce.code))))))) T1 H1 (fnQ (CX σ [] known_nil).ti Try.f3.results.toList K)) (unblock 0 e) T1 H1) fun T1 H1 => ∀ js, LoopP (CX σ [] known_nil) (lB (bB (sR (sL (sR (sR (sR (sR (sR (sR law20_DequeOnce.code)))))))))) (maskA 204746502 js 0 T1) H1 (fun e T1 H1 => (nx (fnQ (CX σ [] known_nil).ti Try.f3.results.toList K) fun T1 H1 => wp (CX σ [] known_nil) 204746502 (sR (sR (sR (sR (sR (sR (sR law20_DequeOnce.code))))))) T1 H1 (fnQ (CX σ [] known_nil).ti Try.f3.results.toList K)) (unblock 0 e) T1 H1))) (unblock 1 e) T1 H1)
noncomputable def law20_DequeOnce.L3 (σ : Sig) (K : AV → Hp → Prop) (y1 y2 y8 y9 y10 y11 y13 y18 y20 y21 y26 y27 : AV) (H : Hp) : Prop := ∀ js : Nat → AV, LoopP (CX σ [] known_nil) (lB (bB (sR (sL (sR (sR (sR (sR (sR (sR (sR law20_DequeOnce.code))))))))))) [js 0, y1, y2, js 3, js 4, js 5, js 6, js 7, y8, y9, y10, y11, js 12, y13, js 14, js 15, js 16, js 17, y18, js 19, y20, y21, js 22, js 23, js 24, js 25, y26, y27, js 28, js 29, js 30, js 31, js 32, js 33, js 34, js 35, js 36, js 37, js 38, js 39, js 40, js 41, js 42, js 43, js 44, js 45, js 46, js 47, js 48, js 49, js 50, js 51, js 52, js 53, js 54, js 55, js 56, js 57, js 58, js 59, js 60, js 61, js 62, js 63, js 64, js 65, js 66, js 67, js 68, js 69, js 70, js 71, js 72, js 73, js 74, js 75, js 76, js 77, js 78, js 79, js 80, js 81, js 82, js 83, js 84, js 85, js 86, js 87, js 88, js 89, js 90, js 91, js 92, js 93, js 94, js 95, js 96, js 97, js 98, js 99, js 100, js 101, js 102, js 103, js 104, js 105, js 106, js 107, js 108, js 109, js 110, js 111, js 112, js 113, js 114, js 115, js 116, js 117, js 118, js 119, js 120, js 121, js 122, js 123, js 124, js 125, js 126, js 127, js 128, js 129, js 130, js 131, js 132, js 133, js 134, js 135, js 136, js 137, js 138, js 139, js 140, js 141, js 142, js 143, js 144, js 145, js 146, js 147, js 148, js 149, js 150, js 151, js 152, js 153, js 154, js 155, js 156, js 157, js 158, js 159, js 160, js 161, js 162, js 163, js 164, js 165, js 166, js 167, js 168, js 169, js 170, js 171, js 172, js 173, js 174, js 175, js 176, js 177, js 178, js 179, js 180, js 181, js 182] H (fun e T1 H1 => (nx (fnQ (CX σ [] known_nil).ti Try.f3.results.toList K) fun T1 H1 => wp (CX σ [] known_nil) 204746502 (sR (sR (sR (sR (sR (sR (sR (sR law20_DequeOnce.code)))))))) T1 H1 (fnQ (CX σ [] known_nil).ti Try.f3.results.toList K)) (unblock 2 e) T1 H1)
noncomputable def law20_DequeOnce.L4 (σ : Sig) (K : AV → Hp → Prop) (y1 y2 y8 y9 y10 y11 y13 y18 y20 y21 y26 y27 : AV) (H : Hp) : Prop := ∀ js : Nat → AV, LoopP (CX σ [] known_nil) (lB (bB (sR (sL (bB (sL (sR (lB (bB (sR (sL (sR (sR (sR (sR (sR (sR (sR law20_DequeOnce.code)))))))))))))))))) [js 0, y1, y2, js 3, js 4, js 5, js 6, js 7, y8, y9, y10, y11, js 12, y13, js 14, js 15, js 16, js 17, y18, js 19, y20, y21, js 22, js 23, js 24, js 25, y26, y27, js 28, js 29, js 30, js 31, js 32, js 33, js 34, js 35, js 36, js 37, js 38, js 39, js 40, js 41, js 42, js 43, js 44, js 45, js 46, js 47, js 48, js 49, js 50, js 51, js 52, js 53, js 54, js 55, js 56, js 57, js 58, js 59, js 60, js 61, js 62, js 63, js 64, js 65, js 66, js 67, js 68, js 69, js 70, js 71, js 72, js 73, js 74, js 75, js 76, js 77, js 78, js 79, js 80, js 81, js 82, js 83, js 84, js 85, js 86, js 87, js 88, js 89, js 90, js 91, js 92, js 93, js 94, js 95, js 96, js 97, js 98, js 99, js 100, js 101, js 102, js 103, js 104, js 105, js 106, js 107, js 108, js 109, js 110, js 111, js 112, js 113, js 114, js 115, js 116, js 117, js 118, js 119, js 120, js 121, js 122, js 123, js 124, js 125, js 126, js 127, js 128, js 129, js 130, js 131, js 132, js 133, js 134, js 135, js 136, js 137, js 138, js 139, js 140, js 141, js 142, js 143, js 144, js 145, js 146, js 147, js 148, js 149, js 150, js 151, js 152, js 153, js 154, js 155, js 156, js 157, js 158, js 159, js 160, js 161, js 162, js 163, js 164, js 165, js 166, js 167, js 168, js 169, js 170, js 171, js 172, js 173, js 174, js 175, js 176, js 177, js 178, js 179, js 180, js 181, js 182] H (fun e T1 H1 => (nx (fun e T1 H1 => (nx (nx (fun e T1 H1 => (nx (fnQ (CX σ [] known_nil).ti Try.f3.results.toList K) fun T1 H1 => wp (CX σ [] known_nil) 204746502 (sR (sR (sR (sR (sR (sR (sR (sR law20_DequeOnce.code)))))))) T1 H1 (fnQ (CX σ [] known_nil).ti Try.f3.results.toList K)) (unblock 2 e) T1 H1) fun T1 H1 => ∀ js, LoopP (CX σ [] known_nil) (lB (bB (sR (sL (sR (sR (sR (sR (sR (sR (sR law20_DequeOnce.code))))))))))) (maskA 204746502 js 0 T1) H1 (fun e T1 H1 => (nx (fnQ (CX σ [] known_nil).ti Try.f3.results.toList K) fun T1 H1 => wp (CX σ [] known_nil) 204746502 (sR (sR (sR (sR (sR (sR (sR (sR law20_DequeOnce.code)))))))) T1 H1 (fnQ (CX σ [] known_nil).ti Try.f3.results.toList K)) (unblock 2 e) T1 H1)) fun T1 H1 => wp (CX σ [] known_nil) 204746502 (sR (sR (lB (bB (sR (sL (sR (sR (sR (sR (sR (sR (sR law20_DequeOnce.code))))))))))))) T1 H1 (nx (fun e T1 H1 => (nx (fnQ (CX σ [] known_nil).ti Try.f3.results.toList K) fun T1 H1 => wp (CX σ [] known_nil) 204746502 (sR (sR (sR (sR (sR (sR (sR (sR law20_DequeOnce.code)))))))) T1 H1 (fnQ (CX σ [] known_nil).ti Try.f3.results.toList K)) (unblock 2 e) T1 H1) fun T1 H1 => ∀ js, LoopP (CX σ [] known_nil) (lB (bB (sR (sL (sR (sR (sR (sR (sR (sR (sR law20_DequeOnce.code))))))))))) (maskA 204746502 js 0 T1) H1 (fun e T1 H1 => (nx (fnQ (CX σ [] known_nil).ti Try.f3.results.toList K) fun T1 H1 => wp (CX σ [] known_nil) 204746502 (sR (sR (sR (sR (sR (sR (sR (sR law20_DequeOnce.code)))))))) T1 H1 (fnQ (CX σ [] known_nil).ti Try.f3.results.toList K)) (unblock 2 e) T1 H1))) (unblock 3 e) T1 H1) fun T1 H1 => wp (CX σ [] known_nil) 204746502 (sR (bB (sL (sR (lB (bB (sR (sL (sR (sR (sR (sR (sR (sR (sR law20_DequeOnce.code))))))))))))))) T1 H1 (fun e T1 H1 => (nx (nx (fun e T1 H1 => (nx (fnQ (CX σ [] known_nil).ti Try.f3.results.toList K) fun T1 H1 => wp (CX σ [] known_nil) 204746502 (sR (sR (sR (sR (sR (sR (sR (sR law20_DequeOnce.code)))))))) T1 H1 (fnQ (CX σ [] known_nil).ti Try.f3.results.toList K)) (unblock 2 e) T1 H1) fun T1 H1 => ∀ js, LoopP (CX σ [] known_nil) (lB (bB (sR (sL (sR (sR (sR (sR (sR (sR (sR law20_DequeOnce.code))))))))))) (maskA 204746502 js 0 T1) H1 (fun e T1 H1 => (nx (fnQ (CX σ [] known_nil).ti Try.f3.results.toList K) fun T1 H1 => wp (CX σ [] known_nil) 204746502 (sR (sR (sR (sR (sR (sR (sR (sR law20_DequeOnce.code)))))))) T1 H1 (fnQ (CX σ [] known_nil).ti Try.f3.results.toList K)) (unblock 2 e) T1 H1)) fun T1 H1 => wp (CX σ [] known_nil) 204746502 (sR (sR (lB (bB (sR (sL (sR (sR (sR (sR (sR (sR (sR law20_DequeOnce.code))))))))))))) T1 H1 (nx (fun e T1 H1 => (nx (fnQ (CX σ [] known_nil).ti Try.f3.results.toList K) fun T1 H1 => wp (CX σ [] known_nil) 204746502 (sR (sR (sR (sR (sR (sR (sR (sR law20_DequeOnce.code)))))))) T1 H1 (fnQ (CX σ [] known_nil).ti Try.f3.results.toList K)) (unblock 2 e) T1 H1) fun T1 H1 => ∀ js, LoopP (CX σ [] known_nil) (lB (bB (sR (sL (sR (sR (sR (sR (sR (sR (sR law20_DequeOnce.code))))))))))) (maskA 204746502 js 0 T1) H1 (fun e T1 H1 => (nx (fnQ (CX σ [] known_nil).ti Try.f3.results.toList K) fun T1 H1 => wp (CX σ [] known_nil) 204746502 (sR (sR (sR (sR (sR (sR (sR (sR law20_DequeOnce.code)))))))) T1 H1 (fnQ (CX σ [] known_nil).ti Try.f3.results.toList K)) (unblock 2 e) T1 H1))) (unblock 3 e) T1 H1)) (unblock 4 e) T1 H1)
noncomputable def law20_DequeOnce.L5 (σ : Sig) (K : AV → Hp → Prop) (y1 y2 y8 y9 y10 y11 y13 y18 y20 y21 y26 y27 : AV) (H : Hp) : Prop := ∀ js : Nat → AV, LoopP (CX σ [] known_nil) (lB (bB (sR (sL (sR (sR (sR (sR (sR (sR (sR (sR (sR law20_DequeOnce.code))))))))))))) [js 0, y1, y2, js 3, js 4, js 5, js 6, js 7, y8, y9, y10, y11, js 12, y13, js 14, js 15, js 16, js 17, y18, js 19, y20, y21, js 22, js 23, js 24, js 25, y26, y27, js 28, js 29, js 30, js 31, js 32, js 33, js 34, js 35, js 36, js 37, js 38, js 39, js 40, js 41, js 42, js 43, js 44, js 45, js 46, js 47, js 48, js 49, js 50, js 51, js 52, js 53, js 54, js 55, js 56, js 57, js 58, js 59, js 60, js 61, js 62, js 63, js 64, js 65, js 66, js 67, js 68, js 69, js 70, js 71, js 72, js 73, js 74, js 75, js 76, js 77, js 78, js 79, js 80, js 81, js 82, js 83, js 84, js 85, js 86, js 87, js 88, js 89, js 90, js 91, js 92, js 93, js 94, js 95, js 96, js 97, js 98, js 99, js 100, js 101, js 102, js 103, js 104, js 105, js 106, js 107, js 108, js 109, js 110, js 111, js 112, js 113, js 114, js 115, js 116, js 117, js 118, js 119, js 120, js 121, js 122, js 123, js 124, js 125, js 126, js 127, js 128, js 129, js 130, js 131, js 132, js 133, js 134, js 135, js 136, js 137, js 138, js 139, js 140, js 141, js 142, js 143, js 144, js 145, js 146, js 147, js 148, js 149, js 150, js 151, js 152, js 153, js 154, js 155, js 156, js 157, js 158, js 159, js 160, js 161, js 162, js 163, js 164, js 165, js 166, js 167, js 168, js 169, js 170, js 171, js 172, js 173, js 174, js 175, js 176, js 177, js 178, js 179, js 180, js 181, js 182] H (fun e T1 H1 => (nx (fnQ (CX σ [] known_nil).ti Try.f3.results.toList K) fun T1 H1 => wp (CX σ [] known_nil) 204746502 (sR (sR (sR (sR (sR (sR (sR (sR (sR (sR law20_DequeOnce.code)))))))))) T1 H1 (fnQ (CX σ [] known_nil).ti Try.f3.results.toList K)) (unblock 6 e) T1 H1)
theorem law20_DequeOnce.L0_step {K : AV → Hp → Prop} {y1 y2 y8 y9 y10 y11 y13 y18 y20 y21 y26 y27 : AV} {H : Hp} (h : bnd (lenSl y2) fun x1 => bnd (binR .lss y11 x1) fun x2 => ifB x2 (bnd (ixaSl 1 y2 y11) fun x3 => bnd (ldA false 1 H x3) fun x4 => bnd (binR .and x4 (.lit (.int .i64 65535))) fun x5 => bnd (binR .add y1 (.lit (.int .i64 1))) fun x6 => bnd (binR .rem x5 x6) fun x7 => callK Try.prog σ n_deque_Deque_Busy [y8, x7] H fun x8 H9 => ifB x8 (callK Try.prog σ n_deque_Deque_Step [y8, x7] H9 fun x10 H11 => bnd (exR x10 0) fun x12 => bnd (exR x10 1) fun x13 => bnd (exR x10 2) fun x14 => callK Try.prog σ n_law20_tally_note [y9, x7, x12, x13, x14] H11 fun x15 H16 => bnd (unR .not x15) fun x17 => ifB x17 (K (.lit (.bool false)) H16) (law20_DequeOnce.J1 σ K y1 y2 y8 y9 y10 y11 x7 y18 y20 y21 y26 y27 H16)) (bnd (binR .eql x7 (.lit (.int .i64 0))) fun x18 => ifB x18 (bnd (binR .shr x5 (.lit (.int .u64 8))) fun x19 => bnd (binR .and x19 (.lit (.int .i64 1))) fun x20 => bnd (binR .eql x20 (.lit (.int .i64 0))) fun x21 => ifB x21 (bnd (binR .lss y10 (.lit (.int .i64 64))) fun x22 => ifB x22 (bnd (nilR y9) fun x23 => bnd (shiftA x23 128) fun x24 => bnd (stA 1 H9 x24 y10) fun H25 => bnd (binR .add y10 (.lit (.int .i64 1))) fun x26 => law20_DequeOnce.J2 σ K y1 y2 y8 y9 x26 y11 x7 (.lit (.int .i64 1)) y20 y21 y26 y27 H25) (law20_DequeOnce.J2 σ K y1 y2 y8 y9 y10 y11 x7 (.lit (.int .i64 2)) y20 y21 y26 y27 H9)) (law20_DequeOnce.J2 σ K y1 y2 y8 y9 y10 y11 x7 (.lit (.int .i64 2)) y20 y21 y26 y27 H9)) (law20_DequeOnce.J2 σ K y1 y2 y8 y9 y10 y11 x7 (.lit (.int .i64 3)) y20 y21 y26 y27 H9))) (law20_DequeOnce.L3 σ K y1 y2 y8 y9 y10 y11 y13 y18 (.lit (.int .i64 0)) y21 y26 y27 H)) : law20_DequeOnce.L0 σ K y1 y2 y8 y9 y10 y11 y13 y18 y20 y21 y26 y27 H :=
  fun js => LoopP.round (CX σ [] known_nil) mixed (g := 204746502) (Eq.mpr (by kernel_rfl) h)
theorem law20_DequeOnce.J1_step {K : AV → Hp → Prop} {y1 y2 y8 y9 y10 y11 y13 y18 y20 y21 y26 y27 : AV} {H : Hp} (h : bnd (binR .add y11 (.lit (.int .i64 1))) fun x1 => law20_DequeOnce.L0 σ K y1 y2 y8 y9 y10 x1 y13 y18 y20 y21 y26 y27 H) : law20_DequeOnce.J1 σ K y1 y2 y8 y9 y10 y11 y13 y18 y20 y21 y26 y27 H :=
  fun js => Eq.mpr (by kernel_rfl) h
theorem law20_DequeOnce.J2_step {K : AV → Hp → Prop} {y1 y2 y8 y9 y10 y11 y13 y18 y20 y21 y26 y27 : AV} {H : Hp} (h : bnd (binR .sub y10 (.lit (.int .i64 1))) fun x1 => callK Try.prog σ n_deque_Deque_Begin [y8, y13, y18, x1] H fun x2 H3 => callK Try.prog σ n_law20_num [x2] H3 fun x4 H5 => bnd (binR .neq x4 (.lit (.int .i64 0))) fun x6 => ifB x6 (K (.lit (.bool false)) H5) (law20_DequeOnce.J1 σ K y1 y2 y8 y9 y10 y11 y13 y18 y20 y21 y26 y27 H5)) : law20_DequeOnce.J2 σ K y1 y2 y8 y9 y10 y11 y13 y18 y20 y21 y26 y27 H :=
  fun js => Eq.mpr (by kernel_rfl) h
theorem law20_DequeOnce.L3_step {K : AV → Hp → Prop} {y1 y2 y8 y9 y10 y11 y13 y18 y20 y21 y26 y27 : AV} {H : Hp} (h : bnd (binR .leq y20 y1) fun x1 => ifB x1 (law20_DequeOnce.L4 σ K y1 y2 y8 y9 y10 y11 y13 y18 y20 (.lit (.int .i64 0)) y26 y27 H) (law20_DequeOnce.L5 σ K y1 y2 y8 y9 y10 y11 y13 y18 y20 y21 (.lit (.int .i64 0)) (.lit (.int .i64 0)) H)) : law20_DequeOnce.L3 σ K y1 y2 y8 y9 y10 y11 y13 y18 y20 y21 y26 y27 H :=
  fun js => LoopP.round (CX σ [] known_nil) mixed (g := 204746502) (Eq.mpr (by kernel_rfl) h)
theorem law20_DequeOnce.L4_step {K : AV → Hp → Prop} {y1 y2 y8 y9 y10 y11 y13 y18 y20 y21 y26 y27 : AV} {H : Hp} (h : callK Try.prog σ n_deque_Deque_Busy [y8, y20] H fun x1 H2 => ifB x1 (bnd (binR .lss y21 (.lit (.int .i64 10))) fun x3 => ifB x3 (callK Try.prog σ n_deque_Deque_Step [y8, y20] H2 fun x4 H5 => bnd (exR x4 0) fun x6 => bnd (exR x4 1) fun x7 => bnd (exR x4 2) fun x8 => callK Try.prog σ n_law20_tally_note [y9, y20, x6, x7, x8] H5 fun x9 H10 => bnd (unR .not x9) fun x11 => ifB x11 (K (.lit (.bool false)) H10) (bnd (binR .add y21 (.lit (.int .i64 1))) fun x12 => law20_DequeOnce.L4 σ K y1 y2 y8 y9 y10 y11 y13 y18 y20 x12 y26 y27 H10)) (callK Try.prog σ n_deque_Deque_Busy [y8, y20] H2 fun x13 H14 => ifB x13 (K (.lit (.bool false)) H14) (bnd (binR .add y20 (.lit (.int .i64 1))) fun x15 => law20_DequeOnce.L3 σ K y1 y2 y8 y9 y10 y11 y13 y18 x15 y21 y26 y27 H14))) (callK Try.prog σ n_deque_Deque_Busy [y8, y20] H2 fun x16 H17 => ifB x16 (K (.lit (.bool false)) H17) (bnd (binR .add y20 (.lit (.int .i64 1))) fun x18 => law20_DequeOnce.L3 σ K y1 y2 y8 y9 y10 y11 y13 y18 x18 y21 y26 y27 H17))) : law20_DequeOnce.L4 σ K y1 y2 y8 y9 y10 y11 y13 y18 y20 y21 y26 y27 H :=
  fun js => LoopP.round (CX σ [] known_nil) mixed (g := 204746502) (Eq.mpr (by kernel_rfl) h)
theorem law20_DequeOnce.L5_step {K : AV → Hp → Prop} {y1 y2 y8 y9 y10 y11 y13 y18 y20 y21 y26 y27 : AV} {H : Hp} (h : bnd (binR .lss y27 (.lit (.int .i64 64))) fun x1 => ifB x1 (bnd (nilR y9) fun x2 => bnd (shiftA x2 64) fun x3 => bnd (ixaArr 64 1 x3 y27) fun x4 => bnd (ldA false 1 H x4) fun x5 => bnd (nilR y9) fun x6 => bnd (shiftA x6 0) fun x7 => bnd (ixaArr 64 1 x7 y27) fun x8 => bnd (ldA false 1 H x8) fun x9 => bnd (binR .gtr x5 x9) fun x10 => ifB x10 (K (.lit (.bool false)) H) (bnd (nilR y9) fun x11 => bnd (shiftA x11 0) fun x12 => bnd (ixaArr 64 1 x12 y27) fun x13 => bnd (ldA false 1 H x13) fun x14 => bnd (binR .add y26 x14) fun x15 => bnd (nilR y9) fun x16 => bnd (shiftA x16 64) fun x17 => bnd (ixaArr 64 1 x17 y27) fun x18 => bnd (ldA false 1 H x18) fun x19 => bnd (binR .sub x15 x19) fun x20 => bnd (binR .add y27 (.lit (.int .i64 1))) fun x21 => law20_DequeOnce.L5 σ K y1 y2 y8 y9 y10 y11 y13 y18 y20 y21 x20 x21 H)) (callK Try.prog σ n_deque_Deque_Len [y8] H fun x22 H23 => bnd (binR .eql x22 y26) fun x24 => K x24 H23)) : law20_DequeOnce.L5 σ K y1 y2 y8 y9 y10 y11 y13 y18 y20 y21 y26 y27 H :=
  fun js => LoopP.round (CX σ [] known_nil) mixed (g := 204746502) (Eq.mpr (by kernel_rfl) h)
theorem law20_DequeOnce.run {a0 a1 a2 : AV} {H : Hp} {K : AV → Hp → Prop} (h : callK Try.prog σ n_law20_alive [] H fun x1 H2 => bnd (unR .not x1) fun x3 => ifB x3 (K x1 H2) (bnd (binR .lss a0 (.lit (.int .i64 1))) fun x4 => ifB x4 (K x1 H2) (bnd (binR .gtr a0 (.lit (.int .i64 8))) fun x5 => ifB x5 (K x1 H2) (bnd (binR .lss a1 (.lit (.int .i64 0))) fun x6 => ifB x6 (K x1 H2) (bnd (binR .gtr a1 (.lit (.int .i64 6))) fun x7 => ifB x7 (K x1 H2) (bnd (lenSl a2) fun x8 => bnd (binR .gtr x8 (.lit (.int .i64 400))) fun x9 => ifB x9 (K x1 H2) (callK Try.prog σ n_deque_New [a0] H2 fun x10 H11 => bnd (bldR (List.replicate 129 (.lit (.int .i64 0))) [(128, 1, (.lit (.int .i64 (-1))))]) fun l12 => boxK (.agg l12) H11 fun x13 H14 => law20_DequeOnce.L0 σ K a1 a2 x10 x13 (.lit (.int .i64 0)) (.lit (.int .i64 0)) (.lit undef) (.lit undef) (.lit undef) (.lit undef) (.lit undef) (.lit undef) H14))))))) : ∃ r H1, Good Try.prog σ n_law20_DequeOnce [a0, a1, a2] H r H1 ∧ K r H1 :=
  good_of_wp (CX σ [] known_nil) mixed 204746502 (fn := Try.f3) (f := n_law20_DequeOnce) (c := law20_DequeOnce.code) (fnT_ok 3 _ (by kernel_rfl)).1 (by kernel_rfl) (fnT_ok 3 _ (by kernel_rfl)).2 (Eq.mpr (by kernel_rfl) h)
noncomputable def deque_New.code : Code := bodyOf Try.f12
theorem deque_New.run {a0 : AV} {H : Hp} {K : AV → Hp → Prop} (h : bnd (maxA [(.lit (.int .i64 1)), a0]) fun x1 => bnd (minA [x1, (.lit (.int .i64 1024))]) fun x2 => bnd (mkSlR [.int .i64 0] 1 8 H x2 x2) fun p3 => bnd (bldR [.lit (.slice none 0 0), .lit (.int .i64 0), .lit (.int .i64 0), .lit (.pointer none), .lit (.pointer none), .lit (.pointer none), .lit (.pointer none), .lit (.pointer none), .lit (.pointer none), .lit (.pointer none), .lit (.pointer none), .lit (.pointer none), .lit (.pointer none), .lit (.pointer none), .lit (.pointer none), .lit (.pointer none), .lit (.pointer none), .lit (.pointer none), .lit (.pointer none), .lit (.pointer none), .lit (.pointer none), .lit (.pointer none), .lit (.pointer none), .lit (.pointer none), .lit (.pointer none), .lit (.pointer none), .lit (.pointer none), .lit (.pointer none), .lit (.pointer none), .lit (.pointer none), .lit (.pointer none), .lit (.pointer none), .lit (.pointer none), .lit (.pointer none), .lit (.pointer none), .lit (.pointer none), .lit (.pointer none), .lit (.pointer none), .lit (.pointer none), .lit (.pointer none), .lit (.pointer none), .lit (.pointer none), .lit (.pointer none), .lit (.pointer none), .lit (.pointer none), .lit (.pointer none), .lit (.pointer none), .lit (.pointer none), .lit (.pointer none), .lit (.pointer none), .lit (.pointer none), .lit (.pointer none), .lit (.pointer none), .lit (.pointer none), .lit (.pointer none), .lit (.pointer none), .lit (.pointer none), .lit (.pointer none), .lit (.pointer none), .lit (.pointer none), .lit (.pointer none), .lit (.pointer none), .lit (.pointer none), .lit (.pointer none), .lit (.pointer none), .lit (.pointer none), .lit (.pointer none), .lit (.pointer none), .lit (.int .i64 0), .lit (.int .i64 0), .lit (.bool false), .lit (.bool false)] [(0, 1, p3.1)]) fun l4 => boxK (.agg l4) p3.2 fun x5 H6 => K x5 H6) : ∃ r H1, Good Try.prog σ n_deque_New [a0] H r H1 ∧ K r H1 :=
  good_of_wp (CX σ [] known_nil) mixed 0 (fn := Try.f12) (f := n_deque_New) (c := deque_New.code) (fnT_ok 12 _ (by kernel_rfl)).1 (by kernel_rfl) (fnT_ok 12 _ (by kernel_rfl)).2 (Eq.mpr (by kernel_rfl) h)
noncomputable def deque_Deque_Busy.code : Code := bodyOf Try.f13
theorem deque_Deque_Busy.run {a0 a1 : AV} {H : Hp} {K : AV → Hp → Prop} (h : bnd (binR .geq a1 (.lit (.int .i64 0))) fun x1 => ifB x1 (bnd (binR .leq a1 (.lit (.int .i64 64))) fun x2 => ifB x2 (bnd (nilR a0) fun x3 => bnd (shiftA x3 3) fun x4 => bnd (ixaArr 65 1 x4 a1) fun x5 => bnd (ldA false 1 H x5) fun x6 => bnd (eqPtrR .neq x6 (.lit (.pointer none))) fun x7 => K x7 H) (K (.lit (.bool false)) H)) (K (.lit (.bool false)) H)) : ∃ r H1, Good Try.prog σ n_deque_Deque_Busy [a0, a1] H r H1 ∧ K r H1 :=
  good_of_wp (CX σ [] known_nil) mixed 0 (fn := Try.f13) (f := n_deque_Deque_Busy) (c := deque_Deque_Busy.code) (fnT_ok 13 _ (by kernel_rfl)).1 (by kernel_rfl) (fnT_ok 13 _ (by kernel_rfl)).2 (Eq.mpr (by kernel_rfl) h)
noncomputable def deque_Deque_Step.code : Code := bodyOf Try.f14
theorem deque_Deque_Step.run {a0 a1 : AV} {H : Hp} {K : AV → Hp → Prop} (h : callK Try.prog σ n_deque_Deque_Busy [a0, a1] H fun x1 H2 => bnd (unR .not x1) fun x3 => ifB x3 (K (.tup [(.lit (.bool false)), (.lit (.int .i64 0)), (.lit (.bool false))]) H2) (bnd (nilR a0) fun x4 => bnd (shiftA x4 3) fun x5 => bnd (ixaArr 65 1 x5 a1) fun x6 => bnd (ldA false 1 H2 x6) fun x7 => bnd (nilR x7) fun x8 => bnd (shiftA x8 6) fun x9 => bnd (ldA false 1 H2 x9) fun x10 => callV Try.prog σ x10 [x7] H2 fun x11 H12 => bnd (nilR x7) fun x13 => bnd (shiftA x13 6) fun x14 => bnd (stA 1 H12 x14 x11) fun H15 => bnd (nilR x7) fun x16 => bnd (shiftA x16 6) fun x17 => bnd (ldA false 1 H15 x17) fun x18 => bnd (eqFnR .neq x18 (.lit (.nilFunc))) fun x19 => ifB x19 (K (.tup [(.lit (.bool false)), (.lit (.int .i64 0)), (.lit (.bool false))]) H15) (bnd (nilR a0) fun x20 => bnd (shiftA x20 3) fun x21 => bnd (ixaArr 65 1 x21 a1) fun x22 => bnd (stA 1 H15 x22 (.lit (.pointer none))) fun H23 => bnd (nilR x7) fun x24 => bnd (shiftA x24 5) fun x25 => bnd (ldA false 1 H23 x25) fun x26 => bnd (unR .not x26) fun x27 => ifB x27 (K (.tup [(.lit (.bool true)), (.lit (.int .i64 0)), (.lit (.bool false))]) H23) (bnd (nilR x7) fun x28 => bnd (shiftA x28 2) fun x29 => bnd (ldA false 1 H23 x29) fun x30 => K (.tup [(.lit (.bool true)), x30, (.lit (.bool true))]) H23)))) : ∃ r H1, Good Try.prog σ n_deque_Deque_Step [a0, a1] H r H1 ∧ K r H1 :=
  good_of_wp (CX σ [] known_nil) mixed 0 (fn := Try.f14) (f := n_deque_Deque_Step) (c := deque_Deque_Step.code) (fnT_ok 14 _ (by kernel_rfl)).1 (by kernel_rfl) (fnT_ok 14 _ (by kernel_rfl)).2 (Eq.mpr (by kernel_rfl) h)
noncomputable def law20_tally_note.code : Code := bodyOf Try.f15
noncomputable def law20_tally_note.J0 (σ : Sig) (K : AV → Hp → Prop) (y0 y1 y3 y4 y11 : AV) (H : Hp) : Prop := ∀ js : Nat → AV, wp (CX σ [] known_nil) 2075 (sR (sR (sR (sR law20_tally_note.code)))) [y0, y1, js 2, y3, y4, js 5, js 6, js 7, js 8, js 9, js 10, y11, js 12, js 13, js 14, js 15, js 16, js 17, js 18, js 19, js 20, js 21, js 22, js 23, js 24, js 25, js 26, js 27, js 28, js 29, js 30, js 31, js 32, js 33, js 34, js 35, js 36, js 37, js 38, js 39, js 40, js 41, js 42, js 43, js 44, js 45, js 46, js 47, js 48, js 49, js 50, js 51, js 52, js 53, js 54] H (fnQ (CX σ [] known_nil).ti Try.f15.results.toList K)
theorem law20_tally_note.J0_step {K : AV → Hp → Prop} {y0 y1 y3 y4 y11 : AV} {H : Hp} (h : bnd (unR .not y4) fun x1 => ifB x1 (K (.lit (.bool true)) H) (bnd (binR .lss y3 (.lit (.int .i64 0))) fun x2 => ifB x2 (K (.lit (.bool false)) H) (bnd (binR .gtr y3 (.lit (.int .i64 63))) fun x3 => ifB x3 (K (.lit (.bool false)) H) (bnd (binR .eql y1 (.lit (.int .i64 0))) fun x4 => ifB x4 (bnd (binR .geq y11 (.lit (.int .i64 0))) fun x5 => ifB x5 (bnd (nilR y0) fun x6 => bnd (shiftA x6 0) fun x7 => bnd (ixaArr 64 1 x7 y3) fun x8 => bnd (stA 1 H x8 (.lit (.int .i64 1))) fun H9 => bnd (binR .eql y3 y11) fun x10 => K x10 H9) (bnd (nilR y0) fun x11 => bnd (shiftA x11 64) fun x12 => bnd (ixaArr 64 1 x12 y3) fun x13 => bnd (ldA false 1 H x13) fun x14 => bnd (binR .add x14 (.lit (.int .i64 1))) fun x15 => bnd (nilR y0) fun x16 => bnd (shiftA x16 64) fun x17 => bnd (ixaArr 64 1 x17 y3) fun x18 => bnd (stA 1 H x18 x15) fun H19 => K (.lit (.bool true)) H19)) (bnd (nilR y0) fun x20 => bnd (shiftA x20 64) fun x21 => bnd (ixaArr 64 1 x21 y3) fun x22 => bnd (ldA false 1 H x22) fun x23 => bnd (binR .add x23 (.lit (.int .i64 1))) fun x24 => bnd (nilR y0) fun x25 => bnd (shiftA x25 64) fun x26 => bnd (ixaArr 64 1 x26 y3) fun x27 => bnd (stA 1 H x27 x24) fun H28 => K (.lit (.bool true)) H28))))) : law20_tally_note.J0 σ K y0 y1 y3 y4 y11 H :=
  fun js => Eq.mpr (by kernel_rfl) h
theorem law20_tally_note.run {a0 a1 a2 a3 a4 : AV} {H : Hp} {K : AV → Hp → Prop} (h : bnd (unR .not a2) fun x1 => ifB x1 (K (.lit (.bool true)) H) (bnd (nilR a0) fun x2 => bnd (shiftA x2 128) fun x3 => bnd (ldA false 1 H x3) fun x4 => bnd (binR .eql a1 (.lit (.int .i64 0))) fun x5 => ifB x5 (bnd (nilR a0) fun x6 => bnd (shiftA x6 128) fun x7 => bnd (stA 1 H x7 (.lit (.int .i64 (-1)))) fun H8 => law20_tally_note.J0 σ K a0 a1 a3 a4 x4 H8) (law20_tally_note.J0 σ K a0 a1 a3 a4 x4 H))) : ∃ r H1, Good Try.prog σ n_law20_tally_note [a0, a1, a2, a3, a4] H r H1 ∧ K r H1 :=
  good_of_wp (CX σ [] known_nil) mixed 2075 (fn := Try.f15) (f := n_law20_tally_note) (c := law20_tally_note.code) (fnT_ok 15 _ (by kernel_rfl)).1 (by kernel_rfl) (fnT_ok 15 _ (by kernel_rfl)).2 (Eq.mpr (by kernel_rfl) h)
noncomputable def deque_Deque_Begin.code : Code := bodyOf Try.f16
theorem deque_Deque_Begin.run {a0 a1 a2 a3 : AV} {H : Hp} {K : AV → Hp → Prop} (h : bnd (binR .lss a1 (.lit (.int .i64 0))) fun x1 => ifB x1 (K (.lit (.int .i64 1)) H) (bnd (binR .gtr a1 (.lit (.int .i64 64))) fun x2 => ifB x2 (K (.lit (.int .i64 1)) H) (bnd (nilR a0) fun x3 => bnd (shiftA x3 3) fun x4 => bnd (ixaArr 65 1 x4 a1) fun x5 => bnd (ldA false 1 H x5) fun x6 => bnd (eqPtrR .neq x6 (.lit (.pointer none))) fun x7 => ifB x7 (K (.lit (.int .i64 1)) H) (callK Try.prog σ n_deque_steps [a1, a2] H fun x8 H9 => bnd (eqFnR .eql x8 (.lit (.nilFunc))) fun x10 => ifB x10 (K (.lit (.int .i64 1)) H9) (callK Try.prog σ n_deque_steps [a1, a2] H9 fun x11 H12 => bnd (bldR [.lit (.pointer none), .lit (.int .i64 0), .lit (.int .i64 0), .lit (.int .i64 0), .lit (.int .i64 0), .lit (.bool false), .lit (.nilFunc)] [(0, 1, a0), (1, 1, a1), (2, 1, a3), (6, 1, x11)]) fun l13 => boxK (.agg l13) H12 fun x14 H15 => bnd (nilR a0) fun x16 => bnd (shiftA x16 3) fun x17 => bnd (ixaArr 65 1 x17 a1) fun x18 => bnd (stA 1 H15 x18 x14) fun H19 => K (.lit (.int .i64 0)) H19))))) : ∃ r H1, Good Try.prog σ n_deque_Deque_Begin [a0, a1, a2, a3] H r H1 ∧ K r H1 :=
  good_of_wp (CX σ [] known_nil) mixed 0 (fn := Try.f16) (f := n_deque_Deque_Begin) (c := deque_Deque_Begin.code) (fnT_ok 16 _ (by kernel_rfl)).1 (by kernel_rfl) (fnT_ok 16 _ (by kernel_rfl)).2 (Eq.mpr (by kernel_rfl) h)
noncomputable def law20_num.code : Code := bodyOf Try.f17
theorem law20_num.run {a0 : AV} {H : Hp} {K : AV → Hp → Prop} (h : K a0 H) : ∃ r H1, Good Try.prog σ n_law20_num [a0] H r H1 ∧ K r H1 :=
  good_of_wp (CX σ [] known_nil) mixed 0 (fn := Try.f17) (f := n_law20_num) (c := law20_num.code) (fnT_ok 17 _ (by kernel_rfl)).1 (by kernel_rfl) (fnT_ok 17 _ (by kernel_rfl)).2 (Eq.mpr (by kernel_rfl) h)
noncomputable def deque_Deque_Len.code : Code := bodyOf Try.f18
theorem deque_Deque_Len.run {a0 : AV} {H : Hp} {K : AV → Hp → Prop} (h : bnd (nilR a0) fun x1 => bnd (shiftA x1 2) fun x2 => bnd (ldA false 1 H x2) fun x3 => bnd (nilR a0) fun x4 => bnd (shiftA x4 1) fun x5 => bnd (ldA false 1 H x5) fun x6 => bnd (binR .sub x3 x6) fun x7 => bnd (maxA [(.lit (.int .i64 0)), x7]) fun x8 => K x8 H) : ∃ r H1, Good Try.prog σ n_deque_Deque_Len [a0] H r H1 ∧ K r H1 :=
  good_of_wp (CX σ [] known_nil) mixed 0 (fn := Try.f18) (f := n_deque_Deque_Len) (c := deque_Deque_Len.code) (fnT_ok 18 _ (by kernel_rfl)).1 (by kernel_rfl) (fnT_ok 18 _ (by kernel_rfl)).2 (Eq.mpr (by kernel_rfl) h)
noncomputable def law20_whole.code : Code := bodyOf Try.f19
noncomputable def law20_whole.L0 (σ : Sig) (K : AV → Hp → Prop) (y0 y1 y10 : AV) (H : Hp) : Prop := ∀ js : Nat → AV, LoopP (CX σ [] known_nil) (lB (bB (sR (sL (sR (sR law20_whole.code)))))) [y0, y1, js 2, js 3, js 4, js 5, js 6, js 7, js 8, js 9, y10, js 11, js 12, js 13, js 14, js 15, js 16, js 17, js 18, js 19, js 20, js 21, js 22, js 23, js 24, js 25, js 26, js 27, js 28, js 29, js 30, js 31, js 32] H (fun e T1 H1 => (nx (fnQ (CX σ [] known_nil).ti Try.f19.results.toList K) fun T1 H1 => wp (CX σ [] known_nil) 1027 (sR (sR (sR law20_whole.code))) T1 H1 (fnQ (CX σ [] known_nil).ti Try.f19.results.toList K)) (unblock 0 e) T1 H1)
theorem law20_whole.L0_step {K : AV → Hp → Prop} {y0 y1 y10 : AV} {H : Hp} (h : bnd (binR .lss y10 (.lit (.int .i64 10))) fun x1 => ifB x1 (callK Try.prog σ n_deque_Deque_Step [y0, y1] H fun x2 H3 => bnd (exR x2 0) fun x4 => bnd (exR x2 1) fun x5 => bnd (exR x2 2) fun x6 => ifB x4 (K (.tup [x5, x6]) H3) (bnd (binR .add y10 (.lit (.int .i64 1))) fun x7 => law20_whole.L0 σ K y0 y1 x7 H3)) (K (.tup [(.lit (.int .i64 (-1))), (.lit (.bool false))]) H)) : law20_whole.L0 σ K y0 y1 y10 H :=
  fun js => LoopP.round (CX σ [] known_nil) mixed (g := 1027) (Eq.mpr (by kernel_rfl) h)
theorem law20_whole.run {a0 a1 a2 a3 : AV} {H : Hp} {K : AV → Hp → Prop} (h : callK Try.prog σ n_deque_Deque_Begin [a0, a1, a2, a3] H fun x1 H2 => law20_whole.L0 σ K a0 a1 (.lit (.int .i64 0)) H2) : ∃ r H1, Good Try.prog σ n_law20_whole [a0, a1, a2, a3] H r H1 ∧ K r H1 :=
  good_of_wp (CX σ [] known_nil) mixed 1027 (fn := Try.f19) (f := n_law20_whole) (c := law20_whole.code) (fnT_ok 19 _ (by kernel_rfl)).1 (by kernel_rfl) (fnT_ok 19 _ (by kernel_rfl)).2 (Eq.mpr (by kernel_rfl) h)
noncomputable def deque_steps.code : Code := bodyOf Try.f27
theorem deque_steps.run {a0 a1 : AV} {H : Hp} {K : AV → Hp → Prop} (h : bnd (binR .eql a1 (.lit (.int .i64 1))) fun x1 => ifB x1 (bnd (binR .eql a0 (.lit (.int .i64 0))) fun x2 => ifB x2 (K (.fn n_deque_push1 []) H) (bnd (binR .eql a1 (.lit (.int .i64 2))) fun x3 => ifB x3 (bnd (binR .eql a0 (.lit (.int .i64 0))) fun x4 => ifB x4 (K (.fn n_deque_pop1 []) H) (bnd (binR .eql a1 (.lit (.int .i64 3))) fun x5 => ifB x5 (bnd (binR .gtr a0 (.lit (.int .i64 0))) fun x6 => ifB x6 (K (.fn n_deque_steal1 []) H) (K (.lit (.nilFunc)) H)) (K (.lit (.nilFunc)) H))) (bnd (binR .eql a1 (.lit (.int .i64 3))) fun x7 => ifB x7 (bnd (binR .gtr a0 (.lit (.int .i64 0))) fun x8 => ifB x8 (K (.fn n_deque_steal1 []) H) (K (.lit (.nilFunc)) H)) (K (.lit (.nilFunc)) H)))) (bnd (binR .eql a1 (.lit (.int .i64 2))) fun x9 => ifB x9 (bnd (binR .eql a0 (.lit (.int .i64 0))) fun x10 => ifB x10 (K (.fn n_deque_pop1 []) H) (bnd (binR .eql a1 (.lit (.int .i64 3))) fun x11 => ifB x11 (bnd (binR .gtr a0 (.lit (.int .i64 0))) fun x12 => ifB x12 (K (.fn n_deque_steal1 []) H) (K (.lit (.nilFunc)) H)) (K (.lit (.nilFunc)) H))) (bnd (binR .eql a1 (.lit (.int .i64 3))) fun x13 => ifB x13 (bnd (binR .gtr a0 (.lit (.int .i64 0))) fun x14 => ifB x14 (K (.fn n_deque_steal1 []) H) (K (.lit (.nilFunc)) H)) (K (.lit (.nilFunc)) H)))) : ∃ r H1, Good Try.prog σ n_deque_steps [a0, a1] H r H1 ∧ K r H1 :=
  good_of_wp (CX σ [] known_nil) mixed 0 (fn := Try.f27) (f := n_deque_steps) (c := deque_steps.code) (fnT_ok 27 _ (by kernel_rfl)).1 (by kernel_rfl) (fnT_ok 27 _ (by kernel_rfl)).2 (Eq.mpr (by kernel_rfl) h)
noncomputable def deque_push1.code : Code := bodyOf Try.f31
theorem deque_push1.run {a0 : AV} {H : Hp} {K : AV → Hp → Prop} (h : callK Try.prog σ n_deque_operation_readBottom [a0] H fun x1 H2 => bnd (nilR a0) fun x3 => bnd (shiftA x3 4) fun x4 => bnd (stA 1 H2 x4 x1) fun H5 => K (.fn n_deque_push2 []) H5) : ∃ r H1, Good Try.prog σ n_deque_push1 [a0] H r H1 ∧ K r H1 :=
  good_of_wp (CX σ [] known_nil) mixed 0 (fn := Try.f31) (f := n_deque_push1) (c := deque_push1.code) (fnT_ok 31 _ (by kernel_rfl)).1 (by kernel_rfl) (fnT_ok 31 _ (by kernel_rfl)).2 (Eq.mpr (by kernel_rfl) h)
noncomputable def deque_pop1.code : Code := bodyOf Try.f32
theorem deque_pop1.run {a0 : AV} {H : Hp} {K : AV → Hp → Prop} (h : callK Try.prog σ n_deque_operation_readBottom [a0] H fun x1 H2 => bnd (binR .sub x1 (.lit (.int .i64 1))) fun x3 => bnd (nilR a0) fun x4 => bnd (shiftA x4 4) fun x5 => bnd (stA 1 H2 x5 x3) fun H6 => K (.fn n_deque_pop2 []) H6) : ∃ r H1, Good Try.prog σ n_deque_pop1 [a0] H r H1 ∧ K r H1 :=
  good_of_wp (CX σ [] known_nil) mixed 0 (fn := Try.f32) (f := n_deque_pop1) (c := deque_pop1.code) (fnT_ok 32 _ (by kernel_rfl)).1 (by kernel_rfl) (fnT_ok 32 _ (by kernel_rfl)).2 (Eq.mpr (by kernel_rfl) h)
noncomputable def deque_steal1.code : Code := bodyOf Try.f33
theorem deque_steal1.run {a0 : AV} {H : Hp} {K : AV → Hp → Prop} (h : callK Try.prog σ n_deque_operation_readTop [a0] H fun x1 H2 => bnd (nilR a0) fun x3 => bnd (shiftA x3 3) fun x4 => bnd (stA 1 H2 x4 x1) fun H5 => K (.fn n_deque_steal2 []) H5) : ∃ r H1, Good Try.prog σ n_deque_steal1 [a0] H r H1 ∧ K r H1 :=
  good_of_wp (CX σ [] known_nil) mixed 0 (fn := Try.f33) (f := n_deque_steal1) (c := deque_steal1.code) (fnT_ok 33 _ (by kernel_rfl)).1 (by kernel_rfl) (fnT_ok 33 _ (by kernel_rfl)).2 (Eq.mpr (by kernel_rfl) h)
noncomputable def deque_operation_readBottom.code : Code := bodyOf Try.f37
theorem deque_operation_readBottom.run {a0 : AV} {H : Hp} {K : AV → Hp → Prop} (h : callK Try.prog σ n_deque_operation_access [a0, (.lit (.int .i64 (-1001))), (.lit (.bool false))] H fun x1 H2 => bnd (nilR a0) fun x3 => bnd (shiftA x3 0) fun x4 => bnd (ldA false 1 H2 x4) fun x5 => bnd (nilR x5) fun x6 => bnd (shiftA x6 2) fun x7 => bnd (ldA false 1 H2 x7) fun x8 => K x8 H2) : ∃ r H1, Good Try.prog σ n_deque_operation_readBottom [a0] H r H1 ∧ K r H1 :=
  good_of_wp (CX σ [] known_nil) mixed 0 (fn := Try.f37) (f := n_deque_operation_readBottom) (c := deque_operation_readBottom.code) (fnT_ok 37 _ (by kernel_rfl)).1 (by kernel_rfl) (fnT_ok 37 _ (by kernel_rfl)).2 (Eq.mpr (by kernel_rfl) h)
noncomputable def deque_push2.code : Code := bodyOf Try.f38
theorem deque_push2.run {a0 : AV} {H : Hp} {K : AV → Hp → Prop} (h : callK Try.prog σ n_deque_operation_readTop [a0] H fun x1 H2 => bnd (nilR a0) fun x3 => bnd (shiftA x3 3) fun x4 => bnd (stA 1 H2 x4 x1) fun H5 => bnd (nilR a0) fun x6 => bnd (shiftA x6 4) fun x7 => bnd (ldA false 1 H5 x7) fun x8 => bnd (nilR a0) fun x9 => bnd (shiftA x9 3) fun x10 => bnd (ldA false 1 H5 x10) fun x11 => bnd (binR .sub x8 x11) fun x12 => bnd (nilR a0) fun x13 => bnd (shiftA x13 0) fun x14 => bnd (ldA false 1 H5 x14) fun x15 => bnd (nilR x15) fun x16 => bnd (shiftA x16 0) fun x17 => bnd (ldA false 1 H5 x17) fun x18 => bnd (lenSl x18) fun x19 => bnd (binR .eql x12 x19) fun x20 => ifB x20 (K (.lit (.nilFunc)) H5) (K (.fn n_deque_push3 []) H5)) : ∃ r H1, Good Try.prog σ n_deque_push2 [a0] H r H1 ∧ K r H1 :=
  good_of_wp (CX σ [] known_nil) mixed 0 (fn := Try.f38) (f := n_deque_push2) (c := deque_push2.code) (fnT_ok 38 _ (by kernel_rfl)).1 (by kernel_rfl) (fnT_ok 38 _ (by kernel_rfl)).2 (Eq.mpr (by kernel_rfl) h)
noncomputable def deque_pop2.code : Code := bodyOf Try.f39
theorem deque_pop2.run {a0 : AV} {H : Hp} {K : AV → Hp → Prop} (h : bnd (nilR a0) fun x1 => bnd (shiftA x1 4) fun x2 => bnd (ldA false 1 H x2) fun x3 => callK Try.prog σ n_deque_operation_writeBottom [a0, x3] H fun x4 H5 => K (.fn n_deque_pop3 []) H5) : ∃ r H1, Good Try.prog σ n_deque_pop2 [a0] H r H1 ∧ K r H1 :=
  good_of_wp (CX σ [] known_nil) mixed 0 (fn := Try.f39) (f := n_deque_pop2) (c := deque_pop2.code) (fnT_ok 39 _ (by kernel_rfl)).1 (by kernel_rfl) (fnT_ok 39 _ (by kernel_rfl)).2 (Eq.mpr (by kernel_rfl) h)
noncomputable def deque_operation_readTop.code : Code := bodyOf Try.f40
theorem deque_operation_readTop.run {a0 : AV} {H : Hp} {K : AV → Hp → Prop} (h : callK Try.prog σ n_deque_operation_access [a0, (.lit (.int .i64 (-1000))), (.lit (.bool false))] H fun x1 H2 => bnd (nilR a0) fun x3 => bnd (shiftA x3 0) fun x4 => bnd (ldA false 1 H2 x4) fun x5 => bnd (nilR x5) fun x6 => bnd (shiftA x6 1) fun x7 => bnd (ldA false 1 H2 x7) fun x8 => K x8 H2) : ∃ r H1, Good Try.prog σ n_deque_operation_readTop [a0] H r H1 ∧ K r H1 :=
  good_of_wp (CX σ [] known_nil) mixed 0 (fn := Try.f40) (f := n_deque_operation_readTop) (c := deque_operation_readTop.code) (fnT_ok 40 _ (by kernel_rfl)).1 (by kernel_rfl) (fnT_ok 40 _ (by kernel_rfl)).2 (Eq.mpr (by kernel_rfl) h)
noncomputable def deque_steal2.code : Code := bodyOf Try.f41
theorem deque_steal2.run {a0 : AV} {H : Hp} {K : AV → Hp → Prop} (h : callK Try.prog σ n_deque_operation_readBottom [a0] H fun x1 H2 => bnd (nilR a0) fun x3 => bnd (shiftA x3 4) fun x4 => bnd (stA 1 H2 x4 x1) fun H5 => bnd (nilR a0) fun x6 => bnd (shiftA x6 3) fun x7 => bnd (ldA false 1 H5 x7) fun x8 => bnd (nilR a0) fun x9 => bnd (shiftA x9 4) fun x10 => bnd (ldA false 1 H5 x10) fun x11 => bnd (binR .geq x8 x11) fun x12 => ifB x12 (K (.lit (.nilFunc)) H5) (K (.fn n_deque_steal3 []) H5)) : ∃ r H1, Good Try.prog σ n_deque_steal2 [a0] H r H1 ∧ K r H1 :=
  good_of_wp (CX σ [] known_nil) mixed 0 (fn := Try.f41) (f := n_deque_steal2) (c := deque_steal2.code) (fnT_ok 41 _ (by kernel_rfl)).1 (by kernel_rfl) (fnT_ok 41 _ (by kernel_rfl)).2 (Eq.mpr (by kernel_rfl) h)
noncomputable def deque_operation_access.code : Code := bodyOf Try.f42
theorem deque_operation_access.run {a0 a1 a2 : AV} {H : Hp} {K : AV → Hp → Prop} (h : bnd (nilR a0) fun x1 => bnd (shiftA x1 0) fun x2 => bnd (ldA false 1 H x2) fun x3 => bnd (nilR a0) fun x4 => bnd (shiftA x4 1) fun x5 => bnd (ldA false 1 H x5) fun x6 => bnd (bldR [.lit (.int .i64 0), .lit (.int .i64 0), .lit (.bool false), .lit (.bool false)] [(0, 1, x6), (1, 1, a1), (2, 1, a2), (3, 1, (.lit (.bool true)))]) fun l7 => bnd (nilR x3) fun x8 => bnd (shiftA x8 68) fun x9 => bnd (stA 4 H x9 (.agg l7)) fun H10 => K (.tup []) H10) : ∃ r H1, Good Try.prog σ n_deque_operation_access [a0, a1, a2] H r H1 ∧ K r H1 :=
  good_of_wp (CX σ [] known_nil) mixed 0 (fn := Try.f42) (f := n_deque_operation_access) (c := deque_operation_access.code) (fnT_ok 42 _ (by kernel_rfl)).1 (by kernel_rfl) (fnT_ok 42 _ (by kernel_rfl)).2 (Eq.mpr (by kernel_rfl) h)
noncomputable def deque_push3.code : Code := bodyOf Try.f43
theorem deque_push3.run {a0 : AV} {H : Hp} {K : AV → Hp → Prop} (h : bnd (nilR a0) fun x1 => bnd (shiftA x1 4) fun x2 => bnd (ldA false 1 H x2) fun x3 => callK Try.prog σ n_deque_operation_at [a0, x3] H fun x4 H5 => bnd (binR .sub (.lit (.int .i64 (-1002))) x4) fun x6 => callK Try.prog σ n_deque_operation_access [a0, x6, (.lit (.bool true))] H5 fun x7 H8 => bnd (nilR a0) fun x9 => bnd (shiftA x9 0) fun x10 => bnd (ldA false 1 H8 x10) fun x11 => bnd (nilR x11) fun x12 => bnd (shiftA x12 0) fun x13 => bnd (ldA false 1 H8 x13) fun x14 => bnd (nilR a0) fun x15 => bnd (shiftA x15 4) fun x16 => bnd (ldA false 1 H8 x16) fun x17 => callK Try.prog σ n_deque_operation_at [a0, x17] H8 fun x18 H19 => kpK (x13, some 1) H8 H19 (kpK (x10, some 1) H8 H19 (bnd (nilR a0) fun x20 => bnd (shiftA x20 2) fun x21 => kpK (x21, some 1) H8 H19 (bnd (ldA false 1 H19 x21) fun x22 => bnd (ixaSl 1 x14 x18) fun x23 => bnd (stA 1 H19 x23 x22) fun H24 => K (.fn n_deque_push4 []) H24)))) : ∃ r H1, Good Try.prog σ n_deque_push3 [a0] H r H1 ∧ K r H1 :=
  good_of_wp (CX σ [] known_nil) mixed 0 (fn := Try.f43) (f := n_deque_push3) (c := deque_push3.code) (fnT_ok 43 _ (by kernel_rfl)).1 (by kernel_rfl) (fnT_ok 43 _ (by kernel_rfl)).2 (Eq.mpr (by kernel_rfl) h)
noncomputable def deque_operation_writeBottom.code : Code := bodyOf Try.f44
theorem deque_operation_writeBottom.run {a0 a1 : AV} {H : Hp} {K : AV → Hp → Prop} (h : callK Try.prog σ n_deque_operation_access [a0, (.lit (.int .i64 (-1001))), (.lit (.bool true))] H fun x1 H2 => bnd (nilR a0) fun x3 => bnd (shiftA x3 0) fun x4 => bnd (ldA false 1 H2 x4) fun x5 => bnd (nilR x5) fun x6 => bnd (shiftA x6 2) fun x7 => bnd (stA 1 H2 x7 a1) fun H8 => K (.tup []) H8) : ∃ r H1, Good Try.prog σ n_deque_operation_writeBottom [a0, a1] H r H1 ∧ K r H1 :=
  good_of_wp (CX σ [] known_nil) mixed 0 (fn := Try.f44) (f := n_deque_operation_writeBottom) (c := deque_operation_writeBottom.code) (fnT_ok 44 _ (by kernel_rfl)).1 (by kernel_rfl) (fnT_ok 44 _ (by kernel_rfl)).2 (Eq.mpr (by kernel_rfl) h)
noncomputable def deque_pop3.code : Code := bodyOf Try.f45
theorem deque_pop3.run {a0 : AV} {H : Hp} {K : AV → Hp → Prop} (h : callK Try.prog σ n_deque_operation_readTop [a0] H fun x1 H2 => bnd (nilR a0) fun x3 => bnd (shiftA x3 3) fun x4 => bnd (stA 1 H2 x4 x1) fun H5 => bnd (nilR a0) fun x6 => bnd (shiftA x6 3) fun x7 => bnd (ldA false 1 H5 x7) fun x8 => bnd (nilR a0) fun x9 => bnd (shiftA x9 4) fun x10 => bnd (ldA false 1 H5 x10) fun x11 => bnd (binR .gtr x8 x11) fun x12 => ifB x12 (K (.fn n_deque_pop6 []) H5) (K (.fn n_deque_pop4 []) H5)) : ∃ r H1, Good Try.prog σ n_deque_pop3 [a0] H r H1 ∧ K r H1 :=
  good_of_wp (CX σ [] known_nil) mixed 0 (fn := Try.f45) (f := n_deque_pop3) (c := deque_pop3.code) (fnT_ok 45 _ (by kernel_rfl)).1 (by kernel_rfl) (fnT_ok 45 _ (by kernel_rfl)).2 (Eq.mpr (by kernel_rfl) h)
noncomputable def deque_steal3.code : Code := bodyOf Try.f46
theorem deque_steal3.run {a0 : AV} {H : Hp} {K : AV → Hp → Prop} (h : bnd (nilR a0) fun x1 => bnd (shiftA x1 3) fun x2 => bnd (ldA false 1 H x2) fun x3 => callK Try.prog σ n_deque_operation_read [a0, x3] H fun x4 H5 => K (.fn n_deque_steal4 []) H5) : ∃ r H1, Good Try.prog σ n_deque_steal3 [a0] H r H1 ∧ K r H1 :=
  good_of_wp (CX σ [] known_nil) mixed 0 (fn := Try.f46) (f := n_deque_steal3) (c := deque_steal3.code) (fnT_ok 46 _ (by kernel_rfl)).1 (by kernel_rfl) (fnT_ok 46 _ (by kernel_rfl)).2 (Eq.mpr (by kernel_rfl) h)
noncomputable def deque_operation_at.code : Code := bodyOf Try.f47
theorem deque_operation_at.run {a0 a1 : AV} {H : Hp} {K : AV → Hp → Prop} (h : bnd (nilR a0) fun x1 => bnd (shiftA x1 0) fun x2 => bnd (ldA false 1 H x2) fun x3 => bnd (nilR x3) fun x4 => bnd (shiftA x4 0) fun x5 => bnd (ldA false 1 H x5) fun x6 => bnd (lenSl x6) fun x7 => bnd (binR .rem a1 x7) fun x8 => K x8 H) : ∃ r H1, Good Try.prog σ n_deque_operation_at [a0, a1] H r H1 ∧ K r H1 :=
  good_of_wp (CX σ [] known_nil) mixed 0 (fn := Try.f47) (f := n_deque_operation_at) (c := deque_operation_at.code) (fnT_ok 47 _ (by kernel_rfl)).1 (by kernel_rfl) (fnT_ok 47 _ (by kernel_rfl)).2 (Eq.mpr (by kernel_rfl) h)
noncomputable def deque_push4.code : Code := bodyOf Try.f48
theorem deque_push4.run {a0 : AV} {H : Hp} {K : AV → Hp → Prop} (h : bnd (nilR a0) fun x1 => bnd (shiftA x1 4) fun x2 => bnd (ldA false 1 H x2) fun x3 => bnd (binR .add x3 (.lit (.int .i64 1))) fun x4 => callK Try.prog σ n_deque_operation_writeBottom [a0, x4] H fun x5 H6 => bnd (nilR a0) fun x7 => bnd (shiftA x7 5) fun x8 => bnd (stA 1 H6 x8 (.lit (.bool true))) fun H9 => K (.lit (.nilFunc)) H9) : ∃ r H1, Good Try.prog σ n_deque_push4 [a0] H r H1 ∧ K r H1 :=
  good_of_wp (CX σ [] known_nil) mixed 0 (fn := Try.f48) (f := n_deque_push4) (c := deque_push4.code) (fnT_ok 48 _ (by kernel_rfl)).1 (by kernel_rfl) (fnT_ok 48 _ (by kernel_rfl)).2 (Eq.mpr (by kernel_rfl) h)
noncomputable def deque_pop6.code : Code := bodyOf Try.f49
theorem deque_pop6.run {a0 : AV} {H : Hp} {K : AV → Hp → Prop} (h : bnd (nilR a0) fun x1 => bnd (shiftA x1 4) fun x2 => bnd (ldA false 1 H x2) fun x3 => bnd (binR .add x3 (.lit (.int .i64 1))) fun x4 => callK Try.prog σ n_deque_operation_writeBottom [a0, x4] H fun x5 H6 => K (.lit (.nilFunc)) H6) : ∃ r H1, Good Try.prog σ n_deque_pop6 [a0] H r H1 ∧ K r H1 :=
  good_of_wp (CX σ [] known_nil) mixed 0 (fn := Try.f49) (f := n_deque_pop6) (c := deque_pop6.code) (fnT_ok 49 _ (by kernel_rfl)).1 (by kernel_rfl) (fnT_ok 49 _ (by kernel_rfl)).2 (Eq.mpr (by kernel_rfl) h)
noncomputable def deque_pop4.code : Code := bodyOf Try.f50
theorem deque_pop4.run {a0 : AV} {H : Hp} {K : AV → Hp → Prop} (h : bnd (nilR a0) fun x1 => bnd (shiftA x1 4) fun x2 => bnd (ldA false 1 H x2) fun x3 => callK Try.prog σ n_deque_operation_read [a0, x3] H fun x4 H5 => bnd (nilR a0) fun x6 => bnd (shiftA x6 3) fun x7 => bnd (ldA false 1 H5 x7) fun x8 => bnd (nilR a0) fun x9 => bnd (shiftA x9 4) fun x10 => bnd (ldA false 1 H5 x10) fun x11 => bnd (binR .lss x8 x11) fun x12 => ifB x12 (bnd (nilR a0) fun x13 => bnd (shiftA x13 5) fun x14 => bnd (stA 1 H5 x14 (.lit (.bool true))) fun H15 => K (.lit (.nilFunc)) H15) (K (.fn n_deque_pop5 []) H5)) : ∃ r H1, Good Try.prog σ n_deque_pop4 [a0] H r H1 ∧ K r H1 :=
  good_of_wp (CX σ [] known_nil) mixed 0 (fn := Try.f50) (f := n_deque_pop4) (c := deque_pop4.code) (fnT_ok 50 _ (by kernel_rfl)).1 (by kernel_rfl) (fnT_ok 50 _ (by kernel_rfl)).2 (Eq.mpr (by kernel_rfl) h)
noncomputable def deque_operation_read.code : Code := bodyOf Try.f51
theorem deque_operation_read.run {a0 a1 : AV} {H : Hp} {K : AV → Hp → Prop} (h : callK Try.prog σ n_deque_operation_at [a0, a1] H fun x1 H2 => bnd (binR .sub (.lit (.int .i64 (-1002))) x1) fun x3 => callK Try.prog σ n_deque_operation_access [a0, x3, (.lit (.bool false))] H2 fun x4 H5 => bnd (nilR a0) fun x6 => bnd (shiftA x6 0) fun x7 => bnd (ldA false 1 H5 x7) fun x8 => bnd (nilR x8) fun x9 => bnd (shiftA x9 0) fun x10 => bnd (ldA false 1 H5 x10) fun x11 => callK Try.prog σ n_deque_operation_at [a0, a1] H5 fun x12 H13 => kpK (x10, some 1) H5 H13 (kpK (x7, some 1) H5 H13 (bnd (ixaSl 1 x11 x12) fun x14 => bnd (ldA false 1 H13 x14) fun x15 => bnd (nilR a0) fun x16 => bnd (shiftA x16 2) fun x17 => bnd (stA 1 H13 x17 x15) fun H18 => K (.tup []) H18))) : ∃ r H1, Good Try.prog σ n_deque_operation_read [a0, a1] H r H1 ∧ K r H1 :=
  good_of_wp (CX σ [] known_nil) mixed 0 (fn := Try.f51) (f := n_deque_operation_read) (c := deque_operation_read.code) (fnT_ok 51 _ (by kernel_rfl)).1 (by kernel_rfl) (fnT_ok 51 _ (by kernel_rfl)).2 (Eq.mpr (by kernel_rfl) h)
noncomputable def deque_steal4.code : Code := bodyOf Try.f52
theorem deque_steal4.run {a0 : AV} {H : Hp} {K : AV → Hp → Prop} (h : callK Try.prog σ n_deque_operation_takeTop [a0] H fun x1 H2 => bnd (nilR a0) fun x3 => bnd (shiftA x3 5) fun x4 => bnd (stA 1 H2 x4 x1) fun H5 => K (.lit (.nilFunc)) H5) : ∃ r H1, Good Try.prog σ n_deque_steal4 [a0] H r H1 ∧ K r H1 :=
  good_of_wp (CX σ [] known_nil) mixed 0 (fn := Try.f52) (f := n_deque_steal4) (c := deque_steal4.code) (fnT_ok 52 _ (by kernel_rfl)).1 (by kernel_rfl) (fnT_ok 52 _ (by kernel_rfl)).2 (Eq.mpr (by kernel_rfl) h)
noncomputable def deque_pop5.code : Code := bodyOf Try.f53
theorem deque_pop5.run {a0 : AV} {H : Hp} {K : AV → Hp → Prop} (h : callK Try.prog σ n_deque_operation_takeTop [a0] H fun x1 H2 => bnd (nilR a0) fun x3 => bnd (shiftA x3 5) fun x4 => bnd (stA 1 H2 x4 x1) fun H5 => K (.fn n_deque_pop6 []) H5) : ∃ r H1, Good Try.prog σ n_deque_pop5 [a0] H r H1 ∧ K r H1 :=
  good_of_wp (CX σ [] known_nil) mixed 0 (fn := Try.f53) (f := n_deque_pop5) (c := deque_pop5.code) (fnT_ok 53 _ (by kernel_rfl)).1 (by kernel_rfl) (fnT_ok 53 _ (by kernel_rfl)).2 (Eq.mpr (by kernel_rfl) h)
noncomputable def deque_operation_takeTop.code : Code := bodyOf Try.f54
theorem deque_operation_takeTop.run {a0 : AV} {H : Hp} {K : AV → Hp → Prop} (h : callK Try.prog σ n_deque_operation_access [a0, (.lit (.int .i64 (-1000))), (.lit (.bool true))] H fun x1 H2 => bnd (nilR a0) fun x3 => bnd (shiftA x3 0) fun x4 => bnd (ldA false 1 H2 x4) fun x5 => bnd (nilR x5) fun x6 => bnd (shiftA x6 1) fun x7 => bnd (ldA false 1 H2 x7) fun x8 => bnd (nilR a0) fun x9 => bnd (shiftA x9 3) fun x10 => bnd (ldA false 1 H2 x10) fun x11 => bnd (binR .neq x8 x11) fun x12 => ifB x12 (K (.lit (.bool false)) H2) (bnd (nilR a0) fun x13 => bnd (shiftA x13 0) fun x14 => bnd (ldA false 1 H2 x14) fun x15 => bnd (nilR x15) fun x16 => bnd (shiftA x16 1) fun x17 => bnd (ldA false 1 H2 x17) fun x18 => bnd (binR .add x18 (.lit (.int .i64 1))) fun x19 => bnd (nilR x15) fun x20 => bnd (shiftA x20 1) fun x21 => bnd (stA 1 H2 x21 x19) fun H22 => K (.lit (.bool true)) H22)) : ∃ r H1, Good Try.prog σ n_deque_operation_takeTop [a0] H r H1 ∧ K r H1 :=
  good_of_wp (CX σ [] known_nil) mixed 0 (fn := Try.f54) (f := n_deque_operation_takeTop) (c := deque_operation_takeTop.code) (fnT_ok 54 _ (by kernel_rfl)).1 (by kernel_rfl) (fnT_ok 54 _ (by kernel_rfl)).2 (Eq.mpr (by kernel_rfl) h)
end Go.Proofs.Ytnloolhaojoimaa.Ev
namespace Go.Proofs.Ytnloolhaojoimaa.Ev
set_option linter.unusedVariables false
set_option linter.unusedSimpArgs false
variable {σ : Sig}
@[simp] theorem st_fn (H : Hp) (id off f : Nat) (cs : List AV) : stA 1 H (.ptr id off) (.fn f cs) = stO 1 off [.fn f cs] H id (H.get id) := st_ptr 1 H id off _ rfl rfl
@[simp] theorem st_nf (H : Hp) (id off : Nat) : stA 1 H (.ptr id off) (.lit .nilFunc) = stO 1 off [.lit .nilFunc] H id (H.get id) := st_ptr 1 H id off _ rfl rfl
@[simp] theorem e_fn1 (f : Nat) (cs : List AV) : eqFnR .eql (.fn f cs) (.lit .nilFunc) = some (Bo false) := rfl
@[simp] theorem e_fn2 : eqFnR .eql (.lit .nilFunc) (.lit .nilFunc) = some (Bo true) := rfl
@[simp] theorem e_fn3 (f : Nat) (cs : List AV) : eqFnR .neq (.fn f cs) (.lit .nilFunc) = some (Bo true) := rfl
@[simp] theorem e_fn4 : eqFnR .neq (.lit .nilFunc) (.lit .nilFunc) = some (Bo false) := rfl
@[simp] theorem callV_fn (P : Program) (σ : Sig) (g : Nat) (cs xs : List AV) (H : Hp) (K : AV → Hp → Prop) : callV P σ (.fn g cs) xs H K = callK P σ g (xs ++ cs) H K := rfl
structure O where
  id : Nat
  x : Int
  t : Int
  b : Int
  ok : Bool
  nx : AV
structure S where
  ip : Nat
  pl : List Int
  top : Int
  bot : Int
  op : Nat → Option O
  lw : Int
  lc : Int
  lr : Bool
  la : Bool
def encO : Option O → AV
  | none => .lit (.pointer none)
  | some o => .ptr o.id 0
def opl (f : Nat → Option O) : List AV := (List.range 65).map fun w => encO (f w)
def lsc (s : S) : List AV := [I s.lw, I s.lc, Bo s.lr, Bo s.la]
def hdc (s : S) : List AV := [.sl s.ip 0 1 s.pl.length (some s.pl.length), I s.top, I s.bot]
def dqc (s : S) : List AV := hdc s ++ (opl s.op ++ lsc s)
def opc (d w : Nat) (o : O) : List AV := [.ptr d 0, I w, I o.x, I o.t, I o.b, Bo o.ok, o.nx]
def upd (f : Nat → Option O) (w : Nat) (o : Option O) : Nat → Option O := fun i => if i = w then o else f i
@[simp] theorem upd_same (f : Nat → Option O) (w : Nat) (o : Option O) : upd f w o w = o := by simp [upd]
@[simp] theorem upd_ne (f : Nat → Option O) {w i : Nat} (o : Option O) (h : i ≠ w) : upd f w o i = f i := by simp [upd, h]
theorem opl_len (f : Nat → Option O) : (opl f).length = 65 := by simp [opl]
theorem dqc_len (s : S) : (dqc s).length = 72 := by simp [dqc, hdc, lsc, opl_len]
theorem opl_drop (f : Nat → Option O) {w : Nat} (h : w < 65) : ∃ r, (opl f).drop w = encO (f w) :: r := by
  have hl : w < (opl f).length := by rw [opl_len]; exact h
  refine ⟨(opl f).drop (w + 1), ?_⟩
  rw [List.drop_eq_getElem_cons hl]
  congr 1
  simp [opl]
theorem dq_0 (s : S) : ldL false 1 (dqc s) = some (.sl s.ip 0 1 s.pl.length (some s.pl.length)) := rfl
theorem dq_1' (s : S) : ldL false 1 (dqc s).tail = some (I s.top) := rfl
theorem dq_2 (s : S) : ldL false 1 ((dqc s).drop 2) = some (I s.bot) := rfl
theorem dq_op (s : S) {w : Nat} (h : w < 65) : ldL false 1 ((dqc s).drop (3 + w)) = some (encO (s.op w)) := by
  obtain ⟨r, hr⟩ := opl_drop s.op h
  have : (dqc s).drop (3 + w) = encO (s.op w) :: (r ++ lsc s) := by
    rw [← List.drop_drop]
    show (opl s.op ++ lsc s).drop w = _
    rw [List.drop_append_of_le_length (by rw [opl_len]; omega), hr]; rfl
  rw [this]; simp
theorem dq_last (s : S) : ldL true 4 ((dqc s).drop 68) = some (.agg (lsc s)) := by
  have : (dqc s).drop 68 = lsc s := by
    rw [show 68 = 3 + 65 from rfl, ← List.drop_drop]
    show (opl s.op ++ lsc s).drop 65 = _
    rw [List.drop_append_of_le_length (by rw [opl_len]; omega), List.drop_eq_nil_of_le (by rw [opl_len]; omega)]; rfl
  rw [this]; rfl
theorem dq_s1 (s : S) (v : Int) : overlay (dqc s) 1 [I v] = dqc { s with top := v } := by simp [dqc, hdc, lsc]
theorem dq_s2 (s : S) (v : Int) : overlay (dqc s) 2 [I v] = dqc { s with bot := v } := by simp [dqc, hdc, lsc]
theorem ov_set {cs : List AV} {k : Nat} {x : AV} (h : k < cs.length) : overlay cs k [x] = cs.set k x := by
  induction cs generalizing k with
  | nil => simp at h
  | cons c cs ih =>
    cases k with
    | zero => simp
    | succ k => simp; exact ih (by simpa using h)
theorem dq_sop (s : S) {w : Nat} (h : w < 65) (o : Option O) : overlay (dqc s) (3 + w) [encO o] = dqc { s with op := upd s.op w o } := by
  rw [ov_set (by rw [dqc_len]; omega)]
  have e : (opl s.op).set w (encO o) = opl (upd s.op w o) := by
    apply List.ext_getElem
    · simp [opl]
    · intro i h1 h2
      simp only [List.getElem_set, opl, List.getElem_map, List.getElem_range]
      by_cases hi : w = i
      · subst hi; simp
      · rw [if_neg hi, upd_ne _ _ (Ne.symm hi)]
  show (hdc s ++ (opl s.op ++ lsc s)).set (3 + w) (encO o) = hdc s ++ (opl (upd s.op w o) ++ lsc s)
  rw [List.set_append_right _ _ (by simp [hdc]), List.set_append_left _ _ (by simp [hdc, opl_len]; omega), ← e]
  simp [hdc]
theorem dq_slast (s : S) (w c : Int) (r a : Bool) : overlay (dqc s) 68 [I w, I c, Bo r, Bo a] = dqc { s with lw := w, lc := c, lr := r, la := a } := by
  have h1 : (dqc s).take 68 = hdc s ++ opl s.op := by
    show (hdc s ++ (opl s.op ++ lsc s)).take 68 = _
    rw [← List.append_assoc, List.take_append_of_le_length (by simp [hdc, opl_len]), List.take_of_length_le (by simp [hdc, opl_len])]
  unfold overlay
  rw [h1, List.drop_eq_nil_of_le (by rw [dqc_len]; simp)]
  simp [dqc, hdc, lsc]
structure Dq (H : Hp) (d : Nat) (s : S) : Prop where
  hd : H.get d = some (.cells (dqc s) true)
  hp : H.get s.ip = some (.cells (s.pl.map I) true)
  ho : ∀ w o, w < 65 → s.op w = some o → H.get o.id = some (.cells (opc d w o) true) ∧ o.id < H.n ∧ o.id ≠ d ∧ o.id ≠ s.ip
  hi : ∀ w w' o o', w < 65 → w' < 65 → s.op w = some o → s.op w' = some o' → o.id = o'.id → w = w'
  dl : d < H.n
  pl : s.ip < H.n
  dp : d ≠ s.ip
structure Fd (d : Nat) (s : S) (H H' : Hp) : Prop where
  n : H'.n = H.n
  g : ∀ j, j ≠ d → j ≠ s.ip → (∀ w o, w < 65 → s.op w = some o → j ≠ o.id) → H'.get j = H.get j
theorem Fd.refl {d : Nat} {s : S} {H : Hp} : Fd d s H H := ⟨rfl, fun _ _ _ _ => rfl⟩
theorem Fd.trans {d : Nat} {s s' : S} {H H' H'' : Hp} (h : Fd d s H H') (h' : Fd d s' H' H'') (hi : s'.ip = s.ip) (ho : ∀ w o', s'.op w = some o' → ∃ o, s.op w = some o ∧ o.id = o'.id) : Fd d s H H'' :=
  ⟨h'.n.trans h.n, fun j h1 h2 h3 => (h'.g j h1 (by rw [hi]; exact h2) fun w o' hw hs => by
    obtain ⟨o, ho, e⟩ := ho w o' hs
    rw [← e]; exact h3 w o hw ho).trans (h.g j h1 h2 h3)⟩
theorem Dq.setD {H : Hp} {d : Nat} {s s' : S} (h : Dq H d s) (e1 : s'.ip = s.ip) (e2 : s'.pl = s.pl) (e3 : s'.op = s.op) : Dq (H.set d (some (.cells (dqc s') true))) d s' := by
  refine ⟨by simp, ?_, ?_, ?_, by simpa using h.dl, by rw [e1]; simpa using h.pl, by rw [e1]; exact h.dp⟩
  · rw [e1, e2]; simp [Ne.symm h.dp]; exact h.hp
  · intro w o hw ho
    rw [e3] at ho
    obtain ⟨a, b, c, e⟩ := h.ho w o hw ho
    exact ⟨by simp [c]; exact a, by simpa using b, c, by rw [e1]; exact e⟩
  · intro w w' o o' hw hw' ho ho'
    rw [e3] at ho ho'
    exact h.hi w w' o o' hw hw' ho ho'
theorem Fd.setD {H : Hp} {d : Nat} {s : S} {b : Option Blk} : Fd d s H (H.set d b) := ⟨by simp, fun j h1 _ _ => by simp [h1]⟩
theorem Dq.setO {H : Hp} {d w : Nat} {s : S} {o o' : O} (h : Dq H d s) (hw : w < 65) (ho : s.op w = some o) (e : o'.id = o.id) : Dq (H.set o.id (some (.cells (opc d w o') true))) d { s with op := upd s.op w (some o') } := by
  obtain ⟨_, hl, hnd, hnp⟩ := h.ho w o hw ho
  have hd' : dqc { s with op := upd s.op w (some o') } = dqc s := by
    rw [← dq_sop s hw (some o'), show encO (some o') = encO (s.op w) by rw [ho]; simp [encO, e]]
    rw [ov_set (by rw [dqc_len]; omega)]
    obtain ⟨r, hr⟩ := opl_drop s.op hw
    apply List.ext_getElem (by simp)
    intro i h1 h2
    rw [List.getElem_set]
    split
    · rename_i hi
      subst hi
      have := dq_op s hw
      rw [List.drop_eq_getElem_cons h2, ldL_one] at this
      exact (Option.some.inj this).symm
    · rfl
  refine ⟨?_, ?_, ?_, ?_, by simpa using h.dl, by simpa using h.pl, h.dp⟩
  · rw [hd']; simp [Ne.symm hnd]; exact h.hd
  · simp [Ne.symm hnp]; exact h.hp
  · intro w2 o2 hw2 ho2
    by_cases hww : w2 = w
    · subst hww
      simp at ho2
      subst ho2
      exact ⟨by simp [e], by simpa [e] using hl, by rw [e]; exact hnd, by rw [e]; exact hnp⟩
    · simp [hww] at ho2
      obtain ⟨a, b, c, f⟩ := h.ho w2 o2 hw2 ho2
      have : o2.id ≠ o.id := fun he => hww (h.hi w2 w o2 o hw2 hw ho2 ho he)
      exact ⟨by simp [this]; exact a, by simpa using b, c, f⟩
  · intro w1 w2 o1 o2 hw1 hw2 h1 h2 he
    have key : ∀ w1 o1, upd s.op w (some o') w1 = some o1 → ∃ oo, s.op w1 = some oo ∧ oo.id = o1.id := by
      intro w1 o1 h1
      by_cases hww : w1 = w
      · subst hww; simp at h1; subst h1; exact ⟨o, ho, e.symm⟩
      · simp [hww] at h1; exact ⟨o1, h1, rfl⟩
    obtain ⟨a, ha, ea⟩ := key w1 o1 h1
    obtain ⟨b, hb, eb⟩ := key w2 o2 h2
    exact h.hi w1 w2 a b hw1 hw2 ha hb (by rw [ea, eb, he])
theorem Fd.setO {H : Hp} {d w : Nat} {s : S} {o : O} {b : Option Blk} (hw : w < 65) (ho : s.op w = some o) : Fd d s H (H.set o.id b) := ⟨by simp, fun j _ _ h => by simp [h w o hw ho]⟩
theorem Dq.setP {H : Hp} {d : Nat} {s : S} {p : List Int} (h : Dq H d s) (e : p.length = s.pl.length) : Dq (H.set s.ip (some (.cells (p.map I) true))) d { s with pl := p } := by
  have hd' : dqc { s with pl := p } = dqc s := by simp [dqc, hdc, lsc, e]
  refine ⟨by rw [hd']; simp [h.dp]; exact h.hd, by simp, ?_, h.hi, by simpa using h.dl, by simpa using h.pl, h.dp⟩
  intro w o hw ho
  obtain ⟨a, b, c, f⟩ := h.ho w o hw ho
  exact ⟨by simp [f]; exact a, by simpa using b, c, f⟩
theorem Fd.setP {H : Hp} {d : Nat} {s : S} {b : Option Blk} : Fd d s H (H.set s.ip b) := ⟨by simp, fun j _ h _ => by simp [h]⟩
end Go.Proofs.Ytnloolhaojoimaa.Ev
namespace Go.Proofs.Ytnloolhaojoimaa.Ev
set_option linter.unusedVariables false
set_option linter.unusedSimpArgs false
variable {σ : Sig}
def acc (s : S) (w : Nat) (c : Int) (r : Bool) : S := { s with lw := w, lc := c, lr := r, la := true }
@[simp] theorem acc_pl (s : S) (w : Nat) (c : Int) (r : Bool) : (acc s w c r).pl = s.pl := rfl
@[simp] theorem acc_ip (s : S) (w : Nat) (c : Int) (r : Bool) : (acc s w c r).ip = s.ip := rfl
@[simp] theorem acc_op (s : S) (w : Nat) (c : Int) (r : Bool) : (acc s w c r).op = s.op := rfl
@[simp] theorem acc_top (s : S) (w : Nat) (c : Int) (r : Bool) : (acc s w c r).top = s.top := rfl
@[simp] theorem acc_bot (s : S) (w : Nat) (c : Int) (r : Bool) : (acc s w c r).bot = s.bot := rfl
@[simp] theorem op_0 (d w : Nat) (o : O) : ldL false 1 (opc d w o) = some (.ptr d 0) := rfl
@[simp] theorem op_1 (d w : Nat) (o : O) : ldL false 1 ((opc d w o).tail) = some (I w) := rfl
@[simp] theorem op_2 (d w : Nat) (o : O) : ldL false 1 ((opc d w o).drop 2) = some (I o.x) := rfl
@[simp] theorem op_3 (d w : Nat) (o : O) : ldL false 1 ((opc d w o).drop 3) = some (I o.t) := rfl
@[simp] theorem op_4 (d w : Nat) (o : O) : ldL false 1 ((opc d w o).drop 4) = some (I o.b) := rfl
@[simp] theorem op_5 (d w : Nat) (o : O) : ldL false 1 ((opc d w o).drop 5) = some (Bo o.ok) := rfl
@[simp] theorem op_6 (d w : Nat) (o : O) : ldL false 1 ((opc d w o).drop 6) = some o.nx := rfl
@[simp] theorem op_s2 (d w : Nat) (o : O) (v : Int) : overlay (opc d w o) 2 [I v] = opc d w { o with x := v } := by simp [opc]
@[simp] theorem op_s3 (d w : Nat) (o : O) (v : Int) : overlay (opc d w o) 3 [I v] = opc d w { o with t := v } := by simp [opc]
@[simp] theorem op_s4 (d w : Nat) (o : O) (v : Int) : overlay (opc d w o) 4 [I v] = opc d w { o with b := v } := by simp [opc]
@[simp] theorem op_s5 (d w : Nat) (o : O) (v : Bool) : overlay (opc d w o) 5 [Bo v] = opc d w { o with ok := v } := by simp [opc]
@[simp] theorem op_s6 (d w : Nat) (o : O) (v : AV) : overlay (opc d w o) 6 [v] = opc d w { o with nx := v } := by simp [opc]
@[simp] theorem op_len (d w : Nat) (o : O) : (opc d w o).length = 7 := rfl
@[simp] theorem dq_len (s : S) : (dqc s).length = 72 := dqc_len s
attribute [simp] dq_0 dq_1' dq_2 dq_last dq_s1 dq_s2 dq_slast
theorem bld_last (a b : Int) (c : Bool) : bldR [I 0, I 0, Bo false, Bo false] [(0, 1, I a), (1, 1, I b), (2, 1, Bo c), (3, 1, Bo true)] = some [I a, I b, Bo c, Bo true] := rfl
theorem access_sp {H : Hp} {d w : Nat} {s : S} {o : O} {c : Int} {r : Bool} {K : AV → Hp → Prop} (h : Dq H d s) (hw : w < 65) (ho : s.op w = some o)
    (hK : ∀ H', Dq H' d (acc s w c r) → Fd d s H H' → K (.tup []) H') : callK Try.prog σ n_deque_operation_access [.ptr o.id 0, I c, Bo r] H K := by
  refine deque_operation_access.run ?_
  obtain ⟨hg, _, _, _⟩ := h.ho w o hw ho
  simp [hg, bld_last, h.hd]
  exact hK _ (h.setD rfl rfl rfl) .setD
theorem at_sp {H : Hp} {d w : Nat} {s : S} {o : O} {k : Int} {K : AV → Hp → Prop} (h : Dq H d s) (hw : w < 65) (ho : s.op w = some o) (hn : s.pl.length ≠ 0)
    (hK : K (I (k.tmod s.pl.length)) H) : callK Try.prog σ n_deque_operation_at [.ptr o.id 0, I k] H K := by
  refine deque_operation_at.run ?_
  obtain ⟨hg, _, _, _⟩ := h.ho w o hw ho
  simp [hg, h.hd]
  rw [b_rem _ _ _ (by omega)]
  simpa using hK
theorem readB_sp {H : Hp} {d w : Nat} {s : S} {o : O} {K : AV → Hp → Prop} (h : Dq H d s) (hw : w < 65) (ho : s.op w = some o)
    (hK : ∀ H', Dq H' d (acc s w (-1001) false) → Fd d s H H' → K (I s.bot) H') : callK Try.prog σ n_deque_operation_readBottom [.ptr o.id 0] H K := by
  refine deque_operation_readBottom.run (access_sp h hw ho fun H' h' f => ?_)
  obtain ⟨hg, _, _, _⟩ := h'.ho w o hw ho
  simp [hg, h'.hd]
  exact hK _ h' f
theorem readT_sp {H : Hp} {d w : Nat} {s : S} {o : O} {K : AV → Hp → Prop} (h : Dq H d s) (hw : w < 65) (ho : s.op w = some o)
    (hK : ∀ H', Dq H' d (acc s w (-1000) false) → Fd d s H H' → K (I s.top) H') : callK Try.prog σ n_deque_operation_readTop [.ptr o.id 0] H K := by
  refine deque_operation_readTop.run (access_sp h hw ho fun H' h' f => ?_)
  obtain ⟨hg, _, _, _⟩ := h'.ho w o hw ho
  simp [hg, h'.hd]
  exact hK _ h' f
theorem Fd.tr {d : Nat} {s s' : S} {H H' H'' : Hp} (h : Fd d s H H') (h' : Fd d s' H' H'') (hi : s'.ip = s.ip) (ho : s'.op = s.op) : Fd d s H H'' :=
  h.trans h' hi fun w o' hs => ⟨o', by rw [← ho]; exact hs, rfl⟩
theorem writeB_sp {H : Hp} {d w : Nat} {s : S} {o : O} {v : Int} {K : AV → Hp → Prop} (h : Dq H d s) (hw : w < 65) (ho : s.op w = some o)
    (hK : ∀ H', Dq H' d { acc s w (-1001) true with bot := v } → Fd d s H H' → K (.tup []) H') : callK Try.prog σ n_deque_operation_writeBottom [.ptr o.id 0, I v] H K := by
  refine deque_operation_writeBottom.run (access_sp h hw ho fun H' h' f => ?_)
  obtain ⟨hg, _, _, _⟩ := h'.ho w o hw ho
  simp [hg, h'.hd]
  exact hK _ (h'.setD rfl rfl rfl) (f.tr .setD rfl rfl)
theorem take_sp {H : Hp} {d w : Nat} {s : S} {o : O} {K : AV → Hp → Prop} (h : Dq H d s) (hw : w < 65) (ho : s.op w = some o) (hb : wr .i64 (s.top + 1) = s.top + 1)
    (hK : ∀ H', Dq H' d { acc s w (-1000) true with top := if s.top = o.t then s.top + 1 else s.top } → Fd d s H H' → K (Bo (decide (s.top = o.t))) H') : callK Try.prog σ n_deque_operation_takeTop [.ptr o.id 0] H K := by
  refine deque_operation_takeTop.run (access_sp h hw ho fun H' h' f => ?_)
  obtain ⟨hg, _, _, _⟩ := h'.ho w o hw ho
  by_cases e : s.top = o.t
  · simp only [e, if_true, decide_true] at hK
    rw [e] at hb
    simp [hg, h'.hd, e, hb]
    exact hK _ (h'.setD rfl rfl rfl) (f.tr .setD rfl rfl)
  · simp only [e, if_false, decide_false] at hK
    simp [hg, h'.hd, e]
    exact hK _ h' f
theorem pl_ix {H : Hp} {s : S} {k : Int} (h0 : 0 ≤ k) (h1 : k < s.pl.length) : ixaSl 1 (.sl s.ip 0 1 s.pl.length (some s.pl.length)) (I k) = some (.ptr s.ip k.toNat) := by
  rw [ix_sl h0 h1]; simp
theorem pl_ld {l : List Int} {k : Nat} (h : k < l.length) : ldL false 1 ((l.map I).drop k) = some (I (l.getD k 0)) := by
  have hl : k < (l.map I).length := by simpa using h
  rw [List.drop_eq_getElem_cons hl, ldL_one]
  simp [h]
def atI (s : S) (k : Int) : Int := k.tmod s.pl.length
theorem at_in {s : S} {k : Int} (h0 : 0 ≤ k) (hn : s.pl.length ≠ 0) : 0 ≤ atI s k ∧ atI s k < s.pl.length := by
  have hp : (0 : Int) < s.pl.length := Int.ofNat_lt.2 (Nat.pos_of_ne_zero hn)
  unfold atI
  rw [Int.tmod_eq_emod_of_nonneg h0]
  exact ⟨Int.emod_nonneg _ (Int.ne_of_gt hp), Int.emod_lt_of_pos _ hp⟩
theorem read_sp {H : Hp} {d w : Nat} {s : S} {o : O} {k : Int} {K : AV → Hp → Prop} (h : Dq H d s) (hw : w < 65) (ho : s.op w = some o) (h0 : 0 ≤ k) (hn : s.pl.length ≠ 0) (hm : s.pl.length ≤ 1000000)
    (hK : ∀ H', Dq H' d { acc s w (-1002 - atI s k) false with op := upd s.op w (some { o with x := s.pl.getD (atI s k).toNat 0 }) } → Fd d s H H' → K (.tup []) H') : callK Try.prog σ n_deque_operation_read [.ptr o.id 0, I k] H K := by
  obtain ⟨i0, i1⟩ := at_in h0 hn
  refine deque_operation_read.run (at_sp h hw ho hn ?_)
  have e : wr .i64 (-1002 - atI s k) = -1002 - atI s k := wr64 (by omega) (by omega)
  rw [show k.tmod s.pl.length = atI s k from rfl]
  simp [e]
  refine access_sp h hw ho fun H' h' f => ?_
  obtain ⟨hg, _, hnd, hnp⟩ := h'.ho w o hw ho
  simp [hg, h'.hd]
  refine at_sp h' hw ho hn ?_
  rw [show k.tmod (acc s w (-1002 - atI s k) false).pl.length = atI s k from rfl]
  have hp := h'.hp
  rw [pl_ix (H := H') i0 i1]
  rw [acc_pl, acc_ip] at hp
  have hlt : (atI s k).toNat < s.pl.length := by omega
  simp [hp, hnd, Ne.symm hnd, pl_ld hlt, hg, h'.hd]
  have := hK _ (h'.setO (o' := { o with x := s.pl.getD (atI s k).toNat 0 }) hw ho rfl) (f.trans (.setO hw ho) rfl fun w o' hs => ⟨o', hs, rfl⟩)
  simpa using this
def put (s : S) (w : Nat) (o : O) : S := { s with op := upd s.op w (some o) }
theorem put_self {s : S} {w : Nat} {o : O} (h : s.op w = some o) : put s w o = s := by
  unfold put
  have : upd s.op w (some o) = s.op := by
    funext i
    by_cases hi : i = w
    · subst hi; simp [h]
    · simp [hi]
  rw [this]
def Ph (σ : Sig) (g d w : Nat) (s : S) (o : O) (s' : S) (o' : O) (r : AV) : Prop :=
  o'.id = o.id ∧ o'.nx = o.nx ∧ s'.op = s.op ∧ s'.ip = s.ip ∧ s'.pl.length = s.pl.length ∧
  ∀ {H : Hp} {K : AV → Hp → Prop}, Dq H d s → w < 65 → s.op w = some o → (∀ H', Dq H' d (put s' w o') → Fd d s H H' → K r H') → callK Try.prog σ g [.ptr o.id 0] H K
theorem Dq.putO {H : Hp} {d w : Nat} {s : S} {o o' : O} (h : Dq H d s) (hw : w < 65) (ho : s.op w = some o) (e : o'.id = o.id) : Dq (H.set o.id (some (.cells (opc d w o') true))) d (put s w o') := h.setO hw ho e
theorem ph_push1 {d w : Nat} {s : S} {o : O} : Ph σ n_deque_push1 d w s o (acc s w (-1001) false) { o with b := s.bot } (.fn n_deque_push2 []) := by
  refine ⟨rfl, rfl, rfl, rfl, rfl, fun {H K} h hw ho hK => deque_push1.run (readB_sp h hw ho fun H' h' f => ?_)⟩
  obtain ⟨hg, _, hnd, hnp⟩ := h'.ho w o hw ho
  simp [hg]
  exact hK _ (h'.putO hw ho rfl) (f.tr (.setO hw ho) rfl rfl)
theorem ph_push2 {d w : Nat} {s : S} {o : O} (hb : wr .i64 (o.b - s.top) = o.b - s.top) : Ph σ n_deque_push2 d w s o (acc s w (-1000) false) { o with t := s.top } (if o.b - s.top = s.pl.length then .lit .nilFunc else .fn n_deque_push3 []) := by
  refine ⟨rfl, rfl, rfl, rfl, rfl, fun {H K} h hw ho hK => deque_push2.run (readT_sp h hw ho fun H' h' f => ?_)⟩
  obtain ⟨hg, _, hnd, hnp⟩ := h'.ho w o hw ho
  have hl : (acc s w (-1000) false).pl.length = s.pl.length := rfl
  simp [hg, hb, hnd, Ne.symm hnd, h'.hd, hl]
  have := hK _ (h'.putO (o' := { o with t := s.top }) hw ho rfl) (f.tr (.setO hw ho) rfl rfl)
  split
  · rename_i e; rw [if_pos e] at this; exact this
  · rename_i e; rw [if_neg e] at this; exact this
theorem ph_push3 {d w : Nat} {s : S} {o : O} (h0 : 0 ≤ o.b) (hn : s.pl.length ≠ 0) (hm : s.pl.length ≤ 1000000) : Ph σ n_deque_push3 d w s o { acc s w (-1002 - atI s o.b) true with pl := s.pl.set (atI s o.b).toNat o.x } o (.fn n_deque_push4 []) := by
  refine ⟨rfl, rfl, rfl, rfl, by simp, fun {H K} h hw ho hK => deque_push3.run ?_⟩
  obtain ⟨i0, i1⟩ := at_in h0 hn
  obtain ⟨hg, _, hnd, hnp⟩ := h.ho w o hw ho
  simp [hg]
  refine at_sp h hw ho hn ?_
  rw [show o.b.tmod s.pl.length = atI s o.b from rfl]
  have e : wr .i64 (-1002 - atI s o.b) = -1002 - atI s o.b := wr64 (by omega) (by omega)
  simp [e]
  refine access_sp h hw ho fun H' h' f => ?_
  obtain ⟨hg', _, _, _⟩ := h'.ho w o hw ho
  simp [hg', h'.hd]
  refine at_sp h' hw ho hn ?_
  rw [show o.b.tmod (acc s w (-1002 - atI s o.b) true).pl.length = atI s o.b from rfl]
  have hlt : (atI s o.b).toNat < s.pl.length := by omega
  have hp := h'.hp
  have hdp : d ≠ s.ip := h'.dp
  rw [pl_ix (H := H') i0 i1]
  rw [acc_pl, acc_ip] at hp
  have hlt' : (atI s o.b).toNat < (s.pl.map I).length := by simpa using hlt
  have hlt2 : (atI s o.b).toNat + 1 ≤ s.pl.length := hlt
  simp [hp, hg', hnp, Ne.symm hnp, hnd, Ne.symm hnd, h'.hd, hlt2, hdp, Ne.symm hdp]
  rw [ov_set hlt', ← List.map_set]
  have hset : Dq (H'.set (acc s w (-1002 - atI s o.b) true).ip (some (.cells (((acc s w (-1002 - atI s o.b) true).pl.set (atI s o.b).toNat o.x).map I) true))) d { acc s w (-1002 - atI s o.b) true with pl := s.pl.set (atI s o.b).toNat o.x } := h'.setP (p := s.pl.set (atI s o.b).toNat o.x) (by simp)
  refine hK _ ?_ (f.tr .setP rfl rfl)
  rw [put_self (by exact ho)]
  exact hset
theorem ph_push4 {d w : Nat} {s : S} {o : O} (hb : wr .i64 (o.b + 1) = o.b + 1) : Ph σ n_deque_push4 d w s o { acc s w (-1001) true with bot := o.b + 1 } { o with ok := true } (.lit .nilFunc) := by
  refine ⟨rfl, rfl, rfl, rfl, rfl, fun {H K} h hw ho hK => deque_push4.run ?_⟩
  obtain ⟨hg, _, hnd, hnp⟩ := h.ho w o hw ho
  simp [hg, hb]
  refine writeB_sp h hw ho fun H' h' f => ?_
  obtain ⟨hg', _, _, _⟩ := h'.ho w o hw ho
  simp [hg']
  exact hK _ (h'.putO hw ho rfl) (f.tr (.setO hw ho) rfl rfl)
theorem ph_pop1 {d w : Nat} {s : S} {o : O} (hb : wr .i64 (s.bot - 1) = s.bot - 1) : Ph σ n_deque_pop1 d w s o (acc s w (-1001) false) { o with b := s.bot - 1 } (.fn n_deque_pop2 []) := by
  refine ⟨rfl, rfl, rfl, rfl, rfl, fun {H K} h hw ho hK => deque_pop1.run (readB_sp h hw ho fun H' h' f => ?_)⟩
  obtain ⟨hg, _, hnd, hnp⟩ := h'.ho w o hw ho
  simp [hg, hb]
  exact hK _ (h'.putO hw ho rfl) (f.tr (.setO hw ho) rfl rfl)
theorem ph_pop2 {d w : Nat} {s : S} {o : O} : Ph σ n_deque_pop2 d w s o { acc s w (-1001) true with bot := o.b } o (.fn n_deque_pop3 []) := by
  refine ⟨rfl, rfl, rfl, rfl, rfl, fun {H K} h hw ho hK => deque_pop2.run ?_⟩
  obtain ⟨hg, _, hnd, hnp⟩ := h.ho w o hw ho
  simp [hg]
  refine writeB_sp h hw ho fun H' h' f => hK _ ?_ f
  rw [put_self (by exact ho)]
  exact h'
theorem ph_pop3 {d w : Nat} {s : S} {o : O} : Ph σ n_deque_pop3 d w s o (acc s w (-1000) false) { o with t := s.top } (if o.b < s.top then .fn n_deque_pop6 [] else .fn n_deque_pop4 []) := by
  refine ⟨rfl, rfl, rfl, rfl, rfl, fun {H K} h hw ho hK => deque_pop3.run (readT_sp h hw ho fun H' h' f => ?_)⟩
  obtain ⟨hg, _, hnd, hnp⟩ := h'.ho w o hw ho
  simp [hg]
  have := hK _ (h'.putO (o' := { o with t := s.top }) hw ho rfl) (f.tr (.setO hw ho) rfl rfl)
  split
  · rename_i e; rw [if_pos e] at this; exact this
  · rename_i e; rw [if_neg e] at this; exact this
theorem upd_upd (f : Nat → Option O) (w : Nat) (a b : Option O) : upd (upd f w a) w b = upd f w b := by
  funext i
  by_cases h : i = w
  · subst h; simp
  · simp [h]
theorem ph_pop4 {d w : Nat} {s : S} {o : O} (h0 : 0 ≤ o.b) (hn : s.pl.length ≠ 0) (hm : s.pl.length ≤ 1000000) : Ph σ n_deque_pop4 d w s o (acc s w (-1002 - atI s o.b) false) { o with x := s.pl.getD (atI s o.b).toNat 0, ok := if o.t < o.b then true else o.ok } (if o.t < o.b then .lit .nilFunc else .fn n_deque_pop5 []) := by
  refine ⟨rfl, rfl, rfl, rfl, rfl, fun {H K} h hw ho hK => deque_pop4.run ?_⟩
  obtain ⟨hg, _, hnd, hnp⟩ := h.ho w o hw ho
  simp [hg]
  refine read_sp h hw ho h0 hn hm fun H' h' f => ?_
  obtain ⟨hg', _, _, _⟩ := h'.ho w _ hw (upd_same _ _ _)
  simp only at hg'
  simp [hg']
  split
  · rename_i e
    simp only [e, if_true] at hK
    have := hK _ (by
      have := h'.putO (o' := { o with x := s.pl.getD (atI s o.b).toNat 0, ok := true }) hw (upd_same _ _ _) rfl
      simp only [put, upd_upd] at this
      exact this) (f.tr (.setO hw ho) rfl rfl)
    simpa using this
  · rename_i e
    simp only [e, if_false] at hK
    exact hK _ h' f
theorem ph_pop5 {d w : Nat} {s : S} {o : O} (hb : wr .i64 (s.top + 1) = s.top + 1) : Ph σ n_deque_pop5 d w s o { acc s w (-1000) true with top := if s.top = o.t then s.top + 1 else s.top } { o with ok := decide (s.top = o.t) } (.fn n_deque_pop6 []) := by
  refine ⟨rfl, rfl, rfl, rfl, rfl, fun {H K} h hw ho hK => deque_pop5.run ?_⟩
  refine take_sp h hw ho hb fun H' h' f => ?_
  obtain ⟨hg', _, _, _⟩ := h'.ho w o hw ho
  simp [hg']
  exact hK _ (h'.putO hw ho rfl) (f.tr (.setO hw ho) rfl rfl)
theorem ph_pop6 {d w : Nat} {s : S} {o : O} (hb : wr .i64 (o.b + 1) = o.b + 1) : Ph σ n_deque_pop6 d w s o { acc s w (-1001) true with bot := o.b + 1 } o (.lit .nilFunc) := by
  refine ⟨rfl, rfl, rfl, rfl, rfl, fun {H K} h hw ho hK => deque_pop6.run ?_⟩
  obtain ⟨hg, _, hnd, hnp⟩ := h.ho w o hw ho
  simp [hg, hb]
  refine writeB_sp h hw ho fun H' h' f => hK _ ?_ f
  rw [put_self (by exact ho)]
  exact h'
theorem ph_steal1 {d w : Nat} {s : S} {o : O} : Ph σ n_deque_steal1 d w s o (acc s w (-1000) false) { o with t := s.top } (.fn n_deque_steal2 []) := by
  refine ⟨rfl, rfl, rfl, rfl, rfl, fun {H K} h hw ho hK => deque_steal1.run (readT_sp h hw ho fun H' h' f => ?_)⟩
  obtain ⟨hg, _, hnd, hnp⟩ := h'.ho w o hw ho
  simp [hg]
  exact hK _ (h'.putO hw ho rfl) (f.tr (.setO hw ho) rfl rfl)
theorem ph_steal2 {d w : Nat} {s : S} {o : O} : Ph σ n_deque_steal2 d w s o (acc s w (-1001) false) { o with b := s.bot } (if s.bot ≤ o.t then .lit .nilFunc else .fn n_deque_steal3 []) := by
  refine ⟨rfl, rfl, rfl, rfl, rfl, fun {H K} h hw ho hK => deque_steal2.run (readB_sp h hw ho fun H' h' f => ?_)⟩
  obtain ⟨hg, _, hnd, hnp⟩ := h'.ho w o hw ho
  simp [hg]
  have := hK _ (h'.putO (o' := { o with b := s.bot }) hw ho rfl) (f.tr (.setO hw ho) rfl rfl)
  split
  · rename_i e; rw [if_pos e] at this; exact this
  · rename_i e; rw [if_neg e] at this; exact this
theorem ph_steal3 {d w : Nat} {s : S} {o : O} (h0 : 0 ≤ o.t) (hn : s.pl.length ≠ 0) (hm : s.pl.length ≤ 1000000) : Ph σ n_deque_steal3 d w s o (acc s w (-1002 - atI s o.t) false) { o with x := s.pl.getD (atI s o.t).toNat 0 } (.fn n_deque_steal4 []) := by
  refine ⟨rfl, rfl, rfl, rfl, rfl, fun {H K} h hw ho hK => deque_steal3.run ?_⟩
  obtain ⟨hg, _, hnd, hnp⟩ := h.ho w o hw ho
  simp [hg]
  exact read_sp h hw ho h0 hn hm fun H' h' f => hK _ h' f
theorem ph_steal4 {d w : Nat} {s : S} {o : O} (hb : wr .i64 (s.top + 1) = s.top + 1) : Ph σ n_deque_steal4 d w s o { acc s w (-1000) true with top := if s.top = o.t then s.top + 1 else s.top } { o with ok := decide (s.top = o.t) } (.lit .nilFunc) := by
  refine ⟨rfl, rfl, rfl, rfl, rfl, fun {H K} h hw ho hK => deque_steal4.run ?_⟩
  refine take_sp h hw ho hb fun H' h' f => ?_
  obtain ⟨hg', _, _, _⟩ := h'.ho w o hw ho
  simp [hg']
  exact hK _ (h'.putO hw ho rfl) (f.tr (.setO hw ho) rfl rfl)
end Go.Proofs.Ytnloolhaojoimaa.Ev
namespace Go.Proofs.Ytnloolhaojoimaa.Ev
set_option linter.unusedVariables false
set_option linter.unusedSimpArgs false
variable {σ : Sig}
theorem ix65 {w : Nat} (h : w < 65) (x : AV) : ixaArr 65 1 x (I w) = shiftA x w := by
  unfold ixaArr
  have h1 : (0 : Int) ≤ w := by omega
  have h2 : (w : Int) < 65 := by omega
  simp [intA, h2]
theorem ld_op {H : Hp} {d w : Nat} {s : S} (h : Dq H d s) (hw : w < 65) : ldO false 1 (3 + w) (H.get d) = some (encO (s.op w)) := by
  rw [h.hd]; exact dq_op s hw
theorem Busy_sp {H : Hp} {d : Nat} {s : S} {w : Int} {K : AV → Hp → Prop} (h : Dq H d s) (hK : K (Bo (decide (0 ≤ w) && (decide (w ≤ 64) && (s.op w.toNat).isSome))) H) : callK Try.prog σ n_deque_Deque_Busy [.ptr d 0, I w] H K := by
  refine deque_Deque_Busy.run ?_
  simp
  by_cases h0 : 0 ≤ w
  · by_cases h1 : w ≤ 64
    · obtain ⟨k, rfl⟩ : ∃ k : Nat, w = k := ⟨w.toNat, by omega⟩
      have hk : k < 65 := by omega
      simp only [h0, h1, if_true, decide_true, Bool.true_and, Int.toNat_natCast] at hK ⊢
      rw [ix65 hk]
      simp [ld_op h hk]
      cases hs : s.op k with
      | none => simp [encO]; rw [hs] at hK; exact hK
      | some o => simp [encO]; rw [hs] at hK; exact hK
    · simp only [h0, h1, if_true, if_false, decide_true, decide_false, Bool.true_and, Bool.false_and] at hK ⊢; exact hK
  · simp only [h0, if_false, decide_false, Bool.false_and] at hK ⊢; exact hK
theorem Len_sp {H : Hp} {d : Nat} {s : S} {K : AV → Hp → Prop} (h : Dq H d s) (hb : wr .i64 (s.bot - s.top) = s.bot - s.top) (hK : K (I (if 0 < s.bot - s.top then s.bot - s.top else 0)) H) : callK Try.prog σ n_deque_Deque_Len [.ptr d 0] H K := by
  refine deque_Deque_Len.run ?_
  simp [h.hd, hb, maxA, toI, maxStep]
  by_cases e : 0 < s.bot - s.top
  · have e2 : ¬ s.bot - s.top < 0 := by omega
    simp_all
  · simp_all
theorem Dq.clr {H : Hp} {d w : Nat} {s : S} (h : Dq H d s) (hw : w < 65) : Dq (H.set d (some (.cells (dqc { s with op := upd s.op w none }) true))) d { s with op := upd s.op w none } := by
  refine ⟨by simp, ?_, ?_, ?_, by simpa using h.dl, by simpa using h.pl, h.dp⟩
  · simp [Ne.symm h.dp]; exact h.hp
  · intro w2 o hw2 ho
    by_cases e : w2 = w
    · subst e; simp at ho
    · simp [e] at ho
      obtain ⟨a, b, c, f⟩ := h.ho w2 o hw2 ho
      exact ⟨by simp [c]; exact a, by simpa using b, c, f⟩
  · intro w1 w2 o1 o2 hw1 hw2 h1 h2 he
    have k : ∀ w1 o1, upd s.op w none w1 = some o1 → s.op w1 = some o1 := by
      intro w1 o1 h1
      by_cases e : w1 = w
      · subst e; simp at h1
      · simpa [e] using h1
    exact h.hi w1 w2 o1 o2 hw1 hw2 (k _ _ h1) (k _ _ h2) he
theorem Step_pre {H : Hp} {d w g : Nat} {s : S} {o : O} {K : AV → Hp → Prop} (h : Dq H d s) (hw : w < 65) (ho : s.op w = some o) (hx : o.nx = .fn g []) {s' : S} {o' : O} {r : AV} (hp : Ph σ g d w s o s' o' r)
    (hr : stA 1 = stA 1 → ∀ H1 : Hp, Dq H1 d (put s' w o') → Fd d s H H1 → (bnd (stA 1 H1 (.ptr o.id 6) r) fun H15 => bnd (ldO false 1 6 (H15.get o.id)) fun x18 => bnd (eqFnR .neq x18 (.lit (.nilFunc))) fun x19 => ifB x19 (K (.tup [(Bo false), (I 0), (Bo false)]) H15) (bnd (stA 1 H15 (.ptr d (3 + w)) (.lit (.pointer none))) fun H23 => bnd (ldO false 1 5 (H23.get o.id)) fun x26 => bnd (unR .not x26) fun x27 => ifB x27 (K (.tup [(Bo true), (I 0), (Bo false)]) H23) (bnd (ldO false 1 2 (H23.get o.id)) fun x30 => K (.tup [(Bo true), x30, (Bo true)]) H23)))) :
    callK Try.prog σ n_deque_Deque_Step [.ptr d 0, I w] H K := by
  refine deque_Deque_Step.run (Busy_sp h ?_)
  have h0 : (0 : Int) ≤ w := by omega
  have h1 : (w : Int) ≤ 64 := by omega
  obtain ⟨hg, _, hnd, hnp⟩ := h.ho w o hw ho
  simp [h0, h1, ho, ix65 hw, ld_op h hw, encO, hg, hx]
  refine hp.2.2.2.2.2 h hw ho fun H1 hq f => ?_
  have t := hr rfl H1 hq f
  simpa using t
theorem Step_fn {H : Hp} {d w g g2 : Nat} {s : S} {o : O} {K : AV → Hp → Prop} (h : Dq H d s) (hw : w < 65) (ho : s.op w = some o) (hx : o.nx = .fn g []) {s' : S} {o' : O} (hp : Ph σ g d w s o s' o' (.fn g2 []))
    (hK : ∀ H', Dq H' d (put s' w { o' with nx := .fn g2 [] }) → Fd d s H H' → K (.tup [Bo false, I 0, Bo false]) H') : callK Try.prog σ n_deque_Deque_Step [.ptr d 0, I w] H K := by
  refine Step_pre h hw ho hx hp fun _ H1 hq f => ?_
  obtain ⟨e1, e2, e3, e4, e5, _⟩ := hp
  obtain ⟨hg, _, hnd, hnp⟩ := hq.ho w o' hw (upd_same _ _ _)
  rw [e1] at hg
  simp [hg]
  refine hK _ ?_ ?_
  · have := hq.putO (o' := { o' with nx := .fn g2 [] }) hw (upd_same _ _ _) rfl
    rw [← e1]
    simp only [put, upd_upd] at this ⊢
    exact this
  · exact f.tr (.setO hw ho) rfl rfl
theorem Step_nil {H : Hp} {d w g : Nat} {s : S} {o : O} {K : AV → Hp → Prop} (h : Dq H d s) (hw : w < 65) (ho : s.op w = some o) (hx : o.nx = .fn g []) {s' : S} {o' : O} (hp : Ph σ g d w s o s' o' (.lit .nilFunc))
    (hK : ∀ H', Dq H' d { s' with op := upd s.op w none } → Fd d s H H' → K (.tup [Bo true, I (if o'.ok = true then o'.x else 0), Bo o'.ok]) H') : callK Try.prog σ n_deque_Deque_Step [.ptr d 0, I w] H K := by
  refine Step_pre h hw ho hx hp fun _ H1 hq f => ?_
  obtain ⟨e1, e2, e3, e4, e5, _⟩ := hp
  obtain ⟨hg, _, hnd, hnp⟩ := hq.ho w o' hw (upd_same _ _ _)
  rw [e1] at hg hnd
  have h1 : Dq (H1.set o.id (some (.cells (opc d w { o' with nx := .lit .nilFunc }) true))) d (put (put s' w o') w { o' with nx := .lit .nilFunc }) := by
    rw [← e1]
    exact hq.putO (o' := { o' with nx := .lit .nilFunc }) hw (upd_same _ _ _) rfl
  have h2 := h1.clr hw
  have hl : 3 + w < 72 := by omega
  have hl2 : 3 + w + 1 ≤ 72 := by omega
  have ov := dq_sop (put (put s' w o') w { o' with nx := .lit .nilFunc }) hw none
  simp only [encO] at ov
  have hd1 := h1.hd
  simp only [hp_get_set, Ne.symm hnd, if_false] at hd1
  have eop : (put (put s' w o') w { o' with nx := .lit .nilFunc }) = put s' w { o' with nx := .lit .nilFunc } := by simp [put, upd_upd]
  have eS : { put (put s' w o') w { o' with nx := .lit .nilFunc } with op := upd (put (put s' w o') w { o' with nx := .lit .nilFunc }).op w none } = { s' with op := upd s.op w none } := by simp [put, upd_upd, e3]
  rw [eS] at h2 ov
  simp [hg, hnd, Ne.symm hnd, hd1, hl2, ov]
  have k := hK _ h2 (f.trans ((Fd.setO hw ho).trans .setD rfl fun w o hs => ⟨o, hs, rfl⟩) rfl fun w o hs => ⟨o, hs, rfl⟩)
  cases hok : o'.ok
  · simp [hok] at k ⊢; exact k
  · simp [hok] at k ⊢; exact k
def stepsF (w : Int) (k : Int) : Option Nat := if k = 1 ∧ w = 0 then some n_deque_push1 else if k = 2 ∧ w = 0 then some n_deque_pop1 else if k = 3 ∧ 0 < w then some n_deque_steal1 else none
def fnO : Option Nat → AV
  | some g => .fn g []
  | none => .lit .nilFunc
theorem steps_sp {H : Hp} {w k : Int} {K : AV → Hp → Prop} (hK : K (fnO (stepsF w k)) H) : callK Try.prog σ n_deque_steps [I w, I k] H K := by
  refine deque_steps.run ?_
  unfold stepsF at hK
  by_cases k1 : k = 1
  · subst k1
    by_cases w0 : w = 0
    · simp [w0] at hK ⊢; exact hK
    · simp [w0] at hK ⊢; exact hK
  · by_cases k2 : k = 2
    · subst k2
      by_cases w0 : w = 0
      · simp [w0] at hK ⊢; exact hK
      · simp [w0] at hK ⊢; exact hK
    · by_cases k3 : k = 3
      · subst k3
        by_cases w0 : 0 < w
        · simp [w0] at hK ⊢; exact hK
        · simp [w0] at hK ⊢; exact hK
      · simp [k1, k2, k3] at hK ⊢; exact hK
theorem Begin_go {H : Hp} {d w g : Nat} {s : S} {k x : Int} {K : AV → Hp → Prop} (h : Dq H d s) (hw : w < 65) (ho : s.op w = none) (hg : stepsF w k = some g)
    (hK : ∀ H', Dq H' d (put s w ⟨H.n, x, 0, 0, false, .fn g []⟩) → H'.n = H.n + 1 → (∀ j, j < H.n → j ≠ d → H'.get j = H.get j) → K (I 0) H') : callK Try.prog σ n_deque_Deque_Begin [.ptr d 0, I w, I k, I x] H K := by
  refine deque_Deque_Begin.run ?_
  have h0 : ¬ (w : Int) < 0 := by omega
  have h1 : ¬ (64 : Int) < w := by omega
  simp [h0, h1, ix65 hw, ld_op h hw, ho, encO]
  refine steps_sp ?_
  rw [hg]
  simp [fnO]
  refine steps_sp ?_
  rw [hg]
  have hdn : d ≠ H.n := Nat.ne_of_lt h.dl
  have hl : 3 + w + 1 ≤ 72 := by omega
  have ov := dq_sop s hw (some ⟨H.n, x, 0, 0, false, .fn g []⟩)
  simp only [encO] at ov
  have bl : bldR [.lit (.pointer none), I 0, I 0, I 0, I 0, .lit (.bool false), .lit (.nilFunc)] [(0, 1, .ptr d 0), (1, 1, I w), (2, 1, I x), (6, 1, .fn g [])] = some (opc d w ⟨H.n, x, 0, 0, false, .fn g []⟩) := rfl
  simp [fnO, bl, ix65 hw, hdn, h.hd, hl, ov]
  refine hK _ ?_ (by simp) ?_
  · refine ⟨by simp; rfl, ?_, ?_, ?_, by simp; exact Nat.lt_succ_of_lt h.dl, by simp; exact Nat.lt_succ_of_lt h.pl, h.dp⟩
    · have : s.ip ≠ H.n := Nat.ne_of_lt h.pl
      show _ = some (Blk.cells (s.pl.map I) true)
      simp [put, Ne.symm h.dp, this]; exact h.hp
    · intro w2 o hw2 ho2
      by_cases e : w2 = w
      · subst e
        simp [put] at ho2
        subst ho2
        refine ⟨?_, ?_, Ne.symm hdn, ?_⟩
        · simp [Ne.symm hdn]
        · simp
        · exact fun e => Nat.lt_irrefl _ (e ▸ h.pl)
      · simp [put, e] at ho2
        obtain ⟨a, b, c, f⟩ := h.ho w2 o hw2 ho2
        have : o.id ≠ H.n := Nat.ne_of_lt b
        refine ⟨?_, ?_, c, f⟩
        · simp [c, this]; exact a
        · simp; exact Nat.lt_succ_of_lt b
    · intro w1 w2 o1 o2 hw1 hw2 h1 h2 he
      by_cases e1 : w1 = w
      · by_cases e2 : w2 = w
        · rw [e1, e2]
        · subst e1
          simp [put] at h1
          simp [put, e2] at h2
          have := (h.ho w2 o2 hw2 h2).2.1
          subst h1
          simp at he
          omega
      · by_cases e2 : w2 = w
        · subst e2
          simp [put] at h2
          simp [put, e1] at h1
          have := (h.ho w1 o1 hw1 h1).2.1
          subst h2
          simp at he
          omega
        · simp [put, e1] at h1
          simp [put, e2] at h2
          exact h.hi w1 w2 o1 o2 hw1 hw2 h1 h2 he
  · intro j hj hjd
    have : j ≠ H.n := Nat.ne_of_lt hj
    simp [hjd, this]
def s0 (ip n : Nat) : S := ⟨ip, List.replicate n 0, 0, 0, fun _ => none, 0, 0, false, false⟩
theorem zrow0 (n : Nat) : zrow [.int .i64 0] n = (List.replicate n (0 : Int)).map I := by
  unfold zrow
  apply List.ext_getElem
  · simp
  · intro i h1 h2
    simp [Nat.mod_one]
theorem New_sp {H : Hp} {n : Int} {K : AV → Hp → Prop} (h1 : 1 ≤ n) (h2 : n ≤ 1000) (hK : ∀ H', Dq H' (H.n + 1) (s0 H.n n.toNat) → H'.n = H.n + 2 → (∀ j, j < H.n → H'.get j = H.get j) → K (.ptr (H.n + 1) 0) H') : callK Try.prog σ n_deque_New [I n] H K := by
  refine deque_New.run ?_
  have e1 : maxA [I 1, I n] = some (I n) := by
    simp [maxA, toI, maxStep]; omega
  have e2 : minA [I n, I 1024] = some (I n) := by
    simp [minA, toI, minStep]; omega
  have e3 : mkSlR [.int .i64 0] 1 8 H (I n) (I n) = some (.sl H.n 0 1 n.toNat (some n.toNat), H.new (.cells (zrow [.int .i64 0] (n.toNat * 1)) true)) := by
    have a : (0 : Int) ≤ n := by omega
    have b : Nat.ble n.toNat 9223372036854775807 = true := Nat.ble_eq_true_of_le (by omega)
    have c : Nat.ble (8 * n.toNat) 281474976710656 = true := Nat.ble_eq_true_of_le (by omega)
    simp [mkSlR, intA, a, b, c]
  simp only [e1, e2, e3, bnd_some]
  have e4 : ∀ x : AV, x.cells = [x] → x.isAny = false → bldR (AV.lit (.slice none 0 0) :: I 0 :: I 0 :: (opl (fun _ => none) ++ [I 0, I 0, Bo false, Bo false])) [(0, 1, x)] = some (x :: I 0 :: I 0 :: (opl (fun _ => none) ++ [I 0, I 0, Bo false, Bo false])) := by
    intro x hx ha
    simp [bldR, hx, ha, beqN, bleN]
  have e5 := e4 (.sl H.n 0 1 n.toNat (some n.toNat)) rfl rfl
  have e6 : opl (fun _ => none) = List.replicate 65 (AV.lit (.pointer none)) := rfl
  rw [e6] at e5
  simp only [List.replicate] at e5
  erw [e5]
  simp only [bnd_some, boxK_agg]
  have hn : (H.new (Blk.cells (zrow [.int .i64 0] (n.toNat * 1)) true)).n = H.n + 1 := by simp
  rw [hn]
  refine hK _ ?_ (by simp) ?_
  · refine ⟨?_, ?_, ?_, ?_, by simp, by simp [s0]; omega, by simp [s0]⟩
    · simp [dqc, hdc, lsc, s0]; rfl
    · simp [s0, zrow0]
    · intro w o _ ho; simp [s0] at ho
    · intro w _ o _ _ _ ho; simp [s0] at ho
  · intro j hj
    have a : j ≠ H.n := by omega
    have b : j ≠ H.n + 1 := by omega
    simp [a, b]
end Go.Proofs.Ytnloolhaojoimaa.Ev
namespace Go.Proofs.Ytnloolhaojoimaa.Ev
set_option linter.unusedVariables false
set_option linter.unusedSimpArgs false
variable {σ : Sig}
structure Fw (H0 : Hp) (d ip : Nat) (H : Hp) : Prop where
  n : H0.n ≤ H.n
  g : ∀ j, j < H0.n → j ≠ d → j ≠ ip → H.get j = H0.get j
theorem Fw.refl {H : Hp} {d ip : Nat} : Fw H d ip H := ⟨Nat.le_refl _, fun _ _ _ _ => rfl⟩
theorem Fw.trans {H0 H1 H2 : Hp} {d ip : Nat} (h : Fw H0 d ip H1) (h' : Fw H1 d ip H2) : Fw H0 d ip H2 :=
  ⟨Nat.le_trans h.n h'.n, fun j hj a b => (h'.g j (Nat.lt_of_lt_of_le hj h.n) a b).trans (h.g j hj a b)⟩
theorem Fw.fd {H0 H H' : Hp} {d : Nat} {s : S} (F : Fw H0 d s.ip H) (hop : ∀ w o, w < 65 → s.op w = some o → H0.n ≤ o.id) (f : Fd d s H H') : Fw H0 d s.ip H' :=
  ⟨by rw [f.n]; exact F.n, fun j hj a b => (f.g j a b fun w o hw ho => Nat.ne_of_lt (Nat.lt_of_lt_of_le hj (hop w o hw ho))).trans (F.g j hj a b)⟩
def noop : Nat → Option O := fun _ => none
def QS (ip : Nat) (pl : List Int) (top bot : Int) (lw lc : Int) (lr la : Bool) : S := ⟨ip, pl, top, bot, noop, lw, lc, lr, la⟩
def Q (H : Hp) (d ip : Nat) (pl : List Int) (top bot : Int) : Prop := ∃ lw lc lr la, Dq H d (QS ip pl top bot lw lc lr la)
theorem hop_upd {H0 : Hp} {w : Nat} {o : O} (h : H0.n ≤ o.id) : ∀ w2 o2, w2 < 65 → upd noop w (some o) w2 = some o2 → H0.n ≤ o2.id := by
  intro w2 o2 _ h2
  by_cases e : w2 = w
  · subst e; simp at h2; subst h2; exact h
  · simp [e, noop] at h2
section
attribute [local irreducible] law20_whole.L0
theorem W_fn {H0 H : Hp} {d w g g2 : Nat} {s s' : S} {o o' : O} {i : Int} {K : AV → Hp → Prop} (hp : Ph σ g d w s o s' o' (.fn g2 [])) (F : Fw H0 d s.ip H) (hop : ∀ w o, w < 65 → s.op w = some o → H0.n ≤ o.id) (h : Dq H d s) (hw : w < 65) (ho : s.op w = some o) (hx : o.nx = .fn g []) (hi : 0 ≤ i ∧ i < 9)
    (hK : ∀ H', Dq H' d (put s' w { o' with nx := .fn g2 [] }) → Fw H0 d s.ip H' → law20_whole.L0 σ K (.ptr d 0) (I w) (I (i + 1)) H') : law20_whole.L0 σ K (.ptr d 0) (I w) (I i) H := by
  refine law20_whole.L0_step ?_
  have h10 : i < 10 := by omega
  simp [h10]
  refine Step_fn h hw ho hx hp fun H' hq f => ?_
  simp
  rw [wr64 (by omega) (by omega)]
  exact hK H' hq (F.fd hop f)
theorem W_nil {H0 H : Hp} {d w g : Nat} {s s' : S} {o o' : O} {i : Int} {K : AV → Hp → Prop} (hp : Ph σ g d w s o s' o' (.lit .nilFunc)) (F : Fw H0 d s.ip H) (hop : ∀ w o, w < 65 → s.op w = some o → H0.n ≤ o.id) (h : Dq H d s) (hw : w < 65) (ho : s.op w = some o) (hx : o.nx = .fn g []) (hi : 0 ≤ i ∧ i < 10)
    (hK : ∀ H', Dq H' d { s' with op := upd s.op w none } → Fw H0 d s.ip H' → K (.tup [I (if o'.ok = true then o'.x else 0), Bo o'.ok]) H') : law20_whole.L0 σ K (.ptr d 0) (I w) (I i) H := by
  refine law20_whole.L0_step ?_
  have h10 : i < 10 := by omega
  simp [h10]
  refine Step_nil h hw ho hx hp fun H' hq f => ?_
  simp
  exact hK H' hq (F.fd hop f)
theorem clr_noop {w : Nat} {o : O} : upd (upd noop w (some o)) w none = noop := by
  funext i
  by_cases h : i = w
  · subst h; simp [noop]
  · simp [h, noop]
def PQ (H : Hp) (d ip : Nat) (pl : List Int) (top bot : Int) (w : Nat) (o : O) : Prop := ∃ lw lc lr la, Dq H d ⟨ip, pl, top, bot, upd noop w (some o), lw, lc, lr, la⟩
def Ph1 (σ : Sig) (g d w ip : Nat) (pl : List Int) (top bot : Int) (o : O) (pl' : List Int) (top' bot' : Int) (o' : O) (r : AV) : Prop :=
  ∀ lw lc lr la, ∃ lw' lc' lr' la', Ph σ g d w ⟨ip, pl, top, bot, upd noop w (some o), lw, lc, lr, la⟩ o ⟨ip, pl', top', bot', upd noop w (some o), lw', lc', lr', la'⟩ o' r
theorem WF {H0 H : Hp} {d w ip g g2 : Nat} {pl pl' : List Int} {top bot top' bot' : Int} {o o' : O} {i : Int} {K : AV → Hp → Prop} (hp : Ph1 σ g d w ip pl top bot o pl' top' bot' o' (.fn g2 [])) (F : Fw H0 d ip H) (hid : H0.n ≤ o.id) (h : PQ H d ip pl top bot w o) (hw : w < 65) (hx : o.nx = .fn g []) (hi : 0 ≤ i ∧ i < 9)
    (hK : ∀ H', PQ H' d ip pl' top' bot' w { o' with nx := .fn g2 [] } → Fw H0 d ip H' → law20_whole.L0 σ K (.ptr d 0) (I w) (I (i + 1)) H') : law20_whole.L0 σ K (.ptr d 0) (I w) (I i) H := by
  obtain ⟨lw, lc, lr, la, h⟩ := h
  obtain ⟨lw', lc', lr', la', hp⟩ := hp lw lc lr la
  refine W_fn hp F (hop_upd hid) h hw (upd_same _ _ _) hx hi fun H' h' F' => hK H' ⟨lw', lc', lr', la', ?_⟩ F'
  have := h'
  simp only [put, upd_upd] at this
  exact this
theorem WN {H0 H : Hp} {d w ip g : Nat} {pl pl' : List Int} {top bot top' bot' : Int} {o o' : O} {i : Int} {K : AV → Hp → Prop} (hp : Ph1 σ g d w ip pl top bot o pl' top' bot' o' (.lit .nilFunc)) (F : Fw H0 d ip H) (hid : H0.n ≤ o.id) (h : PQ H d ip pl top bot w o) (hw : w < 65) (hx : o.nx = .fn g []) (hi : 0 ≤ i ∧ i < 10)
    (hK : ∀ H', Q H' d ip pl' top' bot' → Fw H0 d ip H' → K (.tup [I (if o'.ok = true then o'.x else 0), Bo o'.ok]) H') : law20_whole.L0 σ K (.ptr d 0) (I w) (I i) H := by
  obtain ⟨lw, lc, lr, la, h⟩ := h
  obtain ⟨lw', lc', lr', la', hp⟩ := hp lw lc lr la
  refine W_nil hp F (hop_upd hid) h hw (upd_same _ _ _) hx hi fun H' h' F' => hK H' ⟨lw', lc', lr', la', ?_⟩ F'
  have := h'
  simp only [clr_noop] at this
  exact this
theorem W_begin {H0 : Hp} {d w g : Nat} {ip : Nat} {pl : List Int} {top bot k x : Int} {K : AV → Hp → Prop} (h : Q H0 d ip pl top bot) (hw : w < 65) (hg : stepsF w k = some g)
    (hK : ∀ H, PQ H d ip pl top bot w ⟨H0.n, x, 0, 0, false, .fn g []⟩ → Fw H0 d ip H → law20_whole.L0 σ K (.ptr d 0) (I w) (I 0) H) : callK Try.prog σ n_law20_whole [.ptr d 0, I w, I k, I x] H0 K := by
  obtain ⟨lw, lc, lr, la, h⟩ := h
  refine law20_whole.run (Begin_go h hw rfl hg fun H' hq hn hf => ?_)
  exact hK H' ⟨lw, lc, lr, la, hq⟩ ⟨by omega, fun j hj a _ => hf j hj a⟩
def pix (pl : List Int) (k : Int) : Nat := (k.tmod pl.length).toNat
section
variable {d w ip : Nat} {pl : List Int} {top bot : Int} {o : O}
theorem p_push1 : Ph1 σ n_deque_push1 d w ip pl top bot o pl top bot { o with b := bot } (.fn n_deque_push2 []) := fun _ _ _ _ => ⟨_, _, _, _, ph_push1⟩
theorem p_push2 (hb : wr .i64 (o.b - top) = o.b - top) : Ph1 σ n_deque_push2 d w ip pl top bot o pl top bot { o with t := top } (if o.b - top = pl.length then .lit .nilFunc else .fn n_deque_push3 []) := fun _ _ _ _ => ⟨_, _, _, _, ph_push2 hb⟩
theorem p_push3 (h0 : 0 ≤ o.b) (hn : pl.length ≠ 0) (hm : pl.length ≤ 1000000) : Ph1 σ n_deque_push3 d w ip pl top bot o (pl.set (pix pl o.b) o.x) top bot o (.fn n_deque_push4 []) := fun _ _ _ _ => ⟨_, _, _, _, ph_push3 h0 hn hm⟩
theorem p_push4 (hb : wr .i64 (o.b + 1) = o.b + 1) : Ph1 σ n_deque_push4 d w ip pl top bot o pl top (o.b + 1) { o with ok := true } (.lit .nilFunc) := fun _ _ _ _ => ⟨_, _, _, _, ph_push4 hb⟩
end
section
variable {H0 : Hp} {d ip : Nat} {pl : List Int} {top bot x : Int} {K : AV → Hp → Prop}
theorem push_room (h : Q H0 d ip pl top bot) (ht : 0 ≤ top ∧ top ≤ bot ∧ bot ≤ 1000000) (hf : bot - top ≠ pl.length) (hn : pl.length ≠ 0) (hm : pl.length ≤ 1000000)
    (hK : ∀ H, Q H d ip (pl.set (pix pl bot) x) top (bot + 1) → Fw H0 d ip H → K (.tup [I x, Bo true]) H) : callK Try.prog σ n_law20_whole [.ptr d 0, I 0, I 1, I x] H0 K := by
  refine W_begin (w := 0) h (by omega) rfl fun H h1 F1 => ?_
  refine WF p_push1 F1 (Nat.le_refl _) h1 (by omega) rfl (by omega) fun H2 h2 F2 => ?_
  have p2 := p_push2 (σ := σ) (d := d) (w := 0) (ip := ip) (pl := pl) (top := top) (bot := bot) (o := ⟨H0.n, x, 0, bot, false, .fn n_deque_push2 []⟩) (wr64 (by simp; omega) (by simp; omega))
  rw [if_neg hf] at p2
  refine WF p2 F2 (Nat.le_refl _) h2 (by omega) rfl (by omega) fun H3 h3 F3 => ?_
  refine WF (p_push3 (by simp; omega) hn hm) F3 (Nat.le_refl _) h3 (by omega) rfl (by omega) fun H4 h4 F4 => ?_
  exact WN (p_push4 (wr64 (by simp; omega) (by simp; omega))) F4 (Nat.le_refl _) h4 (by omega) rfl (by omega) fun H5 h5 F5 => hK H5 h5 F5
end
end
end Go.Proofs.Ytnloolhaojoimaa.Ev
namespace Go.Proofs.Ytnloolhaojoimaa.Ev
set_option linter.unusedVariables false
set_option linter.unusedSimpArgs false
variable {σ : Sig}
def QL (H : Hp) (d ip n : Nat) (q : List Int) (c : Int) : Prop := ∃ pl top bot, Q H d ip pl top bot ∧ pl.length = n ∧ 0 ≤ top ∧ bot ≤ c ∧ bot - top = q.length ∧ q.length ≤ n ∧ ∀ i, i < q.length → pl.getD (pix pl (top + i)) 0 = q.getD i 0
theorem pix_lt {pl : List Int} {k : Int} (h0 : 0 ≤ k) (hn : pl.length ≠ 0) : pix pl k < pl.length := by
  have hp : (0 : Int) < pl.length := Int.ofNat_lt.2 (Nat.pos_of_ne_zero hn)
  unfold pix
  rw [Int.tmod_eq_emod_of_nonneg h0]
  have := Int.emod_nonneg k (Int.ne_of_gt hp)
  have := Int.emod_lt_of_pos k hp
  omega
theorem pix_ne {pl : List Int} {a b : Int} (h0 : 0 ≤ a) (h1 : a < b) (h2 : b - a < pl.length) : pix pl a ≠ pix pl b := by
  have hp : (0 : Int) < pl.length := by omega
  unfold pix
  rw [Int.tmod_eq_emod_of_nonneg h0, Int.tmod_eq_emod_of_nonneg (by omega)]
  have a1 := Int.emod_nonneg a (Int.ne_of_gt hp)
  have b1 := Int.emod_nonneg b (Int.ne_of_gt hp)
  intro e
  have e2 : b % pl.length = a % pl.length := by omega
  have e3 := Int.emod_emod_of_dvd (b - a) (Int.dvd_refl (pl.length : Int))
  have e4 : (b - a) % pl.length = 0 := by rw [Int.sub_emod, e2, Int.sub_self]; rfl
  rw [Int.emod_eq_of_lt (by omega) h2] at e4
  omega
section
variable {H0 : Hp} {d ip n : Nat} {q : List Int} {x c : Int} {K : AV → Hp → Prop}
theorem QL.push (h : QL H0 d ip n q c) (hc : c ≤ 900000) (hn : n ≤ 1000000) (hf : q.length < n) (hK : ∀ H, QL H d ip n (q ++ [x]) (c + 1) → Fw H0 d ip H → K (.tup [I x, Bo true]) H) : callK Try.prog σ n_law20_whole [.ptr d 0, I 0, I 1, I x] H0 K := by
  obtain ⟨pl, top, bot, hq, hl, h0, hb, hs, hm, hv⟩ := h
  refine push_room hq (by omega) (by omega) (by omega) (by omega) fun H hq' F => hK H ⟨_, top, bot + 1, hq', by simp [hl], h0, by omega, by simp; omega, by simp; omega, ?_⟩ F
  intro i hi
  have hpl : pix (pl.set (pix pl bot) x) = pix pl := by funext k; simp [pix]
  rw [hpl]
  simp only [List.length_append, List.length_cons, List.length_nil] at hi
  by_cases e : i = q.length
  · have e2 : top + (i : Int) = bot := by omega
    rw [e2]
    have := pix_lt (pl := pl) (k := bot) (by omega) (by omega)
    simp [this, e]
  · have hne := pix_ne (pl := pl) (a := top + i) (b := bot) (by omega) (by omega) (by omega)
    have := hv i (by omega)
    have hlt : i < q.length := by omega
    simp only [List.getD_eq_getElem?_getD] at this ⊢
    rw [List.getElem?_set_ne (Ne.symm hne), List.getElem?_append_left hlt]
    exact this
theorem QL.len (h : QL H0 d ip n q c) (hc : c ≤ 1000000) (hK : K (I q.length) H0) : callK Try.prog σ n_deque_Deque_Len [.ptr d 0] H0 K := by
  obtain ⟨pl, top, bot, ⟨lw, lc, lr, la, hq⟩, hl, h0, hb, hs, hm, hv⟩ := h
  refine Len_sp hq ?_ ?_
  · simp only [QS]; rw [wr64 (by omega) (by omega)]
  · have e1 : bot - top = q.length := hs
    show K (I (if 0 < bot - top then bot - top else 0)) H0
    have : (if 0 < bot - top then bot - top else 0) = (q.length : Int) := by split <;> omega
    rw [this]; exact hK
theorem QL.new {m : Int} (h1 : 1 ≤ m) (h2 : m ≤ 1000) (hK : ∀ H, QL H (H0.n + 1) H0.n m.toNat [] 0 → Fw H0 (H0.n + 1) H0.n H → K (.ptr (H0.n + 1) 0) H) : callK Try.prog σ n_deque_New [I m] H0 K :=
  New_sp h1 h2 fun H h hn hg => hK H ⟨_, 0, 0, ⟨0, 0, false, false, h⟩, by simp [s0], by omega, by omega, rfl, by simp, fun i hi => by simp at hi⟩ ⟨by omega, fun j hj _ _ => hg j hj⟩
end
end Go.Proofs.Ytnloolhaojoimaa.Ev
namespace Go.Proofs.Ytnloolhaojoimaa.Ev
set_option linter.unusedVariables false
set_option linter.unusedSimpArgs false
variable {σ : Sig}
def pv (pl : List Int) (k : Int) : Int := pl.getD (pix pl k) 0
theorem pix_set (pl : List Int) (j : Nat) (x k : Int) : pix (pl.set j x) k = pix pl k := by simp [pix]
theorem pv_same {pl : List Int} {b x : Int} (h0 : 0 ≤ b) (hn : pl.length ≠ 0) : pv (pl.set (pix pl b) x) b = x := by
  unfold pv
  rw [pix_set]
  have := pix_lt h0 hn
  simp [this]
theorem pv_ne {pl : List Int} {a b x : Int} (h0 : 0 ≤ a) (h1 : a < b) (h2 : b - a < pl.length) : pv (pl.set (pix pl b) x) a = pv pl a := by
  unfold pv
  rw [pix_set]
  have := pix_ne (pl := pl) h0 h1 h2
  simp only [List.getD_eq_getElem?_getD]
  rw [List.getElem?_set_ne (Ne.symm this)]
inductive Ow (n : Nat) (T B : Int) (pl : List Int) (nf : Int) : Int → Option Int → Bool → Option O → Prop where
  | idle : Ow n T B pl nf B none false none
  | u1 {o : O} (hok : o.ok = false) (hn : o.nx = .fn n_deque_push1 []) (hx : o.x = nf) : Ow n T B pl nf B none true (some o)
  | u2 {o : O} (hok : o.ok = false) (hn : o.nx = .fn n_deque_push2 []) (hx : o.x = nf) (hb : o.b = B) : Ow n T B pl nf B none true (some o)
  | u3 {o : O} (hn : o.nx = .fn n_deque_push3 []) (hx : o.x = nf) (hb : o.b = B) (hr : B - T < n) : Ow n T B pl nf B none true (some o)
  | u4 {o : O} (hn : o.nx = .fn n_deque_push4 []) (hx : o.x = nf) (hb : o.b = B) (hr : B - T < n) (hv : pv pl B = nf) : Ow n T B pl nf B none true (some o)
  | o1 {o : O} (hok : o.ok = false) (hn : o.nx = .fn n_deque_pop1 []) : Ow n T B pl nf B none false (some o)
  | o2 {o : O} (hok : o.ok = false) (hn : o.nx = .fn n_deque_pop2 []) (hb : o.b = B - 1) : Ow n T B pl nf B none false (some o)
  | o3 {o : O} (hok : o.ok = false) (hn : o.nx = .fn n_deque_pop3 []) (hb : o.b = B) : Ow n T B pl nf (B + 1) none false (some o)
  | o4x {o : O} (hn : o.nx = .fn n_deque_pop4 []) (hb : o.b = B) (h0 : 0 ≤ o.t) (ht : o.t < B) : Ow n T B pl nf B (some (pv pl B)) false (some o)
  | o4 {o : O} (hok : o.ok = false) (hn : o.nx = .fn n_deque_pop4 []) (hb : o.b = B) (h0 : 0 ≤ o.t) (ht : o.t = B) (hT : B ≤ T) : Ow n T B pl nf (B + 1) none false (some o)
  | o5 {o : O} (hn : o.nx = .fn n_deque_pop5 []) (hb : o.b = B) (h0 : 0 ≤ o.t) (ht : o.t = B) (hT : B ≤ T) (hx : T = B → o.x = pv pl B) : Ow n T B pl nf (B + 1) none false (some o)
  | o6 {o : O} (hn : o.nx = .fn n_deque_pop6 []) (hb : o.b = B) (hT : T = B + 1) : Ow n T B pl nf (B + 1) (if o.ok = true then some o.x else none) false (some o)
theorem Ow.mvT {n : Nat} {T T' B : Int} {pl : List Int} {nf E : Int} {fl : Option Int} {pu : Bool} {o : Option O} (h : Ow n T B pl nf E fl pu o) (h1 : T ≤ T') (h2 : T' ≤ E) : Ow n T' B pl nf E fl pu o := by
  cases h with
  | idle => exact .idle
  | u1 hok hn hx => exact .u1 hok hn hx
  | u2 hok hn hx hb => exact .u2 hok hn hx hb
  | u3 hn hx hb hr => exact .u3 hn hx hb (by omega)
  | u4 hn hx hb hr hv => exact .u4 hn hx hb (by omega) hv
  | o1 hok hn => exact .o1 hok hn
  | o2 hok hn hb => exact .o2 hok hn hb
  | o3 hok hn hb => exact .o3 hok hn hb
  | o4x hn hb h0 ht => exact .o4x hn hb h0 ht
  | o4 hok hn hb h0 ht hT => exact .o4 hok hn hb h0 ht (by omega)
  | o5 hn hb h0 ht hT hx => exact .o5 hn hb h0 ht (by omega) fun e => hx (by omega)
  | o6 hn hb hT => exact .o6 hn hb (by omega)
inductive Thp (T E : Int) (pl : List Int) : Option O → Prop where
  | gone : Thp T E pl none
  | s1 {o : O} (hok : o.ok = false) (hn : o.nx = .fn n_deque_steal1 []) : Thp T E pl (some o)
  | s2 {o : O} (hok : o.ok = false) (hn : o.nx = .fn n_deque_steal2 []) (h0 : 0 ≤ o.t) (ht : o.t ≤ T) : Thp T E pl (some o)
  | s3 {o : O} (hok : o.ok = false) (hn : o.nx = .fn n_deque_steal3 []) (h0 : 0 ≤ o.t) (ht : o.t ≤ T) (he : o.t = T → T < E) : Thp T E pl (some o)
  | s4 {o : O} (hn : o.nx = .fn n_deque_steal4 []) (h0 : 0 ≤ o.t) (ht : o.t ≤ T) (he : o.t = T → T < E) (hx : o.t = T → o.x = pv pl T) : Thp T E pl (some o)
theorem Thp.mv {T T' E E' : Int} {pl pl' : List Int} {o : Option O} (h : Thp T E pl o) (hT : T ≤ T') (hE : T' = T → T < E → T < E') (hp : T' = T → T < E → pv pl' T = pv pl T) : Thp T' E' pl' o := by
  cases h with
  | gone => exact .gone
  | s1 hok hn => exact .s1 hok hn
  | s2 hok hn h0 ht => exact .s2 hok hn h0 (by omega)
  | s3 hok hn h0 ht he =>
    refine .s3 hok hn h0 (by omega) fun e => ?_
    have e1 : T' = T := by omega
    rw [e1]
    exact hE e1 (he (by omega))
  | s4 hn h0 ht he hx =>
    refine .s4 hn h0 (by omega) (fun e => ?_) fun e => ?_
    · have e1 : T' = T := by omega
      rw [e1]
      exact hE e1 (he (by omega))
    · have e1 : T' = T := by omega
      rw [e1, hp e1 (he (by omega))]
      exact hx (by omega)
structure Iv (n th : Nat) (s : S) (E : Int) (L : List Int) (fl : Option Int) (pu : Bool) (nf : Int) : Prop where
  hn : 1 ≤ n ∧ n ≤ 8
  hl : s.pl.length = n
  t0 : 0 ≤ s.top
  lL : (L.length : Int) = E - s.top
  ln : L.length ≤ n
  en : E ≤ nf
  nm : nf + (if pu = true then 1 else 0) ≤ 64
  lv : ∀ i, i < L.length → pv s.pl (s.top + i) = L.getD i 0
  ow : Ow n s.top s.bot s.pl nf E fl pu (s.op 0)
  tv : ∀ w, 1 ≤ w → Thp s.top E s.pl (s.op w)
  no : ∀ w, th < w → s.op w = none
inductive Oc (pu : Bool) (nf : Int) (all : List Int) (w : Nat) : Bool → Bool → Int → Bool → Int → List Int → Prop where
  | go {all' : List Int} (h : all'.Perm all) : Oc pu nf all w false false 0 pu nf all'
  | full (hw : w = 0) (hp : pu = true) : Oc pu nf all w true false 0 false (nf + 1) all
  | push {all' : List Int} (hw : w = 0) (hp : pu = true) (h : all'.Perm (nf :: all)) : Oc pu nf all w true true nf false (nf + 1) all'
  | none (hp : w = 0 → pu = false) : Oc pu nf all w true false 0 pu nf all
  | take {x : Int} {all' : List Int} (hp : w = 0 → pu = false) (h : all.Perm (x :: all')) : Oc pu nf all w true true x pu nf all'
def rkF (g : Nat) : Nat := if g = n_deque_push1 then 4 else if g = n_deque_push2 then 3 else if g = n_deque_push3 then 2 else if g = n_deque_push4 then 1 else
  if g = n_deque_pop1 then 6 else if g = n_deque_pop2 then 5 else if g = n_deque_pop3 then 4 else if g = n_deque_pop4 then 3 else if g = n_deque_pop5 then 2 else if g = n_deque_pop6 then 1 else
  if g = n_deque_steal1 then 4 else if g = n_deque_steal2 then 3 else if g = n_deque_steal3 then 2 else if g = n_deque_steal4 then 1 else 0
def rk : Option O → Nat
  | none => 0
  | some o => match o.nx with
    | .fn g _ => rkF g
    | _ => 0
theorem rk_fn {o : O} {g : Nat} {cs : List AV} (h : o.nx = .fn g cs) : rk (some o) = rkF g := by simp [rk, h]
section
variable {n th : Nat} {s s2 : S} {E E' nf nf' : Int} {L L' : List Int} {fl fl' : Option Int} {pu pu' : Bool}
theorem Iv.mk0 (h : Iv n th s E L fl pu nf) (oo : Option O) (hop : s2.op = upd s.op 0 oo) (hl : s2.pl.length = s.pl.length) (hT : s.top ≤ s2.top) (hLL : (L'.length : Int) = E' - s2.top) (hln : L'.length ≤ n) (hen : E' ≤ nf') (hnf : nf' + (if pu' = true then 1 else 0) ≤ 64)
    (hlv : ∀ i, i < L'.length → pv s2.pl (s2.top + i) = L'.getD i 0) (how : Ow n s2.top s2.bot s2.pl nf' E' fl' pu' oo) (hE : s2.top = s.top → s.top < E → s.top < E') (hp : s2.top = s.top → s.top < E → pv s2.pl s.top = pv s.pl s.top) : Iv n th s2 E' L' fl' pu' nf' := by
  refine ⟨h.hn, by rw [hl]; exact h.hl, by have := h.t0; omega, hLL, hln, hen, hnf, hlv, by rw [hop, upd_same]; exact how, fun w hw => ?_, fun w hw => ?_⟩
  · rw [hop, upd_ne _ _ (by omega)]
    exact (h.tv w hw).mv hT hE hp
  · rw [hop]
    by_cases e : w = 0
    · subst e; omega
    · rw [upd_ne _ _ e]; exact h.no w hw
theorem Iv.mkW {w : Nat} (h : Iv n th s E L fl pu nf) (hw : 1 ≤ w ∧ w ≤ th) (oo : Option O) (hop : s2.op = upd s.op w oo) (hpl : s2.pl = s.pl) (hbot : s2.bot = s.bot) (hT : s.top ≤ s2.top) (hLL : (L'.length : Int) = E - s2.top) (hln : L'.length ≤ n)
    (hlv : ∀ i, i < L'.length → pv s2.pl (s2.top + i) = L'.getD i 0) (hth : Thp s2.top E s.pl oo) : Iv n th s2 E L' fl pu nf := by
  have hTE : s2.top ≤ E := by omega
  refine ⟨h.hn, by rw [hpl]; exact h.hl, by have := h.t0; omega, hLL, hln, h.en, h.nm, hlv, ?_, fun v hv => ?_, fun v hv => ?_⟩
  · rw [hop, upd_ne _ _ (by omega), hpl, hbot]
    exact h.ow.mvT hT hTE
  · rw [hop, hpl]
    by_cases e : v = w
    · subst e; rw [upd_same]; exact hth
    · rw [upd_ne _ _ e]
      exact (h.tv v hv).mv hT (fun _ h => h) fun _ _ => rfl
  · rw [hop, upd_ne _ _ (by omega)]
    exact h.no v hv
theorem upd_put (s1 : S) (w : Nat) (o1 : O) (h : s1.op = s.op) : (put s1 w o1).op = upd s.op w (some o1) := by simp [put, h]
theorem last_split {L : List Int} {m : Nat} (h : L.length = m + 1) : L = L.take m ++ [L.getD m 0] := by
  have h1 := List.take_append_drop m L
  have h2 : L.drop m = [L.getD m 0] := by
    rw [List.drop_eq_getElem_cons (by omega), List.drop_eq_nil_of_le (by omega)]
    simp [show m < L.length by omega]
  rw [h2] at h1
  exact h1.symm
theorem Iv.step {H : Hp} {d w : Nat} {o : O} {K : AV → Hp → Prop} (h : Iv n th s E L fl pu nf) (hq : Dq H d s) (hth : th ≤ 6) (hw : w ≤ th) (ho : s.op w = some o)
    (hK : ∀ H' s' E' L' fl' pu' nf' e ok x, Dq H' d s' → Iv n th s' E' L' fl' pu' nf' → Oc pu nf (L ++ fl.toList) w e ok x pu' nf' (L' ++ fl'.toList) → Fd d s H H' → s'.ip = s.ip → (∀ v, v ≠ w → s'.op v = s.op v) → (∀ o', s'.op w = some o' → o'.id = o.id) →
      rk (s'.op w) + 1 ≤ rk (s.op w) → (s'.op w).isSome = !e → K (.tup [Bo e, I x, Bo ok]) H') : callK Try.prog σ n_deque_Deque_Step [.ptr d 0, I w] H K := by
  have hw65 : w < 65 := by omega
  have hl := h.hl
  have hn8 := h.hn
  have hlL := h.lL
  have hln := h.ln
  have hen := h.en
  have hnm : nf ≤ 64 := by have := h.nm; split at this <;> omega
  have ht0 := h.t0
  by_cases hw0 : w = 0
  · subst hw0
    have how := h.ow
    rw [ho] at how
    have hlv := h.lv
    have on : ∀ (H' : Hp) (s1 : S) (o1 : O) (g : Nat) (L' : List Int) (fl' : Option Int) (E' : Int), Dq H' d (put s1 0 { o1 with nx := .fn g [] }) → Fd d s H H' → s1.op = s.op → s1.ip = s.ip → o1.id = o.id → s1.pl.length = s.pl.length → s.top ≤ s1.top → (L'.length : Int) = E' - s1.top → L'.length ≤ n → E' ≤ nf → (∀ i, i < L'.length → pv s1.pl (s1.top + i) = L'.getD i 0) →
        Ow n s1.top s1.bot s1.pl nf E' fl' pu (some { o1 with nx := .fn g [] }) → (s1.top = s.top → s.top < E → s.top < E') → (s1.top = s.top → s.top < E → pv s1.pl s.top = pv s.pl s.top) → (L' ++ fl'.toList).Perm (L ++ fl.toList) → rkF g + 1 ≤ rk (some o) → K (.tup [Bo false, I 0, Bo false]) H' := by
      intro H' s1 o1 g L' fl' E' hd f e1 e2 e3 e4 e5 e6 e7 e8 e9 e10 e11 e12 e13 e14
      have hop := upd_put (s := s) s1 0 { o1 with nx := .fn g [] } e1
      refine hK H' _ E' L' fl' pu nf false false 0 hd (h.mk0 (some { o1 with nx := .fn g [] }) hop e4 e5 e6 e7 e8 h.nm e9 e10 e11 e12) (.go e13) f e2 (fun v hv => by rw [hop, upd_ne _ _ hv]) (fun o' ho' => ?_) ?_ ?_
      · rw [hop, upd_same] at ho'; cases ho'; exact e3
      · rw [hop, upd_same, ho, rk_fn (cs := []) rfl]; exact e14
      · rw [hop, upd_same]; rfl
    have off : ∀ (s1 : S) (ok : Bool) (x : Int) (L' : List Int) (fl' : Option Int) (E' : Int) (pu' : Bool) (nf' : Int), s1.op = s.op → s1.ip = s.ip → s1.pl.length = s.pl.length → s.top ≤ s1.top → (L'.length : Int) = E' - s1.top → L'.length ≤ n → E' ≤ nf' → nf' + (if pu' = true then 1 else 0) ≤ 64 → (∀ i, i < L'.length → pv s1.pl (s1.top + i) = L'.getD i 0) →
        Ow n s1.top s1.bot s1.pl nf' E' fl' pu' none → (s1.top = s.top → s.top < E → s.top < E') → (s1.top = s.top → s.top < E → pv s1.pl s.top = pv s.pl s.top) → Oc pu nf (L ++ fl.toList) 0 true ok x pu' nf' (L' ++ fl'.toList) → 1 ≤ rk (some o) →
        ∀ H', Dq H' d { s1 with op := upd s.op 0 none } → Fd d s H H' → K (.tup [Bo true, I x, Bo ok]) H' := by
      intro s1 ok x L' fl' E' pu' nf' e1 e2 e4 e5 e6 e7 e8 e8' e9 e10 e11 e12 e13 e14 H' hd f
      refine hK H' _ E' L' fl' pu' nf' true ok x hd (h.mk0 none rfl e4 e5 e6 e7 e8 e8' e9 e10 e11 e12) e13 f e2 (fun v hv => upd_ne _ _ hv) (fun o' ho' => ?_) ?_ ?_
      · have : upd s.op 0 none 0 = some o' := ho'
        rw [upd_same] at this; cases this
      · show rk (upd s.op 0 none 0) + 1 ≤ _
        rw [upd_same, ho]; show 0 + 1 ≤ _; omega
      · show (upd s.op 0 none 0).isSome = _
        rw [upd_same]; rfl
    cases how with
    | u1 hok hn hx =>
      refine Step_fn hq hw65 ho hn ph_push1 fun H' h' f => on H' _ _ n_deque_push2 L none _ h' f rfl rfl rfl rfl (Int.le_refl _) hlL hln hen hlv (.u2 hok rfl hx rfl) (fun _ h => h) (fun _ _ => rfl) (List.Perm.refl _) ?_
      rw [rk_fn hn]; decide
    | u2 hok hn hx hb =>
      have p := ph_push2 (σ := σ) (d := d) (w := 0) (s := s) (o := o) (wr64 (by omega) (by omega))
      by_cases e : o.b - s.top = s.pl.length
      · rw [if_pos e] at p
        refine Step_nil hq hw65 ho hn p fun H' h' f => ?_
        have k := off (acc s 0 (-1000) false) false 0 L none s.bot false (nf + 1) rfl rfl rfl (Int.le_refl _) hlL hln (by omega) (by have := h.nm; simp at this ⊢; omega) hlv .idle (fun _ h => h) (fun _ _ => rfl) (.full rfl rfl) (by rw [rk_fn hn]; decide) H' h' f
        simpa [hok] using k
      · rw [if_neg e] at p
        refine Step_fn hq hw65 ho hn p fun H' h' f => on H' _ _ n_deque_push3 L none _ h' f rfl rfl rfl rfl (Int.le_refl _) hlL hln hen hlv (.u3 rfl hx hb ?_) (fun _ h => h) (fun _ _ => rfl) (List.Perm.refl _) ?_
        · show s.bot - s.top < n
          omega
        · rw [rk_fn hn]; decide
    | u3 hn hx hb hr =>
      have p := ph_push3 (σ := σ) (d := d) (w := 0) (s := s) (o := o) (by omega) (by omega) (by omega)
      have ea : (atI s o.b).toNat = pix s.pl s.bot := by rw [hb]; rfl
      rw [ea] at p
      refine Step_fn hq hw65 ho hn p fun H' h' f => on H' _ _ n_deque_push4 L none _ h' f rfl rfl rfl (by simp) (Int.le_refl _) hlL hln hen (fun i hi => ?_) (.u4 rfl hx hb hr ?_) (fun _ h => h) (fun _ ht => ?_) (List.Perm.refl _) ?_
      · show pv (s.pl.set (pix s.pl s.bot) o.x) (s.top + i) = _
        rw [pv_ne (by omega) (by omega) (by omega)]
        exact hlv i hi
      · show pv (s.pl.set (pix s.pl s.bot) o.x) s.bot = nf
        rw [pv_same (by omega) (by omega)]
        exact hx
      · show pv (s.pl.set (pix s.pl s.bot) o.x) s.top = _
        exact pv_ne (by omega) (by omega) (by omega)
      · rw [rk_fn hn]; decide
    | u4 hn hx hb hr hv =>
      have p := ph_push4 (σ := σ) (d := d) (w := 0) (s := s) (o := o) (wr64 (by omega) (by omega))
      refine Step_nil hq hw65 ho hn p fun H' h' f => ?_
      have k := off { acc s 0 (-1001) true with bot := o.b + 1 } true nf (L ++ [nf]) none (s.bot + 1) false (nf + 1) rfl rfl rfl (Int.le_refl _) (by simp; omega) (by simp; omega) (by omega) (by have := h.nm; simp at this ⊢; omega) (fun i hi => ?_) (by rw [hb]; exact .idle) (fun _ h => by omega) (fun _ _ => rfl) (.push rfl rfl ?_) (by rw [rk_fn hn]; decide) H' h' f
      · simpa [hx] using k
      · show pv s.pl (s.top + i) = _
        simp only [List.length_append, List.length_cons, List.length_nil] at hi
        by_cases e : i = L.length
        · rw [show s.top + (i : Int) = s.bot by omega, hv, e]; simp
        · have hlt : i < L.length := by omega
          rw [hlv i hlt]
          simp only [List.getD_eq_getElem?_getD]
          rw [List.getElem?_append_left hlt]
      · simp only [Option.toList, List.append_nil]
        exact List.perm_append_singleton nf L
    | o1 hok hn =>
      have p := ph_pop1 (σ := σ) (d := d) (w := 0) (s := s) (o := o) (wr64 (by omega) (by omega))
      refine Step_fn hq hw65 ho hn p fun H' h' f => on H' _ _ n_deque_pop2 L none _ h' f rfl rfl rfl rfl (Int.le_refl _) hlL hln hen hlv (.o2 hok rfl rfl) (fun _ h => h) (fun _ _ => rfl) (List.Perm.refl _) ?_
      rw [rk_fn hn]; decide
    | o2 hok hn hb =>
      refine Step_fn hq hw65 ho hn ph_pop2 fun H' h' f => on H' _ _ n_deque_pop3 L none s.bot h' f rfl rfl rfl rfl (Int.le_refl _) hlL hln hen hlv ?_ (fun _ h => h) (fun _ _ => rfl) (List.Perm.refl _) ?_
      · have := Ow.o3 (n := n) (T := s.top) (B := o.b) (pl := s.pl) (nf := nf) (o := { o with nx := .fn n_deque_pop3 [] }) hok rfl rfl
        rw [show o.b + 1 = s.bot by omega] at this
        exact this
      · rw [rk_fn hn]; decide
    | o3 hok hn hb =>
      have p := ph_pop3 (σ := σ) (d := d) (w := 0) (s := s) (o := o)
      by_cases e : o.b < s.top
      · rw [if_pos e] at p
        refine Step_fn hq hw65 ho hn p fun H' h' f => on H' _ _ n_deque_pop6 L none (s.bot + 1) h' f rfl rfl rfl rfl (Int.le_refl _) hlL hln hen hlv ?_ (fun _ h => h) (fun _ _ => rfl) (List.Perm.refl _) ?_
        · have := Ow.o6 (n := n) (T := s.top) (B := s.bot) (pl := s.pl) (nf := nf) (o := { o with t := s.top, nx := .fn n_deque_pop6 [] }) rfl hb (by omega)
          simpa [hok] using this
        · rw [rk_fn hn]; decide
      · rw [if_neg e] at p
        by_cases e2 : s.top = o.b
        · refine Step_fn hq hw65 ho hn p fun H' h' f => on H' _ _ n_deque_pop4 L none (s.bot + 1) h' f rfl rfl rfl rfl (Int.le_refl _) hlL hln hen hlv (.o4 hok rfl hb ht0 (by show s.top = s.bot; omega) (by show s.bot ≤ s.top; omega)) (fun _ h => h) (fun _ _ => rfl) (List.Perm.refl _) ?_
          rw [rk_fn hn]; decide
        · have hlen : L.length = (L.length - 1) + 1 := by omega
          have hsp := last_split hlen
          have hla : L.getD (L.length - 1) 0 = pv s.pl s.bot := by
            have := hlv (L.length - 1) (by omega)
            rw [← this]
            congr 1
            omega
          refine Step_fn hq hw65 ho hn p fun H' h' f => on H' _ _ n_deque_pop4 (L.take (L.length - 1)) (some (pv s.pl s.bot)) s.bot h' f rfl rfl rfl rfl (Int.le_refl _) (by show _ = s.bot - s.top; rw [List.length_take]; omega) (by rw [List.length_take]; omega) (by omega) (fun i hi => ?_) (.o4x rfl hb ht0 (by show s.top < s.bot; omega)) (fun _ h => by omega) (fun _ _ => rfl) ?_ ?_
          · rw [List.length_take] at hi
            have h1 := hlv i (by omega)
            show pv s.pl (s.top + i) = _
            rw [h1]
            simp only [List.getD_eq_getElem?_getD, List.getElem?_take]
            rw [if_pos (by omega)]
          · rw [← hla]
            simp only [Option.toList, List.append_nil]
            rw [← hsp]
          · rw [rk_fn hn]; decide
    | o4x hn hb h0 ht =>
      have p := ph_pop4 (σ := σ) (d := d) (w := 0) (s := s) (o := o) (by omega) (by omega) (by omega)
      have e : o.t < o.b := by omega
      rw [if_pos e, if_pos e] at p
      refine Step_nil hq hw65 ho hn p fun H' h' f => ?_
      have ea : s.pl.getD (atI s o.b).toNat 0 = pv s.pl s.bot := by rw [hb]; rfl
      have k := off (acc s 0 (-1002 - atI s o.b) false) true (pv s.pl s.bot) L none s.bot false nf rfl rfl rfl (Int.le_refl _) hlL hln hen h.nm hlv .idle (fun _ h => h) (fun _ _ => rfl) (.take (fun _ => rfl) ?_) (by rw [rk_fn hn]; decide) H' h' f
      · simp only [ea]
        exact k
      · simp only [Option.toList, List.append_nil]
        exact List.perm_append_singleton _ L
    | o4 hok hn hb h0 ht hT =>
      have p := ph_pop4 (σ := σ) (d := d) (w := 0) (s := s) (o := o) (by omega) (by omega) (by omega)
      have e : ¬ o.t < o.b := by omega
      rw [if_neg e, if_neg e] at p
      have ea : s.pl.getD (atI s o.b).toNat 0 = pv s.pl s.bot := by rw [hb]; rfl
      rw [ea] at p
      refine Step_fn hq hw65 ho hn p fun H' h' f => on H' _ _ n_deque_pop5 L none _ h' f rfl rfl rfl rfl (Int.le_refl _) hlL hln hen hlv (.o5 rfl hb h0 ht hT fun _ => rfl) (fun _ h => h) (fun _ _ => rfl) (List.Perm.refl _) ?_
      rw [rk_fn hn]; decide
    | o5 hn hb h0 ht hT hx =>
      have p := ph_pop5 (σ := σ) (d := d) (w := 0) (s := s) (o := o) (wr64 (by omega) (by omega))
      by_cases e : s.top = o.t
      · simp only [e, if_true, decide_true] at p
        have hlen : L.length = 0 + 1 := by omega
        have hsp := last_split hlen
        have hxx : o.x = L.getD 0 0 := by
          rw [hx (by omega), ← hlv 0 (by omega)]
          congr 1
          omega
        refine Step_fn hq hw65 ho hn p fun H' h' f => on H' _ _ n_deque_pop6 [] (some o.x) (s.bot + 1) h' f rfl rfl rfl rfl (by show s.top ≤ o.t + 1; omega) (by show (0 : Int) = s.bot + 1 - (o.t + 1); omega) (by simp) hen (fun i hi => by simp at hi) ?_ (fun e1 => ?_) (fun _ _ => rfl) ?_ ?_
        · have := Ow.o6 (n := n) (T := o.t + 1) (B := s.bot) (pl := s.pl) (nf := nf) (o := { o with ok := true, nx := .fn n_deque_pop6 [] }) rfl hb (by omega)
          simpa using this
        · exfalso
          have : o.t + 1 = s.top := e1
          omega
        · rw [hsp, ← hxx]; simp
        · rw [rk_fn hn]; decide
      · simp only [e, if_false, decide_false] at p
        refine Step_fn hq hw65 ho hn p fun H' h' f => on H' _ _ n_deque_pop6 L none (s.bot + 1) h' f rfl rfl rfl rfl (Int.le_refl _) hlL hln hen hlv ?_ (fun _ h => h) (fun _ _ => rfl) (List.Perm.refl _) ?_
        · have := Ow.o6 (n := n) (T := s.top) (B := s.bot) (pl := s.pl) (nf := nf) (o := { o with ok := false, nx := .fn n_deque_pop6 [] }) rfl hb (by omega)
          simpa using this
        · rw [rk_fn hn]; decide
    | o6 hn hb hT =>
      have p := ph_pop6 (σ := σ) (d := d) (w := 0) (s := s) (o := o) (wr64 (by omega) (by omega))
      have hL : L = [] := List.length_eq_zero_iff.1 (by omega)
      subst hL
      refine Step_nil hq hw65 ho hn p fun H' h' f => ?_
      have k := fun ok x hoc => off { acc s 0 (-1001) true with bot := o.b + 1 } ok x [] none (s.bot + 1) false nf rfl rfl rfl (Int.le_refl _) hlL hln hen h.nm hlv (by rw [hb]; exact .idle) (fun _ h => h) (fun _ _ => rfl) hoc (by rw [rk_fn hn]; decide) H' h' f
      cases hok : o.ok with
      | true =>
        have := k true o.x (.take (fun _ => rfl) (by simp [hok]))
        simpa using this
      | false =>
        have := k false 0 (by simp only [hok]; exact .none fun _ => rfl)
        simpa using this
  · have hw1 : 1 ≤ w ∧ w ≤ th := by omega
    have htv := h.tv w hw1.1
    rw [ho] at htv
    have hlv := h.lv
    have on : ∀ (H' : Hp) (s1 : S) (o1 : O) (g : Nat), Dq H' d (put s1 w { o1 with nx := .fn g [] }) → Fd d s H H' → s1.op = s.op → s1.ip = s.ip → o1.id = o.id → s1.pl = s.pl → s1.bot = s.bot → s1.top = s.top → Thp s.top E s.pl (some { o1 with nx := .fn g [] }) → rkF g + 1 ≤ rk (some o) → K (.tup [Bo false, I 0, Bo false]) H' := by
      intro H' s1 o1 g hd f e1 e2 e3 e4 e5 e6 e7 e8
      have hop := upd_put (s := s) s1 w { o1 with nx := .fn g [] } e1
      have et : (put s1 w { o1 with nx := .fn g [] }).top = s.top := e6
      refine hK H' _ E L fl pu nf false false 0 hd (h.mkW hw1 (some { o1 with nx := .fn g [] }) hop e4 e5 (by rw [et]; exact Int.le_refl _) (by rw [et]; exact hlL) hln (fun i hi => ?_) (by rw [et]; exact e7)) (.go (List.Perm.refl _)) f e2 (fun v hv => by rw [hop, upd_ne _ _ hv]) (fun o' ho' => ?_) ?_ ?_
      · show pv s1.pl (s1.top + i) = _
        rw [e4, e6]; exact hlv i hi
      · rw [hop, upd_same] at ho'; cases ho'; exact e3
      · rw [hop, upd_same, ho, rk_fn (cs := []) rfl]; exact e8
      · rw [hop, upd_same]; rfl
    have off : ∀ (s1 : S) (ok : Bool) (x : Int) (L' : List Int), s1.op = s.op → s1.ip = s.ip → s1.pl = s.pl → s1.bot = s.bot → s.top ≤ s1.top → (L'.length : Int) = E - s1.top → L'.length ≤ n → (∀ i, i < L'.length → pv s.pl (s1.top + i) = L'.getD i 0) →
        Oc pu nf (L ++ fl.toList) w true ok x pu nf (L' ++ fl.toList) → 1 ≤ rk (some o) →
        ∀ H', Dq H' d { s1 with op := upd s.op w none } → Fd d s H H' → K (.tup [Bo true, I x, Bo ok]) H' := by
      intro s1 ok x L' e1 e2 e4 e5 e6 e7 e8 e9 e13 e14 H' hd f
      refine hK H' _ E L' fl pu nf true ok x hd (h.mkW hw1 none rfl e4 e5 e6 e7 e8 (fun i hi => ?_) .gone) e13 f e2 (fun v hv => upd_ne _ _ hv) (fun o' ho' => ?_) ?_ ?_
      · show pv s1.pl (s1.top + i) = _
        rw [e4]; exact e9 i hi
      · have : upd s.op w none w = some o' := ho'
        rw [upd_same] at this; cases this
      · show rk (upd s.op w none w) + 1 ≤ _
        rw [upd_same, ho]; show 0 + 1 ≤ _; omega
      · show (upd s.op w none w).isSome = _
        rw [upd_same]; rfl
    cases htv with
    | s1 hok hn =>
      refine Step_fn hq hw65 ho hn ph_steal1 fun H' h' f => on H' _ _ n_deque_steal2 h' f rfl rfl rfl rfl rfl rfl (.s2 hok rfl ht0 (Int.le_refl _)) ?_
      rw [rk_fn hn]; decide
    | s2 hok hn h0 ht =>
      have p := ph_steal2 (σ := σ) (d := d) (w := w) (s := s) (o := o)
      by_cases e : s.bot ≤ o.t
      · rw [if_pos e] at p
        refine Step_nil hq hw65 ho hn p fun H' h' f => ?_
        have k := off (acc s w (-1001) false) false 0 L rfl rfl rfl rfl (Int.le_refl _) hlL hln hlv (.none fun e => absurd e hw0) (by rw [rk_fn hn]; decide) H' h' f
        simpa [hok] using k
      · rw [if_neg e] at p
        have hbe : s.bot ≤ E := by
          have := h.ow
          generalize s.op 0 = oo at this
          cases this <;> omega
        refine Step_fn hq hw65 ho hn p fun H' h' f => on H' _ _ n_deque_steal3 h' f rfl rfl rfl rfl rfl rfl (.s3 hok rfl h0 ht fun e1 => ?_) ?_
        · have : o.t = s.top := e1
          omega
        · rw [rk_fn hn]; decide
    | s3 hok hn h0 ht he =>
      have p := ph_steal3 (σ := σ) (d := d) (w := w) (s := s) (o := o) h0 (by omega) (by omega)
      refine Step_fn hq hw65 ho hn p fun H' h' f => on H' _ _ n_deque_steal4 h' f rfl rfl rfl rfl rfl rfl (.s4 rfl h0 ht he fun e1 => ?_) ?_
      · have e1 : o.t = s.top := e1
        rw [← e1]; rfl
      · rw [rk_fn hn]; decide
    | s4 hn h0 ht he hx =>
      have p := ph_steal4 (σ := σ) (d := d) (w := w) (s := s) (o := o) (wr64 (by omega) (by omega))
      by_cases e : s.top = o.t
      · simp only [e, if_true, decide_true] at p
        have hlt := he e.symm
        refine Step_nil hq hw65 ho hn p fun H' h' f => ?_
        cases L with
        | nil => simp at hlL; omega
        | cons a L1 =>
          have hlL' : (L1.length : Int) + 1 = E - s.top := by simpa using hlL
          have hxa : o.x = a := by
            rw [hx e.symm]
            have := hlv 0 (by simp)
            simpa using this
          have k := off { acc s w (-1000) true with top := o.t + 1 } true o.x L1 rfl rfl rfl rfl (by show s.top ≤ o.t + 1; omega) (by show _ = E - (o.t + 1); omega) (by simp at hln; omega) (fun i hi => ?_) (.take (fun e => absurd e hw0) (by rw [hxa]; exact List.Perm.refl _)) (by rw [rk_fn hn]; decide) H' h' f
          · simpa using k
          · have := hlv (i + 1) (by simp; omega)
            show pv s.pl (o.t + 1 + i) = _
            rw [show o.t + 1 + (i : Int) = s.top + ((i + 1 : Nat) : Int) by omega, this]
            simp
      · simp only [e, if_false, decide_false] at p
        refine Step_nil hq hw65 ho hn p fun H' h' f => ?_
        have k := off (acc s w (-1000) true) false 0 L rfl rfl rfl rfl (Int.le_refl _) hlL hln hlv (.none fun e => absurd e hw0) (by rw [rk_fn hn]; decide) H' h' f
        simpa using k
end
end Go.Proofs.Ytnloolhaojoimaa.Ev
namespace Go.Proofs.Ytnloolhaojoimaa.Ev
set_option linter.unusedVariables false
set_option linter.unusedSimpArgs false
variable {σ : Sig}
structure Ta (P K : List Int) (all : List Int) (nf : Int) : Prop where
  lp : P.length = 64
  lk : K.length = 64
  nd : all.Nodup
  mem : ∀ x ∈ all, 0 ≤ x ∧ x < nf
  df : ∀ i : Nat, i < 64 → P.getD i 0 = K.getD i 0 + (if (i : Int) ∈ all then 1 else 0)
  z : ∀ i : Nat, nf ≤ i → i < 64 → P.getD i 0 = 0
  bd : ∀ i : Nat, i < 64 → 0 ≤ K.getD i 0 ∧ P.getD i 0 ≤ 1
theorem Ta.perm {P K all all' : List Int} {nf : Int} (h : Ta P K all nf) (hp : all'.Perm all) : Ta P K all' nf := by
  refine ⟨h.lp, h.lk, hp.nodup_iff.2 h.nd, fun x hx => h.mem x (hp.mem_iff.1 hx), fun i hi => ?_, h.z, h.bd⟩
  rw [h.df i hi]
  simp only [hp.mem_iff]
theorem Ta.full {P K all : List Int} {nf : Int} (h : Ta P K all nf) : Ta P K all (nf + 1) :=
  ⟨h.lp, h.lk, h.nd, fun x hx => by have := h.mem x hx; omega, h.df, fun i h1 h2 => h.z i (by omega) h2, h.bd⟩
theorem getD_set {l : List Int} {m i : Nat} {v : Int} (h : m < l.length) : (l.set m v).getD i 0 = if i = m then v else l.getD i 0 := by
  simp only [List.getD_eq_getElem?_getD, List.getElem?_set]
  by_cases e : m = i
  · subst e; simp [h]
  · have : ¬ i = m := fun h => e h.symm
    rw [if_neg e, if_neg this]
theorem Ta.push {P K all all' : List Int} {nf : Int} {m : Nat} (h : Ta P K all nf) (hm : nf = m) (h64 : m < 64) (hp : all'.Perm (nf :: all)) : Ta (P.set m 1) K all' (nf + 1) := by
  subst hm
  have hno : (m : Int) ∉ all := fun hm => by have := h.mem _ hm; omega
  have h1 : Ta (P.set m 1) K ((m : Int) :: all) (m + 1) := by
    refine ⟨by simp [h.lp], h.lk, List.nodup_cons.2 ⟨hno, h.nd⟩, fun x hx => ?_, fun i hi => ?_, fun i h1 h2 => ?_, fun i hi => ?_⟩
    · rcases List.mem_cons.1 hx with rfl | hx
      · omega
      · have := h.mem x hx; omega
    · rw [getD_set (by rw [h.lp]; exact h64)]
      have hd := h.df i hi
      by_cases e : i = m
      · subst e
        have hz := h.z i (Int.le_refl _) hi
        rw [if_neg hno] at hd
        rw [if_pos rfl, if_pos (by simp)]
        omega
      · have e2 : ¬ (i : Int) = m := by omega
        rw [if_neg e, hd]
        simp only [List.mem_cons, e2, false_or]
    · rw [getD_set (by rw [h.lp]; exact h64), if_neg (by omega)]
      exact h.z i (by omega) h2
    · rw [getD_set (by rw [h.lp]; exact h64)]
      have := h.bd i hi
      split <;> omega
  exact h1.perm hp
theorem Ta.take {P K all all' : List Int} {nf x : Int} (h : Ta P K all nf) (hn : nf ≤ 64) (hp : all.Perm (x :: all')) : ∃ m : Nat, x = m ∧ m < 64 ∧ K.getD m 0 = 0 ∧ Ta P (K.set m (K.getD m 0 + 1)) all' nf := by
  have h1 := h.perm hp.symm
  have hx := h1.mem x (by simp)
  obtain ⟨m, rfl⟩ : ∃ m : Nat, x = m := ⟨x.toNat, by omega⟩
  have hnd := List.nodup_cons.1 h1.nd
  have h64 : m < 64 := by omega
  have hK : K.getD m 0 = 0 := by
    have a := h1.df m h64
    have b := h1.bd m h64
    rw [if_pos (by simp)] at a
    omega
  refine ⟨m, rfl, h64, hK, h1.lp, by simp [h1.lk], hnd.2, fun y hy => h1.mem y (by simp [hy]), fun i hi => ?_, h1.z, fun i hi => ?_⟩
  · rw [getD_set (by rw [h1.lk]; exact h64)]
    have a := h1.df i hi
    by_cases e : i = m
    · subst e
      rw [if_pos (by simp)] at a
      rw [if_pos rfl, if_neg hnd.1, a]
      omega
    · have e2 : ¬ (i : Int) = m := by omega
      simp only [List.mem_cons, e2, false_or] at a
      rw [if_neg e, a]
  · rw [getD_set (by rw [h1.lk]; exact h64)]
    have := h1.bd i hi
    split <;> omega
def cntB (all : List Int) : Nat → Nat
  | 0 => 0
  | n + 1 => cntB all n + if (n : Int) ∈ all then 1 else 0
theorem cntB_nil : ∀ n, cntB [] n = 0
  | 0 => rfl
  | n + 1 => by simp [cntB, cntB_nil n]
theorem cntB_cons {all : List Int} {m : Nat} (h : (m : Int) ∉ all) : ∀ n, cntB ((m : Int) :: all) n = cntB all n + if m < n then 1 else 0
  | 0 => by simp [cntB]
  | n + 1 => by
    rw [cntB, cntB, cntB_cons h n]
    by_cases e : n = m
    · subst e
      simp [h]
    · have e2 : ¬ (n : Int) = m := by omega
      have e3 : (m < n + 1) = (m < n) := propext (by omega)
      simp only [List.mem_cons, e2, false_or, e3]
      exact Nat.add_right_comm _ _ _
theorem cntB_all {N : Nat} : ∀ {all : List Int}, all.Nodup → (∀ x ∈ all, 0 ≤ x ∧ x < N) → cntB all N = all.length
  | [], _, _ => cntB_nil _
  | x :: all, hn, hm => by
    have h1 := List.nodup_cons.1 hn
    have hx := hm x (by simp)
    obtain ⟨m, rfl⟩ : ∃ m : Nat, x = m := ⟨x.toNat, by omega⟩
    rw [cntB_cons h1.1, if_pos (by omega), cntB_all h1.2 fun y hy => hm y (by simp [hy])]
    simp
theorem cntB_le (all : List Int) : ∀ n, cntB all n ≤ n
  | 0 => Nat.le_refl _
  | n + 1 => by
    have := cntB_le all n
    rw [cntB]
    split <;> omega
def tl (P K : List Int) (p : Int) : List AV := (P ++ (K ++ [p])).map I
theorem tl_len {P K : List Int} {p : Int} (h1 : P.length = 64) (h2 : K.length = 64) : (tl P K p).length = 129 := by simp [tl, h1, h2]
theorem tl_push {P K : List Int} {p : Int} (h1 : P.length = 64) (h2 : K.length = 64) : ldL false 1 ((tl P K p).drop 128) = some (I p) := by
  have : (tl P K p).drop 128 = [I p] := by
    unfold tl
    rw [List.map_append, List.drop_append, List.drop_eq_nil_of_le (by simp; omega), List.map_append, List.drop_append, List.drop_eq_nil_of_le (by simp; omega)]
    simp [h1, h2]
  rw [this]; rfl
theorem tl_P {P K : List Int} {p : Int} {i : Nat} (h1 : P.length = 64) (h : i < 64) : ldL false 1 ((tl P K p).drop i) = some (I (P.getD i 0)) := by
  unfold tl
  rw [ldL_map (by simp; omega)]
  congr 2
  rw [List.getElem_append_left (by omega)]
  simp [h1, h]
theorem tl_K {P K : List Int} {p : Int} {i : Nat} (h1 : P.length = 64) (h2 : K.length = 64) (h : i < 64) : ldL false 1 ((tl P K p).drop (64 + i)) = some (I (K.getD i 0)) := by
  unfold tl
  rw [ldL_map (by simp; omega)]
  congr 2
  rw [List.getElem_append_right (by omega), List.getElem_append_left (by omega)]
  simp [h1, h2, h]
theorem tl_sp {P K : List Int} {p q : Int} (h1 : P.length = 64) (h2 : K.length = 64) : overlay (tl P K p) 128 [I q] = tl P K q := by
  rw [ovl_set (by rw [tl_len h1 h2]; omega)]
  unfold tl
  rw [← List.map_set]
  congr 1
  rw [List.set_append_right _ _ (by omega), List.set_append_right _ _ (by omega)]
  simp [h1, h2]
theorem tl_sP {P K : List Int} {p v : Int} {i : Nat} (h1 : P.length = 64) (h : i < 64) : overlay (tl P K p) i [I v] = tl (P.set i v) K p := by
  rw [ovl_set (by simp [tl]; omega)]
  unfold tl
  rw [← List.map_set]
  congr 1
  rw [List.set_append_left _ _ (by omega)]
theorem tl_sK {P K : List Int} {p v : Int} {i : Nat} (h1 : P.length = 64) (h2 : K.length = 64) (h : i < 64) : overlay (tl P K p) (64 + i) [I v] = tl P (K.set i v) p := by
  rw [ovl_set (by rw [tl_len h1 h2]; omega)]
  unfold tl
  rw [← List.map_set]
  congr 1
  rw [List.set_append_right _ _ (by omega), List.set_append_left _ _ (by omega)]
  simp [h1]
section
variable {H : Hp} {t : Nat} {P K0 : List Int} {p : Int} {K : AV → Hp → Prop}
theorem note_go (w x : Int) (ok : Bool) (hK : K (Bo true) H) : callK Try.prog σ n_law20_tally_note [.ptr t 0, I w, Bo false, I x, Bo ok] H K := by
  refine law20_tally_note.run ?_
  simp only [u_not, bnd_some, ifB_lit, Bool.not_false, if_true]
  exact hK
theorem note_no (h1 : P.length = 64) (h2 : K0.length = 64) (hg : H.get t = some (.cells (tl P K0 p) true)) (w x : Int) (hK : ∀ H', (H' = if w = 0 then H.set t (some (.cells (tl P K0 (-1)) true)) else H) → K (Bo true) H') : callK Try.prog σ n_law20_tally_note [.ptr t 0, I w, Bo true, I x, Bo false] H K := by
  refine law20_tally_note.run ?_
  have l1 : ldA false 1 H (.ptr t 128) = some (I p) := by rw [ld_ptr, hg, ldO_cells, tl_push h1 h2]
  have s1 : stA 1 H (.ptr t 128) (I (-1)) = some (H.set t (some (.cells (tl P K0 (-1)) true))) := by
    rw [st_int, hg, stO_cells, if_pos ⟨by rw [tl_len h1 h2]; simp, rfl⟩, tl_sp h1 h2]
  simp only [u_not, bnd_some, ifB_lit, Bool.not_true, Bool.false_eq_true, if_false, n_ptr, sh_ptr, Nat.zero_add, l1, b_eql, s1]
  by_cases e : w = 0
  · simp only [e, decide_true, if_true]
    refine law20_tally_note.J0_step ?_
    simp only [u_not, bnd_some, ifB_lit, Bool.not_false, if_true]
    exact hK _ (by rw [if_pos e])
  · simp only [e, decide_false, Bool.false_eq_true, if_false]
    refine law20_tally_note.J0_step ?_
    simp only [u_not, bnd_some, ifB_lit, Bool.not_false, if_true]
    exact hK _ (by rw [if_neg e])
theorem note_push {m : Nat} (h1 : P.length = 64) (h2 : K0.length = 64) (hm : m < 64) (hg : H.get t = some (.cells (tl P K0 m) true)) (hK : ∀ H', H' = (H.set t (some (.cells (tl P K0 (-1)) true))).set t (some (.cells (tl (P.set m 1) K0 (-1)) true)) → K (Bo true) H') : callK Try.prog σ n_law20_tally_note [.ptr t 0, I 0, Bo true, I m, Bo true] H K := by
  refine law20_tally_note.run ?_
  have l1 : ldA false 1 H (.ptr t 128) = some (I m) := by rw [ld_ptr, hg, ldO_cells, tl_push h1 h2]
  have s1 : stA 1 H (.ptr t 128) (I (-1)) = some (H.set t (some (.cells (tl P K0 (-1)) true))) := by
    rw [st_int, hg, stO_cells, if_pos ⟨by rw [tl_len h1 h2]; simp, rfl⟩, tl_sp h1 h2]
  simp only [u_not, bnd_some, ifB_lit, Bool.not_true, Bool.false_eq_true, if_false, n_ptr, sh_ptr, Nat.zero_add, l1, b_eql, s1, decide_true, if_true]
  refine law20_tally_note.J0_step ?_
  have a1 : ¬ (m : Int) < 0 := by omega
  have a2 : ¬ (m : Int) > 63 := by omega
  have a3 : (m : Int) ≥ 0 := by omega
  have s2 : stA 1 (H.set t (some (.cells (tl P K0 (-1)) true))) (.ptr t m) (I 1) = some ((H.set t (some (.cells (tl P K0 (-1)) true))).set t (some (.cells (tl (P.set m 1) K0 (-1)) true))) := by
    rw [st_int, hp_get_set, if_pos rfl, stO_cells, if_pos ⟨by rw [tl_len h1 h2]; simp; omega, rfl⟩, tl_sP h1 hm]
  simp only [u_not, bnd_some, ifB_lit, Bool.not_true, Bool.false_eq_true, if_false, b_lss, b_gtr, b_geq, a1, a2, a3, decide_false, decide_true, if_true, b_eql, n_ptr, sh_ptr, ixArrN hm, Nat.zero_add, Nat.mul_one, s2]
  exact hK _ rfl
theorem note_take {w : Int} {m : Nat} (h1 : P.length = 64) (h2 : K0.length = 64) (hm : m < 64) (hz : K0.getD m 0 = 0) (hw : w = 0 → p < 0) (hg : H.get t = some (.cells (tl P K0 p) true)) (hK : ∀ H' q, H'.n = H.n → (∀ j, j ≠ t → H'.get j = H.get j) → H'.get t = some (.cells (tl P (K0.set m (K0.getD m 0 + 1)) q) true) → (q = if w = 0 then -1 else p) → K (Bo true) H') : callK Try.prog σ n_law20_tally_note [.ptr t 0, I w, Bo true, I m, Bo true] H K := by
  refine law20_tally_note.run ?_
  have l1 : ldA false 1 H (.ptr t 128) = some (I p) := by rw [ld_ptr, hg, ldO_cells, tl_push h1 h2]
  have s1 : stA 1 H (.ptr t 128) (I (-1)) = some (H.set t (some (.cells (tl P K0 (-1)) true))) := by
    rw [st_int, hg, stO_cells, if_pos ⟨by rw [tl_len h1 h2]; simp, rfl⟩, tl_sp h1 h2]
  simp only [u_not, bnd_some, ifB_lit, Bool.not_true, Bool.false_eq_true, if_false, n_ptr, sh_ptr, Nat.zero_add, l1, b_eql, s1]
  have a1 : ¬ (m : Int) < 0 := by omega
  have a2 : ¬ (m : Int) > 63 := by omega
  have fin : ∀ (H1 : Hp) (q : Int), H1.get t = some (.cells (tl P K0 q) true) → ldA false 1 H1 (.ptr t (64 + m)) = some (I 0) ∧ stA 1 H1 (.ptr t (64 + m)) (I 1) = some (H1.set t (some (.cells (tl P (K0.set m (K0.getD m 0 + 1)) q) true))) := by
    intro H1 q hq
    refine ⟨by rw [ld_ptr, hq, ldO_cells, tl_K h1 h2 hm, hz], ?_⟩
    rw [st_int, hq, stO_cells, if_pos ⟨by rw [tl_len h1 h2]; simp; omega, rfl⟩, tl_sK h1 h2 hm, hz]
    rfl
  have w1 : wr .i64 ((0 : Int) + 1) = 1 := rfl
  by_cases e : w = 0
  · have hp := hw e
    subst e
    simp only [decide_true, if_true]
    refine law20_tally_note.J0_step ?_
    obtain ⟨l2, s2⟩ := fin (H.set t (some (.cells (tl P K0 (-1)) true))) (-1) (by rw [hp_get_set, if_pos rfl])
    have a3 : ¬ p ≥ 0 := by omega
    simp only [u_not, bnd_some, ifB_lit, Bool.not_true, Bool.false_eq_true, if_false, b_lss, b_gtr, b_geq, a1, a2, a3, decide_false, decide_true, if_true, b_eql, n_ptr, sh_ptr, ixArrN hm, Nat.zero_add, Nat.mul_one, l2, b_add, w1, s2]
    refine hK _ (-1) (by simp) (fun j hj => by simp [hj]) (by simp) (by simp)
  · simp only [e, decide_false, Bool.false_eq_true, if_false]
    refine law20_tally_note.J0_step ?_
    obtain ⟨l2, s2⟩ := fin H p hg
    simp only [u_not, bnd_some, ifB_lit, Bool.not_true, Bool.false_eq_true, if_false, b_lss, b_gtr, a1, a2, e, decide_false, b_eql, n_ptr, sh_ptr, ixArrN hm, Nat.zero_add, Nat.mul_one, l2, b_add, w1, s2]
    refine hK _ p (by simp) (fun j hj => by simp [hj]) (by simp) (by simp [e])
end
end Go.Proofs.Ytnloolhaojoimaa.Ev
namespace Go.Proofs.Ytnloolhaojoimaa.Ev
set_option linter.unusedVariables false
set_option maxRecDepth 100000
set_option maxHeartbeats 4000000
def isT : Option (AV × Hp) → Bool
  | some (.lit (.bool b), _) => b
  | _ => false
theorem good_of_isT {P : Program} (C : Ctx P) (hm : P.follows .mixedOrders = true) {funs : Nat → Option Func} {ov : Nat → List AV → Hp → Option (AV × Hp)} (hov : ∀ f xs H r H', ov f xs H = some (r, H') → Good P C.σ f xs H r H')
    (hfuns : ∀ f fn, funs f = some fn → P.funcs[f]? = some fn ∧ (fn.name == "runtime.NumGoroutine") = false) {L d f : Nat} {xs : List AV} (hx : noIds xs = true) (h : isT (evF C funs ov L d f xs Hp.empty) = true) (H : Hp) : Good P C.σ f xs H (.lit (.bool true)) H := by
  cases he : evF C funs ov L d f xs Hp.empty with
  | none => rw [he] at h; cases h
  | some p =>
    obtain ⟨r, H'⟩ := p
    have hg := evF_ok C hm hov hfuns L d f xs Hp.empty r H' he
    rw [he] at h
    unfold isT at h
    split at h
    · rename_i e; cases e; subst h; exact hg.over hx rfl H
    · cases h
theorem alive_of {σ : Sig} {f : Nat} (h : isT (evF (CX σ [] known_nil) fnT.get noOv 1000 60 f [] Hp.empty) = true) (H : Hp) : Good Try.prog σ f [] H (.lit (.bool true)) H :=
  good_of_isT (CX σ [] known_nil) mixed noOv_ok fnT_ok (L := 1000) (d := 60) rfl h H
end Go.Proofs.Ytnloolhaojoimaa.Ev
namespace Go.Proofs.Ytnloolhaojoimaa.Ev
set_option maxRecDepth 100000
set_option maxHeartbeats 4000000
theorem alive20 {σ : Sig} (H : Hp) : Good Try.prog σ n_law20_alive [] H (.lit (.bool true)) H := alive_of (by kernel_rfl) H
end Go.Proofs.Ytnloolhaojoimaa.Ev
namespace Go.Proofs.Ytnloolhaojoimaa.Ev
open Go.RowKit
set_option linter.unusedVariables false
set_option linter.unusedSimpArgs false
set_option maxRecDepth 100000
theorem d_int {ts : List Nat} {zs : List AV} (h : Sh tiT.get (T_int :: ts) zs) : ∃ n ys, zs = I n :: ys ∧ (-9223372036854775808 ≤ n ∧ n ≤ 9223372036854775807) ∧ Sh tiT.get ts ys := by
  obtain ⟨i, hi, hd, _⟩ := T_int_is
  obtain ⟨n, ys, e, hw, hs⟩ := sh_int hi hd h
  refine ⟨n, ys, e, ?_, hs⟩
  simp [Lit.wf, IntKind.min, IntKind.max, IntKind.signed, IntKind.bits] at hw
  omega
theorem v_one {t sz : Nat} {d : TD} (hT : ∃ i, tiT.get t = some i ∧ i.d = d ∧ i.size = sz) (ha : d.agg = false) {x : AV} (h : ShV tiT.get t x) : Sh tiT.get [t] [x] := by
  obtain ⟨i, hi, hd, _⟩ := hT
  unfold ShV at h
  rw [hi] at h
  simp only [hd, ha] at h
  exact h
theorem v_int {x : AV} (h : ShV tiT.get T_int x) : ∃ n, x = I n ∧ (-9223372036854775808 ≤ n ∧ n ≤ 9223372036854775807) := by
  obtain ⟨n, ys, e, w, hn⟩ := d_int (v_one T_int_is rfl h)
  cases e
  exact ⟨n, rfl, w⟩
theorem v_slice {t e : Nat} (hT : ∃ i, tiT.get t = some i ∧ i.d = .slice e ∧ i.size = 1) (hE : ∃ i, tiT.get e = some i ∧ i.size = 1) {x : AV} (h : ShV tiT.get t x) : ∃ rows, x = .imm 1 rows ∧ ∀ row ∈ rows, Sh tiT.get [e] row := by
  have h1 := v_one hT rfl h
  obtain ⟨i, hi, hd, _⟩ := hT
  obtain ⟨j', hj', hs'⟩ := hE
  rcases sh_slice hi hd h1 with ⟨ys, _, _⟩ | ⟨j, rows, ys, hj, e, hr, hl, hm, hs⟩
  · cases h1 with
    | sl h' hd' he hc hl hm hs => rw [hi] at h'; cases h'; rw [hd] at hd'; cases hd'; rw [hj'] at he; cases he; exact ⟨_, by rw [hs'], hc⟩
    | _ => simp_all
  · rw [hj'] at hj
    cases hj
    rw [hs'] at e
    cases e
    exact ⟨rows, rfl, hr⟩
def ints (l : List Int) : AV := .imm 1 (l.map fun n => [I n])
theorem v_ints {x : AV} (h : ShV tiT.get T_sl_int x) : ∃ l : List Int, x = ints l ∧ ∀ n ∈ l, -9223372036854775808 ≤ n ∧ n ≤ 9223372036854775807 := by
  obtain ⟨rows, rfl, hr⟩ := v_slice T_sl_int_is (by obtain ⟨i, a, _, b⟩ := T_int_is; exact ⟨i, a, b⟩) h
  have key : ∀ rows : List (List AV), (∀ row ∈ rows, Sh tiT.get [T_int] row) → ∃ l : List Int, rows = l.map (fun n => [I n]) ∧ ∀ n ∈ l, -9223372036854775808 ≤ n ∧ n ≤ 9223372036854775807 := by
    intro rows
    induction rows with
    | nil => intro _; exact ⟨[], rfl, fun n h => by cases h⟩
    | cons r rs ih =>
      intro h
      obtain ⟨n, ys, e, hw, hs⟩ := d_int (h r (by simp))
      rw [sh_nil hs] at e
      obtain ⟨l, e2, hl⟩ := ih fun row hr => h row (by simp [hr])
      refine ⟨n :: l, by rw [e, e2]; rfl, fun m hm => ?_⟩
      rcases List.mem_cons.1 hm with rfl | hm
      · exact hw
      · exact hl m hm
  obtain ⟨l, e, hl⟩ := key rows hr
  exact ⟨l, by rw [e]; rfl, hl⟩
def readD : List Nat := [T_int, T_bool, T_sl_bool, T_sl_int]
theorem readD_closed : closedB tiT.get readD = true := by kernel_rfl
end Go.Proofs.Ytnloolhaojoimaa.Ev
namespace Go.Proofs.Ytnloolhaojoimaa.Ev
open Go.RowKit
set_option linter.unusedVariables false
set_option linter.unusedSimpArgs false
set_option maxRecDepth 100000
variable {σ : Sig}
theorem Dq.frame {H H' : Hp} {d t : Nat} {s : S} (h : Dq H d s) (hn : H'.n = H.n) (hg : ∀ j, j ≠ t → H'.get j = H.get j) (h1 : t ≠ d) (h2 : t ≠ s.ip) (h3 : ∀ w o, w < 65 → s.op w = some o → t ≠ o.id) : Dq H' d s :=
  ⟨by rw [hg _ (Ne.symm h1)]; exact h.hd, by rw [hg _ (Ne.symm h2)]; exact h.hp, fun w o hw ho => by
    obtain ⟨a, b, c, e⟩ := h.ho w o hw ho
    exact ⟨by rw [hg _ (Ne.symm (h3 w o hw ho))]; exact a, by rw [hn]; exact b, c, e⟩, h.hi, by rw [hn]; exact h.dl, by rw [hn]; exact h.pl, h.dp⟩
def On (H : Hp) (d t n th : Nat) (s : S) (next : Int) (pu : Bool) : Prop := ∃ E L fl nf P K, Dq H d s ∧ H.get t = some (.cells (tl P K (if pu = true then nf else -1)) true) ∧ Iv n th s E L fl pu nf ∧ Ta P K (L ++ fl.toList) nf ∧ next = nf + (if pu = true then 1 else 0) ∧
  t ≠ d ∧ t ≠ s.ip ∧ t < H.n ∧ ∀ w o, w < 65 → s.op w = some o → t ≠ o.id
section
variable {H : Hp} {d t n th w : Nat} {s : S} {next : Int} {pu : Bool} {K : AV → Hp → Prop} {J : Hp → Prop}
theorem On.step {o : O} (h : On H d t n th s next pu) (hth : th ≤ 6) (hw : w ≤ th) (ho : s.op w = some o)
    (hJ : ∀ H' s' pu', On H' d t n th s' next pu' → (∀ v, v ≠ w → s'.op v = s.op v) → rk (s'.op w) + 1 ≤ rk (s.op w) → J H') :
    callK Try.prog σ n_deque_Deque_Step [.ptr d 0, I w] H fun x10 H11 => bnd (exR x10 0) fun x12 => bnd (exR x10 1) fun x13 => bnd (exR x10 2) fun x14 => callK Try.prog σ n_law20_tally_note [.ptr t 0, I w, x12, x13, x14] H11 fun x15 H16 => bnd (unR .not x15) fun x17 => ifB x17 (K (Bo false) H16) (J H16) := by
  obtain ⟨E, L, fl, nf, P, K0, hq, hg, hi, ha, hx, t1, t2, t3, t4⟩ := h
  refine hi.step hq hth hw ho fun H' s' E' L' fl' pu' nf' e ok x hq' hi' hoc hf hip hop hid hrk hso => ?_
  have g' : H'.get t = some (.cells (tl P K0 (if pu = true then nf else -1)) true) := by
    rw [hf.g t t1 t2 fun w o hw ho => t4 w o hw ho]; exact hg
  have t2' : t ≠ s'.ip := by rw [hip]; exact t2
  have t3' : t < H'.n := by rw [hf.n]; exact t3
  have t4' : ∀ v o', v < 65 → s'.op v = some o' → t ≠ o'.id := by
    intro v o' hv ho'
    by_cases e : v = w
    · subst e
      rw [hid o' ho']
      exact t4 v o hv ho
    · rw [hop v e] at ho'
      exact t4 v o' hv ho'
  have ex : ∀ a b c : AV, exR (.tup [a, b, c]) 0 = some a ∧ exR (.tup [a, b, c]) 1 = some b ∧ exR (.tup [a, b, c]) 2 = some c := fun _ _ _ => ⟨rfl, rfl, rfl⟩
  simp only [(ex _ _ _).1, (ex _ _ _).2.1, (ex _ _ _).2.2, bnd_some]
  have fin : ∀ (H2 : Hp) (P' K' : List Int), H2.n = H'.n → (∀ j, j ≠ t → H2.get j = H'.get j) → H2.get t = some (.cells (tl P' K' (if pu' = true then nf' else -1)) true) → Ta P' K' (L' ++ fl'.toList) nf' → next = nf' + (if pu' = true then 1 else 0) →
      bnd (unR .not (Bo true)) fun x17 => ifB x17 (K (Bo false) H2) (J H2) := by
    intro H2 P' K' e1 e2 e3 e4 e5
    simp only [u_not, bnd_some, ifB_lit, Bool.not_true, Bool.false_eq_true, if_false]
    exact hJ H2 s' pu' ⟨E', L', fl', nf', P', K', hq'.frame e1 e2 t1 t2' t4', e3, hi', e4, e5, t1, t2', by rw [e1]; exact t3', t4'⟩ hop hrk
  have hnm : nf ≤ 64 := by have := hi.nm; split at this <;> omega
  have hnf0 : 0 ≤ nf := by have := hi.lL; have := hi.t0; have := hi.en; omega
  generalize L ++ fl.toList = A at ha hoc
  generalize L' ++ fl'.toList = A' at hoc fin
  cases hoc with
  | go hp => exact note_go _ _ _ (fin H' P K0 rfl (fun _ _ => rfl) g' (ha.perm hp) hx)
  | full hw0 hp =>
    subst hp hw0
    refine note_no ha.lp ha.lk g' _ _ fun H2 e2 => ?_
    rw [if_pos (show ((0 : Nat) : Int) = 0 from rfl)] at e2
    subst e2
    exact fin _ P K0 (by simp) (fun j hj => by simp [hj]) (by simp) ha.full (by simp at hx ⊢; omega)
  | push hw0 hp hpm =>
    subst hp hw0
    obtain ⟨m, rfl⟩ : ∃ m : Nat, nf = m := ⟨nf.toNat, by omega⟩
    have hm : m < 64 := by have := hi.nm; simp at this; omega
    refine note_push ha.lp ha.lk hm g' fun H2 e2 => ?_
    subst e2
    exact fin _ (P.set m 1) K0 (by simp) (fun j hj => by simp [hj]) (by simp) (ha.push rfl hm hpm) (by simp at hx ⊢; omega)
  | none hp =>
    refine note_no ha.lp ha.lk g' _ _ fun H2 e2 => ?_
    by_cases e : w = 0
    · have hpf := hp e
      subst e hpf
      rw [if_pos (show ((0 : Nat) : Int) = 0 from rfl)] at e2
      subst e2
      exact fin _ P K0 (by simp) (fun j hj => by simp [hj]) (by simp) ha hx
    · rw [if_neg (by omega)] at e2
      subst e2
      exact fin _ P K0 rfl (fun _ _ => rfl) g' ha hx
  | take hp hpm =>
    obtain ⟨m, rfl, hm, hz, ha'⟩ := ha.take hnm hpm
    refine note_take ha.lp ha.lk hm hz (fun e => ?_) g' fun H2 q e1 e2 e3 e4 => ?_
    · rw [hp (by omega)]; simp
    · refine fin H2 P _ e1 e2 ?_ ha' hx
      rw [e3, e4]
      by_cases e : w = 0
      · rw [if_pos (by omega), hp e]; simp
      · rw [if_neg (by omega)]
theorem On.beginW {k x : Int} (h : On H d t n th s next pu) (hw : 1 ≤ w ∧ w ≤ th) (hth : th ≤ 6) (ho : s.op w = none)
    (hJ : ∀ H' s', On H' d t n th s' next pu → K (I 0) H') : callK Try.prog σ n_deque_Deque_Begin [.ptr d 0, I w, I 3, I x] H K := by
  obtain ⟨E, L, fl, nf, P, K0, hq, hg, hi, ha, hx, t1, t2, t3, t4⟩ := h
  have hs : stepsF (w : Int) 3 = some n_deque_steal1 := by
    have a : (0 : Int) < w := by omega
    have b : w ≠ 0 := by omega
    simp [stepsF, a, b]
  refine Begin_go hq (w := w) (by omega) ho hs fun H' h' hn hf => ?_
  refine hJ H' _ ⟨E, L, fl, nf, P, K0, h', by rw [hf t t3 t1]; exact hg, hi.mkW hw (some _) rfl rfl rfl (Int.le_refl _) hi.lL hi.ln hi.lv (.s1 rfl rfl), ha, hx, t1, t2, by omega, fun v o hv ho' => ?_⟩
  by_cases e : v = w
  · subst e
    have : upd s.op v (some _) v = some o := ho'
    rw [upd_same] at this
    cases this
    exact Nat.ne_of_lt t3
  · have : upd s.op w (some _) v = some o := ho'
    rw [upd_ne _ _ e] at this
    exact t4 v o hv this
theorem On.begin0 {k : Int} (g : Nat) (h : On H d t n th s next pu) (ho : s.op 0 = none) (hk : k = 1 ∨ k = 2) (hnx : k = 1 → next < 64) (x : Int) (hxx : k = 1 → x = next)
    (hJ : ∀ H' s', On H' d t n th s' (if k = 1 then next + 1 else next) (decide (k = 1)) → K (I 0) H') :
    ∀ H1, (H1 = if k = 1 then ((H.get t).bind fun b => match b with | .cells cs e => some (H.set t (some (.cells (overlay cs 128 [I next]) e))) | _ => none).getD H else H) → callK Try.prog σ n_deque_Deque_Begin [.ptr d 0, I 0, I k, I x] H1 K := by
  intro H1 hH1
  obtain ⟨E, L, fl, nf, P, K0, hq, hg, hi, ha, hx, t1, t2, t3, t4⟩ := h
  have how := hi.ow
  rw [ho] at how
  cases how
  simp at hx
  have hq1 : Dq H1 d s ∧ H1.n = H.n ∧ H1.get t = some (.cells (tl P K0 (if decide (k = 1) = true then nf else -1)) true) := by
    by_cases e : k = 1
    · simp only [e, if_true, hg, Option.bind_some, Option.getD_some] at hH1
      subst hH1
      rw [hx, tl_sp ha.lp ha.lk]
      exact ⟨hq.frame (by simp) (fun j hj => by simp [hj]) t1 t2 t4, by simp, by simp [e]⟩
    · simp only [e, if_false] at hH1
      subst hH1
      exact ⟨hq, rfl, by simp [e]; exact hg⟩
  obtain ⟨q1, q2, q3⟩ := hq1
  have hs : stepsF ((0 : Nat) : Int) k = some (if k = 1 then n_deque_push1 else n_deque_pop1) := by
    rcases hk with rfl | rfl <;> rfl
  refine Begin_go q1 (w := 0) (by omega) ho hs fun H' h' hn hf => ?_
  refine hJ H' _ ⟨s.bot, L, none, nf, P, K0, h', by rw [hf t (by omega) t1]; exact q3, hi.mk0 (some _) rfl rfl (Int.le_refl _) hi.lL hi.ln hi.en ?_ hi.lv ?_ (fun _ h => h) (fun _ _ => rfl), ha, ?_, t1, t2, by omega, fun v o hv ho' => ?_⟩
  · have := hi.nm
    simp at this
    rcases hk with rfl | rfl
    · have := hnx rfl
      simp; omega
    · simpa using this
  · rcases hk with rfl | rfl
    · exact .u1 rfl rfl (by show x = nf; rw [hxx rfl, hx])
    · exact .o1 rfl rfl
  · rcases hk with rfl | rfl
    · simp; exact hx
    · simpa using hx
  · by_cases e : v = 0
    · subst e
      have : upd s.op 0 (some _) 0 = some o := ho'
      rw [upd_same] at this
      cases this
      show t ≠ H1.n
      omega
    · have : upd s.op 0 (some _) v = some o := ho'
      rw [upd_ne _ _ e] at this
      exact t4 v o hv this
end
theorem ite_le {c : Prop} [Decidable c] {a b m : Nat} (h1 : a ≤ m) (h2 : b ≤ m) : (if c then a else b) ≤ m := by
  by_cases h : c
  · rw [if_pos h]; exact h1
  · rw [if_neg h]; exact h2
theorem rkF_le (g : Nat) : rkF g ≤ 6 := by
  unfold rkF
  iterate 14 refine ite_le (by omega) ?_
  omega
theorem rk_le (o : Option O) : rk o ≤ 6 := by
  unfold rk
  split
  · omega
  · split
    · exact rkF_le _
    · omega
theorem Ow.rk {n : Nat} {T B : Int} {pl : List Int} {nf E : Int} {fl : Option Int} {pu : Bool} {o : O} (h : Ow n T B pl nf E fl pu (some o)) : 1 ≤ rk (some o) := by
  cases h with
  | u1 _ hn => rw [rk_fn hn]; decide
  | u2 _ hn => rw [rk_fn hn]; decide
  | u3 hn => rw [rk_fn hn]; decide
  | u4 hn => rw [rk_fn hn]; decide
  | o1 _ hn => rw [rk_fn hn]; decide
  | o2 _ hn => rw [rk_fn hn]; decide
  | o3 _ hn => rw [rk_fn hn]; decide
  | o4x hn => rw [rk_fn hn]; decide
  | o4 _ hn => rw [rk_fn hn]; decide
  | o5 hn => rw [rk_fn hn]; decide
  | o6 hn => rw [rk_fn hn]; decide
theorem Thp.rk {T E : Int} {pl : List Int} {o : O} (h : Thp T E pl (some o)) : 1 ≤ rk (some o) := by
  cases h with
  | s1 _ hn => rw [rk_fn hn]; decide
  | s2 _ hn => rw [rk_fn hn]; decide
  | s3 _ hn => rw [rk_fn hn]; decide
  | s4 hn => rw [rk_fn hn]; decide
theorem rep0 (n i : Nat) : (List.replicate n (0 : Int)).getD i 0 = 0 := by
  simp only [List.getD_eq_getElem?_getD, List.getElem?_replicate]
  split <;> rfl
theorem and_r (v : Int) (m : Nat) (hm : m ≤ 100000) : ∃ k : Nat, k ≤ m ∧ binR .and (I v) (I m) = some (I k) := by
  have hk : (BitVec.ofInt IntKind.i64.bits v &&& BitVec.ofInt IntKind.i64.bits m).toNat ≤ m := by
    rw [BitVec.toNat_and]
    refine Nat.le_trans Nat.and_le_right ?_
    rw [BitVec.toNat_ofInt]
    show (((m : Int) % (2 ^ 64 : Nat)).toNat) ≤ m
    rw [Int.emod_eq_of_lt (by omega) (by omega)]
    omega
  exact ⟨_, hk, by rw [b_and, wr64 (by omega) (by omega)]⟩
section
attribute [local irreducible] law20_DequeOnce.L0 law20_DequeOnce.J1 law20_DequeOnce.J2 law20_DequeOnce.L3 law20_DequeOnce.L4 law20_DequeOnce.L5
variable {n th d t : Nat} {l : List Int} {K : AV → Hp → Prop}
theorem Once_L5 (hK : ∀ H, K (Bo true) H) {H : Hp} {s : S} {next : Int} (hth : th ≤ 6) (h : On H d t n th s next false) (ho : ∀ w, s.op w = none) (y2 y10 y11 y13 y18 y20 y21 : AV) :
    law20_DequeOnce.L5 σ K (I th) y2 (.ptr d 0) (.ptr t 0) y10 y11 y13 y18 y20 y21 (I 0) (I 0) H := by
  obtain ⟨E, L, fl, nf, P, K0, hq, hg, hi, ha, hx, t1, t2, t3, t4⟩ := h
  have how := hi.ow
  rw [ho] at how
  cases how
  simp only [Option.toList, List.append_nil] at ha
  have hnm : nf ≤ 64 := by have := hi.nm; simpa using this
  have main : ∀ m i : Nat, 64 - i = m → i ≤ 64 → law20_DequeOnce.L5 σ K (I th) y2 (.ptr d 0) (.ptr t 0) y10 y11 y13 y18 y20 y21 (I (cntB L i : Int)) (I (i : Int)) H := by
    intro m
    induction m with
    | zero =>
      intro i hm hil
      have : i = 64 := by omega
      subst this
      refine law20_DequeOnce.L5_step ?_
      have hc := cntB_all (N := 64) ha.nd fun x hx => by have := ha.mem x hx; omega
      have hlL := hi.lL
      have hen := hi.en
      have ht0 := hi.t0
      have e0 : ¬ ((64 : Nat) : Int) < 64 := by omega
      simp only [b_lss, bnd_some, e0, decide_false, ifB_lit, Bool.false_eq_true, if_false]
      refine Len_sp hq (wr64 (by omega) (by omega)) ?_
      have : (if 0 < s.bot - s.top then s.bot - s.top else 0) = (cntB L 64 : Int) := by rw [hc]; split <;> omega
      rw [this]
      simp only [b_eql, bnd_some, decide_true]
      exact hK _
    | succ m ih =>
      intro i hm hil
      have h64 : i < 64 := by omega
      have e0 : (i : Int) < 64 := by omega
      refine law20_DequeOnce.L5_step ?_
      have lK : ldA false 1 H (.ptr t (64 + i)) = some (I (K0.getD i 0)) := by rw [ld_ptr, hg, ldO_cells, tl_K ha.lp ha.lk h64]
      have lP : ldA false 1 H (.ptr t i) = some (I (P.getD i 0)) := by rw [ld_ptr, hg, ldO_cells, tl_P ha.lp h64]
      have hd := ha.df i h64
      have hb := ha.bd i h64
      have hc := cntB_le L i
      have hle : ¬ K0.getD i 0 > P.getD i 0 := by rw [hd]; split <;> omega
      have hle' : K0.getD i 0 ≤ 1 := by omega
      have hP0 : 0 ≤ P.getD i 0 := by omega
      simp only [b_lss, bnd_some, e0, decide_true, ifB_lit, if_true, n_ptr, sh_ptr, ixArrN h64, Nat.mul_one, Nat.zero_add, lK, lP, b_gtr, hle, decide_false, Bool.false_eq_true, if_false, b_add, b_sub]
      have w1 : wr .i64 ((cntB L i : Int) + P.getD i 0) = (cntB L i : Int) + P.getD i 0 := wr64 (by omega) (by omega)
      have w2 : wr .i64 ((cntB L i : Int) + P.getD i 0 - K0.getD i 0) = (cntB L (i + 1) : Nat) := by
        rw [wr64 (by omega) (by omega), cntB, hd]
        split <;> simp <;> omega
      rw [w1, w2, wr_succ (by omega)]
      exact ih (i + 1) (by omega) (by omega)
  exact main 64 0 rfl (by omega)
theorem Once_L3 (hK : ∀ H, K (Bo true) H) (hth : th ≤ 6) {next : Int} (y2 y10 y11 y13 y18 y26 y27 : AV) : ∀ (m i : Nat) (H : Hp) (s : S) (pu : Bool) (y21 : AV), th + 1 - i = m → i ≤ th + 1 → On H d t n th s next pu → (∀ v, v < i → s.op v = none) →
    law20_DequeOnce.L3 σ K (I th) y2 (.ptr d 0) (.ptr t 0) y10 y11 y13 y18 (I (i : Int)) y21 y26 y27 H := by
  intro m
  induction m with
  | zero =>
    intro i H s pu y21 hm hi h ho
    have : i = th + 1 := by omega
    subst this
    refine law20_DequeOnce.L3_step ?_
    have e : ¬ ((th + 1 : Nat) : Int) ≤ th := by omega
    simp only [b_leq, bnd_some, e, decide_false, ifB_lit, Bool.false_eq_true, if_false]
    have all : ∀ w, s.op w = none := by
      intro w
      by_cases hw : w < th + 1
      · exact ho w hw
      · obtain ⟨_, _, _, _, _, _, _, _, hiv, _⟩ := h
        exact hiv.no w (by omega)
    have hpu : pu = false := by
      obtain ⟨_, _, _, _, _, _, _, _, hiv, _⟩ := h
      have := hiv.ow
      rw [all 0] at this
      cases this; rfl
    subst hpu
    exact Once_L5 hK hth h all _ _ _ _ _ _ _
  | succ m ih =>
    intro i H s pu y21 hm hi h ho
    refine law20_DequeOnce.L3_step ?_
    have e : (i : Int) ≤ th := by omega
    simp only [b_leq, bnd_some, e, decide_true, ifB_lit, if_true]
    have L4 : ∀ (r k : Nat) (H : Hp) (s : S) (pu : Bool), rk (s.op i) ≤ r → rk (s.op i) + k ≤ 6 → On H d t n th s next pu → (∀ v, v < i → s.op v = none) →
        law20_DequeOnce.L4 σ K (I th) y2 (.ptr d 0) (.ptr t 0) y10 y11 y13 y18 (I (i : Int)) (I (k : Int)) y26 y27 H := by
      intro r
      induction r with
      | zero =>
        intro k H s pu hr hk h ho
        refine law20_DequeOnce.L4_step ?_
        have hno : s.op i = none := by
          cases hs : s.op i with
          | none => rfl
          | some o =>
            exfalso
            rw [hs] at hr
            obtain ⟨_, _, _, _, _, _, _, _, hiv, _⟩ := h
            by_cases e0 : i = 0
            · subst e0
              have := hiv.ow
              rw [hs] at this
              have := this.rk
              omega
            · have := hiv.tv i (by omega)
              rw [hs] at this
              have := this.rk
              omega
        have hq := h.choose_spec.choose_spec.choose_spec.choose_spec.choose_spec.choose_spec.1
        refine Busy_sp hq ?_
        simp only [Int.toNat_natCast, hno, Option.isSome_none, Bool.and_false, ifB_lit, Bool.false_eq_true, if_false]
        refine Busy_sp hq ?_
        simp only [Int.toNat_natCast, hno, Option.isSome_none, Bool.and_false, ifB_lit, Bool.false_eq_true, if_false, b_add, bnd_some]
        rw [wr_succ (by omega)]
        refine ih (i + 1) H s pu _ (by omega) (by omega) h fun v hv => ?_
        by_cases ev : v = i
        · subst ev; exact hno
        · exact ho v (by omega)
      | succ r ihr =>
        intro k H s pu hr hk h ho
        refine law20_DequeOnce.L4_step ?_
        have hq := h.choose_spec.choose_spec.choose_spec.choose_spec.choose_spec.choose_spec.1
        refine Busy_sp hq ?_
        have a1 : (0 : Int) ≤ i := by omega
        have a2 : (i : Int) ≤ 64 := by omega
        cases hs : s.op i with
        | none =>
          simp only [Int.toNat_natCast, hs, Option.isSome_none, Bool.and_false, ifB_lit, Bool.false_eq_true, if_false]
          refine Busy_sp hq ?_
          simp only [Int.toNat_natCast, hs, Option.isSome_none, Bool.and_false, ifB_lit, Bool.false_eq_true, if_false, b_add, bnd_some]
          rw [wr_succ (by omega)]
          refine ih (i + 1) H s pu _ (by omega) (by omega) h fun v hv => ?_
          by_cases ev : v = i
          · subst ev; exact hs
          · exact ho v (by omega)
        | some o =>
          have h10 : (k : Int) < 10 := by omega
          simp only [Int.toNat_natCast, hs, a1, a2, decide_true, Bool.true_and, Option.isSome_some, ifB_lit, if_true, b_lss, bnd_some, h10]
          refine h.step hth (w := i) (by omega) hs fun H' s' pu' h' hop hrk => ?_
          simp only [b_add, bnd_some]
          rw [wr_succ (by omega)]
          refine ihr (k + 1) H' s' pu' (by omega) (by omega) h' fun v hv => ?_
          rw [hop v (by omega)]
          exact ho v hv
    exact L4 _ 0 H s pu (Nat.le_refl _) (by have := rk_le (s.op i); omega) h ho
theorem Once_L0 (hK : ∀ H, K (Bo true) H) (hth : th ≤ 6) (hl : l.length ≤ 400) (y20 y21 y26 y27 : AV) : ∀ (m i : Nat) (H : Hp) (s : S) (next : Int) (pu : Bool) (y13 y18 : AV), l.length - i = m → i ≤ l.length → On H d t n th s next pu →
    law20_DequeOnce.L0 σ K (I th) (ints l) (.ptr d 0) (.ptr t 0) (I next) (I (i : Int)) y13 y18 y20 y21 y26 y27 H := by
  intro m
  have hln : lenSl (ints l) = some (I l.length) := by simp [ints]
  induction m with
  | zero =>
    intro i H s next pu y13 y18 hm hi h
    have : i = l.length := by omega
    subst this
    refine law20_DequeOnce.L0_step ?_
    simp only [hln, bnd_some, b_lss, Int.lt_irrefl, decide_false, ifB_lit, Bool.false_eq_true, if_false]
    exact Once_L3 hK hth _ _ _ _ _ _ _ _ 0 H s pu _ rfl (by omega) h fun v hv => by omega
  | succ m ih =>
    intro i H s next pu y13 y18 hm hi h
    have hil : i < l.length := by omega
    have hil' : (i : Int) < l.length := by omega
    have J1 : ∀ (H' : Hp) (s' : S) (next' : Int) (pu' : Bool) (y13 y18 : AV), On H' d t n th s' next' pu' → law20_DequeOnce.J1 σ K (I th) (ints l) (.ptr d 0) (.ptr t 0) (I next') (I (i : Int)) y13 y18 y20 y21 y26 y27 H' := by
      intro H' s' next' pu' y13 y18 h'
      refine law20_DequeOnce.J1_step ?_
      simp only [b_add, bnd_some]
      rw [wr_succ (by omega)]
      exact ih (i + 1) H' s' next' pu' _ _ (by omega) (by omega) h'
    refine law20_DequeOnce.L0_step ?_
    have hix : ixaSl 1 (ints l) (I (i : Int)) = some (.ip [I l[i]]) := by
      unfold ints
      rw [ix_imm]
      simp [hil]
    obtain ⟨k, hk, ea⟩ := and_r l[i] 65535 (by omega)
    have w1 : wr .i64 ((th : Int) + 1) = ((th + 1 : Nat) : Int) := wr_succ (by omega)
    have hmod : (k : Int).tmod ((th + 1 : Nat) : Int) = ((k % (th + 1) : Nat) : Int) := by
      rw [Int.tmod_eq_emod_of_nonneg (by omega)]; rfl
    have hlt : k % (th + 1) < th + 1 := Nat.mod_lt _ (by omega)
    have ea' : binR .and (I l[i]) (I 65535) = some (I k) := ea
    simp only [hln, bnd_some, b_lss, hil', decide_true, ifB_lit, if_true, hix, ld_ip, ldL_one, ea', b_add, w1, b_rem _ _ _ (show ((th + 1 : Nat) : Int) ≠ 0 by omega), hmod]
    generalize hw : k % (th + 1) = w at hlt
    have hq := h.choose_spec.choose_spec.choose_spec.choose_spec.choose_spec.choose_spec.1
    refine Busy_sp hq ?_
    have a1 : (0 : Int) ≤ w := by omega
    have a2 : (w : Int) ≤ 64 := by omega
    cases hs : s.op w with
    | some o =>
      simp only [Int.toNat_natCast, hs, a1, a2, decide_true, Bool.true_and, Option.isSome_some, ifB_lit, if_true]
      exact h.step hth (w := w) (by omega) hs fun H' s' pu' h' hop hrk => J1 H' s' next pu' _ _ h'
    | none =>
      simp only [Int.toNat_natCast, hs, Option.isSome_none, Bool.and_false, ifB_lit, Bool.false_eq_true, if_false, b_eql]
      have nm : ∀ (H' : Hp), (bnd (binR .neq (I 0) (I 0)) fun x6 => ifB x6 (K (Bo false) H') (law20_DequeOnce.J1 σ K (I th) (ints l) (.ptr d 0) (.ptr t 0) (I next) (I (i : Int)) (I (w : Int)) (I 3) y20 y21 y26 y27 H')) = law20_DequeOnce.J1 σ K (I th) (ints l) (.ptr d 0) (.ptr t 0) (I next) (I (i : Int)) (I (w : Int)) (I 3) y20 y21 y26 y27 H' := by
        intro H'
        simp
      have num : ∀ (H : Hp) (K : AV → Hp → Prop), K (I 0) H → callK Try.prog σ n_law20_num [I 0] H K := fun H K hk => by
        refine law20_num.run ?_
        simpa using hk
      by_cases e0 : w = 0
      · have e0' : (w : Int) = 0 := by omega
        simp only [e0', decide_true, if_true]
        have h8 : ∃ z : Int, binR .shr (I (k : Int)) (.lit (.int .u64 8)) = some (I z) := ⟨_, by simp [binR, lit?, sbin]; rfl⟩
        obtain ⟨z, hz⟩ := h8
        obtain ⟨q, _, hqa⟩ := and_r z 1 (by omega)
        have hqa' : binR .and (I z) (I 1) = some (I q) := hqa
        simp only [hz, bnd_some, hqa', b_eql, ifB_lit, b_lss]
        have hs0 : s.op 0 = none := by rw [← e0]; exact hs
        have popK : law20_DequeOnce.J2 σ K (I th) (ints l) (.ptr d 0) (.ptr t 0) (I next) (I (i : Int)) (I 0) (I 2) y20 y21 y26 y27 H := by
          refine law20_DequeOnce.J2_step ?_
          have hnb : 0 ≤ next ∧ next ≤ 65 := by
            obtain ⟨E, L, fl, nf, P, K0, hq, hg, hi, ha, hx, _⟩ := h
            have := hi.nm; have := hi.en; have := hi.lL; have := hi.t0
            split at hx <;> simp_all <;> omega
          simp only [b_sub, bnd_some, wr64 (show (-9223372036854775808 : Int) ≤ next - 1 by omega) (by omega)]
          refine h.begin0 n_deque_pop1 hs0 (.inr rfl) (fun e => by cases e) (next - 1) (fun e => by cases e) (fun H' s' h' => ?_) H (by simp)
          refine num _ _ ?_
          simp only [b_neq, decide_true, Bool.not_true, bnd_some, ifB_lit, Bool.false_eq_true, if_false]
          exact J1 H' s' next _ _ _ (by simpa using h')
        by_cases eq0 : (q : Int) = 0
        · simp only [eq0, decide_true, if_true]
          by_cases en : next < 64
          · simp only [en, decide_true, if_true, n_ptr, bnd_some, sh_ptr, Nat.zero_add]
            have hnb : 0 ≤ next := by
              obtain ⟨E, L, fl, nf, P, K0, hq, hg, hi, ha, hx, _⟩ := h
              have := hi.nm; have := hi.en; have := hi.lL; have := hi.t0
              split at hx <;> simp_all <;> omega
            have hgt : ∃ P K0 p, H.get t = some (.cells (tl P K0 p) true) ∧ P.length = 64 ∧ K0.length = 64 := by
              obtain ⟨E, L, fl, nf, P, K0, hq, hg, hi, ha, hx, _⟩ := h
              exact ⟨_, _, _, hg, ha.lp, ha.lk⟩
            obtain ⟨P, K0, p, hg, h1, h2⟩ := hgt
            have s1 : stA 1 H (.ptr t 128) (I next) = some (H.set t (some (.cells (overlay (tl P K0 p) 128 [I next]) true))) := by
              rw [st_int, hg, stO_cells, if_pos ⟨by rw [tl_len h1 h2]; simp, rfl⟩]
            simp only [s1, bnd_some, b_add, wr64 (show (-9223372036854775808 : Int) ≤ next + 1 by omega) (by omega)]
            refine law20_DequeOnce.J2_step ?_
            simp only [b_sub, bnd_some, wr64 (show (-9223372036854775808 : Int) ≤ next + 1 - 1 by omega) (by omega)]
            refine h.begin0 n_deque_push1 hs0 (.inl rfl) (fun _ => en) (next + 1 - 1) (fun _ => by omega) (fun H' s' h' => ?_) _ (by simp [hg])
            refine num _ _ ?_
            simp only [b_neq, decide_true, Bool.not_true, bnd_some, ifB_lit, Bool.false_eq_true, if_false]
            exact J1 H' s' (next + 1) _ _ _ (by simpa using h')
          · simp only [en, decide_false, Bool.false_eq_true, if_false]
            exact popK
        · simp only [eq0, decide_false, Bool.false_eq_true, if_false]
          exact popK
      · have e0' : ¬ (w : Int) = 0 := by omega
        simp only [e0', decide_false, Bool.false_eq_true, if_false]
        refine law20_DequeOnce.J2_step ?_
        have hnb : 0 ≤ next ∧ next ≤ 65 := by
          obtain ⟨E, L, fl, nf, P, K0, hq, hg, hi, ha, hx, _⟩ := h
          have := hi.nm; have := hi.en; have := hi.lL; have := hi.t0
          split at hx <;> simp_all <;> omega
        simp only [b_sub, bnd_some]
        refine h.beginW (k := 3) ⟨by omega, by omega⟩ hth hs fun H' s' h' => ?_
        refine num _ _ ?_
        rw [nm]
        exact J1 H' s' next _ _ _ h'
end
theorem DequeOnce_good (size thieves : Int) (l : List Int) : ∃ Hf, Good Try.prog σ n_law20_DequeOnce [I size, I thieves, ints l] Hp.empty (Bo true) Hf := by
  have hno : noIds [I size, I thieves, ints l] = true := by
    have : ∀ l : List Int, noIdss (l.map fun b => [I b]) = true := by
      intro l
      induction l with
      | nil => rfl
      | cons b l ih => simp [noIdss, noIds, noId, ih]
    simp [noIds, noId, ints, this]
  refine ⟨Hp.empty, good_by (fun K hK => law20_DequeOnce.run ?_) hno rfl _⟩
  refine callK_of (alive20 _) ?_
  have hln : lenSl (ints l) = some (I l.length) := by simp [ints]
  simp only [u_not, bnd_some, ifB_lit, Bool.not_true, Bool.false_eq_true, if_false, hln, b_gtr, b_lss]
  by_cases h1 : size < 1
  · simp [h1]; exact hK _
  by_cases h2 : 8 < size
  · simp [h1, h2]; exact hK _
  by_cases h3 : thieves < 0
  · simp [h1, h2, h3]; exact hK _
  by_cases h4 : 6 < thieves
  · simp [h1, h2, h3, h4]; exact hK _
  by_cases h5 : (400 : Int) < l.length
  · simp [h1, h2, h3, h4, h5]; exact hK _
  simp only [h1, h2, h3, h4, h5, decide_false, Bool.false_eq_true, if_false]
  obtain ⟨th, rfl⟩ : ∃ k : Nat, thieves = k := ⟨thieves.toNat, by omega⟩
  refine New_sp (by omega) (by omega) fun H hq hn _ => ?_
  have hb : bldR (List.replicate 129 (I 0)) [(128, 1, I (-1))] = some (tl (List.replicate 64 0) (List.replicate 64 0) (-1)) := rfl
  simp only [hb, bnd_some, boxK_agg]
  obtain ⟨n, hn'⟩ : ∃ n : Nat, size = n := ⟨size.toNat, by omega⟩
  subst hn'
  simp only [Int.toNat_natCast] at hq
  refine Once_L0 hK (by omega) (by omega) _ _ _ _ _ 0 (n := n) _ (s0 Hp.empty.n n) 0 false _ _ rfl (by omega) ⟨0, [], none, 0, List.replicate 64 0, List.replicate 64 0, ?_, by simp, ?_, ?_, by simp, ?_, ?_, by simp, fun w o _ ho => by simp [s0] at ho⟩
  · have e0 : Hp.empty.n = 0 := rfl
    refine ⟨?_, ?_, fun w o _ ho => by simp [s0] at ho, fun w w' o o' _ _ ho => by simp [s0] at ho, ?_, ?_, hq.dp⟩
    · have : (Hp.empty.n + 1) ≠ H.n := by omega
      simp only [hp_get_new, this, if_false]
      exact hq.hd
    · have : (s0 Hp.empty.n n).ip ≠ H.n := by simp [s0]; omega
      simp only [hp_get_new, this, if_false]
      exact hq.hp
    · simp; omega
    · simp [s0]; omega
  · refine ⟨⟨by omega, by omega⟩, by simp [s0], Int.le_refl _, by simp [s0], by simp, Int.le_refl _, by simp, fun i hi => by simp at hi, ?_, fun w _ => ?_, fun w _ => rfl⟩
    · exact .idle
    · exact .gone
  · exact ⟨List.length_replicate, List.length_replicate, by simp, fun x hx => by simp at hx, fun i hi => by rw [rep0]; simp, fun i _ hi => rep0 _ _, fun i hi => by rw [rep0]; omega⟩
  · omega
  · have e0 : Hp.empty.n = 0 := rfl
    simp [s0]; omega
theorem DequeOnce_walk {H : Type} {enc : TypeId × Value → H} (W : World) (_ : W.ShapedOpen Try.prog) {v0 v1 v2 : Value} {r : Reach} {b0 base : Nat} {spare : Nat → Bool} {held : Bool} {d0 d1 d2 : DataW H} {p0 p1 p2 : List MemPlace}
    (e0 : Value.okWide Try.prog W r b0 T_int v0) (h0 : DataW.Trod enc Try.prog W base spare held T_int v0 d0 p0) (u0 : ∀ n ∈ d0.weights Try.prog T_int, n ≤ reachBytes)
    (e1 : Value.okWide Try.prog W r b0 T_int v1) (h1 : DataW.Trod enc Try.prog W base spare held T_int v1 d1 p1) (u1 : ∀ n ∈ d1.weights Try.prog T_int, n ≤ reachBytes)
    (e2 : Value.okWide Try.prog W r b0 T_sl_int v2) (h2 : DataW.Trod enc Try.prog W base spare held T_sl_int v2 d2 p2) (u2 : ∀ n ∈ d2.weights Try.prog T_sl_int, n ≤ reachBytes) :
    Calls Try.prog n_law20_DequeOnce #[v0, v1, v2] W fun e W' => e = .returned (.bool true) ∧ Below W.heap.size W W' := by
  obtain ⟨σ, hσ⟩ : ∃ σ : Sig, σ.g = none := ⟨⟨fun _ => 0, fun _ => false, fun _ => ⟨#[]⟩, none⟩, rfl⟩
  obtain ⟨x0, r0, s0⟩ := read_arg (P := Try.prog) (ti := tiT.get) (S := readD) (t := T_int) (σ := σ) tiT_ok readD_closed (inB_mem (by kernel_rfl)) e0 h0 u0
  obtain ⟨x1, r1, s1⟩ := read_arg (P := Try.prog) (ti := tiT.get) (S := readD) (t := T_int) (σ := σ) tiT_ok readD_closed (inB_mem (by kernel_rfl)) e1 h1 u1
  obtain ⟨x2, r2, s2⟩ := read_arg (P := Try.prog) (ti := tiT.get) (S := readD) (t := T_sl_int) (σ := σ) tiT_ok readD_closed (inB_mem (by kernel_rfl)) e2 h2 u2
  obtain ⟨n, rfl, _⟩ := v_int s0
  obtain ⟨m, rfl, _⟩ := v_int s1
  obtain ⟨l, rfl, _⟩ := v_ints s2
  obtain ⟨Hf, hg⟩ := DequeOnce_good (σ := σ) n m l
  exact law_of_good (relL3 r0 r1 r2) hg fun g h => by rw [hσ] at h; cases h
end Go.Proofs.Ytnloolhaojoimaa.Ev
