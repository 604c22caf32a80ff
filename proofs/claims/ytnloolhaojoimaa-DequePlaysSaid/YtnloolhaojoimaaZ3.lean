/- The walks, part 3: the evaluator, the functions, the laws. Conditions: none. -/
import Derived.Test.YtnloolhaojoimaaProg
import Derived.Test.YtnloolhaojoimaaZ2
namespace Go.Proofs.Ytnloolhaojoimaa.Ev
set_option maxRecDepth 100000
set_option maxHeartbeats 4000000
noncomputable def ti1 : TI := ⟨.func, 1, 8, [.nilFunc]⟩
theorem ti1_ok : tiOf Try.prog 1 = some ti1 := by kernel_rfl
noncomputable def ti2 : TI := ⟨.int .i64, 1, 8, [.int .i64 0]⟩
theorem ti2_ok : tiOf Try.prog 2 = some ti2 := by kernel_rfl
noncomputable def ti3 : TI := ⟨.int .i64, 1, 8, [.int .i64 0]⟩
theorem ti3_ok : tiOf Try.prog 3 = some ti3 := by kernel_rfl
noncomputable def ti4 : TI := ⟨.bool, 1, 1, [.bool false]⟩
theorem ti4_ok : tiOf Try.prog 4 = some ti4 := by kernel_rfl
noncomputable def ti5 : TI := ⟨.int .u8, 1, 1, [.int .u8 0]⟩
theorem ti5_ok : tiOf Try.prog 5 = some ti5 := by kernel_rfl
noncomputable def ti6 : TI := ⟨.int .u8, 1, 1, [.int .u8 0]⟩
theorem ti6_ok : tiOf Try.prog 6 = some ti6 := by kernel_rfl
noncomputable def ti7 : TI := ⟨.struct [(0, 2), (1, 3), (2, 4), (3, 6)], 4, 24, [.int .i64 0, .int .i64 0, .bool false, .int .u8 0]⟩
theorem ti7_ok : tiOf Try.prog 7 = some ti7 := by kernel_rfl
noncomputable def ti8 : TI := ⟨.struct [(0, 2), (1, 3), (2, 4), (3, 6)], 4, 24, [.int .i64 0, .int .i64 0, .bool false, .int .u8 0]⟩
theorem ti8_ok : tiOf Try.prog 8 = some ti8 := by kernel_rfl
noncomputable def ti9 : TI := ⟨.string, 1, 16, [.string ⟨#[]⟩]⟩
theorem ti9_ok : tiOf Try.prog 9 = some ti9 := by kernel_rfl
noncomputable def ti10 : TI := ⟨.string, 1, 16, [.string ⟨#[]⟩]⟩
theorem ti10_ok : tiOf Try.prog 10 = some ti10 := by kernel_rfl
noncomputable def ti11 : TI := ⟨.string, 1, 16, [.string ⟨#[]⟩]⟩
theorem ti11_ok : tiOf Try.prog 11 = some ti11 := by kernel_rfl
noncomputable def ti12 : TI := ⟨.int .u64, 1, 8, [.int .u64 0]⟩
theorem ti12_ok : tiOf Try.prog 12 = some ti12 := by kernel_rfl
noncomputable def ti13 : TI := ⟨.struct [(0, 9), (1, 12)], 2, 24, [.string ⟨#[]⟩, .int .u64 0]⟩
theorem ti13_ok : tiOf Try.prog 13 = some ti13 := by kernel_rfl
noncomputable def ti14 : TI := ⟨.struct [(0, 9), (1, 12)], 2, 24, [.string ⟨#[]⟩, .int .u64 0]⟩
theorem ti14_ok : tiOf Try.prog 14 = some ti14 := by kernel_rfl
noncomputable def ti15 : TI := ⟨.ptr 82, 1, 8, [.pointer none]⟩
theorem ti15_ok : tiOf Try.prog 15 = some ti15 := by kernel_rfl
noncomputable def ti16 : TI := ⟨.ptr 85, 1, 8, [.pointer none]⟩
theorem ti16_ok : tiOf Try.prog 16 = some ti16 := by kernel_rfl
noncomputable def ti17 : TI := ⟨.ptr 94, 1, 8, [.pointer none]⟩
theorem ti17_ok : tiOf Try.prog 17 = some ti17 := by kernel_rfl
noncomputable def ti18 : TI := ⟨.struct [(0, 17)], 1, 8, [.pointer none]⟩
theorem ti18_ok : tiOf Try.prog 18 = some ti18 := by kernel_rfl
noncomputable def ti19 : TI := ⟨.struct [(0, 17)], 1, 8, [.pointer none]⟩
theorem ti19_ok : tiOf Try.prog 19 = some ti19 := by kernel_rfl
noncomputable def ti21 : TI := ⟨.int .i32, 1, 4, [.int .i32 0]⟩
theorem ti21_ok : tiOf Try.prog 21 = some ti21 := by kernel_rfl
noncomputable def ti22 : TI := ⟨.slice 3, 1, 24, [.slice none 0 0]⟩
theorem ti22_ok : tiOf Try.prog 22 = some ti22 := by kernel_rfl
noncomputable def ti23 : TI := ⟨.func, 1, 8, [.nilFunc]⟩
theorem ti23_ok : tiOf Try.prog 23 = some ti23 := by kernel_rfl
noncomputable def ti24 : TI := ⟨.ptr 62, 1, 8, [.pointer none]⟩
theorem ti24_ok : tiOf Try.prog 24 = some ti24 := by kernel_rfl
noncomputable def ti25 : TI := ⟨.func, 1, 8, [.nilFunc]⟩
theorem ti25_ok : tiOf Try.prog 25 = some ti25 := by kernel_rfl
noncomputable def ti26 : TI := ⟨.ptr 29, 1, 8, [.pointer none]⟩
theorem ti26_ok : tiOf Try.prog 26 = some ti26 := by kernel_rfl
noncomputable def ti27 : TI := ⟨.array 64 3, 64, 512, [.int .i64 0, .int .i64 0, .int .i64 0, .int .i64 0, .int .i64 0, .int .i64 0, .int .i64 0, .int .i64 0, .int .i64 0, .int .i64 0, .int .i64 0, .int .i64 0, .int .i64 0, .int .i64 0, .int .i64 0, .int .i64 0, .int .i64 0, .int .i64 0, .int .i64 0, .int .i64 0, .int .i64 0, .int .i64 0, .int .i64 0, .int .i64 0, .int .i64 0, .int .i64 0, .int .i64 0, .int .i64 0, .int .i64 0, .int .i64 0, .int .i64 0, .int .i64 0, .int .i64 0, .int .i64 0, .int .i64 0, .int .i64 0, .int .i64 0, .int .i64 0, .int .i64 0, .int .i64 0, .int .i64 0, .int .i64 0, .int .i64 0, .int .i64 0, .int .i64 0, .int .i64 0, .int .i64 0, .int .i64 0, .int .i64 0, .int .i64 0, .int .i64 0, .int .i64 0, .int .i64 0, .int .i64 0, .int .i64 0, .int .i64 0, .int .i64 0, .int .i64 0, .int .i64 0, .int .i64 0, .int .i64 0, .int .i64 0, .int .i64 0, .int .i64 0]⟩
theorem ti27_ok : tiOf Try.prog 27 = some ti27 := by kernel_rfl
noncomputable def ti28 : TI := ⟨.struct [(0, 27), (64, 27), (128, 3)], 129, 1032, [.int .i64 0, .int .i64 0, .int .i64 0, .int .i64 0, .int .i64 0, .int .i64 0, .int .i64 0, .int .i64 0, .int .i64 0, .int .i64 0, .int .i64 0, .int .i64 0, .int .i64 0, .int .i64 0, .int .i64 0, .int .i64 0, .int .i64 0, .int .i64 0, .int .i64 0, .int .i64 0, .int .i64 0, .int .i64 0, .int .i64 0, .int .i64 0, .int .i64 0, .int .i64 0, .int .i64 0, .int .i64 0, .int .i64 0, .int .i64 0, .int .i64 0, .int .i64 0, .int .i64 0, .int .i64 0, .int .i64 0, .int .i64 0, .int .i64 0, .int .i64 0, .int .i64 0, .int .i64 0, .int .i64 0, .int .i64 0, .int .i64 0, .int .i64 0, .int .i64 0, .int .i64 0, .int .i64 0, .int .i64 0, .int .i64 0, .int .i64 0, .int .i64 0, .int .i64 0, .int .i64 0, .int .i64 0, .int .i64 0, .int .i64 0, .int .i64 0, .int .i64 0, .int .i64 0, .int .i64 0, .int .i64 0, .int .i64 0, .int .i64 0, .int .i64 0, .int .i64 0, .int .i64 0, .int .i64 0, .int .i64 0, .int .i64 0, .int .i64 0, .int .i64 0, .int .i64 0, .int .i64 0, .int .i64 0, .int .i64 0, .int .i64 0, .int .i64 0, .int .i64 0, .int .i64 0, .int .i64 0, .int .i64 0, .int .i64 0, .int .i64 0, .int .i64 0, .int .i64 0, .int .i64 0, .int .i64 0, .int .i64 0, .int .i64 0, .int .i64 0, .int .i64 0, .int .i64 0, .int .i64 0, .int .i64 0, .int .i64 0, .int .i64 0, .int .i64 0, .int .i64 0, .int .i64 0, .int .i64 0, .int .i64 0, .int .i64 0, .int .i64 0, .int .i64 0, .int .i64 0, .int .i64 0, .int .i64 0, .int .i64 0, .int .i64 0, .int .i64 0, .int .i64 0, .int .i64 0, .int .i64 0, .int .i64 0, .int .i64 0, .int .i64 0, .int .i64 0, .int .i64 0, .int .i64 0, .int .i64 0, .int .i64 0, .int .i64 0, .int .i64 0, .int .i64 0, .int .i64 0, .int .i64 0, .int .i64 0, .int .i64 0, .int .i64 0]⟩
theorem ti28_ok : tiOf Try.prog 28 = some ti28 := by kernel_rfl
noncomputable def ti29 : TI := ⟨.struct [(0, 27), (64, 27), (128, 3)], 129, 1032, [.int .i64 0, .int .i64 0, .int .i64 0, .int .i64 0, .int .i64 0, .int .i64 0, .int .i64 0, .int .i64 0, .int .i64 0, .int .i64 0, .int .i64 0, .int .i64 0, .int .i64 0, .int .i64 0, .int .i64 0, .int .i64 0, .int .i64 0, .int .i64 0, .int .i64 0, .int .i64 0, .int .i64 0, .int .i64 0, .int .i64 0, .int .i64 0, .int .i64 0, .int .i64 0, .int .i64 0, .int .i64 0, .int .i64 0, .int .i64 0, .int .i64 0, .int .i64 0, .int .i64 0, .int .i64 0, .int .i64 0, .int .i64 0, .int .i64 0, .int .i64 0, .int .i64 0, .int .i64 0, .int .i64 0, .int .i64 0, .int .i64 0, .int .i64 0, .int .i64 0, .int .i64 0, .int .i64 0, .int .i64 0, .int .i64 0, .int .i64 0, .int .i64 0, .int .i64 0, .int .i64 0, .int .i64 0, .int .i64 0, .int .i64 0, .int .i64 0, .int .i64 0, .int .i64 0, .int .i64 0, .int .i64 0, .int .i64 0, .int .i64 0, .int .i64 0, .int .i64 0, .int .i64 0, .int .i64 0, .int .i64 0, .int .i64 0, .int .i64 0, .int .i64 0, .int .i64 0, .int .i64 0, .int .i64 0, .int .i64 0, .int .i64 0, .int .i64 0, .int .i64 0, .int .i64 0, .int .i64 0, .int .i64 0, .int .i64 0, .int .i64 0, .int .i64 0, .int .i64 0, .int .i64 0, .int .i64 0, .int .i64 0, .int .i64 0, .int .i64 0, .int .i64 0, .int .i64 0, .int .i64 0, .int .i64 0, .int .i64 0, .int .i64 0, .int .i64 0, .int .i64 0, .int .i64 0, .int .i64 0, .int .i64 0, .int .i64 0, .int .i64 0, .int .i64 0, .int .i64 0, .int .i64 0, .int .i64 0, .int .i64 0, .int .i64 0, .int .i64 0, .int .i64 0, .int .i64 0, .int .i64 0, .int .i64 0, .int .i64 0, .int .i64 0, .int .i64 0, .int .i64 0, .int .i64 0, .int .i64 0, .int .i64 0, .int .i64 0, .int .i64 0, .int .i64 0, .int .i64 0, .int .i64 0, .int .i64 0, .int .i64 0, .int .i64 0]⟩
theorem ti29_ok : tiOf Try.prog 29 = some ti29 := by kernel_rfl
noncomputable def ti30 : TI := ⟨.func, 1, 8, [.nilFunc]⟩
theorem ti30_ok : tiOf Try.prog 30 = some ti30 := by kernel_rfl
noncomputable def ti32 : TI := ⟨.func, 1, 8, [.nilFunc]⟩
theorem ti32_ok : tiOf Try.prog 32 = some ti32 := by kernel_rfl
noncomputable def ti33 : TI := ⟨.func, 1, 8, [.nilFunc]⟩
theorem ti33_ok : tiOf Try.prog 33 = some ti33 := by kernel_rfl
noncomputable def ti34 : TI := ⟨.int .u64, 1, 8, [.int .u64 0]⟩
theorem ti34_ok : tiOf Try.prog 34 = some ti34 := by kernel_rfl
noncomputable def ti35 : TI := ⟨.int .i64, 1, 8, [.int .i64 0]⟩
theorem ti35_ok : tiOf Try.prog 35 = some ti35 := by kernel_rfl
noncomputable def ti36 : TI := ⟨.func, 1, 8, [.nilFunc]⟩
theorem ti36_ok : tiOf Try.prog 36 = some ti36 := by kernel_rfl
noncomputable def ti37 : TI := ⟨.func, 1, 8, [.nilFunc]⟩
theorem ti37_ok : tiOf Try.prog 37 = some ti37 := by kernel_rfl
noncomputable def ti38 : TI := ⟨.func, 1, 8, [.nilFunc]⟩
theorem ti38_ok : tiOf Try.prog 38 = some ti38 := by kernel_rfl
noncomputable def ti39 : TI := ⟨.func, 1, 8, [.nilFunc]⟩
theorem ti39_ok : tiOf Try.prog 39 = some ti39 := by kernel_rfl
noncomputable def ti40 : TI := ⟨.slice 4, 1, 24, [.slice none 0 0]⟩
theorem ti40_ok : tiOf Try.prog 40 = some ti40 := by kernel_rfl
noncomputable def ti42 : TI := ⟨.func, 1, 8, [.nilFunc]⟩
theorem ti42_ok : tiOf Try.prog 42 = some ti42 := by kernel_rfl
noncomputable def ti43 : TI := ⟨.func, 1, 8, [.nilFunc]⟩
theorem ti43_ok : tiOf Try.prog 43 = some ti43 := by kernel_rfl
noncomputable def ti44 : TI := ⟨.func, 1, 8, [.nilFunc]⟩
theorem ti44_ok : tiOf Try.prog 44 = some ti44 := by kernel_rfl
noncomputable def ti45 : TI := ⟨.func, 1, 8, [.nilFunc]⟩
theorem ti45_ok : tiOf Try.prog 45 = some ti45 := by kernel_rfl
noncomputable def ti46 : TI := ⟨.func, 1, 8, [.nilFunc]⟩
theorem ti46_ok : tiOf Try.prog 46 = some ti46 := by kernel_rfl
noncomputable def ti47 : TI := ⟨.func, 1, 8, [.nilFunc]⟩
theorem ti47_ok : tiOf Try.prog 47 = some ti47 := by kernel_rfl
noncomputable def ti48 : TI := ⟨.func, 1, 8, [.nilFunc]⟩
theorem ti48_ok : tiOf Try.prog 48 = some ti48 := by kernel_rfl
noncomputable def ti49 : TI := ⟨.slice 53, 1, 24, [.slice none 0 0]⟩
theorem ti49_ok : tiOf Try.prog 49 = some ti49 := by kernel_rfl
noncomputable def ti50 : TI := ⟨.ptr 72, 1, 8, [.pointer none]⟩
theorem ti50_ok : tiOf Try.prog 50 = some ti50 := by kernel_rfl
noncomputable def ti51 : TI := ⟨.func, 1, 8, [.nilFunc]⟩
theorem ti51_ok : tiOf Try.prog 51 = some ti51 := by kernel_rfl
noncomputable def ti52 : TI := ⟨.struct [(0, 3), (1, 3), (2, 3)], 3, 24, [.int .i64 0, .int .i64 0, .int .i64 0]⟩
theorem ti52_ok : tiOf Try.prog 52 = some ti52 := by kernel_rfl
noncomputable def ti53 : TI := ⟨.struct [(0, 3), (1, 3), (2, 3)], 3, 24, [.int .i64 0, .int .i64 0, .int .i64 0]⟩
theorem ti53_ok : tiOf Try.prog 53 = some ti53 := by kernel_rfl
noncomputable def ti54 : TI := ⟨.func, 1, 8, [.nilFunc]⟩
theorem ti54_ok : tiOf Try.prog 54 = some ti54 := by kernel_rfl
noncomputable def ti55 : TI := ⟨.struct [(0, 3), (1, 3), (2, 4), (3, 4)], 4, 24, [.int .i64 0, .int .i64 0, .bool false, .bool false]⟩
theorem ti55_ok : tiOf Try.prog 55 = some ti55 := by kernel_rfl
noncomputable def ti56 : TI := ⟨.struct [(0, 3), (1, 3), (2, 4), (3, 4)], 4, 24, [.int .i64 0, .int .i64 0, .bool false, .bool false]⟩
theorem ti56_ok : tiOf Try.prog 56 = some ti56 := by kernel_rfl
noncomputable def ti57 : TI := ⟨.func, 1, 8, [.nilFunc]⟩
theorem ti57_ok : tiOf Try.prog 57 = some ti57 := by kernel_rfl
noncomputable def ti58 : TI := ⟨.func, 1, 8, [.nilFunc]⟩
theorem ti58_ok : tiOf Try.prog 58 = some ti58 := by kernel_rfl
noncomputable def ti59 : TI := ⟨.ptr 66, 1, 8, [.pointer none]⟩
theorem ti59_ok : tiOf Try.prog 59 = some ti59 := by kernel_rfl
noncomputable def ti60 : TI := ⟨.array 65 59, 65, 520, [.pointer none, .pointer none, .pointer none, .pointer none, .pointer none, .pointer none, .pointer none, .pointer none, .pointer none, .pointer none, .pointer none, .pointer none, .pointer none, .pointer none, .pointer none, .pointer none, .pointer none, .pointer none, .pointer none, .pointer none, .pointer none, .pointer none, .pointer none, .pointer none, .pointer none, .pointer none, .pointer none, .pointer none, .pointer none, .pointer none, .pointer none, .pointer none, .pointer none, .pointer none, .pointer none, .pointer none, .pointer none, .pointer none, .pointer none, .pointer none, .pointer none, .pointer none, .pointer none, .pointer none, .pointer none, .pointer none, .pointer none, .pointer none, .pointer none, .pointer none, .pointer none, .pointer none, .pointer none, .pointer none, .pointer none, .pointer none, .pointer none, .pointer none, .pointer none, .pointer none, .pointer none, .pointer none, .pointer none, .pointer none, .pointer none]⟩
theorem ti60_ok : tiOf Try.prog 60 = some ti60 := by kernel_rfl
noncomputable def ti61 : TI := ⟨.struct [(0, 22), (1, 3), (2, 3), (3, 60), (68, 56)], 72, 584, [.slice none 0 0, .int .i64 0, .int .i64 0, .pointer none, .pointer none, .pointer none, .pointer none, .pointer none, .pointer none, .pointer none, .pointer none, .pointer none, .pointer none, .pointer none, .pointer none, .pointer none, .pointer none, .pointer none, .pointer none, .pointer none, .pointer none, .pointer none, .pointer none, .pointer none, .pointer none, .pointer none, .pointer none, .pointer none, .pointer none, .pointer none, .pointer none, .pointer none, .pointer none, .pointer none, .pointer none, .pointer none, .pointer none, .pointer none, .pointer none, .pointer none, .pointer none, .pointer none, .pointer none, .pointer none, .pointer none, .pointer none, .pointer none, .pointer none, .pointer none, .pointer none, .pointer none, .pointer none, .pointer none, .pointer none, .pointer none, .pointer none, .pointer none, .pointer none, .pointer none, .pointer none, .pointer none, .pointer none, .pointer none, .pointer none, .pointer none, .pointer none, .pointer none, .pointer none, .int .i64 0, .int .i64 0, .bool false, .bool false]⟩
theorem ti61_ok : tiOf Try.prog 61 = some ti61 := by kernel_rfl
noncomputable def ti62 : TI := ⟨.struct [(0, 22), (1, 3), (2, 3), (3, 60), (68, 56)], 72, 584, [.slice none 0 0, .int .i64 0, .int .i64 0, .pointer none, .pointer none, .pointer none, .pointer none, .pointer none, .pointer none, .pointer none, .pointer none, .pointer none, .pointer none, .pointer none, .pointer none, .pointer none, .pointer none, .pointer none, .pointer none, .pointer none, .pointer none, .pointer none, .pointer none, .pointer none, .pointer none, .pointer none, .pointer none, .pointer none, .pointer none, .pointer none, .pointer none, .pointer none, .pointer none, .pointer none, .pointer none, .pointer none, .pointer none, .pointer none, .pointer none, .pointer none, .pointer none, .pointer none, .pointer none, .pointer none, .pointer none, .pointer none, .pointer none, .pointer none, .pointer none, .pointer none, .pointer none, .pointer none, .pointer none, .pointer none, .pointer none, .pointer none, .pointer none, .pointer none, .pointer none, .pointer none, .pointer none, .pointer none, .pointer none, .pointer none, .pointer none, .pointer none, .pointer none, .pointer none, .int .i64 0, .int .i64 0, .bool false, .bool false]⟩
theorem ti62_ok : tiOf Try.prog 62 = some ti62 := by kernel_rfl
noncomputable def ti63 : TI := ⟨.func, 1, 8, [.nilFunc]⟩
theorem ti63_ok : tiOf Try.prog 63 = some ti63 := by kernel_rfl
noncomputable def ti64 : TI := ⟨.func, 1, 8, [.nilFunc]⟩
theorem ti64_ok : tiOf Try.prog 64 = some ti64 := by kernel_rfl
noncomputable def ti65 : TI := ⟨.struct [(0, 24), (1, 3), (2, 3), (3, 3), (4, 3), (5, 4), (6, 64)], 7, 56, [.pointer none, .int .i64 0, .int .i64 0, .int .i64 0, .int .i64 0, .bool false, .nilFunc]⟩
theorem ti65_ok : tiOf Try.prog 65 = some ti65 := by kernel_rfl
noncomputable def ti66 : TI := ⟨.struct [(0, 24), (1, 3), (2, 3), (3, 3), (4, 3), (5, 4), (6, 64)], 7, 56, [.pointer none, .int .i64 0, .int .i64 0, .int .i64 0, .int .i64 0, .bool false, .nilFunc]⟩
theorem ti66_ok : tiOf Try.prog 66 = some ti66 := by kernel_rfl
noncomputable def ti67 : TI := ⟨.func, 1, 8, [.nilFunc]⟩
theorem ti67_ok : tiOf Try.prog 67 = some ti67 := by kernel_rfl
noncomputable def ti68 : TI := ⟨.struct [(0, 3), (1, 3), (2, 3), (3, 3), (4, 3), (5, 4)], 6, 48, [.int .i64 0, .int .i64 0, .int .i64 0, .int .i64 0, .int .i64 0, .bool false]⟩
theorem ti68_ok : tiOf Try.prog 68 = some ti68 := by kernel_rfl
noncomputable def ti69 : TI := ⟨.struct [(0, 3), (1, 3), (2, 3), (3, 3), (4, 3), (5, 4)], 6, 48, [.int .i64 0, .int .i64 0, .int .i64 0, .int .i64 0, .int .i64 0, .bool false]⟩
theorem ti69_ok : tiOf Try.prog 69 = some ti69 := by kernel_rfl
noncomputable def ti70 : TI := ⟨.array 65 69, 390, 3120, [.int .i64 0, .int .i64 0, .int .i64 0, .int .i64 0, .int .i64 0, .bool false, .int .i64 0, .int .i64 0, .int .i64 0, .int .i64 0, .int .i64 0, .bool false, .int .i64 0, .int .i64 0, .int .i64 0, .int .i64 0, .int .i64 0, .bool false, .int .i64 0, .int .i64 0, .int .i64 0, .int .i64 0, .int .i64 0, .bool false, .int .i64 0, .int .i64 0, .int .i64 0, .int .i64 0, .int .i64 0, .bool false, .int .i64 0, .int .i64 0, .int .i64 0, .int .i64 0, .int .i64 0, .bool false, .int .i64 0, .int .i64 0, .int .i64 0, .int .i64 0, .int .i64 0, .bool false, .int .i64 0, .int .i64 0, .int .i64 0, .int .i64 0, .int .i64 0, .bool false, .int .i64 0, .int .i64 0, .int .i64 0, .int .i64 0, .int .i64 0, .bool false, .int .i64 0, .int .i64 0, .int .i64 0, .int .i64 0, .int .i64 0, .bool false, .int .i64 0, .int .i64 0, .int .i64 0, .int .i64 0, .int .i64 0, .bool false, .int .i64 0, .int .i64 0, .int .i64 0, .int .i64 0, .int .i64 0, .bool false, .int .i64 0, .int .i64 0, .int .i64 0, .int .i64 0, .int .i64 0, .bool false, .int .i64 0, .int .i64 0, .int .i64 0, .int .i64 0, .int .i64 0, .bool false, .int .i64 0, .int .i64 0, .int .i64 0, .int .i64 0, .int .i64 0, .bool false, .int .i64 0, .int .i64 0, .int .i64 0, .int .i64 0, .int .i64 0, .bool false, .int .i64 0, .int .i64 0, .int .i64 0, .int .i64 0, .int .i64 0, .bool false, .int .i64 0, .int .i64 0, .int .i64 0, .int .i64 0, .int .i64 0, .bool false, .int .i64 0, .int .i64 0, .int .i64 0, .int .i64 0, .int .i64 0, .bool false, .int .i64 0, .int .i64 0, .int .i64 0, .int .i64 0, .int .i64 0, .bool false, .int .i64 0, .int .i64 0, .int .i64 0, .int .i64 0, .int .i64 0, .bool false, .int .i64 0, .int .i64 0, .int .i64 0, .int .i64 0, .int .i64 0, .bool false, .int .i64 0, .int .i64 0, .int .i64 0, .int .i64 0, .int .i64 0, .bool false, .int .i64 0, .int .i64 0, .int .i64 0, .int .i64 0, .int .i64 0, .bool false, .int .i64 0, .int .i64 0, .int .i64 0, .int .i64 0, .int .i64 0, .bool false, .int .i64 0, .int .i64 0, .int .i64 0, .int .i64 0, .int .i64 0, .bool false, .int .i64 0, .int .i64 0, .int .i64 0, .int .i64 0, .int .i64 0, .bool false, .int .i64 0, .int .i64 0, .int .i64 0, .int .i64 0, .int .i64 0, .bool false, .int .i64 0, .int .i64 0, .int .i64 0, .int .i64 0, .int .i64 0, .bool false, .int .i64 0, .int .i64 0, .int .i64 0, .int .i64 0, .int .i64 0, .bool false, .int .i64 0, .int .i64 0, .int .i64 0, .int .i64 0, .int .i64 0, .bool false, .int .i64 0, .int .i64 0, .int .i64 0, .int .i64 0, .int .i64 0, .bool false, .int .i64 0, .int .i64 0, .int .i64 0, .int .i64 0, .int .i64 0, .bool false, .int .i64 0, .int .i64 0, .int .i64 0, .int .i64 0, .int .i64 0, .bool false, .int .i64 0, .int .i64 0, .int .i64 0, .int .i64 0, .int .i64 0, .bool false, .int .i64 0, .int .i64 0, .int .i64 0, .int .i64 0, .int .i64 0, .bool false, .int .i64 0, .int .i64 0, .int .i64 0, .int .i64 0, .int .i64 0, .bool false, .int .i64 0, .int .i64 0, .int .i64 0, .int .i64 0, .int .i64 0, .bool false, .int .i64 0, .int .i64 0, .int .i64 0, .int .i64 0, .int .i64 0, .bool false, .int .i64 0, .int .i64 0, .int .i64 0, .int .i64 0, .int .i64 0, .bool false, .int .i64 0, .int .i64 0, .int .i64 0, .int .i64 0, .int .i64 0, .bool false, .int .i64 0, .int .i64 0, .int .i64 0, .int .i64 0, .int .i64 0, .bool false, .int .i64 0, .int .i64 0, .int .i64 0, .int .i64 0, .int .i64 0, .bool false, .int .i64 0, .int .i64 0, .int .i64 0, .int .i64 0, .int .i64 0, .bool false, .int .i64 0, .int .i64 0, .int .i64 0, .int .i64 0, .int .i64 0, .bool false, .int .i64 0, .int .i64 0, .int .i64 0, .int .i64 0, .int .i64 0, .bool false, .int .i64 0, .int .i64 0, .int .i64 0, .int .i64 0, .int .i64 0, .bool false, .int .i64 0, .int .i64 0, .int .i64 0, .int .i64 0, .int .i64 0, .bool false, .int .i64 0, .int .i64 0, .int .i64 0, .int .i64 0, .int .i64 0, .bool false, .int .i64 0, .int .i64 0, .int .i64 0, .int .i64 0, .int .i64 0, .bool false, .int .i64 0, .int .i64 0, .int .i64 0, .int .i64 0, .int .i64 0, .bool false, .int .i64 0, .int .i64 0, .int .i64 0, .int .i64 0, .int .i64 0, .bool false, .int .i64 0, .int .i64 0, .int .i64 0, .int .i64 0, .int .i64 0, .bool false, .int .i64 0, .int .i64 0, .int .i64 0, .int .i64 0, .int .i64 0, .bool false, .int .i64 0, .int .i64 0, .int .i64 0, .int .i64 0, .int .i64 0, .bool false, .int .i64 0, .int .i64 0, .int .i64 0, .int .i64 0, .int .i64 0, .bool false, .int .i64 0, .int .i64 0, .int .i64 0, .int .i64 0, .int .i64 0, .bool false, .int .i64 0, .int .i64 0, .int .i64 0, .int .i64 0, .int .i64 0, .bool false, .int .i64 0, .int .i64 0, .int .i64 0, .int .i64 0, .int .i64 0, .bool false, .int .i64 0, .int .i64 0, .int .i64 0, .int .i64 0, .int .i64 0, .bool false, .int .i64 0, .int .i64 0, .int .i64 0, .int .i64 0, .int .i64 0, .bool false, .int .i64 0, .int .i64 0, .int .i64 0, .int .i64 0, .int .i64 0, .bool false, .int .i64 0, .int .i64 0, .int .i64 0, .int .i64 0, .int .i64 0, .bool false, .int .i64 0, .int .i64 0, .int .i64 0, .int .i64 0, .int .i64 0, .bool false, .int .i64 0, .int .i64 0, .int .i64 0, .int .i64 0, .int .i64 0, .bool false]⟩
theorem ti70_ok : tiOf Try.prog 70 = some ti70 := by kernel_rfl
noncomputable def ti71 : TI := ⟨.struct [(0, 3), (1, 3), (2, 3), (3, 22), (4, 70), (394, 56)], 398, 3192, [.int .i64 0, .int .i64 0, .int .i64 0, .slice none 0 0, .int .i64 0, .int .i64 0, .int .i64 0, .int .i64 0, .int .i64 0, .bool false, .int .i64 0, .int .i64 0, .int .i64 0, .int .i64 0, .int .i64 0, .bool false, .int .i64 0, .int .i64 0, .int .i64 0, .int .i64 0, .int .i64 0, .bool false, .int .i64 0, .int .i64 0, .int .i64 0, .int .i64 0, .int .i64 0, .bool false, .int .i64 0, .int .i64 0, .int .i64 0, .int .i64 0, .int .i64 0, .bool false, .int .i64 0, .int .i64 0, .int .i64 0, .int .i64 0, .int .i64 0, .bool false, .int .i64 0, .int .i64 0, .int .i64 0, .int .i64 0, .int .i64 0, .bool false, .int .i64 0, .int .i64 0, .int .i64 0, .int .i64 0, .int .i64 0, .bool false, .int .i64 0, .int .i64 0, .int .i64 0, .int .i64 0, .int .i64 0, .bool false, .int .i64 0, .int .i64 0, .int .i64 0, .int .i64 0, .int .i64 0, .bool false, .int .i64 0, .int .i64 0, .int .i64 0, .int .i64 0, .int .i64 0, .bool false, .int .i64 0, .int .i64 0, .int .i64 0, .int .i64 0, .int .i64 0, .bool false, .int .i64 0, .int .i64 0, .int .i64 0, .int .i64 0, .int .i64 0, .bool false, .int .i64 0, .int .i64 0, .int .i64 0, .int .i64 0, .int .i64 0, .bool false, .int .i64 0, .int .i64 0, .int .i64 0, .int .i64 0, .int .i64 0, .bool false, .int .i64 0, .int .i64 0, .int .i64 0, .int .i64 0, .int .i64 0, .bool false, .int .i64 0, .int .i64 0, .int .i64 0, .int .i64 0, .int .i64 0, .bool false, .int .i64 0, .int .i64 0, .int .i64 0, .int .i64 0, .int .i64 0, .bool false, .int .i64 0, .int .i64 0, .int .i64 0, .int .i64 0, .int .i64 0, .bool false, .int .i64 0, .int .i64 0, .int .i64 0, .int .i64 0, .int .i64 0, .bool false, .int .i64 0, .int .i64 0, .int .i64 0, .int .i64 0, .int .i64 0, .bool false, .int .i64 0, .int .i64 0, .int .i64 0, .int .i64 0, .int .i64 0, .bool false, .int .i64 0, .int .i64 0, .int .i64 0, .int .i64 0, .int .i64 0, .bool false, .int .i64 0, .int .i64 0, .int .i64 0, .int .i64 0, .int .i64 0, .bool false, .int .i64 0, .int .i64 0, .int .i64 0, .int .i64 0, .int .i64 0, .bool false, .int .i64 0, .int .i64 0, .int .i64 0, .int .i64 0, .int .i64 0, .bool false, .int .i64 0, .int .i64 0, .int .i64 0, .int .i64 0, .int .i64 0, .bool false, .int .i64 0, .int .i64 0, .int .i64 0, .int .i64 0, .int .i64 0, .bool false, .int .i64 0, .int .i64 0, .int .i64 0, .int .i64 0, .int .i64 0, .bool false, .int .i64 0, .int .i64 0, .int .i64 0, .int .i64 0, .int .i64 0, .bool false, .int .i64 0, .int .i64 0, .int .i64 0, .int .i64 0, .int .i64 0, .bool false, .int .i64 0, .int .i64 0, .int .i64 0, .int .i64 0, .int .i64 0, .bool false, .int .i64 0, .int .i64 0, .int .i64 0, .int .i64 0, .int .i64 0, .bool false, .int .i64 0, .int .i64 0, .int .i64 0, .int .i64 0, .int .i64 0, .bool false, .int .i64 0, .int .i64 0, .int .i64 0, .int .i64 0, .int .i64 0, .bool false, .int .i64 0, .int .i64 0, .int .i64 0, .int .i64 0, .int .i64 0, .bool false, .int .i64 0, .int .i64 0, .int .i64 0, .int .i64 0, .int .i64 0, .bool false, .int .i64 0, .int .i64 0, .int .i64 0, .int .i64 0, .int .i64 0, .bool false, .int .i64 0, .int .i64 0, .int .i64 0, .int .i64 0, .int .i64 0, .bool false, .int .i64 0, .int .i64 0, .int .i64 0, .int .i64 0, .int .i64 0, .bool false, .int .i64 0, .int .i64 0, .int .i64 0, .int .i64 0, .int .i64 0, .bool false, .int .i64 0, .int .i64 0, .int .i64 0, .int .i64 0, .int .i64 0, .bool false, .int .i64 0, .int .i64 0, .int .i64 0, .int .i64 0, .int .i64 0, .bool false, .int .i64 0, .int .i64 0, .int .i64 0, .int .i64 0, .int .i64 0, .bool false, .int .i64 0, .int .i64 0, .int .i64 0, .int .i64 0, .int .i64 0, .bool false, .int .i64 0, .int .i64 0, .int .i64 0, .int .i64 0, .int .i64 0, .bool false, .int .i64 0, .int .i64 0, .int .i64 0, .int .i64 0, .int .i64 0, .bool false, .int .i64 0, .int .i64 0, .int .i64 0, .int .i64 0, .int .i64 0, .bool false, .int .i64 0, .int .i64 0, .int .i64 0, .int .i64 0, .int .i64 0, .bool false, .int .i64 0, .int .i64 0, .int .i64 0, .int .i64 0, .int .i64 0, .bool false, .int .i64 0, .int .i64 0, .int .i64 0, .int .i64 0, .int .i64 0, .bool false, .int .i64 0, .int .i64 0, .int .i64 0, .int .i64 0, .int .i64 0, .bool false, .int .i64 0, .int .i64 0, .int .i64 0, .int .i64 0, .int .i64 0, .bool false, .int .i64 0, .int .i64 0, .int .i64 0, .int .i64 0, .int .i64 0, .bool false, .int .i64 0, .int .i64 0, .int .i64 0, .int .i64 0, .int .i64 0, .bool false, .int .i64 0, .int .i64 0, .int .i64 0, .int .i64 0, .int .i64 0, .bool false, .int .i64 0, .int .i64 0, .int .i64 0, .int .i64 0, .int .i64 0, .bool false, .int .i64 0, .int .i64 0, .int .i64 0, .int .i64 0, .int .i64 0, .bool false, .int .i64 0, .int .i64 0, .int .i64 0, .int .i64 0, .int .i64 0, .bool false, .int .i64 0, .int .i64 0, .int .i64 0, .int .i64 0, .int .i64 0, .bool false, .int .i64 0, .int .i64 0, .int .i64 0, .int .i64 0, .int .i64 0, .bool false, .int .i64 0, .int .i64 0, .int .i64 0, .int .i64 0, .int .i64 0, .bool false, .int .i64 0, .int .i64 0, .int .i64 0, .int .i64 0, .int .i64 0, .bool false, .int .i64 0, .int .i64 0, .int .i64 0, .int .i64 0, .int .i64 0, .bool false, .int .i64 0, .int .i64 0, .int .i64 0, .int .i64 0, .int .i64 0, .bool false, .int .i64 0, .int .i64 0, .bool false, .bool false]⟩
theorem ti71_ok : tiOf Try.prog 71 = some ti71 := by kernel_rfl
noncomputable def ti72 : TI := ⟨.struct [(0, 3), (1, 3), (2, 3), (3, 22), (4, 70), (394, 56)], 398, 3192, [.int .i64 0, .int .i64 0, .int .i64 0, .slice none 0 0, .int .i64 0, .int .i64 0, .int .i64 0, .int .i64 0, .int .i64 0, .bool false, .int .i64 0, .int .i64 0, .int .i64 0, .int .i64 0, .int .i64 0, .bool false, .int .i64 0, .int .i64 0, .int .i64 0, .int .i64 0, .int .i64 0, .bool false, .int .i64 0, .int .i64 0, .int .i64 0, .int .i64 0, .int .i64 0, .bool false, .int .i64 0, .int .i64 0, .int .i64 0, .int .i64 0, .int .i64 0, .bool false, .int .i64 0, .int .i64 0, .int .i64 0, .int .i64 0, .int .i64 0, .bool false, .int .i64 0, .int .i64 0, .int .i64 0, .int .i64 0, .int .i64 0, .bool false, .int .i64 0, .int .i64 0, .int .i64 0, .int .i64 0, .int .i64 0, .bool false, .int .i64 0, .int .i64 0, .int .i64 0, .int .i64 0, .int .i64 0, .bool false, .int .i64 0, .int .i64 0, .int .i64 0, .int .i64 0, .int .i64 0, .bool false, .int .i64 0, .int .i64 0, .int .i64 0, .int .i64 0, .int .i64 0, .bool false, .int .i64 0, .int .i64 0, .int .i64 0, .int .i64 0, .int .i64 0, .bool false, .int .i64 0, .int .i64 0, .int .i64 0, .int .i64 0, .int .i64 0, .bool false, .int .i64 0, .int .i64 0, .int .i64 0, .int .i64 0, .int .i64 0, .bool false, .int .i64 0, .int .i64 0, .int .i64 0, .int .i64 0, .int .i64 0, .bool false, .int .i64 0, .int .i64 0, .int .i64 0, .int .i64 0, .int .i64 0, .bool false, .int .i64 0, .int .i64 0, .int .i64 0, .int .i64 0, .int .i64 0, .bool false, .int .i64 0, .int .i64 0, .int .i64 0, .int .i64 0, .int .i64 0, .bool false, .int .i64 0, .int .i64 0, .int .i64 0, .int .i64 0, .int .i64 0, .bool false, .int .i64 0, .int .i64 0, .int .i64 0, .int .i64 0, .int .i64 0, .bool false, .int .i64 0, .int .i64 0, .int .i64 0, .int .i64 0, .int .i64 0, .bool false, .int .i64 0, .int .i64 0, .int .i64 0, .int .i64 0, .int .i64 0, .bool false, .int .i64 0, .int .i64 0, .int .i64 0, .int .i64 0, .int .i64 0, .bool false, .int .i64 0, .int .i64 0, .int .i64 0, .int .i64 0, .int .i64 0, .bool false, .int .i64 0, .int .i64 0, .int .i64 0, .int .i64 0, .int .i64 0, .bool false, .int .i64 0, .int .i64 0, .int .i64 0, .int .i64 0, .int .i64 0, .bool false, .int .i64 0, .int .i64 0, .int .i64 0, .int .i64 0, .int .i64 0, .bool false, .int .i64 0, .int .i64 0, .int .i64 0, .int .i64 0, .int .i64 0, .bool false, .int .i64 0, .int .i64 0, .int .i64 0, .int .i64 0, .int .i64 0, .bool false, .int .i64 0, .int .i64 0, .int .i64 0, .int .i64 0, .int .i64 0, .bool false, .int .i64 0, .int .i64 0, .int .i64 0, .int .i64 0, .int .i64 0, .bool false, .int .i64 0, .int .i64 0, .int .i64 0, .int .i64 0, .int .i64 0, .bool false, .int .i64 0, .int .i64 0, .int .i64 0, .int .i64 0, .int .i64 0, .bool false, .int .i64 0, .int .i64 0, .int .i64 0, .int .i64 0, .int .i64 0, .bool false, .int .i64 0, .int .i64 0, .int .i64 0, .int .i64 0, .int .i64 0, .bool false, .int .i64 0, .int .i64 0, .int .i64 0, .int .i64 0, .int .i64 0, .bool false, .int .i64 0, .int .i64 0, .int .i64 0, .int .i64 0, .int .i64 0, .bool false, .int .i64 0, .int .i64 0, .int .i64 0, .int .i64 0, .int .i64 0, .bool false, .int .i64 0, .int .i64 0, .int .i64 0, .int .i64 0, .int .i64 0, .bool false, .int .i64 0, .int .i64 0, .int .i64 0, .int .i64 0, .int .i64 0, .bool false, .int .i64 0, .int .i64 0, .int .i64 0, .int .i64 0, .int .i64 0, .bool false, .int .i64 0, .int .i64 0, .int .i64 0, .int .i64 0, .int .i64 0, .bool false, .int .i64 0, .int .i64 0, .int .i64 0, .int .i64 0, .int .i64 0, .bool false, .int .i64 0, .int .i64 0, .int .i64 0, .int .i64 0, .int .i64 0, .bool false, .int .i64 0, .int .i64 0, .int .i64 0, .int .i64 0, .int .i64 0, .bool false, .int .i64 0, .int .i64 0, .int .i64 0, .int .i64 0, .int .i64 0, .bool false, .int .i64 0, .int .i64 0, .int .i64 0, .int .i64 0, .int .i64 0, .bool false, .int .i64 0, .int .i64 0, .int .i64 0, .int .i64 0, .int .i64 0, .bool false, .int .i64 0, .int .i64 0, .int .i64 0, .int .i64 0, .int .i64 0, .bool false, .int .i64 0, .int .i64 0, .int .i64 0, .int .i64 0, .int .i64 0, .bool false, .int .i64 0, .int .i64 0, .int .i64 0, .int .i64 0, .int .i64 0, .bool false, .int .i64 0, .int .i64 0, .int .i64 0, .int .i64 0, .int .i64 0, .bool false, .int .i64 0, .int .i64 0, .int .i64 0, .int .i64 0, .int .i64 0, .bool false, .int .i64 0, .int .i64 0, .int .i64 0, .int .i64 0, .int .i64 0, .bool false, .int .i64 0, .int .i64 0, .int .i64 0, .int .i64 0, .int .i64 0, .bool false, .int .i64 0, .int .i64 0, .int .i64 0, .int .i64 0, .int .i64 0, .bool false, .int .i64 0, .int .i64 0, .int .i64 0, .int .i64 0, .int .i64 0, .bool false, .int .i64 0, .int .i64 0, .int .i64 0, .int .i64 0, .int .i64 0, .bool false, .int .i64 0, .int .i64 0, .int .i64 0, .int .i64 0, .int .i64 0, .bool false, .int .i64 0, .int .i64 0, .int .i64 0, .int .i64 0, .int .i64 0, .bool false, .int .i64 0, .int .i64 0, .int .i64 0, .int .i64 0, .int .i64 0, .bool false, .int .i64 0, .int .i64 0, .int .i64 0, .int .i64 0, .int .i64 0, .bool false, .int .i64 0, .int .i64 0, .int .i64 0, .int .i64 0, .int .i64 0, .bool false, .int .i64 0, .int .i64 0, .int .i64 0, .int .i64 0, .int .i64 0, .bool false, .int .i64 0, .int .i64 0, .int .i64 0, .int .i64 0, .int .i64 0, .bool false, .int .i64 0, .int .i64 0, .bool false, .bool false]⟩
theorem ti72_ok : tiOf Try.prog 72 = some ti72 := by kernel_rfl
noncomputable def ti73 : TI := ⟨.ptr 69, 1, 8, [.pointer none]⟩
theorem ti73_ok : tiOf Try.prog 73 = some ti73 := by kernel_rfl
noncomputable def ti74 : TI := ⟨.func, 1, 8, [.nilFunc]⟩
theorem ti74_ok : tiOf Try.prog 74 = some ti74 := by kernel_rfl
noncomputable def ti75 : TI := ⟨.func, 1, 8, [.nilFunc]⟩
theorem ti75_ok : tiOf Try.prog 75 = some ti75 := by kernel_rfl
noncomputable def ti76 : TI := ⟨.func, 1, 8, [.nilFunc]⟩
theorem ti76_ok : tiOf Try.prog 76 = some ti76 := by kernel_rfl
noncomputable def ti77 : TI := ⟨.func, 1, 8, [.nilFunc]⟩
theorem ti77_ok : tiOf Try.prog 77 = some ti77 := by kernel_rfl
noncomputable def ti78 : TI := ⟨.func, 1, 8, [.nilFunc]⟩
theorem ti78_ok : tiOf Try.prog 78 = some ti78 := by kernel_rfl
noncomputable def ti79 : TI := ⟨.func, 1, 8, [.nilFunc]⟩
theorem ti79_ok : tiOf Try.prog 79 = some ti79 := by kernel_rfl
noncomputable def ti80 : TI := ⟨.func, 1, 8, [.nilFunc]⟩
theorem ti80_ok : tiOf Try.prog 80 = some ti80 := by kernel_rfl
noncomputable def ti81 : TI := ⟨.struct [(0, 17), (1, 17), (2, 17), (3, 9)], 4, 40, [.pointer none, .pointer none, .pointer none, .string ⟨#[]⟩]⟩
theorem ti81_ok : tiOf Try.prog 81 = some ti81 := by kernel_rfl
noncomputable def ti82 : TI := ⟨.struct [(0, 17), (1, 17), (2, 17), (3, 9)], 4, 40, [.pointer none, .pointer none, .pointer none, .string ⟨#[]⟩]⟩
theorem ti82_ok : tiOf Try.prog 82 = some ti82 := by kernel_rfl
noncomputable def ti83 : TI := ⟨.array 0 16, 0, 0, []⟩
theorem ti83_ok : tiOf Try.prog 83 = some ti83 := by kernel_rfl
noncomputable def ti84 : TI := ⟨.struct [(0, 83)], 0, 0, []⟩
theorem ti84_ok : tiOf Try.prog 84 = some ti84 := by kernel_rfl
noncomputable def ti85 : TI := ⟨.struct [(0, 83)], 0, 0, []⟩
theorem ti85_ok : tiOf Try.prog 85 = some ti85 := by kernel_rfl
noncomputable def ti86 : TI := ⟨.int .u32, 1, 4, [.int .u32 0]⟩
theorem ti86_ok : tiOf Try.prog 86 = some ti86 := by kernel_rfl
noncomputable def ti87 : TI := ⟨.int .u8, 1, 1, [.int .u8 0]⟩
theorem ti87_ok : tiOf Try.prog 87 = some ti87 := by kernel_rfl
noncomputable def ti88 : TI := ⟨.int .u8, 1, 1, [.int .u8 0]⟩
theorem ti88_ok : tiOf Try.prog 88 = some ti88 := by kernel_rfl
noncomputable def ti89 : TI := ⟨.func, 1, 8, [.nilFunc]⟩
theorem ti89_ok : tiOf Try.prog 89 = some ti89 := by kernel_rfl
noncomputable def ti90 : TI := ⟨.ptr 5, 1, 8, [.pointer none]⟩
theorem ti90_ok : tiOf Try.prog 90 = some ti90 := by kernel_rfl
noncomputable def ti91 : TI := ⟨.int .i32, 1, 4, [.int .i32 0]⟩
theorem ti91_ok : tiOf Try.prog 91 = some ti91 := by kernel_rfl
noncomputable def ti92 : TI := ⟨.int .i32, 1, 4, [.int .i32 0]⟩
theorem ti92_ok : tiOf Try.prog 92 = some ti92 := by kernel_rfl
noncomputable def ti93 : TI := ⟨.struct [(0, 12), (1, 12), (2, 86), (3, 87), (4, 5), (5, 5), (6, 88), (7, 89), (8, 90), (9, 91), (10, 92)], 11, 48, [.int .u64 0, .int .u64 0, .int .u32 0, .int .u8 0, .int .u8 0, .int .u8 0, .int .u8 0, .nilFunc, .pointer none, .int .i32 0, .int .i32 0]⟩
theorem ti93_ok : tiOf Try.prog 93 = some ti93 := by kernel_rfl
noncomputable def ti94 : TI := ⟨.struct [(0, 12), (1, 12), (2, 86), (3, 87), (4, 5), (5, 5), (6, 88), (7, 89), (8, 90), (9, 91), (10, 92)], 11, 48, [.int .u64 0, .int .u64 0, .int .u32 0, .int .u8 0, .int .u8 0, .int .u8 0, .int .u8 0, .nilFunc, .pointer none, .int .i32 0, .int .i32 0]⟩
theorem ti94_ok : tiOf Try.prog 94 = some ti94 := by kernel_rfl
noncomputable def tiT : Tr TI := .node none (.node (some ti1) (.node (some ti3) (.node (some ti7) (.node (some ti15) (.node none (.node (some ti63) (.leaf) (.leaf)) (.leaf)) (.node (some ti47) (.node (some ti79) (.leaf) (.leaf)) (.leaf))) (.node (some ti23) (.node (some ti39) (.node (some ti71) (.leaf) (.leaf)) (.leaf)) (.node (some ti55) (.node (some ti87) (.leaf) (.leaf)) (.leaf)))) (.node (some ti11) (.node (some ti19) (.node (some ti35) (.node (some ti67) (.leaf) (.leaf)) (.leaf)) (.node (some ti51) (.node (some ti83) (.leaf) (.leaf)) (.leaf))) (.node (some ti27) (.node (some ti43) (.node (some ti75) (.leaf) (.leaf)) (.leaf)) (.node (some ti59) (.node (some ti91) (.leaf) (.leaf)) (.leaf))))) (.node (some ti5) (.node (some ti9) (.node (some ti17) (.node (some ti33) (.node (some ti65) (.leaf) (.leaf)) (.leaf)) (.node (some ti49) (.node (some ti81) (.leaf) (.leaf)) (.leaf))) (.node (some ti25) (.node none (.node (some ti73) (.leaf) (.leaf)) (.leaf)) (.node (some ti57) (.node (some ti89) (.leaf) (.leaf)) (.leaf)))) (.node (some ti13) (.node (some ti21) (.node (some ti37) (.node (some ti69) (.leaf) (.leaf)) (.leaf)) (.node (some ti53) (.node (some ti85) (.leaf) (.leaf)) (.leaf))) (.node (some ti29) (.node (some ti45) (.node (some ti77) (.leaf) (.leaf)) (.leaf)) (.node (some ti61) (.node (some ti93) (.leaf) (.leaf)) (.leaf)))))) (.node (some ti2) (.node (some ti4) (.node (some ti8) (.node (some ti16) (.node (some ti32) (.node (some ti64) (.leaf) (.leaf)) (.leaf)) (.node (some ti48) (.node (some ti80) (.leaf) (.leaf)) (.leaf))) (.node (some ti24) (.node (some ti40) (.node (some ti72) (.leaf) (.leaf)) (.leaf)) (.node (some ti56) (.node (some ti88) (.leaf) (.leaf)) (.leaf)))) (.node (some ti12) (.node none (.node (some ti36) (.node (some ti68) (.leaf) (.leaf)) (.leaf)) (.node (some ti52) (.node (some ti84) (.leaf) (.leaf)) (.leaf))) (.node (some ti28) (.node (some ti44) (.node (some ti76) (.leaf) (.leaf)) (.leaf)) (.node (some ti60) (.node (some ti92) (.leaf) (.leaf)) (.leaf))))) (.node (some ti6) (.node (some ti10) (.node (some ti18) (.node (some ti34) (.node (some ti66) (.leaf) (.leaf)) (.leaf)) (.node (some ti50) (.node (some ti82) (.leaf) (.leaf)) (.leaf))) (.node (some ti26) (.node (some ti42) (.node (some ti74) (.leaf) (.leaf)) (.leaf)) (.node (some ti58) (.node (some ti90) (.leaf) (.leaf)) (.leaf)))) (.node (some ti14) (.node (some ti22) (.node (some ti38) (.node (some ti70) (.leaf) (.leaf)) (.leaf)) (.node (some ti54) (.node (some ti86) (.leaf) (.leaf)) (.leaf))) (.node (some ti30) (.node (some ti46) (.node (some ti78) (.leaf) (.leaf)) (.leaf)) (.node (some ti62) (.node (some ti94) (.leaf) (.leaf)) (.leaf))))))
theorem tiT_list : tiT.toL = [(1, ti1), (3, ti3), (7, ti7), (15, ti15), (63, ti63), (47, ti47), (79, ti79), (23, ti23), (39, ti39), (71, ti71), (55, ti55), (87, ti87), (11, ti11), (19, ti19), (35, ti35), (67, ti67), (51, ti51), (83, ti83), (27, ti27), (43, ti43), (75, ti75), (59, ti59), (91, ti91), (5, ti5), (9, ti9), (17, ti17), (33, ti33), (65, ti65), (49, ti49), (81, ti81), (25, ti25), (73, ti73), (57, ti57), (89, ti89), (13, ti13), (21, ti21), (37, ti37), (69, ti69), (53, ti53), (85, ti85), (29, ti29), (45, ti45), (77, ti77), (61, ti61), (93, ti93), (2, ti2), (4, ti4), (8, ti8), (16, ti16), (32, ti32), (64, ti64), (48, ti48), (80, ti80), (24, ti24), (40, ti40), (72, ti72), (56, ti56), (88, ti88), (12, ti12), (36, ti36), (68, ti68), (52, ti52), (84, ti84), (28, ti28), (44, ti44), (76, ti76), (60, ti60), (92, ti92), (6, ti6), (10, ti10), (18, ti18), (34, ti34), (66, ti66), (50, ti50), (82, ti82), (26, ti26), (42, ti42), (74, ti74), (58, ti58), (90, ti90), (14, ti14), (22, ti22), (38, ti38), (70, ti70), (54, ti54), (86, ti86), (30, ti30), (46, ti46), (78, ti78), (62, ti62), (94, ti94)] := by kernel_rfl
theorem tiT_ok : ∀ t i, tiT.get t = some i → tiOf Try.prog t = some i := by
  refine Tr.all_get (p := fun t i => tiOf Try.prog t = some i) ?_
  rw [tiT_list]
  exact .cons ti1_ok (.cons ti3_ok (.cons ti7_ok (.cons ti15_ok (.cons ti63_ok (.cons ti47_ok (.cons ti79_ok (.cons ti23_ok (.cons ti39_ok (.cons ti71_ok (.cons ti55_ok (.cons ti87_ok (.cons ti11_ok (.cons ti19_ok (.cons ti35_ok (.cons ti67_ok (.cons ti51_ok (.cons ti83_ok (.cons ti27_ok (.cons ti43_ok (.cons ti75_ok (.cons ti59_ok (.cons ti91_ok (.cons ti5_ok (.cons ti9_ok (.cons ti17_ok (.cons ti33_ok (.cons ti65_ok (.cons ti49_ok (.cons ti81_ok (.cons ti25_ok (.cons ti73_ok (.cons ti57_ok (.cons ti89_ok (.cons ti13_ok (.cons ti21_ok (.cons ti37_ok (.cons ti69_ok (.cons ti53_ok (.cons ti85_ok (.cons ti29_ok (.cons ti45_ok (.cons ti77_ok (.cons ti61_ok (.cons ti93_ok (.cons ti2_ok (.cons ti4_ok (.cons ti8_ok (.cons ti16_ok (.cons ti32_ok (.cons ti64_ok (.cons ti48_ok (.cons ti80_ok (.cons ti24_ok (.cons ti40_ok (.cons ti72_ok (.cons ti56_ok (.cons ti88_ok (.cons ti12_ok (.cons ti36_ok (.cons ti68_ok (.cons ti52_ok (.cons ti84_ok (.cons ti28_ok (.cons ti44_ok (.cons ti76_ok (.cons ti60_ok (.cons ti92_ok (.cons ti6_ok (.cons ti10_ok (.cons ti18_ok (.cons ti34_ok (.cons ti66_ok (.cons ti50_ok (.cons ti82_ok (.cons ti26_ok (.cons ti42_ok (.cons ti74_ok (.cons ti58_ok (.cons ti90_ok (.cons ti14_ok (.cons ti22_ok (.cons ti38_ok (.cons ti70_ok (.cons ti54_ok (.cons ti86_ok (.cons ti30_ok (.cons ti46_ok (.cons ti78_ok (.cons ti62_ok (.cons ti94_ok (.nil)))))))))))))))))))))))))))))))))))))))))))))))))))))))))))))))))))))))))))))))))))))))))))
noncomputable def fnT : Tr Func := .node none (.node none (.node (some Try.f3) (.node (some Try.f7) (.node (some Try.f15) (.node (some Try.f31) (.leaf) (.leaf)) (.node (some Try.f47) (.leaf) (.leaf))) (.node (some Try.f23) (.node (some Try.f39) (.leaf) (.leaf)) (.leaf))) (.node (some Try.f11) (.node (some Try.f19) (.node (some Try.f35) (.leaf) (.leaf)) (.node (some Try.f51) (.leaf) (.leaf))) (.node (some Try.f27) (.node (some Try.f43) (.leaf) (.leaf)) (.leaf)))) (.node (some Try.f5) (.node (some Try.f9) (.node (some Try.f17) (.node (some Try.f33) (.leaf) (.leaf)) (.node (some Try.f49) (.leaf) (.leaf))) (.node (some Try.f25) (.node (some Try.f41) (.leaf) (.leaf)) (.leaf))) (.node (some Try.f13) (.node (some Try.f21) (.node (some Try.f37) (.leaf) (.leaf)) (.node (some Try.f53) (.leaf) (.leaf))) (.node (some Try.f29) (.node (some Try.f45) (.leaf) (.leaf)) (.leaf))))) (.node none (.node (some Try.f4) (.node (some Try.f8) (.node (some Try.f16) (.node (some Try.f32) (.leaf) (.leaf)) (.node (some Try.f48) (.leaf) (.leaf))) (.node (some Try.f24) (.node (some Try.f40) (.leaf) (.leaf)) (.leaf))) (.node (some Try.f12) (.node (some Try.f20) (.node (some Try.f36) (.leaf) (.leaf)) (.node (some Try.f52) (.leaf) (.leaf))) (.node (some Try.f28) (.node (some Try.f44) (.leaf) (.leaf)) (.leaf)))) (.node (some Try.f6) (.node (some Try.f10) (.node (some Try.f18) (.node (some Try.f34) (.leaf) (.leaf)) (.node (some Try.f50) (.leaf) (.leaf))) (.node (some Try.f26) (.node (some Try.f42) (.leaf) (.leaf)) (.leaf))) (.node (some Try.f14) (.node (some Try.f22) (.node (some Try.f38) (.leaf) (.leaf)) (.node (some Try.f54) (.leaf) (.leaf))) (.node (some Try.f30) (.node (some Try.f46) (.leaf) (.leaf)) (.leaf)))))
theorem fnT_list : fnT.toL = [(3, Try.f3), (7, Try.f7), (15, Try.f15), (31, Try.f31), (47, Try.f47), (23, Try.f23), (39, Try.f39), (11, Try.f11), (19, Try.f19), (35, Try.f35), (51, Try.f51), (27, Try.f27), (43, Try.f43), (5, Try.f5), (9, Try.f9), (17, Try.f17), (33, Try.f33), (49, Try.f49), (25, Try.f25), (41, Try.f41), (13, Try.f13), (21, Try.f21), (37, Try.f37), (53, Try.f53), (29, Try.f29), (45, Try.f45), (4, Try.f4), (8, Try.f8), (16, Try.f16), (32, Try.f32), (48, Try.f48), (24, Try.f24), (40, Try.f40), (12, Try.f12), (20, Try.f20), (36, Try.f36), (52, Try.f52), (28, Try.f28), (44, Try.f44), (6, Try.f6), (10, Try.f10), (18, Try.f18), (34, Try.f34), (50, Try.f50), (26, Try.f26), (42, Try.f42), (14, Try.f14), (22, Try.f22), (38, Try.f38), (54, Try.f54), (30, Try.f30), (46, Try.f46)] := by kernel_rfl
def fnP (k : Nat) (f : Func) : Prop := Try.prog.funcs[k]? = some f ∧ (f.name == "runtime.NumGoroutine") = false
theorem fnT_ok : ∀ k f, fnT.get k = some f → Try.prog.funcs[k]? = some f ∧ (f.name == "runtime.NumGoroutine") = false := by
  refine Tr.all_get (p := fnP) ?_
  rw [fnT_list]
  exact .cons ⟨Try.func3, by kernel_rfl⟩ (.cons ⟨Try.func7, by kernel_rfl⟩ (.cons ⟨Try.func15, by kernel_rfl⟩ (.cons ⟨Try.func31, by kernel_rfl⟩ (.cons ⟨Try.func47, by kernel_rfl⟩ (.cons ⟨Try.func23, by kernel_rfl⟩ (.cons ⟨Try.func39, by kernel_rfl⟩ (.cons ⟨Try.func11, by kernel_rfl⟩ (.cons ⟨Try.func19, by kernel_rfl⟩ (.cons ⟨Try.func35, by kernel_rfl⟩ (.cons ⟨Try.func51, by kernel_rfl⟩ (.cons ⟨Try.func27, by kernel_rfl⟩ (.cons ⟨Try.func43, by kernel_rfl⟩ (.cons ⟨Try.func5, by kernel_rfl⟩ (.cons ⟨Try.func9, by kernel_rfl⟩ (.cons ⟨Try.func17, by kernel_rfl⟩ (.cons ⟨Try.func33, by kernel_rfl⟩ (.cons ⟨Try.func49, by kernel_rfl⟩ (.cons ⟨Try.func25, by kernel_rfl⟩ (.cons ⟨Try.func41, by kernel_rfl⟩ (.cons ⟨Try.func13, by kernel_rfl⟩ (.cons ⟨Try.func21, by kernel_rfl⟩ (.cons ⟨Try.func37, by kernel_rfl⟩ (.cons ⟨Try.func53, by kernel_rfl⟩ (.cons ⟨Try.func29, by kernel_rfl⟩ (.cons ⟨Try.func45, by kernel_rfl⟩ (.cons ⟨Try.func4, by kernel_rfl⟩ (.cons ⟨Try.func8, by kernel_rfl⟩ (.cons ⟨Try.func16, by kernel_rfl⟩ (.cons ⟨Try.func32, by kernel_rfl⟩ (.cons ⟨Try.func48, by kernel_rfl⟩ (.cons ⟨Try.func24, by kernel_rfl⟩ (.cons ⟨Try.func40, by kernel_rfl⟩ (.cons ⟨Try.func12, by kernel_rfl⟩ (.cons ⟨Try.func20, by kernel_rfl⟩ (.cons ⟨Try.func36, by kernel_rfl⟩ (.cons ⟨Try.func52, by kernel_rfl⟩ (.cons ⟨Try.func28, by kernel_rfl⟩ (.cons ⟨Try.func44, by kernel_rfl⟩ (.cons ⟨Try.func6, by kernel_rfl⟩ (.cons ⟨Try.func10, by kernel_rfl⟩ (.cons ⟨Try.func18, by kernel_rfl⟩ (.cons ⟨Try.func34, by kernel_rfl⟩ (.cons ⟨Try.func50, by kernel_rfl⟩ (.cons ⟨Try.func26, by kernel_rfl⟩ (.cons ⟨Try.func42, by kernel_rfl⟩ (.cons ⟨Try.func14, by kernel_rfl⟩ (.cons ⟨Try.func22, by kernel_rfl⟩ (.cons ⟨Try.func38, by kernel_rfl⟩ (.cons ⟨Try.func54, by kernel_rfl⟩ (.cons ⟨Try.func30, by kernel_rfl⟩ (.cons ⟨Try.func46, by kernel_rfl⟩ (.nil))))))))))))))))))))))))))))))))))))))))))))))))))))
noncomputable def ky7 : List KK := [.int .i64, .int .i64, .bool, .int .u8]
theorem ky7_ok : keysOf Try.prog 7 = some ky7 := by kernel_rfl
noncomputable def ky8 : List KK := [.int .i64, .int .i64, .bool, .int .u8]
theorem ky8_ok : keysOf Try.prog 8 = some ky8 := by kernel_rfl
noncomputable def ky27 : List KK := [.int .i64, .int .i64, .int .i64, .int .i64, .int .i64, .int .i64, .int .i64, .int .i64, .int .i64, .int .i64, .int .i64, .int .i64, .int .i64, .int .i64, .int .i64, .int .i64, .int .i64, .int .i64, .int .i64, .int .i64, .int .i64, .int .i64, .int .i64, .int .i64, .int .i64, .int .i64, .int .i64, .int .i64, .int .i64, .int .i64, .int .i64, .int .i64, .int .i64, .int .i64, .int .i64, .int .i64, .int .i64, .int .i64, .int .i64, .int .i64, .int .i64, .int .i64, .int .i64, .int .i64, .int .i64, .int .i64, .int .i64, .int .i64, .int .i64, .int .i64, .int .i64, .int .i64, .int .i64, .int .i64, .int .i64, .int .i64, .int .i64, .int .i64, .int .i64, .int .i64, .int .i64, .int .i64, .int .i64, .int .i64]
theorem ky27_ok : keysOf Try.prog 27 = some ky27 := by kernel_rfl
noncomputable def ky52 : List KK := [.int .i64, .int .i64, .int .i64]
theorem ky52_ok : keysOf Try.prog 52 = some ky52 := by kernel_rfl
noncomputable def ky53 : List KK := [.int .i64, .int .i64, .int .i64]
theorem ky53_ok : keysOf Try.prog 53 = some ky53 := by kernel_rfl
noncomputable def ky55 : List KK := [.int .i64, .int .i64, .bool, .bool]
theorem ky55_ok : keysOf Try.prog 55 = some ky55 := by kernel_rfl
noncomputable def ky56 : List KK := [.int .i64, .int .i64, .bool, .bool]
theorem ky56_ok : keysOf Try.prog 56 = some ky56 := by kernel_rfl
noncomputable def ky68 : List KK := [.int .i64, .int .i64, .int .i64, .int .i64, .int .i64, .bool]
theorem ky68_ok : keysOf Try.prog 68 = some ky68 := by kernel_rfl
noncomputable def ky69 : List KK := [.int .i64, .int .i64, .int .i64, .int .i64, .int .i64, .bool]
theorem ky69_ok : keysOf Try.prog 69 = some ky69 := by kernel_rfl
noncomputable def kyT : Tr (List KK) := .node none (.node none (.node none (.node (some ky7) (.leaf) (.node none (.leaf) (.node (some ky55) (.leaf) (.leaf)))) (.node none (.leaf) (.node (some ky27) (.leaf) (.leaf)))) (.node none (.leaf) (.node none (.node none (.node none (.node (some ky69) (.leaf) (.leaf)) (.leaf)) (.node (some ky53) (.leaf) (.leaf))) (.leaf)))) (.node none (.node none (.node (some ky8) (.leaf) (.node none (.leaf) (.node (some ky56) (.leaf) (.leaf)))) (.node none (.node none (.node none (.node (some ky68) (.leaf) (.leaf)) (.leaf)) (.node (some ky52) (.leaf) (.leaf))) (.leaf))) (.leaf))
theorem kyT_list : kyT.toL = [(7, ky7), (55, ky55), (27, ky27), (69, ky69), (53, ky53), (8, ky8), (56, ky56), (68, ky68), (52, ky52)] := by kernel_rfl
theorem kyT_ok : ∀ t ks, kyT.get t = some ks → KeyOk Try.prog t ks := by
  refine Tr.all_get (p := fun t ks => KeyOk Try.prog t ks) ?_
  rw [kyT_list]
  exact .cons (keysOf_ok ky7_ok) (.cons (keysOf_ok ky55_ok) (.cons (keysOf_ok ky27_ok) (.cons (keysOf_ok ky69_ok) (.cons (keysOf_ok ky53_ok) (.cons (keysOf_ok ky8_ok) (.cons (keysOf_ok ky56_ok) (.cons (keysOf_ok ky68_ok) (.cons (keysOf_ok ky52_ok) (.nil)))))))))
noncomputable def CX (σ : Sig) (kn : List (BExp × Bool)) (hkn : Known σ kn) : Ctx Try.prog := ⟨tiT.get, tiT_ok, kyT.get, kyT_ok, σ, kn, hkn⟩
theorem mixed : Try.prog.follows .mixedOrders = true := by kernel_rfl
end Go.Proofs.Ytnloolhaojoimaa.Ev
namespace Go.Proofs.Ytnloolhaojoimaa.Ev
set_option maxRecDepth 100000
set_option maxHeartbeats 4000000
abbrev n_law20_DequePlays : Nat := 10
abbrev n_law20_alive : Nat := 11
abbrev n_deque_New : Nat := 12
abbrev n_deque_Deque_Busy : Nat := 13
abbrev n_deque_Deque_Step : Nat := 14
abbrev n_deque_Deque_Begin : Nat := 16
abbrev n_law20_num : Nat := 17
abbrev n_deque_Deque_Len : Nat := 18
abbrev n_law20_whole : Nat := 19
abbrev n_ref18_NewDeque : Nat := 20
abbrev n_ref18_Deque_Begin : Nat := 21
abbrev n_ref18_Deque_Step : Nat := 22
abbrev n_ref18_Deque_Busy : Nat := 23
abbrev n_ref18_Deque_Len : Nat := 24
abbrev n_deque_Deque_Last : Nat := 25
abbrev n_ref18_Deque_Last : Nat := 26
abbrev n_deque_steps : Nat := 27
abbrev n_ref18_Deque_push : Nat := 28
abbrev n_ref18_Deque_pop : Nat := 29
abbrev n_ref18_Deque_steal : Nat := 30
abbrev n_deque_push1 : Nat := 31
abbrev n_deque_pop1 : Nat := 32
abbrev n_deque_steal1 : Nat := 33
abbrev n_ref18_Deque_see : Nat := 34
abbrev n_ref18_Deque_end : Nat := 35
abbrev n_ref18_Deque_mod : Nat := 36
abbrev n_deque_operation_readBottom : Nat := 37
abbrev n_deque_push2 : Nat := 38
abbrev n_deque_pop2 : Nat := 39
abbrev n_deque_operation_readTop : Nat := 40
abbrev n_deque_steal2 : Nat := 41
abbrev n_deque_operation_access : Nat := 42
abbrev n_deque_push3 : Nat := 43
abbrev n_deque_operation_writeBottom : Nat := 44
abbrev n_deque_pop3 : Nat := 45
abbrev n_deque_steal3 : Nat := 46
abbrev n_deque_operation_at : Nat := 47
abbrev n_deque_push4 : Nat := 48
abbrev n_deque_pop6 : Nat := 49
abbrev n_deque_pop4 : Nat := 50
abbrev n_deque_operation_read : Nat := 51
abbrev n_deque_steal4 : Nat := 52
abbrev n_deque_pop5 : Nat := 53
abbrev n_deque_operation_takeTop : Nat := 54
abbrev T_int : Nat := 3
abbrev T_sl_law20_Act : Nat := 49
abbrev T_law20_Act : Nat := 53
theorem T_int_is : ∃ i, tiT.get T_int = some i ∧ i.d = .int .i64 ∧ i.size = 1 := ⟨_, (by kernel_rfl : tiT.get T_int = some ti3), by kernel_rfl, by kernel_rfl⟩
theorem T_sl_law20_Act_is : ∃ i, tiT.get T_sl_law20_Act = some i ∧ i.d = .slice T_law20_Act ∧ i.size = 1 := ⟨_, (by kernel_rfl : tiT.get T_sl_law20_Act = some ti49), by kernel_rfl, by kernel_rfl⟩
theorem T_law20_Act_is : ∃ i, tiT.get T_law20_Act = some i ∧ i.d = .struct [(0, T_int), (1, T_int), (2, T_int)] ∧ i.size = 3 := ⟨_, (by kernel_rfl : tiT.get T_law20_Act = some ti53), by kernel_rfl, by kernel_rfl⟩
end Go.Proofs.Ytnloolhaojoimaa.Ev
namespace Go.Proofs.Ytnloolhaojoimaa.Ev
set_option maxRecDepth 100000
set_option maxHeartbeats 4000000
set_option linter.unusedVariables false
variable {σ : Sig}
noncomputable def law20_DequePlays.code : Code := bodyOf Try.f10
noncomputable def law20_DequePlays.Q0 (σ : Sig) (K : AV → Hp → Prop) : Exit → List AV → Hp → Prop := (nx (fnQ (CX σ [] known_nil).ti Try.f10.results.toList K) fun T1 H1 => wp (CX σ [] known_nil) 4034 (sR (sR (sR (sR (sR (sR (sR law20_DequePlays.code))))))) T1 H1 (fnQ (CX σ [] known_nil).ti Try.f10.results.toList K))
noncomputable def law20_DequePlays.L0 (σ : Sig) (K : AV → Hp → Prop) (y1 y6 y7 y8 y9 y10 y11 : AV) (H : Hp) : Prop := ∀ js : Nat → AV, LoopP (CX σ [] known_nil) (lB (bB (sR (sL (sR (sR (sR (sR (sR (sR law20_DequePlays.code)))))))))) [js 0, y1, js 2, js 3, js 4, js 5, y6, y7, y8, y9, y10, y11, js 12, js 13, js 14, js 15, js 16, js 17, js 18, js 19, js 20, js 21, js 22, js 23, js 24, js 25, js 26, js 27, js 28, js 29, js 30, js 31, js 32, js 33, js 34, js 35, js 36, js 37, js 38, js 39, js 40, js 41, js 42, js 43, js 44, js 45, js 46, js 47, js 48, js 49, js 50, js 51, js 52, js 53, js 54, js 55, js 56, js 57, js 58, js 59, js 60, js 61, js 62, js 63, js 64, js 65, js 66, js 67, js 68, js 69, js 70, js 71, js 72, js 73, js 74, js 75, js 76, js 77, js 78, js 79, js 80, js 81, js 82, js 83, js 84, js 85, js 86, js 87, js 88, js 89, js 90, js 91, js 92, js 93, js 94, js 95, js 96, js 97, js 98, js 99, js 100, js 101, js 102, js 103, js 104, js 105, js 106, js 107, js 108, js 109, js 110, js 111, js 112, js 113, js 114, js 115, js 116, js 117, js 118, js 119, js 120, js 121, js 122, js 123] H (fun e T1 H1 => (law20_DequePlays.Q0 σ K) (unblock 0 e) T1 H1)
noncomputable def law20_DequePlays.J1 (σ : Sig) (K : AV → Hp → Prop) (y1 y6 y7 y8 y9 y10 y11 : AV) (H : Hp) : Prop := ∀ js : Nat → AV, wp (CX σ [] known_nil) 4034 (sR (sR (sR (sR (sR (bB (sL (sR (lB (bB (sR (sL (sR (sR (sR (sR (sR (sR law20_DequePlays.code)))))))))))))))))) [js 0, y1, js 2, js 3, js 4, js 5, y6, y7, y8, y9, y10, y11, js 12, js 13, js 14, js 15, js 16, js 17, js 18, js 19, js 20, js 21, js 22, js 23, js 24, js 25, js 26, js 27, js 28, js 29, js 30, js 31, js 32, js 33, js 34, js 35, js 36, js 37, js 38, js 39, js 40, js 41, js 42, js 43, js 44, js 45, js 46, js 47, js 48, js 49, js 50, js 51, js 52, js 53, js 54, js 55, js 56, js 57, js 58, js 59, js 60, js 61, js 62, js 63, js 64, js 65, js 66, js 67, js 68, js 69, js 70, js 71, js 72, js 73, js 74, js 75, js 76, js 77, js 78, js 79, js 80, js 81, js 82, js 83, js 84, js 85, js 86, js 87, js 88, js 89, js 90, js 91, js 92, js 93, js 94, js 95, js 96, js 97, js 98, js 99, js 100, js 101, js 102, js 103, js 104, js 105, js 106, js 107, js 108, js 109, js 110, js 111, js 112, js 113, js 114, js 115, js 116, js 117, js 118, js 119, js 120, js 121, js 122, js 123] H (fun e T1 H1 => (nx (nx (fun e T1 H1 => (law20_DequePlays.Q0 σ K) (unblock 0 e) T1 H1) fun T1 H1 => ∀ js, LoopP (CX σ [] known_nil) (lB (bB (sR (sL (sR (sR (sR (sR (sR (sR law20_DequePlays.code)))))))))) (maskA 4034 js 0 T1) H1 (fun e T1 H1 => (law20_DequePlays.Q0 σ K) (unblock 0 e) T1 H1)) fun T1 H1 => wp (CX σ [] known_nil) 4034 (sR (sR (lB (bB (sR (sL (sR (sR (sR (sR (sR (sR law20_DequePlays.code)))))))))))) T1 H1 (nx (fun e T1 H1 => (law20_DequePlays.Q0 σ K) (unblock 0 e) T1 H1) fun T1 H1 => ∀ js, LoopP (CX σ [] known_nil) (lB (bB (sR (sL (sR (sR (sR (sR (sR (sR law20_DequePlays.code)))))))))) (maskA 4034 js 0 T1) H1 (fun e T1 H1 => (law20_DequePlays.Q0 σ K) (unblock 0 e) T1 H1))) (unblock 1 e) T1 H1)
theorem law20_DequePlays.L0_step {K : AV → Hp → Prop} {y1 y6 y7 y8 y9 y10 y11 : AV} {H : Hp} (h : bnd (lenSl y1) fun x1 => bnd (binR .lss y9 x1) fun x2 => ifB x2 (bnd (ixaSl 3 y1 y9) fun x3 => bnd (ldA true 3 H x3) fun x4 => allocK [.lit (.int .i64 0), .lit (.int .i64 0), .lit (.int .i64 0)] H fun x5 H6 => bnd (stA 3 H6 x5 x4) fun H7 => callK Try.prog σ n_deque_Deque_Begin [y7, (.lit (.int .i64 0)), (.lit (.int .i64 1)), y9] H7 fun x8 H9 => callK Try.prog σ n_deque_Deque_Step [y7, (.lit (.int .i64 0))] H9 fun x10 H11 => bnd (shiftA x5 1) fun x12 => bnd (ldA false 1 H11 x12) fun x13 => bnd (binR .neq x13 (.lit (.int .i64 0))) fun x14 => ifB x14 (bnd (shiftA x5 0) fun x15 => bnd (ldA false 1 H11 x15) fun x16 => bnd (shiftA x5 1) fun x17 => bnd (ldA false 1 H11 x17) fun x18 => bnd (shiftA x5 2) fun x19 => bnd (ldA false 1 H11 x19) fun x20 => callK Try.prog σ n_deque_Deque_Begin [y6, x16, x18, x20] H11 fun x21 H22 => callK Try.prog σ n_law20_num [x21] H22 fun x23 H24 => bnd (shiftA x5 0) fun x25 => kpK (x25, some 1) H22 H24 (kpK (x25, some 1) H11 H24 (bnd (ldA false 1 H24 x25) fun x26 => bnd (shiftA x5 1) fun x27 => kpK (x27, some 1) H22 H24 (kpK (x27, some 1) H11 H24 (bnd (ldA false 1 H24 x27) fun x28 => bnd (shiftA x5 2) fun x29 => kpK (x29, some 1) H22 H24 (kpK (x29, some 1) H11 H24 (bnd (ldA false 1 H24 x29) fun x30 => callK Try.prog σ n_ref18_Deque_Begin [y8, x26, x28, x30] H24 fun x31 H32 => bnd (binR .eql x23 x31) fun x33 => law20_DequePlays.J1 σ K y1 y6 y7 y8 y9 x5 x33 H32))))))) (bnd (shiftA x5 0) fun x34 => bnd (ldA false 1 H11 x34) fun x35 => callK Try.prog σ n_deque_Deque_Step [y6, x35] H11 fun x36 H37 => bnd (exR x36 0) fun x38 => bnd (exR x36 1) fun x39 => bnd (exR x36 2) fun x40 => bnd (shiftA x5 0) fun x41 => bnd (ldA false 1 H37 x41) fun x42 => callK Try.prog σ n_ref18_Deque_Step [y8, x42] H37 fun x43 H44 => bnd (exR x43 0) fun x45 => bnd (exR x43 1) fun x46 => bnd (exR x43 2) fun x47 => bnd (eqBoolR .eql x38 x45) fun x48 => ifB x48 (bnd (binR .eql x39 x46) fun x49 => ifB x49 (bnd (eqBoolR .eql x40 x47) fun x50 => law20_DequePlays.J1 σ K y1 y6 y7 y8 y9 x5 x50 H44) (law20_DequePlays.J1 σ K y1 y6 y7 y8 y9 x5 (.lit (.bool false)) H44)) (law20_DequePlays.J1 σ K y1 y6 y7 y8 y9 x5 (.lit (.bool false)) H44))) (K (.lit (.bool true)) H)) : law20_DequePlays.L0 σ K y1 y6 y7 y8 y9 y10 y11 H :=
  fun js => LoopP.round (CX σ [] known_nil) mixed (g := 4034) (Eq.mpr (by kernel_rfl) h)
theorem law20_DequePlays.J1_step {K : AV → Hp → Prop} {y1 y6 y7 y8 y9 y10 y11 : AV} {H : Hp} (h : bnd (unR .not y11) fun x1 => ifB x1 (K (.lit (.bool false)) H) (bnd (shiftA y10 0) fun x2 => bnd (ldA false 1 H x2) fun x3 => callK Try.prog σ n_deque_Deque_Busy [y6, x3] H fun x4 H5 => bnd (shiftA y10 0) fun x6 => kpK (x6, some 1) H H5 (bnd (ldA false 1 H5 x6) fun x7 => callK Try.prog σ n_ref18_Deque_Busy [y8, x7] H5 fun x8 H9 => bnd (eqBoolR .neq x4 x8) fun x10 => ifB x10 (K (.lit (.bool false)) H9) (callK Try.prog σ n_deque_Deque_Len [y6] H9 fun x11 H12 => callK Try.prog σ n_ref18_Deque_Len [y8] H12 fun x13 H14 => bnd (binR .neq x11 x13) fun x15 => ifB x15 (K (.lit (.bool false)) H14) (callK Try.prog σ n_deque_Deque_Last [y6] H14 fun x16 H17 => callK Try.prog σ n_ref18_Deque_Last [y8] H17 fun x18 H19 => bnd (eqAggR [.int .i64, .int .i64, .bool, .bool] .neq x16 x18) fun x20 => ifB x20 (K (.lit (.bool false)) H19) (bnd (binR .add y9 (.lit (.int .i64 1))) fun x21 => law20_DequePlays.L0 σ K y1 y6 y7 y8 x21 y10 y11 H19)))))) : law20_DequePlays.J1 σ K y1 y6 y7 y8 y9 y10 y11 H :=
  fun js => Eq.mpr (by kernel_rfl) h
theorem law20_DequePlays.run {a0 a1 : AV} {H : Hp} {K : AV → Hp → Prop} (h : callK Try.prog σ n_law20_alive [] H fun x1 H2 => bnd (unR .not x1) fun x3 => ifB x3 (K x1 H2) (bnd (lenSl a1) fun x4 => bnd (binR .gtr x4 (.lit (.int .i64 200))) fun x5 => ifB x5 (K x1 H2) (callK Try.prog σ n_deque_New [a0] H2 fun x6 H7 => callK Try.prog σ n_deque_New [(.lit (.int .i64 2))] H7 fun x8 H9 => callK Try.prog σ n_ref18_NewDeque [a0] H9 fun x10 H11 => law20_DequePlays.L0 σ K a1 x6 x8 x10 (.lit (.int .i64 0)) (.lit undef) (.lit undef) H11))) : ∃ r H1, Good Try.prog σ n_law20_DequePlays [a0, a1] H r H1 ∧ K r H1 :=
  good_of_wp (CX σ [] known_nil) mixed 4034 (fn := Try.f10) (f := n_law20_DequePlays) (c := law20_DequePlays.code) (fnT_ok 10 _ (by kernel_rfl)).1 (by kernel_rfl) (fnT_ok 10 _ (by kernel_rfl)).2 (Eq.mpr (by kernel_rfl) h)
noncomputable def deque_New.code : Code := bodyOf Try.f12
theorem deque_New.run {a0 : AV} {H : Hp} {K : AV → Hp → Prop} (h : bnd (maxA [(.lit (.int .i64 1)), a0]) fun x1 => bnd (minA [x1, (.lit (.int .i64 1024))]) fun x2 => bnd (mkSlR [.int .i64 0] 1 8 H x2 x2) fun p3 => bnd (bldR [.lit (.slice none 0 0), .lit (.int .i64 0), .lit (.int .i64 0), .lit (.pointer none), .lit (.pointer none), .lit (.pointer none), .lit (.pointer none), .lit (.pointer none), .lit (.pointer none), .lit (.pointer none), .lit (.pointer none), .lit (.pointer none), .lit (.pointer none), .lit (.pointer none), .lit (.pointer none), .lit (.pointer none), .lit (.pointer none), .lit (.pointer none), .lit (.pointer none), .lit (.pointer none), .lit (.pointer none), .lit (.pointer none), .lit (.pointer none), .lit (.pointer none), .lit (.pointer none), .lit (.pointer none), .lit (.pointer none), .lit (.pointer none), .lit (.pointer none), .lit (.pointer none), .lit (.pointer none), .lit (.pointer none), .lit (.pointer none), .lit (.pointer none), .lit (.pointer none), .lit (.pointer none), .lit (.pointer none), .lit (.pointer none), .lit (.pointer none), .lit (.pointer none), .lit (.pointer none), .lit (.pointer none), .lit (.pointer none), .lit (.pointer none), .lit (.pointer none), .lit (.pointer none), .lit (.pointer none), .lit (.pointer none), .lit (.pointer none), .lit (.pointer none), .lit (.pointer none), .lit (.pointer none), .lit (.pointer none), .lit (.pointer none), .lit (.pointer none), .lit (.pointer none), .lit (.pointer none), .lit (.pointer none), .lit (.pointer none), .lit (.pointer none), .lit (.pointer none), .lit (.pointer none), .lit (.pointer none), .lit (.pointer none), .lit (.pointer none), .lit (.pointer none), .lit (.pointer none), .lit (.pointer none), .lit (.int .i64 0), .lit (.int .i64 0), .lit (.bool false), .lit (.bool false)] [(0, 1, p3.1)]) fun l4 => boxK (.agg l4) p3.2 fun x5 H6 => K x5 H6) : ∃ r H1, Good Try.prog σ n_deque_New [a0] H r H1 ∧ K r H1 :=
  good_of_wp (CX σ [] known_nil) mixed 0 (fn := Try.f12) (f := n_deque_New) (c := deque_New.code) (fnT_ok 12 _ (by kernel_rfl)).1 (by kernel_rfl) (fnT_ok 12 _ (by kernel_rfl)).2 (Eq.mpr (by kernel_rfl) h)
noncomputable def deque_Deque_Busy.code : Code := bodyOf Try.f13
theorem deque_Deque_Busy.run {a0 a1 : AV} {H : Hp} {K : AV → Hp → Prop} (h : bnd (binR .geq a1 (.lit (.int .i64 0))) fun x1 => ifB x1 (bnd (binR .leq a1 (.lit (.int .i64 64))) fun x2 => ifB x2 (bnd (nilR a0) fun x3 => bnd (shiftA x3 3) fun x4 => bnd (ixaArr 65 1 x4 a1) fun x5 => bnd (ldA false 1 H x5) fun x6 => bnd (eqPtrR .neq x6 (.lit (.pointer none))) fun x7 => K x7 H) (K (.lit (.bool false)) H)) (K (.lit (.bool false)) H)) : ∃ r H1, Good Try.prog σ n_deque_Deque_Busy [a0, a1] H r H1 ∧ K r H1 :=
  good_of_wp (CX σ [] known_nil) mixed 0 (fn := Try.f13) (f := n_deque_Deque_Busy) (c := deque_Deque_Busy.code) (fnT_ok 13 _ (by kernel_rfl)).1 (by kernel_rfl) (fnT_ok 13 _ (by kernel_rfl)).2 (Eq.mpr (by kernel_rfl) h)
noncomputable def deque_Deque_Step.code : Code := bodyOf Try.f14
theorem deque_Deque_Step.run {a0 a1 : AV} {H : Hp} {K : AV → Hp → Prop} (h : callK Try.prog σ n_deque_Deque_Busy [a0, a1] H fun x1 H2 => bnd (unR .not x1) fun x3 => ifB x3 (K (.tup [(.lit (.bool false)), (.lit (.int .i64 0)), (.lit (.bool false))]) H2) (bnd (nilR a0) fun x4 => bnd (shiftA x4 3) fun x5 => bnd (ixaArr 65 1 x5 a1) fun x6 => bnd (ldA false 1 H2 x6) fun x7 => bnd (nilR x7) fun x8 => bnd (shiftA x8 6) fun x9 => bnd (ldA false 1 H2 x9) fun x10 => callV Try.prog σ x10 [x7] H2 fun x11 H12 => bnd (nilR x7) fun x13 => bnd (shiftA x13 6) fun x14 => bnd (stA 1 H12 x14 x11) fun H15 => bnd (nilR x7) fun x16 => bnd (shiftA x16 6) fun x17 => bnd (ldA false 1 H15 x17) fun x18 => bnd (eqFnR .neq x18 (.lit (.nilFunc))) fun x19 => ifB x19 (K (.tup [(.lit (.bool false)), (.lit (.int .i64 0)), (.lit (.bool false))]) H15) (bnd (nilR a0) fun x20 => bnd (shiftA x20 3) fun x21 => bnd (ixaArr 65 1 x21 a1) fun x22 => bnd (stA 1 H15 x22 (.lit (.pointer none))) fun H23 => bnd (nilR x7) fun x24 => bnd (shiftA x24 5) fun x25 => bnd (ldA false 1 H23 x25) fun x26 => bnd (unR .not x26) fun x27 => ifB x27 (K (.tup [(.lit (.bool true)), (.lit (.int .i64 0)), (.lit (.bool false))]) H23) (bnd (nilR x7) fun x28 => bnd (shiftA x28 2) fun x29 => bnd (ldA false 1 H23 x29) fun x30 => K (.tup [(.lit (.bool true)), x30, (.lit (.bool true))]) H23)))) : ∃ r H1, Good Try.prog σ n_deque_Deque_Step [a0, a1] H r H1 ∧ K r H1 :=
  good_of_wp (CX σ [] known_nil) mixed 0 (fn := Try.f14) (f := n_deque_Deque_Step) (c := deque_Deque_Step.code) (fnT_ok 14 _ (by kernel_rfl)).1 (by kernel_rfl) (fnT_ok 14 _ (by kernel_rfl)).2 (Eq.mpr (by kernel_rfl) h)
noncomputable def deque_Deque_Begin.code : Code := bodyOf Try.f16
theorem deque_Deque_Begin.run {a0 a1 a2 a3 : AV} {H : Hp} {K : AV → Hp → Prop} (h : bnd (binR .lss a1 (.lit (.int .i64 0))) fun x1 => ifB x1 (K (.lit (.int .i64 1)) H) (bnd (binR .gtr a1 (.lit (.int .i64 64))) fun x2 => ifB x2 (K (.lit (.int .i64 1)) H) (bnd (nilR a0) fun x3 => bnd (shiftA x3 3) fun x4 => bnd (ixaArr 65 1 x4 a1) fun x5 => bnd (ldA false 1 H x5) fun x6 => bnd (eqPtrR .neq x6 (.lit (.pointer none))) fun x7 => ifB x7 (K (.lit (.int .i64 1)) H) (callK Try.prog σ n_deque_steps [a1, a2] H fun x8 H9 => bnd (eqFnR .eql x8 (.lit (.nilFunc))) fun x10 => ifB x10 (K (.lit (.int .i64 1)) H9) (callK Try.prog σ n_deque_steps [a1, a2] H9 fun x11 H12 => bnd (bldR [.lit (.pointer none), .lit (.int .i64 0), .lit (.int .i64 0), .lit (.int .i64 0), .lit (.int .i64 0), .lit (.bool false), .lit (.nilFunc)] [(0, 1, a0), (1, 1, a1), (2, 1, a3), (6, 1, x11)]) fun l13 => boxK (.agg l13) H12 fun x14 H15 => bnd (nilR a0) fun x16 => bnd (shiftA x16 3) fun x17 => bnd (ixaArr 65 1 x17 a1) fun x18 => bnd (stA 1 H15 x18 x14) fun H19 => K (.lit (.int .i64 0)) H19))))) : ∃ r H1, Good Try.prog σ n_deque_Deque_Begin [a0, a1, a2, a3] H r H1 ∧ K r H1 :=
  good_of_wp (CX σ [] known_nil) mixed 0 (fn := Try.f16) (f := n_deque_Deque_Begin) (c := deque_Deque_Begin.code) (fnT_ok 16 _ (by kernel_rfl)).1 (by kernel_rfl) (fnT_ok 16 _ (by kernel_rfl)).2 (Eq.mpr (by kernel_rfl) h)
noncomputable def law20_num.code : Code := bodyOf Try.f17
theorem law20_num.run {a0 : AV} {H : Hp} {K : AV → Hp → Prop} (h : K a0 H) : ∃ r H1, Good Try.prog σ n_law20_num [a0] H r H1 ∧ K r H1 :=
  good_of_wp (CX σ [] known_nil) mixed 0 (fn := Try.f17) (f := n_law20_num) (c := law20_num.code) (fnT_ok 17 _ (by kernel_rfl)).1 (by kernel_rfl) (fnT_ok 17 _ (by kernel_rfl)).2 (Eq.mpr (by kernel_rfl) h)
noncomputable def deque_Deque_Len.code : Code := bodyOf Try.f18
theorem deque_Deque_Len.run {a0 : AV} {H : Hp} {K : AV → Hp → Prop} (h : bnd (nilR a0) fun x1 => bnd (shiftA x1 2) fun x2 => bnd (ldA false 1 H x2) fun x3 => bnd (nilR a0) fun x4 => bnd (shiftA x4 1) fun x5 => bnd (ldA false 1 H x5) fun x6 => bnd (binR .sub x3 x6) fun x7 => bnd (maxA [(.lit (.int .i64 0)), x7]) fun x8 => K x8 H) : ∃ r H1, Good Try.prog σ n_deque_Deque_Len [a0] H r H1 ∧ K r H1 :=
  good_of_wp (CX σ [] known_nil) mixed 0 (fn := Try.f18) (f := n_deque_Deque_Len) (c := deque_Deque_Len.code) (fnT_ok 18 _ (by kernel_rfl)).1 (by kernel_rfl) (fnT_ok 18 _ (by kernel_rfl)).2 (Eq.mpr (by kernel_rfl) h)
noncomputable def law20_whole.code : Code := bodyOf Try.f19
noncomputable def law20_whole.L0 (σ : Sig) (K : AV → Hp → Prop) (y0 y1 y10 : AV) (H : Hp) : Prop := ∀ js : Nat → AV, LoopP (CX σ [] known_nil) (lB (bB (sR (sL (sR (sR law20_whole.code)))))) [y0, y1, js 2, js 3, js 4, js 5, js 6, js 7, js 8, js 9, y10, js 11, js 12, js 13, js 14, js 15, js 16, js 17, js 18, js 19, js 20, js 21, js 22, js 23, js 24, js 25, js 26, js 27, js 28, js 29, js 30, js 31, js 32] H (fun e T1 H1 => (nx (fnQ (CX σ [] known_nil).ti Try.f19.results.toList K) fun T1 H1 => wp (CX σ [] known_nil) 1027 (sR (sR (sR law20_whole.code))) T1 H1 (fnQ (CX σ [] known_nil).ti Try.f19.results.toList K)) (unblock 0 e) T1 H1)
theorem law20_whole.L0_step {K : AV → Hp → Prop} {y0 y1 y10 : AV} {H : Hp} (h : bnd (binR .lss y10 (.lit (.int .i64 10))) fun x1 => ifB x1 (callK Try.prog σ n_deque_Deque_Step [y0, y1] H fun x2 H3 => bnd (exR x2 0) fun x4 => bnd (exR x2 1) fun x5 => bnd (exR x2 2) fun x6 => ifB x4 (K (.tup [x5, x6]) H3) (bnd (binR .add y10 (.lit (.int .i64 1))) fun x7 => law20_whole.L0 σ K y0 y1 x7 H3)) (K (.tup [(.lit (.int .i64 (-1))), (.lit (.bool false))]) H)) : law20_whole.L0 σ K y0 y1 y10 H :=
  fun js => LoopP.round (CX σ [] known_nil) mixed (g := 1027) (Eq.mpr (by kernel_rfl) h)
theorem law20_whole.run {a0 a1 a2 a3 : AV} {H : Hp} {K : AV → Hp → Prop} (h : callK Try.prog σ n_deque_Deque_Begin [a0, a1, a2, a3] H fun x1 H2 => law20_whole.L0 σ K a0 a1 (.lit (.int .i64 0)) H2) : ∃ r H1, Good Try.prog σ n_law20_whole [a0, a1, a2, a3] H r H1 ∧ K r H1 :=
  good_of_wp (CX σ [] known_nil) mixed 1027 (fn := Try.f19) (f := n_law20_whole) (c := law20_whole.code) (fnT_ok 19 _ (by kernel_rfl)).1 (by kernel_rfl) (fnT_ok 19 _ (by kernel_rfl)).2 (Eq.mpr (by kernel_rfl) h)
noncomputable def ref18_NewDeque.code : Code := bodyOf Try.f20
noncomputable def ref18_NewDeque.J0 (σ : Sig) (K : AV → Hp → Prop) (y0 : AV) (H : Hp) : Prop := ∀ js : Nat → AV, wp (CX σ [] known_nil) 1 (sR (sR ref18_NewDeque.code)) [y0, js 1, js 2, js 3, js 4, js 5, js 6, js 7, js 8, js 9, js 10, js 11] H (fnQ (CX σ [] known_nil).ti Try.f20.results.toList K)
noncomputable def ref18_NewDeque.J1 (σ : Sig) (K : AV → Hp → Prop) (y0 : AV) (H : Hp) : Prop := ∀ js : Nat → AV, wp (CX σ [] known_nil) 1 (sR (sR (sR ref18_NewDeque.code))) [y0, js 1, js 2, js 3, js 4, js 5, js 6, js 7, js 8, js 9, js 10, js 11] H (fnQ (CX σ [] known_nil).ti Try.f20.results.toList K)
theorem ref18_NewDeque.J0_step {K : AV → Hp → Prop} {y0 : AV} {H : Hp} (h : bnd (binR .gtr y0 (.lit (.int .i64 1024))) fun x1 => ifB x1 (ref18_NewDeque.J1 σ K (.lit (.int .i64 1024)) H) (ref18_NewDeque.J1 σ K y0 H)) : ref18_NewDeque.J0 σ K y0 H :=
  fun js => Eq.mpr (by kernel_rfl) h
theorem ref18_NewDeque.J1_step {K : AV → Hp → Prop} {y0 : AV} {H : Hp} (h : bnd (mkSlR [.int .i64 0] 1 8 H y0 y0) fun p1 => bnd (bldR [.lit (.int .i64 0), .lit (.int .i64 0), .lit (.int .i64 0), .lit (.slice none 0 0), .lit (.int .i64 0), .lit (.int .i64 0), .lit (.int .i64 0), .lit (.int .i64 0), .lit (.int .i64 0), .lit (.bool false), .lit (.int .i64 0), .lit (.int .i64 0), .lit (.int .i64 0), .lit (.int .i64 0), .lit (.int .i64 0), .lit (.bool false), .lit (.int .i64 0), .lit (.int .i64 0), .lit (.int .i64 0), .lit (.int .i64 0), .lit (.int .i64 0), .lit (.bool false), .lit (.int .i64 0), .lit (.int .i64 0), .lit (.int .i64 0), .lit (.int .i64 0), .lit (.int .i64 0), .lit (.bool false), .lit (.int .i64 0), .lit (.int .i64 0), .lit (.int .i64 0), .lit (.int .i64 0), .lit (.int .i64 0), .lit (.bool false), .lit (.int .i64 0), .lit (.int .i64 0), .lit (.int .i64 0), .lit (.int .i64 0), .lit (.int .i64 0), .lit (.bool false), .lit (.int .i64 0), .lit (.int .i64 0), .lit (.int .i64 0), .lit (.int .i64 0), .lit (.int .i64 0), .lit (.bool false), .lit (.int .i64 0), .lit (.int .i64 0), .lit (.int .i64 0), .lit (.int .i64 0), .lit (.int .i64 0), .lit (.bool false), .lit (.int .i64 0), .lit (.int .i64 0), .lit (.int .i64 0), .lit (.int .i64 0), .lit (.int .i64 0), .lit (.bool false), .lit (.int .i64 0), .lit (.int .i64 0), .lit (.int .i64 0), .lit (.int .i64 0), .lit (.int .i64 0), .lit (.bool false), .lit (.int .i64 0), .lit (.int .i64 0), .lit (.int .i64 0), .lit (.int .i64 0), .lit (.int .i64 0), .lit (.bool false), .lit (.int .i64 0), .lit (.int .i64 0), .lit (.int .i64 0), .lit (.int .i64 0), .lit (.int .i64 0), .lit (.bool false), .lit (.int .i64 0), .lit (.int .i64 0), .lit (.int .i64 0), .lit (.int .i64 0), .lit (.int .i64 0), .lit (.bool false), .lit (.int .i64 0), .lit (.int .i64 0), .lit (.int .i64 0), .lit (.int .i64 0), .lit (.int .i64 0), .lit (.bool false), .lit (.int .i64 0), .lit (.int .i64 0), .lit (.int .i64 0), .lit (.int .i64 0), .lit (.int .i64 0), .lit (.bool false), .lit (.int .i64 0), .lit (.int .i64 0), .lit (.int .i64 0), .lit (.int .i64 0), .lit (.int .i64 0), .lit (.bool false), .lit (.int .i64 0), .lit (.int .i64 0), .lit (.int .i64 0), .lit (.int .i64 0), .lit (.int .i64 0), .lit (.bool false), .lit (.int .i64 0), .lit (.int .i64 0), .lit (.int .i64 0), .lit (.int .i64 0), .lit (.int .i64 0), .lit (.bool false), .lit (.int .i64 0), .lit (.int .i64 0), .lit (.int .i64 0), .lit (.int .i64 0), .lit (.int .i64 0), .lit (.bool false), .lit (.int .i64 0), .lit (.int .i64 0), .lit (.int .i64 0), .lit (.int .i64 0), .lit (.int .i64 0), .lit (.bool false), .lit (.int .i64 0), .lit (.int .i64 0), .lit (.int .i64 0), .lit (.int .i64 0), .lit (.int .i64 0), .lit (.bool false), .lit (.int .i64 0), .lit (.int .i64 0), .lit (.int .i64 0), .lit (.int .i64 0), .lit (.int .i64 0), .lit (.bool false), .lit (.int .i64 0), .lit (.int .i64 0), .lit (.int .i64 0), .lit (.int .i64 0), .lit (.int .i64 0), .lit (.bool false), .lit (.int .i64 0), .lit (.int .i64 0), .lit (.int .i64 0), .lit (.int .i64 0), .lit (.int .i64 0), .lit (.bool false), .lit (.int .i64 0), .lit (.int .i64 0), .lit (.int .i64 0), .lit (.int .i64 0), .lit (.int .i64 0), .lit (.bool false), .lit (.int .i64 0), .lit (.int .i64 0), .lit (.int .i64 0), .lit (.int .i64 0), .lit (.int .i64 0), .lit (.bool false), .lit (.int .i64 0), .lit (.int .i64 0), .lit (.int .i64 0), .lit (.int .i64 0), .lit (.int .i64 0), .lit (.bool false), .lit (.int .i64 0), .lit (.int .i64 0), .lit (.int .i64 0), .lit (.int .i64 0), .lit (.int .i64 0), .lit (.bool false), .lit (.int .i64 0), .lit (.int .i64 0), .lit (.int .i64 0), .lit (.int .i64 0), .lit (.int .i64 0), .lit (.bool false), .lit (.int .i64 0), .lit (.int .i64 0), .lit (.int .i64 0), .lit (.int .i64 0), .lit (.int .i64 0), .lit (.bool false), .lit (.int .i64 0), .lit (.int .i64 0), .lit (.int .i64 0), .lit (.int .i64 0), .lit (.int .i64 0), .lit (.bool false), .lit (.int .i64 0), .lit (.int .i64 0), .lit (.int .i64 0), .lit (.int .i64 0), .lit (.int .i64 0), .lit (.bool false), .lit (.int .i64 0), .lit (.int .i64 0), .lit (.int .i64 0), .lit (.int .i64 0), .lit (.int .i64 0), .lit (.bool false), .lit (.int .i64 0), .lit (.int .i64 0), .lit (.int .i64 0), .lit (.int .i64 0), .lit (.int .i64 0), .lit (.bool false), .lit (.int .i64 0), .lit (.int .i64 0), .lit (.int .i64 0), .lit (.int .i64 0), .lit (.int .i64 0), .lit (.bool false), .lit (.int .i64 0), .lit (.int .i64 0), .lit (.int .i64 0), .lit (.int .i64 0), .lit (.int .i64 0), .lit (.bool false), .lit (.int .i64 0), .lit (.int .i64 0), .lit (.int .i64 0), .lit (.int .i64 0), .lit (.int .i64 0), .lit (.bool false), .lit (.int .i64 0), .lit (.int .i64 0), .lit (.int .i64 0), .lit (.int .i64 0), .lit (.int .i64 0), .lit (.bool false), .lit (.int .i64 0), .lit (.int .i64 0), .lit (.int .i64 0), .lit (.int .i64 0), .lit (.int .i64 0), .lit (.bool false), .lit (.int .i64 0), .lit (.int .i64 0), .lit (.int .i64 0), .lit (.int .i64 0), .lit (.int .i64 0), .lit (.bool false), .lit (.int .i64 0), .lit (.int .i64 0), .lit (.int .i64 0), .lit (.int .i64 0), .lit (.int .i64 0), .lit (.bool false), .lit (.int .i64 0), .lit (.int .i64 0), .lit (.int .i64 0), .lit (.int .i64 0), .lit (.int .i64 0), .lit (.bool false), .lit (.int .i64 0), .lit (.int .i64 0), .lit (.int .i64 0), .lit (.int .i64 0), .lit (.int .i64 0), .lit (.bool false), .lit (.int .i64 0), .lit (.int .i64 0), .lit (.int .i64 0), .lit (.int .i64 0), .lit (.int .i64 0), .lit (.bool false), .lit (.int .i64 0), .lit (.int .i64 0), .lit (.int .i64 0), .lit (.int .i64 0), .lit (.int .i64 0), .lit (.bool false), .lit (.int .i64 0), .lit (.int .i64 0), .lit (.int .i64 0), .lit (.int .i64 0), .lit (.int .i64 0), .lit (.bool false), .lit (.int .i64 0), .lit (.int .i64 0), .lit (.int .i64 0), .lit (.int .i64 0), .lit (.int .i64 0), .lit (.bool false), .lit (.int .i64 0), .lit (.int .i64 0), .lit (.int .i64 0), .lit (.int .i64 0), .lit (.int .i64 0), .lit (.bool false), .lit (.int .i64 0), .lit (.int .i64 0), .lit (.int .i64 0), .lit (.int .i64 0), .lit (.int .i64 0), .lit (.bool false), .lit (.int .i64 0), .lit (.int .i64 0), .lit (.int .i64 0), .lit (.int .i64 0), .lit (.int .i64 0), .lit (.bool false), .lit (.int .i64 0), .lit (.int .i64 0), .lit (.int .i64 0), .lit (.int .i64 0), .lit (.int .i64 0), .lit (.bool false), .lit (.int .i64 0), .lit (.int .i64 0), .lit (.int .i64 0), .lit (.int .i64 0), .lit (.int .i64 0), .lit (.bool false), .lit (.int .i64 0), .lit (.int .i64 0), .lit (.int .i64 0), .lit (.int .i64 0), .lit (.int .i64 0), .lit (.bool false), .lit (.int .i64 0), .lit (.int .i64 0), .lit (.int .i64 0), .lit (.int .i64 0), .lit (.int .i64 0), .lit (.bool false), .lit (.int .i64 0), .lit (.int .i64 0), .lit (.int .i64 0), .lit (.int .i64 0), .lit (.int .i64 0), .lit (.bool false), .lit (.int .i64 0), .lit (.int .i64 0), .lit (.int .i64 0), .lit (.int .i64 0), .lit (.int .i64 0), .lit (.bool false), .lit (.int .i64 0), .lit (.int .i64 0), .lit (.int .i64 0), .lit (.int .i64 0), .lit (.int .i64 0), .lit (.bool false), .lit (.int .i64 0), .lit (.int .i64 0), .lit (.int .i64 0), .lit (.int .i64 0), .lit (.int .i64 0), .lit (.bool false), .lit (.int .i64 0), .lit (.int .i64 0), .lit (.int .i64 0), .lit (.int .i64 0), .lit (.int .i64 0), .lit (.bool false), .lit (.int .i64 0), .lit (.int .i64 0), .lit (.int .i64 0), .lit (.int .i64 0), .lit (.int .i64 0), .lit (.bool false), .lit (.int .i64 0), .lit (.int .i64 0), .lit (.int .i64 0), .lit (.int .i64 0), .lit (.int .i64 0), .lit (.bool false), .lit (.int .i64 0), .lit (.int .i64 0), .lit (.int .i64 0), .lit (.int .i64 0), .lit (.int .i64 0), .lit (.bool false), .lit (.int .i64 0), .lit (.int .i64 0), .lit (.int .i64 0), .lit (.int .i64 0), .lit (.int .i64 0), .lit (.bool false), .lit (.int .i64 0), .lit (.int .i64 0), .lit (.int .i64 0), .lit (.int .i64 0), .lit (.int .i64 0), .lit (.bool false), .lit (.int .i64 0), .lit (.int .i64 0), .lit (.int .i64 0), .lit (.int .i64 0), .lit (.int .i64 0), .lit (.bool false), .lit (.int .i64 0), .lit (.int .i64 0), .lit (.bool false), .lit (.bool false)] [(0, 1, y0), (3, 1, p1.1)]) fun l2 => boxK (.agg l2) p1.2 fun x3 H4 => K x3 H4) : ref18_NewDeque.J1 σ K y0 H :=
  fun js => Eq.mpr (by kernel_rfl) h
theorem ref18_NewDeque.run {a0 : AV} {H : Hp} {K : AV → Hp → Prop} (h : bnd (binR .lss a0 (.lit (.int .i64 1))) fun x1 => ifB x1 (ref18_NewDeque.J0 σ K (.lit (.int .i64 1)) H) (ref18_NewDeque.J0 σ K a0 H)) : ∃ r H1, Good Try.prog σ n_ref18_NewDeque [a0] H r H1 ∧ K r H1 :=
  good_of_wp (CX σ [] known_nil) mixed 1 (fn := Try.f20) (f := n_ref18_NewDeque) (c := ref18_NewDeque.code) (fnT_ok 20 _ (by kernel_rfl)).1 (by kernel_rfl) (fnT_ok 20 _ (by kernel_rfl)).2 (Eq.mpr (by kernel_rfl) h)
noncomputable def ref18_Deque_Begin.code : Code := bodyOf Try.f21
noncomputable def ref18_Deque_Begin.J0 (σ : Sig) (K : AV → Hp → Prop) (H : Hp) : Prop := ∀ js : Nat → AV, wp (CX σ [] known_nil) 0 (sR (sR (sR (sR (sR ref18_Deque_Begin.code))))) [js 0, js 1, js 2, js 3, js 4, js 5, js 6, js 7, js 8, js 9, js 10, js 11, js 12, js 13, js 14, js 15, js 16, js 17, js 18, js 19, js 20, js 21, js 22, js 23, js 24, js 25, js 26, js 27, js 28, js 29, js 30, js 31, js 32, js 33, js 34, js 35, js 36, js 37, js 38, js 39, js 40, js 41, js 42, js 43, js 44, js 45, js 46, js 47, js 48, js 49, js 50, js 51, js 52] H (fnQ (CX σ [] known_nil).ti Try.f21.results.toList K)
theorem ref18_Deque_Begin.J0_step {K : AV → Hp → Prop} {u_ : Unit} {H : Hp} (h : K (.lit (.int .i64 0)) H) : ref18_Deque_Begin.J0 σ K  H :=
  fun js => Eq.mpr (by kernel_rfl) h
theorem ref18_Deque_Begin.run {a0 a1 a2 a3 : AV} {H : Hp} {K : AV → Hp → Prop} (h : callK Try.prog σ n_ref18_Deque_Busy [a0, a1] H fun x1 H2 => bnd (binR .lss a1 (.lit (.int .i64 0))) fun x3 => ifB x3 (K (.lit (.int .i64 1)) H2) (bnd (binR .gtr a1 (.lit (.int .i64 64))) fun x4 => ifB x4 (K (.lit (.int .i64 1)) H2) (ifB x1 (K (.lit (.int .i64 1)) H2) (bnd (binR .lss a2 (.lit (.int .i64 1))) fun x5 => ifB x5 (K (.lit (.int .i64 1)) H2) (bnd (binR .gtr a2 (.lit (.int .i64 3))) fun x6 => ifB x6 (K (.lit (.int .i64 1)) H2) (bnd (binR .eql a2 (.lit (.int .i64 3))) fun x7 => bnd (binR .gtr a1 (.lit (.int .i64 0))) fun x8 => bnd (eqBoolR .neq x7 x8) fun x9 => ifB x9 (K (.lit (.int .i64 1)) H2) (bnd (bldR [.lit (.int .i64 0), .lit (.int .i64 0), .lit (.int .i64 0), .lit (.int .i64 0), .lit (.int .i64 0), .lit (.bool false)] [(0, 1, a2), (1, 1, (.lit (.int .i64 1))), (4, 1, a3)]) fun l10 => bnd (nilR a0) fun x11 => bnd (shiftA x11 4) fun x12 => bnd (ixaArr 65 6 x12 a1) fun x13 => bnd (stA 6 H2 x13 (.agg l10)) fun H14 => bnd (binR .neq a2 (.lit (.int .i64 1))) fun x15 => ifB x15 (bnd (nilR a0) fun x16 => bnd (shiftA x16 4) fun x17 => bnd (ixaArr 65 6 x17 a1) fun x18 => bnd (shiftA x18 4) fun x19 => bnd (stA 1 H14 x19 (.lit (.int .i64 0))) fun H20 => ref18_Deque_Begin.J0 σ K  H20) (ref18_Deque_Begin.J0 σ K  H14)))))))) : ∃ r H1, Good Try.prog σ n_ref18_Deque_Begin [a0, a1, a2, a3] H r H1 ∧ K r H1 :=
  good_of_wp (CX σ [] known_nil) mixed 0 (fn := Try.f21) (f := n_ref18_Deque_Begin) (c := ref18_Deque_Begin.code) (fnT_ok 21 _ (by kernel_rfl)).1 (by kernel_rfl) (fnT_ok 21 _ (by kernel_rfl)).2 (Eq.mpr (by kernel_rfl) h)
noncomputable def ref18_Deque_Step.code : Code := bodyOf Try.f22
theorem ref18_Deque_Step.run {a0 a1 : AV} {H : Hp} {K : AV → Hp → Prop} (h : callK Try.prog σ n_ref18_Deque_Busy [a0, a1] H fun x1 H2 => bnd (unR .not x1) fun x3 => ifB x3 (K (.tup [(.lit (.bool false)), (.lit (.int .i64 0)), (.lit (.bool false))]) H2) (bnd (nilR a0) fun x4 => bnd (shiftA x4 4) fun x5 => bnd (ixaArr 65 6 x5 a1) fun x6 => bnd (nilR x6) fun x7 => bnd (shiftA x7 1) fun x8 => bnd (ldA false 1 H2 x8) fun x9 => bnd (nilR x6) fun x10 => bnd (shiftA x10 1) fun x11 => bnd (ldA false 1 H2 x11) fun x12 => bnd (binR .add x12 (.lit (.int .i64 1))) fun x13 => bnd (nilR x6) fun x14 => bnd (shiftA x14 1) fun x15 => bnd (stA 1 H2 x15 x13) fun H16 => bnd (nilR x6) fun x17 => bnd (shiftA x17 0) fun x18 => bnd (ldA false 1 H16 x18) fun x19 => bnd (binR .eql x19 (.lit (.int .i64 1))) fun x20 => ifB x20 (callK Try.prog σ n_ref18_Deque_push [a0, a1, x9, x6] H16 fun x21 H22 => bnd (exR x21 0) fun x23 => bnd (exR x21 1) fun x24 => bnd (exR x21 2) fun x25 => K (.tup [x23, x24, x25]) H22) (bnd (binR .eql x19 (.lit (.int .i64 2))) fun x26 => ifB x26 (callK Try.prog σ n_ref18_Deque_pop [a0, a1, x9, x6] H16 fun x27 H28 => bnd (exR x27 0) fun x29 => bnd (exR x27 1) fun x30 => bnd (exR x27 2) fun x31 => K (.tup [x29, x30, x31]) H28) (callK Try.prog σ n_ref18_Deque_steal [a0, a1, x9, x6] H16 fun x32 H33 => bnd (exR x32 0) fun x34 => bnd (exR x32 1) fun x35 => bnd (exR x32 2) fun x36 => K (.tup [x34, x35, x36]) H33)))) : ∃ r H1, Good Try.prog σ n_ref18_Deque_Step [a0, a1] H r H1 ∧ K r H1 :=
  good_of_wp (CX σ [] known_nil) mixed 0 (fn := Try.f22) (f := n_ref18_Deque_Step) (c := ref18_Deque_Step.code) (fnT_ok 22 _ (by kernel_rfl)).1 (by kernel_rfl) (fnT_ok 22 _ (by kernel_rfl)).2 (Eq.mpr (by kernel_rfl) h)
noncomputable def ref18_Deque_Busy.code : Code := bodyOf Try.f23
theorem ref18_Deque_Busy.run {a0 a1 : AV} {H : Hp} {K : AV → Hp → Prop} (h : bnd (binR .geq a1 (.lit (.int .i64 0))) fun x1 => ifB x1 (bnd (binR .leq a1 (.lit (.int .i64 64))) fun x2 => ifB x2 (bnd (nilR a0) fun x3 => bnd (shiftA x3 4) fun x4 => bnd (ixaArr 65 6 x4 a1) fun x5 => bnd (shiftA x5 0) fun x6 => bnd (ldA false 1 H x6) fun x7 => bnd (binR .neq x7 (.lit (.int .i64 0))) fun x8 => K x8 H) (K (.lit (.bool false)) H)) (K (.lit (.bool false)) H)) : ∃ r H1, Good Try.prog σ n_ref18_Deque_Busy [a0, a1] H r H1 ∧ K r H1 :=
  good_of_wp (CX σ [] known_nil) mixed 0 (fn := Try.f23) (f := n_ref18_Deque_Busy) (c := ref18_Deque_Busy.code) (fnT_ok 23 _ (by kernel_rfl)).1 (by kernel_rfl) (fnT_ok 23 _ (by kernel_rfl)).2 (Eq.mpr (by kernel_rfl) h)
noncomputable def ref18_Deque_Len.code : Code := bodyOf Try.f24
theorem ref18_Deque_Len.run {a0 : AV} {H : Hp} {K : AV → Hp → Prop} (h : bnd (nilR a0) fun x1 => bnd (shiftA x1 2) fun x2 => bnd (ldA false 1 H x2) fun x3 => bnd (nilR a0) fun x4 => bnd (shiftA x4 1) fun x5 => bnd (ldA false 1 H x5) fun x6 => bnd (binR .lss x3 x6) fun x7 => ifB x7 (K (.lit (.int .i64 0)) H) (bnd (nilR a0) fun x8 => bnd (shiftA x8 2) fun x9 => bnd (ldA false 1 H x9) fun x10 => bnd (nilR a0) fun x11 => bnd (shiftA x11 1) fun x12 => bnd (ldA false 1 H x12) fun x13 => bnd (binR .sub x10 x13) fun x14 => K x14 H)) : ∃ r H1, Good Try.prog σ n_ref18_Deque_Len [a0] H r H1 ∧ K r H1 :=
  good_of_wp (CX σ [] known_nil) mixed 0 (fn := Try.f24) (f := n_ref18_Deque_Len) (c := ref18_Deque_Len.code) (fnT_ok 24 _ (by kernel_rfl)).1 (by kernel_rfl) (fnT_ok 24 _ (by kernel_rfl)).2 (Eq.mpr (by kernel_rfl) h)
noncomputable def deque_Deque_Last.code : Code := bodyOf Try.f25
theorem deque_Deque_Last.run {a0 : AV} {H : Hp} {K : AV → Hp → Prop} (h : allocK [.lit (.int .i64 0), .lit (.int .i64 0), .lit (.bool false), .lit (.bool false)] H fun x1 H2 => bnd (nilR a0) fun x3 => bnd (shiftA x3 68) fun x4 => bnd (ldA true 4 H2 x4) fun x5 => bnd (stA 4 H2 x1 x5) fun H6 => bnd (ldA true 4 H6 x1) fun r7 => K r7 H6) : ∃ r H1, Good Try.prog σ n_deque_Deque_Last [a0] H r H1 ∧ K r H1 :=
  good_of_wp (CX σ [] known_nil) mixed 0 (fn := Try.f25) (f := n_deque_Deque_Last) (c := deque_Deque_Last.code) (fnT_ok 25 _ (by kernel_rfl)).1 (by kernel_rfl) (fnT_ok 25 _ (by kernel_rfl)).2 (Eq.mpr (by kernel_rfl) h)
noncomputable def ref18_Deque_Last.code : Code := bodyOf Try.f26
theorem ref18_Deque_Last.run {a0 : AV} {H : Hp} {K : AV → Hp → Prop} (h : allocK [.lit (.int .i64 0), .lit (.int .i64 0), .lit (.bool false), .lit (.bool false)] H fun x1 H2 => bnd (nilR a0) fun x3 => bnd (shiftA x3 394) fun x4 => bnd (ldA true 4 H2 x4) fun x5 => bnd (stA 4 H2 x1 x5) fun H6 => bnd (ldA true 4 H6 x1) fun r7 => K r7 H6) : ∃ r H1, Good Try.prog σ n_ref18_Deque_Last [a0] H r H1 ∧ K r H1 :=
  good_of_wp (CX σ [] known_nil) mixed 0 (fn := Try.f26) (f := n_ref18_Deque_Last) (c := ref18_Deque_Last.code) (fnT_ok 26 _ (by kernel_rfl)).1 (by kernel_rfl) (fnT_ok 26 _ (by kernel_rfl)).2 (Eq.mpr (by kernel_rfl) h)
noncomputable def deque_steps.code : Code := bodyOf Try.f27
theorem deque_steps.run {a0 a1 : AV} {H : Hp} {K : AV → Hp → Prop} (h : bnd (binR .eql a1 (.lit (.int .i64 1))) fun x1 => ifB x1 (bnd (binR .eql a0 (.lit (.int .i64 0))) fun x2 => ifB x2 (K (.fn n_deque_push1 []) H) (bnd (binR .eql a1 (.lit (.int .i64 2))) fun x3 => ifB x3 (bnd (binR .eql a0 (.lit (.int .i64 0))) fun x4 => ifB x4 (K (.fn n_deque_pop1 []) H) (bnd (binR .eql a1 (.lit (.int .i64 3))) fun x5 => ifB x5 (bnd (binR .gtr a0 (.lit (.int .i64 0))) fun x6 => ifB x6 (K (.fn n_deque_steal1 []) H) (K (.lit (.nilFunc)) H)) (K (.lit (.nilFunc)) H))) (bnd (binR .eql a1 (.lit (.int .i64 3))) fun x7 => ifB x7 (bnd (binR .gtr a0 (.lit (.int .i64 0))) fun x8 => ifB x8 (K (.fn n_deque_steal1 []) H) (K (.lit (.nilFunc)) H)) (K (.lit (.nilFunc)) H)))) (bnd (binR .eql a1 (.lit (.int .i64 2))) fun x9 => ifB x9 (bnd (binR .eql a0 (.lit (.int .i64 0))) fun x10 => ifB x10 (K (.fn n_deque_pop1 []) H) (bnd (binR .eql a1 (.lit (.int .i64 3))) fun x11 => ifB x11 (bnd (binR .gtr a0 (.lit (.int .i64 0))) fun x12 => ifB x12 (K (.fn n_deque_steal1 []) H) (K (.lit (.nilFunc)) H)) (K (.lit (.nilFunc)) H))) (bnd (binR .eql a1 (.lit (.int .i64 3))) fun x13 => ifB x13 (bnd (binR .gtr a0 (.lit (.int .i64 0))) fun x14 => ifB x14 (K (.fn n_deque_steal1 []) H) (K (.lit (.nilFunc)) H)) (K (.lit (.nilFunc)) H)))) : ∃ r H1, Good Try.prog σ n_deque_steps [a0, a1] H r H1 ∧ K r H1 :=
  good_of_wp (CX σ [] known_nil) mixed 0 (fn := Try.f27) (f := n_deque_steps) (c := deque_steps.code) (fnT_ok 27 _ (by kernel_rfl)).1 (by kernel_rfl) (fnT_ok 27 _ (by kernel_rfl)).2 (Eq.mpr (by kernel_rfl) h)
noncomputable def ref18_Deque_push.code : Code := bodyOf Try.f28
noncomputable def ref18_Deque_push.J0 (σ : Sig) (K : AV → Hp → Prop) (H : Hp) : Prop := ∀ js : Nat → AV, wp (CX σ [] known_nil) 0 (sR (sR ref18_Deque_push.code)) [js 0, js 1, js 2, js 3, js 4, js 5, js 6, js 7, js 8, js 9, js 10, js 11, js 12, js 13, js 14, js 15, js 16, js 17, js 18, js 19, js 20, js 21, js 22, js 23, js 24, js 25, js 26, js 27, js 28, js 29, js 30, js 31, js 32, js 33, js 34, js 35, js 36, js 37, js 38, js 39, js 40, js 41, js 42, js 43, js 44, js 45, js 46, js 47, js 48, js 49, js 50, js 51, js 52, js 53, js 54, js 55, js 56, js 57, js 58, js 59, js 60, js 61, js 62, js 63, js 64, js 65, js 66, js 67, js 68, js 69, js 70, js 71, js 72, js 73, js 74, js 75, js 76, js 77, js 78, js 79, js 80, js 81, js 82, js 83, js 84, js 85, js 86, js 87, js 88, js 89, js 90, js 91, js 92, js 93, js 94, js 95, js 96] H (fnQ (CX σ [] known_nil).ti Try.f28.results.toList K)
theorem ref18_Deque_push.J0_step {K : AV → Hp → Prop} {u_ : Unit} {H : Hp} (h : K (.tup [(.lit (.bool false)), (.lit (.int .i64 0)), (.lit (.bool false))]) H) : ref18_Deque_push.J0 σ K  H :=
  fun js => Eq.mpr (by kernel_rfl) h
theorem ref18_Deque_push.run {a0 a1 a2 a3 : AV} {H : Hp} {K : AV → Hp → Prop} (h : bnd (binR .eql a2 (.lit (.int .i64 1))) fun x1 => ifB x1 (bnd (nilR a0) fun x2 => bnd (shiftA x2 2) fun x3 => bnd (ldA false 1 H x3) fun x4 => bnd (nilR a3) fun x5 => bnd (shiftA x5 3) fun x6 => bnd (stA 1 H x6 x4) fun H7 => callK Try.prog σ n_ref18_Deque_see [a0, a1, (.lit (.int .i64 (-1001))), (.lit (.bool false))] H7 fun x8 H9 => ref18_Deque_push.J0 σ K  H9) (bnd (binR .eql a2 (.lit (.int .i64 2))) fun x10 => ifB x10 (bnd (nilR a0) fun x11 => bnd (shiftA x11 1) fun x12 => bnd (ldA false 1 H x12) fun x13 => bnd (nilR a3) fun x14 => bnd (shiftA x14 2) fun x15 => bnd (stA 1 H x15 x13) fun H16 => callK Try.prog σ n_ref18_Deque_see [a0, a1, (.lit (.int .i64 (-1000))), (.lit (.bool false))] H16 fun x17 H18 => bnd (nilR a3) fun x19 => bnd (shiftA x19 3) fun x20 => bnd (ldA false 1 H18 x20) fun x21 => bnd (nilR a3) fun x22 => bnd (shiftA x22 2) fun x23 => bnd (ldA false 1 H18 x23) fun x24 => bnd (binR .sub x21 x24) fun x25 => bnd (nilR a0) fun x26 => bnd (shiftA x26 0) fun x27 => bnd (ldA false 1 H18 x27) fun x28 => bnd (binR .geq x25 x28) fun x29 => ifB x29 (callK Try.prog σ n_ref18_Deque_end [a0, a1, (.lit (.bool false))] H18 fun x30 H31 => bnd (exR x30 0) fun x32 => bnd (exR x30 1) fun x33 => bnd (exR x30 2) fun x34 => K (.tup [x32, x33, x34]) H31) (ref18_Deque_push.J0 σ K  H18)) (bnd (binR .eql a2 (.lit (.int .i64 3))) fun x35 => ifB x35 (bnd (nilR a3) fun x36 => bnd (shiftA x36 3) fun x37 => bnd (ldA false 1 H x37) fun x38 => callK Try.prog σ n_ref18_Deque_mod [a0, x38] H fun x39 H40 => bnd (nilR a0) fun x41 => bnd (shiftA x41 3) fun x42 => bnd (ldA false 1 H40 x42) fun x43 => bnd (nilR a3) fun x44 => bnd (shiftA x44 4) fun x45 => bnd (ldA false 1 H40 x45) fun x46 => bnd (ixaSl 1 x43 x39) fun x47 => bnd (stA 1 H40 x47 x46) fun H48 => bnd (binR .sub (.lit (.int .i64 (-1002))) x39) fun x49 => callK Try.prog σ n_ref18_Deque_see [a0, a1, x49, (.lit (.bool true))] H48 fun x50 H51 => ref18_Deque_push.J0 σ K  H51) (bnd (nilR a3) fun x52 => bnd (shiftA x52 3) fun x53 => bnd (ldA false 1 H x53) fun x54 => bnd (binR .add x54 (.lit (.int .i64 1))) fun x55 => bnd (nilR a0) fun x56 => bnd (shiftA x56 2) fun x57 => bnd (stA 1 H x57 x55) fun H58 => callK Try.prog σ n_ref18_Deque_see [a0, a1, (.lit (.int .i64 (-1001))), (.lit (.bool true))] H58 fun x59 H60 => callK Try.prog σ n_ref18_Deque_end [a0, a1, (.lit (.bool true))] H60 fun x61 H62 => bnd (exR x61 0) fun x63 => bnd (exR x61 1) fun x64 => bnd (exR x61 2) fun x65 => K (.tup [x63, x64, x65]) H62)))) : ∃ r H1, Good Try.prog σ n_ref18_Deque_push [a0, a1, a2, a3] H r H1 ∧ K r H1 :=
  good_of_wp (CX σ [] known_nil) mixed 0 (fn := Try.f28) (f := n_ref18_Deque_push) (c := ref18_Deque_push.code) (fnT_ok 28 _ (by kernel_rfl)).1 (by kernel_rfl) (fnT_ok 28 _ (by kernel_rfl)).2 (Eq.mpr (by kernel_rfl) h)
noncomputable def ref18_Deque_pop.code : Code := bodyOf Try.f29
noncomputable def ref18_Deque_pop.J0 (σ : Sig) (K : AV → Hp → Prop) (y0 y1 : AV) (H : Hp) : Prop := ∀ js : Nat → AV, wp (CX σ [] known_nil) 3 (sR (sR ref18_Deque_pop.code)) [y0, y1, js 2, js 3, js 4, js 5, js 6, js 7, js 8, js 9, js 10, js 11, js 12, js 13, js 14, js 15, js 16, js 17, js 18, js 19, js 20, js 21, js 22, js 23, js 24, js 25, js 26, js 27, js 28, js 29, js 30, js 31, js 32, js 33, js 34, js 35, js 36, js 37, js 38, js 39, js 40, js 41, js 42, js 43, js 44, js 45, js 46, js 47, js 48, js 49, js 50, js 51, js 52, js 53, js 54, js 55, js 56, js 57, js 58, js 59, js 60, js 61, js 62, js 63, js 64, js 65, js 66, js 67, js 68, js 69, js 70, js 71, js 72, js 73, js 74, js 75, js 76, js 77, js 78, js 79, js 80, js 81, js 82, js 83, js 84, js 85, js 86, js 87, js 88, js 89, js 90, js 91, js 92, js 93, js 94, js 95, js 96, js 97, js 98, js 99, js 100, js 101, js 102, js 103, js 104, js 105, js 106, js 107, js 108, js 109, js 110, js 111, js 112, js 113, js 114, js 115, js 116, js 117, js 118, js 119, js 120, js 121, js 122, js 123, js 124, js 125, js 126, js 127, js 128, js 129, js 130, js 131, js 132, js 133, js 134, js 135, js 136, js 137, js 138, js 139, js 140, js 141, js 142, js 143, js 144, js 145, js 146, js 147, js 148, js 149] H (fnQ (CX σ [] known_nil).ti Try.f29.results.toList K)
noncomputable def ref18_Deque_pop.J1 (σ : Sig) (K : AV → Hp → Prop) (y0 y1 : AV) (H : Hp) : Prop := ∀ js : Nat → AV, wp (CX σ [] known_nil) 3 (sR (sR (cT (sR (cE (sR (cE (sR (cE (sR (cE (sR (bB (sR (sL (sR ref18_Deque_pop.code)))))))))))))))) [y0, y1, js 2, js 3, js 4, js 5, js 6, js 7, js 8, js 9, js 10, js 11, js 12, js 13, js 14, js 15, js 16, js 17, js 18, js 19, js 20, js 21, js 22, js 23, js 24, js 25, js 26, js 27, js 28, js 29, js 30, js 31, js 32, js 33, js 34, js 35, js 36, js 37, js 38, js 39, js 40, js 41, js 42, js 43, js 44, js 45, js 46, js 47, js 48, js 49, js 50, js 51, js 52, js 53, js 54, js 55, js 56, js 57, js 58, js 59, js 60, js 61, js 62, js 63, js 64, js 65, js 66, js 67, js 68, js 69, js 70, js 71, js 72, js 73, js 74, js 75, js 76, js 77, js 78, js 79, js 80, js 81, js 82, js 83, js 84, js 85, js 86, js 87, js 88, js 89, js 90, js 91, js 92, js 93, js 94, js 95, js 96, js 97, js 98, js 99, js 100, js 101, js 102, js 103, js 104, js 105, js 106, js 107, js 108, js 109, js 110, js 111, js 112, js 113, js 114, js 115, js 116, js 117, js 118, js 119, js 120, js 121, js 122, js 123, js 124, js 125, js 126, js 127, js 128, js 129, js 130, js 131, js 132, js 133, js 134, js 135, js 136, js 137, js 138, js 139, js 140, js 141, js 142, js 143, js 144, js 145, js 146, js 147, js 148, js 149] H (fun e T1 H1 => (nx (fnQ (CX σ [] known_nil).ti Try.f29.results.toList K) fun T1 H1 => ∀ js, wp (CX σ [] known_nil) 3 (sR (sR ref18_Deque_pop.code)) (maskA 3 js 0 T1) H1 (fnQ (CX σ [] known_nil).ti Try.f29.results.toList K)) (unblock 0 e) T1 H1)
theorem ref18_Deque_pop.J0_step {K : AV → Hp → Prop} {y0 y1 : AV} {H : Hp} (h : K (.tup [(.lit (.bool false)), (.lit (.int .i64 0)), (.lit (.bool false))]) H) : ref18_Deque_pop.J0 σ K y0 y1 H :=
  fun js => Eq.mpr (by kernel_rfl) h
theorem ref18_Deque_pop.J1_step {K : AV → Hp → Prop} {y0 y1 : AV} {H : Hp} (h : callK Try.prog σ n_ref18_Deque_see [y0, y1, (.lit (.int .i64 (-1000))), (.lit (.bool true))] H fun x1 H2 => ref18_Deque_pop.J0 σ K y0 y1 H2) : ref18_Deque_pop.J1 σ K y0 y1 H :=
  fun js => Eq.mpr (by kernel_rfl) h
theorem ref18_Deque_pop.run {a0 a1 a2 a3 : AV} {H : Hp} {K : AV → Hp → Prop} (h : bnd (binR .eql a2 (.lit (.int .i64 1))) fun x1 => ifB x1 (bnd (nilR a0) fun x2 => bnd (shiftA x2 2) fun x3 => bnd (ldA false 1 H x3) fun x4 => bnd (binR .sub x4 (.lit (.int .i64 1))) fun x5 => bnd (nilR a3) fun x6 => bnd (shiftA x6 3) fun x7 => bnd (stA 1 H x7 x5) fun H8 => callK Try.prog σ n_ref18_Deque_see [a0, a1, (.lit (.int .i64 (-1001))), (.lit (.bool false))] H8 fun x9 H10 => ref18_Deque_pop.J0 σ K a0 a1 H10) (bnd (binR .eql a2 (.lit (.int .i64 2))) fun x11 => ifB x11 (bnd (nilR a3) fun x12 => bnd (shiftA x12 3) fun x13 => bnd (ldA false 1 H x13) fun x14 => bnd (nilR a0) fun x15 => bnd (shiftA x15 2) fun x16 => bnd (stA 1 H x16 x14) fun H17 => callK Try.prog σ n_ref18_Deque_see [a0, a1, (.lit (.int .i64 (-1001))), (.lit (.bool true))] H17 fun x18 H19 => ref18_Deque_pop.J0 σ K a0 a1 H19) (bnd (binR .eql a2 (.lit (.int .i64 3))) fun x20 => ifB x20 (bnd (nilR a0) fun x21 => bnd (shiftA x21 1) fun x22 => bnd (ldA false 1 H x22) fun x23 => bnd (nilR a3) fun x24 => bnd (shiftA x24 2) fun x25 => bnd (stA 1 H x25 x23) fun H26 => callK Try.prog σ n_ref18_Deque_see [a0, a1, (.lit (.int .i64 (-1000))), (.lit (.bool false))] H26 fun x27 H28 => bnd (nilR a3) fun x29 => bnd (shiftA x29 2) fun x30 => bnd (ldA false 1 H28 x30) fun x31 => bnd (nilR a3) fun x32 => bnd (shiftA x32 3) fun x33 => bnd (ldA false 1 H28 x33) fun x34 => bnd (binR .gtr x31 x34) fun x35 => ifB x35 (bnd (nilR a3) fun x36 => bnd (shiftA x36 1) fun x37 => bnd (stA 1 H28 x37 (.lit (.int .i64 6))) fun H38 => ref18_Deque_pop.J0 σ K a0 a1 H38) (ref18_Deque_pop.J0 σ K a0 a1 H28)) (bnd (binR .eql a2 (.lit (.int .i64 4))) fun x39 => ifB x39 (bnd (nilR a3) fun x40 => bnd (shiftA x40 3) fun x41 => bnd (ldA false 1 H x41) fun x42 => callK Try.prog σ n_ref18_Deque_mod [a0, x42] H fun x43 H44 => bnd (nilR a0) fun x45 => bnd (shiftA x45 3) fun x46 => bnd (ldA false 1 H44 x46) fun x47 => bnd (ixaSl 1 x47 x43) fun x48 => bnd (ldA false 1 H44 x48) fun x49 => bnd (nilR a3) fun x50 => bnd (shiftA x50 4) fun x51 => bnd (stA 1 H44 x51 x49) fun H52 => bnd (binR .sub (.lit (.int .i64 (-1002))) x43) fun x53 => callK Try.prog σ n_ref18_Deque_see [a0, a1, x53, (.lit (.bool false))] H52 fun x54 H55 => bnd (nilR a3) fun x56 => bnd (shiftA x56 2) fun x57 => bnd (ldA false 1 H55 x57) fun x58 => bnd (nilR a3) fun x59 => bnd (shiftA x59 3) fun x60 => bnd (ldA false 1 H55 x60) fun x61 => bnd (binR .lss x58 x61) fun x62 => ifB x62 (callK Try.prog σ n_ref18_Deque_end [a0, a1, (.lit (.bool true))] H55 fun x63 H64 => bnd (exR x63 0) fun x65 => bnd (exR x63 1) fun x66 => bnd (exR x63 2) fun x67 => K (.tup [x65, x66, x67]) H64) (ref18_Deque_pop.J0 σ K a0 a1 H55)) (bnd (binR .eql a2 (.lit (.int .i64 5))) fun x68 => ifB x68 (bnd (nilR a0) fun x69 => bnd (shiftA x69 1) fun x70 => bnd (ldA false 1 H x70) fun x71 => bnd (nilR a3) fun x72 => bnd (shiftA x72 2) fun x73 => bnd (ldA false 1 H x73) fun x74 => bnd (binR .eql x71 x74) fun x75 => bnd (nilR a3) fun x76 => bnd (shiftA x76 5) fun x77 => bnd (stA 1 H x77 x75) fun H78 => bnd (nilR a3) fun x79 => bnd (shiftA x79 5) fun x80 => bnd (ldA false 1 H78 x80) fun x81 => ifB x81 (bnd (nilR a3) fun x82 => bnd (shiftA x82 2) fun x83 => bnd (ldA false 1 H78 x83) fun x84 => bnd (binR .add x84 (.lit (.int .i64 1))) fun x85 => bnd (nilR a0) fun x86 => bnd (shiftA x86 1) fun x87 => bnd (stA 1 H78 x87 x85) fun H88 => ref18_Deque_pop.J1 σ K a0 a1 H88) (ref18_Deque_pop.J1 σ K a0 a1 H78)) (bnd (nilR a3) fun x89 => bnd (shiftA x89 3) fun x90 => bnd (ldA false 1 H x90) fun x91 => bnd (binR .add x91 (.lit (.int .i64 1))) fun x92 => bnd (nilR a0) fun x93 => bnd (shiftA x93 2) fun x94 => bnd (stA 1 H x94 x92) fun H95 => callK Try.prog σ n_ref18_Deque_see [a0, a1, (.lit (.int .i64 (-1001))), (.lit (.bool true))] H95 fun x96 H97 => bnd (nilR a3) fun x98 => bnd (shiftA x98 5) fun x99 => bnd (ldA false 1 H97 x99) fun x100 => callK Try.prog σ n_ref18_Deque_end [a0, a1, x100] H97 fun x101 H102 => bnd (exR x101 0) fun x103 => bnd (exR x101 1) fun x104 => bnd (exR x101 2) fun x105 => K (.tup [x103, x104, x105]) H102)))))) : ∃ r H1, Good Try.prog σ n_ref18_Deque_pop [a0, a1, a2, a3] H r H1 ∧ K r H1 :=
  good_of_wp (CX σ [] known_nil) mixed 3 (fn := Try.f29) (f := n_ref18_Deque_pop) (c := ref18_Deque_pop.code) (fnT_ok 29 _ (by kernel_rfl)).1 (by kernel_rfl) (fnT_ok 29 _ (by kernel_rfl)).2 (Eq.mpr (by kernel_rfl) h)
noncomputable def ref18_Deque_steal.code : Code := bodyOf Try.f30
noncomputable def ref18_Deque_steal.J0 (σ : Sig) (K : AV → Hp → Prop) (y0 y1 y12 : AV) (H : Hp) : Prop := ∀ js : Nat → AV, wp (CX σ [] known_nil) 4099 (sR (sR ref18_Deque_steal.code)) [y0, y1, js 2, js 3, js 4, js 5, js 6, js 7, js 8, js 9, js 10, js 11, y12, js 13, js 14, js 15, js 16, js 17, js 18, js 19, js 20, js 21, js 22, js 23, js 24, js 25, js 26, js 27, js 28, js 29, js 30, js 31, js 32, js 33, js 34, js 35, js 36, js 37, js 38, js 39, js 40, js 41, js 42, js 43, js 44, js 45, js 46, js 47, js 48, js 49, js 50, js 51, js 52, js 53, js 54, js 55, js 56, js 57, js 58, js 59, js 60, js 61, js 62, js 63, js 64, js 65, js 66, js 67, js 68, js 69, js 70, js 71, js 72, js 73, js 74, js 75, js 76, js 77, js 78, js 79, js 80, js 81, js 82, js 83, js 84, js 85, js 86, js 87, js 88, js 89, js 90, js 91, js 92, js 93, js 94, js 95, js 96, js 97, js 98, js 99, js 100, js 101, js 102, js 103] H (fnQ (CX σ [] known_nil).ti Try.f30.results.toList K)
noncomputable def ref18_Deque_steal.J1 (σ : Sig) (K : AV → Hp → Prop) (y0 y1 y12 : AV) (H : Hp) : Prop := ∀ js : Nat → AV, wp (CX σ [] known_nil) 4099 (sR (sR (cE (sR (cE (sR (cE (sR (bB (sR (sL (sR ref18_Deque_steal.code)))))))))))) [y0, y1, js 2, js 3, js 4, js 5, js 6, js 7, js 8, js 9, js 10, js 11, y12, js 13, js 14, js 15, js 16, js 17, js 18, js 19, js 20, js 21, js 22, js 23, js 24, js 25, js 26, js 27, js 28, js 29, js 30, js 31, js 32, js 33, js 34, js 35, js 36, js 37, js 38, js 39, js 40, js 41, js 42, js 43, js 44, js 45, js 46, js 47, js 48, js 49, js 50, js 51, js 52, js 53, js 54, js 55, js 56, js 57, js 58, js 59, js 60, js 61, js 62, js 63, js 64, js 65, js 66, js 67, js 68, js 69, js 70, js 71, js 72, js 73, js 74, js 75, js 76, js 77, js 78, js 79, js 80, js 81, js 82, js 83, js 84, js 85, js 86, js 87, js 88, js 89, js 90, js 91, js 92, js 93, js 94, js 95, js 96, js 97, js 98, js 99, js 100, js 101, js 102, js 103] H (fun e T1 H1 => (nx (fnQ (CX σ [] known_nil).ti Try.f30.results.toList K) fun T1 H1 => ∀ js, wp (CX σ [] known_nil) 4099 (sR (sR ref18_Deque_steal.code)) (maskA 4099 js 0 T1) H1 (fnQ (CX σ [] known_nil).ti Try.f30.results.toList K)) (unblock 0 e) T1 H1)
theorem ref18_Deque_steal.J0_step {K : AV → Hp → Prop} {y0 y1 y12 : AV} {H : Hp} (h : K (.tup [(.lit (.bool false)), (.lit (.int .i64 0)), (.lit (.bool false))]) H) : ref18_Deque_steal.J0 σ K y0 y1 y12 H :=
  fun js => Eq.mpr (by kernel_rfl) h
theorem ref18_Deque_steal.J1_step {K : AV → Hp → Prop} {y0 y1 y12 : AV} {H : Hp} (h : callK Try.prog σ n_ref18_Deque_see [y0, y1, (.lit (.int .i64 (-1000))), (.lit (.bool true))] H fun x1 H2 => callK Try.prog σ n_ref18_Deque_end [y0, y1, y12] H2 fun x3 H4 => bnd (exR x3 0) fun x5 => bnd (exR x3 1) fun x6 => bnd (exR x3 2) fun x7 => K (.tup [x5, x6, x7]) H4) : ref18_Deque_steal.J1 σ K y0 y1 y12 H :=
  fun js => Eq.mpr (by kernel_rfl) h
theorem ref18_Deque_steal.run {a0 a1 a2 a3 : AV} {H : Hp} {K : AV → Hp → Prop} (h : bnd (binR .eql a2 (.lit (.int .i64 1))) fun x1 => ifB x1 (bnd (nilR a0) fun x2 => bnd (shiftA x2 1) fun x3 => bnd (ldA false 1 H x3) fun x4 => bnd (nilR a3) fun x5 => bnd (shiftA x5 2) fun x6 => bnd (stA 1 H x6 x4) fun H7 => callK Try.prog σ n_ref18_Deque_see [a0, a1, (.lit (.int .i64 (-1000))), (.lit (.bool false))] H7 fun x8 H9 => ref18_Deque_steal.J0 σ K a0 a1 (.lit undef) H9) (bnd (binR .eql a2 (.lit (.int .i64 2))) fun x10 => ifB x10 (bnd (nilR a0) fun x11 => bnd (shiftA x11 2) fun x12 => bnd (ldA false 1 H x12) fun x13 => bnd (nilR a3) fun x14 => bnd (shiftA x14 3) fun x15 => bnd (stA 1 H x15 x13) fun H16 => callK Try.prog σ n_ref18_Deque_see [a0, a1, (.lit (.int .i64 (-1001))), (.lit (.bool false))] H16 fun x17 H18 => bnd (nilR a3) fun x19 => bnd (shiftA x19 2) fun x20 => bnd (ldA false 1 H18 x20) fun x21 => bnd (nilR a3) fun x22 => bnd (shiftA x22 3) fun x23 => bnd (ldA false 1 H18 x23) fun x24 => bnd (binR .geq x21 x24) fun x25 => ifB x25 (callK Try.prog σ n_ref18_Deque_end [a0, a1, (.lit (.bool false))] H18 fun x26 H27 => bnd (exR x26 0) fun x28 => bnd (exR x26 1) fun x29 => bnd (exR x26 2) fun x30 => K (.tup [x28, x29, x30]) H27) (ref18_Deque_steal.J0 σ K a0 a1 (.lit undef) H18)) (bnd (binR .eql a2 (.lit (.int .i64 3))) fun x31 => ifB x31 (bnd (nilR a3) fun x32 => bnd (shiftA x32 2) fun x33 => bnd (ldA false 1 H x33) fun x34 => callK Try.prog σ n_ref18_Deque_mod [a0, x34] H fun x35 H36 => bnd (nilR a0) fun x37 => bnd (shiftA x37 3) fun x38 => bnd (ldA false 1 H36 x38) fun x39 => bnd (ixaSl 1 x39 x35) fun x40 => bnd (ldA false 1 H36 x40) fun x41 => bnd (nilR a3) fun x42 => bnd (shiftA x42 4) fun x43 => bnd (stA 1 H36 x43 x41) fun H44 => bnd (binR .sub (.lit (.int .i64 (-1002))) x35) fun x45 => callK Try.prog σ n_ref18_Deque_see [a0, a1, x45, (.lit (.bool false))] H44 fun x46 H47 => ref18_Deque_steal.J0 σ K a0 a1 (.lit undef) H47) (bnd (nilR a0) fun x48 => bnd (shiftA x48 1) fun x49 => bnd (ldA false 1 H x49) fun x50 => bnd (nilR a3) fun x51 => bnd (shiftA x51 2) fun x52 => bnd (ldA false 1 H x52) fun x53 => bnd (binR .eql x50 x53) fun x54 => ifB x54 (bnd (nilR a3) fun x55 => bnd (shiftA x55 2) fun x56 => bnd (ldA false 1 H x56) fun x57 => bnd (binR .add x57 (.lit (.int .i64 1))) fun x58 => bnd (nilR a0) fun x59 => bnd (shiftA x59 1) fun x60 => bnd (stA 1 H x60 x58) fun H61 => ref18_Deque_steal.J1 σ K a0 a1 x54 H61) (ref18_Deque_steal.J1 σ K a0 a1 x54 H))))) : ∃ r H1, Good Try.prog σ n_ref18_Deque_steal [a0, a1, a2, a3] H r H1 ∧ K r H1 :=
  good_of_wp (CX σ [] known_nil) mixed 4099 (fn := Try.f30) (f := n_ref18_Deque_steal) (c := ref18_Deque_steal.code) (fnT_ok 30 _ (by kernel_rfl)).1 (by kernel_rfl) (fnT_ok 30 _ (by kernel_rfl)).2 (Eq.mpr (by kernel_rfl) h)
noncomputable def deque_push1.code : Code := bodyOf Try.f31
theorem deque_push1.run {a0 : AV} {H : Hp} {K : AV → Hp → Prop} (h : callK Try.prog σ n_deque_operation_readBottom [a0] H fun x1 H2 => bnd (nilR a0) fun x3 => bnd (shiftA x3 4) fun x4 => bnd (stA 1 H2 x4 x1) fun H5 => K (.fn n_deque_push2 []) H5) : ∃ r H1, Good Try.prog σ n_deque_push1 [a0] H r H1 ∧ K r H1 :=
  good_of_wp (CX σ [] known_nil) mixed 0 (fn := Try.f31) (f := n_deque_push1) (c := deque_push1.code) (fnT_ok 31 _ (by kernel_rfl)).1 (by kernel_rfl) (fnT_ok 31 _ (by kernel_rfl)).2 (Eq.mpr (by kernel_rfl) h)
noncomputable def deque_pop1.code : Code := bodyOf Try.f32
theorem deque_pop1.run {a0 : AV} {H : Hp} {K : AV → Hp → Prop} (h : callK Try.prog σ n_deque_operation_readBottom [a0] H fun x1 H2 => bnd (binR .sub x1 (.lit (.int .i64 1))) fun x3 => bnd (nilR a0) fun x4 => bnd (shiftA x4 4) fun x5 => bnd (stA 1 H2 x5 x3) fun H6 => K (.fn n_deque_pop2 []) H6) : ∃ r H1, Good Try.prog σ n_deque_pop1 [a0] H r H1 ∧ K r H1 :=
  good_of_wp (CX σ [] known_nil) mixed 0 (fn := Try.f32) (f := n_deque_pop1) (c := deque_pop1.code) (fnT_ok 32 _ (by kernel_rfl)).1 (by kernel_rfl) (fnT_ok 32 _ (by kernel_rfl)).2 (Eq.mpr (by kernel_rfl) h)
noncomputable def deque_steal1.code : Code := bodyOf Try.f33
theorem deque_steal1.run {a0 : AV} {H : Hp} {K : AV → Hp → Prop} (h : callK Try.prog σ n_deque_operation_readTop [a0] H fun x1 H2 => bnd (nilR a0) fun x3 => bnd (shiftA x3 3) fun x4 => bnd (stA 1 H2 x4 x1) fun H5 => K (.fn n_deque_steal2 []) H5) : ∃ r H1, Good Try.prog σ n_deque_steal1 [a0] H r H1 ∧ K r H1 :=
  good_of_wp (CX σ [] known_nil) mixed 0 (fn := Try.f33) (f := n_deque_steal1) (c := deque_steal1.code) (fnT_ok 33 _ (by kernel_rfl)).1 (by kernel_rfl) (fnT_ok 33 _ (by kernel_rfl)).2 (Eq.mpr (by kernel_rfl) h)
noncomputable def ref18_Deque_see.code : Code := bodyOf Try.f34
theorem ref18_Deque_see.run {a0 a1 a2 a3 : AV} {H : Hp} {K : AV → Hp → Prop} (h : bnd (bldR [.lit (.int .i64 0), .lit (.int .i64 0), .lit (.bool false), .lit (.bool false)] [(0, 1, a1), (1, 1, a2), (2, 1, a3), (3, 1, (.lit (.bool true)))]) fun l1 => bnd (nilR a0) fun x2 => bnd (shiftA x2 394) fun x3 => bnd (stA 4 H x3 (.agg l1)) fun H4 => K (.tup []) H4) : ∃ r H1, Good Try.prog σ n_ref18_Deque_see [a0, a1, a2, a3] H r H1 ∧ K r H1 :=
  good_of_wp (CX σ [] known_nil) mixed 0 (fn := Try.f34) (f := n_ref18_Deque_see) (c := ref18_Deque_see.code) (fnT_ok 34 _ (by kernel_rfl)).1 (by kernel_rfl) (fnT_ok 34 _ (by kernel_rfl)).2 (Eq.mpr (by kernel_rfl) h)
noncomputable def ref18_Deque_end.code : Code := bodyOf Try.f35
theorem ref18_Deque_end.run {a0 a1 a2 : AV} {H : Hp} {K : AV → Hp → Prop} (h : bnd (nilR a0) fun x1 => bnd (shiftA x1 4) fun x2 => bnd (ixaArr 65 6 x2 a1) fun x3 => bnd (shiftA x3 4) fun x4 => bnd (ldA false 1 H x4) fun x5 => bnd (bldR [.lit (.int .i64 0), .lit (.int .i64 0), .lit (.int .i64 0), .lit (.int .i64 0), .lit (.int .i64 0), .lit (.bool false)] []) fun l6 => bnd (nilR a0) fun x7 => bnd (shiftA x7 4) fun x8 => bnd (ixaArr 65 6 x8 a1) fun x9 => bnd (stA 6 H x9 (.agg l6)) fun H10 => bnd (unR .not a2) fun x11 => ifB x11 (K (.tup [(.lit (.bool true)), (.lit (.int .i64 0)), (.lit (.bool false))]) H10) (K (.tup [(.lit (.bool true)), x5, (.lit (.bool true))]) H10)) : ∃ r H1, Good Try.prog σ n_ref18_Deque_end [a0, a1, a2] H r H1 ∧ K r H1 :=
  good_of_wp (CX σ [] known_nil) mixed 0 (fn := Try.f35) (f := n_ref18_Deque_end) (c := ref18_Deque_end.code) (fnT_ok 35 _ (by kernel_rfl)).1 (by kernel_rfl) (fnT_ok 35 _ (by kernel_rfl)).2 (Eq.mpr (by kernel_rfl) h)
noncomputable def ref18_Deque_mod.code : Code := bodyOf Try.f36
theorem ref18_Deque_mod.run {a0 a1 : AV} {H : Hp} {K : AV → Hp → Prop} (h : bnd (nilR a0) fun x1 => bnd (shiftA x1 0) fun x2 => bnd (ldA false 1 H x2) fun x3 => bnd (binR .rem a1 x3) fun x4 => K x4 H) : ∃ r H1, Good Try.prog σ n_ref18_Deque_mod [a0, a1] H r H1 ∧ K r H1 :=
  good_of_wp (CX σ [] known_nil) mixed 0 (fn := Try.f36) (f := n_ref18_Deque_mod) (c := ref18_Deque_mod.code) (fnT_ok 36 _ (by kernel_rfl)).1 (by kernel_rfl) (fnT_ok 36 _ (by kernel_rfl)).2 (Eq.mpr (by kernel_rfl) h)
noncomputable def deque_operation_readBottom.code : Code := bodyOf Try.f37
theorem deque_operation_readBottom.run {a0 : AV} {H : Hp} {K : AV → Hp → Prop} (h : callK Try.prog σ n_deque_operation_access [a0, (.lit (.int .i64 (-1001))), (.lit (.bool false))] H fun x1 H2 => bnd (nilR a0) fun x3 => bnd (shiftA x3 0) fun x4 => bnd (ldA false 1 H2 x4) fun x5 => bnd (nilR x5) fun x6 => bnd (shiftA x6 2) fun x7 => bnd (ldA false 1 H2 x7) fun x8 => K x8 H2) : ∃ r H1, Good Try.prog σ n_deque_operation_readBottom [a0] H r H1 ∧ K r H1 :=
  good_of_wp (CX σ [] known_nil) mixed 0 (fn := Try.f37) (f := n_deque_operation_readBottom) (c := deque_operation_readBottom.code) (fnT_ok 37 _ (by kernel_rfl)).1 (by kernel_rfl) (fnT_ok 37 _ (by kernel_rfl)).2 (Eq.mpr (by kernel_rfl) h)
noncomputable def deque_push2.code : Code := bodyOf Try.f38
theorem deque_push2.run {a0 : AV} {H : Hp} {K : AV → Hp → Prop} (h : callK Try.prog σ n_deque_operation_readTop [a0] H fun x1 H2 => bnd (nilR a0) fun x3 => bnd (shiftA x3 3) fun x4 => bnd (stA 1 H2 x4 x1) fun H5 => bnd (nilR a0) fun x6 => bnd (shiftA x6 4) fun x7 => bnd (ldA false 1 H5 x7) fun x8 => bnd (nilR a0) fun x9 => bnd (shiftA x9 3) fun x10 => bnd (ldA false 1 H5 x10) fun x11 => bnd (binR .sub x8 x11) fun x12 => bnd (nilR a0) fun x13 => bnd (shiftA x13 0) fun x14 => bnd (ldA false 1 H5 x14) fun x15 => bnd (nilR x15) fun x16 => bnd (shiftA x16 0) fun x17 => bnd (ldA false 1 H5 x17) fun x18 => bnd (lenSl x18) fun x19 => bnd (binR .eql x12 x19) fun x20 => ifB x20 (K (.lit (.nilFunc)) H5) (K (.fn n_deque_push3 []) H5)) : ∃ r H1, Good Try.prog σ n_deque_push2 [a0] H r H1 ∧ K r H1 :=
  good_of_wp (CX σ [] known_nil) mixed 0 (fn := Try.f38) (f := n_deque_push2) (c := deque_push2.code) (fnT_ok 38 _ (by kernel_rfl)).1 (by kernel_rfl) (fnT_ok 38 _ (by kernel_rfl)).2 (Eq.mpr (by kernel_rfl) h)
noncomputable def deque_pop2.code : Code := bodyOf Try.f39
theorem deque_pop2.run {a0 : AV} {H : Hp} {K : AV → Hp → Prop} (h : bnd (nilR a0) fun x1 => bnd (shiftA x1 4) fun x2 => bnd (ldA false 1 H x2) fun x3 => callK Try.prog σ n_deque_operation_writeBottom [a0, x3] H fun x4 H5 => K (.fn n_deque_pop3 []) H5) : ∃ r H1, Good Try.prog σ n_deque_pop2 [a0] H r H1 ∧ K r H1 :=
  good_of_wp (CX σ [] known_nil) mixed 0 (fn := Try.f39) (f := n_deque_pop2) (c := deque_pop2.code) (fnT_ok 39 _ (by kernel_rfl)).1 (by kernel_rfl) (fnT_ok 39 _ (by kernel_rfl)).2 (Eq.mpr (by kernel_rfl) h)
noncomputable def deque_operation_readTop.code : Code := bodyOf Try.f40
theorem deque_operation_readTop.run {a0 : AV} {H : Hp} {K : AV → Hp → Prop} (h : callK Try.prog σ n_deque_operation_access [a0, (.lit (.int .i64 (-1000))), (.lit (.bool false))] H fun x1 H2 => bnd (nilR a0) fun x3 => bnd (shiftA x3 0) fun x4 => bnd (ldA false 1 H2 x4) fun x5 => bnd (nilR x5) fun x6 => bnd (shiftA x6 1) fun x7 => bnd (ldA false 1 H2 x7) fun x8 => K x8 H2) : ∃ r H1, Good Try.prog σ n_deque_operation_readTop [a0] H r H1 ∧ K r H1 :=
  good_of_wp (CX σ [] known_nil) mixed 0 (fn := Try.f40) (f := n_deque_operation_readTop) (c := deque_operation_readTop.code) (fnT_ok 40 _ (by kernel_rfl)).1 (by kernel_rfl) (fnT_ok 40 _ (by kernel_rfl)).2 (Eq.mpr (by kernel_rfl) h)
noncomputable def deque_steal2.code : Code := bodyOf Try.f41
theorem deque_steal2.run {a0 : AV} {H : Hp} {K : AV → Hp → Prop} (h : callK Try.prog σ n_deque_operation_readBottom [a0] H fun x1 H2 => bnd (nilR a0) fun x3 => bnd (shiftA x3 4) fun x4 => bnd (stA 1 H2 x4 x1) fun H5 => bnd (nilR a0) fun x6 => bnd (shiftA x6 3) fun x7 => bnd (ldA false 1 H5 x7) fun x8 => bnd (nilR a0) fun x9 => bnd (shiftA x9 4) fun x10 => bnd (ldA false 1 H5 x10) fun x11 => bnd (binR .geq x8 x11) fun x12 => ifB x12 (K (.lit (.nilFunc)) H5) (K (.fn n_deque_steal3 []) H5)) : ∃ r H1, Good Try.prog σ n_deque_steal2 [a0] H r H1 ∧ K r H1 :=
  good_of_wp (CX σ [] known_nil) mixed 0 (fn := Try.f41) (f := n_deque_steal2) (c := deque_steal2.code) (fnT_ok 41 _ (by kernel_rfl)).1 (by kernel_rfl) (fnT_ok 41 _ (by kernel_rfl)).2 (Eq.mpr (by kernel_rfl) h)
noncomputable def deque_operation_access.code : Code := bodyOf Try.f42
theorem deque_operation_access.run {a0 a1 a2 : AV} {H : Hp} {K : AV → Hp → Prop} (h : bnd (nilR a0) fun x1 => bnd (shiftA x1 0) fun x2 => bnd (ldA false 1 H x2) fun x3 => bnd (nilR a0) fun x4 => bnd (shiftA x4 1) fun x5 => bnd (ldA false 1 H x5) fun x6 => bnd (bldR [.lit (.int .i64 0), .lit (.int .i64 0), .lit (.bool false), .lit (.bool false)] [(0, 1, x6), (1, 1, a1), (2, 1, a2), (3, 1, (.lit (.bool true)))]) fun l7 => bnd (nilR x3) fun x8 => bnd (shiftA x8 68) fun x9 => bnd (stA 4 H x9 (.agg l7)) fun H10 => K (.tup []) H10) : ∃ r H1, Good Try.prog σ n_deque_operation_access [a0, a1, a2] H r H1 ∧ K r H1 :=
  good_of_wp (CX σ [] known_nil) mixed 0 (fn := Try.f42) (f := n_deque_operation_access) (c := deque_operation_access.code) (fnT_ok 42 _ (by kernel_rfl)).1 (by kernel_rfl) (fnT_ok 42 _ (by kernel_rfl)).2 (Eq.mpr (by kernel_rfl) h)
noncomputable def deque_push3.code : Code := bodyOf Try.f43
theorem deque_push3.run {a0 : AV} {H : Hp} {K : AV → Hp → Prop} (h : bnd (nilR a0) fun x1 => bnd (shiftA x1 4) fun x2 => bnd (ldA false 1 H x2) fun x3 => callK Try.prog σ n_deque_operation_at [a0, x3] H fun x4 H5 => bnd (binR .sub (.lit (.int .i64 (-1002))) x4) fun x6 => callK Try.prog σ n_deque_operation_access [a0, x6, (.lit (.bool true))] H5 fun x7 H8 => bnd (nilR a0) fun x9 => bnd (shiftA x9 0) fun x10 => bnd (ldA false 1 H8 x10) fun x11 => bnd (nilR x11) fun x12 => bnd (shiftA x12 0) fun x13 => bnd (ldA false 1 H8 x13) fun x14 => bnd (nilR a0) fun x15 => bnd (shiftA x15 4) fun x16 => bnd (ldA false 1 H8 x16) fun x17 => callK Try.prog σ n_deque_operation_at [a0, x17] H8 fun x18 H19 => kpK (x13, some 1) H8 H19 (kpK (x10, some 1) H8 H19 (bnd (nilR a0) fun x20 => bnd (shiftA x20 2) fun x21 => kpK (x21, some 1) H8 H19 (bnd (ldA false 1 H19 x21) fun x22 => bnd (ixaSl 1 x14 x18) fun x23 => bnd (stA 1 H19 x23 x22) fun H24 => K (.fn n_deque_push4 []) H24)))) : ∃ r H1, Good Try.prog σ n_deque_push3 [a0] H r H1 ∧ K r H1 :=
  good_of_wp (CX σ [] known_nil) mixed 0 (fn := Try.f43) (f := n_deque_push3) (c := deque_push3.code) (fnT_ok 43 _ (by kernel_rfl)).1 (by kernel_rfl) (fnT_ok 43 _ (by kernel_rfl)).2 (Eq.mpr (by kernel_rfl) h)
noncomputable def deque_operation_writeBottom.code : Code := bodyOf Try.f44
theorem deque_operation_writeBottom.run {a0 a1 : AV} {H : Hp} {K : AV → Hp → Prop} (h : callK Try.prog σ n_deque_operation_access [a0, (.lit (.int .i64 (-1001))), (.lit (.bool true))] H fun x1 H2 => bnd (nilR a0) fun x3 => bnd (shiftA x3 0) fun x4 => bnd (ldA false 1 H2 x4) fun x5 => bnd (nilR x5) fun x6 => bnd (shiftA x6 2) fun x7 => bnd (stA 1 H2 x7 a1) fun H8 => K (.tup []) H8) : ∃ r H1, Good Try.prog σ n_deque_operation_writeBottom [a0, a1] H r H1 ∧ K r H1 :=
  good_of_wp (CX σ [] known_nil) mixed 0 (fn := Try.f44) (f := n_deque_operation_writeBottom) (c := deque_operation_writeBottom.code) (fnT_ok 44 _ (by kernel_rfl)).1 (by kernel_rfl) (fnT_ok 44 _ (by kernel_rfl)).2 (Eq.mpr (by kernel_rfl) h)
noncomputable def deque_pop3.code : Code := bodyOf Try.f45
theorem deque_pop3.run {a0 : AV} {H : Hp} {K : AV → Hp → Prop} (h : callK Try.prog σ n_deque_operation_readTop [a0] H fun x1 H2 => bnd (nilR a0) fun x3 => bnd (shiftA x3 3) fun x4 => bnd (stA 1 H2 x4 x1) fun H5 => bnd (nilR a0) fun x6 => bnd (shiftA x6 3) fun x7 => bnd (ldA false 1 H5 x7) fun x8 => bnd (nilR a0) fun x9 => bnd (shiftA x9 4) fun x10 => bnd (ldA false 1 H5 x10) fun x11 => bnd (binR .gtr x8 x11) fun x12 => ifB x12 (K (.fn n_deque_pop6 []) H5) (K (.fn n_deque_pop4 []) H5)) : ∃ r H1, Good Try.prog σ n_deque_pop3 [a0] H r H1 ∧ K r H1 :=
  good_of_wp (CX σ [] known_nil) mixed 0 (fn := Try.f45) (f := n_deque_pop3) (c := deque_pop3.code) (fnT_ok 45 _ (by kernel_rfl)).1 (by kernel_rfl) (fnT_ok 45 _ (by kernel_rfl)).2 (Eq.mpr (by kernel_rfl) h)
noncomputable def deque_steal3.code : Code := bodyOf Try.f46
theorem deque_steal3.run {a0 : AV} {H : Hp} {K : AV → Hp → Prop} (h : bnd (nilR a0) fun x1 => bnd (shiftA x1 3) fun x2 => bnd (ldA false 1 H x2) fun x3 => callK Try.prog σ n_deque_operation_read [a0, x3] H fun x4 H5 => K (.fn n_deque_steal4 []) H5) : ∃ r H1, Good Try.prog σ n_deque_steal3 [a0] H r H1 ∧ K r H1 :=
  good_of_wp (CX σ [] known_nil) mixed 0 (fn := Try.f46) (f := n_deque_steal3) (c := deque_steal3.code) (fnT_ok 46 _ (by kernel_rfl)).1 (by kernel_rfl) (fnT_ok 46 _ (by kernel_rfl)).2 (Eq.mpr (by kernel_rfl) h)
noncomputable def deque_operation_at.code : Code := bodyOf Try.f47
theorem deque_operation_at.run {a0 a1 : AV} {H : Hp} {K : AV → Hp → Prop} (h : bnd (nilR a0) fun x1 => bnd (shiftA x1 0) fun x2 => bnd (ldA false 1 H x2) fun x3 => bnd (nilR x3) fun x4 => bnd (shiftA x4 0) fun x5 => bnd (ldA false 1 H x5) fun x6 => bnd (lenSl x6) fun x7 => bnd (binR .rem a1 x7) fun x8 => K x8 H) : ∃ r H1, Good Try.prog σ n_deque_operation_at [a0, a1] H r H1 ∧ K r H1 :=
  good_of_wp (CX σ [] known_nil) mixed 0 (fn := Try.f47) (f := n_deque_operation_at) (c := deque_operation_at.code) (fnT_ok 47 _ (by kernel_rfl)).1 (by kernel_rfl) (fnT_ok 47 _ (by kernel_rfl)).2 (Eq.mpr (by kernel_rfl) h)
noncomputable def deque_push4.code : Code := bodyOf Try.f48
theorem deque_push4.run {a0 : AV} {H : Hp} {K : AV → Hp → Prop} (h : bnd (nilR a0) fun x1 => bnd (shiftA x1 4) fun x2 => bnd (ldA false 1 H x2) fun x3 => bnd (binR .add x3 (.lit (.int .i64 1))) fun x4 => callK Try.prog σ n_deque_operation_writeBottom [a0, x4] H fun x5 H6 => bnd (nilR a0) fun x7 => bnd (shiftA x7 5) fun x8 => bnd (stA 1 H6 x8 (.lit (.bool true))) fun H9 => K (.lit (.nilFunc)) H9) : ∃ r H1, Good Try.prog σ n_deque_push4 [a0] H r H1 ∧ K r H1 :=
  good_of_wp (CX σ [] known_nil) mixed 0 (fn := Try.f48) (f := n_deque_push4) (c := deque_push4.code) (fnT_ok 48 _ (by kernel_rfl)).1 (by kernel_rfl) (fnT_ok 48 _ (by kernel_rfl)).2 (Eq.mpr (by kernel_rfl) h)
noncomputable def deque_pop6.code : Code := bodyOf Try.f49
theorem deque_pop6.run {a0 : AV} {H : Hp} {K : AV → Hp → Prop} (h : bnd (nilR a0) fun x1 => bnd (shiftA x1 4) fun x2 => bnd (ldA false 1 H x2) fun x3 => bnd (binR .add x3 (.lit (.int .i64 1))) fun x4 => callK Try.prog σ n_deque_operation_writeBottom [a0, x4] H fun x5 H6 => K (.lit (.nilFunc)) H6) : ∃ r H1, Good Try.prog σ n_deque_pop6 [a0] H r H1 ∧ K r H1 :=
  good_of_wp (CX σ [] known_nil) mixed 0 (fn := Try.f49) (f := n_deque_pop6) (c := deque_pop6.code) (fnT_ok 49 _ (by kernel_rfl)).1 (by kernel_rfl) (fnT_ok 49 _ (by kernel_rfl)).2 (Eq.mpr (by kernel_rfl) h)
noncomputable def deque_pop4.code : Code := bodyOf Try.f50
theorem deque_pop4.run {a0 : AV} {H : Hp} {K : AV → Hp → Prop} (h : bnd (nilR a0) fun x1 => bnd (shiftA x1 4) fun x2 => bnd (ldA false 1 H x2) fun x3 => callK Try.prog σ n_deque_operation_read [a0, x3] H fun x4 H5 => bnd (nilR a0) fun x6 => bnd (shiftA x6 3) fun x7 => bnd (ldA false 1 H5 x7) fun x8 => bnd (nilR a0) fun x9 => bnd (shiftA x9 4) fun x10 => bnd (ldA false 1 H5 x10) fun x11 => bnd (binR .lss x8 x11) fun x12 => ifB x12 (bnd (nilR a0) fun x13 => bnd (shiftA x13 5) fun x14 => bnd (stA 1 H5 x14 (.lit (.bool true))) fun H15 => K (.lit (.nilFunc)) H15) (K (.fn n_deque_pop5 []) H5)) : ∃ r H1, Good Try.prog σ n_deque_pop4 [a0] H r H1 ∧ K r H1 :=
  good_of_wp (CX σ [] known_nil) mixed 0 (fn := Try.f50) (f := n_deque_pop4) (c := deque_pop4.code) (fnT_ok 50 _ (by kernel_rfl)).1 (by kernel_rfl) (fnT_ok 50 _ (by kernel_rfl)).2 (Eq.mpr (by kernel_rfl) h)
noncomputable def deque_operation_read.code : Code := bodyOf Try.f51
theorem deque_operation_read.run {a0 a1 : AV} {H : Hp} {K : AV → Hp → Prop} (h : callK Try.prog σ n_deque_operation_at [a0, a1] H fun x1 H2 => bnd (binR .sub (.lit (.int .i64 (-1002))) x1) fun x3 => callK Try.prog σ n_deque_operation_access [a0, x3, (.lit (.bool false))] H2 fun x4 H5 => bnd (nilR a0) fun x6 => bnd (shiftA x6 0) fun x7 => bnd (ldA false 1 H5 x7) fun x8 => bnd (nilR x8) fun x9 => bnd (shiftA x9 0) fun x10 => bnd (ldA false 1 H5 x10) fun x11 => callK Try.prog σ n_deque_operation_at [a0, a1] H5 fun x12 H13 => kpK (x10, some 1) H5 H13 (kpK (x7, some 1) H5 H13 (bnd (ixaSl 1 x11 x12) fun x14 => bnd (ldA false 1 H13 x14) fun x15 => bnd (nilR a0) fun x16 => bnd (shiftA x16 2) fun x17 => bnd (stA 1 H13 x17 x15) fun H18 => K (.tup []) H18))) : ∃ r H1, Good Try.prog σ n_deque_operation_read [a0, a1] H r H1 ∧ K r H1 :=
  good_of_wp (CX σ [] known_nil) mixed 0 (fn := Try.f51) (f := n_deque_operation_read) (c := deque_operation_read.code) (fnT_ok 51 _ (by kernel_rfl)).1 (by kernel_rfl) (fnT_ok 51 _ (by kernel_rfl)).2 (Eq.mpr (by kernel_rfl) h)
noncomputable def deque_steal4.code : Code := bodyOf Try.f52
theorem deque_steal4.run {a0 : AV} {H : Hp} {K : AV → Hp → Prop} (h : callK Try.prog σ n_deque_operation_takeTop [a0] H fun x1 H2 => bnd (nilR a0) fun x3 => bnd (shiftA x3 5) fun x4 => bnd (stA 1 H2 x4 x1) fun H5 => K (.lit (.nilFunc)) H5) : ∃ r H1, Good Try.prog σ n_deque_steal4 [a0] H r H1 ∧ K r H1 :=
  good_of_wp (CX σ [] known_nil) mixed 0 (fn := Try.f52) (f := n_deque_steal4) (c := deque_steal4.code) (fnT_ok 52 _ (by kernel_rfl)).1 (by kernel_rfl) (fnT_ok 52 _ (by kernel_rfl)).2 (Eq.mpr (by kernel_rfl) h)
noncomputable def deque_pop5.code : Code := bodyOf Try.f53
theorem deque_pop5.run {a0 : AV} {H : Hp} {K : AV → Hp → Prop} (h : callK Try.prog σ n_deque_operation_takeTop [a0] H fun x1 H2 => bnd (nilR a0) fun x3 => bnd (shiftA x3 5) fun x4 => bnd (stA 1 H2 x4 x1) fun H5 => K (.fn n_deque_pop6 []) H5) : ∃ r H1, Good Try.prog σ n_deque_pop5 [a0] H r H1 ∧ K r H1 :=
  good_of_wp (CX σ [] known_nil) mixed 0 (fn := Try.f53) (f := n_deque_pop5) (c := deque_pop5.code) (fnT_ok 53 _ (by kernel_rfl)).1 (by kernel_rfl) (fnT_ok 53 _ (by kernel_rfl)).2 (Eq.mpr (by kernel_rfl) h)
noncomputable def deque_operation_takeTop.code : Code := bodyOf Try.f54
theorem deque_operation_takeTop.run {a0 : AV} {H : Hp} {K : AV → Hp → Prop} (h : callK Try.prog σ n_deque_operation_access [a0, (.lit (.int .i64 (-1000))), (.lit (.bool true))] H fun x1 H2 => bnd (nilR a0) fun x3 => bnd (shiftA x3 0) fun x4 => bnd (ldA false 1 H2 x4) fun x5 => bnd (nilR x5) fun x6 => bnd (shiftA x6 1) fun x7 => bnd (ldA false 1 H2 x7) fun x8 => bnd (nilR a0) fun x9 => bnd (shiftA x9 3) fun x10 => bnd (ldA false 1 H2 x10) fun x11 => bnd (binR .neq x8 x11) fun x12 => ifB x12 (K (.lit (.bool false)) H2) (bnd (nilR a0) fun x13 => bnd (shiftA x13 0) fun x14 => bnd (ldA false 1 H2 x14) fun x15 => bnd (nilR x15) fun x16 => bnd (shiftA x16 1) fun x17 => bnd (ldA false 1 H2 x17) fun x18 => bnd (binR .add x18 (.lit (.int .i64 1))) fun x19 => bnd (nilR x15) fun x20 => bnd (shiftA x20 1) fun x21 => bnd (stA 1 H2 x21 x19) fun H22 => K (.lit (.bool true)) H22)) : ∃ r H1, Good Try.prog σ n_deque_operation_takeTop [a0] H r H1 ∧ K r H1 :=
  good_of_wp (CX σ [] known_nil) mixed 0 (fn := Try.f54) (f := n_deque_operation_takeTop) (c := deque_operation_takeTop.code) (fnT_ok 54 _ (by kernel_rfl)).1 (by kernel_rfl) (fnT_ok 54 _ (by kernel_rfl)).2 (Eq.mpr (by kernel_rfl) h)
end Go.Proofs.Ytnloolhaojoimaa.Ev
namespace Go.Proofs.Ytnloolhaojoimaa.Ev
set_option linter.unusedVariables false
set_option linter.unusedSimpArgs false
variable {σ : Sig}
@[simp] theorem st_fn (H : Hp) (id off f : Nat) (cs : List AV) : stA 1 H (.ptr id off) (.fn f cs) = stO 1 off [.fn f cs] H id (H.get id) := st_ptr 1 H id off _ rfl rfl
@[simp] theorem st_nf (H : Hp) (id off : Nat) : stA 1 H (.ptr id off) (.lit .nilFunc) = stO 1 off [.lit .nilFunc] H id (H.get id) := st_ptr 1 H id off _ rfl rfl
@[simp] theorem e_fn1 (f : Nat) (cs : List AV) : eqFnR .eql (.fn f cs) (.lit .nilFunc) = some (Bo false) := rfl
@[simp] theorem e_fn2 : eqFnR .eql (.lit .nilFunc) (.lit .nilFunc) = some (Bo true) := rfl
@[simp] theorem e_fn3 (f : Nat) (cs : List AV) : eqFnR .neq (.fn f cs) (.lit .nilFunc) = some (Bo true) := rfl
@[simp] theorem e_fn4 : eqFnR .neq (.lit .nilFunc) (.lit .nilFunc) = some (Bo false) := rfl
@[simp] theorem callV_fn (P : Program) (σ : Sig) (g : Nat) (cs xs : List AV) (H : Hp) (K : AV → Hp → Prop) : callV P σ (.fn g cs) xs H K = callK P σ g (xs ++ cs) H K := rfl
structure O where
  id : Nat
  x : Int
  t : Int
  b : Int
  ok : Bool
  nx : AV
structure S where
  ip : Nat
  pl : List Int
  top : Int
  bot : Int
  op : Nat → Option O
  lw : Int
  lc : Int
  lr : Bool
  la : Bool
def encO : Option O → AV
  | none => .lit (.pointer none)
  | some o => .ptr o.id 0
def opl (f : Nat → Option O) : List AV := (List.range 65).map fun w => encO (f w)
def lsc (s : S) : List AV := [I s.lw, I s.lc, Bo s.lr, Bo s.la]
def hdc (s : S) : List AV := [.sl s.ip 0 1 s.pl.length (some s.pl.length), I s.top, I s.bot]
def dqc (s : S) : List AV := hdc s ++ (opl s.op ++ lsc s)
def opc (d w : Nat) (o : O) : List AV := [.ptr d 0, I w, I o.x, I o.t, I o.b, Bo o.ok, o.nx]
def upd (f : Nat → Option O) (w : Nat) (o : Option O) : Nat → Option O := fun i => if i = w then o else f i
@[simp] theorem upd_same (f : Nat → Option O) (w : Nat) (o : Option O) : upd f w o w = o := by simp [upd]
@[simp] theorem upd_ne (f : Nat → Option O) {w i : Nat} (o : Option O) (h : i ≠ w) : upd f w o i = f i := by simp [upd, h]
theorem opl_len (f : Nat → Option O) : (opl f).length = 65 := by simp [opl]
theorem dqc_len (s : S) : (dqc s).length = 72 := by simp [dqc, hdc, lsc, opl_len]
theorem opl_drop (f : Nat → Option O) {w : Nat} (h : w < 65) : ∃ r, (opl f).drop w = encO (f w) :: r := by
  have hl : w < (opl f).length := by rw [opl_len]; exact h
  refine ⟨(opl f).drop (w + 1), ?_⟩
  rw [List.drop_eq_getElem_cons hl]
  congr 1
  simp [opl]
theorem dq_0 (s : S) : ldL false 1 (dqc s) = some (.sl s.ip 0 1 s.pl.length (some s.pl.length)) := rfl
theorem dq_1' (s : S) : ldL false 1 (dqc s).tail = some (I s.top) := rfl
theorem dq_2 (s : S) : ldL false 1 ((dqc s).drop 2) = some (I s.bot) := rfl
theorem dq_op (s : S) {w : Nat} (h : w < 65) : ldL false 1 ((dqc s).drop (3 + w)) = some (encO (s.op w)) := by
  obtain ⟨r, hr⟩ := opl_drop s.op h
  have : (dqc s).drop (3 + w) = encO (s.op w) :: (r ++ lsc s) := by
    rw [← List.drop_drop]
    show (opl s.op ++ lsc s).drop w = _
    rw [List.drop_append_of_le_length (by rw [opl_len]; omega), hr]; rfl
  rw [this]; simp
theorem dq_last (s : S) : ldL true 4 ((dqc s).drop 68) = some (.agg (lsc s)) := by
  have : (dqc s).drop 68 = lsc s := by
    rw [show 68 = 3 + 65 from rfl, ← List.drop_drop]
    show (opl s.op ++ lsc s).drop 65 = _
    rw [List.drop_append_of_le_length (by rw [opl_len]; omega), List.drop_eq_nil_of_le (by rw [opl_len]; omega)]; rfl
  rw [this]; rfl
theorem dq_s1 (s : S) (v : Int) : overlay (dqc s) 1 [I v] = dqc { s with top := v } := by simp [dqc, hdc, lsc]
theorem dq_s2 (s : S) (v : Int) : overlay (dqc s) 2 [I v] = dqc { s with bot := v } := by simp [dqc, hdc, lsc]
theorem ov_set {cs : List AV} {k : Nat} {x : AV} (h : k < cs.length) : overlay cs k [x] = cs.set k x := by
  induction cs generalizing k with
  | nil => simp at h
  | cons c cs ih =>
    cases k with
    | zero => simp
    | succ k => simp; exact ih (by simpa using h)
theorem dq_sop (s : S) {w : Nat} (h : w < 65) (o : Option O) : overlay (dqc s) (3 + w) [encO o] = dqc { s with op := upd s.op w o } := by
  rw [ov_set (by rw [dqc_len]; omega)]
  have e : (opl s.op).set w (encO o) = opl (upd s.op w o) := by
    apply List.ext_getElem
    · simp [opl]
    · intro i h1 h2
      simp only [List.getElem_set, opl, List.getElem_map, List.getElem_range]
      by_cases hi : w = i
      · subst hi; simp
      · rw [if_neg hi, upd_ne _ _ (Ne.symm hi)]
  show (hdc s ++ (opl s.op ++ lsc s)).set (3 + w) (encO o) = hdc s ++ (opl (upd s.op w o) ++ lsc s)
  rw [List.set_append_right _ _ (by simp [hdc]), List.set_append_left _ _ (by simp [hdc, opl_len]; omega), ← e]
  simp [hdc]
theorem dq_slast (s : S) (w c : Int) (r a : Bool) : overlay (dqc s) 68 [I w, I c, Bo r, Bo a] = dqc { s with lw := w, lc := c, lr := r, la := a } := by
  have h1 : (dqc s).take 68 = hdc s ++ opl s.op := by
    show (hdc s ++ (opl s.op ++ lsc s)).take 68 = _
    rw [← List.append_assoc, List.take_append_of_le_length (by simp [hdc, opl_len]), List.take_of_length_le (by simp [hdc, opl_len])]
  unfold overlay
  rw [h1, List.drop_eq_nil_of_le (by rw [dqc_len]; simp)]
  simp [dqc, hdc, lsc]
structure Dq (H : Hp) (d : Nat) (s : S) : Prop where
  hd : H.get d = some (.cells (dqc s) true)
  hp : H.get s.ip = some (.cells (s.pl.map I) true)
  ho : ∀ w o, w < 65 → s.op w = some o → H.get o.id = some (.cells (opc d w o) true) ∧ o.id < H.n ∧ o.id ≠ d ∧ o.id ≠ s.ip
  hi : ∀ w w' o o', w < 65 → w' < 65 → s.op w = some o → s.op w' = some o' → o.id = o'.id → w = w'
  dl : d < H.n
  pl : s.ip < H.n
  dp : d ≠ s.ip
structure Fd (d : Nat) (s : S) (H H' : Hp) : Prop where
  n : H'.n = H.n
  g : ∀ j, j ≠ d → j ≠ s.ip → (∀ w o, w < 65 → s.op w = some o → j ≠ o.id) → H'.get j = H.get j
theorem Fd.refl {d : Nat} {s : S} {H : Hp} : Fd d s H H := ⟨rfl, fun _ _ _ _ => rfl⟩
theorem Fd.trans {d : Nat} {s s' : S} {H H' H'' : Hp} (h : Fd d s H H') (h' : Fd d s' H' H'') (hi : s'.ip = s.ip) (ho : ∀ w o', s'.op w = some o' → ∃ o, s.op w = some o ∧ o.id = o'.id) : Fd d s H H'' :=
  ⟨h'.n.trans h.n, fun j h1 h2 h3 => (h'.g j h1 (by rw [hi]; exact h2) fun w o' hw hs => by
    obtain ⟨o, ho, e⟩ := ho w o' hs
    rw [← e]; exact h3 w o hw ho).trans (h.g j h1 h2 h3)⟩
theorem Dq.setD {H : Hp} {d : Nat} {s s' : S} (h : Dq H d s) (e1 : s'.ip = s.ip) (e2 : s'.pl = s.pl) (e3 : s'.op = s.op) : Dq (H.set d (some (.cells (dqc s') true))) d s' := by
  refine ⟨by simp, ?_, ?_, ?_, by simpa using h.dl, by rw [e1]; simpa using h.pl, by rw [e1]; exact h.dp⟩
  · rw [e1, e2]; simp [Ne.symm h.dp]; exact h.hp
  · intro w o hw ho
    rw [e3] at ho
    obtain ⟨a, b, c, e⟩ := h.ho w o hw ho
    exact ⟨by simp [c]; exact a, by simpa using b, c, by rw [e1]; exact e⟩
  · intro w w' o o' hw hw' ho ho'
    rw [e3] at ho ho'
    exact h.hi w w' o o' hw hw' ho ho'
theorem Fd.setD {H : Hp} {d : Nat} {s : S} {b : Option Blk} : Fd d s H (H.set d b) := ⟨by simp, fun j h1 _ _ => by simp [h1]⟩
theorem Dq.setO {H : Hp} {d w : Nat} {s : S} {o o' : O} (h : Dq H d s) (hw : w < 65) (ho : s.op w = some o) (e : o'.id = o.id) : Dq (H.set o.id (some (.cells (opc d w o') true))) d { s with op := upd s.op w (some o') } := by
  obtain ⟨_, hl, hnd, hnp⟩ := h.ho w o hw ho
  have hd' : dqc { s with op := upd s.op w (some o') } = dqc s := by
    rw [← dq_sop s hw (some o'), show encO (some o') = encO (s.op w) by rw [ho]; simp [encO, e]]
    rw [ov_set (by rw [dqc_len]; omega)]
    obtain ⟨r, hr⟩ := opl_drop s.op hw
    apply List.ext_getElem (by simp)
    intro i h1 h2
    rw [List.getElem_set]
    split
    · rename_i hi
      subst hi
      have := dq_op s hw
      rw [List.drop_eq_getElem_cons h2, ldL_one] at this
      exact (Option.some.inj this).symm
    · rfl
  refine ⟨?_, ?_, ?_, ?_, by simpa using h.dl, by simpa using h.pl, h.dp⟩
  · rw [hd']; simp [Ne.symm hnd]; exact h.hd
  · simp [Ne.symm hnp]; exact h.hp
  · intro w2 o2 hw2 ho2
    by_cases hww : w2 = w
    · subst hww
      simp at ho2
      subst ho2
      exact ⟨by simp [e], by simpa [e] using hl, by rw [e]; exact hnd, by rw [e]; exact hnp⟩
    · simp [hww] at ho2
      obtain ⟨a, b, c, f⟩ := h.ho w2 o2 hw2 ho2
      have : o2.id ≠ o.id := fun he => hww (h.hi w2 w o2 o hw2 hw ho2 ho he)
      exact ⟨by simp [this]; exact a, by simpa using b, c, f⟩
  · intro w1 w2 o1 o2 hw1 hw2 h1 h2 he
    have key : ∀ w1 o1, upd s.op w (some o') w1 = some o1 → ∃ oo, s.op w1 = some oo ∧ oo.id = o1.id := by
      intro w1 o1 h1
      by_cases hww : w1 = w
      · subst hww; simp at h1; subst h1; exact ⟨o, ho, e.symm⟩
      · simp [hww] at h1; exact ⟨o1, h1, rfl⟩
    obtain ⟨a, ha, ea⟩ := key w1 o1 h1
    obtain ⟨b, hb, eb⟩ := key w2 o2 h2
    exact h.hi w1 w2 a b hw1 hw2 ha hb (by rw [ea, eb, he])
theorem Fd.setO {H : Hp} {d w : Nat} {s : S} {o : O} {b : Option Blk} (hw : w < 65) (ho : s.op w = some o) : Fd d s H (H.set o.id b) := ⟨by simp, fun j _ _ h => by simp [h w o hw ho]⟩
theorem Dq.setP {H : Hp} {d : Nat} {s : S} {p : List Int} (h : Dq H d s) (e : p.length = s.pl.length) : Dq (H.set s.ip (some (.cells (p.map I) true))) d { s with pl := p } := by
  have hd' : dqc { s with pl := p } = dqc s := by simp [dqc, hdc, lsc, e]
  refine ⟨by rw [hd']; simp [h.dp]; exact h.hd, by simp, ?_, h.hi, by simpa using h.dl, by simpa using h.pl, h.dp⟩
  intro w o hw ho
  obtain ⟨a, b, c, f⟩ := h.ho w o hw ho
  exact ⟨by simp [f]; exact a, by simpa using b, c, f⟩
theorem Fd.setP {H : Hp} {d : Nat} {s : S} {b : Option Blk} : Fd d s H (H.set s.ip b) := ⟨by simp, fun j _ h _ => by simp [h]⟩
end Go.Proofs.Ytnloolhaojoimaa.Ev
namespace Go.Proofs.Ytnloolhaojoimaa.Ev
set_option linter.unusedVariables false
set_option linter.unusedSimpArgs false
variable {σ : Sig}
def acc (s : S) (w : Nat) (c : Int) (r : Bool) : S := { s with lw := w, lc := c, lr := r, la := true }
@[simp] theorem acc_pl (s : S) (w : Nat) (c : Int) (r : Bool) : (acc s w c r).pl = s.pl := rfl
@[simp] theorem acc_ip (s : S) (w : Nat) (c : Int) (r : Bool) : (acc s w c r).ip = s.ip := rfl
@[simp] theorem acc_op (s : S) (w : Nat) (c : Int) (r : Bool) : (acc s w c r).op = s.op := rfl
@[simp] theorem acc_top (s : S) (w : Nat) (c : Int) (r : Bool) : (acc s w c r).top = s.top := rfl
@[simp] theorem acc_bot (s : S) (w : Nat) (c : Int) (r : Bool) : (acc s w c r).bot = s.bot := rfl
@[simp] theorem op_0 (d w : Nat) (o : O) : ldL false 1 (opc d w o) = some (.ptr d 0) := rfl
@[simp] theorem op_1 (d w : Nat) (o : O) : ldL false 1 ((opc d w o).tail) = some (I w) := rfl
@[simp] theorem op_2 (d w : Nat) (o : O) : ldL false 1 ((opc d w o).drop 2) = some (I o.x) := rfl
@[simp] theorem op_3 (d w : Nat) (o : O) : ldL false 1 ((opc d w o).drop 3) = some (I o.t) := rfl
@[simp] theorem op_4 (d w : Nat) (o : O) : ldL false 1 ((opc d w o).drop 4) = some (I o.b) := rfl
@[simp] theorem op_5 (d w : Nat) (o : O) : ldL false 1 ((opc d w o).drop 5) = some (Bo o.ok) := rfl
@[simp] theorem op_6 (d w : Nat) (o : O) : ldL false 1 ((opc d w o).drop 6) = some o.nx := rfl
@[simp] theorem op_s2 (d w : Nat) (o : O) (v : Int) : overlay (opc d w o) 2 [I v] = opc d w { o with x := v } := by simp [opc]
@[simp] theorem op_s3 (d w : Nat) (o : O) (v : Int) : overlay (opc d w o) 3 [I v] = opc d w { o with t := v } := by simp [opc]
@[simp] theorem op_s4 (d w : Nat) (o : O) (v : Int) : overlay (opc d w o) 4 [I v] = opc d w { o with b := v } := by simp [opc]
@[simp] theorem op_s5 (d w : Nat) (o : O) (v : Bool) : overlay (opc d w o) 5 [Bo v] = opc d w { o with ok := v } := by simp [opc]
@[simp] theorem op_s6 (d w : Nat) (o : O) (v : AV) : overlay (opc d w o) 6 [v] = opc d w { o with nx := v } := by simp [opc]
@[simp] theorem op_len (d w : Nat) (o : O) : (opc d w o).length = 7 := rfl
@[simp] theorem dq_len (s : S) : (dqc s).length = 72 := dqc_len s
attribute [simp] dq_0 dq_1' dq_2 dq_last dq_s1 dq_s2 dq_slast
theorem bld_last (a b : Int) (c : Bool) : bldR [I 0, I 0, Bo false, Bo false] [(0, 1, I a), (1, 1, I b), (2, 1, Bo c), (3, 1, Bo true)] = some [I a, I b, Bo c, Bo true] := rfl
theorem access_sp {H : Hp} {d w : Nat} {s : S} {o : O} {c : Int} {r : Bool} {K : AV → Hp → Prop} (h : Dq H d s) (hw : w < 65) (ho : s.op w = some o)
    (hK : ∀ H', Dq H' d (acc s w c r) → Fd d s H H' → K (.tup []) H') : callK Try.prog σ n_deque_operation_access [.ptr o.id 0, I c, Bo r] H K := by
  refine deque_operation_access.run ?_
  obtain ⟨hg, _, _, _⟩ := h.ho w o hw ho
  simp [hg, bld_last, h.hd]
  exact hK _ (h.setD rfl rfl rfl) .setD
theorem at_sp {H : Hp} {d w : Nat} {s : S} {o : O} {k : Int} {K : AV → Hp → Prop} (h : Dq H d s) (hw : w < 65) (ho : s.op w = some o) (hn : s.pl.length ≠ 0)
    (hK : K (I (k.tmod s.pl.length)) H) : callK Try.prog σ n_deque_operation_at [.ptr o.id 0, I k] H K := by
  refine deque_operation_at.run ?_
  obtain ⟨hg, _, _, _⟩ := h.ho w o hw ho
  simp [hg, h.hd]
  rw [b_rem _ _ _ (by omega)]
  simpa using hK
theorem readB_sp {H : Hp} {d w : Nat} {s : S} {o : O} {K : AV → Hp → Prop} (h : Dq H d s) (hw : w < 65) (ho : s.op w = some o)
    (hK : ∀ H', Dq H' d (acc s w (-1001) false) → Fd d s H H' → K (I s.bot) H') : callK Try.prog σ n_deque_operation_readBottom [.ptr o.id 0] H K := by
  refine deque_operation_readBottom.run (access_sp h hw ho fun H' h' f => ?_)
  obtain ⟨hg, _, _, _⟩ := h'.ho w o hw ho
  simp [hg, h'.hd]
  exact hK _ h' f
theorem readT_sp {H : Hp} {d w : Nat} {s : S} {o : O} {K : AV → Hp → Prop} (h : Dq H d s) (hw : w < 65) (ho : s.op w = some o)
    (hK : ∀ H', Dq H' d (acc s w (-1000) false) → Fd d s H H' → K (I s.top) H') : callK Try.prog σ n_deque_operation_readTop [.ptr o.id 0] H K := by
  refine deque_operation_readTop.run (access_sp h hw ho fun H' h' f => ?_)
  obtain ⟨hg, _, _, _⟩ := h'.ho w o hw ho
  simp [hg, h'.hd]
  exact hK _ h' f
theorem Fd.tr {d : Nat} {s s' : S} {H H' H'' : Hp} (h : Fd d s H H') (h' : Fd d s' H' H'') (hi : s'.ip = s.ip) (ho : s'.op = s.op) : Fd d s H H'' :=
  h.trans h' hi fun w o' hs => ⟨o', by rw [← ho]; exact hs, rfl⟩
theorem writeB_sp {H : Hp} {d w : Nat} {s : S} {o : O} {v : Int} {K : AV → Hp → Prop} (h : Dq H d s) (hw : w < 65) (ho : s.op w = some o)
    (hK : ∀ H', Dq H' d { acc s w (-1001) true with bot := v } → Fd d s H H' → K (.tup []) H') : callK Try.prog σ n_deque_operation_writeBottom [.ptr o.id 0, I v] H K := by
  refine deque_operation_writeBottom.run (access_sp h hw ho fun H' h' f => ?_)
  obtain ⟨hg, _, _, _⟩ := h'.ho w o hw ho
  simp [hg, h'.hd]
  exact hK _ (h'.setD rfl rfl rfl) (f.tr .setD rfl rfl)
theorem take_sp {H : Hp} {d w : Nat} {s : S} {o : O} {K : AV → Hp → Prop} (h : Dq H d s) (hw : w < 65) (ho : s.op w = some o) (hb : wr .i64 (s.top + 1) = s.top + 1)
    (hK : ∀ H', Dq H' d { acc s w (-1000) true with top := if s.top = o.t then s.top + 1 else s.top } → Fd d s H H' → K (Bo (decide (s.top = o.t))) H') : callK Try.prog σ n_deque_operation_takeTop [.ptr o.id 0] H K := by
  refine deque_operation_takeTop.run (access_sp h hw ho fun H' h' f => ?_)
  obtain ⟨hg, _, _, _⟩ := h'.ho w o hw ho
  by_cases e : s.top = o.t
  · simp only [e, if_true, decide_true] at hK
    rw [e] at hb
    simp [hg, h'.hd, e, hb]
    exact hK _ (h'.setD rfl rfl rfl) (f.tr .setD rfl rfl)
  · simp only [e, if_false, decide_false] at hK
    simp [hg, h'.hd, e]
    exact hK _ h' f
theorem pl_ix {H : Hp} {s : S} {k : Int} (h0 : 0 ≤ k) (h1 : k < s.pl.length) : ixaSl 1 (.sl s.ip 0 1 s.pl.length (some s.pl.length)) (I k) = some (.ptr s.ip k.toNat) := by
  rw [ix_sl h0 h1]; simp
theorem pl_ld {l : List Int} {k : Nat} (h : k < l.length) : ldL false 1 ((l.map I).drop k) = some (I (l.getD k 0)) := by
  have hl : k < (l.map I).length := by simpa using h
  rw [List.drop_eq_getElem_cons hl, ldL_one]
  simp [h]
def atI (s : S) (k : Int) : Int := k.tmod s.pl.length
theorem at_in {s : S} {k : Int} (h0 : 0 ≤ k) (hn : s.pl.length ≠ 0) : 0 ≤ atI s k ∧ atI s k < s.pl.length := by
  have hp : (0 : Int) < s.pl.length := Int.ofNat_lt.2 (Nat.pos_of_ne_zero hn)
  unfold atI
  rw [Int.tmod_eq_emod_of_nonneg h0]
  exact ⟨Int.emod_nonneg _ (Int.ne_of_gt hp), Int.emod_lt_of_pos _ hp⟩
theorem read_sp {H : Hp} {d w : Nat} {s : S} {o : O} {k : Int} {K : AV → Hp → Prop} (h : Dq H d s) (hw : w < 65) (ho : s.op w = some o) (h0 : 0 ≤ k) (hn : s.pl.length ≠ 0) (hm : s.pl.length ≤ 1000000)
    (hK : ∀ H', Dq H' d { acc s w (-1002 - atI s k) false with op := upd s.op w (some { o with x := s.pl.getD (atI s k).toNat 0 }) } → Fd d s H H' → K (.tup []) H') : callK Try.prog σ n_deque_operation_read [.ptr o.id 0, I k] H K := by
  obtain ⟨i0, i1⟩ := at_in h0 hn
  refine deque_operation_read.run (at_sp h hw ho hn ?_)
  have e : wr .i64 (-1002 - atI s k) = -1002 - atI s k := wr64 (by omega) (by omega)
  rw [show k.tmod s.pl.length = atI s k from rfl]
  simp [e]
  refine access_sp h hw ho fun H' h' f => ?_
  obtain ⟨hg, _, hnd, hnp⟩ := h'.ho w o hw ho
  simp [hg, h'.hd]
  refine at_sp h' hw ho hn ?_
  rw [show k.tmod (acc s w (-1002 - atI s k) false).pl.length = atI s k from rfl]
  have hp := h'.hp
  rw [pl_ix (H := H') i0 i1]
  rw [acc_pl, acc_ip] at hp
  have hlt : (atI s k).toNat < s.pl.length := by omega
  simp [hp, hnd, Ne.symm hnd, pl_ld hlt, hg, h'.hd]
  have := hK _ (h'.setO (o' := { o with x := s.pl.getD (atI s k).toNat 0 }) hw ho rfl) (f.trans (.setO hw ho) rfl fun w o' hs => ⟨o', hs, rfl⟩)
  simpa using this
def put (s : S) (w : Nat) (o : O) : S := { s with op := upd s.op w (some o) }
theorem put_self {s : S} {w : Nat} {o : O} (h : s.op w = some o) : put s w o = s := by
  unfold put
  have : upd s.op w (some o) = s.op := by
    funext i
    by_cases hi : i = w
    · subst hi; simp [h]
    · simp [hi]
  rw [this]
def Ph (σ : Sig) (g d w : Nat) (s : S) (o : O) (s' : S) (o' : O) (r : AV) : Prop :=
  o'.id = o.id ∧ o'.nx = o.nx ∧ s'.op = s.op ∧ s'.ip = s.ip ∧ s'.pl.length = s.pl.length ∧
  ∀ {H : Hp} {K : AV → Hp → Prop}, Dq H d s → w < 65 → s.op w = some o → (∀ H', Dq H' d (put s' w o') → Fd d s H H' → K r H') → callK Try.prog σ g [.ptr o.id 0] H K
theorem Dq.putO {H : Hp} {d w : Nat} {s : S} {o o' : O} (h : Dq H d s) (hw : w < 65) (ho : s.op w = some o) (e : o'.id = o.id) : Dq (H.set o.id (some (.cells (opc d w o') true))) d (put s w o') := h.setO hw ho e
theorem ph_push1 {d w : Nat} {s : S} {o : O} : Ph σ n_deque_push1 d w s o (acc s w (-1001) false) { o with b := s.bot } (.fn n_deque_push2 []) := by
  refine ⟨rfl, rfl, rfl, rfl, rfl, fun {H K} h hw ho hK => deque_push1.run (readB_sp h hw ho fun H' h' f => ?_)⟩
  obtain ⟨hg, _, hnd, hnp⟩ := h'.ho w o hw ho
  simp [hg]
  exact hK _ (h'.putO hw ho rfl) (f.tr (.setO hw ho) rfl rfl)
theorem ph_push2 {d w : Nat} {s : S} {o : O} (hb : wr .i64 (o.b - s.top) = o.b - s.top) : Ph σ n_deque_push2 d w s o (acc s w (-1000) false) { o with t := s.top } (if o.b - s.top = s.pl.length then .lit .nilFunc else .fn n_deque_push3 []) := by
  refine ⟨rfl, rfl, rfl, rfl, rfl, fun {H K} h hw ho hK => deque_push2.run (readT_sp h hw ho fun H' h' f => ?_)⟩
  obtain ⟨hg, _, hnd, hnp⟩ := h'.ho w o hw ho
  have hl : (acc s w (-1000) false).pl.length = s.pl.length := rfl
  simp [hg, hb, hnd, Ne.symm hnd, h'.hd, hl]
  have := hK _ (h'.putO (o' := { o with t := s.top }) hw ho rfl) (f.tr (.setO hw ho) rfl rfl)
  split
  · rename_i e; rw [if_pos e] at this; exact this
  · rename_i e; rw [if_neg e] at this; exact this
theorem ph_push3 {d w : Nat} {s : S} {o : O} (h0 : 0 ≤ o.b) (hn : s.pl.length ≠ 0) (hm : s.pl.length ≤ 1000000) : Ph σ n_deque_push3 d w s o { acc s w (-1002 - atI s o.b) true with pl := s.pl.set (atI s o.b).toNat o.x } o (.fn n_deque_push4 []) := by
  refine ⟨rfl, rfl, rfl, rfl, by simp, fun {H K} h hw ho hK => deque_push3.run ?_⟩
  obtain ⟨i0, i1⟩ := at_in h0 hn
  obtain ⟨hg, _, hnd, hnp⟩ := h.ho w o hw ho
  simp [hg]
  refine at_sp h hw ho hn ?_
  rw [show o.b.tmod s.pl.length = atI s o.b from rfl]
  have e : wr .i64 (-1002 - atI s o.b) = -1002 - atI s o.b := wr64 (by omega) (by omega)
  simp [e]
  refine access_sp h hw ho fun H' h' f => ?_
  obtain ⟨hg', _, _, _⟩ := h'.ho w o hw ho
  simp [hg', h'.hd]
  refine at_sp h' hw ho hn ?_
  rw [show o.b.tmod (acc s w (-1002 - atI s o.b) true).pl.length = atI s o.b from rfl]
  have hlt : (atI s o.b).toNat < s.pl.length := by omega
  have hp := h'.hp
  have hdp : d ≠ s.ip := h'.dp
  rw [pl_ix (H := H') i0 i1]
  rw [acc_pl, acc_ip] at hp
  have hlt' : (atI s o.b).toNat < (s.pl.map I).length := by simpa using hlt
  have hlt2 : (atI s o.b).toNat + 1 ≤ s.pl.length := hlt
  simp [hp, hg', hnp, Ne.symm hnp, hnd, Ne.symm hnd, h'.hd, hlt2, hdp, Ne.symm hdp]
  rw [ov_set hlt', ← List.map_set]
  have hset : Dq (H'.set (acc s w (-1002 - atI s o.b) true).ip (some (.cells (((acc s w (-1002 - atI s o.b) true).pl.set (atI s o.b).toNat o.x).map I) true))) d { acc s w (-1002 - atI s o.b) true with pl := s.pl.set (atI s o.b).toNat o.x } := h'.setP (p := s.pl.set (atI s o.b).toNat o.x) (by simp)
  refine hK _ ?_ (f.tr .setP rfl rfl)
  rw [put_self (by exact ho)]
  exact hset
theorem ph_push4 {d w : Nat} {s : S} {o : O} (hb : wr .i64 (o.b + 1) = o.b + 1) : Ph σ n_deque_push4 d w s o { acc s w (-1001) true with bot := o.b + 1 } { o with ok := true } (.lit .nilFunc) := by
  refine ⟨rfl, rfl, rfl, rfl, rfl, fun {H K} h hw ho hK => deque_push4.run ?_⟩
  obtain ⟨hg, _, hnd, hnp⟩ := h.ho w o hw ho
  simp [hg, hb]
  refine writeB_sp h hw ho fun H' h' f => ?_
  obtain ⟨hg', _, _, _⟩ := h'.ho w o hw ho
  simp [hg']
  exact hK _ (h'.putO hw ho rfl) (f.tr (.setO hw ho) rfl rfl)
theorem ph_pop1 {d w : Nat} {s : S} {o : O} (hb : wr .i64 (s.bot - 1) = s.bot - 1) : Ph σ n_deque_pop1 d w s o (acc s w (-1001) false) { o with b := s.bot - 1 } (.fn n_deque_pop2 []) := by
  refine ⟨rfl, rfl, rfl, rfl, rfl, fun {H K} h hw ho hK => deque_pop1.run (readB_sp h hw ho fun H' h' f => ?_)⟩
  obtain ⟨hg, _, hnd, hnp⟩ := h'.ho w o hw ho
  simp [hg, hb]
  exact hK _ (h'.putO hw ho rfl) (f.tr (.setO hw ho) rfl rfl)
theorem ph_pop2 {d w : Nat} {s : S} {o : O} : Ph σ n_deque_pop2 d w s o { acc s w (-1001) true with bot := o.b } o (.fn n_deque_pop3 []) := by
  refine ⟨rfl, rfl, rfl, rfl, rfl, fun {H K} h hw ho hK => deque_pop2.run ?_⟩
  obtain ⟨hg, _, hnd, hnp⟩ := h.ho w o hw ho
  simp [hg]
  refine writeB_sp h hw ho fun H' h' f => hK _ ?_ f
  rw [put_self (by exact ho)]
  exact h'
theorem ph_pop3 {d w : Nat} {s : S} {o : O} : Ph σ n_deque_pop3 d w s o (acc s w (-1000) false) { o with t := s.top } (if o.b < s.top then .fn n_deque_pop6 [] else .fn n_deque_pop4 []) := by
  refine ⟨rfl, rfl, rfl, rfl, rfl, fun {H K} h hw ho hK => deque_pop3.run (readT_sp h hw ho fun H' h' f => ?_)⟩
  obtain ⟨hg, _, hnd, hnp⟩ := h'.ho w o hw ho
  simp [hg]
  have := hK _ (h'.putO (o' := { o with t := s.top }) hw ho rfl) (f.tr (.setO hw ho) rfl rfl)
  split
  · rename_i e; rw [if_pos e] at this; exact this
  · rename_i e; rw [if_neg e] at this; exact this
theorem upd_upd (f : Nat → Option O) (w : Nat) (a b : Option O) : upd (upd f w a) w b = upd f w b := by
  funext i
  by_cases h : i = w
  · subst h; simp
  · simp [h]
theorem ph_pop4 {d w : Nat} {s : S} {o : O} (h0 : 0 ≤ o.b) (hn : s.pl.length ≠ 0) (hm : s.pl.length ≤ 1000000) : Ph σ n_deque_pop4 d w s o (acc s w (-1002 - atI s o.b) false) { o with x := s.pl.getD (atI s o.b).toNat 0, ok := if o.t < o.b then true else o.ok } (if o.t < o.b then .lit .nilFunc else .fn n_deque_pop5 []) := by
  refine ⟨rfl, rfl, rfl, rfl, rfl, fun {H K} h hw ho hK => deque_pop4.run ?_⟩
  obtain ⟨hg, _, hnd, hnp⟩ := h.ho w o hw ho
  simp [hg]
  refine read_sp h hw ho h0 hn hm fun H' h' f => ?_
  obtain ⟨hg', _, _, _⟩ := h'.ho w _ hw (upd_same _ _ _)
  simp only at hg'
  simp [hg']
  split
  · rename_i e
    simp only [e, if_true] at hK
    have := hK _ (by
      have := h'.putO (o' := { o with x := s.pl.getD (atI s o.b).toNat 0, ok := true }) hw (upd_same _ _ _) rfl
      simp only [put, upd_upd] at this
      exact this) (f.tr (.setO hw ho) rfl rfl)
    simpa using this
  · rename_i e
    simp only [e, if_false] at hK
    exact hK _ h' f
theorem ph_pop5 {d w : Nat} {s : S} {o : O} (hb : wr .i64 (s.top + 1) = s.top + 1) : Ph σ n_deque_pop5 d w s o { acc s w (-1000) true with top := if s.top = o.t then s.top + 1 else s.top } { o with ok := decide (s.top = o.t) } (.fn n_deque_pop6 []) := by
  refine ⟨rfl, rfl, rfl, rfl, rfl, fun {H K} h hw ho hK => deque_pop5.run ?_⟩
  refine take_sp h hw ho hb fun H' h' f => ?_
  obtain ⟨hg', _, _, _⟩ := h'.ho w o hw ho
  simp [hg']
  exact hK _ (h'.putO hw ho rfl) (f.tr (.setO hw ho) rfl rfl)
theorem ph_pop6 {d w : Nat} {s : S} {o : O} (hb : wr .i64 (o.b + 1) = o.b + 1) : Ph σ n_deque_pop6 d w s o { acc s w (-1001) true with bot := o.b + 1 } o (.lit .nilFunc) := by
  refine ⟨rfl, rfl, rfl, rfl, rfl, fun {H K} h hw ho hK => deque_pop6.run ?_⟩
  obtain ⟨hg, _, hnd, hnp⟩ := h.ho w o hw ho
  simp [hg, hb]
  refine writeB_sp h hw ho fun H' h' f => hK _ ?_ f
  rw [put_self (by exact ho)]
  exact h'
theorem ph_steal1 {d w : Nat} {s : S} {o : O} : Ph σ n_deque_steal1 d w s o (acc s w (-1000) false) { o with t := s.top } (.fn n_deque_steal2 []) := by
  refine ⟨rfl, rfl, rfl, rfl, rfl, fun {H K} h hw ho hK => deque_steal1.run (readT_sp h hw ho fun H' h' f => ?_)⟩
  obtain ⟨hg, _, hnd, hnp⟩ := h'.ho w o hw ho
  simp [hg]
  exact hK _ (h'.putO hw ho rfl) (f.tr (.setO hw ho) rfl rfl)
theorem ph_steal2 {d w : Nat} {s : S} {o : O} : Ph σ n_deque_steal2 d w s o (acc s w (-1001) false) { o with b := s.bot } (if s.bot ≤ o.t then .lit .nilFunc else .fn n_deque_steal3 []) := by
  refine ⟨rfl, rfl, rfl, rfl, rfl, fun {H K} h hw ho hK => deque_steal2.run (readB_sp h hw ho fun H' h' f => ?_)⟩
  obtain ⟨hg, _, hnd, hnp⟩ := h'.ho w o hw ho
  simp [hg]
  have := hK _ (h'.putO (o' := { o with b := s.bot }) hw ho rfl) (f.tr (.setO hw ho) rfl rfl)
  split
  · rename_i e; rw [if_pos e] at this; exact this
  · rename_i e; rw [if_neg e] at this; exact this
theorem ph_steal3 {d w : Nat} {s : S} {o : O} (h0 : 0 ≤ o.t) (hn : s.pl.length ≠ 0) (hm : s.pl.length ≤ 1000000) : Ph σ n_deque_steal3 d w s o (acc s w (-1002 - atI s o.t) false) { o with x := s.pl.getD (atI s o.t).toNat 0 } (.fn n_deque_steal4 []) := by
  refine ⟨rfl, rfl, rfl, rfl, rfl, fun {H K} h hw ho hK => deque_steal3.run ?_⟩
  obtain ⟨hg, _, hnd, hnp⟩ := h.ho w o hw ho
  simp [hg]
  exact read_sp h hw ho h0 hn hm fun H' h' f => hK _ h' f
theorem ph_steal4 {d w : Nat} {s : S} {o : O} (hb : wr .i64 (s.top + 1) = s.top + 1) : Ph σ n_deque_steal4 d w s o { acc s w (-1000) true with top := if s.top = o.t then s.top + 1 else s.top } { o with ok := decide (s.top = o.t) } (.lit .nilFunc) := by
  refine ⟨rfl, rfl, rfl, rfl, rfl, fun {H K} h hw ho hK => deque_steal4.run ?_⟩
  refine take_sp h hw ho hb fun H' h' f => ?_
  obtain ⟨hg', _, _, _⟩ := h'.ho w o hw ho
  simp [hg']
  exact hK _ (h'.putO hw ho rfl) (f.tr (.setO hw ho) rfl rfl)
end Go.Proofs.Ytnloolhaojoimaa.Ev
namespace Go.Proofs.Ytnloolhaojoimaa.Ev
set_option linter.unusedVariables false
set_option linter.unusedSimpArgs false
variable {σ : Sig}
theorem ix65 {w : Nat} (h : w < 65) (x : AV) : ixaArr 65 1 x (I w) = shiftA x w := by
  unfold ixaArr
  have h1 : (0 : Int) ≤ w := by omega
  have h2 : (w : Int) < 65 := by omega
  simp [intA, h2]
theorem ld_op {H : Hp} {d w : Nat} {s : S} (h : Dq H d s) (hw : w < 65) : ldO false 1 (3 + w) (H.get d) = some (encO (s.op w)) := by
  rw [h.hd]; exact dq_op s hw
theorem Busy_sp {H : Hp} {d : Nat} {s : S} {w : Int} {K : AV → Hp → Prop} (h : Dq H d s) (hK : K (Bo (decide (0 ≤ w) && (decide (w ≤ 64) && (s.op w.toNat).isSome))) H) : callK Try.prog σ n_deque_Deque_Busy [.ptr d 0, I w] H K := by
  refine deque_Deque_Busy.run ?_
  simp
  by_cases h0 : 0 ≤ w
  · by_cases h1 : w ≤ 64
    · obtain ⟨k, rfl⟩ : ∃ k : Nat, w = k := ⟨w.toNat, by omega⟩
      have hk : k < 65 := by omega
      simp only [h0, h1, if_true, decide_true, Bool.true_and, Int.toNat_natCast] at hK ⊢
      rw [ix65 hk]
      simp [ld_op h hk]
      cases hs : s.op k with
      | none => simp [encO]; rw [hs] at hK; exact hK
      | some o => simp [encO]; rw [hs] at hK; exact hK
    · simp only [h0, h1, if_true, if_false, decide_true, decide_false, Bool.true_and, Bool.false_and] at hK ⊢; exact hK
  · simp only [h0, if_false, decide_false, Bool.false_and] at hK ⊢; exact hK
theorem Len_sp {H : Hp} {d : Nat} {s : S} {K : AV → Hp → Prop} (h : Dq H d s) (hb : wr .i64 (s.bot - s.top) = s.bot - s.top) (hK : K (I (if 0 < s.bot - s.top then s.bot - s.top else 0)) H) : callK Try.prog σ n_deque_Deque_Len [.ptr d 0] H K := by
  refine deque_Deque_Len.run ?_
  simp [h.hd, hb, maxA, toI, maxStep]
  by_cases e : 0 < s.bot - s.top
  · have e2 : ¬ s.bot - s.top < 0 := by omega
    simp_all
  · simp_all
theorem Step_no {H : Hp} {d : Nat} {s : S} {w : Int} {K : AV → Hp → Prop} (h : Dq H d s) (hb : (decide (0 ≤ w) && (decide (w ≤ 64) && (s.op w.toNat).isSome)) = false) (hK : K (.tup [Bo false, I 0, Bo false]) H) : callK Try.prog σ n_deque_Deque_Step [.ptr d 0, I w] H K := by
  refine deque_Deque_Step.run (Busy_sp h ?_)
  rw [hb]
  simpa using hK
theorem Dq.clr {H : Hp} {d w : Nat} {s : S} (h : Dq H d s) (hw : w < 65) : Dq (H.set d (some (.cells (dqc { s with op := upd s.op w none }) true))) d { s with op := upd s.op w none } := by
  refine ⟨by simp, ?_, ?_, ?_, by simpa using h.dl, by simpa using h.pl, h.dp⟩
  · simp [Ne.symm h.dp]; exact h.hp
  · intro w2 o hw2 ho
    by_cases e : w2 = w
    · subst e; simp at ho
    · simp [e] at ho
      obtain ⟨a, b, c, f⟩ := h.ho w2 o hw2 ho
      exact ⟨by simp [c]; exact a, by simpa using b, c, f⟩
  · intro w1 w2 o1 o2 hw1 hw2 h1 h2 he
    have k : ∀ w1 o1, upd s.op w none w1 = some o1 → s.op w1 = some o1 := by
      intro w1 o1 h1
      by_cases e : w1 = w
      · subst e; simp at h1
      · simpa [e] using h1
    exact h.hi w1 w2 o1 o2 hw1 hw2 (k _ _ h1) (k _ _ h2) he
theorem Step_pre {H : Hp} {d w g : Nat} {s : S} {o : O} {K : AV → Hp → Prop} (h : Dq H d s) (hw : w < 65) (ho : s.op w = some o) (hx : o.nx = .fn g []) {s' : S} {o' : O} {r : AV} (hp : Ph σ g d w s o s' o' r)
    (hr : stA 1 = stA 1 → ∀ H1 : Hp, Dq H1 d (put s' w o') → Fd d s H H1 → (bnd (stA 1 H1 (.ptr o.id 6) r) fun H15 => bnd (ldO false 1 6 (H15.get o.id)) fun x18 => bnd (eqFnR .neq x18 (.lit (.nilFunc))) fun x19 => ifB x19 (K (.tup [(Bo false), (I 0), (Bo false)]) H15) (bnd (stA 1 H15 (.ptr d (3 + w)) (.lit (.pointer none))) fun H23 => bnd (ldO false 1 5 (H23.get o.id)) fun x26 => bnd (unR .not x26) fun x27 => ifB x27 (K (.tup [(Bo true), (I 0), (Bo false)]) H23) (bnd (ldO false 1 2 (H23.get o.id)) fun x30 => K (.tup [(Bo true), x30, (Bo true)]) H23)))) :
    callK Try.prog σ n_deque_Deque_Step [.ptr d 0, I w] H K := by
  refine deque_Deque_Step.run (Busy_sp h ?_)
  have h0 : (0 : Int) ≤ w := by omega
  have h1 : (w : Int) ≤ 64 := by omega
  obtain ⟨hg, _, hnd, hnp⟩ := h.ho w o hw ho
  simp [h0, h1, ho, ix65 hw, ld_op h hw, encO, hg, hx]
  refine hp.2.2.2.2.2 h hw ho fun H1 hq f => ?_
  have t := hr rfl H1 hq f
  simpa using t
theorem Step_fn {H : Hp} {d w g g2 : Nat} {s : S} {o : O} {K : AV → Hp → Prop} (h : Dq H d s) (hw : w < 65) (ho : s.op w = some o) (hx : o.nx = .fn g []) {s' : S} {o' : O} (hp : Ph σ g d w s o s' o' (.fn g2 []))
    (hK : ∀ H', Dq H' d (put s' w { o' with nx := .fn g2 [] }) → Fd d s H H' → K (.tup [Bo false, I 0, Bo false]) H') : callK Try.prog σ n_deque_Deque_Step [.ptr d 0, I w] H K := by
  refine Step_pre h hw ho hx hp fun _ H1 hq f => ?_
  obtain ⟨e1, e2, e3, e4, e5, _⟩ := hp
  obtain ⟨hg, _, hnd, hnp⟩ := hq.ho w o' hw (upd_same _ _ _)
  rw [e1] at hg
  simp [hg]
  refine hK _ ?_ ?_
  · have := hq.putO (o' := { o' with nx := .fn g2 [] }) hw (upd_same _ _ _) rfl
    rw [← e1]
    simp only [put, upd_upd] at this ⊢
    exact this
  · exact f.tr (.setO hw ho) rfl rfl
theorem Step_nil {H : Hp} {d w g : Nat} {s : S} {o : O} {K : AV → Hp → Prop} (h : Dq H d s) (hw : w < 65) (ho : s.op w = some o) (hx : o.nx = .fn g []) {s' : S} {o' : O} (hp : Ph σ g d w s o s' o' (.lit .nilFunc))
    (hK : ∀ H', Dq H' d { s' with op := upd s.op w none } → Fd d s H H' → K (.tup [Bo true, I (if o'.ok = true then o'.x else 0), Bo o'.ok]) H') : callK Try.prog σ n_deque_Deque_Step [.ptr d 0, I w] H K := by
  refine Step_pre h hw ho hx hp fun _ H1 hq f => ?_
  obtain ⟨e1, e2, e3, e4, e5, _⟩ := hp
  obtain ⟨hg, _, hnd, hnp⟩ := hq.ho w o' hw (upd_same _ _ _)
  rw [e1] at hg hnd
  have h1 : Dq (H1.set o.id (some (.cells (opc d w { o' with nx := .lit .nilFunc }) true))) d (put (put s' w o') w { o' with nx := .lit .nilFunc }) := by
    rw [← e1]
    exact hq.putO (o' := { o' with nx := .lit .nilFunc }) hw (upd_same _ _ _) rfl
  have h2 := h1.clr hw
  have hl : 3 + w < 72 := by omega
  have hl2 : 3 + w + 1 ≤ 72 := by omega
  have ov := dq_sop (put (put s' w o') w { o' with nx := .lit .nilFunc }) hw none
  simp only [encO] at ov
  have hd1 := h1.hd
  simp only [hp_get_set, Ne.symm hnd, if_false] at hd1
  have eop : (put (put s' w o') w { o' with nx := .lit .nilFunc }) = put s' w { o' with nx := .lit .nilFunc } := by simp [put, upd_upd]
  have eS : { put (put s' w o') w { o' with nx := .lit .nilFunc } with op := upd (put (put s' w o') w { o' with nx := .lit .nilFunc }).op w none } = { s' with op := upd s.op w none } := by simp [put, upd_upd, e3]
  rw [eS] at h2 ov
  simp [hg, hnd, Ne.symm hnd, hd1, hl2, ov]
  have k := hK _ h2 (f.trans ((Fd.setO hw ho).trans .setD rfl fun w o hs => ⟨o, hs, rfl⟩) rfl fun w o hs => ⟨o, hs, rfl⟩)
  cases hok : o'.ok
  · simp [hok] at k ⊢; exact k
  · simp [hok] at k ⊢; exact k
def stepsF (w : Int) (k : Int) : Option Nat := if k = 1 ∧ w = 0 then some n_deque_push1 else if k = 2 ∧ w = 0 then some n_deque_pop1 else if k = 3 ∧ 0 < w then some n_deque_steal1 else none
def fnO : Option Nat → AV
  | some g => .fn g []
  | none => .lit .nilFunc
theorem steps_sp {H : Hp} {w k : Int} {K : AV → Hp → Prop} (hK : K (fnO (stepsF w k)) H) : callK Try.prog σ n_deque_steps [I w, I k] H K := by
  refine deque_steps.run ?_
  unfold stepsF at hK
  by_cases k1 : k = 1
  · subst k1
    by_cases w0 : w = 0
    · simp [w0] at hK ⊢; exact hK
    · simp [w0] at hK ⊢; exact hK
  · by_cases k2 : k = 2
    · subst k2
      by_cases w0 : w = 0
      · simp [w0] at hK ⊢; exact hK
      · simp [w0] at hK ⊢; exact hK
    · by_cases k3 : k = 3
      · subst k3
        by_cases w0 : 0 < w
        · simp [w0] at hK ⊢; exact hK
        · simp [w0] at hK ⊢; exact hK
      · simp [k1, k2, k3] at hK ⊢; exact hK
theorem Begin_no {H : Hp} {d : Nat} {s : S} {w k x : Int} {K : AV → Hp → Prop} (h : Dq H d s) (hb : w < 0 ∨ 64 < w ∨ (s.op w.toNat).isSome ∨ stepsF w k = none) (hK : K (I 1) H) : callK Try.prog σ n_deque_Deque_Begin [.ptr d 0, I w, I k, I x] H K := by
  refine deque_Deque_Begin.run ?_
  simp
  by_cases h0 : w < 0
  · simp [h0]; exact hK
  by_cases h1 : 64 < w
  · simp [h0, h1]; exact hK
  obtain ⟨n, rfl⟩ : ∃ k : Nat, w = k := ⟨w.toNat, by omega⟩
  have hn : n < 65 := by omega
  simp only [h0, h1, if_false]
  rw [ix65 hn]
  simp [ld_op h hn]
  cases hs : s.op n with
  | some o => simp [encO]; exact hK
  | none =>
    simp [encO]
    refine steps_sp ?_
    have : stepsF n k = none := by
      rcases hb with h | h | h | h
      · omega
      · omega
      · simp [hs] at h
      · exact h
    rw [this]
    simp [fnO]
    exact hK
theorem Begin_go {H : Hp} {d w g : Nat} {s : S} {k x : Int} {K : AV → Hp → Prop} (h : Dq H d s) (hw : w < 65) (ho : s.op w = none) (hg : stepsF w k = some g)
    (hK : ∀ H', Dq H' d (put s w ⟨H.n, x, 0, 0, false, .fn g []⟩) → H'.n = H.n + 1 → (∀ j, j < H.n → j ≠ d → H'.get j = H.get j) → K (I 0) H') : callK Try.prog σ n_deque_Deque_Begin [.ptr d 0, I w, I k, I x] H K := by
  refine deque_Deque_Begin.run ?_
  have h0 : ¬ (w : Int) < 0 := by omega
  have h1 : ¬ (64 : Int) < w := by omega
  simp [h0, h1, ix65 hw, ld_op h hw, ho, encO]
  refine steps_sp ?_
  rw [hg]
  simp [fnO]
  refine steps_sp ?_
  rw [hg]
  have hdn : d ≠ H.n := Nat.ne_of_lt h.dl
  have hl : 3 + w + 1 ≤ 72 := by omega
  have ov := dq_sop s hw (some ⟨H.n, x, 0, 0, false, .fn g []⟩)
  simp only [encO] at ov
  have bl : bldR [.lit (.pointer none), I 0, I 0, I 0, I 0, .lit (.bool false), .lit (.nilFunc)] [(0, 1, .ptr d 0), (1, 1, I w), (2, 1, I x), (6, 1, .fn g [])] = some (opc d w ⟨H.n, x, 0, 0, false, .fn g []⟩) := rfl
  simp [fnO, bl, ix65 hw, hdn, h.hd, hl, ov]
  refine hK _ ?_ (by simp) ?_
  · refine ⟨by simp; rfl, ?_, ?_, ?_, by simp; exact Nat.lt_succ_of_lt h.dl, by simp; exact Nat.lt_succ_of_lt h.pl, h.dp⟩
    · have : s.ip ≠ H.n := Nat.ne_of_lt h.pl
      show _ = some (Blk.cells (s.pl.map I) true)
      simp [put, Ne.symm h.dp, this]; exact h.hp
    · intro w2 o hw2 ho2
      by_cases e : w2 = w
      · subst e
        simp [put] at ho2
        subst ho2
        refine ⟨?_, ?_, Ne.symm hdn, ?_⟩
        · simp [Ne.symm hdn]
        · simp
        · exact fun e => Nat.lt_irrefl _ (e ▸ h.pl)
      · simp [put, e] at ho2
        obtain ⟨a, b, c, f⟩ := h.ho w2 o hw2 ho2
        have : o.id ≠ H.n := Nat.ne_of_lt b
        refine ⟨?_, ?_, c, f⟩
        · simp [c, this]; exact a
        · simp; exact Nat.lt_succ_of_lt b
    · intro w1 w2 o1 o2 hw1 hw2 h1 h2 he
      by_cases e1 : w1 = w
      · by_cases e2 : w2 = w
        · rw [e1, e2]
        · subst e1
          simp [put] at h1
          simp [put, e2] at h2
          have := (h.ho w2 o2 hw2 h2).2.1
          subst h1
          simp at he
          omega
      · by_cases e2 : w2 = w
        · subst e2
          simp [put] at h2
          simp [put, e1] at h1
          have := (h.ho w1 o1 hw1 h1).2.1
          subst h2
          simp at he
          omega
        · simp [put, e1] at h1
          simp [put, e2] at h2
          exact h.hi w1 w2 o1 o2 hw1 hw2 h1 h2 he
  · intro j hj hjd
    have : j ≠ H.n := Nat.ne_of_lt hj
    simp [hjd, this]
def s0 (ip n : Nat) : S := ⟨ip, List.replicate n 0, 0, 0, fun _ => none, 0, 0, false, false⟩
theorem zrow0 (n : Nat) : zrow [.int .i64 0] n = (List.replicate n (0 : Int)).map I := by
  unfold zrow
  apply List.ext_getElem
  · simp
  · intro i h1 h2
    simp [Nat.mod_one]
theorem New_sp {H : Hp} {n : Int} {K : AV → Hp → Prop} (h1 : 1 ≤ n) (h2 : n ≤ 1000) (hK : ∀ H', Dq H' (H.n + 1) (s0 H.n n.toNat) → H'.n = H.n + 2 → (∀ j, j < H.n → H'.get j = H.get j) → K (.ptr (H.n + 1) 0) H') : callK Try.prog σ n_deque_New [I n] H K := by
  refine deque_New.run ?_
  have e1 : maxA [I 1, I n] = some (I n) := by
    simp [maxA, toI, maxStep]; omega
  have e2 : minA [I n, I 1024] = some (I n) := by
    simp [minA, toI, minStep]; omega
  have e3 : mkSlR [.int .i64 0] 1 8 H (I n) (I n) = some (.sl H.n 0 1 n.toNat (some n.toNat), H.new (.cells (zrow [.int .i64 0] (n.toNat * 1)) true)) := by
    have a : (0 : Int) ≤ n := by omega
    have b : Nat.ble n.toNat 9223372036854775807 = true := Nat.ble_eq_true_of_le (by omega)
    have c : Nat.ble (8 * n.toNat) 281474976710656 = true := Nat.ble_eq_true_of_le (by omega)
    simp [mkSlR, intA, a, b, c]
  simp only [e1, e2, e3, bnd_some]
  have e4 : ∀ x : AV, x.cells = [x] → x.isAny = false → bldR (AV.lit (.slice none 0 0) :: I 0 :: I 0 :: (opl (fun _ => none) ++ [I 0, I 0, Bo false, Bo false])) [(0, 1, x)] = some (x :: I 0 :: I 0 :: (opl (fun _ => none) ++ [I 0, I 0, Bo false, Bo false])) := by
    intro x hx ha
    simp [bldR, hx, ha, beqN, bleN]
  have e5 := e4 (.sl H.n 0 1 n.toNat (some n.toNat)) rfl rfl
  have e6 : opl (fun _ => none) = List.replicate 65 (AV.lit (.pointer none)) := rfl
  rw [e6] at e5
  simp only [List.replicate] at e5
  erw [e5]
  simp only [bnd_some, boxK_agg]
  have hn : (H.new (Blk.cells (zrow [.int .i64 0] (n.toNat * 1)) true)).n = H.n + 1 := by simp
  rw [hn]
  refine hK _ ?_ (by simp) ?_
  · refine ⟨?_, ?_, ?_, ?_, by simp, by simp [s0]; omega, by simp [s0]⟩
    · simp [dqc, hdc, lsc, s0]; rfl
    · simp [s0, zrow0]
    · intro w o _ ho; simp [s0] at ho
    · intro w _ o _ _ _ ho; simp [s0] at ho
  · intro j hj
    have a : j ≠ H.n := by omega
    have b : j ≠ H.n + 1 := by omega
    simp [a, b]
end Go.Proofs.Ytnloolhaojoimaa.Ev
namespace Go.Proofs.Ytnloolhaojoimaa.Ev
set_option linter.unusedVariables false
set_option linter.unusedSimpArgs false
variable {σ : Sig}
structure Fw (H0 : Hp) (d ip : Nat) (H : Hp) : Prop where
  n : H0.n ≤ H.n
  g : ∀ j, j < H0.n → j ≠ d → j ≠ ip → H.get j = H0.get j
theorem Fw.refl {H : Hp} {d ip : Nat} : Fw H d ip H := ⟨Nat.le_refl _, fun _ _ _ _ => rfl⟩
theorem Fw.trans {H0 H1 H2 : Hp} {d ip : Nat} (h : Fw H0 d ip H1) (h' : Fw H1 d ip H2) : Fw H0 d ip H2 :=
  ⟨Nat.le_trans h.n h'.n, fun j hj a b => (h'.g j (Nat.lt_of_lt_of_le hj h.n) a b).trans (h.g j hj a b)⟩
theorem Fw.fd {H0 H H' : Hp} {d : Nat} {s : S} (F : Fw H0 d s.ip H) (hop : ∀ w o, w < 65 → s.op w = some o → H0.n ≤ o.id) (f : Fd d s H H') : Fw H0 d s.ip H' :=
  ⟨by rw [f.n]; exact F.n, fun j hj a b => (f.g j a b fun w o hw ho => Nat.ne_of_lt (Nat.lt_of_lt_of_le hj (hop w o hw ho))).trans (F.g j hj a b)⟩
def noop : Nat → Option O := fun _ => none
def QS (ip : Nat) (pl : List Int) (top bot : Int) (lw lc : Int) (lr la : Bool) : S := ⟨ip, pl, top, bot, noop, lw, lc, lr, la⟩
def Q (H : Hp) (d ip : Nat) (pl : List Int) (top bot : Int) : Prop := ∃ lw lc lr la, Dq H d (QS ip pl top bot lw lc lr la)
theorem hop_upd {H0 : Hp} {w : Nat} {o : O} (h : H0.n ≤ o.id) : ∀ w2 o2, w2 < 65 → upd noop w (some o) w2 = some o2 → H0.n ≤ o2.id := by
  intro w2 o2 _ h2
  by_cases e : w2 = w
  · subst e; simp at h2; subst h2; exact h
  · simp [e, noop] at h2
section
attribute [local irreducible] law20_whole.L0
theorem W_fn {H0 H : Hp} {d w g g2 : Nat} {s s' : S} {o o' : O} {i : Int} {K : AV → Hp → Prop} (hp : Ph σ g d w s o s' o' (.fn g2 [])) (F : Fw H0 d s.ip H) (hop : ∀ w o, w < 65 → s.op w = some o → H0.n ≤ o.id) (h : Dq H d s) (hw : w < 65) (ho : s.op w = some o) (hx : o.nx = .fn g []) (hi : 0 ≤ i ∧ i < 9)
    (hK : ∀ H', Dq H' d (put s' w { o' with nx := .fn g2 [] }) → Fw H0 d s.ip H' → law20_whole.L0 σ K (.ptr d 0) (I w) (I (i + 1)) H') : law20_whole.L0 σ K (.ptr d 0) (I w) (I i) H := by
  refine law20_whole.L0_step ?_
  have h10 : i < 10 := by omega
  simp [h10]
  refine Step_fn h hw ho hx hp fun H' hq f => ?_
  simp
  rw [wr64 (by omega) (by omega)]
  exact hK H' hq (F.fd hop f)
theorem W_nil {H0 H : Hp} {d w g : Nat} {s s' : S} {o o' : O} {i : Int} {K : AV → Hp → Prop} (hp : Ph σ g d w s o s' o' (.lit .nilFunc)) (F : Fw H0 d s.ip H) (hop : ∀ w o, w < 65 → s.op w = some o → H0.n ≤ o.id) (h : Dq H d s) (hw : w < 65) (ho : s.op w = some o) (hx : o.nx = .fn g []) (hi : 0 ≤ i ∧ i < 10)
    (hK : ∀ H', Dq H' d { s' with op := upd s.op w none } → Fw H0 d s.ip H' → K (.tup [I (if o'.ok = true then o'.x else 0), Bo o'.ok]) H') : law20_whole.L0 σ K (.ptr d 0) (I w) (I i) H := by
  refine law20_whole.L0_step ?_
  have h10 : i < 10 := by omega
  simp [h10]
  refine Step_nil h hw ho hx hp fun H' hq f => ?_
  simp
  exact hK H' hq (F.fd hop f)
theorem clr_noop {w : Nat} {o : O} : upd (upd noop w (some o)) w none = noop := by
  funext i
  by_cases h : i = w
  · subst h; simp [noop]
  · simp [h, noop]
def PQ (H : Hp) (d ip : Nat) (pl : List Int) (top bot : Int) (w : Nat) (o : O) : Prop := ∃ lw lc lr la, Dq H d ⟨ip, pl, top, bot, upd noop w (some o), lw, lc, lr, la⟩
def Ph1 (σ : Sig) (g d w ip : Nat) (pl : List Int) (top bot : Int) (o : O) (pl' : List Int) (top' bot' : Int) (o' : O) (r : AV) : Prop :=
  ∀ lw lc lr la, ∃ lw' lc' lr' la', Ph σ g d w ⟨ip, pl, top, bot, upd noop w (some o), lw, lc, lr, la⟩ o ⟨ip, pl', top', bot', upd noop w (some o), lw', lc', lr', la'⟩ o' r
theorem WF {H0 H : Hp} {d w ip g g2 : Nat} {pl pl' : List Int} {top bot top' bot' : Int} {o o' : O} {i : Int} {K : AV → Hp → Prop} (hp : Ph1 σ g d w ip pl top bot o pl' top' bot' o' (.fn g2 [])) (F : Fw H0 d ip H) (hid : H0.n ≤ o.id) (h : PQ H d ip pl top bot w o) (hw : w < 65) (hx : o.nx = .fn g []) (hi : 0 ≤ i ∧ i < 9)
    (hK : ∀ H', PQ H' d ip pl' top' bot' w { o' with nx := .fn g2 [] } → Fw H0 d ip H' → law20_whole.L0 σ K (.ptr d 0) (I w) (I (i + 1)) H') : law20_whole.L0 σ K (.ptr d 0) (I w) (I i) H := by
  obtain ⟨lw, lc, lr, la, h⟩ := h
  obtain ⟨lw', lc', lr', la', hp⟩ := hp lw lc lr la
  refine W_fn hp F (hop_upd hid) h hw (upd_same _ _ _) hx hi fun H' h' F' => hK H' ⟨lw', lc', lr', la', ?_⟩ F'
  have := h'
  simp only [put, upd_upd] at this
  exact this
theorem WN {H0 H : Hp} {d w ip g : Nat} {pl pl' : List Int} {top bot top' bot' : Int} {o o' : O} {i : Int} {K : AV → Hp → Prop} (hp : Ph1 σ g d w ip pl top bot o pl' top' bot' o' (.lit .nilFunc)) (F : Fw H0 d ip H) (hid : H0.n ≤ o.id) (h : PQ H d ip pl top bot w o) (hw : w < 65) (hx : o.nx = .fn g []) (hi : 0 ≤ i ∧ i < 10)
    (hK : ∀ H', Q H' d ip pl' top' bot' → Fw H0 d ip H' → K (.tup [I (if o'.ok = true then o'.x else 0), Bo o'.ok]) H') : law20_whole.L0 σ K (.ptr d 0) (I w) (I i) H := by
  obtain ⟨lw, lc, lr, la, h⟩ := h
  obtain ⟨lw', lc', lr', la', hp⟩ := hp lw lc lr la
  refine W_nil hp F (hop_upd hid) h hw (upd_same _ _ _) hx hi fun H' h' F' => hK H' ⟨lw', lc', lr', la', ?_⟩ F'
  have := h'
  simp only [clr_noop] at this
  exact this
theorem W_begin {H0 : Hp} {d w g : Nat} {ip : Nat} {pl : List Int} {top bot k x : Int} {K : AV → Hp → Prop} (h : Q H0 d ip pl top bot) (hw : w < 65) (hg : stepsF w k = some g)
    (hK : ∀ H, PQ H d ip pl top bot w ⟨H0.n, x, 0, 0, false, .fn g []⟩ → Fw H0 d ip H → law20_whole.L0 σ K (.ptr d 0) (I w) (I 0) H) : callK Try.prog σ n_law20_whole [.ptr d 0, I w, I k, I x] H0 K := by
  obtain ⟨lw, lc, lr, la, h⟩ := h
  refine law20_whole.run (Begin_go h hw rfl hg fun H' hq hn hf => ?_)
  exact hK H' ⟨lw, lc, lr, la, hq⟩ ⟨by omega, fun j hj a _ => hf j hj a⟩
def pix (pl : List Int) (k : Int) : Nat := (k.tmod pl.length).toNat
section
variable {d w ip : Nat} {pl : List Int} {top bot : Int} {o : O}
theorem p_push1 : Ph1 σ n_deque_push1 d w ip pl top bot o pl top bot { o with b := bot } (.fn n_deque_push2 []) := fun _ _ _ _ => ⟨_, _, _, _, ph_push1⟩
theorem p_push2 (hb : wr .i64 (o.b - top) = o.b - top) : Ph1 σ n_deque_push2 d w ip pl top bot o pl top bot { o with t := top } (if o.b - top = pl.length then .lit .nilFunc else .fn n_deque_push3 []) := fun _ _ _ _ => ⟨_, _, _, _, ph_push2 hb⟩
theorem p_push3 (h0 : 0 ≤ o.b) (hn : pl.length ≠ 0) (hm : pl.length ≤ 1000000) : Ph1 σ n_deque_push3 d w ip pl top bot o (pl.set (pix pl o.b) o.x) top bot o (.fn n_deque_push4 []) := fun _ _ _ _ => ⟨_, _, _, _, ph_push3 h0 hn hm⟩
theorem p_push4 (hb : wr .i64 (o.b + 1) = o.b + 1) : Ph1 σ n_deque_push4 d w ip pl top bot o pl top (o.b + 1) { o with ok := true } (.lit .nilFunc) := fun _ _ _ _ => ⟨_, _, _, _, ph_push4 hb⟩
end
section
variable {H0 : Hp} {d ip : Nat} {pl : List Int} {top bot x : Int} {K : AV → Hp → Prop}
theorem push_room (h : Q H0 d ip pl top bot) (ht : 0 ≤ top ∧ top ≤ bot ∧ bot ≤ 1000000) (hf : bot - top ≠ pl.length) (hn : pl.length ≠ 0) (hm : pl.length ≤ 1000000)
    (hK : ∀ H, Q H d ip (pl.set (pix pl bot) x) top (bot + 1) → Fw H0 d ip H → K (.tup [I x, Bo true]) H) : callK Try.prog σ n_law20_whole [.ptr d 0, I 0, I 1, I x] H0 K := by
  refine W_begin (w := 0) h (by omega) rfl fun H h1 F1 => ?_
  refine WF p_push1 F1 (Nat.le_refl _) h1 (by omega) rfl (by omega) fun H2 h2 F2 => ?_
  have p2 := p_push2 (σ := σ) (d := d) (w := 0) (ip := ip) (pl := pl) (top := top) (bot := bot) (o := ⟨H0.n, x, 0, bot, false, .fn n_deque_push2 []⟩) (wr64 (by simp; omega) (by simp; omega))
  rw [if_neg hf] at p2
  refine WF p2 F2 (Nat.le_refl _) h2 (by omega) rfl (by omega) fun H3 h3 F3 => ?_
  refine WF (p_push3 (by simp; omega) hn hm) F3 (Nat.le_refl _) h3 (by omega) rfl (by omega) fun H4 h4 F4 => ?_
  exact WN (p_push4 (wr64 (by simp; omega) (by simp; omega))) F4 (Nat.le_refl _) h4 (by omega) rfl (by omega) fun H5 h5 F5 => hK H5 h5 F5
end
end
end Go.Proofs.Ytnloolhaojoimaa.Ev
namespace Go.Proofs.Ytnloolhaojoimaa.Ev
set_option linter.unusedVariables false
set_option linter.unusedSimpArgs false
variable {σ : Sig}
def QL (H : Hp) (d ip n : Nat) (q : List Int) (c : Int) : Prop := ∃ pl top bot, Q H d ip pl top bot ∧ pl.length = n ∧ 0 ≤ top ∧ bot ≤ c ∧ bot - top = q.length ∧ q.length ≤ n ∧ ∀ i, i < q.length → pl.getD (pix pl (top + i)) 0 = q.getD i 0
theorem pix_lt {pl : List Int} {k : Int} (h0 : 0 ≤ k) (hn : pl.length ≠ 0) : pix pl k < pl.length := by
  have hp : (0 : Int) < pl.length := Int.ofNat_lt.2 (Nat.pos_of_ne_zero hn)
  unfold pix
  rw [Int.tmod_eq_emod_of_nonneg h0]
  have := Int.emod_nonneg k (Int.ne_of_gt hp)
  have := Int.emod_lt_of_pos k hp
  omega
theorem pix_ne {pl : List Int} {a b : Int} (h0 : 0 ≤ a) (h1 : a < b) (h2 : b - a < pl.length) : pix pl a ≠ pix pl b := by
  have hp : (0 : Int) < pl.length := by omega
  unfold pix
  rw [Int.tmod_eq_emod_of_nonneg h0, Int.tmod_eq_emod_of_nonneg (by omega)]
  have a1 := Int.emod_nonneg a (Int.ne_of_gt hp)
  have b1 := Int.emod_nonneg b (Int.ne_of_gt hp)
  intro e
  have e2 : b % pl.length = a % pl.length := by omega
  have e3 := Int.emod_emod_of_dvd (b - a) (Int.dvd_refl (pl.length : Int))
  have e4 : (b - a) % pl.length = 0 := by rw [Int.sub_emod, e2, Int.sub_self]; rfl
  rw [Int.emod_eq_of_lt (by omega) h2] at e4
  omega
section
variable {H0 : Hp} {d ip n : Nat} {q : List Int} {x c : Int} {K : AV → Hp → Prop}
theorem QL.push (h : QL H0 d ip n q c) (hc : c ≤ 900000) (hn : n ≤ 1000000) (hf : q.length < n) (hK : ∀ H, QL H d ip n (q ++ [x]) (c + 1) → Fw H0 d ip H → K (.tup [I x, Bo true]) H) : callK Try.prog σ n_law20_whole [.ptr d 0, I 0, I 1, I x] H0 K := by
  obtain ⟨pl, top, bot, hq, hl, h0, hb, hs, hm, hv⟩ := h
  refine push_room hq (by omega) (by omega) (by omega) (by omega) fun H hq' F => hK H ⟨_, top, bot + 1, hq', by simp [hl], h0, by omega, by simp; omega, by simp; omega, ?_⟩ F
  intro i hi
  have hpl : pix (pl.set (pix pl bot) x) = pix pl := by funext k; simp [pix]
  rw [hpl]
  simp only [List.length_append, List.length_cons, List.length_nil] at hi
  by_cases e : i = q.length
  · have e2 : top + (i : Int) = bot := by omega
    rw [e2]
    have := pix_lt (pl := pl) (k := bot) (by omega) (by omega)
    simp [this, e]
  · have hne := pix_ne (pl := pl) (a := top + i) (b := bot) (by omega) (by omega) (by omega)
    have := hv i (by omega)
    have hlt : i < q.length := by omega
    simp only [List.getD_eq_getElem?_getD] at this ⊢
    rw [List.getElem?_set_ne (Ne.symm hne), List.getElem?_append_left hlt]
    exact this
theorem QL.len (h : QL H0 d ip n q c) (hc : c ≤ 1000000) (hK : K (I q.length) H0) : callK Try.prog σ n_deque_Deque_Len [.ptr d 0] H0 K := by
  obtain ⟨pl, top, bot, ⟨lw, lc, lr, la, hq⟩, hl, h0, hb, hs, hm, hv⟩ := h
  refine Len_sp hq ?_ ?_
  · simp only [QS]; rw [wr64 (by omega) (by omega)]
  · have e1 : bot - top = q.length := hs
    show K (I (if 0 < bot - top then bot - top else 0)) H0
    have : (if 0 < bot - top then bot - top else 0) = (q.length : Int) := by split <;> omega
    rw [this]; exact hK
theorem QL.new {m : Int} (h1 : 1 ≤ m) (h2 : m ≤ 1000) (hK : ∀ H, QL H (H0.n + 1) H0.n m.toNat [] 0 → Fw H0 (H0.n + 1) H0.n H → K (.ptr (H0.n + 1) 0) H) : callK Try.prog σ n_deque_New [I m] H0 K :=
  New_sp h1 h2 fun H h hn hg => hK H ⟨_, 0, 0, ⟨0, 0, false, false, h⟩, by simp [s0], by omega, by omega, rfl, by simp, fun i hi => by simp at hi⟩ ⟨by omega, fun j hj _ _ => hg j hj⟩
end
end Go.Proofs.Ytnloolhaojoimaa.Ev
namespace Go.Proofs.Ytnloolhaojoimaa.Ev
set_option linter.unusedVariables false
set_option maxRecDepth 100000
set_option maxHeartbeats 4000000
def isT : Option (AV × Hp) → Bool
  | some (.lit (.bool b), _) => b
  | _ => false
theorem good_of_isT {P : Program} (C : Ctx P) (hm : P.follows .mixedOrders = true) {funs : Nat → Option Func} {ov : Nat → List AV → Hp → Option (AV × Hp)} (hov : ∀ f xs H r H', ov f xs H = some (r, H') → Good P C.σ f xs H r H')
    (hfuns : ∀ f fn, funs f = some fn → P.funcs[f]? = some fn ∧ (fn.name == "runtime.NumGoroutine") = false) {L d f : Nat} {xs : List AV} (hx : noIds xs = true) (h : isT (evF C funs ov L d f xs Hp.empty) = true) (H : Hp) : Good P C.σ f xs H (.lit (.bool true)) H := by
  cases he : evF C funs ov L d f xs Hp.empty with
  | none => rw [he] at h; cases h
  | some p =>
    obtain ⟨r, H'⟩ := p
    have hg := evF_ok C hm hov hfuns L d f xs Hp.empty r H' he
    rw [he] at h
    unfold isT at h
    split at h
    · rename_i e; cases e; subst h; exact hg.over hx rfl H
    · cases h
theorem alive_of {σ : Sig} {f : Nat} (h : isT (evF (CX σ [] known_nil) fnT.get noOv 1000 60 f [] Hp.empty) = true) (H : Hp) : Good Try.prog σ f [] H (.lit (.bool true)) H :=
  good_of_isT (CX σ [] known_nil) mixed noOv_ok fnT_ok (L := 1000) (d := 60) rfl h H
end Go.Proofs.Ytnloolhaojoimaa.Ev
namespace Go.Proofs.Ytnloolhaojoimaa.Ev
set_option maxRecDepth 100000
set_option maxHeartbeats 4000000
theorem alive20 {σ : Sig} (H : Hp) : Good Try.prog σ n_law20_alive [] H (.lit (.bool true)) H := alive_of (by kernel_rfl) H
end Go.Proofs.Ytnloolhaojoimaa.Ev
namespace Go.Proofs.Ytnloolhaojoimaa.Ev
open Go.RowKit
set_option linter.unusedVariables false
set_option linter.unusedSimpArgs false
set_option maxRecDepth 100000
theorem d_int {ts : List Nat} {zs : List AV} (h : Sh tiT.get (T_int :: ts) zs) : ∃ n ys, zs = I n :: ys ∧ (-9223372036854775808 ≤ n ∧ n ≤ 9223372036854775807) ∧ Sh tiT.get ts ys := by
  obtain ⟨i, hi, hd, _⟩ := T_int_is
  obtain ⟨n, ys, e, hw, hs⟩ := sh_int hi hd h
  refine ⟨n, ys, e, ?_, hs⟩
  simp [Lit.wf, IntKind.min, IntKind.max, IntKind.signed, IntKind.bits] at hw
  omega
theorem v_one {t sz : Nat} {d : TD} (hT : ∃ i, tiT.get t = some i ∧ i.d = d ∧ i.size = sz) (ha : d.agg = false) {x : AV} (h : ShV tiT.get t x) : Sh tiT.get [t] [x] := by
  obtain ⟨i, hi, hd, _⟩ := hT
  unfold ShV at h
  rw [hi] at h
  simp only [hd, ha] at h
  exact h
theorem v_int {x : AV} (h : ShV tiT.get T_int x) : ∃ n, x = I n ∧ (-9223372036854775808 ≤ n ∧ n ≤ 9223372036854775807) := by
  obtain ⟨n, ys, e, w, hn⟩ := d_int (v_one T_int_is rfl h)
  cases e
  exact ⟨n, rfl, w⟩
theorem rows_m {α : Type} {f : α → List AV} : ∀ {rows : List (List AV)}, (∀ row ∈ rows, ∃ x, row = f x) → ∃ l : List α, rows = l.map f
  | [], _ => ⟨[], rfl⟩
  | r :: rs, h => by
    obtain ⟨x, hx⟩ := h r (by simp)
    obtain ⟨l, hl⟩ := rows_m (rows := rs) fun row hr => h row (by simp [hr])
    exact ⟨x :: l, by rw [hx, hl]; rfl⟩
end Go.Proofs.Ytnloolhaojoimaa.Ev
namespace Go.Proofs.Ytnloolhaojoimaa.Ev
set_option linter.unusedVariables false
set_option linter.unusedSimpArgs false
theorem flat_drop {sz : Nat} : ∀ {rows : List (List AV)} {w : Nat} (hs : ∀ r ∈ rows, r.length = sz) (h : w < rows.length), rows.flatten.drop (w * sz) = rows[w] ++ (rows.drop (w + 1)).flatten
  | r :: rs, 0, hs, h => by simp
  | r :: rs, w + 1, hs, h => by
    have hr : r.length = sz := hs r (by simp)
    have e : (w + 1) * sz = sz + w * sz := by rw [Nat.succ_mul, Nat.add_comm]
    have e1 : (r ++ rs.flatten).drop sz = rs.flatten := by rw [← hr]; simp
    rw [List.flatten_cons, e, ← List.drop_drop, e1]
    exact flat_drop (fun r hr => hs r (by simp [hr])) (by simpa using h)
theorem overlay_app_right {a b : List AV} {k : Nat} {xs : List AV} : overlay (a ++ b) (a.length + k) xs = a ++ overlay b k xs := by
  unfold overlay
  rw [Nat.add_assoc, List.take_append, List.drop_append, List.take_of_length_le (by omega), List.drop_eq_nil_of_le (by omega)]
  simp
theorem overlay_app_left {a b : List AV} {k : Nat} {xs : List AV} (h : k + xs.length ≤ a.length) : overlay (a ++ b) k xs = overlay a k xs ++ b := by
  unfold overlay
  rw [List.take_append_of_le_length (by omega), List.drop_append_of_le_length h]
  simp
theorem flat_overlay {sz : Nat} {xs : List AV} {k : Nat} (hk : k + xs.length ≤ sz) : ∀ {rows : List (List AV)} {w : Nat} (hs : ∀ r ∈ rows, r.length = sz) (h : w < rows.length), overlay rows.flatten (w * sz + k) xs = (rows.set w (overlay rows[w] k xs)).flatten
  | r :: rs, 0, hs, h => by
    have hr : r.length = sz := hs r (by simp)
    simp only [Nat.zero_mul, Nat.zero_add, List.flatten_cons, List.getElem_cons_zero, List.set_cons_zero]
    exact overlay_app_left (by omega)
  | r :: rs, w + 1, hs, h => by
    have hr : r.length = sz := hs r (by simp)
    have e : (w + 1) * sz + k = r.length + (w * sz + k) := by rw [Nat.succ_mul, hr]; omega
    simp only [List.flatten_cons, List.getElem_cons_succ, List.set_cons_succ]
    rw [e, overlay_app_right, flat_overlay hk (fun r hr => hs r (by simp [hr])) (by simpa using h)]
end Go.Proofs.Ytnloolhaojoimaa.Ev
namespace Go.Proofs.Ytnloolhaojoimaa.Ev
set_option linter.unusedVariables false
set_option linter.unusedSimpArgs false
variable {σ : Sig}
structure R6 where
  kd : Int
  st : Int
  t : Int
  b : Int
  x : Int
  ok : Bool
def r6 (o : R6) : List AV := [I o.kd, I o.st, I o.t, I o.b, I o.x, Bo o.ok]
def z6 : R6 := ⟨0, 0, 0, 0, 0, false⟩
structure RS where
  ip : Nat
  pl : List Int
  top : Int
  bot : Int
  op : Nat → R6
  lw : Int
  lc : Int
  lr : Bool
  la : Bool
def rows6 (f : Nat → R6) : List (List AV) := (List.range 65).map fun w => r6 (f w)
def rls (s : RS) : List AV := [I s.lw, I s.lc, Bo s.lr, Bo s.la]
def rhd (s : RS) : List AV := [I s.pl.length, I s.top, I s.bot, .sl s.ip 0 1 s.pl.length (some s.pl.length)]
def rdc (s : RS) : List AV := rhd s ++ ((rows6 s.op).flatten ++ rls s)
def up6 (f : Nat → R6) (w : Nat) (o : R6) : Nat → R6 := fun i => if i = w then o else f i
theorem rows6_len (f : Nat → R6) : (rows6 f).length = 65 := by simp [rows6]
theorem rows6_row (f : Nat → R6) : ∀ r ∈ rows6 f, r.length = 6 := by
  intro r hr
  obtain ⟨w, _, rfl⟩ := List.mem_map.1 hr
  rfl
theorem flat_len : ∀ {rows : List (List AV)} {sz : Nat}, (∀ r ∈ rows, r.length = sz) → rows.flatten.length = rows.length * sz
  | [], sz, _ => by simp
  | r :: rs, sz, h => by
    rw [List.flatten_cons, List.length_append, flat_len (fun r hr => h r (by simp [hr])), h r (by simp), List.length_cons, Nat.succ_mul, Nat.add_comm]
theorem rows6_flat (f : Nat → R6) : (rows6 f).flatten.length = 390 := by rw [flat_len (rows6_row f), rows6_len]
@[simp] theorem rdc_len (s : RS) : (rdc s).length = 398 := by simp only [rdc, List.length_append, rows6_flat]; rfl
@[simp] theorem rd_0 (s : RS) : ldL false 1 (rdc s) = some (I s.pl.length) := rfl
@[simp] theorem rd_1 (s : RS) : ldL false 1 (rdc s).tail = some (I s.top) := rfl
@[simp] theorem rd_2 (s : RS) : ldL false 1 ((rdc s).drop 2) = some (I s.bot) := rfl
@[simp] theorem rd_3 (s : RS) : ldL false 1 ((rdc s).drop 3) = some (.sl s.ip 0 1 s.pl.length (some s.pl.length)) := rfl
theorem rd_row (s : RS) {w : Nat} (h : w < 65) : ∃ r, (rdc s).drop (4 + w * 6) = r6 (s.op w) ++ r := by
  have hl : w < (rows6 s.op).length := by rw [rows6_len]; exact h
  refine ⟨((rows6 s.op).drop (w + 1)).flatten ++ rls s, ?_⟩
  rw [← List.drop_drop]
  show ((rows6 s.op).flatten ++ rls s).drop (w * 6) = _
  rw [List.drop_append_of_le_length (by rw [rows6_flat]; omega), flat_drop (rows6_row s.op) hl, List.append_assoc]
  congr 1
  simp [rows6]
theorem rd_f0 (s : RS) {w : Nat} (h : w < 65) : ldL false 1 ((rdc s).drop (4 + w * 6)) = some (I (s.op w).kd) := by
  obtain ⟨r, hr⟩ := rd_row s h
  rw [hr]; rfl
theorem rd_fk (s : RS) {w k : Nat} (h : w < 65) {x : AV} (hx : (r6 (s.op w))[k]? = some x) : ldL false 1 ((rdc s).drop (4 + w * 6 + k)) = some x := by
  obtain ⟨r, hr⟩ := rd_row s h
  obtain ⟨hlt, e⟩ := List.getElem?_eq_some_iff.1 hx
  rw [← List.drop_drop, hr, List.drop_append_of_le_length (by omega), List.drop_eq_getElem_cons hlt, e]
  simp
theorem rd_last (s : RS) : ldL true 4 ((rdc s).drop 394) = some (.agg (rls s)) := by
  have : (rdc s).drop 394 = rls s := by
    rw [show 394 = 4 + 390 from rfl, ← List.drop_drop]
    show ((rows6 s.op).flatten ++ rls s).drop 390 = _
    rw [List.drop_append_of_le_length (by rw [rows6_flat]; omega), List.drop_eq_nil_of_le (by rw [rows6_flat]; omega)]; rfl
  rw [this]; rfl
@[simp] theorem rd_s1 (s : RS) (v : Int) : overlay (rdc s) 1 [I v] = rdc { s with top := v } := by simp [rdc, rhd, rls]
@[simp] theorem rd_s2 (s : RS) (v : Int) : overlay (rdc s) 2 [I v] = rdc { s with bot := v } := by simp [rdc, rhd, rls]
theorem rd_sop (s : RS) {w k : Nat} (h : w < 65) {xs : List AV} {o : R6} (hk : k + xs.length ≤ 6) (ho : overlay (r6 (s.op w)) k xs = r6 o) : overlay (rdc s) (4 + w * 6 + k) xs = rdc { s with op := up6 s.op w o } := by
  have hl : w < (rows6 s.op).length := by rw [rows6_len]; exact h
  have e1 : overlay (rows6 s.op).flatten (w * 6 + k) xs = (rows6 (up6 s.op w o)).flatten := by
    rw [flat_overlay hk (rows6_row s.op) hl]
    congr 1
    apply List.ext_getElem
    · simp [rows6]
    · intro i h1 h2
      simp only [List.getElem_set, rows6, List.getElem_map, List.getElem_range, up6]
      by_cases hi : w = i
      · subst hi; simp [ho]
      · have : ¬ i = w := fun e => hi e.symm
        simp [hi, this]
  show overlay (rhd s ++ ((rows6 s.op).flatten ++ rls s)) (4 + w * 6 + k) xs = rhd s ++ ((rows6 (up6 s.op w o)).flatten ++ rls s)
  rw [show 4 + w * 6 + k = (rhd s).length + (w * 6 + k) by simp [rhd]; omega, overlay_app_right, overlay_app_left (by rw [rows6_flat]; omega), e1]
theorem rd_slast (s : RS) (w c : Int) (r a : Bool) : overlay (rdc s) 394 [I w, I c, Bo r, Bo a] = rdc { s with lw := w, lc := c, lr := r, la := a } := by
  show overlay (rhd s ++ ((rows6 s.op).flatten ++ rls s)) 394 [I w, I c, Bo r, Bo a] = _
  rw [show 394 = (rhd s).length + ((rows6 s.op).flatten.length + 0) by rw [rows6_flat]; rfl, overlay_app_right, overlay_app_right]
  rfl
structure Rq (H : Hp) (r : Nat) (s : RS) : Prop where
  hd : H.get r = some (.cells (rdc s) true)
  hp : H.get s.ip = some (.cells (s.pl.map I) true)
  dl : r < H.n
  pl : s.ip < H.n
  dp : r ≠ s.ip
theorem Rq.setD {H : Hp} {r : Nat} {s s' : RS} (h : Rq H r s) (e1 : s'.ip = s.ip) (e2 : s'.pl = s.pl) : Rq (H.set r (some (.cells (rdc s') true))) r s' := by
  refine ⟨by simp, ?_, by simpa using h.dl, by rw [e1]; simpa using h.pl, by rw [e1]; exact h.dp⟩
  rw [e1, e2]; simp [Ne.symm h.dp]; exact h.hp
theorem Rq.setP {H : Hp} {r : Nat} {s : RS} {p : List Int} (h : Rq H r s) (e : p.length = s.pl.length) : Rq (H.set s.ip (some (.cells (p.map I) true))) r { s with pl := p } := by
  have hd' : rdc { s with pl := p } = rdc s := by simp [rdc, rhd, rls, e]
  exact ⟨by rw [hd']; simp [h.dp]; exact h.hd, by simp, by simpa using h.dl, by simpa using h.pl, h.dp⟩
theorem ix656 {w : Nat} (h : w < 65) (x : AV) : ixaArr 65 6 x (I w) = shiftA x (w * 6) := by
  unfold ixaArr
  have h1 : (0 : Int) ≤ w := by omega
  have h2 : (w : Int) < 65 := by omega
  simp [intA, h2]
theorem RBusy_sp {H : Hp} {r : Nat} {s : RS} {w : Int} {K : AV → Hp → Prop} (h : Rq H r s) (hK : K (Bo (decide (0 ≤ w) && (decide (w ≤ 64) && !decide ((s.op w.toNat).kd = 0)))) H) : callK Try.prog σ n_ref18_Deque_Busy [.ptr r 0, I w] H K := by
  refine ref18_Deque_Busy.run ?_
  simp
  by_cases h0 : 0 ≤ w
  · by_cases h1 : w ≤ 64
    · obtain ⟨k, rfl⟩ : ∃ k : Nat, w = k := ⟨w.toNat, by omega⟩
      have hk : k < 65 := by omega
      simp only [h0, h1, if_true, decide_true, Bool.true_and, Int.toNat_natCast] at hK ⊢
      rw [ix656 hk]
      simp [h.hd, rd_f0 s hk]
      exact hK
    · simp only [h0, h1, if_true, if_false, decide_true, decide_false, Bool.true_and, Bool.false_and] at hK ⊢; exact hK
  · simp only [h0, if_false, decide_false, Bool.false_and] at hK ⊢; exact hK
end Go.Proofs.Ytnloolhaojoimaa.Ev
namespace Go.Proofs.Ytnloolhaojoimaa.Ev
set_option linter.unusedVariables false
set_option linter.unusedSimpArgs false
variable {σ : Sig}
structure Fq (r ip : Nat) (H H' : Hp) : Prop where
  n : H'.n = H.n
  g : ∀ j, j ≠ r → j ≠ ip → H'.get j = H.get j
theorem Fq.refl {r ip : Nat} {H : Hp} : Fq r ip H H := ⟨rfl, fun _ _ _ => rfl⟩
theorem Fq.trans {r ip : Nat} {H H1 H2 : Hp} (h : Fq r ip H H1) (h' : Fq r ip H1 H2) : Fq r ip H H2 := ⟨h'.n.trans h.n, fun j a b => (h'.g j a b).trans (h.g j a b)⟩
theorem Fq.setD {r ip : Nat} {H : Hp} {b : Option Blk} : Fq r ip H (H.set r b) := ⟨by simp, fun j a _ => by simp [a]⟩
theorem Fq.setP {r ip : Nat} {H : Hp} {b : Option Blk} : Fq r ip H (H.set ip b) := ⟨by simp, fun j _ a => by simp [a]⟩
section
variable {w : Nat}
theorem rd_f1 (s : RS) (h : w < 65) : ldL false 1 ((rdc s).drop (4 + w * 6 + 1)) = some (I (s.op w).st) := rd_fk s h rfl
theorem rd_f2 (s : RS) (h : w < 65) : ldL false 1 ((rdc s).drop (4 + w * 6 + 2)) = some (I (s.op w).t) := rd_fk s h rfl
theorem rd_f3 (s : RS) (h : w < 65) : ldL false 1 ((rdc s).drop (4 + w * 6 + 3)) = some (I (s.op w).b) := rd_fk s h rfl
theorem rd_f4 (s : RS) (h : w < 65) : ldL false 1 ((rdc s).drop (4 + w * 6 + 4)) = some (I (s.op w).x) := rd_fk s h rfl
theorem rd_f5 (s : RS) (h : w < 65) : ldL false 1 ((rdc s).drop (4 + w * 6 + 5)) = some (Bo (s.op w).ok) := rd_fk s h rfl
theorem rd_k1 (s : RS) (h : w < 65) (v : Int) : overlay (rdc s) (4 + w * 6 + 1) [I v] = rdc { s with op := up6 s.op w { s.op w with st := v } } := rd_sop s h (by simp) (by simp [r6])
theorem rd_k2 (s : RS) (h : w < 65) (v : Int) : overlay (rdc s) (4 + w * 6 + 2) [I v] = rdc { s with op := up6 s.op w { s.op w with t := v } } := rd_sop s h (by simp) (by simp [r6])
theorem rd_k3 (s : RS) (h : w < 65) (v : Int) : overlay (rdc s) (4 + w * 6 + 3) [I v] = rdc { s with op := up6 s.op w { s.op w with b := v } } := rd_sop s h (by simp) (by simp [r6])
theorem rd_k4 (s : RS) (h : w < 65) (v : Int) : overlay (rdc s) (4 + w * 6 + 4) [I v] = rdc { s with op := up6 s.op w { s.op w with x := v } } := rd_sop s h (by simp) (by simp [r6])
theorem rd_k5 (s : RS) (h : w < 65) (v : Bool) : overlay (rdc s) (4 + w * 6 + 5) [Bo v] = rdc { s with op := up6 s.op w { s.op w with ok := v } } := rd_sop s h (by simp) (by simp [r6])
theorem rd_k6 (s : RS) (h : w < 65) (o : R6) : overlay (rdc s) (4 + w * 6) (r6 o) = rdc { s with op := up6 s.op w o } := by
  have := rd_sop s h (k := 0) (xs := r6 o) (o := o) (by simp [r6]) rfl
  exact this
end
@[simp] theorem r6_len (o : R6) : (r6 o).length = 6 := rfl
def racc (s : RS) (w : Nat) (c : Int) (b : Bool) : RS := { s with lw := w, lc := c, lr := b, la := true }
section
variable {H : Hp} {r w : Nat} {s : RS} {K : AV → Hp → Prop}
theorem Rsee (h : Rq H r s) {c : Int} {b : Bool} (hK : ∀ H', Rq H' r (racc s w c b) → Fq r s.ip H H' → K (.tup []) H') : callK Try.prog σ n_ref18_Deque_see [.ptr r 0, I w, I c, Bo b] H K := by
  refine ref18_Deque_see.run ?_
  have e := rd_slast s w c b true
  simp [bld_last, h.hd, e]
  exact hK _ (h.setD rfl rfl) .setD
theorem Rmod (h : Rq H r s) {k : Int} (hn : s.pl.length ≠ 0) (hK : K (I (k.tmod s.pl.length)) H) : callK Try.prog σ n_ref18_Deque_mod [.ptr r 0, I k] H K := by
  refine ref18_Deque_mod.run ?_
  simp [h.hd]
  rw [b_rem _ _ _ (by omega)]
  simpa using hK
theorem Rend (h : Rq H r s) (hw : w < 65) {b : Bool} (hK : ∀ H', Rq H' r { s with op := up6 s.op w z6 } → Fq r s.ip H H' → K (.tup [Bo true, I (if b = true then (s.op w).x else 0), Bo b]) H') : callK Try.prog σ n_ref18_Deque_end [.ptr r 0, I w, Bo b] H K := by
  refine ref18_Deque_end.run ?_
  have hl : 4 + w * 6 + 6 ≤ 398 := by omega
  have e := rd_k6 s hw z6
  have ez : [I 0, I 0, I 0, I 0, I 0, Bo false] = r6 z6 := rfl
  have k := hK _ (h.setD (s' := { s with op := up6 s.op w z6 }) rfl rfl) .setD
  simp only [n_ptr, bnd_some, sh_ptr, Nat.zero_add, ix656 hw, ld_ptr, h.hd, ldO_cells, rd_f4 s hw, bldR, st_agg, List.length_cons, List.length_nil, if_true, stO_cells, rdc_len, hl, ez, e, u_not, ifB_lit]
  have hone : (r6 z6).all AV.one = true := rfl
  simp only [hone, r6_len, hl, and_self, if_true, bnd_some]
  cases b
  · simpa using k
  · simpa using k
end
def ro (s : RS) (w : Nat) (o : R6) : RS := { s with op := up6 s.op w o }
@[simp] theorem up6_same (f : Nat → R6) (w : Nat) (o : R6) : up6 f w o w = o := by simp [up6]
@[simp] theorem up6_up6 (f : Nat → R6) (w : Nat) (a b : R6) : up6 (up6 f w a) w b = up6 f w b := by
  funext i
  by_cases h : i = w <;> simp [up6, h]
@[simp] theorem racc_op (s : RS) (w : Nat) (c : Int) (b : Bool) : (racc s w c b).op = s.op := rfl
@[simp] theorem racc_pl (s : RS) (w : Nat) (c : Int) (b : Bool) : (racc s w c b).pl = s.pl := rfl
@[simp] theorem racc_ip (s : RS) (w : Nat) (c : Int) (b : Bool) : (racc s w c b).ip = s.ip := rfl
@[simp] theorem racc_top (s : RS) (w : Nat) (c : Int) (b : Bool) : (racc s w c b).top = s.top := rfl
@[simp] theorem racc_bot (s : RS) (w : Nat) (c : Int) (b : Bool) : (racc s w c b).bot = s.bot := rfl
section
variable {H : Hp} {r w : Nat} {s : RS} {K : AV → Hp → Prop}
attribute [local irreducible] ref18_Deque_push.J0 ref18_Deque_pop.J0 ref18_Deque_pop.J1 ref18_Deque_steal.J0 ref18_Deque_steal.J1
theorem Rpush1 (h : Rq H r s) (hw : w < 65) (hK : ∀ H', Rq H' r (racc (ro s w { s.op w with b := s.bot }) w (-1001) false) → Fq r s.ip H H' → K (.tup [Bo false, I 0, Bo false]) H') : callK Try.prog σ n_ref18_Deque_push [.ptr r 0, I w, I 1, .ptr r (4 + w * 6)] H K := by
  refine ref18_Deque_push.run ?_
  have hl : 4 + w * 6 + 3 + 1 ≤ 398 := by omega
  simp [h.hd, hl, rd_k3 s hw]
  refine Rsee (h.setD (s' := ro s w { s.op w with b := s.bot }) rfl rfl) fun H' h' f => ?_
  exact ref18_Deque_push.J0_step (u_ := ()) (hK H' h' (Fq.setD.trans f))
theorem Rpush2 (h : Rq H r s) (hw : w < 65) (hb : wr .i64 ((s.op w).b - s.top) = (s.op w).b - s.top) (hK : ∀ H', Rq H' r (racc (ro s w (if (s.pl.length : Int) ≤ (s.op w).b - s.top then z6 else { s.op w with t := s.top })) w (-1000) false) → Fq r s.ip H H' → K (.tup [Bo (decide ((s.pl.length : Int) ≤ (s.op w).b - s.top)), I 0, Bo false]) H') : callK Try.prog σ n_ref18_Deque_push [.ptr r 0, I w, I 2, .ptr r (4 + w * 6)] H K := by
  refine ref18_Deque_push.run ?_
  have hl : 4 + w * 6 + 2 + 1 ≤ 398 := by omega
  simp [h.hd, hl, rd_k2 s hw]
  refine Rsee (h.setD (s' := ro s w { s.op w with t := s.top }) rfl rfl) fun H' h' f => ?_
  simp [h'.hd, rd_f3 _ hw, rd_f2 _ hw, ro, hb]
  by_cases e : (s.pl.length : Int) ≤ (s.op w).b - s.top
  · simp only [e, if_true, decide_true] at hK ⊢
    refine Rend h' hw fun H2 h2 f2 => ?_
    simp only [ro, racc, up6_up6] at h2
    simpa using hK H2 h2 ((Fq.setD.trans f).trans f2)
  · simp only [e, if_false, decide_false] at hK ⊢
    exact ref18_Deque_push.J0_step (u_ := ()) (hK H' h' (Fq.setD.trans f))
theorem Rpush4 {at_ : Int} (h : Rq H r s) (hw : w < 65) (h1 : at_ ≠ 1) (h2 : at_ ≠ 2) (h3 : at_ ≠ 3) (hb : wr .i64 ((s.op w).b + 1) = (s.op w).b + 1) (hK : ∀ H', Rq H' r (ro (racc { s with bot := (s.op w).b + 1 } w (-1001) true) w z6) → Fq r s.ip H H' → K (.tup [Bo true, I (s.op w).x, Bo true]) H') : callK Try.prog σ n_ref18_Deque_push [.ptr r 0, I w, I at_, .ptr r (4 + w * 6)] H K := by
  refine ref18_Deque_push.run ?_
  simp [h1, h2, h3, h.hd, rd_f3 _ hw, hb]
  refine Rsee (h.setD (s' := { s with bot := (s.op w).b + 1 }) rfl rfl) fun H' h' f => ?_
  refine Rend h' hw fun H2 h2 f2 => ?_
  simpa using hK H2 h2 ((Fq.setD.trans f).trans f2)
theorem Rpop1 (h : Rq H r s) (hw : w < 65) (hb : wr .i64 (s.bot - 1) = s.bot - 1) (hK : ∀ H', Rq H' r (racc (ro s w { s.op w with b := s.bot - 1 }) w (-1001) false) → Fq r s.ip H H' → K (.tup [Bo false, I 0, Bo false]) H') : callK Try.prog σ n_ref18_Deque_pop [.ptr r 0, I w, I 1, .ptr r (4 + w * 6)] H K := by
  refine ref18_Deque_pop.run ?_
  have hl : 4 + w * 6 + 3 + 1 ≤ 398 := by omega
  simp [h.hd, hl, rd_k3 s hw, hb]
  refine Rsee (h.setD (s' := ro s w { s.op w with b := s.bot - 1 }) rfl rfl) fun H' h' f => ?_
  exact ref18_Deque_pop.J0_step (hK H' h' (Fq.setD.trans f))
theorem Rpop2 (h : Rq H r s) (hw : w < 65) (hK : ∀ H', Rq H' r (racc { s with bot := (s.op w).b } w (-1001) true) → Fq r s.ip H H' → K (.tup [Bo false, I 0, Bo false]) H') : callK Try.prog σ n_ref18_Deque_pop [.ptr r 0, I w, I 2, .ptr r (4 + w * 6)] H K := by
  refine ref18_Deque_pop.run ?_
  simp [h.hd, rd_f3 _ hw]
  refine Rsee (h.setD (s' := { s with bot := (s.op w).b }) rfl rfl) fun H' h' f => ?_
  exact ref18_Deque_pop.J0_step (hK H' h' (Fq.setD.trans f))
theorem Rsteal1 (h : Rq H r s) (hw : w < 65) (hK : ∀ H', Rq H' r (racc (ro s w { s.op w with t := s.top }) w (-1000) false) → Fq r s.ip H H' → K (.tup [Bo false, I 0, Bo false]) H') : callK Try.prog σ n_ref18_Deque_steal [.ptr r 0, I w, I 1, .ptr r (4 + w * 6)] H K := by
  refine ref18_Deque_steal.run ?_
  have hl : 4 + w * 6 + 2 + 1 ≤ 398 := by omega
  simp [h.hd, hl, rd_k2 s hw]
  refine Rsee (h.setD (s' := ro s w { s.op w with t := s.top }) rfl rfl) fun H' h' f => ?_
  exact ref18_Deque_steal.J0_step (hK H' h' (Fq.setD.trans f))
theorem Rpop3 (h : Rq H r s) (hw : w < 65) (hK : ∀ H', Rq H' r (ro (racc (ro s w { s.op w with t := s.top }) w (-1000) false) w (if (s.op w).b < s.top then { s.op w with t := s.top, st := 6 } else { s.op w with t := s.top })) → Fq r s.ip H H' → K (.tup [Bo false, I 0, Bo false]) H') : callK Try.prog σ n_ref18_Deque_pop [.ptr r 0, I w, I 3, .ptr r (4 + w * 6)] H K := by
  refine ref18_Deque_pop.run ?_
  have hl : 4 + w * 6 + 2 + 1 ≤ 398 := by omega
  have hl1 : 4 + w * 6 + 1 + 1 ≤ 398 := by omega
  simp [h.hd, hl, rd_k2 s hw]
  refine Rsee (h.setD (s' := ro s w { s.op w with t := s.top }) rfl rfl) fun H' h' f => ?_
  simp [h'.hd, rd_f3 _ hw, rd_f2 _ hw, ro, hl1, rd_k1 _ hw]
  by_cases e : (s.op w).b < s.top
  · simp only [e, if_true] at hK ⊢
    refine ref18_Deque_pop.J0_step (hK _ ?_ ((Fq.setD.trans f).trans .setD))
    have := h'.setD (s' := ro (racc (ro s w { s.op w with t := s.top }) w (-1000) false) w { s.op w with t := s.top, st := 6 }) rfl rfl
    simpa [ro, racc] using this
  · simp only [e, if_false] at hK ⊢
    refine ref18_Deque_pop.J0_step (hK H' ?_ (Fq.setD.trans f))
    simpa [ro, racc] using h'
theorem Rpop6 {at_ : Int} (h : Rq H r s) (hw : w < 65) (h1 : at_ ≠ 1) (h2 : at_ ≠ 2) (h3 : at_ ≠ 3) (h4 : at_ ≠ 4) (h5 : at_ ≠ 5) (hb : wr .i64 ((s.op w).b + 1) = (s.op w).b + 1) (hK : ∀ H', Rq H' r (ro (racc { s with bot := (s.op w).b + 1 } w (-1001) true) w z6) → Fq r s.ip H H' → K (.tup [Bo true, I (if (s.op w).ok = true then (s.op w).x else 0), Bo (s.op w).ok]) H') : callK Try.prog σ n_ref18_Deque_pop [.ptr r 0, I w, I at_, .ptr r (4 + w * 6)] H K := by
  refine ref18_Deque_pop.run ?_
  simp [h1, h2, h3, h4, h5, h.hd, rd_f3 _ hw, hb]
  refine Rsee (h.setD (s' := { s with bot := (s.op w).b + 1 }) rfl rfl) fun H' h' f => ?_
  simp [h'.hd, rd_f5 _ hw]
  refine Rend h' hw fun H2 h2 f2 => ?_
  simpa using hK H2 h2 ((Fq.setD.trans f).trans f2)
theorem Rsteal2 (h : Rq H r s) (hw : w < 65) (hK : ∀ H', Rq H' r (ro (racc (ro s w { s.op w with b := s.bot }) w (-1001) false) w (if s.bot ≤ (s.op w).t then z6 else { s.op w with b := s.bot })) → Fq r s.ip H H' → K (.tup [Bo (decide (s.bot ≤ (s.op w).t)), I 0, Bo false]) H') : callK Try.prog σ n_ref18_Deque_steal [.ptr r 0, I w, I 2, .ptr r (4 + w * 6)] H K := by
  refine ref18_Deque_steal.run ?_
  have hl : 4 + w * 6 + 3 + 1 ≤ 398 := by omega
  simp [h.hd, hl, rd_k3 s hw]
  refine Rsee (h.setD (s' := ro s w { s.op w with b := s.bot }) rfl rfl) fun H' h' f => ?_
  simp [h'.hd, rd_f3 _ hw, rd_f2 _ hw, ro]
  by_cases e : s.bot ≤ (s.op w).t
  · simp only [e, if_true, decide_true] at hK ⊢
    refine Rend h' hw fun H2 h2 f2 => ?_
    simpa using hK H2 h2 ((Fq.setD.trans f).trans f2)
  · simp only [e, if_false, decide_false] at hK ⊢
    refine ref18_Deque_steal.J0_step (hK H' ?_ (Fq.setD.trans f))
    simpa [ro, racc] using h'
theorem pl_ixR {ip n : Nat} {k : Int} (h0 : 0 ≤ k) (h1 : k < n) : ixaSl 1 (.sl ip 0 1 n (some n)) (I k) = some (.ptr ip k.toNat) := by
  rw [ix_sl h0 h1]; simp
theorem tm_in {k : Int} {n : Nat} (h0 : 0 ≤ k) (hn : n ≠ 0) : 0 ≤ k.tmod n ∧ k.tmod n < n := by
  have hp : (0 : Int) < n := Int.ofNat_lt.2 (Nat.pos_of_ne_zero hn)
  rw [Int.tmod_eq_emod_of_nonneg h0]
  exact ⟨Int.emod_nonneg _ (Int.ne_of_gt hp), Int.emod_lt_of_pos _ hp⟩
theorem Rsteal3 (h : Rq H r s) (hw : w < 65) (h0 : 0 ≤ (s.op w).t) (hn : s.pl.length ≠ 0) (hm : s.pl.length ≤ 1000000) (hK : ∀ H', Rq H' r (racc (ro s w { s.op w with x := s.pl.getD ((s.op w).t.tmod s.pl.length).toNat 0 }) w (-1002 - (s.op w).t.tmod s.pl.length) false) → Fq r s.ip H H' → K (.tup [Bo false, I 0, Bo false]) H') : callK Try.prog σ n_ref18_Deque_steal [.ptr r 0, I w, I 3, .ptr r (4 + w * 6)] H K := by
  refine ref18_Deque_steal.run ?_
  obtain ⟨i0, i1⟩ := tm_in h0 hn
  have hl : 4 + w * 6 + 4 + 1 ≤ 398 := by omega
  have hlt : ((s.op w).t.tmod s.pl.length).toNat < s.pl.length := by omega
  have e : wr .i64 (-1002 - (s.op w).t.tmod s.pl.length) = -1002 - (s.op w).t.tmod s.pl.length := wr64 (by omega) (by omega)
  simp only [b_eql, bnd_some, ifB_lit, show ¬ (3 : Int) = 1 by decide, show ¬ (3 : Int) = 2 by decide, decide_false, decide_true, Bool.false_eq_true, if_false, if_true, n_ptr, sh_ptr, ld_ptr, h.hd, ldO_cells, rd_f2 _ hw]
  refine Rmod h hn ?_
  simp only [bnd_some, n_ptr, sh_ptr, ld_ptr, h.hd, ldO_cells, Nat.zero_add, rd_3, pl_ixR i0 i1, h.hp, pl_ld hlt, st_int, stO_cells, rdc_len, List.length_cons, List.length_nil, hl, rd_k4 s hw, b_sub, e]
  simp
  refine Rsee (h.setD (s' := ro s w { s.op w with x := s.pl.getD ((s.op w).t.tmod s.pl.length).toNat 0 }) rfl rfl) fun H' h' f => ?_
  exact ref18_Deque_steal.J0_step (hK H' h' (Fq.setD.trans f))
theorem Rpop4 (h : Rq H r s) (hw : w < 65) (h0 : 0 ≤ (s.op w).b) (hn : s.pl.length ≠ 0) (hm : s.pl.length ≤ 1000000) (hK : ∀ H', Rq H' r (ro (racc (ro s w { s.op w with x := s.pl.getD ((s.op w).b.tmod s.pl.length).toNat 0 }) w (-1002 - (s.op w).b.tmod s.pl.length) false) w (if (s.op w).t < (s.op w).b then z6 else { s.op w with x := s.pl.getD ((s.op w).b.tmod s.pl.length).toNat 0 })) → Fq r s.ip H H' → K (.tup [Bo (decide ((s.op w).t < (s.op w).b)), I (if (s.op w).t < (s.op w).b then s.pl.getD ((s.op w).b.tmod s.pl.length).toNat 0 else 0), Bo (decide ((s.op w).t < (s.op w).b))]) H') : callK Try.prog σ n_ref18_Deque_pop [.ptr r 0, I w, I 4, .ptr r (4 + w * 6)] H K := by
  refine ref18_Deque_pop.run ?_
  obtain ⟨i0, i1⟩ := tm_in h0 hn
  have hl : 4 + w * 6 + 4 + 1 ≤ 398 := by omega
  have hlt : ((s.op w).b.tmod s.pl.length).toNat < s.pl.length := by omega
  have e : wr .i64 (-1002 - (s.op w).b.tmod s.pl.length) = -1002 - (s.op w).b.tmod s.pl.length := wr64 (by omega) (by omega)
  simp only [b_eql, bnd_some, ifB_lit, show ¬ (4 : Int) = 1 by decide, show ¬ (4 : Int) = 2 by decide, show ¬ (4 : Int) = 3 by decide, decide_false, decide_true, Bool.false_eq_true, if_false, if_true, n_ptr, sh_ptr, ld_ptr, h.hd, ldO_cells, rd_f3 _ hw]
  refine Rmod h hn ?_
  simp only [bnd_some, n_ptr, sh_ptr, ld_ptr, h.hd, ldO_cells, Nat.zero_add, rd_3, pl_ixR i0 i1, h.hp, pl_ld hlt, st_int, stO_cells, rdc_len, List.length_cons, List.length_nil, hl, rd_k4 s hw, b_sub, e]
  generalize hv : s.pl.getD ((s.op w).b.tmod s.pl.length).toNat 0 = v at hK ⊢
  simp
  refine Rsee (h.setD (s' := ro s w { s.op w with x := v }) rfl rfl) fun H' h' f => ?_
  simp [h'.hd, rd_f3 _ hw, rd_f2 _ hw, ro]
  by_cases e : (s.op w).t < (s.op w).b
  · simp only [e, if_true, decide_true] at hK ⊢
    refine Rend h' hw fun H2 h2 f2 => ?_
    simpa [ro] using hK H2 h2 ((Fq.setD.trans f).trans f2)
  · simp only [e, if_false, decide_false] at hK ⊢
    refine ref18_Deque_pop.J0_step (hK H' ?_ (Fq.setD.trans f))
    simpa [ro, racc] using h'
theorem Rpop5 (h : Rq H r s) (hw : w < 65) (hb : wr .i64 ((s.op w).t + 1) = (s.op w).t + 1) (hK : ∀ H', Rq H' r (racc (ro { s with top := if s.top = (s.op w).t then (s.op w).t + 1 else s.top } w { s.op w with ok := decide (s.top = (s.op w).t) }) w (-1000) true) → Fq r s.ip H H' → K (.tup [Bo false, I 0, Bo false]) H') : callK Try.prog σ n_ref18_Deque_pop [.ptr r 0, I w, I 5, .ptr r (4 + w * 6)] H K := by
  refine ref18_Deque_pop.run ?_
  have hl : 4 + w * 6 + 5 + 1 ≤ 398 := by omega
  have h1 := h.setD (s' := ro s w { s.op w with ok := decide (s.top = (s.op w).t) }) rfl rfl
  simp [h.hd, rd_f2 _ hw, hl, rd_k5 s hw, rd_f5 _ hw, hb]
  by_cases e : s.top = (s.op w).t
  · have ed : decide (s.top = (s.op w).t) = true := decide_eq_true e
    rw [if_pos e, ed] at hK
    rw [ed] at h1 ⊢
    rw [if_pos e]
    refine ref18_Deque_pop.J1_step (Rsee (h1.setD (s' := { ro s w { s.op w with ok := true } with top := (s.op w).t + 1 }) rfl rfl) fun H' h' f => ?_)
    exact ref18_Deque_pop.J0_step (hK H' h' ((Fq.setD.trans .setD).trans f))
  · have ed : decide (s.top = (s.op w).t) = false := decide_eq_false e
    rw [if_neg e, ed] at hK
    rw [ed] at h1 ⊢
    rw [if_neg e]
    refine ref18_Deque_pop.J1_step (Rsee h1 fun H' h' f => ?_)
    exact ref18_Deque_pop.J0_step (hK H' h' (Fq.setD.trans f))
theorem Rsteal4 {at_ : Int} (h : Rq H r s) (hw : w < 65) (h1 : at_ ≠ 1) (h2 : at_ ≠ 2) (h3 : at_ ≠ 3) (hb : wr .i64 ((s.op w).t + 1) = (s.op w).t + 1) (hK : ∀ H', Rq H' r (ro (racc { s with top := if s.top = (s.op w).t then (s.op w).t + 1 else s.top } w (-1000) true) w z6) → Fq r s.ip H H' → K (.tup [Bo true, I (if s.top = (s.op w).t then (s.op w).x else 0), Bo (decide (s.top = (s.op w).t))]) H') : callK Try.prog σ n_ref18_Deque_steal [.ptr r 0, I w, I at_, .ptr r (4 + w * 6)] H K := by
  refine ref18_Deque_steal.run ?_
  simp [h1, h2, h3, h.hd, rd_f2 _ hw, hb]
  by_cases e : s.top = (s.op w).t
  · have ed : decide (s.top = (s.op w).t) = true := decide_eq_true e
    rw [if_pos e, if_pos e, ed] at hK
    rw [if_pos e, ed]
    refine ref18_Deque_steal.J1_step (Rsee (h.setD (s' := { s with top := (s.op w).t + 1 }) rfl rfl) fun H' h' f => ?_)
    refine Rend h' hw fun H2 h2 f2 => ?_
    simpa using hK H2 h2 ((Fq.setD.trans f).trans f2)
  · have ed : decide (s.top = (s.op w).t) = false := decide_eq_false e
    rw [if_neg e, if_neg e, ed] at hK
    rw [if_neg e, ed]
    refine ref18_Deque_steal.J1_step (Rsee h fun H' h' f => ?_)
    refine Rend h' hw fun H2 h2 f2 => ?_
    simpa using hK H2 h2 (f.trans f2)
theorem Rpush3 (h : Rq H r s) (hw : w < 65) (h0 : 0 ≤ (s.op w).b) (hn : s.pl.length ≠ 0) (hm : s.pl.length ≤ 1000000) (hK : ∀ H', Rq H' r (racc { s with pl := s.pl.set ((s.op w).b.tmod s.pl.length).toNat (s.op w).x } w (-1002 - (s.op w).b.tmod s.pl.length) true) → Fq r s.ip H H' → K (.tup [Bo false, I 0, Bo false]) H') : callK Try.prog σ n_ref18_Deque_push [.ptr r 0, I w, I 3, .ptr r (4 + w * 6)] H K := by
  refine ref18_Deque_push.run ?_
  obtain ⟨i0, i1⟩ := tm_in h0 hn
  have hlt : ((s.op w).b.tmod s.pl.length).toNat < s.pl.length := by omega
  have hlt1 : ((s.op w).b.tmod s.pl.length).toNat + 1 ≤ (s.pl.map I).length := by rw [List.length_map]; exact hlt
  have e : wr .i64 (-1002 - (s.op w).b.tmod s.pl.length) = -1002 - (s.op w).b.tmod s.pl.length := wr64 (by omega) (by omega)
  simp only [b_eql, bnd_some, ifB_lit, show ¬ (3 : Int) = 1 by decide, show ¬ (3 : Int) = 2 by decide, decide_false, decide_true, Bool.false_eq_true, if_false, if_true, n_ptr, sh_ptr, ld_ptr, h.hd, ldO_cells, rd_f3 _ hw]
  refine Rmod h hn ?_
  have hl1 : ((s.op w).b.tmod s.pl.length).toNat < (s.pl.map I).length := by simpa using hlt
  simp only [bnd_some, n_ptr, sh_ptr, ld_ptr, h.hd, ldO_cells, Nat.zero_add, rd_3, rd_f4 _ hw, pl_ixR i0 i1, st_int, h.hp, stO_cells, List.length_cons, List.length_nil, hlt1, b_sub, e]
  simp
  rw [ov_set hl1, ← List.map_set]
  refine Rsee (h.setP (p := s.pl.set ((s.op w).b.tmod s.pl.length).toNat (s.op w).x) (by simp)) fun H' h' f => ?_
  exact ref18_Deque_push.J0_step (u_ := ()) (hK H' h' (Fq.setP.trans f))
end
end Go.Proofs.Ytnloolhaojoimaa.Ev
namespace Go.Proofs.Ytnloolhaojoimaa.Ev
set_option linter.unusedVariables false
set_option linter.unusedSimpArgs false
variable {σ : Sig} {H : Hp} {r w : Nat} {s : RS} {K : AV → Hp → Prop}
theorem RStep_no {v : Int} (h : Rq H r s) (hb : (decide (0 ≤ v) && (decide (v ≤ 64) && !decide ((s.op v.toNat).kd = 0))) = false) (hK : K (.tup [Bo false, I 0, Bo false]) H) : callK Try.prog σ n_ref18_Deque_Step [.ptr r 0, I v] H K := by
  refine ref18_Deque_Step.run (RBusy_sp h ?_)
  rw [hb]
  simpa using hK
theorem RStep_go (h : Rq H r s) (hw : w < 65) (hk : (s.op w).kd ≠ 0) (hb : wr .i64 ((s.op w).st + 1) = (s.op w).st + 1)
    (hK : ∀ H', Rq H' r (ro s w { s.op w with st := (s.op w).st + 1 }) → Fq r s.ip H H' → callK Try.prog σ (if (s.op w).kd = 1 then n_ref18_Deque_push else if (s.op w).kd = 2 then n_ref18_Deque_pop else n_ref18_Deque_steal) [.ptr r 0, I w, I (s.op w).st, .ptr r (4 + w * 6)] H' fun y H2 => bnd (exR y 0) fun a => bnd (exR y 1) fun b => bnd (exR y 2) fun c => K (.tup [a, b, c]) H2) :
    callK Try.prog σ n_ref18_Deque_Step [.ptr r 0, I w] H K := by
  refine ref18_Deque_Step.run (RBusy_sp h ?_)
  have h0 : (0 : Int) ≤ w := by omega
  have h1 : (w : Int) ≤ 64 := by omega
  have hl : 4 + w * 6 + 1 + 1 ≤ 398 := by omega
  have h2 := h.setD (s' := ro s w { s.op w with st := (s.op w).st + 1 }) rfl rfl
  have k := hK _ h2 .setD
  have f0 := rd_f0 (ro s w { s.op w with st := (s.op w).st + 1 }) hw
  simp only [ro, up6_same] at f0
  simp [h0, h1, hk, ix656 hw, h.hd, rd_f1 _ hw, hb, hl, rd_k1 s hw, f0]
  by_cases k1 : (s.op w).kd = 1
  · rw [if_pos k1] at k ⊢
    exact k
  · rw [if_neg k1] at k ⊢
    by_cases k2 : (s.op w).kd = 2
    · rw [if_pos k2] at k ⊢
      exact k
    · rw [if_neg k2] at k ⊢
      exact k
end Go.Proofs.Ytnloolhaojoimaa.Ev
namespace Go.Proofs.Ytnloolhaojoimaa.Ev
set_option linter.unusedVariables false
set_option linter.unusedSimpArgs false
variable {σ : Sig} {H : Hp} {r w : Nat} {s : RS} {K : AV → Hp → Prop}
theorem RLen (h : Rq H r s) (hb : wr .i64 (s.bot - s.top) = s.bot - s.top) (hK : K (I (if s.bot < s.top then 0 else s.bot - s.top)) H) : callK Try.prog σ n_ref18_Deque_Len [.ptr r 0] H K := by
  refine ref18_Deque_Len.run ?_
  simp [h.hd, hb]
  by_cases e : s.bot < s.top
  · rw [if_pos e] at hK ⊢; exact hK
  · rw [if_neg e] at hK ⊢; exact hK
theorem RBegin_no {v k x : Int} (h : Rq H r s) (hb : v < 0 ∨ 64 < v ∨ (s.op v.toNat).kd ≠ 0 ∨ stepsF v k = none) (hK : K (I 1) H) : callK Try.prog σ n_ref18_Deque_Begin [.ptr r 0, I v, I k, I x] H K := by
  refine ref18_Deque_Begin.run (RBusy_sp h ?_)
  simp
  by_cases h0 : v < 0
  · simp [h0]; exact hK
  by_cases h1 : 64 < v
  · simp [h0, h1]; exact hK
  rw [if_neg h0, if_neg h1]
  by_cases h2 : (s.op v.toNat).kd = 0
  · have hs : stepsF v k = none := by
      rcases hb with h | h | h | h
      · omega
      · omega
      · exact absurd h2 h
      · exact h
    have a : 0 ≤ v := by omega
    have b : v ≤ 64 := by omega
    simp [h2, a, b]
    by_cases k1 : k < 1
    · simp [k1]; exact hK
    by_cases k3 : 3 < k
    · simp [k1, k3]; exact hK
    simp [k1, k3]
    unfold stepsF at hs
    have hne : ¬ (k = 3 ↔ 0 < v) := by
      intro hiff
      by_cases e3 : k = 3
      · have e0 := hiff.1 e3
        simp [e3, e0] at hs
      · have v0 : v = 0 := by
          have : ¬ 0 < v := fun e0 => e3 (hiff.2 e0)
          omega
        have : k = 1 ∨ k = 2 := by omega
        rcases this with rfl | rfl <;> simp [v0] at hs
    rw [if_neg hne]
    exact hK
  · have a : 0 ≤ v := by omega
    have b : v ≤ 64 := by omega
    simp [h2, a, b]
    exact hK
theorem RBegin_go {k x : Int} {g : Nat} (h : Rq H r s) (hw : w < 65) (h2 : (s.op w).kd = 0) (hs : stepsF w k = some g) (hK : ∀ H', Rq H' r (ro s w ⟨k, 1, 0, 0, if k = 1 then x else 0, false⟩) → Fq r s.ip H H' → K (I 0) H') : callK Try.prog σ n_ref18_Deque_Begin [.ptr r 0, I w, I k, I x] H K := by
  refine ref18_Deque_Begin.run (RBusy_sp h ?_)
  have h0 : ¬ (w : Int) < 0 := by omega
  have h1 : ¬ (64 : Int) < w := by omega
  have a : (0 : Int) ≤ w := by omega
  have b : (w : Int) ≤ 64 := by omega
  have hk : (k = 1 ∨ k = 2 ∨ k = 3) ∧ (k = 3 ↔ (0 : Int) < w) := by
    unfold stepsF at hs
    by_cases k1 : k = 1
    · subst k1
      by_cases e : (w : Int) = 0
      · exact ⟨.inl rfl, by omega⟩
      · simp [e] at hs; omega
    · by_cases k2 : k = 2
      · subst k2
        by_cases e : (w : Int) = 0
        · exact ⟨.inr (.inl rfl), by omega⟩
        · simp at hs; omega
      · by_cases k3 : k = 3
        · subst k3
          by_cases e : (0 : Int) < w
          · exact ⟨.inr (.inr rfl), by omega⟩
          · rw [if_neg (by omega), if_neg (by omega), if_neg (by omega)] at hs; cases hs
        · simp [k1, k2, k3] at hs
  have c1 : ¬ k < 1 := by omega
  have c3 : ¬ 3 < k := by omega
  have hl : 4 + w * 6 + 6 ≤ 398 := by omega
  have hl4 : 4 + w * 6 + 4 + 1 ≤ 398 := by omega
  have bl : bldR [I 0, I 0, I 0, I 0, I 0, Bo false] [(0, 1, I k), (1, 1, I 1), (4, 1, I x)] = some (r6 ⟨k, 1, 0, 0, x, false⟩) := rfl
  have e6 := rd_k6 s hw ⟨k, 1, 0, 0, x, false⟩
  have hone : ∀ o : R6, ∀ y ∈ r6 o, y.one = true := fun o y hy => List.all_eq_true.1 (show (r6 o).all AV.one = true from rfl) y hy
  have hq := h.setD (s' := ro s w ⟨k, 1, 0, 0, x, false⟩) rfl rfl
  simp [h0, h1, h2, a, b, c1, c3, hk.2, bl, ix656 hw, h.hd, hl, e6, hone]
  rw [if_pos (hone _), bnd_some]
  by_cases k1 : k = 1
  · rw [if_pos k1]
    refine ref18_Deque_Begin.J0_step (u_ := ()) (hK _ ?_ .setD)
    rw [if_pos k1]
    exact hq
  · rw [if_neg k1]
    have e4 := rd_k4 (ro s w ⟨k, 1, 0, 0, x, false⟩) hw 0
    simp only [ro, up6_same, up6_up6] at e4
    have hq2 := hq.setD (s' := ro s w ⟨k, 1, 0, 0, 0, false⟩) rfl rfl
    simp [hl4, e4]
    refine ref18_Deque_Begin.J0_step (u_ := ()) (hK _ ?_ (Fq.setD.trans .setD))
    rw [if_neg k1]
    exact hq2
end Go.Proofs.Ytnloolhaojoimaa.Ev
