/- What the types of the program are to the logic of V1 .. V25, and that its functions can be called: closed facts, printed by a program of mine. -/
import Derived.Test.YtgglheknmlfghaaV25
import Derived.Test.YtgglheknmlfghaaProg
import Derived.KernelRfl
namespace Go.V
open Go Go.Proofs
set_option maxRecDepth 100000
theorem mixed : Try.prog.follows .mixedOrders = true := by kernel_rfl
@[simp] theorem ti_1 : TI.of Try.prog 1 = some ⟨.other, 1, 8, false, [.nilFunc]⟩ := by kernel_rfl
@[simp] theorem ti_2 : TI.of Try.prog 2 = some ⟨.int .i64, 1, 8, false, [.int .i64 0]⟩ := by kernel_rfl
@[simp] theorem ti_3 : TI.of Try.prog 3 = some ⟨.int .i64, 1, 8, false, [.int .i64 0]⟩ := by kernel_rfl
@[simp] theorem ti_4 : TI.of Try.prog 4 = some ⟨.bool, 1, 1, false, [.bool false]⟩ := by kernel_rfl
@[simp] theorem ti_5 : TI.of Try.prog 5 = some ⟨.int .u8, 1, 1, false, [.int .u8 0]⟩ := by kernel_rfl
@[simp] theorem ti_6 : TI.of Try.prog 6 = some ⟨.int .u8, 1, 1, false, [.int .u8 0]⟩ := by kernel_rfl
@[simp] theorem ti_7 : TI.of Try.prog 7 = some ⟨.struct [(0, 1, false), (1, 1, false), (2, 1, false), (3, 1, false)], 4, 24, true, [.int .i64 0, .int .i64 0, .bool false, .int .u8 0]⟩ := by kernel_rfl
@[simp] theorem ti_8 : TI.of Try.prog 8 = some ⟨.struct [(0, 1, false), (1, 1, false), (2, 1, false), (3, 1, false)], 4, 24, true, [.int .i64 0, .int .i64 0, .bool false, .int .u8 0]⟩ := by kernel_rfl
@[simp] theorem ti_9 : TI.of Try.prog 9 = some ⟨.str, 1, 16, false, [.string ⟨#[]⟩]⟩ := by kernel_rfl
@[simp] theorem ti_10 : TI.of Try.prog 10 = some ⟨.str, 1, 16, false, [.string ⟨#[]⟩]⟩ := by kernel_rfl
@[simp] theorem ti_11 : TI.of Try.prog 11 = some ⟨.str, 1, 16, false, [.string ⟨#[]⟩]⟩ := by kernel_rfl
@[simp] theorem ti_12 : TI.of Try.prog 12 = some ⟨.int .u64, 1, 8, false, [.int .u64 0]⟩ := by kernel_rfl
@[simp] theorem ti_13 : TI.of Try.prog 13 = some ⟨.struct [(0, 1, false), (1, 1, false)], 2, 24, true, [.string ⟨#[]⟩, .int .u64 0]⟩ := by kernel_rfl
@[simp] theorem ti_14 : TI.of Try.prog 14 = some ⟨.struct [(0, 1, false), (1, 1, false)], 2, 24, true, [.string ⟨#[]⟩, .int .u64 0]⟩ := by kernel_rfl
@[simp] theorem ti_15 : TI.of Try.prog 15 = some ⟨.ptr 148, 1, 8, false, [.pointer none]⟩ := by kernel_rfl
@[simp] theorem ti_16 : TI.of Try.prog 16 = some ⟨.ptr 151, 1, 8, false, [.pointer none]⟩ := by kernel_rfl
@[simp] theorem ti_17 : TI.of Try.prog 17 = some ⟨.ptr 160, 1, 8, false, [.pointer none]⟩ := by kernel_rfl
@[simp] theorem ti_18 : TI.of Try.prog 18 = some ⟨.struct [(0, 1, false)], 1, 8, true, [.pointer none]⟩ := by kernel_rfl
@[simp] theorem ti_19 : TI.of Try.prog 19 = some ⟨.struct [(0, 1, false)], 1, 8, true, [.pointer none]⟩ := by kernel_rfl
@[simp] theorem ti_20 : TI.of Try.prog 20 = some ⟨.other, 1, 16, false, [.nilIface]⟩ := by kernel_rfl
@[simp] theorem ti_21 : TI.of Try.prog 21 = some ⟨.int .i32, 1, 4, false, [.int .i32 0]⟩ := by kernel_rfl
@[simp] theorem ti_22 : TI.of Try.prog 22 = some ⟨.slice 25, 1, 24, false, [.slice none 0 0]⟩ := by kernel_rfl
@[simp] theorem ti_23 : TI.of Try.prog 23 = some ⟨.slice 84, 1, 24, false, [.slice none 0 0]⟩ := by kernel_rfl
@[simp] theorem ti_24 : TI.of Try.prog 24 = some ⟨.struct [(0, 1, false)], 1, 24, true, [.slice none 0 0]⟩ := by kernel_rfl
@[simp] theorem ti_25 : TI.of Try.prog 25 = some ⟨.struct [(0, 1, false)], 1, 24, true, [.slice none 0 0]⟩ := by kernel_rfl
@[simp] theorem ti_26 : TI.of Try.prog 26 = some ⟨.other, 1, 8, false, [.nilFunc]⟩ := by kernel_rfl
@[simp] theorem ti_27 : TI.of Try.prog 27 = some ⟨.other, 1, 8, false, [.nilFunc]⟩ := by kernel_rfl
@[simp] theorem ti_28 : TI.of Try.prog 28 = some ⟨.int .i64, 1, 8, false, [.int .i64 0]⟩ := by kernel_rfl
@[simp] theorem ti_30 : TI.of Try.prog 30 = some ⟨.other, 1, 8, false, [.nilFunc]⟩ := by kernel_rfl
@[simp] theorem ti_31 : TI.of Try.prog 31 = some ⟨.slice 62, 1, 24, false, [.slice none 0 0]⟩ := by kernel_rfl
@[simp] theorem ti_32 : TI.of Try.prog 32 = some ⟨.struct [(0, 1, false)], 1, 24, true, [.slice none 0 0]⟩ := by kernel_rfl
@[simp] theorem ti_33 : TI.of Try.prog 33 = some ⟨.struct [(0, 1, false)], 1, 24, true, [.slice none 0 0]⟩ := by kernel_rfl
@[simp] theorem ti_34 : TI.of Try.prog 34 = some ⟨.slice 64, 1, 24, false, [.slice none 0 0]⟩ := by kernel_rfl
@[simp] theorem ti_35 : TI.of Try.prog 35 = some ⟨.slice 161, 1, 24, false, [.slice none 0 0]⟩ := by kernel_rfl
@[simp] theorem ti_36 : TI.of Try.prog 36 = some ⟨.struct [(0, 1, false), (1, 1, false), (2, 1, false)], 3, 64, true, [.string ⟨#[]⟩, .slice none 0 0, .slice none 0 0]⟩ := by kernel_rfl
@[simp] theorem ti_37 : TI.of Try.prog 37 = some ⟨.struct [(0, 1, false), (1, 1, false), (2, 1, false)], 3, 64, true, [.string ⟨#[]⟩, .slice none 0 0, .slice none 0 0]⟩ := by kernel_rfl
@[simp] theorem ti_38 : TI.of Try.prog 38 = some ⟨.slice 69, 1, 24, false, [.slice none 0 0]⟩ := by kernel_rfl
@[simp] theorem ti_39 : TI.of Try.prog 39 = some ⟨.slice 71, 1, 24, false, [.slice none 0 0]⟩ := by kernel_rfl
@[simp] theorem ti_40 : TI.of Try.prog 40 = some ⟨.slice 3, 1, 24, false, [.slice none 0 0]⟩ := by kernel_rfl
@[simp] theorem ti_41 : TI.of Try.prog 41 = some ⟨.struct [(0, 1, false), (1, 1, false), (2, 1, false)], 3, 56, true, [.int .i64 0, .slice none 0 0, .slice none 0 0]⟩ := by kernel_rfl
@[simp] theorem ti_42 : TI.of Try.prog 42 = some ⟨.struct [(0, 1, false), (1, 1, false), (2, 1, false)], 3, 56, true, [.int .i64 0, .slice none 0 0, .slice none 0 0]⟩ := by kernel_rfl
@[simp] theorem ti_43 : TI.of Try.prog 43 = some ⟨.slice 78, 1, 24, false, [.slice none 0 0]⟩ := by kernel_rfl
@[simp] theorem ti_44 : TI.of Try.prog 44 = some ⟨.struct [(0, 1, true), (1, 3, true), (4, 1, false), (5, 3, true), (8, 1, false)], 9, 192, true, [.slice none 0 0, .string ⟨#[]⟩, .slice none 0 0, .slice none 0 0, .slice none 0 0, .int .i64 0, .slice none 0 0, .slice none 0 0, .slice none 0 0]⟩ := by kernel_rfl
@[simp] theorem ti_45 : TI.of Try.prog 45 = some ⟨.struct [(0, 1, true), (1, 3, true), (4, 1, false), (5, 3, true), (8, 1, false)], 9, 192, true, [.slice none 0 0, .string ⟨#[]⟩, .slice none 0 0, .slice none 0 0, .slice none 0 0, .int .i64 0, .slice none 0 0, .slice none 0 0, .slice none 0 0]⟩ := by kernel_rfl
@[simp] theorem ti_46 : TI.of Try.prog 46 = some ⟨.other, 1, 8, false, [.nilFunc]⟩ := by kernel_rfl
@[simp] theorem ti_47 : TI.of Try.prog 47 = some ⟨.other, 1, 8, false, [.nilFunc]⟩ := by kernel_rfl
@[simp] theorem ti_48 : TI.of Try.prog 48 = some ⟨.slice 40, 1, 24, false, [.slice none 0 0]⟩ := by kernel_rfl
@[simp] theorem ti_49 : TI.of Try.prog 49 = some ⟨.other, 1, 8, false, [.nilFunc]⟩ := by kernel_rfl
@[simp] theorem ti_50 : TI.of Try.prog 50 = some ⟨.other, 1, 8, false, [.nilFunc]⟩ := by kernel_rfl
@[simp] theorem ti_51 : TI.of Try.prog 51 = some ⟨.other, 1, 8, false, [.nilFunc]⟩ := by kernel_rfl
@[simp] theorem ti_52 : TI.of Try.prog 52 = some ⟨.other, 1, 8, false, [.nilFunc]⟩ := by kernel_rfl
@[simp] theorem ti_53 : TI.of Try.prog 53 = some ⟨.other, 1, 8, false, [.nilFunc]⟩ := by kernel_rfl
@[simp] theorem ti_54 : TI.of Try.prog 54 = some ⟨.other, 1, 8, false, [.nilFunc]⟩ := by kernel_rfl
@[simp] theorem ti_55 : TI.of Try.prog 55 = some ⟨.other, 1, 8, false, [.nilFunc]⟩ := by kernel_rfl
@[simp] theorem ti_56 : TI.of Try.prog 56 = some ⟨.other, 1, 8, false, [.nilFunc]⟩ := by kernel_rfl
@[simp] theorem ti_57 : TI.of Try.prog 57 = some ⟨.other, 1, 8, false, [.nilFunc]⟩ := by kernel_rfl
@[simp] theorem ti_58 : TI.of Try.prog 58 = some ⟨.other, 1, 8, false, [.nilFunc]⟩ := by kernel_rfl
@[simp] theorem ti_59 : TI.of Try.prog 59 = some ⟨.other, 1, 8, false, [.nilFunc]⟩ := by kernel_rfl
@[simp] theorem ti_60 : TI.of Try.prog 60 = some ⟨.other, 1, 8, false, [.nilFunc]⟩ := by kernel_rfl
@[simp] theorem ti_61 : TI.of Try.prog 61 = some ⟨.struct [(0, 1, false), (1, 1, false)], 2, 24, true, [.string ⟨#[]⟩, .int .i64 0]⟩ := by kernel_rfl
@[simp] theorem ti_62 : TI.of Try.prog 62 = some ⟨.struct [(0, 1, false), (1, 1, false)], 2, 24, true, [.string ⟨#[]⟩, .int .i64 0]⟩ := by kernel_rfl
@[simp] theorem ti_63 : TI.of Try.prog 63 = some ⟨.struct [(0, 1, false), (1, 1, false)], 2, 40, true, [.string ⟨#[]⟩, .slice none 0 0]⟩ := by kernel_rfl
@[simp] theorem ti_64 : TI.of Try.prog 64 = some ⟨.struct [(0, 1, false), (1, 1, false)], 2, 40, true, [.string ⟨#[]⟩, .slice none 0 0]⟩ := by kernel_rfl
@[simp] theorem ti_65 : TI.of Try.prog 65 = some ⟨.struct [(0, 1, false), (1, 1, false)], 2, 16, true, [.int .i64 0, .int .i64 0]⟩ := by kernel_rfl
@[simp] theorem ti_66 : TI.of Try.prog 66 = some ⟨.struct [(0, 1, false), (1, 1, false)], 2, 16, true, [.int .i64 0, .int .i64 0]⟩ := by kernel_rfl
@[simp] theorem ti_67 : TI.of Try.prog 67 = some ⟨.slice 66, 1, 24, false, [.slice none 0 0]⟩ := by kernel_rfl
@[simp] theorem ti_68 : TI.of Try.prog 68 = some ⟨.struct [(0, 1, false), (1, 1, false), (2, 1, false), (3, 1, false), (4, 1, false), (5, 1, false)], 6, 104, true, [.slice none 0 0, .slice none 0 0, .slice none 0 0, .slice none 0 0, .bool false, .bool false]⟩ := by kernel_rfl
@[simp] theorem ti_69 : TI.of Try.prog 69 = some ⟨.struct [(0, 1, false), (1, 1, false), (2, 1, false), (3, 1, false), (4, 1, false), (5, 1, false)], 6, 104, true, [.slice none 0 0, .slice none 0 0, .slice none 0 0, .slice none 0 0, .bool false, .bool false]⟩ := by kernel_rfl
@[simp] theorem ti_70 : TI.of Try.prog 70 = some ⟨.struct [(0, 1, false), (1, 1, false), (2, 1, false)], 3, 24, true, [.int .i64 0, .int .i64 0, .int .i64 0]⟩ := by kernel_rfl
@[simp] theorem ti_71 : TI.of Try.prog 71 = some ⟨.struct [(0, 1, false), (1, 1, false), (2, 1, false)], 3, 24, true, [.int .i64 0, .int .i64 0, .int .i64 0]⟩ := by kernel_rfl
@[simp] theorem ti_72 : TI.of Try.prog 72 = some ⟨.struct [(0, 1, false), (1, 1, false)], 2, 32, true, [.string ⟨#[]⟩, .string ⟨#[]⟩]⟩ := by kernel_rfl
@[simp] theorem ti_73 : TI.of Try.prog 73 = some ⟨.struct [(0, 1, false), (1, 1, false)], 2, 32, true, [.string ⟨#[]⟩, .string ⟨#[]⟩]⟩ := by kernel_rfl
@[simp] theorem ti_74 : TI.of Try.prog 74 = some ⟨.slice 73, 1, 24, false, [.slice none 0 0]⟩ := by kernel_rfl
@[simp] theorem ti_75 : TI.of Try.prog 75 = some ⟨.slice 163, 1, 24, false, [.slice none 0 0]⟩ := by kernel_rfl
@[simp] theorem ti_76 : TI.of Try.prog 76 = some ⟨.slice 165, 1, 24, false, [.slice none 0 0]⟩ := by kernel_rfl
@[simp] theorem ti_77 : TI.of Try.prog 77 = some ⟨.struct [(0, 1, false), (1, 1, false), (2, 1, false), (3, 1, false), (4, 1, false), (5, 1, false), (6, 1, false), (7, 1, false)], 8, 144, true, [.int .i64 0, .slice none 0 0, .int .i64 0, .slice none 0 0, .int .i64 0, .slice none 0 0, .slice none 0 0, .slice none 0 0]⟩ := by kernel_rfl
@[simp] theorem ti_78 : TI.of Try.prog 78 = some ⟨.struct [(0, 1, false), (1, 1, false), (2, 1, false), (3, 1, false), (4, 1, false), (5, 1, false), (6, 1, false), (7, 1, false)], 8, 144, true, [.int .i64 0, .slice none 0 0, .int .i64 0, .slice none 0 0, .int .i64 0, .slice none 0 0, .slice none 0 0, .slice none 0 0]⟩ := by kernel_rfl
@[simp] theorem ti_80 : TI.of Try.prog 80 = some ⟨.other, 1, 8, false, [.nilFunc]⟩ := by kernel_rfl
@[simp] theorem ti_81 : TI.of Try.prog 81 = some ⟨.map 9 4, 1, 8, false, [.map none]⟩ := by kernel_rfl
@[simp] theorem ti_82 : TI.of Try.prog 82 = some ⟨.other, 1, 8, false, [.nilFunc]⟩ := by kernel_rfl
@[simp] theorem ti_83 : TI.of Try.prog 83 = some ⟨.struct [(0, 1, false), (1, 1, false), (2, 1, false)], 3, 24, true, [.int .i64 0, .int .i64 0, .int .i64 0]⟩ := by kernel_rfl
@[simp] theorem ti_84 : TI.of Try.prog 84 = some ⟨.struct [(0, 1, false), (1, 1, false), (2, 1, false)], 3, 24, true, [.int .i64 0, .int .i64 0, .int .i64 0]⟩ := by kernel_rfl
@[simp] theorem ti_86 : TI.of Try.prog 86 = some ⟨.other, 1, 8, false, [.nilFunc]⟩ := by kernel_rfl
@[simp] theorem ti_87 : TI.of Try.prog 87 = some ⟨.other, 1, 8, false, [.nilFunc]⟩ := by kernel_rfl
@[simp] theorem ti_88 : TI.of Try.prog 88 = some ⟨.other, 1, 8, false, [.nilFunc]⟩ := by kernel_rfl
@[simp] theorem ti_89 : TI.of Try.prog 89 = some ⟨.other, 1, 8, false, [.nilFunc]⟩ := by kernel_rfl
@[simp] theorem ti_90 : TI.of Try.prog 90 = some ⟨.other, 1, 8, false, [.nilFunc]⟩ := by kernel_rfl
@[simp] theorem ti_91 : TI.of Try.prog 91 = some ⟨.other, 1, 8, false, [.nilFunc]⟩ := by kernel_rfl
@[simp] theorem ti_92 : TI.of Try.prog 92 = some ⟨.other, 1, 8, false, [.nilFunc]⟩ := by kernel_rfl
@[simp] theorem ti_93 : TI.of Try.prog 93 = some ⟨.ptr 97, 1, 8, false, [.pointer none]⟩ := by kernel_rfl
@[simp] theorem ti_94 : TI.of Try.prog 94 = some ⟨.other, 1, 8, false, [.nilFunc]⟩ := by kernel_rfl
@[simp] theorem ti_95 : TI.of Try.prog 95 = some ⟨.int .u32, 1, 4, false, [.int .u32 0]⟩ := by kernel_rfl
@[simp] theorem ti_96 : TI.of Try.prog 96 = some ⟨.struct [(0, 9, true), (9, 1, false), (10, 1, false), (11, 1, false), (12, 1, false), (13, 1, false)], 14, 240, true, [.slice none 0 0, .string ⟨#[]⟩, .slice none 0 0, .slice none 0 0, .slice none 0 0, .int .i64 0, .slice none 0 0, .slice none 0 0, .slice none 0 0, .slice none 0 0, .bool false, .int .u32 0, .map none, .nilFunc]⟩ := by kernel_rfl
@[simp] theorem ti_97 : TI.of Try.prog 97 = some ⟨.struct [(0, 9, true), (9, 1, false), (10, 1, false), (11, 1, false), (12, 1, false), (13, 1, false)], 14, 240, true, [.slice none 0 0, .string ⟨#[]⟩, .slice none 0 0, .slice none 0 0, .slice none 0 0, .int .i64 0, .slice none 0 0, .slice none 0 0, .slice none 0 0, .slice none 0 0, .bool false, .int .u32 0, .map none, .nilFunc]⟩ := by kernel_rfl
@[simp] theorem ti_98 : TI.of Try.prog 98 = some ⟨.other, 1, 8, false, [.nilFunc]⟩ := by kernel_rfl
@[simp] theorem ti_99 : TI.of Try.prog 99 = some ⟨.other, 1, 8, false, [.nilFunc]⟩ := by kernel_rfl
@[simp] theorem ti_101 : TI.of Try.prog 101 = some ⟨.other, 1, 8, false, [.nilFunc]⟩ := by kernel_rfl
@[simp] theorem ti_102 : TI.of Try.prog 102 = some ⟨.slice 5, 1, 24, false, [.slice none 0 0]⟩ := by kernel_rfl
@[simp] theorem ti_103 : TI.of Try.prog 103 = some ⟨.other, 1, 8, false, [.nilFunc]⟩ := by kernel_rfl
@[simp] theorem ti_104 : TI.of Try.prog 104 = some ⟨.other, 1, 8, false, [.nilFunc]⟩ := by kernel_rfl
@[simp] theorem ti_105 : TI.of Try.prog 105 = some ⟨.other, 1, 8, false, [.nilFunc]⟩ := by kernel_rfl
@[simp] theorem ti_106 : TI.of Try.prog 106 = some ⟨.other, 1, 8, false, [.nilFunc]⟩ := by kernel_rfl
@[simp] theorem ti_107 : TI.of Try.prog 107 = some ⟨.other, 1, 8, false, [.nilFunc]⟩ := by kernel_rfl
@[simp] theorem ti_108 : TI.of Try.prog 108 = some ⟨.other, 1, 8, false, [.nilFunc]⟩ := by kernel_rfl
@[simp] theorem ti_109 : TI.of Try.prog 109 = some ⟨.other, 1, 8, false, [.nilFunc]⟩ := by kernel_rfl
@[simp] theorem ti_110 : TI.of Try.prog 110 = some ⟨.other, 1, 8, false, [.nilFunc]⟩ := by kernel_rfl
@[simp] theorem ti_111 : TI.of Try.prog 111 = some ⟨.other, 1, 8, false, [.nilFunc]⟩ := by kernel_rfl
@[simp] theorem ti_112 : TI.of Try.prog 112 = some ⟨.other, 1, 8, false, [.nilFunc]⟩ := by kernel_rfl
@[simp] theorem ti_113 : TI.of Try.prog 113 = some ⟨.other, 1, 8, false, [.nilFunc]⟩ := by kernel_rfl
@[simp] theorem ti_114 : TI.of Try.prog 114 = some ⟨.other, 1, 8, false, [.nilFunc]⟩ := by kernel_rfl
@[simp] theorem ti_115 : TI.of Try.prog 115 = some ⟨.other, 1, 8, false, [.nilFunc]⟩ := by kernel_rfl
@[simp] theorem ti_116 : TI.of Try.prog 116 = some ⟨.other, 1, 8, false, [.nilFunc]⟩ := by kernel_rfl
@[simp] theorem ti_117 : TI.of Try.prog 117 = some ⟨.other, 1, 8, false, [.nilFunc]⟩ := by kernel_rfl
@[simp] theorem ti_119 : TI.of Try.prog 119 = some ⟨.other, 1, 8, false, [.nilFunc]⟩ := by kernel_rfl
@[simp] theorem ti_121 : TI.of Try.prog 121 = some ⟨.other, 1, 8, false, [.nilFunc]⟩ := by kernel_rfl
@[simp] theorem ti_122 : TI.of Try.prog 122 = some ⟨.other, 1, 8, false, [.nilFunc]⟩ := by kernel_rfl
@[simp] theorem ti_123 : TI.of Try.prog 123 = some ⟨.other, 1, 8, false, [.nilFunc]⟩ := by kernel_rfl
@[simp] theorem ti_125 : TI.of Try.prog 125 = some ⟨.other, 1, 8, false, [.nilFunc]⟩ := by kernel_rfl
@[simp] theorem ti_126 : TI.of Try.prog 126 = some ⟨.other, 1, 8, false, [.nilFunc]⟩ := by kernel_rfl
@[simp] theorem ti_127 : TI.of Try.prog 127 = some ⟨.other, 1, 8, false, [.nilFunc]⟩ := by kernel_rfl
@[simp] theorem ti_128 : TI.of Try.prog 128 = some ⟨.int .u32, 1, 4, false, [.int .u32 0]⟩ := by kernel_rfl
@[simp] theorem ti_129 : TI.of Try.prog 129 = some ⟨.other, 1, 8, false, [.nilFunc]⟩ := by kernel_rfl
@[simp] theorem ti_130 : TI.of Try.prog 130 = some ⟨.other, 1, 8, false, [.nilFunc]⟩ := by kernel_rfl
@[simp] theorem ti_131 : TI.of Try.prog 131 = some ⟨.other, 1, 8, false, [.nilFunc]⟩ := by kernel_rfl
@[simp] theorem ti_132 : TI.of Try.prog 132 = some ⟨.other, 1, 8, false, [.nilFunc]⟩ := by kernel_rfl
@[simp] theorem ti_133 : TI.of Try.prog 133 = some ⟨.other, 1, 8, false, [.nilFunc]⟩ := by kernel_rfl
@[simp] theorem ti_134 : TI.of Try.prog 134 = some ⟨.other, 1, 8, false, [.nilFunc]⟩ := by kernel_rfl
@[simp] theorem ti_135 : TI.of Try.prog 135 = some ⟨.other, 1, 8, false, [.nilFunc]⟩ := by kernel_rfl
@[simp] theorem ti_136 : TI.of Try.prog 136 = some ⟨.other, 1, 8, false, [.nilFunc]⟩ := by kernel_rfl
@[simp] theorem ti_137 : TI.of Try.prog 137 = some ⟨.other, 1, 8, false, [.nilFunc]⟩ := by kernel_rfl
@[simp] theorem ti_138 : TI.of Try.prog 138 = some ⟨.struct [(0, 1, true), (1, 1, false)], 2, 48, true, [.slice none 0 0, .slice none 0 0]⟩ := by kernel_rfl
@[simp] theorem ti_139 : TI.of Try.prog 139 = some ⟨.struct [(0, 1, true), (1, 1, false)], 2, 48, true, [.slice none 0 0, .slice none 0 0]⟩ := by kernel_rfl
@[simp] theorem ti_140 : TI.of Try.prog 140 = some ⟨.other, 1, 8, false, [.nilFunc]⟩ := by kernel_rfl
@[simp] theorem ti_141 : TI.of Try.prog 141 = some ⟨.other, 1, 8, false, [.nilFunc]⟩ := by kernel_rfl
@[simp] theorem ti_142 : TI.of Try.prog 142 = some ⟨.other, 1, 8, false, [.nilFunc]⟩ := by kernel_rfl
@[simp] theorem ti_143 : TI.of Try.prog 143 = some ⟨.int .u64, 1, 8, false, [.int .u64 0]⟩ := by kernel_rfl
@[simp] theorem ti_144 : TI.of Try.prog 144 = some ⟨.other, 1, 8, false, [.nilFunc]⟩ := by kernel_rfl
@[simp] theorem ti_145 : TI.of Try.prog 145 = some ⟨.other, 1, 8, false, [.nilFunc]⟩ := by kernel_rfl
@[simp] theorem ti_146 : TI.of Try.prog 146 = some ⟨.other, 1, 8, false, [.nilFunc]⟩ := by kernel_rfl
@[simp] theorem ti_147 : TI.of Try.prog 147 = some ⟨.struct [(0, 1, false), (1, 1, false), (2, 1, false), (3, 1, false)], 4, 40, true, [.pointer none, .pointer none, .pointer none, .string ⟨#[]⟩]⟩ := by kernel_rfl
@[simp] theorem ti_148 : TI.of Try.prog 148 = some ⟨.struct [(0, 1, false), (1, 1, false), (2, 1, false), (3, 1, false)], 4, 40, true, [.pointer none, .pointer none, .pointer none, .string ⟨#[]⟩]⟩ := by kernel_rfl
@[simp] theorem ti_149 : TI.of Try.prog 149 = some ⟨.other, 0, 0, true, []⟩ := by kernel_rfl
@[simp] theorem ti_150 : TI.of Try.prog 150 = some ⟨.struct [(0, 0, true)], 0, 0, true, []⟩ := by kernel_rfl
@[simp] theorem ti_151 : TI.of Try.prog 151 = some ⟨.struct [(0, 0, true)], 0, 0, true, []⟩ := by kernel_rfl
@[simp] theorem ti_152 : TI.of Try.prog 152 = some ⟨.other, 1, 8, false, [.nilFunc]⟩ := by kernel_rfl
@[simp] theorem ti_153 : TI.of Try.prog 153 = some ⟨.int .u8, 1, 1, false, [.int .u8 0]⟩ := by kernel_rfl
@[simp] theorem ti_154 : TI.of Try.prog 154 = some ⟨.int .u8, 1, 1, false, [.int .u8 0]⟩ := by kernel_rfl
@[simp] theorem ti_155 : TI.of Try.prog 155 = some ⟨.other, 1, 8, false, [.nilFunc]⟩ := by kernel_rfl
@[simp] theorem ti_156 : TI.of Try.prog 156 = some ⟨.ptr 5, 1, 8, false, [.pointer none]⟩ := by kernel_rfl
@[simp] theorem ti_157 : TI.of Try.prog 157 = some ⟨.int .i32, 1, 4, false, [.int .i32 0]⟩ := by kernel_rfl
@[simp] theorem ti_158 : TI.of Try.prog 158 = some ⟨.int .i32, 1, 4, false, [.int .i32 0]⟩ := by kernel_rfl
@[simp] theorem ti_159 : TI.of Try.prog 159 = some ⟨.struct [(0, 1, false), (1, 1, false), (2, 1, false), (3, 1, false), (4, 1, false), (5, 1, false), (6, 1, false), (7, 1, false), (8, 1, false), (9, 1, false), (10, 1, false)], 11, 48, true, [.int .u64 0, .int .u64 0, .int .u32 0, .int .u8 0, .int .u8 0, .int .u8 0, .int .u8 0, .nilFunc, .pointer none, .int .i32 0, .int .i32 0]⟩ := by kernel_rfl
@[simp] theorem ti_160 : TI.of Try.prog 160 = some ⟨.struct [(0, 1, false), (1, 1, false), (2, 1, false), (3, 1, false), (4, 1, false), (5, 1, false), (6, 1, false), (7, 1, false), (8, 1, false), (9, 1, false), (10, 1, false)], 11, 48, true, [.int .u64 0, .int .u64 0, .int .u32 0, .int .u8 0, .int .u8 0, .int .u8 0, .int .u8 0, .nilFunc, .pointer none, .int .i32 0, .int .i32 0]⟩ := by kernel_rfl
@[simp] theorem ti_161 : TI.of Try.prog 161 = some ⟨.slice 9, 1, 24, false, [.slice none 0 0]⟩ := by kernel_rfl
@[simp] theorem ti_162 : TI.of Try.prog 162 = some ⟨.struct [(0, 1, false), (1, 1, false)], 2, 16, true, [.int .i64 0, .int .i64 0]⟩ := by kernel_rfl
@[simp] theorem ti_163 : TI.of Try.prog 163 = some ⟨.struct [(0, 1, false), (1, 1, false)], 2, 16, true, [.int .i64 0, .int .i64 0]⟩ := by kernel_rfl
@[simp] theorem ti_164 : TI.of Try.prog 164 = some ⟨.struct [(0, 1, false), (1, 1, false)], 2, 16, true, [.int .i64 0, .int .i64 0]⟩ := by kernel_rfl
@[simp] theorem ti_165 : TI.of Try.prog 165 = some ⟨.struct [(0, 1, false), (1, 1, false)], 2, 16, true, [.int .i64 0, .int .i64 0]⟩ := by kernel_rfl
@[simp] theorem ti_166 : TI.of Try.prog 166 = some ⟨.other, 1, 8, false, [.pointer none]⟩ := by kernel_rfl
@[simp] theorem zf_4 : zfit Try.prog 4 = true := by kernel_rfl
@[simp] theorem ek_7 : eqKinds Try.prog 7 = some [.int .i64, .int .i64, .bool, .int .u8] := by kernel_rfl
@[simp] theorem ek_8 : eqKinds Try.prog 8 = some [.int .i64, .int .i64, .bool, .int .u8] := by kernel_rfl
@[simp] theorem ek_61 : eqKinds Try.prog 61 = some [.str, .int .i64] := by kernel_rfl
@[simp] theorem ek_62 : eqKinds Try.prog 62 = some [.str, .int .i64] := by kernel_rfl
@[simp] theorem ek_65 : eqKinds Try.prog 65 = some [.int .i64, .int .i64] := by kernel_rfl
@[simp] theorem ek_66 : eqKinds Try.prog 66 = some [.int .i64, .int .i64] := by kernel_rfl
@[simp] theorem ek_70 : eqKinds Try.prog 70 = some [.int .i64, .int .i64, .int .i64] := by kernel_rfl
@[simp] theorem ek_71 : eqKinds Try.prog 71 = some [.int .i64, .int .i64, .int .i64] := by kernel_rfl
@[simp] theorem ek_72 : eqKinds Try.prog 72 = some [.str, .str] := by kernel_rfl
@[simp] theorem ek_73 : eqKinds Try.prog 73 = some [.str, .str] := by kernel_rfl
@[simp] theorem ek_83 : eqKinds Try.prog 83 = some [.int .i64, .int .i64, .int .i64] := by kernel_rfl
@[simp] theorem ek_84 : eqKinds Try.prog 84 = some [.int .i64, .int .i64, .int .i64] := by kernel_rfl
@[simp] theorem ek_162 : eqKinds Try.prog 162 = some [.int .i64, .int .i64] := by kernel_rfl
@[simp] theorem ek_163 : eqKinds Try.prog 163 = some [.int .i64, .int .i64] := by kernel_rfl
@[simp] theorem ek_164 : eqKinds Try.prog 164 = some [.int .i64, .int .i64] := by kernel_rfl
@[simp] theorem ek_165 : eqKinds Try.prog 165 = some [.int .i64, .int .i64] := by kernel_rfl
theorem call_2 : callable Try.prog 2 = true := by kernel_rfl
theorem call_3 : callable Try.prog 3 = true := by kernel_rfl
theorem call_4 : callable Try.prog 4 = true := by kernel_rfl
theorem call_5 : callable Try.prog 5 = true := by kernel_rfl
theorem call_6 : callable Try.prog 6 = true := by kernel_rfl
theorem call_7 : callable Try.prog 7 = true := by kernel_rfl
theorem call_8 : callable Try.prog 8 = true := by kernel_rfl
theorem call_9 : callable Try.prog 9 = true := by kernel_rfl
theorem call_10 : callable Try.prog 10 = true := by kernel_rfl
theorem call_11 : callable Try.prog 11 = true := by kernel_rfl
theorem call_12 : callable Try.prog 12 = true := by kernel_rfl
theorem call_13 : callable Try.prog 13 = true := by kernel_rfl
theorem call_14 : callable Try.prog 14 = true := by kernel_rfl
theorem call_15 : callable Try.prog 15 = true := by kernel_rfl
theorem call_16 : callable Try.prog 16 = true := by kernel_rfl
theorem call_17 : callable Try.prog 17 = true := by kernel_rfl
theorem call_18 : callable Try.prog 18 = true := by kernel_rfl
theorem call_19 : callable Try.prog 19 = true := by kernel_rfl
theorem call_20 : callable Try.prog 20 = true := by kernel_rfl
theorem call_21 : callable Try.prog 21 = true := by kernel_rfl
theorem call_22 : callable Try.prog 22 = true := by kernel_rfl
theorem call_23 : callable Try.prog 23 = true := by kernel_rfl
theorem call_24 : callable Try.prog 24 = true := by kernel_rfl
theorem call_25 : callable Try.prog 25 = true := by kernel_rfl
theorem call_26 : callable Try.prog 26 = true := by kernel_rfl
theorem call_27 : callable Try.prog 27 = true := by kernel_rfl
theorem call_28 : callable Try.prog 28 = true := by kernel_rfl
theorem call_29 : callable Try.prog 29 = true := by kernel_rfl
theorem call_30 : callable Try.prog 30 = true := by kernel_rfl
theorem call_31 : callable Try.prog 31 = true := by kernel_rfl
theorem call_32 : callable Try.prog 32 = true := by kernel_rfl
theorem call_33 : callable Try.prog 33 = true := by kernel_rfl
theorem call_34 : callable Try.prog 34 = true := by kernel_rfl
theorem call_35 : callable Try.prog 35 = true := by kernel_rfl
theorem call_36 : callable Try.prog 36 = true := by kernel_rfl
theorem call_37 : callable Try.prog 37 = true := by kernel_rfl
theorem call_38 : callable Try.prog 38 = true := by kernel_rfl
theorem call_39 : callable Try.prog 39 = true := by kernel_rfl
theorem call_40 : callable Try.prog 40 = true := by kernel_rfl
theorem call_41 : callable Try.prog 41 = true := by kernel_rfl
theorem call_42 : callable Try.prog 42 = true := by kernel_rfl
theorem call_43 : callable Try.prog 43 = true := by kernel_rfl
theorem call_44 : callable Try.prog 44 = true := by kernel_rfl
theorem call_45 : callable Try.prog 45 = true := by kernel_rfl
theorem call_46 : callable Try.prog 46 = true := by kernel_rfl
theorem call_47 : callable Try.prog 47 = true := by kernel_rfl
theorem call_48 : callable Try.prog 48 = true := by kernel_rfl
theorem call_49 : callable Try.prog 49 = true := by kernel_rfl
theorem call_50 : callable Try.prog 50 = true := by kernel_rfl
theorem call_51 : callable Try.prog 51 = true := by kernel_rfl
theorem call_52 : callable Try.prog 52 = true := by kernel_rfl
theorem call_53 : callable Try.prog 53 = true := by kernel_rfl
theorem call_54 : callable Try.prog 54 = true := by kernel_rfl
theorem call_55 : callable Try.prog 55 = true := by kernel_rfl
theorem call_56 : callable Try.prog 56 = true := by kernel_rfl
theorem call_57 : callable Try.prog 57 = true := by kernel_rfl
theorem call_58 : callable Try.prog 58 = true := by kernel_rfl
theorem call_59 : callable Try.prog 59 = true := by kernel_rfl
theorem call_60 : callable Try.prog 60 = true := by kernel_rfl
theorem call_61 : callable Try.prog 61 = true := by kernel_rfl
theorem call_62 : callable Try.prog 62 = true := by kernel_rfl
theorem call_63 : callable Try.prog 63 = true := by kernel_rfl
theorem call_64 : callable Try.prog 64 = true := by kernel_rfl
theorem call_65 : callable Try.prog 65 = true := by kernel_rfl
theorem call_66 : callable Try.prog 66 = true := by kernel_rfl
theorem call_67 : callable Try.prog 67 = true := by kernel_rfl
theorem call_68 : callable Try.prog 68 = true := by kernel_rfl
theorem call_69 : callable Try.prog 69 = true := by kernel_rfl
theorem call_70 : callable Try.prog 70 = true := by kernel_rfl
theorem call_71 : callable Try.prog 71 = true := by kernel_rfl
theorem call_72 : callable Try.prog 72 = true := by kernel_rfl
theorem call_73 : callable Try.prog 73 = true := by kernel_rfl
theorem call_74 : callable Try.prog 74 = true := by kernel_rfl
theorem call_75 : callable Try.prog 75 = true := by kernel_rfl
theorem call_76 : callable Try.prog 76 = true := by kernel_rfl
theorem call_77 : callable Try.prog 77 = true := by kernel_rfl
theorem call_78 : callable Try.prog 78 = true := by kernel_rfl
end Go.V
