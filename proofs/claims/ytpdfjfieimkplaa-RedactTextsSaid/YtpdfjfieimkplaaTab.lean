/- What the types of the program are to the logic of V1 .. V25, and that its functions can be called: closed facts, printed by a program of mine. -/
import Derived.Test.YtpdfjfieimkplaaV25
import Derived.Test.YtpdfjfieimkplaaProg
import Derived.KernelRfl
namespace Go.V
open Go Go.Proofs
set_option maxRecDepth 100000
theorem mixed : Try.prog.follows .mixedOrders = true := by kernel_rfl
@[simp] theorem ti_1 : TI.of Try.prog 1 = some ⟨.other, 1, 8, false, [.nilFunc]⟩ := by kernel_rfl
@[simp] theorem ti_2 : TI.of Try.prog 2 = some ⟨.int .i64, 1, 8, false, [.int .i64 0]⟩ := by kernel_rfl
@[simp] theorem ti_3 : TI.of Try.prog 3 = some ⟨.int .i64, 1, 8, false, [.int .i64 0]⟩ := by kernel_rfl
@[simp] theorem ti_4 : TI.of Try.prog 4 = some ⟨.bool, 1, 1, false, [.bool false]⟩ := by kernel_rfl
@[simp] theorem ti_5 : TI.of Try.prog 5 = some ⟨.int .u8, 1, 1, false, [.int .u8 0]⟩ := by kernel_rfl
@[simp] theorem ti_6 : TI.of Try.prog 6 = some ⟨.int .u8, 1, 1, false, [.int .u8 0]⟩ := by kernel_rfl
@[simp] theorem ti_7 : TI.of Try.prog 7 = some ⟨.struct [(0, 1, false), (1, 1, false), (2, 1, false), (3, 1, false)], 4, 24, true, [.int .i64 0, .int .i64 0, .bool false, .int .u8 0]⟩ := by kernel_rfl
@[simp] theorem ti_8 : TI.of Try.prog 8 = some ⟨.struct [(0, 1, false), (1, 1, false), (2, 1, false), (3, 1, false)], 4, 24, true, [.int .i64 0, .int .i64 0, .bool false, .int .u8 0]⟩ := by kernel_rfl
@[simp] theorem ti_9 : TI.of Try.prog 9 = some ⟨.str, 1, 16, false, [.string ⟨#[]⟩]⟩ := by kernel_rfl
@[simp] theorem ti_10 : TI.of Try.prog 10 = some ⟨.str, 1, 16, false, [.string ⟨#[]⟩]⟩ := by kernel_rfl
@[simp] theorem ti_11 : TI.of Try.prog 11 = some ⟨.str, 1, 16, false, [.string ⟨#[]⟩]⟩ := by kernel_rfl
@[simp] theorem ti_12 : TI.of Try.prog 12 = some ⟨.int .u64, 1, 8, false, [.int .u64 0]⟩ := by kernel_rfl
@[simp] theorem ti_13 : TI.of Try.prog 13 = some ⟨.struct [(0, 1, false), (1, 1, false)], 2, 24, true, [.string ⟨#[]⟩, .int .u64 0]⟩ := by kernel_rfl
@[simp] theorem ti_14 : TI.of Try.prog 14 = some ⟨.struct [(0, 1, false), (1, 1, false)], 2, 24, true, [.string ⟨#[]⟩, .int .u64 0]⟩ := by kernel_rfl
@[simp] theorem ti_15 : TI.of Try.prog 15 = some ⟨.ptr 123, 1, 8, false, [.pointer none]⟩ := by kernel_rfl
@[simp] theorem ti_16 : TI.of Try.prog 16 = some ⟨.ptr 126, 1, 8, false, [.pointer none]⟩ := by kernel_rfl
@[simp] theorem ti_17 : TI.of Try.prog 17 = some ⟨.ptr 135, 1, 8, false, [.pointer none]⟩ := by kernel_rfl
@[simp] theorem ti_18 : TI.of Try.prog 18 = some ⟨.struct [(0, 1, false)], 1, 8, true, [.pointer none]⟩ := by kernel_rfl
@[simp] theorem ti_19 : TI.of Try.prog 19 = some ⟨.struct [(0, 1, false)], 1, 8, true, [.pointer none]⟩ := by kernel_rfl
@[simp] theorem ti_20 : TI.of Try.prog 20 = some ⟨.other, 1, 16, false, [.nilIface]⟩ := by kernel_rfl
@[simp] theorem ti_21 : TI.of Try.prog 21 = some ⟨.int .i32, 1, 4, false, [.int .i32 0]⟩ := by kernel_rfl
@[simp] theorem ti_22 : TI.of Try.prog 22 = some ⟨.slice 3, 1, 24, false, [.slice none 0 0]⟩ := by kernel_rfl
@[simp] theorem ti_23 : TI.of Try.prog 23 = some ⟨.struct [(0, 1, false), (1, 1, false), (2, 1, false), (3, 1, false), (4, 1, false)], 5, 64, true, [.int .i64 0, .string ⟨#[]⟩, .int .i64 0, .int .i64 0, .slice none 0 0]⟩ := by kernel_rfl
@[simp] theorem ti_24 : TI.of Try.prog 24 = some ⟨.struct [(0, 1, false), (1, 1, false), (2, 1, false), (3, 1, false), (4, 1, false)], 5, 64, true, [.int .i64 0, .string ⟨#[]⟩, .int .i64 0, .int .i64 0, .slice none 0 0]⟩ := by kernel_rfl
@[simp] theorem ti_25 : TI.of Try.prog 25 = some ⟨.slice 56, 1, 24, false, [.slice none 0 0]⟩ := by kernel_rfl
@[simp] theorem ti_26 : TI.of Try.prog 26 = some ⟨.slice 40, 1, 24, false, [.slice none 0 0]⟩ := by kernel_rfl
@[simp] theorem ti_27 : TI.of Try.prog 27 = some ⟨.struct [(0, 5, true), (5, 1, false), (6, 1, false)], 7, 112, true, [.int .i64 0, .string ⟨#[]⟩, .int .i64 0, .int .i64 0, .slice none 0 0, .slice none 0 0, .slice none 0 0]⟩ := by kernel_rfl
@[simp] theorem ti_28 : TI.of Try.prog 28 = some ⟨.struct [(0, 5, true), (5, 1, false), (6, 1, false)], 7, 112, true, [.int .i64 0, .string ⟨#[]⟩, .int .i64 0, .int .i64 0, .slice none 0 0, .slice none 0 0, .slice none 0 0]⟩ := by kernel_rfl
@[simp] theorem ti_29 : TI.of Try.prog 29 = some ⟨.slice 38, 1, 24, false, [.slice none 0 0]⟩ := by kernel_rfl
@[simp] theorem ti_30 : TI.of Try.prog 30 = some ⟨.other, 1, 8, false, [.nilFunc]⟩ := by kernel_rfl
@[simp] theorem ti_31 : TI.of Try.prog 31 = some ⟨.other, 1, 8, false, [.nilFunc]⟩ := by kernel_rfl
@[simp] theorem ti_32 : TI.of Try.prog 32 = some ⟨.other, 1, 8, false, [.nilFunc]⟩ := by kernel_rfl
@[simp] theorem ti_33 : TI.of Try.prog 33 = some ⟨.other, 1, 8, false, [.nilFunc]⟩ := by kernel_rfl
@[simp] theorem ti_34 : TI.of Try.prog 34 = some ⟨.other, 1, 8, false, [.nilFunc]⟩ := by kernel_rfl
@[simp] theorem ti_35 : TI.of Try.prog 35 = some ⟨.other, 1, 8, false, [.nilFunc]⟩ := by kernel_rfl
@[simp] theorem ti_36 : TI.of Try.prog 36 = some ⟨.other, 1, 8, false, [.nilFunc]⟩ := by kernel_rfl
@[simp] theorem ti_37 : TI.of Try.prog 37 = some ⟨.struct [(0, 1, false), (1, 1, false)], 2, 16, true, [.int .i64 0, .int .i64 0]⟩ := by kernel_rfl
@[simp] theorem ti_38 : TI.of Try.prog 38 = some ⟨.struct [(0, 1, false), (1, 1, false)], 2, 16, true, [.int .i64 0, .int .i64 0]⟩ := by kernel_rfl
@[simp] theorem ti_39 : TI.of Try.prog 39 = some ⟨.struct [(0, 1, false), (1, 1, false), (2, 1, false), (3, 2, true), (5, 1, false), (6, 1, false)], 7, 64, true, [.int .i64 0, .int .i64 0, .int .i64 0, .int .i64 0, .int .i64 0, .int .i64 0, .string ⟨#[]⟩]⟩ := by kernel_rfl
@[simp] theorem ti_40 : TI.of Try.prog 40 = some ⟨.struct [(0, 1, false), (1, 1, false), (2, 1, false), (3, 2, true), (5, 1, false), (6, 1, false)], 7, 64, true, [.int .i64 0, .int .i64 0, .int .i64 0, .int .i64 0, .int .i64 0, .int .i64 0, .string ⟨#[]⟩]⟩ := by kernel_rfl
@[simp] theorem ti_42 : TI.of Try.prog 42 = some ⟨.other, 1, 8, false, [.nilFunc]⟩ := by kernel_rfl
@[simp] theorem ti_43 : TI.of Try.prog 43 = some ⟨.other, 1, 8, false, [.nilFunc]⟩ := by kernel_rfl
@[simp] theorem ti_44 : TI.of Try.prog 44 = some ⟨.other, 1, 8, false, [.nilFunc]⟩ := by kernel_rfl
@[simp] theorem ti_46 : TI.of Try.prog 46 = some ⟨.other, 1, 8, false, [.nilFunc]⟩ := by kernel_rfl
@[simp] theorem ti_47 : TI.of Try.prog 47 = some ⟨.other, 1, 8, false, [.nilFunc]⟩ := by kernel_rfl
@[simp] theorem ti_48 : TI.of Try.prog 48 = some ⟨.other, 1, 8, false, [.nilFunc]⟩ := by kernel_rfl
@[simp] theorem ti_49 : TI.of Try.prog 49 = some ⟨.other, 1, 8, false, [.nilFunc]⟩ := by kernel_rfl
@[simp] theorem ti_50 : TI.of Try.prog 50 = some ⟨.map 3 4, 1, 8, false, [.map none]⟩ := by kernel_rfl
@[simp] theorem ti_51 : TI.of Try.prog 51 = some ⟨.other, 1, 8, false, [.nilFunc]⟩ := by kernel_rfl
@[simp] theorem ti_52 : TI.of Try.prog 52 = some ⟨.slice 4, 1, 24, false, [.slice none 0 0]⟩ := by kernel_rfl
@[simp] theorem ti_53 : TI.of Try.prog 53 = some ⟨.other, 1, 8, false, [.nilFunc]⟩ := by kernel_rfl
@[simp] theorem ti_54 : TI.of Try.prog 54 = some ⟨.other, 1, 8, false, [.nilFunc]⟩ := by kernel_rfl
@[simp] theorem ti_55 : TI.of Try.prog 55 = some ⟨.struct [(0, 1, false), (1, 1, false), (2, 1, false), (3, 1, false)], 4, 40, true, [.string ⟨#[]⟩, .int .i64 0, .int .i64 0, .int .i64 0]⟩ := by kernel_rfl
@[simp] theorem ti_56 : TI.of Try.prog 56 = some ⟨.struct [(0, 1, false), (1, 1, false), (2, 1, false), (3, 1, false)], 4, 40, true, [.string ⟨#[]⟩, .int .i64 0, .int .i64 0, .int .i64 0]⟩ := by kernel_rfl
@[simp] theorem ti_57 : TI.of Try.prog 57 = some ⟨.other, 1, 8, false, [.nilFunc]⟩ := by kernel_rfl
@[simp] theorem ti_58 : TI.of Try.prog 58 = some ⟨.other, 1, 8, false, [.nilFunc]⟩ := by kernel_rfl
@[simp] theorem ti_59 : TI.of Try.prog 59 = some ⟨.other, 1, 8, false, [.nilFunc]⟩ := by kernel_rfl
@[simp] theorem ti_60 : TI.of Try.prog 60 = some ⟨.other, 1, 8, false, [.nilFunc]⟩ := by kernel_rfl
@[simp] theorem ti_61 : TI.of Try.prog 61 = some ⟨.other, 1, 8, false, [.nilFunc]⟩ := by kernel_rfl
@[simp] theorem ti_62 : TI.of Try.prog 62 = some ⟨.int .i64, 1, 8, false, [.int .i64 0]⟩ := by kernel_rfl
@[simp] theorem ti_63 : TI.of Try.prog 63 = some ⟨.other, 1, 8, false, [.nilFunc]⟩ := by kernel_rfl
@[simp] theorem ti_64 : TI.of Try.prog 64 = some ⟨.other, 1, 8, false, [.nilFunc]⟩ := by kernel_rfl
@[simp] theorem ti_65 : TI.of Try.prog 65 = some ⟨.other, 1, 8, false, [.nilFunc]⟩ := by kernel_rfl
@[simp] theorem ti_66 : TI.of Try.prog 66 = some ⟨.other, 1, 8, false, [.nilFunc]⟩ := by kernel_rfl
@[simp] theorem ti_67 : TI.of Try.prog 67 = some ⟨.other, 1, 8, false, [.nilFunc]⟩ := by kernel_rfl
@[simp] theorem ti_68 : TI.of Try.prog 68 = some ⟨.other, 1, 8, false, [.nilFunc]⟩ := by kernel_rfl
@[simp] theorem ti_69 : TI.of Try.prog 69 = some ⟨.other, 1, 8, false, [.nilFunc]⟩ := by kernel_rfl
@[simp] theorem ti_70 : TI.of Try.prog 70 = some ⟨.other, 1, 8, false, [.nilFunc]⟩ := by kernel_rfl
@[simp] theorem ti_71 : TI.of Try.prog 71 = some ⟨.other, 1, 8, false, [.nilFunc]⟩ := by kernel_rfl
@[simp] theorem ti_72 : TI.of Try.prog 72 = some ⟨.other, 1, 8, false, [.nilFunc]⟩ := by kernel_rfl
@[simp] theorem ti_73 : TI.of Try.prog 73 = some ⟨.other, 1, 8, false, [.nilFunc]⟩ := by kernel_rfl
@[simp] theorem ti_74 : TI.of Try.prog 74 = some ⟨.other, 1, 8, false, [.nilFunc]⟩ := by kernel_rfl
@[simp] theorem ti_75 : TI.of Try.prog 75 = some ⟨.other, 1, 8, false, [.nilFunc]⟩ := by kernel_rfl
@[simp] theorem ti_76 : TI.of Try.prog 76 = some ⟨.other, 1, 8, false, [.nilFunc]⟩ := by kernel_rfl
@[simp] theorem ti_77 : TI.of Try.prog 77 = some ⟨.other, 1, 8, false, [.nilFunc]⟩ := by kernel_rfl
@[simp] theorem ti_78 : TI.of Try.prog 78 = some ⟨.other, 1, 8, false, [.nilFunc]⟩ := by kernel_rfl
@[simp] theorem ti_79 : TI.of Try.prog 79 = some ⟨.other, 1, 8, false, [.nilFunc]⟩ := by kernel_rfl
@[simp] theorem ti_80 : TI.of Try.prog 80 = some ⟨.other, 1, 8, false, [.nilFunc]⟩ := by kernel_rfl
@[simp] theorem ti_81 : TI.of Try.prog 81 = some ⟨.other, 1, 8, false, [.nilFunc]⟩ := by kernel_rfl
@[simp] theorem ti_82 : TI.of Try.prog 82 = some ⟨.other, 1, 8, false, [.nilFunc]⟩ := by kernel_rfl
@[simp] theorem ti_83 : TI.of Try.prog 83 = some ⟨.other, 1, 8, false, [.nilFunc]⟩ := by kernel_rfl
@[simp] theorem ti_84 : TI.of Try.prog 84 = some ⟨.other, 1, 8, false, [.nilFunc]⟩ := by kernel_rfl
@[simp] theorem ti_85 : TI.of Try.prog 85 = some ⟨.other, 1, 8, false, [.nilFunc]⟩ := by kernel_rfl
@[simp] theorem ti_86 : TI.of Try.prog 86 = some ⟨.other, 1, 8, false, [.nilFunc]⟩ := by kernel_rfl
@[simp] theorem ti_87 : TI.of Try.prog 87 = some ⟨.other, 1, 8, false, [.nilFunc]⟩ := by kernel_rfl
@[simp] theorem ti_88 : TI.of Try.prog 88 = some ⟨.int .u64, 1, 8, false, [.int .u64 0]⟩ := by kernel_rfl
@[simp] theorem ti_89 : TI.of Try.prog 89 = some ⟨.other, 1, 8, false, [.nilFunc]⟩ := by kernel_rfl
@[simp] theorem ti_90 : TI.of Try.prog 90 = some ⟨.other, 1, 8, false, [.nilFunc]⟩ := by kernel_rfl
@[simp] theorem ti_91 : TI.of Try.prog 91 = some ⟨.other, 1, 8, false, [.nilFunc]⟩ := by kernel_rfl
@[simp] theorem ti_92 : TI.of Try.prog 92 = some ⟨.other, 1, 8, false, [.nilFunc]⟩ := by kernel_rfl
@[simp] theorem ti_94 : TI.of Try.prog 94 = some ⟨.other, 1, 8, false, [.nilFunc]⟩ := by kernel_rfl
@[simp] theorem ti_95 : TI.of Try.prog 95 = some ⟨.other, 1, 8, false, [.nilFunc]⟩ := by kernel_rfl
@[simp] theorem ti_96 : TI.of Try.prog 96 = some ⟨.int .i64, 1, 8, false, [.int .i64 0]⟩ := by kernel_rfl
@[simp] theorem ti_98 : TI.of Try.prog 98 = some ⟨.other, 1, 8, false, [.nilFunc]⟩ := by kernel_rfl
@[simp] theorem ti_99 : TI.of Try.prog 99 = some ⟨.other, 1, 8, false, [.nilFunc]⟩ := by kernel_rfl
@[simp] theorem ti_100 : TI.of Try.prog 100 = some ⟨.other, 1, 8, false, [.nilFunc]⟩ := by kernel_rfl
@[simp] theorem ti_102 : TI.of Try.prog 102 = some ⟨.other, 1, 8, false, [.nilFunc]⟩ := by kernel_rfl
@[simp] theorem ti_103 : TI.of Try.prog 103 = some ⟨.other, 1, 8, false, [.nilFunc]⟩ := by kernel_rfl
@[simp] theorem ti_104 : TI.of Try.prog 104 = some ⟨.int .u32, 1, 4, false, [.int .u32 0]⟩ := by kernel_rfl
@[simp] theorem ti_105 : TI.of Try.prog 105 = some ⟨.other, 1, 8, false, [.nilFunc]⟩ := by kernel_rfl
@[simp] theorem ti_106 : TI.of Try.prog 106 = some ⟨.int .u64, 1, 8, false, [.int .u64 0]⟩ := by kernel_rfl
@[simp] theorem ti_107 : TI.of Try.prog 107 = some ⟨.other, 1, 8, false, [.nilFunc]⟩ := by kernel_rfl
@[simp] theorem ti_108 : TI.of Try.prog 108 = some ⟨.other, 1, 8, false, [.nilFunc]⟩ := by kernel_rfl
@[simp] theorem ti_110 : TI.of Try.prog 110 = some ⟨.other, 1, 8, false, [.nilFunc]⟩ := by kernel_rfl
@[simp] theorem ti_111 : TI.of Try.prog 111 = some ⟨.int .u64, 1, 8, false, [.int .u64 0]⟩ := by kernel_rfl
@[simp] theorem ti_112 : TI.of Try.prog 112 = some ⟨.other, 1, 8, false, [.nilFunc]⟩ := by kernel_rfl
@[simp] theorem ti_113 : TI.of Try.prog 113 = some ⟨.other, 1, 8, false, [.nilFunc]⟩ := by kernel_rfl
@[simp] theorem ti_114 : TI.of Try.prog 114 = some ⟨.other, 1, 8, false, [.nilFunc]⟩ := by kernel_rfl
@[simp] theorem ti_115 : TI.of Try.prog 115 = some ⟨.ptr 3, 1, 8, false, [.pointer none]⟩ := by kernel_rfl
@[simp] theorem ti_116 : TI.of Try.prog 116 = some ⟨.other, 1, 8, false, [.nilFunc]⟩ := by kernel_rfl
@[simp] theorem ti_117 : TI.of Try.prog 117 = some ⟨.other, 1, 8, false, [.nilFunc]⟩ := by kernel_rfl
@[simp] theorem ti_118 : TI.of Try.prog 118 = some ⟨.ptr 111, 1, 8, false, [.pointer none]⟩ := by kernel_rfl
@[simp] theorem ti_119 : TI.of Try.prog 119 = some ⟨.other, 1, 8, false, [.nilFunc]⟩ := by kernel_rfl
@[simp] theorem ti_120 : TI.of Try.prog 120 = some ⟨.slice 5, 1, 24, false, [.slice none 0 0]⟩ := by kernel_rfl
@[simp] theorem ti_121 : TI.of Try.prog 121 = some ⟨.other, 1, 8, false, [.nilFunc]⟩ := by kernel_rfl
@[simp] theorem ti_122 : TI.of Try.prog 122 = some ⟨.struct [(0, 1, false), (1, 1, false), (2, 1, false), (3, 1, false)], 4, 40, true, [.pointer none, .pointer none, .pointer none, .string ⟨#[]⟩]⟩ := by kernel_rfl
@[simp] theorem ti_123 : TI.of Try.prog 123 = some ⟨.struct [(0, 1, false), (1, 1, false), (2, 1, false), (3, 1, false)], 4, 40, true, [.pointer none, .pointer none, .pointer none, .string ⟨#[]⟩]⟩ := by kernel_rfl
@[simp] theorem ti_124 : TI.of Try.prog 124 = some ⟨.other, 0, 0, true, []⟩ := by kernel_rfl
@[simp] theorem ti_125 : TI.of Try.prog 125 = some ⟨.struct [(0, 0, true)], 0, 0, true, []⟩ := by kernel_rfl
@[simp] theorem ti_126 : TI.of Try.prog 126 = some ⟨.struct [(0, 0, true)], 0, 0, true, []⟩ := by kernel_rfl
@[simp] theorem ti_127 : TI.of Try.prog 127 = some ⟨.other, 1, 8, false, [.nilFunc]⟩ := by kernel_rfl
@[simp] theorem ti_128 : TI.of Try.prog 128 = some ⟨.int .u8, 1, 1, false, [.int .u8 0]⟩ := by kernel_rfl
@[simp] theorem ti_129 : TI.of Try.prog 129 = some ⟨.int .u8, 1, 1, false, [.int .u8 0]⟩ := by kernel_rfl
@[simp] theorem ti_130 : TI.of Try.prog 130 = some ⟨.other, 1, 8, false, [.nilFunc]⟩ := by kernel_rfl
@[simp] theorem ti_131 : TI.of Try.prog 131 = some ⟨.ptr 5, 1, 8, false, [.pointer none]⟩ := by kernel_rfl
@[simp] theorem ti_132 : TI.of Try.prog 132 = some ⟨.int .i32, 1, 4, false, [.int .i32 0]⟩ := by kernel_rfl
@[simp] theorem ti_133 : TI.of Try.prog 133 = some ⟨.int .i32, 1, 4, false, [.int .i32 0]⟩ := by kernel_rfl
@[simp] theorem ti_134 : TI.of Try.prog 134 = some ⟨.struct [(0, 1, false), (1, 1, false), (2, 1, false), (3, 1, false), (4, 1, false), (5, 1, false), (6, 1, false), (7, 1, false), (8, 1, false), (9, 1, false), (10, 1, false)], 11, 48, true, [.int .u64 0, .int .u64 0, .int .u32 0, .int .u8 0, .int .u8 0, .int .u8 0, .int .u8 0, .nilFunc, .pointer none, .int .i32 0, .int .i32 0]⟩ := by kernel_rfl
@[simp] theorem ti_135 : TI.of Try.prog 135 = some ⟨.struct [(0, 1, false), (1, 1, false), (2, 1, false), (3, 1, false), (4, 1, false), (5, 1, false), (6, 1, false), (7, 1, false), (8, 1, false), (9, 1, false), (10, 1, false)], 11, 48, true, [.int .u64 0, .int .u64 0, .int .u32 0, .int .u8 0, .int .u8 0, .int .u8 0, .int .u8 0, .nilFunc, .pointer none, .int .i32 0, .int .i32 0]⟩ := by kernel_rfl
@[simp] theorem ti_136 : TI.of Try.prog 136 = some ⟨.other, 1, 8, false, [.pointer none]⟩ := by kernel_rfl
@[simp] theorem zf_4 : zfit Try.prog 4 = true := by kernel_rfl
@[simp] theorem ek_7 : eqKinds Try.prog 7 = some [.int .i64, .int .i64, .bool, .int .u8] := by kernel_rfl
@[simp] theorem ek_8 : eqKinds Try.prog 8 = some [.int .i64, .int .i64, .bool, .int .u8] := by kernel_rfl
@[simp] theorem ek_37 : eqKinds Try.prog 37 = some [.int .i64, .int .i64] := by kernel_rfl
@[simp] theorem ek_38 : eqKinds Try.prog 38 = some [.int .i64, .int .i64] := by kernel_rfl
@[simp] theorem ek_39 : eqKinds Try.prog 39 = some [.int .i64, .int .i64, .int .i64, .int .i64, .int .i64, .int .i64, .str] := by kernel_rfl
@[simp] theorem ek_40 : eqKinds Try.prog 40 = some [.int .i64, .int .i64, .int .i64, .int .i64, .int .i64, .int .i64, .str] := by kernel_rfl
@[simp] theorem ek_55 : eqKinds Try.prog 55 = some [.str, .int .i64, .int .i64, .int .i64] := by kernel_rfl
@[simp] theorem ek_56 : eqKinds Try.prog 56 = some [.str, .int .i64, .int .i64, .int .i64] := by kernel_rfl
theorem call_2 : callable Try.prog 2 = true := by kernel_rfl
theorem call_3 : callable Try.prog 3 = true := by kernel_rfl
theorem call_4 : callable Try.prog 4 = true := by kernel_rfl
theorem call_5 : callable Try.prog 5 = true := by kernel_rfl
theorem call_6 : callable Try.prog 6 = true := by kernel_rfl
theorem call_7 : callable Try.prog 7 = true := by kernel_rfl
theorem call_8 : callable Try.prog 8 = true := by kernel_rfl
theorem call_9 : callable Try.prog 9 = true := by kernel_rfl
theorem call_10 : callable Try.prog 10 = true := by kernel_rfl
theorem call_11 : callable Try.prog 11 = true := by kernel_rfl
theorem call_12 : callable Try.prog 12 = true := by kernel_rfl
theorem call_13 : callable Try.prog 13 = true := by kernel_rfl
theorem call_14 : callable Try.prog 14 = true := by kernel_rfl
theorem call_15 : callable Try.prog 15 = true := by kernel_rfl
theorem call_16 : callable Try.prog 16 = true := by kernel_rfl
theorem call_17 : callable Try.prog 17 = true := by kernel_rfl
theorem call_18 : callable Try.prog 18 = true := by kernel_rfl
theorem call_19 : callable Try.prog 19 = true := by kernel_rfl
theorem call_20 : callable Try.prog 20 = true := by kernel_rfl
theorem call_21 : callable Try.prog 21 = true := by kernel_rfl
theorem call_22 : callable Try.prog 22 = true := by kernel_rfl
theorem call_23 : callable Try.prog 23 = true := by kernel_rfl
theorem call_24 : callable Try.prog 24 = true := by kernel_rfl
theorem call_25 : callable Try.prog 25 = true := by kernel_rfl
theorem call_26 : callable Try.prog 26 = true := by kernel_rfl
theorem call_27 : callable Try.prog 27 = true := by kernel_rfl
theorem call_28 : callable Try.prog 28 = true := by kernel_rfl
theorem call_29 : callable Try.prog 29 = true := by kernel_rfl
theorem call_30 : callable Try.prog 30 = true := by kernel_rfl
theorem call_31 : callable Try.prog 31 = true := by kernel_rfl
theorem call_32 : callable Try.prog 32 = true := by kernel_rfl
theorem call_33 : callable Try.prog 33 = true := by kernel_rfl
theorem call_34 : callable Try.prog 34 = true := by kernel_rfl
theorem call_35 : callable Try.prog 35 = true := by kernel_rfl
theorem call_36 : callable Try.prog 36 = true := by kernel_rfl
theorem call_37 : callable Try.prog 37 = true := by kernel_rfl
theorem call_38 : callable Try.prog 38 = true := by kernel_rfl
theorem call_39 : callable Try.prog 39 = true := by kernel_rfl
theorem call_40 : callable Try.prog 40 = true := by kernel_rfl
theorem call_41 : callable Try.prog 41 = true := by kernel_rfl
theorem call_42 : callable Try.prog 42 = true := by kernel_rfl
theorem call_43 : callable Try.prog 43 = true := by kernel_rfl
theorem call_44 : callable Try.prog 44 = true := by kernel_rfl
theorem call_45 : callable Try.prog 45 = true := by kernel_rfl
theorem call_46 : callable Try.prog 46 = true := by kernel_rfl
theorem call_47 : callable Try.prog 47 = true := by kernel_rfl
theorem call_48 : callable Try.prog 48 = true := by kernel_rfl
theorem call_49 : callable Try.prog 49 = true := by kernel_rfl
theorem call_50 : callable Try.prog 50 = true := by kernel_rfl
theorem call_51 : callable Try.prog 51 = true := by kernel_rfl
theorem call_52 : callable Try.prog 52 = true := by kernel_rfl
theorem call_53 : callable Try.prog 53 = true := by kernel_rfl
theorem call_54 : callable Try.prog 54 = true := by kernel_rfl
theorem call_55 : callable Try.prog 55 = true := by kernel_rfl
theorem call_56 : callable Try.prog 56 = true := by kernel_rfl
theorem call_57 : callable Try.prog 57 = true := by kernel_rfl
theorem call_58 : callable Try.prog 58 = true := by kernel_rfl
theorem call_59 : callable Try.prog 59 = true := by kernel_rfl
theorem call_60 : callable Try.prog 60 = true := by kernel_rfl
theorem call_61 : callable Try.prog 61 = true := by kernel_rfl
theorem call_62 : callable Try.prog 62 = true := by kernel_rfl
theorem call_63 : callable Try.prog 63 = true := by kernel_rfl
theorem call_64 : callable Try.prog 64 = true := by kernel_rfl
theorem call_65 : callable Try.prog 65 = true := by kernel_rfl
theorem call_66 : callable Try.prog 66 = true := by kernel_rfl
theorem call_67 : callable Try.prog 67 = true := by kernel_rfl
theorem call_68 : callable Try.prog 68 = true := by kernel_rfl
theorem call_69 : callable Try.prog 69 = true := by kernel_rfl
theorem call_70 : callable Try.prog 70 = true := by kernel_rfl
theorem call_71 : callable Try.prog 71 = true := by kernel_rfl
theorem call_72 : callable Try.prog 72 = true := by kernel_rfl
theorem call_73 : callable Try.prog 73 = true := by kernel_rfl
theorem call_74 : callable Try.prog 74 = true := by kernel_rfl
theorem call_75 : callable Try.prog 75 = true := by kernel_rfl
theorem call_76 : callable Try.prog 76 = true := by kernel_rfl
theorem call_77 : callable Try.prog 77 = true := by kernel_rfl
theorem call_78 : callable Try.prog 78 = true := by kernel_rfl
theorem call_79 : callable Try.prog 79 = true := by kernel_rfl
theorem call_80 : callable Try.prog 80 = true := by kernel_rfl
theorem call_81 : callable Try.prog 81 = true := by kernel_rfl
theorem call_82 : callable Try.prog 82 = true := by kernel_rfl
theorem call_83 : callable Try.prog 83 = true := by kernel_rfl
theorem call_84 : callable Try.prog 84 = true := by kernel_rfl
theorem call_85 : callable Try.prog 85 = true := by kernel_rfl
theorem call_86 : callable Try.prog 86 = true := by kernel_rfl
theorem call_87 : callable Try.prog 87 = true := by kernel_rfl
theorem call_88 : callable Try.prog 88 = true := by kernel_rfl
theorem call_89 : callable Try.prog 89 = true := by kernel_rfl
theorem call_90 : callable Try.prog 90 = true := by kernel_rfl
theorem call_91 : callable Try.prog 91 = true := by kernel_rfl
theorem call_92 : callable Try.prog 92 = true := by kernel_rfl
theorem call_93 : callable Try.prog 93 = true := by kernel_rfl
theorem call_94 : callable Try.prog 94 = true := by kernel_rfl
theorem call_95 : callable Try.prog 95 = true := by kernel_rfl
theorem call_96 : callable Try.prog 96 = true := by kernel_rfl
theorem call_97 : callable Try.prog 97 = true := by kernel_rfl
theorem call_98 : callable Try.prog 98 = true := by kernel_rfl
theorem call_99 : callable Try.prog 99 = true := by kernel_rfl
theorem call_100 : callable Try.prog 100 = true := by kernel_rfl
theorem call_101 : callable Try.prog 101 = true := by kernel_rfl
theorem call_102 : callable Try.prog 102 = true := by kernel_rfl
theorem call_103 : callable Try.prog 103 = true := by kernel_rfl
theorem call_104 : callable Try.prog 104 = true := by kernel_rfl
theorem call_105 : callable Try.prog 105 = true := by kernel_rfl
theorem call_106 : callable Try.prog 106 = true := by kernel_rfl
theorem call_107 : callable Try.prog 107 = true := by kernel_rfl
theorem call_108 : callable Try.prog 108 = true := by kernel_rfl
theorem call_109 : callable Try.prog 109 = true := by kernel_rfl
end Go.V
