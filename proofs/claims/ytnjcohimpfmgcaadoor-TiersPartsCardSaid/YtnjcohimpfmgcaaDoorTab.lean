/- What the types of the program are to the logic of V1 .. V25, and that its functions can be called: closed facts, printed by a program of mine. -/
import Derived.Test.YtnjcohimpfmgcaaDoorV25
import Derived.Test.YtnjcohimpfmgcaaDoorProg
import Derived.KernelRfl
namespace Go.V
open Go Go.Proofs
set_option maxRecDepth 100000
theorem mixed : Tryd.prog.follows .mixedOrders = true := by kernel_rfl
@[simp] theorem ti_1 : TI.of Tryd.prog 1 = some ⟨.other, 1, 8, false, [.nilFunc]⟩ := by kernel_rfl
@[simp] theorem ti_2 : TI.of Tryd.prog 2 = some ⟨.int .i64, 1, 8, false, [.int .i64 0]⟩ := by kernel_rfl
@[simp] theorem ti_3 : TI.of Tryd.prog 3 = some ⟨.int .i64, 1, 8, false, [.int .i64 0]⟩ := by kernel_rfl
@[simp] theorem ti_4 : TI.of Tryd.prog 4 = some ⟨.bool, 1, 1, false, [.bool false]⟩ := by kernel_rfl
@[simp] theorem ti_5 : TI.of Tryd.prog 5 = some ⟨.int .u8, 1, 1, false, [.int .u8 0]⟩ := by kernel_rfl
@[simp] theorem ti_6 : TI.of Tryd.prog 6 = some ⟨.int .u8, 1, 1, false, [.int .u8 0]⟩ := by kernel_rfl
@[simp] theorem ti_7 : TI.of Tryd.prog 7 = some ⟨.struct [(0, 1, false), (1, 1, false), (2, 1, false), (3, 1, false)], 4, 24, true, [.int .i64 0, .int .i64 0, .bool false, .int .u8 0]⟩ := by kernel_rfl
@[simp] theorem ti_8 : TI.of Tryd.prog 8 = some ⟨.struct [(0, 1, false), (1, 1, false), (2, 1, false), (3, 1, false)], 4, 24, true, [.int .i64 0, .int .i64 0, .bool false, .int .u8 0]⟩ := by kernel_rfl
@[simp] theorem ti_9 : TI.of Tryd.prog 9 = some ⟨.str, 1, 16, false, [.string ⟨#[]⟩]⟩ := by kernel_rfl
@[simp] theorem ti_10 : TI.of Tryd.prog 10 = some ⟨.str, 1, 16, false, [.string ⟨#[]⟩]⟩ := by kernel_rfl
@[simp] theorem ti_11 : TI.of Tryd.prog 11 = some ⟨.str, 1, 16, false, [.string ⟨#[]⟩]⟩ := by kernel_rfl
@[simp] theorem ti_12 : TI.of Tryd.prog 12 = some ⟨.int .u64, 1, 8, false, [.int .u64 0]⟩ := by kernel_rfl
@[simp] theorem ti_13 : TI.of Tryd.prog 13 = some ⟨.struct [(0, 1, false), (1, 1, false)], 2, 24, true, [.string ⟨#[]⟩, .int .u64 0]⟩ := by kernel_rfl
@[simp] theorem ti_14 : TI.of Tryd.prog 14 = some ⟨.struct [(0, 1, false), (1, 1, false)], 2, 24, true, [.string ⟨#[]⟩, .int .u64 0]⟩ := by kernel_rfl
@[simp] theorem ti_15 : TI.of Tryd.prog 15 = some ⟨.ptr 125, 1, 8, false, [.pointer none]⟩ := by kernel_rfl
@[simp] theorem ti_16 : TI.of Tryd.prog 16 = some ⟨.ptr 128, 1, 8, false, [.pointer none]⟩ := by kernel_rfl
@[simp] theorem ti_17 : TI.of Tryd.prog 17 = some ⟨.ptr 137, 1, 8, false, [.pointer none]⟩ := by kernel_rfl
@[simp] theorem ti_18 : TI.of Tryd.prog 18 = some ⟨.struct [(0, 1, false)], 1, 8, true, [.pointer none]⟩ := by kernel_rfl
@[simp] theorem ti_19 : TI.of Tryd.prog 19 = some ⟨.struct [(0, 1, false)], 1, 8, true, [.pointer none]⟩ := by kernel_rfl
@[simp] theorem ti_20 : TI.of Tryd.prog 20 = some ⟨.other, 1, 16, false, [.nilIface]⟩ := by kernel_rfl
@[simp] theorem ti_21 : TI.of Tryd.prog 21 = some ⟨.int .i32, 1, 4, false, [.int .i32 0]⟩ := by kernel_rfl
@[simp] theorem ti_22 : TI.of Tryd.prog 22 = some ⟨.int .i64, 1, 8, false, [.int .i64 0]⟩ := by kernel_rfl
@[simp] theorem ti_23 : TI.of Tryd.prog 23 = some ⟨.other, 1, 8, false, [.nilFunc]⟩ := by kernel_rfl
@[simp] theorem ti_24 : TI.of Tryd.prog 24 = some ⟨.other, 1, 8, false, [.nilFunc]⟩ := by kernel_rfl
@[simp] theorem ti_25 : TI.of Tryd.prog 25 = some ⟨.other, 1, 8, false, [.nilFunc]⟩ := by kernel_rfl
@[simp] theorem ti_26 : TI.of Tryd.prog 26 = some ⟨.slice 3, 1, 24, false, [.slice none 0 0]⟩ := by kernel_rfl
@[simp] theorem ti_27 : TI.of Tryd.prog 27 = some ⟨.struct [(0, 1, false), (1, 1, false), (2, 1, false), (3, 1, false), (4, 1, false)], 5, 64, true, [.int .i64 0, .string ⟨#[]⟩, .int .i64 0, .int .i64 0, .slice none 0 0]⟩ := by kernel_rfl
@[simp] theorem ti_28 : TI.of Tryd.prog 28 = some ⟨.struct [(0, 1, false), (1, 1, false), (2, 1, false), (3, 1, false), (4, 1, false)], 5, 64, true, [.int .i64 0, .string ⟨#[]⟩, .int .i64 0, .int .i64 0, .slice none 0 0]⟩ := by kernel_rfl
@[simp] theorem ti_29 : TI.of Tryd.prog 29 = some ⟨.slice 49, 1, 24, false, [.slice none 0 0]⟩ := by kernel_rfl
@[simp] theorem ti_30 : TI.of Tryd.prog 30 = some ⟨.slice 39, 1, 24, false, [.slice none 0 0]⟩ := by kernel_rfl
@[simp] theorem ti_31 : TI.of Tryd.prog 31 = some ⟨.struct [(0, 5, true), (5, 1, false), (6, 1, false)], 7, 112, true, [.int .i64 0, .string ⟨#[]⟩, .int .i64 0, .int .i64 0, .slice none 0 0, .slice none 0 0, .slice none 0 0]⟩ := by kernel_rfl
@[simp] theorem ti_32 : TI.of Tryd.prog 32 = some ⟨.struct [(0, 5, true), (5, 1, false), (6, 1, false)], 7, 112, true, [.int .i64 0, .string ⟨#[]⟩, .int .i64 0, .int .i64 0, .slice none 0 0, .slice none 0 0, .slice none 0 0]⟩ := by kernel_rfl
@[simp] theorem ti_33 : TI.of Tryd.prog 33 = some ⟨.other, 1, 8, false, [.nilFunc]⟩ := by kernel_rfl
@[simp] theorem ti_34 : TI.of Tryd.prog 34 = some ⟨.other, 1, 8, false, [.nilFunc]⟩ := by kernel_rfl
@[simp] theorem ti_35 : TI.of Tryd.prog 35 = some ⟨.other, 1, 8, false, [.nilFunc]⟩ := by kernel_rfl
@[simp] theorem ti_36 : TI.of Tryd.prog 36 = some ⟨.struct [(0, 1, false), (1, 1, false)], 2, 16, true, [.int .i64 0, .int .i64 0]⟩ := by kernel_rfl
@[simp] theorem ti_37 : TI.of Tryd.prog 37 = some ⟨.struct [(0, 1, false), (1, 1, false)], 2, 16, true, [.int .i64 0, .int .i64 0]⟩ := by kernel_rfl
@[simp] theorem ti_38 : TI.of Tryd.prog 38 = some ⟨.struct [(0, 1, false), (1, 1, false), (2, 1, false), (3, 2, true), (5, 1, false), (6, 1, false)], 7, 64, true, [.int .i64 0, .int .i64 0, .int .i64 0, .int .i64 0, .int .i64 0, .int .i64 0, .string ⟨#[]⟩]⟩ := by kernel_rfl
@[simp] theorem ti_39 : TI.of Tryd.prog 39 = some ⟨.struct [(0, 1, false), (1, 1, false), (2, 1, false), (3, 2, true), (5, 1, false), (6, 1, false)], 7, 64, true, [.int .i64 0, .int .i64 0, .int .i64 0, .int .i64 0, .int .i64 0, .int .i64 0, .string ⟨#[]⟩]⟩ := by kernel_rfl
@[simp] theorem ti_41 : TI.of Tryd.prog 41 = some ⟨.other, 1, 8, false, [.nilFunc]⟩ := by kernel_rfl
@[simp] theorem ti_42 : TI.of Tryd.prog 42 = some ⟨.other, 1, 8, false, [.nilFunc]⟩ := by kernel_rfl
@[simp] theorem ti_43 : TI.of Tryd.prog 43 = some ⟨.other, 1, 8, false, [.nilFunc]⟩ := by kernel_rfl
@[simp] theorem ti_44 : TI.of Tryd.prog 44 = some ⟨.other, 1, 8, false, [.nilFunc]⟩ := by kernel_rfl
@[simp] theorem ti_45 : TI.of Tryd.prog 45 = some ⟨.other, 1, 8, false, [.nilFunc]⟩ := by kernel_rfl
@[simp] theorem ti_46 : TI.of Tryd.prog 46 = some ⟨.other, 1, 8, false, [.nilFunc]⟩ := by kernel_rfl
@[simp] theorem ti_47 : TI.of Tryd.prog 47 = some ⟨.other, 1, 8, false, [.nilFunc]⟩ := by kernel_rfl
@[simp] theorem ti_48 : TI.of Tryd.prog 48 = some ⟨.struct [(0, 1, false), (1, 1, false), (2, 1, false), (3, 1, false)], 4, 40, true, [.string ⟨#[]⟩, .int .i64 0, .int .i64 0, .int .i64 0]⟩ := by kernel_rfl
@[simp] theorem ti_49 : TI.of Tryd.prog 49 = some ⟨.struct [(0, 1, false), (1, 1, false), (2, 1, false), (3, 1, false)], 4, 40, true, [.string ⟨#[]⟩, .int .i64 0, .int .i64 0, .int .i64 0]⟩ := by kernel_rfl
@[simp] theorem ti_50 : TI.of Tryd.prog 50 = some ⟨.other, 1, 8, false, [.nilFunc]⟩ := by kernel_rfl
@[simp] theorem ti_51 : TI.of Tryd.prog 51 = some ⟨.other, 1, 8, false, [.nilFunc]⟩ := by kernel_rfl
@[simp] theorem ti_53 : TI.of Tryd.prog 53 = some ⟨.other, 1, 8, false, [.nilFunc]⟩ := by kernel_rfl
@[simp] theorem ti_54 : TI.of Tryd.prog 54 = some ⟨.other, 1, 8, false, [.nilFunc]⟩ := by kernel_rfl
@[simp] theorem ti_55 : TI.of Tryd.prog 55 = some ⟨.other, 1, 8, false, [.nilFunc]⟩ := by kernel_rfl
@[simp] theorem ti_56 : TI.of Tryd.prog 56 = some ⟨.other, 1, 8, false, [.nilFunc]⟩ := by kernel_rfl
@[simp] theorem ti_57 : TI.of Tryd.prog 57 = some ⟨.map 3 39, 1, 8, false, [.map none]⟩ := by kernel_rfl
@[simp] theorem ti_58 : TI.of Tryd.prog 58 = some ⟨.other, 1, 8, false, [.nilFunc]⟩ := by kernel_rfl
@[simp] theorem ti_59 : TI.of Tryd.prog 59 = some ⟨.other, 1, 8, false, [.nilFunc]⟩ := by kernel_rfl
@[simp] theorem ti_60 : TI.of Tryd.prog 60 = some ⟨.other, 1, 8, false, [.nilFunc]⟩ := by kernel_rfl
@[simp] theorem ti_61 : TI.of Tryd.prog 61 = some ⟨.other, 1, 8, false, [.nilFunc]⟩ := by kernel_rfl
@[simp] theorem ti_62 : TI.of Tryd.prog 62 = some ⟨.other, 1, 8, false, [.nilFunc]⟩ := by kernel_rfl
@[simp] theorem ti_63 : TI.of Tryd.prog 63 = some ⟨.other, 1, 8, false, [.nilFunc]⟩ := by kernel_rfl
@[simp] theorem ti_64 : TI.of Tryd.prog 64 = some ⟨.other, 1, 8, false, [.nilFunc]⟩ := by kernel_rfl
@[simp] theorem ti_65 : TI.of Tryd.prog 65 = some ⟨.other, 1, 8, false, [.nilFunc]⟩ := by kernel_rfl
@[simp] theorem ti_66 : TI.of Tryd.prog 66 = some ⟨.other, 1, 8, false, [.nilFunc]⟩ := by kernel_rfl
@[simp] theorem ti_67 : TI.of Tryd.prog 67 = some ⟨.other, 1, 8, false, [.nilFunc]⟩ := by kernel_rfl
@[simp] theorem ti_68 : TI.of Tryd.prog 68 = some ⟨.other, 1, 8, false, [.nilFunc]⟩ := by kernel_rfl
@[simp] theorem ti_69 : TI.of Tryd.prog 69 = some ⟨.other, 1, 8, false, [.nilFunc]⟩ := by kernel_rfl
@[simp] theorem ti_71 : TI.of Tryd.prog 71 = some ⟨.other, 1, 8, false, [.nilFunc]⟩ := by kernel_rfl
@[simp] theorem ti_72 : TI.of Tryd.prog 72 = some ⟨.other, 1, 8, false, [.nilFunc]⟩ := by kernel_rfl
@[simp] theorem ti_73 : TI.of Tryd.prog 73 = some ⟨.other, 1, 8, false, [.nilFunc]⟩ := by kernel_rfl
@[simp] theorem ti_74 : TI.of Tryd.prog 74 = some ⟨.other, 1, 8, false, [.nilFunc]⟩ := by kernel_rfl
@[simp] theorem ti_75 : TI.of Tryd.prog 75 = some ⟨.other, 1, 8, false, [.nilFunc]⟩ := by kernel_rfl
@[simp] theorem ti_76 : TI.of Tryd.prog 76 = some ⟨.other, 1, 8, false, [.nilFunc]⟩ := by kernel_rfl
@[simp] theorem ti_77 : TI.of Tryd.prog 77 = some ⟨.other, 1, 8, false, [.nilFunc]⟩ := by kernel_rfl
@[simp] theorem ti_78 : TI.of Tryd.prog 78 = some ⟨.other, 1, 8, false, [.nilFunc]⟩ := by kernel_rfl
@[simp] theorem ti_79 : TI.of Tryd.prog 79 = some ⟨.slice 37, 1, 24, false, [.slice none 0 0]⟩ := by kernel_rfl
@[simp] theorem ti_80 : TI.of Tryd.prog 80 = some ⟨.other, 1, 8, false, [.nilFunc]⟩ := by kernel_rfl
@[simp] theorem ti_81 : TI.of Tryd.prog 81 = some ⟨.other, 1, 8, false, [.nilFunc]⟩ := by kernel_rfl
@[simp] theorem ti_82 : TI.of Tryd.prog 82 = some ⟨.other, 1, 8, false, [.nilFunc]⟩ := by kernel_rfl
@[simp] theorem ti_83 : TI.of Tryd.prog 83 = some ⟨.other, 1, 8, false, [.nilFunc]⟩ := by kernel_rfl
@[simp] theorem ti_84 : TI.of Tryd.prog 84 = some ⟨.other, 1, 8, false, [.nilFunc]⟩ := by kernel_rfl
@[simp] theorem ti_86 : TI.of Tryd.prog 86 = some ⟨.struct [(0, 1, false), (1, 1, false)], 2, 2, true, [.int .u8 0, .int .u8 0]⟩ := by kernel_rfl
@[simp] theorem ti_87 : TI.of Tryd.prog 87 = some ⟨.struct [(0, 1, false), (1, 1, false)], 2, 2, true, [.int .u8 0, .int .u8 0]⟩ := by kernel_rfl
@[simp] theorem ti_88 : TI.of Tryd.prog 88 = some ⟨.other, 32, 32, true, [.int .u8 0, .int .u8 0, .int .u8 0, .int .u8 0, .int .u8 0, .int .u8 0, .int .u8 0, .int .u8 0, .int .u8 0, .int .u8 0, .int .u8 0, .int .u8 0, .int .u8 0, .int .u8 0, .int .u8 0, .int .u8 0, .int .u8 0, .int .u8 0, .int .u8 0, .int .u8 0, .int .u8 0, .int .u8 0, .int .u8 0, .int .u8 0, .int .u8 0, .int .u8 0, .int .u8 0, .int .u8 0, .int .u8 0, .int .u8 0, .int .u8 0, .int .u8 0]⟩ := by kernel_rfl
@[simp] theorem ti_89 : TI.of Tryd.prog 89 = some ⟨.int .u64, 1, 8, false, [.int .u64 0]⟩ := by kernel_rfl
@[simp] theorem ti_90 : TI.of Tryd.prog 90 = some ⟨.other, 1, 8, false, [.nilFunc]⟩ := by kernel_rfl
@[simp] theorem ti_91 : TI.of Tryd.prog 91 = some ⟨.other, 1, 8, false, [.nilFunc]⟩ := by kernel_rfl
@[simp] theorem ti_92 : TI.of Tryd.prog 92 = some ⟨.other, 1, 8, false, [.nilFunc]⟩ := by kernel_rfl
@[simp] theorem ti_93 : TI.of Tryd.prog 93 = some ⟨.other, 1, 8, false, [.nilFunc]⟩ := by kernel_rfl
@[simp] theorem ti_94 : TI.of Tryd.prog 94 = some ⟨.other, 1, 8, false, [.nilFunc]⟩ := by kernel_rfl
@[simp] theorem ti_95 : TI.of Tryd.prog 95 = some ⟨.other, 1, 8, false, [.nilFunc]⟩ := by kernel_rfl
@[simp] theorem ti_96 : TI.of Tryd.prog 96 = some ⟨.other, 1, 8, false, [.nilFunc]⟩ := by kernel_rfl
@[simp] theorem ti_97 : TI.of Tryd.prog 97 = some ⟨.other, 1, 8, false, [.nilFunc]⟩ := by kernel_rfl
@[simp] theorem ti_98 : TI.of Tryd.prog 98 = some ⟨.other, 1, 8, false, [.nilFunc]⟩ := by kernel_rfl
@[simp] theorem ti_99 : TI.of Tryd.prog 99 = some ⟨.other, 1, 8, false, [.nilFunc]⟩ := by kernel_rfl
@[simp] theorem ti_100 : TI.of Tryd.prog 100 = some ⟨.other, 1, 8, false, [.nilFunc]⟩ := by kernel_rfl
@[simp] theorem ti_101 : TI.of Tryd.prog 101 = some ⟨.int .u64, 1, 8, false, [.int .u64 0]⟩ := by kernel_rfl
@[simp] theorem ti_102 : TI.of Tryd.prog 102 = some ⟨.slice 5, 1, 24, false, [.slice none 0 0]⟩ := by kernel_rfl
@[simp] theorem ti_103 : TI.of Tryd.prog 103 = some ⟨.int .i64, 1, 8, false, [.int .i64 0]⟩ := by kernel_rfl
@[simp] theorem ti_105 : TI.of Tryd.prog 105 = some ⟨.other, 1, 8, false, [.nilFunc]⟩ := by kernel_rfl
@[simp] theorem ti_106 : TI.of Tryd.prog 106 = some ⟨.other, 1, 8, false, [.nilFunc]⟩ := by kernel_rfl
@[simp] theorem ti_107 : TI.of Tryd.prog 107 = some ⟨.other, 1, 8, false, [.nilFunc]⟩ := by kernel_rfl
@[simp] theorem ti_109 : TI.of Tryd.prog 109 = some ⟨.other, 1, 8, false, [.nilFunc]⟩ := by kernel_rfl
@[simp] theorem ti_110 : TI.of Tryd.prog 110 = some ⟨.other, 1, 8, false, [.nilFunc]⟩ := by kernel_rfl
@[simp] theorem ti_111 : TI.of Tryd.prog 111 = some ⟨.int .u32, 1, 4, false, [.int .u32 0]⟩ := by kernel_rfl
@[simp] theorem ti_112 : TI.of Tryd.prog 112 = some ⟨.other, 1, 8, false, [.nilFunc]⟩ := by kernel_rfl
@[simp] theorem ti_113 : TI.of Tryd.prog 113 = some ⟨.other, 1, 8, false, [.nilFunc]⟩ := by kernel_rfl
@[simp] theorem ti_114 : TI.of Tryd.prog 114 = some ⟨.other, 1, 8, false, [.nilFunc]⟩ := by kernel_rfl
@[simp] theorem ti_115 : TI.of Tryd.prog 115 = some ⟨.int .u64, 1, 8, false, [.int .u64 0]⟩ := by kernel_rfl
@[simp] theorem ti_116 : TI.of Tryd.prog 116 = some ⟨.other, 1, 8, false, [.nilFunc]⟩ := by kernel_rfl
@[simp] theorem ti_117 : TI.of Tryd.prog 117 = some ⟨.other, 1, 8, false, [.nilFunc]⟩ := by kernel_rfl
@[simp] theorem ti_118 : TI.of Tryd.prog 118 = some ⟨.other, 1, 8, false, [.nilFunc]⟩ := by kernel_rfl
@[simp] theorem ti_119 : TI.of Tryd.prog 119 = some ⟨.ptr 3, 1, 8, false, [.pointer none]⟩ := by kernel_rfl
@[simp] theorem ti_120 : TI.of Tryd.prog 120 = some ⟨.other, 1, 8, false, [.nilFunc]⟩ := by kernel_rfl
@[simp] theorem ti_121 : TI.of Tryd.prog 121 = some ⟨.ptr 115, 1, 8, false, [.pointer none]⟩ := by kernel_rfl
@[simp] theorem ti_122 : TI.of Tryd.prog 122 = some ⟨.other, 1, 8, false, [.nilFunc]⟩ := by kernel_rfl
@[simp] theorem ti_123 : TI.of Tryd.prog 123 = some ⟨.other, 1, 8, false, [.nilFunc]⟩ := by kernel_rfl
@[simp] theorem ti_124 : TI.of Tryd.prog 124 = some ⟨.struct [(0, 1, false), (1, 1, false), (2, 1, false), (3, 1, false)], 4, 40, true, [.pointer none, .pointer none, .pointer none, .string ⟨#[]⟩]⟩ := by kernel_rfl
@[simp] theorem ti_125 : TI.of Tryd.prog 125 = some ⟨.struct [(0, 1, false), (1, 1, false), (2, 1, false), (3, 1, false)], 4, 40, true, [.pointer none, .pointer none, .pointer none, .string ⟨#[]⟩]⟩ := by kernel_rfl
@[simp] theorem ti_126 : TI.of Tryd.prog 126 = some ⟨.other, 0, 0, true, []⟩ := by kernel_rfl
@[simp] theorem ti_127 : TI.of Tryd.prog 127 = some ⟨.struct [(0, 0, true)], 0, 0, true, []⟩ := by kernel_rfl
@[simp] theorem ti_128 : TI.of Tryd.prog 128 = some ⟨.struct [(0, 0, true)], 0, 0, true, []⟩ := by kernel_rfl
@[simp] theorem ti_129 : TI.of Tryd.prog 129 = some ⟨.other, 1, 8, false, [.nilFunc]⟩ := by kernel_rfl
@[simp] theorem ti_130 : TI.of Tryd.prog 130 = some ⟨.int .u8, 1, 1, false, [.int .u8 0]⟩ := by kernel_rfl
@[simp] theorem ti_131 : TI.of Tryd.prog 131 = some ⟨.int .u8, 1, 1, false, [.int .u8 0]⟩ := by kernel_rfl
@[simp] theorem ti_132 : TI.of Tryd.prog 132 = some ⟨.other, 1, 8, false, [.nilFunc]⟩ := by kernel_rfl
@[simp] theorem ti_133 : TI.of Tryd.prog 133 = some ⟨.ptr 5, 1, 8, false, [.pointer none]⟩ := by kernel_rfl
@[simp] theorem ti_134 : TI.of Tryd.prog 134 = some ⟨.int .i32, 1, 4, false, [.int .i32 0]⟩ := by kernel_rfl
@[simp] theorem ti_135 : TI.of Tryd.prog 135 = some ⟨.int .i32, 1, 4, false, [.int .i32 0]⟩ := by kernel_rfl
@[simp] theorem ti_136 : TI.of Tryd.prog 136 = some ⟨.struct [(0, 1, false), (1, 1, false), (2, 1, false), (3, 1, false), (4, 1, false), (5, 1, false), (6, 1, false), (7, 1, false), (8, 1, false), (9, 1, false), (10, 1, false)], 11, 48, true, [.int .u64 0, .int .u64 0, .int .u32 0, .int .u8 0, .int .u8 0, .int .u8 0, .int .u8 0, .nilFunc, .pointer none, .int .i32 0, .int .i32 0]⟩ := by kernel_rfl
@[simp] theorem ti_137 : TI.of Tryd.prog 137 = some ⟨.struct [(0, 1, false), (1, 1, false), (2, 1, false), (3, 1, false), (4, 1, false), (5, 1, false), (6, 1, false), (7, 1, false), (8, 1, false), (9, 1, false), (10, 1, false)], 11, 48, true, [.int .u64 0, .int .u64 0, .int .u32 0, .int .u8 0, .int .u8 0, .int .u8 0, .int .u8 0, .nilFunc, .pointer none, .int .i32 0, .int .i32 0]⟩ := by kernel_rfl
@[simp] theorem ti_138 : TI.of Tryd.prog 138 = some ⟨.other, 1, 8, false, [.pointer none]⟩ := by kernel_rfl
@[simp] theorem zf_39 : zfit Tryd.prog 39 = true := by kernel_rfl
@[simp] theorem ek_7 : eqKinds Tryd.prog 7 = some [.int .i64, .int .i64, .bool, .int .u8] := by kernel_rfl
@[simp] theorem ek_8 : eqKinds Tryd.prog 8 = some [.int .i64, .int .i64, .bool, .int .u8] := by kernel_rfl
@[simp] theorem ek_36 : eqKinds Tryd.prog 36 = some [.int .i64, .int .i64] := by kernel_rfl
@[simp] theorem ek_37 : eqKinds Tryd.prog 37 = some [.int .i64, .int .i64] := by kernel_rfl
@[simp] theorem ek_38 : eqKinds Tryd.prog 38 = some [.int .i64, .int .i64, .int .i64, .int .i64, .int .i64, .int .i64, .str] := by kernel_rfl
@[simp] theorem ek_39 : eqKinds Tryd.prog 39 = some [.int .i64, .int .i64, .int .i64, .int .i64, .int .i64, .int .i64, .str] := by kernel_rfl
@[simp] theorem ek_48 : eqKinds Tryd.prog 48 = some [.str, .int .i64, .int .i64, .int .i64] := by kernel_rfl
@[simp] theorem ek_49 : eqKinds Tryd.prog 49 = some [.str, .int .i64, .int .i64, .int .i64] := by kernel_rfl
@[simp] theorem ek_86 : eqKinds Tryd.prog 86 = some [.int .u8, .int .u8] := by kernel_rfl
@[simp] theorem ek_87 : eqKinds Tryd.prog 87 = some [.int .u8, .int .u8] := by kernel_rfl
theorem call_2 : callable Tryd.prog 2 = true := by kernel_rfl
theorem call_3 : callable Tryd.prog 3 = true := by kernel_rfl
theorem call_4 : callable Tryd.prog 4 = true := by kernel_rfl
theorem call_5 : callable Tryd.prog 5 = true := by kernel_rfl
theorem call_6 : callable Tryd.prog 6 = true := by kernel_rfl
theorem call_7 : callable Tryd.prog 7 = true := by kernel_rfl
theorem call_8 : callable Tryd.prog 8 = true := by kernel_rfl
theorem call_9 : callable Tryd.prog 9 = true := by kernel_rfl
theorem call_10 : callable Tryd.prog 10 = true := by kernel_rfl
theorem call_11 : callable Tryd.prog 11 = true := by kernel_rfl
theorem call_12 : callable Tryd.prog 12 = true := by kernel_rfl
theorem call_13 : callable Tryd.prog 13 = true := by kernel_rfl
theorem call_14 : callable Tryd.prog 14 = true := by kernel_rfl
theorem call_15 : callable Tryd.prog 15 = true := by kernel_rfl
theorem call_16 : callable Tryd.prog 16 = true := by kernel_rfl
theorem call_17 : callable Tryd.prog 17 = true := by kernel_rfl
theorem call_18 : callable Tryd.prog 18 = true := by kernel_rfl
theorem call_19 : callable Tryd.prog 19 = true := by kernel_rfl
theorem call_20 : callable Tryd.prog 20 = true := by kernel_rfl
theorem call_21 : callable Tryd.prog 21 = true := by kernel_rfl
theorem call_22 : callable Tryd.prog 22 = true := by kernel_rfl
theorem call_23 : callable Tryd.prog 23 = true := by kernel_rfl
theorem call_24 : callable Tryd.prog 24 = true := by kernel_rfl
theorem call_25 : callable Tryd.prog 25 = true := by kernel_rfl
theorem call_26 : callable Tryd.prog 26 = true := by kernel_rfl
theorem call_27 : callable Tryd.prog 27 = true := by kernel_rfl
theorem call_28 : callable Tryd.prog 28 = true := by kernel_rfl
theorem call_29 : callable Tryd.prog 29 = true := by kernel_rfl
theorem call_30 : callable Tryd.prog 30 = true := by kernel_rfl
theorem call_31 : callable Tryd.prog 31 = true := by kernel_rfl
theorem call_32 : callable Tryd.prog 32 = true := by kernel_rfl
theorem call_33 : callable Tryd.prog 33 = true := by kernel_rfl
theorem call_34 : callable Tryd.prog 34 = true := by kernel_rfl
theorem call_35 : callable Tryd.prog 35 = true := by kernel_rfl
theorem call_36 : callable Tryd.prog 36 = true := by kernel_rfl
theorem call_37 : callable Tryd.prog 37 = true := by kernel_rfl
theorem call_38 : callable Tryd.prog 38 = true := by kernel_rfl
theorem call_39 : callable Tryd.prog 39 = true := by kernel_rfl
theorem call_40 : callable Tryd.prog 40 = true := by kernel_rfl
theorem call_41 : callable Tryd.prog 41 = true := by kernel_rfl
theorem call_42 : callable Tryd.prog 42 = true := by kernel_rfl
theorem call_43 : callable Tryd.prog 43 = true := by kernel_rfl
theorem call_44 : callable Tryd.prog 44 = true := by kernel_rfl
theorem call_45 : callable Tryd.prog 45 = true := by kernel_rfl
theorem call_46 : callable Tryd.prog 46 = true := by kernel_rfl
theorem call_47 : callable Tryd.prog 47 = true := by kernel_rfl
theorem call_48 : callable Tryd.prog 48 = true := by kernel_rfl
theorem call_49 : callable Tryd.prog 49 = true := by kernel_rfl
theorem call_50 : callable Tryd.prog 50 = true := by kernel_rfl
theorem call_51 : callable Tryd.prog 51 = true := by kernel_rfl
theorem call_52 : callable Tryd.prog 52 = true := by kernel_rfl
theorem call_53 : callable Tryd.prog 53 = true := by kernel_rfl
theorem call_54 : callable Tryd.prog 54 = true := by kernel_rfl
theorem call_55 : callable Tryd.prog 55 = true := by kernel_rfl
theorem call_56 : callable Tryd.prog 56 = true := by kernel_rfl
theorem call_57 : callable Tryd.prog 57 = true := by kernel_rfl
theorem call_58 : callable Tryd.prog 58 = true := by kernel_rfl
theorem call_59 : callable Tryd.prog 59 = true := by kernel_rfl
theorem call_60 : callable Tryd.prog 60 = true := by kernel_rfl
theorem call_61 : callable Tryd.prog 61 = true := by kernel_rfl
theorem call_62 : callable Tryd.prog 62 = true := by kernel_rfl
theorem call_63 : callable Tryd.prog 63 = true := by kernel_rfl
theorem call_64 : callable Tryd.prog 64 = true := by kernel_rfl
theorem call_65 : callable Tryd.prog 65 = true := by kernel_rfl
theorem call_66 : callable Tryd.prog 66 = true := by kernel_rfl
theorem call_67 : callable Tryd.prog 67 = true := by kernel_rfl
theorem call_68 : callable Tryd.prog 68 = true := by kernel_rfl
theorem call_69 : callable Tryd.prog 69 = true := by kernel_rfl
theorem call_70 : callable Tryd.prog 70 = true := by kernel_rfl
theorem call_71 : callable Tryd.prog 71 = true := by kernel_rfl
theorem call_72 : callable Tryd.prog 72 = true := by kernel_rfl
theorem call_73 : callable Tryd.prog 73 = true := by kernel_rfl
theorem call_74 : callable Tryd.prog 74 = true := by kernel_rfl
theorem call_75 : callable Tryd.prog 75 = true := by kernel_rfl
theorem call_76 : callable Tryd.prog 76 = true := by kernel_rfl
theorem call_77 : callable Tryd.prog 77 = true := by kernel_rfl
theorem call_78 : callable Tryd.prog 78 = true := by kernel_rfl
theorem call_79 : callable Tryd.prog 79 = true := by kernel_rfl
theorem call_80 : callable Tryd.prog 80 = true := by kernel_rfl
theorem call_81 : callable Tryd.prog 81 = true := by kernel_rfl
theorem call_82 : callable Tryd.prog 82 = true := by kernel_rfl
theorem call_83 : callable Tryd.prog 83 = true := by kernel_rfl
theorem call_84 : callable Tryd.prog 84 = true := by kernel_rfl
theorem call_85 : callable Tryd.prog 85 = true := by kernel_rfl
theorem call_86 : callable Tryd.prog 86 = true := by kernel_rfl
theorem call_87 : callable Tryd.prog 87 = true := by kernel_rfl
theorem call_88 : callable Tryd.prog 88 = true := by kernel_rfl
theorem call_89 : callable Tryd.prog 89 = true := by kernel_rfl
theorem call_90 : callable Tryd.prog 90 = true := by kernel_rfl
theorem call_91 : callable Tryd.prog 91 = true := by kernel_rfl
theorem call_92 : callable Tryd.prog 92 = true := by kernel_rfl
theorem call_93 : callable Tryd.prog 93 = true := by kernel_rfl
theorem call_94 : callable Tryd.prog 94 = true := by kernel_rfl
theorem call_95 : callable Tryd.prog 95 = true := by kernel_rfl
theorem call_96 : callable Tryd.prog 96 = true := by kernel_rfl
theorem call_97 : callable Tryd.prog 97 = true := by kernel_rfl
theorem call_98 : callable Tryd.prog 98 = true := by kernel_rfl
theorem call_99 : callable Tryd.prog 99 = true := by kernel_rfl
theorem call_100 : callable Tryd.prog 100 = true := by kernel_rfl
theorem call_101 : callable Tryd.prog 101 = true := by kernel_rfl
theorem call_102 : callable Tryd.prog 102 = true := by kernel_rfl
theorem call_103 : callable Tryd.prog 103 = true := by kernel_rfl
theorem call_104 : callable Tryd.prog 104 = true := by kernel_rfl
theorem call_105 : callable Tryd.prog 105 = true := by kernel_rfl
theorem call_106 : callable Tryd.prog 106 = true := by kernel_rfl
theorem call_127 : callable Tryd.prog 127 = true := by kernel_rfl
end Go.V
