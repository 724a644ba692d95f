/- What the types of the program are to the logic of V1 .. V25, and that its functions can be called: closed facts, printed by a program of mine. -/
import Derived.Test.YtpdfjfieimkplaaGreatDoorV25
import Derived.Test.YtpdfjfieimkplaaGreatDoorProg
import Derived.KernelRfl
namespace Go.V
open Go Go.Proofs
set_option maxRecDepth 100000
theorem mixed : Tryz.prog.follows .mixedOrders = true := by kernel_rfl
@[simp] theorem ti_1 : TI.of Tryz.prog 1 = some ⟨.other, 1, 8, false, [.nilFunc]⟩ := by kernel_rfl
@[simp] theorem ti_2 : TI.of Tryz.prog 2 = some ⟨.int .i64, 1, 8, false, [.int .i64 0]⟩ := by kernel_rfl
@[simp] theorem ti_3 : TI.of Tryz.prog 3 = some ⟨.int .i64, 1, 8, false, [.int .i64 0]⟩ := by kernel_rfl
@[simp] theorem ti_4 : TI.of Tryz.prog 4 = some ⟨.bool, 1, 1, false, [.bool false]⟩ := by kernel_rfl
@[simp] theorem ti_5 : TI.of Tryz.prog 5 = some ⟨.int .u8, 1, 1, false, [.int .u8 0]⟩ := by kernel_rfl
@[simp] theorem ti_6 : TI.of Tryz.prog 6 = some ⟨.int .u8, 1, 1, false, [.int .u8 0]⟩ := by kernel_rfl
@[simp] theorem ti_7 : TI.of Tryz.prog 7 = some ⟨.struct [(0, 1, false), (1, 1, false), (2, 1, false), (3, 1, false)], 4, 24, true, [.int .i64 0, .int .i64 0, .bool false, .int .u8 0]⟩ := by kernel_rfl
@[simp] theorem ti_8 : TI.of Tryz.prog 8 = some ⟨.struct [(0, 1, false), (1, 1, false), (2, 1, false), (3, 1, false)], 4, 24, true, [.int .i64 0, .int .i64 0, .bool false, .int .u8 0]⟩ := by kernel_rfl
@[simp] theorem ti_9 : TI.of Tryz.prog 9 = some ⟨.str, 1, 16, false, [.string ⟨#[]⟩]⟩ := by kernel_rfl
@[simp] theorem ti_10 : TI.of Tryz.prog 10 = some ⟨.str, 1, 16, false, [.string ⟨#[]⟩]⟩ := by kernel_rfl
@[simp] theorem ti_11 : TI.of Tryz.prog 11 = some ⟨.str, 1, 16, false, [.string ⟨#[]⟩]⟩ := by kernel_rfl
@[simp] theorem ti_12 : TI.of Tryz.prog 12 = some ⟨.int .u64, 1, 8, false, [.int .u64 0]⟩ := by kernel_rfl
@[simp] theorem ti_13 : TI.of Tryz.prog 13 = some ⟨.struct [(0, 1, false), (1, 1, false)], 2, 24, true, [.string ⟨#[]⟩, .int .u64 0]⟩ := by kernel_rfl
@[simp] theorem ti_14 : TI.of Tryz.prog 14 = some ⟨.struct [(0, 1, false), (1, 1, false)], 2, 24, true, [.string ⟨#[]⟩, .int .u64 0]⟩ := by kernel_rfl
@[simp] theorem ti_15 : TI.of Tryz.prog 15 = some ⟨.ptr 143, 1, 8, false, [.pointer none]⟩ := by kernel_rfl
@[simp] theorem ti_16 : TI.of Tryz.prog 16 = some ⟨.ptr 146, 1, 8, false, [.pointer none]⟩ := by kernel_rfl
@[simp] theorem ti_17 : TI.of Tryz.prog 17 = some ⟨.ptr 155, 1, 8, false, [.pointer none]⟩ := by kernel_rfl
@[simp] theorem ti_18 : TI.of Tryz.prog 18 = some ⟨.struct [(0, 1, false)], 1, 8, true, [.pointer none]⟩ := by kernel_rfl
@[simp] theorem ti_19 : TI.of Tryz.prog 19 = some ⟨.struct [(0, 1, false)], 1, 8, true, [.pointer none]⟩ := by kernel_rfl
@[simp] theorem ti_20 : TI.of Tryz.prog 20 = some ⟨.other, 1, 16, false, [.nilIface]⟩ := by kernel_rfl
@[simp] theorem ti_21 : TI.of Tryz.prog 21 = some ⟨.int .i32, 1, 4, false, [.int .i32 0]⟩ := by kernel_rfl
@[simp] theorem ti_22 : TI.of Tryz.prog 22 = some ⟨.slice 3, 1, 24, false, [.slice none 0 0]⟩ := by kernel_rfl
@[simp] theorem ti_23 : TI.of Tryz.prog 23 = some ⟨.struct [(0, 1, false), (1, 1, false), (2, 1, false), (3, 1, false), (4, 1, false)], 5, 64, true, [.int .i64 0, .string ⟨#[]⟩, .int .i64 0, .int .i64 0, .slice none 0 0]⟩ := by kernel_rfl
@[simp] theorem ti_24 : TI.of Tryz.prog 24 = some ⟨.struct [(0, 1, false), (1, 1, false), (2, 1, false), (3, 1, false), (4, 1, false)], 5, 64, true, [.int .i64 0, .string ⟨#[]⟩, .int .i64 0, .int .i64 0, .slice none 0 0]⟩ := by kernel_rfl
@[simp] theorem ti_25 : TI.of Tryz.prog 25 = some ⟨.slice 54, 1, 24, false, [.slice none 0 0]⟩ := by kernel_rfl
@[simp] theorem ti_26 : TI.of Tryz.prog 26 = some ⟨.slice 44, 1, 24, false, [.slice none 0 0]⟩ := by kernel_rfl
@[simp] theorem ti_27 : TI.of Tryz.prog 27 = some ⟨.struct [(0, 5, true), (5, 1, false), (6, 1, false)], 7, 112, true, [.int .i64 0, .string ⟨#[]⟩, .int .i64 0, .int .i64 0, .slice none 0 0, .slice none 0 0, .slice none 0 0]⟩ := by kernel_rfl
@[simp] theorem ti_28 : TI.of Tryz.prog 28 = some ⟨.struct [(0, 5, true), (5, 1, false), (6, 1, false)], 7, 112, true, [.int .i64 0, .string ⟨#[]⟩, .int .i64 0, .int .i64 0, .slice none 0 0, .slice none 0 0, .slice none 0 0]⟩ := by kernel_rfl
@[simp] theorem ti_29 : TI.of Tryz.prog 29 = some ⟨.slice 39, 1, 24, false, [.slice none 0 0]⟩ := by kernel_rfl
@[simp] theorem ti_30 : TI.of Tryz.prog 30 = some ⟨.other, 1, 8, false, [.nilFunc]⟩ := by kernel_rfl
@[simp] theorem ti_31 : TI.of Tryz.prog 31 = some ⟨.other, 1, 8, false, [.nilFunc]⟩ := by kernel_rfl
@[simp] theorem ti_32 : TI.of Tryz.prog 32 = some ⟨.other, 1, 8, false, [.nilFunc]⟩ := by kernel_rfl
@[simp] theorem ti_33 : TI.of Tryz.prog 33 = some ⟨.int .i64, 1, 8, false, [.int .i64 0]⟩ := by kernel_rfl
@[simp] theorem ti_34 : TI.of Tryz.prog 34 = some ⟨.other, 1, 8, false, [.nilFunc]⟩ := by kernel_rfl
@[simp] theorem ti_35 : TI.of Tryz.prog 35 = some ⟨.other, 1, 8, false, [.nilFunc]⟩ := by kernel_rfl
@[simp] theorem ti_36 : TI.of Tryz.prog 36 = some ⟨.other, 1, 8, false, [.nilFunc]⟩ := by kernel_rfl
@[simp] theorem ti_37 : TI.of Tryz.prog 37 = some ⟨.other, 1, 8, false, [.nilFunc]⟩ := by kernel_rfl
@[simp] theorem ti_38 : TI.of Tryz.prog 38 = some ⟨.struct [(0, 1, false), (1, 1, false)], 2, 16, true, [.int .i64 0, .int .i64 0]⟩ := by kernel_rfl
@[simp] theorem ti_39 : TI.of Tryz.prog 39 = some ⟨.struct [(0, 1, false), (1, 1, false)], 2, 16, true, [.int .i64 0, .int .i64 0]⟩ := by kernel_rfl
@[simp] theorem ti_40 : TI.of Tryz.prog 40 = some ⟨.other, 1, 8, false, [.nilFunc]⟩ := by kernel_rfl
@[simp] theorem ti_41 : TI.of Tryz.prog 41 = some ⟨.other, 1, 8, false, [.nilFunc]⟩ := by kernel_rfl
@[simp] theorem ti_42 : TI.of Tryz.prog 42 = some ⟨.other, 1, 8, false, [.nilFunc]⟩ := by kernel_rfl
@[simp] theorem ti_43 : TI.of Tryz.prog 43 = some ⟨.struct [(0, 1, false), (1, 1, false), (2, 1, false), (3, 2, true), (5, 1, false), (6, 1, false)], 7, 64, true, [.int .i64 0, .int .i64 0, .int .i64 0, .int .i64 0, .int .i64 0, .int .i64 0, .string ⟨#[]⟩]⟩ := by kernel_rfl
@[simp] theorem ti_44 : TI.of Tryz.prog 44 = some ⟨.struct [(0, 1, false), (1, 1, false), (2, 1, false), (3, 2, true), (5, 1, false), (6, 1, false)], 7, 64, true, [.int .i64 0, .int .i64 0, .int .i64 0, .int .i64 0, .int .i64 0, .int .i64 0, .string ⟨#[]⟩]⟩ := by kernel_rfl
@[simp] theorem ti_45 : TI.of Tryz.prog 45 = some ⟨.map 3 4, 1, 8, false, [.map none]⟩ := by kernel_rfl
@[simp] theorem ti_46 : TI.of Tryz.prog 46 = some ⟨.other, 1, 8, false, [.nilFunc]⟩ := by kernel_rfl
@[simp] theorem ti_47 : TI.of Tryz.prog 47 = some ⟨.other, 1, 8, false, [.nilFunc]⟩ := by kernel_rfl
@[simp] theorem ti_48 : TI.of Tryz.prog 48 = some ⟨.map 3 44, 1, 8, false, [.map none]⟩ := by kernel_rfl
@[simp] theorem ti_49 : TI.of Tryz.prog 49 = some ⟨.other, 1, 8, false, [.nilFunc]⟩ := by kernel_rfl
@[simp] theorem ti_50 : TI.of Tryz.prog 50 = some ⟨.other, 1, 8, false, [.nilFunc]⟩ := by kernel_rfl
@[simp] theorem ti_51 : TI.of Tryz.prog 51 = some ⟨.other, 1, 8, false, [.nilFunc]⟩ := by kernel_rfl
@[simp] theorem ti_52 : TI.of Tryz.prog 52 = some ⟨.other, 1, 8, false, [.nilFunc]⟩ := by kernel_rfl
@[simp] theorem ti_53 : TI.of Tryz.prog 53 = some ⟨.struct [(0, 1, false), (1, 1, false), (2, 1, false), (3, 1, false)], 4, 40, true, [.string ⟨#[]⟩, .int .i64 0, .int .i64 0, .int .i64 0]⟩ := by kernel_rfl
@[simp] theorem ti_54 : TI.of Tryz.prog 54 = some ⟨.struct [(0, 1, false), (1, 1, false), (2, 1, false), (3, 1, false)], 4, 40, true, [.string ⟨#[]⟩, .int .i64 0, .int .i64 0, .int .i64 0]⟩ := by kernel_rfl
@[simp] theorem ti_55 : TI.of Tryz.prog 55 = some ⟨.other, 1, 8, false, [.nilFunc]⟩ := by kernel_rfl
@[simp] theorem ti_56 : TI.of Tryz.prog 56 = some ⟨.other, 1, 8, false, [.nilFunc]⟩ := by kernel_rfl
@[simp] theorem ti_58 : TI.of Tryz.prog 58 = some ⟨.other, 1, 8, false, [.nilFunc]⟩ := by kernel_rfl
@[simp] theorem ti_59 : TI.of Tryz.prog 59 = some ⟨.other, 1, 8, false, [.nilFunc]⟩ := by kernel_rfl
@[simp] theorem ti_60 : TI.of Tryz.prog 60 = some ⟨.other, 1, 8, false, [.nilFunc]⟩ := by kernel_rfl
@[simp] theorem ti_62 : TI.of Tryz.prog 62 = some ⟨.other, 1, 8, false, [.nilFunc]⟩ := by kernel_rfl
@[simp] theorem ti_63 : TI.of Tryz.prog 63 = some ⟨.other, 1, 8, false, [.nilFunc]⟩ := by kernel_rfl
@[simp] theorem ti_64 : TI.of Tryz.prog 64 = some ⟨.other, 1, 8, false, [.nilFunc]⟩ := by kernel_rfl
@[simp] theorem ti_65 : TI.of Tryz.prog 65 = some ⟨.other, 1, 8, false, [.nilFunc]⟩ := by kernel_rfl
@[simp] theorem ti_66 : TI.of Tryz.prog 66 = some ⟨.other, 1, 8, false, [.nilFunc]⟩ := by kernel_rfl
@[simp] theorem ti_67 : TI.of Tryz.prog 67 = some ⟨.other, 1, 8, false, [.nilFunc]⟩ := by kernel_rfl
@[simp] theorem ti_68 : TI.of Tryz.prog 68 = some ⟨.other, 1, 8, false, [.nilFunc]⟩ := by kernel_rfl
@[simp] theorem ti_69 : TI.of Tryz.prog 69 = some ⟨.other, 1, 8, false, [.nilFunc]⟩ := by kernel_rfl
@[simp] theorem ti_70 : TI.of Tryz.prog 70 = some ⟨.other, 1, 8, false, [.nilFunc]⟩ := by kernel_rfl
@[simp] theorem ti_71 : TI.of Tryz.prog 71 = some ⟨.other, 1, 8, false, [.nilFunc]⟩ := by kernel_rfl
@[simp] theorem ti_72 : TI.of Tryz.prog 72 = some ⟨.other, 1, 8, false, [.nilFunc]⟩ := by kernel_rfl
@[simp] theorem ti_73 : TI.of Tryz.prog 73 = some ⟨.other, 1, 8, false, [.nilFunc]⟩ := by kernel_rfl
@[simp] theorem ti_74 : TI.of Tryz.prog 74 = some ⟨.other, 1, 8, false, [.nilFunc]⟩ := by kernel_rfl
@[simp] theorem ti_75 : TI.of Tryz.prog 75 = some ⟨.other, 1, 8, false, [.nilFunc]⟩ := by kernel_rfl
@[simp] theorem ti_76 : TI.of Tryz.prog 76 = some ⟨.other, 1, 8, false, [.nilFunc]⟩ := by kernel_rfl
@[simp] theorem ti_77 : TI.of Tryz.prog 77 = some ⟨.other, 1, 8, false, [.nilFunc]⟩ := by kernel_rfl
@[simp] theorem ti_78 : TI.of Tryz.prog 78 = some ⟨.other, 1, 8, false, [.nilFunc]⟩ := by kernel_rfl
@[simp] theorem ti_80 : TI.of Tryz.prog 80 = some ⟨.other, 1, 8, false, [.nilFunc]⟩ := by kernel_rfl
@[simp] theorem ti_81 : TI.of Tryz.prog 81 = some ⟨.other, 1, 8, false, [.nilFunc]⟩ := by kernel_rfl
@[simp] theorem ti_82 : TI.of Tryz.prog 82 = some ⟨.other, 1, 8, false, [.nilFunc]⟩ := by kernel_rfl
@[simp] theorem ti_83 : TI.of Tryz.prog 83 = some ⟨.int .u64, 1, 8, false, [.int .u64 0]⟩ := by kernel_rfl
@[simp] theorem ti_84 : TI.of Tryz.prog 84 = some ⟨.other, 1, 8, false, [.nilFunc]⟩ := by kernel_rfl
@[simp] theorem ti_85 : TI.of Tryz.prog 85 = some ⟨.other, 1, 8, false, [.nilFunc]⟩ := by kernel_rfl
@[simp] theorem ti_86 : TI.of Tryz.prog 86 = some ⟨.other, 1, 8, false, [.nilFunc]⟩ := by kernel_rfl
@[simp] theorem ti_87 : TI.of Tryz.prog 87 = some ⟨.other, 1, 8, false, [.nilFunc]⟩ := by kernel_rfl
@[simp] theorem ti_88 : TI.of Tryz.prog 88 = some ⟨.other, 1, 8, false, [.nilFunc]⟩ := by kernel_rfl
@[simp] theorem ti_89 : TI.of Tryz.prog 89 = some ⟨.other, 1, 8, false, [.nilFunc]⟩ := by kernel_rfl
@[simp] theorem ti_90 : TI.of Tryz.prog 90 = some ⟨.other, 1, 8, false, [.nilFunc]⟩ := by kernel_rfl
@[simp] theorem ti_91 : TI.of Tryz.prog 91 = some ⟨.other, 1, 8, false, [.nilFunc]⟩ := by kernel_rfl
@[simp] theorem ti_92 : TI.of Tryz.prog 92 = some ⟨.other, 1, 8, false, [.nilFunc]⟩ := by kernel_rfl
@[simp] theorem ti_93 : TI.of Tryz.prog 93 = some ⟨.other, 1, 8, false, [.nilFunc]⟩ := by kernel_rfl
@[simp] theorem ti_94 : TI.of Tryz.prog 94 = some ⟨.other, 1, 8, false, [.nilFunc]⟩ := by kernel_rfl
@[simp] theorem ti_95 : TI.of Tryz.prog 95 = some ⟨.other, 1, 8, false, [.nilFunc]⟩ := by kernel_rfl
@[simp] theorem ti_96 : TI.of Tryz.prog 96 = some ⟨.slice 5, 1, 24, false, [.slice none 0 0]⟩ := by kernel_rfl
@[simp] theorem ti_97 : TI.of Tryz.prog 97 = some ⟨.other, 1, 8, false, [.nilFunc]⟩ := by kernel_rfl
@[simp] theorem ti_98 : TI.of Tryz.prog 98 = some ⟨.other, 1, 8, false, [.nilFunc]⟩ := by kernel_rfl
@[simp] theorem ti_99 : TI.of Tryz.prog 99 = some ⟨.other, 1, 8, false, [.nilFunc]⟩ := by kernel_rfl
@[simp] theorem ti_100 : TI.of Tryz.prog 100 = some ⟨.other, 1, 8, false, [.nilFunc]⟩ := by kernel_rfl
@[simp] theorem ti_101 : TI.of Tryz.prog 101 = some ⟨.int .i64, 1, 8, false, [.int .i64 0]⟩ := by kernel_rfl
@[simp] theorem ti_103 : TI.of Tryz.prog 103 = some ⟨.other, 1, 8, false, [.nilFunc]⟩ := by kernel_rfl
@[simp] theorem ti_104 : TI.of Tryz.prog 104 = some ⟨.other, 1, 8, false, [.nilFunc]⟩ := by kernel_rfl
@[simp] theorem ti_105 : TI.of Tryz.prog 105 = some ⟨.other, 1, 8, false, [.nilFunc]⟩ := by kernel_rfl
@[simp] theorem ti_107 : TI.of Tryz.prog 107 = some ⟨.other, 1, 8, false, [.nilFunc]⟩ := by kernel_rfl
@[simp] theorem ti_108 : TI.of Tryz.prog 108 = some ⟨.other, 1, 8, false, [.nilFunc]⟩ := by kernel_rfl
@[simp] theorem ti_109 : TI.of Tryz.prog 109 = some ⟨.int .u32, 1, 4, false, [.int .u32 0]⟩ := by kernel_rfl
@[simp] theorem ti_110 : TI.of Tryz.prog 110 = some ⟨.other, 1, 8, false, [.nilFunc]⟩ := by kernel_rfl
@[simp] theorem ti_111 : TI.of Tryz.prog 111 = some ⟨.int .u64, 1, 8, false, [.int .u64 0]⟩ := by kernel_rfl
@[simp] theorem ti_112 : TI.of Tryz.prog 112 = some ⟨.other, 1, 8, false, [.nilFunc]⟩ := by kernel_rfl
@[simp] theorem ti_113 : TI.of Tryz.prog 113 = some ⟨.other, 1, 8, false, [.nilFunc]⟩ := by kernel_rfl
@[simp] theorem ti_114 : TI.of Tryz.prog 114 = some ⟨.other, 1, 8, false, [.nilFunc]⟩ := by kernel_rfl
@[simp] theorem ti_115 : TI.of Tryz.prog 115 = some ⟨.other, 1, 8, false, [.nilFunc]⟩ := by kernel_rfl
@[simp] theorem ti_117 : TI.of Tryz.prog 117 = some ⟨.struct [(0, 1, false), (1, 1, false)], 2, 2, true, [.int .u8 0, .int .u8 0]⟩ := by kernel_rfl
@[simp] theorem ti_118 : TI.of Tryz.prog 118 = some ⟨.struct [(0, 1, false), (1, 1, false)], 2, 2, true, [.int .u8 0, .int .u8 0]⟩ := by kernel_rfl
@[simp] theorem ti_119 : TI.of Tryz.prog 119 = some ⟨.other, 32, 32, true, [.int .u8 0, .int .u8 0, .int .u8 0, .int .u8 0, .int .u8 0, .int .u8 0, .int .u8 0, .int .u8 0, .int .u8 0, .int .u8 0, .int .u8 0, .int .u8 0, .int .u8 0, .int .u8 0, .int .u8 0, .int .u8 0, .int .u8 0, .int .u8 0, .int .u8 0, .int .u8 0, .int .u8 0, .int .u8 0, .int .u8 0, .int .u8 0, .int .u8 0, .int .u8 0, .int .u8 0, .int .u8 0, .int .u8 0, .int .u8 0, .int .u8 0, .int .u8 0]⟩ := by kernel_rfl
@[simp] theorem ti_120 : TI.of Tryz.prog 120 = some ⟨.other, 1, 8, false, [.nilFunc]⟩ := by kernel_rfl
@[simp] theorem ti_121 : TI.of Tryz.prog 121 = some ⟨.int .u64, 1, 8, false, [.int .u64 0]⟩ := by kernel_rfl
@[simp] theorem ti_122 : TI.of Tryz.prog 122 = some ⟨.other, 1, 8, false, [.nilFunc]⟩ := by kernel_rfl
@[simp] theorem ti_123 : TI.of Tryz.prog 123 = some ⟨.other, 1, 8, false, [.nilFunc]⟩ := by kernel_rfl
@[simp] theorem ti_124 : TI.of Tryz.prog 124 = some ⟨.other, 1, 8, false, [.nilFunc]⟩ := by kernel_rfl
@[simp] theorem ti_125 : TI.of Tryz.prog 125 = some ⟨.ptr 3, 1, 8, false, [.pointer none]⟩ := by kernel_rfl
@[simp] theorem ti_126 : TI.of Tryz.prog 126 = some ⟨.other, 1, 8, false, [.nilFunc]⟩ := by kernel_rfl
@[simp] theorem ti_128 : TI.of Tryz.prog 128 = some ⟨.other, 1, 8, false, [.nilFunc]⟩ := by kernel_rfl
@[simp] theorem ti_129 : TI.of Tryz.prog 129 = some ⟨.other, 1, 8, false, [.nilFunc]⟩ := by kernel_rfl
@[simp] theorem ti_130 : TI.of Tryz.prog 130 = some ⟨.other, 1, 8, false, [.nilFunc]⟩ := by kernel_rfl
@[simp] theorem ti_131 : TI.of Tryz.prog 131 = some ⟨.other, 1, 8, false, [.nilFunc]⟩ := by kernel_rfl
@[simp] theorem ti_132 : TI.of Tryz.prog 132 = some ⟨.other, 1, 8, false, [.nilFunc]⟩ := by kernel_rfl
@[simp] theorem ti_133 : TI.of Tryz.prog 133 = some ⟨.other, 1, 8, false, [.nilFunc]⟩ := by kernel_rfl
@[simp] theorem ti_134 : TI.of Tryz.prog 134 = some ⟨.other, 1, 8, false, [.nilFunc]⟩ := by kernel_rfl
@[simp] theorem ti_135 : TI.of Tryz.prog 135 = some ⟨.ptr 121, 1, 8, false, [.pointer none]⟩ := by kernel_rfl
@[simp] theorem ti_136 : TI.of Tryz.prog 136 = some ⟨.other, 1, 8, false, [.nilFunc]⟩ := by kernel_rfl
@[simp] theorem ti_137 : TI.of Tryz.prog 137 = some ⟨.other, 1, 8, false, [.nilFunc]⟩ := by kernel_rfl
@[simp] theorem ti_138 : TI.of Tryz.prog 138 = some ⟨.other, 1, 8, false, [.nilFunc]⟩ := by kernel_rfl
@[simp] theorem ti_139 : TI.of Tryz.prog 139 = some ⟨.other, 1, 8, false, [.nilFunc]⟩ := by kernel_rfl
@[simp] theorem ti_140 : TI.of Tryz.prog 140 = some ⟨.other, 1, 8, false, [.nilFunc]⟩ := by kernel_rfl
@[simp] theorem ti_141 : TI.of Tryz.prog 141 = some ⟨.other, 1, 8, false, [.nilFunc]⟩ := by kernel_rfl
@[simp] theorem ti_142 : TI.of Tryz.prog 142 = some ⟨.struct [(0, 1, false), (1, 1, false), (2, 1, false), (3, 1, false)], 4, 40, true, [.pointer none, .pointer none, .pointer none, .string ⟨#[]⟩]⟩ := by kernel_rfl
@[simp] theorem ti_143 : TI.of Tryz.prog 143 = some ⟨.struct [(0, 1, false), (1, 1, false), (2, 1, false), (3, 1, false)], 4, 40, true, [.pointer none, .pointer none, .pointer none, .string ⟨#[]⟩]⟩ := by kernel_rfl
@[simp] theorem ti_144 : TI.of Tryz.prog 144 = some ⟨.other, 0, 0, true, []⟩ := by kernel_rfl
@[simp] theorem ti_145 : TI.of Tryz.prog 145 = some ⟨.struct [(0, 0, true)], 0, 0, true, []⟩ := by kernel_rfl
@[simp] theorem ti_146 : TI.of Tryz.prog 146 = some ⟨.struct [(0, 0, true)], 0, 0, true, []⟩ := by kernel_rfl
@[simp] theorem ti_147 : TI.of Tryz.prog 147 = some ⟨.other, 1, 8, false, [.nilFunc]⟩ := by kernel_rfl
@[simp] theorem ti_148 : TI.of Tryz.prog 148 = some ⟨.int .u8, 1, 1, false, [.int .u8 0]⟩ := by kernel_rfl
@[simp] theorem ti_149 : TI.of Tryz.prog 149 = some ⟨.int .u8, 1, 1, false, [.int .u8 0]⟩ := by kernel_rfl
@[simp] theorem ti_150 : TI.of Tryz.prog 150 = some ⟨.other, 1, 8, false, [.nilFunc]⟩ := by kernel_rfl
@[simp] theorem ti_151 : TI.of Tryz.prog 151 = some ⟨.ptr 5, 1, 8, false, [.pointer none]⟩ := by kernel_rfl
@[simp] theorem ti_152 : TI.of Tryz.prog 152 = some ⟨.int .i32, 1, 4, false, [.int .i32 0]⟩ := by kernel_rfl
@[simp] theorem ti_153 : TI.of Tryz.prog 153 = some ⟨.int .i32, 1, 4, false, [.int .i32 0]⟩ := by kernel_rfl
@[simp] theorem ti_154 : TI.of Tryz.prog 154 = some ⟨.struct [(0, 1, false), (1, 1, false), (2, 1, false), (3, 1, false), (4, 1, false), (5, 1, false), (6, 1, false), (7, 1, false), (8, 1, false), (9, 1, false), (10, 1, false)], 11, 48, true, [.int .u64 0, .int .u64 0, .int .u32 0, .int .u8 0, .int .u8 0, .int .u8 0, .int .u8 0, .nilFunc, .pointer none, .int .i32 0, .int .i32 0]⟩ := by kernel_rfl
@[simp] theorem ti_155 : TI.of Tryz.prog 155 = some ⟨.struct [(0, 1, false), (1, 1, false), (2, 1, false), (3, 1, false), (4, 1, false), (5, 1, false), (6, 1, false), (7, 1, false), (8, 1, false), (9, 1, false), (10, 1, false)], 11, 48, true, [.int .u64 0, .int .u64 0, .int .u32 0, .int .u8 0, .int .u8 0, .int .u8 0, .int .u8 0, .nilFunc, .pointer none, .int .i32 0, .int .i32 0]⟩ := by kernel_rfl
@[simp] theorem ti_156 : TI.of Tryz.prog 156 = some ⟨.other, 1, 8, false, [.pointer none]⟩ := by kernel_rfl
@[simp] theorem zf_4 : zfit Tryz.prog 4 = true := by kernel_rfl
@[simp] theorem zf_44 : zfit Tryz.prog 44 = true := by kernel_rfl
@[simp] theorem ek_7 : eqKinds Tryz.prog 7 = some [.int .i64, .int .i64, .bool, .int .u8] := by kernel_rfl
@[simp] theorem ek_8 : eqKinds Tryz.prog 8 = some [.int .i64, .int .i64, .bool, .int .u8] := by kernel_rfl
@[simp] theorem ek_38 : eqKinds Tryz.prog 38 = some [.int .i64, .int .i64] := by kernel_rfl
@[simp] theorem ek_39 : eqKinds Tryz.prog 39 = some [.int .i64, .int .i64] := by kernel_rfl
@[simp] theorem ek_43 : eqKinds Tryz.prog 43 = some [.int .i64, .int .i64, .int .i64, .int .i64, .int .i64, .int .i64, .str] := by kernel_rfl
@[simp] theorem ek_44 : eqKinds Tryz.prog 44 = some [.int .i64, .int .i64, .int .i64, .int .i64, .int .i64, .int .i64, .str] := by kernel_rfl
@[simp] theorem ek_53 : eqKinds Tryz.prog 53 = some [.str, .int .i64, .int .i64, .int .i64] := by kernel_rfl
@[simp] theorem ek_54 : eqKinds Tryz.prog 54 = some [.str, .int .i64, .int .i64, .int .i64] := by kernel_rfl
@[simp] theorem ek_117 : eqKinds Tryz.prog 117 = some [.int .u8, .int .u8] := by kernel_rfl
@[simp] theorem ek_118 : eqKinds Tryz.prog 118 = some [.int .u8, .int .u8] := by kernel_rfl
theorem call_2 : callable Tryz.prog 2 = true := by kernel_rfl
theorem call_3 : callable Tryz.prog 3 = true := by kernel_rfl
theorem call_4 : callable Tryz.prog 4 = true := by kernel_rfl
theorem call_5 : callable Tryz.prog 5 = true := by kernel_rfl
theorem call_6 : callable Tryz.prog 6 = true := by kernel_rfl
theorem call_7 : callable Tryz.prog 7 = true := by kernel_rfl
theorem call_8 : callable Tryz.prog 8 = true := by kernel_rfl
theorem call_9 : callable Tryz.prog 9 = true := by kernel_rfl
theorem call_10 : callable Tryz.prog 10 = true := by kernel_rfl
theorem call_11 : callable Tryz.prog 11 = true := by kernel_rfl
theorem call_12 : callable Tryz.prog 12 = true := by kernel_rfl
theorem call_13 : callable Tryz.prog 13 = true := by kernel_rfl
theorem call_14 : callable Tryz.prog 14 = true := by kernel_rfl
theorem call_15 : callable Tryz.prog 15 = true := by kernel_rfl
theorem call_16 : callable Tryz.prog 16 = true := by kernel_rfl
theorem call_17 : callable Tryz.prog 17 = true := by kernel_rfl
theorem call_18 : callable Tryz.prog 18 = true := by kernel_rfl
theorem call_19 : callable Tryz.prog 19 = true := by kernel_rfl
theorem call_20 : callable Tryz.prog 20 = true := by kernel_rfl
theorem call_21 : callable Tryz.prog 21 = true := by kernel_rfl
theorem call_22 : callable Tryz.prog 22 = true := by kernel_rfl
theorem call_23 : callable Tryz.prog 23 = true := by kernel_rfl
theorem call_24 : callable Tryz.prog 24 = true := by kernel_rfl
theorem call_25 : callable Tryz.prog 25 = true := by kernel_rfl
theorem call_26 : callable Tryz.prog 26 = true := by kernel_rfl
theorem call_27 : callable Tryz.prog 27 = true := by kernel_rfl
theorem call_28 : callable Tryz.prog 28 = true := by kernel_rfl
theorem call_29 : callable Tryz.prog 29 = true := by kernel_rfl
theorem call_30 : callable Tryz.prog 30 = true := by kernel_rfl
theorem call_31 : callable Tryz.prog 31 = true := by kernel_rfl
theorem call_32 : callable Tryz.prog 32 = true := by kernel_rfl
theorem call_33 : callable Tryz.prog 33 = true := by kernel_rfl
theorem call_34 : callable Tryz.prog 34 = true := by kernel_rfl
theorem call_35 : callable Tryz.prog 35 = true := by kernel_rfl
theorem call_36 : callable Tryz.prog 36 = true := by kernel_rfl
theorem call_37 : callable Tryz.prog 37 = true := by kernel_rfl
theorem call_38 : callable Tryz.prog 38 = true := by kernel_rfl
theorem call_39 : callable Tryz.prog 39 = true := by kernel_rfl
theorem call_40 : callable Tryz.prog 40 = true := by kernel_rfl
theorem call_41 : callable Tryz.prog 41 = true := by kernel_rfl
theorem call_42 : callable Tryz.prog 42 = true := by kernel_rfl
theorem call_43 : callable Tryz.prog 43 = true := by kernel_rfl
theorem call_44 : callable Tryz.prog 44 = true := by kernel_rfl
theorem call_45 : callable Tryz.prog 45 = true := by kernel_rfl
theorem call_46 : callable Tryz.prog 46 = true := by kernel_rfl
theorem call_47 : callable Tryz.prog 47 = true := by kernel_rfl
theorem call_48 : callable Tryz.prog 48 = true := by kernel_rfl
theorem call_49 : callable Tryz.prog 49 = true := by kernel_rfl
theorem call_50 : callable Tryz.prog 50 = true := by kernel_rfl
theorem call_51 : callable Tryz.prog 51 = true := by kernel_rfl
theorem call_52 : callable Tryz.prog 52 = true := by kernel_rfl
theorem call_53 : callable Tryz.prog 53 = true := by kernel_rfl
theorem call_54 : callable Tryz.prog 54 = true := by kernel_rfl
theorem call_55 : callable Tryz.prog 55 = true := by kernel_rfl
theorem call_56 : callable Tryz.prog 56 = true := by kernel_rfl
theorem call_57 : callable Tryz.prog 57 = true := by kernel_rfl
theorem call_58 : callable Tryz.prog 58 = true := by kernel_rfl
theorem call_59 : callable Tryz.prog 59 = true := by kernel_rfl
theorem call_60 : callable Tryz.prog 60 = true := by kernel_rfl
theorem call_61 : callable Tryz.prog 61 = true := by kernel_rfl
theorem call_62 : callable Tryz.prog 62 = true := by kernel_rfl
theorem call_63 : callable Tryz.prog 63 = true := by kernel_rfl
theorem call_64 : callable Tryz.prog 64 = true := by kernel_rfl
theorem call_65 : callable Tryz.prog 65 = true := by kernel_rfl
theorem call_66 : callable Tryz.prog 66 = true := by kernel_rfl
theorem call_67 : callable Tryz.prog 67 = true := by kernel_rfl
theorem call_68 : callable Tryz.prog 68 = true := by kernel_rfl
theorem call_69 : callable Tryz.prog 69 = true := by kernel_rfl
theorem call_70 : callable Tryz.prog 70 = true := by kernel_rfl
theorem call_71 : callable Tryz.prog 71 = true := by kernel_rfl
theorem call_72 : callable Tryz.prog 72 = true := by kernel_rfl
theorem call_73 : callable Tryz.prog 73 = true := by kernel_rfl
theorem call_74 : callable Tryz.prog 74 = true := by kernel_rfl
theorem call_75 : callable Tryz.prog 75 = true := by kernel_rfl
theorem call_76 : callable Tryz.prog 76 = true := by kernel_rfl
theorem call_77 : callable Tryz.prog 77 = true := by kernel_rfl
theorem call_78 : callable Tryz.prog 78 = true := by kernel_rfl
theorem call_79 : callable Tryz.prog 79 = true := by kernel_rfl
theorem call_80 : callable Tryz.prog 80 = true := by kernel_rfl
theorem call_81 : callable Tryz.prog 81 = true := by kernel_rfl
theorem call_82 : callable Tryz.prog 82 = true := by kernel_rfl
theorem call_83 : callable Tryz.prog 83 = true := by kernel_rfl
theorem call_84 : callable Tryz.prog 84 = true := by kernel_rfl
theorem call_85 : callable Tryz.prog 85 = true := by kernel_rfl
theorem call_86 : callable Tryz.prog 86 = true := by kernel_rfl
theorem call_87 : callable Tryz.prog 87 = true := by kernel_rfl
theorem call_88 : callable Tryz.prog 88 = true := by kernel_rfl
theorem call_89 : callable Tryz.prog 89 = true := by kernel_rfl
theorem call_90 : callable Tryz.prog 90 = true := by kernel_rfl
theorem call_91 : callable Tryz.prog 91 = true := by kernel_rfl
theorem call_92 : callable Tryz.prog 92 = true := by kernel_rfl
theorem call_93 : callable Tryz.prog 93 = true := by kernel_rfl
theorem call_94 : callable Tryz.prog 94 = true := by kernel_rfl
theorem call_95 : callable Tryz.prog 95 = true := by kernel_rfl
theorem call_96 : callable Tryz.prog 96 = true := by kernel_rfl
theorem call_97 : callable Tryz.prog 97 = true := by kernel_rfl
theorem call_98 : callable Tryz.prog 98 = true := by kernel_rfl
theorem call_99 : callable Tryz.prog 99 = true := by kernel_rfl
theorem call_100 : callable Tryz.prog 100 = true := by kernel_rfl
theorem call_101 : callable Tryz.prog 101 = true := by kernel_rfl
theorem call_102 : callable Tryz.prog 102 = true := by kernel_rfl
theorem call_103 : callable Tryz.prog 103 = true := by kernel_rfl
theorem call_104 : callable Tryz.prog 104 = true := by kernel_rfl
theorem call_105 : callable Tryz.prog 105 = true := by kernel_rfl
theorem call_106 : callable Tryz.prog 106 = true := by kernel_rfl
theorem call_107 : callable Tryz.prog 107 = true := by kernel_rfl
theorem call_108 : callable Tryz.prog 108 = true := by kernel_rfl
theorem call_109 : callable Tryz.prog 109 = true := by kernel_rfl
theorem call_110 : callable Tryz.prog 110 = true := by kernel_rfl
theorem call_111 : callable Tryz.prog 111 = true := by kernel_rfl
theorem call_112 : callable Tryz.prog 112 = true := by kernel_rfl
theorem call_113 : callable Tryz.prog 113 = true := by kernel_rfl
theorem call_114 : callable Tryz.prog 114 = true := by kernel_rfl
theorem call_115 : callable Tryz.prog 115 = true := by kernel_rfl
theorem call_116 : callable Tryz.prog 116 = true := by kernel_rfl
theorem call_117 : callable Tryz.prog 117 = true := by kernel_rfl
theorem call_118 : callable Tryz.prog 118 = true := by kernel_rfl
theorem call_119 : callable Tryz.prog 119 = true := by kernel_rfl
theorem call_120 : callable Tryz.prog 120 = true := by kernel_rfl
theorem call_121 : callable Tryz.prog 121 = true := by kernel_rfl
theorem call_142 : callable Tryz.prog 142 = true := by kernel_rfl
end Go.V
