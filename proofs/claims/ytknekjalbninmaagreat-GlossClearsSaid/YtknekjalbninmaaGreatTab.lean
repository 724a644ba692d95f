/- What the types of the program are to the logic of V1 .. V25, and that its functions can be called: closed facts, printed by a program of mine. -/
import Derived.Test.YtknekjalbninmaaGreatV25
import Derived.Test.YtknekjalbninmaaGreatProg
import Derived.KernelRfl
namespace Go.V
open Go Go.Proofs
set_option maxRecDepth 100000
theorem mixed : Tryz.prog.follows .mixedOrders = true := by kernel_rfl
@[simp] theorem ti_1 : TI.of Tryz.prog 1 = some ⟨.other, 1, 8, false, [.nilFunc]⟩ := by kernel_rfl
@[simp] theorem ti_2 : TI.of Tryz.prog 2 = some ⟨.int .i64, 1, 8, false, [.int .i64 0]⟩ := by kernel_rfl
@[simp] theorem ti_3 : TI.of Tryz.prog 3 = some ⟨.int .i64, 1, 8, false, [.int .i64 0]⟩ := by kernel_rfl
@[simp] theorem ti_4 : TI.of Tryz.prog 4 = some ⟨.bool, 1, 1, false, [.bool false]⟩ := by kernel_rfl
@[simp] theorem ti_5 : TI.of Tryz.prog 5 = some ⟨.int .u8, 1, 1, false, [.int .u8 0]⟩ := by kernel_rfl
@[simp] theorem ti_6 : TI.of Tryz.prog 6 = some ⟨.int .u8, 1, 1, false, [.int .u8 0]⟩ := by kernel_rfl
@[simp] theorem ti_7 : TI.of Tryz.prog 7 = some ⟨.struct [(0, 1, false), (1, 1, false), (2, 1, false), (3, 1, false)], 4, 24, true, [.int .i64 0, .int .i64 0, .bool false, .int .u8 0]⟩ := by kernel_rfl
@[simp] theorem ti_8 : TI.of Tryz.prog 8 = some ⟨.struct [(0, 1, false), (1, 1, false), (2, 1, false), (3, 1, false)], 4, 24, true, [.int .i64 0, .int .i64 0, .bool false, .int .u8 0]⟩ := by kernel_rfl
@[simp] theorem ti_9 : TI.of Tryz.prog 9 = some ⟨.str, 1, 16, false, [.string ⟨#[]⟩]⟩ := by kernel_rfl
@[simp] theorem ti_10 : TI.of Tryz.prog 10 = some ⟨.str, 1, 16, false, [.string ⟨#[]⟩]⟩ := by kernel_rfl
@[simp] theorem ti_11 : TI.of Tryz.prog 11 = some ⟨.str, 1, 16, false, [.string ⟨#[]⟩]⟩ := by kernel_rfl
@[simp] theorem ti_12 : TI.of Tryz.prog 12 = some ⟨.int .u64, 1, 8, false, [.int .u64 0]⟩ := by kernel_rfl
@[simp] theorem ti_13 : TI.of Tryz.prog 13 = some ⟨.struct [(0, 1, false), (1, 1, false)], 2, 24, true, [.string ⟨#[]⟩, .int .u64 0]⟩ := by kernel_rfl
@[simp] theorem ti_14 : TI.of Tryz.prog 14 = some ⟨.struct [(0, 1, false), (1, 1, false)], 2, 24, true, [.string ⟨#[]⟩, .int .u64 0]⟩ := by kernel_rfl
@[simp] theorem ti_15 : TI.of Tryz.prog 15 = some ⟨.ptr 340, 1, 8, false, [.pointer none]⟩ := by kernel_rfl
@[simp] theorem ti_16 : TI.of Tryz.prog 16 = some ⟨.ptr 343, 1, 8, false, [.pointer none]⟩ := by kernel_rfl
@[simp] theorem ti_17 : TI.of Tryz.prog 17 = some ⟨.ptr 351, 1, 8, false, [.pointer none]⟩ := by kernel_rfl
@[simp] theorem ti_18 : TI.of Tryz.prog 18 = some ⟨.struct [(0, 1, false)], 1, 8, true, [.pointer none]⟩ := by kernel_rfl
@[simp] theorem ti_19 : TI.of Tryz.prog 19 = some ⟨.struct [(0, 1, false)], 1, 8, true, [.pointer none]⟩ := by kernel_rfl
@[simp] theorem ti_20 : TI.of Tryz.prog 20 = some ⟨.other, 1, 16, false, [.nilIface]⟩ := by kernel_rfl
@[simp] theorem ti_21 : TI.of Tryz.prog 21 = some ⟨.int .i32, 1, 4, false, [.int .i32 0]⟩ := by kernel_rfl
@[simp] theorem ti_22 : TI.of Tryz.prog 22 = some ⟨.slice 152, 1, 24, false, [.slice none 0 0]⟩ := by kernel_rfl
@[simp] theorem ti_23 : TI.of Tryz.prog 23 = some ⟨.struct [(0, 1, false)], 1, 24, true, [.slice none 0 0]⟩ := by kernel_rfl
@[simp] theorem ti_24 : TI.of Tryz.prog 24 = some ⟨.struct [(0, 1, false)], 1, 24, true, [.slice none 0 0]⟩ := by kernel_rfl
@[simp] theorem ti_25 : TI.of Tryz.prog 25 = some ⟨.slice 143, 1, 24, false, [.slice none 0 0]⟩ := by kernel_rfl
@[simp] theorem ti_26 : TI.of Tryz.prog 26 = some ⟨.slice 42, 1, 24, false, [.slice none 0 0]⟩ := by kernel_rfl
@[simp] theorem ti_27 : TI.of Tryz.prog 27 = some ⟨.struct [(0, 1, false), (1, 1, false), (2, 1, false)], 3, 64, true, [.string ⟨#[]⟩, .slice none 0 0, .slice none 0 0]⟩ := by kernel_rfl
@[simp] theorem ti_28 : TI.of Tryz.prog 28 = some ⟨.struct [(0, 1, false), (1, 1, false), (2, 1, false)], 3, 64, true, [.string ⟨#[]⟩, .slice none 0 0, .slice none 0 0]⟩ := by kernel_rfl
@[simp] theorem ti_29 : TI.of Tryz.prog 29 = some ⟨.slice 90, 1, 24, false, [.slice none 0 0]⟩ := by kernel_rfl
@[simp] theorem ti_30 : TI.of Tryz.prog 30 = some ⟨.slice 156, 1, 24, false, [.slice none 0 0]⟩ := by kernel_rfl
@[simp] theorem ti_31 : TI.of Tryz.prog 31 = some ⟨.slice 3, 1, 24, false, [.slice none 0 0]⟩ := by kernel_rfl
@[simp] theorem ti_32 : TI.of Tryz.prog 32 = some ⟨.struct [(0, 1, false), (1, 1, false), (2, 1, false)], 3, 56, true, [.int .i64 0, .slice none 0 0, .slice none 0 0]⟩ := by kernel_rfl
@[simp] theorem ti_33 : TI.of Tryz.prog 33 = some ⟨.struct [(0, 1, false), (1, 1, false), (2, 1, false)], 3, 56, true, [.int .i64 0, .slice none 0 0, .slice none 0 0]⟩ := by kernel_rfl
@[simp] theorem ti_34 : TI.of Tryz.prog 34 = some ⟨.slice 102, 1, 24, false, [.slice none 0 0]⟩ := by kernel_rfl
@[simp] theorem ti_35 : TI.of Tryz.prog 35 = some ⟨.struct [(0, 1, true), (1, 3, true), (4, 1, false), (5, 3, true), (8, 1, false)], 9, 192, true, [.slice none 0 0, .string ⟨#[]⟩, .slice none 0 0, .slice none 0 0, .slice none 0 0, .int .i64 0, .slice none 0 0, .slice none 0 0, .slice none 0 0]⟩ := by kernel_rfl
@[simp] theorem ti_36 : TI.of Tryz.prog 36 = some ⟨.struct [(0, 1, true), (1, 3, true), (4, 1, false), (5, 3, true), (8, 1, false)], 9, 192, true, [.slice none 0 0, .string ⟨#[]⟩, .slice none 0 0, .slice none 0 0, .slice none 0 0, .int .i64 0, .slice none 0 0, .slice none 0 0, .slice none 0 0]⟩ := by kernel_rfl
@[simp] theorem ti_37 : TI.of Tryz.prog 37 = some ⟨.slice 96, 1, 24, false, [.slice none 0 0]⟩ := by kernel_rfl
@[simp] theorem ti_38 : TI.of Tryz.prog 38 = some ⟨.struct [(0, 1, false)], 1, 24, true, [.slice none 0 0]⟩ := by kernel_rfl
@[simp] theorem ti_39 : TI.of Tryz.prog 39 = some ⟨.struct [(0, 1, false)], 1, 24, true, [.slice none 0 0]⟩ := by kernel_rfl
@[simp] theorem ti_40 : TI.of Tryz.prog 40 = some ⟨.other, 1, 8, false, [.nilFunc]⟩ := by kernel_rfl
@[simp] theorem ti_41 : TI.of Tryz.prog 41 = some ⟨.other, 1, 8, false, [.nilFunc]⟩ := by kernel_rfl
@[simp] theorem ti_42 : TI.of Tryz.prog 42 = some ⟨.slice 9, 1, 24, false, [.slice none 0 0]⟩ := by kernel_rfl
@[simp] theorem ti_43 : TI.of Tryz.prog 43 = some ⟨.int .i64, 1, 8, false, [.int .i64 0]⟩ := by kernel_rfl
@[simp] theorem ti_45 : TI.of Tryz.prog 45 = some ⟨.other, 1, 8, false, [.nilFunc]⟩ := by kernel_rfl
@[simp] theorem ti_46 : TI.of Tryz.prog 46 = some ⟨.other, 1, 8, false, [.nilFunc]⟩ := by kernel_rfl
@[simp] theorem ti_47 : TI.of Tryz.prog 47 = some ⟨.other, 1, 8, false, [.nilFunc]⟩ := by kernel_rfl
@[simp] theorem ti_48 : TI.of Tryz.prog 48 = some ⟨.struct [(0, 1, false), (1, 1, false), (2, 1, false), (3, 1, false), (4, 1, false)], 5, 64, true, [.int .i64 0, .string ⟨#[]⟩, .int .i64 0, .int .i64 0, .slice none 0 0]⟩ := by kernel_rfl
@[simp] theorem ti_49 : TI.of Tryz.prog 49 = some ⟨.struct [(0, 1, false), (1, 1, false), (2, 1, false), (3, 1, false), (4, 1, false)], 5, 64, true, [.int .i64 0, .string ⟨#[]⟩, .int .i64 0, .int .i64 0, .slice none 0 0]⟩ := by kernel_rfl
@[simp] theorem ti_50 : TI.of Tryz.prog 50 = some ⟨.slice 74, 1, 24, false, [.slice none 0 0]⟩ := by kernel_rfl
@[simp] theorem ti_51 : TI.of Tryz.prog 51 = some ⟨.slice 72, 1, 24, false, [.slice none 0 0]⟩ := by kernel_rfl
@[simp] theorem ti_52 : TI.of Tryz.prog 52 = some ⟨.struct [(0, 5, true), (5, 1, false), (6, 1, false)], 7, 112, true, [.int .i64 0, .string ⟨#[]⟩, .int .i64 0, .int .i64 0, .slice none 0 0, .slice none 0 0, .slice none 0 0]⟩ := by kernel_rfl
@[simp] theorem ti_53 : TI.of Tryz.prog 53 = some ⟨.struct [(0, 5, true), (5, 1, false), (6, 1, false)], 7, 112, true, [.int .i64 0, .string ⟨#[]⟩, .int .i64 0, .int .i64 0, .slice none 0 0, .slice none 0 0, .slice none 0 0]⟩ := by kernel_rfl
@[simp] theorem ti_54 : TI.of Tryz.prog 54 = some ⟨.other, 1, 8, false, [.nilFunc]⟩ := by kernel_rfl
@[simp] theorem ti_56 : TI.of Tryz.prog 56 = some ⟨.other, 1, 8, false, [.nilFunc]⟩ := by kernel_rfl
@[simp] theorem ti_57 : TI.of Tryz.prog 57 = some ⟨.other, 1, 8, false, [.nilFunc]⟩ := by kernel_rfl
@[simp] theorem ti_59 : TI.of Tryz.prog 59 = some ⟨.other, 1, 8, false, [.nilFunc]⟩ := by kernel_rfl
@[simp] theorem ti_60 : TI.of Tryz.prog 60 = some ⟨.other, 1, 8, false, [.nilFunc]⟩ := by kernel_rfl
@[simp] theorem ti_61 : TI.of Tryz.prog 61 = some ⟨.other, 1, 8, false, [.nilFunc]⟩ := by kernel_rfl
@[simp] theorem ti_62 : TI.of Tryz.prog 62 = some ⟨.other, 1, 8, false, [.nilFunc]⟩ := by kernel_rfl
@[simp] theorem ti_63 : TI.of Tryz.prog 63 = some ⟨.other, 1, 8, false, [.nilFunc]⟩ := by kernel_rfl
@[simp] theorem ti_64 : TI.of Tryz.prog 64 = some ⟨.slice 139, 1, 24, false, [.slice none 0 0]⟩ := by kernel_rfl
@[simp] theorem ti_65 : TI.of Tryz.prog 65 = some ⟨.other, 1, 8, false, [.nilFunc]⟩ := by kernel_rfl
@[simp] theorem ti_66 : TI.of Tryz.prog 66 = some ⟨.other, 1, 8, false, [.nilFunc]⟩ := by kernel_rfl
@[simp] theorem ti_67 : TI.of Tryz.prog 67 = some ⟨.other, 1, 8, false, [.nilFunc]⟩ := by kernel_rfl
@[simp] theorem ti_68 : TI.of Tryz.prog 68 = some ⟨.other, 1, 8, false, [.nilFunc]⟩ := by kernel_rfl
@[simp] theorem ti_69 : TI.of Tryz.prog 69 = some ⟨.struct [(0, 1, false), (1, 1, false)], 2, 16, true, [.int .i64 0, .int .i64 0]⟩ := by kernel_rfl
@[simp] theorem ti_70 : TI.of Tryz.prog 70 = some ⟨.struct [(0, 1, false), (1, 1, false)], 2, 16, true, [.int .i64 0, .int .i64 0]⟩ := by kernel_rfl
@[simp] theorem ti_71 : TI.of Tryz.prog 71 = some ⟨.struct [(0, 1, false), (1, 1, false), (2, 1, false), (3, 2, true), (5, 1, false), (6, 1, false)], 7, 64, true, [.int .i64 0, .int .i64 0, .int .i64 0, .int .i64 0, .int .i64 0, .int .i64 0, .string ⟨#[]⟩]⟩ := by kernel_rfl
@[simp] theorem ti_72 : TI.of Tryz.prog 72 = some ⟨.struct [(0, 1, false), (1, 1, false), (2, 1, false), (3, 2, true), (5, 1, false), (6, 1, false)], 7, 64, true, [.int .i64 0, .int .i64 0, .int .i64 0, .int .i64 0, .int .i64 0, .int .i64 0, .string ⟨#[]⟩]⟩ := by kernel_rfl
@[simp] theorem ti_73 : TI.of Tryz.prog 73 = some ⟨.struct [(0, 1, false), (1, 1, false), (2, 1, false), (3, 1, false)], 4, 40, true, [.string ⟨#[]⟩, .int .i64 0, .int .i64 0, .int .i64 0]⟩ := by kernel_rfl
@[simp] theorem ti_74 : TI.of Tryz.prog 74 = some ⟨.struct [(0, 1, false), (1, 1, false), (2, 1, false), (3, 1, false)], 4, 40, true, [.string ⟨#[]⟩, .int .i64 0, .int .i64 0, .int .i64 0]⟩ := by kernel_rfl
@[simp] theorem ti_76 : TI.of Tryz.prog 76 = some ⟨.other, 1, 8, false, [.nilFunc]⟩ := by kernel_rfl
@[simp] theorem ti_77 : TI.of Tryz.prog 77 = some ⟨.struct [(0, 1, false), (1, 1, false)], 2, 16, true, [.int .i64 0, .int .i64 0]⟩ := by kernel_rfl
@[simp] theorem ti_78 : TI.of Tryz.prog 78 = some ⟨.struct [(0, 1, false), (1, 1, false)], 2, 16, true, [.int .i64 0, .int .i64 0]⟩ := by kernel_rfl
@[simp] theorem ti_80 : TI.of Tryz.prog 80 = some ⟨.other, 1, 8, false, [.nilFunc]⟩ := by kernel_rfl
@[simp] theorem ti_81 : TI.of Tryz.prog 81 = some ⟨.other, 1, 8, false, [.nilFunc]⟩ := by kernel_rfl
@[simp] theorem ti_83 : TI.of Tryz.prog 83 = some ⟨.other, 1, 8, false, [.nilFunc]⟩ := by kernel_rfl
@[simp] theorem ti_84 : TI.of Tryz.prog 84 = some ⟨.other, 1, 8, false, [.nilFunc]⟩ := by kernel_rfl
@[simp] theorem ti_85 : TI.of Tryz.prog 85 = some ⟨.other, 2, 16, true, [.int .i64 0, .int .i64 0]⟩ := by kernel_rfl
@[simp] theorem ti_86 : TI.of Tryz.prog 86 = some ⟨.other, 1, 8, false, [.nilFunc]⟩ := by kernel_rfl
@[simp] theorem ti_87 : TI.of Tryz.prog 87 = some ⟨.other, 1, 8, false, [.nilFunc]⟩ := by kernel_rfl
@[simp] theorem ti_88 : TI.of Tryz.prog 88 = some ⟨.slice 154, 1, 24, false, [.slice none 0 0]⟩ := by kernel_rfl
@[simp] theorem ti_89 : TI.of Tryz.prog 89 = some ⟨.struct [(0, 1, false), (1, 1, false), (2, 1, false), (3, 1, false), (4, 1, false), (5, 1, false)], 6, 104, true, [.slice none 0 0, .slice none 0 0, .slice none 0 0, .slice none 0 0, .bool false, .bool false]⟩ := by kernel_rfl
@[simp] theorem ti_90 : TI.of Tryz.prog 90 = some ⟨.struct [(0, 1, false), (1, 1, false), (2, 1, false), (3, 1, false), (4, 1, false), (5, 1, false)], 6, 104, true, [.slice none 0 0, .slice none 0 0, .slice none 0 0, .slice none 0 0, .bool false, .bool false]⟩ := by kernel_rfl
@[simp] theorem ti_91 : TI.of Tryz.prog 91 = some ⟨.other, 1, 8, false, [.nilFunc]⟩ := by kernel_rfl
@[simp] theorem ti_93 : TI.of Tryz.prog 93 = some ⟨.other, 1, 8, false, [.nilFunc]⟩ := by kernel_rfl
@[simp] theorem ti_94 : TI.of Tryz.prog 94 = some ⟨.other, 1, 8, false, [.nilFunc]⟩ := by kernel_rfl
@[simp] theorem ti_95 : TI.of Tryz.prog 95 = some ⟨.struct [(0, 1, false), (1, 1, false), (2, 1, false)], 3, 24, true, [.int .i64 0, .int .i64 0, .int .i64 0]⟩ := by kernel_rfl
@[simp] theorem ti_96 : TI.of Tryz.prog 96 = some ⟨.struct [(0, 1, false), (1, 1, false), (2, 1, false)], 3, 24, true, [.int .i64 0, .int .i64 0, .int .i64 0]⟩ := by kernel_rfl
@[simp] theorem ti_97 : TI.of Tryz.prog 97 = some ⟨.slice 31, 1, 24, false, [.slice none 0 0]⟩ := by kernel_rfl
@[simp] theorem ti_98 : TI.of Tryz.prog 98 = some ⟨.slice 109, 1, 24, false, [.slice none 0 0]⟩ := by kernel_rfl
@[simp] theorem ti_99 : TI.of Tryz.prog 99 = some ⟨.slice 213, 1, 24, false, [.slice none 0 0]⟩ := by kernel_rfl
@[simp] theorem ti_100 : TI.of Tryz.prog 100 = some ⟨.slice 78, 1, 24, false, [.slice none 0 0]⟩ := by kernel_rfl
@[simp] theorem ti_101 : TI.of Tryz.prog 101 = some ⟨.struct [(0, 1, false), (1, 1, false), (2, 1, false), (3, 1, false), (4, 1, false), (5, 1, false), (6, 1, false), (7, 1, false)], 8, 144, true, [.int .i64 0, .slice none 0 0, .int .i64 0, .slice none 0 0, .int .i64 0, .slice none 0 0, .slice none 0 0, .slice none 0 0]⟩ := by kernel_rfl
@[simp] theorem ti_102 : TI.of Tryz.prog 102 = some ⟨.struct [(0, 1, false), (1, 1, false), (2, 1, false), (3, 1, false), (4, 1, false), (5, 1, false), (6, 1, false), (7, 1, false)], 8, 144, true, [.int .i64 0, .slice none 0 0, .int .i64 0, .slice none 0 0, .int .i64 0, .slice none 0 0, .slice none 0 0, .slice none 0 0]⟩ := by kernel_rfl
@[simp] theorem ti_104 : TI.of Tryz.prog 104 = some ⟨.other, 1, 8, false, [.nilFunc]⟩ := by kernel_rfl
@[simp] theorem ti_106 : TI.of Tryz.prog 106 = some ⟨.other, 1, 8, false, [.nilFunc]⟩ := by kernel_rfl
@[simp] theorem ti_107 : TI.of Tryz.prog 107 = some ⟨.other, 1, 8, false, [.nilFunc]⟩ := by kernel_rfl
@[simp] theorem ti_108 : TI.of Tryz.prog 108 = some ⟨.struct [(0, 1, false), (1, 1, false)], 2, 32, true, [.string ⟨#[]⟩, .string ⟨#[]⟩]⟩ := by kernel_rfl
@[simp] theorem ti_109 : TI.of Tryz.prog 109 = some ⟨.struct [(0, 1, false), (1, 1, false)], 2, 32, true, [.string ⟨#[]⟩, .string ⟨#[]⟩]⟩ := by kernel_rfl
@[simp] theorem ti_110 : TI.of Tryz.prog 110 = some ⟨.other, 1, 8, false, [.nilFunc]⟩ := by kernel_rfl
@[simp] theorem ti_111 : TI.of Tryz.prog 111 = some ⟨.struct [(0, 1, false), (1, 1, false), (2, 1, false)], 3, 24, true, [.int .i64 0, .int .i64 0, .int .i64 0]⟩ := by kernel_rfl
@[simp] theorem ti_112 : TI.of Tryz.prog 112 = some ⟨.struct [(0, 1, false), (1, 1, false), (2, 1, false)], 3, 24, true, [.int .i64 0, .int .i64 0, .int .i64 0]⟩ := by kernel_rfl
@[simp] theorem ti_113 : TI.of Tryz.prog 113 = some ⟨.other, 1, 8, false, [.nilFunc]⟩ := by kernel_rfl
@[simp] theorem ti_114 : TI.of Tryz.prog 114 = some ⟨.other, 1, 8, false, [.nilFunc]⟩ := by kernel_rfl
@[simp] theorem ti_115 : TI.of Tryz.prog 115 = some ⟨.other, 1, 8, false, [.nilFunc]⟩ := by kernel_rfl
@[simp] theorem ti_116 : TI.of Tryz.prog 116 = some ⟨.other, 1, 8, false, [.nilFunc]⟩ := by kernel_rfl
@[simp] theorem ti_117 : TI.of Tryz.prog 117 = some ⟨.other, 1, 8, false, [.nilFunc]⟩ := by kernel_rfl
@[simp] theorem ti_118 : TI.of Tryz.prog 118 = some ⟨.other, 1, 8, false, [.nilFunc]⟩ := by kernel_rfl
@[simp] theorem ti_119 : TI.of Tryz.prog 119 = some ⟨.other, 1, 8, false, [.nilFunc]⟩ := by kernel_rfl
@[simp] theorem ti_120 : TI.of Tryz.prog 120 = some ⟨.other, 1, 8, false, [.nilFunc]⟩ := by kernel_rfl
@[simp] theorem ti_121 : TI.of Tryz.prog 121 = some ⟨.other, 1, 8, false, [.nilFunc]⟩ := by kernel_rfl
@[simp] theorem ti_122 : TI.of Tryz.prog 122 = some ⟨.other, 1, 8, false, [.nilFunc]⟩ := by kernel_rfl
@[simp] theorem ti_123 : TI.of Tryz.prog 123 = some ⟨.other, 1, 8, false, [.nilFunc]⟩ := by kernel_rfl
@[simp] theorem ti_124 : TI.of Tryz.prog 124 = some ⟨.other, 1, 8, false, [.nilFunc]⟩ := by kernel_rfl
@[simp] theorem ti_125 : TI.of Tryz.prog 125 = some ⟨.other, 1, 8, false, [.nilFunc]⟩ := by kernel_rfl
@[simp] theorem ti_126 : TI.of Tryz.prog 126 = some ⟨.struct [(0, 1, false)], 1, 8, true, [.int .i64 0]⟩ := by kernel_rfl
@[simp] theorem ti_127 : TI.of Tryz.prog 127 = some ⟨.struct [(0, 1, false)], 1, 8, true, [.int .i64 0]⟩ := by kernel_rfl
@[simp] theorem ti_129 : TI.of Tryz.prog 129 = some ⟨.other, 1, 8, false, [.nilFunc]⟩ := by kernel_rfl
@[simp] theorem ti_130 : TI.of Tryz.prog 130 = some ⟨.struct [(0, 2, true), (2, 1, false), (3, 1, true)], 4, 48, true, [.int .i64 0, .int .i64 0, .int .i64 0, .slice none 0 0]⟩ := by kernel_rfl
@[simp] theorem ti_131 : TI.of Tryz.prog 131 = some ⟨.struct [(0, 2, true), (2, 1, false), (3, 1, true)], 4, 48, true, [.int .i64 0, .int .i64 0, .int .i64 0, .slice none 0 0]⟩ := by kernel_rfl
@[simp] theorem ti_132 : TI.of Tryz.prog 132 = some ⟨.other, 1, 8, false, [.nilFunc]⟩ := by kernel_rfl
@[simp] theorem ti_133 : TI.of Tryz.prog 133 = some ⟨.other, 1, 8, false, [.nilFunc]⟩ := by kernel_rfl
@[simp] theorem ti_134 : TI.of Tryz.prog 134 = some ⟨.other, 1, 8, false, [.nilFunc]⟩ := by kernel_rfl
@[simp] theorem ti_135 : TI.of Tryz.prog 135 = some ⟨.other, 1, 8, false, [.nilFunc]⟩ := by kernel_rfl
@[simp] theorem ti_136 : TI.of Tryz.prog 136 = some ⟨.other, 1, 8, false, [.nilFunc]⟩ := by kernel_rfl
@[simp] theorem ti_137 : TI.of Tryz.prog 137 = some ⟨.other, 1, 8, false, [.nilFunc]⟩ := by kernel_rfl
@[simp] theorem ti_138 : TI.of Tryz.prog 138 = some ⟨.struct [(0, 2, true), (2, 1, false), (3, 1, true)], 4, 48, true, [.int .i64 0, .int .i64 0, .bool false, .slice none 0 0]⟩ := by kernel_rfl
@[simp] theorem ti_139 : TI.of Tryz.prog 139 = some ⟨.struct [(0, 2, true), (2, 1, false), (3, 1, true)], 4, 48, true, [.int .i64 0, .int .i64 0, .bool false, .slice none 0 0]⟩ := by kernel_rfl
@[simp] theorem ti_141 : TI.of Tryz.prog 141 = some ⟨.other, 1, 8, false, [.nilFunc]⟩ := by kernel_rfl
@[simp] theorem ti_142 : TI.of Tryz.prog 142 = some ⟨.struct [(0, 1, false), (1, 1, false)], 2, 40, true, [.string ⟨#[]⟩, .slice none 0 0]⟩ := by kernel_rfl
@[simp] theorem ti_143 : TI.of Tryz.prog 143 = some ⟨.struct [(0, 1, false), (1, 1, false)], 2, 40, true, [.string ⟨#[]⟩, .slice none 0 0]⟩ := by kernel_rfl
@[simp] theorem ti_145 : TI.of Tryz.prog 145 = some ⟨.other, 1, 8, false, [.nilFunc]⟩ := by kernel_rfl
@[simp] theorem ti_146 : TI.of Tryz.prog 146 = some ⟨.other, 1, 8, false, [.nilFunc]⟩ := by kernel_rfl
@[simp] theorem ti_147 : TI.of Tryz.prog 147 = some ⟨.other, 1, 8, false, [.nilFunc]⟩ := by kernel_rfl
@[simp] theorem ti_148 : TI.of Tryz.prog 148 = some ⟨.other, 1, 8, false, [.nilFunc]⟩ := by kernel_rfl
@[simp] theorem ti_149 : TI.of Tryz.prog 149 = some ⟨.other, 1, 8, false, [.nilFunc]⟩ := by kernel_rfl
@[simp] theorem ti_150 : TI.of Tryz.prog 150 = some ⟨.other, 1, 8, false, [.nilFunc]⟩ := by kernel_rfl
@[simp] theorem ti_151 : TI.of Tryz.prog 151 = some ⟨.struct [(0, 1, false), (1, 1, false)], 2, 24, true, [.string ⟨#[]⟩, .int .i64 0]⟩ := by kernel_rfl
@[simp] theorem ti_152 : TI.of Tryz.prog 152 = some ⟨.struct [(0, 1, false), (1, 1, false)], 2, 24, true, [.string ⟨#[]⟩, .int .i64 0]⟩ := by kernel_rfl
@[simp] theorem ti_153 : TI.of Tryz.prog 153 = some ⟨.struct [(0, 1, false), (1, 1, false)], 2, 16, true, [.int .i64 0, .int .i64 0]⟩ := by kernel_rfl
@[simp] theorem ti_154 : TI.of Tryz.prog 154 = some ⟨.struct [(0, 1, false), (1, 1, false)], 2, 16, true, [.int .i64 0, .int .i64 0]⟩ := by kernel_rfl
@[simp] theorem ti_155 : TI.of Tryz.prog 155 = some ⟨.struct [(0, 1, false), (1, 1, false), (2, 1, false)], 3, 24, true, [.int .i64 0, .int .i64 0, .int .i64 0]⟩ := by kernel_rfl
@[simp] theorem ti_156 : TI.of Tryz.prog 156 = some ⟨.struct [(0, 1, false), (1, 1, false), (2, 1, false)], 3, 24, true, [.int .i64 0, .int .i64 0, .int .i64 0]⟩ := by kernel_rfl
@[simp] theorem ti_158 : TI.of Tryz.prog 158 = some ⟨.other, 1, 8, false, [.nilFunc]⟩ := by kernel_rfl
@[simp] theorem ti_159 : TI.of Tryz.prog 159 = some ⟨.other, 1, 8, false, [.nilFunc]⟩ := by kernel_rfl
@[simp] theorem ti_160 : TI.of Tryz.prog 160 = some ⟨.other, 1, 8, false, [.nilFunc]⟩ := by kernel_rfl
@[simp] theorem ti_161 : TI.of Tryz.prog 161 = some ⟨.other, 1, 8, false, [.nilFunc]⟩ := by kernel_rfl
@[simp] theorem ti_162 : TI.of Tryz.prog 162 = some ⟨.other, 1, 8, false, [.nilFunc]⟩ := by kernel_rfl
@[simp] theorem ti_163 : TI.of Tryz.prog 163 = some ⟨.ptr 166, 1, 8, false, [.pointer none]⟩ := by kernel_rfl
@[simp] theorem ti_164 : TI.of Tryz.prog 164 = some ⟨.slice 5, 1, 24, false, [.slice none 0 0]⟩ := by kernel_rfl
@[simp] theorem ti_165 : TI.of Tryz.prog 165 = some ⟨.struct [(0, 1, false), (1, 1, false)], 2, 32, true, [.pointer none, .slice none 0 0]⟩ := by kernel_rfl
@[simp] theorem ti_166 : TI.of Tryz.prog 166 = some ⟨.struct [(0, 1, false), (1, 1, false)], 2, 32, true, [.pointer none, .slice none 0 0]⟩ := by kernel_rfl
@[simp] theorem ti_167 : TI.of Tryz.prog 167 = some ⟨.other, 1, 8, false, [.nilFunc]⟩ := by kernel_rfl
@[simp] theorem ti_168 : TI.of Tryz.prog 168 = some ⟨.other, 1, 16, false, [.nilIface]⟩ := by kernel_rfl
@[simp] theorem ti_169 : TI.of Tryz.prog 169 = some ⟨.other, 1, 16, false, [.nilIface]⟩ := by kernel_rfl
@[simp] theorem ti_171 : TI.of Tryz.prog 171 = some ⟨.other, 1, 8, false, [.nilFunc]⟩ := by kernel_rfl
@[simp] theorem ti_172 : TI.of Tryz.prog 172 = some ⟨.other, 1, 8, false, [.nilFunc]⟩ := by kernel_rfl
@[simp] theorem ti_173 : TI.of Tryz.prog 173 = some ⟨.other, 1, 8, false, [.nilFunc]⟩ := by kernel_rfl
@[simp] theorem ti_174 : TI.of Tryz.prog 174 = some ⟨.other, 1, 8, false, [.nilFunc]⟩ := by kernel_rfl
@[simp] theorem ti_175 : TI.of Tryz.prog 175 = some ⟨.other, 1, 8, false, [.nilFunc]⟩ := by kernel_rfl
@[simp] theorem ti_176 : TI.of Tryz.prog 176 = some ⟨.other, 1, 8, false, [.nilFunc]⟩ := by kernel_rfl
@[simp] theorem ti_177 : TI.of Tryz.prog 177 = some ⟨.other, 1, 8, false, [.nilFunc]⟩ := by kernel_rfl
@[simp] theorem ti_178 : TI.of Tryz.prog 178 = some ⟨.other, 1, 8, false, [.nilFunc]⟩ := by kernel_rfl
@[simp] theorem ti_179 : TI.of Tryz.prog 179 = some ⟨.other, 1, 8, false, [.nilFunc]⟩ := by kernel_rfl
@[simp] theorem ti_180 : TI.of Tryz.prog 180 = some ⟨.other, 1, 8, false, [.nilFunc]⟩ := by kernel_rfl
@[simp] theorem ti_181 : TI.of Tryz.prog 181 = some ⟨.other, 1, 8, false, [.nilFunc]⟩ := by kernel_rfl
@[simp] theorem ti_182 : TI.of Tryz.prog 182 = some ⟨.map 3 31, 1, 8, false, [.map none]⟩ := by kernel_rfl
@[simp] theorem ti_183 : TI.of Tryz.prog 183 = some ⟨.other, 1, 8, false, [.nilFunc]⟩ := by kernel_rfl
@[simp] theorem ti_184 : TI.of Tryz.prog 184 = some ⟨.other, 1, 8, false, [.nilFunc]⟩ := by kernel_rfl
@[simp] theorem ti_185 : TI.of Tryz.prog 185 = some ⟨.other, 1, 8, false, [.nilFunc]⟩ := by kernel_rfl
@[simp] theorem ti_186 : TI.of Tryz.prog 186 = some ⟨.other, 1, 8, false, [.nilFunc]⟩ := by kernel_rfl
@[simp] theorem ti_187 : TI.of Tryz.prog 187 = some ⟨.other, 1, 8, false, [.nilFunc]⟩ := by kernel_rfl
@[simp] theorem ti_188 : TI.of Tryz.prog 188 = some ⟨.int .u64, 1, 8, false, [.int .u64 0]⟩ := by kernel_rfl
@[simp] theorem ti_189 : TI.of Tryz.prog 189 = some ⟨.other, 1, 8, false, [.nilFunc]⟩ := by kernel_rfl
@[simp] theorem ti_190 : TI.of Tryz.prog 190 = some ⟨.other, 1, 8, false, [.nilFunc]⟩ := by kernel_rfl
@[simp] theorem ti_191 : TI.of Tryz.prog 191 = some ⟨.other, 1, 8, false, [.nilFunc]⟩ := by kernel_rfl
@[simp] theorem ti_192 : TI.of Tryz.prog 192 = some ⟨.other, 1, 8, false, [.nilFunc]⟩ := by kernel_rfl
@[simp] theorem ti_193 : TI.of Tryz.prog 193 = some ⟨.other, 1, 8, false, [.nilFunc]⟩ := by kernel_rfl
@[simp] theorem ti_194 : TI.of Tryz.prog 194 = some ⟨.other, 1, 8, false, [.nilFunc]⟩ := by kernel_rfl
@[simp] theorem ti_195 : TI.of Tryz.prog 195 = some ⟨.other, 1, 8, false, [.nilFunc]⟩ := by kernel_rfl
@[simp] theorem ti_196 : TI.of Tryz.prog 196 = some ⟨.other, 1, 8, false, [.nilFunc]⟩ := by kernel_rfl
@[simp] theorem ti_197 : TI.of Tryz.prog 197 = some ⟨.other, 1, 8, false, [.nilFunc]⟩ := by kernel_rfl
@[simp] theorem ti_198 : TI.of Tryz.prog 198 = some ⟨.other, 1, 8, false, [.nilFunc]⟩ := by kernel_rfl
@[simp] theorem ti_199 : TI.of Tryz.prog 199 = some ⟨.other, 1, 8, false, [.nilFunc]⟩ := by kernel_rfl
@[simp] theorem ti_200 : TI.of Tryz.prog 200 = some ⟨.other, 1, 8, false, [.nilFunc]⟩ := by kernel_rfl
@[simp] theorem ti_201 : TI.of Tryz.prog 201 = some ⟨.slice 70, 1, 24, false, [.slice none 0 0]⟩ := by kernel_rfl
@[simp] theorem ti_202 : TI.of Tryz.prog 202 = some ⟨.other, 1, 8, false, [.nilFunc]⟩ := by kernel_rfl
@[simp] theorem ti_203 : TI.of Tryz.prog 203 = some ⟨.other, 1, 8, false, [.nilFunc]⟩ := by kernel_rfl
@[simp] theorem ti_204 : TI.of Tryz.prog 204 = some ⟨.other, 1, 8, false, [.nilFunc]⟩ := by kernel_rfl
@[simp] theorem ti_205 : TI.of Tryz.prog 205 = some ⟨.other, 1, 8, false, [.nilFunc]⟩ := by kernel_rfl
@[simp] theorem ti_206 : TI.of Tryz.prog 206 = some ⟨.other, 1, 8, false, [.nilFunc]⟩ := by kernel_rfl
@[simp] theorem ti_207 : TI.of Tryz.prog 207 = some ⟨.other, 1, 8, false, [.nilFunc]⟩ := by kernel_rfl
@[simp] theorem ti_208 : TI.of Tryz.prog 208 = some ⟨.other, 1, 8, false, [.nilFunc]⟩ := by kernel_rfl
@[simp] theorem ti_209 : TI.of Tryz.prog 209 = some ⟨.other, 1, 8, false, [.nilFunc]⟩ := by kernel_rfl
@[simp] theorem ti_210 : TI.of Tryz.prog 210 = some ⟨.other, 1, 8, false, [.nilFunc]⟩ := by kernel_rfl
@[simp] theorem ti_211 : TI.of Tryz.prog 211 = some ⟨.other, 1, 8, false, [.nilFunc]⟩ := by kernel_rfl
@[simp] theorem ti_212 : TI.of Tryz.prog 212 = some ⟨.struct [(0, 1, false), (1, 1, false)], 2, 16, true, [.int .i64 0, .int .i64 0]⟩ := by kernel_rfl
@[simp] theorem ti_213 : TI.of Tryz.prog 213 = some ⟨.struct [(0, 1, false), (1, 1, false)], 2, 16, true, [.int .i64 0, .int .i64 0]⟩ := by kernel_rfl
@[simp] theorem ti_214 : TI.of Tryz.prog 214 = some ⟨.other, 1, 8, false, [.nilFunc]⟩ := by kernel_rfl
@[simp] theorem ti_215 : TI.of Tryz.prog 215 = some ⟨.other, 1, 8, false, [.nilFunc]⟩ := by kernel_rfl
@[simp] theorem ti_216 : TI.of Tryz.prog 216 = some ⟨.other, 1, 8, false, [.nilFunc]⟩ := by kernel_rfl
@[simp] theorem ti_217 : TI.of Tryz.prog 217 = some ⟨.int .u32, 1, 4, false, [.int .u32 0]⟩ := by kernel_rfl
@[simp] theorem ti_218 : TI.of Tryz.prog 218 = some ⟨.int .u32, 1, 4, false, [.int .u32 0]⟩ := by kernel_rfl
@[simp] theorem ti_219 : TI.of Tryz.prog 219 = some ⟨.other, 1, 8, false, [.nilFunc]⟩ := by kernel_rfl
@[simp] theorem ti_220 : TI.of Tryz.prog 220 = some ⟨.other, 1, 8, false, [.nilFunc]⟩ := by kernel_rfl
@[simp] theorem ti_221 : TI.of Tryz.prog 221 = some ⟨.ptr 5, 1, 8, false, [.pointer none]⟩ := by kernel_rfl
@[simp] theorem ti_222 : TI.of Tryz.prog 222 = some ⟨.other, 1, 8, false, [.nilFunc]⟩ := by kernel_rfl
@[simp] theorem ti_223 : TI.of Tryz.prog 223 = some ⟨.other, 1, 8, false, [.nilFunc]⟩ := by kernel_rfl
@[simp] theorem ti_224 : TI.of Tryz.prog 224 = some ⟨.slice 4, 1, 24, false, [.slice none 0 0]⟩ := by kernel_rfl
@[simp] theorem ti_225 : TI.of Tryz.prog 225 = some ⟨.other, 1, 8, false, [.nilFunc]⟩ := by kernel_rfl
@[simp] theorem ti_226 : TI.of Tryz.prog 226 = some ⟨.other, 1, 8, false, [.nilFunc]⟩ := by kernel_rfl
@[simp] theorem ti_227 : TI.of Tryz.prog 227 = some ⟨.other, 1, 8, false, [.nilFunc]⟩ := by kernel_rfl
@[simp] theorem ti_228 : TI.of Tryz.prog 228 = some ⟨.other, 1, 8, false, [.nilFunc]⟩ := by kernel_rfl
@[simp] theorem ti_229 : TI.of Tryz.prog 229 = some ⟨.other, 1, 8, false, [.nilFunc]⟩ := by kernel_rfl
@[simp] theorem ti_230 : TI.of Tryz.prog 230 = some ⟨.other, 1, 8, false, [.nilFunc]⟩ := by kernel_rfl
@[simp] theorem ti_231 : TI.of Tryz.prog 231 = some ⟨.int .i64, 1, 8, false, [.int .i64 0]⟩ := by kernel_rfl
@[simp] theorem ti_233 : TI.of Tryz.prog 233 = some ⟨.other, 1, 8, false, [.nilFunc]⟩ := by kernel_rfl
@[simp] theorem ti_234 : TI.of Tryz.prog 234 = some ⟨.other, 1, 8, false, [.nilFunc]⟩ := by kernel_rfl
@[simp] theorem ti_235 : TI.of Tryz.prog 235 = some ⟨.other, 1, 8, false, [.nilFunc]⟩ := by kernel_rfl
@[simp] theorem ti_237 : TI.of Tryz.prog 237 = some ⟨.other, 1, 8, false, [.nilFunc]⟩ := by kernel_rfl
@[simp] theorem ti_238 : TI.of Tryz.prog 238 = some ⟨.other, 1, 8, false, [.nilFunc]⟩ := by kernel_rfl
@[simp] theorem ti_239 : TI.of Tryz.prog 239 = some ⟨.other, 1, 8, false, [.nilFunc]⟩ := by kernel_rfl
@[simp] theorem ti_240 : TI.of Tryz.prog 240 = some ⟨.int .u64, 1, 8, false, [.int .u64 0]⟩ := by kernel_rfl
@[simp] theorem ti_241 : TI.of Tryz.prog 241 = some ⟨.slice 39, 1, 24, false, [.slice none 0 0]⟩ := by kernel_rfl
@[simp] theorem ti_243 : TI.of Tryz.prog 243 = some ⟨.other, 1, 8, false, [.nilFunc]⟩ := by kernel_rfl
@[simp] theorem ti_244 : TI.of Tryz.prog 244 = some ⟨.other, 1, 8, false, [.nilFunc]⟩ := by kernel_rfl
@[simp] theorem ti_245 : TI.of Tryz.prog 245 = some ⟨.other, 1, 8, false, [.nilFunc]⟩ := by kernel_rfl
@[simp] theorem ti_246 : TI.of Tryz.prog 246 = some ⟨.other, 1, 8, false, [.nilFunc]⟩ := by kernel_rfl
@[simp] theorem ti_248 : TI.of Tryz.prog 248 = some ⟨.other, 1, 8, false, [.nilFunc]⟩ := by kernel_rfl
@[simp] theorem ti_249 : TI.of Tryz.prog 249 = some ⟨.other, 1, 8, false, [.nilFunc]⟩ := by kernel_rfl
@[simp] theorem ti_250 : TI.of Tryz.prog 250 = some ⟨.other, 1, 8, false, [.nilFunc]⟩ := by kernel_rfl
@[simp] theorem ti_251 : TI.of Tryz.prog 251 = some ⟨.other, 1, 8, false, [.nilFunc]⟩ := by kernel_rfl
@[simp] theorem ti_252 : TI.of Tryz.prog 252 = some ⟨.other, 1, 8, false, [.nilFunc]⟩ := by kernel_rfl
@[simp] theorem ti_253 : TI.of Tryz.prog 253 = some ⟨.other, 1, 8, false, [.nilFunc]⟩ := by kernel_rfl
@[simp] theorem ti_254 : TI.of Tryz.prog 254 = some ⟨.other, 1, 8, false, [.nilFunc]⟩ := by kernel_rfl
@[simp] theorem ti_255 : TI.of Tryz.prog 255 = some ⟨.other, 1, 8, false, [.nilFunc]⟩ := by kernel_rfl
@[simp] theorem ti_256 : TI.of Tryz.prog 256 = some ⟨.other, 1, 8, false, [.nilFunc]⟩ := by kernel_rfl
@[simp] theorem ti_257 : TI.of Tryz.prog 257 = some ⟨.other, 1, 8, false, [.nilFunc]⟩ := by kernel_rfl
@[simp] theorem ti_258 : TI.of Tryz.prog 258 = some ⟨.other, 1, 8, false, [.pointer none]⟩ := by kernel_rfl
@[simp] theorem ti_259 : TI.of Tryz.prog 259 = some ⟨.other, 1, 8, false, [.nilFunc]⟩ := by kernel_rfl
@[simp] theorem ti_260 : TI.of Tryz.prog 260 = some ⟨.other, 1, 8, false, [.nilFunc]⟩ := by kernel_rfl
@[simp] theorem ti_261 : TI.of Tryz.prog 261 = some ⟨.other, 1, 8, false, [.nilFunc]⟩ := by kernel_rfl
@[simp] theorem ti_262 : TI.of Tryz.prog 262 = some ⟨.int .u64, 1, 8, false, [.int .u64 0]⟩ := by kernel_rfl
@[simp] theorem ti_263 : TI.of Tryz.prog 263 = some ⟨.other, 1, 8, false, [.nilFunc]⟩ := by kernel_rfl
@[simp] theorem ti_264 : TI.of Tryz.prog 264 = some ⟨.other, 1, 8, false, [.nilFunc]⟩ := by kernel_rfl
@[simp] theorem ti_265 : TI.of Tryz.prog 265 = some ⟨.other, 1, 8, false, [.nilFunc]⟩ := by kernel_rfl
@[simp] theorem ti_266 : TI.of Tryz.prog 266 = some ⟨.ptr 3, 1, 8, false, [.pointer none]⟩ := by kernel_rfl
@[simp] theorem ti_267 : TI.of Tryz.prog 267 = some ⟨.other, 1, 8, false, [.nilFunc]⟩ := by kernel_rfl
@[simp] theorem ti_268 : TI.of Tryz.prog 268 = some ⟨.other, 1, 8, false, [.nilFunc]⟩ := by kernel_rfl
@[simp] theorem ti_269 : TI.of Tryz.prog 269 = some ⟨.other, 1, 8, false, [.nilFunc]⟩ := by kernel_rfl
@[simp] theorem ti_270 : TI.of Tryz.prog 270 = some ⟨.other, 1, 8, false, [.nilFunc]⟩ := by kernel_rfl
@[simp] theorem ti_271 : TI.of Tryz.prog 271 = some ⟨.other, 1, 8, false, [.nilFunc]⟩ := by kernel_rfl
@[simp] theorem ti_272 : TI.of Tryz.prog 272 = some ⟨.other, 1, 8, false, [.nilFunc]⟩ := by kernel_rfl
@[simp] theorem ti_273 : TI.of Tryz.prog 273 = some ⟨.other, 1, 8, false, [.nilFunc]⟩ := by kernel_rfl
@[simp] theorem ti_274 : TI.of Tryz.prog 274 = some ⟨.other, 1, 8, false, [.nilFunc]⟩ := by kernel_rfl
@[simp] theorem ti_275 : TI.of Tryz.prog 275 = some ⟨.other, 1, 8, false, [.nilFunc]⟩ := by kernel_rfl
@[simp] theorem ti_276 : TI.of Tryz.prog 276 = some ⟨.other, 1, 8, false, [.nilFunc]⟩ := by kernel_rfl
@[simp] theorem ti_278 : TI.of Tryz.prog 278 = some ⟨.other, 1, 8, false, [.nilFunc]⟩ := by kernel_rfl
@[simp] theorem ti_279 : TI.of Tryz.prog 279 = some ⟨.other, 1, 8, false, [.nilFunc]⟩ := by kernel_rfl
@[simp] theorem ti_280 : TI.of Tryz.prog 280 = some ⟨.other, 1, 8, false, [.nilFunc]⟩ := by kernel_rfl
@[simp] theorem ti_281 : TI.of Tryz.prog 281 = some ⟨.other, 1, 8, false, [.nilFunc]⟩ := by kernel_rfl
@[simp] theorem ti_282 : TI.of Tryz.prog 282 = some ⟨.other, 1, 8, false, [.nilFunc]⟩ := by kernel_rfl
@[simp] theorem ti_283 : TI.of Tryz.prog 283 = some ⟨.other, 1, 8, false, [.nilFunc]⟩ := by kernel_rfl
@[simp] theorem ti_284 : TI.of Tryz.prog 284 = some ⟨.other, 1, 8, false, [.nilFunc]⟩ := by kernel_rfl
@[simp] theorem ti_285 : TI.of Tryz.prog 285 = some ⟨.other, 1, 8, false, [.nilFunc]⟩ := by kernel_rfl
@[simp] theorem ti_286 : TI.of Tryz.prog 286 = some ⟨.other, 1, 8, false, [.nilFunc]⟩ := by kernel_rfl
@[simp] theorem ti_287 : TI.of Tryz.prog 287 = some ⟨.other, 1, 8, false, [.nilFunc]⟩ := by kernel_rfl
@[simp] theorem ti_288 : TI.of Tryz.prog 288 = some ⟨.other, 1, 8, false, [.nilFunc]⟩ := by kernel_rfl
@[simp] theorem ti_289 : TI.of Tryz.prog 289 = some ⟨.other, 1, 8, false, [.nilFunc]⟩ := by kernel_rfl
@[simp] theorem ti_290 : TI.of Tryz.prog 290 = some ⟨.ptr 262, 1, 8, false, [.pointer none]⟩ := by kernel_rfl
@[simp] theorem ti_291 : TI.of Tryz.prog 291 = some ⟨.other, 1, 8, false, [.nilFunc]⟩ := by kernel_rfl
@[simp] theorem ti_292 : TI.of Tryz.prog 292 = some ⟨.other, 1, 8, false, [.nilFunc]⟩ := by kernel_rfl
@[simp] theorem ti_293 : TI.of Tryz.prog 293 = some ⟨.other, 1, 8, false, [.nilFunc]⟩ := by kernel_rfl
@[simp] theorem ti_294 : TI.of Tryz.prog 294 = some ⟨.other, 1, 8, false, [.nilFunc]⟩ := by kernel_rfl
@[simp] theorem ti_295 : TI.of Tryz.prog 295 = some ⟨.other, 1, 8, false, [.nilFunc]⟩ := by kernel_rfl
@[simp] theorem ti_296 : TI.of Tryz.prog 296 = some ⟨.other, 1, 8, false, [.nilFunc]⟩ := by kernel_rfl
@[simp] theorem ti_297 : TI.of Tryz.prog 297 = some ⟨.other, 1, 8, false, [.nilFunc]⟩ := by kernel_rfl
@[simp] theorem ti_298 : TI.of Tryz.prog 298 = some ⟨.other, 1, 8, false, [.nilFunc]⟩ := by kernel_rfl
@[simp] theorem ti_299 : TI.of Tryz.prog 299 = some ⟨.other, 1, 8, false, [.nilFunc]⟩ := by kernel_rfl
@[simp] theorem ti_300 : TI.of Tryz.prog 300 = some ⟨.other, 1, 8, false, [.nilFunc]⟩ := by kernel_rfl
@[simp] theorem ti_301 : TI.of Tryz.prog 301 = some ⟨.other, 1, 8, false, [.nilFunc]⟩ := by kernel_rfl
@[simp] theorem ti_302 : TI.of Tryz.prog 302 = some ⟨.other, 1, 8, false, [.nilFunc]⟩ := by kernel_rfl
@[simp] theorem ti_303 : TI.of Tryz.prog 303 = some ⟨.other, 1, 8, false, [.nilFunc]⟩ := by kernel_rfl
@[simp] theorem ti_304 : TI.of Tryz.prog 304 = some ⟨.other, 1, 8, false, [.nilFunc]⟩ := by kernel_rfl
@[simp] theorem ti_305 : TI.of Tryz.prog 305 = some ⟨.other, 1, 8, false, [.nilFunc]⟩ := by kernel_rfl
@[simp] theorem ti_306 : TI.of Tryz.prog 306 = some ⟨.other, 1, 8, false, [.nilFunc]⟩ := by kernel_rfl
@[simp] theorem ti_307 : TI.of Tryz.prog 307 = some ⟨.other, 1, 8, false, [.nilFunc]⟩ := by kernel_rfl
@[simp] theorem ti_308 : TI.of Tryz.prog 308 = some ⟨.other, 1, 8, false, [.nilFunc]⟩ := by kernel_rfl
@[simp] theorem ti_309 : TI.of Tryz.prog 309 = some ⟨.other, 1, 8, false, [.nilFunc]⟩ := by kernel_rfl
@[simp] theorem ti_310 : TI.of Tryz.prog 310 = some ⟨.other, 1, 8, false, [.nilFunc]⟩ := by kernel_rfl
@[simp] theorem ti_311 : TI.of Tryz.prog 311 = some ⟨.other, 1, 8, false, [.nilFunc]⟩ := by kernel_rfl
@[simp] theorem ti_312 : TI.of Tryz.prog 312 = some ⟨.other, 1, 8, false, [.nilFunc]⟩ := by kernel_rfl
@[simp] theorem ti_313 : TI.of Tryz.prog 313 = some ⟨.other, 1, 8, false, [.nilFunc]⟩ := by kernel_rfl
@[simp] theorem ti_314 : TI.of Tryz.prog 314 = some ⟨.other, 1, 8, false, [.nilFunc]⟩ := by kernel_rfl
@[simp] theorem ti_315 : TI.of Tryz.prog 315 = some ⟨.other, 1, 8, false, [.nilFunc]⟩ := by kernel_rfl
@[simp] theorem ti_316 : TI.of Tryz.prog 316 = some ⟨.other, 1, 8, false, [.nilFunc]⟩ := by kernel_rfl
@[simp] theorem ti_317 : TI.of Tryz.prog 317 = some ⟨.other, 1, 8, false, [.nilFunc]⟩ := by kernel_rfl
@[simp] theorem ti_318 : TI.of Tryz.prog 318 = some ⟨.struct [(0, 1, true), (1, 1, false)], 2, 48, true, [.slice none 0 0, .slice none 0 0]⟩ := by kernel_rfl
@[simp] theorem ti_319 : TI.of Tryz.prog 319 = some ⟨.struct [(0, 1, true), (1, 1, false)], 2, 48, true, [.slice none 0 0, .slice none 0 0]⟩ := by kernel_rfl
@[simp] theorem ti_320 : TI.of Tryz.prog 320 = some ⟨.other, 1, 8, false, [.nilFunc]⟩ := by kernel_rfl
@[simp] theorem ti_321 : TI.of Tryz.prog 321 = some ⟨.other, 1, 8, false, [.nilFunc]⟩ := by kernel_rfl
@[simp] theorem ti_322 : TI.of Tryz.prog 322 = some ⟨.other, 1, 8, false, [.nilFunc]⟩ := by kernel_rfl
@[simp] theorem ti_323 : TI.of Tryz.prog 323 = some ⟨.ptr 327, 1, 8, false, [.pointer none]⟩ := by kernel_rfl
@[simp] theorem ti_324 : TI.of Tryz.prog 324 = some ⟨.other, 1, 8, false, [.nilFunc]⟩ := by kernel_rfl
@[simp] theorem ti_325 : TI.of Tryz.prog 325 = some ⟨.map 9 4, 1, 8, false, [.map none]⟩ := by kernel_rfl
@[simp] theorem ti_326 : TI.of Tryz.prog 326 = some ⟨.struct [(0, 9, true), (9, 1, false), (10, 1, false), (11, 1, false), (12, 1, false), (13, 1, false)], 14, 240, true, [.slice none 0 0, .string ⟨#[]⟩, .slice none 0 0, .slice none 0 0, .slice none 0 0, .int .i64 0, .slice none 0 0, .slice none 0 0, .slice none 0 0, .slice none 0 0, .bool false, .int .u32 0, .map none, .nilFunc]⟩ := by kernel_rfl
@[simp] theorem ti_327 : TI.of Tryz.prog 327 = some ⟨.struct [(0, 9, true), (9, 1, false), (10, 1, false), (11, 1, false), (12, 1, false), (13, 1, false)], 14, 240, true, [.slice none 0 0, .string ⟨#[]⟩, .slice none 0 0, .slice none 0 0, .slice none 0 0, .int .i64 0, .slice none 0 0, .slice none 0 0, .slice none 0 0, .slice none 0 0, .bool false, .int .u32 0, .map none, .nilFunc]⟩ := by kernel_rfl
@[simp] theorem ti_328 : TI.of Tryz.prog 328 = some ⟨.other, 1, 8, false, [.nilFunc]⟩ := by kernel_rfl
@[simp] theorem ti_329 : TI.of Tryz.prog 329 = some ⟨.other, 1, 8, false, [.nilFunc]⟩ := by kernel_rfl
@[simp] theorem ti_330 : TI.of Tryz.prog 330 = some ⟨.other, 1, 8, false, [.nilFunc]⟩ := by kernel_rfl
@[simp] theorem ti_331 : TI.of Tryz.prog 331 = some ⟨.other, 1, 8, false, [.nilFunc]⟩ := by kernel_rfl
@[simp] theorem ti_332 : TI.of Tryz.prog 332 = some ⟨.other, 1, 8, false, [.nilFunc]⟩ := by kernel_rfl
@[simp] theorem ti_333 : TI.of Tryz.prog 333 = some ⟨.other, 1, 8, false, [.nilFunc]⟩ := by kernel_rfl
@[simp] theorem ti_334 : TI.of Tryz.prog 334 = some ⟨.other, 1, 8, false, [.nilFunc]⟩ := by kernel_rfl
@[simp] theorem ti_335 : TI.of Tryz.prog 335 = some ⟨.other, 1, 8, false, [.nilFunc]⟩ := by kernel_rfl
@[simp] theorem ti_336 : TI.of Tryz.prog 336 = some ⟨.other, 1, 8, false, [.nilFunc]⟩ := by kernel_rfl
@[simp] theorem ti_338 : TI.of Tryz.prog 338 = some ⟨.other, 1, 8, false, [.nilFunc]⟩ := by kernel_rfl
@[simp] theorem ti_339 : TI.of Tryz.prog 339 = some ⟨.struct [(0, 1, false), (1, 1, false), (2, 1, false), (3, 1, false)], 4, 40, true, [.pointer none, .pointer none, .pointer none, .string ⟨#[]⟩]⟩ := by kernel_rfl
@[simp] theorem ti_340 : TI.of Tryz.prog 340 = some ⟨.struct [(0, 1, false), (1, 1, false), (2, 1, false), (3, 1, false)], 4, 40, true, [.pointer none, .pointer none, .pointer none, .string ⟨#[]⟩]⟩ := by kernel_rfl
@[simp] theorem ti_341 : TI.of Tryz.prog 341 = some ⟨.other, 0, 0, true, []⟩ := by kernel_rfl
@[simp] theorem ti_342 : TI.of Tryz.prog 342 = some ⟨.struct [(0, 0, true)], 0, 0, true, []⟩ := by kernel_rfl
@[simp] theorem ti_343 : TI.of Tryz.prog 343 = some ⟨.struct [(0, 0, true)], 0, 0, true, []⟩ := by kernel_rfl
@[simp] theorem ti_344 : TI.of Tryz.prog 344 = some ⟨.other, 1, 8, false, [.nilFunc]⟩ := by kernel_rfl
@[simp] theorem ti_345 : TI.of Tryz.prog 345 = some ⟨.int .u8, 1, 1, false, [.int .u8 0]⟩ := by kernel_rfl
@[simp] theorem ti_346 : TI.of Tryz.prog 346 = some ⟨.int .u8, 1, 1, false, [.int .u8 0]⟩ := by kernel_rfl
@[simp] theorem ti_347 : TI.of Tryz.prog 347 = some ⟨.other, 1, 8, false, [.nilFunc]⟩ := by kernel_rfl
@[simp] theorem ti_348 : TI.of Tryz.prog 348 = some ⟨.int .i32, 1, 4, false, [.int .i32 0]⟩ := by kernel_rfl
@[simp] theorem ti_349 : TI.of Tryz.prog 349 = some ⟨.int .i32, 1, 4, false, [.int .i32 0]⟩ := by kernel_rfl
@[simp] theorem ti_350 : TI.of Tryz.prog 350 = some ⟨.struct [(0, 1, false), (1, 1, false), (2, 1, false), (3, 1, false), (4, 1, false), (5, 1, false), (6, 1, false), (7, 1, false), (8, 1, false), (9, 1, false), (10, 1, false)], 11, 48, true, [.int .u64 0, .int .u64 0, .int .u32 0, .int .u8 0, .int .u8 0, .int .u8 0, .int .u8 0, .nilFunc, .pointer none, .int .i32 0, .int .i32 0]⟩ := by kernel_rfl
@[simp] theorem ti_351 : TI.of Tryz.prog 351 = some ⟨.struct [(0, 1, false), (1, 1, false), (2, 1, false), (3, 1, false), (4, 1, false), (5, 1, false), (6, 1, false), (7, 1, false), (8, 1, false), (9, 1, false), (10, 1, false)], 11, 48, true, [.int .u64 0, .int .u64 0, .int .u32 0, .int .u8 0, .int .u8 0, .int .u8 0, .int .u8 0, .nilFunc, .pointer none, .int .i32 0, .int .i32 0]⟩ := by kernel_rfl
@[simp] theorem zf_31 : zfit Tryz.prog 31 = true := by kernel_rfl
@[simp] theorem zf_4 : zfit Tryz.prog 4 = true := by kernel_rfl
@[simp] theorem ek_7 : eqKinds Tryz.prog 7 = some [.int .i64, .int .i64, .bool, .int .u8] := by kernel_rfl
@[simp] theorem ek_8 : eqKinds Tryz.prog 8 = some [.int .i64, .int .i64, .bool, .int .u8] := by kernel_rfl
@[simp] theorem ek_69 : eqKinds Tryz.prog 69 = some [.int .i64, .int .i64] := by kernel_rfl
@[simp] theorem ek_70 : eqKinds Tryz.prog 70 = some [.int .i64, .int .i64] := by kernel_rfl
@[simp] theorem ek_71 : eqKinds Tryz.prog 71 = some [.int .i64, .int .i64, .int .i64, .int .i64, .int .i64, .int .i64, .str] := by kernel_rfl
@[simp] theorem ek_72 : eqKinds Tryz.prog 72 = some [.int .i64, .int .i64, .int .i64, .int .i64, .int .i64, .int .i64, .str] := by kernel_rfl
@[simp] theorem ek_73 : eqKinds Tryz.prog 73 = some [.str, .int .i64, .int .i64, .int .i64] := by kernel_rfl
@[simp] theorem ek_74 : eqKinds Tryz.prog 74 = some [.str, .int .i64, .int .i64, .int .i64] := by kernel_rfl
@[simp] theorem ek_77 : eqKinds Tryz.prog 77 = some [.int .i64, .int .i64] := by kernel_rfl
@[simp] theorem ek_78 : eqKinds Tryz.prog 78 = some [.int .i64, .int .i64] := by kernel_rfl
@[simp] theorem ek_95 : eqKinds Tryz.prog 95 = some [.int .i64, .int .i64, .int .i64] := by kernel_rfl
@[simp] theorem ek_96 : eqKinds Tryz.prog 96 = some [.int .i64, .int .i64, .int .i64] := by kernel_rfl
@[simp] theorem ek_108 : eqKinds Tryz.prog 108 = some [.str, .str] := by kernel_rfl
@[simp] theorem ek_109 : eqKinds Tryz.prog 109 = some [.str, .str] := by kernel_rfl
@[simp] theorem ek_111 : eqKinds Tryz.prog 111 = some [.int .i64, .int .i64, .int .i64] := by kernel_rfl
@[simp] theorem ek_112 : eqKinds Tryz.prog 112 = some [.int .i64, .int .i64, .int .i64] := by kernel_rfl
@[simp] theorem ek_126 : eqKinds Tryz.prog 126 = some [.int .i64] := by kernel_rfl
@[simp] theorem ek_127 : eqKinds Tryz.prog 127 = some [.int .i64] := by kernel_rfl
@[simp] theorem ek_151 : eqKinds Tryz.prog 151 = some [.str, .int .i64] := by kernel_rfl
@[simp] theorem ek_152 : eqKinds Tryz.prog 152 = some [.str, .int .i64] := by kernel_rfl
@[simp] theorem ek_153 : eqKinds Tryz.prog 153 = some [.int .i64, .int .i64] := by kernel_rfl
@[simp] theorem ek_154 : eqKinds Tryz.prog 154 = some [.int .i64, .int .i64] := by kernel_rfl
@[simp] theorem ek_155 : eqKinds Tryz.prog 155 = some [.int .i64, .int .i64, .int .i64] := by kernel_rfl
@[simp] theorem ek_156 : eqKinds Tryz.prog 156 = some [.int .i64, .int .i64, .int .i64] := by kernel_rfl
@[simp] theorem ek_212 : eqKinds Tryz.prog 212 = some [.int .i64, .int .i64] := by kernel_rfl
@[simp] theorem ek_213 : eqKinds Tryz.prog 213 = some [.int .i64, .int .i64] := by kernel_rfl
theorem call_5 : callable Tryz.prog 5 = true := by kernel_rfl
theorem call_17 : callable Tryz.prog 17 = true := by kernel_rfl
theorem call_20 : callable Tryz.prog 20 = true := by kernel_rfl
theorem call_21 : callable Tryz.prog 21 = true := by kernel_rfl
theorem call_22 : callable Tryz.prog 22 = true := by kernel_rfl
theorem call_23 : callable Tryz.prog 23 = true := by kernel_rfl
theorem call_24 : callable Tryz.prog 24 = true := by kernel_rfl
theorem call_32 : callable Tryz.prog 32 = true := by kernel_rfl
theorem call_36 : callable Tryz.prog 36 = true := by kernel_rfl
theorem call_51 : callable Tryz.prog 51 = true := by kernel_rfl
theorem call_52 : callable Tryz.prog 52 = true := by kernel_rfl
theorem call_53 : callable Tryz.prog 53 = true := by kernel_rfl
theorem call_54 : callable Tryz.prog 54 = true := by kernel_rfl
theorem call_55 : callable Tryz.prog 55 = true := by kernel_rfl
theorem call_57 : callable Tryz.prog 57 = true := by kernel_rfl
theorem call_59 : callable Tryz.prog 59 = true := by kernel_rfl
theorem call_60 : callable Tryz.prog 60 = true := by kernel_rfl
theorem call_61 : callable Tryz.prog 61 = true := by kernel_rfl
theorem call_62 : callable Tryz.prog 62 = true := by kernel_rfl
theorem call_66 : callable Tryz.prog 66 = true := by kernel_rfl
theorem call_67 : callable Tryz.prog 67 = true := by kernel_rfl
theorem call_70 : callable Tryz.prog 70 = true := by kernel_rfl
theorem call_78 : callable Tryz.prog 78 = true := by kernel_rfl
theorem call_79 : callable Tryz.prog 79 = true := by kernel_rfl
theorem call_80 : callable Tryz.prog 80 = true := by kernel_rfl
theorem call_81 : callable Tryz.prog 81 = true := by kernel_rfl
theorem call_85 : callable Tryz.prog 85 = true := by kernel_rfl
theorem call_100 : callable Tryz.prog 100 = true := by kernel_rfl
theorem call_111 : callable Tryz.prog 111 = true := by kernel_rfl
theorem call_112 : callable Tryz.prog 112 = true := by kernel_rfl
theorem call_113 : callable Tryz.prog 113 = true := by kernel_rfl
theorem call_114 : callable Tryz.prog 114 = true := by kernel_rfl
theorem call_115 : callable Tryz.prog 115 = true := by kernel_rfl
theorem call_116 : callable Tryz.prog 116 = true := by kernel_rfl
theorem call_123 : callable Tryz.prog 123 = true := by kernel_rfl
theorem call_128 : callable Tryz.prog 128 = true := by kernel_rfl
theorem call_129 : callable Tryz.prog 129 = true := by kernel_rfl
theorem call_130 : callable Tryz.prog 130 = true := by kernel_rfl
theorem call_131 : callable Tryz.prog 131 = true := by kernel_rfl
theorem call_132 : callable Tryz.prog 132 = true := by kernel_rfl
theorem call_133 : callable Tryz.prog 133 = true := by kernel_rfl
theorem call_134 : callable Tryz.prog 134 = true := by kernel_rfl
theorem call_135 : callable Tryz.prog 135 = true := by kernel_rfl
theorem call_136 : callable Tryz.prog 136 = true := by kernel_rfl
theorem call_137 : callable Tryz.prog 137 = true := by kernel_rfl
theorem call_138 : callable Tryz.prog 138 = true := by kernel_rfl
theorem call_139 : callable Tryz.prog 139 = true := by kernel_rfl
theorem call_143 : callable Tryz.prog 143 = true := by kernel_rfl
theorem call_165 : callable Tryz.prog 165 = true := by kernel_rfl
theorem call_166 : callable Tryz.prog 166 = true := by kernel_rfl
theorem call_167 : callable Tryz.prog 167 = true := by kernel_rfl
theorem call_172 : callable Tryz.prog 172 = true := by kernel_rfl
theorem call_187 : callable Tryz.prog 187 = true := by kernel_rfl
theorem call_189 : callable Tryz.prog 189 = true := by kernel_rfl
theorem call_190 : callable Tryz.prog 190 = true := by kernel_rfl
theorem call_191 : callable Tryz.prog 191 = true := by kernel_rfl
theorem call_192 : callable Tryz.prog 192 = true := by kernel_rfl
theorem call_193 : callable Tryz.prog 193 = true := by kernel_rfl
theorem call_194 : callable Tryz.prog 194 = true := by kernel_rfl
theorem call_226 : callable Tryz.prog 226 = true := by kernel_rfl
theorem call_227 : callable Tryz.prog 227 = true := by kernel_rfl
theorem call_228 : callable Tryz.prog 228 = true := by kernel_rfl
theorem call_257 : callable Tryz.prog 257 = true := by kernel_rfl
theorem call_258 : callable Tryz.prog 258 = true := by kernel_rfl
theorem call_259 : callable Tryz.prog 259 = true := by kernel_rfl
end Go.V
