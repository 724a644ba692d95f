/- What the types of the program are to the logic of V1 .. V25, and that its functions can be called: closed facts, printed by a program of mine. -/
import Derived.Test.YtknekjalbninmaaGreatV25
import Derived.Test.YtknekjalbninmaaGreatProg
import Derived.KernelRfl
namespace Go.V
open Go Go.Proofs
set_option maxRecDepth 100000
theorem mixed:Tryz.prog.follows .mixedOrders=true:=by kernel_rfl
@[simp] theorem ti_3:TI.of Tryz.prog 3=some ⟨.int .i64,1,8,false,[.int .i64 0]⟩:=by kernel_rfl
@[simp] theorem ti_4:TI.of Tryz.prog 4=some ⟨.bool,1,1,false,[.bool false]⟩:=by kernel_rfl
@[simp] theorem ti_5:TI.of Tryz.prog 5=some ⟨.int .u8,1,1,false,[.int .u8 0]⟩:=by kernel_rfl
@[simp] theorem ti_9:TI.of Tryz.prog 9=some ⟨.str,1,16,false,[.string ⟨#[]⟩]⟩:=by kernel_rfl
@[simp] theorem ti_22:TI.of Tryz.prog 22=some ⟨.slice 152,1,24,false,[.slice none 0 0]⟩:=by kernel_rfl
@[simp] theorem ti_24:TI.of Tryz.prog 24=some ⟨.struct [(0,1,false)],1,24,true,[.slice none 0 0]⟩:=by kernel_rfl
@[simp] theorem ti_25:TI.of Tryz.prog 25=some ⟨.slice 143,1,24,false,[.slice none 0 0]⟩:=by kernel_rfl
@[simp] theorem ti_26:TI.of Tryz.prog 26=some ⟨.slice 42,1,24,false,[.slice none 0 0]⟩:=by kernel_rfl
@[simp] theorem ti_28:TI.of Tryz.prog 28=some ⟨.struct [(0,1,false),(1,1,false),(2,1,false)],3,64,true,[.string ⟨#[]⟩,.slice none 0 0,.slice none 0 0]⟩:=by kernel_rfl
@[simp] theorem ti_29:TI.of Tryz.prog 29=some ⟨.slice 90,1,24,false,[.slice none 0 0]⟩:=by kernel_rfl
@[simp] theorem ti_30:TI.of Tryz.prog 30=some ⟨.slice 156,1,24,false,[.slice none 0 0]⟩:=by kernel_rfl
@[simp] theorem ti_31:TI.of Tryz.prog 31=some ⟨.slice 3,1,24,false,[.slice none 0 0]⟩:=by kernel_rfl
@[simp] theorem ti_33:TI.of Tryz.prog 33=some ⟨.struct [(0,1,false),(1,1,false),(2,1,false)],3,56,true,[.int .i64 0,.slice none 0 0,.slice none 0 0]⟩:=by kernel_rfl
@[simp] theorem ti_34:TI.of Tryz.prog 34=some ⟨.slice 102,1,24,false,[.slice none 0 0]⟩:=by kernel_rfl
@[simp] theorem ti_36:TI.of Tryz.prog 36=some ⟨.struct [(0,1,true),(1,3,true),(4,1,false),(5,3,true),(8,1,false)],9,192,true,[.slice none 0 0,.string ⟨#[]⟩,.slice none 0 0,.slice none 0 0,.slice none 0 0,.int .i64 0,.slice none 0 0,.slice none 0 0,.slice none 0 0]⟩:=by kernel_rfl
@[simp] theorem ti_37:TI.of Tryz.prog 37=some ⟨.slice 96,1,24,false,[.slice none 0 0]⟩:=by kernel_rfl
@[simp] theorem ti_39:TI.of Tryz.prog 39=some ⟨.struct [(0,1,false)],1,24,true,[.slice none 0 0]⟩:=by kernel_rfl
@[simp] theorem ti_42:TI.of Tryz.prog 42=some ⟨.slice 9,1,24,false,[.slice none 0 0]⟩:=by kernel_rfl
@[simp] theorem ti_43:TI.of Tryz.prog 43=some ⟨.int .i64,1,8,false,[.int .i64 0]⟩:=by kernel_rfl
@[simp] theorem ti_49:TI.of Tryz.prog 49=some ⟨.struct [(0,1,false),(1,1,false),(2,1,false),(3,1,false),(4,1,false)],5,64,true,[.int .i64 0,.string ⟨#[]⟩,.int .i64 0,.int .i64 0,.slice none 0 0]⟩:=by kernel_rfl
@[simp] theorem ti_50:TI.of Tryz.prog 50=some ⟨.slice 74,1,24,false,[.slice none 0 0]⟩:=by kernel_rfl
@[simp] theorem ti_51:TI.of Tryz.prog 51=some ⟨.slice 72,1,24,false,[.slice none 0 0]⟩:=by kernel_rfl
@[simp] theorem ti_53:TI.of Tryz.prog 53=some ⟨.struct [(0,5,true),(5,1,false),(6,1,false)],7,112,true,[.int .i64 0,.string ⟨#[]⟩,.int .i64 0,.int .i64 0,.slice none 0 0,.slice none 0 0,.slice none 0 0]⟩:=by kernel_rfl
@[simp] theorem ti_64:TI.of Tryz.prog 64=some ⟨.slice 139,1,24,false,[.slice none 0 0]⟩:=by kernel_rfl
@[simp] theorem ti_70:TI.of Tryz.prog 70=some ⟨.struct [(0,1,false),(1,1,false)],2,16,true,[.int .i64 0,.int .i64 0]⟩:=by kernel_rfl
@[simp] theorem ti_72:TI.of Tryz.prog 72=some ⟨.struct [(0,1,false),(1,1,false),(2,1,false),(3,2,true),(5,1,false),(6,1,false)],7,64,true,[.int .i64 0,.int .i64 0,.int .i64 0,.int .i64 0,.int .i64 0,.int .i64 0,.string ⟨#[]⟩]⟩:=by kernel_rfl
@[simp] theorem ti_74:TI.of Tryz.prog 74=some ⟨.struct [(0,1,false),(1,1,false),(2,1,false),(3,1,false)],4,40,true,[.string ⟨#[]⟩,.int .i64 0,.int .i64 0,.int .i64 0]⟩:=by kernel_rfl
@[simp] theorem ti_78:TI.of Tryz.prog 78=some ⟨.struct [(0,1,false),(1,1,false)],2,16,true,[.int .i64 0,.int .i64 0]⟩:=by kernel_rfl
@[simp] theorem ti_88:TI.of Tryz.prog 88=some ⟨.slice 154,1,24,false,[.slice none 0 0]⟩:=by kernel_rfl
@[simp] theorem ti_90:TI.of Tryz.prog 90=some ⟨.struct [(0,1,false),(1,1,false),(2,1,false),(3,1,false),(4,1,false),(5,1,false)],6,104,true,[.slice none 0 0,.slice none 0 0,.slice none 0 0,.slice none 0 0,.bool false,.bool false]⟩:=by kernel_rfl
@[simp] theorem ti_96:TI.of Tryz.prog 96=some ⟨.struct [(0,1,false),(1,1,false),(2,1,false)],3,24,true,[.int .i64 0,.int .i64 0,.int .i64 0]⟩:=by kernel_rfl
@[simp] theorem ti_97:TI.of Tryz.prog 97=some ⟨.slice 31,1,24,false,[.slice none 0 0]⟩:=by kernel_rfl
@[simp] theorem ti_98:TI.of Tryz.prog 98=some ⟨.slice 109,1,24,false,[.slice none 0 0]⟩:=by kernel_rfl
@[simp] theorem ti_99:TI.of Tryz.prog 99=some ⟨.slice 213,1,24,false,[.slice none 0 0]⟩:=by kernel_rfl
@[simp] theorem ti_100:TI.of Tryz.prog 100=some ⟨.slice 78,1,24,false,[.slice none 0 0]⟩:=by kernel_rfl
@[simp] theorem ti_102:TI.of Tryz.prog 102=some ⟨.struct [(0,1,false),(1,1,false),(2,1,false),(3,1,false),(4,1,false),(5,1,false),(6,1,false),(7,1,false)],8,144,true,[.int .i64 0,.slice none 0 0,.int .i64 0,.slice none 0 0,.int .i64 0,.slice none 0 0,.slice none 0 0,.slice none 0 0]⟩:=by kernel_rfl
@[simp] theorem ti_109:TI.of Tryz.prog 109=some ⟨.struct [(0,1,false),(1,1,false)],2,32,true,[.string ⟨#[]⟩,.string ⟨#[]⟩]⟩:=by kernel_rfl
@[simp] theorem ti_112:TI.of Tryz.prog 112=some ⟨.struct [(0,1,false),(1,1,false),(2,1,false)],3,24,true,[.int .i64 0,.int .i64 0,.int .i64 0]⟩:=by kernel_rfl
@[simp] theorem ti_127:TI.of Tryz.prog 127=some ⟨.struct [(0,1,false)],1,8,true,[.int .i64 0]⟩:=by kernel_rfl
@[simp] theorem ti_131:TI.of Tryz.prog 131=some ⟨.struct [(0,2,true),(2,1,false),(3,1,true)],4,48,true,[.int .i64 0,.int .i64 0,.int .i64 0,.slice none 0 0]⟩:=by kernel_rfl
@[simp] theorem ti_139:TI.of Tryz.prog 139=some ⟨.struct [(0,2,true),(2,1,false),(3,1,true)],4,48,true,[.int .i64 0,.int .i64 0,.bool false,.slice none 0 0]⟩:=by kernel_rfl
@[simp] theorem ti_143:TI.of Tryz.prog 143=some ⟨.struct [(0,1,false),(1,1,false)],2,40,true,[.string ⟨#[]⟩,.slice none 0 0]⟩:=by kernel_rfl
@[simp] theorem ti_152:TI.of Tryz.prog 152=some ⟨.struct [(0,1,false),(1,1,false)],2,24,true,[.string ⟨#[]⟩,.int .i64 0]⟩:=by kernel_rfl
@[simp] theorem ti_154:TI.of Tryz.prog 154=some ⟨.struct [(0,1,false),(1,1,false)],2,16,true,[.int .i64 0,.int .i64 0]⟩:=by kernel_rfl
@[simp] theorem ti_156:TI.of Tryz.prog 156=some ⟨.struct [(0,1,false),(1,1,false),(2,1,false)],3,24,true,[.int .i64 0,.int .i64 0,.int .i64 0]⟩:=by kernel_rfl
@[simp] theorem ti_164:TI.of Tryz.prog 164=some ⟨.slice 5,1,24,false,[.slice none 0 0]⟩:=by kernel_rfl
@[simp] theorem ti_166:TI.of Tryz.prog 166=some ⟨.struct [(0,1,false),(1,1,false)],2,32,true,[.pointer none,.slice none 0 0]⟩:=by kernel_rfl
@[simp] theorem ti_182:TI.of Tryz.prog 182=some ⟨.map 3 31,1,8,false,[.map none]⟩:=by kernel_rfl
@[simp] theorem ti_183:TI.of Tryz.prog 183=some ⟨.other,1,8,false,[.nilFunc]⟩:=by kernel_rfl
@[simp] theorem ti_188:TI.of Tryz.prog 188=some ⟨.int .u64,1,8,false,[.int .u64 0]⟩:=by kernel_rfl
@[simp] theorem ti_201:TI.of Tryz.prog 201=some ⟨.slice 70,1,24,false,[.slice none 0 0]⟩:=by kernel_rfl
@[simp] theorem ti_213:TI.of Tryz.prog 213=some ⟨.struct [(0,1,false),(1,1,false)],2,16,true,[.int .i64 0,.int .i64 0]⟩:=by kernel_rfl
@[simp] theorem ti_217:TI.of Tryz.prog 217=some ⟨.int .u32,1,4,false,[.int .u32 0]⟩:=by kernel_rfl
@[simp] theorem ti_218:TI.of Tryz.prog 218=some ⟨.int .u32,1,4,false,[.int .u32 0]⟩:=by kernel_rfl
@[simp] theorem ti_224:TI.of Tryz.prog 224=some ⟨.slice 4,1,24,false,[.slice none 0 0]⟩:=by kernel_rfl
@[simp] theorem ti_240:TI.of Tryz.prog 240=some ⟨.int .u64,1,8,false,[.int .u64 0]⟩:=by kernel_rfl
@[simp] theorem ti_241:TI.of Tryz.prog 241=some ⟨.slice 39,1,24,false,[.slice none 0 0]⟩:=by kernel_rfl
@[simp] theorem ti_272:TI.of Tryz.prog 272=some ⟨.other,1,8,false,[.nilFunc]⟩:=by kernel_rfl
@[simp] theorem ti_311:TI.of Tryz.prog 311=some ⟨.other,1,8,false,[.nilFunc]⟩:=by kernel_rfl
@[simp] theorem ti_319:TI.of Tryz.prog 319=some ⟨.struct [(0,1,true),(1,1,false)],2,48,true,[.slice none 0 0,.slice none 0 0]⟩:=by kernel_rfl
@[simp] theorem ti_325:TI.of Tryz.prog 325=some ⟨.map 9 4,1,8,false,[.map none]⟩:=by kernel_rfl
@[simp] theorem ti_327:TI.of Tryz.prog 327=some ⟨.struct [(0,9,true),(9,1,false),(10,1,false),(11,1,false),(12,1,false),(13,1,false)],14,240,true,[.slice none 0 0,.string ⟨#[]⟩,.slice none 0 0,.slice none 0 0,.slice none 0 0,.int .i64 0,.slice none 0 0,.slice none 0 0,.slice none 0 0,.slice none 0 0,.bool false,.int .u32 0,.map none,.nilFunc]⟩:=by kernel_rfl
@[simp] theorem ek_70:eqKinds Tryz.prog 70=some [.int .i64,.int .i64]:=by kernel_rfl
@[simp] theorem ek_72:eqKinds Tryz.prog 72=some [.int .i64,.int .i64,.int .i64,.int .i64,.int .i64,.int .i64,.str]:=by kernel_rfl
@[simp] theorem ek_74:eqKinds Tryz.prog 74=some [.str,.int .i64,.int .i64,.int .i64]:=by kernel_rfl
@[simp] theorem ek_78:eqKinds Tryz.prog 78=some [.int .i64,.int .i64]:=by kernel_rfl
@[simp] theorem ek_96:eqKinds Tryz.prog 96=some [.int .i64,.int .i64,.int .i64]:=by kernel_rfl
@[simp] theorem ek_154:eqKinds Tryz.prog 154=some [.int .i64,.int .i64]:=by kernel_rfl
@[simp] theorem ek_156:eqKinds Tryz.prog 156=some [.int .i64,.int .i64,.int .i64]:=by kernel_rfl
@[simp] theorem ek_213:eqKinds Tryz.prog 213=some [.int .i64,.int .i64]:=by kernel_rfl
theorem c_11:callable Tryz.prog 11=true:=by kernel_rfl
theorem c_12:callable Tryz.prog 12=true:=by kernel_rfl
theorem c_13:callable Tryz.prog 13=true:=by kernel_rfl
theorem c_14:callable Tryz.prog 14=true:=by kernel_rfl
theorem c_16:callable Tryz.prog 16=true:=by kernel_rfl
theorem c_17:callable Tryz.prog 17=true:=by kernel_rfl
theorem c_18:callable Tryz.prog 18=true:=by kernel_rfl
theorem c_20:callable Tryz.prog 20=true:=by kernel_rfl
theorem c_22:callable Tryz.prog 22=true:=by kernel_rfl
theorem c_24:callable Tryz.prog 24=true:=by kernel_rfl
theorem c_25:callable Tryz.prog 25=true:=by kernel_rfl
theorem c_26:callable Tryz.prog 26=true:=by kernel_rfl
theorem c_28:callable Tryz.prog 28=true:=by kernel_rfl
theorem c_30:callable Tryz.prog 30=true:=by kernel_rfl
theorem c_32:callable Tryz.prog 32=true:=by kernel_rfl
theorem c_36:callable Tryz.prog 36=true:=by kernel_rfl
theorem c_38:callable Tryz.prog 38=true:=by kernel_rfl
theorem c_39:callable Tryz.prog 39=true:=by kernel_rfl
theorem c_40:callable Tryz.prog 40=true:=by kernel_rfl
theorem c_41:callable Tryz.prog 41=true:=by kernel_rfl
theorem c_42:callable Tryz.prog 42=true:=by kernel_rfl
theorem c_43:callable Tryz.prog 43=true:=by kernel_rfl
theorem c_44:callable Tryz.prog 44=true:=by kernel_rfl
theorem c_45:callable Tryz.prog 45=true:=by kernel_rfl
theorem c_47:callable Tryz.prog 47=true:=by kernel_rfl
theorem c_51:callable Tryz.prog 51=true:=by kernel_rfl
theorem c_52:callable Tryz.prog 52=true:=by kernel_rfl
theorem c_53:callable Tryz.prog 53=true:=by kernel_rfl
theorem c_54:callable Tryz.prog 54=true:=by kernel_rfl
theorem c_59:callable Tryz.prog 59=true:=by kernel_rfl
theorem c_60:callable Tryz.prog 60=true:=by kernel_rfl
theorem c_62:callable Tryz.prog 62=true:=by kernel_rfl
theorem c_63:callable Tryz.prog 63=true:=by kernel_rfl
theorem c_64:callable Tryz.prog 64=true:=by kernel_rfl
theorem c_65:callable Tryz.prog 65=true:=by kernel_rfl
theorem c_66:callable Tryz.prog 66=true:=by kernel_rfl
theorem c_67:callable Tryz.prog 67=true:=by kernel_rfl
theorem c_70:callable Tryz.prog 70=true:=by kernel_rfl
theorem c_71:callable Tryz.prog 71=true:=by kernel_rfl
theorem c_72:callable Tryz.prog 72=true:=by kernel_rfl
theorem c_73:callable Tryz.prog 73=true:=by kernel_rfl
theorem c_74:callable Tryz.prog 74=true:=by kernel_rfl
theorem c_78:callable Tryz.prog 78=true:=by kernel_rfl
theorem c_79:callable Tryz.prog 79=true:=by kernel_rfl
theorem c_80:callable Tryz.prog 80=true:=by kernel_rfl
theorem c_81:callable Tryz.prog 81=true:=by kernel_rfl
theorem c_84:callable Tryz.prog 84=true:=by kernel_rfl
theorem c_86:callable Tryz.prog 86=true:=by kernel_rfl
theorem c_87:callable Tryz.prog 87=true:=by kernel_rfl
theorem c_88:callable Tryz.prog 88=true:=by kernel_rfl
theorem c_89:callable Tryz.prog 89=true:=by kernel_rfl
theorem c_90:callable Tryz.prog 90=true:=by kernel_rfl
theorem c_91:callable Tryz.prog 91=true:=by kernel_rfl
theorem c_92:callable Tryz.prog 92=true:=by kernel_rfl
theorem c_93:callable Tryz.prog 93=true:=by kernel_rfl
theorem c_94:callable Tryz.prog 94=true:=by kernel_rfl
theorem c_95:callable Tryz.prog 95=true:=by kernel_rfl
theorem c_96:callable Tryz.prog 96=true:=by kernel_rfl
theorem c_97:callable Tryz.prog 97=true:=by kernel_rfl
theorem c_98:callable Tryz.prog 98=true:=by kernel_rfl
theorem c_99:callable Tryz.prog 99=true:=by kernel_rfl
theorem c_100:callable Tryz.prog 100=true:=by kernel_rfl
theorem c_102:callable Tryz.prog 102=true:=by kernel_rfl
theorem c_103:callable Tryz.prog 103=true:=by kernel_rfl
theorem c_109:callable Tryz.prog 109=true:=by kernel_rfl
theorem c_110:callable Tryz.prog 110=true:=by kernel_rfl
theorem c_111:callable Tryz.prog 111=true:=by kernel_rfl
theorem c_112:callable Tryz.prog 112=true:=by kernel_rfl
theorem c_113:callable Tryz.prog 113=true:=by kernel_rfl
theorem c_115:callable Tryz.prog 115=true:=by kernel_rfl
theorem c_116:callable Tryz.prog 116=true:=by kernel_rfl
theorem c_117:callable Tryz.prog 117=true:=by kernel_rfl
theorem c_118:callable Tryz.prog 118=true:=by kernel_rfl
theorem c_119:callable Tryz.prog 119=true:=by kernel_rfl
theorem c_120:callable Tryz.prog 120=true:=by kernel_rfl
theorem c_122:callable Tryz.prog 122=true:=by kernel_rfl
theorem c_123:callable Tryz.prog 123=true:=by kernel_rfl
theorem c_124:callable Tryz.prog 124=true:=by kernel_rfl
theorem c_125:callable Tryz.prog 125=true:=by kernel_rfl
theorem c_128:callable Tryz.prog 128=true:=by kernel_rfl
theorem c_129:callable Tryz.prog 129=true:=by kernel_rfl
theorem c_130:callable Tryz.prog 130=true:=by kernel_rfl
theorem c_131:callable Tryz.prog 131=true:=by kernel_rfl
theorem c_132:callable Tryz.prog 132=true:=by kernel_rfl
theorem c_133:callable Tryz.prog 133=true:=by kernel_rfl
theorem c_134:callable Tryz.prog 134=true:=by kernel_rfl
theorem c_135:callable Tryz.prog 135=true:=by kernel_rfl
theorem c_136:callable Tryz.prog 136=true:=by kernel_rfl
theorem c_137:callable Tryz.prog 137=true:=by kernel_rfl
theorem c_138:callable Tryz.prog 138=true:=by kernel_rfl
theorem c_139:callable Tryz.prog 139=true:=by kernel_rfl
theorem c_142:callable Tryz.prog 142=true:=by kernel_rfl
theorem c_143:callable Tryz.prog 143=true:=by kernel_rfl
theorem c_144:callable Tryz.prog 144=true:=by kernel_rfl
theorem c_145:callable Tryz.prog 145=true:=by kernel_rfl
theorem c_146:callable Tryz.prog 146=true:=by kernel_rfl
theorem c_147:callable Tryz.prog 147=true:=by kernel_rfl
theorem c_148:callable Tryz.prog 148=true:=by kernel_rfl
theorem c_149:callable Tryz.prog 149=true:=by kernel_rfl
theorem c_150:callable Tryz.prog 150=true:=by kernel_rfl
theorem c_151:callable Tryz.prog 151=true:=by kernel_rfl
theorem c_152:callable Tryz.prog 152=true:=by kernel_rfl
theorem c_153:callable Tryz.prog 153=true:=by kernel_rfl
theorem c_154:callable Tryz.prog 154=true:=by kernel_rfl
theorem c_155:callable Tryz.prog 155=true:=by kernel_rfl
theorem c_156:callable Tryz.prog 156=true:=by kernel_rfl
theorem c_157:callable Tryz.prog 157=true:=by kernel_rfl
theorem c_158:callable Tryz.prog 158=true:=by kernel_rfl
theorem c_160:callable Tryz.prog 160=true:=by kernel_rfl
theorem c_165:callable Tryz.prog 165=true:=by kernel_rfl
theorem c_166:callable Tryz.prog 166=true:=by kernel_rfl
theorem c_167:callable Tryz.prog 167=true:=by kernel_rfl
theorem c_168:callable Tryz.prog 168=true:=by kernel_rfl
theorem c_169:callable Tryz.prog 169=true:=by kernel_rfl
theorem c_170:callable Tryz.prog 170=true:=by kernel_rfl
theorem c_171:callable Tryz.prog 171=true:=by kernel_rfl
theorem c_172:callable Tryz.prog 172=true:=by kernel_rfl
theorem c_181:callable Tryz.prog 181=true:=by kernel_rfl
theorem c_182:callable Tryz.prog 182=true:=by kernel_rfl
theorem c_183:callable Tryz.prog 183=true:=by kernel_rfl
theorem c_186:callable Tryz.prog 186=true:=by kernel_rfl
theorem c_187:callable Tryz.prog 187=true:=by kernel_rfl
theorem c_188:callable Tryz.prog 188=true:=by kernel_rfl
theorem c_189:callable Tryz.prog 189=true:=by kernel_rfl
theorem c_190:callable Tryz.prog 190=true:=by kernel_rfl
theorem c_191:callable Tryz.prog 191=true:=by kernel_rfl
theorem c_192:callable Tryz.prog 192=true:=by kernel_rfl
theorem c_193:callable Tryz.prog 193=true:=by kernel_rfl
theorem c_194:callable Tryz.prog 194=true:=by kernel_rfl
theorem c_197:callable Tryz.prog 197=true:=by kernel_rfl
theorem c_198:callable Tryz.prog 198=true:=by kernel_rfl
theorem c_199:callable Tryz.prog 199=true:=by kernel_rfl
theorem c_200:callable Tryz.prog 200=true:=by kernel_rfl
theorem c_201:callable Tryz.prog 201=true:=by kernel_rfl
theorem c_202:callable Tryz.prog 202=true:=by kernel_rfl
theorem c_203:callable Tryz.prog 203=true:=by kernel_rfl
theorem c_204:callable Tryz.prog 204=true:=by kernel_rfl
theorem c_208:callable Tryz.prog 208=true:=by kernel_rfl
theorem c_209:callable Tryz.prog 209=true:=by kernel_rfl
theorem c_215:callable Tryz.prog 215=true:=by kernel_rfl
theorem c_216:callable Tryz.prog 216=true:=by kernel_rfl
theorem c_217:callable Tryz.prog 217=true:=by kernel_rfl
theorem c_218:callable Tryz.prog 218=true:=by kernel_rfl
theorem c_219:callable Tryz.prog 219=true:=by kernel_rfl
theorem c_220:callable Tryz.prog 220=true:=by kernel_rfl
theorem c_221:callable Tryz.prog 221=true:=by kernel_rfl
theorem c_224:callable Tryz.prog 224=true:=by kernel_rfl
theorem c_225:callable Tryz.prog 225=true:=by kernel_rfl
theorem c_226:callable Tryz.prog 226=true:=by kernel_rfl
theorem c_227:callable Tryz.prog 227=true:=by kernel_rfl
theorem c_228:callable Tryz.prog 228=true:=by kernel_rfl
theorem c_230:callable Tryz.prog 230=true:=by kernel_rfl
theorem c_231:callable Tryz.prog 231=true:=by kernel_rfl
theorem c_232:callable Tryz.prog 232=true:=by kernel_rfl
theorem c_233:callable Tryz.prog 233=true:=by kernel_rfl
theorem c_234:callable Tryz.prog 234=true:=by kernel_rfl
theorem c_235:callable Tryz.prog 235=true:=by kernel_rfl
theorem c_237:callable Tryz.prog 237=true:=by kernel_rfl
theorem c_239:callable Tryz.prog 239=true:=by kernel_rfl
theorem c_240:callable Tryz.prog 240=true:=by kernel_rfl
theorem c_241:callable Tryz.prog 241=true:=by kernel_rfl
theorem c_242:callable Tryz.prog 242=true:=by kernel_rfl
theorem c_248:callable Tryz.prog 248=true:=by kernel_rfl
theorem c_257:callable Tryz.prog 257=true:=by kernel_rfl
theorem c_258:callable Tryz.prog 258=true:=by kernel_rfl
theorem c_259:callable Tryz.prog 259=true:=by kernel_rfl
theorem c_262:callable Tryz.prog 262=true:=by kernel_rfl
theorem c_263:callable Tryz.prog 263=true:=by kernel_rfl
theorem c_264:callable Tryz.prog 264=true:=by kernel_rfl
theorem c_265:callable Tryz.prog 265=true:=by kernel_rfl
theorem c_267:callable Tryz.prog 267=true:=by kernel_rfl
theorem c_268:callable Tryz.prog 268=true:=by kernel_rfl
theorem c_269:callable Tryz.prog 269=true:=by kernel_rfl
theorem c_270:callable Tryz.prog 270=true:=by kernel_rfl
theorem c_271:callable Tryz.prog 271=true:=by kernel_rfl
theorem c_272:callable Tryz.prog 272=true:=by kernel_rfl
theorem c_273:callable Tryz.prog 273=true:=by kernel_rfl
theorem c_280:callable Tryz.prog 280=true:=by kernel_rfl
theorem c_281:callable Tryz.prog 281=true:=by kernel_rfl
theorem c_282:callable Tryz.prog 282=true:=by kernel_rfl
theorem c_283:callable Tryz.prog 283=true:=by kernel_rfl
theorem c_284:callable Tryz.prog 284=true:=by kernel_rfl
theorem c_285:callable Tryz.prog 285=true:=by kernel_rfl
theorem c_286:callable Tryz.prog 286=true:=by kernel_rfl
theorem c_287:callable Tryz.prog 287=true:=by kernel_rfl
theorem c_288:callable Tryz.prog 288=true:=by kernel_rfl
theorem c_291:callable Tryz.prog 291=true:=by kernel_rfl
theorem c_292:callable Tryz.prog 292=true:=by kernel_rfl
theorem c_293:callable Tryz.prog 293=true:=by kernel_rfl
theorem c_294:callable Tryz.prog 294=true:=by kernel_rfl
theorem c_295:callable Tryz.prog 295=true:=by kernel_rfl
theorem c_296:callable Tryz.prog 296=true:=by kernel_rfl
theorem c_298:callable Tryz.prog 298=true:=by kernel_rfl
end Go.V
