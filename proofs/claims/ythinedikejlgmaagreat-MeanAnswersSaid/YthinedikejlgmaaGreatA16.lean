import Derived.Test.YthinedikejlgmaaGreatA09
import Derived.Test.YthinedikejlgmaaGreatProg
import Derived.Test.YthinedikejlgmaaGreatA15
set_option linter.all false
section
set_option maxRecDepth 20000
namespace Go.Aft
open Go.Proofs.Tryz
def ty1:aS:=⟨.func,1,[.nilFunc],8⟩
theorem tyok1:ty1.ok prog 1:=aS.bq type1 underlying1 (by kernel_rfl)
def ty2:aS:=⟨.int .i64,1,[.int .i64 0],8⟩
theorem tyok2:ty2.ok prog 2:=aS.bq type2 underlying2 (by kernel_rfl)
def ty3:aS:=⟨.int .i64,1,[.int .i64 0],8⟩
theorem tyok3:ty3.ok prog 3:=aS.bq type3 underlying3 (by kernel_rfl)
def ty4:aS:=⟨.bool,1,[.bool false],1⟩
theorem tyok4:ty4.ok prog 4:=aS.bq type4 underlying4 (by kernel_rfl)
def ty5:aS:=⟨.int .u8,1,[.int .u8 0],1⟩
theorem tyok5:ty5.ok prog 5:=aS.bq type5 underlying5 (by kernel_rfl)
def ty9:aS:=⟨.str,1,[.string ⟨#[]⟩],16⟩
theorem tyok9:ty9.ok prog 9:=aS.bq type9 underlying9 (by kernel_rfl)
def ty20:aS:=⟨.iface true,1,[.nilIface],16⟩
theorem tyok20:ty20.ok prog 20:=aS.bq type20 underlying20 (by kernel_rfl)
def ty22:aS:=⟨.int .i64,1,[.int .i64 0],8⟩
theorem tyok22:ty22.ok prog 22:=aS.bq type22 underlying22 (by kernel_rfl)
def ty23:aS:=⟨.sl 25,1,[.slice none 0 0],24⟩
theorem tyok23:ty23.ok prog 23:=aS.bq type23 underlying23 (by kernel_rfl)
def ty25:aS:=⟨.agg [(0,22),(1,3),(2,23)],3,[.int .i64 0,.int .i64 0,.slice none 0 0],40⟩
theorem tyok25:ty25.ok prog 25:=aS.bq type25 underlying25 (by kernel_rfl)
def ty27:aS:=⟨.agg [(0,3),(1,3),(2,3)],3,[.int .i64 0,.int .i64 0,.int .i64 0],24⟩
theorem tyok27:ty27.ok prog 27:=aS.bq type27 underlying27 (by kernel_rfl)
def ty28:aS:=⟨.int .i64,1,[.int .i64 0],8⟩
theorem tyok28:ty28.ok prog 28:=aS.bq type28 underlying28 (by kernel_rfl)
def ty29:aS:=⟨.sl 86,1,[.slice none 0 0],24⟩
theorem tyok29:ty29.ok prog 29:=aS.bq type29 underlying29 (by kernel_rfl)
def ty30:aS:=⟨.sl 86,1,[.slice none 0 0],24⟩
theorem tyok30:ty30.ok prog 30:=aS.bq type30 underlying30 (by kernel_rfl)
def ty32:aS:=⟨.agg [(0,3),(1,28),(2,30)],3,[.int .i64 0,.int .i64 0,.slice none 0 0],40⟩
theorem tyok32:ty32.ok prog 32:=aS.bq type32 underlying32 (by kernel_rfl)
def ty33:aS:=⟨.int .i64,1,[.int .i64 0],8⟩
theorem tyok33:ty33.ok prog 33:=aS.bq type33 underlying33 (by kernel_rfl)
def ty39:aS:=⟨.sl 9,1,[.slice none 0 0],24⟩
theorem tyok39:ty39.ok prog 39:=aS.bq type39 underlying39 (by kernel_rfl)
def ty40:aS:=⟨.sl 70,1,[.slice none 0 0],24⟩
theorem tyok40:ty40.ok prog 40:=aS.bq type40 underlying40 (by kernel_rfl)
def ty42:aS:=⟨.agg [(0,39),(1,40)],2,[.slice none 0 0,.slice none 0 0],48⟩
theorem tyok42:ty42.ok prog 42:=aS.bq type42 underlying42 (by kernel_rfl)
def ty43:aS:=⟨.sl 82,1,[.slice none 0 0],24⟩
theorem tyok43:ty43.ok prog 43:=aS.bq type43 underlying43 (by kernel_rfl)
def ty44:aS:=⟨.sl 94,1,[.slice none 0 0],24⟩
theorem tyok44:ty44.ok prog 44:=aS.bq type44 underlying44 (by kernel_rfl)
def ty53:aS:=⟨.sl 30,1,[.slice none 0 0],24⟩
theorem tyok53:ty53.ok prog 53:=aS.bq type53 underlying53 (by kernel_rfl)
def ty61:aS:=⟨.agg [(0,3),(1,3)],2,[.int .i64 0,.int .i64 0],16⟩
theorem tyok61:ty61.ok prog 61:=aS.bq type61 underlying61 (by kernel_rfl)
def ty64:aS:=⟨.sl 68,1,[.slice none 0 0],24⟩
theorem tyok64:ty64.ok prog 64:=aS.bq type64 underlying64 (by kernel_rfl)
def ty66:aS:=⟨.int .i64,1,[.int .i64 0],8⟩
theorem tyok66:ty66.ok prog 66:=aS.bq type66 underlying66 (by kernel_rfl)
def ty68:aS:=⟨.agg [(0,66),(1,9),(2,3),(3,28),(4,23),(5,64)],6,[.int .i64 0,.string ⟨#[]⟩,.int .i64 0,.int .i64 0,.slice none 0 0,.slice none 0 0],88⟩
theorem tyok68:ty68.ok prog 68:=aS.bq type68 underlying68 (by kernel_rfl)
def ty70:aS:=⟨.agg [(0,9),(1,68)],7,[.string ⟨#[]⟩,.int .i64 0,.string ⟨#[]⟩,.int .i64 0,.int .i64 0,.slice none 0 0,.slice none 0 0],104⟩
theorem tyok70:ty70.ok prog 70:=aS.bq type70 underlying70 (by kernel_rfl)
def ty80:aS:=⟨.int .u64,1,[.int .u64 0],8⟩
theorem tyok80:ty80.ok prog 80:=aS.bq type80 underlying80 (by kernel_rfl)
def ty82:aS:=⟨.agg [(0,3),(1,3),(2,27)],5,[.int .i64 0,.int .i64 0,.int .i64 0,.int .i64 0,.int .i64 0],40⟩
theorem tyok82:ty82.ok prog 82:=aS.bq type82 underlying82 (by kernel_rfl)
def ty86:aS:=⟨.agg [(0,27),(3,3)],4,[.int .i64 0,.int .i64 0,.int .i64 0,.int .i64 0],32⟩
theorem tyok86:ty86.ok prog 86:=aS.bq type86 underlying86 (by kernel_rfl)
def ty94:aS:=⟨.sl 3,1,[.slice none 0 0],24⟩
theorem tyok94:ty94.ok prog 94:=aS.bq type94 underlying94 (by kernel_rfl)
def ty99:aS:=⟨.func,1,[.nilFunc],8⟩
theorem tyok99:ty99.ok prog 99:=aS.bq type99 underlying99 (by kernel_rfl)
def ty100:aS:=⟨.func,1,[.nilFunc],8⟩
theorem UM:ty100.ok prog 100:=aS.bq type100 underlying100 (by kernel_rfl)
def ty115:aS:=⟨.func,1,[.nilFunc],8⟩
theorem UL:ty115.ok prog 115:=aS.bq type115 underlying115 (by kernel_rfl)
def ty116:aS:=⟨.ptr 122,1,[.pointer none],8⟩
theorem UK:ty116.ok prog 116:=aS.bq type116 underlying116 (by kernel_rfl)
def ty118:aS:=⟨.map 9 30,1,[.map none],8⟩
theorem UJ:ty118.ok prog 118:=aS.bq type118 underlying118 (by kernel_rfl)
def ty119:aS:=⟨.map 9 3,1,[.map none],8⟩
theorem UI:ty119.ok prog 119:=aS.bq type119 underlying119 (by kernel_rfl)
def ty120:aS:=⟨.map 66 200,1,[.map none],8⟩
theorem UH:ty120.ok prog 120:=aS.bq type120 underlying120 (by kernel_rfl)
def ty122:aS:=⟨.agg [(0,42),(2,118),(3,119),(4,53),(5,120)],6,[.slice none 0 0,.slice none 0 0,.map none,.map none,.slice none 0 0,.map none],96⟩
theorem UG:ty122.ok prog 122:=aS.bq type122 underlying122 (by kernel_rfl)
def ty131:aS:=⟨.ptr 195,1,[.pointer none],8⟩
theorem UF:ty131.ok prog 131:=aS.bq type131 underlying131 (by kernel_rfl)
def ty143:aS:=⟨.ptr 214,1,[.pointer none],8⟩
theorem UE:ty143.ok prog 143:=aS.bq type143 underlying143 (by kernel_rfl)
def ty145:aS:=⟨.map 9 9,1,[.map none],8⟩
theorem UD:ty145.ok prog 145:=aS.bq type145 underlying145 (by kernel_rfl)
def ty148:aS:=⟨.func,1,[.nilFunc],8⟩
theorem UC:ty148.ok prog 148:=aS.bq type148 underlying148 (by kernel_rfl)
def ty153:aS:=⟨.func,1,[.nilFunc],8⟩
theorem UB:ty153.ok prog 153:=aS.bq type153 underlying153 (by kernel_rfl)
def ty156:aS:=⟨.map 3 4,1,[.map none],8⟩
theorem UA:ty156.ok prog 156:=aS.bq type156 underlying156 (by kernel_rfl)
def ty162:aS:=⟨.func,1,[.nilFunc],8⟩
theorem Uz:ty162.ok prog 162:=aS.bq type162 underlying162 (by kernel_rfl)
def ty167:aS:=⟨.map 3 94,1,[.map none],8⟩
theorem Uy:ty167.ok prog 167:=aS.bq type167 underlying167 (by kernel_rfl)
def ty172:aS:=⟨.func,1,[.nilFunc],8⟩
theorem Ux:ty172.ok prog 172:=aS.bq type172 underlying172 (by kernel_rfl)
def ty175:aS:=⟨.func,1,[.nilFunc],8⟩
theorem Uw:ty175.ok prog 175:=aS.bq type175 underlying175 (by kernel_rfl)
def ty176:aS:=⟨.sl 178,1,[.slice none 0 0],24⟩
theorem Uv:ty176.ok prog 176:=aS.bq type176 underlying176 (by kernel_rfl)
def ty178:aS:=⟨.sl 4,1,[.slice none 0 0],24⟩
theorem Uu:ty178.ok prog 178:=aS.bq type178 underlying178 (by kernel_rfl)
def ty179:aS:=⟨.map 186 4,1,[.map none],8⟩
theorem Ut:ty179.ok prog 179:=aS.bq type179 underlying179 (by kernel_rfl)
def ty180:aS:=⟨.sl 184,1,[.slice none 0 0],24⟩
theorem Us:ty180.ok prog 180:=aS.bq type180 underlying180 (by kernel_rfl)
def ty182:aS:=⟨.int .i64,1,[.int .i64 0],8⟩
theorem Ur:ty182.ok prog 182:=aS.bq type182 underlying182 (by kernel_rfl)
def ty184:aS:=⟨.agg [(0,182),(1,3),(2,3),(3,3),(4,27)],7,[.int .i64 0,.int .i64 0,.int .i64 0,.int .i64 0,.int .i64 0,.int .i64 0,.int .i64 0],56⟩
theorem Uq:ty184.ok prog 184:=aS.bq type184 underlying184 (by kernel_rfl)
def ty185:aS:=⟨.func,1,[.nilFunc],8⟩
theorem Up:ty185.ok prog 185:=aS.bq type185 underlying185 (by kernel_rfl)
def ty186:aS:=⟨.arr 2 3,2,[.int .i64 0,.int .i64 0],16⟩
theorem Uo:ty186.ok prog 186:=aS.bq type186 underlying186 (by kernel_rfl)
def ty189:aS:=⟨.func,1,[.nilFunc],8⟩
theorem Un:ty189.ok prog 189:=aS.bq type189 underlying189 (by kernel_rfl)
def ty191:aS:=⟨.agg [],0,[],0⟩
theorem Um:ty191.ok prog 191:=aS.bq type191 underlying191 (by kernel_rfl)
def ty195:aS:=⟨.agg [(0,42),(2,53),(3,53)],4,[.slice none 0 0,.slice none 0 0,.slice none 0 0,.slice none 0 0],96⟩
theorem Ul:ty195.ok prog 195:=aS.bq type195 underlying195 (by kernel_rfl)
def ty198:aS:=⟨.func,1,[.nilFunc],8⟩
theorem Uk:ty198.ok prog 198:=aS.bq type198 underlying198 (by kernel_rfl)
def ty200:aS:=⟨.func,1,[.nilFunc],8⟩
theorem Uj:ty200.ok prog 200:=aS.bq type200 underlying200 (by kernel_rfl)
def ty207:aS:=⟨.agg [],0,[],0⟩
theorem Ui:ty207.ok prog 207:=aS.bq type207 underlying207 (by kernel_rfl)
def ty209:aS:=⟨.map 66 243,1,[.map none],8⟩
theorem Uh:ty209.ok prog 209:=aS.bq type209 underlying209 (by kernel_rfl)
def ty212:aS:=⟨.agg [(0,119),(1,119)],2,[.map none,.map none],16⟩
theorem Ug:ty212.ok prog 212:=aS.bq type212 underlying212 (by kernel_rfl)
def ty214:aS:=⟨.agg [(0,212),(2,209),(3,3),(4,3)],5,[.map none,.map none,.map none,.int .i64 0,.int .i64 0],40⟩
theorem Uf:ty214.ok prog 214:=aS.bq type214 underlying214 (by kernel_rfl)
def ty218:aS:=⟨.func,1,[.nilFunc],8⟩
theorem Ue:ty218.ok prog 218:=aS.bq type218 underlying218 (by kernel_rfl)
def ty223:aS:=⟨.func,1,[.nilFunc],8⟩
theorem Ud:ty223.ok prog 223:=aS.bq type223 underlying223 (by kernel_rfl)
def ty225:aS:=⟨.agg [(0,3),(1,3),(2,3)],3,[.int .i64 0,.int .i64 0,.int .i64 0],24⟩
theorem Uc:ty225.ok prog 225:=aS.bq type225 underlying225 (by kernel_rfl)
def ty231:aS:=⟨.agg [(0,39),(1,39),(2,3)],3,[.slice none 0 0,.slice none 0 0,.int .i64 0],56⟩
theorem Ub:ty231.ok prog 231:=aS.bq type231 underlying231 (by kernel_rfl)
def ty236:aS:=⟨.map 27 3,1,[.map none],8⟩
theorem Ua:ty236.ok prog 236:=aS.bq type236 underlying236 (by kernel_rfl)
def ty238:aS:=⟨.func,1,[.nilFunc],8⟩
theorem T9:ty238.ok prog 238:=aS.bq type238 underlying238 (by kernel_rfl)
def ty239:aS:=⟨.func,1,[.nilFunc],8⟩
theorem T8:ty239.ok prog 239:=aS.bq type239 underlying239 (by kernel_rfl)
def ty243:aS:=⟨.agg [(0,3),(1,3),(2,4),(3,4),(4,3),(5,3)],6,[.int .i64 0,.int .i64 0,.bool false,.bool false,.int .i64 0,.int .i64 0],40⟩
theorem T7:ty243.ok prog 243:=aS.bq type243 underlying243 (by kernel_rfl)
def ty246:aS:=⟨.sl 5,1,[.slice none 0 0],24⟩
theorem T6:ty246.ok prog 246:=aS.bq type246 underlying246 (by kernel_rfl)
def ty247:aS:=⟨.map 9 4,1,[.map none],8⟩
theorem T5:ty247.ok prog 247:=aS.bq type247 underlying247 (by kernel_rfl)
def ty252:aS:=⟨.int .u64,1,[.int .u64 0],8⟩
theorem T4:ty252.ok prog 252:=aS.bq type252 underlying252 (by kernel_rfl)
def ty256:aS:=⟨.agg [(0,3),(1,3),(2,4),(3,4),(4,3),(5,3)],6,[.int .i64 0,.int .i64 0,.bool false,.bool false,.int .i64 0,.int .i64 0],40⟩
theorem T3:ty256.ok prog 256:=aS.bq type256 underlying256 (by kernel_rfl)
def ty265:aS:=⟨.func,1,[.nilFunc],8⟩
theorem T2:ty265.ok prog 265:=aS.bq type265 underlying265 (by kernel_rfl)
def ty267:aS:=⟨.func,1,[.nilFunc],8⟩
theorem T1:ty267.ok prog 267:=aS.bq type267 underlying267 (by kernel_rfl)
def ty269:aS:=⟨.map 3 29,1,[.map none],8⟩
theorem T0:ty269.ok prog 269:=aS.bq type269 underlying269 (by kernel_rfl)
def ty274:aS:=⟨.int .i64,1,[.int .i64 0],8⟩
theorem TZ:ty274.ok prog 274:=aS.bq type274 underlying274 (by kernel_rfl)
def WE:aS:=⟨.int .u32,1,[.int .u32 0],4⟩
theorem TY:WE.ok prog 282:=aS.bq type282 underlying282 (by kernel_rfl)
def WD:aS:=⟨.map 182 288,1,[.map none],8⟩
theorem TX:WD.ok prog 285:=aS.bq type285 underlying285 (by kernel_rfl)
def WC:aS:=⟨.func,1,[.nilFunc],8⟩
theorem TW:WC.ok prog 288:=aS.bq type288 underlying288 (by kernel_rfl)
def WB:aS:=⟨.agg [(0,3),(1,3)],2,[.int .i64 0,.int .i64 0],16⟩
theorem TV:WB.ok prog 291:=aS.bq type291 underlying291 (by kernel_rfl)
def WA:aS:=⟨.func,1,[.nilFunc],8⟩
theorem TU:WA.ok prog 299:=aS.bq type299 underlying299 (by kernel_rfl)
def Wz:aS:=⟨.func,1,[.nilFunc],8⟩
theorem TT:Wz.ok prog 300:=aS.bq type300 underlying300 (by kernel_rfl)
def Wy:aS:=⟨.int .u64,1,[.int .u64 0],8⟩
theorem TS:Wy.ok prog 302:=aS.bq type302 underlying302 (by kernel_rfl)
def Wx:aS:=⟨.ptr 3,1,[.pointer none],8⟩
theorem TR:Wx.ok prog 306:=aS.bq type306 underlying306 (by kernel_rfl)
def Ww:aS:=⟨.agg [],0,[],0⟩
theorem TQ:Ww.ok prog 308:=aS.bq type308 underlying308 (by kernel_rfl)
def Wv:aS:=⟨.func,1,[.nilFunc],8⟩
theorem TP:Wv.ok prog 312:=aS.bq type312 underlying312 (by kernel_rfl)
def Wu:aS:=⟨.ptr 302,1,[.pointer none],8⟩
theorem TO:Wu.ok prog 313:=aS.bq type313 underlying313 (by kernel_rfl)
def bf:List (Nat×aS):=[(1,ty1),(2,ty2),(3,ty3),(4,ty4),(5,ty5),(9,ty9),(20,ty20),(22,ty22),(23,ty23),(25,ty25),(27,ty27),(28,ty28),(29,ty29),(30,ty30),(32,ty32),(33,ty33),(39,ty39),(40,ty40),(42,ty42),(43,ty43),(44,ty44),(53,ty53),(61,ty61),(64,ty64),(66,ty66),(68,ty68),(70,ty70),(80,ty80),(82,ty82),(86,ty86),(94,ty94),(99,ty99),(100,ty100),(115,ty115),(116,ty116),(118,ty118),(119,ty119),(120,ty120),(122,ty122),(131,ty131),(143,ty143),(145,ty145),(148,ty148),(153,ty153),(156,ty156),(162,ty162),(167,ty167),(172,ty172),(175,ty175),(176,ty176),(178,ty178),(179,ty179),(180,ty180),(182,ty182),(184,ty184),(185,ty185),(186,ty186),(189,ty189),(191,ty191),(195,ty195),(198,ty198),(200,ty200),(207,ty207),(209,ty209),(212,ty212),(214,ty214),(218,ty218),(223,ty223),(225,ty225),(231,ty231),(236,ty236),(238,ty238),(239,ty239),(243,ty243),(246,ty246),(247,ty247),(252,ty252),(256,ty256),(265,ty265),(267,ty267),(269,ty269),(274,ty274),(282,WE),(285,WD),(288,WC),(291,WB),(299,WA),(300,Wz),(302,Wy),(306,Wx),(308,Ww),(312,Wv),(313,Wu)]
theorem uO:mT prog (bT bf):=Wa (forall_cons (P:=λp:Nat×aS=>p.2.ok prog p.1) tyok1<|forall_cons (P:=λp:Nat×aS=>p.2.ok prog p.1) tyok2<|forall_cons (P:=λp:Nat×aS=>p.2.ok prog p.1) tyok3<|forall_cons (P:=λp:Nat×aS=>p.2.ok prog p.1) tyok4<|forall_cons (P:=λp:Nat×aS=>p.2.ok prog p.1) tyok5<|forall_cons (P:=λp:Nat×aS=>p.2.ok prog p.1) tyok9<|forall_cons (P:=λp:Nat×aS=>p.2.ok prog p.1) tyok20<|forall_cons (P:=λp:Nat×aS=>p.2.ok prog p.1) tyok22<|forall_cons (P:=λp:Nat×aS=>p.2.ok prog p.1) tyok23<|forall_cons (P:=λp:Nat×aS=>p.2.ok prog p.1) tyok25<|forall_cons (P:=λp:Nat×aS=>p.2.ok prog p.1) tyok27<|forall_cons (P:=λp:Nat×aS=>p.2.ok prog p.1) tyok28<|forall_cons (P:=λp:Nat×aS=>p.2.ok prog p.1) tyok29<|forall_cons (P:=λp:Nat×aS=>p.2.ok prog p.1) tyok30<|forall_cons (P:=λp:Nat×aS=>p.2.ok prog p.1) tyok32<|forall_cons (P:=λp:Nat×aS=>p.2.ok prog p.1) tyok33<|forall_cons (P:=λp:Nat×aS=>p.2.ok prog p.1) tyok39<|forall_cons (P:=λp:Nat×aS=>p.2.ok prog p.1) tyok40<|forall_cons (P:=λp:Nat×aS=>p.2.ok prog p.1) tyok42<|forall_cons (P:=λp:Nat×aS=>p.2.ok prog p.1) tyok43<|forall_cons (P:=λp:Nat×aS=>p.2.ok prog p.1) tyok44<|forall_cons (P:=λp:Nat×aS=>p.2.ok prog p.1) tyok53<|forall_cons (P:=λp:Nat×aS=>p.2.ok prog p.1) tyok61<|forall_cons (P:=λp:Nat×aS=>p.2.ok prog p.1) tyok64<|forall_cons (P:=λp:Nat×aS=>p.2.ok prog p.1) tyok66<|forall_cons (P:=λp:Nat×aS=>p.2.ok prog p.1) tyok68<|forall_cons (P:=λp:Nat×aS=>p.2.ok prog p.1) tyok70<|forall_cons (P:=λp:Nat×aS=>p.2.ok prog p.1) tyok80<|forall_cons (P:=λp:Nat×aS=>p.2.ok prog p.1) tyok82<|forall_cons (P:=λp:Nat×aS=>p.2.ok prog p.1) tyok86<|forall_cons (P:=λp:Nat×aS=>p.2.ok prog p.1) tyok94<|forall_cons (P:=λp:Nat×aS=>p.2.ok prog p.1) tyok99<|forall_cons (P:=λp:Nat×aS=>p.2.ok prog p.1) UM<|forall_cons (P:=λp:Nat×aS=>p.2.ok prog p.1) UL<|forall_cons (P:=λp:Nat×aS=>p.2.ok prog p.1) UK<|forall_cons (P:=λp:Nat×aS=>p.2.ok prog p.1) UJ<|forall_cons (P:=λp:Nat×aS=>p.2.ok prog p.1) UI<|forall_cons (P:=λp:Nat×aS=>p.2.ok prog p.1) UH<|forall_cons (P:=λp:Nat×aS=>p.2.ok prog p.1) UG<|forall_cons (P:=λp:Nat×aS=>p.2.ok prog p.1) UF<|forall_cons (P:=λp:Nat×aS=>p.2.ok prog p.1) UE<|forall_cons (P:=λp:Nat×aS=>p.2.ok prog p.1) UD<|forall_cons (P:=λp:Nat×aS=>p.2.ok prog p.1) UC<|forall_cons (P:=λp:Nat×aS=>p.2.ok prog p.1) UB<|forall_cons (P:=λp:Nat×aS=>p.2.ok prog p.1) UA<|forall_cons (P:=λp:Nat×aS=>p.2.ok prog p.1) Uz<|forall_cons (P:=λp:Nat×aS=>p.2.ok prog p.1) Uy<|forall_cons (P:=λp:Nat×aS=>p.2.ok prog p.1) Ux<|forall_cons (P:=λp:Nat×aS=>p.2.ok prog p.1) Uw<|forall_cons (P:=λp:Nat×aS=>p.2.ok prog p.1) Uv<|forall_cons (P:=λp:Nat×aS=>p.2.ok prog p.1) Uu<|forall_cons (P:=λp:Nat×aS=>p.2.ok prog p.1) Ut<|forall_cons (P:=λp:Nat×aS=>p.2.ok prog p.1) Us<|forall_cons (P:=λp:Nat×aS=>p.2.ok prog p.1) Ur<|forall_cons (P:=λp:Nat×aS=>p.2.ok prog p.1) Uq<|forall_cons (P:=λp:Nat×aS=>p.2.ok prog p.1) Up<|forall_cons (P:=λp:Nat×aS=>p.2.ok prog p.1) Uo<|forall_cons (P:=λp:Nat×aS=>p.2.ok prog p.1) Un<|forall_cons (P:=λp:Nat×aS=>p.2.ok prog p.1) Um<|forall_cons (P:=λp:Nat×aS=>p.2.ok prog p.1) Ul<|forall_cons (P:=λp:Nat×aS=>p.2.ok prog p.1) Uk<|forall_cons (P:=λp:Nat×aS=>p.2.ok prog p.1) Uj<|forall_cons (P:=λp:Nat×aS=>p.2.ok prog p.1) Ui<|forall_cons (P:=λp:Nat×aS=>p.2.ok prog p.1) Uh<|forall_cons (P:=λp:Nat×aS=>p.2.ok prog p.1) Ug<|forall_cons (P:=λp:Nat×aS=>p.2.ok prog p.1) Uf<|forall_cons (P:=λp:Nat×aS=>p.2.ok prog p.1) Ue<|forall_cons (P:=λp:Nat×aS=>p.2.ok prog p.1) Ud<|forall_cons (P:=λp:Nat×aS=>p.2.ok prog p.1) Uc<|forall_cons (P:=λp:Nat×aS=>p.2.ok prog p.1) Ub<|forall_cons (P:=λp:Nat×aS=>p.2.ok prog p.1) Ua<|forall_cons (P:=λp:Nat×aS=>p.2.ok prog p.1) T9<|forall_cons (P:=λp:Nat×aS=>p.2.ok prog p.1) T8<|forall_cons (P:=λp:Nat×aS=>p.2.ok prog p.1) T7<|forall_cons (P:=λp:Nat×aS=>p.2.ok prog p.1) T6<|forall_cons (P:=λp:Nat×aS=>p.2.ok prog p.1) T5<|forall_cons (P:=λp:Nat×aS=>p.2.ok prog p.1) T4<|forall_cons (P:=λp:Nat×aS=>p.2.ok prog p.1) T3<|forall_cons (P:=λp:Nat×aS=>p.2.ok prog p.1) T2<|forall_cons (P:=λp:Nat×aS=>p.2.ok prog p.1) T1<|forall_cons (P:=λp:Nat×aS=>p.2.ok prog p.1) T0<|forall_cons (P:=λp:Nat×aS=>p.2.ok prog p.1) TZ<|forall_cons (P:=λp:Nat×aS=>p.2.ok prog p.1) TY<|forall_cons (P:=λp:Nat×aS=>p.2.ok prog p.1) TX<|forall_cons (P:=λp:Nat×aS=>p.2.ok prog p.1) TW<|forall_cons (P:=λp:Nat×aS=>p.2.ok prog p.1) TV<|forall_cons (P:=λp:Nat×aS=>p.2.ok prog p.1) TU<|forall_cons (P:=λp:Nat×aS=>p.2.ok prog p.1) TT<|forall_cons (P:=λp:Nat×aS=>p.2.ok prog p.1) TS<|forall_cons (P:=λp:Nat×aS=>p.2.ok prog p.1) TR<|forall_cons (P:=λp:Nat×aS=>p.2.ok prog p.1) TQ<|forall_cons (P:=λp:Nat×aS=>p.2.ok prog p.1) TP<|forall_cons (P:=λp:Nat×aS=>p.2.ok prog p.1) TO<|forall_nil)
@[simp] theorem tyE1:bT bf 1=some ⟨.func,1,[.nilFunc],8⟩:=by as_aux_lemma=>kernel_rfl
@[simp] theorem tyE2:bT bf 2=some ⟨.int .i64,1,[.int .i64 0],8⟩:=by as_aux_lemma=>kernel_rfl
@[simp] theorem Gc:bT bf 3=some ⟨.int .i64,1,[.int .i64 0],8⟩:=by as_aux_lemma=>kernel_rfl
@[simp] theorem tyE4:bT bf 4=some ⟨.bool,1,[.bool false],1⟩:=by as_aux_lemma=>kernel_rfl
@[simp] theorem tyE5:bT bf 5=some ⟨.int .u8,1,[.int .u8 0],1⟩:=by as_aux_lemma=>kernel_rfl
@[simp] theorem P6:bT bf 9=some ⟨.str,1,[.string ⟨#[]⟩],16⟩:=by as_aux_lemma=>kernel_rfl
@[simp] theorem tyE20:bT bf 20=some ⟨.iface true,1,[.nilIface],16⟩:=by as_aux_lemma=>kernel_rfl
@[simp] theorem tyE22:bT bf 22=some ⟨.int .i64,1,[.int .i64 0],8⟩:=by as_aux_lemma=>kernel_rfl
@[simp] theorem P9:bT bf 23=some ⟨.sl 25,1,[.slice none 0 0],24⟩:=by as_aux_lemma=>kernel_rfl
@[simp] theorem P8:bT bf 25=some ⟨.agg [(0,22),(1,3),(2,23)],3,[.int .i64 0,.int .i64 0,.slice none 0 0],40⟩:=by as_aux_lemma=>kernel_rfl
@[simp] theorem tyE27:bT bf 27=some ⟨.agg [(0,3),(1,3),(2,3)],3,[.int .i64 0,.int .i64 0,.int .i64 0],24⟩:=by as_aux_lemma=>kernel_rfl
@[simp] theorem tyE28:bT bf 28=some ⟨.int .i64,1,[.int .i64 0],8⟩:=by as_aux_lemma=>kernel_rfl
@[simp] theorem eW:bT bf 29=some ⟨.sl 86,1,[.slice none 0 0],24⟩:=by as_aux_lemma=>kernel_rfl
@[simp] theorem uP:bT bf 30=some ⟨.sl 86,1,[.slice none 0 0],24⟩:=by as_aux_lemma=>kernel_rfl
@[simp] theorem tyE32:bT bf 32=some ⟨.agg [(0,3),(1,28),(2,30)],3,[.int .i64 0,.int .i64 0,.slice none 0 0],40⟩:=by as_aux_lemma=>kernel_rfl
@[simp] theorem tyE33:bT bf 33=some ⟨.int .i64,1,[.int .i64 0],8⟩:=by as_aux_lemma=>kernel_rfl
@[simp] theorem F9:bT bf 39=some ⟨.sl 9,1,[.slice none 0 0],24⟩:=by as_aux_lemma=>kernel_rfl
@[simp] theorem tyE40:bT bf 40=some ⟨.sl 70,1,[.slice none 0 0],24⟩:=by as_aux_lemma=>kernel_rfl
@[simp] theorem tyE42:bT bf 42=some ⟨.agg [(0,39),(1,40)],2,[.slice none 0 0,.slice none 0 0],48⟩:=by as_aux_lemma=>kernel_rfl
@[simp] theorem tyE43:bT bf 43=some ⟨.sl 82,1,[.slice none 0 0],24⟩:=by as_aux_lemma=>kernel_rfl
@[simp] theorem zi:bT bf 44=some ⟨.sl 94,1,[.slice none 0 0],24⟩:=by as_aux_lemma=>kernel_rfl
@[simp] theorem P7:bT bf 53=some ⟨.sl 30,1,[.slice none 0 0],24⟩:=by as_aux_lemma=>kernel_rfl
@[simp] theorem tyE61:bT bf 61=some ⟨.agg [(0,3),(1,3)],2,[.int .i64 0,.int .i64 0],16⟩:=by as_aux_lemma=>kernel_rfl
@[simp] theorem CD:bT bf 64=some ⟨.sl 68,1,[.slice none 0 0],24⟩:=by as_aux_lemma=>kernel_rfl
@[simp] theorem tyE66:bT bf 66=some ⟨.int .i64,1,[.int .i64 0],8⟩:=by as_aux_lemma=>kernel_rfl
@[simp] theorem CC:bT bf 68=some ⟨.agg [(0,66),(1,9),(2,3),(3,28),(4,23),(5,64)],6,[.int .i64 0,.string ⟨#[]⟩,.int .i64 0,.int .i64 0,.slice none 0 0,.slice none 0 0],88⟩:=by as_aux_lemma=>kernel_rfl
@[simp] theorem tyE70:bT bf 70=some ⟨.agg [(0,9),(1,68)],7,[.string ⟨#[]⟩,.int .i64 0,.string ⟨#[]⟩,.int .i64 0,.int .i64 0,.slice none 0 0,.slice none 0 0],104⟩:=by as_aux_lemma=>kernel_rfl
@[simp] theorem tyE80:bT bf 80=some ⟨.int .u64,1,[.int .u64 0],8⟩:=by as_aux_lemma=>kernel_rfl
@[simp] theorem tyE82:bT bf 82=some ⟨.agg [(0,3),(1,3),(2,27)],5,[.int .i64 0,.int .i64 0,.int .i64 0,.int .i64 0,.int .i64 0],40⟩:=by as_aux_lemma=>kernel_rfl
@[simp] theorem dO:bT bf 86=some ⟨.agg [(0,27),(3,3)],4,[.int .i64 0,.int .i64 0,.int .i64 0,.int .i64 0],32⟩:=by as_aux_lemma=>kernel_rfl
@[simp] theorem lY:bT bf 94=some ⟨.sl 3,1,[.slice none 0 0],24⟩:=by as_aux_lemma=>kernel_rfl
@[simp] theorem tyE99:bT bf 99=some ⟨.func,1,[.nilFunc],8⟩:=by as_aux_lemma=>kernel_rfl
@[simp] theorem tyE100:bT bf 100=some ⟨.func,1,[.nilFunc],8⟩:=by as_aux_lemma=>kernel_rfl
@[simp] theorem tyE115:bT bf 115=some ⟨.func,1,[.nilFunc],8⟩:=by as_aux_lemma=>kernel_rfl
@[simp] theorem tyE116:bT bf 116=some ⟨.ptr 122,1,[.pointer none],8⟩:=by as_aux_lemma=>kernel_rfl
@[simp] theorem tyE118:bT bf 118=some ⟨.map 9 30,1,[.map none],8⟩:=by as_aux_lemma=>kernel_rfl
@[simp] theorem tyE119:bT bf 119=some ⟨.map 9 3,1,[.map none],8⟩:=by as_aux_lemma=>kernel_rfl
@[simp] theorem tyE120:bT bf 120=some ⟨.map 66 200,1,[.map none],8⟩:=by as_aux_lemma=>kernel_rfl
@[simp] theorem tyE122:bT bf 122=some ⟨.agg [(0,42),(2,118),(3,119),(4,53),(5,120)],6,[.slice none 0 0,.slice none 0 0,.map none,.map none,.slice none 0 0,.map none],96⟩:=by as_aux_lemma=>kernel_rfl
@[simp] theorem tyE131:bT bf 131=some ⟨.ptr 195,1,[.pointer none],8⟩:=by as_aux_lemma=>kernel_rfl
@[simp] theorem tyE143:bT bf 143=some ⟨.ptr 214,1,[.pointer none],8⟩:=by as_aux_lemma=>kernel_rfl
@[simp] theorem tyE145:bT bf 145=some ⟨.map 9 9,1,[.map none],8⟩:=by as_aux_lemma=>kernel_rfl
@[simp] theorem tyE148:bT bf 148=some ⟨.func,1,[.nilFunc],8⟩:=by as_aux_lemma=>kernel_rfl
@[simp] theorem tyE153:bT bf 153=some ⟨.func,1,[.nilFunc],8⟩:=by as_aux_lemma=>kernel_rfl
@[simp] theorem tyE156:bT bf 156=some ⟨.map 3 4,1,[.map none],8⟩:=by as_aux_lemma=>kernel_rfl
@[simp] theorem tyE162:bT bf 162=some ⟨.func,1,[.nilFunc],8⟩:=by as_aux_lemma=>kernel_rfl
@[simp] theorem tyE167:bT bf 167=some ⟨.map 3 94,1,[.map none],8⟩:=by as_aux_lemma=>kernel_rfl
@[simp] theorem tyE172:bT bf 172=some ⟨.func,1,[.nilFunc],8⟩:=by as_aux_lemma=>kernel_rfl
@[simp] theorem tyE175:bT bf 175=some ⟨.func,1,[.nilFunc],8⟩:=by as_aux_lemma=>kernel_rfl
@[simp] theorem tyE176:bT bf 176=some ⟨.sl 178,1,[.slice none 0 0],24⟩:=by as_aux_lemma=>kernel_rfl
@[simp] theorem tyE178:bT bf 178=some ⟨.sl 4,1,[.slice none 0 0],24⟩:=by as_aux_lemma=>kernel_rfl
@[simp] theorem tyE179:bT bf 179=some ⟨.map 186 4,1,[.map none],8⟩:=by as_aux_lemma=>kernel_rfl
@[simp] theorem tyE180:bT bf 180=some ⟨.sl 184,1,[.slice none 0 0],24⟩:=by as_aux_lemma=>kernel_rfl
@[simp] theorem tyE182:bT bf 182=some ⟨.int .i64,1,[.int .i64 0],8⟩:=by as_aux_lemma=>kernel_rfl
@[simp] theorem tyE184:bT bf 184=some ⟨.agg [(0,182),(1,3),(2,3),(3,3),(4,27)],7,[.int .i64 0,.int .i64 0,.int .i64 0,.int .i64 0,.int .i64 0,.int .i64 0,.int .i64 0],56⟩:=by as_aux_lemma=>kernel_rfl
@[simp] theorem tyE185:bT bf 185=some ⟨.func,1,[.nilFunc],8⟩:=by as_aux_lemma=>kernel_rfl
@[simp] theorem tyE186:bT bf 186=some ⟨.arr 2 3,2,[.int .i64 0,.int .i64 0],16⟩:=by as_aux_lemma=>kernel_rfl
@[simp] theorem tyE189:bT bf 189=some ⟨.func,1,[.nilFunc],8⟩:=by as_aux_lemma=>kernel_rfl
@[simp] theorem tyE191:bT bf 191=some ⟨.agg [],0,[],0⟩:=by as_aux_lemma=>kernel_rfl
@[simp] theorem tyE195:bT bf 195=some ⟨.agg [(0,42),(2,53),(3,53)],4,[.slice none 0 0,.slice none 0 0,.slice none 0 0,.slice none 0 0],96⟩:=by as_aux_lemma=>kernel_rfl
@[simp] theorem tyE198:bT bf 198=some ⟨.func,1,[.nilFunc],8⟩:=by as_aux_lemma=>kernel_rfl
@[simp] theorem tyE200:bT bf 200=some ⟨.func,1,[.nilFunc],8⟩:=by as_aux_lemma=>kernel_rfl
@[simp] theorem tyE207:bT bf 207=some ⟨.agg [],0,[],0⟩:=by as_aux_lemma=>kernel_rfl
@[simp] theorem tyE209:bT bf 209=some ⟨.map 66 243,1,[.map none],8⟩:=by as_aux_lemma=>kernel_rfl
@[simp] theorem tyE212:bT bf 212=some ⟨.agg [(0,119),(1,119)],2,[.map none,.map none],16⟩:=by as_aux_lemma=>kernel_rfl
@[simp] theorem tyE214:bT bf 214=some ⟨.agg [(0,212),(2,209),(3,3),(4,3)],5,[.map none,.map none,.map none,.int .i64 0,.int .i64 0],40⟩:=by as_aux_lemma=>kernel_rfl
@[simp] theorem tyE218:bT bf 218=some ⟨.func,1,[.nilFunc],8⟩:=by as_aux_lemma=>kernel_rfl
@[simp] theorem tyE223:bT bf 223=some ⟨.func,1,[.nilFunc],8⟩:=by as_aux_lemma=>kernel_rfl
@[simp] theorem tyE225:bT bf 225=some ⟨.agg [(0,3),(1,3),(2,3)],3,[.int .i64 0,.int .i64 0,.int .i64 0],24⟩:=by as_aux_lemma=>kernel_rfl
@[simp] theorem tyE231:bT bf 231=some ⟨.agg [(0,39),(1,39),(2,3)],3,[.slice none 0 0,.slice none 0 0,.int .i64 0],56⟩:=by as_aux_lemma=>kernel_rfl
@[simp] theorem tyE236:bT bf 236=some ⟨.map 27 3,1,[.map none],8⟩:=by as_aux_lemma=>kernel_rfl
@[simp] theorem tyE238:bT bf 238=some ⟨.func,1,[.nilFunc],8⟩:=by as_aux_lemma=>kernel_rfl
@[simp] theorem tyE239:bT bf 239=some ⟨.func,1,[.nilFunc],8⟩:=by as_aux_lemma=>kernel_rfl
@[simp] theorem tyE243:bT bf 243=some ⟨.agg [(0,3),(1,3),(2,4),(3,4),(4,3),(5,3)],6,[.int .i64 0,.int .i64 0,.bool false,.bool false,.int .i64 0,.int .i64 0],40⟩:=by as_aux_lemma=>kernel_rfl
@[simp] theorem tyE246:bT bf 246=some ⟨.sl 5,1,[.slice none 0 0],24⟩:=by as_aux_lemma=>kernel_rfl
@[simp] theorem tyE247:bT bf 247=some ⟨.map 9 4,1,[.map none],8⟩:=by as_aux_lemma=>kernel_rfl
@[simp] theorem tyE252:bT bf 252=some ⟨.int .u64,1,[.int .u64 0],8⟩:=by as_aux_lemma=>kernel_rfl
@[simp] theorem tyE256:bT bf 256=some ⟨.agg [(0,3),(1,3),(2,4),(3,4),(4,3),(5,3)],6,[.int .i64 0,.int .i64 0,.bool false,.bool false,.int .i64 0,.int .i64 0],40⟩:=by as_aux_lemma=>kernel_rfl
@[simp] theorem tyE265:bT bf 265=some ⟨.func,1,[.nilFunc],8⟩:=by as_aux_lemma=>kernel_rfl
@[simp] theorem tyE267:bT bf 267=some ⟨.func,1,[.nilFunc],8⟩:=by as_aux_lemma=>kernel_rfl
@[simp] theorem tyE269:bT bf 269=some ⟨.map 3 29,1,[.map none],8⟩:=by as_aux_lemma=>kernel_rfl
@[simp] theorem tyE274:bT bf 274=some ⟨.int .i64,1,[.int .i64 0],8⟩:=by as_aux_lemma=>kernel_rfl
@[simp] theorem tyE282:bT bf 282=some ⟨.int .u32,1,[.int .u32 0],4⟩:=by as_aux_lemma=>kernel_rfl
@[simp] theorem tyE285:bT bf 285=some ⟨.map 182 288,1,[.map none],8⟩:=by as_aux_lemma=>kernel_rfl
@[simp] theorem tyE288:bT bf 288=some ⟨.func,1,[.nilFunc],8⟩:=by as_aux_lemma=>kernel_rfl
@[simp] theorem tyE291:bT bf 291=some ⟨.agg [(0,3),(1,3)],2,[.int .i64 0,.int .i64 0],16⟩:=by as_aux_lemma=>kernel_rfl
@[simp] theorem tyE299:bT bf 299=some ⟨.func,1,[.nilFunc],8⟩:=by as_aux_lemma=>kernel_rfl
@[simp] theorem tyE300:bT bf 300=some ⟨.func,1,[.nilFunc],8⟩:=by as_aux_lemma=>kernel_rfl
@[simp] theorem tyE302:bT bf 302=some ⟨.int .u64,1,[.int .u64 0],8⟩:=by as_aux_lemma=>kernel_rfl
@[simp] theorem tyE306:bT bf 306=some ⟨.ptr 3,1,[.pointer none],8⟩:=by as_aux_lemma=>kernel_rfl
@[simp] theorem tyE308:bT bf 308=some ⟨.agg [],0,[],0⟩:=by as_aux_lemma=>kernel_rfl
@[simp] theorem tyE312:bT bf 312=some ⟨.func,1,[.nilFunc],8⟩:=by as_aux_lemma=>kernel_rfl
@[simp] theorem tyE313:bT bf 313=some ⟨.ptr 302,1,[.pointer none],8⟩:=by as_aux_lemma=>kernel_rfl
def wR(bJ:Nat->Kd):Cx:=⟨bT bf,λ_=>none,bJ,λ_ _=>none,RD.any⟩
@[simp] theorem cxK_ty {p:Nat->Kd}:(wR p).ty=bT bf:=rfl
@[simp] theorem cxK_eqt {p:Nat->Kd} (t:TypeId):(wR p).bP t=none:=rfl
@[simp] theorem cxK_pub {p:Nat->Kd} (t:Nat):(wR p).bJ t=p t:=rfl
@[simp] theorem cxK_spec {p:Nat->Kd} (f:FuncId) (a:List LV):(wR p).spec f a=none:=rfl
@[simp] theorem cxK_rd {p:Nat->Kd}:(wR p).rd=RD.any:=rfl
theorem ar{p:Nat->Kd}:(wR p).ok prog:=⟨uO,λT ks h=>(by cases h),λT ks h=>(by cases h),λf args pre v h=>(by cases h),(by kernel_rfl)⟩
def aY(im pu ve:List Nat):Nat->Kd:=λt=>if t∈im then .qg else if t∈pu then .bJ else if t∈ve then .vec else .loc
@[simp] theorem kds_apply {im pu ve:List Nat} {t:Nat}:aY im pu ve t=if t ∈ im then .qg else if t ∈ pu then .bJ else if t ∈ ve then .vec else .loc:=rfl
def cx0:Cx:=⟨bT bf,λ_=>none,λ_=>.loc,λ_ _=>none,RD.any⟩
@[simp] theorem cx0_ty:cx0.ty=bT bf:=rfl
@[simp] theorem cx0_eqt (t:TypeId):cx0.bP t=none:=rfl
@[simp] theorem cx0_pub (t:Nat):cx0.bJ t=.loc:=rfl
@[simp] theorem cx0_spec (f:FuncId) (a:List LV):cx0.spec f a=none:=rfl
@[simp] theorem cx0_rd:cx0.rd=RD.any:=rfl
theorem aP:cx0.ok prog:=ar
theorem wrap64{n:Int}(h1:-9223372036854775808<=n)(h2:n<9223372036854775808):IntKind.wrap .i64 n=n:=by
 simp[IntKind.wrap,IntKind.bits,IntKind.signed];omega
theorem aB{i n:Nat}(h:i<n)(hn:n<=9223372036854775807):IntKind.wrap .i64 ((i:Int)+1)=(i:Int)+1:=by rw[wrap64]<;>omega
def idx(l:List ca)(s:ca):Int:=match l.findIdx? (λx=>decide (x=s))with|some i=>i|none=>-1
theorem idx_at{l:List ca}{s:ca}{i:Nat}(h:i<l.length)(e:l[i]=s)(hlt:∀(j:Nat) (h:j<l.length),j<i->l[j]≠s):idx l s=i:=by
 unfold idx;have:l.findIdx? (λx=>decide (x=s))=some i:=by
  rw[List.findIdx?_eq_some_iff_getElem];exact⟨h,by simpa using e,λj hj=>by simpa using hlt j (by omega) hj⟩
 rw[this]
theorem Rk{l:List ca}{s:ca}(hlt:∀(j:Nat) (h:j<l.length),l[j]≠s):idx l s= -1:=by
 unfold idx;have:l.findIdx? (λx=>decide (x=s))=none:=by
  rw[List.findIdx?_eq_none_iff];intro x hx;obtain⟨j,hj,rfl⟩:=List.mem_iff_getElem.1 hx;simpa using hlt j hj
 rw[this]
theorem kj(l:List ca)(s:ca):aC prog 49 [sl (l.map rS),.d (dS s)] (oD .i64 (idx l s)):=by
 refine aC.body aP func49 rfl call49 (by rw[ntmps49];simp) rfl λhf H=>?_
 simp[ntmps49,results49]at hf|-;refine AW.aU aP (λi:Nat=>⟨[(0,.d (.sl (l.map rS))),(1,.d (.k (.string s))),(5,.d (.k (.int .i64 i)))],[],H⟩) (λi=>l.length-i) (λi=>i<=l.length/\∀j (h:j<l.length),j<i->l[j]≠s) 0 (by simp) λi hi=>?_
 simp;refine⟨λh=>?_,λh=>?_⟩
 ·simp[h,rS,aB h hf.1];refine⟨λe=>(idx_at h e hi.2).symm,λe=>NX.go (i+1) (by omega) ⟨h,λj hj hji=>?_⟩ (by simp)⟩
  by_cases q:j=i
  ·subst q;exact e
  ·exact hi.2 j hj (by omega)
 ·exact(Rk λj hj=>hi.2 j hj (by omega)).symm
theorem aR{α:Type}{l:List α}{i:Nat}(h:i<l.length):l.take i++[l[i]]=l.take (i+1):=by
 simp only[List.take_add_one,List.getElem?_eq_getElem h,Option.toList]
theorem yt(op n:Int)(kids:List bc)(hk:kids.length*40<=140737488351232)(ih:∀k∈kids,aC prog 136 [lv (bB k)] (lv (bB k))):aC prog 136 [lv (bB (.mk op n kids))] (lv (bB (.mk op n kids))):=by
 refine aC.body (ar (p:=aY [1] [] [])) func136 rfl call136 (by rw[ntmps136];simp) rfl λhf H=>?_
 simp[ntmps136,results136,aN,bc.op,bc.n,bc.kids];refine AW.aU (ar (p:=aY [1] [] [])) (λa:Nat×LV×GH=>⟨[(1,.ip [.d (.k (.int .i64 op)),.d (.k (.int .i64 n)),.d (.sl (kids.map bB))] 0),(2,.lp 2 0),(3,.lp 3 0),(4,.d (.k (.int .i64 a.1)))],
  [(2,[.d (.k (.int .i64 0)),.d (.k (.int .i64 0)),.d (.k (.slice none 0 0))]),(3,[.d (.k (.int .i64 op)),.d (.k (.int .i64 n)),a.2.1])],a.2.2⟩) (λa=>kids.length-a.1) (λa=>a.1<=kids.length/\B3 25 3 H a.2.1 ((kids.take a.1).map bB) a.2.2) (0,.d (.k (.slice none 0 0)),H) ?_ ?_
 ·exact⟨⟨Nat.zero_le _,.nil⟩,by simp⟩
 ·rintro⟨i,x,H'⟩ ⟨hi,aA⟩;simp only at hi aA;simp;refine⟨λh=>?_,λh=>?_⟩
  ·refine AW.draw (ar (p:=aY [1] [] [])) [(7,.n)] (.q 0<|.q 2<|.q 4<|.q 1<|.f<|.one 3<|.q 5<|.f<|.one 6<|.q 7<|.q 8<|.f<|.one 9<|.q 10<|.f<|.one 11<|.done) (by kernel_rfl) ?_
   simp[h,List.getElem?_eq_getElem h,aN];refine FC.aJ (v:=lv (bB kids[i])) (by simpa[aN]using ih kids[i] (List.getElem_mem h)) ?_
   simp[aN];refine eE.BE bB (kids.take i) [kids[i]] P9 rfl P8 (by simp) sx (x:=x) (by simp) aA (by simp[aN,rowsOf]) (by simp) (by simp;omega) (by simp) λx' H' aG=>?_
   rw[aR h]at aG;simp[aG.plain.all,aG.only,aB (n:=9223372036854775807) (show i<9223372036854775807 by omega)]
   exact NX.go (i+1,x',H') (by simp;omega) ⟨h,aG⟩ (by simp[aG.only])
  ·have e:i=kids.length:=by omega
   subst e;rw[List.take_length]at aA;have hz:=aA.fz;simp[aN,bc.op,bc.n,bc.kids,aA.plain.all,hz.1];exact⟨hz.2.1,hz.2.2⟩
def mD(n lo hi:Int):Bool:=decide (lo<=n)&&decide (n<=hi)
theorem mj(n lo hi:Int):aC prog 89 [.d (.k (.int .i64 n)),.d (.k (.int .i64 lo)),.d (.k (.int .i64 hi))] (.d (.k (.bool (mD n lo hi)))):=by
 refine aC.body aP func89 rfl call89 (by rw[ntmps89];simp) rfl λ_ H=>?_
 simp[ntmps89,results89,mD]
theorem GV(n:Int):aC prog 111 [.d (.k (.int .i64 n))] (.d (.k (.int .i64 (jN (-1000000000) (ic n 1000000000))))):=by
 refine aC.body aP func111 rfl call111 (by rw[ntmps111];simp) rfl λ_ H=>?_
 simp[ntmps111,results111]
def mm(r:Rec):Bool:=mD r.at_ 0 200&&mD r.key (-1000000000) 1000000000&&mD r.val (-1000000000) 1000000000
theorem N9(r:Rec):aC prog 55 [lv (bN r)] (.d (.k (.bool (mm r)))):=by
 refine aC.body aP func55 rfl call55 (by rw[ntmps55];simp) rfl λ_ H=>?_
 simp[ntmps55,results55,bN,uF];refine EC.aJ (mj _ _ _) ?_;cases h1:mD r.at_ 0 200
 ·simp[mm,h1]
 ·simp[h1];refine EC.aJ (mj _ _ _) ?_;cases h2:mD r.key (-1000000000) 1000000000
  ·simp[mm,h1,h2]
  ·simp[h2];refine EC.aJ (mj _ _ _) ?_;simp[mm,h1,h2]
def eR(n:Int):Int:=ic (jN n (-1000000000)) 1000000000
theorem gF(n:Int):aC prog 52 [.d (.k (.int .i64 n))] (.d (.k (.int .i64 (eR n)))):=by
 refine aC.body aP func52 rfl call52 (by rw[ntmps52];simp) rfl λhf H=>?_
 simp[ntmps52,results52,eR]
mutual
def dM:bc->Int->Int->Int
 |.mk op n kids,depth,left=>
  if 10<depth\/ left<1\/ op<1\/ 10<op then-1
  else if(kids.length:Int)≠(if 6<=op then 2 else 0)\/ (op≠1/\n≠0)\/ n≠eR n then-1
  else cW kids depth (left-1)
def cW:List bc->Int->Int->Int
 |[],_,left=>left
 |k::ks,depth,left=>if dM k (depth+1) left<0 then-1 else cW ks depth (dM k (depth+1) left)
end
mutual
theorem Az:∀(c:bc) (depth left:Int),dM c depth left<=left\/ dM c depth left= -1
 |.mk op n kids,depth,left=>by
  have h:=xH kids depth (left-1);rw[dM];generalize (if(6:Int)<=op then(2:Int)else 0)=k2
  split
  ·exact .inr rfl
  ·split
   ·exact .inr rfl
   ·omega
theorem xH:∀(l:List bc) (depth left:Int),cW l depth left<=left\/ cW l depth left= -1
 |[],depth,left=>by rw[cW];exact .inl (Int.le_refl _)
 |k::ks,depth,left=>by
  rw[cW]
  split
  ·exact .inr rfl
  ·rename_i h;have h1:=Az k (depth+1) left;have h2:=xH ks depth (dM k (depth+1) left);omega
end
theorem EX(op n:Int)(kids:List bc)(depth left:Int)(hd:0<=depth)(hl:left<=1000000)
  (ih:∀k∈kids,∀depth left:Int,0<=depth->left<=1000000->aC prog 51 [lv (bB k),.d (.k (.int .i64 depth)),.d (.k (.int .i64 left))] (.d (.k (.int .i64 (dM k depth left))))):
  aC prog 51 [lv (bB (.mk op n kids)),.d (.k (.int .i64 depth)),.d (.k (.int .i64 left))] (.d (.k (.int .i64 (dM (.mk op n kids) depth left)))):=by
 refine aC.body (ar (p:=aY [3] [] [])) func51 rfl call51 (by rw[ntmps51];simp) rfl λhf H=>?_
 simp[ntmps51,results51,aN,bc.op,bc.n,bc.kids]at hf|-;refine⟨λh=>?_,λh1 h2 h3 h4=>?_⟩
 ·rw[dM,if_pos (by omega)]
 ·have hsp:dM (.mk op n kids) depth left=if(kids.length:Int)≠(if 6<=op then 2 else 0)\/ (op≠1/\n≠0)\/ n≠eR n then-1 else cW kids depth (left-1):=by rw[dM,if_neg (by omega)]
  rw[hsp];have hw1:IntKind.wrap .i64 (left-1)=left-1:=by rw[wrap64]<;>omega
  have FX:IntKind.wrap .i64 (depth+1)=depth+1:=by rw[wrap64]<;>omega
  refine⟨λh6=>?_,λh6=>?_⟩
  all_goals
   first|rw[if_pos h6]|rw[if_neg (show¬(6<=op)by omega)]
   refine AW.draw (ar (p:=aY [3] [] [])) [(20,.n)] (.q 0<|.q 3<|.q 1<|.q 2<|.q 4<|.q 5<|.q 6<|.q 7<|.q 8<|.q 9<|.q 10<|.q 11<|.q 12<|.q 13<|.q 14<|.q 15<|.q 16<|.q 18<|.q 17<|.q 19<|.q 20<|.q 21<|.q 22<|.done) (by kernel_rfl) ?_
   simp[bc.op,bc.n,bc.kids];refine⟨by simp+contextual,sV.aJ (λ_=>gF n) ?_⟩
   simp[hw1];refine⟨by grind,by grind,λe1 e2 e3=>?_⟩
   rw[if_neg (by grind)]
   refine AW.aU (ar (p:=aY [3] [] [])) (λa:Nat×Int=>⟨[(1,.d (.k (.int .i64 depth))),(2,.d (.k (.int .i64 a.2))),(55,.d (.sl (kids.map bB))),(56,.d (.k (.int .i64 kids.length))),(57,.d (.k (.int .i64 a.1)))],[],H⟩)
    (λa=>kids.length-a.1) (λa=>a.1<=kids.length/\a.2<=1000000/\cW kids depth (left-1)=cW (kids.drop a.1) depth a.2) (0,left-1) ⟨⟨by simp,by simp;omega,by simp⟩,by simp⟩ ?_
   rintro⟨i,left'⟩ ⟨hi,hle,hI⟩;simp only at hi hle hI;simp;refine⟨λh=>?_,λh=>?_⟩
   ·simp[h,List.getElem?_eq_getElem h,aN,FX];refine EC.aJ (by simpa[aN]using ih kids[i] (List.getElem_mem h) (depth+1) left' (by omega) hle) ?_
    have hd:=List.drop_eq_getElem_cons h;simp[aB h hf.1];rw[hI,hd,cW];refine⟨λq=>by rw[if_pos q],λq=>NX.go (i+1,dM kids[i] (depth+1) left') (by simp;omega) ⟨h,?_,?_⟩ (by simp)⟩
    ·have:=Az kids[i] (depth+1) left';simp;omega
    ·rw[if_neg (by omega)]
   ·have:kids.drop i=[]:=List.drop_eq_nil_of_le h;rw[hI,this,cW]
theorem xF:∀(c:bc) (depth left:Int),0<=depth->left<=1000000->aC prog 51 [lv (bB c),.d (.k (.int .i64 depth)),.d (.k (.int .i64 left))] (.d (.k (.int .i64 (dM c depth left))))
 |.mk op n kids,depth,left,hd,hl=>EX op n kids depth left hd hl λk hk depth left hd hl=>xF k depth left hd hl
def aH(n:Int):LV:=.d (.k (.int .i64 n))
@[simp] theorem AA (n:Int):aH n=.d (.k (.int .i64 n)):=rfl
def sZ(b:Bool):Int:=if b then 1 else 0
theorem Ar(b:Bool):aC prog 109 [.d (.k (.bool b))] (aH (sZ b)):=by
 refine aC.body aP func109 rfl call109 (by rw[ntmps109];simp) rfl λhf H=>?_
 cases b<;>simp[ntmps109,results109,sZ]
theorem HV(r:Rec)(o op n:Int)(k:DV):aC prog 103 [lv (bN r),aH o,.ip [.d (dI op),.d (dI n),.d k] 0] (aH n):=by
 refine aC.body (ar (p:=aY [3] [] [])) func103 rfl call103 (by rw[ntmps103];simp) rfl λhf H=>?_
 simp[ntmps103,results103,bN]
theorem HU(r:Rec)(o:Int):aC prog 104 [lv (bN r),aH o] (aH r.at_):=by
 refine aC.body (ar (p:=aY [2] [] [])) func104 rfl call104 (by rw[ntmps104];simp) rfl λhf H=>?_
 simp[ntmps104,results104,bN]
theorem HT(r:Rec)(o:Int):aC prog 105 [lv (bN r),aH o] (aH r.key):=by
 refine aC.body (ar (p:=aY [2] [] [])) func105 rfl call105 (by rw[ntmps105];simp) rfl λhf H=>?_
 simp[ntmps105,results105,bN]
theorem HS(r:Rec)(o:Int):aC prog 106 [lv (bN r),aH o] (aH r.val):=by
 refine aC.body (ar (p:=aY [2] [] [])) func106 rfl call106 (by rw[ntmps106];simp) rfl λhf H=>?_
 simp[ntmps106,results106,bN]
theorem HR(r:Rec)(o:Int):aC prog 107 [lv (bN r),aH o] (aH o):=by
 refine aC.body (ar (p:=aY [2] [] [])) func107 rfl call107 (by rw[ntmps107];simp) rfl λhf H=>?_
 simp[ntmps107,results107,bN]
def Hs(op a b:Int):Int:=if op=6 then eR (a+b)else if op=7 then eR (a-b)else if op=8 then eR (a*b)else if op=9 then sZ (decide (a<b))else sZ (a==b)
theorem C6{a b:Int}(h1:-1000000000<=a/\a<=1000000000)(h2:-1000000000<=b/\b<=1000000000):-1000000000000000000<=a*b/\a*b<=1000000000000000000:=by
 have h3:(a*b).natAbs<=1000000000*1000000000:=by
  rw[Int.natAbs_mul];exact Nat.mul_le_mul (by omega) (by omega)
 omega
theorem HQ(r:Rec)(o op n a b:Int)(k:DV)(f1 f2:FuncId)(c1 c2:List LV)(ha:-1000000000<=a/\a<=1000000000)(hb:-1000000000<=b/\b<=1000000000)
  (h1:aC prog f1 ([lv (bN r),aH o]++c1) (aH a)) (h2:aC prog f2 ([lv (bN r),aH o]++c2) (aH b)) (hc1:∀n,ct n c1) (hc2:∀n,ct n c2):
  aC prog 108 [lv (bN r),aH o,.ip [.fn (.func f1) [] c1] 0,.ip [.fn (.func f2) [] c2] 0,.ip [.d (dI op),.d (dI n),.d k] 0] (aH (Hs op a b)):=by
 refine aC.body (ar (p:=aY [5] [] [])) func108 rfl call108 (by rw[ntmps108];simp) rfl λhf H=>?_
 have hm:=C6 ha hb;have w1:IntKind.wrap .i64 (a+b)=a+b:=by rw[wrap64]<;>omega
 have w2:IntKind.wrap .i64 (a-b)=a-b:=by rw[wrap64]<;>omega
 have w3:IntKind.wrap .i64 (a*b)=a*b:=by rw[wrap64]<;>omega
 simp[ntmps108,results108,bN]at h1 h2|-;refine AW.draw (ar (p:=aY [5] [] [])) [(3,.n),(7,.n)] (.q 2<|.q 6<|.q 0<|.q 1<|.q 3<|.q 4<|.q 5<|.q 7<|.q 8<|.q 9<|.done) (by kernel_rfl) ?_
 simp;refine⟨hc1 _,FC.aJ h1 ?_⟩;simp;refine⟨hc2 _,FC.aJ h2 ?_⟩;simp[w1,w2,w3];refine⟨λe=>?_,λe6=>⟨λe=>?_,λe7=>⟨λe=>?_,λe8=>⟨λe=>?_,λe9=>?_⟩⟩⟩⟩
 ·refine EC.aJ (gF _) ?_;simp[Hs,e]
 ·refine EC.aJ (gF _) ?_;simp[Hs,e]
 ·refine EC.aJ (gF _) ?_;simp[Hs,e]
 ·refine EC.aJ (Ar _) ?_;simp[Hs,e]
 ·refine EC.aJ (Ar _) ?_;simp[Hs,e6,e7,e8,e9]
inductive uK:bc->Prop
 |leaf (op n:Int) (kids:List bc) (h:1<=op/\op<=5) (hn:-1000000000<=n/\n<=1000000000):uK (.mk op n kids)
 |node (op n:Int) (a b:bc) (h:6<=op) (ha:uK a) (hb:uK b):uK (.mk op n [a,b])
mutual
def gy:bc->FuncId×List LV
 |.mk op n kids=>
  let me:LV:=.ip [.d (dI op),.d (dI n),.d (.sl (pz kids))] 0
  if op=1 then(103,[me])else if op=2 then(104,[])else if op=3 then(105,[])else if op=4 then(106,[])else if op=5 then(107,[])
  else(108,zh kids++[me])
def zh:List bc->List LV
 |[]=>[]
 |c::cs=>.ip [.fn (.func (gy c).1) [] (gy c).2] 0::zh cs
end
mutual
def ek(r:Rec)(o:Int):bc->Int
 |.mk op n kids=>if op=1 then n else if op=2 then r.at_ else if op=3 then r.key else if op=4 then r.val else if op=5 then o else Hs op ((No r o kids).getD 0 0) ((No r o kids).getD 1 0)
def No(r:Rec)(o:Int):List bc->List Int
 |[]=>[]
 |c::cs=>ek r o c::No r o cs
end
def cq(n:Int):Prop:=-1000000000<=n/\n<=1000000000
def xq(r:Rec):Prop:=cq r.at_/\cq r.key/\cq r.val
theorem lT(n:Int):cq (eR n):=by
 unfold cq eR ic jN;split<;>split<;>omega
theorem Qa(b:Bool):cq (sZ b):=by cases b<;>simp[sZ,cq]
theorem opM_in(op a b:Int):cq (Hs op a b):=by
 unfold Hs
 split
 ·exact lT _
 ·split
  ·exact lT _
  ·split
   ·exact lT _
   ·split<;>exact Qa _
theorem nD{r:Rec}{o:Int}(hr:xq r)(ho:cq o){c:bc}(h:uK c):cq (ek r o c):=by
 cases h with
 |leaf op n kids h hn=>
  rw[ek];by_cases e1:op=1
  ·rw[if_pos e1];exact hn
  rw[if_neg e1];by_cases e2:op=2
  ·rw[if_pos e2];exact hr.1
  rw[if_neg e2];by_cases e3:op=3
  ·rw[if_pos e3];exact hr.2.1
  rw[if_neg e3];by_cases e4:op=4
  ·rw[if_pos e4];exact hr.2.2
  rw[if_neg e4,if_pos (by omega)]
  exact ho
 |node op n a b h ha hb=>
  rw[ek,if_neg (by omega),if_neg (by omega),if_neg (by omega),if_neg (by omega),if_neg (by omega)]
  exact opM_in _ _ _
theorem dN{c:bc}(h:uK c):∀m,ct m (gy c).2:=by
 induction h with
 |leaf op n kids h hn=>
  intro m;rw[gy]
  split
  ·simp[ct,LV.nb]
  ·split
   ·simp[ct]
   ·split
    ·simp[ct]
    ·split
     ·simp[ct]
     ·rw[if_pos (by omega)];simp[ct]
 |node op n a b h ha hb iha ihb=>
  intro m;rw[gy];rw[if_neg (by omega),if_neg (by omega),if_neg (by omega),if_neg (by omega),if_neg (by omega)]
  simp[zh,ct,LV.nb,iha m,ihb m]
theorem o6{c:bc}(h:uK c):gC (gy c).2=true:=by
 induction h with
 |leaf op n kids h hn=>
  rw[gy]
  split
  ·simp[gC,LV.pF]
  ·split
   ·simp[gC]
   ·split
    ·simp[gC]
    ·split
     ·simp[gC]
     ·rw[if_pos (by omega)];simp[gC]
 |node op n a b h ha hb iha ihb=>
  rw[gy];rw[if_neg (by omega),if_neg (by omega),if_neg (by omega),if_neg (by omega),if_neg (by omega)]
  simp[zh,gC,LV.pF,iha,ihb]
theorem lK{r:Rec}{o:Int}(hr:xq r)(ho:cq o){c:bc}(h:uK c):aC prog (gy c).1 ([lv (bN r),aH o]++(gy c).2) (aH (ek r o c)):=by
 induction h with
 |leaf op n kids h hn=>
  rw[gy,ek];by_cases e1:op=1
  ·rw[if_pos e1,if_pos e1];exact HV r o op n _
  rw[if_neg e1,if_neg e1];by_cases e2:op=2
  ·rw[if_pos e2,if_pos e2];exact HU r o
  rw[if_neg e2,if_neg e2];by_cases e3:op=3
  ·rw[if_pos e3,if_pos e3];exact HT r o
  rw[if_neg e3,if_neg e3];by_cases e4:op=4
  ·rw[if_pos e4,if_pos e4];exact HS r o
  rw[if_neg e4,if_neg e4,if_pos (by omega),if_pos (by omega)]
  exact HR r o
 |node op n a b h ha hb iha ihb=>
  rw[gy,ek];rw[if_neg (by omega),if_neg (by omega),if_neg (by omega),if_neg (by omega),if_neg (by omega),if_neg (by omega),if_neg (by omega),if_neg (by omega),if_neg (by omega),if_neg (by omega)]
  exact HQ r o op n _ _ _ _ _ _ _ (nD hr ho ha) (nD hr ho hb) iha ihb (dN ha) (dN hb)
def nI(c:bc):LV:=.fn (.func (gy c).1) [] (gy c).2
theorem P0{c:bc}(h:uK c)(m:Nat):(nI c).nb m:=by
 simp[nI,LV.nb,ct,dN h m]
theorem gQ{c:bc}(h:uK c):aC prog 53 [lv (bB c)] (nI c):=by
 induction h with
 |leaf op n kids h hn=>
  refine aC.body (ar (p:=aY [1,3,4] [] [])) func53 rfl call53 (by rw[ntmps53];simp) rfl λhf H=>?_
  have hnb:=P0 (uK.leaf op n kids h hn) H.next;simp[ntmps53,results53,aN,bc.op,bc.n,bc.kids,hnb];refine⟨λe=>by simp[nI,gy,e,jM],λe1=>⟨λe=>by simp[nI,gy,e],λe2=>⟨λe=>by simp[nI,gy,e],λe3=>⟨λe=>by simp[nI,gy,e],λe4=>⟨λe=>by simp[nI,gy,e],λe5=>by omega⟩⟩⟩⟩⟩
 |node op n a b h ha hb iha ihb=>
  refine aC.body (ar (p:=aY [1,3,4] [] [])) func53 rfl call53 (by rw[ntmps53];simp) rfl λhf H=>?_
  have hnb:=P0 (uK.node op n a b h ha hb) H.next;have n1:op≠1:=by omega
  have n2:op≠2:=by omega
  have n3:op≠3:=by omega
  have n4:op≠4:=by omega
  have n5:op≠5:=by omega
  simp[ntmps53,results53,aN,n1,n2,n3,n4,n5];rw[aN]at iha ihb;refine AW.draw (ar (p:=aY [1,3,4] [] [])) [(1,.n),(3,.n),(4,.n),(6,.n),(8,.n),(9,.n)] (.q 0<|.q 1<|.q 2<|.q 3<|.q 4<|.q 5<|.q 6<|.q 7<|.q 8<|.q 9<|.f (.cons 10 (.f<|.one 11<|.f<|.one 12<|.f<|.one 13<|.done) (.cons 11 (.f<|.one 10<|.f<|.one 12<|.f<|.one 13<|.done) (.nil)))) (by kernel_rfl) ?_
  simp[aN];refine FC.aJ (by simpa using iha) ?_
  simp[aN];refine FC.aJ (by simpa using ihb) ?_
  simp[aN,nI,o6 ha,o6 hb,gz _ (o6 ha),gz _ (o6 hb)];have hv:gy (.mk op n [a,b])=(108,[.ip [nI a] 0,.ip [nI b] 0,.ip [.d (dI op),.d (dI n),.d (.sl [bB a,bB b])] 0]):=by
   rw[gy,if_neg n1,if_neg n2,if_neg n3,if_neg n4,if_neg n5];simp[zh,nI,pz]
  refine⟨?_,dN (uK.node op n a b h ha hb) _⟩;rw[hv];simp[nI,aN]
theorem sM{n:Int}(h:n=eR n):cq n:=h▸lT n
mutual
theorem Ay:∀(c:bc) (depth left:Int),0<=dM c depth left->uK c
 |.mk op n kids,depth,left,h=>by
  have ih:=xG kids depth (left-1);rw[dM]at h
  split at h
  ·omega
  ·rename_i h1;by_cases h6:6<=op
   ·rw[if_pos h6]at h
    split at h
    ·omega
    ·rename_i h2;have hl:kids.length=2:=by omega
     match kids,hl with
     |[a,b],_=>exact .node op n a b h6 (ih h a (by simp)) (ih h b (by simp))
   ·rw[if_neg h6]at h
    split at h
    ·omega
    ·rename_i h2;exact .leaf op n kids (by omega) (sM (by omega))
theorem xG:∀(l:List bc) (depth left:Int),0<=cW l depth left->∀c∈l,uK c
 |[],_,_,_,c,hc=>by cases hc
 |k::ks,depth,left,h,c,hc=>by
  rw[cW]at h
  split at h
  ·omega
  ·rcases List.mem_cons.1 hc with e|hc
   ·rw[e];exact Ay k (depth+1) left (by omega)
   ·exact xG ks _ _ h c hc
end
def Ia(c:bc)(r:Rec)(o:Int):Prop:=0<=dM c 1 60/\0<=r.at_/\r.at_<=200/\r.key=eR r.key/\r.val=eR r.val/\o=eR o
instance (c:bc) (r:Rec) (o:Int):Decidable (Ia c r o):=by unfold Ia;infer_instance
theorem Ot(c:bc)(r:Rec)(o:Int):aC prog 13 [lv (bB c),lv (bN r),aH o] (if Ia c r o then .dx [aH (ek r o c),aH 0]else .dx [aH 0,aH 2]):=by
 refine aC.body (ar (p:=aY [3,4] [] [])) func13 rfl call13 (by rw[ntmps13];simp) rfl λhf H=>?_
 simp[ntmps13,results13,bN,aN];refine AW.draw (ar (p:=aY [3,4] [] [])) [(1,.n),(18,.n),(26,.n),(32,.n)] (.q 0<|.q 1<|.q 2<|.q 3<|.q 4<|.q 5<|.q 6<|.q 7<|.q 8<|.q 9<|.q 10<|.q 11<|.q 12<|.q 13<|.q 14<|.q 16<|.q 15<|.q 17<|.q 18<|.q 19<|.q 20<|.q 21<|.q 22<|.q 24<|.q 23<|.q 25<|.q 26<|.q 27<|.q 28<|.q 29<|.q 30<|.q 31<|.q 32<|.q 33<|.q 34<|.done) (by kernel_rfl) ?_
 simp;refine FC.aJ (by simpa[aN]using xF c 1 60 (by omega) (by omega)) ?_
 simp;refine sV.aJ (λ_=>gF _) ?_
 simp;refine sV.aJ (λ_=>gF _) ?_
 simp;refine sV.aJ (λ_=>gF _) ?_
 simp;refine⟨λh=>?_,λh1 h2 h3 h4 h5 h6=>?_⟩
 ·have hn:¬Ia c r o:=by unfold Ia;omega
  rw[if_neg hn];simp[hn]
 ·have ha:Ia c r o:=⟨h1,h2,h3,h4,h5,h6⟩;rw[if_pos ha];have hok:=Ay c 1 60 h1;have hr:xq r:=⟨⟨by omega,by omega⟩,sM h4,sM h5⟩
  have hv:=lK hr (sM h6) hok;have hm:=gQ hok;simp[aN,bN]at hv hm;refine AW.draw (ar (p:=aY [3,4] [] [])) [(1,.n),(4,.n)] (.q 3<|.q 0<|.q 1<|.q 2<|.q 4<|.q 5<|.q 6<|.done) (by kernel_rfl) ?_
  simp;refine FC.aJ hm ?_;simp[nI,dN hok];refine FC.aJ hv ?_;simp
theorem Ma(n:Int):jN (-1000000000) (ic n 1000000000)=eR n:=by
 unfold eR jN ic;split<;>split<;>(try split)<;>(try split)<;>omega
theorem lC(n:Int):aC prog 111 [aH n] (aH (eR n)):=by
 have:=GV n;rw[Ma]at this;exact this
theorem iW{r:Rec}{o:Int}(hr:xq r)(ho:cq o){c:bc}(h:uK c):aC prog 56 [lv (bB c),lv (bN r),aH o] (aH (ek r o c)):=by
 induction h with
 |leaf op n kids h hn=>
  refine aC.body (ar (p:=aY [3,4] [] [])) func56 rfl call56 (by rw[ntmps56];simp) rfl λhf H=>?_
  simp[ntmps56,results56,aN,bN];refine⟨λe=>by simp[ek,e],λe1=>⟨λe=>by simp[ek,e],λe2=>⟨λe=>by simp[ek,e],λe3=>⟨λe=>by simp[ek,e],λe4=>⟨λe=>by simp[ek,e],λe5=>by omega⟩⟩⟩⟩⟩
 |node op n a b h ha hb iha ihb=>
  refine aC.body (ar (p:=aY [3,4] [] [])) func56 rfl call56 (by rw[ntmps56];simp) rfl λhf H=>?_
  have n1:op≠1:=by omega
  have n2:op≠2:=by omega
  have n3:op≠3:=by omega
  have n4:op≠4:=by omega
  have n5:op≠5:=by omega
  have va:=nD hr ho ha;have vb:=nD hr ho hb;have hv:ek r o (.mk op n [a,b])=Hs op (ek r o a) (ek r o b):=by
   rw[ek,if_neg n1,if_neg n2,if_neg n3,if_neg n4,if_neg n5];simp[No]
  rw[hv];generalize ek r o a=x at iha va hv|-;generalize ek r o b=y at ihb vb hv|-;have hm:=C6 va vb;unfold cq at va vb;have w1:IntKind.wrap .i64 (x+y)=x+y:=by rw[wrap64]<;>omega
  have w2:IntKind.wrap .i64 (x-y)=x-y:=by rw[wrap64]<;>omega
  have w3:IntKind.wrap .i64 (x*y)=x*y:=by rw[wrap64]<;>omega
  simp[aN,bN]at iha ihb;simp[ntmps56,results56,aN,bN,n1,n2,n3,n4,n5];refine AW.draw (ar (p:=aY [3,4] [] [])) [(6,.n),(13,.n)] (.q 0<|.q 5<|.q 7<|.q 12<|.q 1<|.q 2<|.q 3<|.q 4<|.q 6<|.q 8<|.q 9<|.q 10<|.q 11<|.q 13<|.q 14<|.q 15<|.done) (by kernel_rfl) ?_
  simp[aN];refine FC.aJ iha ?_;simp[aN];refine FC.aJ ihb ?_;simp[w1,w2,w3];refine⟨λe=>?_,λe6=>⟨λe=>?_,λe7=>⟨λe=>?_,λe8=>⟨λe=>?_,λe9=>?_⟩⟩⟩⟩
  ·refine EC.aJ (lC _) ?_;simp[Hs,e]
  ·refine EC.aJ (lC _) ?_;simp[Hs,e]
  ·refine EC.aJ (lC _) ?_;simp[Hs,e]
  ·exact⟨λq=>by simp[Hs,e,sZ,q],λq=>by simp[Hs,e,sZ,show¬x<y by omega]⟩
  ·exact⟨λq=>by simp[Hs,e6,e7,e8,e9,sZ,q],λq=>by simp[Hs,e6,e7,e8,e9,sZ,q]⟩
structure Shape where
 src:Int
 n:Int
 fold:Int
 terms:List bc
def rShape(s:Shape):List DV:=[dI s.src,dI s.n,dI s.fold,.sl (s.terms.map bB)]
@[simp] theorem rShape_len (s:Shape):(rShape s).length=4:=rfl
def AO{α:Type}(p:α->Bool)(l:List α):Int:=match l.findIdx? p with|some i=>i|none=>-1
theorem yN{α:Type}{p:α->Bool}{l:List α}{i:Nat}(h:i<l.length)(e:p l[i]=true)(hlt:∀(j:Nat) (h:j<l.length),j<i->p l[j]=false):AO p l=i:=by
 unfold AO;have:l.findIdx? p=some i:=by
  rw[List.findIdx?_eq_some_iff_getElem];exact⟨h,e,λj hj=>by simpa using hlt j (by omega) hj⟩
 rw[this]
theorem sF{α:Type}{p:α->Bool}{l:List α}(hlt:∀(j:Nat) (h:j<l.length),p l[j]=false):AO p l= -1:=by
 unfold AO;have:l.findIdx? p=none:=by
  rw[List.findIdx?_eq_none_iff];intro x hx;obtain⟨j,hj,rfl⟩:=List.mem_iff_getElem.1 hx;exact hlt j hj
 rw[this]
theorem vl{α:Type}(p:α->Bool)(l:List α):decide (0<=AO p l)=l.any p:=by
 unfold AO;cases h:l.findIdx? p with
 |none=>
  rw[List.findIdx?_eq_none_iff]at h;simp only[Int.reduceNeg,Int.reduceLE,decide_false]
  symm;rw[List.any_eq_false];intro x hx;rw[h x hx];simp
 |some i=>
  rw[List.findIdx?_eq_some_iff_getElem]at h;obtain⟨h1,h2,_⟩:=h;have:l.any p=true:=List.any_eq_true.2 ⟨_,List.getElem_mem h1,h2⟩;rw[this];simp
mutual
def CK:bw->List bc×bw
 |.mk op name n fold aD kids=>if op=5 then(aD.headD default::(mb kids).1,(mb kids).2)else([],.mk op name n fold aD kids)
def mb:List bw->List bc×bw
 |[]=>([],default)
 |e::_=>CK e
end
inductive WOk:Nat->bw->Prop
 |other (d:Nat) (e:bw) (h:e.op≠5):WOk d e
 |where_ (d:Nat) (name:ca) (n fold:Int) (c:bc) (cs:List bc) (k:bw) (ks:List bw) (h:WOk d k):WOk (d+1) (.mk 5 name n fold (c::cs) (k::ks))
def Qi:Shape:=⟨0,0,0,[]⟩
def MA(p:Prog)(e:bw):Shape×Bool:=
 if e.op≠8 then(Qi,false)
 else if(mb e.kids).2.op≠1 then(Qi,false)
 else(⟨idx p.az (mb e.kids).2.name,e.n,e.fold,(mb e.kids).1⟩,true)
end Go.Aft
end
