import Derived.Test.YthinedikejlgmaaGreatA13
import Derived.Test.YthinedikejlgmaaGreatProg
import Derived.Test.YthinedikejlgmaaGreatA20
set_option linter.all false
section
set_option maxRecDepth 20000
namespace Go.Aft
open Go.Proofs.Tryz
def ty1:TyD:=⟨.func,1,[.nilFunc],8⟩
theorem tyok1:ty1.ok prog 1:=TyD.a0x type1 underlying1 (by kernel_rfl)
def ty2:TyD:=⟨.int .i64,1,[.int .i64 0],8⟩
theorem tyok2:ty2.ok prog 2:=TyD.a0x type2 underlying2 (by kernel_rfl)
def ty3:TyD:=⟨.int .i64,1,[.int .i64 0],8⟩
theorem tyok3:ty3.ok prog 3:=TyD.a0x type3 underlying3 (by kernel_rfl)
def ty4:TyD:=⟨.bool,1,[.bool false],1⟩
theorem tyok4:ty4.ok prog 4:=TyD.a0x type4 underlying4 (by kernel_rfl)
def ty5:TyD:=⟨.int .u8,1,[.int .u8 0],1⟩
theorem tyok5:ty5.ok prog 5:=TyD.a0x type5 underlying5 (by kernel_rfl)
def ty9:TyD:=⟨.str,1,[.string ⟨#[]⟩],16⟩
theorem tyok9:ty9.ok prog 9:=TyD.a0x type9 underlying9 (by kernel_rfl)
def ty20:TyD:=⟨.iface true,1,[.nilIface],16⟩
theorem tyok20:ty20.ok prog 20:=TyD.a0x type20 underlying20 (by kernel_rfl)
def ty22:TyD:=⟨.int .i64,1,[.int .i64 0],8⟩
theorem tyok22:ty22.ok prog 22:=TyD.a0x type22 underlying22 (by kernel_rfl)
def ty23:TyD:=⟨.sl 25,1,[.slice none 0 0],24⟩
theorem tyok23:ty23.ok prog 23:=TyD.a0x type23 underlying23 (by kernel_rfl)
def ty25:TyD:=⟨.agg [(0,22),(1,3),(2,23)],3,[.int .i64 0,.int .i64 0,.slice none 0 0],40⟩
theorem tyok25:ty25.ok prog 25:=TyD.a0x type25 underlying25 (by kernel_rfl)
def ty27:TyD:=⟨.agg [(0,3),(1,3),(2,3)],3,[.int .i64 0,.int .i64 0,.int .i64 0],24⟩
theorem tyok27:ty27.ok prog 27:=TyD.a0x type27 underlying27 (by kernel_rfl)
def ty28:TyD:=⟨.int .i64,1,[.int .i64 0],8⟩
theorem tyok28:ty28.ok prog 28:=TyD.a0x type28 underlying28 (by kernel_rfl)
def ty29:TyD:=⟨.sl 86,1,[.slice none 0 0],24⟩
theorem tyok29:ty29.ok prog 29:=TyD.a0x type29 underlying29 (by kernel_rfl)
def ty30:TyD:=⟨.sl 86,1,[.slice none 0 0],24⟩
theorem tyok30:ty30.ok prog 30:=TyD.a0x type30 underlying30 (by kernel_rfl)
def ty32:TyD:=⟨.agg [(0,3),(1,28),(2,30)],3,[.int .i64 0,.int .i64 0,.slice none 0 0],40⟩
theorem tyok32:ty32.ok prog 32:=TyD.a0x type32 underlying32 (by kernel_rfl)
def ty33:TyD:=⟨.int .i64,1,[.int .i64 0],8⟩
theorem tyok33:ty33.ok prog 33:=TyD.a0x type33 underlying33 (by kernel_rfl)
def ty39:TyD:=⟨.sl 9,1,[.slice none 0 0],24⟩
theorem tyok39:ty39.ok prog 39:=TyD.a0x type39 underlying39 (by kernel_rfl)
def ty40:TyD:=⟨.sl 70,1,[.slice none 0 0],24⟩
theorem tyok40:ty40.ok prog 40:=TyD.a0x type40 underlying40 (by kernel_rfl)
def ty42:TyD:=⟨.agg [(0,39),(1,40)],2,[.slice none 0 0,.slice none 0 0],48⟩
theorem tyok42:ty42.ok prog 42:=TyD.a0x type42 underlying42 (by kernel_rfl)
def ty43:TyD:=⟨.sl 82,1,[.slice none 0 0],24⟩
theorem tyok43:ty43.ok prog 43:=TyD.a0x type43 underlying43 (by kernel_rfl)
def ty44:TyD:=⟨.sl 94,1,[.slice none 0 0],24⟩
theorem tyok44:ty44.ok prog 44:=TyD.a0x type44 underlying44 (by kernel_rfl)
def ty53:TyD:=⟨.sl 30,1,[.slice none 0 0],24⟩
theorem tyok53:ty53.ok prog 53:=TyD.a0x type53 underlying53 (by kernel_rfl)
def ty61:TyD:=⟨.agg [(0,3),(1,3)],2,[.int .i64 0,.int .i64 0],16⟩
theorem tyok61:ty61.ok prog 61:=TyD.a0x type61 underlying61 (by kernel_rfl)
def ty64:TyD:=⟨.sl 68,1,[.slice none 0 0],24⟩
theorem tyok64:ty64.ok prog 64:=TyD.a0x type64 underlying64 (by kernel_rfl)
def ty66:TyD:=⟨.int .i64,1,[.int .i64 0],8⟩
theorem tyok66:ty66.ok prog 66:=TyD.a0x type66 underlying66 (by kernel_rfl)
def ty68:TyD:=⟨.agg [(0,66),(1,9),(2,3),(3,28),(4,23),(5,64)],6,[.int .i64 0,.string ⟨#[]⟩,.int .i64 0,.int .i64 0,.slice none 0 0,.slice none 0 0],88⟩
theorem tyok68:ty68.ok prog 68:=TyD.a0x type68 underlying68 (by kernel_rfl)
def ty70:TyD:=⟨.agg [(0,9),(1,68)],7,[.string ⟨#[]⟩,.int .i64 0,.string ⟨#[]⟩,.int .i64 0,.int .i64 0,.slice none 0 0,.slice none 0 0],104⟩
theorem tyok70:ty70.ok prog 70:=TyD.a0x type70 underlying70 (by kernel_rfl)
def ty80:TyD:=⟨.int .u64,1,[.int .u64 0],8⟩
theorem tyok80:ty80.ok prog 80:=TyD.a0x type80 underlying80 (by kernel_rfl)
def ty82:TyD:=⟨.agg [(0,3),(1,3),(2,27)],5,[.int .i64 0,.int .i64 0,.int .i64 0,.int .i64 0,.int .i64 0],40⟩
theorem tyok82:ty82.ok prog 82:=TyD.a0x type82 underlying82 (by kernel_rfl)
def ty86:TyD:=⟨.agg [(0,27),(3,3)],4,[.int .i64 0,.int .i64 0,.int .i64 0,.int .i64 0],32⟩
theorem tyok86:ty86.ok prog 86:=TyD.a0x type86 underlying86 (by kernel_rfl)
def ty94:TyD:=⟨.sl 3,1,[.slice none 0 0],24⟩
theorem tyok94:ty94.ok prog 94:=TyD.a0x type94 underlying94 (by kernel_rfl)
def ty99:TyD:=⟨.func,1,[.nilFunc],8⟩
theorem tyok99:ty99.ok prog 99:=TyD.a0x type99 underlying99 (by kernel_rfl)
def ty100:TyD:=⟨.func,1,[.nilFunc],8⟩
theorem tyok100:ty100.ok prog 100:=TyD.a0x type100 underlying100 (by kernel_rfl)
def ty115:TyD:=⟨.func,1,[.nilFunc],8⟩
theorem tyok115:ty115.ok prog 115:=TyD.a0x type115 underlying115 (by kernel_rfl)
def ty116:TyD:=⟨.ptr 122,1,[.pointer none],8⟩
theorem tyok116:ty116.ok prog 116:=TyD.a0x type116 underlying116 (by kernel_rfl)
def ty118:TyD:=⟨.map 9 30,1,[.map none],8⟩
theorem tyok118:ty118.ok prog 118:=TyD.a0x type118 underlying118 (by kernel_rfl)
def ty119:TyD:=⟨.map 9 3,1,[.map none],8⟩
theorem tyok119:ty119.ok prog 119:=TyD.a0x type119 underlying119 (by kernel_rfl)
def ty120:TyD:=⟨.map 66 200,1,[.map none],8⟩
theorem tyok120:ty120.ok prog 120:=TyD.a0x type120 underlying120 (by kernel_rfl)
def ty122:TyD:=⟨.agg [(0,42),(2,118),(3,119),(4,53),(5,120)],6,[.slice none 0 0,.slice none 0 0,.map none,.map none,.slice none 0 0,.map none],96⟩
theorem tyok122:ty122.ok prog 122:=TyD.a0x type122 underlying122 (by kernel_rfl)
def ty131:TyD:=⟨.ptr 195,1,[.pointer none],8⟩
theorem tyok131:ty131.ok prog 131:=TyD.a0x type131 underlying131 (by kernel_rfl)
def ty143:TyD:=⟨.ptr 214,1,[.pointer none],8⟩
theorem tyok143:ty143.ok prog 143:=TyD.a0x type143 underlying143 (by kernel_rfl)
def ty145:TyD:=⟨.map 9 9,1,[.map none],8⟩
theorem tyok145:ty145.ok prog 145:=TyD.a0x type145 underlying145 (by kernel_rfl)
def ty148:TyD:=⟨.func,1,[.nilFunc],8⟩
theorem tyok148:ty148.ok prog 148:=TyD.a0x type148 underlying148 (by kernel_rfl)
def ty153:TyD:=⟨.func,1,[.nilFunc],8⟩
theorem tyok153:ty153.ok prog 153:=TyD.a0x type153 underlying153 (by kernel_rfl)
def ty156:TyD:=⟨.map 3 4,1,[.map none],8⟩
theorem tyok156:ty156.ok prog 156:=TyD.a0x type156 underlying156 (by kernel_rfl)
def ty162:TyD:=⟨.func,1,[.nilFunc],8⟩
theorem tyok162:ty162.ok prog 162:=TyD.a0x type162 underlying162 (by kernel_rfl)
def ty167:TyD:=⟨.map 3 94,1,[.map none],8⟩
theorem tyok167:ty167.ok prog 167:=TyD.a0x type167 underlying167 (by kernel_rfl)
def ty172:TyD:=⟨.func,1,[.nilFunc],8⟩
theorem tyok172:ty172.ok prog 172:=TyD.a0x type172 underlying172 (by kernel_rfl)
def ty175:TyD:=⟨.func,1,[.nilFunc],8⟩
theorem tyok175:ty175.ok prog 175:=TyD.a0x type175 underlying175 (by kernel_rfl)
def ty176:TyD:=⟨.sl 178,1,[.slice none 0 0],24⟩
theorem tyok176:ty176.ok prog 176:=TyD.a0x type176 underlying176 (by kernel_rfl)
def ty178:TyD:=⟨.sl 4,1,[.slice none 0 0],24⟩
theorem tyok178:ty178.ok prog 178:=TyD.a0x type178 underlying178 (by kernel_rfl)
def ty179:TyD:=⟨.map 186 4,1,[.map none],8⟩
theorem tyok179:ty179.ok prog 179:=TyD.a0x type179 underlying179 (by kernel_rfl)
def ty180:TyD:=⟨.sl 184,1,[.slice none 0 0],24⟩
theorem tyok180:ty180.ok prog 180:=TyD.a0x type180 underlying180 (by kernel_rfl)
def ty182:TyD:=⟨.int .i64,1,[.int .i64 0],8⟩
theorem tyok182:ty182.ok prog 182:=TyD.a0x type182 underlying182 (by kernel_rfl)
def ty184:TyD:=⟨.agg [(0,182),(1,3),(2,3),(3,3),(4,27)],7,[.int .i64 0,.int .i64 0,.int .i64 0,.int .i64 0,.int .i64 0,.int .i64 0,.int .i64 0],56⟩
theorem tyok184:ty184.ok prog 184:=TyD.a0x type184 underlying184 (by kernel_rfl)
def ty185:TyD:=⟨.func,1,[.nilFunc],8⟩
theorem tyok185:ty185.ok prog 185:=TyD.a0x type185 underlying185 (by kernel_rfl)
def ty186:TyD:=⟨.arr 2 3,2,[.int .i64 0,.int .i64 0],16⟩
theorem tyok186:ty186.ok prog 186:=TyD.a0x type186 underlying186 (by kernel_rfl)
def ty189:TyD:=⟨.func,1,[.nilFunc],8⟩
theorem tyok189:ty189.ok prog 189:=TyD.a0x type189 underlying189 (by kernel_rfl)
def ty191:TyD:=⟨.agg [],0,[],0⟩
theorem tyok191:ty191.ok prog 191:=TyD.a0x type191 underlying191 (by kernel_rfl)
def ty195:TyD:=⟨.agg [(0,42),(2,53),(3,53)],4,[.slice none 0 0,.slice none 0 0,.slice none 0 0,.slice none 0 0],96⟩
theorem tyok195:ty195.ok prog 195:=TyD.a0x type195 underlying195 (by kernel_rfl)
def ty198:TyD:=⟨.func,1,[.nilFunc],8⟩
theorem tyok198:ty198.ok prog 198:=TyD.a0x type198 underlying198 (by kernel_rfl)
def ty200:TyD:=⟨.func,1,[.nilFunc],8⟩
theorem tyok200:ty200.ok prog 200:=TyD.a0x type200 underlying200 (by kernel_rfl)
def ty207:TyD:=⟨.agg [],0,[],0⟩
theorem tyok207:ty207.ok prog 207:=TyD.a0x type207 underlying207 (by kernel_rfl)
def ty209:TyD:=⟨.map 66 243,1,[.map none],8⟩
theorem tyok209:ty209.ok prog 209:=TyD.a0x type209 underlying209 (by kernel_rfl)
def ty212:TyD:=⟨.agg [(0,119),(1,119)],2,[.map none,.map none],16⟩
theorem tyok212:ty212.ok prog 212:=TyD.a0x type212 underlying212 (by kernel_rfl)
def ty214:TyD:=⟨.agg [(0,212),(2,209),(3,3),(4,3)],5,[.map none,.map none,.map none,.int .i64 0,.int .i64 0],40⟩
theorem tyok214:ty214.ok prog 214:=TyD.a0x type214 underlying214 (by kernel_rfl)
def ty218:TyD:=⟨.func,1,[.nilFunc],8⟩
theorem tyok218:ty218.ok prog 218:=TyD.a0x type218 underlying218 (by kernel_rfl)
def ty223:TyD:=⟨.func,1,[.nilFunc],8⟩
theorem tyok223:ty223.ok prog 223:=TyD.a0x type223 underlying223 (by kernel_rfl)
def ty225:TyD:=⟨.agg [(0,3),(1,3),(2,3)],3,[.int .i64 0,.int .i64 0,.int .i64 0],24⟩
theorem tyok225:ty225.ok prog 225:=TyD.a0x type225 underlying225 (by kernel_rfl)
def ty231:TyD:=⟨.agg [(0,39),(1,39),(2,3)],3,[.slice none 0 0,.slice none 0 0,.int .i64 0],56⟩
theorem tyok231:ty231.ok prog 231:=TyD.a0x type231 underlying231 (by kernel_rfl)
def ty236:TyD:=⟨.map 27 3,1,[.map none],8⟩
theorem tyok236:ty236.ok prog 236:=TyD.a0x type236 underlying236 (by kernel_rfl)
def ty238:TyD:=⟨.func,1,[.nilFunc],8⟩
theorem tyok238:ty238.ok prog 238:=TyD.a0x type238 underlying238 (by kernel_rfl)
def ty239:TyD:=⟨.func,1,[.nilFunc],8⟩
theorem tyok239:ty239.ok prog 239:=TyD.a0x type239 underlying239 (by kernel_rfl)
def ty243:TyD:=⟨.agg [(0,3),(1,3),(2,4),(3,4),(4,3),(5,3)],6,[.int .i64 0,.int .i64 0,.bool false,.bool false,.int .i64 0,.int .i64 0],40⟩
theorem tyok243:ty243.ok prog 243:=TyD.a0x type243 underlying243 (by kernel_rfl)
def ty246:TyD:=⟨.sl 5,1,[.slice none 0 0],24⟩
theorem tyok246:ty246.ok prog 246:=TyD.a0x type246 underlying246 (by kernel_rfl)
def ty247:TyD:=⟨.map 9 4,1,[.map none],8⟩
theorem tyok247:ty247.ok prog 247:=TyD.a0x type247 underlying247 (by kernel_rfl)
def ty252:TyD:=⟨.int .u64,1,[.int .u64 0],8⟩
theorem tyok252:ty252.ok prog 252:=TyD.a0x type252 underlying252 (by kernel_rfl)
def ty256:TyD:=⟨.agg [(0,3),(1,3),(2,4),(3,4),(4,3),(5,3)],6,[.int .i64 0,.int .i64 0,.bool false,.bool false,.int .i64 0,.int .i64 0],40⟩
theorem tyok256:ty256.ok prog 256:=TyD.a0x type256 underlying256 (by kernel_rfl)
def ty265:TyD:=⟨.func,1,[.nilFunc],8⟩
theorem tyok265:ty265.ok prog 265:=TyD.a0x type265 underlying265 (by kernel_rfl)
def ty267:TyD:=⟨.func,1,[.nilFunc],8⟩
theorem tyok267:ty267.ok prog 267:=TyD.a0x type267 underlying267 (by kernel_rfl)
def ty269:TyD:=⟨.map 3 29,1,[.map none],8⟩
theorem tyok269:ty269.ok prog 269:=TyD.a0x type269 underlying269 (by kernel_rfl)
def ty274:TyD:=⟨.int .i64,1,[.int .i64 0],8⟩
theorem tyok274:ty274.ok prog 274:=TyD.a0x type274 underlying274 (by kernel_rfl)
def ty282:TyD:=⟨.int .u32,1,[.int .u32 0],4⟩
theorem tyok282:ty282.ok prog 282:=TyD.a0x type282 underlying282 (by kernel_rfl)
def ty285:TyD:=⟨.map 182 288,1,[.map none],8⟩
theorem tyok285:ty285.ok prog 285:=TyD.a0x type285 underlying285 (by kernel_rfl)
def ty288:TyD:=⟨.func,1,[.nilFunc],8⟩
theorem tyok288:ty288.ok prog 288:=TyD.a0x type288 underlying288 (by kernel_rfl)
def ty291:TyD:=⟨.agg [(0,3),(1,3)],2,[.int .i64 0,.int .i64 0],16⟩
theorem tyok291:ty291.ok prog 291:=TyD.a0x type291 underlying291 (by kernel_rfl)
def ty299:TyD:=⟨.func,1,[.nilFunc],8⟩
theorem tyok299:ty299.ok prog 299:=TyD.a0x type299 underlying299 (by kernel_rfl)
def ty300:TyD:=⟨.func,1,[.nilFunc],8⟩
theorem tyok300:ty300.ok prog 300:=TyD.a0x type300 underlying300 (by kernel_rfl)
def ty302:TyD:=⟨.int .u64,1,[.int .u64 0],8⟩
theorem tyok302:ty302.ok prog 302:=TyD.a0x type302 underlying302 (by kernel_rfl)
def ty306:TyD:=⟨.ptr 3,1,[.pointer none],8⟩
theorem tyok306:ty306.ok prog 306:=TyD.a0x type306 underlying306 (by kernel_rfl)
def ty308:TyD:=⟨.agg [],0,[],0⟩
theorem tyok308:ty308.ok prog 308:=TyD.a0x type308 underlying308 (by kernel_rfl)
def ty312:TyD:=⟨.func,1,[.nilFunc],8⟩
theorem tyok312:ty312.ok prog 312:=TyD.a0x type312 underlying312 (by kernel_rfl)
def ty313:TyD:=⟨.ptr 302,1,[.pointer none],8⟩
theorem tyok313:ty313.ok prog 313:=TyD.a0x type313 underlying313 (by kernel_rfl)
def a0s:List (Nat × TyD):=[(1,ty1),(2,ty2),(3,ty3),(4,ty4),(5,ty5),(9,ty9),(20,ty20),(22,ty22),(23,ty23),(25,ty25),(27,ty27),(28,ty28),(29,ty29),(30,ty30),(32,ty32),(33,ty33),(39,ty39),(40,ty40),(42,ty42),(43,ty43),(44,ty44),(53,ty53),(61,ty61),(64,ty64),(66,ty66),(68,ty68),(70,ty70),(80,ty80),(82,ty82),(86,ty86),(94,ty94),(99,ty99),(100,ty100),(115,ty115),(116,ty116),(118,ty118),(119,ty119),(120,ty120),(122,ty122),(131,ty131),(143,ty143),(145,ty145),(148,ty148),(153,ty153),(156,ty156),(162,ty162),(167,ty167),(172,ty172),(175,ty175),(176,ty176),(178,ty178),(179,ty179),(180,ty180),(182,ty182),(184,ty184),(185,ty185),(186,ty186),(189,ty189),(191,ty191),(195,ty195),(198,ty198),(200,ty200),(207,ty207),(209,ty209),(212,ty212),(214,ty214),(218,ty218),(223,ty223),(225,ty225),(231,ty231),(236,ty236),(238,ty238),(239,ty239),(243,ty243),(246,ty246),(247,ty247),(252,ty252),(256,ty256),(265,ty265),(267,ty267),(269,ty269),(274,ty274),(282,ty282),(285,ty285),(288,ty288),(291,ty291),(299,ty299),(300,ty300),(302,ty302),(306,ty306),(308,ty308),(312,ty312),(313,ty313)]
theorem b6p:TyOk prog (tyOf a0s):=f4f (a0e (P:=fun p:Nat × TyD=>p.2.ok prog p.1) tyok1<|a0e (P:=fun p:Nat × TyD=>p.2.ok prog p.1) tyok2<|a0e (P:=fun p:Nat × TyD=>p.2.ok prog p.1) tyok3<|a0e (P:=fun p:Nat × TyD=>p.2.ok prog p.1) tyok4<|a0e (P:=fun p:Nat × TyD=>p.2.ok prog p.1) tyok5<|a0e (P:=fun p:Nat × TyD=>p.2.ok prog p.1) tyok9<|a0e (P:=fun p:Nat × TyD=>p.2.ok prog p.1) tyok20<|a0e (P:=fun p:Nat × TyD=>p.2.ok prog p.1) tyok22<|a0e (P:=fun p:Nat × TyD=>p.2.ok prog p.1) tyok23<|a0e (P:=fun p:Nat × TyD=>p.2.ok prog p.1) tyok25<|a0e (P:=fun p:Nat × TyD=>p.2.ok prog p.1) tyok27<|a0e (P:=fun p:Nat × TyD=>p.2.ok prog p.1) tyok28<|a0e (P:=fun p:Nat × TyD=>p.2.ok prog p.1) tyok29<|a0e (P:=fun p:Nat × TyD=>p.2.ok prog p.1) tyok30<|a0e (P:=fun p:Nat × TyD=>p.2.ok prog p.1) tyok32<|a0e (P:=fun p:Nat × TyD=>p.2.ok prog p.1) tyok33<|a0e (P:=fun p:Nat × TyD=>p.2.ok prog p.1) tyok39<|a0e (P:=fun p:Nat × TyD=>p.2.ok prog p.1) tyok40<|a0e (P:=fun p:Nat × TyD=>p.2.ok prog p.1) tyok42<|a0e (P:=fun p:Nat × TyD=>p.2.ok prog p.1) tyok43<|a0e (P:=fun p:Nat × TyD=>p.2.ok prog p.1) tyok44<|a0e (P:=fun p:Nat × TyD=>p.2.ok prog p.1) tyok53<|a0e (P:=fun p:Nat × TyD=>p.2.ok prog p.1) tyok61<|a0e (P:=fun p:Nat × TyD=>p.2.ok prog p.1) tyok64<|a0e (P:=fun p:Nat × TyD=>p.2.ok prog p.1) tyok66<|a0e (P:=fun p:Nat × TyD=>p.2.ok prog p.1) tyok68<|a0e (P:=fun p:Nat × TyD=>p.2.ok prog p.1) tyok70<|a0e (P:=fun p:Nat × TyD=>p.2.ok prog p.1) tyok80<|a0e (P:=fun p:Nat × TyD=>p.2.ok prog p.1) tyok82<|a0e (P:=fun p:Nat × TyD=>p.2.ok prog p.1) tyok86<|a0e (P:=fun p:Nat × TyD=>p.2.ok prog p.1) tyok94<|a0e (P:=fun p:Nat × TyD=>p.2.ok prog p.1) tyok99<|a0e (P:=fun p:Nat × TyD=>p.2.ok prog p.1) tyok100<|a0e (P:=fun p:Nat × TyD=>p.2.ok prog p.1) tyok115<|a0e (P:=fun p:Nat × TyD=>p.2.ok prog p.1) tyok116<|a0e (P:=fun p:Nat × TyD=>p.2.ok prog p.1) tyok118<|a0e (P:=fun p:Nat × TyD=>p.2.ok prog p.1) tyok119<|a0e (P:=fun p:Nat × TyD=>p.2.ok prog p.1) tyok120<|a0e (P:=fun p:Nat × TyD=>p.2.ok prog p.1) tyok122<|a0e (P:=fun p:Nat × TyD=>p.2.ok prog p.1) tyok131<|a0e (P:=fun p:Nat × TyD=>p.2.ok prog p.1) tyok143<|a0e (P:=fun p:Nat × TyD=>p.2.ok prog p.1) tyok145<|a0e (P:=fun p:Nat × TyD=>p.2.ok prog p.1) tyok148<|a0e (P:=fun p:Nat × TyD=>p.2.ok prog p.1) tyok153<|a0e (P:=fun p:Nat × TyD=>p.2.ok prog p.1) tyok156<|a0e (P:=fun p:Nat × TyD=>p.2.ok prog p.1) tyok162<|a0e (P:=fun p:Nat × TyD=>p.2.ok prog p.1) tyok167<|a0e (P:=fun p:Nat × TyD=>p.2.ok prog p.1) tyok172<|a0e (P:=fun p:Nat × TyD=>p.2.ok prog p.1) tyok175<|a0e (P:=fun p:Nat × TyD=>p.2.ok prog p.1) tyok176<|a0e (P:=fun p:Nat × TyD=>p.2.ok prog p.1) tyok178<|a0e (P:=fun p:Nat × TyD=>p.2.ok prog p.1) tyok179<|a0e (P:=fun p:Nat × TyD=>p.2.ok prog p.1) tyok180<|a0e (P:=fun p:Nat × TyD=>p.2.ok prog p.1) tyok182<|a0e (P:=fun p:Nat × TyD=>p.2.ok prog p.1) tyok184<|a0e (P:=fun p:Nat × TyD=>p.2.ok prog p.1) tyok185<|a0e (P:=fun p:Nat × TyD=>p.2.ok prog p.1) tyok186<|a0e (P:=fun p:Nat × TyD=>p.2.ok prog p.1) tyok189<|a0e (P:=fun p:Nat × TyD=>p.2.ok prog p.1) tyok191<|a0e (P:=fun p:Nat × TyD=>p.2.ok prog p.1) tyok195<|a0e (P:=fun p:Nat × TyD=>p.2.ok prog p.1) tyok198<|a0e (P:=fun p:Nat × TyD=>p.2.ok prog p.1) tyok200<|a0e (P:=fun p:Nat × TyD=>p.2.ok prog p.1) tyok207<|a0e (P:=fun p:Nat × TyD=>p.2.ok prog p.1) tyok209<|a0e (P:=fun p:Nat × TyD=>p.2.ok prog p.1) tyok212<|a0e (P:=fun p:Nat × TyD=>p.2.ok prog p.1) tyok214<|a0e (P:=fun p:Nat × TyD=>p.2.ok prog p.1) tyok218<|a0e (P:=fun p:Nat × TyD=>p.2.ok prog p.1) tyok223<|a0e (P:=fun p:Nat × TyD=>p.2.ok prog p.1) tyok225<|a0e (P:=fun p:Nat × TyD=>p.2.ok prog p.1) tyok231<|a0e (P:=fun p:Nat × TyD=>p.2.ok prog p.1) tyok236<|a0e (P:=fun p:Nat × TyD=>p.2.ok prog p.1) tyok238<|a0e (P:=fun p:Nat × TyD=>p.2.ok prog p.1) tyok239<|a0e (P:=fun p:Nat × TyD=>p.2.ok prog p.1) tyok243<|a0e (P:=fun p:Nat × TyD=>p.2.ok prog p.1) tyok246<|a0e (P:=fun p:Nat × TyD=>p.2.ok prog p.1) tyok247<|a0e (P:=fun p:Nat × TyD=>p.2.ok prog p.1) tyok252<|a0e (P:=fun p:Nat × TyD=>p.2.ok prog p.1) tyok256<|a0e (P:=fun p:Nat × TyD=>p.2.ok prog p.1) tyok265<|a0e (P:=fun p:Nat × TyD=>p.2.ok prog p.1) tyok267<|a0e (P:=fun p:Nat × TyD=>p.2.ok prog p.1) tyok269<|a0e (P:=fun p:Nat × TyD=>p.2.ok prog p.1) tyok274<|a0e (P:=fun p:Nat × TyD=>p.2.ok prog p.1) tyok282<|a0e (P:=fun p:Nat × TyD=>p.2.ok prog p.1) tyok285<|a0e (P:=fun p:Nat × TyD=>p.2.ok prog p.1) tyok288<|a0e (P:=fun p:Nat × TyD=>p.2.ok prog p.1) tyok291<|a0e (P:=fun p:Nat × TyD=>p.2.ok prog p.1) tyok299<|a0e (P:=fun p:Nat × TyD=>p.2.ok prog p.1) tyok300<|a0e (P:=fun p:Nat × TyD=>p.2.ok prog p.1) tyok302<|a0e (P:=fun p:Nat × TyD=>p.2.ok prog p.1) tyok306<|a0e (P:=fun p:Nat × TyD=>p.2.ok prog p.1) tyok308<|a0e (P:=fun p:Nat × TyD=>p.2.ok prog p.1) tyok312<|a0e (P:=fun p:Nat × TyD=>p.2.ok prog p.1) tyok313<|e0x)
@[simp] theorem tyE1:tyOf a0s 1=some ⟨.func,1,[.nilFunc],8⟩:=by as_aux_lemma=>kernel_rfl
@[simp] theorem tyE2:tyOf a0s 2=some ⟨.int .i64,1,[.int .i64 0],8⟩:=by as_aux_lemma=>kernel_rfl
@[simp] theorem tyE3:tyOf a0s 3=some ⟨.int .i64,1,[.int .i64 0],8⟩:=by as_aux_lemma=>kernel_rfl
@[simp] theorem tyE4:tyOf a0s 4=some ⟨.bool,1,[.bool false],1⟩:=by as_aux_lemma=>kernel_rfl
@[simp] theorem tyE5:tyOf a0s 5=some ⟨.int .u8,1,[.int .u8 0],1⟩:=by as_aux_lemma=>kernel_rfl
@[simp] theorem tyE9:tyOf a0s 9=some ⟨.str,1,[.string ⟨#[]⟩],16⟩:=by as_aux_lemma=>kernel_rfl
@[simp] theorem tyE20:tyOf a0s 20=some ⟨.iface true,1,[.nilIface],16⟩:=by as_aux_lemma=>kernel_rfl
@[simp] theorem tyE22:tyOf a0s 22=some ⟨.int .i64,1,[.int .i64 0],8⟩:=by as_aux_lemma=>kernel_rfl
@[simp] theorem tyE23:tyOf a0s 23=some ⟨.sl 25,1,[.slice none 0 0],24⟩:=by as_aux_lemma=>kernel_rfl
@[simp] theorem tyE25:tyOf a0s 25=some ⟨.agg [(0,22),(1,3),(2,23)],3,[.int .i64 0,.int .i64 0,.slice none 0 0],40⟩:=by as_aux_lemma=>kernel_rfl
@[simp] theorem tyE27:tyOf a0s 27=some ⟨.agg [(0,3),(1,3),(2,3)],3,[.int .i64 0,.int .i64 0,.int .i64 0],24⟩:=by as_aux_lemma=>kernel_rfl
@[simp] theorem tyE28:tyOf a0s 28=some ⟨.int .i64,1,[.int .i64 0],8⟩:=by as_aux_lemma=>kernel_rfl
@[simp] theorem tyE29:tyOf a0s 29=some ⟨.sl 86,1,[.slice none 0 0],24⟩:=by as_aux_lemma=>kernel_rfl
@[simp] theorem tyE30:tyOf a0s 30=some ⟨.sl 86,1,[.slice none 0 0],24⟩:=by as_aux_lemma=>kernel_rfl
@[simp] theorem tyE32:tyOf a0s 32=some ⟨.agg [(0,3),(1,28),(2,30)],3,[.int .i64 0,.int .i64 0,.slice none 0 0],40⟩:=by as_aux_lemma=>kernel_rfl
@[simp] theorem tyE33:tyOf a0s 33=some ⟨.int .i64,1,[.int .i64 0],8⟩:=by as_aux_lemma=>kernel_rfl
@[simp] theorem tyE39:tyOf a0s 39=some ⟨.sl 9,1,[.slice none 0 0],24⟩:=by as_aux_lemma=>kernel_rfl
@[simp] theorem tyE40:tyOf a0s 40=some ⟨.sl 70,1,[.slice none 0 0],24⟩:=by as_aux_lemma=>kernel_rfl
@[simp] theorem tyE42:tyOf a0s 42=some ⟨.agg [(0,39),(1,40)],2,[.slice none 0 0,.slice none 0 0],48⟩:=by as_aux_lemma=>kernel_rfl
@[simp] theorem tyE43:tyOf a0s 43=some ⟨.sl 82,1,[.slice none 0 0],24⟩:=by as_aux_lemma=>kernel_rfl
@[simp] theorem tyE44:tyOf a0s 44=some ⟨.sl 94,1,[.slice none 0 0],24⟩:=by as_aux_lemma=>kernel_rfl
@[simp] theorem tyE53:tyOf a0s 53=some ⟨.sl 30,1,[.slice none 0 0],24⟩:=by as_aux_lemma=>kernel_rfl
@[simp] theorem tyE61:tyOf a0s 61=some ⟨.agg [(0,3),(1,3)],2,[.int .i64 0,.int .i64 0],16⟩:=by as_aux_lemma=>kernel_rfl
@[simp] theorem tyE64:tyOf a0s 64=some ⟨.sl 68,1,[.slice none 0 0],24⟩:=by as_aux_lemma=>kernel_rfl
@[simp] theorem tyE66:tyOf a0s 66=some ⟨.int .i64,1,[.int .i64 0],8⟩:=by as_aux_lemma=>kernel_rfl
@[simp] theorem tyE68:tyOf a0s 68=some ⟨.agg [(0,66),(1,9),(2,3),(3,28),(4,23),(5,64)],6,[.int .i64 0,.string ⟨#[]⟩,.int .i64 0,.int .i64 0,.slice none 0 0,.slice none 0 0],88⟩:=by as_aux_lemma=>kernel_rfl
@[simp] theorem tyE70:tyOf a0s 70=some ⟨.agg [(0,9),(1,68)],7,[.string ⟨#[]⟩,.int .i64 0,.string ⟨#[]⟩,.int .i64 0,.int .i64 0,.slice none 0 0,.slice none 0 0],104⟩:=by as_aux_lemma=>kernel_rfl
@[simp] theorem tyE80:tyOf a0s 80=some ⟨.int .u64,1,[.int .u64 0],8⟩:=by as_aux_lemma=>kernel_rfl
@[simp] theorem tyE82:tyOf a0s 82=some ⟨.agg [(0,3),(1,3),(2,27)],5,[.int .i64 0,.int .i64 0,.int .i64 0,.int .i64 0,.int .i64 0],40⟩:=by as_aux_lemma=>kernel_rfl
@[simp] theorem tyE86:tyOf a0s 86=some ⟨.agg [(0,27),(3,3)],4,[.int .i64 0,.int .i64 0,.int .i64 0,.int .i64 0],32⟩:=by as_aux_lemma=>kernel_rfl
@[simp] theorem tyE94:tyOf a0s 94=some ⟨.sl 3,1,[.slice none 0 0],24⟩:=by as_aux_lemma=>kernel_rfl
@[simp] theorem tyE99:tyOf a0s 99=some ⟨.func,1,[.nilFunc],8⟩:=by as_aux_lemma=>kernel_rfl
@[simp] theorem tyE100:tyOf a0s 100=some ⟨.func,1,[.nilFunc],8⟩:=by as_aux_lemma=>kernel_rfl
@[simp] theorem tyE115:tyOf a0s 115=some ⟨.func,1,[.nilFunc],8⟩:=by as_aux_lemma=>kernel_rfl
@[simp] theorem tyE116:tyOf a0s 116=some ⟨.ptr 122,1,[.pointer none],8⟩:=by as_aux_lemma=>kernel_rfl
@[simp] theorem tyE118:tyOf a0s 118=some ⟨.map 9 30,1,[.map none],8⟩:=by as_aux_lemma=>kernel_rfl
@[simp] theorem tyE119:tyOf a0s 119=some ⟨.map 9 3,1,[.map none],8⟩:=by as_aux_lemma=>kernel_rfl
@[simp] theorem tyE120:tyOf a0s 120=some ⟨.map 66 200,1,[.map none],8⟩:=by as_aux_lemma=>kernel_rfl
@[simp] theorem tyE122:tyOf a0s 122=some ⟨.agg [(0,42),(2,118),(3,119),(4,53),(5,120)],6,[.slice none 0 0,.slice none 0 0,.map none,.map none,.slice none 0 0,.map none],96⟩:=by as_aux_lemma=>kernel_rfl
@[simp] theorem tyE131:tyOf a0s 131=some ⟨.ptr 195,1,[.pointer none],8⟩:=by as_aux_lemma=>kernel_rfl
@[simp] theorem tyE143:tyOf a0s 143=some ⟨.ptr 214,1,[.pointer none],8⟩:=by as_aux_lemma=>kernel_rfl
@[simp] theorem tyE145:tyOf a0s 145=some ⟨.map 9 9,1,[.map none],8⟩:=by as_aux_lemma=>kernel_rfl
@[simp] theorem tyE148:tyOf a0s 148=some ⟨.func,1,[.nilFunc],8⟩:=by as_aux_lemma=>kernel_rfl
@[simp] theorem tyE153:tyOf a0s 153=some ⟨.func,1,[.nilFunc],8⟩:=by as_aux_lemma=>kernel_rfl
@[simp] theorem tyE156:tyOf a0s 156=some ⟨.map 3 4,1,[.map none],8⟩:=by as_aux_lemma=>kernel_rfl
@[simp] theorem tyE162:tyOf a0s 162=some ⟨.func,1,[.nilFunc],8⟩:=by as_aux_lemma=>kernel_rfl
@[simp] theorem tyE167:tyOf a0s 167=some ⟨.map 3 94,1,[.map none],8⟩:=by as_aux_lemma=>kernel_rfl
@[simp] theorem tyE172:tyOf a0s 172=some ⟨.func,1,[.nilFunc],8⟩:=by as_aux_lemma=>kernel_rfl
@[simp] theorem tyE175:tyOf a0s 175=some ⟨.func,1,[.nilFunc],8⟩:=by as_aux_lemma=>kernel_rfl
@[simp] theorem tyE176:tyOf a0s 176=some ⟨.sl 178,1,[.slice none 0 0],24⟩:=by as_aux_lemma=>kernel_rfl
@[simp] theorem tyE178:tyOf a0s 178=some ⟨.sl 4,1,[.slice none 0 0],24⟩:=by as_aux_lemma=>kernel_rfl
@[simp] theorem tyE179:tyOf a0s 179=some ⟨.map 186 4,1,[.map none],8⟩:=by as_aux_lemma=>kernel_rfl
@[simp] theorem tyE180:tyOf a0s 180=some ⟨.sl 184,1,[.slice none 0 0],24⟩:=by as_aux_lemma=>kernel_rfl
@[simp] theorem tyE182:tyOf a0s 182=some ⟨.int .i64,1,[.int .i64 0],8⟩:=by as_aux_lemma=>kernel_rfl
@[simp] theorem tyE184:tyOf a0s 184=some ⟨.agg [(0,182),(1,3),(2,3),(3,3),(4,27)],7,[.int .i64 0,.int .i64 0,.int .i64 0,.int .i64 0,.int .i64 0,.int .i64 0,.int .i64 0],56⟩:=by as_aux_lemma=>kernel_rfl
@[simp] theorem tyE185:tyOf a0s 185=some ⟨.func,1,[.nilFunc],8⟩:=by as_aux_lemma=>kernel_rfl
@[simp] theorem tyE186:tyOf a0s 186=some ⟨.arr 2 3,2,[.int .i64 0,.int .i64 0],16⟩:=by as_aux_lemma=>kernel_rfl
@[simp] theorem tyE189:tyOf a0s 189=some ⟨.func,1,[.nilFunc],8⟩:=by as_aux_lemma=>kernel_rfl
@[simp] theorem tyE191:tyOf a0s 191=some ⟨.agg [],0,[],0⟩:=by as_aux_lemma=>kernel_rfl
@[simp] theorem tyE195:tyOf a0s 195=some ⟨.agg [(0,42),(2,53),(3,53)],4,[.slice none 0 0,.slice none 0 0,.slice none 0 0,.slice none 0 0],96⟩:=by as_aux_lemma=>kernel_rfl
@[simp] theorem tyE198:tyOf a0s 198=some ⟨.func,1,[.nilFunc],8⟩:=by as_aux_lemma=>kernel_rfl
@[simp] theorem tyE200:tyOf a0s 200=some ⟨.func,1,[.nilFunc],8⟩:=by as_aux_lemma=>kernel_rfl
@[simp] theorem tyE207:tyOf a0s 207=some ⟨.agg [],0,[],0⟩:=by as_aux_lemma=>kernel_rfl
@[simp] theorem tyE209:tyOf a0s 209=some ⟨.map 66 243,1,[.map none],8⟩:=by as_aux_lemma=>kernel_rfl
@[simp] theorem tyE212:tyOf a0s 212=some ⟨.agg [(0,119),(1,119)],2,[.map none,.map none],16⟩:=by as_aux_lemma=>kernel_rfl
@[simp] theorem tyE214:tyOf a0s 214=some ⟨.agg [(0,212),(2,209),(3,3),(4,3)],5,[.map none,.map none,.map none,.int .i64 0,.int .i64 0],40⟩:=by as_aux_lemma=>kernel_rfl
@[simp] theorem tyE218:tyOf a0s 218=some ⟨.func,1,[.nilFunc],8⟩:=by as_aux_lemma=>kernel_rfl
@[simp] theorem tyE223:tyOf a0s 223=some ⟨.func,1,[.nilFunc],8⟩:=by as_aux_lemma=>kernel_rfl
@[simp] theorem tyE225:tyOf a0s 225=some ⟨.agg [(0,3),(1,3),(2,3)],3,[.int .i64 0,.int .i64 0,.int .i64 0],24⟩:=by as_aux_lemma=>kernel_rfl
@[simp] theorem tyE231:tyOf a0s 231=some ⟨.agg [(0,39),(1,39),(2,3)],3,[.slice none 0 0,.slice none 0 0,.int .i64 0],56⟩:=by as_aux_lemma=>kernel_rfl
@[simp] theorem tyE236:tyOf a0s 236=some ⟨.map 27 3,1,[.map none],8⟩:=by as_aux_lemma=>kernel_rfl
@[simp] theorem tyE238:tyOf a0s 238=some ⟨.func,1,[.nilFunc],8⟩:=by as_aux_lemma=>kernel_rfl
@[simp] theorem tyE239:tyOf a0s 239=some ⟨.func,1,[.nilFunc],8⟩:=by as_aux_lemma=>kernel_rfl
@[simp] theorem tyE243:tyOf a0s 243=some ⟨.agg [(0,3),(1,3),(2,4),(3,4),(4,3),(5,3)],6,[.int .i64 0,.int .i64 0,.bool false,.bool false,.int .i64 0,.int .i64 0],40⟩:=by as_aux_lemma=>kernel_rfl
@[simp] theorem tyE246:tyOf a0s 246=some ⟨.sl 5,1,[.slice none 0 0],24⟩:=by as_aux_lemma=>kernel_rfl
@[simp] theorem tyE247:tyOf a0s 247=some ⟨.map 9 4,1,[.map none],8⟩:=by as_aux_lemma=>kernel_rfl
@[simp] theorem tyE252:tyOf a0s 252=some ⟨.int .u64,1,[.int .u64 0],8⟩:=by as_aux_lemma=>kernel_rfl
@[simp] theorem tyE256:tyOf a0s 256=some ⟨.agg [(0,3),(1,3),(2,4),(3,4),(4,3),(5,3)],6,[.int .i64 0,.int .i64 0,.bool false,.bool false,.int .i64 0,.int .i64 0],40⟩:=by as_aux_lemma=>kernel_rfl
@[simp] theorem tyE265:tyOf a0s 265=some ⟨.func,1,[.nilFunc],8⟩:=by as_aux_lemma=>kernel_rfl
@[simp] theorem tyE267:tyOf a0s 267=some ⟨.func,1,[.nilFunc],8⟩:=by as_aux_lemma=>kernel_rfl
@[simp] theorem tyE269:tyOf a0s 269=some ⟨.map 3 29,1,[.map none],8⟩:=by as_aux_lemma=>kernel_rfl
@[simp] theorem tyE274:tyOf a0s 274=some ⟨.int .i64,1,[.int .i64 0],8⟩:=by as_aux_lemma=>kernel_rfl
@[simp] theorem tyE282:tyOf a0s 282=some ⟨.int .u32,1,[.int .u32 0],4⟩:=by as_aux_lemma=>kernel_rfl
@[simp] theorem tyE285:tyOf a0s 285=some ⟨.map 182 288,1,[.map none],8⟩:=by as_aux_lemma=>kernel_rfl
@[simp] theorem tyE288:tyOf a0s 288=some ⟨.func,1,[.nilFunc],8⟩:=by as_aux_lemma=>kernel_rfl
@[simp] theorem tyE291:tyOf a0s 291=some ⟨.agg [(0,3),(1,3)],2,[.int .i64 0,.int .i64 0],16⟩:=by as_aux_lemma=>kernel_rfl
@[simp] theorem tyE299:tyOf a0s 299=some ⟨.func,1,[.nilFunc],8⟩:=by as_aux_lemma=>kernel_rfl
@[simp] theorem tyE300:tyOf a0s 300=some ⟨.func,1,[.nilFunc],8⟩:=by as_aux_lemma=>kernel_rfl
@[simp] theorem tyE302:tyOf a0s 302=some ⟨.int .u64,1,[.int .u64 0],8⟩:=by as_aux_lemma=>kernel_rfl
@[simp] theorem tyE306:tyOf a0s 306=some ⟨.ptr 3,1,[.pointer none],8⟩:=by as_aux_lemma=>kernel_rfl
@[simp] theorem tyE308:tyOf a0s 308=some ⟨.agg [],0,[],0⟩:=by as_aux_lemma=>kernel_rfl
@[simp] theorem tyE312:tyOf a0s 312=some ⟨.func,1,[.nilFunc],8⟩:=by as_aux_lemma=>kernel_rfl
@[simp] theorem tyE313:tyOf a0s 313=some ⟨.ptr 302,1,[.pointer none],8⟩:=by as_aux_lemma=>kernel_rfl
end Go.Aft
end
section
set_option maxRecDepth 20000
namespace Go.Aft
open Go.Proofs.Tryz
def cxK (pub:Nat->Kd):Cx:=⟨tyOf a0s,fun _=>none,pub,fun _ _=>none,RD.any⟩
@[simp] theorem cxK_ty {p:Nat->Kd}:(cxK p).ty=tyOf a0s:=rfl
@[simp] theorem cxK_eqt {p:Nat->Kd} (t:TypeId):(cxK p).eqt t=none:=rfl
@[simp] theorem cxK_pub {p:Nat->Kd} (t:Nat):(cxK p).pub t=p t:=rfl
@[simp] theorem cxK_spec {p:Nat->Kd} (f:FuncId) (a:List LV):(cxK p).spec f a=none:=rfl
@[simp] theorem cxK_rd {p:Nat->Kd}:(cxK p).rd=RD.any:=rfl
theorem a0g {p:Nat->Kd}:(cxK p).ok prog:=⟨b6p,fun T ks h=>(by cases h),fun T ks h=>(by cases h),fun f args pre v h=>(by cases h),(by kernel_rfl)⟩
def kds (im pu ve:List Nat):Nat->Kd:=fun t=>if t ∈ im then .imm else if t ∈ pu then .pub else if t ∈ ve then .vec else .loc
@[simp] theorem kds_apply {im pu ve:List Nat} {t:Nat}:kds im pu ve t=if t ∈ im then .imm else if t ∈ pu then .pub else if t ∈ ve then .vec else .loc:=rfl
def cx0:Cx:=⟨tyOf a0s,fun _=>none,fun _=>.loc,fun _ _=>none,RD.any⟩
@[simp] theorem cx0_ty:cx0.ty=tyOf a0s:=rfl
@[simp] theorem cx0_eqt (t:TypeId):cx0.eqt t=none:=rfl
@[simp] theorem cx0_pub (t:Nat):cx0.pub t=.loc:=rfl
@[simp] theorem cx0_spec (f:FuncId) (a:List LV):cx0.spec f a=none:=rfl
@[simp] theorem cx0_rd:cx0.rd=RD.any:=rfl
theorem cx0_ok:cx0.ok prog:=a0g
end Go.Aft
end
section
set_option maxRecDepth 20000
namespace Go.Aft
open Go.Proofs.Tryz
theorem wrap64 {n:Int} (h1:-9223372036854775808<=n) (h2:n < 9223372036854775808):IntKind.wrap .i64 n=n:=by
 simp [IntKind.wrap,IntKind.bits,IntKind.signed];omega
theorem wrap_succ {i n:Nat} (h:i < n) (hn:n<=9223372036854775807):IntKind.wrap .i64 ((i:Int)+1)=(i:Int)+1:=by rw [wrap64] <;> omega
def idx (l:List Str) (s:Str):Int:=match l.findIdx? (fun x=>decide (x=s)) with | some i=>i | none=>-1
theorem f5j {l:List Str} {s:Str} {i:Nat} (h:i < l.length) (e:l[i]=s) (hlt:∀ (j:Nat) (h:j < l.length),j < i->l[j] ≠ s):idx l s=i:=by
 unfold idx
 have:l.findIdx? (fun x=>decide (x=s))=some i:=by
  rw [List.findIdx?_eq_some_iff_getElem]
  exact ⟨h,by simpa using e,fun j hj=>by simpa using hlt j (by omega) hj⟩
 rw [this]
theorem e8w {l:List Str} {s:Str} (hlt:∀ (j:Nat) (h:j < l.length),l[j] ≠ s):idx l s = -1:=by
 unfold idx
 have:l.findIdx? (fun x=>decide (x=s))=none:=by
  rw [List.findIdx?_eq_none_iff]
  intro x hx
  obtain ⟨j,hj,rfl⟩:=List.mem_iff_getElem.1 hx
  simpa using hlt j hj
 rw [this]
theorem b8b (l:List Str) (s:Str):AFun prog 49 [sl (l.map rS),.d (dS s)] (intV .i64 (idx l s)):=by
 refine AFun.body cx0_ok func49 rfl call49 (by rw [ntmps49];simp) rfl fun hf H=>?_
 simp [ntmps49,results49] at hf |-
 refine AW.a0w cx0_ok (fun i:Nat=>⟨[(0,.d (.sl (l.map rS))),(1,.d (.k (.string s))),(5,.d (.k (.int .i64 i)))],[],H⟩) (fun i=>l.length - i) (fun i=>i<=l.length/\∀ j (h:j < l.length),j < i->l[j] ≠ s) 0 (by simp) fun i hi=>?_
 simp
 refine ⟨fun h=>?_,fun h=>?_⟩
 ·simp [h,rS,wrap_succ h hf.1]
  refine ⟨fun e=>(f5j h e hi.2).symm,fun e=>NX.go (i+1) (by omega) ⟨h,fun j hj hji=>?_⟩ (by simp)⟩
  by_cases q:j=i
  ·subst q;exact e
  ·exact hi.2 j hj (by omega)
 ·exact (e8w fun j hj=>hi.2 j hj (by omega)).symm
end Go.Aft
end
section
set_option maxRecDepth 20000
namespace Go.Aft
open Go.Proofs.Tryz
theorem a0p {α:Type} {l:List α} {i:Nat} (h:i < l.length):l.take i ++ [l[i]]=l.take (i+1):=by
 simp only [List.take_add_one,List.getElem?_eq_getElem h,Option.toList]
theorem b8c (op n:Int) (kids:List Calc) (hk:kids.length * 40<=140737488351232) (ih:∀ k ∈ kids,AFun prog 136 [lv (a1h k)] (lv (a1h k))):AFun prog 136 [lv (a1h (.mk op n kids))] (lv (a1h (.mk op n kids))):=by
 refine AFun.body (a0g (p:=kds [1] [] [])) func136 rfl call136 (by rw [ntmps136];simp) rfl fun hf H=>?_
 simp [ntmps136,results136,a0o,Calc.op,Calc.n,Calc.kids]
 refine AW.a0w (a0g (p:=kds [1] [] [])) (fun a:Nat × LV × GH=>⟨[(1,.ip [.d (.k (.int .i64 op)),.d (.k (.int .i64 n)),.d (.sl (kids.map a1h))] 0),(2,.lp 2 0),(3,.lp 3 0),(4,.d (.k (.int .i64 a.1)))],
  [(2,[.d (.k (.int .i64 0)),.d (.k (.int .i64 0)),.d (.k (.slice none 0 0))]),(3,[.d (.k (.int .i64 op)),.d (.k (.int .i64 n)),a.2.1])],a.2.2⟩) (fun a=>kids.length - a.1) (fun a=>a.1<=kids.length/\App 25 3 H a.2.1 ((kids.take a.1).map a1h) a.2.2) (0,.d (.k (.slice none 0 0)),H) ?_ ?_
 ·exact ⟨⟨Nat.zero_le _,.nil⟩,by simp⟩
 ·rintro ⟨i,x,H'⟩ ⟨hi,happ⟩
  simp only at hi happ
  simp
  refine ⟨fun h=>?_,fun h=>?_⟩
  ·refine AW.draw (a0g (p:=kds [1] [] [])) [(7,.n)] (.q 0<|.q 2<|.q 4<|.q 1<|.f<|.one 3<|.q 5<|.f<|.one 6<|.q 7<|.q 8<|.f<|.one 9<|.q 10<|.f<|.one 11<|.done) (by kernel_rfl) ?_
   simp [h,List.getElem?_eq_getElem h,a0o]
   refine FC.afun (v:=lv (a1h kids[i])) (by simpa [a0o] using ih kids[i] (List.getElem_mem h)) ?_
   simp [a0o]
   refine APK.d0d a1h (kids.take i) [kids[i]] tyE23 rfl tyE25 (by simp) rCalc_len (x:=x) (by simp) happ (by simp [a0o,rowsOf]) (by simp) (by simp;omega) (by simp) fun x' H' happ'=>?_
   rw [a0p h] at happ'
   simp [happ'.plain.all,happ'.only,wrap_succ (n:=9223372036854775807) (show i < 9223372036854775807 by omega)]
   exact NX.go (i+1,x',H') (by simp;omega) ⟨h,happ'⟩ (by simp [happ'.only])
  ·have e:i=kids.length:=by omega
   subst e
   rw [List.take_length] at happ
   have hz:=happ.fz
   simp [a0o,Calc.op,Calc.n,Calc.kids,happ.plain.all,hz.1]
   exact ⟨hz.2.1,hz.2.2⟩
end Go.Aft
end
section
set_option maxRecDepth 20000
namespace Go.Aft
open Go.Proofs.Tryz
def inB (n lo hi:Int):Bool:=decide (lo<=n) && decide (n<=hi)
theorem a8e (n lo hi:Int):AFun prog 89 [.d (.k (.int .i64 n)),.d (.k (.int .i64 lo)),.d (.k (.int .i64 hi))] (.d (.k (.bool (inB n lo hi)))):=by
 refine AFun.body cx0_ok func89 rfl call89 (by rw [ntmps89];simp) rfl fun _ H=>?_
 simp [ntmps89,results89,inB]
def recB (r:Rec):Bool:=inB r.at_ 0 200 && inB r.key (-1000000000) 1000000000 && inB r.val (-1000000000) 1000000000
theorem e2o (r:Rec):AFun prog 55 [lv (rRec r)] (.d (.k (.bool (recB r)))):=by
 refine AFun.body cx0_ok func55 rfl call55 (by rw [ntmps55];simp) rfl fun _ H=>?_
 simp [ntmps55,results55,rRec,noS]
 refine EC.afun (a8e _ _ _) ?_
 cases h1:inB r.at_ 0 200
 ·simp [recB,h1]
 ·simp [h1]
  refine EC.afun (a8e _ _ _) ?_
  cases h2:inB r.key (-1000000000) 1000000000
  ·simp [recB,h1,h2]
  ·simp [h2]
   refine EC.afun (a8e _ _ _) ?_
   simp [recB,h1,h2]
end Go.Aft
end
section
set_option maxRecDepth 20000
namespace Go.Aft
open Go.Proofs.Tryz
end Go.Aft
end
section
set_option maxRecDepth 20000
namespace Go.Aft
open Go.Proofs.Tryz
def a3y (n:Int):Int:=minI (maxI n (-1000000000)) 1000000000
theorem a3x (n:Int):AFun prog 52 [.d (.k (.int .i64 n))] (.d (.k (.int .i64 (a3y n)))):=by
 refine AFun.body cx0_ok func52 rfl call52 (by rw [ntmps52];simp) rfl fun hf H=>?_
 simp [ntmps52,results52,a3y]
mutual
def a2o:Calc->Int->Int->Int
 | .mk op n kids,depth,left =>
  if 10 < depth \/ left < 1 \/ op < 1 \/ 10 < op then -1
  else if (kids.length:Int) ≠ (if 6<=op then 2 else 0) \/ (op ≠ 1/\n ≠ 0) \/ n ≠ a3y n then -1
  else a1y kids depth (left - 1)
def a1y:List Calc->Int->Int->Int
 | [],_,left=>left
 | k :: ks,depth,left=>if a2o k (depth+1) left < 0 then -1 else a1y ks depth (a2o k (depth+1) left)
end
mutual
theorem c2s:∀ (c:Calc) (depth left:Int),a2o c depth left<=left \/ a2o c depth left = -1
 | .mk op n kids,depth,left=>by
  have h:=b8z kids depth (left - 1)
  rw [a2o]
  generalize (if (6:Int)<=op then (2:Int) else 0)=k2
  split
  ·exact .inr rfl
  ·split
   ·exact .inr rfl
   ·omega
theorem b8z:∀ (l:List Calc) (depth left:Int),a1y l depth left<=left \/ a1y l depth left = -1
 | [],depth,left=>by rw [a1y];exact .inl (Int.le_refl _)
 | k :: ks,depth,left=>by
  rw [a1y]
  split
  ·exact .inr rfl
  ·rename_i h
   have h1:=c2s k (depth+1) left
   have h2:=b8z ks depth (a2o k (depth+1) left)
   omega
end
theorem c8i (op n:Int) (kids:List Calc) (depth left:Int) (hd:0<=depth) (hl:left<=1000000)
  (ih:∀ k ∈ kids,∀ depth left:Int,0<=depth->left<=1000000->AFun prog 51 [lv (a1h k),.d (.k (.int .i64 depth)),.d (.k (.int .i64 left))] (.d (.k (.int .i64 (a2o k depth left))))) :
  AFun prog 51 [lv (a1h (.mk op n kids)),.d (.k (.int .i64 depth)),.d (.k (.int .i64 left))] (.d (.k (.int .i64 (a2o (.mk op n kids) depth left)))):=by
 refine AFun.body (a0g (p:=kds [3] [] [])) func51 rfl call51 (by rw [ntmps51];simp) rfl fun hf H=>?_
 simp [ntmps51,results51,a0o,Calc.op,Calc.n,Calc.kids] at hf |-
 refine ⟨fun h=>?_,fun h1 h2 h3 h4=>?_⟩
 ·rw [a2o,if_pos (by omega)]
 ·have hsp:a2o (.mk op n kids) depth left=if (kids.length:Int) ≠ (if 6<=op then 2 else 0) \/ (op ≠ 1/\n ≠ 0) \/ n ≠ a3y n then -1 else a1y kids depth (left - 1):=by rw [a2o,if_neg (by omega)]
  rw [hsp]
  have hw1:IntKind.wrap .i64 (left - 1)=left - 1:=by rw [wrap64] <;> omega
  have hw2:IntKind.wrap .i64 (depth+1)=depth+1:=by rw [wrap64] <;> omega
  refine ⟨fun h6=>?_,fun h6=>?_⟩
  all_goals
   first | rw [if_pos h6] | rw [if_neg (show ¬ (6<=op) by omega)]
   refine AW.draw (a0g (p:=kds [3] [] [])) [(20,.n)] (.q 0<|.q 3<|.q 1<|.q 2<|.q 4<|.q 5<|.q 6<|.q 7<|.q 8<|.q 9<|.q 10<|.q 11<|.q 12<|.q 13<|.q 14<|.q 15<|.q 16<|.q 18<|.q 17<|.q 19<|.q 20<|.q 21<|.q 22<|.done) (by kernel_rfl) ?_
   simp [Calc.op,Calc.n,Calc.kids]
   refine ⟨by simp +contextual,FCg.afun (fun _=>a3x n) ?_⟩
   simp [hw1]
   refine ⟨by grind,by grind,fun e1 e2 e3=>?_⟩
   rw [if_neg (by grind)]
   refine AW.a0w (a0g (p:=kds [3] [] [])) (fun a:Nat × Int=>⟨[(1,.d (.k (.int .i64 depth))),(2,.d (.k (.int .i64 a.2))),(55,.d (.sl (kids.map a1h))),(56,.d (.k (.int .i64 kids.length))),(57,.d (.k (.int .i64 a.1)))],[],H⟩)
    (fun a=>kids.length - a.1) (fun a=>a.1<=kids.length/\a.2<=1000000/\a1y kids depth (left - 1)=a1y (kids.drop a.1) depth a.2) (0,left - 1) ⟨⟨by simp,by simp;omega,by simp⟩,by simp⟩ ?_
   rintro ⟨i,left'⟩ ⟨hi,hle,hI⟩
   simp only at hi hle hI
   simp
   refine ⟨fun h=>?_,fun h=>?_⟩
   ·simp [h,List.getElem?_eq_getElem h,a0o,hw2]
    refine EC.afun (by simpa [a0o] using ih kids[i] (List.getElem_mem h) (depth+1) left' (by omega) hle) ?_
    have hd:=List.drop_eq_getElem_cons h
    simp [wrap_succ h hf.1]
    rw [hI,hd,a1y]
    refine ⟨fun q=>by rw [if_pos q],fun q=>NX.go (i+1,a2o kids[i] (depth+1) left') (by simp;omega) ⟨h,?_,?_⟩ (by simp)⟩
    ·have:=c2s kids[i] (depth+1) left';simp;omega
    ·rw [if_neg (by omega)]
   ·have:kids.drop i=[]:=List.drop_eq_nil_of_le h
    rw [hI,this,a1y]
theorem b8w:∀ (c:Calc) (depth left:Int),0<=depth->left<=1000000->AFun prog 51 [lv (a1h c),.d (.k (.int .i64 depth)),.d (.k (.int .i64 left))] (.d (.k (.int .i64 (a2o c depth left))))
 | .mk op n kids,depth,left,hd,hl=>c8i op n kids depth left hd hl fun k hk depth left hd hl=>b8w k depth left hd hl
end Go.Aft
end
