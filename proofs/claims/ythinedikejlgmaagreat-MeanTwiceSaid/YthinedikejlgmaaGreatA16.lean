import Derived.Test.YthinedikejlgmaaGreatA09
import Derived.Test.YthinedikejlgmaaGreatProg
import Derived.Test.YthinedikejlgmaaGreatA15
set_option linter.all false
section
set_option maxRecDepth 20000
namespace Go.Aft
open Go.Proofs.Tryz
def ty1:aU:=⟨.func,1,[.nilFunc],8⟩
theorem ar2:ty1.ok prog 1:=aU.bw type1 underlying1 (by kernel_rfl)
def ty2:aU:=⟨.int .i64,1,[.int .i64 0],8⟩
theorem ar1:ty2.ok prog 2:=aU.bw type2 underlying2 (by kernel_rfl)
def ty3:aU:=⟨.int .i64,1,[.int .i64 0],8⟩
theorem ar0:ty3.ok prog 3:=aU.bw type3 underlying3 (by kernel_rfl)
def ty4:aU:=⟨.bool,1,[.bool false],1⟩
theorem aq9:ty4.ok prog 4:=aU.bw type4 underlying4 (by kernel_rfl)
def ty5:aU:=⟨.int .u8,1,[.int .u8 0],1⟩
theorem aq8:ty5.ok prog 5:=aU.bw type5 underlying5 (by kernel_rfl)
def ty9:aU:=⟨.str,1,[.string ⟨#[]⟩],16⟩
theorem aq7:ty9.ok prog 9:=aU.bw type9 underlying9 (by kernel_rfl)
def at8:aU:=⟨.iface true,1,[.nilIface],16⟩
theorem ZP:at8.ok prog 20:=aU.bw type20 underlying20 (by kernel_rfl)
def at7:aU:=⟨.int .i64,1,[.int .i64 0],8⟩
theorem ZO:at7.ok prog 22:=aU.bw type22 underlying22 (by kernel_rfl)
def at6:aU:=⟨.sl 25,1,[.slice none 0 0],24⟩
theorem ZN:at6.ok prog 23:=aU.bw type23 underlying23 (by kernel_rfl)
def at5:aU:=⟨.agg [(0,22),(1,3),(2,23)],3,[.int .i64 0,.int .i64 0,.slice none 0 0],40⟩
theorem ZM:at5.ok prog 25:=aU.bw type25 underlying25 (by kernel_rfl)
def at4:aU:=⟨.agg [(0,3),(1,3),(2,3)],3,[.int .i64 0,.int .i64 0,.int .i64 0],24⟩
theorem ZL:at4.ok prog 27:=aU.bw type27 underlying27 (by kernel_rfl)
def at3:aU:=⟨.int .i64,1,[.int .i64 0],8⟩
theorem ZK:at3.ok prog 28:=aU.bw type28 underlying28 (by kernel_rfl)
def at2:aU:=⟨.sl 86,1,[.slice none 0 0],24⟩
theorem ZJ:at2.ok prog 29:=aU.bw type29 underlying29 (by kernel_rfl)
def at1:aU:=⟨.sl 86,1,[.slice none 0 0],24⟩
theorem ZI:at1.ok prog 30:=aU.bw type30 underlying30 (by kernel_rfl)
def at0:aU:=⟨.agg [(0,3),(1,28),(2,30)],3,[.int .i64 0,.int .i64 0,.slice none 0 0],40⟩
theorem ZH:at0.ok prog 32:=aU.bw type32 underlying32 (by kernel_rfl)
def as9:aU:=⟨.int .i64,1,[.int .i64 0],8⟩
theorem ZG:as9.ok prog 33:=aU.bw type33 underlying33 (by kernel_rfl)
def as8:aU:=⟨.sl 9,1,[.slice none 0 0],24⟩
theorem ZF:as8.ok prog 39:=aU.bw type39 underlying39 (by kernel_rfl)
def as7:aU:=⟨.sl 70,1,[.slice none 0 0],24⟩
theorem ZE:as7.ok prog 40:=aU.bw type40 underlying40 (by kernel_rfl)
def as6:aU:=⟨.agg [(0,39),(1,40)],2,[.slice none 0 0,.slice none 0 0],48⟩
theorem ZD:as6.ok prog 42:=aU.bw type42 underlying42 (by kernel_rfl)
def as5:aU:=⟨.sl 82,1,[.slice none 0 0],24⟩
theorem ZC:as5.ok prog 43:=aU.bw type43 underlying43 (by kernel_rfl)
def as4:aU:=⟨.sl 94,1,[.slice none 0 0],24⟩
theorem ZB:as4.ok prog 44:=aU.bw type44 underlying44 (by kernel_rfl)
def as3:aU:=⟨.sl 30,1,[.slice none 0 0],24⟩
theorem ZA:as3.ok prog 53:=aU.bw type53 underlying53 (by kernel_rfl)
def as2:aU:=⟨.agg [(0,3),(1,3)],2,[.int .i64 0,.int .i64 0],16⟩
theorem Zz:as2.ok prog 61:=aU.bw type61 underlying61 (by kernel_rfl)
def as1:aU:=⟨.sl 68,1,[.slice none 0 0],24⟩
theorem Zy:as1.ok prog 64:=aU.bw type64 underlying64 (by kernel_rfl)
def as0:aU:=⟨.int .i64,1,[.int .i64 0],8⟩
theorem Zx:as0.ok prog 66:=aU.bw type66 underlying66 (by kernel_rfl)
def ar9:aU:=⟨.agg [(0,66),(1,9),(2,3),(3,28),(4,23),(5,64)],6,[.int .i64 0,.string ⟨#[]⟩,.int .i64 0,.int .i64 0,.slice none 0 0,.slice none 0 0],88⟩
theorem Zw:ar9.ok prog 68:=aU.bw type68 underlying68 (by kernel_rfl)
def ar8:aU:=⟨.agg [(0,9),(1,68)],7,[.string ⟨#[]⟩,.int .i64 0,.string ⟨#[]⟩,.int .i64 0,.int .i64 0,.slice none 0 0,.slice none 0 0],104⟩
theorem Zv:ar8.ok prog 70:=aU.bw type70 underlying70 (by kernel_rfl)
def ar7:aU:=⟨.int .u64,1,[.int .u64 0],8⟩
theorem Zu:ar7.ok prog 80:=aU.bw type80 underlying80 (by kernel_rfl)
def ar6:aU:=⟨.agg [(0,3),(1,3),(2,27)],5,[.int .i64 0,.int .i64 0,.int .i64 0,.int .i64 0,.int .i64 0],40⟩
theorem Zt:ar6.ok prog 82:=aU.bw type82 underlying82 (by kernel_rfl)
def ar5:aU:=⟨.agg [(0,27),(3,3)],4,[.int .i64 0,.int .i64 0,.int .i64 0,.int .i64 0],32⟩
theorem Zs:ar5.ok prog 86:=aU.bw type86 underlying86 (by kernel_rfl)
def ar4:aU:=⟨.sl 3,1,[.slice none 0 0],24⟩
theorem Zr:ar4.ok prog 94:=aU.bw type94 underlying94 (by kernel_rfl)
def ar3:aU:=⟨.func,1,[.nilFunc],8⟩
theorem Zq:ar3.ok prog 99:=aU.bw type99 underlying99 (by kernel_rfl)
def Yr:aU:=⟨.func,1,[.nilFunc],8⟩
theorem VA:Yr.ok prog 100:=aU.bw type100 underlying100 (by kernel_rfl)
def Yq:aU:=⟨.func,1,[.nilFunc],8⟩
theorem Vz:Yq.ok prog 115:=aU.bw type115 underlying115 (by kernel_rfl)
def Yp:aU:=⟨.ptr 122,1,[.pointer none],8⟩
theorem Vy:Yp.ok prog 116:=aU.bw type116 underlying116 (by kernel_rfl)
def Yo:aU:=⟨.map 9 30,1,[.map none],8⟩
theorem Vx:Yo.ok prog 118:=aU.bw type118 underlying118 (by kernel_rfl)
def Yn:aU:=⟨.map 9 3,1,[.map none],8⟩
theorem Vw:Yn.ok prog 119:=aU.bw type119 underlying119 (by kernel_rfl)
def Ym:aU:=⟨.map 66 200,1,[.map none],8⟩
theorem Vv:Ym.ok prog 120:=aU.bw type120 underlying120 (by kernel_rfl)
def Yl:aU:=⟨.agg [(0,42),(2,118),(3,119),(4,53),(5,120)],6,[.slice none 0 0,.slice none 0 0,.map none,.map none,.slice none 0 0,.map none],96⟩
theorem Vu:Yl.ok prog 122:=aU.bw type122 underlying122 (by kernel_rfl)
def Yk:aU:=⟨.ptr 195,1,[.pointer none],8⟩
theorem Vt:Yk.ok prog 131:=aU.bw type131 underlying131 (by kernel_rfl)
def Yj:aU:=⟨.ptr 214,1,[.pointer none],8⟩
theorem Vs:Yj.ok prog 143:=aU.bw type143 underlying143 (by kernel_rfl)
def Yi:aU:=⟨.map 9 9,1,[.map none],8⟩
theorem Vr:Yi.ok prog 145:=aU.bw type145 underlying145 (by kernel_rfl)
def Yh:aU:=⟨.func,1,[.nilFunc],8⟩
theorem Vq:Yh.ok prog 148:=aU.bw type148 underlying148 (by kernel_rfl)
def Yg:aU:=⟨.func,1,[.nilFunc],8⟩
theorem Vp:Yg.ok prog 153:=aU.bw type153 underlying153 (by kernel_rfl)
def Yf:aU:=⟨.map 3 4,1,[.map none],8⟩
theorem Vo:Yf.ok prog 156:=aU.bw type156 underlying156 (by kernel_rfl)
def Ye:aU:=⟨.func,1,[.nilFunc],8⟩
theorem Vn:Ye.ok prog 162:=aU.bw type162 underlying162 (by kernel_rfl)
def Yd:aU:=⟨.map 3 94,1,[.map none],8⟩
theorem Vm:Yd.ok prog 167:=aU.bw type167 underlying167 (by kernel_rfl)
def Yc:aU:=⟨.func,1,[.nilFunc],8⟩
theorem Vl:Yc.ok prog 172:=aU.bw type172 underlying172 (by kernel_rfl)
def Yb:aU:=⟨.func,1,[.nilFunc],8⟩
theorem Vk:Yb.ok prog 175:=aU.bw type175 underlying175 (by kernel_rfl)
def Ya:aU:=⟨.sl 178,1,[.slice none 0 0],24⟩
theorem Vj:Ya.ok prog 176:=aU.bw type176 underlying176 (by kernel_rfl)
def X9:aU:=⟨.sl 4,1,[.slice none 0 0],24⟩
theorem Vi:X9.ok prog 178:=aU.bw type178 underlying178 (by kernel_rfl)
def X8:aU:=⟨.map 186 4,1,[.map none],8⟩
theorem Vh:X8.ok prog 179:=aU.bw type179 underlying179 (by kernel_rfl)
def X7:aU:=⟨.sl 184,1,[.slice none 0 0],24⟩
theorem Vg:X7.ok prog 180:=aU.bw type180 underlying180 (by kernel_rfl)
def X6:aU:=⟨.int .i64,1,[.int .i64 0],8⟩
theorem Vf:X6.ok prog 182:=aU.bw type182 underlying182 (by kernel_rfl)
def X5:aU:=⟨.agg [(0,182),(1,3),(2,3),(3,3),(4,27)],7,[.int .i64 0,.int .i64 0,.int .i64 0,.int .i64 0,.int .i64 0,.int .i64 0,.int .i64 0],56⟩
theorem Ve:X5.ok prog 184:=aU.bw type184 underlying184 (by kernel_rfl)
def X4:aU:=⟨.func,1,[.nilFunc],8⟩
theorem Vd:X4.ok prog 185:=aU.bw type185 underlying185 (by kernel_rfl)
def X3:aU:=⟨.arr 2 3,2,[.int .i64 0,.int .i64 0],16⟩
theorem Vc:X3.ok prog 186:=aU.bw type186 underlying186 (by kernel_rfl)
def X2:aU:=⟨.func,1,[.nilFunc],8⟩
theorem Vb:X2.ok prog 189:=aU.bw type189 underlying189 (by kernel_rfl)
def X1:aU:=⟨.agg [],0,[],0⟩
theorem Va:X1.ok prog 191:=aU.bw type191 underlying191 (by kernel_rfl)
def X0:aU:=⟨.agg [(0,42),(2,53),(3,53)],4,[.slice none 0 0,.slice none 0 0,.slice none 0 0,.slice none 0 0],96⟩
theorem U9:X0.ok prog 195:=aU.bw type195 underlying195 (by kernel_rfl)
def XZ:aU:=⟨.func,1,[.nilFunc],8⟩
theorem U8:XZ.ok prog 198:=aU.bw type198 underlying198 (by kernel_rfl)
def XY:aU:=⟨.func,1,[.nilFunc],8⟩
theorem U7:XY.ok prog 200:=aU.bw type200 underlying200 (by kernel_rfl)
def XX:aU:=⟨.agg [],0,[],0⟩
theorem U6:XX.ok prog 207:=aU.bw type207 underlying207 (by kernel_rfl)
def XW:aU:=⟨.map 66 243,1,[.map none],8⟩
theorem U5:XW.ok prog 209:=aU.bw type209 underlying209 (by kernel_rfl)
def XV:aU:=⟨.agg [(0,119),(1,119)],2,[.map none,.map none],16⟩
theorem U4:XV.ok prog 212:=aU.bw type212 underlying212 (by kernel_rfl)
def XU:aU:=⟨.agg [(0,212),(2,209),(3,3),(4,3)],5,[.map none,.map none,.map none,.int .i64 0,.int .i64 0],40⟩
theorem U3:XU.ok prog 214:=aU.bw type214 underlying214 (by kernel_rfl)
def XT:aU:=⟨.func,1,[.nilFunc],8⟩
theorem U2:XT.ok prog 218:=aU.bw type218 underlying218 (by kernel_rfl)
def XS:aU:=⟨.func,1,[.nilFunc],8⟩
theorem U1:XS.ok prog 223:=aU.bw type223 underlying223 (by kernel_rfl)
def XR:aU:=⟨.agg [(0,3),(1,3),(2,3)],3,[.int .i64 0,.int .i64 0,.int .i64 0],24⟩
theorem U0:XR.ok prog 225:=aU.bw type225 underlying225 (by kernel_rfl)
def XQ:aU:=⟨.agg [(0,39),(1,39),(2,3)],3,[.slice none 0 0,.slice none 0 0,.int .i64 0],56⟩
theorem UZ:XQ.ok prog 231:=aU.bw type231 underlying231 (by kernel_rfl)
def XP:aU:=⟨.map 27 3,1,[.map none],8⟩
theorem UY:XP.ok prog 236:=aU.bw type236 underlying236 (by kernel_rfl)
def XN:aU:=⟨.func,1,[.nilFunc],8⟩
theorem UX:XN.ok prog 238:=aU.bw type238 underlying238 (by kernel_rfl)
def XM:aU:=⟨.func,1,[.nilFunc],8⟩
theorem UW:XM.ok prog 239:=aU.bw type239 underlying239 (by kernel_rfl)
def XL:aU:=⟨.agg [(0,3),(1,3),(2,4),(3,4),(4,3),(5,3)],6,[.int .i64 0,.int .i64 0,.bool false,.bool false,.int .i64 0,.int .i64 0],40⟩
theorem UU:XL.ok prog 243:=aU.bw type243 underlying243 (by kernel_rfl)
def XK:aU:=⟨.sl 5,1,[.slice none 0 0],24⟩
theorem UT:XK.ok prog 246:=aU.bw type246 underlying246 (by kernel_rfl)
def XJ:aU:=⟨.map 9 4,1,[.map none],8⟩
theorem US:XJ.ok prog 247:=aU.bw type247 underlying247 (by kernel_rfl)
def XI:aU:=⟨.int .u64,1,[.int .u64 0],8⟩
theorem UR:XI.ok prog 252:=aU.bw type252 underlying252 (by kernel_rfl)
def XH:aU:=⟨.agg [(0,3),(1,3),(2,4),(3,4),(4,3),(5,3)],6,[.int .i64 0,.int .i64 0,.bool false,.bool false,.int .i64 0,.int .i64 0],40⟩
theorem UQ:XH.ok prog 256:=aU.bw type256 underlying256 (by kernel_rfl)
def XG:aU:=⟨.func,1,[.nilFunc],8⟩
theorem UP:XG.ok prog 265:=aU.bw type265 underlying265 (by kernel_rfl)
def XF:aU:=⟨.func,1,[.nilFunc],8⟩
theorem UO:XF.ok prog 267:=aU.bw type267 underlying267 (by kernel_rfl)
def XE:aU:=⟨.map 3 29,1,[.map none],8⟩
theorem UN:XE.ok prog 269:=aU.bw type269 underlying269 (by kernel_rfl)
def XD:aU:=⟨.int .i64,1,[.int .i64 0],8⟩
theorem UM:XD.ok prog 274:=aU.bw type274 underlying274 (by kernel_rfl)
def XC:aU:=⟨.int .u32,1,[.int .u32 0],4⟩
theorem UL:XC.ok prog 282:=aU.bw type282 underlying282 (by kernel_rfl)
def XB:aU:=⟨.map 182 288,1,[.map none],8⟩
theorem UK:XB.ok prog 285:=aU.bw type285 underlying285 (by kernel_rfl)
def XA:aU:=⟨.func,1,[.nilFunc],8⟩
theorem UJ:XA.ok prog 288:=aU.bw type288 underlying288 (by kernel_rfl)
def Xz:aU:=⟨.agg [(0,3),(1,3)],2,[.int .i64 0,.int .i64 0],16⟩
theorem UI:Xz.ok prog 291:=aU.bw type291 underlying291 (by kernel_rfl)
def Xy:aU:=⟨.func,1,[.nilFunc],8⟩
theorem UH:Xy.ok prog 299:=aU.bw type299 underlying299 (by kernel_rfl)
def Xx:aU:=⟨.func,1,[.nilFunc],8⟩
theorem UG:Xx.ok prog 300:=aU.bw type300 underlying300 (by kernel_rfl)
def Xw:aU:=⟨.int .u64,1,[.int .u64 0],8⟩
theorem UF:Xw.ok prog 302:=aU.bw type302 underlying302 (by kernel_rfl)
def Xv:aU:=⟨.ptr 3,1,[.pointer none],8⟩
theorem UE:Xv.ok prog 306:=aU.bw type306 underlying306 (by kernel_rfl)
def Xu:aU:=⟨.agg [],0,[],0⟩
theorem UD:Xu.ok prog 308:=aU.bw type308 underlying308 (by kernel_rfl)
def Xt:aU:=⟨.func,1,[.nilFunc],8⟩
theorem UC:Xt.ok prog 312:=aU.bw type312 underlying312 (by kernel_rfl)
def Xs:aU:=⟨.ptr 302,1,[.pointer none],8⟩
theorem UB:Xs.ok prog 313:=aU.bw type313 underlying313 (by kernel_rfl)
def bl:List (Nat×aU):=[(1,ty1),(2,ty2),(3,ty3),(4,ty4),(5,ty5),(9,ty9),(20,at8),(22,at7),(23,at6),(25,at5),(27,at4),(28,at3),(29,at2),(30,at1),(32,at0),(33,as9),(39,as8),(40,as7),(42,as6),(43,as5),(44,as4),(53,as3),(61,as2),(64,as1),(66,as0),(68,ar9),(70,ar8),(80,ar7),(82,ar6),(86,ar5),(94,ar4),(99,ar3),(100,Yr),(115,Yq),(116,Yp),(118,Yo),(119,Yn),(120,Ym),(122,Yl),(131,Yk),(143,Yj),(145,Yi),(148,Yh),(153,Yg),(156,Yf),(162,Ye),(167,Yd),(172,Yc),(175,Yb),(176,Ya),(178,X9),(179,X8),(180,X7),(182,X6),(184,X5),(185,X4),(186,X3),(189,X2),(191,X1),(195,X0),(198,XZ),(200,XY),(207,XX),(209,XW),(212,XV),(214,XU),(218,XT),(223,XS),(225,XR),(231,XQ),(236,XP),(238,XN),(239,XM),(243,XL),(246,XK),(247,XJ),(252,XI),(256,XH),(265,XG),(267,XF),(269,XE),(274,XD),(282,XC),(285,XB),(288,XA),(291,Xz),(299,Xy),(300,Xx),(302,Xw),(306,Xv),(308,Xu),(312,Xt),(313,Xs)]
theorem vt:nA prog (bW bl):=Xa (forall_cons (P:=λp:Nat×aU=>p.2.ok prog p.1) ar2<|forall_cons (P:=λp:Nat×aU=>p.2.ok prog p.1) ar1<|forall_cons (P:=λp:Nat×aU=>p.2.ok prog p.1) ar0<|forall_cons (P:=λp:Nat×aU=>p.2.ok prog p.1) aq9<|forall_cons (P:=λp:Nat×aU=>p.2.ok prog p.1) aq8<|forall_cons (P:=λp:Nat×aU=>p.2.ok prog p.1) aq7<|forall_cons (P:=λp:Nat×aU=>p.2.ok prog p.1) ZP<|forall_cons (P:=λp:Nat×aU=>p.2.ok prog p.1) ZO<|forall_cons (P:=λp:Nat×aU=>p.2.ok prog p.1) ZN<|forall_cons (P:=λp:Nat×aU=>p.2.ok prog p.1) ZM<|forall_cons (P:=λp:Nat×aU=>p.2.ok prog p.1) ZL<|forall_cons (P:=λp:Nat×aU=>p.2.ok prog p.1) ZK<|forall_cons (P:=λp:Nat×aU=>p.2.ok prog p.1) ZJ<|forall_cons (P:=λp:Nat×aU=>p.2.ok prog p.1) ZI<|forall_cons (P:=λp:Nat×aU=>p.2.ok prog p.1) ZH<|forall_cons (P:=λp:Nat×aU=>p.2.ok prog p.1) ZG<|forall_cons (P:=λp:Nat×aU=>p.2.ok prog p.1) ZF<|forall_cons (P:=λp:Nat×aU=>p.2.ok prog p.1) ZE<|forall_cons (P:=λp:Nat×aU=>p.2.ok prog p.1) ZD<|forall_cons (P:=λp:Nat×aU=>p.2.ok prog p.1) ZC<|forall_cons (P:=λp:Nat×aU=>p.2.ok prog p.1) ZB<|forall_cons (P:=λp:Nat×aU=>p.2.ok prog p.1) ZA<|forall_cons (P:=λp:Nat×aU=>p.2.ok prog p.1) Zz<|forall_cons (P:=λp:Nat×aU=>p.2.ok prog p.1) Zy<|forall_cons (P:=λp:Nat×aU=>p.2.ok prog p.1) Zx<|forall_cons (P:=λp:Nat×aU=>p.2.ok prog p.1) Zw<|forall_cons (P:=λp:Nat×aU=>p.2.ok prog p.1) Zv<|forall_cons (P:=λp:Nat×aU=>p.2.ok prog p.1) Zu<|forall_cons (P:=λp:Nat×aU=>p.2.ok prog p.1) Zt<|forall_cons (P:=λp:Nat×aU=>p.2.ok prog p.1) Zs<|forall_cons (P:=λp:Nat×aU=>p.2.ok prog p.1) Zr<|forall_cons (P:=λp:Nat×aU=>p.2.ok prog p.1) Zq<|forall_cons (P:=λp:Nat×aU=>p.2.ok prog p.1) VA<|forall_cons (P:=λp:Nat×aU=>p.2.ok prog p.1) Vz<|forall_cons (P:=λp:Nat×aU=>p.2.ok prog p.1) Vy<|forall_cons (P:=λp:Nat×aU=>p.2.ok prog p.1) Vx<|forall_cons (P:=λp:Nat×aU=>p.2.ok prog p.1) Vw<|forall_cons (P:=λp:Nat×aU=>p.2.ok prog p.1) Vv<|forall_cons (P:=λp:Nat×aU=>p.2.ok prog p.1) Vu<|forall_cons (P:=λp:Nat×aU=>p.2.ok prog p.1) Vt<|forall_cons (P:=λp:Nat×aU=>p.2.ok prog p.1) Vs<|forall_cons (P:=λp:Nat×aU=>p.2.ok prog p.1) Vr<|forall_cons (P:=λp:Nat×aU=>p.2.ok prog p.1) Vq<|forall_cons (P:=λp:Nat×aU=>p.2.ok prog p.1) Vp<|forall_cons (P:=λp:Nat×aU=>p.2.ok prog p.1) Vo<|forall_cons (P:=λp:Nat×aU=>p.2.ok prog p.1) Vn<|forall_cons (P:=λp:Nat×aU=>p.2.ok prog p.1) Vm<|forall_cons (P:=λp:Nat×aU=>p.2.ok prog p.1) Vl<|forall_cons (P:=λp:Nat×aU=>p.2.ok prog p.1) Vk<|forall_cons (P:=λp:Nat×aU=>p.2.ok prog p.1) Vj<|forall_cons (P:=λp:Nat×aU=>p.2.ok prog p.1) Vi<|forall_cons (P:=λp:Nat×aU=>p.2.ok prog p.1) Vh<|forall_cons (P:=λp:Nat×aU=>p.2.ok prog p.1) Vg<|forall_cons (P:=λp:Nat×aU=>p.2.ok prog p.1) Vf<|forall_cons (P:=λp:Nat×aU=>p.2.ok prog p.1) Ve<|forall_cons (P:=λp:Nat×aU=>p.2.ok prog p.1) Vd<|forall_cons (P:=λp:Nat×aU=>p.2.ok prog p.1) Vc<|forall_cons (P:=λp:Nat×aU=>p.2.ok prog p.1) Vb<|forall_cons (P:=λp:Nat×aU=>p.2.ok prog p.1) Va<|forall_cons (P:=λp:Nat×aU=>p.2.ok prog p.1) U9<|forall_cons (P:=λp:Nat×aU=>p.2.ok prog p.1) U8<|forall_cons (P:=λp:Nat×aU=>p.2.ok prog p.1) U7<|forall_cons (P:=λp:Nat×aU=>p.2.ok prog p.1) U6<|forall_cons (P:=λp:Nat×aU=>p.2.ok prog p.1) U5<|forall_cons (P:=λp:Nat×aU=>p.2.ok prog p.1) U4<|forall_cons (P:=λp:Nat×aU=>p.2.ok prog p.1) U3<|forall_cons (P:=λp:Nat×aU=>p.2.ok prog p.1) U2<|forall_cons (P:=λp:Nat×aU=>p.2.ok prog p.1) U1<|forall_cons (P:=λp:Nat×aU=>p.2.ok prog p.1) U0<|forall_cons (P:=λp:Nat×aU=>p.2.ok prog p.1) UZ<|forall_cons (P:=λp:Nat×aU=>p.2.ok prog p.1) UY<|forall_cons (P:=λp:Nat×aU=>p.2.ok prog p.1) UX<|forall_cons (P:=λp:Nat×aU=>p.2.ok prog p.1) UW<|forall_cons (P:=λp:Nat×aU=>p.2.ok prog p.1) UU<|forall_cons (P:=λp:Nat×aU=>p.2.ok prog p.1) UT<|forall_cons (P:=λp:Nat×aU=>p.2.ok prog p.1) US<|forall_cons (P:=λp:Nat×aU=>p.2.ok prog p.1) UR<|forall_cons (P:=λp:Nat×aU=>p.2.ok prog p.1) UQ<|forall_cons (P:=λp:Nat×aU=>p.2.ok prog p.1) UP<|forall_cons (P:=λp:Nat×aU=>p.2.ok prog p.1) UO<|forall_cons (P:=λp:Nat×aU=>p.2.ok prog p.1) UN<|forall_cons (P:=λp:Nat×aU=>p.2.ok prog p.1) UM<|forall_cons (P:=λp:Nat×aU=>p.2.ok prog p.1) UL<|forall_cons (P:=λp:Nat×aU=>p.2.ok prog p.1) UK<|forall_cons (P:=λp:Nat×aU=>p.2.ok prog p.1) UJ<|forall_cons (P:=λp:Nat×aU=>p.2.ok prog p.1) UI<|forall_cons (P:=λp:Nat×aU=>p.2.ok prog p.1) UH<|forall_cons (P:=λp:Nat×aU=>p.2.ok prog p.1) UG<|forall_cons (P:=λp:Nat×aU=>p.2.ok prog p.1) UF<|forall_cons (P:=λp:Nat×aU=>p.2.ok prog p.1) UE<|forall_cons (P:=λp:Nat×aU=>p.2.ok prog p.1) UD<|forall_cons (P:=λp:Nat×aU=>p.2.ok prog p.1) UC<|forall_cons (P:=λp:Nat×aU=>p.2.ok prog p.1) UB<|forall_nil)
@[simp] theorem bF9:bW bl 1=some ⟨.func,1,[.nilFunc],8⟩:=by as_aux_lemma=>kernel_rfl
@[simp] theorem bF8:bW bl 2=some ⟨.int .i64,1,[.int .i64 0],8⟩:=by as_aux_lemma=>kernel_rfl
@[simp] theorem Hi:bW bl 3=some ⟨.int .i64,1,[.int .i64 0],8⟩:=by as_aux_lemma=>kernel_rfl
@[simp] theorem bF7:bW bl 4=some ⟨.bool,1,[.bool false],1⟩:=by as_aux_lemma=>kernel_rfl
@[simp] theorem bF6:bW bl 5=some ⟨.int .u8,1,[.int .u8 0],1⟩:=by as_aux_lemma=>kernel_rfl
@[simp] theorem VB:bW bl 9=some ⟨.str,1,[.string ⟨#[]⟩],16⟩:=by as_aux_lemma=>kernel_rfl
@[simp] theorem by1:bW bl 20=some ⟨.iface true,1,[.nilIface],16⟩:=by as_aux_lemma=>kernel_rfl
@[simp] theorem by0:bW bl 22=some ⟨.int .i64,1,[.int .i64 0],8⟩:=by as_aux_lemma=>kernel_rfl
@[simp] theorem Q7:bW bl 23=some ⟨.sl 25,1,[.slice none 0 0],24⟩:=by as_aux_lemma=>kernel_rfl
@[simp] theorem Q6:bW bl 25=some ⟨.agg [(0,22),(1,3),(2,23)],3,[.int .i64 0,.int .i64 0,.slice none 0 0],40⟩:=by as_aux_lemma=>kernel_rfl
@[simp] theorem bx9:bW bl 27=some ⟨.agg [(0,3),(1,3),(2,3)],3,[.int .i64 0,.int .i64 0,.int .i64 0],24⟩:=by as_aux_lemma=>kernel_rfl
@[simp] theorem bx8:bW bl 28=some ⟨.int .i64,1,[.int .i64 0],8⟩:=by as_aux_lemma=>kernel_rfl
@[simp] theorem fk:bW bl 29=some ⟨.sl 86,1,[.slice none 0 0],24⟩:=by as_aux_lemma=>kernel_rfl
@[simp] theorem vu:bW bl 30=some ⟨.sl 86,1,[.slice none 0 0],24⟩:=by as_aux_lemma=>kernel_rfl
@[simp] theorem bx7:bW bl 32=some ⟨.agg [(0,3),(1,28),(2,30)],3,[.int .i64 0,.int .i64 0,.slice none 0 0],40⟩:=by as_aux_lemma=>kernel_rfl
@[simp] theorem bx6:bW bl 33=some ⟨.int .i64,1,[.int .i64 0],8⟩:=by as_aux_lemma=>kernel_rfl
@[simp] theorem Ng:bW bl 39=some ⟨.sl 9,1,[.slice none 0 0],24⟩:=by as_aux_lemma=>kernel_rfl
@[simp] theorem bx5:bW bl 40=some ⟨.sl 70,1,[.slice none 0 0],24⟩:=by as_aux_lemma=>kernel_rfl
@[simp] theorem bx4:bW bl 42=some ⟨.agg [(0,39),(1,40)],2,[.slice none 0 0,.slice none 0 0],48⟩:=by as_aux_lemma=>kernel_rfl
@[simp] theorem Q5:bW bl 43=some ⟨.sl 82,1,[.slice none 0 0],24⟩:=by as_aux_lemma=>kernel_rfl
@[simp] theorem zT:bW bl 44=some ⟨.sl 94,1,[.slice none 0 0],24⟩:=by as_aux_lemma=>kernel_rfl
@[simp] theorem Q4:bW bl 53=some ⟨.sl 30,1,[.slice none 0 0],24⟩:=by as_aux_lemma=>kernel_rfl
@[simp] theorem bx3:bW bl 61=some ⟨.agg [(0,3),(1,3)],2,[.int .i64 0,.int .i64 0],16⟩:=by as_aux_lemma=>kernel_rfl
@[simp] theorem Dl:bW bl 64=some ⟨.sl 68,1,[.slice none 0 0],24⟩:=by as_aux_lemma=>kernel_rfl
@[simp] theorem bx2:bW bl 66=some ⟨.int .i64,1,[.int .i64 0],8⟩:=by as_aux_lemma=>kernel_rfl
@[simp] theorem Dk:bW bl 68=some ⟨.agg [(0,66),(1,9),(2,3),(3,28),(4,23),(5,64)],6,[.int .i64 0,.string ⟨#[]⟩,.int .i64 0,.int .i64 0,.slice none 0 0,.slice none 0 0],88⟩:=by as_aux_lemma=>kernel_rfl
@[simp] theorem bx1:bW bl 70=some ⟨.agg [(0,9),(1,68)],7,[.string ⟨#[]⟩,.int .i64 0,.string ⟨#[]⟩,.int .i64 0,.int .i64 0,.slice none 0 0,.slice none 0 0],104⟩:=by as_aux_lemma=>kernel_rfl
@[simp] theorem bx0:bW bl 80=some ⟨.int .u64,1,[.int .u64 0],8⟩:=by as_aux_lemma=>kernel_rfl
@[simp] theorem Q3:bW bl 82=some ⟨.agg [(0,3),(1,3),(2,27)],5,[.int .i64 0,.int .i64 0,.int .i64 0,.int .i64 0,.int .i64 0],40⟩:=by as_aux_lemma=>kernel_rfl
@[simp] theorem dZ:bW bl 86=some ⟨.agg [(0,27),(3,3)],4,[.int .i64 0,.int .i64 0,.int .i64 0,.int .i64 0],32⟩:=by as_aux_lemma=>kernel_rfl
@[simp] theorem mB:bW bl 94=some ⟨.sl 3,1,[.slice none 0 0],24⟩:=by as_aux_lemma=>kernel_rfl
@[simp] theorem bw9:bW bl 99=some ⟨.func,1,[.nilFunc],8⟩:=by as_aux_lemma=>kernel_rfl
@[simp] theorem bf9:bW bl 100=some ⟨.func,1,[.nilFunc],8⟩:=by as_aux_lemma=>kernel_rfl
@[simp] theorem bf8:bW bl 115=some ⟨.func,1,[.nilFunc],8⟩:=by as_aux_lemma=>kernel_rfl
@[simp] theorem bf7:bW bl 116=some ⟨.ptr 122,1,[.pointer none],8⟩:=by as_aux_lemma=>kernel_rfl
@[simp] theorem bf6:bW bl 118=some ⟨.map 9 30,1,[.map none],8⟩:=by as_aux_lemma=>kernel_rfl
@[simp] theorem bf5:bW bl 119=some ⟨.map 9 3,1,[.map none],8⟩:=by as_aux_lemma=>kernel_rfl
@[simp] theorem bf4:bW bl 120=some ⟨.map 66 200,1,[.map none],8⟩:=by as_aux_lemma=>kernel_rfl
@[simp] theorem bf3:bW bl 122=some ⟨.agg [(0,42),(2,118),(3,119),(4,53),(5,120)],6,[.slice none 0 0,.slice none 0 0,.map none,.map none,.slice none 0 0,.map none],96⟩:=by as_aux_lemma=>kernel_rfl
@[simp] theorem bf2:bW bl 131=some ⟨.ptr 195,1,[.pointer none],8⟩:=by as_aux_lemma=>kernel_rfl
@[simp] theorem bf1:bW bl 143=some ⟨.ptr 214,1,[.pointer none],8⟩:=by as_aux_lemma=>kernel_rfl
@[simp] theorem bf0:bW bl 145=some ⟨.map 9 9,1,[.map none],8⟩:=by as_aux_lemma=>kernel_rfl
@[simp] theorem be9:bW bl 148=some ⟨.func,1,[.nilFunc],8⟩:=by as_aux_lemma=>kernel_rfl
@[simp] theorem be8:bW bl 153=some ⟨.func,1,[.nilFunc],8⟩:=by as_aux_lemma=>kernel_rfl
@[simp] theorem be7:bW bl 156=some ⟨.map 3 4,1,[.map none],8⟩:=by as_aux_lemma=>kernel_rfl
@[simp] theorem be6:bW bl 162=some ⟨.func,1,[.nilFunc],8⟩:=by as_aux_lemma=>kernel_rfl
@[simp] theorem be5:bW bl 167=some ⟨.map 3 94,1,[.map none],8⟩:=by as_aux_lemma=>kernel_rfl
@[simp] theorem be4:bW bl 172=some ⟨.func,1,[.nilFunc],8⟩:=by as_aux_lemma=>kernel_rfl
@[simp] theorem be3:bW bl 175=some ⟨.func,1,[.nilFunc],8⟩:=by as_aux_lemma=>kernel_rfl
@[simp] theorem be2:bW bl 176=some ⟨.sl 178,1,[.slice none 0 0],24⟩:=by as_aux_lemma=>kernel_rfl
@[simp] theorem be1:bW bl 178=some ⟨.sl 4,1,[.slice none 0 0],24⟩:=by as_aux_lemma=>kernel_rfl
@[simp] theorem be0:bW bl 179=some ⟨.map 186 4,1,[.map none],8⟩:=by as_aux_lemma=>kernel_rfl
@[simp] theorem ZR:bW bl 180=some ⟨.sl 184,1,[.slice none 0 0],24⟩:=by as_aux_lemma=>kernel_rfl
@[simp] theorem bd9:bW bl 182=some ⟨.int .i64,1,[.int .i64 0],8⟩:=by as_aux_lemma=>kernel_rfl
@[simp] theorem ZQ:bW bl 184=some ⟨.agg [(0,182),(1,3),(2,3),(3,3),(4,27)],7,[.int .i64 0,.int .i64 0,.int .i64 0,.int .i64 0,.int .i64 0,.int .i64 0,.int .i64 0],56⟩:=by as_aux_lemma=>kernel_rfl
@[simp] theorem bd8:bW bl 185=some ⟨.func,1,[.nilFunc],8⟩:=by as_aux_lemma=>kernel_rfl
@[simp] theorem bd7:bW bl 186=some ⟨.arr 2 3,2,[.int .i64 0,.int .i64 0],16⟩:=by as_aux_lemma=>kernel_rfl
@[simp] theorem bd6:bW bl 189=some ⟨.func,1,[.nilFunc],8⟩:=by as_aux_lemma=>kernel_rfl
@[simp] theorem bd5:bW bl 191=some ⟨.agg [],0,[],0⟩:=by as_aux_lemma=>kernel_rfl
@[simp] theorem bd4:bW bl 195=some ⟨.agg [(0,42),(2,53),(3,53)],4,[.slice none 0 0,.slice none 0 0,.slice none 0 0,.slice none 0 0],96⟩:=by as_aux_lemma=>kernel_rfl
@[simp] theorem bd3:bW bl 198=some ⟨.func,1,[.nilFunc],8⟩:=by as_aux_lemma=>kernel_rfl
@[simp] theorem bd2:bW bl 200=some ⟨.func,1,[.nilFunc],8⟩:=by as_aux_lemma=>kernel_rfl
@[simp] theorem bd1:bW bl 207=some ⟨.agg [],0,[],0⟩:=by as_aux_lemma=>kernel_rfl
@[simp] theorem bd0:bW bl 209=some ⟨.map 66 243,1,[.map none],8⟩:=by as_aux_lemma=>kernel_rfl
@[simp] theorem bc9:bW bl 212=some ⟨.agg [(0,119),(1,119)],2,[.map none,.map none],16⟩:=by as_aux_lemma=>kernel_rfl
@[simp] theorem bc8:bW bl 214=some ⟨.agg [(0,212),(2,209),(3,3),(4,3)],5,[.map none,.map none,.map none,.int .i64 0,.int .i64 0],40⟩:=by as_aux_lemma=>kernel_rfl
@[simp] theorem bc7:bW bl 218=some ⟨.func,1,[.nilFunc],8⟩:=by as_aux_lemma=>kernel_rfl
@[simp] theorem bc6:bW bl 223=some ⟨.func,1,[.nilFunc],8⟩:=by as_aux_lemma=>kernel_rfl
@[simp] theorem bc5:bW bl 225=some ⟨.agg [(0,3),(1,3),(2,3)],3,[.int .i64 0,.int .i64 0,.int .i64 0],24⟩:=by as_aux_lemma=>kernel_rfl
@[simp] theorem bc4:bW bl 231=some ⟨.agg [(0,39),(1,39),(2,3)],3,[.slice none 0 0,.slice none 0 0,.int .i64 0],56⟩:=by as_aux_lemma=>kernel_rfl
@[simp] theorem bc3:bW bl 236=some ⟨.map 27 3,1,[.map none],8⟩:=by as_aux_lemma=>kernel_rfl
@[simp] theorem bc2:bW bl 238=some ⟨.func,1,[.nilFunc],8⟩:=by as_aux_lemma=>kernel_rfl
@[simp] theorem bc1:bW bl 239=some ⟨.func,1,[.nilFunc],8⟩:=by as_aux_lemma=>kernel_rfl
@[simp] theorem bc0:bW bl 243=some ⟨.agg [(0,3),(1,3),(2,4),(3,4),(4,3),(5,3)],6,[.int .i64 0,.int .i64 0,.bool false,.bool false,.int .i64 0,.int .i64 0],40⟩:=by as_aux_lemma=>kernel_rfl
@[simp] theorem bb9:bW bl 246=some ⟨.sl 5,1,[.slice none 0 0],24⟩:=by as_aux_lemma=>kernel_rfl
@[simp] theorem bb8:bW bl 247=some ⟨.map 9 4,1,[.map none],8⟩:=by as_aux_lemma=>kernel_rfl
@[simp] theorem bb7:bW bl 252=some ⟨.int .u64,1,[.int .u64 0],8⟩:=by as_aux_lemma=>kernel_rfl
@[simp] theorem bb6:bW bl 256=some ⟨.agg [(0,3),(1,3),(2,4),(3,4),(4,3),(5,3)],6,[.int .i64 0,.int .i64 0,.bool false,.bool false,.int .i64 0,.int .i64 0],40⟩:=by as_aux_lemma=>kernel_rfl
@[simp] theorem bb5:bW bl 265=some ⟨.func,1,[.nilFunc],8⟩:=by as_aux_lemma=>kernel_rfl
@[simp] theorem bb4:bW bl 267=some ⟨.func,1,[.nilFunc],8⟩:=by as_aux_lemma=>kernel_rfl
@[simp] theorem bb3:bW bl 269=some ⟨.map 3 29,1,[.map none],8⟩:=by as_aux_lemma=>kernel_rfl
@[simp] theorem bb2:bW bl 274=some ⟨.int .i64,1,[.int .i64 0],8⟩:=by as_aux_lemma=>kernel_rfl
@[simp] theorem bb1:bW bl 282=some ⟨.int .u32,1,[.int .u32 0],4⟩:=by as_aux_lemma=>kernel_rfl
@[simp] theorem bb0:bW bl 285=some ⟨.map 182 288,1,[.map none],8⟩:=by as_aux_lemma=>kernel_rfl
@[simp] theorem ba9:bW bl 288=some ⟨.func,1,[.nilFunc],8⟩:=by as_aux_lemma=>kernel_rfl
@[simp] theorem ba8:bW bl 291=some ⟨.agg [(0,3),(1,3)],2,[.int .i64 0,.int .i64 0],16⟩:=by as_aux_lemma=>kernel_rfl
@[simp] theorem ba7:bW bl 299=some ⟨.func,1,[.nilFunc],8⟩:=by as_aux_lemma=>kernel_rfl
@[simp] theorem ba6:bW bl 300=some ⟨.func,1,[.nilFunc],8⟩:=by as_aux_lemma=>kernel_rfl
@[simp] theorem ba5:bW bl 302=some ⟨.int .u64,1,[.int .u64 0],8⟩:=by as_aux_lemma=>kernel_rfl
@[simp] theorem ba4:bW bl 306=some ⟨.ptr 3,1,[.pointer none],8⟩:=by as_aux_lemma=>kernel_rfl
@[simp] theorem ba3:bW bl 308=some ⟨.agg [],0,[],0⟩:=by as_aux_lemma=>kernel_rfl
@[simp] theorem ba2:bW bl 312=some ⟨.func,1,[.nilFunc],8⟩:=by as_aux_lemma=>kernel_rfl
@[simp] theorem ba1:bW bl 313=some ⟨.ptr 302,1,[.pointer none],8⟩:=by as_aux_lemma=>kernel_rfl
def xC(bO:Nat->Kd):Cx:=⟨bW bl,λ_=>none,bO,λ_ _=>none,RD.any⟩
@[simp] theorem bs2 {p:Nat->Kd}:(xC p).ty=bW bl:=rfl
@[simp] theorem aS8 {p:Nat->Kd} (t:TypeId):(xC p).bR t=none:=rfl
@[simp] theorem aS7 {p:Nat->Kd} (t:Nat):(xC p).bO t=p t:=rfl
@[simp] theorem aG2 {p:Nat->Kd} (f:FuncId) (a:List LV):(xC p).spec f a=none:=rfl
@[simp] theorem bs3 {p:Nat->Kd}:(xC p).rd=RD.any:=rfl
theorem au{p:Nat->Kd}:(xC p).ok prog:=⟨vt,λT ks h=>(by cases h),λT ks h=>(by cases h),λf args pre v h=>(by cases h),(by kernel_rfl)⟩
def bf(im pu ve:List Nat):Nat->Kd:=λt=>if t∈im then .qC else if t∈pu then .bO else if t∈ve then .vec else .loc
@[simp] theorem aj5 {im pu ve:List Nat} {t:Nat}:bf im pu ve t=if t ∈ im then .qC else if t ∈ pu then .bO else if t ∈ ve then .vec else .loc:=rfl
def cx0:Cx:=⟨bW bl,λ_=>none,λ_=>.loc,λ_ _=>none,RD.any⟩
@[simp] theorem bs8:cx0.ty=bW bl:=rfl
@[simp] theorem aT4 (t:TypeId):cx0.bR t=none:=rfl
@[simp] theorem aT3 (t:Nat):cx0.bO t=.loc:=rfl
@[simp] theorem aG5 (f:FuncId) (a:List LV):cx0.spec f a=none:=rfl
@[simp] theorem bs9:cx0.rd=RD.any:=rfl
theorem aP:cx0.ok prog:=au
theorem wrap64{n:Int}(h1:-9223372036854775808<=n)(h2:n<9223372036854775808):IntKind.wrap .i64 n=n:=by
 simp[IntKind.wrap,IntKind.bits,IntKind.signed];omega
theorem aB{i n:Nat}(h:i<n)(hn:n<=9223372036854775807):IntKind.wrap .i64 ((i:Int)+1)=(i:Int)+1:=by rw[wrap64]<;>omega
def idx(l:List cq)(s:cq):Int:=match l.findIdx? (λx=>decide (x=s))with|some i=>i|none=>-1
theorem aa1{l:List cq}{s:cq}{i:Nat}(h:i<l.length)(e:l[i]=s)(hlt:∀(j:Nat) (h:j<l.length),j<i->l[j]≠s):idx l s=i:=by
 unfold idx;have:l.findIdx? (λx=>decide (x=s))=some i:=by
  rw[List.findIdx?_eq_some_iff_getElem];exact⟨h,by simpa using e,λj hj=>by simpa using hlt j (by omega) hj⟩
 rw[this]
theorem Sg{l:List cq}{s:cq}(hlt:∀(j:Nat) (h:j<l.length),l[j]≠s):idx l s= -1:=by
 unfold idx;have:l.findIdx? (λx=>decide (x=s))=none:=by
  rw[List.findIdx?_eq_none_iff];intro x hx;obtain⟨j,hj,rfl⟩:=List.mem_iff_getElem.1 hx;simpa using hlt j hj
 rw[this]
theorem kQ(l:List cq)(s:cq):aC prog 49 [sl (l.map rS),.d (dS s)] (oV .i64 (idx l s)):=by
 refine aC.body aP func49 rfl call49 (by rw[ntmps49];simp) rfl λhf H=>?_
 simp[ntmps49,results49]at hf|-;refine AW.aV aP (λi:Nat=>⟨[(0,.d (.sl (l.map rS))),(1,.d (.k (.string s))),(5,.d (.k (.int .i64 i)))],[],H⟩) (λi=>l.length-i) (λi=>i<=l.length/\∀j (h:j<l.length),j<i->l[j]≠s) 0 (by simp) λi hi=>?_
 simp;refine⟨λh=>?_,λh=>?_⟩
 ·simp[h,rS,aB h hf.1];refine⟨λe=>(aa1 h e hi.2).symm,λe=>NX.go (i+1) (by omega) ⟨h,λj hj hji=>?_⟩ (by simp)⟩
  by_cases q:j=i
  ·subst q;exact e
  ·exact hi.2 j hj (by omega)
 ·exact(Sg λj hj=>hi.2 j hj (by omega)).symm
theorem aR{α:Type}{l:List α}{i:Nat}(h:i<l.length):l.take i++[l[i]]=l.take (i+1):=by
 simp only[List.take_add_one,List.getElem?_eq_getElem h,Option.toList]
theorem y6(op n:Int)(kids:List bh)(hk:kids.length*40<=140737488351232)(ih:∀k∈kids,aC prog 136 [lv (bU k)] (lv (bU k))):aC prog 136 [lv (bU (.mk op n kids))] (lv (bU (.mk op n kids))):=by
 refine aC.body (au (p:=bf [1] [] [])) func136 rfl call136 (by rw[ntmps136];simp) rfl λhf H=>?_
 simp[ntmps136,results136,aO,bh.op,bh.n,bh.kids];refine AW.aV (au (p:=bf [1] [] [])) (λa:Nat×LV×GH=>⟨[(1,.ip [.d (.k (.int .i64 op)),.d (.k (.int .i64 n)),.d (.sl (kids.map bU))] 0),(2,.lp 2 0),(3,.lp 3 0),(4,.d (.k (.int .i64 a.1)))],
  [(2,[.d (.k (.int .i64 0)),.d (.k (.int .i64 0)),.d (.k (.slice none 0 0))]),(3,[.d (.k (.int .i64 op)),.d (.k (.int .i64 n)),a.2.1])],a.2.2⟩) (λa=>kids.length-a.1) (λa=>a.1<=kids.length/\CF 25 3 H a.2.1 ((kids.take a.1).map bU) a.2.2) (0,.d (.k (.slice none 0 0)),H) ?_ ?_
 ·exact⟨⟨Nat.zero_le _,.nil⟩,by simp⟩
 ·rintro⟨i,x,H'⟩ ⟨hi,aA⟩;simp only at hi aA;simp;refine⟨λh=>?_,λh=>?_⟩
  ·refine AW.draw (au (p:=bf [1] [] [])) [(7,.n)] (.q 0<|.q 2<|.q 4<|.q 1<|.f<|.one 3<|.q 5<|.f<|.one 6<|.q 7<|.q 8<|.f<|.one 9<|.q 10<|.f<|.one 11<|.done) (by kernel_rfl) ?_
   simp[h,List.getElem?_eq_getElem h,aO];refine FC.aJ (v:=lv (bU kids[i])) (by simpa[aO]using ih kids[i] (List.getElem_mem h)) ?_
   simp[aO];refine eO.Cg bU (kids.take i) [kids[i]] Q7 rfl Q6 (by simp) s8 (x:=x) (by simp) aA (by simp[aO,rowsOf]) (by simp) (by simp;omega) (by simp) λx' H' aF=>?_
   rw[aR h]at aF;simp[aF.plain.all,aF.only,aB (n:=9223372036854775807) (show i<9223372036854775807 by omega)]
   exact NX.go (i+1,x',H') (by simp;omega) ⟨h,aF⟩ (by simp[aF.only])
  ·have e:i=kids.length:=by omega
   subst e;rw[List.take_length]at aA;have hz:=aA.fz;simp[aO,bh.op,bh.n,bh.kids,aA.plain.all,hz.1];exact⟨hz.2.1,hz.2.2⟩
def jT(n lo hi:Int):Bool:=decide (lo<=n)&&decide (n<=hi)
theorem mG(n lo hi:Int):aC prog 89 [.d (.k (.int .i64 n)),.d (.k (.int .i64 lo)),.d (.k (.int .i64 hi))] (.d (.k (.bool (jT n lo hi)))):=by
 refine aC.body aP func89 rfl call89 (by rw[ntmps89];simp) rfl λ_ H=>?_
 simp[ntmps89,results89,jT]
theorem HV(n:Int):aC prog 111 [.d (.k (.int .i64 n))] (.d (.k (.int .i64 (kj (-1000000000) (gW n 1000000000))))):=by
 refine aC.body aP func111 rfl call111 (by rw[ntmps111];simp) rfl λ_ H=>?_
 simp[ntmps111,results111]
def iw(r:Rec):Bool:=jT r.at_ 0 200&&jT r.key (-1000000000) 1000000000&&jT r.val (-1000000000) 1000000000
theorem O4(r:Rec):aC prog 55 [lv (bE r)] (.d (.k (.bool (iw r)))):=by
 refine aC.body aP func55 rfl call55 (by rw[ntmps55];simp) rfl λ_ H=>?_
 simp[ntmps55,results55,bE,vi];refine EC.aJ (mG _ _ _) ?_;cases h1:jT r.at_ 0 200
 ·simp[iw,h1]
 ·simp[h1];refine EC.aJ (mG _ _ _) ?_;cases h2:jT r.key (-1000000000) 1000000000
  ·simp[iw,h1,h2]
  ·simp[h2];refine EC.aJ (mG _ _ _) ?_;simp[iw,h1,h2]
def eY(n:Int):Int:=gW (kj n (-1000000000)) 1000000000
theorem gX(n:Int):aC prog 52 [.d (.k (.int .i64 n))] (.d (.k (.int .i64 (eY n)))):=by
 refine aC.body aP func52 rfl call52 (by rw[ntmps52];simp) rfl λhf H=>?_
 simp[ntmps52,results52,eY]
mutual
def dW:bh->Int->Int->Int
 |.mk op n kids,depth,left=>
  if 10<depth\/ left<1\/ op<1\/ 10<op then-1
  else if(kids.length:Int)≠(if 6<=op then 2 else 0)\/ (op≠1/\n≠0)\/ n≠eY n then-1
  else di kids depth (left-1)
def di:List bh->Int->Int->Int
 |[],_,left=>left
 |k::ks,depth,left=>if dW k (depth+1) left<0 then-1 else di ks depth (dW k (depth+1) left)
end
mutual
theorem Bb:∀(c:bh) (depth left:Int),dW c depth left<=left\/ dW c depth left= -1
 |.mk op n kids,depth,left=>by
  have h:=yo kids depth (left-1);rw[dW];generalize (if(6:Int)<=op then(2:Int)else 0)=k2
  split
  ·exact .inr rfl
  ·split
   ·exact .inr rfl
   ·omega
theorem yo:∀(l:List bh) (depth left:Int),di l depth left<=left\/ di l depth left= -1
 |[],depth,left=>by rw[di];exact .inl (Int.le_refl _)
 |k::ks,depth,left=>by
  rw[di]
  split
  ·exact .inr rfl
  ·rename_i h;have h1:=Bb k (depth+1) left;have h2:=yo ks depth (dW k (depth+1) left);omega
end
theorem FP(op n:Int)(kids:List bh)(depth left:Int)(hd:0<=depth)(hl:left<=1000000)
  (ih:∀k∈kids,∀depth left:Int,0<=depth->left<=1000000->aC prog 51 [lv (bU k),.d (.k (.int .i64 depth)),.d (.k (.int .i64 left))] (.d (.k (.int .i64 (dW k depth left))))):
  aC prog 51 [lv (bU (.mk op n kids)),.d (.k (.int .i64 depth)),.d (.k (.int .i64 left))] (.d (.k (.int .i64 (dW (.mk op n kids) depth left)))):=by
 refine aC.body (au (p:=bf [3] [] [])) func51 rfl call51 (by rw[ntmps51];simp) rfl λhf H=>?_
 simp[ntmps51,results51,aO,bh.op,bh.n,bh.kids]at hf|-;refine⟨λh=>?_,λh1 h2 h3 h4=>?_⟩
 ·rw[dW,if_pos (by omega)]
 ·have hsp:dW (.mk op n kids) depth left=if(kids.length:Int)≠(if 6<=op then 2 else 0)\/ (op≠1/\n≠0)\/ n≠eY n then-1 else di kids depth (left-1):=by rw[dW,if_neg (by omega)]
  rw[hsp];have hw1:IntKind.wrap .i64 (left-1)=left-1:=by rw[wrap64]<;>omega
  have GU:IntKind.wrap .i64 (depth+1)=depth+1:=by rw[wrap64]<;>omega
  refine⟨λh6=>?_,λh6=>?_⟩
  all_goals
   first|rw[if_pos h6]|rw[if_neg (show¬(6<=op)by omega)]
   refine AW.draw (au (p:=bf [3] [] [])) [(20,.n)] (.q 0<|.q 3<|.q 1<|.q 2<|.q 4<|.q 5<|.q 6<|.q 7<|.q 8<|.q 9<|.q 10<|.q 11<|.q 12<|.q 13<|.q 14<|.q 15<|.q 16<|.q 18<|.q 17<|.q 19<|.q 20<|.q 21<|.q 22<|.done) (by kernel_rfl) ?_
   simp[bh.op,bh.n,bh.kids];refine⟨by simp+contextual,kN.aJ (λ_=>gX n) ?_⟩
   simp[hw1];refine⟨by grind,by grind,λe1 e2 e3=>?_⟩
   rw[if_neg (by grind)]
   refine AW.aV (au (p:=bf [3] [] [])) (λa:Nat×Int=>⟨[(1,.d (.k (.int .i64 depth))),(2,.d (.k (.int .i64 a.2))),(55,.d (.sl (kids.map bU))),(56,.d (.k (.int .i64 kids.length))),(57,.d (.k (.int .i64 a.1)))],[],H⟩)
    (λa=>kids.length-a.1) (λa=>a.1<=kids.length/\a.2<=1000000/\di kids depth (left-1)=di (kids.drop a.1) depth a.2) (0,left-1) ⟨⟨by simp,by simp;omega,by simp⟩,by simp⟩ ?_
   rintro⟨i,left'⟩ ⟨hi,hle,hI⟩;simp only at hi hle hI;simp;refine⟨λh=>?_,λh=>?_⟩
   ·simp[h,List.getElem?_eq_getElem h,aO,GU];refine EC.aJ (by simpa[aO]using ih kids[i] (List.getElem_mem h) (depth+1) left' (by omega) hle) ?_
    have hd:=List.drop_eq_getElem_cons h;simp[aB h hf.1];rw[hI,hd,di];refine⟨λq=>by rw[if_pos q],λq=>NX.go (i+1,dW kids[i] (depth+1) left') (by simp;omega) ⟨h,?_,?_⟩ (by simp)⟩
    ·have:=Bb kids[i] (depth+1) left';simp;omega
    ·rw[if_neg (by omega)]
   ·have:kids.drop i=[]:=List.drop_eq_nil_of_le h;rw[hI,this,di]
theorem yj:∀(c:bh) (depth left:Int),0<=depth->left<=1000000->aC prog 51 [lv (bU c),.d (.k (.int .i64 depth)),.d (.k (.int .i64 left))] (.d (.k (.int .i64 (dW c depth left))))
 |.mk op n kids,depth,left,hd,hl=>FP op n kids depth left hd hl λk hk depth left hd hl=>yj k depth left hd hl
def aH(n:Int):LV:=.d (.k (.int .i64 n))
@[simp] theorem Bc (n:Int):aH n=.d (.k (.int .i64 n)):=rfl
def tP(b:Bool):Int:=if b then 1 else 0
theorem A5(b:Bool):aC prog 109 [.d (.k (.bool b))] (aH (tP b)):=by
 refine aC.body aP func109 rfl call109 (by rw[ntmps109];simp) rfl λhf H=>?_
 cases b<;>simp[ntmps109,results109,tP]
theorem IS(r:Rec)(o op n:Int)(k:DV):aC prog 103 [lv (bE r),aH o,.ip [.d (dI op),.d (dI n),.d k] 0] (aH n):=by
 refine aC.body (au (p:=bf [3] [] [])) func103 rfl call103 (by rw[ntmps103];simp) rfl λhf H=>?_
 simp[ntmps103,results103,bE]
theorem IQ(r:Rec)(o:Int):aC prog 104 [lv (bE r),aH o] (aH r.at_):=by
 refine aC.body (au (p:=bf [2] [] [])) func104 rfl call104 (by rw[ntmps104];simp) rfl λhf H=>?_
 simp[ntmps104,results104,bE]
theorem IP(r:Rec)(o:Int):aC prog 105 [lv (bE r),aH o] (aH r.key):=by
 refine aC.body (au (p:=bf [2] [] [])) func105 rfl call105 (by rw[ntmps105];simp) rfl λhf H=>?_
 simp[ntmps105,results105,bE]
theorem IN(r:Rec)(o:Int):aC prog 106 [lv (bE r),aH o] (aH r.val):=by
 refine aC.body (au (p:=bf [2] [] [])) func106 rfl call106 (by rw[ntmps106];simp) rfl λhf H=>?_
 simp[ntmps106,results106,bE]
theorem IM(r:Rec)(o:Int):aC prog 107 [lv (bE r),aH o] (aH o):=by
 refine aC.body (au (p:=bf [2] [] [])) func107 rfl call107 (by rw[ntmps107];simp) rfl λhf H=>?_
 simp[ntmps107,results107,bE]
def Il(op a b:Int):Int:=if op=6 then eY (a+b)else if op=7 then eY (a-b)else if op=8 then eY (a*b)else if op=9 then tP (decide (a<b))else tP (a==b)
theorem DN{a b:Int}(h1:-1000000000<=a/\a<=1000000000)(h2:-1000000000<=b/\b<=1000000000):-1000000000000000000<=a*b/\a*b<=1000000000000000000:=by
 have h3:(a*b).natAbs<=1000000000*1000000000:=by
  rw[Int.natAbs_mul];exact Nat.mul_le_mul (by omega) (by omega)
 omega
theorem IL(r:Rec)(o op n a b:Int)(k:DV)(f1 f2:FuncId)(c1 c2:List LV)(ha:-1000000000<=a/\a<=1000000000)(hb:-1000000000<=b/\b<=1000000000)
  (h1:aC prog f1 ([lv (bE r),aH o]++c1) (aH a)) (h2:aC prog f2 ([lv (bE r),aH o]++c2) (aH b)) (hc1:∀n,cD n c1) (hc2:∀n,cD n c2):
  aC prog 108 [lv (bE r),aH o,.ip [.fn (.func f1) [] c1] 0,.ip [.fn (.func f2) [] c2] 0,.ip [.d (dI op),.d (dI n),.d k] 0] (aH (Il op a b)):=by
 refine aC.body (au (p:=bf [5] [] [])) func108 rfl call108 (by rw[ntmps108];simp) rfl λhf H=>?_
 have hm:=DN ha hb;have w1:IntKind.wrap .i64 (a+b)=a+b:=by rw[wrap64]<;>omega
 have w2:IntKind.wrap .i64 (a-b)=a-b:=by rw[wrap64]<;>omega
 have w3:IntKind.wrap .i64 (a*b)=a*b:=by rw[wrap64]<;>omega
 simp[ntmps108,results108,bE]at h1 h2|-;refine AW.draw (au (p:=bf [5] [] [])) [(3,.n),(7,.n)] (.q 2<|.q 6<|.q 0<|.q 1<|.q 3<|.q 4<|.q 5<|.q 7<|.q 8<|.q 9<|.done) (by kernel_rfl) ?_
 simp;refine⟨hc1 _,FC.aJ h1 ?_⟩;simp;refine⟨hc2 _,FC.aJ h2 ?_⟩;simp[w1,w2,w3];refine⟨λe=>?_,λe6=>⟨λe=>?_,λe7=>⟨λe=>?_,λe8=>⟨λe=>?_,λe9=>?_⟩⟩⟩⟩
 ·refine EC.aJ (gX _) ?_;simp[Il,e]
 ·refine EC.aJ (gX _) ?_;simp[Il,e]
 ·refine EC.aJ (gX _) ?_;simp[Il,e]
 ·refine EC.aJ (A5 _) ?_;simp[Il,e]
 ·refine EC.aJ (A5 _) ?_;simp[Il,e6,e7,e8,e9]
inductive vn:bh->Prop
 |leaf (op n:Int) (kids:List bh) (h:1<=op/\op<=5) (hn:-1000000000<=n/\n<=1000000000):vn (.mk op n kids)
 |node (op n:Int) (a b:bh) (h:6<=op) (ha:vn a) (hb:vn b):vn (.mk op n [a,b])
mutual
def gP:bh->FuncId×List LV
 |.mk op n kids=>
  let me:LV:=.ip [.d (dI op),.d (dI n),.d (.sl (pU kids))] 0
  if op=1 then(103,[me])else if op=2 then(104,[])else if op=3 then(105,[])else if op=4 then(106,[])else if op=5 then(107,[])
  else(108,zS kids++[me])
def zS:List bh->List LV
 |[]=>[]
 |c::cs=>.ip [.fn (.func (gP c).1) [] (gP c).2] 0::zS cs
end
mutual
def eE(r:Rec)(o:Int):bh->Int
 |.mk op n kids=>if op=1 then n else if op=2 then r.at_ else if op=3 then r.key else if op=4 then r.val else if op=5 then o else Il op ((Od r o kids).getD 0 0) ((Od r o kids).getD 1 0)
def Od(r:Rec)(o:Int):List bh->List Int
 |[]=>[]
 |c::cs=>eE r o c::Od r o cs
end
def cm(n:Int):Prop:=-1000000000<=n/\n<=1000000000
def x5(r:Rec):Prop:=cm r.at_/\cm r.key/\cm r.val
theorem mu(n:Int):cm (eY n):=by
 unfold cm eY gW kj;split<;>split<;>omega
theorem Q8(b:Bool):cm (tP b):=by cases b<;>simp[tP,cm]
theorem Z4(op a b:Int):cm (Il op a b):=by
 unfold Il
 split
 ·exact mu _
 ·split
  ·exact mu _
  ·split
   ·exact mu _
   ·split<;>exact Q8 _
theorem nS{r:Rec}{o:Int}(hr:x5 r)(ho:cm o){c:bh}(h:vn c):cm (eE r o c):=by
 cases h with
 |leaf op n kids h hn=>
  rw[eE];by_cases e1:op=1
  ·rw[if_pos e1];exact hn
  rw[if_neg e1];by_cases e2:op=2
  ·rw[if_pos e2];exact hr.1
  rw[if_neg e2];by_cases e3:op=3
  ·rw[if_pos e3];exact hr.2.1
  rw[if_neg e3];by_cases e4:op=4
  ·rw[if_pos e4];exact hr.2.2
  rw[if_neg e4,if_pos (by omega)]
  exact ho
 |node op n a b h ha hb=>
  rw[eE,if_neg (by omega),if_neg (by omega),if_neg (by omega),if_neg (by omega),if_neg (by omega)]
  exact Z4 _ _ _
theorem dY{c:bh}(h:vn c):∀m,cD m (gP c).2:=by
 induction h with
 |leaf op n kids h hn=>
  intro m;rw[gP]
  split
  ·simp[cD,LV.nb]
  ·split
   ·simp[cD]
   ·split
    ·simp[cD]
    ·split
     ·simp[cD]
     ·rw[if_pos (by omega)];simp[cD]
 |node op n a b h ha hb iha ihb=>
  intro m;rw[gP];rw[if_neg (by omega),if_neg (by omega),if_neg (by omega),if_neg (by omega),if_neg (by omega)]
  simp[zS,cD,LV.nb,iha m,ihb m]
theorem pI{c:bh}(h:vn c):gT (gP c).2=true:=by
 induction h with
 |leaf op n kids h hn=>
  rw[gP]
  split
  ·simp[gT,LV.pW]
  ·split
   ·simp[gT]
   ·split
    ·simp[gT]
    ·split
     ·simp[gT]
     ·rw[if_pos (by omega)];simp[gT]
 |node op n a b h ha hb iha ihb=>
  rw[gP];rw[if_neg (by omega),if_neg (by omega),if_neg (by omega),if_neg (by omega),if_neg (by omega)]
  simp[zS,gT,LV.pW,iha,ihb]
theorem mc{r:Rec}{o:Int}(hr:x5 r)(ho:cm o){c:bh}(h:vn c):aC prog (gP c).1 ([lv (bE r),aH o]++(gP c).2) (aH (eE r o c)):=by
 induction h with
 |leaf op n kids h hn=>
  rw[gP,eE];by_cases e1:op=1
  ·rw[if_pos e1,if_pos e1];exact IS r o op n _
  rw[if_neg e1,if_neg e1];by_cases e2:op=2
  ·rw[if_pos e2,if_pos e2];exact IQ r o
  rw[if_neg e2,if_neg e2];by_cases e3:op=3
  ·rw[if_pos e3,if_pos e3];exact IP r o
  rw[if_neg e3,if_neg e3];by_cases e4:op=4
  ·rw[if_pos e4,if_pos e4];exact IN r o
  rw[if_neg e4,if_neg e4,if_pos (by omega),if_pos (by omega)]
  exact IM r o
 |node op n a b h ha hb iha ihb=>
  rw[gP,eE];rw[if_neg (by omega),if_neg (by omega),if_neg (by omega),if_neg (by omega),if_neg (by omega),if_neg (by omega),if_neg (by omega),if_neg (by omega),if_neg (by omega),if_neg (by omega)]
  exact IL r o op n _ _ _ _ _ _ _ (nS hr ho ha) (nS hr ho hb) iha ihb (dY ha) (dY hb)
def nX(c:bh):LV:=.fn (.func (gP c).1) [] (gP c).2
theorem QZ{c:bh}(h:vn c)(m:Nat):(nX c).nb m:=by
 simp[nX,LV.nb,cD,dY h m]
theorem iy{c:bh}(h:vn c):aC prog 53 [lv (bU c)] (nX c):=by
 induction h with
 |leaf op n kids h hn=>
  refine aC.body (au (p:=bf [1,3,4] [] [])) func53 rfl call53 (by rw[ntmps53];simp) rfl λhf H=>?_
  have hnb:=QZ (vn.leaf op n kids h hn) H.next;simp[ntmps53,results53,aO,bh.op,bh.n,bh.kids,hnb];refine⟨λe=>by simp[nX,gP,e,ki],λe1=>⟨λe=>by simp[nX,gP,e],λe2=>⟨λe=>by simp[nX,gP,e],λe3=>⟨λe=>by simp[nX,gP,e],λe4=>⟨λe=>by simp[nX,gP,e],λe5=>by omega⟩⟩⟩⟩⟩
 |node op n a b h ha hb iha ihb=>
  refine aC.body (au (p:=bf [1,3,4] [] [])) func53 rfl call53 (by rw[ntmps53];simp) rfl λhf H=>?_
  have hnb:=QZ (vn.node op n a b h ha hb) H.next;have n1:op≠1:=by omega
  have n2:op≠2:=by omega
  have n3:op≠3:=by omega
  have n4:op≠4:=by omega
  have n5:op≠5:=by omega
  simp[ntmps53,results53,aO,n1,n2,n3,n4,n5];rw[aO]at iha ihb;refine AW.draw (au (p:=bf [1,3,4] [] [])) [(1,.n),(3,.n),(4,.n),(6,.n),(8,.n),(9,.n)] (.q 0<|.q 1<|.q 2<|.q 3<|.q 4<|.q 5<|.q 6<|.q 7<|.q 8<|.q 9<|.f (.cons 10 (.f<|.one 11<|.f<|.one 12<|.f<|.one 13<|.done) (.cons 11 (.f<|.one 10<|.f<|.one 12<|.f<|.one 13<|.done) (.nil)))) (by kernel_rfl) ?_
  simp[aO];refine FC.aJ (by simpa using iha) ?_
  simp[aO];refine FC.aJ (by simpa using ihb) ?_
  simp[aO,nX,pI ha,pI hb,gQ _ (pI ha),gQ _ (pI hb)];have hv:gP (.mk op n [a,b])=(108,[.ip [nX a] 0,.ip [nX b] 0,.ip [.d (dI op),.d (dI n),.d (.sl [bU a,bU b])] 0]):=by
   rw[gP,if_neg n1,if_neg n2,if_neg n3,if_neg n4,if_neg n5];simp[zS,nX,pU]
  refine⟨?_,dY (vn.node op n a b h ha hb) _⟩;rw[hv];simp[nX,aO]
theorem tC{n:Int}(h:n=eY n):cm n:=h▸mu n
mutual
theorem Ba:∀(c:bh) (depth left:Int),0<=dW c depth left->vn c
 |.mk op n kids,depth,left,h=>by
  have ih:=ym kids depth (left-1);rw[dW]at h
  split at h
  ·omega
  ·rename_i h1;by_cases h6:6<=op
   ·rw[if_pos h6]at h
    split at h
    ·omega
    ·rename_i h2;have hl:kids.length=2:=by omega
     match kids,hl with
     |[a,b],_=>exact .node op n a b h6 (ih h a (by simp)) (ih h b (by simp))
   ·rw[if_neg h6]at h
    split at h
    ·omega
    ·rename_i h2;exact .leaf op n kids (by omega) (tC (by omega))
theorem ym:∀(l:List bh) (depth left:Int),0<=di l depth left->∀c∈l,vn c
 |[],_,_,_,c,hc=>by cases hc
 |k::ks,depth,left,h,c,hc=>by
  rw[di]at h
  split at h
  ·omega
  ·rcases List.mem_cons.1 hc with e|hc
   ·rw[e];exact Ba k (depth+1) left (by omega)
   ·exact ym ks _ _ h c hc
end
def I1(c:bh)(r:Rec)(o:Int):Prop:=0<=dW c 1 60/\0<=r.at_/\r.at_<=200/\r.key=eY r.key/\r.val=eY r.val/\o=eY o
instance (c:bh) (r:Rec) (o:Int):Decidable (I1 c r o):=by unfold I1;infer_instance
theorem Pm(c:bh)(r:Rec)(o:Int):aC prog 13 [lv (bU c),lv (bE r),aH o] (if I1 c r o then .dh [aH (eE r o c),aH 0]else .dh [aH 0,aH 2]):=by
 refine aC.body (au (p:=bf [3,4] [] [])) func13 rfl call13 (by rw[ntmps13];simp) rfl λhf H=>?_
 simp[ntmps13,results13,bE,aO];refine AW.draw (au (p:=bf [3,4] [] [])) [(1,.n),(18,.n),(26,.n),(32,.n)] (.q 0<|.q 1<|.q 2<|.q 3<|.q 4<|.q 5<|.q 6<|.q 7<|.q 8<|.q 9<|.q 10<|.q 11<|.q 12<|.q 13<|.q 14<|.q 16<|.q 15<|.q 17<|.q 18<|.q 19<|.q 20<|.q 21<|.q 22<|.q 24<|.q 23<|.q 25<|.q 26<|.q 27<|.q 28<|.q 29<|.q 30<|.q 31<|.q 32<|.q 33<|.q 34<|.done) (by kernel_rfl) ?_
 simp;refine FC.aJ (by simpa[aO]using yj c 1 60 (by omega) (by omega)) ?_
 simp;refine kN.aJ (λ_=>gX _) ?_
 simp;refine kN.aJ (λ_=>gX _) ?_
 simp;refine kN.aJ (λ_=>gX _) ?_
 simp;refine⟨λh=>?_,λh1 h2 h3 h4 h5 h6=>?_⟩
 ·have hn:¬I1 c r o:=by unfold I1;omega
  rw[if_neg hn];simp[hn]
 ·have ha:I1 c r o:=⟨h1,h2,h3,h4,h5,h6⟩;rw[if_pos ha];have hok:=Ba c 1 60 h1;have hr:x5 r:=⟨⟨by omega,by omega⟩,tC h4,tC h5⟩
  have hv:=mc hr (tC h6) hok;have hm:=iy hok;simp[aO,bE]at hv hm;refine AW.draw (au (p:=bf [3,4] [] [])) [(1,.n),(4,.n)] (.q 3<|.q 0<|.q 1<|.q 2<|.q 4<|.q 5<|.q 6<|.done) (by kernel_rfl) ?_
  simp;refine FC.aJ hm ?_;simp[nX,dY hok];refine FC.aJ hv ?_;simp
theorem MT(n:Int):kj (-1000000000) (gW n 1000000000)=eY n:=by
 unfold eY kj gW;split<;>split<;>(try split)<;>(try split)<;>omega
theorem lT(n:Int):aC prog 111 [aH n] (aH (eY n)):=by
 have:=HV n;rw[MT]at this;exact this
theorem jv{r:Rec}{o:Int}(hr:x5 r)(ho:cm o){c:bh}(h:vn c):aC prog 56 [lv (bU c),lv (bE r),aH o] (aH (eE r o c)):=by
 induction h with
 |leaf op n kids h hn=>
  refine aC.body (au (p:=bf [3,4] [] [])) func56 rfl call56 (by rw[ntmps56];simp) rfl λhf H=>?_
  simp[ntmps56,results56,aO,bE];refine⟨λe=>by simp[eE,e],λe1=>⟨λe=>by simp[eE,e],λe2=>⟨λe=>by simp[eE,e],λe3=>⟨λe=>by simp[eE,e],λe4=>⟨λe=>by simp[eE,e],λe5=>by omega⟩⟩⟩⟩⟩
 |node op n a b h ha hb iha ihb=>
  refine aC.body (au (p:=bf [3,4] [] [])) func56 rfl call56 (by rw[ntmps56];simp) rfl λhf H=>?_
  have n1:op≠1:=by omega
  have n2:op≠2:=by omega
  have n3:op≠3:=by omega
  have n4:op≠4:=by omega
  have n5:op≠5:=by omega
  have va:=nS hr ho ha;have vb:=nS hr ho hb;have hv:eE r o (.mk op n [a,b])=Il op (eE r o a) (eE r o b):=by
   rw[eE,if_neg n1,if_neg n2,if_neg n3,if_neg n4,if_neg n5];simp[Od]
  rw[hv];generalize eE r o a=x at iha va hv|-;generalize eE r o b=y at ihb vb hv|-;have hm:=DN va vb;unfold cm at va vb;have w1:IntKind.wrap .i64 (x+y)=x+y:=by rw[wrap64]<;>omega
  have w2:IntKind.wrap .i64 (x-y)=x-y:=by rw[wrap64]<;>omega
  have w3:IntKind.wrap .i64 (x*y)=x*y:=by rw[wrap64]<;>omega
  simp[aO,bE]at iha ihb;simp[ntmps56,results56,aO,bE,n1,n2,n3,n4,n5];refine AW.draw (au (p:=bf [3,4] [] [])) [(6,.n),(13,.n)] (.q 0<|.q 5<|.q 7<|.q 12<|.q 1<|.q 2<|.q 3<|.q 4<|.q 6<|.q 8<|.q 9<|.q 10<|.q 11<|.q 13<|.q 14<|.q 15<|.done) (by kernel_rfl) ?_
  simp[aO];refine FC.aJ iha ?_;simp[aO];refine FC.aJ ihb ?_;simp[w1,w2,w3];refine⟨λe=>?_,λe6=>⟨λe=>?_,λe7=>⟨λe=>?_,λe8=>⟨λe=>?_,λe9=>?_⟩⟩⟩⟩
  ·refine EC.aJ (lT _) ?_;simp[Il,e]
  ·refine EC.aJ (lT _) ?_;simp[Il,e]
  ·refine EC.aJ (lT _) ?_;simp[Il,e]
  ·exact⟨λq=>by simp[Il,e,tP,q],λq=>by simp[Il,e,tP,show¬x<y by omega]⟩
  ·exact⟨λq=>by simp[Il,e6,e7,e8,e9,tP,q],λq=>by simp[Il,e6,e7,e8,e9,tP,q]⟩
structure Shape where
 src:Int
 n:Int
 fold:Int
 Yt:List bh
def Z1(s:Shape):List DV:=[dI s.src,dI s.n,dI s.fold,.sl (s.Yt.map bU)]
@[simp] theorem Z0 (s:Shape):(Z1 s).length=4:=rfl
def Bq{α:Type}(p:α->Bool)(l:List α):Int:=match l.findIdx? p with|some i=>i|none=>-1
theorem zo{α:Type}{p:α->Bool}{l:List α}{i:Nat}(h:i<l.length)(e:p l[i]=true)(hlt:∀(j:Nat) (h:j<l.length),j<i->p l[j]=false):Bq p l=i:=by
 unfold Bq;have:l.findIdx? p=some i:=by
  rw[List.findIdx?_eq_some_iff_getElem];exact⟨h,e,λj hj=>by simpa using hlt j (by omega) hj⟩
 rw[this]
theorem tn{α:Type}{p:α->Bool}{l:List α}(hlt:∀(j:Nat) (h:j<l.length),p l[j]=false):Bq p l= -1:=by
 unfold Bq;have:l.findIdx? p=none:=by
  rw[List.findIdx?_eq_none_iff];intro x hx;obtain⟨j,hj,rfl⟩:=List.mem_iff_getElem.1 hx;exact hlt j hj
 rw[this]
theorem vY{α:Type}(p:α->Bool)(l:List α):decide (0<=Bq p l)=l.any p:=by
 unfold Bq;cases h:l.findIdx? p with
 |none=>
  rw[List.findIdx?_eq_none_iff]at h;simp only[Int.reduceNeg,Int.reduceLE,decide_false]
  symm;rw[List.any_eq_false];intro x hx;rw[h x hx];simp
 |some i=>
  rw[List.findIdx?_eq_some_iff_getElem]at h;obtain⟨h1,h2,_⟩:=h;have:l.any p=true:=List.any_eq_true.2 ⟨_,List.getElem_mem h1,h2⟩;rw[this];simp
mutual
def Ds:bz->List bh×bz
 |.mk op name n fold aD kids=>if op=5 then(aD.headD default::(mD kids).1,(mD kids).2)else([],.mk op name n fold aD kids)
def mD:List bz->List bh×bz
 |[]=>([],default)
 |e::_=>Ds e
end
inductive WOk:Nat->bz->Prop
 |other (d:Nat) (e:bz) (h:e.op≠5):WOk d e
 |aY5 (d:Nat) (name:cq) (n fold:Int) (c:bh) (cs:List bh) (k:bz) (ks:List bz) (h:WOk d k):WOk (d+1) (.mk 5 name n fold (c::cs) (k::ks))
def Rj:Shape:=⟨0,0,0,[]⟩
def Nr(p:Prog)(e:bz):Shape×Bool:=
 if e.op≠8 then(Rj,false)
 else if(mD e.kids).2.op≠1 then(Rj,false)
 else(⟨idx p.az (mD e.kids).2.name,e.n,e.fold,(mD e.kids).1⟩,true)
end Go.Aft
end
