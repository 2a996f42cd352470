import Derived.Test.YtdhphbedajhmnaaGreatA13
import Derived.Test.YtdhphbedajhmnaaGreatProg
import Derived.Test.YtdhphbedajhmnaaGreatA20
set_option linter.all false
section
set_option maxRecDepth 20000
namespace Go.Aft
open Go.Proofs.Tryz
def ty2:TyD:=⟨.int .i64,1,[.int .i64 0],8⟩
theorem tyok2:ty2.ok prog 2:=TyD.ok_of type2 underlying2 (by kernel_rfl)
def ty3:TyD:=⟨.int .i64,1,[.int .i64 0],8⟩
theorem tyok3:ty3.ok prog 3:=TyD.ok_of type3 underlying3 (by kernel_rfl)
def ty4:TyD:=⟨.bool,1,[.bool false],1⟩
theorem tyok4:ty4.ok prog 4:=TyD.ok_of type4 underlying4 (by kernel_rfl)
def ty5:TyD:=⟨.int .u8,1,[.int .u8 0],1⟩
theorem tyok5:ty5.ok prog 5:=TyD.ok_of type5 underlying5 (by kernel_rfl)
def ty9:TyD:=⟨.str,1,[.string ⟨#[]⟩],16⟩
theorem tyok9:ty9.ok prog 9:=TyD.ok_of type9 underlying9 (by kernel_rfl)
def ty20:TyD:=⟨.iface true,1,[.nilIface],16⟩
theorem tyok20:ty20.ok prog 20:=TyD.ok_of type20 underlying20 (by kernel_rfl)
def ty22:TyD:=⟨.sl 9,1,[.slice none 0 0],24⟩
theorem tyok22:ty22.ok prog 22:=TyD.ok_of type22 underlying22 (by kernel_rfl)
def ty23:TyD:=⟨.sl 107,1,[.slice none 0 0],24⟩
theorem tyok23:ty23.ok prog 23:=TyD.ok_of type23 underlying23 (by kernel_rfl)
def ty25:TyD:=⟨.agg [(0,22),(1,23)],2,[.slice none 0 0,.slice none 0 0],48⟩
theorem tyok25:ty25.ok prog 25:=TyD.ok_of type25 underlying25 (by kernel_rfl)
def ty27:TyD:=⟨.agg [(0,3),(1,3),(2,3)],3,[.int .i64 0,.int .i64 0,.int .i64 0],24⟩
theorem tyok27:ty27.ok prog 27:=TyD.ok_of type27 underlying27 (by kernel_rfl)
def ty28:TyD:=⟨.int .i64,1,[.int .i64 0],8⟩
theorem tyok28:ty28.ok prog 28:=TyD.ok_of type28 underlying28 (by kernel_rfl)
def ty35:TyD:=⟨.sl 53,1,[.slice none 0 0],24⟩
theorem tyok35:ty35.ok prog 35:=TyD.ok_of type35 underlying35 (by kernel_rfl)
def ty37:TyD:=⟨.agg [(0,3),(1,3),(2,3)],3,[.int .i64 0,.int .i64 0,.int .i64 0],24⟩
theorem tyok37:ty37.ok prog 37:=TyD.ok_of type37 underlying37 (by kernel_rfl)
def ty39:TyD:=⟨.agg [(0,3),(1,37),(4,3),(5,3)],6,[.int .i64 0,.int .i64 0,.int .i64 0,.int .i64 0,.int .i64 0,.int .i64 0],48⟩
theorem tyok39:ty39.ok prog 39:=TyD.ok_of type39 underlying39 (by kernel_rfl)
def ty42:TyD:=⟨.agg [(0,4),(1,4),(2,3),(3,3)],4,[.bool false,.bool false,.int .i64 0,.int .i64 0],24⟩
theorem tyok42:ty42.ok prog 42:=TyD.ok_of type42 underlying42 (by kernel_rfl)
def ty51:TyD:=⟨.int .i64,1,[.int .i64 0],8⟩
theorem tyok51:ty51.ok prog 51:=TyD.ok_of type51 underlying51 (by kernel_rfl)
def ty53:TyD:=⟨.agg [(0,51),(1,3),(2,3),(3,3),(4,27)],7,[.int .i64 0,.int .i64 0,.int .i64 0,.int .i64 0,.int .i64 0,.int .i64 0,.int .i64 0],56⟩
theorem tyok53:ty53.ok prog 53:=TyD.ok_of type53 underlying53 (by kernel_rfl)
def ty58:TyD:=⟨.int .i64,1,[.int .i64 0],8⟩
theorem tyok58:ty58.ok prog 58:=TyD.ok_of type58 underlying58 (by kernel_rfl)
def ty59:TyD:=⟨.sl 63,1,[.slice none 0 0],24⟩
theorem tyok59:ty59.ok prog 59:=TyD.ok_of type59 underlying59 (by kernel_rfl)
def ty63:TyD:=⟨.agg [(0,3),(1,3),(2,27)],5,[.int .i64 0,.int .i64 0,.int .i64 0,.int .i64 0,.int .i64 0],40⟩
theorem tyok63:ty63.ok prog 63:=TyD.ok_of type63 underlying63 (by kernel_rfl)
def ty64:TyD:=⟨.int .i64,1,[.int .i64 0],8⟩
theorem tyok64:ty64.ok prog 64:=TyD.ok_of type64 underlying64 (by kernel_rfl)
def ty66:TyD:=⟨.func,1,[.nilFunc],8⟩
theorem tyok66:ty66.ok prog 66:=TyD.ok_of type66 underlying66 (by kernel_rfl)
def ty68:TyD:=⟨.sl 135,1,[.slice none 0 0],24⟩
theorem tyok68:ty68.ok prog 68:=TyD.ok_of type68 underlying68 (by kernel_rfl)
def ty70:TyD:=⟨.agg [(0,3),(1,3),(2,58),(3,68)],4,[.int .i64 0,.int .i64 0,.int .i64 0,.slice none 0 0],48⟩
theorem tyok70:ty70.ok prog 70:=TyD.ok_of type70 underlying70 (by kernel_rfl)
def ty72:TyD:=⟨.agg [(0,70),(4,3),(5,3),(6,3)],7,[.int .i64 0,.int .i64 0,.int .i64 0,.slice none 0 0,.int .i64 0,.int .i64 0,.int .i64 0],72⟩
theorem tyok72:ty72.ok prog 72:=TyD.ok_of type72 underlying72 (by kernel_rfl)
def ty89:TyD:=⟨.sl 3,1,[.slice none 0 0],24⟩
theorem tyok89:ty89.ok prog 89:=TyD.ok_of type89 underlying89 (by kernel_rfl)
def ty94:TyD:=⟨.agg [(0,3),(1,3),(2,58),(3,68)],4,[.int .i64 0,.int .i64 0,.int .i64 0,.slice none 0 0],48⟩
theorem tyok94:ty94.ok prog 94:=TyD.ok_of type94 underlying94 (by kernel_rfl)
def ty100:TyD:=⟨.func,1,[.nilFunc],8⟩
theorem tyok100:ty100.ok prog 100:=TyD.ok_of type100 underlying100 (by kernel_rfl)
def ty102:TyD:=⟨.int .i64,1,[.int .i64 0],8⟩
theorem tyok102:ty102.ok prog 102:=TyD.ok_of type102 underlying102 (by kernel_rfl)
def ty103:TyD:=⟨.sl 105,1,[.slice none 0 0],24⟩
theorem tyok103:ty103.ok prog 103:=TyD.ok_of type103 underlying103 (by kernel_rfl)
def ty105:TyD:=⟨.agg [(0,102),(1,9),(2,3),(3,58),(4,68),(5,103)],6,[.int .i64 0,.string ⟨#[]⟩,.int .i64 0,.int .i64 0,.slice none 0 0,.slice none 0 0],88⟩
theorem tyok105:ty105.ok prog 105:=TyD.ok_of type105 underlying105 (by kernel_rfl)
def ty107:TyD:=⟨.agg [(0,9),(1,105)],7,[.string ⟨#[]⟩,.int .i64 0,.string ⟨#[]⟩,.int .i64 0,.int .i64 0,.slice none 0 0,.slice none 0 0],104⟩
theorem tyok107:ty107.ok prog 107:=TyD.ok_of type107 underlying107 (by kernel_rfl)
def ty108:TyD:=⟨.func,1,[.nilFunc],8⟩
theorem tyok108:ty108.ok prog 108:=TyD.ok_of type108 underlying108 (by kernel_rfl)
def ty114:TyD:=⟨.ptr 177,1,[.pointer none],8⟩
theorem tyok114:ty114.ok prog 114:=TyD.ok_of type114 underlying114 (by kernel_rfl)
def ty117:TyD:=⟨.ptr 122,1,[.pointer none],8⟩
theorem tyok117:ty117.ok prog 117:=TyD.ok_of type117 underlying117 (by kernel_rfl)
def ty120:TyD:=⟨.agg [(0,3),(1,3),(2,3)],3,[.int .i64 0,.int .i64 0,.int .i64 0],24⟩
theorem tyok120:ty120.ok prog 120:=TyD.ok_of type120 underlying120 (by kernel_rfl)
def ty122:TyD:=⟨.agg [(0,42),(4,120),(7,120),(10,120)],13,[.bool false,.bool false,.int .i64 0,.int .i64 0,.int .i64 0,.int .i64 0,.int .i64 0,.int .i64 0,.int .i64 0,.int .i64 0,.int .i64 0,.int .i64 0,.int .i64 0],96⟩
theorem tyok122:ty122.ok prog 122:=TyD.ok_of type122 underlying122 (by kernel_rfl)
def ty133:TyD:=⟨.int .i64,1,[.int .i64 0],8⟩
theorem tyok133:ty133.ok prog 133:=TyD.ok_of type133 underlying133 (by kernel_rfl)
def ty135:TyD:=⟨.agg [(0,133),(1,3),(2,68)],3,[.int .i64 0,.int .i64 0,.slice none 0 0],40⟩
theorem tyok135:ty135.ok prog 135:=TyD.ok_of type135 underlying135 (by kernel_rfl)
def ty137:TyD:=⟨.ptr 206,1,[.pointer none],8⟩
theorem tyok137:ty137.ok prog 137:=TyD.ok_of type137 underlying137 (by kernel_rfl)
def ty139:TyD:=⟨.map 9 9,1,[.map none],8⟩
theorem tyok139:ty139.ok prog 139:=TyD.ok_of type139 underlying139 (by kernel_rfl)
def ty142:TyD:=⟨.func,1,[.nilFunc],8⟩
theorem tyok142:ty142.ok prog 142:=TyD.ok_of type142 underlying142 (by kernel_rfl)
def ty145:TyD:=⟨.sl 154,1,[.slice none 0 0],24⟩
theorem tyok145:ty145.ok prog 145:=TyD.ok_of type145 underlying145 (by kernel_rfl)
def ty153:TyD:=⟨.sl 156,1,[.slice none 0 0],24⟩
theorem tyok153:ty153.ok prog 153:=TyD.ok_of type153 underlying153 (by kernel_rfl)
def ty154:TyD:=⟨.sl 156,1,[.slice none 0 0],24⟩
theorem tyok154:ty154.ok prog 154:=TyD.ok_of type154 underlying154 (by kernel_rfl)
def ty156:TyD:=⟨.agg [(0,27),(3,3)],4,[.int .i64 0,.int .i64 0,.int .i64 0,.int .i64 0],32⟩
theorem tyok156:ty156.ok prog 156:=TyD.ok_of type156 underlying156 (by kernel_rfl)
def ty159:TyD:=⟨.agg [],0,[],0⟩
theorem tyok159:ty159.ok prog 159:=TyD.ok_of type159 underlying159 (by kernel_rfl)
def ty167:TyD:=⟨.func,1,[.nilFunc],8⟩
theorem tyok167:ty167.ok prog 167:=TyD.ok_of type167 underlying167 (by kernel_rfl)
def ty169:TyD:=⟨.func,1,[.nilFunc],8⟩
theorem tyok169:ty169.ok prog 169:=TyD.ok_of type169 underlying169 (by kernel_rfl)
def ty174:TyD:=⟨.map 3 3,1,[.map none],8⟩
theorem tyok174:ty174.ok prog 174:=TyD.ok_of type174 underlying174 (by kernel_rfl)
def ty175:TyD:=⟨.sl 181,1,[.slice none 0 0],24⟩
theorem tyok175:ty175.ok prog 175:=TyD.ok_of type175 underlying175 (by kernel_rfl)
def ty177:TyD:=⟨.agg [(0,94),(4,37),(7,89),(8,175),(9,4),(10,27),(13,27),(16,174)],17,[.int .i64 0,.int .i64 0,.int .i64 0,.slice none 0 0,.int .i64 0,.int .i64 0,.int .i64 0,.slice none 0 0,.slice none 0 0,.bool false,.int .i64 0,.int .i64 0,.int .i64 0,.int .i64 0,.int .i64 0,.int .i64 0,.map none],184⟩
theorem tyok177:ty177.ok prog 177:=TyD.ok_of type177 underlying177 (by kernel_rfl)
def ty181:TyD:=⟨.agg [(0,63),(5,3)],6,[.int .i64 0,.int .i64 0,.int .i64 0,.int .i64 0,.int .i64 0,.int .i64 0],48⟩
theorem tyok181:ty181.ok prog 181:=TyD.ok_of type181 underlying181 (by kernel_rfl)
def ty183:TyD:=⟨.func,1,[.nilFunc],8⟩
theorem tyok183:ty183.ok prog 183:=TyD.ok_of type183 underlying183 (by kernel_rfl)
def ty185:TyD:=⟨.func,1,[.nilFunc],8⟩
theorem tyok185:ty185.ok prog 185:=TyD.ok_of type185 underlying185 (by kernel_rfl)
def ty187:TyD:=⟨.agg [(0,185)],1,[.nilFunc],8⟩
theorem tyok187:ty187.ok prog 187:=TyD.ok_of type187 underlying187 (by kernel_rfl)
def ty188:TyD:=⟨.map 58 187,1,[.map none],8⟩
theorem tyok188:ty188.ok prog 188:=TyD.ok_of type188 underlying188 (by kernel_rfl)
def ty199:TyD:=⟨.agg [],0,[],0⟩
theorem tyok199:ty199.ok prog 199:=TyD.ok_of type199 underlying199 (by kernel_rfl)
def ty200:TyD:=⟨.map 102 264,1,[.map none],8⟩
theorem tyok200:ty200.ok prog 200:=TyD.ok_of type200 underlying200 (by kernel_rfl)
def ty202:TyD:=⟨.map 9 3,1,[.map none],8⟩
theorem tyok202:ty202.ok prog 202:=TyD.ok_of type202 underlying202 (by kernel_rfl)
def ty204:TyD:=⟨.agg [(0,202),(1,202)],2,[.map none,.map none],16⟩
theorem tyok204:ty204.ok prog 204:=TyD.ok_of type204 underlying204 (by kernel_rfl)
def ty206:TyD:=⟨.agg [(0,204),(2,200),(3,3),(4,3)],5,[.map none,.map none,.map none,.int .i64 0,.int .i64 0],40⟩
theorem tyok206:ty206.ok prog 206:=TyD.ok_of type206 underlying206 (by kernel_rfl)
def ty209:TyD:=⟨.map 3 4,1,[.map none],8⟩
theorem tyok209:ty209.ok prog 209:=TyD.ok_of type209 underlying209 (by kernel_rfl)
def ty218:TyD:=⟨.ptr 222,1,[.pointer none],8⟩
theorem tyok218:ty218.ok prog 218:=TyD.ok_of type218 underlying218 (by kernel_rfl)
def ty222:TyD:=⟨.agg [(0,25),(2,145),(3,145)],4,[.slice none 0 0,.slice none 0 0,.slice none 0 0,.slice none 0 0],96⟩
theorem tyok222:ty222.ok prog 222:=TyD.ok_of type222 underlying222 (by kernel_rfl)
def ty224:TyD:=⟨.ptr 229,1,[.pointer none],8⟩
theorem tyok224:ty224.ok prog 224:=TyD.ok_of type224 underlying224 (by kernel_rfl)
def ty226:TyD:=⟨.map 231 53,1,[.map none],8⟩
theorem tyok226:ty226.ok prog 226:=TyD.ok_of type226 underlying226 (by kernel_rfl)
def ty227:TyD:=⟨.arr 4 3,4,[.int .i64 0,.int .i64 0,.int .i64 0,.int .i64 0],32⟩
theorem tyok227:ty227.ok prog 227:=TyD.ok_of type227 underlying227 (by kernel_rfl)
def ty229:TyD:=⟨.agg [(0,226),(1,227)],5,[.map none,.int .i64 0,.int .i64 0,.int .i64 0,.int .i64 0],40⟩
theorem tyok229:ty229.ok prog 229:=TyD.ok_of type229 underlying229 (by kernel_rfl)
def ty231:TyD:=⟨.agg [(0,3),(1,3)],2,[.int .i64 0,.int .i64 0],16⟩
theorem tyok231:ty231.ok prog 231:=TyD.ok_of type231 underlying231 (by kernel_rfl)
def ty234:TyD:=⟨.func,1,[.nilFunc],8⟩
theorem tyok234:ty234.ok prog 234:=TyD.ok_of type234 underlying234 (by kernel_rfl)
def ty236:TyD:=⟨.ptr 241,1,[.pointer none],8⟩
theorem tyok236:ty236.ok prog 236:=TyD.ok_of type236 underlying236 (by kernel_rfl)
def ty238:TyD:=⟨.map 9 154,1,[.map none],8⟩
theorem tyok238:ty238.ok prog 238:=TyD.ok_of type238 underlying238 (by kernel_rfl)
def ty239:TyD:=⟨.map 102 333,1,[.map none],8⟩
theorem tyok239:ty239.ok prog 239:=TyD.ok_of type239 underlying239 (by kernel_rfl)
def ty241:TyD:=⟨.agg [(0,25),(2,238),(3,202),(4,145),(5,239)],6,[.slice none 0 0,.slice none 0 0,.map none,.map none,.slice none 0 0,.map none],96⟩
theorem tyok241:ty241.ok prog 241:=TyD.ok_of type241 underlying241 (by kernel_rfl)
def ty243:TyD:=⟨.sl 89,1,[.slice none 0 0],24⟩
theorem tyok243:ty243.ok prog 243:=TyD.ok_of type243 underlying243 (by kernel_rfl)
def ty245:TyD:=⟨.func,1,[.nilFunc],8⟩
theorem tyok245:ty245.ok prog 245:=TyD.ok_of type245 underlying245 (by kernel_rfl)
def ty250:TyD:=⟨.func,1,[.nilFunc],8⟩
theorem tyok250:ty250.ok prog 250:=TyD.ok_of type250 underlying250 (by kernel_rfl)
def ty255:TyD:=⟨.arr 66 3,66,List.replicate 66 (.int .i64 0),528⟩
theorem tyok255:ty255.ok prog 255:=TyD.ok_of type255 underlying255 (by kernel_rfl)
def ty257:TyD:=⟨.agg [(0,3),(1,255)],67,List.replicate 67 (.int .i64 0),536⟩
theorem tyok257:ty257.ok prog 257:=TyD.ok_of type257 underlying257 (by kernel_rfl)
def ty264:TyD:=⟨.agg [(0,3),(1,3),(2,4),(3,4),(4,3),(5,3)],6,[.int .i64 0,.int .i64 0,.bool false,.bool false,.int .i64 0,.int .i64 0],40⟩
theorem tyok264:ty264.ok prog 264:=TyD.ok_of type264 underlying264 (by kernel_rfl)
def ty265:TyD:=⟨.func,1,[.nilFunc],8⟩
theorem tyok265:ty265.ok prog 265:=TyD.ok_of type265 underlying265 (by kernel_rfl)
def ty269:TyD:=⟨.sl 5,1,[.slice none 0 0],24⟩
theorem tyok269:ty269.ok prog 269:=TyD.ok_of type269 underlying269 (by kernel_rfl)
def ty270:TyD:=⟨.map 9 4,1,[.map none],8⟩
theorem tyok270:ty270.ok prog 270:=TyD.ok_of type270 underlying270 (by kernel_rfl)
def ty273:TyD:=⟨.sl 275,1,[.slice none 0 0],24⟩
theorem tyok273:ty273.ok prog 273:=TyD.ok_of type273 underlying273 (by kernel_rfl)
def ty275:TyD:=⟨.sl 4,1,[.slice none 0 0],24⟩
theorem tyok275:ty275.ok prog 275:=TyD.ok_of type275 underlying275 (by kernel_rfl)
def ty283:TyD:=⟨.func,1,[.nilFunc],8⟩
theorem tyok283:ty283.ok prog 283:=TyD.ok_of type283 underlying283 (by kernel_rfl)
def ty284:TyD:=⟨.map 287 4,1,[.map none],8⟩
theorem tyok284:ty284.ok prog 284:=TyD.ok_of type284 underlying284 (by kernel_rfl)
def ty286:TyD:=⟨.func,1,[.nilFunc],8⟩
theorem tyok286:ty286.ok prog 286:=TyD.ok_of type286 underlying286 (by kernel_rfl)
def ty287:TyD:=⟨.arr 2 3,2,[.int .i64 0,.int .i64 0],16⟩
theorem tyok287:ty287.ok prog 287:=TyD.ok_of type287 underlying287 (by kernel_rfl)
def ty288:TyD:=⟨.agg [],0,[],0⟩
theorem tyok288:ty288.ok prog 288:=TyD.ok_of type288 underlying288 (by kernel_rfl)
def ty293:TyD:=⟨.agg [(0,22),(1,22),(2,3)],3,[.slice none 0 0,.slice none 0 0,.int .i64 0],56⟩
theorem tyok293:ty293.ok prog 293:=TyD.ok_of type293 underlying293 (by kernel_rfl)
def ty300:TyD:=⟨.func,1,[.nilFunc],8⟩
theorem tyok300:ty300.ok prog 300:=TyD.ok_of type300 underlying300 (by kernel_rfl)
def ty311:TyD:=⟨.map 51 314,1,[.map none],8⟩
theorem tyok311:ty311.ok prog 311:=TyD.ok_of type311 underlying311 (by kernel_rfl)
def ty314:TyD:=⟨.func,1,[.nilFunc],8⟩
theorem tyok314:ty314.ok prog 314:=TyD.ok_of type314 underlying314 (by kernel_rfl)
def ty319:TyD:=⟨.int .u64,1,[.int .u64 0],8⟩
theorem tyok319:ty319.ok prog 319:=TyD.ok_of type319 underlying319 (by kernel_rfl)
def ty325:TyD:=⟨.map 3 89,1,[.map none],8⟩
theorem tyok325:ty325.ok prog 325:=TyD.ok_of type325 underlying325 (by kernel_rfl)
def ty330:TyD:=⟨.func,1,[.nilFunc],8⟩
theorem tyok330:ty330.ok prog 330:=TyD.ok_of type330 underlying330 (by kernel_rfl)
def ty332:TyD:=⟨.func,1,[.nilFunc],8⟩
theorem tyok332:ty332.ok prog 332:=TyD.ok_of type332 underlying332 (by kernel_rfl)
def ty333:TyD:=⟨.func,1,[.nilFunc],8⟩
theorem tyok333:ty333.ok prog 333:=TyD.ok_of type333 underlying333 (by kernel_rfl)
def ty335:TyD:=⟨.func,1,[.nilFunc],8⟩
theorem tyok335:ty335.ok prog 335:=TyD.ok_of type335 underlying335 (by kernel_rfl)
def ty337:TyD:=⟨.agg [(0,3),(1,3),(2,4),(3,4),(4,3),(5,3)],6,[.int .i64 0,.int .i64 0,.bool false,.bool false,.int .i64 0,.int .i64 0],40⟩
theorem tyok337:ty337.ok prog 337:=TyD.ok_of type337 underlying337 (by kernel_rfl)
def ty348:TyD:=⟨.agg [],0,[],0⟩
theorem tyok348:ty348.ok prog 348:=TyD.ok_of type348 underlying348 (by kernel_rfl)
def ty351:TyD:=⟨.int .i64,1,[.int .i64 0],8⟩
theorem tyok351:ty351.ok prog 351:=TyD.ok_of type351 underlying351 (by kernel_rfl)
def ty358:TyD:=⟨.int .u32,1,[.int .u32 0],4⟩
theorem tyok358:ty358.ok prog 358:=TyD.ok_of type358 underlying358 (by kernel_rfl)
def ty360:TyD:=⟨.int .u64,1,[.int .u64 0],8⟩
theorem tyok360:ty360.ok prog 360:=TyD.ok_of type360 underlying360 (by kernel_rfl)
def ty364:TyD:=⟨.func,1,[.nilFunc],8⟩
theorem tyok364:ty364.ok prog 364:=TyD.ok_of type364 underlying364 (by kernel_rfl)
def ty366:TyD:=⟨.func,1,[.nilFunc],8⟩
theorem tyok366:ty366.ok prog 366:=TyD.ok_of type366 underlying366 (by kernel_rfl)
def ty368:TyD:=⟨.map 3 153,1,[.map none],8⟩
theorem tyok368:ty368.ok prog 368:=TyD.ok_of type368 underlying368 (by kernel_rfl)
def ty370:TyD:=⟨.map 27 3,1,[.map none],8⟩
theorem tyok370:ty370.ok prog 370:=TyD.ok_of type370 underlying370 (by kernel_rfl)
def ty372:TyD:=⟨.func,1,[.nilFunc],8⟩
theorem tyok372:ty372.ok prog 372:=TyD.ok_of type372 underlying372 (by kernel_rfl)
def tyTab:List (Nat × TyD):=[(2,ty2),(3,ty3),(4,ty4),(5,ty5),(9,ty9),(20,ty20),(22,ty22),(23,ty23),(25,ty25),(27,ty27),(28,ty28),(35,ty35),(37,ty37),(39,ty39),(42,ty42),(51,ty51),(53,ty53),(58,ty58),(59,ty59),(63,ty63),(64,ty64),(66,ty66),(68,ty68),(70,ty70),(72,ty72),(89,ty89),(94,ty94),(100,ty100),(102,ty102),(103,ty103),(105,ty105),(107,ty107),(108,ty108),(114,ty114),(117,ty117),(120,ty120),(122,ty122),(133,ty133),(135,ty135),(137,ty137),(139,ty139),(142,ty142),(145,ty145),(153,ty153),(154,ty154),(156,ty156),(159,ty159),(167,ty167),(169,ty169),(174,ty174),(175,ty175),(177,ty177),(181,ty181),(183,ty183),(185,ty185),(187,ty187),(188,ty188),(199,ty199),(200,ty200),(202,ty202),(204,ty204),(206,ty206),(209,ty209),(218,ty218),(222,ty222),(224,ty224),(226,ty226),(227,ty227),(229,ty229),(231,ty231),(234,ty234),(236,ty236),(238,ty238),(239,ty239),(241,ty241),(243,ty243),(245,ty245),(250,ty250),(255,ty255),(257,ty257),(264,ty264),(265,ty265),(269,ty269),(270,ty270),(273,ty273),(275,ty275),(283,ty283),(284,ty284),(286,ty286),(287,ty287),(288,ty288),(293,ty293),(300,ty300),(311,ty311),(314,ty314),(319,ty319),(325,ty325),(330,ty330),(332,ty332),(333,ty333),(335,ty335),(337,ty337),(348,ty348),(351,ty351),(358,ty358),(360,ty360),(364,ty364),(366,ty366),(368,ty368),(370,ty370),(372,ty372)]
theorem tyC {a:Nat × TyD} {l:List (Nat × TyD)} (h:a.2.ok prog a.1) (k:∀ p ∈ l,p.2.ok prog p.1):∀ p ∈ a :: l,p.2.ok prog p.1:=forall_cons (P:=fun p:Nat × TyD=>p.2.ok prog p.1) h k
theorem tyTab_ok:TyOk prog (tyOf tyTab):=TyOk_of (tyC (a:=(2,_)) tyok2<|tyC (a:=(3,_)) tyok3<|tyC (a:=(4,_)) tyok4<|tyC (a:=(5,_)) tyok5<|tyC (a:=(9,_)) tyok9<|tyC (a:=(20,_)) tyok20<|tyC (a:=(22,_)) tyok22<|tyC (a:=(23,_)) tyok23<|tyC (a:=(25,_)) tyok25<|tyC (a:=(27,_)) tyok27<|tyC (a:=(28,_)) tyok28<|tyC (a:=(35,_)) tyok35<|tyC (a:=(37,_)) tyok37<|tyC (a:=(39,_)) tyok39<|tyC (a:=(42,_)) tyok42<|tyC (a:=(51,_)) tyok51<|tyC (a:=(53,_)) tyok53<|tyC (a:=(58,_)) tyok58<|tyC (a:=(59,_)) tyok59<|tyC (a:=(63,_)) tyok63<|tyC (a:=(64,_)) tyok64<|tyC (a:=(66,_)) tyok66<|tyC (a:=(68,_)) tyok68<|tyC (a:=(70,_)) tyok70<|tyC (a:=(72,_)) tyok72<|tyC (a:=(89,_)) tyok89<|tyC (a:=(94,_)) tyok94<|tyC (a:=(100,_)) tyok100<|tyC (a:=(102,_)) tyok102<|tyC (a:=(103,_)) tyok103<|tyC (a:=(105,_)) tyok105<|tyC (a:=(107,_)) tyok107<|tyC (a:=(108,_)) tyok108<|tyC (a:=(114,_)) tyok114<|tyC (a:=(117,_)) tyok117<|tyC (a:=(120,_)) tyok120<|tyC (a:=(122,_)) tyok122<|tyC (a:=(133,_)) tyok133<|tyC (a:=(135,_)) tyok135<|tyC (a:=(137,_)) tyok137<|tyC (a:=(139,_)) tyok139<|tyC (a:=(142,_)) tyok142<|tyC (a:=(145,_)) tyok145<|tyC (a:=(153,_)) tyok153<|tyC (a:=(154,_)) tyok154<|tyC (a:=(156,_)) tyok156<|tyC (a:=(159,_)) tyok159<|tyC (a:=(167,_)) tyok167<|tyC (a:=(169,_)) tyok169<|tyC (a:=(174,_)) tyok174<|tyC (a:=(175,_)) tyok175<|tyC (a:=(177,_)) tyok177<|tyC (a:=(181,_)) tyok181<|tyC (a:=(183,_)) tyok183<|tyC (a:=(185,_)) tyok185<|tyC (a:=(187,_)) tyok187<|tyC (a:=(188,_)) tyok188<|tyC (a:=(199,_)) tyok199<|tyC (a:=(200,_)) tyok200<|tyC (a:=(202,_)) tyok202<|tyC (a:=(204,_)) tyok204<|tyC (a:=(206,_)) tyok206<|tyC (a:=(209,_)) tyok209<|tyC (a:=(218,_)) tyok218<|tyC (a:=(222,_)) tyok222<|tyC (a:=(224,_)) tyok224<|tyC (a:=(226,_)) tyok226<|tyC (a:=(227,_)) tyok227<|tyC (a:=(229,_)) tyok229<|tyC (a:=(231,_)) tyok231<|tyC (a:=(234,_)) tyok234<|tyC (a:=(236,_)) tyok236<|tyC (a:=(238,_)) tyok238<|tyC (a:=(239,_)) tyok239<|tyC (a:=(241,_)) tyok241<|tyC (a:=(243,_)) tyok243<|tyC (a:=(245,_)) tyok245<|tyC (a:=(250,_)) tyok250<|tyC (a:=(255,_)) tyok255<|tyC (a:=(257,_)) tyok257<|tyC (a:=(264,_)) tyok264<|tyC (a:=(265,_)) tyok265<|tyC (a:=(269,_)) tyok269<|tyC (a:=(270,_)) tyok270<|tyC (a:=(273,_)) tyok273<|tyC (a:=(275,_)) tyok275<|tyC (a:=(283,_)) tyok283<|tyC (a:=(284,_)) tyok284<|tyC (a:=(286,_)) tyok286<|tyC (a:=(287,_)) tyok287<|tyC (a:=(288,_)) tyok288<|tyC (a:=(293,_)) tyok293<|tyC (a:=(300,_)) tyok300<|tyC (a:=(311,_)) tyok311<|tyC (a:=(314,_)) tyok314<|tyC (a:=(319,_)) tyok319<|tyC (a:=(325,_)) tyok325<|tyC (a:=(330,_)) tyok330<|tyC (a:=(332,_)) tyok332<|tyC (a:=(333,_)) tyok333<|tyC (a:=(335,_)) tyok335<|tyC (a:=(337,_)) tyok337<|tyC (a:=(348,_)) tyok348<|tyC (a:=(351,_)) tyok351<|tyC (a:=(358,_)) tyok358<|tyC (a:=(360,_)) tyok360<|tyC (a:=(364,_)) tyok364<|tyC (a:=(366,_)) tyok366<|tyC (a:=(368,_)) tyok368<|tyC (a:=(370,_)) tyok370<|tyC (a:=(372,_)) tyok372<|forall_nil)
@[simp] theorem tyE2:tyOf tyTab 2=some ⟨.int .i64,1,[.int .i64 0],8⟩:=by as_aux_lemma=>kernel_rfl
@[simp] theorem tyE3:tyOf tyTab 3=some ⟨.int .i64,1,[.int .i64 0],8⟩:=by as_aux_lemma=>kernel_rfl
@[simp] theorem tyE4:tyOf tyTab 4=some ⟨.bool,1,[.bool false],1⟩:=by as_aux_lemma=>kernel_rfl
@[simp] theorem tyE5:tyOf tyTab 5=some ⟨.int .u8,1,[.int .u8 0],1⟩:=by as_aux_lemma=>kernel_rfl
@[simp] theorem tyE9:tyOf tyTab 9=some ⟨.str,1,[.string ⟨#[]⟩],16⟩:=by as_aux_lemma=>kernel_rfl
@[simp] theorem tyE20:tyOf tyTab 20=some ⟨.iface true,1,[.nilIface],16⟩:=by as_aux_lemma=>kernel_rfl
@[simp] theorem tyE22:tyOf tyTab 22=some ⟨.sl 9,1,[.slice none 0 0],24⟩:=by as_aux_lemma=>kernel_rfl
@[simp] theorem tyE23:tyOf tyTab 23=some ⟨.sl 107,1,[.slice none 0 0],24⟩:=by as_aux_lemma=>kernel_rfl
@[simp] theorem tyE25:tyOf tyTab 25=some ⟨.agg [(0,22),(1,23)],2,[.slice none 0 0,.slice none 0 0],48⟩:=by as_aux_lemma=>kernel_rfl
@[simp] theorem tyE27:tyOf tyTab 27=some ⟨.agg [(0,3),(1,3),(2,3)],3,[.int .i64 0,.int .i64 0,.int .i64 0],24⟩:=by as_aux_lemma=>kernel_rfl
@[simp] theorem tyE28:tyOf tyTab 28=some ⟨.int .i64,1,[.int .i64 0],8⟩:=by as_aux_lemma=>kernel_rfl
@[simp] theorem tyE35:tyOf tyTab 35=some ⟨.sl 53,1,[.slice none 0 0],24⟩:=by as_aux_lemma=>kernel_rfl
@[simp] theorem tyE37:tyOf tyTab 37=some ⟨.agg [(0,3),(1,3),(2,3)],3,[.int .i64 0,.int .i64 0,.int .i64 0],24⟩:=by as_aux_lemma=>kernel_rfl
@[simp] theorem tyE39:tyOf tyTab 39=some ⟨.agg [(0,3),(1,37),(4,3),(5,3)],6,[.int .i64 0,.int .i64 0,.int .i64 0,.int .i64 0,.int .i64 0,.int .i64 0],48⟩:=by as_aux_lemma=>kernel_rfl
@[simp] theorem tyE42:tyOf tyTab 42=some ⟨.agg [(0,4),(1,4),(2,3),(3,3)],4,[.bool false,.bool false,.int .i64 0,.int .i64 0],24⟩:=by as_aux_lemma=>kernel_rfl
@[simp] theorem tyE51:tyOf tyTab 51=some ⟨.int .i64,1,[.int .i64 0],8⟩:=by as_aux_lemma=>kernel_rfl
@[simp] theorem tyE53:tyOf tyTab 53=some ⟨.agg [(0,51),(1,3),(2,3),(3,3),(4,27)],7,[.int .i64 0,.int .i64 0,.int .i64 0,.int .i64 0,.int .i64 0,.int .i64 0,.int .i64 0],56⟩:=by as_aux_lemma=>kernel_rfl
@[simp] theorem tyE58:tyOf tyTab 58=some ⟨.int .i64,1,[.int .i64 0],8⟩:=by as_aux_lemma=>kernel_rfl
@[simp] theorem tyE59:tyOf tyTab 59=some ⟨.sl 63,1,[.slice none 0 0],24⟩:=by as_aux_lemma=>kernel_rfl
@[simp] theorem tyE63:tyOf tyTab 63=some ⟨.agg [(0,3),(1,3),(2,27)],5,[.int .i64 0,.int .i64 0,.int .i64 0,.int .i64 0,.int .i64 0],40⟩:=by as_aux_lemma=>kernel_rfl
@[simp] theorem tyE64:tyOf tyTab 64=some ⟨.int .i64,1,[.int .i64 0],8⟩:=by as_aux_lemma=>kernel_rfl
@[simp] theorem tyE66:tyOf tyTab 66=some ⟨.func,1,[.nilFunc],8⟩:=by as_aux_lemma=>kernel_rfl
@[simp] theorem tyE68:tyOf tyTab 68=some ⟨.sl 135,1,[.slice none 0 0],24⟩:=by as_aux_lemma=>kernel_rfl
@[simp] theorem tyE70:tyOf tyTab 70=some ⟨.agg [(0,3),(1,3),(2,58),(3,68)],4,[.int .i64 0,.int .i64 0,.int .i64 0,.slice none 0 0],48⟩:=by as_aux_lemma=>kernel_rfl
@[simp] theorem tyE72:tyOf tyTab 72=some ⟨.agg [(0,70),(4,3),(5,3),(6,3)],7,[.int .i64 0,.int .i64 0,.int .i64 0,.slice none 0 0,.int .i64 0,.int .i64 0,.int .i64 0],72⟩:=by as_aux_lemma=>kernel_rfl
@[simp] theorem tyE89:tyOf tyTab 89=some ⟨.sl 3,1,[.slice none 0 0],24⟩:=by as_aux_lemma=>kernel_rfl
@[simp] theorem tyE94:tyOf tyTab 94=some ⟨.agg [(0,3),(1,3),(2,58),(3,68)],4,[.int .i64 0,.int .i64 0,.int .i64 0,.slice none 0 0],48⟩:=by as_aux_lemma=>kernel_rfl
@[simp] theorem tyE100:tyOf tyTab 100=some ⟨.func,1,[.nilFunc],8⟩:=by as_aux_lemma=>kernel_rfl
@[simp] theorem tyE102:tyOf tyTab 102=some ⟨.int .i64,1,[.int .i64 0],8⟩:=by as_aux_lemma=>kernel_rfl
@[simp] theorem tyE103:tyOf tyTab 103=some ⟨.sl 105,1,[.slice none 0 0],24⟩:=by as_aux_lemma=>kernel_rfl
@[simp] theorem tyE105:tyOf tyTab 105=some ⟨.agg [(0,102),(1,9),(2,3),(3,58),(4,68),(5,103)],6,[.int .i64 0,.string ⟨#[]⟩,.int .i64 0,.int .i64 0,.slice none 0 0,.slice none 0 0],88⟩:=by as_aux_lemma=>kernel_rfl
@[simp] theorem tyE107:tyOf tyTab 107=some ⟨.agg [(0,9),(1,105)],7,[.string ⟨#[]⟩,.int .i64 0,.string ⟨#[]⟩,.int .i64 0,.int .i64 0,.slice none 0 0,.slice none 0 0],104⟩:=by as_aux_lemma=>kernel_rfl
@[simp] theorem tyE108:tyOf tyTab 108=some ⟨.func,1,[.nilFunc],8⟩:=by as_aux_lemma=>kernel_rfl
@[simp] theorem tyE114:tyOf tyTab 114=some ⟨.ptr 177,1,[.pointer none],8⟩:=by as_aux_lemma=>kernel_rfl
@[simp] theorem tyE117:tyOf tyTab 117=some ⟨.ptr 122,1,[.pointer none],8⟩:=by as_aux_lemma=>kernel_rfl
@[simp] theorem tyE120:tyOf tyTab 120=some ⟨.agg [(0,3),(1,3),(2,3)],3,[.int .i64 0,.int .i64 0,.int .i64 0],24⟩:=by as_aux_lemma=>kernel_rfl
@[simp] theorem tyE122:tyOf tyTab 122=some ⟨.agg [(0,42),(4,120),(7,120),(10,120)],13,[.bool false,.bool false,.int .i64 0,.int .i64 0,.int .i64 0,.int .i64 0,.int .i64 0,.int .i64 0,.int .i64 0,.int .i64 0,.int .i64 0,.int .i64 0,.int .i64 0],96⟩:=by as_aux_lemma=>kernel_rfl
@[simp] theorem tyE133:tyOf tyTab 133=some ⟨.int .i64,1,[.int .i64 0],8⟩:=by as_aux_lemma=>kernel_rfl
@[simp] theorem tyE135:tyOf tyTab 135=some ⟨.agg [(0,133),(1,3),(2,68)],3,[.int .i64 0,.int .i64 0,.slice none 0 0],40⟩:=by as_aux_lemma=>kernel_rfl
@[simp] theorem tyE137:tyOf tyTab 137=some ⟨.ptr 206,1,[.pointer none],8⟩:=by as_aux_lemma=>kernel_rfl
@[simp] theorem tyE139:tyOf tyTab 139=some ⟨.map 9 9,1,[.map none],8⟩:=by as_aux_lemma=>kernel_rfl
@[simp] theorem tyE142:tyOf tyTab 142=some ⟨.func,1,[.nilFunc],8⟩:=by as_aux_lemma=>kernel_rfl
@[simp] theorem tyE145:tyOf tyTab 145=some ⟨.sl 154,1,[.slice none 0 0],24⟩:=by as_aux_lemma=>kernel_rfl
@[simp] theorem tyE153:tyOf tyTab 153=some ⟨.sl 156,1,[.slice none 0 0],24⟩:=by as_aux_lemma=>kernel_rfl
@[simp] theorem tyE154:tyOf tyTab 154=some ⟨.sl 156,1,[.slice none 0 0],24⟩:=by as_aux_lemma=>kernel_rfl
@[simp] theorem tyE156:tyOf tyTab 156=some ⟨.agg [(0,27),(3,3)],4,[.int .i64 0,.int .i64 0,.int .i64 0,.int .i64 0],32⟩:=by as_aux_lemma=>kernel_rfl
@[simp] theorem tyE159:tyOf tyTab 159=some ⟨.agg [],0,[],0⟩:=by as_aux_lemma=>kernel_rfl
@[simp] theorem tyE167:tyOf tyTab 167=some ⟨.func,1,[.nilFunc],8⟩:=by as_aux_lemma=>kernel_rfl
@[simp] theorem tyE169:tyOf tyTab 169=some ⟨.func,1,[.nilFunc],8⟩:=by as_aux_lemma=>kernel_rfl
@[simp] theorem tyE174:tyOf tyTab 174=some ⟨.map 3 3,1,[.map none],8⟩:=by as_aux_lemma=>kernel_rfl
@[simp] theorem tyE175:tyOf tyTab 175=some ⟨.sl 181,1,[.slice none 0 0],24⟩:=by as_aux_lemma=>kernel_rfl
@[simp] theorem tyE177:tyOf tyTab 177=some ⟨.agg [(0,94),(4,37),(7,89),(8,175),(9,4),(10,27),(13,27),(16,174)],17,[.int .i64 0,.int .i64 0,.int .i64 0,.slice none 0 0,.int .i64 0,.int .i64 0,.int .i64 0,.slice none 0 0,.slice none 0 0,.bool false,.int .i64 0,.int .i64 0,.int .i64 0,.int .i64 0,.int .i64 0,.int .i64 0,.map none],184⟩:=by as_aux_lemma=>kernel_rfl
@[simp] theorem tyE181:tyOf tyTab 181=some ⟨.agg [(0,63),(5,3)],6,[.int .i64 0,.int .i64 0,.int .i64 0,.int .i64 0,.int .i64 0,.int .i64 0],48⟩:=by as_aux_lemma=>kernel_rfl
@[simp] theorem tyE183:tyOf tyTab 183=some ⟨.func,1,[.nilFunc],8⟩:=by as_aux_lemma=>kernel_rfl
@[simp] theorem tyE185:tyOf tyTab 185=some ⟨.func,1,[.nilFunc],8⟩:=by as_aux_lemma=>kernel_rfl
@[simp] theorem tyE187:tyOf tyTab 187=some ⟨.agg [(0,185)],1,[.nilFunc],8⟩:=by as_aux_lemma=>kernel_rfl
@[simp] theorem tyE188:tyOf tyTab 188=some ⟨.map 58 187,1,[.map none],8⟩:=by as_aux_lemma=>kernel_rfl
@[simp] theorem tyE199:tyOf tyTab 199=some ⟨.agg [],0,[],0⟩:=by as_aux_lemma=>kernel_rfl
@[simp] theorem tyE200:tyOf tyTab 200=some ⟨.map 102 264,1,[.map none],8⟩:=by as_aux_lemma=>kernel_rfl
@[simp] theorem tyE202:tyOf tyTab 202=some ⟨.map 9 3,1,[.map none],8⟩:=by as_aux_lemma=>kernel_rfl
@[simp] theorem tyE204:tyOf tyTab 204=some ⟨.agg [(0,202),(1,202)],2,[.map none,.map none],16⟩:=by as_aux_lemma=>kernel_rfl
@[simp] theorem tyE206:tyOf tyTab 206=some ⟨.agg [(0,204),(2,200),(3,3),(4,3)],5,[.map none,.map none,.map none,.int .i64 0,.int .i64 0],40⟩:=by as_aux_lemma=>kernel_rfl
@[simp] theorem tyE209:tyOf tyTab 209=some ⟨.map 3 4,1,[.map none],8⟩:=by as_aux_lemma=>kernel_rfl
@[simp] theorem tyE218:tyOf tyTab 218=some ⟨.ptr 222,1,[.pointer none],8⟩:=by as_aux_lemma=>kernel_rfl
@[simp] theorem tyE222:tyOf tyTab 222=some ⟨.agg [(0,25),(2,145),(3,145)],4,[.slice none 0 0,.slice none 0 0,.slice none 0 0,.slice none 0 0],96⟩:=by as_aux_lemma=>kernel_rfl
@[simp] theorem tyE224:tyOf tyTab 224=some ⟨.ptr 229,1,[.pointer none],8⟩:=by as_aux_lemma=>kernel_rfl
@[simp] theorem tyE226:tyOf tyTab 226=some ⟨.map 231 53,1,[.map none],8⟩:=by as_aux_lemma=>kernel_rfl
@[simp] theorem tyE227:tyOf tyTab 227=some ⟨.arr 4 3,4,[.int .i64 0,.int .i64 0,.int .i64 0,.int .i64 0],32⟩:=by as_aux_lemma=>kernel_rfl
@[simp] theorem tyE229:tyOf tyTab 229=some ⟨.agg [(0,226),(1,227)],5,[.map none,.int .i64 0,.int .i64 0,.int .i64 0,.int .i64 0],40⟩:=by as_aux_lemma=>kernel_rfl
@[simp] theorem tyE231:tyOf tyTab 231=some ⟨.agg [(0,3),(1,3)],2,[.int .i64 0,.int .i64 0],16⟩:=by as_aux_lemma=>kernel_rfl
@[simp] theorem tyE234:tyOf tyTab 234=some ⟨.func,1,[.nilFunc],8⟩:=by as_aux_lemma=>kernel_rfl
@[simp] theorem tyE236:tyOf tyTab 236=some ⟨.ptr 241,1,[.pointer none],8⟩:=by as_aux_lemma=>kernel_rfl
@[simp] theorem tyE238:tyOf tyTab 238=some ⟨.map 9 154,1,[.map none],8⟩:=by as_aux_lemma=>kernel_rfl
@[simp] theorem tyE239:tyOf tyTab 239=some ⟨.map 102 333,1,[.map none],8⟩:=by as_aux_lemma=>kernel_rfl
@[simp] theorem tyE241:tyOf tyTab 241=some ⟨.agg [(0,25),(2,238),(3,202),(4,145),(5,239)],6,[.slice none 0 0,.slice none 0 0,.map none,.map none,.slice none 0 0,.map none],96⟩:=by as_aux_lemma=>kernel_rfl
@[simp] theorem tyE243:tyOf tyTab 243=some ⟨.sl 89,1,[.slice none 0 0],24⟩:=by as_aux_lemma=>kernel_rfl
@[simp] theorem tyE245:tyOf tyTab 245=some ⟨.func,1,[.nilFunc],8⟩:=by as_aux_lemma=>kernel_rfl
@[simp] theorem tyE250:tyOf tyTab 250=some ⟨.func,1,[.nilFunc],8⟩:=by as_aux_lemma=>kernel_rfl
@[simp] theorem tyE255:tyOf tyTab 255=some ⟨.arr 66 3,66,List.replicate 66 (.int .i64 0),528⟩:=by as_aux_lemma=>kernel_rfl
@[simp] theorem tyE257:tyOf tyTab 257=some ⟨.agg [(0,3),(1,255)],67,List.replicate 67 (.int .i64 0),536⟩:=by as_aux_lemma=>kernel_rfl
@[simp] theorem tyE264:tyOf tyTab 264=some ⟨.agg [(0,3),(1,3),(2,4),(3,4),(4,3),(5,3)],6,[.int .i64 0,.int .i64 0,.bool false,.bool false,.int .i64 0,.int .i64 0],40⟩:=by as_aux_lemma=>kernel_rfl
@[simp] theorem tyE265:tyOf tyTab 265=some ⟨.func,1,[.nilFunc],8⟩:=by as_aux_lemma=>kernel_rfl
@[simp] theorem tyE269:tyOf tyTab 269=some ⟨.sl 5,1,[.slice none 0 0],24⟩:=by as_aux_lemma=>kernel_rfl
@[simp] theorem tyE270:tyOf tyTab 270=some ⟨.map 9 4,1,[.map none],8⟩:=by as_aux_lemma=>kernel_rfl
@[simp] theorem tyE273:tyOf tyTab 273=some ⟨.sl 275,1,[.slice none 0 0],24⟩:=by as_aux_lemma=>kernel_rfl
@[simp] theorem tyE275:tyOf tyTab 275=some ⟨.sl 4,1,[.slice none 0 0],24⟩:=by as_aux_lemma=>kernel_rfl
@[simp] theorem tyE283:tyOf tyTab 283=some ⟨.func,1,[.nilFunc],8⟩:=by as_aux_lemma=>kernel_rfl
@[simp] theorem tyE284:tyOf tyTab 284=some ⟨.map 287 4,1,[.map none],8⟩:=by as_aux_lemma=>kernel_rfl
@[simp] theorem tyE286:tyOf tyTab 286=some ⟨.func,1,[.nilFunc],8⟩:=by as_aux_lemma=>kernel_rfl
@[simp] theorem tyE287:tyOf tyTab 287=some ⟨.arr 2 3,2,[.int .i64 0,.int .i64 0],16⟩:=by as_aux_lemma=>kernel_rfl
@[simp] theorem tyE288:tyOf tyTab 288=some ⟨.agg [],0,[],0⟩:=by as_aux_lemma=>kernel_rfl
@[simp] theorem tyE293:tyOf tyTab 293=some ⟨.agg [(0,22),(1,22),(2,3)],3,[.slice none 0 0,.slice none 0 0,.int .i64 0],56⟩:=by as_aux_lemma=>kernel_rfl
@[simp] theorem tyE300:tyOf tyTab 300=some ⟨.func,1,[.nilFunc],8⟩:=by as_aux_lemma=>kernel_rfl
@[simp] theorem tyE311:tyOf tyTab 311=some ⟨.map 51 314,1,[.map none],8⟩:=by as_aux_lemma=>kernel_rfl
@[simp] theorem tyE314:tyOf tyTab 314=some ⟨.func,1,[.nilFunc],8⟩:=by as_aux_lemma=>kernel_rfl
@[simp] theorem tyE319:tyOf tyTab 319=some ⟨.int .u64,1,[.int .u64 0],8⟩:=by as_aux_lemma=>kernel_rfl
@[simp] theorem tyE325:tyOf tyTab 325=some ⟨.map 3 89,1,[.map none],8⟩:=by as_aux_lemma=>kernel_rfl
@[simp] theorem tyE330:tyOf tyTab 330=some ⟨.func,1,[.nilFunc],8⟩:=by as_aux_lemma=>kernel_rfl
@[simp] theorem tyE332:tyOf tyTab 332=some ⟨.func,1,[.nilFunc],8⟩:=by as_aux_lemma=>kernel_rfl
@[simp] theorem tyE333:tyOf tyTab 333=some ⟨.func,1,[.nilFunc],8⟩:=by as_aux_lemma=>kernel_rfl
@[simp] theorem tyE335:tyOf tyTab 335=some ⟨.func,1,[.nilFunc],8⟩:=by as_aux_lemma=>kernel_rfl
@[simp] theorem tyE337:tyOf tyTab 337=some ⟨.agg [(0,3),(1,3),(2,4),(3,4),(4,3),(5,3)],6,[.int .i64 0,.int .i64 0,.bool false,.bool false,.int .i64 0,.int .i64 0],40⟩:=by as_aux_lemma=>kernel_rfl
@[simp] theorem tyE348:tyOf tyTab 348=some ⟨.agg [],0,[],0⟩:=by as_aux_lemma=>kernel_rfl
@[simp] theorem tyE351:tyOf tyTab 351=some ⟨.int .i64,1,[.int .i64 0],8⟩:=by as_aux_lemma=>kernel_rfl
@[simp] theorem tyE358:tyOf tyTab 358=some ⟨.int .u32,1,[.int .u32 0],4⟩:=by as_aux_lemma=>kernel_rfl
@[simp] theorem tyE360:tyOf tyTab 360=some ⟨.int .u64,1,[.int .u64 0],8⟩:=by as_aux_lemma=>kernel_rfl
@[simp] theorem tyE364:tyOf tyTab 364=some ⟨.func,1,[.nilFunc],8⟩:=by as_aux_lemma=>kernel_rfl
@[simp] theorem tyE366:tyOf tyTab 366=some ⟨.func,1,[.nilFunc],8⟩:=by as_aux_lemma=>kernel_rfl
@[simp] theorem tyE368:tyOf tyTab 368=some ⟨.map 3 153,1,[.map none],8⟩:=by as_aux_lemma=>kernel_rfl
@[simp] theorem tyE370:tyOf tyTab 370=some ⟨.map 27 3,1,[.map none],8⟩:=by as_aux_lemma=>kernel_rfl
@[simp] theorem tyE372:tyOf tyTab 372=some ⟨.func,1,[.nilFunc],8⟩:=by as_aux_lemma=>kernel_rfl
end Go.Aft
end
section
set_option maxRecDepth 20000
namespace Go.Aft
open Go.Proofs.Tryz
def cxK (pub:Nat->Kd):Cx:=⟨tyOf tyTab,fun _=>none,pub,fun _ _=>none,RD.any⟩
@[simp] theorem cxK_ty {p:Nat->Kd}:(cxK p).ty=tyOf tyTab:=rfl
@[simp] theorem cxK_eqt {p:Nat->Kd} (t:TypeId):(cxK p).eqt t=none:=rfl
@[simp] theorem cxK_pub {p:Nat->Kd} (t:Nat):(cxK p).pub t=p t:=rfl
@[simp] theorem cxK_spec {p:Nat->Kd} (f:FuncId) (a:List LV):(cxK p).spec f a=none:=rfl
@[simp] theorem cxK_rd {p:Nat->Kd}:(cxK p).rd=RD.any:=rfl
theorem cxK_ok {p:Nat->Kd}:(cxK p).ok prog:=⟨tyTab_ok,fun T ks h=>(by cases h),fun T ks h=>(by cases h),fun f args pre v h=>(by cases h),(by kernel_rfl)⟩
def kds (im pu ve:List Nat):Nat->Kd:=fun t=>if t ∈ im then .imm else if t ∈ pu then .pub else if t ∈ ve then .vec else .loc
@[simp] theorem kds_apply {im pu ve:List Nat} {t:Nat}:kds im pu ve t=if t ∈ im then .imm else if t ∈ pu then .pub else if t ∈ ve then .vec else .loc:=rfl
def cx0:Cx:=⟨tyOf tyTab,fun _=>none,fun _=>.loc,fun _ _=>none,RD.any⟩
@[simp] theorem cx0_ty:cx0.ty=tyOf tyTab:=rfl
@[simp] theorem cx0_eqt (t:TypeId):cx0.eqt t=none:=rfl
@[simp] theorem cx0_pub (t:Nat):cx0.pub t=.loc:=rfl
@[simp] theorem cx0_spec (f:FuncId) (a:List LV):cx0.spec f a=none:=rfl
@[simp] theorem cx0_rd:cx0.rd=RD.any:=rfl
theorem cx0_ok:cx0.ok prog:=cxK_ok
end Go.Aft
end
section
set_option maxRecDepth 20000
namespace Go.Aft
open Go.Proofs.Tryz
theorem near_within (n lo hi:Int):AFun prog 51 [intV .i64 n,intV .i64 lo,intV .i64 hi] (bool (decide (lo<=n) && decide (n<=hi))):=by
 refine AFun.body cx0_ok func51 rfl call51 (by rw [ntmps51];simp) rfl fun _ H=>?_
 simp [ntmps51,results51]
theorem wrap64 {n:Int} (h1:-9223372036854775808<=n) (h2:n < 9223372036854775808):IntKind.wrap .i64 n=n:=by
 simp [IntKind.wrap,IntKind.bits,IntKind.signed];omega
theorem wrap_succ {i n:Nat} (h:i < n) (hn:n<=9223372036854775807):IntKind.wrap .i64 ((i:Int)+1)=(i:Int)+1:=by rw [wrap64] <;> omega
def idx (l:List Str) (s:Str):Int:=match l.findIdx? (fun x=>decide (x=s)) with | some i=>i | none=>-1
theorem idx_at {l:List Str} {s:Str} {i:Nat} (h:i < l.length) (e:l[i]=s) (hlt:∀ (j:Nat) (h:j < l.length),j < i->l[j] ≠ s):idx l s=i:=by
 unfold idx
 have:l.findIdx? (fun x=>decide (x=s))=some i:=by
  rw [List.findIdx?_eq_some_iff_getElem]
  exact ⟨h,by simpa using e,fun j hj=>by simpa using hlt j (by omega) hj⟩
 rw [this]
theorem idx_none {l:List Str} {s:Str} (hlt:∀ (j:Nat) (h:j < l.length),l[j] ≠ s):idx l s = -1:=by
 unfold idx
 have:l.findIdx? (fun x=>decide (x=s))=none:=by
  rw [List.findIdx?_eq_none_iff]
  intro x hx
  obtain ⟨j,hj,rfl⟩:=List.mem_iff_getElem.1 hx
  simpa using hlt j hj
 rw [this]
theorem ref02_Index (l:List Str) (s:Str):AFun prog 88 [sl (l.map rS),.d (dS s)] (intV .i64 (idx l s)):=by
 refine AFun.body cx0_ok func88 rfl call88 (by rw [ntmps88];simp) rfl fun hf H=>?_
 simp [ntmps88,results88] at hf |-
 refine AW.loopS cx0_ok (fun i:Nat=>⟨[(0,.d (.sl (l.map rS))),(1,.d (.k (.string s))),(5,.d (.k (.int .i64 i)))],[],H⟩) (fun i=>l.length - i) (fun i=>i<=l.length/\∀ j (h:j < l.length),j < i->l[j] ≠ s) 0 (by simp) fun i hi=>?_
 simp
 refine ⟨fun h=>?_,fun h=>?_⟩
 ·simp [h,rS,wrap_succ h hf.1]
  refine ⟨fun e=>(idx_at h e hi.2).symm,fun e=>NX.go (i+1) (by omega) ⟨h,fun j hj hji=>?_⟩ (by simp)⟩
  by_cases q:j=i
  ·subst q;exact e
  ·exact hi.2 j hj (by omega)
 ·exact (idx_none fun j hj=>hi.2 j hj (by omega)).symm
end Go.Aft
end
section
set_option maxRecDepth 20000
namespace Go.Aft
open Go.Proofs.Tryz
theorem take_more {α:Type} {l:List α} {i:Nat} (h:i < l.length):l.take i ++ [l[i]]=l.take (i+1):=by
 simp only [List.take_add_one,List.getElem?_eq_getElem h,Option.toList]
theorem ref02_CopyCalc1 (op n:Int) (kids:List Calc) (hk:kids.length * 40<=140737488351232) (ih:∀ k ∈ kids,AFun prog 94 [lv (rCalc k)] (lv (rCalc k))):AFun prog 94 [lv (rCalc (.mk op n kids))] (lv (rCalc (.mk op n kids))):=by
 refine AFun.body (cxK_ok (p:=kds [1] [] [])) func94 rfl call94 (by rw [ntmps94];simp) rfl fun hf H=>?_
 simp [ntmps94,results94,rCalc_eq,Calc.op,Calc.n,Calc.kids]
 refine AW.loopS (cxK_ok (p:=kds [1] [] [])) (fun a:Nat × LV × GH=>⟨[(1,.ip [.d (.k (.int .i64 op)),.d (.k (.int .i64 n)),.d (.sl (kids.map rCalc))] 0),(2,.lp 2 0),(3,.lp 3 0),(4,.d (.k (.int .i64 a.1)))],
  [(2,[.d (.k (.int .i64 0)),.d (.k (.int .i64 0)),.d (.k (.slice none 0 0))]),(3,[.d (.k (.int .i64 op)),.d (.k (.int .i64 n)),a.2.1])],a.2.2⟩) (fun a=>kids.length - a.1) (fun a=>a.1<=kids.length/\App 135 3 H a.2.1 ((kids.take a.1).map rCalc) a.2.2) (0,.d (.k (.slice none 0 0)),H) ?_ ?_
 ·exact ⟨⟨Nat.zero_le _,.nil⟩,by simp⟩
 ·rintro ⟨i,x,H'⟩ ⟨hi,happ⟩
  simp only at hi happ
  simp
  refine ⟨fun h=>?_,fun h=>?_⟩
  ·refine AW.draw (cxK_ok (p:=kds [1] [] [])) [(7,.n)] (.q 0<|.q 2<|.q 4<|.q 1<|.f<|.one 3<|.q 5<|.f<|.one 6<|.q 7<|.q 8<|.f<|.one 9<|.q 10<|.f<|.one 11<|.done) (by kernel_rfl) ?_
   simp [h,List.getElem?_eq_getElem h,rCalc_eq]
   refine FC.afun (v:=lv (rCalc kids[i])) (by simpa [rCalc_eq] using ih kids[i] (List.getElem_mem h)) ?_
   simp [rCalc_eq]
   refine APK.appMap rCalc (kids.take i) [kids[i]] tyE68 rfl tyE135 (by simp) rCalc_len (x:=x) (by simp) happ (by simp [rCalc_eq,rowsOf]) (by simp) (by simp;omega) (by simp) fun x' H' happ'=>?_
   rw [take_more h] at happ'
   simp [happ'.plain.all,happ'.only,wrap_succ (n:=9223372036854775807) (show i < 9223372036854775807 by omega)]
   exact NX.go (i+1,x',H') (by simp;omega) ⟨h,happ'⟩ (by simp [happ'.only])
  ·have e:i=kids.length:=by omega
   subst e
   rw [List.take_length] at happ
   have hz:=happ.fz
   simp [rCalc_eq,Calc.op,Calc.n,Calc.kids,happ.plain.all,hz.1]
   exact ⟨hz.2.1,hz.2.2⟩
end Go.Aft
end
section
set_option maxRecDepth 20000
namespace Go.Aft
open Go.Proofs.Tryz
def inB (n lo hi:Int):Bool:=decide (lo<=n) && decide (n<=hi)
theorem near_within' (n lo hi:Int):AFun prog 51 [.d (.k (.int .i64 n)),.d (.k (.int .i64 lo)),.d (.k (.int .i64 hi))] (.d (.k (.bool (inB n lo hi)))):=near_within n lo hi
theorem ref17_in (n lo hi:Int):AFun prog 67 [.d (.k (.int .i64 n)),.d (.k (.int .i64 lo)),.d (.k (.int .i64 hi))] (.d (.k (.bool (inB n lo hi)))):=by
 refine AFun.body cx0_ok func67 rfl call67 (by rw [ntmps67];simp) rfl fun _ H=>?_
 simp [ntmps67,results67,inB]
theorem ref05_in (n lo hi:Int):AFun prog 92 [.d (.k (.int .i64 n)),.d (.k (.int .i64 lo)),.d (.k (.int .i64 hi))] (.d (.k (.bool (inB n lo hi)))):=by
 refine AFun.body cx0_ok func92 rfl call92 (by rw [ntmps92];simp) rfl fun _ H=>?_
 simp [ntmps92,results92,inB]
theorem near_value (n:Int):AFun prog 52 [.d (.k (.int .i64 n))] (.d (.k (.bool (inB n (-1000000000) 1000000000)))):=by
 refine AFun.body cx0_ok func52 rfl call52 (by rw [ntmps52];simp) rfl fun _ H=>?_
 simp [ntmps52,results52]
 refine EC.afun (near_within' _ _ _) ?_
 simp
def recB (r:Rec):Bool:=inB r.at_ 0 200 && inB r.key (-1000000000) 1000000000 && inB r.val (-1000000000) 1000000000
theorem ref05_Rec (r:Rec):AFun prog 54 [lv (rRec r)] (.d (.k (.bool (recB r)))):=by
 refine AFun.body cx0_ok func54 rfl call54 (by rw [ntmps54];simp) rfl fun _ H=>?_
 simp [ntmps54,results54,rRec,noS]
 refine EC.afun (ref05_in _ _ _) ?_
 cases h1:inB r.at_ 0 200
 ·simp [recB,h1]
 ·simp [h1]
  refine EC.afun (ref05_in _ _ _) ?_
  cases h2:inB r.key (-1000000000) 1000000000
  ·simp [recB,h1,h2]
  ·simp [h2]
   refine EC.afun (ref05_in _ _ _) ?_
   simp [recB,h1,h2]
end Go.Aft
end
