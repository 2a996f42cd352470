import Derived.Test.YtdhphbedajhmnaaGreatA13
import Derived.Test.YtdhphbedajhmnaaGreatProg
set_option linter.unusedVariables false
set_option linter.unusedSimpArgs false
set_option linter.deprecated false
set_option maxRecDepth 20000
namespace Go.Aft
open Go.Proofs.Tryz
def ty1 : TyD := ⟨.func, 1, [.nilFunc], 8⟩
theorem tyok1 : ty1.ok prog 1 := TyD.ok_of type1 underlying1 (by kernel_rfl)
def ty2 : TyD := ⟨.int .i64, 1, [.int .i64 0], 8⟩
theorem tyok2 : ty2.ok prog 2 := TyD.ok_of type2 underlying2 (by kernel_rfl)
def ty3 : TyD := ⟨.int .i64, 1, [.int .i64 0], 8⟩
theorem tyok3 : ty3.ok prog 3 := TyD.ok_of type3 underlying3 (by kernel_rfl)
def ty4 : TyD := ⟨.bool, 1, [.bool false], 1⟩
theorem tyok4 : ty4.ok prog 4 := TyD.ok_of type4 underlying4 (by kernel_rfl)
def ty5 : TyD := ⟨.int .u8, 1, [.int .u8 0], 1⟩
theorem tyok5 : ty5.ok prog 5 := TyD.ok_of type5 underlying5 (by kernel_rfl)
def ty7 : TyD := ⟨.agg [(0, 2), (1, 3), (2, 4), (3, 6)], 4, [.int .i64 0, .int .i64 0, .bool false, .int .u8 0], 24⟩
theorem tyok7 : ty7.ok prog 7 := TyD.ok_of type7 underlying7 (by kernel_rfl)
def ty9 : TyD := ⟨.str, 1, [.string ⟨#[]⟩], 16⟩
theorem tyok9 : ty9.ok prog 9 := TyD.ok_of type9 underlying9 (by kernel_rfl)
def ty12 : TyD := ⟨.int .u64, 1, [.int .u64 0], 8⟩
theorem tyok12 : ty12.ok prog 12 := TyD.ok_of type12 underlying12 (by kernel_rfl)
def ty13 : TyD := ⟨.agg [(0, 9), (1, 12)], 2, [.string ⟨#[]⟩, .int .u64 0], 24⟩
theorem tyok13 : ty13.ok prog 13 := TyD.ok_of type13 underlying13 (by kernel_rfl)
def ty18 : TyD := ⟨.agg [(0, 17)], 1, [.pointer none], 8⟩
theorem tyok18 : ty18.ok prog 18 := TyD.ok_of type18 underlying18 (by kernel_rfl)
def ty20 : TyD := ⟨.iface true, 1, [.nilIface], 16⟩
theorem tyok20 : ty20.ok prog 20 := TyD.ok_of type20 underlying20 (by kernel_rfl)
def ty21 : TyD := ⟨.int .i32, 1, [.int .i32 0], 4⟩
theorem tyok21 : ty21.ok prog 21 := TyD.ok_of type21 underlying21 (by kernel_rfl)
def ty22 : TyD := ⟨.sl 9, 1, [.slice none 0 0], 24⟩
theorem tyok22 : ty22.ok prog 22 := TyD.ok_of type22 underlying22 (by kernel_rfl)
def ty23 : TyD := ⟨.sl 107, 1, [.slice none 0 0], 24⟩
theorem tyok23 : ty23.ok prog 23 := TyD.ok_of type23 underlying23 (by kernel_rfl)
def ty24 : TyD := ⟨.agg [(0, 22), (1, 23)], 2, [.slice none 0 0, .slice none 0 0], 48⟩
theorem tyok24 : ty24.ok prog 24 := TyD.ok_of type24 underlying24 (by kernel_rfl)
def ty25 : TyD := ⟨.agg [(0, 22), (1, 23)], 2, [.slice none 0 0, .slice none 0 0], 48⟩
theorem tyok25 : ty25.ok prog 25 := TyD.ok_of type25 underlying25 (by kernel_rfl)
def ty26 : TyD := ⟨.agg [(0, 3), (1, 3), (2, 3)], 3, [.int .i64 0, .int .i64 0, .int .i64 0], 24⟩
theorem tyok26 : ty26.ok prog 26 := TyD.ok_of type26 underlying26 (by kernel_rfl)
def ty27 : TyD := ⟨.agg [(0, 3), (1, 3), (2, 3)], 3, [.int .i64 0, .int .i64 0, .int .i64 0], 24⟩
theorem tyok27 : ty27.ok prog 27 := TyD.ok_of type27 underlying27 (by kernel_rfl)
def ty28 : TyD := ⟨.int .i64, 1, [.int .i64 0], 8⟩
theorem tyok28 : ty28.ok prog 28 := TyD.ok_of type28 underlying28 (by kernel_rfl)
def ty30 : TyD := ⟨.func, 1, [.nilFunc], 8⟩
theorem tyok30 : ty30.ok prog 30 := TyD.ok_of type30 underlying30 (by kernel_rfl)
def ty32 : TyD := ⟨.func, 1, [.nilFunc], 8⟩
theorem tyok32 : ty32.ok prog 32 := TyD.ok_of type32 underlying32 (by kernel_rfl)
def ty33 : TyD := ⟨.func, 1, [.nilFunc], 8⟩
theorem tyok33 : ty33.ok prog 33 := TyD.ok_of type33 underlying33 (by kernel_rfl)
def ty34 : TyD := ⟨.func, 1, [.nilFunc], 8⟩
theorem tyok34 : ty34.ok prog 34 := TyD.ok_of type34 underlying34 (by kernel_rfl)
def ty35 : TyD := ⟨.sl 53, 1, [.slice none 0 0], 24⟩
theorem tyok35 : ty35.ok prog 35 := TyD.ok_of type35 underlying35 (by kernel_rfl)
def ty36 : TyD := ⟨.agg [(0, 3), (1, 3), (2, 3)], 3, [.int .i64 0, .int .i64 0, .int .i64 0], 24⟩
theorem tyok36 : ty36.ok prog 36 := TyD.ok_of type36 underlying36 (by kernel_rfl)
def ty37 : TyD := ⟨.agg [(0, 3), (1, 3), (2, 3)], 3, [.int .i64 0, .int .i64 0, .int .i64 0], 24⟩
theorem tyok37 : ty37.ok prog 37 := TyD.ok_of type37 underlying37 (by kernel_rfl)
def ty38 : TyD := ⟨.agg [(0, 3), (1, 37), (4, 3), (5, 3)], 6, [.int .i64 0, .int .i64 0, .int .i64 0, .int .i64 0, .int .i64 0, .int .i64 0], 48⟩
theorem tyok38 : ty38.ok prog 38 := TyD.ok_of type38 underlying38 (by kernel_rfl)
def ty39 : TyD := ⟨.agg [(0, 3), (1, 37), (4, 3), (5, 3)], 6, [.int .i64 0, .int .i64 0, .int .i64 0, .int .i64 0, .int .i64 0, .int .i64 0], 48⟩
theorem tyok39 : ty39.ok prog 39 := TyD.ok_of type39 underlying39 (by kernel_rfl)
def ty40 : TyD := ⟨.func, 1, [.nilFunc], 8⟩
theorem tyok40 : ty40.ok prog 40 := TyD.ok_of type40 underlying40 (by kernel_rfl)
def ty41 : TyD := ⟨.agg [(0, 4), (1, 4), (2, 3), (3, 3)], 4, [.bool false, .bool false, .int .i64 0, .int .i64 0], 24⟩
theorem tyok41 : ty41.ok prog 41 := TyD.ok_of type41 underlying41 (by kernel_rfl)
def ty42 : TyD := ⟨.agg [(0, 4), (1, 4), (2, 3), (3, 3)], 4, [.bool false, .bool false, .int .i64 0, .int .i64 0], 24⟩
theorem tyok42 : ty42.ok prog 42 := TyD.ok_of type42 underlying42 (by kernel_rfl)
def ty44 : TyD := ⟨.func, 1, [.nilFunc], 8⟩
theorem tyok44 : ty44.ok prog 44 := TyD.ok_of type44 underlying44 (by kernel_rfl)
def ty45 : TyD := ⟨.func, 1, [.nilFunc], 8⟩
theorem tyok45 : ty45.ok prog 45 := TyD.ok_of type45 underlying45 (by kernel_rfl)
def ty46 : TyD := ⟨.func, 1, [.nilFunc], 8⟩
theorem tyok46 : ty46.ok prog 46 := TyD.ok_of type46 underlying46 (by kernel_rfl)
def ty47 : TyD := ⟨.func, 1, [.nilFunc], 8⟩
theorem tyok47 : ty47.ok prog 47 := TyD.ok_of type47 underlying47 (by kernel_rfl)
def ty48 : TyD := ⟨.func, 1, [.nilFunc], 8⟩
theorem tyok48 : ty48.ok prog 48 := TyD.ok_of type48 underlying48 (by kernel_rfl)
def ty49 : TyD := ⟨.func, 1, [.nilFunc], 8⟩
theorem tyok49 : ty49.ok prog 49 := TyD.ok_of type49 underlying49 (by kernel_rfl)
def ty50 : TyD := ⟨.func, 1, [.nilFunc], 8⟩
theorem tyok50 : ty50.ok prog 50 := TyD.ok_of type50 underlying50 (by kernel_rfl)
def ty51 : TyD := ⟨.int .i64, 1, [.int .i64 0], 8⟩
theorem tyok51 : ty51.ok prog 51 := TyD.ok_of type51 underlying51 (by kernel_rfl)
def ty52 : TyD := ⟨.agg [(0, 51), (1, 3), (2, 3), (3, 3), (4, 27)], 7, [.int .i64 0, .int .i64 0, .int .i64 0, .int .i64 0, .int .i64 0, .int .i64 0, .int .i64 0], 56⟩
theorem tyok52 : ty52.ok prog 52 := TyD.ok_of type52 underlying52 (by kernel_rfl)
def ty53 : TyD := ⟨.agg [(0, 51), (1, 3), (2, 3), (3, 3), (4, 27)], 7, [.int .i64 0, .int .i64 0, .int .i64 0, .int .i64 0, .int .i64 0, .int .i64 0, .int .i64 0], 56⟩
theorem tyok53 : ty53.ok prog 53 := TyD.ok_of type53 underlying53 (by kernel_rfl)
def ty54 : TyD := ⟨.func, 1, [.nilFunc], 8⟩
theorem tyok54 : ty54.ok prog 54 := TyD.ok_of type54 underlying54 (by kernel_rfl)
def ty55 : TyD := ⟨.func, 1, [.nilFunc], 8⟩
theorem tyok55 : ty55.ok prog 55 := TyD.ok_of type55 underlying55 (by kernel_rfl)
def ty56 : TyD := ⟨.func, 1, [.nilFunc], 8⟩
theorem tyok56 : ty56.ok prog 56 := TyD.ok_of type56 underlying56 (by kernel_rfl)
def ty57 : TyD := ⟨.func, 1, [.nilFunc], 8⟩
theorem tyok57 : ty57.ok prog 57 := TyD.ok_of type57 underlying57 (by kernel_rfl)
def ty58 : TyD := ⟨.int .i64, 1, [.int .i64 0], 8⟩
theorem tyok58 : ty58.ok prog 58 := TyD.ok_of type58 underlying58 (by kernel_rfl)
def ty59 : TyD := ⟨.sl 63, 1, [.slice none 0 0], 24⟩
theorem tyok59 : ty59.ok prog 59 := TyD.ok_of type59 underlying59 (by kernel_rfl)
def ty61 : TyD := ⟨.func, 1, [.nilFunc], 8⟩
theorem tyok61 : ty61.ok prog 61 := TyD.ok_of type61 underlying61 (by kernel_rfl)
def ty62 : TyD := ⟨.agg [(0, 3), (1, 3), (2, 27)], 5, [.int .i64 0, .int .i64 0, .int .i64 0, .int .i64 0, .int .i64 0], 40⟩
theorem tyok62 : ty62.ok prog 62 := TyD.ok_of type62 underlying62 (by kernel_rfl)
def ty63 : TyD := ⟨.agg [(0, 3), (1, 3), (2, 27)], 5, [.int .i64 0, .int .i64 0, .int .i64 0, .int .i64 0, .int .i64 0], 40⟩
theorem tyok63 : ty63.ok prog 63 := TyD.ok_of type63 underlying63 (by kernel_rfl)
def ty64 : TyD := ⟨.int .i64, 1, [.int .i64 0], 8⟩
theorem tyok64 : ty64.ok prog 64 := TyD.ok_of type64 underlying64 (by kernel_rfl)
def ty66 : TyD := ⟨.func, 1, [.nilFunc], 8⟩
theorem tyok66 : ty66.ok prog 66 := TyD.ok_of type66 underlying66 (by kernel_rfl)
def ty67 : TyD := ⟨.func, 1, [.nilFunc], 8⟩
theorem tyok67 : ty67.ok prog 67 := TyD.ok_of type67 underlying67 (by kernel_rfl)
def ty68 : TyD := ⟨.sl 135, 1, [.slice none 0 0], 24⟩
theorem tyok68 : ty68.ok prog 68 := TyD.ok_of type68 underlying68 (by kernel_rfl)
def ty69 : TyD := ⟨.agg [(0, 3), (1, 3), (2, 58), (3, 68)], 4, [.int .i64 0, .int .i64 0, .int .i64 0, .slice none 0 0], 48⟩
theorem tyok69 : ty69.ok prog 69 := TyD.ok_of type69 underlying69 (by kernel_rfl)
def ty70 : TyD := ⟨.agg [(0, 3), (1, 3), (2, 58), (3, 68)], 4, [.int .i64 0, .int .i64 0, .int .i64 0, .slice none 0 0], 48⟩
theorem tyok70 : ty70.ok prog 70 := TyD.ok_of type70 underlying70 (by kernel_rfl)
def ty71 : TyD := ⟨.agg [(0, 70), (4, 3), (5, 3), (6, 3)], 7, [.int .i64 0, .int .i64 0, .int .i64 0, .slice none 0 0, .int .i64 0, .int .i64 0, .int .i64 0], 72⟩
theorem tyok71 : ty71.ok prog 71 := TyD.ok_of type71 underlying71 (by kernel_rfl)
def ty72 : TyD := ⟨.agg [(0, 70), (4, 3), (5, 3), (6, 3)], 7, [.int .i64 0, .int .i64 0, .int .i64 0, .slice none 0 0, .int .i64 0, .int .i64 0, .int .i64 0], 72⟩
theorem tyok72 : ty72.ok prog 72 := TyD.ok_of type72 underlying72 (by kernel_rfl)
def ty74 : TyD := ⟨.func, 1, [.nilFunc], 8⟩
theorem tyok74 : ty74.ok prog 74 := TyD.ok_of type74 underlying74 (by kernel_rfl)
def ty75 : TyD := ⟨.func, 1, [.nilFunc], 8⟩
theorem tyok75 : ty75.ok prog 75 := TyD.ok_of type75 underlying75 (by kernel_rfl)
def ty76 : TyD := ⟨.func, 1, [.nilFunc], 8⟩
theorem tyok76 : ty76.ok prog 76 := TyD.ok_of type76 underlying76 (by kernel_rfl)
def ty77 : TyD := ⟨.func, 1, [.nilFunc], 8⟩
theorem tyok77 : ty77.ok prog 77 := TyD.ok_of type77 underlying77 (by kernel_rfl)
def ty78 : TyD := ⟨.func, 1, [.nilFunc], 8⟩
theorem tyok78 : ty78.ok prog 78 := TyD.ok_of type78 underlying78 (by kernel_rfl)
def ty79 : TyD := ⟨.func, 1, [.nilFunc], 8⟩
theorem tyok79 : ty79.ok prog 79 := TyD.ok_of type79 underlying79 (by kernel_rfl)
def ty80 : TyD := ⟨.func, 1, [.nilFunc], 8⟩
theorem tyok80 : ty80.ok prog 80 := TyD.ok_of type80 underlying80 (by kernel_rfl)
def ty81 : TyD := ⟨.func, 1, [.nilFunc], 8⟩
theorem tyok81 : ty81.ok prog 81 := TyD.ok_of type81 underlying81 (by kernel_rfl)
def ty83 : TyD := ⟨.func, 1, [.nilFunc], 8⟩
theorem tyok83 : ty83.ok prog 83 := TyD.ok_of type83 underlying83 (by kernel_rfl)
def ty84 : TyD := ⟨.func, 1, [.nilFunc], 8⟩
theorem tyok84 : ty84.ok prog 84 := TyD.ok_of type84 underlying84 (by kernel_rfl)
def ty86 : TyD := ⟨.func, 1, [.nilFunc], 8⟩
theorem tyok86 : ty86.ok prog 86 := TyD.ok_of type86 underlying86 (by kernel_rfl)
def ty87 : TyD := ⟨.func, 1, [.nilFunc], 8⟩
theorem tyok87 : ty87.ok prog 87 := TyD.ok_of type87 underlying87 (by kernel_rfl)
def ty88 : TyD := ⟨.func, 1, [.nilFunc], 8⟩
theorem tyok88 : ty88.ok prog 88 := TyD.ok_of type88 underlying88 (by kernel_rfl)
def ty89 : TyD := ⟨.sl 3, 1, [.slice none 0 0], 24⟩
theorem tyok89 : ty89.ok prog 89 := TyD.ok_of type89 underlying89 (by kernel_rfl)
def ty90 : TyD := ⟨.func, 1, [.nilFunc], 8⟩
theorem tyok90 : ty90.ok prog 90 := TyD.ok_of type90 underlying90 (by kernel_rfl)
def ty91 : TyD := ⟨.func, 1, [.nilFunc], 8⟩
theorem tyok91 : ty91.ok prog 91 := TyD.ok_of type91 underlying91 (by kernel_rfl)
def ty92 : TyD := ⟨.func, 1, [.nilFunc], 8⟩
theorem tyok92 : ty92.ok prog 92 := TyD.ok_of type92 underlying92 (by kernel_rfl)
def ty93 : TyD := ⟨.agg [(0, 3), (1, 3), (2, 58), (3, 68)], 4, [.int .i64 0, .int .i64 0, .int .i64 0, .slice none 0 0], 48⟩
theorem tyok93 : ty93.ok prog 93 := TyD.ok_of type93 underlying93 (by kernel_rfl)
def ty94 : TyD := ⟨.agg [(0, 3), (1, 3), (2, 58), (3, 68)], 4, [.int .i64 0, .int .i64 0, .int .i64 0, .slice none 0 0], 48⟩
theorem tyok94 : ty94.ok prog 94 := TyD.ok_of type94 underlying94 (by kernel_rfl)
def ty96 : TyD := ⟨.func, 1, [.nilFunc], 8⟩
theorem tyok96 : ty96.ok prog 96 := TyD.ok_of type96 underlying96 (by kernel_rfl)
def ty98 : TyD := ⟨.func, 1, [.nilFunc], 8⟩
theorem tyok98 : ty98.ok prog 98 := TyD.ok_of type98 underlying98 (by kernel_rfl)
def ty99 : TyD := ⟨.func, 1, [.nilFunc], 8⟩
theorem tyok99 : ty99.ok prog 99 := TyD.ok_of type99 underlying99 (by kernel_rfl)
def ty100 : TyD := ⟨.func, 1, [.nilFunc], 8⟩
theorem tyok100 : ty100.ok prog 100 := TyD.ok_of type100 underlying100 (by kernel_rfl)
def ty101 : TyD := ⟨.func, 1, [.nilFunc], 8⟩
theorem tyok101 : ty101.ok prog 101 := TyD.ok_of type101 underlying101 (by kernel_rfl)
def ty102 : TyD := ⟨.int .i64, 1, [.int .i64 0], 8⟩
theorem tyok102 : ty102.ok prog 102 := TyD.ok_of type102 underlying102 (by kernel_rfl)
def ty103 : TyD := ⟨.sl 105, 1, [.slice none 0 0], 24⟩
theorem tyok103 : ty103.ok prog 103 := TyD.ok_of type103 underlying103 (by kernel_rfl)
def ty104 : TyD := ⟨.agg [(0, 102), (1, 9), (2, 3), (3, 58), (4, 68), (5, 103)], 6, [.int .i64 0, .string ⟨#[]⟩, .int .i64 0, .int .i64 0, .slice none 0 0, .slice none 0 0], 88⟩
theorem tyok104 : ty104.ok prog 104 := TyD.ok_of type104 underlying104 (by kernel_rfl)
def ty105 : TyD := ⟨.agg [(0, 102), (1, 9), (2, 3), (3, 58), (4, 68), (5, 103)], 6, [.int .i64 0, .string ⟨#[]⟩, .int .i64 0, .int .i64 0, .slice none 0 0, .slice none 0 0], 88⟩
theorem tyok105 : ty105.ok prog 105 := TyD.ok_of type105 underlying105 (by kernel_rfl)
def ty106 : TyD := ⟨.agg [(0, 9), (1, 105)], 7, [.string ⟨#[]⟩, .int .i64 0, .string ⟨#[]⟩, .int .i64 0, .int .i64 0, .slice none 0 0, .slice none 0 0], 104⟩
theorem tyok106 : ty106.ok prog 106 := TyD.ok_of type106 underlying106 (by kernel_rfl)
def ty107 : TyD := ⟨.agg [(0, 9), (1, 105)], 7, [.string ⟨#[]⟩, .int .i64 0, .string ⟨#[]⟩, .int .i64 0, .int .i64 0, .slice none 0 0, .slice none 0 0], 104⟩
theorem tyok107 : ty107.ok prog 107 := TyD.ok_of type107 underlying107 (by kernel_rfl)
def ty108 : TyD := ⟨.func, 1, [.nilFunc], 8⟩
theorem tyok108 : ty108.ok prog 108 := TyD.ok_of type108 underlying108 (by kernel_rfl)
def ty109 : TyD := ⟨.func, 1, [.nilFunc], 8⟩
theorem tyok109 : ty109.ok prog 109 := TyD.ok_of type109 underlying109 (by kernel_rfl)
def ty110 : TyD := ⟨.func, 1, [.nilFunc], 8⟩
theorem tyok110 : ty110.ok prog 110 := TyD.ok_of type110 underlying110 (by kernel_rfl)
def ty111 : TyD := ⟨.func, 1, [.nilFunc], 8⟩
theorem tyok111 : ty111.ok prog 111 := TyD.ok_of type111 underlying111 (by kernel_rfl)
def ty112 : TyD := ⟨.func, 1, [.nilFunc], 8⟩
theorem tyok112 : ty112.ok prog 112 := TyD.ok_of type112 underlying112 (by kernel_rfl)
def ty113 : TyD := ⟨.func, 1, [.nilFunc], 8⟩
theorem tyok113 : ty113.ok prog 113 := TyD.ok_of type113 underlying113 (by kernel_rfl)
def ty114 : TyD := ⟨.ptr 177, 1, [.pointer none], 8⟩
theorem tyok114 : ty114.ok prog 114 := TyD.ok_of type114 underlying114 (by kernel_rfl)
def ty116 : TyD := ⟨.func, 1, [.nilFunc], 8⟩
theorem tyok116 : ty116.ok prog 116 := TyD.ok_of type116 underlying116 (by kernel_rfl)
def ty117 : TyD := ⟨.ptr 122, 1, [.pointer none], 8⟩
theorem tyok117 : ty117.ok prog 117 := TyD.ok_of type117 underlying117 (by kernel_rfl)
def ty118 : TyD := ⟨.func, 1, [.nilFunc], 8⟩
theorem tyok118 : ty118.ok prog 118 := TyD.ok_of type118 underlying118 (by kernel_rfl)
def ty119 : TyD := ⟨.agg [(0, 3), (1, 3), (2, 3)], 3, [.int .i64 0, .int .i64 0, .int .i64 0], 24⟩
theorem tyok119 : ty119.ok prog 119 := TyD.ok_of type119 underlying119 (by kernel_rfl)
def ty120 : TyD := ⟨.agg [(0, 3), (1, 3), (2, 3)], 3, [.int .i64 0, .int .i64 0, .int .i64 0], 24⟩
theorem tyok120 : ty120.ok prog 120 := TyD.ok_of type120 underlying120 (by kernel_rfl)
def ty121 : TyD := ⟨.agg [(0, 42), (4, 120), (7, 120), (10, 120)], 13, [.bool false, .bool false, .int .i64 0, .int .i64 0, .int .i64 0, .int .i64 0, .int .i64 0, .int .i64 0, .int .i64 0, .int .i64 0, .int .i64 0, .int .i64 0, .int .i64 0], 96⟩
theorem tyok121 : ty121.ok prog 121 := TyD.ok_of type121 underlying121 (by kernel_rfl)
def ty122 : TyD := ⟨.agg [(0, 42), (4, 120), (7, 120), (10, 120)], 13, [.bool false, .bool false, .int .i64 0, .int .i64 0, .int .i64 0, .int .i64 0, .int .i64 0, .int .i64 0, .int .i64 0, .int .i64 0, .int .i64 0, .int .i64 0, .int .i64 0], 96⟩
theorem tyok122 : ty122.ok prog 122 := TyD.ok_of type122 underlying122 (by kernel_rfl)
def ty123 : TyD := ⟨.func, 1, [.nilFunc], 8⟩
theorem tyok123 : ty123.ok prog 123 := TyD.ok_of type123 underlying123 (by kernel_rfl)
def ty124 : TyD := ⟨.func, 1, [.nilFunc], 8⟩
theorem tyok124 : ty124.ok prog 124 := TyD.ok_of type124 underlying124 (by kernel_rfl)
def ty125 : TyD := ⟨.func, 1, [.nilFunc], 8⟩
theorem tyok125 : ty125.ok prog 125 := TyD.ok_of type125 underlying125 (by kernel_rfl)
def ty127 : TyD := ⟨.func, 1, [.nilFunc], 8⟩
theorem tyok127 : ty127.ok prog 127 := TyD.ok_of type127 underlying127 (by kernel_rfl)
def ty129 : TyD := ⟨.func, 1, [.nilFunc], 8⟩
theorem tyok129 : ty129.ok prog 129 := TyD.ok_of type129 underlying129 (by kernel_rfl)
def ty131 : TyD := ⟨.func, 1, [.nilFunc], 8⟩
theorem tyok131 : ty131.ok prog 131 := TyD.ok_of type131 underlying131 (by kernel_rfl)
def ty132 : TyD := ⟨.func, 1, [.nilFunc], 8⟩
theorem tyok132 : ty132.ok prog 132 := TyD.ok_of type132 underlying132 (by kernel_rfl)
def ty133 : TyD := ⟨.int .i64, 1, [.int .i64 0], 8⟩
theorem tyok133 : ty133.ok prog 133 := TyD.ok_of type133 underlying133 (by kernel_rfl)
def ty134 : TyD := ⟨.agg [(0, 133), (1, 3), (2, 68)], 3, [.int .i64 0, .int .i64 0, .slice none 0 0], 40⟩
theorem tyok134 : ty134.ok prog 134 := TyD.ok_of type134 underlying134 (by kernel_rfl)
def ty135 : TyD := ⟨.agg [(0, 133), (1, 3), (2, 68)], 3, [.int .i64 0, .int .i64 0, .slice none 0 0], 40⟩
theorem tyok135 : ty135.ok prog 135 := TyD.ok_of type135 underlying135 (by kernel_rfl)
def ty136 : TyD := ⟨.func, 1, [.nilFunc], 8⟩
theorem tyok136 : ty136.ok prog 136 := TyD.ok_of type136 underlying136 (by kernel_rfl)
def ty137 : TyD := ⟨.ptr 206, 1, [.pointer none], 8⟩
theorem tyok137 : ty137.ok prog 137 := TyD.ok_of type137 underlying137 (by kernel_rfl)
def ty138 : TyD := ⟨.func, 1, [.nilFunc], 8⟩
theorem tyok138 : ty138.ok prog 138 := TyD.ok_of type138 underlying138 (by kernel_rfl)
def ty139 : TyD := ⟨.map 9 9, 1, [.map none], 8⟩
theorem tyok139 : ty139.ok prog 139 := TyD.ok_of type139 underlying139 (by kernel_rfl)
def ty140 : TyD := ⟨.func, 1, [.nilFunc], 8⟩
theorem tyok140 : ty140.ok prog 140 := TyD.ok_of type140 underlying140 (by kernel_rfl)
def ty141 : TyD := ⟨.func, 1, [.nilFunc], 8⟩
theorem tyok141 : ty141.ok prog 141 := TyD.ok_of type141 underlying141 (by kernel_rfl)
def ty142 : TyD := ⟨.func, 1, [.nilFunc], 8⟩
theorem tyok142 : ty142.ok prog 142 := TyD.ok_of type142 underlying142 (by kernel_rfl)
def ty143 : TyD := ⟨.func, 1, [.nilFunc], 8⟩
theorem tyok143 : ty143.ok prog 143 := TyD.ok_of type143 underlying143 (by kernel_rfl)
def ty144 : TyD := ⟨.func, 1, [.nilFunc], 8⟩
theorem tyok144 : ty144.ok prog 144 := TyD.ok_of type144 underlying144 (by kernel_rfl)
def ty145 : TyD := ⟨.sl 154, 1, [.slice none 0 0], 24⟩
theorem tyok145 : ty145.ok prog 145 := TyD.ok_of type145 underlying145 (by kernel_rfl)
def ty147 : TyD := ⟨.func, 1, [.nilFunc], 8⟩
theorem tyok147 : ty147.ok prog 147 := TyD.ok_of type147 underlying147 (by kernel_rfl)
def ty148 : TyD := ⟨.func, 1, [.nilFunc], 8⟩
theorem tyok148 : ty148.ok prog 148 := TyD.ok_of type148 underlying148 (by kernel_rfl)
def ty150 : TyD := ⟨.func, 1, [.nilFunc], 8⟩
theorem tyok150 : ty150.ok prog 150 := TyD.ok_of type150 underlying150 (by kernel_rfl)
def ty152 : TyD := ⟨.func, 1, [.nilFunc], 8⟩
theorem tyok152 : ty152.ok prog 152 := TyD.ok_of type152 underlying152 (by kernel_rfl)
def ty153 : TyD := ⟨.sl 156, 1, [.slice none 0 0], 24⟩
theorem tyok153 : ty153.ok prog 153 := TyD.ok_of type153 underlying153 (by kernel_rfl)
def ty154 : TyD := ⟨.sl 156, 1, [.slice none 0 0], 24⟩
theorem tyok154 : ty154.ok prog 154 := TyD.ok_of type154 underlying154 (by kernel_rfl)
def ty155 : TyD := ⟨.agg [(0, 27), (3, 3)], 4, [.int .i64 0, .int .i64 0, .int .i64 0, .int .i64 0], 32⟩
theorem tyok155 : ty155.ok prog 155 := TyD.ok_of type155 underlying155 (by kernel_rfl)
def ty156 : TyD := ⟨.agg [(0, 27), (3, 3)], 4, [.int .i64 0, .int .i64 0, .int .i64 0, .int .i64 0], 32⟩
theorem tyok156 : ty156.ok prog 156 := TyD.ok_of type156 underlying156 (by kernel_rfl)
def ty157 : TyD := ⟨.func, 1, [.nilFunc], 8⟩
theorem tyok157 : ty157.ok prog 157 := TyD.ok_of type157 underlying157 (by kernel_rfl)
def ty158 : TyD := ⟨.agg [], 0, [], 0⟩
theorem tyok158 : ty158.ok prog 158 := TyD.ok_of type158 underlying158 (by kernel_rfl)
def ty159 : TyD := ⟨.agg [], 0, [], 0⟩
theorem tyok159 : ty159.ok prog 159 := TyD.ok_of type159 underlying159 (by kernel_rfl)
def ty161 : TyD := ⟨.func, 1, [.nilFunc], 8⟩
theorem tyok161 : ty161.ok prog 161 := TyD.ok_of type161 underlying161 (by kernel_rfl)
def ty162 : TyD := ⟨.func, 1, [.nilFunc], 8⟩
theorem tyok162 : ty162.ok prog 162 := TyD.ok_of type162 underlying162 (by kernel_rfl)
def ty163 : TyD := ⟨.func, 1, [.nilFunc], 8⟩
theorem tyok163 : ty163.ok prog 163 := TyD.ok_of type163 underlying163 (by kernel_rfl)
def ty164 : TyD := ⟨.func, 1, [.nilFunc], 8⟩
theorem tyok164 : ty164.ok prog 164 := TyD.ok_of type164 underlying164 (by kernel_rfl)
def ty166 : TyD := ⟨.func, 1, [.nilFunc], 8⟩
theorem tyok166 : ty166.ok prog 166 := TyD.ok_of type166 underlying166 (by kernel_rfl)
def ty167 : TyD := ⟨.func, 1, [.nilFunc], 8⟩
theorem tyok167 : ty167.ok prog 167 := TyD.ok_of type167 underlying167 (by kernel_rfl)
def ty168 : TyD := ⟨.func, 1, [.nilFunc], 8⟩
theorem tyok168 : ty168.ok prog 168 := TyD.ok_of type168 underlying168 (by kernel_rfl)
def ty169 : TyD := ⟨.func, 1, [.nilFunc], 8⟩
theorem tyok169 : ty169.ok prog 169 := TyD.ok_of type169 underlying169 (by kernel_rfl)
def ty170 : TyD := ⟨.func, 1, [.nilFunc], 8⟩
theorem tyok170 : ty170.ok prog 170 := TyD.ok_of type170 underlying170 (by kernel_rfl)
def ty171 : TyD := ⟨.func, 1, [.nilFunc], 8⟩
theorem tyok171 : ty171.ok prog 171 := TyD.ok_of type171 underlying171 (by kernel_rfl)
def ty172 : TyD := ⟨.func, 1, [.nilFunc], 8⟩
theorem tyok172 : ty172.ok prog 172 := TyD.ok_of type172 underlying172 (by kernel_rfl)
def ty173 : TyD := ⟨.func, 1, [.nilFunc], 8⟩
theorem tyok173 : ty173.ok prog 173 := TyD.ok_of type173 underlying173 (by kernel_rfl)
def ty174 : TyD := ⟨.map 3 3, 1, [.map none], 8⟩
theorem tyok174 : ty174.ok prog 174 := TyD.ok_of type174 underlying174 (by kernel_rfl)
def ty175 : TyD := ⟨.sl 181, 1, [.slice none 0 0], 24⟩
theorem tyok175 : ty175.ok prog 175 := TyD.ok_of type175 underlying175 (by kernel_rfl)
def ty176 : TyD := ⟨.agg [(0, 94), (4, 37), (7, 89), (8, 175), (9, 4), (10, 27), (13, 27), (16, 174)], 17, [.int .i64 0, .int .i64 0, .int .i64 0, .slice none 0 0, .int .i64 0, .int .i64 0, .int .i64 0, .slice none 0 0, .slice none 0 0, .bool false, .int .i64 0, .int .i64 0, .int .i64 0, .int .i64 0, .int .i64 0, .int .i64 0, .map none], 184⟩
theorem tyok176 : ty176.ok prog 176 := TyD.ok_of type176 underlying176 (by kernel_rfl)
def ty177 : TyD := ⟨.agg [(0, 94), (4, 37), (7, 89), (8, 175), (9, 4), (10, 27), (13, 27), (16, 174)], 17, [.int .i64 0, .int .i64 0, .int .i64 0, .slice none 0 0, .int .i64 0, .int .i64 0, .int .i64 0, .slice none 0 0, .slice none 0 0, .bool false, .int .i64 0, .int .i64 0, .int .i64 0, .int .i64 0, .int .i64 0, .int .i64 0, .map none], 184⟩
theorem tyok177 : ty177.ok prog 177 := TyD.ok_of type177 underlying177 (by kernel_rfl)
def ty179 : TyD := ⟨.func, 1, [.nilFunc], 8⟩
theorem tyok179 : ty179.ok prog 179 := TyD.ok_of type179 underlying179 (by kernel_rfl)
def ty180 : TyD := ⟨.agg [(0, 63), (5, 3)], 6, [.int .i64 0, .int .i64 0, .int .i64 0, .int .i64 0, .int .i64 0, .int .i64 0], 48⟩
theorem tyok180 : ty180.ok prog 180 := TyD.ok_of type180 underlying180 (by kernel_rfl)
def ty181 : TyD := ⟨.agg [(0, 63), (5, 3)], 6, [.int .i64 0, .int .i64 0, .int .i64 0, .int .i64 0, .int .i64 0, .int .i64 0], 48⟩
theorem tyok181 : ty181.ok prog 181 := TyD.ok_of type181 underlying181 (by kernel_rfl)
def ty182 : TyD := ⟨.func, 1, [.nilFunc], 8⟩
theorem tyok182 : ty182.ok prog 182 := TyD.ok_of type182 underlying182 (by kernel_rfl)
def ty183 : TyD := ⟨.func, 1, [.nilFunc], 8⟩
theorem tyok183 : ty183.ok prog 183 := TyD.ok_of type183 underlying183 (by kernel_rfl)
def ty184 : TyD := ⟨.func, 1, [.nilFunc], 8⟩
theorem tyok184 : ty184.ok prog 184 := TyD.ok_of type184 underlying184 (by kernel_rfl)
def ty185 : TyD := ⟨.func, 1, [.nilFunc], 8⟩
theorem tyok185 : ty185.ok prog 185 := TyD.ok_of type185 underlying185 (by kernel_rfl)
def ty186 : TyD := ⟨.agg [(0, 185)], 1, [.nilFunc], 8⟩
theorem tyok186 : ty186.ok prog 186 := TyD.ok_of type186 underlying186 (by kernel_rfl)
def ty187 : TyD := ⟨.agg [(0, 185)], 1, [.nilFunc], 8⟩
theorem tyok187 : ty187.ok prog 187 := TyD.ok_of type187 underlying187 (by kernel_rfl)
def ty188 : TyD := ⟨.map 58 187, 1, [.map none], 8⟩
theorem tyok188 : ty188.ok prog 188 := TyD.ok_of type188 underlying188 (by kernel_rfl)
def ty189 : TyD := ⟨.func, 1, [.nilFunc], 8⟩
theorem tyok189 : ty189.ok prog 189 := TyD.ok_of type189 underlying189 (by kernel_rfl)
def ty190 : TyD := ⟨.func, 1, [.nilFunc], 8⟩
theorem tyok190 : ty190.ok prog 190 := TyD.ok_of type190 underlying190 (by kernel_rfl)
def ty191 : TyD := ⟨.func, 1, [.nilFunc], 8⟩
theorem tyok191 : ty191.ok prog 191 := TyD.ok_of type191 underlying191 (by kernel_rfl)
def ty192 : TyD := ⟨.func, 1, [.nilFunc], 8⟩
theorem tyok192 : ty192.ok prog 192 := TyD.ok_of type192 underlying192 (by kernel_rfl)
def ty193 : TyD := ⟨.func, 1, [.nilFunc], 8⟩
theorem tyok193 : ty193.ok prog 193 := TyD.ok_of type193 underlying193 (by kernel_rfl)
def ty194 : TyD := ⟨.func, 1, [.nilFunc], 8⟩
theorem tyok194 : ty194.ok prog 194 := TyD.ok_of type194 underlying194 (by kernel_rfl)
def ty196 : TyD := ⟨.func, 1, [.nilFunc], 8⟩
theorem tyok196 : ty196.ok prog 196 := TyD.ok_of type196 underlying196 (by kernel_rfl)
def ty197 : TyD := ⟨.func, 1, [.nilFunc], 8⟩
theorem tyok197 : ty197.ok prog 197 := TyD.ok_of type197 underlying197 (by kernel_rfl)
def ty198 : TyD := ⟨.func, 1, [.nilFunc], 8⟩
theorem tyok198 : ty198.ok prog 198 := TyD.ok_of type198 underlying198 (by kernel_rfl)
def ty199 : TyD := ⟨.agg [], 0, [], 0⟩
theorem tyok199 : ty199.ok prog 199 := TyD.ok_of type199 underlying199 (by kernel_rfl)
def ty200 : TyD := ⟨.map 102 264, 1, [.map none], 8⟩
theorem tyok200 : ty200.ok prog 200 := TyD.ok_of type200 underlying200 (by kernel_rfl)
def ty201 : TyD := ⟨.func, 1, [.nilFunc], 8⟩
theorem tyok201 : ty201.ok prog 201 := TyD.ok_of type201 underlying201 (by kernel_rfl)
def ty202 : TyD := ⟨.map 9 3, 1, [.map none], 8⟩
theorem tyok202 : ty202.ok prog 202 := TyD.ok_of type202 underlying202 (by kernel_rfl)
def ty203 : TyD := ⟨.agg [(0, 202), (1, 202)], 2, [.map none, .map none], 16⟩
theorem tyok203 : ty203.ok prog 203 := TyD.ok_of type203 underlying203 (by kernel_rfl)
def ty204 : TyD := ⟨.agg [(0, 202), (1, 202)], 2, [.map none, .map none], 16⟩
theorem tyok204 : ty204.ok prog 204 := TyD.ok_of type204 underlying204 (by kernel_rfl)
def ty205 : TyD := ⟨.agg [(0, 204), (2, 200), (3, 3), (4, 3)], 5, [.map none, .map none, .map none, .int .i64 0, .int .i64 0], 40⟩
theorem tyok205 : ty205.ok prog 205 := TyD.ok_of type205 underlying205 (by kernel_rfl)
def ty206 : TyD := ⟨.agg [(0, 204), (2, 200), (3, 3), (4, 3)], 5, [.map none, .map none, .map none, .int .i64 0, .int .i64 0], 40⟩
theorem tyok206 : ty206.ok prog 206 := TyD.ok_of type206 underlying206 (by kernel_rfl)
def ty207 : TyD := ⟨.func, 1, [.nilFunc], 8⟩
theorem tyok207 : ty207.ok prog 207 := TyD.ok_of type207 underlying207 (by kernel_rfl)
def ty208 : TyD := ⟨.func, 1, [.nilFunc], 8⟩
theorem tyok208 : ty208.ok prog 208 := TyD.ok_of type208 underlying208 (by kernel_rfl)
def ty209 : TyD := ⟨.map 3 4, 1, [.map none], 8⟩
theorem tyok209 : ty209.ok prog 209 := TyD.ok_of type209 underlying209 (by kernel_rfl)
def ty210 : TyD := ⟨.func, 1, [.nilFunc], 8⟩
theorem tyok210 : ty210.ok prog 210 := TyD.ok_of type210 underlying210 (by kernel_rfl)
def ty211 : TyD := ⟨.func, 1, [.nilFunc], 8⟩
theorem tyok211 : ty211.ok prog 211 := TyD.ok_of type211 underlying211 (by kernel_rfl)
def ty212 : TyD := ⟨.func, 1, [.nilFunc], 8⟩
theorem tyok212 : ty212.ok prog 212 := TyD.ok_of type212 underlying212 (by kernel_rfl)
def ty213 : TyD := ⟨.func, 1, [.nilFunc], 8⟩
theorem tyok213 : ty213.ok prog 213 := TyD.ok_of type213 underlying213 (by kernel_rfl)
def ty214 : TyD := ⟨.func, 1, [.nilFunc], 8⟩
theorem tyok214 : ty214.ok prog 214 := TyD.ok_of type214 underlying214 (by kernel_rfl)
def ty215 : TyD := ⟨.func, 1, [.nilFunc], 8⟩
theorem tyok215 : ty215.ok prog 215 := TyD.ok_of type215 underlying215 (by kernel_rfl)
def ty216 : TyD := ⟨.func, 1, [.nilFunc], 8⟩
theorem tyok216 : ty216.ok prog 216 := TyD.ok_of type216 underlying216 (by kernel_rfl)
def ty217 : TyD := ⟨.func, 1, [.nilFunc], 8⟩
theorem tyok217 : ty217.ok prog 217 := TyD.ok_of type217 underlying217 (by kernel_rfl)
def ty218 : TyD := ⟨.ptr 222, 1, [.pointer none], 8⟩
theorem tyok218 : ty218.ok prog 218 := TyD.ok_of type218 underlying218 (by kernel_rfl)
def ty220 : TyD := ⟨.func, 1, [.nilFunc], 8⟩
theorem tyok220 : ty220.ok prog 220 := TyD.ok_of type220 underlying220 (by kernel_rfl)
def ty221 : TyD := ⟨.agg [(0, 25), (2, 145), (3, 145)], 4, [.slice none 0 0, .slice none 0 0, .slice none 0 0, .slice none 0 0], 96⟩
theorem tyok221 : ty221.ok prog 221 := TyD.ok_of type221 underlying221 (by kernel_rfl)
def ty222 : TyD := ⟨.agg [(0, 25), (2, 145), (3, 145)], 4, [.slice none 0 0, .slice none 0 0, .slice none 0 0, .slice none 0 0], 96⟩
theorem tyok222 : ty222.ok prog 222 := TyD.ok_of type222 underlying222 (by kernel_rfl)
def ty223 : TyD := ⟨.func, 1, [.nilFunc], 8⟩
theorem tyok223 : ty223.ok prog 223 := TyD.ok_of type223 underlying223 (by kernel_rfl)
def ty224 : TyD := ⟨.ptr 229, 1, [.pointer none], 8⟩
theorem tyok224 : ty224.ok prog 224 := TyD.ok_of type224 underlying224 (by kernel_rfl)
def ty225 : TyD := ⟨.func, 1, [.nilFunc], 8⟩
theorem tyok225 : ty225.ok prog 225 := TyD.ok_of type225 underlying225 (by kernel_rfl)
def ty226 : TyD := ⟨.map 231 53, 1, [.map none], 8⟩
theorem tyok226 : ty226.ok prog 226 := TyD.ok_of type226 underlying226 (by kernel_rfl)
def ty227 : TyD := ⟨.arr 4 3, 4, [.int .i64 0, .int .i64 0, .int .i64 0, .int .i64 0], 32⟩
theorem tyok227 : ty227.ok prog 227 := TyD.ok_of type227 underlying227 (by kernel_rfl)
def ty228 : TyD := ⟨.agg [(0, 226), (1, 227)], 5, [.map none, .int .i64 0, .int .i64 0, .int .i64 0, .int .i64 0], 40⟩
theorem tyok228 : ty228.ok prog 228 := TyD.ok_of type228 underlying228 (by kernel_rfl)
def ty229 : TyD := ⟨.agg [(0, 226), (1, 227)], 5, [.map none, .int .i64 0, .int .i64 0, .int .i64 0, .int .i64 0], 40⟩
theorem tyok229 : ty229.ok prog 229 := TyD.ok_of type229 underlying229 (by kernel_rfl)
def ty230 : TyD := ⟨.agg [(0, 3), (1, 3)], 2, [.int .i64 0, .int .i64 0], 16⟩
theorem tyok230 : ty230.ok prog 230 := TyD.ok_of type230 underlying230 (by kernel_rfl)
def ty231 : TyD := ⟨.agg [(0, 3), (1, 3)], 2, [.int .i64 0, .int .i64 0], 16⟩
theorem tyok231 : ty231.ok prog 231 := TyD.ok_of type231 underlying231 (by kernel_rfl)
def ty232 : TyD := ⟨.func, 1, [.nilFunc], 8⟩
theorem tyok232 : ty232.ok prog 232 := TyD.ok_of type232 underlying232 (by kernel_rfl)
def ty233 : TyD := ⟨.func, 1, [.nilFunc], 8⟩
theorem tyok233 : ty233.ok prog 233 := TyD.ok_of type233 underlying233 (by kernel_rfl)
def ty234 : TyD := ⟨.func, 1, [.nilFunc], 8⟩
theorem tyok234 : ty234.ok prog 234 := TyD.ok_of type234 underlying234 (by kernel_rfl)
def ty235 : TyD := ⟨.func, 1, [.nilFunc], 8⟩
theorem tyok235 : ty235.ok prog 235 := TyD.ok_of type235 underlying235 (by kernel_rfl)
def ty236 : TyD := ⟨.ptr 241, 1, [.pointer none], 8⟩
theorem tyok236 : ty236.ok prog 236 := TyD.ok_of type236 underlying236 (by kernel_rfl)
def ty237 : TyD := ⟨.func, 1, [.nilFunc], 8⟩
theorem tyok237 : ty237.ok prog 237 := TyD.ok_of type237 underlying237 (by kernel_rfl)
def ty238 : TyD := ⟨.map 9 154, 1, [.map none], 8⟩
theorem tyok238 : ty238.ok prog 238 := TyD.ok_of type238 underlying238 (by kernel_rfl)
def ty239 : TyD := ⟨.map 102 333, 1, [.map none], 8⟩
theorem tyok239 : ty239.ok prog 239 := TyD.ok_of type239 underlying239 (by kernel_rfl)
def ty240 : TyD := ⟨.agg [(0, 25), (2, 238), (3, 202), (4, 145), (5, 239)], 6, [.slice none 0 0, .slice none 0 0, .map none, .map none, .slice none 0 0, .map none], 96⟩
theorem tyok240 : ty240.ok prog 240 := TyD.ok_of type240 underlying240 (by kernel_rfl)
def ty241 : TyD := ⟨.agg [(0, 25), (2, 238), (3, 202), (4, 145), (5, 239)], 6, [.slice none 0 0, .slice none 0 0, .map none, .map none, .slice none 0 0, .map none], 96⟩
theorem tyok241 : ty241.ok prog 241 := TyD.ok_of type241 underlying241 (by kernel_rfl)
def ty242 : TyD := ⟨.func, 1, [.nilFunc], 8⟩
theorem tyok242 : ty242.ok prog 242 := TyD.ok_of type242 underlying242 (by kernel_rfl)
def ty243 : TyD := ⟨.sl 89, 1, [.slice none 0 0], 24⟩
theorem tyok243 : ty243.ok prog 243 := TyD.ok_of type243 underlying243 (by kernel_rfl)
def ty244 : TyD := ⟨.func, 1, [.nilFunc], 8⟩
theorem tyok244 : ty244.ok prog 244 := TyD.ok_of type244 underlying244 (by kernel_rfl)
def ty245 : TyD := ⟨.func, 1, [.nilFunc], 8⟩
theorem tyok245 : ty245.ok prog 245 := TyD.ok_of type245 underlying245 (by kernel_rfl)
def ty246 : TyD := ⟨.func, 1, [.nilFunc], 8⟩
theorem tyok246 : ty246.ok prog 246 := TyD.ok_of type246 underlying246 (by kernel_rfl)
def ty247 : TyD := ⟨.func, 1, [.nilFunc], 8⟩
theorem tyok247 : ty247.ok prog 247 := TyD.ok_of type247 underlying247 (by kernel_rfl)
def ty248 : TyD := ⟨.func, 1, [.nilFunc], 8⟩
theorem tyok248 : ty248.ok prog 248 := TyD.ok_of type248 underlying248 (by kernel_rfl)
def ty249 : TyD := ⟨.func, 1, [.nilFunc], 8⟩
theorem tyok249 : ty249.ok prog 249 := TyD.ok_of type249 underlying249 (by kernel_rfl)
def ty250 : TyD := ⟨.func, 1, [.nilFunc], 8⟩
theorem tyok250 : ty250.ok prog 250 := TyD.ok_of type250 underlying250 (by kernel_rfl)
def ty251 : TyD := ⟨.func, 1, [.nilFunc], 8⟩
theorem tyok251 : ty251.ok prog 251 := TyD.ok_of type251 underlying251 (by kernel_rfl)
def ty252 : TyD := ⟨.func, 1, [.nilFunc], 8⟩
theorem tyok252 : ty252.ok prog 252 := TyD.ok_of type252 underlying252 (by kernel_rfl)
def ty253 : TyD := ⟨.func, 1, [.nilFunc], 8⟩
theorem tyok253 : ty253.ok prog 253 := TyD.ok_of type253 underlying253 (by kernel_rfl)
def ty254 : TyD := ⟨.func, 1, [.nilFunc], 8⟩
theorem tyok254 : ty254.ok prog 254 := TyD.ok_of type254 underlying254 (by kernel_rfl)
def ty255 : TyD := ⟨.arr 66 3, 66, List.replicate 66 (.int .i64 0), 528⟩
theorem tyok255 : ty255.ok prog 255 := TyD.ok_of type255 underlying255 (by kernel_rfl)
def ty256 : TyD := ⟨.agg [(0, 3), (1, 255)], 67, List.replicate 67 (.int .i64 0), 536⟩
theorem tyok256 : ty256.ok prog 256 := TyD.ok_of type256 underlying256 (by kernel_rfl)
def ty257 : TyD := ⟨.agg [(0, 3), (1, 255)], 67, List.replicate 67 (.int .i64 0), 536⟩
theorem tyok257 : ty257.ok prog 257 := TyD.ok_of type257 underlying257 (by kernel_rfl)
def ty258 : TyD := ⟨.func, 1, [.nilFunc], 8⟩
theorem tyok258 : ty258.ok prog 258 := TyD.ok_of type258 underlying258 (by kernel_rfl)
def ty259 : TyD := ⟨.func, 1, [.nilFunc], 8⟩
theorem tyok259 : ty259.ok prog 259 := TyD.ok_of type259 underlying259 (by kernel_rfl)
def ty260 : TyD := ⟨.func, 1, [.nilFunc], 8⟩
theorem tyok260 : ty260.ok prog 260 := TyD.ok_of type260 underlying260 (by kernel_rfl)
def ty261 : TyD := ⟨.func, 1, [.nilFunc], 8⟩
theorem tyok261 : ty261.ok prog 261 := TyD.ok_of type261 underlying261 (by kernel_rfl)
def ty262 : TyD := ⟨.func, 1, [.nilFunc], 8⟩
theorem tyok262 : ty262.ok prog 262 := TyD.ok_of type262 underlying262 (by kernel_rfl)
def ty263 : TyD := ⟨.agg [(0, 3), (1, 3), (2, 4), (3, 4), (4, 3), (5, 3)], 6, [.int .i64 0, .int .i64 0, .bool false, .bool false, .int .i64 0, .int .i64 0], 40⟩
theorem tyok263 : ty263.ok prog 263 := TyD.ok_of type263 underlying263 (by kernel_rfl)
def ty264 : TyD := ⟨.agg [(0, 3), (1, 3), (2, 4), (3, 4), (4, 3), (5, 3)], 6, [.int .i64 0, .int .i64 0, .bool false, .bool false, .int .i64 0, .int .i64 0], 40⟩
theorem tyok264 : ty264.ok prog 264 := TyD.ok_of type264 underlying264 (by kernel_rfl)
def ty265 : TyD := ⟨.func, 1, [.nilFunc], 8⟩
theorem tyok265 : ty265.ok prog 265 := TyD.ok_of type265 underlying265 (by kernel_rfl)
def ty267 : TyD := ⟨.func, 1, [.nilFunc], 8⟩
theorem tyok267 : ty267.ok prog 267 := TyD.ok_of type267 underlying267 (by kernel_rfl)
def ty268 : TyD := ⟨.func, 1, [.nilFunc], 8⟩
theorem tyok268 : ty268.ok prog 268 := TyD.ok_of type268 underlying268 (by kernel_rfl)
def ty269 : TyD := ⟨.sl 5, 1, [.slice none 0 0], 24⟩
theorem tyok269 : ty269.ok prog 269 := TyD.ok_of type269 underlying269 (by kernel_rfl)
def ty270 : TyD := ⟨.map 9 4, 1, [.map none], 8⟩
theorem tyok270 : ty270.ok prog 270 := TyD.ok_of type270 underlying270 (by kernel_rfl)
def ty271 : TyD := ⟨.func, 1, [.nilFunc], 8⟩
theorem tyok271 : ty271.ok prog 271 := TyD.ok_of type271 underlying271 (by kernel_rfl)
def ty272 : TyD := ⟨.func, 1, [.nilFunc], 8⟩
theorem tyok272 : ty272.ok prog 272 := TyD.ok_of type272 underlying272 (by kernel_rfl)
def ty273 : TyD := ⟨.sl 275, 1, [.slice none 0 0], 24⟩
theorem tyok273 : ty273.ok prog 273 := TyD.ok_of type273 underlying273 (by kernel_rfl)
def ty274 : TyD := ⟨.func, 1, [.nilFunc], 8⟩
theorem tyok274 : ty274.ok prog 274 := TyD.ok_of type274 underlying274 (by kernel_rfl)
def ty275 : TyD := ⟨.sl 4, 1, [.slice none 0 0], 24⟩
theorem tyok275 : ty275.ok prog 275 := TyD.ok_of type275 underlying275 (by kernel_rfl)
def ty277 : TyD := ⟨.func, 1, [.nilFunc], 8⟩
theorem tyok277 : ty277.ok prog 277 := TyD.ok_of type277 underlying277 (by kernel_rfl)
def ty278 : TyD := ⟨.func, 1, [.nilFunc], 8⟩
theorem tyok278 : ty278.ok prog 278 := TyD.ok_of type278 underlying278 (by kernel_rfl)
def ty279 : TyD := ⟨.func, 1, [.nilFunc], 8⟩
theorem tyok279 : ty279.ok prog 279 := TyD.ok_of type279 underlying279 (by kernel_rfl)
def ty281 : TyD := ⟨.func, 1, [.nilFunc], 8⟩
theorem tyok281 : ty281.ok prog 281 := TyD.ok_of type281 underlying281 (by kernel_rfl)
def ty282 : TyD := ⟨.func, 1, [.nilFunc], 8⟩
theorem tyok282 : ty282.ok prog 282 := TyD.ok_of type282 underlying282 (by kernel_rfl)
def ty283 : TyD := ⟨.func, 1, [.nilFunc], 8⟩
theorem tyok283 : ty283.ok prog 283 := TyD.ok_of type283 underlying283 (by kernel_rfl)
def ty284 : TyD := ⟨.map 287 4, 1, [.map none], 8⟩
theorem tyok284 : ty284.ok prog 284 := TyD.ok_of type284 underlying284 (by kernel_rfl)
def ty285 : TyD := ⟨.func, 1, [.nilFunc], 8⟩
theorem tyok285 : ty285.ok prog 285 := TyD.ok_of type285 underlying285 (by kernel_rfl)
def ty286 : TyD := ⟨.func, 1, [.nilFunc], 8⟩
theorem tyok286 : ty286.ok prog 286 := TyD.ok_of type286 underlying286 (by kernel_rfl)
def ty287 : TyD := ⟨.arr 2 3, 2, [.int .i64 0, .int .i64 0], 16⟩
theorem tyok287 : ty287.ok prog 287 := TyD.ok_of type287 underlying287 (by kernel_rfl)
def ty288 : TyD := ⟨.agg [], 0, [], 0⟩
theorem tyok288 : ty288.ok prog 288 := TyD.ok_of type288 underlying288 (by kernel_rfl)
def ty289 : TyD := ⟨.func, 1, [.nilFunc], 8⟩
theorem tyok289 : ty289.ok prog 289 := TyD.ok_of type289 underlying289 (by kernel_rfl)
def ty290 : TyD := ⟨.func, 1, [.nilFunc], 8⟩
theorem tyok290 : ty290.ok prog 290 := TyD.ok_of type290 underlying290 (by kernel_rfl)
def ty291 : TyD := ⟨.func, 1, [.nilFunc], 8⟩
theorem tyok291 : ty291.ok prog 291 := TyD.ok_of type291 underlying291 (by kernel_rfl)
def ty292 : TyD := ⟨.agg [(0, 22), (1, 22), (2, 3)], 3, [.slice none 0 0, .slice none 0 0, .int .i64 0], 56⟩
theorem tyok292 : ty292.ok prog 292 := TyD.ok_of type292 underlying292 (by kernel_rfl)
def ty293 : TyD := ⟨.agg [(0, 22), (1, 22), (2, 3)], 3, [.slice none 0 0, .slice none 0 0, .int .i64 0], 56⟩
theorem tyok293 : ty293.ok prog 293 := TyD.ok_of type293 underlying293 (by kernel_rfl)
def ty294 : TyD := ⟨.func, 1, [.nilFunc], 8⟩
theorem tyok294 : ty294.ok prog 294 := TyD.ok_of type294 underlying294 (by kernel_rfl)
def ty295 : TyD := ⟨.func, 1, [.nilFunc], 8⟩
theorem tyok295 : ty295.ok prog 295 := TyD.ok_of type295 underlying295 (by kernel_rfl)
def ty296 : TyD := ⟨.func, 1, [.nilFunc], 8⟩
theorem tyok296 : ty296.ok prog 296 := TyD.ok_of type296 underlying296 (by kernel_rfl)
def ty297 : TyD := ⟨.func, 1, [.nilFunc], 8⟩
theorem tyok297 : ty297.ok prog 297 := TyD.ok_of type297 underlying297 (by kernel_rfl)
def ty298 : TyD := ⟨.func, 1, [.nilFunc], 8⟩
theorem tyok298 : ty298.ok prog 298 := TyD.ok_of type298 underlying298 (by kernel_rfl)
def ty299 : TyD := ⟨.func, 1, [.nilFunc], 8⟩
theorem tyok299 : ty299.ok prog 299 := TyD.ok_of type299 underlying299 (by kernel_rfl)
def ty300 : TyD := ⟨.func, 1, [.nilFunc], 8⟩
theorem tyok300 : ty300.ok prog 300 := TyD.ok_of type300 underlying300 (by kernel_rfl)
def ty301 : TyD := ⟨.func, 1, [.nilFunc], 8⟩
theorem tyok301 : ty301.ok prog 301 := TyD.ok_of type301 underlying301 (by kernel_rfl)
def ty302 : TyD := ⟨.func, 1, [.nilFunc], 8⟩
theorem tyok302 : ty302.ok prog 302 := TyD.ok_of type302 underlying302 (by kernel_rfl)
def ty303 : TyD := ⟨.ptr 257, 1, [.pointer none], 8⟩
theorem tyok303 : ty303.ok prog 303 := TyD.ok_of type303 underlying303 (by kernel_rfl)
def ty304 : TyD := ⟨.func, 1, [.nilFunc], 8⟩
theorem tyok304 : ty304.ok prog 304 := TyD.ok_of type304 underlying304 (by kernel_rfl)
def ty305 : TyD := ⟨.func, 1, [.nilFunc], 8⟩
theorem tyok305 : ty305.ok prog 305 := TyD.ok_of type305 underlying305 (by kernel_rfl)
def ty306 : TyD := ⟨.func, 1, [.nilFunc], 8⟩
theorem tyok306 : ty306.ok prog 306 := TyD.ok_of type306 underlying306 (by kernel_rfl)
def ty307 : TyD := ⟨.func, 1, [.nilFunc], 8⟩
theorem tyok307 : ty307.ok prog 307 := TyD.ok_of type307 underlying307 (by kernel_rfl)
def ty308 : TyD := ⟨.func, 1, [.nilFunc], 8⟩
theorem tyok308 : ty308.ok prog 308 := TyD.ok_of type308 underlying308 (by kernel_rfl)
def ty309 : TyD := ⟨.func, 1, [.nilFunc], 8⟩
theorem tyok309 : ty309.ok prog 309 := TyD.ok_of type309 underlying309 (by kernel_rfl)
def ty310 : TyD := ⟨.func, 1, [.nilFunc], 8⟩
theorem tyok310 : ty310.ok prog 310 := TyD.ok_of type310 underlying310 (by kernel_rfl)
def ty311 : TyD := ⟨.map 51 314, 1, [.map none], 8⟩
theorem tyok311 : ty311.ok prog 311 := TyD.ok_of type311 underlying311 (by kernel_rfl)
def ty312 : TyD := ⟨.func, 1, [.nilFunc], 8⟩
theorem tyok312 : ty312.ok prog 312 := TyD.ok_of type312 underlying312 (by kernel_rfl)
def ty313 : TyD := ⟨.func, 1, [.nilFunc], 8⟩
theorem tyok313 : ty313.ok prog 313 := TyD.ok_of type313 underlying313 (by kernel_rfl)
def ty314 : TyD := ⟨.func, 1, [.nilFunc], 8⟩
theorem tyok314 : ty314.ok prog 314 := TyD.ok_of type314 underlying314 (by kernel_rfl)
def ty316 : TyD := ⟨.func, 1, [.nilFunc], 8⟩
theorem tyok316 : ty316.ok prog 316 := TyD.ok_of type316 underlying316 (by kernel_rfl)
def ty317 : TyD := ⟨.func, 1, [.nilFunc], 8⟩
theorem tyok317 : ty317.ok prog 317 := TyD.ok_of type317 underlying317 (by kernel_rfl)
def ty318 : TyD := ⟨.func, 1, [.nilFunc], 8⟩
theorem tyok318 : ty318.ok prog 318 := TyD.ok_of type318 underlying318 (by kernel_rfl)
def ty319 : TyD := ⟨.int .u64, 1, [.int .u64 0], 8⟩
theorem tyok319 : ty319.ok prog 319 := TyD.ok_of type319 underlying319 (by kernel_rfl)
def ty320 : TyD := ⟨.func, 1, [.nilFunc], 8⟩
theorem tyok320 : ty320.ok prog 320 := TyD.ok_of type320 underlying320 (by kernel_rfl)
def ty321 : TyD := ⟨.func, 1, [.nilFunc], 8⟩
theorem tyok321 : ty321.ok prog 321 := TyD.ok_of type321 underlying321 (by kernel_rfl)
def ty322 : TyD := ⟨.func, 1, [.nilFunc], 8⟩
theorem tyok322 : ty322.ok prog 322 := TyD.ok_of type322 underlying322 (by kernel_rfl)
def ty324 : TyD := ⟨.func, 1, [.nilFunc], 8⟩
theorem tyok324 : ty324.ok prog 324 := TyD.ok_of type324 underlying324 (by kernel_rfl)
def ty325 : TyD := ⟨.map 3 89, 1, [.map none], 8⟩
theorem tyok325 : ty325.ok prog 325 := TyD.ok_of type325 underlying325 (by kernel_rfl)
def ty327 : TyD := ⟨.func, 1, [.nilFunc], 8⟩
theorem tyok327 : ty327.ok prog 327 := TyD.ok_of type327 underlying327 (by kernel_rfl)
def ty328 : TyD := ⟨.func, 1, [.nilFunc], 8⟩
theorem tyok328 : ty328.ok prog 328 := TyD.ok_of type328 underlying328 (by kernel_rfl)
def ty329 : TyD := ⟨.func, 1, [.nilFunc], 8⟩
theorem tyok329 : ty329.ok prog 329 := TyD.ok_of type329 underlying329 (by kernel_rfl)
def ty330 : TyD := ⟨.func, 1, [.nilFunc], 8⟩
theorem tyok330 : ty330.ok prog 330 := TyD.ok_of type330 underlying330 (by kernel_rfl)
def ty331 : TyD := ⟨.func, 1, [.nilFunc], 8⟩
theorem tyok331 : ty331.ok prog 331 := TyD.ok_of type331 underlying331 (by kernel_rfl)
def ty332 : TyD := ⟨.func, 1, [.nilFunc], 8⟩
theorem tyok332 : ty332.ok prog 332 := TyD.ok_of type332 underlying332 (by kernel_rfl)
def ty333 : TyD := ⟨.func, 1, [.nilFunc], 8⟩
theorem tyok333 : ty333.ok prog 333 := TyD.ok_of type333 underlying333 (by kernel_rfl)
def ty334 : TyD := ⟨.func, 1, [.nilFunc], 8⟩
theorem tyok334 : ty334.ok prog 334 := TyD.ok_of type334 underlying334 (by kernel_rfl)
def ty335 : TyD := ⟨.func, 1, [.nilFunc], 8⟩
theorem tyok335 : ty335.ok prog 335 := TyD.ok_of type335 underlying335 (by kernel_rfl)
def ty336 : TyD := ⟨.agg [(0, 3), (1, 3), (2, 4), (3, 4), (4, 3), (5, 3)], 6, [.int .i64 0, .int .i64 0, .bool false, .bool false, .int .i64 0, .int .i64 0], 40⟩
theorem tyok336 : ty336.ok prog 336 := TyD.ok_of type336 underlying336 (by kernel_rfl)
def ty337 : TyD := ⟨.agg [(0, 3), (1, 3), (2, 4), (3, 4), (4, 3), (5, 3)], 6, [.int .i64 0, .int .i64 0, .bool false, .bool false, .int .i64 0, .int .i64 0], 40⟩
theorem tyok337 : ty337.ok prog 337 := TyD.ok_of type337 underlying337 (by kernel_rfl)
def ty339 : TyD := ⟨.func, 1, [.nilFunc], 8⟩
theorem tyok339 : ty339.ok prog 339 := TyD.ok_of type339 underlying339 (by kernel_rfl)
def ty340 : TyD := ⟨.func, 1, [.nilFunc], 8⟩
theorem tyok340 : ty340.ok prog 340 := TyD.ok_of type340 underlying340 (by kernel_rfl)
def ty341 : TyD := ⟨.func, 1, [.nilFunc], 8⟩
theorem tyok341 : ty341.ok prog 341 := TyD.ok_of type341 underlying341 (by kernel_rfl)
def ty342 : TyD := ⟨.func, 1, [.nilFunc], 8⟩
theorem tyok342 : ty342.ok prog 342 := TyD.ok_of type342 underlying342 (by kernel_rfl)
def ty343 : TyD := ⟨.func, 1, [.nilFunc], 8⟩
theorem tyok343 : ty343.ok prog 343 := TyD.ok_of type343 underlying343 (by kernel_rfl)
def ty344 : TyD := ⟨.func, 1, [.nilFunc], 8⟩
theorem tyok344 : ty344.ok prog 344 := TyD.ok_of type344 underlying344 (by kernel_rfl)
def ty345 : TyD := ⟨.func, 1, [.nilFunc], 8⟩
theorem tyok345 : ty345.ok prog 345 := TyD.ok_of type345 underlying345 (by kernel_rfl)
def ty346 : TyD := ⟨.func, 1, [.nilFunc], 8⟩
theorem tyok346 : ty346.ok prog 346 := TyD.ok_of type346 underlying346 (by kernel_rfl)
def ty347 : TyD := ⟨.func, 1, [.nilFunc], 8⟩
theorem tyok347 : ty347.ok prog 347 := TyD.ok_of type347 underlying347 (by kernel_rfl)
def ty348 : TyD := ⟨.agg [], 0, [], 0⟩
theorem tyok348 : ty348.ok prog 348 := TyD.ok_of type348 underlying348 (by kernel_rfl)
def ty349 : TyD := ⟨.func, 1, [.nilFunc], 8⟩
theorem tyok349 : ty349.ok prog 349 := TyD.ok_of type349 underlying349 (by kernel_rfl)
def ty350 : TyD := ⟨.func, 1, [.nilFunc], 8⟩
theorem tyok350 : ty350.ok prog 350 := TyD.ok_of type350 underlying350 (by kernel_rfl)
def ty351 : TyD := ⟨.int .i64, 1, [.int .i64 0], 8⟩
theorem tyok351 : ty351.ok prog 351 := TyD.ok_of type351 underlying351 (by kernel_rfl)
def ty353 : TyD := ⟨.func, 1, [.nilFunc], 8⟩
theorem tyok353 : ty353.ok prog 353 := TyD.ok_of type353 underlying353 (by kernel_rfl)
def ty354 : TyD := ⟨.func, 1, [.nilFunc], 8⟩
theorem tyok354 : ty354.ok prog 354 := TyD.ok_of type354 underlying354 (by kernel_rfl)
def ty355 : TyD := ⟨.func, 1, [.nilFunc], 8⟩
theorem tyok355 : ty355.ok prog 355 := TyD.ok_of type355 underlying355 (by kernel_rfl)
def ty356 : TyD := ⟨.func, 1, [.nilFunc], 8⟩
theorem tyok356 : ty356.ok prog 356 := TyD.ok_of type356 underlying356 (by kernel_rfl)
def ty357 : TyD := ⟨.func, 1, [.nilFunc], 8⟩
theorem tyok357 : ty357.ok prog 357 := TyD.ok_of type357 underlying357 (by kernel_rfl)
def ty358 : TyD := ⟨.int .u32, 1, [.int .u32 0], 4⟩
theorem tyok358 : ty358.ok prog 358 := TyD.ok_of type358 underlying358 (by kernel_rfl)
def ty359 : TyD := ⟨.func, 1, [.nilFunc], 8⟩
theorem tyok359 : ty359.ok prog 359 := TyD.ok_of type359 underlying359 (by kernel_rfl)
def ty360 : TyD := ⟨.int .u64, 1, [.int .u64 0], 8⟩
theorem tyok360 : ty360.ok prog 360 := TyD.ok_of type360 underlying360 (by kernel_rfl)
def ty361 : TyD := ⟨.func, 1, [.nilFunc], 8⟩
theorem tyok361 : ty361.ok prog 361 := TyD.ok_of type361 underlying361 (by kernel_rfl)
def ty362 : TyD := ⟨.func, 1, [.nilFunc], 8⟩
theorem tyok362 : ty362.ok prog 362 := TyD.ok_of type362 underlying362 (by kernel_rfl)
def ty363 : TyD := ⟨.func, 1, [.nilFunc], 8⟩
theorem tyok363 : ty363.ok prog 363 := TyD.ok_of type363 underlying363 (by kernel_rfl)
def ty364 : TyD := ⟨.func, 1, [.nilFunc], 8⟩
theorem tyok364 : ty364.ok prog 364 := TyD.ok_of type364 underlying364 (by kernel_rfl)
def ty365 : TyD := ⟨.func, 1, [.nilFunc], 8⟩
theorem tyok365 : ty365.ok prog 365 := TyD.ok_of type365 underlying365 (by kernel_rfl)
def ty366 : TyD := ⟨.func, 1, [.nilFunc], 8⟩
theorem tyok366 : ty366.ok prog 366 := TyD.ok_of type366 underlying366 (by kernel_rfl)
def ty367 : TyD := ⟨.func, 1, [.nilFunc], 8⟩
theorem tyok367 : ty367.ok prog 367 := TyD.ok_of type367 underlying367 (by kernel_rfl)
def ty368 : TyD := ⟨.map 3 153, 1, [.map none], 8⟩
theorem tyok368 : ty368.ok prog 368 := TyD.ok_of type368 underlying368 (by kernel_rfl)
def ty369 : TyD := ⟨.func, 1, [.nilFunc], 8⟩
theorem tyok369 : ty369.ok prog 369 := TyD.ok_of type369 underlying369 (by kernel_rfl)
def ty370 : TyD := ⟨.map 27 3, 1, [.map none], 8⟩
theorem tyok370 : ty370.ok prog 370 := TyD.ok_of type370 underlying370 (by kernel_rfl)
def ty371 : TyD := ⟨.func, 1, [.nilFunc], 8⟩
theorem tyok371 : ty371.ok prog 371 := TyD.ok_of type371 underlying371 (by kernel_rfl)
def ty372 : TyD := ⟨.func, 1, [.nilFunc], 8⟩
theorem tyok372 : ty372.ok prog 372 := TyD.ok_of type372 underlying372 (by kernel_rfl)
def ty373 : TyD := ⟨.func, 1, [.nilFunc], 8⟩
theorem tyok373 : ty373.ok prog 373 := TyD.ok_of type373 underlying373 (by kernel_rfl)
def ty375 : TyD := ⟨.func, 1, [.nilFunc], 8⟩
theorem tyok375 : ty375.ok prog 375 := TyD.ok_of type375 underlying375 (by kernel_rfl)
def ty376 : TyD := ⟨.func, 1, [.nilFunc], 8⟩
theorem tyok376 : ty376.ok prog 376 := TyD.ok_of type376 underlying376 (by kernel_rfl)
def ty377 : TyD := ⟨.func, 1, [.nilFunc], 8⟩
theorem tyok377 : ty377.ok prog 377 := TyD.ok_of type377 underlying377 (by kernel_rfl)
def ty378 : TyD := ⟨.func, 1, [.nilFunc], 8⟩
theorem tyok378 : ty378.ok prog 378 := TyD.ok_of type378 underlying378 (by kernel_rfl)
def ty379 : TyD := ⟨.func, 1, [.nilFunc], 8⟩
theorem tyok379 : ty379.ok prog 379 := TyD.ok_of type379 underlying379 (by kernel_rfl)
def ty380 : TyD := ⟨.func, 1, [.nilFunc], 8⟩
theorem tyok380 : ty380.ok prog 380 := TyD.ok_of type380 underlying380 (by kernel_rfl)
def ty381 : TyD := ⟨.func, 1, [.nilFunc], 8⟩
theorem tyok381 : ty381.ok prog 381 := TyD.ok_of type381 underlying381 (by kernel_rfl)
def ty382 : TyD := ⟨.func, 1, [.nilFunc], 8⟩
theorem tyok382 : ty382.ok prog 382 := TyD.ok_of type382 underlying382 (by kernel_rfl)
def ty383 : TyD := ⟨.int .u64, 1, [.int .u64 0], 8⟩
theorem tyok383 : ty383.ok prog 383 := TyD.ok_of type383 underlying383 (by kernel_rfl)
def ty384 : TyD := ⟨.func, 1, [.nilFunc], 8⟩
theorem tyok384 : ty384.ok prog 384 := TyD.ok_of type384 underlying384 (by kernel_rfl)
def ty385 : TyD := ⟨.func, 1, [.nilFunc], 8⟩
theorem tyok385 : ty385.ok prog 385 := TyD.ok_of type385 underlying385 (by kernel_rfl)
def ty386 : TyD := ⟨.func, 1, [.nilFunc], 8⟩
theorem tyok386 : ty386.ok prog 386 := TyD.ok_of type386 underlying386 (by kernel_rfl)
def ty387 : TyD := ⟨.ptr 3, 1, [.pointer none], 8⟩
theorem tyok387 : ty387.ok prog 387 := TyD.ok_of type387 underlying387 (by kernel_rfl)
def ty388 : TyD := ⟨.func, 1, [.nilFunc], 8⟩
theorem tyok388 : ty388.ok prog 388 := TyD.ok_of type388 underlying388 (by kernel_rfl)
def ty389 : TyD := ⟨.func, 1, [.nilFunc], 8⟩
theorem tyok389 : ty389.ok prog 389 := TyD.ok_of type389 underlying389 (by kernel_rfl)
def ty390 : TyD := ⟨.func, 1, [.nilFunc], 8⟩
theorem tyok390 : ty390.ok prog 390 := TyD.ok_of type390 underlying390 (by kernel_rfl)
def ty391 : TyD := ⟨.func, 1, [.nilFunc], 8⟩
theorem tyok391 : ty391.ok prog 391 := TyD.ok_of type391 underlying391 (by kernel_rfl)
def ty392 : TyD := ⟨.func, 1, [.nilFunc], 8⟩
theorem tyok392 : ty392.ok prog 392 := TyD.ok_of type392 underlying392 (by kernel_rfl)
def ty393 : TyD := ⟨.func, 1, [.nilFunc], 8⟩
theorem tyok393 : ty393.ok prog 393 := TyD.ok_of type393 underlying393 (by kernel_rfl)
def ty394 : TyD := ⟨.func, 1, [.nilFunc], 8⟩
theorem tyok394 : ty394.ok prog 394 := TyD.ok_of type394 underlying394 (by kernel_rfl)
def ty395 : TyD := ⟨.func, 1, [.nilFunc], 8⟩
theorem tyok395 : ty395.ok prog 395 := TyD.ok_of type395 underlying395 (by kernel_rfl)
def ty396 : TyD := ⟨.ptr 383, 1, [.pointer none], 8⟩
theorem tyok396 : ty396.ok prog 396 := TyD.ok_of type396 underlying396 (by kernel_rfl)
def ty398 : TyD := ⟨.func, 1, [.nilFunc], 8⟩
theorem tyok398 : ty398.ok prog 398 := TyD.ok_of type398 underlying398 (by kernel_rfl)
def ty399 : TyD := ⟨.func, 1, [.nilFunc], 8⟩
theorem tyok399 : ty399.ok prog 399 := TyD.ok_of type399 underlying399 (by kernel_rfl)
def ty400 : TyD := ⟨.func, 1, [.nilFunc], 8⟩
theorem tyok400 : ty400.ok prog 400 := TyD.ok_of type400 underlying400 (by kernel_rfl)
def ty401 : TyD := ⟨.func, 1, [.nilFunc], 8⟩
theorem tyok401 : ty401.ok prog 401 := TyD.ok_of type401 underlying401 (by kernel_rfl)
def ty402 : TyD := ⟨.func, 1, [.nilFunc], 8⟩
theorem tyok402 : ty402.ok prog 402 := TyD.ok_of type402 underlying402 (by kernel_rfl)
def ty403 : TyD := ⟨.func, 1, [.nilFunc], 8⟩
theorem tyok403 : ty403.ok prog 403 := TyD.ok_of type403 underlying403 (by kernel_rfl)
def ty404 : TyD := ⟨.func, 1, [.nilFunc], 8⟩
theorem tyok404 : ty404.ok prog 404 := TyD.ok_of type404 underlying404 (by kernel_rfl)
def ty405 : TyD := ⟨.func, 1, [.nilFunc], 8⟩
theorem tyok405 : ty405.ok prog 405 := TyD.ok_of type405 underlying405 (by kernel_rfl)
def ty406 : TyD := ⟨.func, 1, [.nilFunc], 8⟩
theorem tyok406 : ty406.ok prog 406 := TyD.ok_of type406 underlying406 (by kernel_rfl)
def ty407 : TyD := ⟨.func, 1, [.nilFunc], 8⟩
theorem tyok407 : ty407.ok prog 407 := TyD.ok_of type407 underlying407 (by kernel_rfl)
def ty408 : TyD := ⟨.func, 1, [.nilFunc], 8⟩
theorem tyok408 : ty408.ok prog 408 := TyD.ok_of type408 underlying408 (by kernel_rfl)
def ty409 : TyD := ⟨.func, 1, [.nilFunc], 8⟩
theorem tyok409 : ty409.ok prog 409 := TyD.ok_of type409 underlying409 (by kernel_rfl)
def ty410 : TyD := ⟨.func, 1, [.nilFunc], 8⟩
theorem tyok410 : ty410.ok prog 410 := TyD.ok_of type410 underlying410 (by kernel_rfl)
def ty411 : TyD := ⟨.func, 1, [.nilFunc], 8⟩
theorem tyok411 : ty411.ok prog 411 := TyD.ok_of type411 underlying411 (by kernel_rfl)
def ty412 : TyD := ⟨.func, 1, [.nilFunc], 8⟩
theorem tyok412 : ty412.ok prog 412 := TyD.ok_of type412 underlying412 (by kernel_rfl)
def ty413 : TyD := ⟨.func, 1, [.nilFunc], 8⟩
theorem tyok413 : ty413.ok prog 413 := TyD.ok_of type413 underlying413 (by kernel_rfl)
def ty414 : TyD := ⟨.func, 1, [.nilFunc], 8⟩
theorem tyok414 : ty414.ok prog 414 := TyD.ok_of type414 underlying414 (by kernel_rfl)
def ty415 : TyD := ⟨.func, 1, [.nilFunc], 8⟩
theorem tyok415 : ty415.ok prog 415 := TyD.ok_of type415 underlying415 (by kernel_rfl)
def ty416 : TyD := ⟨.func, 1, [.nilFunc], 8⟩
theorem tyok416 : ty416.ok prog 416 := TyD.ok_of type416 underlying416 (by kernel_rfl)
def ty417 : TyD := ⟨.func, 1, [.nilFunc], 8⟩
theorem tyok417 : ty417.ok prog 417 := TyD.ok_of type417 underlying417 (by kernel_rfl)
def ty418 : TyD := ⟨.func, 1, [.nilFunc], 8⟩
theorem tyok418 : ty418.ok prog 418 := TyD.ok_of type418 underlying418 (by kernel_rfl)
def ty419 : TyD := ⟨.agg [(0, 17), (1, 17), (2, 17), (3, 9)], 4, [.pointer none, .pointer none, .pointer none, .string ⟨#[]⟩], 40⟩
theorem tyok419 : ty419.ok prog 419 := TyD.ok_of type419 underlying419 (by kernel_rfl)
def ty421 : TyD := ⟨.arr 0 16, 0, [], 0⟩
theorem tyok421 : ty421.ok prog 421 := TyD.ok_of type421 underlying421 (by kernel_rfl)
def ty422 : TyD := ⟨.agg [(0, 421)], 0, [], 0⟩
theorem tyok422 : ty422.ok prog 422 := TyD.ok_of type422 underlying422 (by kernel_rfl)
def ty424 : TyD := ⟨.func, 1, [.nilFunc], 8⟩
theorem tyok424 : ty424.ok prog 424 := TyD.ok_of type424 underlying424 (by kernel_rfl)
def ty427 : TyD := ⟨.func, 1, [.nilFunc], 8⟩
theorem tyok427 : ty427.ok prog 427 := TyD.ok_of type427 underlying427 (by kernel_rfl)
def ty428 : TyD := ⟨.ptr 5, 1, [.pointer none], 8⟩
theorem tyok428 : ty428.ok prog 428 := TyD.ok_of type428 underlying428 (by kernel_rfl)
def ty431 : TyD := ⟨.agg [(0, 12), (1, 12), (2, 358), (3, 425), (4, 5), (5, 5), (6, 426), (7, 427), (8, 428), (9, 429), (10, 430)], 11, [.int .u64 0, .int .u64 0, .int .u32 0, .int .u8 0, .int .u8 0, .int .u8 0, .int .u8 0, .nilFunc, .pointer none, .int .i32 0, .int .i32 0], 48⟩
theorem tyok431 : ty431.ok prog 431 := TyD.ok_of type431 underlying431 (by kernel_rfl)
def tyTab : List (Nat × TyD) := [(1, ty1), (2, ty2), (3, ty3), (4, ty4), (5, ty5), (7, ty7), (9, ty9), (12, ty12), (13, ty13), (18, ty18), (20, ty20), (21, ty21), (22, ty22), (23, ty23), (24, ty24), (25, ty25), (26, ty26), (27, ty27), (28, ty28), (30, ty30), (32, ty32), (33, ty33), (34, ty34), (35, ty35), (36, ty36), (37, ty37), (38, ty38), (39, ty39), (40, ty40), (41, ty41), (42, ty42), (44, ty44), (45, ty45), (46, ty46), (47, ty47), (48, ty48), (49, ty49), (50, ty50), (51, ty51), (52, ty52), (53, ty53), (54, ty54), (55, ty55), (56, ty56), (57, ty57), (58, ty58), (59, ty59), (61, ty61), (62, ty62), (63, ty63), (64, ty64), (66, ty66), (67, ty67), (68, ty68), (69, ty69), (70, ty70), (71, ty71), (72, ty72), (74, ty74), (75, ty75), (76, ty76), (77, ty77), (78, ty78), (79, ty79), (80, ty80), (81, ty81), (83, ty83), (84, ty84), (86, ty86), (87, ty87), (88, ty88), (89, ty89), (90, ty90), (91, ty91), (92, ty92), (93, ty93), (94, ty94), (96, ty96), (98, ty98), (99, ty99), (100, ty100), (101, ty101), (102, ty102), (103, ty103), (104, ty104), (105, ty105), (106, ty106), (107, ty107), (108, ty108), (109, ty109), (110, ty110), (111, ty111), (112, ty112), (113, ty113), (114, ty114), (116, ty116), (117, ty117), (118, ty118), (119, ty119), (120, ty120), (121, ty121), (122, ty122), (123, ty123), (124, ty124), (125, ty125), (127, ty127), (129, ty129), (131, ty131), (132, ty132), (133, ty133), (134, ty134), (135, ty135), (136, ty136), (137, ty137), (138, ty138), (139, ty139), (140, ty140), (141, ty141), (142, ty142), (143, ty143), (144, ty144), (145, ty145), (147, ty147), (148, ty148), (150, ty150), (152, ty152), (153, ty153), (154, ty154), (155, ty155), (156, ty156), (157, ty157), (158, ty158), (159, ty159), (161, ty161), (162, ty162), (163, ty163), (164, ty164), (166, ty166), (167, ty167), (168, ty168), (169, ty169), (170, ty170), (171, ty171), (172, ty172), (173, ty173), (174, ty174), (175, ty175), (176, ty176), (177, ty177), (179, ty179), (180, ty180), (181, ty181), (182, ty182), (183, ty183), (184, ty184), (185, ty185), (186, ty186), (187, ty187), (188, ty188), (189, ty189), (190, ty190), (191, ty191), (192, ty192), (193, ty193), (194, ty194), (196, ty196), (197, ty197), (198, ty198), (199, ty199), (200, ty200), (201, ty201), (202, ty202), (203, ty203), (204, ty204), (205, ty205), (206, ty206), (207, ty207), (208, ty208), (209, ty209), (210, ty210), (211, ty211), (212, ty212), (213, ty213), (214, ty214), (215, ty215), (216, ty216), (217, ty217), (218, ty218), (220, ty220), (221, ty221), (222, ty222), (223, ty223), (224, ty224), (225, ty225), (226, ty226), (227, ty227), (228, ty228), (229, ty229), (230, ty230), (231, ty231), (232, ty232), (233, ty233), (234, ty234), (235, ty235), (236, ty236), (237, ty237), (238, ty238), (239, ty239), (240, ty240), (241, ty241), (242, ty242), (243, ty243), (244, ty244), (245, ty245), (246, ty246), (247, ty247), (248, ty248), (249, ty249), (250, ty250), (251, ty251), (252, ty252), (253, ty253), (254, ty254), (255, ty255), (256, ty256), (257, ty257), (258, ty258), (259, ty259), (260, ty260), (261, ty261), (262, ty262), (263, ty263), (264, ty264), (265, ty265), (267, ty267), (268, ty268), (269, ty269), (270, ty270), (271, ty271), (272, ty272), (273, ty273), (274, ty274), (275, ty275), (277, ty277), (278, ty278), (279, ty279), (281, ty281), (282, ty282), (283, ty283), (284, ty284), (285, ty285), (286, ty286), (287, ty287), (288, ty288), (289, ty289), (290, ty290), (291, ty291), (292, ty292), (293, ty293), (294, ty294), (295, ty295), (296, ty296), (297, ty297), (298, ty298), (299, ty299), (300, ty300), (301, ty301), (302, ty302), (303, ty303), (304, ty304), (305, ty305), (306, ty306), (307, ty307), (308, ty308), (309, ty309), (310, ty310), (311, ty311), (312, ty312), (313, ty313), (314, ty314), (316, ty316), (317, ty317), (318, ty318), (319, ty319), (320, ty320), (321, ty321), (322, ty322), (324, ty324), (325, ty325), (327, ty327), (328, ty328), (329, ty329), (330, ty330), (331, ty331), (332, ty332), (333, ty333), (334, ty334), (335, ty335), (336, ty336), (337, ty337), (339, ty339), (340, ty340), (341, ty341), (342, ty342), (343, ty343), (344, ty344), (345, ty345), (346, ty346), (347, ty347), (348, ty348), (349, ty349), (350, ty350), (351, ty351), (353, ty353), (354, ty354), (355, ty355), (356, ty356), (357, ty357), (358, ty358), (359, ty359), (360, ty360), (361, ty361), (362, ty362), (363, ty363), (364, ty364), (365, ty365), (366, ty366), (367, ty367), (368, ty368), (369, ty369), (370, ty370), (371, ty371), (372, ty372), (373, ty373), (375, ty375), (376, ty376), (377, ty377), (378, ty378), (379, ty379), (380, ty380), (381, ty381), (382, ty382), (383, ty383), (384, ty384), (385, ty385), (386, ty386), (387, ty387), (388, ty388), (389, ty389), (390, ty390), (391, ty391), (392, ty392), (393, ty393), (394, ty394), (395, ty395), (396, ty396), (398, ty398), (399, ty399), (400, ty400), (401, ty401), (402, ty402), (403, ty403), (404, ty404), (405, ty405), (406, ty406), (407, ty407), (408, ty408), (409, ty409), (410, ty410), (411, ty411), (412, ty412), (413, ty413), (414, ty414), (415, ty415), (416, ty416), (417, ty417), (418, ty418), (419, ty419), (421, ty421), (422, ty422), (424, ty424), (427, ty427), (428, ty428), (431, ty431)]
theorem tyTab_ok : TyOk prog (tyOf tyTab) := TyOk_of (forall_cons (P := fun p : Nat × TyD => p.2.ok prog p.1) tyok1 <| forall_cons (P := fun p : Nat × TyD => p.2.ok prog p.1) tyok2 <| forall_cons (P := fun p : Nat × TyD => p.2.ok prog p.1) tyok3 <| forall_cons (P := fun p : Nat × TyD => p.2.ok prog p.1) tyok4 <| forall_cons (P := fun p : Nat × TyD => p.2.ok prog p.1) tyok5 <| forall_cons (P := fun p : Nat × TyD => p.2.ok prog p.1) tyok7 <| forall_cons (P := fun p : Nat × TyD => p.2.ok prog p.1) tyok9 <| forall_cons (P := fun p : Nat × TyD => p.2.ok prog p.1) tyok12 <| forall_cons (P := fun p : Nat × TyD => p.2.ok prog p.1) tyok13 <| forall_cons (P := fun p : Nat × TyD => p.2.ok prog p.1) tyok18 <| forall_cons (P := fun p : Nat × TyD => p.2.ok prog p.1) tyok20 <| forall_cons (P := fun p : Nat × TyD => p.2.ok prog p.1) tyok21 <| forall_cons (P := fun p : Nat × TyD => p.2.ok prog p.1) tyok22 <| forall_cons (P := fun p : Nat × TyD => p.2.ok prog p.1) tyok23 <| forall_cons (P := fun p : Nat × TyD => p.2.ok prog p.1) tyok24 <| forall_cons (P := fun p : Nat × TyD => p.2.ok prog p.1) tyok25 <| forall_cons (P := fun p : Nat × TyD => p.2.ok prog p.1) tyok26 <| forall_cons (P := fun p : Nat × TyD => p.2.ok prog p.1) tyok27 <| forall_cons (P := fun p : Nat × TyD => p.2.ok prog p.1) tyok28 <| forall_cons (P := fun p : Nat × TyD => p.2.ok prog p.1) tyok30 <| forall_cons (P := fun p : Nat × TyD => p.2.ok prog p.1) tyok32 <| forall_cons (P := fun p : Nat × TyD => p.2.ok prog p.1) tyok33 <| forall_cons (P := fun p : Nat × TyD => p.2.ok prog p.1) tyok34 <| forall_cons (P := fun p : Nat × TyD => p.2.ok prog p.1) tyok35 <| forall_cons (P := fun p : Nat × TyD => p.2.ok prog p.1) tyok36 <| forall_cons (P := fun p : Nat × TyD => p.2.ok prog p.1) tyok37 <| forall_cons (P := fun p : Nat × TyD => p.2.ok prog p.1) tyok38 <| forall_cons (P := fun p : Nat × TyD => p.2.ok prog p.1) tyok39 <| forall_cons (P := fun p : Nat × TyD => p.2.ok prog p.1) tyok40 <| forall_cons (P := fun p : Nat × TyD => p.2.ok prog p.1) tyok41 <| forall_cons (P := fun p : Nat × TyD => p.2.ok prog p.1) tyok42 <| forall_cons (P := fun p : Nat × TyD => p.2.ok prog p.1) tyok44 <| forall_cons (P := fun p : Nat × TyD => p.2.ok prog p.1) tyok45 <| forall_cons (P := fun p : Nat × TyD => p.2.ok prog p.1) tyok46 <| forall_cons (P := fun p : Nat × TyD => p.2.ok prog p.1) tyok47 <| forall_cons (P := fun p : Nat × TyD => p.2.ok prog p.1) tyok48 <| forall_cons (P := fun p : Nat × TyD => p.2.ok prog p.1) tyok49 <| forall_cons (P := fun p : Nat × TyD => p.2.ok prog p.1) tyok50 <| forall_cons (P := fun p : Nat × TyD => p.2.ok prog p.1) tyok51 <| forall_cons (P := fun p : Nat × TyD => p.2.ok prog p.1) tyok52 <| forall_cons (P := fun p : Nat × TyD => p.2.ok prog p.1) tyok53 <| forall_cons (P := fun p : Nat × TyD => p.2.ok prog p.1) tyok54 <| forall_cons (P := fun p : Nat × TyD => p.2.ok prog p.1) tyok55 <| forall_cons (P := fun p : Nat × TyD => p.2.ok prog p.1) tyok56 <| forall_cons (P := fun p : Nat × TyD => p.2.ok prog p.1) tyok57 <| forall_cons (P := fun p : Nat × TyD => p.2.ok prog p.1) tyok58 <| forall_cons (P := fun p : Nat × TyD => p.2.ok prog p.1) tyok59 <| forall_cons (P := fun p : Nat × TyD => p.2.ok prog p.1) tyok61 <| forall_cons (P := fun p : Nat × TyD => p.2.ok prog p.1) tyok62 <| forall_cons (P := fun p : Nat × TyD => p.2.ok prog p.1) tyok63 <| forall_cons (P := fun p : Nat × TyD => p.2.ok prog p.1) tyok64 <| forall_cons (P := fun p : Nat × TyD => p.2.ok prog p.1) tyok66 <| forall_cons (P := fun p : Nat × TyD => p.2.ok prog p.1) tyok67 <| forall_cons (P := fun p : Nat × TyD => p.2.ok prog p.1) tyok68 <| forall_cons (P := fun p : Nat × TyD => p.2.ok prog p.1) tyok69 <| forall_cons (P := fun p : Nat × TyD => p.2.ok prog p.1) tyok70 <| forall_cons (P := fun p : Nat × TyD => p.2.ok prog p.1) tyok71 <| forall_cons (P := fun p : Nat × TyD => p.2.ok prog p.1) tyok72 <| forall_cons (P := fun p : Nat × TyD => p.2.ok prog p.1) tyok74 <| forall_cons (P := fun p : Nat × TyD => p.2.ok prog p.1) tyok75 <| forall_cons (P := fun p : Nat × TyD => p.2.ok prog p.1) tyok76 <| forall_cons (P := fun p : Nat × TyD => p.2.ok prog p.1) tyok77 <| forall_cons (P := fun p : Nat × TyD => p.2.ok prog p.1) tyok78 <| forall_cons (P := fun p : Nat × TyD => p.2.ok prog p.1) tyok79 <| forall_cons (P := fun p : Nat × TyD => p.2.ok prog p.1) tyok80 <| forall_cons (P := fun p : Nat × TyD => p.2.ok prog p.1) tyok81 <| forall_cons (P := fun p : Nat × TyD => p.2.ok prog p.1) tyok83 <| forall_cons (P := fun p : Nat × TyD => p.2.ok prog p.1) tyok84 <| forall_cons (P := fun p : Nat × TyD => p.2.ok prog p.1) tyok86 <| forall_cons (P := fun p : Nat × TyD => p.2.ok prog p.1) tyok87 <| forall_cons (P := fun p : Nat × TyD => p.2.ok prog p.1) tyok88 <| forall_cons (P := fun p : Nat × TyD => p.2.ok prog p.1) tyok89 <| forall_cons (P := fun p : Nat × TyD => p.2.ok prog p.1) tyok90 <| forall_cons (P := fun p : Nat × TyD => p.2.ok prog p.1) tyok91 <| forall_cons (P := fun p : Nat × TyD => p.2.ok prog p.1) tyok92 <| forall_cons (P := fun p : Nat × TyD => p.2.ok prog p.1) tyok93 <| forall_cons (P := fun p : Nat × TyD => p.2.ok prog p.1) tyok94 <| forall_cons (P := fun p : Nat × TyD => p.2.ok prog p.1) tyok96 <| forall_cons (P := fun p : Nat × TyD => p.2.ok prog p.1) tyok98 <| forall_cons (P := fun p : Nat × TyD => p.2.ok prog p.1) tyok99 <| forall_cons (P := fun p : Nat × TyD => p.2.ok prog p.1) tyok100 <| forall_cons (P := fun p : Nat × TyD => p.2.ok prog p.1) tyok101 <| forall_cons (P := fun p : Nat × TyD => p.2.ok prog p.1) tyok102 <| forall_cons (P := fun p : Nat × TyD => p.2.ok prog p.1) tyok103 <| forall_cons (P := fun p : Nat × TyD => p.2.ok prog p.1) tyok104 <| forall_cons (P := fun p : Nat × TyD => p.2.ok prog p.1) tyok105 <| forall_cons (P := fun p : Nat × TyD => p.2.ok prog p.1) tyok106 <| forall_cons (P := fun p : Nat × TyD => p.2.ok prog p.1) tyok107 <| forall_cons (P := fun p : Nat × TyD => p.2.ok prog p.1) tyok108 <| forall_cons (P := fun p : Nat × TyD => p.2.ok prog p.1) tyok109 <| forall_cons (P := fun p : Nat × TyD => p.2.ok prog p.1) tyok110 <| forall_cons (P := fun p : Nat × TyD => p.2.ok prog p.1) tyok111 <| forall_cons (P := fun p : Nat × TyD => p.2.ok prog p.1) tyok112 <| forall_cons (P := fun p : Nat × TyD => p.2.ok prog p.1) tyok113 <| forall_cons (P := fun p : Nat × TyD => p.2.ok prog p.1) tyok114 <| forall_cons (P := fun p : Nat × TyD => p.2.ok prog p.1) tyok116 <| forall_cons (P := fun p : Nat × TyD => p.2.ok prog p.1) tyok117 <| forall_cons (P := fun p : Nat × TyD => p.2.ok prog p.1) tyok118 <| forall_cons (P := fun p : Nat × TyD => p.2.ok prog p.1) tyok119 <| forall_cons (P := fun p : Nat × TyD => p.2.ok prog p.1) tyok120 <| forall_cons (P := fun p : Nat × TyD => p.2.ok prog p.1) tyok121 <| forall_cons (P := fun p : Nat × TyD => p.2.ok prog p.1) tyok122 <| forall_cons (P := fun p : Nat × TyD => p.2.ok prog p.1) tyok123 <| forall_cons (P := fun p : Nat × TyD => p.2.ok prog p.1) tyok124 <| forall_cons (P := fun p : Nat × TyD => p.2.ok prog p.1) tyok125 <| forall_cons (P := fun p : Nat × TyD => p.2.ok prog p.1) tyok127 <| forall_cons (P := fun p : Nat × TyD => p.2.ok prog p.1) tyok129 <| forall_cons (P := fun p : Nat × TyD => p.2.ok prog p.1) tyok131 <| forall_cons (P := fun p : Nat × TyD => p.2.ok prog p.1) tyok132 <| forall_cons (P := fun p : Nat × TyD => p.2.ok prog p.1) tyok133 <| forall_cons (P := fun p : Nat × TyD => p.2.ok prog p.1) tyok134 <| forall_cons (P := fun p : Nat × TyD => p.2.ok prog p.1) tyok135 <| forall_cons (P := fun p : Nat × TyD => p.2.ok prog p.1) tyok136 <| forall_cons (P := fun p : Nat × TyD => p.2.ok prog p.1) tyok137 <| forall_cons (P := fun p : Nat × TyD => p.2.ok prog p.1) tyok138 <| forall_cons (P := fun p : Nat × TyD => p.2.ok prog p.1) tyok139 <| forall_cons (P := fun p : Nat × TyD => p.2.ok prog p.1) tyok140 <| forall_cons (P := fun p : Nat × TyD => p.2.ok prog p.1) tyok141 <| forall_cons (P := fun p : Nat × TyD => p.2.ok prog p.1) tyok142 <| forall_cons (P := fun p : Nat × TyD => p.2.ok prog p.1) tyok143 <| forall_cons (P := fun p : Nat × TyD => p.2.ok prog p.1) tyok144 <| forall_cons (P := fun p : Nat × TyD => p.2.ok prog p.1) tyok145 <| forall_cons (P := fun p : Nat × TyD => p.2.ok prog p.1) tyok147 <| forall_cons (P := fun p : Nat × TyD => p.2.ok prog p.1) tyok148 <| forall_cons (P := fun p : Nat × TyD => p.2.ok prog p.1) tyok150 <| forall_cons (P := fun p : Nat × TyD => p.2.ok prog p.1) tyok152 <| forall_cons (P := fun p : Nat × TyD => p.2.ok prog p.1) tyok153 <| forall_cons (P := fun p : Nat × TyD => p.2.ok prog p.1) tyok154 <| forall_cons (P := fun p : Nat × TyD => p.2.ok prog p.1) tyok155 <| forall_cons (P := fun p : Nat × TyD => p.2.ok prog p.1) tyok156 <| forall_cons (P := fun p : Nat × TyD => p.2.ok prog p.1) tyok157 <| forall_cons (P := fun p : Nat × TyD => p.2.ok prog p.1) tyok158 <| forall_cons (P := fun p : Nat × TyD => p.2.ok prog p.1) tyok159 <| forall_cons (P := fun p : Nat × TyD => p.2.ok prog p.1) tyok161 <| forall_cons (P := fun p : Nat × TyD => p.2.ok prog p.1) tyok162 <| forall_cons (P := fun p : Nat × TyD => p.2.ok prog p.1) tyok163 <| forall_cons (P := fun p : Nat × TyD => p.2.ok prog p.1) tyok164 <| forall_cons (P := fun p : Nat × TyD => p.2.ok prog p.1) tyok166 <| forall_cons (P := fun p : Nat × TyD => p.2.ok prog p.1) tyok167 <| forall_cons (P := fun p : Nat × TyD => p.2.ok prog p.1) tyok168 <| forall_cons (P := fun p : Nat × TyD => p.2.ok prog p.1) tyok169 <| forall_cons (P := fun p : Nat × TyD => p.2.ok prog p.1) tyok170 <| forall_cons (P := fun p : Nat × TyD => p.2.ok prog p.1) tyok171 <| forall_cons (P := fun p : Nat × TyD => p.2.ok prog p.1) tyok172 <| forall_cons (P := fun p : Nat × TyD => p.2.ok prog p.1) tyok173 <| forall_cons (P := fun p : Nat × TyD => p.2.ok prog p.1) tyok174 <| forall_cons (P := fun p : Nat × TyD => p.2.ok prog p.1) tyok175 <| forall_cons (P := fun p : Nat × TyD => p.2.ok prog p.1) tyok176 <| forall_cons (P := fun p : Nat × TyD => p.2.ok prog p.1) tyok177 <| forall_cons (P := fun p : Nat × TyD => p.2.ok prog p.1) tyok179 <| forall_cons (P := fun p : Nat × TyD => p.2.ok prog p.1) tyok180 <| forall_cons (P := fun p : Nat × TyD => p.2.ok prog p.1) tyok181 <| forall_cons (P := fun p : Nat × TyD => p.2.ok prog p.1) tyok182 <| forall_cons (P := fun p : Nat × TyD => p.2.ok prog p.1) tyok183 <| forall_cons (P := fun p : Nat × TyD => p.2.ok prog p.1) tyok184 <| forall_cons (P := fun p : Nat × TyD => p.2.ok prog p.1) tyok185 <| forall_cons (P := fun p : Nat × TyD => p.2.ok prog p.1) tyok186 <| forall_cons (P := fun p : Nat × TyD => p.2.ok prog p.1) tyok187 <| forall_cons (P := fun p : Nat × TyD => p.2.ok prog p.1) tyok188 <| forall_cons (P := fun p : Nat × TyD => p.2.ok prog p.1) tyok189 <| forall_cons (P := fun p : Nat × TyD => p.2.ok prog p.1) tyok190 <| forall_cons (P := fun p : Nat × TyD => p.2.ok prog p.1) tyok191 <| forall_cons (P := fun p : Nat × TyD => p.2.ok prog p.1) tyok192 <| forall_cons (P := fun p : Nat × TyD => p.2.ok prog p.1) tyok193 <| forall_cons (P := fun p : Nat × TyD => p.2.ok prog p.1) tyok194 <| forall_cons (P := fun p : Nat × TyD => p.2.ok prog p.1) tyok196 <| forall_cons (P := fun p : Nat × TyD => p.2.ok prog p.1) tyok197 <| forall_cons (P := fun p : Nat × TyD => p.2.ok prog p.1) tyok198 <| forall_cons (P := fun p : Nat × TyD => p.2.ok prog p.1) tyok199 <| forall_cons (P := fun p : Nat × TyD => p.2.ok prog p.1) tyok200 <| forall_cons (P := fun p : Nat × TyD => p.2.ok prog p.1) tyok201 <| forall_cons (P := fun p : Nat × TyD => p.2.ok prog p.1) tyok202 <| forall_cons (P := fun p : Nat × TyD => p.2.ok prog p.1) tyok203 <| forall_cons (P := fun p : Nat × TyD => p.2.ok prog p.1) tyok204 <| forall_cons (P := fun p : Nat × TyD => p.2.ok prog p.1) tyok205 <| forall_cons (P := fun p : Nat × TyD => p.2.ok prog p.1) tyok206 <| forall_cons (P := fun p : Nat × TyD => p.2.ok prog p.1) tyok207 <| forall_cons (P := fun p : Nat × TyD => p.2.ok prog p.1) tyok208 <| forall_cons (P := fun p : Nat × TyD => p.2.ok prog p.1) tyok209 <| forall_cons (P := fun p : Nat × TyD => p.2.ok prog p.1) tyok210 <| forall_cons (P := fun p : Nat × TyD => p.2.ok prog p.1) tyok211 <| forall_cons (P := fun p : Nat × TyD => p.2.ok prog p.1) tyok212 <| forall_cons (P := fun p : Nat × TyD => p.2.ok prog p.1) tyok213 <| forall_cons (P := fun p : Nat × TyD => p.2.ok prog p.1) tyok214 <| forall_cons (P := fun p : Nat × TyD => p.2.ok prog p.1) tyok215 <| forall_cons (P := fun p : Nat × TyD => p.2.ok prog p.1) tyok216 <| forall_cons (P := fun p : Nat × TyD => p.2.ok prog p.1) tyok217 <| forall_cons (P := fun p : Nat × TyD => p.2.ok prog p.1) tyok218 <| forall_cons (P := fun p : Nat × TyD => p.2.ok prog p.1) tyok220 <| forall_cons (P := fun p : Nat × TyD => p.2.ok prog p.1) tyok221 <| forall_cons (P := fun p : Nat × TyD => p.2.ok prog p.1) tyok222 <| forall_cons (P := fun p : Nat × TyD => p.2.ok prog p.1) tyok223 <| forall_cons (P := fun p : Nat × TyD => p.2.ok prog p.1) tyok224 <| forall_cons (P := fun p : Nat × TyD => p.2.ok prog p.1) tyok225 <| forall_cons (P := fun p : Nat × TyD => p.2.ok prog p.1) tyok226 <| forall_cons (P := fun p : Nat × TyD => p.2.ok prog p.1) tyok227 <| forall_cons (P := fun p : Nat × TyD => p.2.ok prog p.1) tyok228 <| forall_cons (P := fun p : Nat × TyD => p.2.ok prog p.1) tyok229 <| forall_cons (P := fun p : Nat × TyD => p.2.ok prog p.1) tyok230 <| forall_cons (P := fun p : Nat × TyD => p.2.ok prog p.1) tyok231 <| forall_cons (P := fun p : Nat × TyD => p.2.ok prog p.1) tyok232 <| forall_cons (P := fun p : Nat × TyD => p.2.ok prog p.1) tyok233 <| forall_cons (P := fun p : Nat × TyD => p.2.ok prog p.1) tyok234 <| forall_cons (P := fun p : Nat × TyD => p.2.ok prog p.1) tyok235 <| forall_cons (P := fun p : Nat × TyD => p.2.ok prog p.1) tyok236 <| forall_cons (P := fun p : Nat × TyD => p.2.ok prog p.1) tyok237 <| forall_cons (P := fun p : Nat × TyD => p.2.ok prog p.1) tyok238 <| forall_cons (P := fun p : Nat × TyD => p.2.ok prog p.1) tyok239 <| forall_cons (P := fun p : Nat × TyD => p.2.ok prog p.1) tyok240 <| forall_cons (P := fun p : Nat × TyD => p.2.ok prog p.1) tyok241 <| forall_cons (P := fun p : Nat × TyD => p.2.ok prog p.1) tyok242 <| forall_cons (P := fun p : Nat × TyD => p.2.ok prog p.1) tyok243 <| forall_cons (P := fun p : Nat × TyD => p.2.ok prog p.1) tyok244 <| forall_cons (P := fun p : Nat × TyD => p.2.ok prog p.1) tyok245 <| forall_cons (P := fun p : Nat × TyD => p.2.ok prog p.1) tyok246 <| forall_cons (P := fun p : Nat × TyD => p.2.ok prog p.1) tyok247 <| forall_cons (P := fun p : Nat × TyD => p.2.ok prog p.1) tyok248 <| forall_cons (P := fun p : Nat × TyD => p.2.ok prog p.1) tyok249 <| forall_cons (P := fun p : Nat × TyD => p.2.ok prog p.1) tyok250 <| forall_cons (P := fun p : Nat × TyD => p.2.ok prog p.1) tyok251 <| forall_cons (P := fun p : Nat × TyD => p.2.ok prog p.1) tyok252 <| forall_cons (P := fun p : Nat × TyD => p.2.ok prog p.1) tyok253 <| forall_cons (P := fun p : Nat × TyD => p.2.ok prog p.1) tyok254 <| forall_cons (P := fun p : Nat × TyD => p.2.ok prog p.1) tyok255 <| forall_cons (P := fun p : Nat × TyD => p.2.ok prog p.1) tyok256 <| forall_cons (P := fun p : Nat × TyD => p.2.ok prog p.1) tyok257 <| forall_cons (P := fun p : Nat × TyD => p.2.ok prog p.1) tyok258 <| forall_cons (P := fun p : Nat × TyD => p.2.ok prog p.1) tyok259 <| forall_cons (P := fun p : Nat × TyD => p.2.ok prog p.1) tyok260 <| forall_cons (P := fun p : Nat × TyD => p.2.ok prog p.1) tyok261 <| forall_cons (P := fun p : Nat × TyD => p.2.ok prog p.1) tyok262 <| forall_cons (P := fun p : Nat × TyD => p.2.ok prog p.1) tyok263 <| forall_cons (P := fun p : Nat × TyD => p.2.ok prog p.1) tyok264 <| forall_cons (P := fun p : Nat × TyD => p.2.ok prog p.1) tyok265 <| forall_cons (P := fun p : Nat × TyD => p.2.ok prog p.1) tyok267 <| forall_cons (P := fun p : Nat × TyD => p.2.ok prog p.1) tyok268 <| forall_cons (P := fun p : Nat × TyD => p.2.ok prog p.1) tyok269 <| forall_cons (P := fun p : Nat × TyD => p.2.ok prog p.1) tyok270 <| forall_cons (P := fun p : Nat × TyD => p.2.ok prog p.1) tyok271 <| forall_cons (P := fun p : Nat × TyD => p.2.ok prog p.1) tyok272 <| forall_cons (P := fun p : Nat × TyD => p.2.ok prog p.1) tyok273 <| forall_cons (P := fun p : Nat × TyD => p.2.ok prog p.1) tyok274 <| forall_cons (P := fun p : Nat × TyD => p.2.ok prog p.1) tyok275 <| forall_cons (P := fun p : Nat × TyD => p.2.ok prog p.1) tyok277 <| forall_cons (P := fun p : Nat × TyD => p.2.ok prog p.1) tyok278 <| forall_cons (P := fun p : Nat × TyD => p.2.ok prog p.1) tyok279 <| forall_cons (P := fun p : Nat × TyD => p.2.ok prog p.1) tyok281 <| forall_cons (P := fun p : Nat × TyD => p.2.ok prog p.1) tyok282 <| forall_cons (P := fun p : Nat × TyD => p.2.ok prog p.1) tyok283 <| forall_cons (P := fun p : Nat × TyD => p.2.ok prog p.1) tyok284 <| forall_cons (P := fun p : Nat × TyD => p.2.ok prog p.1) tyok285 <| forall_cons (P := fun p : Nat × TyD => p.2.ok prog p.1) tyok286 <| forall_cons (P := fun p : Nat × TyD => p.2.ok prog p.1) tyok287 <| forall_cons (P := fun p : Nat × TyD => p.2.ok prog p.1) tyok288 <| forall_cons (P := fun p : Nat × TyD => p.2.ok prog p.1) tyok289 <| forall_cons (P := fun p : Nat × TyD => p.2.ok prog p.1) tyok290 <| forall_cons (P := fun p : Nat × TyD => p.2.ok prog p.1) tyok291 <| forall_cons (P := fun p : Nat × TyD => p.2.ok prog p.1) tyok292 <| forall_cons (P := fun p : Nat × TyD => p.2.ok prog p.1) tyok293 <| forall_cons (P := fun p : Nat × TyD => p.2.ok prog p.1) tyok294 <| forall_cons (P := fun p : Nat × TyD => p.2.ok prog p.1) tyok295 <| forall_cons (P := fun p : Nat × TyD => p.2.ok prog p.1) tyok296 <| forall_cons (P := fun p : Nat × TyD => p.2.ok prog p.1) tyok297 <| forall_cons (P := fun p : Nat × TyD => p.2.ok prog p.1) tyok298 <| forall_cons (P := fun p : Nat × TyD => p.2.ok prog p.1) tyok299 <| forall_cons (P := fun p : Nat × TyD => p.2.ok prog p.1) tyok300 <| forall_cons (P := fun p : Nat × TyD => p.2.ok prog p.1) tyok301 <| forall_cons (P := fun p : Nat × TyD => p.2.ok prog p.1) tyok302 <| forall_cons (P := fun p : Nat × TyD => p.2.ok prog p.1) tyok303 <| forall_cons (P := fun p : Nat × TyD => p.2.ok prog p.1) tyok304 <| forall_cons (P := fun p : Nat × TyD => p.2.ok prog p.1) tyok305 <| forall_cons (P := fun p : Nat × TyD => p.2.ok prog p.1) tyok306 <| forall_cons (P := fun p : Nat × TyD => p.2.ok prog p.1) tyok307 <| forall_cons (P := fun p : Nat × TyD => p.2.ok prog p.1) tyok308 <| forall_cons (P := fun p : Nat × TyD => p.2.ok prog p.1) tyok309 <| forall_cons (P := fun p : Nat × TyD => p.2.ok prog p.1) tyok310 <| forall_cons (P := fun p : Nat × TyD => p.2.ok prog p.1) tyok311 <| forall_cons (P := fun p : Nat × TyD => p.2.ok prog p.1) tyok312 <| forall_cons (P := fun p : Nat × TyD => p.2.ok prog p.1) tyok313 <| forall_cons (P := fun p : Nat × TyD => p.2.ok prog p.1) tyok314 <| forall_cons (P := fun p : Nat × TyD => p.2.ok prog p.1) tyok316 <| forall_cons (P := fun p : Nat × TyD => p.2.ok prog p.1) tyok317 <| forall_cons (P := fun p : Nat × TyD => p.2.ok prog p.1) tyok318 <| forall_cons (P := fun p : Nat × TyD => p.2.ok prog p.1) tyok319 <| forall_cons (P := fun p : Nat × TyD => p.2.ok prog p.1) tyok320 <| forall_cons (P := fun p : Nat × TyD => p.2.ok prog p.1) tyok321 <| forall_cons (P := fun p : Nat × TyD => p.2.ok prog p.1) tyok322 <| forall_cons (P := fun p : Nat × TyD => p.2.ok prog p.1) tyok324 <| forall_cons (P := fun p : Nat × TyD => p.2.ok prog p.1) tyok325 <| forall_cons (P := fun p : Nat × TyD => p.2.ok prog p.1) tyok327 <| forall_cons (P := fun p : Nat × TyD => p.2.ok prog p.1) tyok328 <| forall_cons (P := fun p : Nat × TyD => p.2.ok prog p.1) tyok329 <| forall_cons (P := fun p : Nat × TyD => p.2.ok prog p.1) tyok330 <| forall_cons (P := fun p : Nat × TyD => p.2.ok prog p.1) tyok331 <| forall_cons (P := fun p : Nat × TyD => p.2.ok prog p.1) tyok332 <| forall_cons (P := fun p : Nat × TyD => p.2.ok prog p.1) tyok333 <| forall_cons (P := fun p : Nat × TyD => p.2.ok prog p.1) tyok334 <| forall_cons (P := fun p : Nat × TyD => p.2.ok prog p.1) tyok335 <| forall_cons (P := fun p : Nat × TyD => p.2.ok prog p.1) tyok336 <| forall_cons (P := fun p : Nat × TyD => p.2.ok prog p.1) tyok337 <| forall_cons (P := fun p : Nat × TyD => p.2.ok prog p.1) tyok339 <| forall_cons (P := fun p : Nat × TyD => p.2.ok prog p.1) tyok340 <| forall_cons (P := fun p : Nat × TyD => p.2.ok prog p.1) tyok341 <| forall_cons (P := fun p : Nat × TyD => p.2.ok prog p.1) tyok342 <| forall_cons (P := fun p : Nat × TyD => p.2.ok prog p.1) tyok343 <| forall_cons (P := fun p : Nat × TyD => p.2.ok prog p.1) tyok344 <| forall_cons (P := fun p : Nat × TyD => p.2.ok prog p.1) tyok345 <| forall_cons (P := fun p : Nat × TyD => p.2.ok prog p.1) tyok346 <| forall_cons (P := fun p : Nat × TyD => p.2.ok prog p.1) tyok347 <| forall_cons (P := fun p : Nat × TyD => p.2.ok prog p.1) tyok348 <| forall_cons (P := fun p : Nat × TyD => p.2.ok prog p.1) tyok349 <| forall_cons (P := fun p : Nat × TyD => p.2.ok prog p.1) tyok350 <| forall_cons (P := fun p : Nat × TyD => p.2.ok prog p.1) tyok351 <| forall_cons (P := fun p : Nat × TyD => p.2.ok prog p.1) tyok353 <| forall_cons (P := fun p : Nat × TyD => p.2.ok prog p.1) tyok354 <| forall_cons (P := fun p : Nat × TyD => p.2.ok prog p.1) tyok355 <| forall_cons (P := fun p : Nat × TyD => p.2.ok prog p.1) tyok356 <| forall_cons (P := fun p : Nat × TyD => p.2.ok prog p.1) tyok357 <| forall_cons (P := fun p : Nat × TyD => p.2.ok prog p.1) tyok358 <| forall_cons (P := fun p : Nat × TyD => p.2.ok prog p.1) tyok359 <| forall_cons (P := fun p : Nat × TyD => p.2.ok prog p.1) tyok360 <| forall_cons (P := fun p : Nat × TyD => p.2.ok prog p.1) tyok361 <| forall_cons (P := fun p : Nat × TyD => p.2.ok prog p.1) tyok362 <| forall_cons (P := fun p : Nat × TyD => p.2.ok prog p.1) tyok363 <| forall_cons (P := fun p : Nat × TyD => p.2.ok prog p.1) tyok364 <| forall_cons (P := fun p : Nat × TyD => p.2.ok prog p.1) tyok365 <| forall_cons (P := fun p : Nat × TyD => p.2.ok prog p.1) tyok366 <| forall_cons (P := fun p : Nat × TyD => p.2.ok prog p.1) tyok367 <| forall_cons (P := fun p : Nat × TyD => p.2.ok prog p.1) tyok368 <| forall_cons (P := fun p : Nat × TyD => p.2.ok prog p.1) tyok369 <| forall_cons (P := fun p : Nat × TyD => p.2.ok prog p.1) tyok370 <| forall_cons (P := fun p : Nat × TyD => p.2.ok prog p.1) tyok371 <| forall_cons (P := fun p : Nat × TyD => p.2.ok prog p.1) tyok372 <| forall_cons (P := fun p : Nat × TyD => p.2.ok prog p.1) tyok373 <| forall_cons (P := fun p : Nat × TyD => p.2.ok prog p.1) tyok375 <| forall_cons (P := fun p : Nat × TyD => p.2.ok prog p.1) tyok376 <| forall_cons (P := fun p : Nat × TyD => p.2.ok prog p.1) tyok377 <| forall_cons (P := fun p : Nat × TyD => p.2.ok prog p.1) tyok378 <| forall_cons (P := fun p : Nat × TyD => p.2.ok prog p.1) tyok379 <| forall_cons (P := fun p : Nat × TyD => p.2.ok prog p.1) tyok380 <| forall_cons (P := fun p : Nat × TyD => p.2.ok prog p.1) tyok381 <| forall_cons (P := fun p : Nat × TyD => p.2.ok prog p.1) tyok382 <| forall_cons (P := fun p : Nat × TyD => p.2.ok prog p.1) tyok383 <| forall_cons (P := fun p : Nat × TyD => p.2.ok prog p.1) tyok384 <| forall_cons (P := fun p : Nat × TyD => p.2.ok prog p.1) tyok385 <| forall_cons (P := fun p : Nat × TyD => p.2.ok prog p.1) tyok386 <| forall_cons (P := fun p : Nat × TyD => p.2.ok prog p.1) tyok387 <| forall_cons (P := fun p : Nat × TyD => p.2.ok prog p.1) tyok388 <| forall_cons (P := fun p : Nat × TyD => p.2.ok prog p.1) tyok389 <| forall_cons (P := fun p : Nat × TyD => p.2.ok prog p.1) tyok390 <| forall_cons (P := fun p : Nat × TyD => p.2.ok prog p.1) tyok391 <| forall_cons (P := fun p : Nat × TyD => p.2.ok prog p.1) tyok392 <| forall_cons (P := fun p : Nat × TyD => p.2.ok prog p.1) tyok393 <| forall_cons (P := fun p : Nat × TyD => p.2.ok prog p.1) tyok394 <| forall_cons (P := fun p : Nat × TyD => p.2.ok prog p.1) tyok395 <| forall_cons (P := fun p : Nat × TyD => p.2.ok prog p.1) tyok396 <| forall_cons (P := fun p : Nat × TyD => p.2.ok prog p.1) tyok398 <| forall_cons (P := fun p : Nat × TyD => p.2.ok prog p.1) tyok399 <| forall_cons (P := fun p : Nat × TyD => p.2.ok prog p.1) tyok400 <| forall_cons (P := fun p : Nat × TyD => p.2.ok prog p.1) tyok401 <| forall_cons (P := fun p : Nat × TyD => p.2.ok prog p.1) tyok402 <| forall_cons (P := fun p : Nat × TyD => p.2.ok prog p.1) tyok403 <| forall_cons (P := fun p : Nat × TyD => p.2.ok prog p.1) tyok404 <| forall_cons (P := fun p : Nat × TyD => p.2.ok prog p.1) tyok405 <| forall_cons (P := fun p : Nat × TyD => p.2.ok prog p.1) tyok406 <| forall_cons (P := fun p : Nat × TyD => p.2.ok prog p.1) tyok407 <| forall_cons (P := fun p : Nat × TyD => p.2.ok prog p.1) tyok408 <| forall_cons (P := fun p : Nat × TyD => p.2.ok prog p.1) tyok409 <| forall_cons (P := fun p : Nat × TyD => p.2.ok prog p.1) tyok410 <| forall_cons (P := fun p : Nat × TyD => p.2.ok prog p.1) tyok411 <| forall_cons (P := fun p : Nat × TyD => p.2.ok prog p.1) tyok412 <| forall_cons (P := fun p : Nat × TyD => p.2.ok prog p.1) tyok413 <| forall_cons (P := fun p : Nat × TyD => p.2.ok prog p.1) tyok414 <| forall_cons (P := fun p : Nat × TyD => p.2.ok prog p.1) tyok415 <| forall_cons (P := fun p : Nat × TyD => p.2.ok prog p.1) tyok416 <| forall_cons (P := fun p : Nat × TyD => p.2.ok prog p.1) tyok417 <| forall_cons (P := fun p : Nat × TyD => p.2.ok prog p.1) tyok418 <| forall_cons (P := fun p : Nat × TyD => p.2.ok prog p.1) tyok419 <| forall_cons (P := fun p : Nat × TyD => p.2.ok prog p.1) tyok421 <| forall_cons (P := fun p : Nat × TyD => p.2.ok prog p.1) tyok422 <| forall_cons (P := fun p : Nat × TyD => p.2.ok prog p.1) tyok424 <| forall_cons (P := fun p : Nat × TyD => p.2.ok prog p.1) tyok427 <| forall_cons (P := fun p : Nat × TyD => p.2.ok prog p.1) tyok428 <| forall_cons (P := fun p : Nat × TyD => p.2.ok prog p.1) tyok431 <| forall_nil)
@[simp] theorem tyE1 : tyOf tyTab 1 = some ⟨.func, 1, [.nilFunc], 8⟩ := by as_aux_lemma => kernel_rfl
@[simp] theorem tyE2 : tyOf tyTab 2 = some ⟨.int .i64, 1, [.int .i64 0], 8⟩ := by as_aux_lemma => kernel_rfl
@[simp] theorem tyE3 : tyOf tyTab 3 = some ⟨.int .i64, 1, [.int .i64 0], 8⟩ := by as_aux_lemma => kernel_rfl
@[simp] theorem tyE4 : tyOf tyTab 4 = some ⟨.bool, 1, [.bool false], 1⟩ := by as_aux_lemma => kernel_rfl
@[simp] theorem tyE5 : tyOf tyTab 5 = some ⟨.int .u8, 1, [.int .u8 0], 1⟩ := by as_aux_lemma => kernel_rfl
@[simp] theorem tyE7 : tyOf tyTab 7 = some ⟨.agg [(0, 2), (1, 3), (2, 4), (3, 6)], 4, [.int .i64 0, .int .i64 0, .bool false, .int .u8 0], 24⟩ := by as_aux_lemma => kernel_rfl
@[simp] theorem tyE9 : tyOf tyTab 9 = some ⟨.str, 1, [.string ⟨#[]⟩], 16⟩ := by as_aux_lemma => kernel_rfl
@[simp] theorem tyE12 : tyOf tyTab 12 = some ⟨.int .u64, 1, [.int .u64 0], 8⟩ := by as_aux_lemma => kernel_rfl
@[simp] theorem tyE13 : tyOf tyTab 13 = some ⟨.agg [(0, 9), (1, 12)], 2, [.string ⟨#[]⟩, .int .u64 0], 24⟩ := by as_aux_lemma => kernel_rfl
@[simp] theorem tyE18 : tyOf tyTab 18 = some ⟨.agg [(0, 17)], 1, [.pointer none], 8⟩ := by as_aux_lemma => kernel_rfl
@[simp] theorem tyE20 : tyOf tyTab 20 = some ⟨.iface true, 1, [.nilIface], 16⟩ := by as_aux_lemma => kernel_rfl
@[simp] theorem tyE21 : tyOf tyTab 21 = some ⟨.int .i32, 1, [.int .i32 0], 4⟩ := by as_aux_lemma => kernel_rfl
@[simp] theorem tyE22 : tyOf tyTab 22 = some ⟨.sl 9, 1, [.slice none 0 0], 24⟩ := by as_aux_lemma => kernel_rfl
@[simp] theorem tyE23 : tyOf tyTab 23 = some ⟨.sl 107, 1, [.slice none 0 0], 24⟩ := by as_aux_lemma => kernel_rfl
@[simp] theorem tyE24 : tyOf tyTab 24 = some ⟨.agg [(0, 22), (1, 23)], 2, [.slice none 0 0, .slice none 0 0], 48⟩ := by as_aux_lemma => kernel_rfl
@[simp] theorem tyE25 : tyOf tyTab 25 = some ⟨.agg [(0, 22), (1, 23)], 2, [.slice none 0 0, .slice none 0 0], 48⟩ := by as_aux_lemma => kernel_rfl
@[simp] theorem tyE26 : tyOf tyTab 26 = some ⟨.agg [(0, 3), (1, 3), (2, 3)], 3, [.int .i64 0, .int .i64 0, .int .i64 0], 24⟩ := by as_aux_lemma => kernel_rfl
@[simp] theorem tyE27 : tyOf tyTab 27 = some ⟨.agg [(0, 3), (1, 3), (2, 3)], 3, [.int .i64 0, .int .i64 0, .int .i64 0], 24⟩ := by as_aux_lemma => kernel_rfl
@[simp] theorem tyE28 : tyOf tyTab 28 = some ⟨.int .i64, 1, [.int .i64 0], 8⟩ := by as_aux_lemma => kernel_rfl
@[simp] theorem tyE30 : tyOf tyTab 30 = some ⟨.func, 1, [.nilFunc], 8⟩ := by as_aux_lemma => kernel_rfl
@[simp] theorem tyE32 : tyOf tyTab 32 = some ⟨.func, 1, [.nilFunc], 8⟩ := by as_aux_lemma => kernel_rfl
@[simp] theorem tyE33 : tyOf tyTab 33 = some ⟨.func, 1, [.nilFunc], 8⟩ := by as_aux_lemma => kernel_rfl
@[simp] theorem tyE34 : tyOf tyTab 34 = some ⟨.func, 1, [.nilFunc], 8⟩ := by as_aux_lemma => kernel_rfl
@[simp] theorem tyE35 : tyOf tyTab 35 = some ⟨.sl 53, 1, [.slice none 0 0], 24⟩ := by as_aux_lemma => kernel_rfl
@[simp] theorem tyE36 : tyOf tyTab 36 = some ⟨.agg [(0, 3), (1, 3), (2, 3)], 3, [.int .i64 0, .int .i64 0, .int .i64 0], 24⟩ := by as_aux_lemma => kernel_rfl
@[simp] theorem tyE37 : tyOf tyTab 37 = some ⟨.agg [(0, 3), (1, 3), (2, 3)], 3, [.int .i64 0, .int .i64 0, .int .i64 0], 24⟩ := by as_aux_lemma => kernel_rfl
@[simp] theorem tyE38 : tyOf tyTab 38 = some ⟨.agg [(0, 3), (1, 37), (4, 3), (5, 3)], 6, [.int .i64 0, .int .i64 0, .int .i64 0, .int .i64 0, .int .i64 0, .int .i64 0], 48⟩ := by as_aux_lemma => kernel_rfl
@[simp] theorem tyE39 : tyOf tyTab 39 = some ⟨.agg [(0, 3), (1, 37), (4, 3), (5, 3)], 6, [.int .i64 0, .int .i64 0, .int .i64 0, .int .i64 0, .int .i64 0, .int .i64 0], 48⟩ := by as_aux_lemma => kernel_rfl
@[simp] theorem tyE40 : tyOf tyTab 40 = some ⟨.func, 1, [.nilFunc], 8⟩ := by as_aux_lemma => kernel_rfl
@[simp] theorem tyE41 : tyOf tyTab 41 = some ⟨.agg [(0, 4), (1, 4), (2, 3), (3, 3)], 4, [.bool false, .bool false, .int .i64 0, .int .i64 0], 24⟩ := by as_aux_lemma => kernel_rfl
@[simp] theorem tyE42 : tyOf tyTab 42 = some ⟨.agg [(0, 4), (1, 4), (2, 3), (3, 3)], 4, [.bool false, .bool false, .int .i64 0, .int .i64 0], 24⟩ := by as_aux_lemma => kernel_rfl
@[simp] theorem tyE44 : tyOf tyTab 44 = some ⟨.func, 1, [.nilFunc], 8⟩ := by as_aux_lemma => kernel_rfl
@[simp] theorem tyE45 : tyOf tyTab 45 = some ⟨.func, 1, [.nilFunc], 8⟩ := by as_aux_lemma => kernel_rfl
@[simp] theorem tyE46 : tyOf tyTab 46 = some ⟨.func, 1, [.nilFunc], 8⟩ := by as_aux_lemma => kernel_rfl
@[simp] theorem tyE47 : tyOf tyTab 47 = some ⟨.func, 1, [.nilFunc], 8⟩ := by as_aux_lemma => kernel_rfl
@[simp] theorem tyE48 : tyOf tyTab 48 = some ⟨.func, 1, [.nilFunc], 8⟩ := by as_aux_lemma => kernel_rfl
@[simp] theorem tyE49 : tyOf tyTab 49 = some ⟨.func, 1, [.nilFunc], 8⟩ := by as_aux_lemma => kernel_rfl
@[simp] theorem tyE50 : tyOf tyTab 50 = some ⟨.func, 1, [.nilFunc], 8⟩ := by as_aux_lemma => kernel_rfl
@[simp] theorem tyE51 : tyOf tyTab 51 = some ⟨.int .i64, 1, [.int .i64 0], 8⟩ := by as_aux_lemma => kernel_rfl
@[simp] theorem tyE52 : tyOf tyTab 52 = some ⟨.agg [(0, 51), (1, 3), (2, 3), (3, 3), (4, 27)], 7, [.int .i64 0, .int .i64 0, .int .i64 0, .int .i64 0, .int .i64 0, .int .i64 0, .int .i64 0], 56⟩ := by as_aux_lemma => kernel_rfl
@[simp] theorem tyE53 : tyOf tyTab 53 = some ⟨.agg [(0, 51), (1, 3), (2, 3), (3, 3), (4, 27)], 7, [.int .i64 0, .int .i64 0, .int .i64 0, .int .i64 0, .int .i64 0, .int .i64 0, .int .i64 0], 56⟩ := by as_aux_lemma => kernel_rfl
@[simp] theorem tyE54 : tyOf tyTab 54 = some ⟨.func, 1, [.nilFunc], 8⟩ := by as_aux_lemma => kernel_rfl
@[simp] theorem tyE55 : tyOf tyTab 55 = some ⟨.func, 1, [.nilFunc], 8⟩ := by as_aux_lemma => kernel_rfl
@[simp] theorem tyE56 : tyOf tyTab 56 = some ⟨.func, 1, [.nilFunc], 8⟩ := by as_aux_lemma => kernel_rfl
@[simp] theorem tyE57 : tyOf tyTab 57 = some ⟨.func, 1, [.nilFunc], 8⟩ := by as_aux_lemma => kernel_rfl
@[simp] theorem tyE58 : tyOf tyTab 58 = some ⟨.int .i64, 1, [.int .i64 0], 8⟩ := by as_aux_lemma => kernel_rfl
@[simp] theorem tyE59 : tyOf tyTab 59 = some ⟨.sl 63, 1, [.slice none 0 0], 24⟩ := by as_aux_lemma => kernel_rfl
@[simp] theorem tyE61 : tyOf tyTab 61 = some ⟨.func, 1, [.nilFunc], 8⟩ := by as_aux_lemma => kernel_rfl
@[simp] theorem tyE62 : tyOf tyTab 62 = some ⟨.agg [(0, 3), (1, 3), (2, 27)], 5, [.int .i64 0, .int .i64 0, .int .i64 0, .int .i64 0, .int .i64 0], 40⟩ := by as_aux_lemma => kernel_rfl
@[simp] theorem tyE63 : tyOf tyTab 63 = some ⟨.agg [(0, 3), (1, 3), (2, 27)], 5, [.int .i64 0, .int .i64 0, .int .i64 0, .int .i64 0, .int .i64 0], 40⟩ := by as_aux_lemma => kernel_rfl
@[simp] theorem tyE64 : tyOf tyTab 64 = some ⟨.int .i64, 1, [.int .i64 0], 8⟩ := by as_aux_lemma => kernel_rfl
@[simp] theorem tyE66 : tyOf tyTab 66 = some ⟨.func, 1, [.nilFunc], 8⟩ := by as_aux_lemma => kernel_rfl
@[simp] theorem tyE67 : tyOf tyTab 67 = some ⟨.func, 1, [.nilFunc], 8⟩ := by as_aux_lemma => kernel_rfl
@[simp] theorem tyE68 : tyOf tyTab 68 = some ⟨.sl 135, 1, [.slice none 0 0], 24⟩ := by as_aux_lemma => kernel_rfl
@[simp] theorem tyE69 : tyOf tyTab 69 = some ⟨.agg [(0, 3), (1, 3), (2, 58), (3, 68)], 4, [.int .i64 0, .int .i64 0, .int .i64 0, .slice none 0 0], 48⟩ := by as_aux_lemma => kernel_rfl
@[simp] theorem tyE70 : tyOf tyTab 70 = some ⟨.agg [(0, 3), (1, 3), (2, 58), (3, 68)], 4, [.int .i64 0, .int .i64 0, .int .i64 0, .slice none 0 0], 48⟩ := by as_aux_lemma => kernel_rfl
@[simp] theorem tyE71 : tyOf tyTab 71 = some ⟨.agg [(0, 70), (4, 3), (5, 3), (6, 3)], 7, [.int .i64 0, .int .i64 0, .int .i64 0, .slice none 0 0, .int .i64 0, .int .i64 0, .int .i64 0], 72⟩ := by as_aux_lemma => kernel_rfl
@[simp] theorem tyE72 : tyOf tyTab 72 = some ⟨.agg [(0, 70), (4, 3), (5, 3), (6, 3)], 7, [.int .i64 0, .int .i64 0, .int .i64 0, .slice none 0 0, .int .i64 0, .int .i64 0, .int .i64 0], 72⟩ := by as_aux_lemma => kernel_rfl
@[simp] theorem tyE74 : tyOf tyTab 74 = some ⟨.func, 1, [.nilFunc], 8⟩ := by as_aux_lemma => kernel_rfl
@[simp] theorem tyE75 : tyOf tyTab 75 = some ⟨.func, 1, [.nilFunc], 8⟩ := by as_aux_lemma => kernel_rfl
@[simp] theorem tyE76 : tyOf tyTab 76 = some ⟨.func, 1, [.nilFunc], 8⟩ := by as_aux_lemma => kernel_rfl
@[simp] theorem tyE77 : tyOf tyTab 77 = some ⟨.func, 1, [.nilFunc], 8⟩ := by as_aux_lemma => kernel_rfl
@[simp] theorem tyE78 : tyOf tyTab 78 = some ⟨.func, 1, [.nilFunc], 8⟩ := by as_aux_lemma => kernel_rfl
@[simp] theorem tyE79 : tyOf tyTab 79 = some ⟨.func, 1, [.nilFunc], 8⟩ := by as_aux_lemma => kernel_rfl
@[simp] theorem tyE80 : tyOf tyTab 80 = some ⟨.func, 1, [.nilFunc], 8⟩ := by as_aux_lemma => kernel_rfl
@[simp] theorem tyE81 : tyOf tyTab 81 = some ⟨.func, 1, [.nilFunc], 8⟩ := by as_aux_lemma => kernel_rfl
@[simp] theorem tyE83 : tyOf tyTab 83 = some ⟨.func, 1, [.nilFunc], 8⟩ := by as_aux_lemma => kernel_rfl
@[simp] theorem tyE84 : tyOf tyTab 84 = some ⟨.func, 1, [.nilFunc], 8⟩ := by as_aux_lemma => kernel_rfl
@[simp] theorem tyE86 : tyOf tyTab 86 = some ⟨.func, 1, [.nilFunc], 8⟩ := by as_aux_lemma => kernel_rfl
@[simp] theorem tyE87 : tyOf tyTab 87 = some ⟨.func, 1, [.nilFunc], 8⟩ := by as_aux_lemma => kernel_rfl
@[simp] theorem tyE88 : tyOf tyTab 88 = some ⟨.func, 1, [.nilFunc], 8⟩ := by as_aux_lemma => kernel_rfl
@[simp] theorem tyE89 : tyOf tyTab 89 = some ⟨.sl 3, 1, [.slice none 0 0], 24⟩ := by as_aux_lemma => kernel_rfl
@[simp] theorem tyE90 : tyOf tyTab 90 = some ⟨.func, 1, [.nilFunc], 8⟩ := by as_aux_lemma => kernel_rfl
@[simp] theorem tyE91 : tyOf tyTab 91 = some ⟨.func, 1, [.nilFunc], 8⟩ := by as_aux_lemma => kernel_rfl
@[simp] theorem tyE92 : tyOf tyTab 92 = some ⟨.func, 1, [.nilFunc], 8⟩ := by as_aux_lemma => kernel_rfl
@[simp] theorem tyE93 : tyOf tyTab 93 = some ⟨.agg [(0, 3), (1, 3), (2, 58), (3, 68)], 4, [.int .i64 0, .int .i64 0, .int .i64 0, .slice none 0 0], 48⟩ := by as_aux_lemma => kernel_rfl
@[simp] theorem tyE94 : tyOf tyTab 94 = some ⟨.agg [(0, 3), (1, 3), (2, 58), (3, 68)], 4, [.int .i64 0, .int .i64 0, .int .i64 0, .slice none 0 0], 48⟩ := by as_aux_lemma => kernel_rfl
@[simp] theorem tyE96 : tyOf tyTab 96 = some ⟨.func, 1, [.nilFunc], 8⟩ := by as_aux_lemma => kernel_rfl
@[simp] theorem tyE98 : tyOf tyTab 98 = some ⟨.func, 1, [.nilFunc], 8⟩ := by as_aux_lemma => kernel_rfl
@[simp] theorem tyE99 : tyOf tyTab 99 = some ⟨.func, 1, [.nilFunc], 8⟩ := by as_aux_lemma => kernel_rfl
@[simp] theorem tyE100 : tyOf tyTab 100 = some ⟨.func, 1, [.nilFunc], 8⟩ := by as_aux_lemma => kernel_rfl
@[simp] theorem tyE101 : tyOf tyTab 101 = some ⟨.func, 1, [.nilFunc], 8⟩ := by as_aux_lemma => kernel_rfl
@[simp] theorem tyE102 : tyOf tyTab 102 = some ⟨.int .i64, 1, [.int .i64 0], 8⟩ := by as_aux_lemma => kernel_rfl
@[simp] theorem tyE103 : tyOf tyTab 103 = some ⟨.sl 105, 1, [.slice none 0 0], 24⟩ := by as_aux_lemma => kernel_rfl
@[simp] theorem tyE104 : tyOf tyTab 104 = some ⟨.agg [(0, 102), (1, 9), (2, 3), (3, 58), (4, 68), (5, 103)], 6, [.int .i64 0, .string ⟨#[]⟩, .int .i64 0, .int .i64 0, .slice none 0 0, .slice none 0 0], 88⟩ := by as_aux_lemma => kernel_rfl
@[simp] theorem tyE105 : tyOf tyTab 105 = some ⟨.agg [(0, 102), (1, 9), (2, 3), (3, 58), (4, 68), (5, 103)], 6, [.int .i64 0, .string ⟨#[]⟩, .int .i64 0, .int .i64 0, .slice none 0 0, .slice none 0 0], 88⟩ := by as_aux_lemma => kernel_rfl
@[simp] theorem tyE106 : tyOf tyTab 106 = some ⟨.agg [(0, 9), (1, 105)], 7, [.string ⟨#[]⟩, .int .i64 0, .string ⟨#[]⟩, .int .i64 0, .int .i64 0, .slice none 0 0, .slice none 0 0], 104⟩ := by as_aux_lemma => kernel_rfl
@[simp] theorem tyE107 : tyOf tyTab 107 = some ⟨.agg [(0, 9), (1, 105)], 7, [.string ⟨#[]⟩, .int .i64 0, .string ⟨#[]⟩, .int .i64 0, .int .i64 0, .slice none 0 0, .slice none 0 0], 104⟩ := by as_aux_lemma => kernel_rfl
@[simp] theorem tyE108 : tyOf tyTab 108 = some ⟨.func, 1, [.nilFunc], 8⟩ := by as_aux_lemma => kernel_rfl
@[simp] theorem tyE109 : tyOf tyTab 109 = some ⟨.func, 1, [.nilFunc], 8⟩ := by as_aux_lemma => kernel_rfl
@[simp] theorem tyE110 : tyOf tyTab 110 = some ⟨.func, 1, [.nilFunc], 8⟩ := by as_aux_lemma => kernel_rfl
@[simp] theorem tyE111 : tyOf tyTab 111 = some ⟨.func, 1, [.nilFunc], 8⟩ := by as_aux_lemma => kernel_rfl
@[simp] theorem tyE112 : tyOf tyTab 112 = some ⟨.func, 1, [.nilFunc], 8⟩ := by as_aux_lemma => kernel_rfl
@[simp] theorem tyE113 : tyOf tyTab 113 = some ⟨.func, 1, [.nilFunc], 8⟩ := by as_aux_lemma => kernel_rfl
@[simp] theorem tyE114 : tyOf tyTab 114 = some ⟨.ptr 177, 1, [.pointer none], 8⟩ := by as_aux_lemma => kernel_rfl
@[simp] theorem tyE116 : tyOf tyTab 116 = some ⟨.func, 1, [.nilFunc], 8⟩ := by as_aux_lemma => kernel_rfl
@[simp] theorem tyE117 : tyOf tyTab 117 = some ⟨.ptr 122, 1, [.pointer none], 8⟩ := by as_aux_lemma => kernel_rfl
@[simp] theorem tyE118 : tyOf tyTab 118 = some ⟨.func, 1, [.nilFunc], 8⟩ := by as_aux_lemma => kernel_rfl
@[simp] theorem tyE119 : tyOf tyTab 119 = some ⟨.agg [(0, 3), (1, 3), (2, 3)], 3, [.int .i64 0, .int .i64 0, .int .i64 0], 24⟩ := by as_aux_lemma => kernel_rfl
@[simp] theorem tyE120 : tyOf tyTab 120 = some ⟨.agg [(0, 3), (1, 3), (2, 3)], 3, [.int .i64 0, .int .i64 0, .int .i64 0], 24⟩ := by as_aux_lemma => kernel_rfl
@[simp] theorem tyE121 : tyOf tyTab 121 = some ⟨.agg [(0, 42), (4, 120), (7, 120), (10, 120)], 13, [.bool false, .bool false, .int .i64 0, .int .i64 0, .int .i64 0, .int .i64 0, .int .i64 0, .int .i64 0, .int .i64 0, .int .i64 0, .int .i64 0, .int .i64 0, .int .i64 0], 96⟩ := by as_aux_lemma => kernel_rfl
@[simp] theorem tyE122 : tyOf tyTab 122 = some ⟨.agg [(0, 42), (4, 120), (7, 120), (10, 120)], 13, [.bool false, .bool false, .int .i64 0, .int .i64 0, .int .i64 0, .int .i64 0, .int .i64 0, .int .i64 0, .int .i64 0, .int .i64 0, .int .i64 0, .int .i64 0, .int .i64 0], 96⟩ := by as_aux_lemma => kernel_rfl
@[simp] theorem tyE123 : tyOf tyTab 123 = some ⟨.func, 1, [.nilFunc], 8⟩ := by as_aux_lemma => kernel_rfl
@[simp] theorem tyE124 : tyOf tyTab 124 = some ⟨.func, 1, [.nilFunc], 8⟩ := by as_aux_lemma => kernel_rfl
@[simp] theorem tyE125 : tyOf tyTab 125 = some ⟨.func, 1, [.nilFunc], 8⟩ := by as_aux_lemma => kernel_rfl
@[simp] theorem tyE127 : tyOf tyTab 127 = some ⟨.func, 1, [.nilFunc], 8⟩ := by as_aux_lemma => kernel_rfl
@[simp] theorem tyE129 : tyOf tyTab 129 = some ⟨.func, 1, [.nilFunc], 8⟩ := by as_aux_lemma => kernel_rfl
@[simp] theorem tyE131 : tyOf tyTab 131 = some ⟨.func, 1, [.nilFunc], 8⟩ := by as_aux_lemma => kernel_rfl
@[simp] theorem tyE132 : tyOf tyTab 132 = some ⟨.func, 1, [.nilFunc], 8⟩ := by as_aux_lemma => kernel_rfl
@[simp] theorem tyE133 : tyOf tyTab 133 = some ⟨.int .i64, 1, [.int .i64 0], 8⟩ := by as_aux_lemma => kernel_rfl
@[simp] theorem tyE134 : tyOf tyTab 134 = some ⟨.agg [(0, 133), (1, 3), (2, 68)], 3, [.int .i64 0, .int .i64 0, .slice none 0 0], 40⟩ := by as_aux_lemma => kernel_rfl
@[simp] theorem tyE135 : tyOf tyTab 135 = some ⟨.agg [(0, 133), (1, 3), (2, 68)], 3, [.int .i64 0, .int .i64 0, .slice none 0 0], 40⟩ := by as_aux_lemma => kernel_rfl
@[simp] theorem tyE136 : tyOf tyTab 136 = some ⟨.func, 1, [.nilFunc], 8⟩ := by as_aux_lemma => kernel_rfl
@[simp] theorem tyE137 : tyOf tyTab 137 = some ⟨.ptr 206, 1, [.pointer none], 8⟩ := by as_aux_lemma => kernel_rfl
@[simp] theorem tyE138 : tyOf tyTab 138 = some ⟨.func, 1, [.nilFunc], 8⟩ := by as_aux_lemma => kernel_rfl
@[simp] theorem tyE139 : tyOf tyTab 139 = some ⟨.map 9 9, 1, [.map none], 8⟩ := by as_aux_lemma => kernel_rfl
@[simp] theorem tyE140 : tyOf tyTab 140 = some ⟨.func, 1, [.nilFunc], 8⟩ := by as_aux_lemma => kernel_rfl
@[simp] theorem tyE141 : tyOf tyTab 141 = some ⟨.func, 1, [.nilFunc], 8⟩ := by as_aux_lemma => kernel_rfl
@[simp] theorem tyE142 : tyOf tyTab 142 = some ⟨.func, 1, [.nilFunc], 8⟩ := by as_aux_lemma => kernel_rfl
@[simp] theorem tyE143 : tyOf tyTab 143 = some ⟨.func, 1, [.nilFunc], 8⟩ := by as_aux_lemma => kernel_rfl
@[simp] theorem tyE144 : tyOf tyTab 144 = some ⟨.func, 1, [.nilFunc], 8⟩ := by as_aux_lemma => kernel_rfl
@[simp] theorem tyE145 : tyOf tyTab 145 = some ⟨.sl 154, 1, [.slice none 0 0], 24⟩ := by as_aux_lemma => kernel_rfl
@[simp] theorem tyE147 : tyOf tyTab 147 = some ⟨.func, 1, [.nilFunc], 8⟩ := by as_aux_lemma => kernel_rfl
@[simp] theorem tyE148 : tyOf tyTab 148 = some ⟨.func, 1, [.nilFunc], 8⟩ := by as_aux_lemma => kernel_rfl
@[simp] theorem tyE150 : tyOf tyTab 150 = some ⟨.func, 1, [.nilFunc], 8⟩ := by as_aux_lemma => kernel_rfl
@[simp] theorem tyE152 : tyOf tyTab 152 = some ⟨.func, 1, [.nilFunc], 8⟩ := by as_aux_lemma => kernel_rfl
@[simp] theorem tyE153 : tyOf tyTab 153 = some ⟨.sl 156, 1, [.slice none 0 0], 24⟩ := by as_aux_lemma => kernel_rfl
@[simp] theorem tyE154 : tyOf tyTab 154 = some ⟨.sl 156, 1, [.slice none 0 0], 24⟩ := by as_aux_lemma => kernel_rfl
@[simp] theorem tyE155 : tyOf tyTab 155 = some ⟨.agg [(0, 27), (3, 3)], 4, [.int .i64 0, .int .i64 0, .int .i64 0, .int .i64 0], 32⟩ := by as_aux_lemma => kernel_rfl
@[simp] theorem tyE156 : tyOf tyTab 156 = some ⟨.agg [(0, 27), (3, 3)], 4, [.int .i64 0, .int .i64 0, .int .i64 0, .int .i64 0], 32⟩ := by as_aux_lemma => kernel_rfl
@[simp] theorem tyE157 : tyOf tyTab 157 = some ⟨.func, 1, [.nilFunc], 8⟩ := by as_aux_lemma => kernel_rfl
@[simp] theorem tyE158 : tyOf tyTab 158 = some ⟨.agg [], 0, [], 0⟩ := by as_aux_lemma => kernel_rfl
@[simp] theorem tyE159 : tyOf tyTab 159 = some ⟨.agg [], 0, [], 0⟩ := by as_aux_lemma => kernel_rfl
@[simp] theorem tyE161 : tyOf tyTab 161 = some ⟨.func, 1, [.nilFunc], 8⟩ := by as_aux_lemma => kernel_rfl
@[simp] theorem tyE162 : tyOf tyTab 162 = some ⟨.func, 1, [.nilFunc], 8⟩ := by as_aux_lemma => kernel_rfl
@[simp] theorem tyE163 : tyOf tyTab 163 = some ⟨.func, 1, [.nilFunc], 8⟩ := by as_aux_lemma => kernel_rfl
@[simp] theorem tyE164 : tyOf tyTab 164 = some ⟨.func, 1, [.nilFunc], 8⟩ := by as_aux_lemma => kernel_rfl
@[simp] theorem tyE166 : tyOf tyTab 166 = some ⟨.func, 1, [.nilFunc], 8⟩ := by as_aux_lemma => kernel_rfl
@[simp] theorem tyE167 : tyOf tyTab 167 = some ⟨.func, 1, [.nilFunc], 8⟩ := by as_aux_lemma => kernel_rfl
@[simp] theorem tyE168 : tyOf tyTab 168 = some ⟨.func, 1, [.nilFunc], 8⟩ := by as_aux_lemma => kernel_rfl
@[simp] theorem tyE169 : tyOf tyTab 169 = some ⟨.func, 1, [.nilFunc], 8⟩ := by as_aux_lemma => kernel_rfl
@[simp] theorem tyE170 : tyOf tyTab 170 = some ⟨.func, 1, [.nilFunc], 8⟩ := by as_aux_lemma => kernel_rfl
@[simp] theorem tyE171 : tyOf tyTab 171 = some ⟨.func, 1, [.nilFunc], 8⟩ := by as_aux_lemma => kernel_rfl
@[simp] theorem tyE172 : tyOf tyTab 172 = some ⟨.func, 1, [.nilFunc], 8⟩ := by as_aux_lemma => kernel_rfl
@[simp] theorem tyE173 : tyOf tyTab 173 = some ⟨.func, 1, [.nilFunc], 8⟩ := by as_aux_lemma => kernel_rfl
@[simp] theorem tyE174 : tyOf tyTab 174 = some ⟨.map 3 3, 1, [.map none], 8⟩ := by as_aux_lemma => kernel_rfl
@[simp] theorem tyE175 : tyOf tyTab 175 = some ⟨.sl 181, 1, [.slice none 0 0], 24⟩ := by as_aux_lemma => kernel_rfl
@[simp] theorem tyE176 : tyOf tyTab 176 = some ⟨.agg [(0, 94), (4, 37), (7, 89), (8, 175), (9, 4), (10, 27), (13, 27), (16, 174)], 17, [.int .i64 0, .int .i64 0, .int .i64 0, .slice none 0 0, .int .i64 0, .int .i64 0, .int .i64 0, .slice none 0 0, .slice none 0 0, .bool false, .int .i64 0, .int .i64 0, .int .i64 0, .int .i64 0, .int .i64 0, .int .i64 0, .map none], 184⟩ := by as_aux_lemma => kernel_rfl
@[simp] theorem tyE177 : tyOf tyTab 177 = some ⟨.agg [(0, 94), (4, 37), (7, 89), (8, 175), (9, 4), (10, 27), (13, 27), (16, 174)], 17, [.int .i64 0, .int .i64 0, .int .i64 0, .slice none 0 0, .int .i64 0, .int .i64 0, .int .i64 0, .slice none 0 0, .slice none 0 0, .bool false, .int .i64 0, .int .i64 0, .int .i64 0, .int .i64 0, .int .i64 0, .int .i64 0, .map none], 184⟩ := by as_aux_lemma => kernel_rfl
@[simp] theorem tyE179 : tyOf tyTab 179 = some ⟨.func, 1, [.nilFunc], 8⟩ := by as_aux_lemma => kernel_rfl
@[simp] theorem tyE180 : tyOf tyTab 180 = some ⟨.agg [(0, 63), (5, 3)], 6, [.int .i64 0, .int .i64 0, .int .i64 0, .int .i64 0, .int .i64 0, .int .i64 0], 48⟩ := by as_aux_lemma => kernel_rfl
@[simp] theorem tyE181 : tyOf tyTab 181 = some ⟨.agg [(0, 63), (5, 3)], 6, [.int .i64 0, .int .i64 0, .int .i64 0, .int .i64 0, .int .i64 0, .int .i64 0], 48⟩ := by as_aux_lemma => kernel_rfl
@[simp] theorem tyE182 : tyOf tyTab 182 = some ⟨.func, 1, [.nilFunc], 8⟩ := by as_aux_lemma => kernel_rfl
@[simp] theorem tyE183 : tyOf tyTab 183 = some ⟨.func, 1, [.nilFunc], 8⟩ := by as_aux_lemma => kernel_rfl
@[simp] theorem tyE184 : tyOf tyTab 184 = some ⟨.func, 1, [.nilFunc], 8⟩ := by as_aux_lemma => kernel_rfl
@[simp] theorem tyE185 : tyOf tyTab 185 = some ⟨.func, 1, [.nilFunc], 8⟩ := by as_aux_lemma => kernel_rfl
@[simp] theorem tyE186 : tyOf tyTab 186 = some ⟨.agg [(0, 185)], 1, [.nilFunc], 8⟩ := by as_aux_lemma => kernel_rfl
@[simp] theorem tyE187 : tyOf tyTab 187 = some ⟨.agg [(0, 185)], 1, [.nilFunc], 8⟩ := by as_aux_lemma => kernel_rfl
@[simp] theorem tyE188 : tyOf tyTab 188 = some ⟨.map 58 187, 1, [.map none], 8⟩ := by as_aux_lemma => kernel_rfl
@[simp] theorem tyE189 : tyOf tyTab 189 = some ⟨.func, 1, [.nilFunc], 8⟩ := by as_aux_lemma => kernel_rfl
@[simp] theorem tyE190 : tyOf tyTab 190 = some ⟨.func, 1, [.nilFunc], 8⟩ := by as_aux_lemma => kernel_rfl
@[simp] theorem tyE191 : tyOf tyTab 191 = some ⟨.func, 1, [.nilFunc], 8⟩ := by as_aux_lemma => kernel_rfl
@[simp] theorem tyE192 : tyOf tyTab 192 = some ⟨.func, 1, [.nilFunc], 8⟩ := by as_aux_lemma => kernel_rfl
@[simp] theorem tyE193 : tyOf tyTab 193 = some ⟨.func, 1, [.nilFunc], 8⟩ := by as_aux_lemma => kernel_rfl
@[simp] theorem tyE194 : tyOf tyTab 194 = some ⟨.func, 1, [.nilFunc], 8⟩ := by as_aux_lemma => kernel_rfl
@[simp] theorem tyE196 : tyOf tyTab 196 = some ⟨.func, 1, [.nilFunc], 8⟩ := by as_aux_lemma => kernel_rfl
@[simp] theorem tyE197 : tyOf tyTab 197 = some ⟨.func, 1, [.nilFunc], 8⟩ := by as_aux_lemma => kernel_rfl
@[simp] theorem tyE198 : tyOf tyTab 198 = some ⟨.func, 1, [.nilFunc], 8⟩ := by as_aux_lemma => kernel_rfl
@[simp] theorem tyE199 : tyOf tyTab 199 = some ⟨.agg [], 0, [], 0⟩ := by as_aux_lemma => kernel_rfl
@[simp] theorem tyE200 : tyOf tyTab 200 = some ⟨.map 102 264, 1, [.map none], 8⟩ := by as_aux_lemma => kernel_rfl
@[simp] theorem tyE201 : tyOf tyTab 201 = some ⟨.func, 1, [.nilFunc], 8⟩ := by as_aux_lemma => kernel_rfl
@[simp] theorem tyE202 : tyOf tyTab 202 = some ⟨.map 9 3, 1, [.map none], 8⟩ := by as_aux_lemma => kernel_rfl
@[simp] theorem tyE203 : tyOf tyTab 203 = some ⟨.agg [(0, 202), (1, 202)], 2, [.map none, .map none], 16⟩ := by as_aux_lemma => kernel_rfl
@[simp] theorem tyE204 : tyOf tyTab 204 = some ⟨.agg [(0, 202), (1, 202)], 2, [.map none, .map none], 16⟩ := by as_aux_lemma => kernel_rfl
@[simp] theorem tyE205 : tyOf tyTab 205 = some ⟨.agg [(0, 204), (2, 200), (3, 3), (4, 3)], 5, [.map none, .map none, .map none, .int .i64 0, .int .i64 0], 40⟩ := by as_aux_lemma => kernel_rfl
@[simp] theorem tyE206 : tyOf tyTab 206 = some ⟨.agg [(0, 204), (2, 200), (3, 3), (4, 3)], 5, [.map none, .map none, .map none, .int .i64 0, .int .i64 0], 40⟩ := by as_aux_lemma => kernel_rfl
@[simp] theorem tyE207 : tyOf tyTab 207 = some ⟨.func, 1, [.nilFunc], 8⟩ := by as_aux_lemma => kernel_rfl
@[simp] theorem tyE208 : tyOf tyTab 208 = some ⟨.func, 1, [.nilFunc], 8⟩ := by as_aux_lemma => kernel_rfl
@[simp] theorem tyE209 : tyOf tyTab 209 = some ⟨.map 3 4, 1, [.map none], 8⟩ := by as_aux_lemma => kernel_rfl
@[simp] theorem tyE210 : tyOf tyTab 210 = some ⟨.func, 1, [.nilFunc], 8⟩ := by as_aux_lemma => kernel_rfl
@[simp] theorem tyE211 : tyOf tyTab 211 = some ⟨.func, 1, [.nilFunc], 8⟩ := by as_aux_lemma => kernel_rfl
@[simp] theorem tyE212 : tyOf tyTab 212 = some ⟨.func, 1, [.nilFunc], 8⟩ := by as_aux_lemma => kernel_rfl
@[simp] theorem tyE213 : tyOf tyTab 213 = some ⟨.func, 1, [.nilFunc], 8⟩ := by as_aux_lemma => kernel_rfl
@[simp] theorem tyE214 : tyOf tyTab 214 = some ⟨.func, 1, [.nilFunc], 8⟩ := by as_aux_lemma => kernel_rfl
@[simp] theorem tyE215 : tyOf tyTab 215 = some ⟨.func, 1, [.nilFunc], 8⟩ := by as_aux_lemma => kernel_rfl
@[simp] theorem tyE216 : tyOf tyTab 216 = some ⟨.func, 1, [.nilFunc], 8⟩ := by as_aux_lemma => kernel_rfl
@[simp] theorem tyE217 : tyOf tyTab 217 = some ⟨.func, 1, [.nilFunc], 8⟩ := by as_aux_lemma => kernel_rfl
@[simp] theorem tyE218 : tyOf tyTab 218 = some ⟨.ptr 222, 1, [.pointer none], 8⟩ := by as_aux_lemma => kernel_rfl
@[simp] theorem tyE220 : tyOf tyTab 220 = some ⟨.func, 1, [.nilFunc], 8⟩ := by as_aux_lemma => kernel_rfl
@[simp] theorem tyE221 : tyOf tyTab 221 = some ⟨.agg [(0, 25), (2, 145), (3, 145)], 4, [.slice none 0 0, .slice none 0 0, .slice none 0 0, .slice none 0 0], 96⟩ := by as_aux_lemma => kernel_rfl
@[simp] theorem tyE222 : tyOf tyTab 222 = some ⟨.agg [(0, 25), (2, 145), (3, 145)], 4, [.slice none 0 0, .slice none 0 0, .slice none 0 0, .slice none 0 0], 96⟩ := by as_aux_lemma => kernel_rfl
@[simp] theorem tyE223 : tyOf tyTab 223 = some ⟨.func, 1, [.nilFunc], 8⟩ := by as_aux_lemma => kernel_rfl
@[simp] theorem tyE224 : tyOf tyTab 224 = some ⟨.ptr 229, 1, [.pointer none], 8⟩ := by as_aux_lemma => kernel_rfl
@[simp] theorem tyE225 : tyOf tyTab 225 = some ⟨.func, 1, [.nilFunc], 8⟩ := by as_aux_lemma => kernel_rfl
@[simp] theorem tyE226 : tyOf tyTab 226 = some ⟨.map 231 53, 1, [.map none], 8⟩ := by as_aux_lemma => kernel_rfl
@[simp] theorem tyE227 : tyOf tyTab 227 = some ⟨.arr 4 3, 4, [.int .i64 0, .int .i64 0, .int .i64 0, .int .i64 0], 32⟩ := by as_aux_lemma => kernel_rfl
@[simp] theorem tyE228 : tyOf tyTab 228 = some ⟨.agg [(0, 226), (1, 227)], 5, [.map none, .int .i64 0, .int .i64 0, .int .i64 0, .int .i64 0], 40⟩ := by as_aux_lemma => kernel_rfl
@[simp] theorem tyE229 : tyOf tyTab 229 = some ⟨.agg [(0, 226), (1, 227)], 5, [.map none, .int .i64 0, .int .i64 0, .int .i64 0, .int .i64 0], 40⟩ := by as_aux_lemma => kernel_rfl
@[simp] theorem tyE230 : tyOf tyTab 230 = some ⟨.agg [(0, 3), (1, 3)], 2, [.int .i64 0, .int .i64 0], 16⟩ := by as_aux_lemma => kernel_rfl
@[simp] theorem tyE231 : tyOf tyTab 231 = some ⟨.agg [(0, 3), (1, 3)], 2, [.int .i64 0, .int .i64 0], 16⟩ := by as_aux_lemma => kernel_rfl
@[simp] theorem tyE232 : tyOf tyTab 232 = some ⟨.func, 1, [.nilFunc], 8⟩ := by as_aux_lemma => kernel_rfl
@[simp] theorem tyE233 : tyOf tyTab 233 = some ⟨.func, 1, [.nilFunc], 8⟩ := by as_aux_lemma => kernel_rfl
@[simp] theorem tyE234 : tyOf tyTab 234 = some ⟨.func, 1, [.nilFunc], 8⟩ := by as_aux_lemma => kernel_rfl
@[simp] theorem tyE235 : tyOf tyTab 235 = some ⟨.func, 1, [.nilFunc], 8⟩ := by as_aux_lemma => kernel_rfl
@[simp] theorem tyE236 : tyOf tyTab 236 = some ⟨.ptr 241, 1, [.pointer none], 8⟩ := by as_aux_lemma => kernel_rfl
@[simp] theorem tyE237 : tyOf tyTab 237 = some ⟨.func, 1, [.nilFunc], 8⟩ := by as_aux_lemma => kernel_rfl
@[simp] theorem tyE238 : tyOf tyTab 238 = some ⟨.map 9 154, 1, [.map none], 8⟩ := by as_aux_lemma => kernel_rfl
@[simp] theorem tyE239 : tyOf tyTab 239 = some ⟨.map 102 333, 1, [.map none], 8⟩ := by as_aux_lemma => kernel_rfl
@[simp] theorem tyE240 : tyOf tyTab 240 = some ⟨.agg [(0, 25), (2, 238), (3, 202), (4, 145), (5, 239)], 6, [.slice none 0 0, .slice none 0 0, .map none, .map none, .slice none 0 0, .map none], 96⟩ := by as_aux_lemma => kernel_rfl
@[simp] theorem tyE241 : tyOf tyTab 241 = some ⟨.agg [(0, 25), (2, 238), (3, 202), (4, 145), (5, 239)], 6, [.slice none 0 0, .slice none 0 0, .map none, .map none, .slice none 0 0, .map none], 96⟩ := by as_aux_lemma => kernel_rfl
@[simp] theorem tyE242 : tyOf tyTab 242 = some ⟨.func, 1, [.nilFunc], 8⟩ := by as_aux_lemma => kernel_rfl
@[simp] theorem tyE243 : tyOf tyTab 243 = some ⟨.sl 89, 1, [.slice none 0 0], 24⟩ := by as_aux_lemma => kernel_rfl
@[simp] theorem tyE244 : tyOf tyTab 244 = some ⟨.func, 1, [.nilFunc], 8⟩ := by as_aux_lemma => kernel_rfl
@[simp] theorem tyE245 : tyOf tyTab 245 = some ⟨.func, 1, [.nilFunc], 8⟩ := by as_aux_lemma => kernel_rfl
@[simp] theorem tyE246 : tyOf tyTab 246 = some ⟨.func, 1, [.nilFunc], 8⟩ := by as_aux_lemma => kernel_rfl
@[simp] theorem tyE247 : tyOf tyTab 247 = some ⟨.func, 1, [.nilFunc], 8⟩ := by as_aux_lemma => kernel_rfl
@[simp] theorem tyE248 : tyOf tyTab 248 = some ⟨.func, 1, [.nilFunc], 8⟩ := by as_aux_lemma => kernel_rfl
@[simp] theorem tyE249 : tyOf tyTab 249 = some ⟨.func, 1, [.nilFunc], 8⟩ := by as_aux_lemma => kernel_rfl
@[simp] theorem tyE250 : tyOf tyTab 250 = some ⟨.func, 1, [.nilFunc], 8⟩ := by as_aux_lemma => kernel_rfl
@[simp] theorem tyE251 : tyOf tyTab 251 = some ⟨.func, 1, [.nilFunc], 8⟩ := by as_aux_lemma => kernel_rfl
@[simp] theorem tyE252 : tyOf tyTab 252 = some ⟨.func, 1, [.nilFunc], 8⟩ := by as_aux_lemma => kernel_rfl
@[simp] theorem tyE253 : tyOf tyTab 253 = some ⟨.func, 1, [.nilFunc], 8⟩ := by as_aux_lemma => kernel_rfl
@[simp] theorem tyE254 : tyOf tyTab 254 = some ⟨.func, 1, [.nilFunc], 8⟩ := by as_aux_lemma => kernel_rfl
@[simp] theorem tyE255 : tyOf tyTab 255 = some ⟨.arr 66 3, 66, List.replicate 66 (.int .i64 0), 528⟩ := by as_aux_lemma => kernel_rfl
@[simp] theorem tyE256 : tyOf tyTab 256 = some ⟨.agg [(0, 3), (1, 255)], 67, List.replicate 67 (.int .i64 0), 536⟩ := by as_aux_lemma => kernel_rfl
@[simp] theorem tyE257 : tyOf tyTab 257 = some ⟨.agg [(0, 3), (1, 255)], 67, List.replicate 67 (.int .i64 0), 536⟩ := by as_aux_lemma => kernel_rfl
@[simp] theorem tyE258 : tyOf tyTab 258 = some ⟨.func, 1, [.nilFunc], 8⟩ := by as_aux_lemma => kernel_rfl
@[simp] theorem tyE259 : tyOf tyTab 259 = some ⟨.func, 1, [.nilFunc], 8⟩ := by as_aux_lemma => kernel_rfl
@[simp] theorem tyE260 : tyOf tyTab 260 = some ⟨.func, 1, [.nilFunc], 8⟩ := by as_aux_lemma => kernel_rfl
@[simp] theorem tyE261 : tyOf tyTab 261 = some ⟨.func, 1, [.nilFunc], 8⟩ := by as_aux_lemma => kernel_rfl
@[simp] theorem tyE262 : tyOf tyTab 262 = some ⟨.func, 1, [.nilFunc], 8⟩ := by as_aux_lemma => kernel_rfl
@[simp] theorem tyE263 : tyOf tyTab 263 = some ⟨.agg [(0, 3), (1, 3), (2, 4), (3, 4), (4, 3), (5, 3)], 6, [.int .i64 0, .int .i64 0, .bool false, .bool false, .int .i64 0, .int .i64 0], 40⟩ := by as_aux_lemma => kernel_rfl
@[simp] theorem tyE264 : tyOf tyTab 264 = some ⟨.agg [(0, 3), (1, 3), (2, 4), (3, 4), (4, 3), (5, 3)], 6, [.int .i64 0, .int .i64 0, .bool false, .bool false, .int .i64 0, .int .i64 0], 40⟩ := by as_aux_lemma => kernel_rfl
@[simp] theorem tyE265 : tyOf tyTab 265 = some ⟨.func, 1, [.nilFunc], 8⟩ := by as_aux_lemma => kernel_rfl
@[simp] theorem tyE267 : tyOf tyTab 267 = some ⟨.func, 1, [.nilFunc], 8⟩ := by as_aux_lemma => kernel_rfl
@[simp] theorem tyE268 : tyOf tyTab 268 = some ⟨.func, 1, [.nilFunc], 8⟩ := by as_aux_lemma => kernel_rfl
@[simp] theorem tyE269 : tyOf tyTab 269 = some ⟨.sl 5, 1, [.slice none 0 0], 24⟩ := by as_aux_lemma => kernel_rfl
@[simp] theorem tyE270 : tyOf tyTab 270 = some ⟨.map 9 4, 1, [.map none], 8⟩ := by as_aux_lemma => kernel_rfl
@[simp] theorem tyE271 : tyOf tyTab 271 = some ⟨.func, 1, [.nilFunc], 8⟩ := by as_aux_lemma => kernel_rfl
@[simp] theorem tyE272 : tyOf tyTab 272 = some ⟨.func, 1, [.nilFunc], 8⟩ := by as_aux_lemma => kernel_rfl
@[simp] theorem tyE273 : tyOf tyTab 273 = some ⟨.sl 275, 1, [.slice none 0 0], 24⟩ := by as_aux_lemma => kernel_rfl
@[simp] theorem tyE274 : tyOf tyTab 274 = some ⟨.func, 1, [.nilFunc], 8⟩ := by as_aux_lemma => kernel_rfl
@[simp] theorem tyE275 : tyOf tyTab 275 = some ⟨.sl 4, 1, [.slice none 0 0], 24⟩ := by as_aux_lemma => kernel_rfl
@[simp] theorem tyE277 : tyOf tyTab 277 = some ⟨.func, 1, [.nilFunc], 8⟩ := by as_aux_lemma => kernel_rfl
@[simp] theorem tyE278 : tyOf tyTab 278 = some ⟨.func, 1, [.nilFunc], 8⟩ := by as_aux_lemma => kernel_rfl
@[simp] theorem tyE279 : tyOf tyTab 279 = some ⟨.func, 1, [.nilFunc], 8⟩ := by as_aux_lemma => kernel_rfl
@[simp] theorem tyE281 : tyOf tyTab 281 = some ⟨.func, 1, [.nilFunc], 8⟩ := by as_aux_lemma => kernel_rfl
@[simp] theorem tyE282 : tyOf tyTab 282 = some ⟨.func, 1, [.nilFunc], 8⟩ := by as_aux_lemma => kernel_rfl
@[simp] theorem tyE283 : tyOf tyTab 283 = some ⟨.func, 1, [.nilFunc], 8⟩ := by as_aux_lemma => kernel_rfl
@[simp] theorem tyE284 : tyOf tyTab 284 = some ⟨.map 287 4, 1, [.map none], 8⟩ := by as_aux_lemma => kernel_rfl
@[simp] theorem tyE285 : tyOf tyTab 285 = some ⟨.func, 1, [.nilFunc], 8⟩ := by as_aux_lemma => kernel_rfl
@[simp] theorem tyE286 : tyOf tyTab 286 = some ⟨.func, 1, [.nilFunc], 8⟩ := by as_aux_lemma => kernel_rfl
@[simp] theorem tyE287 : tyOf tyTab 287 = some ⟨.arr 2 3, 2, [.int .i64 0, .int .i64 0], 16⟩ := by as_aux_lemma => kernel_rfl
@[simp] theorem tyE288 : tyOf tyTab 288 = some ⟨.agg [], 0, [], 0⟩ := by as_aux_lemma => kernel_rfl
@[simp] theorem tyE289 : tyOf tyTab 289 = some ⟨.func, 1, [.nilFunc], 8⟩ := by as_aux_lemma => kernel_rfl
@[simp] theorem tyE290 : tyOf tyTab 290 = some ⟨.func, 1, [.nilFunc], 8⟩ := by as_aux_lemma => kernel_rfl
@[simp] theorem tyE291 : tyOf tyTab 291 = some ⟨.func, 1, [.nilFunc], 8⟩ := by as_aux_lemma => kernel_rfl
@[simp] theorem tyE292 : tyOf tyTab 292 = some ⟨.agg [(0, 22), (1, 22), (2, 3)], 3, [.slice none 0 0, .slice none 0 0, .int .i64 0], 56⟩ := by as_aux_lemma => kernel_rfl
@[simp] theorem tyE293 : tyOf tyTab 293 = some ⟨.agg [(0, 22), (1, 22), (2, 3)], 3, [.slice none 0 0, .slice none 0 0, .int .i64 0], 56⟩ := by as_aux_lemma => kernel_rfl
@[simp] theorem tyE294 : tyOf tyTab 294 = some ⟨.func, 1, [.nilFunc], 8⟩ := by as_aux_lemma => kernel_rfl
@[simp] theorem tyE295 : tyOf tyTab 295 = some ⟨.func, 1, [.nilFunc], 8⟩ := by as_aux_lemma => kernel_rfl
@[simp] theorem tyE296 : tyOf tyTab 296 = some ⟨.func, 1, [.nilFunc], 8⟩ := by as_aux_lemma => kernel_rfl
@[simp] theorem tyE297 : tyOf tyTab 297 = some ⟨.func, 1, [.nilFunc], 8⟩ := by as_aux_lemma => kernel_rfl
@[simp] theorem tyE298 : tyOf tyTab 298 = some ⟨.func, 1, [.nilFunc], 8⟩ := by as_aux_lemma => kernel_rfl
@[simp] theorem tyE299 : tyOf tyTab 299 = some ⟨.func, 1, [.nilFunc], 8⟩ := by as_aux_lemma => kernel_rfl
@[simp] theorem tyE300 : tyOf tyTab 300 = some ⟨.func, 1, [.nilFunc], 8⟩ := by as_aux_lemma => kernel_rfl
@[simp] theorem tyE301 : tyOf tyTab 301 = some ⟨.func, 1, [.nilFunc], 8⟩ := by as_aux_lemma => kernel_rfl
@[simp] theorem tyE302 : tyOf tyTab 302 = some ⟨.func, 1, [.nilFunc], 8⟩ := by as_aux_lemma => kernel_rfl
@[simp] theorem tyE303 : tyOf tyTab 303 = some ⟨.ptr 257, 1, [.pointer none], 8⟩ := by as_aux_lemma => kernel_rfl
@[simp] theorem tyE304 : tyOf tyTab 304 = some ⟨.func, 1, [.nilFunc], 8⟩ := by as_aux_lemma => kernel_rfl
@[simp] theorem tyE305 : tyOf tyTab 305 = some ⟨.func, 1, [.nilFunc], 8⟩ := by as_aux_lemma => kernel_rfl
@[simp] theorem tyE306 : tyOf tyTab 306 = some ⟨.func, 1, [.nilFunc], 8⟩ := by as_aux_lemma => kernel_rfl
@[simp] theorem tyE307 : tyOf tyTab 307 = some ⟨.func, 1, [.nilFunc], 8⟩ := by as_aux_lemma => kernel_rfl
@[simp] theorem tyE308 : tyOf tyTab 308 = some ⟨.func, 1, [.nilFunc], 8⟩ := by as_aux_lemma => kernel_rfl
@[simp] theorem tyE309 : tyOf tyTab 309 = some ⟨.func, 1, [.nilFunc], 8⟩ := by as_aux_lemma => kernel_rfl
@[simp] theorem tyE310 : tyOf tyTab 310 = some ⟨.func, 1, [.nilFunc], 8⟩ := by as_aux_lemma => kernel_rfl
@[simp] theorem tyE311 : tyOf tyTab 311 = some ⟨.map 51 314, 1, [.map none], 8⟩ := by as_aux_lemma => kernel_rfl
@[simp] theorem tyE312 : tyOf tyTab 312 = some ⟨.func, 1, [.nilFunc], 8⟩ := by as_aux_lemma => kernel_rfl
@[simp] theorem tyE313 : tyOf tyTab 313 = some ⟨.func, 1, [.nilFunc], 8⟩ := by as_aux_lemma => kernel_rfl
@[simp] theorem tyE314 : tyOf tyTab 314 = some ⟨.func, 1, [.nilFunc], 8⟩ := by as_aux_lemma => kernel_rfl
@[simp] theorem tyE316 : tyOf tyTab 316 = some ⟨.func, 1, [.nilFunc], 8⟩ := by as_aux_lemma => kernel_rfl
@[simp] theorem tyE317 : tyOf tyTab 317 = some ⟨.func, 1, [.nilFunc], 8⟩ := by as_aux_lemma => kernel_rfl
@[simp] theorem tyE318 : tyOf tyTab 318 = some ⟨.func, 1, [.nilFunc], 8⟩ := by as_aux_lemma => kernel_rfl
@[simp] theorem tyE319 : tyOf tyTab 319 = some ⟨.int .u64, 1, [.int .u64 0], 8⟩ := by as_aux_lemma => kernel_rfl
@[simp] theorem tyE320 : tyOf tyTab 320 = some ⟨.func, 1, [.nilFunc], 8⟩ := by as_aux_lemma => kernel_rfl
@[simp] theorem tyE321 : tyOf tyTab 321 = some ⟨.func, 1, [.nilFunc], 8⟩ := by as_aux_lemma => kernel_rfl
@[simp] theorem tyE322 : tyOf tyTab 322 = some ⟨.func, 1, [.nilFunc], 8⟩ := by as_aux_lemma => kernel_rfl
@[simp] theorem tyE324 : tyOf tyTab 324 = some ⟨.func, 1, [.nilFunc], 8⟩ := by as_aux_lemma => kernel_rfl
@[simp] theorem tyE325 : tyOf tyTab 325 = some ⟨.map 3 89, 1, [.map none], 8⟩ := by as_aux_lemma => kernel_rfl
@[simp] theorem tyE327 : tyOf tyTab 327 = some ⟨.func, 1, [.nilFunc], 8⟩ := by as_aux_lemma => kernel_rfl
@[simp] theorem tyE328 : tyOf tyTab 328 = some ⟨.func, 1, [.nilFunc], 8⟩ := by as_aux_lemma => kernel_rfl
@[simp] theorem tyE329 : tyOf tyTab 329 = some ⟨.func, 1, [.nilFunc], 8⟩ := by as_aux_lemma => kernel_rfl
@[simp] theorem tyE330 : tyOf tyTab 330 = some ⟨.func, 1, [.nilFunc], 8⟩ := by as_aux_lemma => kernel_rfl
@[simp] theorem tyE331 : tyOf tyTab 331 = some ⟨.func, 1, [.nilFunc], 8⟩ := by as_aux_lemma => kernel_rfl
@[simp] theorem tyE332 : tyOf tyTab 332 = some ⟨.func, 1, [.nilFunc], 8⟩ := by as_aux_lemma => kernel_rfl
@[simp] theorem tyE333 : tyOf tyTab 333 = some ⟨.func, 1, [.nilFunc], 8⟩ := by as_aux_lemma => kernel_rfl
@[simp] theorem tyE334 : tyOf tyTab 334 = some ⟨.func, 1, [.nilFunc], 8⟩ := by as_aux_lemma => kernel_rfl
@[simp] theorem tyE335 : tyOf tyTab 335 = some ⟨.func, 1, [.nilFunc], 8⟩ := by as_aux_lemma => kernel_rfl
@[simp] theorem tyE336 : tyOf tyTab 336 = some ⟨.agg [(0, 3), (1, 3), (2, 4), (3, 4), (4, 3), (5, 3)], 6, [.int .i64 0, .int .i64 0, .bool false, .bool false, .int .i64 0, .int .i64 0], 40⟩ := by as_aux_lemma => kernel_rfl
@[simp] theorem tyE337 : tyOf tyTab 337 = some ⟨.agg [(0, 3), (1, 3), (2, 4), (3, 4), (4, 3), (5, 3)], 6, [.int .i64 0, .int .i64 0, .bool false, .bool false, .int .i64 0, .int .i64 0], 40⟩ := by as_aux_lemma => kernel_rfl
@[simp] theorem tyE339 : tyOf tyTab 339 = some ⟨.func, 1, [.nilFunc], 8⟩ := by as_aux_lemma => kernel_rfl
@[simp] theorem tyE340 : tyOf tyTab 340 = some ⟨.func, 1, [.nilFunc], 8⟩ := by as_aux_lemma => kernel_rfl
@[simp] theorem tyE341 : tyOf tyTab 341 = some ⟨.func, 1, [.nilFunc], 8⟩ := by as_aux_lemma => kernel_rfl
@[simp] theorem tyE342 : tyOf tyTab 342 = some ⟨.func, 1, [.nilFunc], 8⟩ := by as_aux_lemma => kernel_rfl
@[simp] theorem tyE343 : tyOf tyTab 343 = some ⟨.func, 1, [.nilFunc], 8⟩ := by as_aux_lemma => kernel_rfl
@[simp] theorem tyE344 : tyOf tyTab 344 = some ⟨.func, 1, [.nilFunc], 8⟩ := by as_aux_lemma => kernel_rfl
@[simp] theorem tyE345 : tyOf tyTab 345 = some ⟨.func, 1, [.nilFunc], 8⟩ := by as_aux_lemma => kernel_rfl
@[simp] theorem tyE346 : tyOf tyTab 346 = some ⟨.func, 1, [.nilFunc], 8⟩ := by as_aux_lemma => kernel_rfl
@[simp] theorem tyE347 : tyOf tyTab 347 = some ⟨.func, 1, [.nilFunc], 8⟩ := by as_aux_lemma => kernel_rfl
@[simp] theorem tyE348 : tyOf tyTab 348 = some ⟨.agg [], 0, [], 0⟩ := by as_aux_lemma => kernel_rfl
@[simp] theorem tyE349 : tyOf tyTab 349 = some ⟨.func, 1, [.nilFunc], 8⟩ := by as_aux_lemma => kernel_rfl
@[simp] theorem tyE350 : tyOf tyTab 350 = some ⟨.func, 1, [.nilFunc], 8⟩ := by as_aux_lemma => kernel_rfl
@[simp] theorem tyE351 : tyOf tyTab 351 = some ⟨.int .i64, 1, [.int .i64 0], 8⟩ := by as_aux_lemma => kernel_rfl
@[simp] theorem tyE353 : tyOf tyTab 353 = some ⟨.func, 1, [.nilFunc], 8⟩ := by as_aux_lemma => kernel_rfl
@[simp] theorem tyE354 : tyOf tyTab 354 = some ⟨.func, 1, [.nilFunc], 8⟩ := by as_aux_lemma => kernel_rfl
@[simp] theorem tyE355 : tyOf tyTab 355 = some ⟨.func, 1, [.nilFunc], 8⟩ := by as_aux_lemma => kernel_rfl
@[simp] theorem tyE356 : tyOf tyTab 356 = some ⟨.func, 1, [.nilFunc], 8⟩ := by as_aux_lemma => kernel_rfl
@[simp] theorem tyE357 : tyOf tyTab 357 = some ⟨.func, 1, [.nilFunc], 8⟩ := by as_aux_lemma => kernel_rfl
@[simp] theorem tyE358 : tyOf tyTab 358 = some ⟨.int .u32, 1, [.int .u32 0], 4⟩ := by as_aux_lemma => kernel_rfl
@[simp] theorem tyE359 : tyOf tyTab 359 = some ⟨.func, 1, [.nilFunc], 8⟩ := by as_aux_lemma => kernel_rfl
@[simp] theorem tyE360 : tyOf tyTab 360 = some ⟨.int .u64, 1, [.int .u64 0], 8⟩ := by as_aux_lemma => kernel_rfl
@[simp] theorem tyE361 : tyOf tyTab 361 = some ⟨.func, 1, [.nilFunc], 8⟩ := by as_aux_lemma => kernel_rfl
@[simp] theorem tyE362 : tyOf tyTab 362 = some ⟨.func, 1, [.nilFunc], 8⟩ := by as_aux_lemma => kernel_rfl
@[simp] theorem tyE363 : tyOf tyTab 363 = some ⟨.func, 1, [.nilFunc], 8⟩ := by as_aux_lemma => kernel_rfl
@[simp] theorem tyE364 : tyOf tyTab 364 = some ⟨.func, 1, [.nilFunc], 8⟩ := by as_aux_lemma => kernel_rfl
@[simp] theorem tyE365 : tyOf tyTab 365 = some ⟨.func, 1, [.nilFunc], 8⟩ := by as_aux_lemma => kernel_rfl
@[simp] theorem tyE366 : tyOf tyTab 366 = some ⟨.func, 1, [.nilFunc], 8⟩ := by as_aux_lemma => kernel_rfl
@[simp] theorem tyE367 : tyOf tyTab 367 = some ⟨.func, 1, [.nilFunc], 8⟩ := by as_aux_lemma => kernel_rfl
@[simp] theorem tyE368 : tyOf tyTab 368 = some ⟨.map 3 153, 1, [.map none], 8⟩ := by as_aux_lemma => kernel_rfl
@[simp] theorem tyE369 : tyOf tyTab 369 = some ⟨.func, 1, [.nilFunc], 8⟩ := by as_aux_lemma => kernel_rfl
@[simp] theorem tyE370 : tyOf tyTab 370 = some ⟨.map 27 3, 1, [.map none], 8⟩ := by as_aux_lemma => kernel_rfl
@[simp] theorem tyE371 : tyOf tyTab 371 = some ⟨.func, 1, [.nilFunc], 8⟩ := by as_aux_lemma => kernel_rfl
@[simp] theorem tyE372 : tyOf tyTab 372 = some ⟨.func, 1, [.nilFunc], 8⟩ := by as_aux_lemma => kernel_rfl
@[simp] theorem tyE373 : tyOf tyTab 373 = some ⟨.func, 1, [.nilFunc], 8⟩ := by as_aux_lemma => kernel_rfl
@[simp] theorem tyE375 : tyOf tyTab 375 = some ⟨.func, 1, [.nilFunc], 8⟩ := by as_aux_lemma => kernel_rfl
@[simp] theorem tyE376 : tyOf tyTab 376 = some ⟨.func, 1, [.nilFunc], 8⟩ := by as_aux_lemma => kernel_rfl
@[simp] theorem tyE377 : tyOf tyTab 377 = some ⟨.func, 1, [.nilFunc], 8⟩ := by as_aux_lemma => kernel_rfl
@[simp] theorem tyE378 : tyOf tyTab 378 = some ⟨.func, 1, [.nilFunc], 8⟩ := by as_aux_lemma => kernel_rfl
@[simp] theorem tyE379 : tyOf tyTab 379 = some ⟨.func, 1, [.nilFunc], 8⟩ := by as_aux_lemma => kernel_rfl
@[simp] theorem tyE380 : tyOf tyTab 380 = some ⟨.func, 1, [.nilFunc], 8⟩ := by as_aux_lemma => kernel_rfl
@[simp] theorem tyE381 : tyOf tyTab 381 = some ⟨.func, 1, [.nilFunc], 8⟩ := by as_aux_lemma => kernel_rfl
@[simp] theorem tyE382 : tyOf tyTab 382 = some ⟨.func, 1, [.nilFunc], 8⟩ := by as_aux_lemma => kernel_rfl
@[simp] theorem tyE383 : tyOf tyTab 383 = some ⟨.int .u64, 1, [.int .u64 0], 8⟩ := by as_aux_lemma => kernel_rfl
@[simp] theorem tyE384 : tyOf tyTab 384 = some ⟨.func, 1, [.nilFunc], 8⟩ := by as_aux_lemma => kernel_rfl
@[simp] theorem tyE385 : tyOf tyTab 385 = some ⟨.func, 1, [.nilFunc], 8⟩ := by as_aux_lemma => kernel_rfl
@[simp] theorem tyE386 : tyOf tyTab 386 = some ⟨.func, 1, [.nilFunc], 8⟩ := by as_aux_lemma => kernel_rfl
@[simp] theorem tyE387 : tyOf tyTab 387 = some ⟨.ptr 3, 1, [.pointer none], 8⟩ := by as_aux_lemma => kernel_rfl
@[simp] theorem tyE388 : tyOf tyTab 388 = some ⟨.func, 1, [.nilFunc], 8⟩ := by as_aux_lemma => kernel_rfl
@[simp] theorem tyE389 : tyOf tyTab 389 = some ⟨.func, 1, [.nilFunc], 8⟩ := by as_aux_lemma => kernel_rfl
@[simp] theorem tyE390 : tyOf tyTab 390 = some ⟨.func, 1, [.nilFunc], 8⟩ := by as_aux_lemma => kernel_rfl
@[simp] theorem tyE391 : tyOf tyTab 391 = some ⟨.func, 1, [.nilFunc], 8⟩ := by as_aux_lemma => kernel_rfl
@[simp] theorem tyE392 : tyOf tyTab 392 = some ⟨.func, 1, [.nilFunc], 8⟩ := by as_aux_lemma => kernel_rfl
@[simp] theorem tyE393 : tyOf tyTab 393 = some ⟨.func, 1, [.nilFunc], 8⟩ := by as_aux_lemma => kernel_rfl
@[simp] theorem tyE394 : tyOf tyTab 394 = some ⟨.func, 1, [.nilFunc], 8⟩ := by as_aux_lemma => kernel_rfl
@[simp] theorem tyE395 : tyOf tyTab 395 = some ⟨.func, 1, [.nilFunc], 8⟩ := by as_aux_lemma => kernel_rfl
@[simp] theorem tyE396 : tyOf tyTab 396 = some ⟨.ptr 383, 1, [.pointer none], 8⟩ := by as_aux_lemma => kernel_rfl
@[simp] theorem tyE398 : tyOf tyTab 398 = some ⟨.func, 1, [.nilFunc], 8⟩ := by as_aux_lemma => kernel_rfl
@[simp] theorem tyE399 : tyOf tyTab 399 = some ⟨.func, 1, [.nilFunc], 8⟩ := by as_aux_lemma => kernel_rfl
@[simp] theorem tyE400 : tyOf tyTab 400 = some ⟨.func, 1, [.nilFunc], 8⟩ := by as_aux_lemma => kernel_rfl
@[simp] theorem tyE401 : tyOf tyTab 401 = some ⟨.func, 1, [.nilFunc], 8⟩ := by as_aux_lemma => kernel_rfl
@[simp] theorem tyE402 : tyOf tyTab 402 = some ⟨.func, 1, [.nilFunc], 8⟩ := by as_aux_lemma => kernel_rfl
@[simp] theorem tyE403 : tyOf tyTab 403 = some ⟨.func, 1, [.nilFunc], 8⟩ := by as_aux_lemma => kernel_rfl
@[simp] theorem tyE404 : tyOf tyTab 404 = some ⟨.func, 1, [.nilFunc], 8⟩ := by as_aux_lemma => kernel_rfl
@[simp] theorem tyE405 : tyOf tyTab 405 = some ⟨.func, 1, [.nilFunc], 8⟩ := by as_aux_lemma => kernel_rfl
@[simp] theorem tyE406 : tyOf tyTab 406 = some ⟨.func, 1, [.nilFunc], 8⟩ := by as_aux_lemma => kernel_rfl
@[simp] theorem tyE407 : tyOf tyTab 407 = some ⟨.func, 1, [.nilFunc], 8⟩ := by as_aux_lemma => kernel_rfl
@[simp] theorem tyE408 : tyOf tyTab 408 = some ⟨.func, 1, [.nilFunc], 8⟩ := by as_aux_lemma => kernel_rfl
@[simp] theorem tyE409 : tyOf tyTab 409 = some ⟨.func, 1, [.nilFunc], 8⟩ := by as_aux_lemma => kernel_rfl
@[simp] theorem tyE410 : tyOf tyTab 410 = some ⟨.func, 1, [.nilFunc], 8⟩ := by as_aux_lemma => kernel_rfl
@[simp] theorem tyE411 : tyOf tyTab 411 = some ⟨.func, 1, [.nilFunc], 8⟩ := by as_aux_lemma => kernel_rfl
@[simp] theorem tyE412 : tyOf tyTab 412 = some ⟨.func, 1, [.nilFunc], 8⟩ := by as_aux_lemma => kernel_rfl
@[simp] theorem tyE413 : tyOf tyTab 413 = some ⟨.func, 1, [.nilFunc], 8⟩ := by as_aux_lemma => kernel_rfl
@[simp] theorem tyE414 : tyOf tyTab 414 = some ⟨.func, 1, [.nilFunc], 8⟩ := by as_aux_lemma => kernel_rfl
@[simp] theorem tyE415 : tyOf tyTab 415 = some ⟨.func, 1, [.nilFunc], 8⟩ := by as_aux_lemma => kernel_rfl
@[simp] theorem tyE416 : tyOf tyTab 416 = some ⟨.func, 1, [.nilFunc], 8⟩ := by as_aux_lemma => kernel_rfl
@[simp] theorem tyE417 : tyOf tyTab 417 = some ⟨.func, 1, [.nilFunc], 8⟩ := by as_aux_lemma => kernel_rfl
@[simp] theorem tyE418 : tyOf tyTab 418 = some ⟨.func, 1, [.nilFunc], 8⟩ := by as_aux_lemma => kernel_rfl
@[simp] theorem tyE419 : tyOf tyTab 419 = some ⟨.agg [(0, 17), (1, 17), (2, 17), (3, 9)], 4, [.pointer none, .pointer none, .pointer none, .string ⟨#[]⟩], 40⟩ := by as_aux_lemma => kernel_rfl
@[simp] theorem tyE421 : tyOf tyTab 421 = some ⟨.arr 0 16, 0, [], 0⟩ := by as_aux_lemma => kernel_rfl
@[simp] theorem tyE422 : tyOf tyTab 422 = some ⟨.agg [(0, 421)], 0, [], 0⟩ := by as_aux_lemma => kernel_rfl
@[simp] theorem tyE424 : tyOf tyTab 424 = some ⟨.func, 1, [.nilFunc], 8⟩ := by as_aux_lemma => kernel_rfl
@[simp] theorem tyE427 : tyOf tyTab 427 = some ⟨.func, 1, [.nilFunc], 8⟩ := by as_aux_lemma => kernel_rfl
@[simp] theorem tyE428 : tyOf tyTab 428 = some ⟨.ptr 5, 1, [.pointer none], 8⟩ := by as_aux_lemma => kernel_rfl
@[simp] theorem tyE431 : tyOf tyTab 431 = some ⟨.agg [(0, 12), (1, 12), (2, 358), (3, 425), (4, 5), (5, 5), (6, 426), (7, 427), (8, 428), (9, 429), (10, 430)], 11, [.int .u64 0, .int .u64 0, .int .u32 0, .int .u8 0, .int .u8 0, .int .u8 0, .int .u8 0, .nilFunc, .pointer none, .int .i32 0, .int .i32 0], 48⟩ := by as_aux_lemma => kernel_rfl
end Go.Aft
