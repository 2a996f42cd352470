import Derived.Test.YthinedikejlgmaaGreatA03
set_option linter.all false
namespace Go.Aft
def keyOf:LV->Option Value
 |.d (.k v)=>some v
 |.agg cs=>(gL cs).map λvs=>.agg vs.toArray
 |_=>none
inductive KK where
 |sc (k:Sc)|ag (ks:List Sc)
def KK.has:KK->Value->Bool
 |.sc k,v=>k.has v
 |.ag ks,.agg vs=>b6 ks vs.toList
 |_,_=>false
def wv:Value->Value->Bool
 |.agg x,.agg y=>allEq x.toList y.toList
 |x,y=>uU x y
def gf(ty:TypeId->Option aS)(bP:TypeId->Option (List Sc))(t:TypeId):Option KK:=
 match ty t with
 |some ⟨.int k,_,_,_⟩=>some (.sc (.int k))
 |some ⟨.str,_,_,_⟩=>some (.sc .str)
 |some ⟨.bool,_,_,_⟩=>some (.sc .bool)
 |some ⟨.agg _,_,_,_⟩=>(bP t).map .ag
 |some ⟨.arr _ _,_,_,_⟩=>(bP t).map .ag
 |_=>none
def bz(k:Value):List (Value×LV)->Option LV
 |[]=>none
 |e::es=>if wv k e.1 then some e.2 else bz k es
def cg(k:Value)(v:LV):List (Value×LV)->List (Value×LV)
 |[]=>[(k,v)]
 |e::es=>if wv k e.1 then(k,v)::es else e::cg k v es
def pH(k:Value):List (Value×LV)->Nat
 |[]=>0
 |e::es=>if wv k e.1 then 0 else pH k es+1
def yu(j:Nat)(v:LV)(es:List (Value×LV)):List (Value×LV):=es.modify j λe=>(e.1,v)
def kS(d:aS):Option LV:=dh d (d.zero.map kz)
def ic(x y:Int):Int:=if y<x then y else x
def jN(x y:Int):Int:=if y>x then y else x
def slK(ty:TypeId->Option aS)(t:TypeId):Bool:=match ty t with
 |some ⟨.sl _,_,_,_⟩=>true
 |_=>false
def rQ(ty:TypeId->Option aS)(s:S)(b:Builtin)(tys:List TypeId)(args:List Operand):Option uL:=
 match b,tys,args with
 |.len,[t],[x]=>
  match ty t with
  |some ⟨.str,_,_,_⟩=>match s.arg x with|.d (.k (.string z))=>some ⟨s.aI x,oD .i64 z.size,.no⟩|_=>none
  |some ⟨.sl _,_,_,_⟩=>(rowsOf (s.arg x)).map λxs=>⟨s.aI x,oD .i64 xs.length,.no⟩
  |some ⟨.map _ _,_,_,_⟩=>match s.arg x with
   |.gm n=>match s.H.obj n with|some (.map es)=>some ⟨s.aI x,oD .i64 es.length,.no⟩|_=>none
   |.d (.k (.map none))=>some ⟨s.aI x,oD .i64 0,.no⟩
   |_=>none
  |_=>none
 |.min,_,[x,y]=>match s.arg x,s.arg y with|.d (.k (.int k m)),.d (.k (.int _ n))=>some ⟨s.aI x/\s.aI y,oD k (ic m n),.no⟩|_,_=>none
 |.max,_,[x,y]=>match s.arg x,s.arg y with|.d (.k (.int k m)),.d (.k (.int _ n))=>some ⟨s.aI x/\s.aI y,oD k (jN m n),.no⟩|_,_=>none
 |.append,[t,t'],[x,y]=>
  if t=t'\/ slK ty t'=true then
   match ty t with
   |some ⟨.sl e,_,_,_⟩=>(ty e).bind λed=>if ed.sz=0 then none else(rowsOf (s.arg y)).bind λys=>
    match s.arg x with
    |.kQ n xs=>match s.H.obj n with
     |some (.arr e' sz m)=>if e'=e/\sz=ed.sz then some ⟨s.aI x/\s.aI y/\m=xs.length/\(∀r∈xs,r.length=ed.sz)/\(∀r∈ys,r.length=ed.sz)/\(xs.length+ys.length)*ed.bt<=140737488355328/\xs.length+ys.length<=140737488355328,.kQ n (xs++ys),.dK n (.arr e sz (xs.length+ys.length))⟩else none
     |_=>none
    |.d (.k (.slice none 0 0))=>some ⟨s.aI x/\s.aI y/\(∀r∈ys,r.length=ed.sz)/\ys.length*ed.bt<=140737488355328/\ys.length<=140737488355328,.kQ s.H.next ys,.gY (.arr e ed.sz ys.length)⟩
    |_=>none
   |_=>none
  else none
 |_,_,_=>none
def gN(s:S):Option Operand->Option Int
 |none=>some 0
 |some o=>match s.arg o with|.d (.k (.int _ n))=>some n|_=>none
def gq(s:S)(len:Nat):Option Operand->Option Int
 |none=>some len
 |some o=>match s.arg o with|.d (.k (.int _ n))=>some n|_=>none
def fO(s:S):Option Operand->Prop
 |none=>True
 |some o=>s.aI o
def jh(z:ByteArray)(n:Int):Int:=match z[n.toNat]? with|some b=>b.toNat|none=>0
def qW(k:TK)(v:Value):Bool:=match k,v with
 |.ptr _,.pointer none=>true
 |.iface _,.nilIface=>true
 |.map _ _,.map none=>true
 |.func,.nilFunc=>true
 |.sl _,.slice none 0 0=>true
 |_,_=>false
def yK(k:TK)(x:LV):Option Bool:=match k,x with
 |.ptr _,.d (.k (.pointer none))=>some true
 |.ptr _,.lp ..=>some false
 |.ptr _,.gp ..=>some false
 |.ptr _,.ep ..=>some false
 |.iface _,.d (.k .nilIface)=>some true
 |.iface _,.d (.k (.iface ..))=>some false
 |.map _ _,.d (.k (.map none))=>some true
 |.map _ _,.gm _=>some false
 |.func,.d (.k .nilFunc)=>some true
 |.func,.fn ..=>some false
 |.sl _,.d (.k (.slice a _ _))=>some a.isNone
 |.sl _,.d (.sl (_::_))=>some false
 |.sl _,.vs ..=>some false
 |_,_=>none
def mz(ty:TypeId->Option aS)(s:S)(op:BinOp)(T:TypeId)(x y:Operand):Option uL:=
 match y with
 |.const v=>(ty T).bind λd=>if qW d.k v then(yK d.k (s.arg x)).bind λb=>(match op with
   |.eql=>some ⟨s.aI x,.d (.k (.bool b)),.no⟩
   |.neq=>some ⟨s.aI x,.d (.k (.bool (!b))),.no⟩
   |_=>none)else none
 |_=>none
def uw:List (List DV)->Option (List Int)
 |[]=>some []
 |[.k (.int .u8 n)]::r=>(uw r).map (n::·)
 |_::_=>none
def Qd(ns:List Int):ByteArray:=ns.foldl (λr n=>r.push (UInt8.ofNat n.toNat)) ByteArray.empty
def CY(ty:TypeId->Option aS)(s:S)(op:Op):Option uL:=
 match op with
 |.slice T x lo hi none=>
  match ty T with
  |some ⟨.sl e,_,_,_⟩=>(ty e).bind λed=>(rowsOf (s.arg x)).bind λxs=>(gN s lo).bind λl=>(gq s xs.length hi).map λh=>
   ⟨s.aI x/\fO s lo/\fO s hi/\0<=l/\l<=h/\h<=xs.length/\(∀r∈xs,r.length=ed.sz),.d (.sl ((xs.take h.toNat).drop l.toNat)),.no⟩
  |_=>none
 |.index T x i=>match ty T,s.arg x,s.arg i with
  |some ⟨.str,_,_,_⟩,.d (.k (.string z)),.d (.k (.int _ n))=>some ⟨s.aI x/\s.aI i/\0<=n/\n<z.size,.d (.k (.int .u8 (jh z n))),.no⟩
  |_,_,_=>none
 |.makeInterface T x=>match ty T,s.arg x with
  |some ⟨.iface _,_,_,_⟩,_=>none
  |some _,.d (.k v)=>some ⟨s.aI x,.d (.k (.iface T v)),.no⟩
  |some _,.agg cs=>(gL cs).map λvs=>⟨s.aI x,.d (.k (.iface T (.agg vs.toArray))),.no⟩
  |_,_=>none
 |.convert c b x=>match ty c,ty b,s.arg x with
  |some _,some ⟨.int k,_,_,_⟩,.d (.k (.int _ n))=>some ⟨s.aI x,.d (.k (.int k (k.wrap n))),.no⟩
  |some ⟨.sl e,_,_,_⟩,some ⟨.str,_,_,_⟩,.d (.sl xs)=>match ty e with
   |some ⟨.int .u8,_,_,_⟩=>(uw xs).map λns=>⟨s.aI x,.d (.k (.string (Qd ns))),.no⟩
   |_=>none
  |_,_,_=>none
 |_=>none
def CI(ty:TypeId->Option aS)(s:S)(x:Operand)(aT:TypeId):Option uL:=
 match ty aT,s.arg x with
  |some ⟨.iface _,_,_,_⟩,_=>none
  |some d,.d (.k (.iface t v))=>
   if t=aT then(match v with
    |.agg vs=>if vs.toList.all Value.oneCell' then some ⟨s.aI x,.dx [.agg (vs.toList.map kz),.d (.k (.bool true))],.no⟩else none
    |v=>if v.oneCell' then some ⟨s.aI x,.dx [.d (.k v),.d (.k (.bool true))],.no⟩else none)
   else(kS d).map λz=>⟨s.aI x,.dx [z,.d (.k (.bool false))],.no⟩
  |some d,.d (.k .nilIface)=>(kS d).map λz=>⟨s.aI x,.dx [z,.d (.k (.bool false))],.no⟩
  |_,_=>none
def bG(xs:List (List DV)):List LV:=xs.flatten.map .d
def kg(s:S)(sz:Nat)(x:LV):Option (Prop×Nat×List LV):=
 match x with
 |.vs n g z i len=>match s.H.obj n with
  |some (.vec _ g' z' cs _)=>if g'=g/\z=sz/\z'=sz then some (i*sz+len*sz<=cs.length,len,(cs.drop (i*sz)).take (len*sz))else none
  |_=>none
 |x=>(rowsOf x).map λxs=>(∀r∈xs,r.length=sz,xs.length,bG xs)
def jx(n:Nat)(xs:List LV):List LV:=(List.replicate n xs).flatten
def eD(ty:TypeId->Option aS)(bJ:Nat->Kd)(s:S)(dst:Option Nat)(b:Builtin)(tys:List TypeId)(args:List Operand):Option uL:=
 match b,tys,args with
 |.len,[t],[x]=>match ty t,s.arg x with
  |some ⟨.sl _,_,_,_⟩,.vs _ _ _ _ len=>some ⟨s.aI x,oD .i64 len,.no⟩
  |_,_=>none
 |.append,[t,t'],[x,y]=>
  if t=t' then
   match ty t with
   |some ⟨.sl e,_,_,_⟩=>(ty e).bind λed=>if ed.sz=0 then none else
    match s.arg x with
    |.d (.k (.slice none 0 0))=>match dst with
     |some d=>if bJ d=.vec then(kg s ed.sz (s.arg y)).map λp=>
       if p.2.1=0 then⟨s.aI x/\s.aI y/\p.1,.d (.k (.slice none 0 0)),.no⟩
       else⟨s.aI x/\s.aI y/\p.1/\ct s.H.next p.2.2/\p.2.1<=34359738368,.vs s.H.next 0 ed.sz 0 p.2.1,.gY (.vec e 0 ed.sz p.2.2 false)⟩else none
     |none=>none
    |.vs n g sz i len=>if sz=ed.sz/\i=0 then match s.H.obj n with
      |some (.vec e' g' sz' cs ex)=>if e'=e/\g'=g/\sz'=sz then(kg s sz (s.arg y)).map λp=>
        if p.2.1=0 then⟨s.aI x/\s.aI y/\p.1,.vs n g sz i len,.no⟩
        else if(len+p.2.1)*sz<=cs.length then⟨s.aI x/\s.aI y/\p.1/\ct s.H.next p.2.2,.vs n g sz 0 (len+p.2.1),.dK n (.vec e g sz (putAt cs (len*sz) p.2.2) ex)⟩
        else⟨s.aI x/\s.aI y/\p.1/\ct s.H.next p.2.2/\len*sz<=cs.length/\len+p.2.1<=34359738368,.vs n (g+1) sz 0 (len+p.2.1),.dK n (.vec e (g+1) sz (cs.take (len*sz)++p.2.2) false)⟩
       else none
      |_=>none
     else none
    |_=>none
   |_=>none
  else match ty t,ty t',s.arg x,s.arg y with
   |some ⟨.sl e,_,_,_⟩,some ⟨.int _,_,_,_⟩,.d (.k (.slice none 0 0)),.d (.k (.int .i64 n))=>(ty e).bind λed=>if ed.sz=0 then none else
    match dst with
    |some d=>if bJ d=.vec then some ⟨s.aI x/\s.aI y/\0<n/\n<=16777216,.vs s.H.next 0 ed.sz 0 n.toNat,.gY (.vec e 0 ed.sz (jx n.toNat (ed.zero.map kz)) false)⟩else none
    |none=>none
   |_,_,_,_=>none
 |.cap,[t],[x]=>match ty t,s.arg x with
  |some ⟨.sl _,_,_,_⟩,.d (.k (.slice none 0 0))=>some ⟨s.aI x,oD .i64 0,.no⟩
  |_,_=>none
 |_,_,_=>none
def Lg(ty:TypeId->Option aS)(s:S)(T:TypeId)(l c:Operand):Option uL:=
 match ty T,s.arg l,s.arg c with
 |some ⟨.sl e,_,_,_⟩,.d (.k (.int .i64 n)),.d (.k (.int .i64 m))=>(ty e).bind λed=>if ed.sz=0 then none else
  some ⟨s.aI l/\s.aI c/\0<=n/\n<=m/\m<=16777216,.vs s.H.next 0 ed.sz 0 n.toNat,.gY (.vec e 0 ed.sz (jx m.toNat (ed.zero.map kz)) true)⟩
 |_,_,_=>none
def bsV(ty:TypeId->Option aS)(bJ:Nat->Kd)(s:S)(dst:Option Nat)(T:TypeId)(len:Nat)(parts:Array (Nat×Operand)):Option uL:=
 match dst with
 |none=>none
 |some t=>if bJ t=.vec then(match ty T with
  |some ⟨.sl e,_,_,_⟩=>(ty e).bind λed=>
   if len=0/\parts.toList=[]/\ed.sz≠0 then some ⟨True,.vs s.H.next 0 ed.sz 0 0,.gY (.vec e 0 ed.sz [] true)⟩else
   if parts.toList.map (·.1)=List.range' 0 len/\parts.toList.length=len/\len*ed.sz<=16777216/\len<=16777216/\len≠0/\ed.sz≠0 then
    (tc (parts.toList.map λp=>(p.1,s.arg p.2))).map λrows=>⟨jH s parts.toList/\(∀r∈rows,r.length=ed.sz),.kQ s.H.next rows,.gY (.arr e ed.sz rows.length)⟩
   else none
  |_=>none)else none
def chunk(es:Nat):Nat->List LV->Option (List (List DV))
 |0,_=>some []
 |k+1,cs=>(sO (cs.take es)).bind λr=>(chunk es k (cs.drop es)).map λrs=>r::rs
def Qf(ty:TypeId->Option aS)(s:S)(T:TypeId)(x:Operand)(lo hi:Option Operand):Option uL:=
 match ty T,s.arg x with
 |some ⟨.sl e,_,_,_⟩,.vs n g sz i len=>(ty e).bind λed=>if ed.sz=sz then(gN s lo).bind λl=>(gq s len hi).map λh=>
   ⟨s.aI x/\fO s lo/\fO s hi/\0<=l/\l<=h/\h<=len,.vs n g sz (i+l.toNat) (h.toNat-l.toNat),.no⟩else none
 |some ⟨.sl e,_,_,_⟩,.d (.k (.slice none 0 0))=>(ty e).bind λed=>match lo with
  |none=>(gq s 0 hi).map λh=>⟨s.aI x/\fO s hi/\0<=h/\h<=(0:Int),.d (.k (.slice none 0 0)),.no⟩
  |some _=>none
 |some ⟨.arr N e,_,_,_⟩,.gp n off=>(ty e).bind λed=>(gN s lo).bind λl=>(gq s N hi).bind λh=>
   match s.H.obj n with
   |some (.box cs)=>(chunk ed.sz (h.toNat-l.toNat) (cs.drop (off+l.toNat*ed.sz))).map λrows=>
    ⟨s.aI x/\fO s lo/\fO s hi/\0<=l/\l<=h/\h<=N/\N<=16777216/\off+N*ed.sz<=cs.length,.d (.sl rows),.dK n (.fz cs)⟩
   |some (.fz cs)=>(chunk ed.sz (h.toNat-l.toNat) (cs.drop (off+l.toNat*ed.sz))).map λrows=>
    ⟨s.aI x/\fO s lo/\fO s hi/\0<=l/\l<=h/\h<=N/\N<=16777216/\off+N*ed.sz<=cs.length,.d (.sl rows),.no⟩
   |_=>none
 |_,_=>none
def bS(ty:TypeId->Option aS)(bP:TypeId->Option (List Sc))(bJ:Nat->Kd)(s:S)(dst:Option Nat)(op:Op):Option uL:=
 match op with
 |.call ⟨.builtin b,args,tys⟩=>(eD ty bJ s dst b tys.toList args.toList).or (rQ ty s b tys.toList args.toList)
 |.makeSlice T l c=>Lg ty s T l c
 |.slice T x lo hi none=>(Qf ty s T x lo hi).or (CY ty s op)
 |.lookup T m k ok=>
  match ty T with
  |some ⟨.map kt et,_,_,_⟩=>(gf ty bP kt).bind λkk=>(ty et).bind λed=>(kS ed).bind λz=>(keyOf (s.arg k)).bind λkey=>
   match s.arg m with
   |.gm n=>match s.H.obj n with
    |some (.map es)=>some ⟨s.aI m/\s.aI k/\kk.has key=true/\es.all (λe=>kk.has e.1)=true,
      if ok then .dx [(bz key es).getD z,.d (.k (.bool (bz key es).isSome))]else(bz key es).getD z,.no⟩
    |_=>none
   |.d (.k (.map none))=>some ⟨s.aI m/\s.aI k/\kk.has key=true,if ok then .dx [z,.d (.k (.bool false))]else z,.no⟩
   |_=>none
  |_=>none
 |.mapUpdate T m k v|.insert T m k v=>
  match ty T,s.arg m with
  |some ⟨.map kt et,_,_,_⟩,.gm n=>(gf ty bP kt).bind λkk=>(keyOf (s.arg k)).bind λkey=>
   match s.H.obj n with
   |some (.map es)=>some ⟨s.aI m/\s.aI k/\s.aI v/\kk.has key=true/\es.all (λe=>kk.has e.1)=true/\(s.arg v).nb s.H.next,.any,.dK n (.map (cg key (s.arg v) es))⟩
   |_=>none
  |_,_=>none
 |.mapEntry T m k=>
  match ty T,s.arg m with
  |some ⟨.map kt et,_,_,_⟩,.gm n=>(gf ty bP kt).bind λkk=>(ty et).bind λed=>(kS ed).bind λz=>(keyOf (s.arg k)).bind λkey=>
   match s.H.obj n with
   |some (.map es)=>some ⟨s.aI m/\s.aI k/\kk.has key=true/\es.all (λe=>kk.has e.1)=true,.dx [(bz key es).getD z,.d (.k (.int .i64 (pH key es)))],.dK n (.map (cg key ((bz key es).getD z) es))⟩
   |_=>none
  |_,_=>none
 |.entryStore T m t v=>
  match s.arg m,s.arg t with
  |.gm n,.d (.k (.int _ j))=>match s.H.obj n with
   |some (.map es)=>some ⟨s.aI m/\s.aI t/\s.aI v/\0<=j/\j<es.length/\(s.arg v).nb s.H.next,.any,.dK n (.map (yu j.toNat (s.arg v) es))⟩
   |_=>none
  |_,_=>none
 |.slice .. |.index .. |.makeInterface .. |.convert ..=>CY ty s op
 |.typeAssert x _ aT true=>CI ty s x aT
 |.binOp bo T x y yT=>(mz ty s bo T x y).or (cE ty bP bJ s dst (.binOp bo T x y yT))
 |op=>cE ty bP bJ s dst op
end Go.Aft
