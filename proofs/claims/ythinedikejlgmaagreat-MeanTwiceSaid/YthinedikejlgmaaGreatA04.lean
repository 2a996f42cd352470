import Derived.Test.YthinedikejlgmaaGreatA03
set_option linter.all false
namespace Go.Aft
def keyOf:LV->Option Value
 |.d (.k v)=>some v
 |.agg cs=>(ig cs).map λvs=>.agg vs.toArray
 |_=>none
inductive KK where
 |sc (k:Sc)|ag (ks:List Sc)
def KK.has:KK->Value->Bool
 |.sc k,v=>k.has v
 |.ag ks,.agg vs=>cp ks vs.toList
 |_,_=>false
def xd:Value->Value->Bool
 |.agg x,.agg y=>allEq x.toList y.toList
 |x,y=>vC x y
def gI(ty:TypeId->Option aU)(bR:TypeId->Option (List Sc))(t:TypeId):Option KK:=
 match ty t with
 |some ⟨.int k,_,_,_⟩=>some (.sc (.int k))
 |some ⟨.str,_,_,_⟩=>some (.sc .str)
 |some ⟨.bool,_,_,_⟩=>some (.sc .bool)
 |some ⟨.agg _,_,_,_⟩=>(bR t).map .ag
 |some ⟨.arr _ _,_,_,_⟩=>(bR t).map .ag
 |_=>none
def bD(k:Value):List (Value×LV)->Option LV
 |[]=>none
 |e::es=>if xd k e.1 then some e.2 else bD k es
def cr(k:Value)(v:LV):List (Value×LV)->List (Value×LV)
 |[]=>[(k,v)]
 |e::es=>if xd k e.1 then(k,v)::es else e::cr k v es
def pY(k:Value):List (Value×LV)->Nat
 |[]=>0
 |e::es=>if xd k e.1 then 0 else pY k es+1
def y7(j:Nat)(v:LV)(es:List (Value×LV)):List (Value×LV):=es.modify j λe=>(e.1,v)
def lG(d:aU):Option LV:=dz d (d.zero.map kz)
def gW(x y:Int):Int:=if y<x then y else x
def kj(x y:Int):Int:=if y>x then y else x
def slK(ty:TypeId->Option aU)(t:TypeId):Bool:=match ty t with
 |some ⟨.sl _,_,_,_⟩=>true
 |_=>false
def sG(ty:TypeId->Option aU)(s:S)(b:Builtin)(tys:List TypeId)(args:List Operand):Option vo:=
 match b,tys,args with
 |.len,[t],[x]=>
  match ty t with
  |some ⟨.str,_,_,_⟩=>match s.arg x with|.d (.k (.string z))=>some ⟨s.aI x,oV .i64 z.size,.no⟩|_=>none
  |some ⟨.sl _,_,_,_⟩=>(rowsOf (s.arg x)).map λxs=>⟨s.aI x,oV .i64 xs.length,.no⟩
  |some ⟨.map _ _,_,_,_⟩=>match s.arg x with
   |.gm n=>match s.H.obj n with|some (.map es)=>some ⟨s.aI x,oV .i64 es.length,.no⟩|_=>none
   |.d (.k (.map none))=>some ⟨s.aI x,oV .i64 0,.no⟩
   |_=>none
  |_=>none
 |.min,_,[x,y]=>match s.arg x,s.arg y with|.d (.k (.int k m)),.d (.k (.int _ n))=>some ⟨s.aI x/\s.aI y,oV k (gW m n),.no⟩|_,_=>none
 |.max,_,[x,y]=>match s.arg x,s.arg y with|.d (.k (.int k m)),.d (.k (.int _ n))=>some ⟨s.aI x/\s.aI y,oV k (kj m n),.no⟩|_,_=>none
 |.append,[t,t'],[x,y]=>
  if t=t'\/ slK ty t'=true then
   match ty t with
   |some ⟨.sl e,_,_,_⟩=>(ty e).bind λed=>if ed.sz=0 then none else(rowsOf (s.arg y)).bind λys=>
    match s.arg x with
    |.lF n xs=>match s.H.obj n with
     |some (.arr e' sz m)=>if e'=e/\sz=ed.sz then some ⟨s.aI x/\s.aI y/\m=xs.length/\(∀r∈xs,r.length=ed.sz)/\(∀r∈ys,r.length=ed.sz)/\(xs.length+ys.length)*ed.bt<=140737488355328/\xs.length+ys.length<=140737488355328,.lF n (xs++ys),.dV n (.arr e sz (xs.length+ys.length))⟩else none
     |_=>none
    |.d (.k (.slice none 0 0))=>some ⟨s.aI x/\s.aI y/\(∀r∈ys,r.length=ed.sz)/\ys.length*ed.bt<=140737488355328/\ys.length<=140737488355328,.lF s.H.next ys,.iD (.arr e ed.sz ys.length)⟩
    |_=>none
   |_=>none
  else none
 |_,_,_=>none
def ir(s:S):Option Operand->Option Int
 |none=>some 0
 |some o=>match s.arg o with|.d (.k (.int _ n))=>some n|_=>none
def gM(s:S)(len:Nat):Option Operand->Option Int
 |none=>some len
 |some o=>match s.arg o with|.d (.k (.int _ n))=>some n|_=>none
def gz(s:S):Option Operand->Prop
 |none=>True
 |some o=>s.aI o
def jH(z:ByteArray)(n:Int):Int:=match z[n.toNat]? with|some b=>b.toNat|none=>0
def rN(k:TK)(v:Value):Bool:=match k,v with
 |.ptr _,.pointer none=>true
 |.iface _,.nilIface=>true
 |.map _ _,.map none=>true
 |.func,.nilFunc=>true
 |.sl _,.slice none 0 0=>true
 |_,_=>false
def zl(k:TK)(x:LV):Option Bool:=match k,x with
 |.ptr _,.d (.k (.pointer none))=>some true
 |.ptr _,.lp ..=>some false
 |.ptr _,.gp ..=>some false
 |.ptr _,.ep ..=>some false
 |.iface _,.d (.k .nilIface)=>some true
 |.iface _,.d (.k (.iface ..))=>some false
 |.map _ _,.d (.k (.map none))=>some true
 |.map _ _,.gm _=>some false
 |.func,.d (.k .nilFunc)=>some true
 |.func,.fn ..=>some false
 |.sl _,.d (.k (.slice a _ _))=>some a.isNone
 |.sl _,.d (.sl (_::_))=>some false
 |.sl _,.vs ..=>some false
 |_,_=>none
def mM(ty:TypeId->Option aU)(s:S)(op:BinOp)(T:TypeId)(x y:Operand):Option vo:=
 match y with
 |.const v=>(ty T).bind λd=>if rN d.k v then(zl d.k (s.arg x)).bind λb=>(match op with
   |.eql=>some ⟨s.aI x,.d (.k (.bool b)),.no⟩
   |.neq=>some ⟨s.aI x,.d (.k (.bool (!b))),.no⟩
   |_=>none)else none
 |_=>none
def u5:List (List DV)->Option (List Int)
 |[]=>some []
 |[.k (.int .u8 n)]::r=>(u5 r).map (n::·)
 |_::_=>none
def Rb(ns:List Int):ByteArray:=ns.foldl (λr n=>r.push (UInt8.ofNat n.toNat)) ByteArray.empty
def DG(ty:TypeId->Option aU)(s:S)(op:Op):Option vo:=
 match op with
 |.slice T x lo hi none=>
  match ty T with
  |some ⟨.sl e,_,_,_⟩=>(ty e).bind λed=>(rowsOf (s.arg x)).bind λxs=>(ir s lo).bind λl=>(gM s xs.length hi).map λh=>
   ⟨s.aI x/\gz s lo/\gz s hi/\0<=l/\l<=h/\h<=xs.length/\(∀r∈xs,r.length=ed.sz),.d (.sl ((xs.take h.toNat).drop l.toNat)),.no⟩
  |_=>none
 |.index T x i=>match ty T,s.arg x,s.arg i with
  |some ⟨.str,_,_,_⟩,.d (.k (.string z)),.d (.k (.int _ n))=>some ⟨s.aI x/\s.aI i/\0<=n/\n<z.size,.d (.k (.int .u8 (jH z n))),.no⟩
  |_,_,_=>none
 |.makeInterface T x=>match ty T,s.arg x with
  |some ⟨.iface _,_,_,_⟩,_=>none
  |some _,.d (.k v)=>some ⟨s.aI x,.d (.k (.iface T v)),.no⟩
  |some _,.agg cs=>(ig cs).map λvs=>⟨s.aI x,.d (.k (.iface T (.agg vs.toArray))),.no⟩
  |_,_=>none
 |.convert c b x=>match ty c,ty b,s.arg x with
  |some _,some ⟨.int k,_,_,_⟩,.d (.k (.int _ n))=>some ⟨s.aI x,.d (.k (.int k (k.wrap n))),.no⟩
  |some ⟨.sl e,_,_,_⟩,some ⟨.str,_,_,_⟩,.d (.sl xs)=>match ty e with
   |some ⟨.int .u8,_,_,_⟩=>(u5 xs).map λns=>⟨s.aI x,.d (.k (.string (Rb ns))),.no⟩
   |_=>none
  |_,_,_=>none
 |_=>none
def Dq(ty:TypeId->Option aU)(s:S)(x:Operand)(aT:TypeId):Option vo:=
 match ty aT,s.arg x with
  |some ⟨.iface _,_,_,_⟩,_=>none
  |some d,.d (.k (.iface t v))=>
   if t=aT then(match v with
    |.agg vs=>if vs.toList.all Value.oneCell' then some ⟨s.aI x,.dh [.agg (vs.toList.map kz),.d (.k (.bool true))],.no⟩else none
    |v=>if v.oneCell' then some ⟨s.aI x,.dh [.d (.k v),.d (.k (.bool true))],.no⟩else none)
   else(lG d).map λz=>⟨s.aI x,.dh [z,.d (.k (.bool false))],.no⟩
  |some d,.d (.k .nilIface)=>(lG d).map λz=>⟨s.aI x,.dh [z,.d (.k (.bool false))],.no⟩
  |_,_=>none
def bM(xs:List (List DV)):List LV:=xs.flatten.map .d
def kO(s:S)(sz:Nat)(x:LV):Option (Prop×Nat×List LV):=
 match x with
 |.vs n g z i len=>match s.H.obj n with
  |some (.vec _ g' z' cs _)=>if g'=g/\z=sz/\z'=sz then some (i*sz+len*sz<=cs.length,len,(cs.drop (i*sz)).take (len*sz))else none
  |_=>none
 |x=>(rowsOf x).map λxs=>(∀r∈xs,r.length=sz,xs.length,bM xs)
def jS(n:Nat)(xs:List LV):List LV:=(List.replicate n xs).flatten
def eR(ty:TypeId->Option aU)(bO:Nat->Kd)(s:S)(dst:Option Nat)(b:Builtin)(tys:List TypeId)(args:List Operand):Option vo:=
 match b,tys,args with
 |.len,[t],[x]=>match ty t,s.arg x with
  |some ⟨.sl _,_,_,_⟩,.vs _ _ _ _ len=>some ⟨s.aI x,oV .i64 len,.no⟩
  |_,_=>none
 |.append,[t,t'],[x,y]=>
  if t=t' then
   match ty t with
   |some ⟨.sl e,_,_,_⟩=>(ty e).bind λed=>if ed.sz=0 then none else
    match s.arg x with
    |.d (.k (.slice none 0 0))=>match dst with
     |some d=>if bO d=.vec then(kO s ed.sz (s.arg y)).map λp=>
       if p.2.1=0 then⟨s.aI x/\s.aI y/\p.1,.d (.k (.slice none 0 0)),.no⟩
       else⟨s.aI x/\s.aI y/\p.1/\cD s.H.next p.2.2/\p.2.1<=34359738368,.vs s.H.next 0 ed.sz 0 p.2.1,.iD (.vec e 0 ed.sz p.2.2 false)⟩else none
     |none=>none
    |.vs n g sz i len=>if sz=ed.sz/\i=0 then match s.H.obj n with
      |some (.vec e' g' sz' cs ex)=>if e'=e/\g'=g/\sz'=sz then(kO s sz (s.arg y)).map λp=>
        if p.2.1=0 then⟨s.aI x/\s.aI y/\p.1,.vs n g sz i len,.no⟩
        else if(len+p.2.1)*sz<=cs.length then⟨s.aI x/\s.aI y/\p.1/\cD s.H.next p.2.2,.vs n g sz 0 (len+p.2.1),.dV n (.vec e g sz (putAt cs (len*sz) p.2.2) ex)⟩
        else⟨s.aI x/\s.aI y/\p.1/\cD s.H.next p.2.2/\len*sz<=cs.length/\len+p.2.1<=34359738368,.vs n (g+1) sz 0 (len+p.2.1),.dV n (.vec e (g+1) sz (cs.take (len*sz)++p.2.2) false)⟩
       else none
      |_=>none
     else none
    |_=>none
   |_=>none
  else match ty t,ty t',s.arg x,s.arg y with
   |some ⟨.sl e,_,_,_⟩,some ⟨.int _,_,_,_⟩,.d (.k (.slice none 0 0)),.d (.k (.int .i64 n))=>(ty e).bind λed=>if ed.sz=0 then none else
    match dst with
    |some d=>if bO d=.vec then some ⟨s.aI x/\s.aI y/\0<n/\n<=16777216,.vs s.H.next 0 ed.sz 0 n.toNat,.iD (.vec e 0 ed.sz (jS n.toNat (ed.zero.map kz)) false)⟩else none
    |none=>none
   |_,_,_,_=>none
 |.cap,[t],[x]=>match ty t,s.arg x with
  |some ⟨.sl _,_,_,_⟩,.d (.k (.slice none 0 0))=>some ⟨s.aI x,oV .i64 0,.no⟩
  |_,_=>none
 |_,_,_=>none
def L6(ty:TypeId->Option aU)(s:S)(T:TypeId)(l c:Operand):Option vo:=
 match ty T,s.arg l,s.arg c with
 |some ⟨.sl e,_,_,_⟩,.d (.k (.int .i64 n)),.d (.k (.int .i64 m))=>(ty e).bind λed=>if ed.sz=0 then none else
  some ⟨s.aI l/\s.aI c/\0<=n/\n<=m/\m<=16777216,.vs s.H.next 0 ed.sz 0 n.toNat,.iD (.vec e 0 ed.sz (jS m.toNat (ed.zero.map kz)) true)⟩
 |_,_,_=>none
def bsV(ty:TypeId->Option aU)(bO:Nat->Kd)(s:S)(dst:Option Nat)(T:TypeId)(len:Nat)(parts:Array (Nat×Operand)):Option vo:=
 match dst with
 |none=>none
 |some t=>if bO t=.vec then(match ty T with
  |some ⟨.sl e,_,_,_⟩=>(ty e).bind λed=>
   if len=0/\parts.toList=[]/\ed.sz≠0 then some ⟨True,.vs s.H.next 0 ed.sz 0 0,.iD (.vec e 0 ed.sz [] true)⟩else
   if parts.toList.map (·.1)=List.range' 0 len/\parts.toList.length=len/\len*ed.sz<=16777216/\len<=16777216/\len≠0/\ed.sz≠0 then
    (tW (parts.toList.map λp=>(p.1,s.arg p.2))).map λrows=>⟨j7 s parts.toList/\(∀r∈rows,r.length=ed.sz),.lF s.H.next rows,.iD (.arr e ed.sz rows.length)⟩
   else none
  |_=>none)else none
def chunk(es:Nat):Nat->List LV->Option (List (List DV))
 |0,_=>some []
 |k+1,cs=>(tF (cs.take es)).bind λr=>(chunk es k (cs.drop es)).map λrs=>r::rs
def Rf(ty:TypeId->Option aU)(s:S)(T:TypeId)(x:Operand)(lo hi:Option Operand):Option vo:=
 match ty T,s.arg x with
 |some ⟨.sl e,_,_,_⟩,.vs n g sz i len=>(ty e).bind λed=>if ed.sz=sz then(ir s lo).bind λl=>(gM s len hi).map λh=>
   ⟨s.aI x/\gz s lo/\gz s hi/\0<=l/\l<=h/\h<=len,.vs n g sz (i+l.toNat) (h.toNat-l.toNat),.no⟩else none
 |some ⟨.sl e,_,_,_⟩,.d (.k (.slice none 0 0))=>(ty e).bind λed=>match lo with
  |none=>(gM s 0 hi).map λh=>⟨s.aI x/\gz s hi/\0<=h/\h<=(0:Int),.d (.k (.slice none 0 0)),.no⟩
  |some _=>none
 |some ⟨.arr N e,_,_,_⟩,.gp n off=>(ty e).bind λed=>(ir s lo).bind λl=>(gM s N hi).bind λh=>
   match s.H.obj n with
   |some (.box cs)=>(chunk ed.sz (h.toNat-l.toNat) (cs.drop (off+l.toNat*ed.sz))).map λrows=>
    ⟨s.aI x/\gz s lo/\gz s hi/\0<=l/\l<=h/\h<=N/\N<=16777216/\off+N*ed.sz<=cs.length,.d (.sl rows),.dV n (.fz cs)⟩
   |some (.fz cs)=>(chunk ed.sz (h.toNat-l.toNat) (cs.drop (off+l.toNat*ed.sz))).map λrows=>
    ⟨s.aI x/\gz s lo/\gz s hi/\0<=l/\l<=h/\h<=N/\N<=16777216/\off+N*ed.sz<=cs.length,.d (.sl rows),.no⟩
   |_=>none
 |_,_=>none
def bV(ty:TypeId->Option aU)(bR:TypeId->Option (List Sc))(bO:Nat->Kd)(s:S)(dst:Option Nat)(op:Op):Option vo:=
 match op with
 |.call ⟨.builtin b,args,tys⟩=>(eR ty bO s dst b tys.toList args.toList).or (sG ty s b tys.toList args.toList)
 |.makeSlice T l c=>L6 ty s T l c
 |.slice T x lo hi none=>(Rf ty s T x lo hi).or (DG ty s op)
 |.lookup T m k ok=>
  match ty T with
  |some ⟨.map kt et,_,_,_⟩=>(gI ty bR kt).bind λkk=>(ty et).bind λed=>(lG ed).bind λz=>(keyOf (s.arg k)).bind λkey=>
   match s.arg m with
   |.gm n=>match s.H.obj n with
    |some (.map es)=>some ⟨s.aI m/\s.aI k/\kk.has key=true/\es.all (λe=>kk.has e.1)=true,
      if ok then .dh [(bD key es).getD z,.d (.k (.bool (bD key es).isSome))]else(bD key es).getD z,.no⟩
    |_=>none
   |.d (.k (.map none))=>some ⟨s.aI m/\s.aI k/\kk.has key=true,if ok then .dh [z,.d (.k (.bool false))]else z,.no⟩
   |_=>none
  |_=>none
 |.mapUpdate T m k v|.insert T m k v=>
  match ty T,s.arg m with
  |some ⟨.map kt et,_,_,_⟩,.gm n=>(gI ty bR kt).bind λkk=>(keyOf (s.arg k)).bind λkey=>
   match s.H.obj n with
   |some (.map es)=>some ⟨s.aI m/\s.aI k/\s.aI v/\kk.has key=true/\es.all (λe=>kk.has e.1)=true/\(s.arg v).nb s.H.next,.any,.dV n (.map (cr key (s.arg v) es))⟩
   |_=>none
  |_,_=>none
 |.mapEntry T m k=>
  match ty T,s.arg m with
  |some ⟨.map kt et,_,_,_⟩,.gm n=>(gI ty bR kt).bind λkk=>(ty et).bind λed=>(lG ed).bind λz=>(keyOf (s.arg k)).bind λkey=>
   match s.H.obj n with
   |some (.map es)=>some ⟨s.aI m/\s.aI k/\kk.has key=true/\es.all (λe=>kk.has e.1)=true,.dh [(bD key es).getD z,.d (.k (.int .i64 (pY key es)))],.dV n (.map (cr key ((bD key es).getD z) es))⟩
   |_=>none
  |_,_=>none
 |.entryStore T m t v=>
  match s.arg m,s.arg t with
  |.gm n,.d (.k (.int _ j))=>match s.H.obj n with
   |some (.map es)=>some ⟨s.aI m/\s.aI t/\s.aI v/\0<=j/\j<es.length/\(s.arg v).nb s.H.next,.any,.dV n (.map (y7 j.toNat (s.arg v) es))⟩
   |_=>none
  |_,_=>none
 |.slice .. |.index .. |.makeInterface .. |.convert ..=>DG ty s op
 |.typeAssert x _ aT true=>Dq ty s x aT
 |.binOp bo T x y yT=>(mM ty s bo T x y).or (cG ty bR bO s dst (.binOp bo T x y yT))
 |op=>cG ty bR bO s dst op
end Go.Aft
