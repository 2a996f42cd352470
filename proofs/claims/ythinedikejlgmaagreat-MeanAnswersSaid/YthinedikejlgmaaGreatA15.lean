import Derived.Test.YthinedikejlgmaaGreatA14
import Derived.Scope
set_option linter.all false
section
namespace Go.Aft
theorem Et{P:Program}{b:Frame}{a:Act}{k:List Item}{cs:List Frame}{w:World}{c:Code}:step P (lone (b.atR a (.code (.scope c)::k)) cs w)=.next (lone (b.atR a (.code c:: .inScope c::k)) cs w):=
 step_lone_go (by simp[stepG,stepG.exec,Frame.atR])
theorem zp{P:Program}{b:Frame}{a:Act}{k:List Item}{cs:List Frame}{w:World}{c:Code}:step P (lone (b.atR a (.inScope c::k)) cs w)=.next (lone (b.atR a k) cs w):=
 step_lone_go (by simp[stepG,stepG.exec,Frame.atR])
theorem NM{P:Program}{rd:RD}{c:Code}{Q:Exit->Act->World->Prop}{a:Act}{w:World}(h:ze P rd c (Exit.noGoto Q) a w):ze P rd (.scope c) Q a w:=by
 intro b k cs hro hb;have one:=StepsIn.one (P:=P) (fenced_wide P (lone (b.atR a (.code (.scope c)::k)) cs w)) Et;obtain⟨e,a1,w1,hq,fV⟩:=h b (.inScope c::k) cs hro hb;cases e with
 |normal=>exact⟨.normal,a1,w1,hq,one.trans (StepsIn.trans fV (.one (fenced_wide P _) zp))⟩
 |exit j=>
  have hx:exitTo j (.inScope c::k)=exitTo j k:=by simp[exitTo]
  exact⟨.exit j,a1,w1,hq,.of_steps one ⟨λk' hk=>fV.1 k' (hx.trans hk),λhr' hk=>fV.2 hr' (hx.trans hk)⟩⟩
 |goto l=>exact hq.elim
 |ret=>exact⟨_,a1,w1,hq,.of_steps one fV⟩
 |panic ch=>exact⟨_,a1,w1,hq,.of_steps one fV⟩
 |outgrown=>exact⟨_,a1,w1,hq,.of_steps one fV⟩
def Qk(Q:AE->S->Prop):AE->S->Prop
 |.goto _,_=>False
 |e,s=>Q e s
theorem eV.scope{P:Program}{rd:RD}{c:Code}{s:S}{Q:AE->S->Prop}(h:eV P rd c s (Qk Q)):eV P rd (.scope c) s Q:=by
 intro E a w hs;refine NM (gx (h E a w hs) ?_);rintro e a' w' ⟨ae,s',q,r⟩;cases ae with
 |normal=>obtain⟨rfl,r'⟩:=r.normal;exact⟨.normal,s',q,r'⟩
 |exit i=>obtain⟨_,G,lm,_,_,_,_,he⟩:=id r;cases he;exact⟨.exit i,s',q,r⟩
 |goto l=>exact q.elim
 |ret=>obtain⟨_,G,lm,_,_,_,_,he⟩:=id r;cases he;exact⟨.ret,s',q,r⟩
 |dY x=>obtain⟨_,G,lm,_,_,_,_,v,rfl,_⟩:=id r;exact⟨.dY x,s',q,r⟩
def SC[Q:QT]:AE->S->Prop:=Qk Q.q
@[simp] theorem SC_normal {Q:QT} {s:S}:@SC Q .normal s=Q.q .normal s:=rfl
@[simp] theorem SC_exit {Q:QT} {s:S} {i:Nat}:@SC Q (.exit i) s=Q.q (.exit i) s:=rfl
@[simp] theorem SC_ret {Q:QT} {s:S}:@SC Q .ret s=Q.q .ret s:=rfl
@[simp] theorem SC_pan {Q:QT} {s:S} {x:LV}:@SC Q (.dY x) s=Q.q (.dY x) s:=rfl
theorem AW.scope{P:Program}{c:Cx}(hc:c.ok P){x:Code}{s:S}{Q:QT}(h:@EV P c ⟨x⟩ s ⟨@SC Q⟩):@AW P c.rd ⟨.scope x⟩ s Q:=eV.scope (EV.sound hc h)
structure gD(H:GH):Prop where
 none:∀n,H.next<=n->H.obj n=none
 nb:∀n o,H.obj n=some o->o.nb H.next
theorem JQ.gD{E:sW}{ae:AE}{s:S}{e:Exit}{a:Act}{w:World}(h:JQ E ae s e a w):Go.Aft.gD s.H:=by
 obtain⟨_,G,lm,_,hM,_⟩:=h;refine⟨λn hn=>?_,λn o ho=>BX (hM.gX n o ho).2⟩
 cases ho:s.H.obj n with
 |none=>rfl
 |some o=>have:=(hM.gX n o ho).1;omega
theorem gD.lt{H:GH}(h:gD H){n:Nat}{o:GO}(ho:H.obj n=some o):n<H.next:=by
 rcases Nat.lt_or_ge n H.next with q|q
 ·exact q
 ·rw[h.none n q]at ho;cases ho
theorem gD.drop{H0 H:GH}(h:gD H)(hn:H0.next<=H.next):Drop H0 H H:=⟨Nat.le_refl _,hn,λ_ _=>rfl,h.none,λn o ho=>.inr (h.nb n o ho)⟩
def bD(P:Program)(c:Cx)(rs:List ResultVar)(H0:GH)(R:CE->GH->Prop):AE->S->Prop
 |.normal,s|.ret,s=>gD s.H->eY P c rs s H0 R s.df .ret s.H
 |.dY x,s=>gD s.H->eY P c rs s H0 R s.df (.dY x) s.H
 |_,_=>False
theorem By{P:Program}{c:Cx}{rs:List ResultVar}{H0:GH}{R:CE->GH->Prop}{ae:AE}{s:S}(h:bD P c rs H0 R ae s)(hn:gD s.H):Np P c rs H0 R ae s:=by
 cases ae<;>first|exact h hn|exact h
theorem eV.Q0{P:Program}{rd:RD}{x:Code}{s:S}{Q Q':AE->S->Prop}(h:eV P rd x s Q)(hq:∀ae s',gD s'.H->Q ae s'->Q' ae s'):eV P rd x s Q':=
 λE a w hs=>gx (h E a w hs) λe a w ⟨ae,s',q,r⟩=>⟨ae,s',hq _ _ r.gD q,r⟩
theorem aF.bD{P:Program}{c:Cx}(hc:c.ok P){f:FuncId}{fn:Func}{code:Code}(hf:P.funcs[f]?=some fn)(hb:fn.body=some code)(he:Enters P f){args:List LV}(hn:args.length<=fn.ntmps)(hrd:c.rd.tu f=true){H:GH}{R:CE->GH->Prop}
  (h:iR args->gD H->@EV P c ⟨code⟩ ⟨fK 0 args,uF,H,fn.ntmps,[]⟩ ⟨Go.Aft.bD P c fn.results.toList H R⟩):aF P f args H R:=
 ⟨he,jv.fits λhfit G w vs hM pO hargs=>by
  have hw:gD H:=⟨λn hn=>by
   cases ho:H.obj n with
   |none=>rfl
   |some o=>have:=(hM.gX n o ho).1;omega,λn o ho=>BX (hM.gX n o ho).2⟩
  exact(jv.iA hc hf hb hn hrd λ_=>eV.Q0 (EV.sound hc (h hfit hw)) λae s' q1 q2=>By q2 q1) G w vs hM pO hargs⟩
theorem aF.dV{P:Program}{c:Cx}(hc:c.ok P){f:FuncId}{fn:Func}{code:Code}(hf:P.funcs[f]?=some fn)(hb:fn.body=some code)(he:Enters P f){args:List LV}(hn:args.length<=fn.ntmps)(hrd:c.rd.tu f=true){H:GH}{R:CE->GH->Prop}
  (h:iR args->gD H->@AW P c.rd ⟨code⟩ ⟨fK 0 args,uF,H,fn.ntmps,[]⟩ ⟨Go.Aft.bD P c fn.results.toList H R⟩):aF P f args H R:=
 ⟨he,jv.fits λhfit G w vs hM pO hargs=>by
  have hw:gD H:=⟨λn hn=>by
   cases ho:H.obj n with
   |none=>rfl
   |some o=>have:=(hM.gX n o ho).1;omega,λn o ho=>BX (hM.gX n o ho).2⟩
  exact(jv.iA hc hf hb hn hrd λ_=>eV.Q0 (h hfit hw) λae s' q1 q2=>By q2 q1) G w vs hM pO hargs⟩
attribute [simp] Go.Aft.bD
structure GH.same(N:Nat)(H H':GH):Prop where
 next:H'.next=H.next
 obj:∀m,N<=m->H'.obj m=H.obj m
theorem GH.same.refl{N:Nat}{H:GH}:GH.same N H H:=⟨rfl,λ_ _=>rfl⟩
theorem GH.same.trans{N:Nat}{H H1 H2:GH}(h:GH.same N H H1)(k:GH.same N H1 H2):GH.same N H H2:=⟨k.next.trans h.next,λm hm=>(k.obj m hm).trans (h.obj m hm)⟩
def GH.cut(N:Nat)(H:GH):GH:=⟨λm=>if m<N then H.obj m else none,N⟩
@[simp] theorem GH.vr {N:Nat} {H:GH}:(H.cut N).next=N:=rfl
theorem GH.wT{N m:Nat}{H:GH}(h:m<N):(H.cut N).obj m=H.obj m:=if_pos h
theorem GH.L4{N m:Nat}{H:GH}(h:N<=m):(H.cut N).obj m=none:=if_neg (by omega)
theorem gD.VY{H0 H:GH}(h:gD H){N:Nat}(hN:N<=H.next)(h0:H0.next<=N)(hnb:∀m o,m<N->H.obj m=some o->H0.obj m=some o\/ o.nb N):Drop H0 H (H.cut N):=
 ⟨hN,h0,λn hn=>GH.wT hn,λn hn=>GH.L4 hn,λn o ho=>by
  by_cases e:n<N
  ·rw[GH.wT e]at ho;exact hnb n o e ho
  ·rw[GH.L4 (by omega)]at ho;cases ho⟩
structure Iter(P:Program)(n N:Nat)(rows:List LV)(J:Nat->GH->Prop)(St:GH->Prop)(Pn:LV->GH->Prop):Prop where
 stJ:∀{i:Nat} {H H':GH},J i H->(∀m,m<N->H'.obj m=H.obj m)->N<=H'.next->J i H'
 stS:∀{H H':GH},St H->(∀m,m<N->H'.obj m=H.obj m)->N<=H'.next->St H'
 stP:∀{x:LV} {H H':GH},Pn x H->(∀m,m<N->H'.obj m=H.obj m)->N<=H'.next->x.nb N/\Pn x H'
 nbJ:∀{i:Nat} {H:GH},J i H->∀m o,m<N->H.obj m=some o->o.nb N
 nbS:∀{H:GH},St H->∀m o,m<N->H.obj m=some o->o.nb N
 nbP:∀{x:LV} {H:GH},Pn x H->∀m o,m<N->H.obj m=some o->o.nb N
 step:∀{i:Nat} {H:GH} {r:LV},rows[i]?=some r->N<=H.next->gD H->J i H->dX P n [r] H λce H'=>GH.same N H H'/\(match ce with
  |.ret v=>v=bool true/\J (i+1) H'\/ v=bool false/\St H'
  |.dY x=>Pn x H')
def iterR(N:Nat)(J:Nat->GH->Prop)(St:GH->Prop)(Pn:LV->GH->Prop)(neg:Bool)(j:Nat)(H:GH):CE->GH->Prop:=λce H'=>GH.same N H H'/\(match ce with
  |.ret v=>v=bool (!neg)/\J j H'\/ v=bool neg/\St H'
  |.dY x=>Pn x H')
abbrev ca:=ByteArray
inductive bc where
 |mk (op n:Int) (kids:List bc)
inductive bw where
 |mk (op:Int) (name:ca) (n fold:Int) (aD:List bc) (kids:List bw)
structure TJ where
 name:ca
 exp:bw
structure Prog where
 az:List ca
 aj:List TJ
structure Rec where
 at_:Int
 key:Int
 val:Int
 deriving DecidableEq
structure dg where
 Kb:Int
 src:Int
 id:Int
 Mp:Int
 aa:Rec
 deriving DecidableEq
structure Event where
 src:Int
 id:Int
 aa:Rec
 deriving DecidableEq
structure Room where
 most:Int
 low:Int
 high:Int
 deriving DecidableEq
instance:Inhabited bc:=⟨.mk 0 0 []⟩
instance:Inhabited bw:=⟨.mk 0 ⟨#[]⟩ 0 0 [] []⟩
instance:Inhabited TJ:=⟨⟨⟨#[]⟩,default⟩⟩
instance:Inhabited Rec:=⟨⟨0,0,0⟩⟩
instance:Inhabited dg:=⟨⟨0,0,0,0,default⟩⟩
instance:Inhabited Event:=⟨⟨0,0,default⟩⟩
def bc.op:bc->Int|.mk op _ _=>op
def bc.n:bc->Int|.mk _ n _=>n
def bc.kids:bc->List bc|.mk _ _ k=>k
@[simp] theorem bc.op_mk {op n:Int} {k:List bc}:(bc.mk op n k).op=op:=rfl
@[simp] theorem bc.n_mk {op n:Int} {k:List bc}:(bc.mk op n k).n=n:=rfl
@[simp] theorem bc.Vl {op n:Int} {k:List bc}:(bc.mk op n k).kids=k:=rfl
def bw.op:bw->Int|.mk op _ _ _ _ _=>op
def bw.name:bw->ca|.mk _ x _ _ _ _=>x
def bw.n:bw->Int|.mk _ _ x _ _ _=>x
def bw.fold:bw->Int|.mk _ _ _ x _ _=>x
def bw.aD:bw->List bc|.mk _ _ _ _ x _=>x
def bw.kids:bw->List bw|.mk _ _ _ _ _ x=>x
section
variable {op n fold:Int} {name:ca} {aD:List bc} {kids:List bw}
@[simp] theorem bw.op_mk:(bw.mk op name n fold aD kids).op=op:=rfl
@[simp] theorem bw.Ve:(bw.mk op name n fold aD kids).name=name:=rfl
@[simp] theorem bw.n_mk:(bw.mk op name n fold aD kids).n=n:=rfl
@[simp] theorem bw.fold_mk:(bw.mk op name n fold aD kids).fold=fold:=rfl
@[simp] theorem bw.calcs_mk:(bw.mk op name n fold aD kids).aD=aD:=rfl
@[simp] theorem bw.Vl:(bw.mk op name n fold aD kids).kids=kids:=rfl
end
def dI(n:Int):DV:=.k (.int .i64 n)
def dS(s:ca):DV:=.k (.string s)
def dB(b:Bool):DV:=.k (.bool b)
@[simp] theorem dI_eq (n:Int):dI n=.k (.int .i64 n):=rfl
@[simp] theorem dS_eq (n:ca):dS n=.k (.string n):=rfl
@[simp] theorem dB_eq (n:Bool):dB n=.k (.bool n):=rfl
def rI(n:Int):List DV:=[.k (.int .i64 n)]
def rS(s:ca):List DV:=[.k (.string s)]
mutual
def bB:bc->List DV
 |.mk op n kids=>[.k (.int .i64 op),.k (.int .i64 n),.sl (pz kids)]
def pz:List bc->List (List DV)
 |[]=>[]
 |c::cs=>bB c::pz cs
end
theorem jM:∀l:List bc,pz l=l.map bB
 |[]=>rfl
 |c::cs=>by simp[pz,jM cs]
theorem aN(c:bc):bB c=[.k (.int .i64 c.op),.k (.int .i64 c.n),.sl (c.kids.map bB)]:=by
 obtain⟨op,n,kids⟩:=c;simp[bB,jM,bc.op,bc.n,bc.kids]
mutual
def aQ:bw->List DV
 |.mk op name n fold aD kids=>[.k (.int .i64 op),.k (.string name),.k (.int .i64 n),.k (.int .i64 fold),.sl (pz aD),.sl (Hg kids)]
def Hg:List bw->List (List DV)
 |[]=>[]
 |c::cs=>aQ c::Hg cs
end
theorem vV:∀l:List bw,Hg l=l.map aQ
 |[]=>rfl
 |c::cs=>by simp[Hg,vV cs]
theorem ai(e:bw):aQ e=[.k (.int .i64 e.op),.k (.string e.name),.k (.int .i64 e.n),.k (.int .i64 e.fold),.sl (e.aD.map bB),.sl (e.kids.map aQ)]:=by
 obtain⟨op,name,n,fold,aD,kids⟩:=e;simp[aQ,jM,vV,bw.op,bw.name,bw.n,bw.fold,bw.aD,bw.kids]
def ez(d:TJ):List DV:=.k (.string d.name)::aQ d.exp
def ax(p:Prog):List DV:=[.sl (p.az.map rS),.sl (p.aj.map ez)]
def bN(r:Rec):List DV:=[.k (.int .i64 r.at_),.k (.int .i64 r.key),.k (.int .i64 r.val)]
def cI(n:dg):List DV:=.k (.int .i64 n.Kb):: .k (.int .i64 n.src):: .k (.int .i64 n.id):: .k (.int .i64 n.Mp)::bN n.aa
def bg(e:Event):List DV:=.k (.int .i64 e.src):: .k (.int .i64 e.id)::bN e.aa
def lv(r:List DV):LV:=.agg (r.map .d)
def sl(xs:List (List DV)):LV:=.d (.sl xs)
@[simp] theorem Q2 (r:List DV):lv r=.agg (r.map .d):=rfl
@[simp] theorem sl_eq (xs:List (List DV)):sl xs=.d (.sl xs):=rfl
@[simp] theorem MG (n:Nat):∀ r:List DV,ct n (r.map .d)=True
 |[]=>by simp
 |d::r=>by simp[MG n r]
@[simp] theorem rS_len (s:ca):(rS s).length=1:=rfl
@[simp] theorem rI_len (s:Int):(rI s).length=1:=rfl
@[simp] theorem sx (c:bc):(bB c).length=3:=by rw [aN];rfl
@[simp] theorem Hh (c:bw):(aQ c).length=6:=by rw [ai];rfl
@[simp] theorem Qz (c:TJ):(ez c).length=7:=by simp [ez]
end Go.Aft
end
