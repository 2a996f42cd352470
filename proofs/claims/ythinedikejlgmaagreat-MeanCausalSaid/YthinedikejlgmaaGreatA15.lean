import Derived.Test.YthinedikejlgmaaGreatA14
import Derived.Scope
set_option linter.all false
section
namespace Go.Aft
theorem Fh{P:Program}{b:Frame}{a:Act}{k:List Item}{cs:List Frame}{w:World}{c:Code}:step P (lone (b.atR a (.code (.scope c)::k)) cs w)=.next (lone (b.atR a (.code c:: .inScope c::k)) cs w):=
 step_lone_go (by simp[stepG,stepG.exec,Frame.atR])
theorem z7{P:Program}{b:Frame}{a:Act}{k:List Item}{cs:List Frame}{w:World}{c:Code}:step P (lone (b.atR a (.inScope c::k)) cs w)=.next (lone (b.atR a k) cs w):=
 step_lone_go (by simp[stepG,stepG.exec,Frame.atR])
theorem OG{P:Program}{rd:RD}{c:Code}{Q:Exit->Act->World->Prop}{a:Act}{w:World}(h:zP P rd c (Exit.noGoto Q) a w):zP P rd (.scope c) Q a w:=by
 intro b k cs hro hb;have one:=StepsIn.one (P:=P) (fenced_wide P (lone (b.atR a (.code (.scope c)::k)) cs w)) Fh;obtain⟨e,a1,w1,hq,gE⟩:=h b (.inScope c::k) cs hro hb;cases e with
 |normal=>exact⟨.normal,a1,w1,hq,one.trans (StepsIn.trans gE (.one (fenced_wide P _) z7))⟩
 |exit j=>
  have hx:exitTo j (.inScope c::k)=exitTo j k:=by simp[exitTo]
  exact⟨.exit j,a1,w1,hq,.of_steps one ⟨λk' hk=>gE.1 k' (hx.trans hk),λhr' hk=>gE.2 hr' (hx.trans hk)⟩⟩
 |goto l=>exact hq.elim
 |ret=>exact⟨_,a1,w1,hq,.of_steps one gE⟩
 |panic ch=>exact⟨_,a1,w1,hq,.of_steps one gE⟩
 |outgrown=>exact⟨_,a1,w1,hq,.of_steps one gE⟩
def Rl(Q:AE->S->Prop):AE->S->Prop
 |.goto _,_=>False
 |e,s=>Q e s
theorem fh.scope{P:Program}{rd:RD}{c:Code}{s:S}{Q:AE->S->Prop}(h:fh P rd c s (Rl Q)):fh P rd (.scope c) s Q:=by
 intro E a w hs;refine OG (gO (h E a w hs) ?_);rintro e a' w' ⟨ae,s',q,r⟩;cases ae with
 |normal=>obtain⟨rfl,r'⟩:=r.normal;exact⟨.normal,s',q,r'⟩
 |exit i=>obtain⟨_,G,lm,_,_,_,_,he⟩:=id r;cases he;exact⟨.exit i,s',q,r⟩
 |goto l=>exact q.elim
 |ret=>obtain⟨_,G,lm,_,_,_,_,he⟩:=id r;cases he;exact⟨.ret,s',q,r⟩
 |ej x=>obtain⟨_,G,lm,_,_,_,_,v,rfl,_⟩:=id r;exact⟨.ej x,s',q,r⟩
def SC[Q:QT]:AE->S->Prop:=Rl Q.q
@[simp] theorem ao0 {Q:QT} {s:S}:@SC Q .normal s=Q.q .normal s:=rfl
@[simp] theorem aU5 {Q:QT} {s:S} {i:Nat}:@SC Q (.exit i) s=Q.q (.exit i) s:=rfl
@[simp] theorem bt7 {Q:QT} {s:S}:@SC Q .ret s=Q.q .ret s:=rfl
@[simp] theorem bt8 {Q:QT} {s:S} {x:LV}:@SC Q (.ej x) s=Q.q (.ej x) s:=rfl
theorem AW.scope{P:Program}{c:Cx}(hc:c.ok P){x:Code}{s:S}{Q:QT}(h:@EV P c ⟨x⟩ s ⟨@SC Q⟩):@AW P c.rd ⟨.scope x⟩ s Q:=fh.scope (EV.sound hc h)
structure gU(H:GH):Prop where
 none:∀n,H.next<=n->H.obj n=none
 nb:∀n o,H.obj n=some o->o.nb H.next
theorem KD.gU{E:tL}{ae:AE}{s:S}{e:Exit}{a:Act}{w:World}(h:KD E ae s e a w):Go.Aft.gU s.H:=by
 obtain⟨_,G,lm,_,hM,_⟩:=h;refine⟨λn hn=>?_,λn o ho=>CA (hM.iC n o ho).2⟩
 cases ho:s.H.obj n with
 |none=>rfl
 |some o=>have:=(hM.iC n o ho).1;omega
theorem gU.lt{H:GH}(h:gU H){n:Nat}{o:GO}(ho:H.obj n=some o):n<H.next:=by
 rcases Nat.lt_or_ge n H.next with q|q
 ·exact q
 ·rw[h.none n q]at ho;cases ho
theorem gU.drop{H0 H:GH}(h:gU H)(hn:H0.next<=H.next):Drop H0 H H:=⟨Nat.le_refl _,hn,λ_ _=>rfl,h.none,λn o ho=>.inr (h.nb n o ho)⟩
def bG(P:Program)(c:Cx)(rs:List ResultVar)(H0:GH)(R:CE->GH->Prop):AE->S->Prop
 |.normal,s|.ret,s=>gU s.H->fw P c rs s H0 R s.df .ret s.H
 |.ej x,s=>gU s.H->fw P c rs s H0 R s.df (.ej x) s.H
 |_,_=>False
theorem B9{P:Program}{c:Cx}{rs:List ResultVar}{H0:GH}{R:CE->GH->Prop}{ae:AE}{s:S}(h:bG P c rs H0 R ae s)(hn:gU s.H):Oe P c rs H0 R ae s:=by
 cases ae<;>first|exact h hn|exact h
theorem fh.RY{P:Program}{rd:RD}{x:Code}{s:S}{Q Q':AE->S->Prop}(h:fh P rd x s Q)(hq:∀ae s',gU s'.H->Q ae s'->Q' ae s'):fh P rd x s Q':=
 λE a w hs=>gO (h E a w hs) λe a w ⟨ae,s',q,r⟩=>⟨ae,s',hq _ _ r.gU q,r⟩
theorem aG.bG{P:Program}{c:Cx}(hc:c.ok P){f:FuncId}{fn:Func}{code:Code}(hf:P.funcs[f]?=some fn)(hb:fn.body=some code)(he:Enters P f){args:List LV}(hn:args.length<=fn.ntmps)(hrd:c.rd.uc f=true){H:GH}{R:CE->GH->Prop}
  (h:jk args->gU H->@EV P c ⟨code⟩ ⟨gj 0 args,vi,H,fn.ntmps,[]⟩ ⟨Go.Aft.bG P c fn.results.toList H R⟩):aG P f args H R:=
 ⟨he,jR.fits λhfit G w vs hM qd hargs=>by
  have hw:gU H:=⟨λn hn=>by
   cases ho:H.obj n with
   |none=>rfl
   |some o=>have:=(hM.iC n o ho).1;omega,λn o ho=>CA (hM.iC n o ho).2⟩
  exact(jR.iQ hc hf hb hn hrd λ_=>fh.RY (EV.sound hc (h hfit hw)) λae s' q1 q2=>B9 q2 q1) G w vs hM qd hargs⟩
theorem aG.dG{P:Program}{c:Cx}(hc:c.ok P){f:FuncId}{fn:Func}{code:Code}(hf:P.funcs[f]?=some fn)(hb:fn.body=some code)(he:Enters P f){args:List LV}(hn:args.length<=fn.ntmps)(hrd:c.rd.uc f=true){H:GH}{R:CE->GH->Prop}
  (h:jk args->gU H->@AW P c.rd ⟨code⟩ ⟨gj 0 args,vi,H,fn.ntmps,[]⟩ ⟨Go.Aft.bG P c fn.results.toList H R⟩):aG P f args H R:=
 ⟨he,jR.fits λhfit G w vs hM qd hargs=>by
  have hw:gU H:=⟨λn hn=>by
   cases ho:H.obj n with
   |none=>rfl
   |some o=>have:=(hM.iC n o ho).1;omega,λn o ho=>CA (hM.iC n o ho).2⟩
  exact(jR.iQ hc hf hb hn hrd λ_=>fh.RY (h hfit hw) λae s' q1 q2=>B9 q2 q1) G w vs hM qd hargs⟩
attribute [simp] Go.Aft.bG
structure GH.same(N:Nat)(H H':GH):Prop where
 next:H'.next=H.next
 obj:∀m,N<=m->H'.obj m=H.obj m
theorem GH.same.refl{N:Nat}{H:GH}:GH.same N H H:=⟨rfl,λ_ _=>rfl⟩
theorem GH.same.trans{N:Nat}{H H1 H2:GH}(h:GH.same N H H1)(k:GH.same N H1 H2):GH.same N H H2:=⟨k.next.trans h.next,λm hm=>(k.obj m hm).trans (h.obj m hm)⟩
def GH.cut(N:Nat)(H:GH):GH:=⟨λm=>if m<N then H.obj m else none,N⟩
@[simp] theorem GH.wm {N:Nat} {H:GH}:(H.cut N).next=N:=rfl
theorem GH.xE{N m:Nat}{H:GH}(h:m<N):(H.cut N).obj m=H.obj m:=if_pos h
theorem GH.MN{N m:Nat}{H:GH}(h:N<=m):(H.cut N).obj m=none:=if_neg (by omega)
theorem gU.WX{H0 H:GH}(h:gU H){N:Nat}(hN:N<=H.next)(h0:H0.next<=N)(hnb:∀m o,m<N->H.obj m=some o->H0.obj m=some o\/ o.nb N):Drop H0 H (H.cut N):=
 ⟨hN,h0,λn hn=>GH.xE hn,λn hn=>GH.MN hn,λn o ho=>by
  by_cases e:n<N
  ·rw[GH.xE e]at ho;exact hnb n o e ho
  ·rw[GH.MN (by omega)]at ho;cases ho⟩
structure Iter(P:Program)(n N:Nat)(rows:List LV)(J:Nat->GH->Prop)(St:GH->Prop)(Pn:LV->GH->Prop):Prop where
 stJ:∀{i:Nat} {H H':GH},J i H->(∀m,m<N->H'.obj m=H.obj m)->N<=H'.next->J i H'
 stS:∀{H H':GH},St H->(∀m,m<N->H'.obj m=H.obj m)->N<=H'.next->St H'
 stP:∀{x:LV} {H H':GH},Pn x H->(∀m,m<N->H'.obj m=H.obj m)->N<=H'.next->x.nb N/\Pn x H'
 nbJ:∀{i:Nat} {H:GH},J i H->∀m o,m<N->H.obj m=some o->o.nb N
 nbS:∀{H:GH},St H->∀m o,m<N->H.obj m=some o->o.nb N
 nbP:∀{x:LV} {H:GH},Pn x H->∀m o,m<N->H.obj m=some o->o.nb N
 step:∀{i:Nat} {H:GH} {r:LV},rows[i]?=some r->N<=H.next->gU H->J i H->ei P n [r] H λce H'=>GH.same N H H'/\(match ce with
  |.ret v=>v=bool true/\J (i+1) H'\/ v=bool false/\St H'
  |.ej x=>Pn x H')
def av8(N:Nat)(J:Nat->GH->Prop)(St:GH->Prop)(Pn:LV->GH->Prop)(neg:Bool)(j:Nat)(H:GH):CE->GH->Prop:=λce H'=>GH.same N H H'/\(match ce with
  |.ret v=>v=bool (!neg)/\J j H'\/ v=bool neg/\St H'
  |.ej x=>Pn x H')
abbrev cq:=ByteArray
inductive bh where
 |mk (op n:Int) (kids:List bh)
inductive bz where
 |mk (op:Int) (name:cq) (n fold:Int) (aD:List bh) (kids:List bz)
structure Ux where
 name:cq
 exp:bz
structure Prog where
 az:List cq
 ai:List Ux
structure Rec where
 at_:Int
 key:Int
 val:Int
 deriving DecidableEq
structure dx where
 KZ:Int
 src:Int
 id:Int
 Nf:Int
 aa:Rec
 deriving DecidableEq
structure Event where
 src:Int
 id:Int
 aa:Rec
 deriving DecidableEq
structure Room where
 most:Int
 low:Int
 high:Int
 deriving DecidableEq
instance:Inhabited bh:=⟨.mk 0 0 []⟩
instance:Inhabited bz:=⟨.mk 0 ⟨#[]⟩ 0 0 [] []⟩
instance:Inhabited Ux:=⟨⟨⟨#[]⟩,default⟩⟩
instance:Inhabited Rec:=⟨⟨0,0,0⟩⟩
instance:Inhabited dx:=⟨⟨0,0,0,0,default⟩⟩
instance:Inhabited Event:=⟨⟨0,0,default⟩⟩
def bh.op:bh->Int|.mk op _ _=>op
def bh.n:bh->Int|.mk _ n _=>n
def bh.kids:bh->List bh|.mk _ _ k=>k
@[simp] theorem bh.YA {op n:Int} {k:List bh}:(bh.mk op n k).op=op:=rfl
@[simp] theorem bh.bi1 {op n:Int} {k:List bh}:(bh.mk op n k).n=n:=rfl
@[simp] theorem bh.V9 {op n:Int} {k:List bh}:(bh.mk op n k).kids=k:=rfl
def bz.op:bz->Int|.mk op _ _ _ _ _=>op
def bz.name:bz->cq|.mk _ x _ _ _ _=>x
def bz.n:bz->Int|.mk _ _ x _ _ _=>x
def bz.fold:bz->Int|.mk _ _ _ x _ _=>x
def bz.aD:bz->List bh|.mk _ _ _ _ x _=>x
def bz.kids:bz->List bz|.mk _ _ _ _ _ x=>x
section
variable {op n fold:Int} {name:cq} {aD:List bh} {kids:List bz}
@[simp] theorem bz.YA:(bz.mk op name n fold aD kids).op=op:=rfl
@[simp] theorem bz.V3:(bz.mk op name n fold aD kids).name=name:=rfl
@[simp] theorem bz.bi1:(bz.mk op name n fold aD kids).n=n:=rfl
@[simp] theorem bz.aR7:(bz.mk op name n fold aD kids).fold=fold:=rfl
@[simp] theorem bz.aI1:(bz.mk op name n fold aD kids).aD=aD:=rfl
@[simp] theorem bz.V9:(bz.mk op name n fold aD kids).kids=kids:=rfl
end
def dI(n:Int):DV:=.k (.int .i64 n)
def dS(s:cq):DV:=.k (.string s)
def dB(b:Bool):DV:=.k (.bool b)
@[simp] theorem bE2 (n:Int):dI n=.k (.int .i64 n):=rfl
@[simp] theorem bE1 (n:cq):dS n=.k (.string n):=rfl
@[simp] theorem bE3 (n:Bool):dB n=.k (.bool n):=rfl
def rI(n:Int):List DV:=[.k (.int .i64 n)]
def rS(s:cq):List DV:=[.k (.string s)]
mutual
def bU:bh->List DV
 |.mk op n kids=>[.k (.int .i64 op),.k (.int .i64 n),.sl (pU kids)]
def pU:List bh->List (List DV)
 |[]=>[]
 |c::cs=>bU c::pU cs
end
theorem ki:∀l:List bh,pU l=l.map bU
 |[]=>rfl
 |c::cs=>by simp[pU,ki cs]
theorem aO(c:bh):bU c=[.k (.int .i64 c.op),.k (.int .i64 c.n),.sl (c.kids.map bU)]:=by
 obtain⟨op,n,kids⟩:=c;simp[bU,ki,bh.op,bh.n,bh.kids]
mutual
def aS:bz->List DV
 |.mk op name n fold aD kids=>[.k (.int .i64 op),.k (.string name),.k (.int .i64 n),.k (.int .i64 fold),.sl (pU aD),.sl (Ic kids)]
def Ic:List bz->List (List DV)
 |[]=>[]
 |c::cs=>aS c::Ic cs
end
theorem wR:∀l:List bz,Ic l=l.map aS
 |[]=>rfl
 |c::cs=>by simp[Ic,wR cs]
theorem aj(e:bz):aS e=[.k (.int .i64 e.op),.k (.string e.name),.k (.int .i64 e.n),.k (.int .i64 e.fold),.sl (e.aD.map bU),.sl (e.kids.map aS)]:=by
 obtain⟨op,name,n,fold,aD,kids⟩:=e;simp[aS,ki,wR,bz.op,bz.name,bz.n,bz.fold,bz.aD,bz.kids]
def fm(d:Ux):List DV:=.k (.string d.name)::aS d.exp
def ar(p:Prog):List DV:=[.sl (p.az.map rS),.sl (p.ai.map fm)]
def bE(r:Rec):List DV:=[.k (.int .i64 r.at_),.k (.int .i64 r.key),.k (.int .i64 r.val)]
def cK(n:dx):List DV:=.k (.int .i64 n.KZ):: .k (.int .i64 n.src):: .k (.int .i64 n.id):: .k (.int .i64 n.Nf)::bE n.aa
def aQ(e:Event):List DV:=.k (.int .i64 e.src):: .k (.int .i64 e.id)::bE e.aa
def lv(r:List DV):LV:=.agg (r.map .d)
def sl(xs:List (List DV)):LV:=.d (.sl xs)
@[simp] theorem R1 (r:List DV):lv r=.agg (r.map .d):=rfl
@[simp] theorem au1 (xs:List (List DV)):sl xs=.d (.sl xs):=rfl
@[simp] theorem Nw (n:Nat):∀ r:List DV,cD n (r.map .d)=True
 |[]=>by simp
 |d::r=>by simp[Nw n r]
@[simp] theorem bg6 (s:cq):(rS s).length=1:=rfl
@[simp] theorem bg8 (s:Int):(rI s).length=1:=rfl
@[simp] theorem s8 (c:bh):(bU c).length=3:=by rw [aO];rfl
@[simp] theorem Ie (c:bz):(aS c).length=6:=by rw [aj];rfl
@[simp] theorem Rv (c:Ux):(fm c).length=7:=by simp [fm]
end Go.Aft
end
