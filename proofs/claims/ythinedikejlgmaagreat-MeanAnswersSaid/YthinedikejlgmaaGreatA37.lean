import Derived.Test.YthinedikejlgmaaGreatA32
import Derived.Test.YthinedikejlgmaaGreatA36
set_option linter.all false
section
set_option maxRecDepth 20000
namespace Go.Aft
open Go.Proofs.Tryz
theorem mU.rin{x:Item}(h:mU x):xq x.aa:=by
 obtain⟨h1,h2,h3,_⟩:=h;refine⟨?_,h2,h3⟩;unfold cq;omega
theorem GF(e:bw)(c:bc)(l b:List Item)(hn:-50<=e.n/\e.n<=50)(hc:e.aD[0]?=some c)(hv:uK c)(hl:l.length<=300)(B6:b.length<=300)(h1:∀x∈l,mU x)(h2:∀x∈b,mU x):
  aC prog 204 [lv (aQ e),sl (l.map ak),sl (b.map ak)] (sl ((l.flatMap (iZ e.n c b)).map ak)):=by
 intro H;have cc:=ar (p:=aY [3] [] []);refine aF.bD (ar (p:=aY [3] [] [])) func204 rfl call204 (by rw[ntmps204];simp) rfl λhf hw=>?_
 simp[ntmps204,results204,ai]at hf|-;have mP:0<e.aD.length:=(List.getElem?_eq_some_iff.1 hc).1;have hce:e.aD[0]'mP=c:=by rw[List.getElem?_eq_getElem mP]at hc;exact Option.some.inj hc
 have hfm:∀i,((l.take i).flatMap (iZ e.n c b)).length<=i*300:=λi=>by
  rw[List.length_flatMap];have:∀L:List Item,(L.map λx=>(iZ e.n c b x).length).sum<=L.length*300:=λL=>by
   induction L with
   |nil=>simp
   |cons x L ih=>
    have:=qx b x.aa.key (x.aa.at_-e.n) (x.aa.at_+e.n);simp only[List.map_cons,List.sum_cons,List.length_cons,iZ,List.length_map]at ih|-;rw[Nat.add_mul];omega
  refine Nat.le_trans (this _) (Nat.mul_le_mul_right _ (by simp;omega))
 refine AW.aU cc (λs:Nat×LV×GH=>⟨[(1,sl (l.map ak)),(2,sl (b.map ak)),(3,.ip ((aQ e).map .d) 0),(7,s.2.1),(8,aH s.1)],[],s.2.2⟩) (λs=>l.length-s.1)
  (λs=>s.1<=l.length/\cm 86 4 H s.2.1 (((l.take s.1).flatMap (iZ e.n c b)).map ak) s.2.2) (0,.d (.k (.slice none 0 0)),H) ⟨⟨Nat.zero_le _,cm.nil⟩,by simp[ai]⟩ ?_
 rintro⟨i,y,H2⟩ ⟨hi',aA⟩;simp only at hi' aA;simp;refine⟨λh=>?_,λh=>?_⟩
 ·obtain⟨x,dc⟩:∃x,l[i]=x:=⟨_,rfl⟩;have hx:=h1 x (dc▸List.getElem_mem h);obtain⟨⟨hx1,hx2⟩,hx3,hx4,hx5⟩:=id hx;have fU:l.take (i+1)=l.take i++[x]:=by rw[<-aR h,dc]
  have eU:=aB (n:=9223372036854775807) (show i<9223372036854775807 by omega)
  have dz:(l.take (i+1)).flatMap (iZ e.n c b)=(l.take i).flatMap (iZ e.n c b)++iZ e.n c b x:=by rw[fU,List.flatMap_append];simp
  have FY:=hfm i;obtain⟨out,hout⟩:∃out,(l.take i).flatMap (iZ e.n c b)=out:=⟨_,rfl⟩;rw[hout]at dz aA FY;have MY:=zH b x.aa e.n (by omega) ⟨hx1,hx2⟩ hn
  obtain⟨w,hwe⟩:∃w,dF b x.aa.key (x.aa.at_-e.n) (x.aa.at_+e.n)=w:=⟨_,rfl⟩;have hwb:∀z∈w,mU z:=λz hz=>h2 z (lX.1 (hwe▸hz)).1
  have hwl:w.length<=300:=by rw[<-hwe];exact Nat.le_trans (qx _ _ _ _) B6
  have hpb:iZ e.n c b x=w.map (fq c x):=by rw[iZ,hwe]
  rw[hwe]at MY;rw[hpb]at dz;simp[bN]at MY;refine AW.draw cc [(8,.n)] (.q 0<|.q 1<|.q 2<|.q 3<|.q 4<|.q 6<|.q 5<|.q 7<|.q 8<|.q 9<|.done) (by kernel_rfl) ?_
  simp[h,List.getElem?_eq_getElem h,dc,ak,ai];refine FC.aJ MY ?_;simp;refine AW.aU cc (λs:Nat×LV×GH=>⟨[(1,sl (l.map ak)),(2,sl (b.map ak)),(3,.ip ((aQ e).map .d) 0),(7,s.2.1),(8,aH i),(9,sl (w.map ak)),(10,aH s.1)],[],s.2.2⟩) (λs=>w.length-s.1)
   (λs=>s.1<=w.length/\cm 86 4 H s.2.1 ((out++(w.take s.1).map (fq c x)).map ak) s.2.2) (0,y,H2) ⟨⟨Nat.zero_le _,by simpa using aA⟩,by simp[ai,aA.only]⟩ ?_
  rintro⟨j,y2,H3⟩ ⟨hj',wH⟩;simp only at hj' wH;simp;refine⟨λhjl=>?_,λhjl=>?_⟩
  ·obtain⟨z,Tl⟩:∃z,w[j]=z:=⟨_,rfl⟩;have hz:=hwb z (Tl▸List.getElem_mem hjl);obtain⟨⟨sP,qh⟩,OB,hz4,hz5⟩:=id hz;have htw:(w.take (j+1)).map (fq c x)=(w.take j).map (fq c x)++[fq c x z]:=by rw[<-aR hjl,Tl];simp
   have Rn:=aB (n:=9223372036854775807) (show j<9223372036854775807 by omega)
   have LG:0<=jN x.aa.at_ z.aa.at_/\jN x.aa.at_ z.aa.at_<=200:=by unfold jN;split<;>omega
   have uH:=iW (r:=⟨jN x.aa.at_ z.aa.at_,x.aa.key,x.aa.val⟩) (o:=z.aa.val) ⟨by unfold cq;simp only;omega,hx3,hx4⟩ hz4 hv
   have hmul:1<=x.n*z.n/\x.n*z.n<=1000000*1000000:=⟨Int.mul_pos (by omega) (by omega),Int.mul_le_mul hx5.2 hz5.2 (by omega) (by omega)⟩
   have hwm:IntKind.i64.wrap (x.n*z.n)=x.n*z.n:=by rw[wrap64]<;>omega
   have hpo:fq c x z=⟨⟨jN x.aa.at_ z.aa.at_,x.aa.key,ek ⟨jN x.aa.at_ z.aa.at_,x.aa.key,x.aa.val⟩ z.aa.val c⟩,x.n*z.n⟩:=rfl;rw[hpo]at htw;obtain⟨m,hm⟩:∃m,jN x.aa.at_ z.aa.at_=m:=⟨_,rfl⟩;rw[hm]at htw uH LG;obtain⟨v,hve⟩:∃v,ek ⟨m,x.aa.key,x.aa.val⟩ z.aa.val c=v:=⟨_,rfl⟩;rw[hve]at htw uH;have hwtl:(w.take j).length<=j:=by simp;omega
   simp[bN,aN]at uH;refine AW.draw cc [] (.q 0<|.q 1<|.q 2<|.q 3<|.q 4<|.q 6<|.q 7<|.q 8<|.q 9<|.q 10<|.q 13<|.q 14<|.q 15<|.q 16<|.q 17<|.q 19<|.q 20<|.q 21<|.q 22<|.q 23<|.q 5<|.q 11<|.q 12<|.q 18<|.q 24<|.q 25<|.f<|.one 26<|.f<|.one 27<|.done) (by kernel_rfl) ?_
   simp[h,List.getElem?_eq_getElem h,dc,hjl,List.getElem?_eq_getElem hjl,Tl,ak,hm];refine AW.draw cc [(11,.n)] (.q 0<|.q 5<|.q 6<|.q 7<|.q 8<|.q 9<|.q 1<|.q 2<|.q 3<|.q 4<|.q 10<|.q 11<|.q 12<|.f<|.one 13<|.done) (by kernel_rfl) ?_
   simp[hjl,List.getElem?_eq_getElem hjl,Tl,ak,ai,hce,aN,mP];refine FC.aJ uH ?_;simp[hjl,List.getElem?_eq_getElem hjl,Tl,ak,ai,hce,aN,mP];refine AW.draw cc [] (.q 0<|.q 2<|.q 3<|.q 4<|.q 5<|.q 7<|.q 8<|.q 9<|.q 10<|.q 1<|.q 6<|.q 11<|.q 12<|.q 13<|.q 14<|.f<|.one 15<|.q 16<|.done) (by kernel_rfl) ?_
   simp[h,List.getElem?_eq_getElem h,dc,hjl,List.getElem?_eq_getElem hjl,Tl,ak,wH.plain.all,hwm];refine eE.dJ (ys:=[ak ⟨⟨m,x.aa.key,v⟩,x.n*z.n⟩]) eW rfl dO (by simp) (x:=y2) (by simp) wH (by simp[ak,rowsOf]) (by simp) (bl _) (ef _) (by simp only[List.length_map,List.length_singleton,List.length_append];omega) (by simp) λx' H4 aG _ _=>?_
   simp[aG.plain.all,aG.only,Rn];rw[cS,List.append_assoc,<-htw]at aG;exact NX.go (j+1,x',H4) (by simp only;omega) ⟨hjl,aG⟩ (by simp[aG.only,ai])
  ·have:j=w.length:=by omega
   subst this;rw[List.take_length,<-dz]at wH;exact NX.go (i+1,y2,H3) (by simp only;omega) ⟨h,wH⟩ (by simp[wH.only,eU,ai])
 ·have:i=l.length:=by omega
  subst this;rw[List.take_length]at aA;simp[aA.plain.all];exact λhz=>⟨H,aO aA.nx aA.ob hw.none,by rw[aA.fz];trivial,aA.fz,rfl⟩
def mA(l:List Item)(r:Rec):Nat->Option Nat
 |0=>none
 |i+1=>if(l.getD i default).aa.key=r.key/\(l.getD i default).aa.at_<=r.at_/\Am ((mA l r i).bind λj=>l[j]?) (l.getD i default)=true then some i else mA l r i
theorem AH(l:List Item)(r:Rec):∀i j,mA l r i=some j->j<i
 |i+1,j,h=>by
  rw[mA]at h
  split at h
  ·cases h;exact Nat.lt_succ_self _
  ·have:=AH l r i j h;omega
theorem Ij(l:List Item)(r:Rec):∀i,i<=l.length->AJ (l.take i) r=(mA l r i).bind λj=>l[j]?
 |0,_=>rfl
 |i+1,h=>by
  have ih:=Ij l r i (by omega)
  have hg:l.getD i default=l[i]:=by rw[List.getD_eq_getElem?_getD,List.getElem?_eq_getElem (by omega)];rfl
  rw[<-aR (show i<l.length by omega),AI,mA,hg,ih]
  split
  ·simp
  ·rfl
theorem KD(l:List Item)(r:Rec)(hl:l.length<=1000):aC prog 205 [sl (l.map ak),lv (bN r)] (aH (D5 (mA l r l.length))):=by
 have cc:=ar (p:=aY [3] [] []);refine aC.body (ar (p:=aY [3] [] [])) func205 rfl call205 (by rw[ntmps205];simp) rfl λhf H=>?_
 simp[ntmps205,results205,bN]at hf|-;refine AW.aU cc (λi:Nat=>⟨[(0,sl (l.map ak)),(3,.ip [aH r.at_,aH r.key,aH r.val] 0),(5,aH (D5 (mA l r i))),(6,aH i)],[],H⟩) (λi=>l.length-i) (λi=>i<=l.length) 0 ⟨Nat.zero_le _,by simp[mA]⟩ ?_
 intro i hi;simp;refine⟨λh=>?_,λh=>?_⟩
 ·obtain⟨x,dc⟩:∃x,l[i]=x:=⟨_,rfl⟩;have hg:l.getD i default=x:=by rw[List.getD_eq_getElem?_getD,List.getElem?_eq_getElem h,<-dc];rfl
  have eU:=aB (n:=9223372036854775807) (show i<9223372036854775807 by omega)
  have dz:mA l r (i+1)=if x.aa.key=r.key/\x.aa.at_<=r.at_/\Am ((mA l r i).bind λj=>l[j]?) x=true then some i else mA l r i:=by rw[mA,hg]
  have hlt:=AH l r i;obtain⟨o,ho⟩:∃o,mA l r i=o:=⟨_,rfl⟩;rw[ho]at dz hlt|-;refine AW.draw cc [] (.q 0<|.q 1<|.q 2<|.q 3<|.q 4<|.q 6<|.q 5<|.q 7<|.q 8<|.q 9<|.q 10<|.q 11<|.q 12<|.q 13<|.q 14<|.q 16<|.q 15<|.q 17<|.q 18<|.q 19<|.q 20<|.q 21<|.q 22<|.q 23<|.q 24<|.q 25<|.q 26<|.q 27<|.q 28<|.q 30<|.q 31<|.q 32<|.q 33<|.q 34<|.q 29<|.q 35<|.q 36<|.q 37<|.q 38<|.q 39<|.q 40<|.q 41<|.q 42<|.q 43<|.q 45<|.q 46<|.q 47<|.q 48<|.q 49<|.q 44<|.q 50<|.q 51<|.q 52<|.q 53<|.q 54<|.q 55<|.q 56<|.q 57<|.q 59<|.q 60<|.q 61<|.q 62<|.q 63<|.q 58<|.q 64<|.q 65<|.q 66<|.q 67<|.q 68<|.done) (by kernel_rfl) ?_
  rcases o with _|j
  ·have h0:0<l.length:=by omega
   simp[h,List.getElem?_eq_getElem h,dc,ak,h0,List.getElem?_eq_getElem h0];refine⟨λq1 q2=>?_,λq=>?_⟩
   ·exact NX.go (i+1) (by omega) h (by simp[eU,dz,Am,q1,q2])
   ·refine NX.go (i+1) (by omega) h ?_
    rw[if_neg (by rintro⟨w1,w2,_⟩;have:=q w1;omega)]at dz
    simp[eU,dz]
  ·have hj:=hlt j rfl;have hjl:j<l.length:=by omega
   have hn0:¬((j:Int)<0):=by omega
   have hmo:Am ((some j).bind λj=>l[j]?) x=decide (l[j].aa.at_<x.aa.at_\/ x.aa.at_=l[j].aa.at_/\l[j].aa.val<x.aa.val):=by
    simp only[Option.bind_some,List.getElem?_eq_getElem hjl,Am]
   rw[hmo]at dz;simp[h,List.getElem?_eq_getElem h,dc,ak,hjl,List.getElem?_eq_getElem hjl,hn0];refine⟨λq1 q2 q3=>⟨⟨⟨q1,q2⟩,q3⟩,λq4=>⟨⟨⟨q1,q2⟩,q3⟩,q4⟩⟩,λq1 q2=>⟨⟨q1,q2⟩,λq3=>⟨⟨q1,q2⟩,q3⟩⟩,λq1 q2 q3=>?_,λq=>?_⟩
   ·rw[if_pos ⟨q1,q2,decide_eq_true q3⟩]at dz;exact NX.go (i+1) (by omega) h (by simp[eU,dz])
   ·refine NX.go (i+1) (by omega) h ?_
    rw[if_neg (by rintro⟨w1,w2,w3⟩;have w4:=of_decide_eq_true w3;have:=q w1 w2;omega)]at dz
    simp[eU,dz]
 ·have:i=l.length:=by omega
  subst this;simp
structure Cz(H:GH)(n ns nv:Nat)(p:Prog)(W:b9):Prop where
 ob:H.obj n=some (.box [sl (p.az.map rS),sl (p.aj.map ez),.kQ ns (W.az.map bX),.vs nv 0 1 0 W.aj.length])
 os:H.obj ns=some (.arr 30 1 W.az.length)
 ov:H.obj nv=some (.vec 30 0 1 (W.aj.map bY) true)
 dl:W.aj.length=p.aj.length
 sl_:W.az.length=p.az.length
def fm(op n:Int)(cs:List bc)(b:List Item)(x:Item):List Item:=
 if op=5 then(if ek x.aa 0 (cs.getD 0 default)≠0 then[x]else[])
 else if op=6 then[⟨⟨x.aa.at_,ek x.aa 0 (cs.getD 0 default),ek x.aa 0 (cs.getD 1 default)⟩,x.n⟩]
 else if op=13 then tG (cs.getD 0 default) b x
 else if op=14 then(if(dF b x.aa.key (x.aa.at_-n) (x.aa.at_+n)).isEmpty then[x]else[])
 else[⟨x.aa,1⟩]
theorem rE(f:Item->Bool):∀a:List Item,a.flatMap (λx=>if f x=true then[x]else[])=a.filter f
 |[]=>rfl
 |x::a=>by
  rw[List.flatMap_cons,rE f a];cases h:f x<;>simp[h]
theorem wM(f:Item->Item):∀a:List Item,a.flatMap (λx=>[f x])=a.map f
 |[]=>rfl
 |x::a=>by rw[List.flatMap_cons,wM f a];rfl
theorem Lb(p:Prog)(W:b9){op:Int}(name:ca)(n f:Int)(cs:List bc)(a:cr)(kr:List cr)(hop:op=5\/ op=6\/ op=13\/ op=14\/ op=15):
  mw p W op name n f cs (a::kr)=a.flatMap (fm op n cs (kr.getD 0 [])):=by
 have e0:(a::kr).getD 0 []=a:=rfl;have e1:(a::kr).getD 1 []=kr.getD 0 []:=rfl;unfold mw;simp only[e0,e1];rcases hop with rfl|rfl|rfl|rfl|rfl
 ·rw[if_neg (by decide),if_neg (by decide),if_neg (by decide),if_neg (by decide),if_pos rfl]
  exact(rE (λx=>decide (ek x.aa 0 (cs.getD 0 default)≠0)) a).symm.trans (congrArg (λg=>a.flatMap g) (funext λx=>by simp[fm]))
 ·rw[if_neg (by decide),if_neg (by decide),if_neg (by decide),if_neg (by decide),if_neg (by decide),if_pos rfl]
  exact(wM _ a).symm.trans (congrArg (λg=>a.flatMap g) (funext λx=>by simp[fm]))
 ·repeat rw[if_neg (by decide)]
  rw[if_pos rfl];exact congrArg (λg=>a.flatMap g) (funext λx=>by simp[fm])
 ·repeat rw[if_neg (by decide)]
  rw[if_pos rfl];exact(rE _ a).symm.trans (congrArg (λg=>a.flatMap g) (funext λx=>by simp[fm]))
 ·repeat rw[if_neg (by decide)]
  exact(wM _ a).symm.trans (congrArg (λg=>a.flatMap g) (funext λx=>by simp[fm]))
theorem GI(n:Nat)(e:bw)(a:cr)(kr:List cr)(hop:e.op=5\/ e.op=6\/ e.op=13\/ e.op=14\/ e.op=15)(hn:-50<=e.n/\e.n<=50)(hv:∀c∈e.aD,uK c)
  (hc:(e.op=5\/ e.op=13->1<=e.aD.length)/\(e.op=6->2<=e.aD.length)) (hk:e.op=13\/ e.op=14->∃b kr',kr=b::kr') (ha:bI a) (hkr:∀b∈kr,bI b):
  aC prog 144 [.gp n 0,lv (aQ e),ei (a::kr)] (sl ((a.flatMap (fm e.op e.n e.aD (kr.getD 0 []))).map ak)):=by
 intro H;have cc:=ar (p:=aY [4] [] []);refine aF.bD (ar (p:=aY [4] [] [])) func144 rfl call144 (by rw[ntmps144];simp) rfl λhf hw=>?_
 have hne:¬e.op=1/\¬e.op=2/\¬e.op=3/\¬e.op=4/\¬e.op=7/\¬e.op=8/\¬e.op=9/\¬e.op=10/\¬e.op=11/\¬e.op=12:=by omega
 obtain⟨n1,n2,n3,n4,n7,n8,n9,n10,n11,n12⟩:=hne;have yO:=ha.2.1;have hfm:∀i,((a.take i).flatMap (fm e.op e.n e.aD (kr.getD 0 []))).length<=i:=λi=>by
  have h1:∀x,(fm e.op e.n e.aD (kr.getD 0 []) x).length<=1:=λx=>by
   unfold fm tG
   repeat' split
   all_goals simp
  have:∀L:List Item,(L.flatMap (fm e.op e.n e.aD (kr.getD 0 []))).length<=L.length:=λL=>by
   induction L with
   |nil=>simp
   |cons x L ih=>
    have:=h1 x;rw[List.flatMap_cons,List.length_append,List.length_cons];omega
  exact Nat.le_trans (this _) (by simp;omega)
 simp[ntmps144,results144,ai,n1,n2,n3,n4,n7,n8,n9,n10,n11,n12,ei,bX]at hf|-;refine AW.ev cc ?_;simp;refine AW.aU cc (λs:Nat×LV×GH=>⟨[(2,sl ((a::kr).map bX)),(4,.ip ((aQ e).map .d) 0),(7,s.2.1),(8,aH s.1)],[],s.2.2⟩) (λs=>a.length-s.1)
  (λs=>s.1<=a.length/\cm 86 4 H s.2.1 (((a.take s.1).flatMap (fm e.op e.n e.aD (kr.getD 0 []))).map ak) s.2.2) (0,.d (.k (.slice none 0 0)),H) ⟨⟨Nat.zero_le _,cm.nil⟩,by simp[ai,bX]⟩ ?_
 rintro⟨i,y,H2⟩ ⟨hi',aA⟩;simp only at hi' aA;simp[bX];refine⟨λh=>?_,λh=>?_⟩
 ·obtain⟨x,dc⟩:∃x,a[i]=x:=⟨_,rfl⟩;have hx:=ha.2.2 x (dc▸List.getElem_mem h);obtain⟨⟨hx1,hx2⟩,hx3,hx4,hx5⟩:=id hx;have fU:a.take (i+1)=a.take i++[x]:=by rw[<-aR h,dc]
  have eU:=aB (n:=9223372036854775807) (show i<9223372036854775807 by omega)
  have dz:(a.take (i+1)).flatMap (fm e.op e.n e.aD (kr.getD 0 []))=(a.take i).flatMap (fm e.op e.n e.aD (kr.getD 0 []))++fm e.op e.n e.aD (kr.getD 0 []) x:=by rw[fU,List.flatMap_append];simp
  have FY:=hfm i;obtain⟨out,hout⟩:∃out,(a.take i).flatMap (fm e.op e.n e.aD (kr.getD 0 []))=out:=⟨_,rfl⟩;rw[hout]at dz aA FY;have IJ:∀z:Item,∀y' H',cm 86 4 H y' ((out++[z]).map ak) H'->fm e.op e.n e.aD (kr.getD 0 []) x=[z]->cm 86 4 H y' (((a.take (i+1)).flatMap (fm e.op e.n e.aD (kr.getD 0 []))).map ak) H':=λz y' H' q1 q2=>by rw[dz,q2];exact q1
  have AU:fm e.op e.n e.aD (kr.getD 0 []) x=[]->cm 86 4 H y (((a.take (i+1)).flatMap (fm e.op e.n e.aD (kr.getD 0 []))).map ak) H2:=λq=>by rw[dz,q,List.append_nil];exact aA
  rcases hop with q|q|q|q|q
  ·obtain⟨c,cs,hcs⟩:∃c cs,e.aD=c::cs:=by
    cases w:e.aD with
    |nil=>rw[w]at hc;simp[q]at hc
    |cons c cs=>exact⟨c,cs,rfl⟩
   have uH:=iW (r:=x.aa) (o:=0) hx.rin (by unfold cq;omega) (hv c (by rw[hcs];simp))
   simp[bN,aN]at uH;simp[h,List.getElem?_eq_getElem h,dc,ak,ai,q];refine AW.draw cc [(6,.n)] (.q 0<|.q 4<|.q 1<|.q 2<|.q 3<|.q 5<|.q 6<|.q 7<|.q 8<|.done) (by kernel_rfl) ?_
   simp[ai,hcs,aN];refine FC.aJ uH ?_;simp;have hlo:fm e.op e.n e.aD (kr.getD 0 []) x=if ek x.aa 0 c≠0 then[x]else[]:=by rw[q,hcs];simp[fm]
   refine⟨λz=>⟨aA.plain.tL,?_⟩,λz=>?_⟩
   ·refine eE.dJ (ys:=[ak x]) eW rfl dO (by simp) (x:=y) (by simp[aA.plain.un]) aA (by simp[ak,rowsOf]) (by simp) (bl _) (ef _) (by simp only[List.length_map,List.length_singleton];omega) (by simp) λx' H3 aG _ _=>?_
    simp[aG.plain.all,aG.only,eU];rw[cS]at aG;exact NX.go (i+1,x',H3) (by simp only;omega) ⟨h,IJ _ _ _ aG (by rw[hlo,if_pos z])⟩ (by simp[aG.only,ai,bX,q,hcs,aN])
   ·exact NX.go (i+1,y,H2) (by simp only;omega) ⟨h,AU (by rw[hlo,if_neg (by simpa using z)])⟩ (by simp[aA.only,eU,ai,bX,q,hcs,aN])
  ·obtain⟨c,d,cs,hcs⟩:∃c d cs,e.aD=c::d::cs:=by
    match w:e.aD with
    |[]=>rw[w]at hc;simp[q]at hc
    |[c]=>rw[w]at hc;simp[q]at hc
    |c::d::cs=>exact⟨c,d,cs,rfl⟩
   have uH:=iW (r:=x.aa) (o:=0) hx.rin (by unfold cq;omega) (hv c (by rw[hcs];simp))
   have hdv:=iW (r:=x.aa) (o:=0) hx.rin (by unfold cq;omega) (hv d (by rw[hcs];simp))
   simp[bN,aN]at uH hdv;simp[h,List.getElem?_eq_getElem h,dc,ak,ai,q];refine AW.draw cc [(9,.n),(16,.n)] (.q 0<|.q 1<|.q 3<|.q 7<|.q 10<|.q 14<|.q 2<|.q 4<|.q 5<|.q 6<|.q 8<|.q 9<|.q 11<|.q 12<|.q 13<|.q 15<|.q 16<|.q 17<|.q 18<|.f<|.one 19<|.done) (by kernel_rfl) ?_
   simp[ai,hcs,aN];refine FC.aJ uH ?_;simp[ai,hcs,aN];refine⟨by omega,FC.aJ hdv ?_⟩
   simp[aA.plain.all];refine eE.dJ (ys:=[ak ⟨⟨x.aa.at_,ek x.aa 0 c,ek x.aa 0 d⟩,x.n⟩]) eW rfl dO (by simp) (x:=y) (by simp[aA.plain.un]) aA (by simp[ak,rowsOf]) (by simp) (bl _) (ef _) (by simp only[List.length_map,List.length_singleton];omega) (by simp) λx' H3 aG _ _=>?_
   simp[aG.plain.all,aG.only,eU];rw[cS]at aG;exact NX.go (i+1,x',H3) (by simp only;omega) ⟨h,IJ _ _ _ aG (by rw[q,hcs];simp[fm])⟩ (by simp[aG.only,ai,bX,q,hcs,aN])
  ·obtain⟨c,cs,hcs⟩:∃c cs,e.aD=c::cs:=by
    cases w:e.aD with
    |nil=>rw[w]at hc;simp[q]at hc
    |cons c cs=>exact⟨c,cs,rfl⟩
   obtain⟨b,kr',rfl⟩:=hk (.inl q);have Tt:=hkr b (by simp)
   have tB:=KD b x.aa (by have:=Tt.2.1;omega)
   have hlx:=Ij b x.aa b.length (Nat.le_refl _);have hlt:=AH b x.aa b.length;rw[List.take_length]at hlx;obtain⟨o,ho⟩:∃o,mA b x.aa b.length=o:=⟨_,rfl⟩;rw[ho]at hlx hlt tB;simp[bN]at tB;simp[h,List.getElem?_eq_getElem h,dc,ak,ai,q];refine AW.draw cc [(5,.n)] (.q 0<|.q 1<|.q 3<|.q 2<|.q 4<|.q 5<|.q 6<|.done) (by kernel_rfl) ?_
   simp[bX];refine⟨by omega,FC.aJ tB ?_⟩
   have hlo:fm e.op e.n e.aD ((b::kr').getD 0 []) x=tG c b x:=by rw[q,hcs];simp[fm]
   rcases o with _|j
   ·simp;exact NX.go (i+1,y,H2) (by simp only;omega) ⟨h,AU (by rw[hlo,tG,hlx];rfl)⟩ (by simp[aA.only,eU,ai,bX,q,hcs,aN])
   ·have hjl:=hlt j rfl;obtain⟨z,hz⟩:∃z,b[j]=z:=⟨_,rfl⟩;have hzo:=Tt.2.2 z (hz▸List.getElem_mem hjl);have uH:=iW (r:=x.aa) (o:=z.aa.val) hx.rin hzo.2.2.1 (hv c (by rw[hcs];simp))
    simp[bN,aN]at uH;have hn0:¬((j:Int)<0):=by omega
    have hg:b[j]?=some z:=by rw[List.getElem?_eq_getElem hjl,hz]
    simp;refine AW.draw cc [(14,.n)] (.q 0<|.q 4<|.q 6<|.q 7<|.q 9<|.q 1<|.q 2<|.q 3<|.q 5<|.q 8<|.q 10<|.q 11<|.q 12<|.q 13<|.q 14<|.q 15<|.q 16<|.f<|.one 17<|.done) (by kernel_rfl) ?_
    simp[ai,hcs,aN,bX,hjl,hz,ak];refine⟨by omega,FC.aJ uH ?_⟩
    simp[ak,aA.plain.all];refine eE.dJ (ys:=[ak ⟨⟨x.aa.at_,x.aa.key,ek x.aa z.aa.val c⟩,x.n⟩]) eW rfl dO (by simp) (x:=y) (by simp[aA.plain.un]) aA (by simp[ak,rowsOf]) (by simp) (bl _) (ef _) (by simp only[List.length_map,List.length_singleton];omega) (by simp) λx' H3 aG _ _=>?_
    simp[aG.plain.all,aG.only,eU];rw[cS]at aG;exact NX.go (i+1,x',H3) (by simp only;omega) ⟨h,IJ _ _ _ aG (by rw[hlo,tG,hlx];simp only[Option.bind_some,hg])⟩ (by simp[aG.only,ai,bX,q,hcs,aN])
  ·obtain⟨b,kr',rfl⟩:=hk (.inr q);have Tt:=hkr b (by simp)
   have MY:=zH b x.aa e.n (by have:=Tt.2.1;omega) ⟨hx1,hx2⟩ hn
   simp[bN]at MY;simp[h,List.getElem?_eq_getElem h,dc,ak,ai,q];refine AW.draw cc [(7,.n)] (.q 0<|.q 1<|.q 3<|.q 5<|.q 2<|.q 4<|.q 6<|.q 7<|.q 8<|.q 9<|.q 10<|.done) (by kernel_rfl) ?_
   simp[bX,ai];refine⟨by omega,FC.aJ MY ?_⟩
   have hlo:fm e.op e.n e.aD ((b::kr').getD 0 []) x=if(dF b x.aa.key (x.aa.at_-e.n) (x.aa.at_+e.n)).isEmpty then[x]else[]:=by rw[q];simp[fm]
   simp;refine⟨λz=>⟨aA.plain.tL,?_⟩,λz=>?_⟩
   ·refine eE.dJ (ys:=[ak x]) eW rfl dO (by simp) (x:=y) (by simp[aA.plain.un]) aA (by simp[ak,rowsOf]) (by simp) (bl _) (ef _) (by simp only[List.length_map,List.length_singleton];omega) (by simp) λx' H3 aG _ _=>?_
    simp[aG.plain.all,aG.only,eU];rw[cS]at aG;exact NX.go (i+1,x',H3) (by simp only;omega) ⟨h,IJ _ _ _ aG (by rw[hlo,if_pos (by simp[z])])⟩ (by simp[aG.only,ai,bX,q])
   ·exact NX.go (i+1,y,H2) (by simp only;omega) ⟨h,AU (by rw[hlo,if_neg (by simpa using z)])⟩ (by simp[aA.only,eU,ai,bX,q])
  ·simp[h,List.getElem?_eq_getElem h,dc,ak,ai,q,aA.plain.all];refine eE.dJ (ys:=[ak ⟨x.aa,1⟩]) eW rfl dO (by simp) (x:=y) (by simp[aA.plain.un]) aA (by simp[ak,rowsOf]) (by simp) (bl _) (ef _) (by simp only[List.length_map,List.length_singleton];omega) (by simp) λx' H3 aG _ _=>?_
   simp[aG.plain.all,aG.only,eU];rw[cS]at aG;exact NX.go (i+1,x',H3) (by simp only;omega) ⟨h,IJ _ _ _ aG (by rw[q];simp[fm])⟩ (by simp[aG.only,ai,bX,q])
 ·have:i=a.length:=by omega
  subst this;rw[List.take_length]at aA;simp[aA.plain.all];exact λhz=>⟨H,aO aA.nx aA.ob hw.none,by rw[aA.fz];trivial,aA.fz,rfl⟩
theorem Cz.mono{H H':GH}{n ns nv:Nat}{p:Prog}{W:b9}(h:Cz H n ns nv p W)(hw:gD H)(ho:∀m,m<H.next->H'.obj m=H.obj m):Cz H' n ns nv p W:=by
 obtain⟨ob,os,ov,dl,sl_⟩:=h;exact⟨by rw[ho _ (hw.lt ob)];exact ob,by rw[ho _ (hw.lt os)];exact os,by rw[ho _ (hw.lt ov)];exact ov,dl,sl_⟩
theorem GQ{H:GH}{n ns nv:Nat}{p:Prog}{W:b9}(hW:Cz H n ns nv p W)(e:bw)(ks:List cr)(hop:e.op=1)(he:0<=idx p.az e.name):
  aF prog 144 [.gp n 0,lv (aQ e),ei ks] H λce H'=>ce=.ret (sl ((W.az.getD (idx p.az e.name).toNat []).map ak))/\H'=H:=by
 have cc:=ar (p:=aY [4] [] []);obtain⟨ob,os,ov,dl,sl_⟩:=hW;refine aF.bD (ar (p:=aY [4] [] [])) func144 rfl call144 (by rw[ntmps144];simp) rfl λhf hw=>?_
 have hin:=kj p.az e.name;simp at hin;simp[ntmps144,results144,ai,hop];refine AW.draw cc [(11,.n)] (.q 0<|.q 1<|.q 2<|.q 4<|.q 5<|.q 6<|.q 7<|.q 9<|.q 3<|.q 8<|.q 10<|.q 11<|.q 12<|.q 13<|.q 14<|.done) (by kernel_rfl) ?_
 have hlt:=nM p.az e.name;have LG:max (idx p.az e.name) 0=idx p.az e.name:=by omega
 have iT:(idx p.az e.name).toNat<W.az.length:=by omega
 have hlt3:idx p.az e.name<W.az.length:=by omega
 simp[ob,ai];refine FC.aJ hin ?_;simp[ob,he,iT,hlt3,LG,bX,List.getElem?_eq_getElem iT];exact λhz=>cC hz
theorem GP{H:GH}{n ns nv:Nat}{p:Prog}{W:b9}(hW:Cz H n ns nv p W)(h6:p.aj.length<=6)(e:bw)(ks:List cr)(hop:e.op=2)(he:0<=idx (an p) e.name):
  aF prog 144 [.gp n 0,lv (aQ e),ei ks] H λce H'=>ce=.ret (sl ((W.aj.getD (idx (an p) e.name).toNat []).map ak))/\H'=H:=by
 have cc:=ar (p:=aY [4] [] []);obtain⟨ob,os,ov,dl,sl_⟩:=hW;refine aF.bD (ar (p:=aY [4] [] [])) func144 rfl call144 (by rw[ntmps144];simp) rfl λhf hw=>?_
 have hin:=kj (an p) e.name;have hdn:=iX p h6;simp[ax]at hin hdn;simp[ntmps144,results144,ai,hop];refine AW.draw cc [(8,.n),(11,.n)] (.q 0<|.q 1<|.q 2<|.q 4<|.q 5<|.q 6<|.q 9<|.q 3<|.q 7<|.q 8<|.q 10<|.q 11<|.q 12<|.q 13<|.q 14<|.done) (by kernel_rfl) ?_
 have hlt:(idx (an p) e.name).toNat<W.aj.length:=by
  have:=nM (an p) e.name;have h2:(an p).length=p.aj.length:=by simp[an]
  omega
 have LG:max (idx (an p) e.name) 0=idx (an p) e.name:=by omega
 have iT:idx (an p) e.name<W.aj.length:=by omega
 simp[ob,ov,ai];refine FC.aJ hdn ?_;simp[ob,ov,ai];refine FC.aJ hin ?_;simp[ob,ov,LG,hlt,iT,he,bY,List.getElem?_eq_getElem hlt];exact λhz=>cC hz
theorem GN{H:GH}{n ns nv:Nat}{p:Prog}{W:b9}(hW:Cz H n ns nv p W)(h6:p.aj.length<=6)(e:bw)(ks:List cr)(hop:e.op=3)(he:0<=idx (an p) e.name)(hn:-50<=e.n/\e.n<=50)(hb:∀b∈W.aj,bI b):
  aF prog 144 [.gp n 0,lv (aQ e),ei ks] H λce H'=>ce=.ret (sl ((dU e.n (W.aj.getD (idx (an p) e.name).toNat [])).map ak))/\H'=H:=by
 have cc:=ar (p:=aY [4] [] []);obtain⟨ob,os,ov,dl,sl_⟩:=hW;refine aF.bD (ar (p:=aY [4] [] [])) func144 rfl call144 (by rw[ntmps144];simp) rfl λhf hw=>?_
 have hin:=kj (an p) e.name;have hdn:=iX p h6;simp[ax]at hin hdn;simp[ntmps144,results144,ai,hop];refine AW.draw cc [(8,.n),(11,.n),(16,.n)] (.q 0<|.q 1<|.q 2<|.q 4<|.q 5<|.q 6<|.q 9<|.q 14<|.q 3<|.q 7<|.q 8<|.q 10<|.q 11<|.q 12<|.q 13<|.q 15<|.q 16<|.q 17<|.done) (by kernel_rfl) ?_
 have hlt:(idx (an p) e.name).toNat<W.aj.length:=by
  have:=nM (an p) e.name;have h2:(an p).length=p.aj.length:=by simp[an]
  omega
 have LG:max (idx (an p) e.name) 0=idx (an p) e.name:=by omega
 have iT:idx (an p) e.name<W.aj.length:=by omega
 obtain⟨b,hbe⟩:∃b,W.aj[(idx (an p) e.name).toNat]=b:=⟨_,rfl⟩;have Tt:bI b:=hb b (hbe▸List.getElem_mem hlt);have hl:=xl b e.n (by have:=Tt.2.1;omega) (λx hx=>by have:=(Tt.2.2 x hx).1;omega) hn
 simp at hl;simp[ob,ov,ai];refine FC.aJ hdn ?_;simp[ob,ov,ai];refine FC.aJ hin ?_;simp[ob,ov,LG,hlt,iT,he,bY,List.getElem?_eq_getElem hlt,hbe,ai];refine FC.aJ hl ?_;simp;exact λhz=>⟨cC hz,by rw[List.getElem?_eq_getElem hlt,hbe];rfl⟩
theorem GM(n:Nat)(e:bw)(a b:cr)(hop:e.op=4)(ha:a.length<=300)(hb:b.length<=300):aC prog 144 [.gp n 0,lv (aQ e),ei [a,b]] (sl ((a++b).map ak)):=by
 intro H;have cc:=ar (p:=aY [4] [] []);refine aF.bD (ar (p:=aY [4] [] [])) func144 rfl call144 (by rw[ntmps144];simp) rfl λhf hw=>?_
 simp[ntmps144,results144,ai,hop,ei,bX];refine AW.draw cc [(2,.n),(6,.n)] (.q 0<|.q 1<|.q 2<|.q 4<|.q 5<|.q 6<|.f<|.one 3<|.f<|.one 7<|.q 8<|.done) (by kernel_rfl) ?_
 simp[bX];refine eE.appY (ys:=a.map ak) (H0:=H) (rows:=[]) (x:=.d (.k (.slice none 0 0))) eW (.inr rfl) rfl dO (by simp) (by simp) cm.nil (by simp[rowsOf]) (by simp) (by simp) (λr hr=>by obtain⟨_,_,rfl⟩:=List.mem_map.1 hr;rfl) (by simp;omega) (by simp) λx1 H1 h1 _ _=>?_
 simp[h1.plain.all];refine eE.appY (ys:=b.map ak) eW (.inr rfl) rfl dO (by simp) (x:=x1) (by simp[h1.plain.un]) h1 (by simp[rowsOf]) (by simp) (by simp) (λr hr=>by obtain⟨_,_,rfl⟩:=List.mem_map.1 hr;rfl) (by simp;omega) (by simp) λx2 H2 h2 _ _=>?_
 simp[h2.plain.all];exact λhz=>⟨H,aO h2.nx h2.ob hw.none,by rw[h2.fz];trivial,by rw[h2.fz];simp,rfl⟩
theorem GL(n:Nat)(e:bw)(a:cr)(hop:e.op=7)(ha:bI a)(hn:-50<=e.n/\e.n<=50):aC prog 144 [.gp n 0,lv (aQ e),ei [a]] (sl ((dU e.n a).map ak)):=by
 refine aC.body (ar (p:=aY [4] [] [])) func144 rfl call144 (by rw[ntmps144];simp) rfl λhf H=>?_
 have cc:=ar (p:=aY [4] [] []);have hl:=xl a e.n (by have:=ha.2.1;omega) (λx hx=>by have:=(ha.2.2 x hx).1;omega) hn
 simp at hl;simp[ntmps144,results144,ai,hop,ei,bX];refine AW.draw cc [(5,.n)] (.q 0<|.q 1<|.q 3<|.q 2<|.q 4<|.q 5<|.q 6<|.done) (by kernel_rfl) ?_
 simp[bX,ai];refine FC.aJ hl ?_;simp
theorem mU.ok{x:Item}(h:mU x):Co x:=⟨⟨by have:=h.2.2.2.1;omega,h.2.2.2.2⟩,h.2.2.1⟩
theorem GJ(n:Nat)(e:bw)(a:cr)(hop:e.op=8\/ e.op=9\/ e.op=10)(ha:bI a)(hn:0<=e.n/\e.n<=1000)(h8:e.op=8->1<=e.n)(hf4:1<=e.fold/\e.fold<=4):aC prog 144 [.gp n 0,lv (aQ e),ei [a]] (sl ((ej (iK e.fold 0 (Qe e.op e.n) a) a).map ak)):=by
 refine aC.body (ar (p:=aY [4] [] [])) func144 rfl call144 (by rw[ntmps144];simp) rfl λhf H=>?_
 have cc:=ar (p:=aY [4] [] []);have hl:=GU e a hop hn h8 hf4 (by have:=ha.2.1;omega) (λx hx=>by have:=ha.2.2 x hx;exact⟨this.1.1,this.1.2,this.ok⟩)
 simp[ai]at hl;rcases hop with q|q|q
 all_goals
  simp[ntmps144,results144,ai,q,ei,bX];refine AW.draw cc [(4,.n)] (.q 1<|.q 2<|.q 0<|.q 3<|.q 4<|.q 5<|.done) (by kernel_rfl) ?_
  simp[ai,bX];rw[q]at hl;refine FC.aJ hl ?_;simp[q]
theorem EB(n:Nat)(e:bw)(a:cr)(q:e.op=11)(ha:bI a)(hn:0<=e.n/\e.n<=1000)(hf4:1<=e.fold/\e.fold<=4):aC prog 144 [.gp n 0,lv (aQ e),ei [a]] (sl ((ej (iK e.fold e.n (ix e.n) a) a).map ak)):=by
 refine aC.body (ar (p:=aY [4] [] [])) func144 rfl call144 (by rw[ntmps144];simp) rfl λhf H=>?_
 have cc:=ar (p:=aY [4] [] []);have hl:=GC e a hn hf4 (by have:=ha.2.1;omega) (λx hx=>by have:=ha.2.2 x hx;exact⟨this.1.1,this.1.2,this.ok⟩)
 simp[ai,q]at hl;simp[ntmps144,results144,ai,q,ei,bX];refine AW.draw cc [(4,.n)] (.q 1<|.q 2<|.q 0<|.q 3<|.q 4<|.q 5<|.done) (by kernel_rfl) ?_
 simp[ai,bX];refine FC.aJ hl ?_;simp
theorem EA(n:Nat)(e:bw)(a b:cr)(c:bc)(q:e.op=12)(ha:bI a)(hb:bI b)(hn:-50<=e.n/\e.n<=50)(hc:e.aD[0]?=some c)(hv:uK c):aC prog 144 [.gp n 0,lv (aQ e),ei [a,b]] (sl ((a.flatMap (iZ e.n c b)).map ak)):=by
 refine aC.body (ar (p:=aY [4] [] [])) func144 rfl call144 (by rw[ntmps144];simp) rfl λhf H=>?_
 have cc:=ar (p:=aY [4] [] []);have hl:=GF e c a b hn hc hv ha.2.1 hb.2.1 ha.2.2 hb.2.2;simp[ai,q]at hl;simp[ntmps144,results144,ai,q,ei,bX];refine AW.draw cc [(7,.n)] (.q 1<|.q 2<|.q 4<|.q 5<|.q 0<|.q 3<|.q 6<|.q 7<|.q 8<|.done) (by kernel_rfl) ?_
 simp[ai,bX];refine FC.aJ hl ?_;simp
theorem Vd{α:Type}:∀{l:List α},0<l.length->∃b t,l=b::t
 |b::t,_=>⟨b,t,rfl⟩
 |[],h=>absurd h (by simp)
theorem VK{op:Int}{name:ca}{n fold:Int}{nc nk:Nat}(h:gI op name n fold nc nk=true)(q:op=8\/ op=9\/ op=10\/ op=11):1<=fold/\fold<=4:=by
 unfold gI at h;rcases q with rfl|rfl|rfl|rfl
 all_goals
  simp[bF]at h;omega
theorem KC{H:GH}{n ns nv:Nat}{p:Prog}{W:b9}(hW:Cz H n ns nv p W)(h6:p.aj.length<=6)(hd:∀b∈W.aj,bI b)(e:bw)(he:p8 p e)(ks:List cr)(hk:ks.length=e.kids.length)(hks:∀b∈ks,bI b):
  aF prog 144 [.gp n 0,lv (aQ e),ei ks] H λce H'=>ce=.ret (sl ((mw p W e.op e.name e.n e.fold e.aD ks).map ak))/\H'=H:=by
 obtain⟨x,h1,h2,h3,h4,h5⟩:=qI he.ok;have hop:1<=e.op/\e.op<=15:=Classical.byContradiction λhn=>by
  unfold bF at h1
  repeat (rw[if_neg (by omega)]at h1)
  cases h1
 have hcs:=he.cs;have hfo:=VK he.ok;have hnm:=he.nm;have hdf:=he.df;have hx:=h1;obtain⟨o,ho⟩:∃o,e.op=o:=⟨_,rfl⟩;rw[ho]at h1 hnm hdf hfo hop;have pM:o=1\/ o=2\/ o=3\/ o=4\/ (o=5\/ o=6\/ o=13\/ o=14\/ o=15)\/ o=7\/ (o=8\/ o=9\/ o=10)\/ o=11\/ o=12:=by omega
 rcases pM with q|q|q|q|q|q|q|q|q
 ·rw[q]at hnm;rw[ho,q];exact GQ hW e ks (ho.trans q) (hnm rfl)
 ·rw[q]at hdf;rw[ho,q];exact GP hW h6 e ks (ho.trans q) (hdf (.inl rfl))
 ·subst q;simp[bF]at h1;subst h1;rw[ho];exact GN hW h6 e ks ho (hdf (.inr rfl)) (by simp only at h4 h5;omega) hd
 ·subst q;simp[bF]at h1;subst h1;simp only at h2;obtain⟨a,b,rfl⟩:=tF (l:=ks) (by omega)
  rw[ho];exact GM n e a b ho (hks a (by simp)).2.1 (hks b (by simp)).2.1 H
 ·obtain⟨k,jQ⟩:∃a kr,ks=a::kr:=by
   cases ks with
   |cons a kr=>exact⟨a,kr,rfl⟩
   |nil=>
    rcases q with rfl|rfl|rfl|rfl|rfl
    all_goals
     simp[bF]at h1;subst h1;simp only[List.length_nil]at h2 hk;omega
  obtain⟨kr,rfl⟩:=jQ;rw[ho,Lb p W e.name e.n e.fold e.aD k kr q,<-ho];rw[<-ho]at q;refine GI n e k kr q ?_ hcs ?_ ?_ (hks k (by simp)) (λb hb=>hks b (by simp[hb])) H
  all_goals
   rw[ho]at q;rcases q with rfl|rfl|rfl|rfl|rfl
   all_goals
    simp[bF]at h1;subst h1;simp only[List.length_cons]at h2 h3 h4 h5 hk
    first
    |omega
    |(refine⟨λ_=>?_,λ_=>?_⟩<;>omega)
    |(intro w;rw[ho]at w;exact Vd (by omega))
 ·subst q;simp[bF]at h1;subst h1;simp only at h2 h4 h5;obtain⟨a,rfl⟩:=ji (l:=ks) (by omega)
  rw[ho];exact GL n e a ho (hks a (by simp)) (by omega) H
 ·obtain⟨a,rfl⟩:=ji (l:=ks) (by
   rcases q with rfl|rfl|rfl
   all_goals
    simp[bF]at h1;subst h1;simp only at h2;omega)
  have hq:=ho▸q;have h8:=GJ n e a hq (hks a (by simp)) (by
   rcases q with rfl|rfl|rfl
   all_goals
    simp[bF]at h1;subst h1;simp only at h4 h5;omega) (λw=>by
   rw[ho]at w;subst w;simp[bF]at h1;subst h1;simp only at h4 h5;omega) (hfo (by omega)) H
  rw[ho]at h8|-;rcases q with rfl|rfl|rfl
  ·exact h8
  ·exact h8
  ·exact h8
 ·subst q;simp[bF]at h1;subst h1;simp only at h2 h4 h5;obtain⟨a,rfl⟩:=ji (l:=ks) (by omega)
  rw[ho];exact EB n e a ho (hks a (by simp)) (by omega) (hfo (by omega)) H
 ·subst q;simp[bF]at h1;subst h1;simp only at h2 h3 h4 h5;obtain⟨a,b,rfl⟩:=tF (l:=ks) (by omega)
  obtain⟨c,hc⟩:=wZ (l:=e.aD) (by omega)
  have:=EA n e a b c ho (hks a (by simp)) (hks b (by simp)) (by omega) (by rw[hc];rfl) (hcs c (by rw[hc];simp)) H
  rw[ho,hc];exact this
def EvR(o:Option cr)(H:GH)(ce:CE)(H':GH):Prop:=H'=H/\match o with
 |some b=>ce=.ret (.dx [bY b,.d (.k (.bool true))])
 |none=>∃v:DV,ce=.ret (.dx [.d v,.d (.k (.bool false))])
theorem Sl(p:Prog)(W:b9)(top:Int)(e:bw):ql p W top e=match dP (ql p W top) e.kids with
  |none=>none
  |some ks=>if gH (bV (mw p W e.op e.name e.n e.fold e.aD ks) top)then some (bV (mw p W e.op e.name e.n e.fold e.aD ks) top)else none:=by
 have hs:∀l:List bw,rK p W top l=dP (ql p W top) l:=λl=>by
  induction l with
  |nil=>rw[rK,dP]
  |cons e es ih=>
   rw[rK,dP];cases ql p W top e with
   |none=>rfl
   |some b=>simp only[ih];rfl
 obtain⟨op,name,n,fold,aD,kids⟩:=e;rw[ql,hs];rfl
theorem p8.lows{p:Prog}{x:bw}(h:p8 p x):(x.op=8->1<=x.n)/\(x.op=11->0<=x.n):=by
 obtain⟨s,q1,q2,q3,q4,q5⟩:=qI h.ok;refine⟨λq=>?_,λq=>?_⟩
 all_goals
  rw[q]at q1;simp[bF]at q1;subst q1;simp only at q4;omega
theorem kP.same{p:Prog}{e:bw}(h:kP p e)(W:b9)(top:Int):ql p W top e=fW p W top e:=(DO e λx hx=>(h x hx).lows).1
theorem SF(l:List Item)(t:Int):L5 0 t (mR l)=bV l t:=by
 refine vB ((oP l).filter _) (λx hx=>(jj.1 (List.mem_filter.1 hx).1).1) λr=>?_
 unfold L5;rw[fc _ (λr=>decide (0<=r.at_/\r.at_<=t)) (λ_=>rfl),fc _ (λr=>decide (0<=r.at_/\r.at_<=t)) (λ_=>rfl),BD]
theorem L1(gen:Item->Option Rec):∀b:List Item,∀x∈ej gen b,x.n=1:=by
 refine iv (λx h=>absurd h List.not_mem_nil) λb y ih x hx=>?_
 rw[kE]at hx
 split at hx
 ·exact ih x hx
 ·split at hx
  ·exact ih x hx
  ·rcases List.mem_append.1 hx with q|q
   ·exact ih x q
   ·rw[List.mem_singleton.1 q]
theorem Om(p:Prog)(W:b9){op:Int}(name:ca)(n f:Int)(cs:List bc){ks:List cr}(hk:∀b∈ks,jr b)(hop:¬(op=8\/ op=9\/ op=10\/ op=11)):mw p W op name n f cs ks=gV p W op name n f cs ks:=by
 have k1:=yS hk 1;have t1:=sE k1.1;unfold mw gV;simp only;have e8:¬op=8:=by omega
 have e9:¬op=9:=by omega
 have VX:¬op=10:=by omega
 have e11:¬op=11:=by omega
 simp only[if_neg e8,if_neg e9,if_neg VX,if_neg e11,yJ t1,y9 t1,MQ t1];have e:tG (cs.getD 0 default) (ks.getD 1 [])=vC (cs.getD 0 default) (ks.getD 1 []):=by
  funext x
  rw[tG,vC,Ik x.aa _ k1.1 k1.2];cases(dF (ks.getD 1 []) x.aa.key 0 x.aa.at_).getLast? <;>rfl
 rw[e]
theorem bI.Tk{b:cr}(h:bI b):jr b:=⟨h.1,λx hx=>(h.2.2 x hx).1.1⟩
theorem HI{p:Prog}{W:b9}(hs:∀b∈W.az,bI b)(hd:∀b∈W.aj,bI b)(e:bw)(he:p8 p e)(ks:List cr)(hk:ks.length=e.kids.length)(hks:∀b∈ks,bI b):
  (mw p W e.op e.name e.n e.fold e.aD ks).length<=90000/\∀x∈mw p W e.op e.name e.n e.fold e.aD ks,1<=x.n/\x.n<=1000000000000:=by
 by_cases hop:e.op=8\/ e.op=9\/ e.op=10\/ e.op=11
 ·have hg:∀i,(ks.getD i []).length<=300:=λi=>by
   rw[List.getD_eq_getElem?_getD];cases q:ks[i]? with
   |none=>simp
   |some b=>exact(hks b (List.mem_of_getElem? q)).2.1
  have hl:∀gen,(ej gen (ks.getD 0 [])).length<=90000:=λgen=>by
   have:=um gen (ks.getD 0 []);have:=hg 0;omega
  have h1:∀gen,∀x∈ej gen (ks.getD 0 []),1<=x.n/\x.n<=1000000000000:=λgen x hx=>by rw[L1 gen _ x hx];omega
  have hg:∃gen,mw p W e.op e.name e.n e.fold e.aD ks=ej gen (ks.getD 0 []):=by
   rcases hop with q|q|q|q
   ·exact⟨iK e.fold 0 (wL e.n) (ks.getD 0 []),by rw[q];rfl⟩
   ·exact⟨iK e.fold 0 (vN e.n) (ks.getD 0 []),by rw[q];rfl⟩
   ·exact⟨iK e.fold 0 vL (ks.getD 0 []),by rw[q];rfl⟩
   ·exact⟨iK e.fold e.n (ix e.n) (ks.getD 0 []),by rw[q];rfl⟩
  obtain⟨gen,Fg⟩:=hg;rw[Fg];exact⟨hl gen,h1 gen⟩
 ·rw[Om p W e.name e.n e.fold e.aD (λb hb=>(hks b hb).Tk) hop]
  have:=w6 hs hd e he ks hk hks;exact⟨this.1,λx hx=>(this.2 x hx).1⟩
theorem zI{p:Prog}{W:b9}(h6:p.aj.length<=6)(hs:∀b∈W.az,bI b)(hd:∀b∈W.aj,bI b){n ns nv:Nat}{top:Int}(ht:top<=200):∀(N:Nat) (e:bw),SizeOf.sizeOf e<N->kP p e->∀H,Cz H n ns nv p W->
  aF prog 81 [.gp n 0,lv (aQ e),aH top] H (EvR (fW p W top e) H)
 |0,e,h,_,_,_=>absurd h (by omega)
 |N+1,e,h,he,H,hW=>by
  have cc:=ar (p:=aY [4] [] []);refine aF.bD (ar (p:=aY [4] [] [])) func81 rfl call81 (by rw[ntmps81];simp) rfl λhf hw=>?_
  have hnl:=hw.lt hW.ob;obtain⟨x,h1,h2,h3,h4,h5⟩:=qI he.self.ok;have hop:1<=e.op/\e.op<=15:=Classical.byContradiction λhn=>by
   unfold bF at h1
   repeat (rw[if_neg (by omega)]at h1)
   cases h1
  have jQ:e.kids.length<=1000:=by
   have:=zq h1 hop;omega
  rw[<-he.same,Sl];simp[ntmps81,results81,ai];refine AW.aU cc (λa:Nat×LV×GH=>⟨[(0,.gp n 0),(2,aH top),(4,.ip ((aQ e).map .d) 0),(8,a.2.1),(9,aH a.1)],[],a.2.2⟩) (λa=>e.kids.length-a.1) (λa=>a.1<=e.kids.length/\∃bs,dP (ql p W top) (e.kids.take a.1)=some bs/\cm 30 1 H a.2.1 (bs.map bX) a.2.2) (0,.d (.k (.slice none 0 0)),H) ⟨⟨by simp,[],by simp[dP],.nil⟩,by simp[ai]⟩ ?_
  rintro⟨i,y,H2⟩ ⟨hi,bs,wF,aA⟩;simp only at hi wF aA;simp[ai];refine⟨λh=>?_,λh=>?_⟩
  ·obtain⟨k,hke⟩:∃k,e.kids[i]=k:=⟨_,rfl⟩;have hkm:k∈e.kids:=hke▸List.getElem_mem h;have fU:e.kids.take (i+1)=e.kids.take i++[k]:=by rw[<-aR h,hke]
   have M5:=zI h6 hs hd ht N k (by have:=rm hkm;omega) (he.Tk hkm) H2 (hW.mono hw aA.ob)
   rw[<-(he.Tk hkm).same]at M5;simp[ai]at M5;simp[h,List.getElem?_eq_getElem h,hke,ai];refine⟨by have:=aA.nx;omega,EC.of M5 (λv H3 hR=>?_) (λv H3 hR=>?_)⟩
   ·obtain⟨rfl,hR⟩:=hR;cases q:ql p W top k with
    |some b=>
     rw[q]at hR;cases hR;simp[aA.plain.all,bY];have B6:=iO wF;have VF:bs.length<=1000:=by rw[B6];simp;omega
     refine eE.dJ (ys:=[bX b]) P7 rfl uP (by simp) (x:=y) (by simp) aA (by simp[bX,rowsOf]) (by simp) (Aa _) (λr hr=>by simp only[List.mem_singleton]at hr;subst hr;rfl) (by simp;omega) (by simp) λx' H3 aG _ _=>?_
     simp[aG.plain.all,aG.only,aB (n:=9223372036854775807) (show i<9223372036854775807 by omega)]
     refine NX.go (i+1,x',H3) (by simp only;omega) ⟨h,bs++[b],?_,by rw[List.map_append];exact aG⟩ (by simp[aG.only,ai])
     rw[fU,tU,wF,q]
    |none=>
     rw[q]at hR;obtain⟨v',hR⟩:=hR;cases hR;rw[tV hkm q];simp;exact λhz=>⟨H,aO aA.nx aA.ob hw.none,rfl,.sl [],rfl⟩
   ·obtain⟨rfl,hR⟩:=hR;cases q:ql p W top k with
    |some b=>rw[q]at hR;cases hR
    |none=>rw[q]at hR;obtain⟨v',hR⟩:=hR;cases hR
  ·have:i=e.kids.length:=by omega
   subst this;rw[List.take_length]at wF;rw[wF];have hks:∀b∈bs,bI b:=sy wF λx hx b hb=>nw hs hd ht _ x (Nat.lt_succ_self _) (he.Tk hx) b (by rw[<-(he.Tk hx).same];exact hb)
   have hno:=KC (hW.mono hw aA.ob) h6 hd e he.self bs (iO wF) hks;have hit:=HI hs hd e he.self bs (iO wF) hks;obtain⟨A,hA⟩:∃A,mw p W e.op e.name e.n e.fold e.aD bs=A:=⟨_,rfl⟩;rw[hA]at hno hit;simp[ai]at hno;have hof:=GX A (by omega) hit.2
   have VC:=Oa (mR A) 0 top (by have:=JC A;omega)
   rw[SF]at VC;have hfi:=KE (bV A top);simp[bY]at hof VC hfi;simp[aA.plain.all];refine⟨⟨by have:=aA.nx;omega,aA.nb⟩,EC.of (aF.OW (by simp only[xV,fz,aA.fz];exact hno)) (λv H3 hR=>?_) (λv H3 hR=>by obtain⟨q,_⟩:=hR;cases q)⟩
   obtain⟨q,rfl⟩:=hR;cases q;simp;refine EC.aJ hof ?_;simp;refine EC.aJ VC ?_;simp;refine EC.aJ hfi ?_;simp;refine λhz=>⟨H,aO aA.nx aA.ob hw.none,rfl,?_⟩
   rw[hA];cases gH (bV A top)with
   |true=>rfl
   |false=>exact⟨_,rfl⟩
def BV(p:Prog)(l:List Event)(H:GH)(ce:CE)(H':GH):Prop:=match fA p l with
 |none=>ce=.ret (.dx [.d (.k (.pointer none)),.d (.k (.bool false))])/\H'=H
 |some aj=>∃n ns nv,ce=.ret (.dx [.gp n 0,.d (.k (.bool true))])/\H.next<=n/\H.next<=nv/\Cz H' n ns nv p ⟨mg p l,aj⟩/\H.next<=H'.next/\(∀m,m<H.next->H'.obj m=H.obj m)/\gD H'
theorem GR(p:Prog)(lG:∀s∈p.az++an p,cN s)(hp:formed p)(l:List Event)(hl:l.length<=60)(hi:∀e∈l,mU ⟨e.aa,1⟩)(H:GH):aF prog 80 [lv (ax p),sl (l.map bg)] H (BV p l H):=by
 have cc:=ar (p:=aY [2] [22] [20]);have g:=kD hp;have fb:=rD hp;have he:∀(d:Nat) (h:d<p.aj.length),kP p p.aj[d].exp:=λd h x hx=>(jf hp h x hx).node
 refine aF.dV (ar (p:=aY [2] [22] [20])) func80 rfl call80 (by rw[ntmps80];simp) rfl λhf hw=>?_
 have d6:=fb.d6;have s4:=fb.s4;simp[ntmps80,results80,ax]at hf|-;refine AW.seq cc ?_;simp;refine AW.seq cc ?_;refine AW.draw cc [(0,.n),(2,.n)] (.q 0<|.q 1<|.q 2<|.q 3<|.f<|.one 4<|.q 5<|.f<|.one 6<|.q 7<|.done) (by kernel_rfl) ?_
 simp;obtain⟨n,hn⟩:∃n,p.aj.length=n:=⟨_,rfl⟩;refine⟨by omega,by simp[GH.aq],?_⟩
 rw[hn];obtain⟨G,hG⟩:∃G,((H.add (GO.vec 30 0 1 (jx n [LV.d (DV.k (Value.slice none 0 0))]) true)).add (GO.box [LV.d (DV.sl (List.map rS p.az)),LV.d (DV.sl (List.map ez p.aj)),LV.d (DV.k (Value.slice none 0 0)),LV.vs H.next 0 1 0 n]))=G:=⟨_,rfl⟩;rw[hG];have kv:G.obj H.next=some (.vec 30 0 1 (jx n [.d (.k (.slice none 0 0))]) true):=by rw[<-hG];simp[GH.au,GH.aq]
 have kw:G.obj (H.next+1)=some (.box [sl (p.az.map rS),sl (p.aj.map ez),.d (.k (.slice none 0 0)),.vs H.next 0 1 0 n]):=by rw[<-hG];simp[GH.au,GH.aq]
 have kn:G.next=H.next+2:=by rw[<-hG];simp[GH.aq]
 have kl:∀m,m<H.next->G.obj m=H.obj m:=λm hm=>by
  rw[<-hG,GH.au,if_neg (by rw[GH.aq];omega),GH.au,if_neg (by omega)]
 refine AW.fzVec H.next kv ?_;obtain⟨G0,LY⟩:∃G0,G.set H.next (.vec 30 0 1 (xV (jx n [.d (.k (.slice none 0 0))])) true)=G0:=⟨_,rfl⟩;have hfz:=CR n;rw[hfz]at LY;rw[hfz];simp only[LS.Cd];rw[show(G.set H.next (.vec 30 0 1 ((List.replicate n ([]:cr)).map bY) true))=G0 from LY]
 have e0:G0.next=H.next+2:=by rw[<-LY,GH.aL];exact kn
 have cv:G0.obj H.next=some (.vec 30 0 1 ((List.replicate n ([]:cr)).map bY) true):=by rw[<-LY,GH.aX]
 have cw:G0.obj (H.next+1)=some (.box [sl (p.az.map rS),sl (p.aj.map ez),.d (.k (.slice none 0 0)),.vs H.next 0 1 0 n]):=by rw[<-LY,GH.ay,if_neg (by omega)];exact kw
 have cl:∀m,m<H.next->G0.obj m=H.obj m:=λm hm=>by rw[<-LY,GH.ay,if_neg (by omega)];exact kl m hm
 clear kv kw kn kl LY hG hfz
 have hwr:=λi:Nat=>λ(q:i<1000)=>aB (n:=9223372036854775807) (show i<9223372036854775807 by omega)
 obtain⟨S,hS⟩:∃S,mg p l=S:=⟨_,rfl⟩;have hSl:S.length=p.az.length:=by rw[<-hS];simp[mg]
 have LX:∀b∈S,bI b:=λb hb=>by
  rw[<-hS]at hb;obtain⟨i,_,rfl⟩:=List.mem_map.1 hb;exact yH hl hi (i:Nat)
 refine AW.seq cc ?_;simp[ax];refine AW.aU cc (λa:Nat×LV×GH=>⟨[(1,sl (l.map bg)),(2,.ip ((ax p).map .d) 0),(6,.gp (H.next+1) 0),(7,aH a.1)],[],a.2.2⟩) (λa=>p.az.length-a.1)
  (λa=>a.1<=p.az.length/\cm 30 1 H a.2.1 ((S.take a.1).map bX) a.2.2/\H.next+2<=a.2.2.next/\a.2.2.obj (H.next+1)=some (.box [sl (p.az.map rS),sl (p.aj.map ez),a.2.1,.vs H.next 0 1 0 n])/\a.2.2.obj H.next=some (.vec 30 0 1 ((List.replicate n ([]:cr)).map bY) true))
  (0,.d (.k (.slice none 0 0)),G0) ⟨⟨Nat.zero_le _,?_,by rw[e0];exact Nat.le_refl _,cw,cv⟩,by simp[ax,GH.aq]⟩ ?_
 ·exact⟨.inl ⟨rfl,rfl⟩,by simp only;omega,cl⟩
 rintro⟨i,y,G1⟩ ⟨Dt,aA,gn,gw,gv⟩;simp only at Dt aA gn gw gv;simp[ax];have IB:∀b,y≠ .kQ (H.next+1) b/\y≠ .kQ H.next b:=λb=>by
  rcases aA.is with⟨_,q⟩|⟨m,q1,q2,q3,q4⟩
  ·rw[q];exact⟨by simp,by simp⟩
  ·rw[q3];refine⟨λe=>?_,λe=>?_⟩
   ·cases e;rw[gw]at q4;cases q4
   ·cases e;rw[gv]at q4;cases q4
 refine⟨λh=>?_,λh=>?_⟩
 ·have hsb:mZ l i=mR (ga l i):=by
   unfold mZ bV;rw[List.filter_eq_self.2];intro x hx;obtain⟨e,he,_,rfl⟩:=CP hx;have h5:=(hi e he).1;simpa using h5
  have h2:=ED l i (by omega)
  rw[<-hsb]at h2;have hSi:S[i]?=some (mZ l i):=by rw[<-hS];simp[mg,h]
  simp at h2;refine AW.draw cc [(7,.n)] (.q 0<|.q 1<|.q 2<|.q 3<|.q 5<|.q 6<|.q 7<|.q 8<|.q 4<|.f<|.one 9<|.q 10<|.q 11<|.f<|.one 12<|.done) (by kernel_rfl) ?_
  simp;refine FC.aJ h2 ?_;simp[gw,aA.plain.all,bY];refine eE.dJ (ys:=[bX (mZ l i)]) P7 rfl uP (by simp) (x:=y) (by simp) aA (by simp[bX,rowsOf]) (by simp) (Aa _) (λr hr=>by simp only[List.mem_singleton]at hr;subst hr;rfl) (by simp;omega) (by simp) λx' H3 aG hn3 ho3=>?_
  simp only at hn3 ho3;have gw3:=(ho3 (H.next+1) (by omega) λr=>(IB r).1).trans gw
  have gv3:=(ho3 H.next (by omega) λr=>(IB r).2).trans gv
  simp[aG.plain.all,gw3];have fU:(S.take i).map bX++[bX (mZ l i)]=(S.take (i+1)).map bX:=by
   rw[List.take_succ,hSi,List.map_append];rfl
  rw[fU]at aG;refine⟨aG.nb,NX.go (i+1,x',H3.set (H.next+1) (.box [sl (p.az.map rS),sl (p.aj.map ez),x',.vs H.next 0 1 0 n])) (by simp only;omega) ⟨h,⟨?_,by rw[GH.aL];exact aG.nx,λm hm=>by rw[GH.ay,if_neg (by omega)];exact aG.ob m hm⟩,by rw[GH.aL];omega,by rw[GH.aX],by rw[GH.ay,if_neg (by omega)];exact gv3⟩ (by simp[hwr i (by omega),ax])⟩
  rcases aG.is with q|⟨k,q1,q2,q3,q4⟩
  ·exact .inl q
  ·exact .inr ⟨k,q1,by rw[GH.aL];exact q2,q3,by rw[GH.ay,if_neg (λe=>by rw[e,gw3]at q4;cases q4)];exact q4⟩
 ·have:i=p.az.length:=by omega
  subst this;rw[List.take_of_length_le (by omega)]at aA
  have hs1:=fb.s1;obtain⟨ns,b1,b2,rfl,b4⟩:∃ns,H.next<=ns/\ns<G1.next/\y=.kQ ns (S.map bX)/\G1.obj ns=some (.arr 30 1 (S.map bX).length):=by
   rcases aA.is with⟨q,_⟩|⟨ns,q1,q2,q3,q4⟩
   ·have:=congrArg List.length q;simp only[List.length_map,List.length_nil]at this;omega
   ·exact⟨ns,q1,q2,q3,q4⟩
  have hne1:ns≠H.next:=λe=>(IB (S.map bX)).2 (by rw[e])
  have hne2:ns≠H.next+1:=λe=>(IB (S.map bX)).1 (by rw[e])
  obtain⟨GG,M9⟩:∃GG:List cr->GH,GG=λaj=>G1.set H.next (.vec 30 0 1 (aj.map bY) true):=⟨_,rfl⟩
  have hW:∀aj:List cr,aj.length=n->Cz (GG aj) (H.next+1) ns H.next p ⟨S,aj⟩:=λaj pL=>by
   rw[M9];refine⟨?_,?_,?_,by rw[hn];exact pL,hSl⟩
   ·simp only[pL];rw[GH.ay,if_neg (by omega)];exact gw
   ·rw[GH.ay,if_neg hne1];simpa using b4
   ·exact GH.aX
  have oL:∀aj m,m<H.next->(GG aj).obj m=H.obj m:=λaj m hm=>by rw[M9];simp only;rw[GH.ay,if_neg (by omega)];exact aA.ob m hm
  have oN:∀aj,(GG aj).next=G1.next:=λaj=>by rw[M9];rfl
  have hGG0:GG (List.replicate n [])=G1:=by rw[M9];exact GH.iH gv
  have h3:=xm p g.n6 λd hd=>Nat.le_trans (g.len d hd) (by omega)
  rw[Gg g]at h3;have h4:=tf p (Km p) (o7 p) g.n6 (Mr g) (Mq g) h3;rw[z8 g]at h4;have ht:∀i j k,bh p i j=true->bh p j k=true->bh p i k=true:=λi j k h1 h2=>gB h1 h2
  have h2:=Ce p p.aj.length (bh p) rfl g.n6 ht h4 (xo g);rw[<-QC ht]at h2;have hK0:=Lr hp l;rw[hS,hn]at hK0;rw[hn]at h2 h4;have Dv:∀g∈gR n (bh p),tJ p g:=λg hg=>by rw[<-hn]at hg;exact((kC (p:=p) p.aj.length [] (λx hx=>absurd hx List.not_mem_nil)).1 g hg).1
  have hgll:(gR n (bh p)).length<=6:=Nat.le_trans (pR _ _) (by omega)
  have A1:∀g∈gR n (bh p),g.length<=6:=λg hg=>by
   have:=dL (Dv g hg).nodup λx hx=>List.mem_range.2 ((Dv g hg).lt hx)
   simp at this;omega
  obtain⟨GS,PP⟩:∃GS,gR n (bh p)=GS:=⟨_,rfl⟩;rw[PP]at h2 hK0 Dv hgll A1;simp[ax]at h2 h4;refine AW.seq cc ?_;simp[ax];refine EC.aJ h2 ?_;simp;refine AW.seq cc ?_;simp[ax];refine EC.aJ h4 ?_;simp;obtain⟨K,hK⟩:∃K,fA p l=K:=⟨_,rfl⟩;rw[hK]at hK0;refine AW.seq cc ?_;simp;refine AW.aU cc (λa:Nat×List cr=>⟨[(2,.ip ((ax p).map .d) 0),(6,.gp (H.next+1) 0),(8,sl (GS.map rT)),(9,sl ((Aw n (bh p)).map rR)),(10,aH a.1)],[],GG a.2⟩)
   (λa=>GS.length-a.1) (λa=>a.1<=GS.length/\a.2.length=n/\(∀b∈a.2,bI b)/\pQ p S (bh p) (GS.drop a.1) a.2=K) (0,List.replicate n [])
   ⟨⟨Nat.zero_le _,by simp,λb hb=>by rw[List.eq_of_mem_replicate hb];exact⟨.nil,by simp,by simp⟩,hK0.symm⟩,by simp[ax,hGG0]⟩ ?_
  rintro⟨i,aj⟩ ⟨hi1,pL,LN,sR⟩;simp only at hi1 pL LN sR;simp;refine⟨λh=>?_,λh=>?_⟩
  ·obtain⟨gr,hge⟩:∃g,GS[i]=g:=⟨_,rfl⟩;have PO:gr∈GS:=hge▸List.getElem_mem h;have Dw:GS.drop i=gr::GS.drop (i+1):=by rw[List.drop_eq_getElem_cons h,hge]
   rw[Dw,pQ]at sR;have hlt:∀k∈gr,k<n:=λk hk=>by rw[<-hn];exact(Dv gr PO).lt hk
   obtain⟨g0,gt,J6⟩:∃a t,gr=a::t:=by
    obtain⟨d,hd,e⟩:=Dv gr PO;cases gr with
    |nil=>have:=fP (R:=bh p) hd;rw[<-e]at this;cases this
    |cons a t=>exact⟨a,t,rfl⟩
   have hg0n:g0<n:=hlt g0 (by rw[J6];simp)
   have hhd:gr.headD 0=g0:=by rw[J6];rfl
   rw[hhd]at sR;have hgl:=A1 gr PO;have hmat:(Aw n (bh p))[g0]?=some ((List.range n).map λj=>bh p g0 j):=by simp[Aw,hg0n]
   have hrow:((List.range n).map λj=>bh p g0 j)[g0]?=some (bh p g0 g0):=by simp[hg0n]
   simp[h,List.getElem?_eq_getElem h,hge,rT];refine AW.draw cc [] (.q 0<|.q 1<|.q 2<|.q 3<|.q 9<|.q 10<|.q 11<|.q 4<|.q 5<|.q 6<|.q 7<|.q 8<|.q 12<|.q 13<|.q 14<|.q 15<|.q 16<|.done) (by kernel_rfl) ?_
   have hml:(Aw n (bh p)).length=n:=by simp[Aw]
   have hmg:∀q,(Aw n (bh p))[g0]'q=(List.range n).map λj=>bh p g0 j:=λq=>by simp[Aw]
   simp[h,hge,rT,J6,rI,hml,hg0n,rR,rB,hmg];obtain⟨K2,hK2⟩:∃K2,Bb p S gr (bh p g0 g0) aj=K2:=⟨_,rfl⟩;have Vy:ir p S 1 gr 202 (if bh p g0 g0=true then 0 else 200) aj=K2:=by
    rw[<-hK2];unfold Bb
    split
    ·rfl
    ·rw[ir];cases gb p S 200 gr aj<;>rfl
   rw[hK2]at sR;obtain⟨top0,ht0⟩:∃t:Int,t=(if bh p g0 g0=true then 0 else 200):=⟨_,rfl⟩
   rw[<-ht0]at Vy;have Vp:0<=top0/\top0<=200:=by rw[ht0];split<;>omega
   refine⟨λq=>?_,λq=>?_⟩
   all_goals
    refine AW.aU cc (λa:Nat×Int×List cr=>⟨[(2,.ip ((ax p).map .d) 0),(6,.gp (H.next+1) 0),(8,sl (GS.map rT)),(9,sl ((Aw n (bh p)).map rR)),(10,aH i),(12,aH a.2.1)],[],GG a.2.2⟩)
     (λa=>a.1) (λa=>0<=a.2.1/\a.2.1<=201/\201-a.2.1<a.1/\a.2.2.length=n/\(∀b∈a.2.2,bI b)/\(a.2.1<=200->ir p S 1 gr (a.1-1) a.2.1 a.2.2=K2)/\(a.2.1=201->some a.2.2=K2)) (203,top0,aj)
     ⟨⟨Vp.1,by simp only;omega,by simp only;omega,pL,LN,λ_=>Vy,λe=>by simp only at e;omega⟩,by simp[ax,ht0,q]⟩ ?_
    rintro⟨f,top,defs1⟩ ⟨ht1,ht2,hf3,OM,Dx,lg,Vz⟩;simp only at ht1 ht2 hf3 OM Dx lg Vz;simp;refine⟨λMS=>?_,λMS=>?_⟩
    ·obtain⟨f,rfl⟩:∃f',f=f'+2:=⟨f-2,by omega⟩
     have lg:=lg MS;rw[show f+2-1=f+1 from rfl,ir]at lg
     obtain⟨K3,hK3⟩:∃K3,gb p S top gr defs1=K3:=⟨_,rfl⟩;rw[hK3]at lg;refine AW.aU cc (λa:Nat×List cr=>⟨[(2,.ip ((ax p).map .d) 0),(6,.gp (H.next+1) 0),(8,sl (GS.map rT)),(9,sl ((Aw n (bh p)).map rR)),(10,aH i),(12,aH top),(13,aH a.1)],[],GG a.2⟩)
      (λa=>gr.length-a.1) (λa=>a.1<=gr.length/\a.2.length=n/\(∀b∈a.2,bI b)/\gb p S top (gr.drop a.1) a.2=K3) (0,defs1) ⟨⟨Nat.zero_le _,OM,Dx,hK3⟩,by simp[ax]⟩ ?_
     rintro⟨j,defs2⟩ ⟨hj,rz,lq,hk2⟩;simp only at hj rz lq hk2;simp[h,List.getElem?_eq_getElem h,hge,rT];refine⟨λII=>?_,λII=>?_⟩
     ·obtain⟨d,J8⟩:∃d,gr[j]=d:=⟨_,rfl⟩;have hdm:d∈gr:=J8▸List.getElem_mem II;have wE:=(Dv gr PO).lt hdm;have LM:gr.drop j=d::gr.drop (j+1):=by rw[List.drop_eq_getElem_cons II,J8]
      rw[LM,gb,CL]at hk2;have hexd:(p.aj.getD d default).exp=p.aj[d].exp:=oG wE;rw[hexd]at hk2;have hex:=zI (W:=⟨S,defs2⟩) d6 LX lq MS _ p.aj[d].exp (Nat.lt_succ_self _) (he d wE) (GG defs2) (hW defs2 rz);simp[ai]at hex;refine AW.draw cc [] (.q 0<|.q 1<|.q 3<|.q 4<|.q 5<|.q 7<|.q 13<|.q 2<|.q 6<|.q 8<|.q 9<|.q 10<|.q 11<|.q 12<|.f<|.one 14<|.q 15<|.q 16<|.q 17<|.q 18<|.q 19<|.done) (by kernel_rfl) ?_
      simp[h,hge,ax,rT,rI,II,J8,wE,List.getElem?_eq_getElem wE,List.getElem?_eq_getElem II,ez,ai];refine⟨by rw[oN];have:=aA.nx;omega,ya.of hex (λv H2 hR _=>?_) (λx H2 env hR lH=>?_)⟩
      ·obtain⟨hE,hm⟩:=hR;rw[hE]
       clear hE
       cases hx:fW p ⟨S,defs2⟩ top p.aj[d].exp with
       |some b=>
        rw[hx]at hm hk2;cases hm;have iT:d<defs2.length:=by omega
        have ff:List.take d (defs2.map bY)++LV.d (DV.sl (b.map ak))::List.drop (d+1) (defs2.map bY)=(defs2.set d b).map bY:=by
         rw[List.map_set,List.set_eq_take_append_cons_drop,if_pos (by simpa using iT)];rfl
        have A6:(GG defs2).set H.next (.vec 30 0 1 ((defs2.set d b).map bY) true)=GG (defs2.set d b):=by rw[M9];exact GH.set_set
        have Fh:bI b:=nw (W:=⟨S,defs2⟩) LX lq MS _ _ (Nat.lt_succ_self _) (he d wE) b hx;have hwW:=(hW defs2 rz).ob;have hov:=(hW defs2 rz).ov;simp[bY];refine AW.draw cc [] (.q 0<|.q 1<|.q 2<|.q 4<|.q 5<|.q 6<|.q 8<|.q 11<|.q 3<|.q 7<|.q 9<|.q 10<|.q 12<|.f<|.one 13<|.done) (by kernel_rfl) ?_
        simp[h,hge,rT,rI,II,J8,List.getElem?_eq_getElem II,hwW,hov,bY];refine⟨iT,?_⟩;simp[show d+1<=defs2.length by omega]
        rw[ff,A6];exact NX.go (j+1,defs2.set d b) (by simp only;omega) ⟨II,by rw[List.length_set];exact rz,λc hc=>by
         rcases List.mem_or_eq_of_mem_set hc with q|q
         ·exact lq c q
         ·rw[q];exact Fh,hk2⟩ (by simp[hwr j (by omega),ax])
       |none=>
        rw[hx]at hm hk2;obtain⟨v',hm⟩:=hm;cases hm;simp;have hkn:fA p l=none:=by
         rw[hK,<-sR];rw[<-hk2]at lg;rw[<-lg]
        refine λhz=>⟨H,aO (by rw[oN];exact aA.nx) (oL defs2) hw.none,?_⟩
        unfold BV;rw[hkn];exact⟨rfl,rfl⟩
      ·obtain⟨_,hm⟩:=hR;cases hx:fW p ⟨S,defs2⟩ top p.aj[d].exp with
       |some b=>rw[hx]at hm;cases hm
       |none=>rw[hx]at hm;obtain⟨v',hm⟩:=hm;cases hm
     ·have:j=gr.length:=by omega
      subst this;rw[List.drop_length,gb]at hk2;rw[<-hk2]at lg;simp only at lg;refine NX.go (f+1,top+1,defs2) (by simp only;omega) ⟨by simp only;omega,by simp only;omega,by simp only;omega,rz,lq,λq=>?_,λq=>?_⟩ (by simp[ax,show IntKind.i64.wrap (top+1)=top+1 by rw[wrap64]<;>omega])
      ·simp only at q|-;rw[if_neg (by omega)]at lg
       have hmt:ic (top+1) 200=top+1:=by unfold ic;rw[if_neg (by omega)]
       rw[hmt]at lg;exact lg
      ·simp only at q|-;rw[if_pos (by omega)]at lg
       exact lg
    ·have e201:top=201:=by omega
     have Vz:=Vz e201;rw[<-Vz]at sR;exact NX.go (i+1,defs1) (by simp only;omega) ⟨h,OM,Dx,sR⟩ (by simp[hwr i (by omega),ax])
  ·have:i=GS.length:=by omega
   subst this;rw[List.drop_length,pQ]at sR;have hwW:=(hW aj pL).ob;refine AW.ev cc ?_;simp;refine λhz=>⟨GG aj,hz.drop (by rw[oN];exact aA.nx),by rw[oN];omega,?_⟩
   unfold BV;rw[hK,<-sR];refine⟨H.next+1,ns,H.next,rfl,by omega,Nat.le_refl _,?_,by rw[oN];exact aA.nx,oL aj,hz⟩
   rw[hS];exact hW aj pL
end Go.Aft
end
