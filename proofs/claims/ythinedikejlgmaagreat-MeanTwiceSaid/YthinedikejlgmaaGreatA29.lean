import Derived.Test.YthinedikejlgmaaGreatA28
import Derived.Test.YthinedikejlgmaaGreatA16
set_option linter.all false
section
set_option maxRecDepth 20000
namespace Go.Aft
open Go.Proofs.Tryz
theorem HE(n:Nat)(hn:0<n/\n<=1000)(H:GH):aG prog 265 [.d (.k (.slice none 0 0)),aH n] H λce H'=>ce=.ret (.vs H.next 0 4 0 0)/\H'=H.add (.vec 86 0 4 (jS n [aH 0,aH 0,aH 0,aH 0]) false):=by
 have cc:=au (p:=bf [] [] [22]);refine aG.MY (au (p:=bf [] [] [22])) func265 rfl call265 (by rw[ntmps265];simp) rfl λhf hw=>?_
 have w0:IntKind.wrap .i64 (n:Int)=n:=by rw[wrap64]<;>omega
 have wJ:¬(n:Int)<0:=by omega
 have wz:IntKind.wrap .i64 0=0:=rfl;have hn2:¬(n:Int)<=0:=by omega
 simp[ntmps265,results265];refine AW.ev cc ?_;simp[w0,wJ,hn.1,wz,hn2];refine eO.ev ?_;simp[hn2,hn.1];exact⟨by omega,λhz=>⟨hz.drop (by rw[GH.aq];omega),by rw[GH.aq];omega⟩⟩
theorem Fm(H:GH):aG prog 265 [.d (.k (.slice none 0 0)),aH 0] H λce H'=>ce=.ret (.d (.k (.slice none 0 0)))/\H'=H:=by
 have cc:=au (p:=bf [] [] [22]);refine aG.MY (au (p:=bf [] [] [22])) func265 rfl call265 (by rw[ntmps265];simp) rfl λhf hw=>?_
 have wz:IntKind.wrap .i64 0=0:=rfl;simp[ntmps265,results265,wz];refine AW.ev cc ?_;simp[wz];exact λhz=>hz.drop (Nat.le_refl _)
def vr(k:Nat):List LV:=jS k [aH 0,aH 0,aH 0,aH 0]
theorem QU(k:Nat):(vr k).length=k*4:=by
 unfold vr jS
 induction k with
 |zero=>rfl
 |succ k ih=>rw[List.replicate_succ,List.flatten_cons,List.length_append,ih,Nat.succ_mul];simp;omega
theorem Dh:∀(k j:Nat),(vr k).drop (j*4)=vr (k-j)
 |k,0=>by simp
 |0,j+1=>by simp[vr,jS]
 |k+1,j+1=>by
  have h:vr (k+1)=[aH 0,aH 0,aH 0,aH 0]++vr k:=by simp[vr,jS,List.replicate_succ]
  rw[h,show(j+1)*4=4+j*4 by omega,<-List.drop_drop,List.drop_left' (by rfl),Dh k j,show k+1-(j+1)=k-j by omega]
theorem VO(A X:List LV)(k j:Nat)(hX:X.length=j*4):putAt (A++vr k) A.length X=A++X++vr (k-j):=by
 unfold putAt;rw[List.take_left,<-List.drop_drop,List.drop_left,hX,Dh]
theorem CN(a b:cg)(ha:a.length<=300)(hb:b.length<=300):aC prog 225 [eA [a,b]] (b9 (a++b)):=by
 intro H;have cc:=au (p:=bf [] [] [33]);refine aG.dG (au (p:=bf [] [] [33])) func225 rfl call225 (by rw[ntmps225];simp) rfl λhf hw=>?_
 simp[ntmps225,results225]at hf|-;refine AW.seq cc ?_;simp;refine AW.seq cc ?_;simp;refine AW.seq cc ?_;simp;obtain⟨ks,hks⟩:∃ks,[a,b]=ks:=⟨_,rfl⟩;have hk2:ks.length=2:=by rw[<-hks];rfl
 have hrk:[bY a,bY b]=ks.map bY:=by rw[<-hks];rfl
 have jo:∀x∈ks,x.length<=300:=λx hx=>by rw[<-hks]at hx;simp at hx;rcases hx with rfl|rfl<;>omega
 have hfl:ks.flatten=a++b:=by rw[<-hks];simp
 obtain⟨sm,hsm⟩:∃sm:Nat->Nat,sm=λi=>(ks.take i).flatten.length:=⟨_,rfl⟩
 have Bs:∀i,i<=2->sm i<=600:=λi hi=>by
  rw[hsm,<-hks];have:i=0\/ i=1\/ i=2:=by omega
  rcases this with rfl|rfl|rfl<;>simp<;>omega
 have dK:∀i,(h:i<ks.length)->sm (i+1)=sm i+ks[i].length:=λi h=>by
  rw[hsm];simp only;rw[<-aR h,List.flatten_append,List.length_append];simp
 have hs0:sm 0=0:=by rw[hsm];simp
 have hs2:sm 2=a.length+b.length:=by rw[hsm];simp only;rw[<-hk2,List.take_length,hfl,List.length_append]
 rw[hrk];refine AW.aV cc (λi:Nat=>⟨[(0,sl (ks.map bY)),(3,aH (sm i:Nat)),(9,sl (ks.map bY)),(10,aH 2),(11,aH i)],[],H⟩) (λi=>2-i) (λi=>i<=2) 0 ⟨by omega,by simp[hs0]⟩ ?_
 intro i hi;have hsi:=Bs i hi;simp;refine⟨λh=>?_,λh=>?_⟩
 ·have h':i<ks.length:=by omega
  obtain⟨x,dc⟩:∃x,ks[i]=x:=⟨_,rfl⟩;have gx:ks.take (i+1)=ks.take i++[x]:=by rw[<-aR h',dc]
  have ug:=jo x (dc▸List.getElem_mem h');have Mr:=dK i h';rw[dc]at Mr;have w1:IntKind.wrap .i64 ((sm i:Int)+(x.length:Int))=(sm (i+1):Nat):=by rw[Mr,wrap64]<;>omega
  have GU:=aB (n:=9223372036854775807) (show i<9223372036854775807 by omega)
  have hp:¬((sm (i+1):Nat):Int)<0:=by omega
  simp[h',List.getElem?_eq_getElem h',dc,bY,w1,hp];exact NX.go (i+1) (by omega) (by omega) (by simp[GU])
 ·have e2:i=2:=by omega
  subst e2;rw[hs2];obtain⟨n,hn⟩:∃n,a.length+b.length=n:=⟨_,rfl⟩;have Ug:n<=600:=by omega
  rw[hn];by_cases h0:n=0
  ·have ha0:a=[]:=List.eq_nil_of_length_eq_zero (by omega)
   have hb0:b=[]:=List.eq_nil_of_length_eq_zero (by omega)
   subst ha0 hb0;subst h0;refine AW.seq cc ?_;simp;refine EC.of (Fm H) (λv H2 hR=>?_) (λv H2 hR=>by cases hR.1)
   obtain⟨q,rfl⟩:=hR;cases q;simp;refine AW.seq cc ?_;simp;refine AW.aV cc (λi:Nat=>⟨[(6,.d (.k (.slice none 0 0))),(25,sl (ks.map bY)),(26,aH 2),(27,aH i)],[],H2⟩) (λi=>2-i) (λi=>i<=2) 0 ⟨by omega,by simp[hk2]⟩ ?_
   intro i hi;simp;refine⟨λh=>?_,λh=>?_⟩
   ·have h':i<ks.length:=by omega
    have hx0:ks[i]=[]:=by
     have hm:=List.getElem_mem h';have hall:∀y∈ks,y=[]:=λy hy=>by rw[<-hks]at hy;simpa using hy
     exact hall _ hm
    have GU:=aB (n:=9223372036854775807) (show i<9223372036854775807 by omega)
    simp[h',List.getElem?_eq_getElem h',hx0,bY];refine eO.ev ?_;simp;exact NX.go (i+1) (by omega) (by omega) (by simp[GU])
   ·refine AW.ev cc ?_;simp[b9];exact λhz=>hz.drop (Nat.le_refl _)
  ·refine AW.seq cc ?_;simp;refine EC.of (HE n (by omega) H) (λv H2 hR=>?_) (λv H2 hR=>by cases hR.1)
   obtain⟨q,hE⟩:=hR;cases q;rw[hE]
   clear hE
   simp;refine AW.seq cc ?_;simp;obtain⟨cel,Wy⟩:∃cel:Nat->List LV,cel=λi=>bM ((ks.take i).flatten.map ak)++vr (n-sm i):=⟨_,rfl⟩
   have hc0:cel 0=vr n:=by rw[Wy];simp[hs0,bM]
   refine AW.aV cc (λi:Nat=>⟨[(6,.vs H.next 0 4 0 (sm i)),(25,sl (ks.map bY)),(26,aH 2),(27,aH i)],[],H.add (.vec 86 0 4 (cel i) false)⟩) (λi=>2-i) (λi=>i<=2) 0 ⟨by omega,by simp[hk2,hs0,hc0,vr]⟩ ?_
   intro i hi;simp;refine⟨λh=>?_,λh=>?_⟩
   ·have h':i<ks.length:=by omega
    obtain⟨x,dc⟩:∃x,ks[i]=x:=⟨_,rfl⟩;have Mr:=dK i h';rw[dc]at Mr;have GU:=aB (n:=9223372036854775807) (show i<9223372036854775807 by omega)
    have ob:∀X,(H.add X).obj H.next=some X:=λX=>by rw[GH.ax,if_pos rfl]
    have fE:∀X Y,(H.add X).set H.next Y=H.add Y:=λX Y=>GH.cV
    simp[h',List.getElem?_eq_getElem h',dc,bY];refine eO.ev ?_;have ug:=jo x (dc▸List.getElem_mem h');have gx:ks.take (i+1)=ks.take i++[x]:=by rw[<-aR h',dc]
    have hse:sm (i+1)<=n:=by
     have:i=0\/ i=1:=by omega
     have h12:sm 2=sm 1+ks[1].length:=dK 1 (by omega)
     rcases this with rfl|rfl
     ·show sm 1<=n;omega
     ·show sm 2<=n;omega
    have hA:(bM ((ks.take i).flatten.map ak)).length=sm i*4:=by
     rw[oW (λx=>DD x),hsm]
    have hX:(bM (x.map ak)).length=x.length*4:=oW (λx=>DD x) x
    have lX:(cel i).length=n*4:=by
     rw[Wy];simp only;rw[List.length_append,hA,QU];omega
    have hput:(cel i).take (sm i*4)++(bM (x.map ak)++(cel i).drop (sm i*4+x.length*4))=cel (i+1):=by
     have:=VO (bM ((ks.take i).flatten.map ak)) (bM (x.map ak)) (n-sm i) x.length hX;rw[Wy];simp only;unfold putAt at this;rw[hA,hX,List.append_assoc]at this;rw[this,gx,List.flatten_append,List.map_append,wh,Mr];simp only[List.flatten_cons,List.flatten_nil,List.append_nil];rw[show n-sm i-x.length=n-(sm i+x.length)by omega]
    by_cases hx0:x=[]
    ·have hce:cel (i+1)=cel i:=by
      rw[hx0]at hput;simp[bM]at hput;exact hput.symm
     have bk1:sm (i+1)=sm i:=by rw[Mr,hx0];rfl
     simp[ob,hx0];exact NX.go (i+1) (by omega) (by omega) (by simp[GU,hce,bk1])
    ·have hle:(sm i+x.length)*4<=n*4:=by omega
     have bm0:∀N,cD N (bM (x.map ak)):=λN=>oZ N _
     simp[ob,hx0,lX,hle,hX,hput,bm0,fE];exact NX.go (i+1) (by omega) (by omega) (by simp[GU,Mr])
   ·have e2:i=2:=by omega
    subst e2;have nu:cel 2=bM ((a++b).map ak):=by
     rw[Wy];simp only;rw[hs2,hn,Nat.sub_self,<-hk2,List.take_length,hfl];simp[vr,jS]
    rw[nu];refine AW.cM (n:=H.next) (g:=0) (sz:=4) (e:=86) (ex:=false) ((a++b).map ak) (by simp[GH.ax]) rfl (bp _) ?_
    refine AW.ev cc ?_;have htf:((a.map ak)++(b.map ak)).take (a.length+b.length)=(a.map ak)++(b.map ak):=List.take_of_length_le (by simp)
    have o3:∀X m,m<H.next->(H.add X).obj m=H.obj m:=λX m hm=>by rw[GH.ax,if_neg (by omega)]
    simp[hs2,htf,b9];exact λhz=>aL (by simp only[GH.aq];omega) (λm hm=>kH hw (Nat.le_refl _) (o3 _) hm) hw.none
theorem K8(n:Nat)(e:bz)(a b:cg)(ha:bB a)(hb:bB b):aC prog 188 [.gp n 0,lv (aS e),eA [a,b]] (b9 (a++b)):=by
 have cc:=au (p:=bf [4] [] []);have hco:=CN a b ha.2.1 hb.2.1;simp[bY]at hco;refine aC.body (au (p:=bf [4] [] [])) func188 rfl call188 (by rw[ntmps188];simp) rfl λhf H=>?_
 simp[ntmps188,results188,aj];refine AW.draw cc [(7,.n)] (.q 0<|.q 1<|.q 3<|.q 4<|.q 2<|.q 5<|.q 6<|.q 7<|.q 8<|.done) (by kernel_rfl) ?_
 have hr:List.range' 0 2=[0,1]:=rfl;simp[aj,bY,hr];refine FC.aJ hco ?_;simp[b9]
theorem Df(l:List Item)(q:Item->Bool)(f:FuncId)(hc:∀n∈l,aC prog f [lv (ak n)] (.d (.k (.bool (q n))))):aC prog 175 [sl (l.map ak),.fn (.func f) [] []] (aH (Bq q l)):=by
 have cc:=aP;refine aC.body aP func175 rfl call175 (by rw[ntmps175];simp) rfl λhf H=>?_
 simp[ntmps175,results175]at hf|-;refine AW.aV cc (λi:Nat=>⟨[(0,.d (.sl (l.map ak))),(1,.fn (.func f) [] []),(7,aH l.length),(8,aH i)],[],H⟩) (λi=>l.length-i) (λi=>i<=l.length/\∀j (h:j<l.length),j<i->q l[j]=false) 0 ⟨by simp,by simp[LV.only,ec]⟩ ?_
 rintro i ⟨hi,hk⟩;simp;refine⟨λh=>?_,λh=>?_⟩
 ·have gY:=hc l[i] (List.getElem_mem h);simp[ak]at gY;simp[h,List.getElem?_eq_getElem h,ak];refine EC.aJ gY ?_;simp[aB h hf.1];refine⟨λe=>(zo h e hk).symm,λe=>NX.go (i+1) (Nat.sub_lt_sub_left h (Nat.lt_succ_self i)) ⟨h,λj hj hji=>?_⟩ (by simp)⟩
  by_cases z:j=i
  ·subst z;exact e
  ·exact hk j hj (by omega)
 ·exact(tn λj hj=>hk j hj (by omega)).symm
theorem ph(l:List Item)(q:Item->Bool)(f:FuncId)(hc:∀n∈l,aC prog f [lv (ak n)] (.d (.k (.bool (q n))))):aC prog 113 [sl (l.map ak),.fn (.func f) [] []] (.d (.k (.bool (l.any q)))):=by
 refine aC.body aP func113 rfl call113 (by rw[ntmps113];simp) rfl λhf H=>?_
 have hi:=Df l q f hc;simp at hi;simp[ntmps113,results113];refine EC.aJ hi ?_;simp;rw[<-vY q l]
theorem S3(x:Item):aC prog 143 [lv (ak x)] (.d (.k (.bool (decide (1000000<x.n))))):=by
 refine aC.body (au (p:=bf [1] [] [])) func143 rfl call143 (by rw[ntmps143];simp) rfl λhf H=>?_
 simp[ntmps143,results143,ak]
def vz:LV:=.d (.k (.iface 191 (.agg #[])))
structure qv(p:Prog)(e:bz):Prop where
 ok:hU e.op e.name e.n e.fold e.aD.length e.kids.length=true
 nm:e.op=1->0<=idx p.az e.name
 df:e.op=2\/ e.op=3->0<=idx (an p) e.name
 cs:∀c∈e.aD,vn c
theorem xK{l:List bh}(h:l.length=1):∃c,l=[c]:=by
 match l,h with
 |[c],_=>exact⟨c,rfl⟩
theorem TC{l:List bh}(h:l.length=2):∃c d,l=[c,d]:=by
 match l,h with
 |[c,d],_=>exact⟨c,d,rfl⟩
theorem jI{l:List cg}(h:l.length=1):∃c,l=[c]:=by
 match l,h with
 |[c],_=>exact⟨c,rfl⟩
theorem um{l:List cg}(h:l.length=2):∃c d,l=[c,d]:=by
 match l,h with
 |[c,d],_=>exact⟨c,d,rfl⟩
theorem jy{f:FuncId}{args:List LV}{l:List Item}{H:GH}(h:aG prog f args H λce H'=>ce=.ret (b9 l)/\H'=H):aG prog f args H (Cu l H):=
 h.mono λce H' q=>⟨⟨l,.refl _,q.1⟩,q.2⟩
theorem wT{f:FuncId}{args:List LV}{l:List Item}{H:GH}(h:aC prog f args (b9 l)):aG prog f args H (Cu l H):=jy (h H)
theorem ru{op:Int}{name:cq}{n fold:Int}{nc nk:Nat}(h:hU op name n fold nc nk=true):∃x,bK op=some x/\(nk:Int)=x.kids/\(nc:Int)=x.aD/\x.low<=n/\n<=x.high:=by
 unfold hU at h;cases q:bK op with
 |none=>rw[q]at h;cases h
 |some x=>
  rw[q]at h;simp only[Bool.and_eq_true,decide_eq_true_eq]at h;exact⟨x,rfl,h.1.1.1.1,h.1.1.1.2,h.1.2.1,h.1.2.2⟩
theorem OJ{H:GH}{n ms mn mv ma:Nat}{p:Prog}{W:bZ}(hW:Wld H n ms mn mv ma p W)(hd:∀b∈W.ai,bB b)(e:bz)(he:qv p e)(ks:List cg)(hk:ks.length=e.kids.length)(hks:∀b∈ks,bB b):
  aG prog (184+e.op.toNat) [.gp n 0,lv (aS e),eA ks] H (Cu (gu p W e.op e.name e.n e.fold e.aD ks) H):=by
 obtain⟨x,h1,h2,h3,h4,h5⟩:=ru he.ok;have hop:1<=e.op/\e.op<=15:=Classical.byContradiction λhn=>by
  unfold bK at h1
  repeat (rw[if_neg (by omega)]at h1)
  cases h1
 obtain⟨o,ho⟩:∃o,e.op=o:=⟨_,rfl⟩;have qb:o=1\/ o=2\/ o=3\/ o=4\/ o=5\/ o=6\/ o=7\/ o=8\/ o=9\/ o=10\/ o=11\/ o=12\/ o=13\/ o=14\/ o=15:=by omega
 rw[ho]at h1|-;have hnm:=he.nm;have hdf:=he.df;have hcs:=he.cs;rw[ho]at hnm hdf;rcases qb with rfl|rfl|rfl|rfl|rfl|rfl|rfl|rfl|rfl|rfl|rfl|rfl|rfl|rfl|rfl
 all_goals
  simp[bK]at h1;subst h1;simp only at h2 h3 h4 h5
 ·exact jy (E8 hW e ks (hnm rfl))
 ·exact jy (OI hW e ks (hdf (.inl rfl)))
 ·exact jy (K1 hW e ks (hdf (.inr rfl)) (by omega) hd)
 ·obtain⟨a,b,rfl⟩:=um (l:=ks) (by omega)
  exact wT (K8 n e a b (hks a (by simp)) (hks b (by simp)))
 ·obtain⟨a,rfl⟩:=jI (l:=ks) (by omega)
  obtain⟨c,hc⟩:=xK (l:=e.aD) (by omega)
  rw[hc];exact wT (GY n e c a (hks a (by simp)) hc (hcs c (by rw[hc];simp)))
 ·obtain⟨a,rfl⟩:=jI (l:=ks) (by omega)
  obtain⟨c,d,hc⟩:=TC (l:=e.aD) (by omega)
  rw[hc];exact jy (K7 n e c d a (hks a (by simp)) hc (hcs c (by rw[hc];simp)) (hcs d (by rw[hc];simp)) H)
 ·obtain⟨a,rfl⟩:=jI (l:=ks) (by omega)
  exact wT (G8 n e a (hks a (by simp)) (by omega))
 ·obtain⟨a,rfl⟩:=jI (l:=ks) (by omega)
  exact G9 n e a (hks a (by simp)) (by omega) H
 ·obtain⟨a,rfl⟩:=jI (l:=ks) (by omega)
  exact G7 n e a (hks a (by simp)) (by omega) H
 ·obtain⟨a,rfl⟩:=jI (l:=ks) (by omega)
  exact GZ n e a (hks a (by simp)) H
 ·obtain⟨a,rfl⟩:=jI (l:=ks) (by omega)
  exact K0 n e a (hks a (by simp)) (by omega) H
 ·obtain⟨a,b,rfl⟩:=um (l:=ks) (by omega)
  obtain⟨c,hc⟩:=xK (l:=e.aD) (by omega)
  rw[hc];exact jy (K4 n e c a b (hks a (by simp)) (hks b (by simp)) hc (hcs c (by rw[hc];simp)) (by omega) H)
 ·obtain⟨a,b,rfl⟩:=um (l:=ks) (by omega)
  obtain⟨c,hc⟩:=xK (l:=e.aD) (by omega)
  rw[hc];exact jy (K9 n e c a b (hks a (by simp)) (hks b (by simp)) hc (hcs c (by rw[hc];simp)) H)
 ·obtain⟨a,b,rfl⟩:=um (l:=ks) (by omega)
  exact jy (K6 n e a b (hks a (by simp)) (hks b (by simp)) (by omega) H)
 ·obtain⟨a,rfl⟩:=jI (l:=ks) (by omega)
  exact jy (K5 n e a (hks a (by simp)) H)
def ItB(x:Item):Prop:=(1<=x.n/\x.n<=1000000000000)/\cm x.aa.key/\cm x.aa.val
theorem nB.b{x:Item}(h:nB x):ItB x:=⟨⟨h.2.2.2.1,by have:=h.2.2.2.2;omega⟩,h.2.1,h.2.2.1⟩
theorem NE{n:Int}{l:List Item}(h:∀x∈l,ItB x):∀x∈dP n l,ItB x:=λx hx=>by
 obtain⟨y,hy,rfl⟩:=List.mem_map.1 hx;exact h y hy
theorem sS{f more key:Int}{sp:Int->Option (Int×Int)}{row:List Item}(hk:cm key):∀(l:List Item) (last:Int),∀x∈eu f more key sp row l last,ItB x
 |[],_,x,hx=>by simp[eu]at hx
 |y::l,last,x,hx=>by
  rw[eu]at hx
  split at hx
  ·exact sS hk l last x hx
  ·split at hx
   ·exact sS hk l last x hx
   ·rcases List.mem_cons.1 hx with q|q
    ·subst q;exact⟨⟨Int.le_refl _,by simp only;omega⟩,hk,mu _⟩
    ·exact sS hk l _ x q
theorem zi{f more:Int}{sp:List Item->Int->Option (Int×Int)}{b:cg}(hb:bB b):(gf f more sp b).length<=90000/\∀x∈gf f more sp b,ItB x:=by
 constructor
 ·have h1:=lg (f:=sU f more sp b) (B:=300) (λk=>Nat.le_trans (kP _ _) (Nat.le_trans (zj _ _) hb.2.1)) (bg b)
  have h3:=uN b;have h4:=hb.2.1;have h5:(bg b).length*300<=300*300:=Nat.mul_le_mul_right _ (by omega)
  unfold gf;omega
 ·intro x hx;obtain⟨k,hk,hx⟩:=List.mem_flatMap.1 hx;obtain⟨y,hy,rfl⟩:=mP.1 hk;exact sS (hb.2.2 y hy).2.1 _ _ x hx
theorem xL{p:Prog}{W:bZ}(hs:∀b∈W.az,bB b)(hd:∀b∈W.ai,bB b)(e:bz)(he:qv p e)(ks:List cg)(hk:ks.length=e.kids.length)(hks:∀b∈ks,bB b):
  (gu p W e.op e.name e.n e.fold e.aD ks).length<=90000/\∀x∈gu p W e.op e.name e.n e.fold e.aD ks,ItB x:=by
 obtain⟨x,h1,h2,h3,h4,h5⟩:=ru he.ok;have hcs:=he.cs;have dL:∀(L:List cg) (i:Nat),(∀b∈L,bB b)->(L.getD i []).length<=300/\∀x∈L.getD i [],nB x:=λL i hL=>by
  by_cases q:i<L.length
  ·have:L.getD i []=L[i]:=by simp[List.getD,List.getElem?_eq_getElem q]
   rw[this];exact(hL _ (List.getElem_mem q)).2
  ·have:L.getD i []=[]:=by simp[List.getD,List.getElem?_eq_none (Nat.le_of_not_lt q)]
   rw[this];simp
 have hop:1<=e.op/\e.op<=15:=Classical.byContradiction λhn=>by
  unfold bK at h1
  repeat (rw[if_neg (by omega)]at h1)
  cases h1
 obtain⟨o,ho⟩:∃o,e.op=o:=⟨_,rfl⟩;have qb:o=1\/ o=2\/ o=3\/ o=4\/ o=5\/ o=6\/ o=7\/ o=8\/ o=9\/ o=10\/ o=11\/ o=12\/ o=13\/ o=14\/ o=15:=by omega
 rw[ho]at h1|-;rcases qb with rfl|rfl|rfl|rfl|rfl|rfl|rfl|rfl|rfl|rfl|rfl|rfl|rfl|rfl|rfl
 all_goals
  simp[bK]at h1;subst h1;simp only at h2 h3 h4 h5
 ·have:=dL W.az (idx p.az e.name).toNat hs;exact⟨by simp[gu]at this|-;omega,λx hx=>(this.2 x (by simpa[gu]using hx)).b⟩
 ·have:=dL W.ai (idx (an p) e.name).toNat hd;exact⟨by simp[gu]at this|-;omega,λx hx=>(this.2 x (by simpa[gu]using hx)).b⟩
 ·have:=dL W.ai (idx (an p) e.name).toNat hd;exact⟨by simp[gu,dP]at this|-;omega,NE λx hx=>(this.2 x (by simpa using hx)).b⟩
 ·obtain⟨a,b,rfl⟩:=um (l:=ks) (by omega)
  have ha:=hks a (by simp)
  have hb:=hks b (by simp)
  refine⟨by have:=ha.2.1;have:=hb.2.1;simp[gu];omega,λx hx=>?_⟩
  simp[gu]at hx;rcases hx with q|q
  ·exact(ha.2.2 x q).b
  ·exact(hb.2.2 x q).b
 ·obtain⟨a,rfl⟩:=jI (l:=ks) (by omega)
  have ha:=hks a (by simp)
  simp only[gu];exact⟨Nat.le_trans (List.length_filter_le _ _) (by have:=ha.2.1;simp;omega),λx hx=>(ha.2.2 x (List.mem_filter.1 hx).1).b⟩
 ·obtain⟨a,rfl⟩:=jI (l:=ks) (by omega)
  obtain⟨c,d,hc⟩:=TC (l:=e.aD) (by omega)
  have ha:=hks a (by simp)
  rw[hc]at hcs|-;refine⟨by have:=ha.2.1;simp[gu,yL];omega,λx hx=>?_⟩
  simp only[gu]at hx;obtain⟨y,hy,rfl⟩:=List.mem_map.1 hx;have KR:=ha.2.2 y hy;exact⟨KR.b.1,nS (uP KR) (by unfold cm;omega) (hcs c (by simp)),nS (uP KR) (by unfold cm;omega) (hcs d (by simp))⟩
 ·obtain⟨a,rfl⟩:=jI (l:=ks) (by omega)
  have ha:=hks a (by simp)
  exact⟨by have:=ha.2.1;simp[gu,dP];omega,NE λx hx=>(ha.2.2 x hx).b⟩
 ·obtain⟨a,rfl⟩:=jI (l:=ks) (by omega)
  exact zi (hks a (by simp))
 ·obtain⟨a,rfl⟩:=jI (l:=ks) (by omega)
  exact zi (hks a (by simp))
 ·obtain⟨a,rfl⟩:=jI (l:=ks) (by omega)
  exact zi (hks a (by simp))
 ·obtain⟨a,rfl⟩:=jI (l:=ks) (by omega)
  exact zi (hks a (by simp))
 ·obtain⟨a,b,rfl⟩:=um (l:=ks) (by omega)
  obtain⟨c,hc⟩:=xK (l:=e.aD) (by omega)
  have ha:=hks a (by simp)
  have hb:=hks b (by simp)
  rw[hc]at hcs|-;refine⟨Nat.le_trans (DF _ _ _ _ hb.2.1) (by have:=ha.2.1;simp;omega),λx hx=>?_⟩
  obtain⟨y,hy,hx⟩:=List.mem_flatMap.1 (show x∈kU e.n c a b from hx)
  obtain⟨u,hu,rfl⟩:=List.mem_map.1 hx;have KR:=ha.2.2 y hy;have Sl:=hb.2.2 u (pP (j9 hu)).1;have hr':x5 ⟨kj y.aa.at_ u.aa.at_,y.aa.key,y.aa.val⟩:=⟨by have:=Sl.1;have:=KR.1;unfold cm kj;split<;>simp only<;>omega,KR.2.1,KR.2.2.1⟩
  exact⟨YB KR Sl,KR.2.1,nS hr' Sl.2.2.1 (hcs c (by simp))⟩
 ·obtain⟨a,b,rfl⟩:=um (l:=ks) (by omega)
  obtain⟨c,hc⟩:=xK (l:=e.aD) (by omega)
  have ha:=hks a (by simp)
  have hb:=hks b (by simp)
  rw[hc]at hcs|-;refine⟨Nat.le_trans (ET c a b) (by have:=ha.2.1;omega),λx hx=>?_⟩
  obtain⟨y,hy,hx⟩:=List.mem_flatMap.1 (show x∈jL c a b from hx)
  have KR:=ha.2.2 y hy
  split at hx
  ·cases hx
  ·rename_i u hu;simp only[List.mem_singleton]at hx;subst hx;have Sl:=hb.2.2 u (pP (j9 (List.mem_of_getLast? hu))).1;exact⟨KR.b.1,KR.2.1,nS (uP KR) Sl.2.2.1 (hcs c (by simp))⟩
 ·obtain⟨a,b,rfl⟩:=um (l:=ks) (by omega)
  have ha:=hks a (by simp)
  exact⟨Nat.le_trans (List.length_filter_le _ _) (by have:=ha.2.1;simp;omega),λx hx=>(ha.2.2 x (List.mem_filter.1 hx).1).b⟩
 ·obtain⟨a,rfl⟩:=jI (l:=ks) (by omega)
  have ha:=hks a (by simp)
  refine⟨by have:=ha.2.1;simp[gu,vJ];omega,λx hx=>?_⟩
  obtain⟨y,hy,rfl⟩:=List.mem_map.1 (show x∈vJ a from hx)
  have KR:=ha.2.2 y hy;exact⟨⟨Int.le_refl _,by simp only;omega⟩,KR.2.1,KR.2.2.1⟩
theorem J9{r:Rec}:∀{l:List Item},(∀x∈l,1<=x.n)->0<=bS l r
 |[],_=>Int.le_refl _
 |x::l,h=>by
  have:=J9 (r:=r) (l:=l) λy hy=>h y (by simp[hy])
  have:=h x (by simp)
  rw[bS];split<;>omega
theorem TF{l:List Item}{top:Int}(ht:top<=200)(h:∀x∈l,ItB x)(hf:gZ (b6 l top)=true):bB (b6 l top):=by
 simp only[gZ,Bool.and_eq_true,decide_eq_true_eq,List.all_eq_true]at hf;refine⟨pn _,hf.1,λx hx=>?_⟩
 have hn:=hf.2 x hx;obtain⟨h1,h2⟩:=jJ.1 hx;obtain⟨y,hy,e⟩:=sD (r:=x.aa) (by rw[<-h2];exact h1)
 obtain⟨hyl,hyt⟩:=List.mem_filter.1 hy;have hyb:=h y hyl;simp only[decide_eq_true_eq]at hyt;have hp:=J9 (r:=x.aa) (l:=l.filter λx=>decide (0<=x.aa.at_/\x.aa.at_<=top)) λz hz=>(h z (List.mem_filter.1 hz).1).1.1
 unfold nB;rw[<-e];exact⟨by omega,hyb.2.1,hyb.2.2,by omega,hn⟩
def eb(g:bz->Option cg):List bz->Option (List cg)
 |[]=>some []
 |e::es=>match g e with
  |none=>none
  |some b=>match eb g es with
   |none=>none
   |some bs=>some (b::bs)
theorem JT(p:Prog)(W:bZ)(top:Int):∀l:List bz,eC p W top l=eb (cZ p W top) l
 |[]=>by rw[eC,eb]
 |e::es=>by
  rw[eC,eb];cases cZ p W top e with
  |none=>rfl
  |some b=>
   simp only[JT p W top es];cases eb (cZ p W top) es<;>rfl
theorem uE(g:bz->Option cg)(x:bz):∀l:List bz,eb g (l++[x])=match eb g l with
  |none=>none
  |some bs=>match g x with
   |none=>none
   |some b=>some (bs++[b])
 |[]=>by
  simp only[List.nil_append,eb]
 |e::es=>by
  rw[List.cons_append,eb,eb];cases g e with
  |none=>rfl
  |some b=>
   simp only[uE g x es];cases eb g es with
   |none=>rfl
   |some bs=>
    simp only;cases g x<;>rfl
theorem uF{g:bz->Option cg}:∀{l:List bz} {x:bz},x∈l->g x=none->eb g l=none
 |e::es,x,h,hx=>by
  rw[eb];rcases List.mem_cons.1 h with q|q
  ·subst q;rw[hx]
  ·cases g e with
   |none=>rfl
   |some b=>simp only[uF q hx]
theorem jf{g:bz->Option cg}:∀{l:List bz} {bs:List cg},eb g l=some bs->bs.length=l.length
 |[],bs,h=>by rw[eb]at h;cases h;rfl
 |e::es,bs,h=>by
  rw[eb]at h;cases q:g e with
  |none=>rw[q]at h;cases h
  |some b=>
   rw[q]at h;cases q2:eb g es with
   |none=>rw[q2]at h;cases h
   |some bs'=>
    rw[q2]at h;cases h;simp[jf q2]
theorem s9{g:bz->Option cg}{P:cg->Prop}:∀{l:List bz} {bs:List cg},eb g l=some bs->(∀x∈l,∀b,g x=some b->P b)->∀b∈bs,P b
 |[],bs,h,_=>by rw[eb]at h;cases h;simp
 |e::es,bs,h,hp=>by
  rw[eb]at h;cases q:g e with
  |none=>rw[q]at h;cases h
  |some b=>
   rw[q]at h;cases q2:eb g es with
   |none=>rw[q2]at h;cases h
   |some bs'=>
    rw[q2]at h;cases h;intro y hy;rcases List.mem_cons.1 hy with e1|e1
    ·subst e1;exact hp e (by simp) _ q
    ·exact s9 q2 (λx hx=>hp x (by simp[hx])) y e1
def Na(o:Option cg)(H:GH)(ce:CE)(H':GH):Prop:=H'=H/\match o with
 |some b=>ce=.ret (b9 b)
 |none=>ce=.ej vz
theorem AJ(l:List cg):∀r∈l.map bY,r.length=1:=λr hr=>by obtain⟨_,_,rfl⟩:=List.mem_map.1 hr;rfl
theorem C0(g:bz->Option cg)(l:List bz)(hl:l.length<=1000)(F:FuncId)(cap:List LV)(H:GH)(hcap:cD H.next cap)(hF:∀x∈l,∀H',H.next<=H'.next->(∀m,m<H.next->H'.obj m=H.obj m)->aG prog F ([lv (aS x)]++cap) H' (Na (g x) H')):
  aG prog 141 [sl (l.map aS),.fn (.func F) [] cap] H λce H'=>H'=H/\match eb g l with
   |some bs=>ce=.ret (eA bs)
   |none=>ce=.ej vz:=by
 have cc:=aP;refine aG.bG aP func141 rfl call141 (by rw[ntmps141];simp) rfl λhf hw=>?_
 simp[ntmps141,results141]at hf|-;refine AW.aV cc (λa:Nat×LV×GH=>⟨[(1,.fn (.func F) [] cap),(5,a.2.1),(8,.d (.sl (l.map aS))),(9,aH l.length),(10,aH a.1)],[],a.2.2⟩) (λa=>l.length-a.1) (λa=>a.1<=l.length/\∃bs,eb g (l.take a.1)=some bs/\cu 30 1 H a.2.1 (bs.map bY) a.2.2) (0,.d (.k (.slice none 0 0)),H) ⟨⟨by simp,[],by simp[eb],.nil⟩,by simp[LV.only,ec,cT _ hcap]⟩ ?_
 rintro⟨i,x,H'⟩ ⟨hi,bs,v8,aA⟩;simp only at hi v8 aA;simp;refine⟨λh=>?_,λh=>?_⟩
 ·obtain⟨e,hee⟩:∃e,l[i]=e:=⟨_,rfl⟩;have hem:e∈l:=hee▸List.getElem_mem h;have gx:l.take (i+1)=l.take i++[e]:=by rw[<-aR h,hee]
  have hd:=hF e hem H' aA.nx aA.ob;have CI:=jf v8;have Wz:bs.length<=1000:=by rw[CI];simp;omega
  simp[aj]at hd;simp[h,List.getElem?_eq_getElem h,hee,aj,aA.plain.all];refine⟨eV aA.nx _ hcap,EC.of hd (λv H2 hR=>?_) (λv H2 hR=>?_)⟩
  ·obtain⟨rfl,hR⟩:=hR;cases q:g e with
   |none=>rw[q]at hR;cases hR
   |some b=>
    rw[q]at hR;cases hR;simp[aA.plain.all,b9];refine eO.dU (ys:=[bY b]) Q4 rfl vu (by simp) (x:=x) (by simp) aA (by simp[bY,rowsOf]) (by simp) (AJ _) (λr hr=>by simp only[List.mem_singleton]at hr;subst hr;rfl) (by simp;omega) (by simp) λx' H3 aF _ _=>?_
    simp[aF.plain.all,aF.only,aB (n:=9223372036854775807) (show i<9223372036854775807 by omega)]
    refine NX.go (i+1,x',H3) (by simp only;omega) ⟨h,bs++[b],?_,by rw[List.map_append];exact aF⟩ (by simp[aF.only,aF.plain.all,LV.only,ec,cT _ hcap])
    rw[gx,uE,v8,q]
  ·obtain⟨rfl,hR⟩:=hR;cases q:g e with
   |some b=>rw[q]at hR;cases hR
   |none=>
    rw[q]at hR;cases hR;rw[uF hem q];simp;exact λhz=>⟨aL aA.nx aA.ob hw.none,trivial⟩
 ·have:i=l.length:=by omega
  subst this;rw[List.take_length]at v8;rw[v8];simp[aA.plain.all,aA.fz];exact λhz=>aL aA.nx aA.ob hw.none
theorem WJ{n:Nat}{top:Int}{e:bz}{H:GH}(hn:n<H.next){o:Option cg}(h:aG prog 79 [.gp n 0,lv (aS e),aH top] H (Na o H)):aG prog 142 ([lv (aS e)]++[.ip [.gp n 0] 0,.ip [aH top] 0]) H (Na o H):=by
 have cc:=au (p:=bf [3] [] []);refine aG.bG (au (p:=bf [3] [] [])) func142 rfl call142 (by rw[ntmps142];simp) rfl λhf hw=>?_
 simp[aj]at h;simp[ntmps142,results142,aj];refine⟨hn,EC.of h (λv H2 hR=>?_) (λv H2 hR=>?_)⟩
 ·obtain⟨rfl,hR⟩:=hR;cases o with
  |none=>cases hR
  |some b=>
   cases hR;simp[b9,Na];exact λhz=>bI hz
 ·obtain⟨rfl,hR⟩:=hR;cases o with
  |some b=>cases hR
  |none=>
   cases hR;simp[Na];exact λhz=>⟨bI hz,trivial⟩
def Kz:List (Value×LV):=(List.range 15).map λi=>(Value.int .i64 ((i:Nat)+1),.fn (.func (185+i)) [] [])
theorem Qu{op:Int}(h:1<=op/\op<=15):bD (.int .i64 op) Kz=some (.fn (.func (184+op.toNat)) [] []):=by
 have qb:op=1\/ op=2\/ op=3\/ op=4\/ op=5\/ op=6\/ op=7\/ op=8\/ op=9\/ op=10\/ op=11\/ op=12\/ op=13\/ op=14\/ op=15:=by omega
 rcases qb with rfl|rfl|rfl|rfl|rfl|rfl|rfl|rfl|rfl|rfl|rfl|rfl|rfl|rfl|rfl<;>rfl
theorem Qt:∀(a:Value) (b:LV),(a,b)∈Kz->(KK.sc (Sc.int .i64)).has a=true:=λa b h=>by
 obtain⟨x,_,q⟩:=List.mem_map.1 h;cases q;rfl
theorem z8{op:Int}{x:QS}(h:bK op=some x)(h1:1<=op/\op<=15):x.kids<=2:=by
 have qb:op=1\/ op=2\/ op=3\/ op=4\/ op=5\/ op=6\/ op=7\/ op=8\/ op=9\/ op=10\/ op=11\/ op=12\/ op=13\/ op=14\/ op=15:=by omega
 rcases qb with rfl|rfl|rfl|rfl|rfl|rfl|rfl|rfl|rfl|rfl|rfl|rfl|rfl|rfl|rfl
 all_goals
  simp[bK]at h;subst h
  decide
structure Gw(H:GH)(n ms mn mv ma:Nat)(p:Prog)(W:bZ):Prop where
 La:Wld H n ms mn mv ma p W
 oa:H.obj ma=some (.map Kz)
theorem Gw.mono{H H':GH}{n ms mn mv ma:Nat}{p:Prog}{W:bZ}(h:Gw H n ms mn mv ma p W)(hw:gU H)(ho:∀m,m<H.next->H'.obj m=H.obj m):Gw H' n ms mn mv ma p W:=by
 obtain⟨⟨ob,⟨es,os,uj⟩,⟨en,on,hen⟩,ov,dl⟩,oa⟩:=h;exact⟨⟨by rw[ho _ (hw.lt ob)];exact ob,⟨es,by rw[ho _ (hw.lt os)];exact os,uj⟩,⟨en,by rw[ho _ (hw.lt on)];exact on,hen⟩,by rw[ho _ (hw.lt ov)];exact ov,dl⟩,by rw[ho _ (hw.lt oa)];exact oa⟩
theorem rY{e k:bz}(h:k∈e.kids):SizeOf.sizeOf k<SizeOf.sizeOf e:=by
 obtain⟨op,name,n,fold,aD,kids⟩:=e;simp only[bz.kids]at h;have:=List.sizeOf_lt_of_mem h;simp only[bz.mk.sizeOf_spec];omega
theorem N5(p:Prog)(W:bZ)(top:Int)(e:bz):cZ p W top e=match eb (cZ p W top) e.kids with
  |none=>none
  |some ks=>if gZ (b6 (gu p W e.op e.name e.n e.fold e.aD ks) top)then some (b6 (gu p W e.op e.name e.n e.fold e.aD ks) top)else none:=by
 obtain⟨op,name,n,fold,aD,kids⟩:=e;rw[cZ,JT];simp only[bz.kids,bz.op,bz.name,bz.n,bz.fold,bz.aD];cases eb (cZ p W top) kids<;>rfl
def iP(p:Prog)(e:bz):Prop:=∀x∈bc e,qv p x
theorem EW{k:bz}:∀{l:List bz},k∈l->∀x∈bc k,x∈bn l
 |y::l,h,x,hx=>by
  rw[bn,List.mem_append];rcases List.mem_cons.1 h with q|q
  ·subst q;exact .inl hx
  ·exact .inr (EW q x hx)
theorem iP.self{p:Prog}{e:bz}(h:iP p e):qv p e:=h e (by obtain⟨op,name,n,fold,aD,kids⟩:=e;rw[bc];simp)
theorem iP.T8{p:Prog}{e k:bz}(h:iP p e)(hk:k∈e.kids):iP p k:=λx hx=>h x (by
 obtain⟨op,name,n,fold,aD,kids⟩:=e;rw[bc];exact List.mem_cons_of_mem _ (EW hk x hx))
theorem lZ{p:Prog}{W:bZ}(hs:∀b∈W.az,bB b)(hd:∀b∈W.ai,bB b){top:Int}(ht:top<=200):∀(N:Nat) (e:bz),SizeOf.sizeOf e<N->iP p e->∀b,cZ p W top e=some b->bB b
 |0,e,h,_,_,_=>absurd h (by omega)
 |N+1,e,h,he,b,hb=>by
  rw[N5]at hb;cases q:eb (cZ p W top) e.kids with
  |none=>rw[q]at hb;cases hb
  |some ks=>
   rw[q]at hb;simp only at hb
   split at hb
   ·rename_i hf;cases hb;have hks:∀b∈ks,bB b:=s9 q λx hx b hb=>lZ hs hd ht N x (by have:=rY hx;omega) (he.T8 hx) b hb
    exact TF ht (xL hs hd e he.self ks (jf q) hks).2 hf
   ·cases hb
theorem sQ{p:Prog}{W:bZ}(hs:∀b∈W.az,bB b)(hd:∀b∈W.ai,bB b){n ms mn mv ma:Nat}{top:Int}(ht:top<=200):∀(N:Nat) (e:bz),SizeOf.sizeOf e<N->iP p e->∀H,Gw H n ms mn mv ma p W->
  aG prog 79 [.gp n 0,lv (aS e),aH top] H (Na (cZ p W top e) H)
 |0,e,h,_,_,_=>absurd h (by omega)
 |N+1,e,h,he,H,hW=>by
  have cc:=au (p:=bf [3,4,5] [] []);refine aG.bG (au (p:=bf [3,4,5] [] [])) func79 rfl call79 (by rw[ntmps79];simp) rfl λhf hw=>?_
  have hnl:=hw.lt hW.La.ob;obtain⟨x,h1,h2,h3,h4,h5⟩:=ru he.self.ok;have hop:1<=e.op/\e.op<=15:=Classical.byContradiction λhn=>by
   unfold bK at h1
   repeat (rw[if_neg (by omega)]at h1)
   cases h1
  have jo:e.kids.length<=1000:=by
   have:=z8 h1 hop;omega
  have hch:=C0 (cZ p W top) e.kids jo 142 [.ip [.gp n 0] 0,.ip [aH top] 0] H (by simp[cD,LV.nb];exact hnl) (λk hk H' hn' ho'=>WJ (by omega) (sQ hs hd ht N k (by have:=rY hk;omega) (he.T8 hk) H' (hW.mono hw ho')))
  rw[N5];simp[ntmps79,results79,aj];refine⟨hnl,EC.of hch (λv H2 hR=>?_) (λv H2 hR=>?_)⟩
  rotate_left
  ·obtain⟨rfl,hR⟩:=hR;cases q:eb (cZ p W top) e.kids with
   |some ks=>rw[q]at hR;cases hR
   |none=>
    rw[q]at hR;cases hR;simp[Na];exact λhz=>⟨bI hz,trivial⟩
  obtain⟨rfl,hR⟩:=hR;cases q:eb (cZ p W top) e.kids with
  |none=>rw[q]at hR;cases hR
  |some ks=>
   rw[q]at hR;cases hR;have hks:∀b∈ks,bB b:=s9 q λx hx b hb=>lZ hs hd ht N x (by have:=rY hx;omega) (he.T8 hx) b hb
   have hact:=λG (hG:Gw G n ms mn mv ma p W)=>OJ hG.La hd e he.self ks (jf q) hks
   have hit:=xL hs hd e he.self ks (jf q) hks;obtain⟨A,hA⟩:∃A,gu p W e.op e.name e.n e.fold e.aD ks=A:=⟨_,rfl⟩;rw[hA]at hit;simp only[hA]at hact|-;have ob:=hW.La.ob;have oa:=hW.oa;have hkey:=eq_true Qt;have dL:=Qu hop;have SK:=hact H2 hW;simp[aj]at SK;simp;refine AW.draw cc [(12,.n)] (.q 4<|.q 9<|.q 0<|.q 1<|.q 2<|.q 3<|.q 5<|.q 6<|.q 7<|.q 8<|.f (.cons 10 (.q 11<|.q 12<|.q 13<|.done) (.cons 11 (.f<|.one 10<|.q 12<|.q 13<|.done) (.nil)))) (by kernel_rfl) ?_
   simp[ob,oa,hkey,dL,aj];have Bs:∀l':List Item,l'.Perm A->aC prog 135 [.d (.sl (l'.map ak)),aH top] (sl ((b6 A top).map ak)):=λl' hp=>by
    have:=yd l' top (by rw[hp.length_eq];omega) (λx hx=>by have:=(hit.2 x (hp.mem_iff.1 hx)).1;omega)
    rw[Fg hp]at this;exact this
   obtain⟨B,hB⟩:∃B,b6 A top=B:=⟨_,rfl⟩;rw[hB]at Bs;have YM:=ph B (λx=>decide (1000000<x.n)) 143 (λx _=>S3 x)
   refine⟨⟨hnl,yR.of SK (λv H3 hR _=>?_) (λx H3 env hR _=>by obtain⟨⟨_,_,q⟩,_⟩:=hR;cases q)⟩,hnl,yR.of SK (λv H3 hR _=>?_) (λx H3 env hR _=>by obtain⟨⟨_,_,q⟩,_⟩:=hR;cases q)⟩
   all_goals
    obtain⟨⟨l',hp,q⟩,rfl⟩:=hR;cases q;simp[b9];refine FC.aJ (Bs l' hp) ?_;simp at YM;simp;refine⟨λhl=>⟨hl,EC.aJ YM ?_⟩,λhl=>?_⟩
    ·have BE:decide (300<(B.length:Int))=false:=by simp;omega
     simp[BE,cond];refine⟨λx hx hm hz=>⟨H3,bI hz,?_⟩,λhm hz=>⟨H3,bI hz,?_⟩⟩
     ·have Uh:gZ B=false:=by
       rw[Bool.eq_false_iff];intro q;simp only[gZ,Bool.and_eq_true,decide_eq_true_eq,List.all_eq_true]at q;have:=q.2 x hx;omega
      rw[hA,hB,Uh];exact⟨rfl,rfl⟩
     ·have hf1:gZ B=true:=by
       simp only[gZ,Bool.and_eq_true,decide_eq_true_eq,List.all_eq_true];exact⟨by omega,hm⟩
      rw[hA,hB,hf1];exact⟨rfl,rfl⟩
    ·have BE:decide (300<(B.length:Int))=true:=by simp;omega
     simp[BE,cond];refine λhz=>⟨H3,bI hz,?_⟩
     have Uh:gZ B=false:=by
      rw[Bool.eq_false_iff];intro q;simp only[gZ,Bool.and_eq_true,decide_eq_true_eq,List.all_eq_true]at q;omega
     rw[hA,hB,Uh];exact⟨rfl,rfl⟩
def sy(p:Prog)(g:List Nat)(v:Int)(e:bz):Int:=if e.op=3/\idx (an p) e.name∈bX g then gW v e.n else v
def kC(p:Prog)(g:List Nat)(l:List bz)(v:Int):Int:=l.foldl (sy p g) v
def tJ(p:Prog)(g:List Nat):Int:=g.foldl (λv d=>kC p g (bc (p.ai.getD d default).exp) v) 201
def BS(g:List Nat)(n no nl:Nat):List LV:=[.ip [gD g] 0,.ip [.gp n 0] 0,.gp no 0,.gp nl 0]
theorem Ci:∀(l:List bz) (i:Nat) (h:i<l.length),bn (l.take (i+1))=bn (l.take i)++bc l[i]
 |e::l,0,h=>by simp[bn]
 |e::l,i+1,h=>by
  simp only[List.take_succ_cons,bn,List.getElem_cons_succ,Ci l i (by simpa using h),List.append_assoc]
theorem W6(e:bz):bc e=e::bn e.kids:=by obtain⟨op,name,n,fold,aD,kids⟩:=e;rw[bc];rfl
theorem JQ{p:Prog}{W:bZ}{n ms mn mv ma no nl:Nat}{g:List Nat}{H:GH}(hW:Gw H n ms mn mv ma p W)(hw0:gU H)(h1:H.next<=no)(h2:H.next<=nl)(hne:no≠nl):
  ∀(N:Nat) (e:bz),SizeOf.sizeOf e<N->iP p e->∀(G:GH) (v:Int),(∀m,m<H.next->G.obj m=H.obj m)->G.obj no=some (.box [aH v])->G.obj nl=some (.box [.fn (.func 200) [] (BS g n no nl)])->
   aG prog 200 ([lv (aS e)]++BS g n no nl) G λce H'=>(∃x,ce=.ret x)/\H'=G.set no (.box [aH (kC p g (bc e) v)])
 |0,e,h,_,_,_,_,_,_=>absurd h (by omega)
 |N+1,e,h,he,G,v,hG,hno,hnl=>by
  have cc:=au (p:=bf [5] [] []);have jo:e.kids.length<=1000:=by
   obtain⟨x,q1,q2,q3,q4,q5⟩:=ru he.self.ok;have hop:1<=e.op/\e.op<=15:=Classical.byContradiction λhn=>by
    unfold bK at q1
    repeat (rw[if_neg (by omega)]at q1)
    cases q1
   have:=z8 q1 hop;omega
  refine aG.dG (au (p:=bf [5] [] [])) func200 rfl call200 (by rw[ntmps200];simp[BS]) rfl λhf hw=>?_
  have hWG:=hW.mono hw0 hG;have ob:=hWG.La.ob;obtain⟨en,on,hen⟩:=hWG.La.on;have lno:=hw.lt hno;have lnl:=hw.lt hnl;have lob:=hw.lt ob;have hkey:=eq_true hen.key;have hco:=λk=>vX (bX g) k
  have zp:bc e=e::bn e.kids:=W6 e;have KW:kC p g (bc e) v=kC p g (bn e.kids) (sy p g v e):=by rw[zp];rfl
  rw[KW];simp[ntmps200,results200,BS,aj];refine AW.seq cc ?_;simp;refine AW.join (c:=xC (bf [5] [] [])) (λa:Int=>⟨[(4,.gp nl 0),(5,.ip ((aS e).map .d) 0)],[],G.set no (.box [aH a])⟩) (λa=>a=sy p g v e) (AW.ev cc ?_) ?_
  ·simp;refine AW.draw cc [(12,.n)] (.q 0<|.q 1<|.q 2<|.q 3<|.q 9<|.q 4<|.q 5<|.q 6<|.q 7<|.q 8<|.q 10<|.q 11<|.q 12<|.q 13<|.done) (by kernel_rfl) ?_
   have aB1:G.set no (.box [.d (.k (.int .i64 v))])=G:=GH.iX hno;by_cases h3:e.op=3
   ·have hid:=he.self.df (.inr h3);have dL:=hen.get e.name hid;have Mu:max (idx (an p) e.name) 0=idx (an p) e.name:=by omega
    simp[aj,h3,ob,on,hkey,dL,Mu];refine⟨by simp[gD,LV.nb],kN.aJ (λ_=>hco _) ?_⟩
    simp;refine⟨λhin=>?_,λhin=>?_⟩
    ·simp[hno,lno];exact JN.go (sy p g v e) rfl (by simp[aj,sy,h3,hin])
    ·exact JN.go (sy p g v e) rfl (by simp[aj,sy,h3,hin,aB1])
   ·have h3':(e.op==3)=false:=by simpa using h3
    simp[aj,h3',ob,on,hkey];refine kN.aJ (v:=.d (.k (.bool false))) (λq=>by cases q) ?_
    simp;exact JN.go (sy p g v e) rfl (by simp[aj,sy,h3,aB1])
  ·intro v1 YG;rw[<-YG];have hs0:∀X Y,(G.set no X).set no Y=G.set no Y:=λX Y=>GH.set_set
   refine AW.seq cc ?_;simp[aj];refine AW.block (c:=xC (bf [5] [] [])) ?_;refine AW.aV cc (λi:Nat=>⟨[(4,.gp nl 0),(27,sl (e.kids.map aS)),(28,aH e.kids.length),(29,aH i)],[],G.set no (.box [aH (kC p g (bn (e.kids.take i)) v1)])⟩) (λi=>e.kids.length-i) (λi=>i<=e.kids.length) 0 ⟨Nat.zero_le _,by simp[bn,kC]⟩ ?_
   intro i hi;simp;refine⟨λhl=>?_,λhl=>?_⟩
   ·obtain⟨k,hk⟩:∃k,e.kids[i]=k:=⟨_,rfl⟩;have hkm:k∈e.kids:=hk▸List.getElem_mem hl;have qE:=Ci e.kids i hl;rw[hk]at qE;have hih:=JQ hW hw0 h1 h2 hne N k (by have:=rY hkm;omega) (he.T8 hkm) (G.set no (.box [aH (kC p g (bn (e.kids.take i)) v1)])) (kC p g (bn (e.kids.take i)) v1) (λm hm=>by rw[GH.ay,if_neg (by omega)];exact hG m hm) GH.aY (by rw[GH.ay,if_neg (Ne.symm hne)];exact hnl)
    have hgl:∀X,(G.set no X).obj nl=some (.box [.fn (.func 200) [] (BS g n no nl)]):=λX=>by rw[GH.ay,if_neg (Ne.symm hne)];exact hnl
    have hwi:=aB (n:=9223372036854775807) (show i<9223372036854775807 by omega)
    simp[aj,BS]at hih;simp[hl,List.getElem?_eq_getElem hl,hk,aj,hgl,BS];have hfa:kC p g (bn (e.kids.take (i+1))) v1=kC p g (bc k) (kC p g (bn (e.kids.take i)) v1):=by rw[qE,kC,List.foldl_append];rfl
    refine⟨⟨by simp[gD,LV.nb],by rw[GH.aM];exact lob,by rw[GH.aM];exact lno,by rw[GH.aM];exact lnl⟩,EC.of hih (λv2 H2 hR=>?_) (λv2 H2 hR=>by obtain⟨⟨_,q⟩,_⟩:=hR;cases q)⟩
    obtain⟨_,hE⟩:=hR;rw[hE]
    clear hE
    simp[GH.set_set];exact NX.go (i+1) (by omega) hl (by simp[hwi,hfa])
   ·have:i=e.kids.length:=by omega
    subst this;rw[List.take_length];exact λhz=>hz.drop (by rw[GH.aM];exact Nat.le_refl _)
theorem RZ{p:Prog}{W:bZ}{n ms mn mv ma:Nat}{g:List Nat}{H:GH}(hW:Gw H n ms mn mv ma p W)(he:∀(d:Nat) (h:d<p.ai.length),iP p p.ai[d].exp)(hg:∀d∈g,d<p.ai.length)(hgl:g.length<=6):
  aG prog 139 [.gp n 0,gD g] H λce H'=>ce=.ret (aH (tJ p g))/\H'=H:=by
 have cc:=au (p:=bf [2,3] [5,6] []);refine aG.dG (au (p:=bf [2,3] [5,6] [])) func139 rfl call139 (by rw[ntmps139];simp) rfl λhf hw=>?_
 have lob:=hw.lt hW.La.ob;simp[ntmps139,results139,gD];refine AW.seq cc ?_;simp;refine AW.seq cc ?_;simp[GH.ax,GH.aq,GH.cV];refine AW.seq cc ?_;simp[GH.ax,GH.aq,GH.cV];refine AW.seq cc ?_;simp[GH.ax,GH.aq,GH.cV];refine⟨⟨by omega,by omega⟩,?_⟩
 obtain⟨HH,hHH⟩:∃HH:Int->GH,HH=λv=>(H.add (.box [aH v])).add (.box [.fn (.func 200) [] (BS g n H.next (H.next+1))]):=⟨_,rfl⟩
 have hn:∀v,(HH v).next=H.next+2:=λv=>by rw[hHH];rfl
 have hno:∀v,(HH v).obj H.next=some (.box [aH v]):=λv=>by rw[hHH];simp only;rw[GH.ax,GH.aq,if_neg (by omega),GH.ax,if_pos rfl]
 have hnl:∀v,(HH v).obj (H.next+1)=some (.box [.fn (.func 200) [] (BS g n H.next (H.next+1))]):=λv=>by rw[hHH];simp only;rw[GH.ax,GH.aq,if_pos rfl]
 have hlo:∀v m,m<H.next->(HH v).obj m=H.obj m:=λv m hm=>by rw[hHH];simp only;rw[GH.ax,GH.aq,if_neg (by omega),GH.ax,if_neg (by omega)]
 have hst:∀v u,(HH v).set H.next (.box [aH u])=HH u:=λv u=>by
  rw[hHH];simp only[GH.set,GH.add];congr 1;funext m;unfold eL;split<;>simp_all
 have h0:((H.add (.box [.d (.k (.int .i64 201))])).add (.box [.d (.k .nilFunc)])).set (H.next+1) (.box [.fn (.func 200) [] [.ip [.d (.sl ((bX g).map rI))] 0,.ip [.gp n 0] 0,.gp H.next 0,.gp (H.next+1) 0]])=HH 201:=by
  rw[hHH];have:∀(A:GH) (a b:GO),(A.add a).set A.next b=A.add b:=λA a b=>GH.cV
  exact this (H.add (.box [.d (.k (.int .i64 201))])) _ _
 rw[h0];obtain⟨ex,hex⟩:∃ex:Nat->List bz,ex=λd=>bc (p.ai.getD d default).exp:=⟨_,rfl⟩
 refine AW.seq cc ?_;simp;refine AW.aV cc (λi:Nat=>⟨[(2,.ip [.gp n 0] 0),(5,.gp H.next 0),(6,.gp (H.next+1) 0),(10,gD g),(11,aH g.length),(12,aH i)],[],HH ((g.take i).foldl (λv d=>kC p g (ex d) v) 201)⟩) (λi=>g.length-i) (λi=>i<=g.length) 0 ⟨Nat.zero_le _,by simp[gD,bX]⟩ ?_
 intro i hi;have hwi:=aB (n:=9223372036854775807) (show i<9223372036854775807 by omega)
 simp[gD];refine⟨λh=>?_,λh=>?_⟩
 ·obtain⟨d,hd⟩:∃d,g[i]=d:=⟨_,rfl⟩;have hdm:d∈g:=hd▸List.getElem_mem h;have nr:=hg d hdm;have gx:g.take (i+1)=g.take i++[d]:=by rw[<-aR h,hd]
  have qR:(bX g)[i]?=some (d:Int):=by simp[bX,List.getElem?_eq_getElem h,hd]
  obtain⟨v,hv⟩:∃v,(g.take i).foldl (λv d=>kC p g (ex d) v) 201=v:=⟨_,rfl⟩
  have Uc:(g.take (i+1)).foldl (λv d=>kC p g (ex d) v) 201=kC p g (ex d) v:=by rw[gx,List.foldl_append,hv];rfl
  have gN:ex d=bc p.ai[d].exp:=by rw[hex];simp[List.getD,List.getElem?_eq_getElem nr]
  have hlk:=JQ hW hw (no:=H.next) (nl:=H.next+1) (g:=g) (Nat.le_refl _) (by omega) (by omega) _ p.ai[d].exp (Nat.lt_succ_self _) (he d nr) (HH v) v (hlo v) (hno v) (hnl v)
  have obv:(HH v).obj n=H.obj n:=hlo v n lob;have ob:=hW.La.ob;rw[hst,<-gN]at hlk;simp[aj,BS]at hlk;rw[hv];simp[h,qR,rI];refine⟨by simpa[bX]using h,?_⟩
  refine AW.draw cc [] (.q 6<|.q 0<|.q 1<|.q 2<|.q 3<|.q 4<|.q 5<|.q 7<|.q 8<|.q 9<|.f<|.one 10<|.done) (by kernel_rfl) ?_
  simp[hnl,obv,ob,nr,List.getElem?_eq_getElem nr,fm,aj,BS];refine⟨⟨by simp[gD,LV.nb],by rw[hn];omega,by rw[hn];omega,by rw[hn];omega⟩,yR.of hlk (λv2 H2 hR _=>?_) (λx H2 env hR _=>by obtain⟨⟨_,q⟩,_⟩:=hR;cases q)⟩
  obtain⟨_,hE⟩:=hR;rw[hE]
  clear hE
  simp;exact NX.go (i+1) (by omega) h (by simp[hwi,Uc,gD])
 ·have:i=g.length:=by omega
  subst this;rw[List.take_length];have hfm:g.foldl (λv d=>kC p g (ex d) v) 201=tJ p g:=by rw[hex];rfl
  rw[hfm];refine AW.ev cc ?_;simp[hno];exact λ_=>aL (by rw[hn];omega) (hlo _) hw.none
def fN(l:List Event)(src:Int):List Item:=(l.filter λe=>decide (e.src=src)).map λe=>⟨e.aa,1⟩
def lN(l:List Event)(src:Int):cg:=b6 (fN l src) 200
theorem Ab(l:List Event)(e:Event)(src:Int):fN (l++[e]) src=fN l src++(if e.src=src then[⟨e.aa,1⟩]else[]):=by
 unfold fN;rw[List.filter_append,List.map_append,List.filter_cons];by_cases q:e.src=src<;>simp[q]
theorem oC(l:List Event)(src:Int):(fN l src).length<=l.length:=by
 unfold fN;rw[List.length_map];exact List.length_filter_le _ _
theorem DZ(l:List Event)(src:Int)(hl:l.length<=1000):aC prog 69 [sl (l.map aQ),aH src] (b9 (lN l src)):=by
 intro H;have cc:=au (p:=bf [] [] []);refine aG.bG (au (p:=bf [] [] [])) func69 rfl call69 (by rw[ntmps69];simp) rfl λhf hw=>?_
 simp[ntmps69,results69]at hf|-;refine AW.aV cc (λs:Nat×LV×GH=>⟨[(1,aH src),(5,s.2.1),(8,sl (l.map aQ)),(9,aH l.length),(10,aH s.1)],[],s.2.2⟩) (λs=>l.length-s.1)
  (λs=>s.1<=l.length/\cu 86 4 H s.2.1 ((fN (l.take s.1) src).map ak) s.2.2) (0,.d (.k (.slice none 0 0)),H) ⟨⟨Nat.zero_le _,by simpa[fN]using cu.nil⟩,by simp⟩ ?_
 rintro⟨i,y,H2⟩ ⟨hi,aA⟩;simp only at hi aA;simp;refine⟨λh=>?_,λh=>?_⟩
 ·obtain⟨x,dc⟩:∃x,l[i]=x:=⟨_,rfl⟩;have gx:l.take (i+1)=l.take i++[x]:=by rw[<-aR h,dc]
  have eM:=aB (n:=9223372036854775807) (show i<9223372036854775807 by omega)
  have dK:=Ab (l.take i) x src;rw[<-gx]at dK;have YI:(fN (l.take i) src).length<=1000:=Nat.le_trans (oC _ _) (by simp;omega)
  simp[h,List.getElem?_eq_getElem h,dc,aQ,bE,aA.plain.all];refine⟨λq=>?_,λq=>?_⟩
  ·refine eO.dU (ys:=[ak ⟨x.aa,1⟩]) fk rfl dZ (by simp) (x:=y) (by simp) aA (by simp[ak,rowsOf]) (by simp) (bp _) (λr hr=>by simp only[List.mem_singleton]at hr;subst hr;rfl) (by simp;omega) (by simp) λx' H3 aF _ _=>?_
   simp[aF.plain.all,aF.only,eM];refine NX.go (i+1,x',H3) (by simp only;omega) ⟨h,?_⟩ (by simp[aF.only])
   rw[dK,if_pos q,List.map_append];exact aF
  ·rw[if_neg q,List.append_nil]at dK;exact NX.go (i+1,y,H2) (by simp only;omega) ⟨h,by rw[dK];exact aA⟩ (by simp[aA.only,eM])
 ·have:i=l.length:=by omega
  subst this;rw[List.take_length]at aA;have YI:=oC l src;have hsu:=yd (fN l src) 200 (by omega) (λx hx=>by obtain⟨e,_,rfl⟩:=List.mem_map.1 hx;simp)
  simp at hsu;simp[aA.plain.all];refine⟨aA.nb,EC.aJ (aC.SV (v:=sl ((b6 (fN l src) 200).map ak)) (by simp only[zz,fz,aA.fz];exact hsu)) ?_⟩
  simp[b9,lN];exact λhz=>aL aA.nx aA.ob hw.none
def nT(a b:Event):Bool:=decide (a.aa.at_<b.aa.at_\/ a.aa.at_=b.aa.at_/\(a.src<b.src\/ a.src=b.src/\a.id<b.id))
def BY(e:Event):dx:=⟨1,e.src,e.id,1,e.aa⟩
theorem IY(e:Event):aC prog 132 [lv (aQ e)] (lv (cK (BY e))):=by
 refine aC.body (au (p:=bf [1] [] [])) func132 rfl call132 (by rw[ntmps132];simp) rfl λhf H=>?_
 simp[ntmps132,results132,aQ,bE,cK,BY]
theorem IX(a b:Event):aC prog 133 [lv (aQ a),lv (aQ b)] (.d (.k (.bool (nT a b)))):=by
 refine aC.body (au (p:=bf [2,3] [] [])) func133 rfl call133 (by rw[ntmps133];simp) rfl λhf H=>?_
 have h:=rq [a.aa.at_,a.src,a.id] [b.aa.at_,b.src,b.id];have hr:List.range' 0 3=[0,1,2]:=rfl;simp[rI]at h;simp[ntmps133,results133,aQ,bE,hr];refine EC.aJ h ?_;simp;rw[Bool.eq_iff_iff];simp only[nT,decide_eq_true_eq];simp only[y9,jW]
 repeat' split
 all_goals omega
theorem O8(l:List dx):∀r∈l.map cK,r.length=7:=λr hr=>by obtain⟨_,_,rfl⟩:=List.mem_map.1 hr;rfl
theorem CZ(l:List Event)(hl:l.length<=1000):aC prog 131 [sl (l.map aQ),.fn (.func 132) [] []] (sl ((l.map BY).map cK)):=by
 intro H;have cc:=aP;refine aG.bG aP func131 rfl call131 (by rw[ntmps131];simp) rfl λhf hw=>?_
 simp[ntmps131,results131]at hf|-;refine AW.aV cc (λa:Nat×LV×GH=>⟨[(1,.fn (.func 132) [] []),(5,a.2.1),(8,.d (.sl (l.map aQ))),(9,aH l.length),(10,aH a.1)],[],a.2.2⟩) (λa=>l.length-a.1) (λa=>a.1<=l.length/\cu 184 7 H a.2.1 (((l.take a.1).map BY).map cK) a.2.2) (0,.d (.k (.slice none 0 0)),H) ⟨⟨by simp,.nil⟩,by simp[LV.only,ec]⟩ ?_
 rintro⟨i,x,H'⟩ ⟨hi,aA⟩;simp only at hi aA;simp;refine⟨λh=>?_,λh=>?_⟩
 ·have hd:=IY l[i];simp[aQ,bE,cK]at hd;simp[h,List.getElem?_eq_getElem h,aQ,bE,aA.plain.all];refine EC.aJ hd ?_;simp[aA.plain.all];refine eO.dU (ys:=[cK (BY l[i])]) ZR rfl ZQ (by simp) (x:=x) (by simp) aA (by simp[cK,bE,rowsOf]) (by simp) (O8 _) (λr hr=>by simp only[List.mem_singleton]at hr;subst hr;rfl) (by simp;omega) (by simp) λx' H3 aF _ _=>?_
  rw[show((l.take i).map BY).map cK++[cK (BY l[i])]=((l.take (i+1)).map BY).map cK by rw[<-aR h,List.map_append,List.map_append];rfl]at aF
  simp[aF.plain.all,aF.only,aB (n:=9223372036854775807) (show i<9223372036854775807 by omega)]
  exact NX.go (i+1,x',H3) (by simp only;omega) ⟨h,aF⟩ (by simp[aF.only,aF.plain.all,LV.only,ec])
 ·have:i=l.length:=by omega
  subst this;rw[List.take_length]at aA;simp[aA.plain.all,aA.fz];exact λhz=>aL aA.nx aA.ob hw.none
def tT(p:Prog)(az:List cg)(top:Int)(ai:List cg)(d:Nat):Option (List cg):=match cZ p ⟨az,ai⟩ top (p.ai.getD d default).exp with
 |none=>none
 |some b=>some (ai.set d b)
def fq(p:Prog)(az:List cg)(top:Int):List Nat->List cg->Option (List cg)
 |[],ai=>some ai
 |d::g,ai=>match tT p az top ai d with
  |none=>none
  |some defs'=>fq p az top g defs'
def fV(p:Prog)(az:List cg)(far:Int)(g:List Nat):Nat->Int->List cg->Option (List cg)
 |0,_,ai=>some ai
 |f+1,top,ai=>match fq p az top g ai with
  |none=>none
  |some defs'=>if top=200 then some defs' else fV p az far g f (gW (top+far) 200) defs'
def mS(p:Prog)(az:List cg)(g:List Nat)(ai:List cg):Option (List cg):=fV p az (tJ p g) g 202 (gW (tJ p g-1) 200) ai
def dX(p:Prog)(az:List cg):List (List Nat)->List cg->Option (List cg)
 |[],ai=>some ai
 |g::gs,ai=>match mS p az g ai with
  |none=>none
  |some defs'=>dX p az gs defs'
def fH(p:Prog)(l:List Event):List cg:=(List.range p.az.length).map λi=>lN l (i:Nat)
noncomputable def dw (p:Prog) (l:List Event):Option (List cg):=dX p (fH p l) (gK p.ai.length (aZ p)) (List.replicate p.ai.length [])
theorem Mi(n:Nat)(H:GH)(R:DM->GH->Prop)(h:R .ret H):nq prog 137 [.gp n 0] H .ret R:=by
 refine nq.iQ aP func137 rfl call137 rfl rfl rfl (by rw[ntmps137];simp) (by rw[ntmps137];omega) rfl λhw=>?_
 simp[Lo,H9,ntmps137];refine EV.sound aP ?_;simp[BZ,Ia];exact⟨H,aL (Nat.le_refl _) (λ_ _=>rfl) hw,h⟩
theorem uM(n:Nat)(c:List LV)(H:GH)(h1:H.obj n=some (.box c))(hl:c.length=1)(R:DM->GH->Prop)
  (h:R (.aa vz) (H.set n (.box [.d (.k (.pointer none))]))):nq prog 137 [.gp n 0] H (.ej vz) R:=by
 refine nq.iQ aP func137 rfl call137 rfl rfl rfl (by rw[ntmps137];simp) (by rw[ntmps137];omega) rfl λhw=>?_
 simp[Lo,H9,ntmps137,vz];refine EV.sound aP ?_;obtain⟨x,rfl⟩:∃x,c=[x]:=by
  match c,hl with
  |[x],_=>exact⟨x,rfl⟩
 simp[BZ,Ia,h1];have lt:∀n o,H.obj n=some o->n<H.next:=λn o ho=>by
  rcases Nat.lt_or_ge n H.next with q|q
  ·exact q
  ·rw[hw n q]at ho;cases ho
 exact⟨_,CD (GM (Nat.le_refl _) hw λ_ _ q=>.inl q) (lt _ _ h1) (by simp[cD,LV.nb]),h⟩
theorem Pj(H:GH):aG prog 138 [] H λce H'=>ce=.ret (.gm H.next)/\H'=H.add (.map Kz):=by
 refine aG.bG aP func138 rfl call138 (by rw[ntmps138];simp) rfl λhf hw=>?_
 simp[ntmps138,results138,GH.ax,GH.aq,GH.cV,KK.has,Sc.has,cr,gJ];exact λhz=>hz.drop (by rw[GH.aq];omega)
end Go.Aft
end
