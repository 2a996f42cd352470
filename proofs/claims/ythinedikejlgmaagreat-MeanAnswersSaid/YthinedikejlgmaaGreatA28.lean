import Derived.Test.YthinedikejlgmaaGreatA27
import Derived.Test.YthinedikejlgmaaGreatA16
import Derived.Test.YthinedikejlgmaaGreatA22
import Derived.Test.YthinedikejlgmaaGreatA17
import Derived.Test.YthinedikejlgmaaGreatA25
set_option linter.all false
section
set_option maxRecDepth 20000
namespace Go.Aft
open Go.Proofs.Tryz
theorem Gx(n:Nat)(hn:0<n/\n<=1000)(H:GH):aF prog 265 [.d (.k (.slice none 0 0)),aH n] H λce H'=>ce=.ret (.vs H.next 0 4 0 0)/\H'=H.add (.vec 86 0 4 (jx n [aH 0,aH 0,aH 0,aH 0]) false):=by
 have cc:=ar (p:=aY [] [] [22]);refine aF.Me (ar (p:=aY [] [] [22])) func265 rfl call265 (by rw[ntmps265];simp) rfl λhf hw=>?_
 have w0:IntKind.wrap .i64 (n:Int)=n:=by rw[wrap64]<;>omega
 have vm:¬(n:Int)<0:=by omega
 have wz:IntKind.wrap .i64 0=0:=rfl;have hn2:¬(n:Int)<=0:=by omega
 simp[ntmps265,results265];refine AW.ev cc ?_;simp[w0,vm,hn.1,wz,hn2];refine eE.ev ?_;simp[hn2,hn.1];exact⟨by omega,λhz=>⟨hz.drop (by rw[GH.aq];omega),by rw[GH.aq];omega⟩⟩
theorem Ev(H:GH):aF prog 265 [.d (.k (.slice none 0 0)),aH 0] H λce H'=>ce=.ret (.d (.k (.slice none 0 0)))/\H'=H:=by
 have cc:=ar (p:=aY [] [] [22]);refine aF.Me (ar (p:=aY [] [] [22])) func265 rfl call265 (by rw[ntmps265];simp) rfl λhf hw=>?_
 have wz:IntKind.wrap .i64 0=0:=rfl;simp[ntmps265,results265,wz];refine AW.ev cc ?_;simp[wz];exact λhz=>hz.drop (Nat.le_refl _)
def uN(k:Nat):List LV:=jx k [aH 0,aH 0,aH 0,aH 0]
theorem PW(k:Nat):(uN k).length=k*4:=by
 unfold uN jx
 induction k with
 |zero=>rfl
 |succ k ih=>rw[List.replicate_succ,List.flatten_cons,List.length_append,ih,Nat.succ_mul];simp;omega
theorem CA:∀(k j:Nat),(uN k).drop (j*4)=uN (k-j)
 |k,0=>by simp
 |0,j+1=>by simp[uN,jx]
 |k+1,j+1=>by
  have h:uN (k+1)=[aH 0,aH 0,aH 0,aH 0]++uN k:=by simp[uN,jx,List.replicate_succ]
  rw[h,show(j+1)*4=4+j*4 by omega,<-List.drop_drop,List.drop_left' (by rfl),CA k j,show k+1-(j+1)=k-j by omega]
theorem UZ(A X:List LV)(k j:Nat)(hX:X.length=j*4):putAt (A++uN k) A.length X=A++X++uN (k-j):=by
 unfold putAt;rw[List.take_left,<-List.drop_drop,List.drop_left,hX,CA]
theorem Cb(a b:cr)(ha:a.length<=300)(hb:b.length<=300):aC prog 225 [ei [a,b]] (bY (a++b)):=by
 intro H;have cc:=ar (p:=aY [] [] [33]);refine aF.dV (ar (p:=aY [] [] [33])) func225 rfl call225 (by rw[ntmps225];simp) rfl λhf hw=>?_
 simp[ntmps225,results225]at hf|-;refine AW.seq cc ?_;simp;refine AW.seq cc ?_;simp;refine AW.seq cc ?_;simp;obtain⟨ks,hks⟩:∃ks,[a,b]=ks:=⟨_,rfl⟩;have hk2:ks.length=2:=by rw[<-hks];rfl
 have hrk:[bX a,bX b]=ks.map bX:=by rw[<-hks];rfl
 have jQ:∀x∈ks,x.length<=300:=λx hx=>by rw[<-hks]at hx;simp at hx;rcases hx with rfl|rfl<;>omega
 have hfl:ks.flatten=a++b:=by rw[<-hks];simp
 obtain⟨sm,hsm⟩:∃sm:Nat->Nat,sm=λi=>(ks.take i).flatten.length:=⟨_,rfl⟩
 have AR:∀i,i<=2->sm i<=600:=λi hi=>by
  rw[hsm,<-hks];have:i=0\/ i=1\/ i=2:=by omega
  rcases this with rfl|rfl|rfl<;>simp<;>omega
 have dz:∀i,(h:i<ks.length)->sm (i+1)=sm i+ks[i].length:=λi h=>by
  rw[hsm];simp only;rw[<-aR h,List.flatten_append,List.length_append];simp
 have hs0:sm 0=0:=by rw[hsm];simp
 have hs2:sm 2=a.length+b.length:=by rw[hsm];simp only;rw[<-hk2,List.take_length,hfl,List.length_append]
 rw[hrk];refine AW.aU cc (λi:Nat=>⟨[(0,sl (ks.map bX)),(3,aH (sm i:Nat)),(9,sl (ks.map bX)),(10,aH 2),(11,aH i)],[],H⟩) (λi=>2-i) (λi=>i<=2) 0 ⟨by omega,by simp[hs0]⟩ ?_
 intro i hi;have hsi:=AR i hi;simp;refine⟨λh=>?_,λh=>?_⟩
 ·have h':i<ks.length:=by omega
  obtain⟨x,dc⟩:∃x,ks[i]=x:=⟨_,rfl⟩;have fU:ks.take (i+1)=ks.take i++[x]:=by rw[<-aR h',dc]
  have tA:=jQ x (dc▸List.getElem_mem h');have LC:=dz i h';rw[dc]at LC;have w1:IntKind.wrap .i64 ((sm i:Int)+(x.length:Int))=(sm (i+1):Nat):=by rw[LC,wrap64]<;>omega
  have FX:=aB (n:=9223372036854775807) (show i<9223372036854775807 by omega)
  have hp:¬((sm (i+1):Nat):Int)<0:=by omega
  simp[h',List.getElem?_eq_getElem h',dc,bX,w1,hp];exact NX.go (i+1) (by omega) (by omega) (by simp[FX])
 ·have e2:i=2:=by omega
  subst e2;rw[hs2];obtain⟨n,hn⟩:∃n,a.length+b.length=n:=⟨_,rfl⟩;have Tr:n<=600:=by omega
  rw[hn];by_cases h0:n=0
  ·have ha0:a=[]:=List.eq_nil_of_length_eq_zero (by omega)
   have hb0:b=[]:=List.eq_nil_of_length_eq_zero (by omega)
   subst ha0 hb0;subst h0;refine AW.seq cc ?_;simp;refine EC.of (Ev H) (λv H2 hR=>?_) (λv H2 hR=>by cases hR.1)
   obtain⟨q,rfl⟩:=hR;cases q;simp;refine AW.seq cc ?_;simp;refine AW.aU cc (λi:Nat=>⟨[(6,.d (.k (.slice none 0 0))),(25,sl (ks.map bX)),(26,aH 2),(27,aH i)],[],H2⟩) (λi=>2-i) (λi=>i<=2) 0 ⟨by omega,by simp[hk2]⟩ ?_
   intro i hi;simp;refine⟨λh=>?_,λh=>?_⟩
   ·have h':i<ks.length:=by omega
    have hx0:ks[i]=[]:=by
     have hm:=List.getElem_mem h';have hall:∀y∈ks,y=[]:=λy hy=>by rw[<-hks]at hy;simpa using hy
     exact hall _ hm
    have FX:=aB (n:=9223372036854775807) (show i<9223372036854775807 by omega)
    simp[h',List.getElem?_eq_getElem h',hx0,bX];refine eE.ev ?_;simp;exact NX.go (i+1) (by omega) (by omega) (by simp[FX])
   ·refine AW.ev cc ?_;simp[bY];exact λhz=>hz.drop (Nat.le_refl _)
  ·refine AW.seq cc ?_;simp;refine EC.of (Gx n (by omega) H) (λv H2 hR=>?_) (λv H2 hR=>by cases hR.1)
   obtain⟨q,hE⟩:=hR;cases q;rw[hE]
   clear hE
   simp;refine AW.seq cc ?_;simp;obtain⟨cel,VE⟩:∃cel:Nat->List LV,cel=λi=>bG ((ks.take i).flatten.map ak)++uN (n-sm i):=⟨_,rfl⟩
   have hc0:cel 0=uN n:=by rw[VE];simp[hs0,bG]
   refine AW.aU cc (λi:Nat=>⟨[(6,.vs H.next 0 4 0 (sm i)),(25,sl (ks.map bX)),(26,aH 2),(27,aH i)],[],H.add (.vec 86 0 4 (cel i) false)⟩) (λi=>2-i) (λi=>i<=2) 0 ⟨by omega,by simp[hk2,hs0,hc0,uN]⟩ ?_
   intro i hi;simp;refine⟨λh=>?_,λh=>?_⟩
   ·have h':i<ks.length:=by omega
    obtain⟨x,dc⟩:∃x,ks[i]=x:=⟨_,rfl⟩;have LC:=dz i h';rw[dc]at LC;have FX:=aB (n:=9223372036854775807) (show i<9223372036854775807 by omega)
    have ob:∀X,(H.add X).obj H.next=some X:=λX=>by rw[GH.au,if_pos rfl]
    have ff:∀X Y,(H.add X).set H.next Y=H.add Y:=λX Y=>GH.cT
    simp[h',List.getElem?_eq_getElem h',dc,bX];refine eE.ev ?_;have tA:=jQ x (dc▸List.getElem_mem h');have fU:ks.take (i+1)=ks.take i++[x]:=by rw[<-aR h',dc]
    have hse:sm (i+1)<=n:=by
     have:i=0\/ i=1:=by omega
     have h12:sm 2=sm 1+ks[1].length:=dz 1 (by omega)
     rcases this with rfl|rfl
     ·show sm 1<=n;omega
     ·show sm 2<=n;omega
    have hA:(bG ((ks.take i).flatten.map ak)).length=sm i*4:=by
     rw[oE (λx=>CV x),hsm]
    have hX:(bG (x.map ak)).length=x.length*4:=oE (λx=>CV x) x
    have mP:(cel i).length=n*4:=by
     rw[VE];simp only;rw[List.length_append,hA,PW];omega
    have hput:(cel i).take (sm i*4)++(bG (x.map ak)++(cel i).drop (sm i*4+x.length*4))=cel (i+1):=by
     have:=UZ (bG ((ks.take i).flatten.map ak)) (bG (x.map ak)) (n-sm i) x.length hX;rw[VE];simp only;unfold putAt at this;rw[hA,hX,List.append_assoc]at this;rw[this,fU,List.flatten_append,List.map_append,vo,LC];simp only[List.flatten_cons,List.flatten_nil,List.append_nil];rw[show n-sm i-x.length=n-(sm i+x.length)by omega]
    by_cases hx0:x=[]
    ·have hce:cel (i+1)=cel i:=by
      rw[hx0]at hput;simp[bG]at hput;exact hput.symm
     have hsme:sm (i+1)=sm i:=by rw[LC,hx0];rfl
     simp[ob,hx0];exact NX.go (i+1) (by omega) (by omega) (by simp[FX,hce,hsme])
    ·have hle:(sm i+x.length)*4<=n*4:=by omega
     have hnbs:∀N,ct N (bG (x.map ak)):=λN=>oF N _
     simp[ob,hx0,mP,hle,hX,hput,hnbs,ff];exact NX.go (i+1) (by omega) (by omega) (by simp[FX,LC])
   ·have e2:i=2:=by omega
    subst e2;have mQ:cel 2=bG ((a++b).map ak):=by
     rw[VE];simp only;rw[hs2,hn,Nat.sub_self,<-hk2,List.take_length,hfl];simp[uN,jx]
    rw[mQ];refine AW.cL (n:=H.next) (g:=0) (sz:=4) (e:=86) (ex:=false) ((a++b).map ak) (by simp[GH.au]) rfl (bl _) ?_
    refine AW.ev cc ?_;have htf:((a.map ak)++(b.map ak)).take (a.length+b.length)=(a.map ak)++(b.map ak):=List.take_of_length_le (by simp)
    have o3:∀X m,m<H.next->(H.add X).obj m=H.obj m:=λX m hm=>by rw[GH.au,if_neg (by omega)]
    simp[hs2,htf,bY];exact λhz=>aO (by simp only[GH.aq];omega) (λm hm=>lB hw (Nat.le_refl _) (o3 _) hm) hw.none
theorem Kj(n:Nat)(e:bw)(a b:cr)(ha:bI a)(hb:bI b):aC prog 188 [.gp n 0,lv (aQ e),ei [a,b]] (bY (a++b)):=by
 have cc:=ar (p:=aY [4] [] []);have hco:=Cb a b ha.2.1 hb.2.1;simp[bX]at hco;refine aC.body (ar (p:=aY [4] [] [])) func188 rfl call188 (by rw[ntmps188];simp) rfl λhf H=>?_
 simp[ntmps188,results188,ai];refine AW.draw cc [(7,.n)] (.q 0<|.q 1<|.q 3<|.q 4<|.q 2<|.q 5<|.q 6<|.q 7<|.q 8<|.done) (by kernel_rfl) ?_
 have hr:List.range' 0 2=[0,1]:=rfl;simp[ai,bX,hr];refine FC.aJ hco ?_;simp[bY]
theorem Cy(l:List Item)(q:Item->Bool)(f:FuncId)(hc:∀n∈l,aC prog f [lv (ak n)] (.d (.k (.bool (q n))))):aC prog 175 [sl (l.map ak),.fn (.func f) [] []] (aH (AO q l)):=by
 have cc:=aP;refine aC.body aP func175 rfl call175 (by rw[ntmps175];simp) rfl λhf H=>?_
 simp[ntmps175,results175]at hf|-;refine AW.aU cc (λi:Nat=>⟨[(0,.d (.sl (l.map ak))),(1,.fn (.func f) [] []),(7,aH l.length),(8,aH i)],[],H⟩) (λi=>l.length-i) (λi=>i<=l.length/\∀j (h:j<l.length),j<i->q l[j]=false) 0 ⟨by simp,by simp[LV.only,dQ]⟩ ?_
 rintro i ⟨hi,hk⟩;simp;refine⟨λh=>?_,λh=>?_⟩
 ·have gG:=hc l[i] (List.getElem_mem h);simp[ak]at gG;simp[h,List.getElem?_eq_getElem h,ak];refine EC.aJ gG ?_;simp[aB h hf.1];refine⟨λe=>(yN h e hk).symm,λe=>NX.go (i+1) (Nat.sub_lt_sub_left h (Nat.lt_succ_self i)) ⟨h,λj hj hji=>?_⟩ (by simp)⟩
  by_cases z:j=i
  ·subst z;exact e
  ·exact hk j hj (by omega)
 ·exact(sF λj hj=>hk j hj (by omega)).symm
theorem oO(l:List Item)(q:Item->Bool)(f:FuncId)(hc:∀n∈l,aC prog f [lv (ak n)] (.d (.k (.bool (q n))))):aC prog 113 [sl (l.map ak),.fn (.func f) [] []] (.d (.k (.bool (l.any q)))):=by
 refine aC.body aP func113 rfl call113 (by rw[ntmps113];simp) rfl λhf H=>?_
 have hi:=Cy l q f hc;simp at hi;simp[ntmps113,results113];refine EC.aJ hi ?_;simp;rw[<-vl q l]
theorem Sa(x:Item):aC prog 143 [lv (ak x)] (.d (.k (.bool (decide (1000000<x.n))))):=by
 refine aC.body (ar (p:=aY [1] [] [])) func143 rfl call143 (by rw[ntmps143];simp) rfl λhf H=>?_
 simp[ntmps143,results143,ak]
def uR:LV:=.d (.k (.iface 191 (.agg #[])))
structure p8(p:Prog)(e:bw):Prop where
 ok:gI e.op e.name e.n e.fold e.aD.length e.kids.length=true
 nm:e.op=1->0<=idx p.az e.name
 df:e.op=2\/ e.op=3->0<=idx (an p) e.name
 cs:∀c∈e.aD,uK c
theorem wZ{l:List bc}(h:l.length=1):∃c,l=[c]:=by
 match l,h with
 |[c],_=>exact⟨c,rfl⟩
theorem SO{l:List bc}(h:l.length=2):∃c d,l=[c,d]:=by
 match l,h with
 |[c,d],_=>exact⟨c,d,rfl⟩
theorem ji{l:List cr}(h:l.length=1):∃c,l=[c]:=by
 match l,h with
 |[c],_=>exact⟨c,rfl⟩
theorem tF{l:List cr}(h:l.length=2):∃c d,l=[c,d]:=by
 match l,h with
 |[c,d],_=>exact⟨c,d,rfl⟩
theorem iY{f:FuncId}{args:List LV}{l:List Item}{H:GH}(h:aF prog f args H λce H'=>ce=.ret (bY l)/\H'=H):aF prog f args H (BR l H):=
 h.mono λce H' q=>⟨⟨l,.refl _,q.1⟩,q.2⟩
theorem vX{f:FuncId}{args:List LV}{l:List Item}{H:GH}(h:aC prog f args (bY l)):aF prog f args H (BR l H):=iY (h H)
theorem qI{op:Int}{name:ca}{n fold:Int}{nc nk:Nat}(h:gI op name n fold nc nk=true):∃x,bF op=some x/\(nk:Int)=x.kids/\(nc:Int)=x.aD/\x.low<=n/\n<=x.high:=by
 unfold gI at h;cases q:bF op with
 |none=>rw[q]at h;cases h
 |some x=>
  rw[q]at h;simp only[Bool.and_eq_true,decide_eq_true_eq]at h;exact⟨x,rfl,h.1.1.1.1,h.1.1.1.2,h.1.2.1,h.1.2.2⟩
theorem NP{H:GH}{n ms mn mv ma:Nat}{p:Prog}{W:b9}(hW:Wld H n ms mn mv ma p W)(hd:∀b∈W.aj,bI b)(e:bw)(he:p8 p e)(ks:List cr)(hk:ks.length=e.kids.length)(hks:∀b∈ks,bI b):
  aF prog (184+e.op.toNat) [.gp n 0,lv (aQ e),ei ks] H (BR (gV p W e.op e.name e.n e.fold e.aD ks) H):=by
 obtain⟨x,h1,h2,h3,h4,h5⟩:=qI he.ok;have hop:1<=e.op/\e.op<=15:=Classical.byContradiction λhn=>by
  unfold bF at h1
  repeat (rw[if_neg (by omega)]at h1)
  cases h1
 obtain⟨o,ho⟩:∃o,e.op=o:=⟨_,rfl⟩;have pM:o=1\/ o=2\/ o=3\/ o=4\/ o=5\/ o=6\/ o=7\/ o=8\/ o=9\/ o=10\/ o=11\/ o=12\/ o=13\/ o=14\/ o=15:=by omega
 rw[ho]at h1|-;have hnm:=he.nm;have hdf:=he.df;have hcs:=he.cs;rw[ho]at hnm hdf;rcases pM with rfl|rfl|rfl|rfl|rfl|rfl|rfl|rfl|rfl|rfl|rfl|rfl|rfl|rfl|rfl
 all_goals
  simp[bF]at h1;subst h1;simp only at h2 h3 h4 h5
 ·exact iY (Ej hW e ks (hnm rfl))
 ·exact iY (NO hW e ks (hdf (.inl rfl)))
 ·exact iY (Ke hW e ks (hdf (.inr rfl)) (by omega) hd)
 ·obtain⟨a,b,rfl⟩:=tF (l:=ks) (by omega)
  exact vX (Kj n e a b (hks a (by simp)) (hks b (by simp)))
 ·obtain⟨a,rfl⟩:=ji (l:=ks) (by omega)
  obtain⟨c,hc⟩:=wZ (l:=e.aD) (by omega)
  rw[hc];exact vX (F0 n e c a (hks a (by simp)) hc (hcs c (by rw[hc];simp)))
 ·obtain⟨a,rfl⟩:=ji (l:=ks) (by omega)
  obtain⟨c,d,hc⟩:=SO (l:=e.aD) (by omega)
  rw[hc];exact iY (Ki n e c d a (hks a (by simp)) hc (hcs c (by rw[hc];simp)) (hcs d (by rw[hc];simp)) H)
 ·obtain⟨a,rfl⟩:=ji (l:=ks) (by omega)
  exact vX (F3 n e a (hks a (by simp)) (by omega))
 ·obtain⟨a,rfl⟩:=ji (l:=ks) (by omega)
  exact F4 n e a (hks a (by simp)) (by omega) H
 ·obtain⟨a,rfl⟩:=ji (l:=ks) (by omega)
  exact F2 n e a (hks a (by simp)) (by omega) H
 ·obtain⟨a,rfl⟩:=ji (l:=ks) (by omega)
  exact F1 n e a (hks a (by simp)) H
 ·obtain⟨a,rfl⟩:=ji (l:=ks) (by omega)
  exact Kc n e a (hks a (by simp)) (by omega) H
 ·obtain⟨a,b,rfl⟩:=tF (l:=ks) (by omega)
  obtain⟨c,hc⟩:=wZ (l:=e.aD) (by omega)
  rw[hc];exact iY (Kf n e c a b (hks a (by simp)) (hks b (by simp)) hc (hcs c (by rw[hc];simp)) (by omega) H)
 ·obtain⟨a,b,rfl⟩:=tF (l:=ks) (by omega)
  obtain⟨c,hc⟩:=wZ (l:=e.aD) (by omega)
  rw[hc];exact iY (Kk n e c a b (hks a (by simp)) (hks b (by simp)) hc (hcs c (by rw[hc];simp)) H)
 ·obtain⟨a,b,rfl⟩:=tF (l:=ks) (by omega)
  exact iY (Kh n e a b (hks a (by simp)) (hks b (by simp)) (by omega) H)
 ·obtain⟨a,rfl⟩:=ji (l:=ks) (by omega)
  exact iY (Kg n e a (hks a (by simp)) H)
def ItB(x:Item):Prop:=(1<=x.n/\x.n<=1000000000000)/\cq x.aa.key/\cq x.aa.val
theorem mU.b{x:Item}(h:mU x):ItB x:=⟨⟨h.2.2.2.1,by have:=h.2.2.2.2;omega⟩,h.2.1,h.2.2.1⟩
theorem MP{n:Int}{l:List Item}(h:∀x∈l,ItB x):∀x∈dU n l,ItB x:=λx hx=>by
 obtain⟨y,hy,rfl⟩:=List.mem_map.1 hx;exact h y hy
theorem sj{f more key:Int}{sp:Int->Option (Int×Int)}{row:List Item}(hk:cq key):∀(l:List Item) (last:Int),∀x∈ec f more key sp row l last,ItB x
 |[],_,x,hx=>by simp[ec]at hx
 |y::l,last,x,hx=>by
  rw[ec]at hx
  split at hx
  ·exact sj hk l last x hx
  ·split at hx
   ·exact sj hk l last x hx
   ·rcases List.mem_cons.1 hx with q|q
    ·subst q;exact⟨⟨Int.le_refl _,by simp only;omega⟩,hk,lT _⟩
    ·exact sj hk l _ x q
theorem yG{f more:Int}{sp:List Item->Int->Option (Int×Int)}{b:cr}(hb:bI b):(fS f more sp b).length<=90000/\∀x∈fS f more sp b,ItB x:=by
 constructor
 ·have h1:=kG (f:=sk f more sp b) (B:=300) (λk=>Nat.le_trans (ki _ _) (Nat.le_trans (yI _ _) hb.2.1)) (aZ b)
  have h3:=ue b;have h4:=hb.2.1;have h5:(aZ b).length*300<=300*300:=Nat.mul_le_mul_right _ (by omega)
  unfold fS;omega
 ·intro x hx;obtain⟨k,hk,hx⟩:=List.mem_flatMap.1 hx;obtain⟨y,hy,rfl⟩:=mC.1 hk;exact sj (hb.2.2 y hy).2.1 _ _ x hx
theorem w6{p:Prog}{W:b9}(hs:∀b∈W.az,bI b)(hd:∀b∈W.aj,bI b)(e:bw)(he:p8 p e)(ks:List cr)(hk:ks.length=e.kids.length)(hks:∀b∈ks,bI b):
  (gV p W e.op e.name e.n e.fold e.aD ks).length<=90000/\∀x∈gV p W e.op e.name e.n e.fold e.aD ks,ItB x:=by
 obtain⟨x,h1,h2,h3,h4,h5⟩:=qI he.ok;have hcs:=he.cs;have dD:∀(L:List cr) (i:Nat),(∀b∈L,bI b)->(L.getD i []).length<=300/\∀x∈L.getD i [],mU x:=λL i hL=>by
  by_cases q:i<L.length
  ·have:L.getD i []=L[i]:=by simp[List.getD,List.getElem?_eq_getElem q]
   rw[this];exact(hL _ (List.getElem_mem q)).2
  ·have:L.getD i []=[]:=by simp[List.getD,List.getElem?_eq_none (Nat.le_of_not_lt q)]
   rw[this];simp
 have hop:1<=e.op/\e.op<=15:=Classical.byContradiction λhn=>by
  unfold bF at h1
  repeat (rw[if_neg (by omega)]at h1)
  cases h1
 obtain⟨o,ho⟩:∃o,e.op=o:=⟨_,rfl⟩;have pM:o=1\/ o=2\/ o=3\/ o=4\/ o=5\/ o=6\/ o=7\/ o=8\/ o=9\/ o=10\/ o=11\/ o=12\/ o=13\/ o=14\/ o=15:=by omega
 rw[ho]at h1|-;rcases pM with rfl|rfl|rfl|rfl|rfl|rfl|rfl|rfl|rfl|rfl|rfl|rfl|rfl|rfl|rfl
 all_goals
  simp[bF]at h1;subst h1;simp only at h2 h3 h4 h5
 ·have:=dD W.az (idx p.az e.name).toNat hs;exact⟨by simp[gV]at this|-;omega,λx hx=>(this.2 x (by simpa[gV]using hx)).b⟩
 ·have:=dD W.aj (idx (an p) e.name).toNat hd;exact⟨by simp[gV]at this|-;omega,λx hx=>(this.2 x (by simpa[gV]using hx)).b⟩
 ·have:=dD W.aj (idx (an p) e.name).toNat hd;exact⟨by simp[gV,dU]at this|-;omega,MP λx hx=>(this.2 x (by simpa using hx)).b⟩
 ·obtain⟨a,b,rfl⟩:=tF (l:=ks) (by omega)
  have ha:=hks a (by simp)
  have hb:=hks b (by simp)
  refine⟨by have:=ha.2.1;have:=hb.2.1;simp[gV];omega,λx hx=>?_⟩
  simp[gV]at hx;rcases hx with q|q
  ·exact(ha.2.2 x q).b
  ·exact(hb.2.2 x q).b
 ·obtain⟨a,rfl⟩:=ji (l:=ks) (by omega)
  have ha:=hks a (by simp)
  simp only[gV];exact⟨Nat.le_trans (List.length_filter_le _ _) (by have:=ha.2.1;simp;omega),λx hx=>(ha.2.2 x (List.mem_filter.1 hx).1).b⟩
 ·obtain⟨a,rfl⟩:=ji (l:=ks) (by omega)
  obtain⟨c,d,hc⟩:=SO (l:=e.aD) (by omega)
  have ha:=hks a (by simp)
  rw[hc]at hcs|-;refine⟨by have:=ha.2.1;simp[gV,Bo];omega,λx hx=>?_⟩
  simp only[gV]at hx;obtain⟨y,hy,rfl⟩:=List.mem_map.1 hx;have J4:=ha.2.2 y hy;exact⟨J4.b.1,nD (ug J4) (by unfold cq;omega) (hcs c (by simp)),nD (ug J4) (by unfold cq;omega) (hcs d (by simp))⟩
 ·obtain⟨a,rfl⟩:=ji (l:=ks) (by omega)
  have ha:=hks a (by simp)
  exact⟨by have:=ha.2.1;simp[gV,dU];omega,MP λx hx=>(ha.2.2 x hx).b⟩
 ·obtain⟨a,rfl⟩:=ji (l:=ks) (by omega)
  exact yG (hks a (by simp))
 ·obtain⟨a,rfl⟩:=ji (l:=ks) (by omega)
  exact yG (hks a (by simp))
 ·obtain⟨a,rfl⟩:=ji (l:=ks) (by omega)
  exact yG (hks a (by simp))
 ·obtain⟨a,rfl⟩:=ji (l:=ks) (by omega)
  exact yG (hks a (by simp))
 ·obtain⟨a,b,rfl⟩:=tF (l:=ks) (by omega)
  obtain⟨c,hc⟩:=wZ (l:=e.aD) (by omega)
  have ha:=hks a (by simp)
  have hb:=hks b (by simp)
  rw[hc]at hcs|-;refine⟨Nat.le_trans (CX _ _ _ _ hb.2.1) (by have:=ha.2.1;simp;omega),λx hx=>?_⟩
  obtain⟨y,hy,hx⟩:=List.mem_flatMap.1 (show x∈kZ e.n c a b from hx)
  obtain⟨u,hu,rfl⟩:=List.mem_map.1 hx;have J4:=ha.2.2 y hy;have Ro:=hb.2.2 u (pp (jI hu)).1;have hr':xq ⟨jN y.aa.at_ u.aa.at_,y.aa.key,y.aa.val⟩:=⟨by have:=Ro.1;have:=J4.1;unfold cq jN;split<;>simp only<;>omega,J4.2.1,J4.2.2.1⟩
  exact⟨mul_n J4 Ro,J4.2.1,nD hr' Ro.2.2.1 (hcs c (by simp))⟩
 ·obtain⟨a,b,rfl⟩:=tF (l:=ks) (by omega)
  obtain⟨c,hc⟩:=wZ (l:=e.aD) (by omega)
  have ha:=hks a (by simp)
  have hb:=hks b (by simp)
  rw[hc]at hcs|-;refine⟨Nat.le_trans (D6 c a b) (by have:=ha.2.1;omega),λx hx=>?_⟩
  obtain⟨y,hy,hx⟩:=List.mem_flatMap.1 (show x∈jG c a b from hx)
  have J4:=ha.2.2 y hy
  split at hx
  ·cases hx
  ·rename_i u hu;simp only[List.mem_singleton]at hx;subst hx;have Ro:=hb.2.2 u (pp (jI (List.mem_of_getLast? hu))).1;exact⟨J4.b.1,J4.2.1,nD (ug J4) Ro.2.2.1 (hcs c (by simp))⟩
 ·obtain⟨a,b,rfl⟩:=tF (l:=ks) (by omega)
  have ha:=hks a (by simp)
  exact⟨Nat.le_trans (List.length_filter_le _ _) (by have:=ha.2.1;simp;omega),λx hx=>(ha.2.2 x (List.mem_filter.1 hx).1).b⟩
 ·obtain⟨a,rfl⟩:=ji (l:=ks) (by omega)
  have ha:=hks a (by simp)
  refine⟨by have:=ha.2.1;simp[gV,xw];omega,λx hx=>?_⟩
  obtain⟨y,hy,rfl⟩:=List.mem_map.1 (show x∈xw a from hx)
  have J4:=ha.2.2 y hy;exact⟨⟨Int.le_refl _,by simp only;omega⟩,J4.2.1,J4.2.2.1⟩
theorem Jn{r:Rec}:∀{l:List Item},(∀x∈l,1<=x.n)->0<=bQ l r
 |[],_=>Int.le_refl _
 |x::l,h=>by
  have:=Jn (r:=r) (l:=l) λy hy=>h y (by simp[hy])
  have:=h x (by simp)
  rw[bQ];split<;>omega
theorem SR{l:List Item}{top:Int}(ht:top<=200)(h:∀x∈l,ItB x)(hf:gH (bV l top)=true):bI (bV l top):=by
 simp only[gH,Bool.and_eq_true,decide_eq_true_eq,List.all_eq_true]at hf;refine⟨oP _,hf.1,λx hx=>?_⟩
 have hn:=hf.2 x hx;obtain⟨h1,h2⟩:=jj.1 hx;obtain⟨y,hy,e⟩:=rN (r:=x.aa) (by rw[<-h2];exact h1)
 obtain⟨hyl,hyt⟩:=List.mem_filter.1 hy;have hyb:=h y hyl;simp only[decide_eq_true_eq]at hyt;have hp:=Jn (r:=x.aa) (l:=l.filter λx=>decide (0<=x.aa.at_/\x.aa.at_<=top)) λz hz=>(h z (List.mem_filter.1 hz).1).1.1
 unfold mU;rw[<-e];exact⟨by omega,hyb.2.1,hyb.2.2,by omega,hn⟩
theorem HP(x:Item):aC prog 114 [lv (ak x)] (.d (.k (.bool (decide (x.n<0))))):=by
 refine aC.body (ar (p:=aY [1] [] [])) func114 rfl call114 (by rw[ntmps114];simp) rfl λhf H=>?_
 simp[ntmps114,results114,ak]
theorem Li(b:List Item):aC prog 58 [sl (b.map ak)] (.d (.k (.bool (Ek b)))):=by
 refine aC.body aP func58 rfl call58 (by rw[ntmps58];simp) rfl λhf H=>?_
 have h:=oO b (λx=>decide (x.n<0)) 114 λx _=>HP x
 simp at h;simp[ntmps58,results58];refine EC.aJ h ?_;simp[Ek]
theorem I2{b:List Item}(h:fM b=true):b.length<=300:=by
 unfold fM at h;rw[Bool.and_eq_true]at h;exact of_decide_eq_true h.2
theorem Fm{b:List Item}(h:fM b=true){x:Item}(hx:x∈b):mm x.aa=true/\x.n≠0/\-1000000<=x.n/\x.n<=1000000:=by
 unfold fM at h;rw[Bool.and_eq_true,List.all_eq_true]at h;obtain⟨i,hi,rfl⟩:=List.mem_iff_getElem.1 hx;have:=h.1 i (List.mem_range.2 hi);unfold kq at this;have hg:b.getD i default=b[i]:=by rw[List.getD_eq_getElem?_getD,List.getElem?_eq_getElem hi];rfl
 rw[hg]at this;simp only[Bool.and_eq_true,decide_eq_true_eq]at this;exact⟨this.1.1,this.1.2⟩
theorem Mz{r:Rec}(h:mm r=true):(0<=r.at_/\r.at_<=200)/\cq r.key/\cq r.val:=by
 unfold mm mD at h;simp at h;exact⟨h.1.1,h.1.2,h.2⟩
theorem Fo{b:List Item}(h:fM b=true):∀x∈b,Co x:=λx hx=>by
 have h1:=Fm h hx;exact⟨h1.2.2,(Mz h1.1).2.2⟩
def qk(f:Int)(b:List Item):LV:=if 1<=f/\f<=4/\lD b=true then(if b=[]then .dx [aH 0,aH 5]else .dx [aH (foldI f b),aH 0])else .dx [aH 0,aH 2]
theorem Df(f:Int)(b:List Item):aC prog 15 [aH f,sl (b.map ak)] (qk f b):=by
 refine aC.body aP func15 rfl call15 (by rw[ntmps15];simp) rfl λhf H=>?_
 have h1:=Pu b;have h2:=Li b;have h3:=λq:fM b=true=>De f b (Nat.le_trans (I2 q) (by omega)) (Fo q)
 simp at h1 h2;simp[ntmps15,results15];by_cases hr:1<=f/\f<=4
 ·have i1:¬f<1:=by omega
  have i2:¬4<f:=by omega
  simp[i1,i2,hr.1,hr.2];refine EC.aJ h1 ?_;cases hg:fM b with
  |false=>
   have:lD b=false:=by simp[lD,hg]
   simp[qk,this]
  |true=>
   simp;refine EC.aJ h2 ?_;cases hw:Ek b with
   |false=>
    have:lD b=false:=by simp[lD,hg,hw]
    simp[qk,this]
   |true=>
    have hp:lD b=true:=by simp[lD,hg,hw]
    have h3':=h3 hg;simp;refine⟨λq=>?_,λq=>?_⟩
    ·have e:qk f b=.dx [aH 0,aH 5]:=by unfold qk;rw[if_pos ⟨hr.1,hr.2,hp⟩,if_pos q]
     simp[e]
    ·simp at h3';refine EC.aJ h3' ?_;simp[qk,hr,hp,q]
 ·have hn:qk f b=.dx [aH 0,aH 2]:=by unfold qk;rw[if_neg λw=>hr ⟨w.1,w.2.1⟩]
  by_cases i1:1<=f
  ·have i2:¬f<=4:=by omega
   have i3:¬f<1:=by omega
   have i4:4<f:=by omega
   simp[i1,i2,i3,i4,hn]
  ·have i3:f<1:=by omega
   simp[i1,i3,hn]
theorem uX(f:Int)(hf4:1<=f/\f<=4)(l:List Item)(hl:l.length<=1000)(hb:∀x∈l,Co x):aC prog 60 [aH f,sl (l.map ak)] (aH (foldI f l)):=by
 have cc:=ar (p:=aY [] [] []);refine aC.body (ar (p:=aY [] [] [])) func60 rfl call60 (by rw[ntmps60];simp) rfl λhf H=>?_
 simp[ntmps60,results60]at hf|-;refine AW.aU cc (λi:Nat=>⟨[(0,aH f),(1,sl (l.map ak)),(5,aH ((l.take i).foldl (cG f) (0,0)).2),(6,aH i)],[],H⟩) (λi=>l.length-i) (λi=>i<=l.length) 0 ⟨Nat.zero_le _,by simp⟩ λi hi=>?_
 simp;refine⟨λh=>?_,λh=>?_⟩
 ·obtain⟨x,dc⟩:∃x,l[i]=x:=⟨_,rfl⟩;have hx:=hb l[i] (List.getElem_mem h);rw[dc]at hx;have hbd:=uo f (l.take i) (0,0) (λy hy=>hb y (List.mem_of_mem_take hy)) (by simp)
  have hst:(l.take (i+1)).foldl (cG f) (0,0)=cG f ((l.take i).foldl (cG f) (0,0)) x:=by
   rw[<-aR h,dc,List.foldl_append];rfl
  obtain⟨st,hs⟩:∃st,(l.take i).foldl (cG f) (0,0)=st:=⟨_,rfl⟩;rw[hs]at hbd hst;have hlt:(l.take i).length=i:=by simp;omega
  rw[hlt]at hbd;have hm:=Al hx;obtain⟨h1,h2⟩:=hx;unfold cq at h2;have w1:IntKind.wrap .i64 (st.2+x.n)=st.2+x.n:=by rw[wrap64]<;>omega
  have w2:IntKind.wrap .i64 (x.n*x.aa.val)=x.n*x.aa.val:=by rw[wrap64]<;>omega
  have w3:IntKind.wrap .i64 (st.2+x.n*x.aa.val)=st.2+x.n*x.aa.val:=by rw[wrap64]<;>omega
  have LA:st.1=i:=by have:=hbd.1;omega
  have w4:=aB h (show l.length<=9223372036854775807 by omega)
  have Ts:f=1\/ f=2\/ f=3\/ f=4:=by omega
  have h1i:(1:Int)≠2/\(1:Int)≠3:=by omega
  have xQ:=λv:Int=>λ(q:v=(cG f st x).2)=>(q.trans (congrArg Prod.snd hst).symm)
  rcases Ts with rfl|rfl|rfl|rfl
  ·have hv:(cG 1 st x).2=st.2+x.n:=rfl;simp[h,List.getElem?_eq_getElem h,dc,ak,hs,w1];exact NX.go (i+1) (by omega) h (by simp[hst,hv,w4])
  ·have hv:(cG 2 st x).2=st.2+x.n*x.aa.val:=rfl;simp[h,List.getElem?_eq_getElem h,dc,ak,hs,w2,w3];exact NX.go (i+1) (by omega) h (by simp[hst,hv,w4])
  ·have hv:(cG 3 st x).2=if i=0\/ x.aa.val<st.2 then x.aa.val else st.2:=by rw[<-LA];rfl
   by_cases c:i=0
   ·subst c;simp[h,List.getElem?_eq_getElem h,dc,ak,hs];exact NX.go 1 (by omega) h (by simp[hst,hv];exact(by decide:IntKind.i64.wrap 1=1))
   ·by_cases d:x.aa.val<st.2
    ·simp[h,List.getElem?_eq_getElem h,dc,ak,hs,c,d];exact NX.go (i+1) (by omega) h (by simp[hst,hv,w4,d])
    ·simp[h,List.getElem?_eq_getElem h,dc,ak,hs,c,d];exact NX.go (i+1) (by omega) h (by simp[hst,hv,w4,d,c])
  ·have hv:(cG 4 st x).2=if i=0\/ st.2<x.aa.val then x.aa.val else st.2:=by rw[<-LA];rfl
   by_cases c:i=0
   ·subst c;simp[h,List.getElem?_eq_getElem h,dc,ak,hs];exact NX.go 1 (by omega) h (by simp[hst,hv];exact(by decide:IntKind.i64.wrap 1=1))
   ·by_cases d:st.2<x.aa.val
    ·simp[h,List.getElem?_eq_getElem h,dc,ak,hs,c,d];exact NX.go (i+1) (by omega) h (by simp[hst,hv,w4,d])
    ·simp[h,List.getElem?_eq_getElem h,dc,ak,hs,c,d];exact NX.go (i+1) (by omega) h (by simp[hst,hv,w4,d,c])
 ·have e:i=l.length:=by omega
  subst e;rw[List.take_length];refine EC.aJ (lC _) ?_;simp[foldI]
mutual
theorem Ll:∀(c:bc) (depth left:Int),0<=dM c depth left->dy true c depth left=some (dM c depth left)
 |.mk op n kids,depth,left,h=>by
  rw[dM]at h|-;by_cases h1:10<depth\/ left<1\/ op<1\/ 10<op
  ·rw[if_pos h1]at h;omega
  ·rw[if_neg h1]at h|-;by_cases h2:(kids.length:Int)≠(if 6<=op then 2 else 0)\/ (op≠1/\n≠0)\/ n≠eR n
   ·rw[if_pos h2]at h;omega
   ·rw[if_neg h2]at h|-;rw[dy,if_pos]
    ·exact xC kids _ _ h
    ·have hk:(kids.length:Int)=(if 6<=op then 2 else 0):=Classical.byContradiction λq=>h2 (.inl q)
     have hn:op=1\/ n=0:=Classical.byContradiction λq=>h2 (.inr (.inl ⟨λe=>q (.inl e),λe=>q (.inr e)⟩))
     have hc:n=eR n:=Classical.byContradiction λq=>h2 (.inr (.inr q))
     have hcb:=lT n;unfold cq at hcb;refine⟨by omega,by omega,?_⟩
     unfold fk;by_cases e1:op=1
     ·rw[if_pos e1];rw[if_neg (by omega)]at hk
      exact decide_eq_true ⟨by omega,by omega,by omega⟩
     ·rw[if_neg e1];have hn0:n=0:=hn.resolve_left e1;by_cases e2:op=2\/ op=3\/ op=4
      ·rw[if_pos e2];rw[if_neg (by omega)]at hk
       exact decide_eq_true ⟨hn0,by omega⟩
      ·rw[if_neg e2];by_cases e5:op=5
       ·rw[if_pos e5];rw[if_neg (by omega)]at hk
        exact decide_eq_true ⟨rfl,hn0,by omega⟩
       ·rw[if_neg e5];rw[if_pos (by omega)]at hk
        exact decide_eq_true ⟨by omega,by omega,hn0,by omega⟩
theorem xC:∀(cs:List bc) (depth left:Int),0<=cW cs depth left->cp true cs (depth+1) left=some (cW cs depth left)
 |[],depth,left,h=>by rw[cp,cW]
 |k::ks,depth,left,h=>by
  rw[cW]at h|-
  split at h
  ·omega
  ·rename_i h1;rw[if_neg h1,cp,Ll k _ _ (by omega)]
   exact xC ks _ _ h
end
end Go.Aft
end
section
set_option maxRecDepth 20000
namespace Go.Aft
def fL(n:Nat)(R:Nat->Nat->Bool)(d:Nat):List Nat:=if R d d=true then bO n R d else[d]
def fw(n:Nat)(R:Nat->Nat->Bool)(D:List Nat)(d:Nat):Bool:=!D.contains d&& !((List.range n).filter (R d)).any λk=>!D.contains k&& !(fL n R d).contains k
def cR(D l:List Nat):List Nat:=l.foldl (λD k=>if k∈D then D else D++[k]) D
def eZ(n:Nat)(R:Nat->Nat->Bool):Nat->List Nat->List (List Nat)
 |0,_=>[]
 |f+1,D=>if D.length<n then match(List.range n).find? (fw n R D)with
  |none=>[]
  |some d=>fL n R d::eZ n R f (cR D (fL n R d))else[]
def gR(n:Nat)(R:Nat->Nat->Bool):List (List Nat):=eZ n R n []
theorem nG(D:List Nat)(k:Nat)(l:List Nat):cR D (k::l)=cR (if k∈D then D else D++[k]) l:=rfl
theorem JI(D l:List Nat)(k:Nat):cR D (l++[k])=if k∈cR D l then cR D l else cR D l++[k]:=by
 rw[cR,List.foldl_append];rfl
theorem eo{x:Nat}:∀{l D:List Nat},x∈cR D l↔x∈D\/ x∈l
 |[],D=>by simp[cR]
 |k::l,D=>by
  rw[nG,eo]
  split
  ·rename_i h;rw[List.mem_cons];constructor
   ·rintro(q|q)
    ·exact .inl q
    ·exact .inr (.inr q)
   ·rintro(q|q|q)
    ·exact .inl q
    ·rw[q];exact .inl h
    ·exact .inr q
  ·simp[or_assoc]
theorem jm:∀{l D:List Nat},D.Nodup->(cR D l).Nodup
 |[],D,h=>h
 |k::l,D,h=>by
  rw[nG];refine jm ?_
  split
  ·exact h
  ·rename_i q;rw[List.nodup_append];exact⟨h,by simp,λa ha b hb=>by simp at hb;subst hb;intro z;subst z;exact q ha⟩
theorem tH:∀{l D:List Nat},D.length<=(cR D l).length
 |[],D=>Nat.le_refl _
 |k::l,D=>by
  rw[nG];refine Nat.le_trans ?_ tH
  split
  ·exact Nat.le_refl _
  ·simp
theorem uA:∀{l D:List Nat} {d:Nat},d∈l->d∉D->D.length<(cR D l).length
 |k::l,D,d,h,hd=>by
  rw[nG];by_cases e:k∈D
  ·rw[if_pos e];rcases List.mem_cons.1 h with q|q
   ·rw[q]at hd;exact absurd e hd
   ·exact uA q hd
  ·rw[if_neg e];refine Nat.lt_of_lt_of_le ?_ tH;simp
theorem fP{n:Nat}{R:Nat->Nat->Bool}{d:Nat}(hd:d<n):d∈fL n R d:=by
 unfold fL
 split
 ·exact bK.2 ⟨hd,.inl rfl⟩
 ·simp
theorem wB{n:Nat}{R:Nat->Nat->Bool}{d k:Nat}(hd:d<n)(h:k∈fL n R d):k<n:=by
 unfold fL at h
 split at h
 ·exact(bK.1 h).1
 ·simp at h;omega
theorem Vn{n:Nat}{R:Nat->Nat->Bool}{d:Nat}(hn:1<=n):(fL n R d).length<=n:=by
 unfold fL
 split
 ·exact Nat.le_trans (List.length_filter_le _ _) (by simp)
 ·simpa using hn
theorem He{n:Nat}{R:Nat->Nat->Bool}(ht:∀i j k,R i j=true->R j k=true->R i k=true){D:List Nat}:∀(c d:Nat),((List.range n).filter λj=>j==d||R d j).length<=c->d<n->d∉D->∃e,e<n/\fw n R D e=true
 |0,d,hc,hd,_=>by
  have:d∈(List.range n).filter λj=>j==d||R d j:=List.mem_filter.2 ⟨List.mem_range.2 hd,by simp⟩
  have:=List.length_pos_of_mem this;omega
 |c+1,d,hc,hd,hD=>by
  cases h:fw n R D d with
  |true=>exact⟨d,hd,h⟩
  |false=>
   have hcd:D.contains d=false:=by simpa using hD
   unfold fw at h;rw[hcd]at h;simp only[Bool.not_false,Bool.true_and,Bool.not_eq_false',List.any_eq_true,List.mem_filter,List.mem_range,Bool.and_eq_true,Bool.not_eq_true']at h;obtain⟨k,⟨hk,hdk⟩,h1,h2⟩:=h;have Ry:k∉D:=by simpa using h1
   have OG:k≠d/\R k d=false:=by
    have h3:k∉fL n R d:=by simpa using h2
    unfold fL at h3
    split at h3
    ·rename_i hdd;refine⟨λe=>h3 (by rw[e];exact bK.2 ⟨hd,.inl rfl⟩),?_⟩
     cases q:R k d with
     |false=>rfl
     |true=>exact absurd (bK.2 ⟨hk,.inr ⟨hdk,q⟩⟩) h3
    ·rename_i hdd;refine⟨by simpa using h3,?_⟩
     cases q:R k d with
     |false=>rfl
     |true=>exact absurd (ht _ _ _ hdk q) hdd
   refine He ht c k ?_ hk Ry;have hsub:((List.range n).filter λj=>j==k||R k j).length<((List.range n).filter λj=>j==d||R d j).length:=by
    have h5:∀j,(j==k||R k j)=true->(j==d||R d j)=true:=λj hj=>by
     simp only[Bool.or_eq_true,beq_iff_eq]at hj|-;rcases hj with rfl|hj
     ·exact .inr hdk
     ·exact .inr (ht _ _ _ hdk hj)
    have h6:((List.range n).filter λj=>j==k||R k j)=((List.range n).filter λj=>j==d||R d j).filter λj=>j==k||R k j:=by
     rw[List.filter_filter];refine List.filter_congr λj _=>?_
     cases q:(j==k||R k j)with
     |false=>simp
     |true=>rw[h5 j q];rfl
    rw[h6];refine List.length_filter_lt_length_iff_exists.2 ⟨d,List.mem_filter.2 ⟨List.mem_range.2 hd,by simp⟩,?_⟩
    simp[OG.2,Ne.symm OG.1]
   omega
theorem tS{n:Nat}{R:Nat->Nat->Bool}(ht:∀i j k,R i j=true->R j k=true->R i k=true){D:List Nat}(hn:D.Nodup)(hb:∀d∈D,d<n)(hl:D.length<n):∃d,(List.range n).find? (fw n R D)=some d:=by
 have hex:∃d,d<n/\d∉D:=by
  refine Classical.byContradiction λhc=>?_
  have hall:∀d,d<n->d∈D:=λd hd=>Classical.byContradiction λq=>hc ⟨d,hd,q⟩
  have h1:(List.range n).length<=D.length:=dL List.nodup_range λx hx=>hall x (List.mem_range.1 hx)
  simp at h1;omega
 obtain⟨d,hd,hD⟩:=hex;obtain⟨e,he,hr⟩:=He ht _ d (Nat.le_refl _) hd hD;cases h:(List.range n).find? (fw n R D)with
 |some d=>exact⟨d,rfl⟩
 |none=>
  have:=List.find?_eq_none.1 h e (List.mem_range.2 he);exact absurd hr this
end Go.Aft
end
section
set_option maxRecDepth 20000
namespace Go.Aft
open Go.Proofs.Tryz
open Go.Sort (swp insInner insOuter insertionSort SWO PermIn SortedIn)
theorem SG(a b:Int):aC prog 244 [aH a,aH b] (.d (.k (.bool (decide (a<b))))):=by
 refine aC.body aP func244 rfl call244 (by rw[ntmps244];simp) rfl λ_ H=>?_
 simp[ntmps244,results244];refine EC.aJ (wY a) ?_;simp
def AB(x y:Int):Bool:=decide (x<y)
theorem Cp(d:Array Int)(hsz:d.size<=1000)(n:Nat)(H:GH)(g:Nat)(hg:H.obj n=some (.vec 3 g 1 (d.toList.map aH) false)):
  aF prog 238 [.vs n g 1 0 d.size,aH 0,aH d.size] H λce H'=>(∃v,ce=.ret v)/\H'=H.set n (.vec 3 g 1 ((insertionSort AB d 0 d.size).toList.map aH) false):=by
 have cc:=ar (p:=aY [] [] []);refine aF.bD (ar (p:=aY [] [] [])) func238 rfl call238 (by rw[ntmps238];simp) rfl λhf hw=>?_
 have ln:=hw.lt hg;simp[ntmps238,results238];refine AW.aU cc (λs:Nat×Array Int=>⟨[(0,.vs n g 1 0 d.size),(1,aH 0),(2,aH d.size),(6,aH s.1)],[],H.set n (.vec 3 g 1 (s.2.toList.map aH) false)⟩) (λs=>d.size-s.1)
  (λs=>1<=s.1/\(s.1<=d.size\/ s.1=1)/\s.2.size=d.size/\insertionSort AB d 0 d.size=insOuter AB 0 d.size s.1 s.2) (1,d) ⟨⟨by simp,by simp,rfl,rfl⟩,by simp[GH.iH hg];rfl⟩ ?_
 rintro⟨i,d1⟩ ⟨i1,i2,i3,i5⟩;simp only at i1 i2 i3 i5;simp;refine⟨λh=>?_,λh=>?_⟩
 ·refine AW.aU cc (λs:Nat×Array Int=>⟨[(0,.vs n g 1 0 d.size),(1,aH 0),(2,aH d.size),(6,aH i),(7,aH s.1)],[],H.set n (.vec 3 g 1 (s.2.toList.map aH) false)⟩) (λs=>s.1)
   (λs=>s.1<=i/\s.2.size=d.size/\insInner AB 0 i d1=insInner AB 0 s.1 s.2) (i,d1) ⟨⟨Nat.le_refl _,i3,rfl⟩,by simp⟩ ?_
  rintro⟨j,d2⟩ ⟨j2,j3,j5⟩;simp only at j2 j3 j5;have ob:∀o,(H.set n o).obj n=some o:=λo=>GH.aX
  simp;refine AW.draw cc [(13,.n)] (.q 0<|.q 1<|.q 2<|.q 3<|.q 4<|.q 5<|.q 6<|.q 8<|.q 9<|.q 10<|.q 11<|.q 7<|.q 12<|.q 13<|.q 14<|.done) (by kernel_rfl) ?_
  have wj:IntKind.wrap .i64 ((j:Int)-1)=(j:Int)-1:=by rw[wrap64]<;>omega
  have tj:((j:Int)-1).toNat=j-1:=by omega
  have g1:d2.toList[j]?=some d2[j]! :=by rw[getElem!_pos d2 j (by omega)];simp[show j<d2.size by omega]
  have g2:d2.toList[j-1]?=some d2[j-1]! :=by rw[getElem!_pos d2 (j-1) (by omega)];simp[show j-1<d2.size by omega]
  have hx:=SG d2[j]! d2[j-1]!;simp at g1 g2 hx;simp[ob,wj,tj,g1,g2];refine⟨λq=>⟨q,by omega⟩,λq=>⟨q,by omega,by omega⟩,sV.aJ (λ_=>hx) ?_⟩
  simp;refine⟨λq1 q2=>?_,λq=>?_⟩
  ·refine AW.draw cc [] (.q 0<|.q 1<|.q 2<|.q 3<|.q 4<|.q 5<|.q 6<|.q 7<|.q 8<|.q 10<|.q 11<|.q 12<|.q 9<|.q 13<|.q 14<|.f<|.one 15<|.q 16<|.f<|.one 17<|.done) (by kernel_rfl) ?_
   have ff:=λ(M:List LV) (k:Nat) (w:LV) (hk:k<M.length)=>(List.set_eq_take_append_cons_drop (l:=M) (i:=k) (a:=w)).trans (if_pos hk)
   obtain⟨L,hL⟩:∃L,d2.toList.map aH=L:=⟨_,rfl⟩;have hLl:L.length=d2.size:=by rw[<-hL];simp
   have s1:=(ff L j (aH d2[j-1]!) (by omega)).symm
   have s2:=(ff (L.set j (aH d2[j-1]!)) (j-1) (aH d2[j]!) (by simp;omega)).symm
   have c1:j+1<=d2.size:=by omega
   have c2:j-1+1<=d2.size:=by omega
   have g1:L[j]?=some (aH d2[j]!):=by rw[<-hL];simp[g1]
   have g2:L[j-1]?=some (aH d2[j-1]!):=by rw[<-hL];simp[g2]
   have hsw:(L.set j (aH d2[j-1]!)).set (j-1) (aH d2[j]!)=(swp d2 j (j-1)).toList.map aH:=by
    rw[<-hL,swp];simp
   rw[hL];simp only[AA]at s1 s2 hsw g1 g2;simp[ob,wj,tj,g1,g2,c1,c2,hLl,s1,s2,GH.set_set,hsw];have w3:((j-1:Nat):Int)=(j:Int)-1:=by omega
   exact⟨⟨by omega,by omega⟩,by omega,⟨by omega,by omega⟩,NX.go (j-1,swp d2 j (j-1)) (by simp only;omega) ⟨by simp only;omega,by simp only;rw[swp_size];exact j3,by rw[j5];exact insInner_go ⟨q1,by simpa[AB]using q2⟩⟩ (by simp[wj,w3])⟩
  ·have w2:IntKind.wrap .i64 ((i:Int)+1)=(i:Int)+1:=by rw[wrap64]<;>omega
   have hst:insInner AB 0 j d2=d2:=insInner_stop λq'=>by
    have h1:=q q'.1;have h2:=q'.2;simp only[AB,decide_eq_true_eq]at h2;omega
   refine NX.go (i+1,d2) (by simp only;omega) ⟨by simp only;omega,by simp only;omega,j3,?_⟩ (by simp[w2])
   rw[i5,insOuter,if_pos h,j5,hst]
 ·have e:insOuter AB 0 d.size i d1=d1:=by rw[insOuter,if_neg (by omega)]
  rw[i5,e];exact λhz=>hz.drop (by rw[GH.aL];exact Nat.le_refl _)
theorem E0:SWO AB where
 irrefl x:=by simp[AB]
 trans x y z h1 h2:=by simp only[AB,decide_eq_true_eq]at*;omega
 ntrans x y z h1 h2:=by simp only[AB,decide_eq_false_iff_not]at*;omega
theorem Iv(d:Array Int)(hsz:d.size<=12)(n:Nat)(H:GH)(g:Nat)(hg:H.obj n=some (.vec 3 g 1 (d.toList.map aH) false)):
  aF prog 170 [.vs n g 1 0 d.size] H λce H'=>(∃v,ce=.ret v)/\H'=H.set n (.vec 3 g 1 ((insertionSort AB d 0 d.size).toList.map aH) false):=by
 have cc:=ar (p:=aY [] [] []);have hpdq:∀k:Int,aF prog 214 [.vs n g 1 0 d.size,aH 0,aH d.size,aH k] H λce H'=>(∃v,ce=.ret v)/\H'=H.set n (.vec 3 g 1 ((insertionSort AB d 0 d.size).toList.map aH) false):=λk=>by
  refine aF.bD (ar (p:=aY [] [] [])) func214 rfl call214 (by rw[ntmps214];simp) rfl λhf hw=>?_
  have ln:=hw.lt hg;have hin:=Cp d (by omega) n H g hg
  have w1:IntKind.wrap .i64 (d.size:Int)=d.size:=by rw[wrap64]<;>omega
  have c1:(d.size:Int)<=12:=by omega
  simp at hin;simp[ntmps214,results214];refine AW.aU cc (λs:Nat=>⟨[(0,.vs n g 1 0 d.size),(1,aH 0),(2,aH d.size),(3,aH k)],[],H⟩) (λs=>s) (λs=>True) 0 ⟨trivial,by simp⟩ ?_
  intro i _;simp[w1,c1];refine⟨ln,EC.of hin (λv H2 hR=>?_) (λv H2 hR=>by obtain⟨⟨_,e⟩,_⟩:=hR;cases e)⟩
  obtain⟨_,hE⟩:=hR;rw[hE];simp;exact λhz=>hz.drop (by rw[GH.aL];exact Nat.le_refl _)
 refine aF.bD (ar (p:=aY [] [] [])) func170 rfl call170 (by rw[ntmps170];simp) rfl λhf hw=>?_
 have ln:=hw.lt hg;have w1:IntKind.wrap .u64 (d.size:Int)=(d.size:Nat):=by simp[IntKind.wrap,IntKind.bits,IntKind.signed];omega
 simp[ntmps170,results170,w1];refine EC.of (bits_Len d.size (by omega) H) (λv H2 hR=>?_) (λv H2 hR=>by obtain⟨⟨_,e⟩,_⟩:=hR;cases e)
 obtain⟨⟨k,q⟩,rfl⟩:=hR;cases q;have hp:=hpdq k;simp at hp;simp;refine⟨ln,EC.of hp (λv H3 hR=>?_) (λv H3 hR=>by obtain⟨⟨_,e⟩,_⟩:=hR;cases e)⟩
 obtain⟨_,hE⟩:=hR;rw[hE];simp;exact λhz=>hz.drop (by rw[GH.aL];exact Nat.le_refl _)
def qG(l:List Int):List Int:=(insertionSort AB l.toArray 0 l.length).toList
theorem eL(l:List Int):(qG l).Perm l:=by
 have h:=(Go.Sort.insertionSort_holds E0 l.toArray 0 l.toArray.size (Nat.zero_le _) (Nat.le_refl _)).1;have h3:=h.2.2;have e1:=h.1;simp only[List.size_toArray]at h3 e1;have hx:(l.toArray.extract 0 l.length).toList=l:=by simp
 have hy:((insertionSort AB l.toArray 0 l.length).extract 0 l.length).toList=qG l:=by
  rw[qG];generalize insertionSort AB l.toArray 0 l.length=D at e1;rw[<-e1];simp
 rw[hx,hy]at h3;exact h3
theorem nU(l:List Int)(hn:l.Nodup):(qG l).Pairwise (·<·):=by
 have h2:=(Go.Sort.insertionSort_holds E0 l.toArray 0 l.toArray.size (Nat.zero_le _) (Nat.le_refl _)).2;have hp:(qG l).Pairwise (·≠·):=(eL l).symm.pairwise hn λ{a b} q e=>q e.symm
 rw[List.pairwise_iff_getElem]at hp|-;intro i j hi hj hij;have hl:=(eL l).length_eq;have h3:=h2 i j (Nat.zero_le _) hij (by simp;omega)
 have hsz:(insertionSort AB l.toArray 0 l.length).size=l.length:=by
  have:=(Go.Sort.insertionSort_holds E0 l.toArray 0 l.toArray.size (Nat.zero_le _) (Nat.le_refl _)).1.1;simpa using this
 simp only[List.size_toArray]at h3;rw[getElem!_pos _ i (by omega),getElem!_pos _ j (by omega)]at h3
 simp only[AB,decide_eq_false_iff_not]at h3;have g:∀k (hk:k<(qG l).length),(qG l)[k]=(insertionSort AB l.toArray 0 l.length)[k]'(by omega):=λk hk=>by simp[qG]
 rw[<-g i hi,<-g j hj]at h3;have:=hp i j hi hj hij;omega
def bU(l:List Nat):List Int:=l.map λk:Nat=>(k:Int)
theorem CO{ks:List Nat}(hn:ks.Nodup){n:Nat}{M:Nat->Bool}(h:∀k,k∈ks↔k<n/\M k=true):qG (bU ks)=bU ((List.range n).filter M):=by
 have h1:(bU ks).Nodup:=by
  unfold bU;rw[List.Nodup,List.pairwise_map];exact hn.imp λ{a b} q e=>q (by omega)
 have h2:(bU ((List.range n).filter M)).Pairwise (·<·):=by
  unfold bU;rw[List.pairwise_map];exact(List.pairwise_lt_range.filter M).imp λ{a b} q=>by omega
 refine iu (lt:=λa b:Int=>a<b) (λa=>by omega) (λ_ _ _ p q=>by omega) (nU _ h1) h2 λx=>?_
 rw[(eL _).mem_iff];simp only[bU,List.mem_map,List.mem_filter,List.mem_range,h]
theorem Dp(H:GH):aF prog 170 [.d (.k (.slice none 0 0))] H λce H'=>(∃v,ce=.ret v)/\H'=H:=by
 have cc:=ar (p:=aY [] [] []);have hin:∀H,aF prog 238 [.d (.k (.slice none 0 0)),aH 0,aH 0] H λce H'=>(∃v,ce=.ret v)/\H'=H:=λH=>by
  refine aF.bD (ar (p:=aY [] [] [])) func238 rfl call238 (by rw[ntmps238];simp) rfl λhf hw=>?_
  have w1:IntKind.wrap .i64 1=1:=rfl;simp[ntmps238,results238];refine AW.aU cc (λs:Nat=>⟨[(0,.d (.k (.slice none 0 0))),(1,aH 0),(2,aH 0),(6,aH 1)],[],H⟩) (λs=>s) (λs=>True) 0 ⟨trivial,by simp[w1]⟩ ?_
  intro i _;simp;exact λhz=>hz.drop (Nat.le_refl _)
 have hpdq:∀(k:Int) (H:GH),aF prog 214 [.d (.k (.slice none 0 0)),aH 0,aH 0,aH k] H λce H'=>(∃v,ce=.ret v)/\H'=H:=λk H=>by
  refine aF.bD (ar (p:=aY [] [] [])) func214 rfl call214 (by rw[ntmps214];simp) rfl λhf hw=>?_
  have w1:IntKind.wrap .i64 0=0:=rfl;have hi:=hin H;simp at hi;simp[ntmps214,results214];refine AW.aU cc (λs:Nat=>⟨[(0,.d (.k (.slice none 0 0))),(1,aH 0),(2,aH 0),(3,aH k)],[],H⟩) (λs=>s) (λs=>True) 0 ⟨trivial,by simp⟩ ?_
  intro i _;simp[w1];refine EC.of hi (λv H2 hR=>?_) (λv H2 hR=>by obtain⟨⟨_,e⟩,_⟩:=hR;cases e)
  obtain⟨_,rfl⟩:=hR;simp;exact λhz=>hz.drop (Nat.le_refl _)
 refine aF.bD (ar (p:=aY [] [] [])) func170 rfl call170 (by rw[ntmps170];simp) rfl λhf hw=>?_
 have w1:IntKind.wrap .u64 0=((0:Nat):Int):=rfl;simp[ntmps170,results170,w1];refine EC.of (bits_Len 0 (by omega) H) (λv H2 hR=>?_) (λv H2 hR=>by obtain⟨⟨_,e⟩,_⟩:=hR;cases e)
 obtain⟨⟨k,q⟩,rfl⟩:=hR;cases q;have hp:=hpdq k H2;simp at hp;simp;refine EC.of hp (λv H3 hR=>?_) (λv H3 hR=>by obtain⟨⟨_,e⟩,_⟩:=hR;cases e)
 obtain⟨_,rfl⟩:=hR;simp;exact λhz=>hz.drop (Nat.le_refl _)
end Go.Aft
end
