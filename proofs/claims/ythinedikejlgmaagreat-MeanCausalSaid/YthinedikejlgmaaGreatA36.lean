import Derived.Test.YthinedikejlgmaaGreatA35
import Derived.Test.YthinedikejlgmaaGreatA31
set_option linter.all false
section
set_option maxRecDepth 20000
namespace Go.Aft
open Go.Proofs.Tryz
theorem P0{l:List Event}(h:sA l=true):qp (l.map BY)=none:=yN λj hj=>by
 have hjl:j<l.length:=by simpa using hj
 unfold iz;rw[List.getElem?_map,List.getElem?_eq_getElem hjl];simp only[Option.map_some];refine List.findIdx?_eq_none_iff.2 λa ha=>?_
 rw[<-List.map_take]at ha;obtain⟨x,hx,rfl⟩:=List.mem_map.1 ha;unfold sA at h;rw[List.all_eq_true]at h;have h1:=h j (List.mem_range.2 hjl);have hg:l.getD j default=l[j]:=by rw[List.getD_eq_getElem?_getD,List.getElem?_eq_getElem hjl];rfl
 unfold Dc at h1;rw[hg,Bool.and_eq_true,Bool.not_eq_true',List.any_eq_false]at h1;have h2:=h1.1 x hx;have h3:¬(x.src=l[j].src/\x.id=l[j].id):=by simpa using h2
 unfold mZ BY;exact decide_eq_false λw=>h3 ⟨w.2.2.1,w.2.2.2.1⟩
def P3(l:List Event)(az:Int)(i:Nat):Bool:=jT (l.getD i default).src 0 (az-1)&&jT (l.getD i default).id 0 999&&iw (l.getD i default).aa&&Dc l i (l.getD i default)
def kL(l:List Event)(az:Int):Bool:=jT az 1 4&&decide (l.length<=60)&&(List.range l.length).all (P3 l az)
theorem Cc(a b:Event):nT a b=decide (Te a b):=rfl
theorem vG(l:List Event)(az:Int):aC prog 45 [sl (l.map aQ),aH az] (.d (.k (.bool (kL l az)))):=by
 have cc:=au (p:=bf [] [] []);refine aC.body (au (p:=bf [] [] [])) func45 rfl call45 (by rw[ntmps45];simp) rfl λhf H=>?_
 simp[ntmps45,results45]at hf|-;refine EC.aJ (mG _ _ _) ?_;cases h1:jT az 1 4 with
 |false=>simp[kL,h1]
 |true=>
  have hs:1<=az/\az<=4:=by unfold jT at h1;simpa using h1
  by_cases h2:l.length<=60
  ·have ze:¬(60<(l.length:Int)):=by omega
   have Si:IntKind.i64.wrap (az-1)=az-1:=by rw[wrap64]<;>omega
   simp[ze];refine AW.aV cc (λi:Nat=>⟨[(0,sl (l.map aQ)),(1,aH az),(5,aH i)],[],H⟩) (λi=>l.length-i) (λi=>i<=l.length/\∀j,j<i->P3 l az j=true) 0 ⟨⟨Nat.zero_le _,λj hj=>absurd hj (by omega)⟩,by simp⟩ ?_
   rintro i ⟨hi,hk⟩;simp;refine⟨λh=>?_,λh=>?_⟩
   ·obtain⟨x,hx⟩:∃x,l[i]=x:=⟨_,rfl⟩;have hg:l.getD i default=x:=by rw[List.getD_eq_getElem?_getD,List.getElem?_eq_getElem h,<-hx];rfl
    have kX:P3 l az i=false->kL l az=false:=λq=>by
     unfold kL;have:(List.range l.length).all (P3 l az)=false:=List.all_eq_false.2 ⟨i,List.mem_range.2 h,by simp[q]⟩
     rw[this];simp
    have uS:=O4 x.aa;simp[bE]at uS;refine AW.draw cc [(7,.n),(15,.n),(24,.n),(40,.n)] (.q 0<|.q 1<|.q 2<|.q 3<|.q 5<|.q 6<|.q 4<|.q 7<|.q 8<|.q 9<|.q 10<|.q 11<|.q 12<|.q 13<|.q 14<|.q 15<|.q 16<|.q 17<|.q 18<|.q 19<|.q 20<|.q 21<|.q 22<|.q 23<|.q 24<|.q 25<|.q 26<|.q 27<|.q 28<|.q 29<|.q 30<|.q 31<|.q 32<|.q 33<|.q 34<|.q 36<|.q 37<|.q 38<|.q 35<|.q 39<|.q 40<|.q 41<|.q 42<|.q 43<|.done) (by kernel_rfl) ?_
    simp[h,List.getElem?_eq_getElem h,hx,aQ,bE,Si];refine FC.aJ (mG _ _ _) ?_;have hg1:i≠0->∃(h':i-1<l.length),True:=λ_=>⟨by omega,trivial⟩
    have hwi:IntKind.i64.wrap ((i:Int)+1)=i+1:=aB (n:=9223372036854775807) (show i<9223372036854775807 by omega) (Nat.le_refl _)
    obtain⟨okI,PC⟩:∃okI:Bool,(jT x.src 0 (az-1)&&jT x.id 0 999&&iw x.aa&&(decide (i=0)||nT (l.getD (i-1) default) x))=okI:=⟨_,rfl⟩;have SA:P3 l az i=(okI&& !(l.take i).any (λy=>decide (y.src=x.src/\y.id=x.id))):=by
     unfold P3 Dc;rw[hg,<-PC];cases jT x.src 0 (az-1)<;>cases jT x.id 0 999<;>cases iw x.aa<;>cases(decide (i=0)||nT (l.getD (i-1) default) x)<;>simp
    by_cases Mz:i=0
    ·subst Mz;simp[h,List.getElem?_eq_getElem h,hx,aQ,bE,Si];refine kN.aJ (λ_=>mG _ _ _) ?_
     simp[h,List.getElem?_eq_getElem h,hx,aQ,bE,Si];refine kN.aJ (λ_=>uS) ?_
     simp[h,List.getElem?_eq_getElem h,hx,aQ,bE,Si];refine kN.aJ (v:=.d (.k (.bool false))) (λq=>by cases q) ?_
     simp;refine⟨λq=>?_,λa1 a2 a3=>?_⟩
     ·refine kX ?_;rw[SA,<-PC];rcases q with(q|q)|q<;>simp[q]
     ·have hok:okI=true:=by rw[<-PC,a1,a2,a3];rfl
      refine AW.aV cc (λj:Nat=>⟨[(0,sl (l.map aQ)),(1,aH az),(5,aH (0:Nat)),(6,aH j)],[],H⟩) (λj=>0-j) (λj=>j<=0/\∀k (hk:k<l.length),k<j->¬(l[k].src=x.src/\l[k].id=x.id)) 0 ⟨⟨Nat.zero_le _,λk _ hk0=>absurd hk0 (by omega)⟩,by simp⟩ ?_
      rintro j ⟨hj,hkj⟩;simp;have bm9:j=0:=by omega
      have Gd:(l.take 0).any (λy=>decide (y.src=x.src/\y.id=x.id))=false:=List.any_eq_false.2 λy hy=>by
       obtain⟨k,hk,rfl⟩:=List.mem_take_iff_getElem.1 hy;simpa using hkj k (by omega) (by omega)
      have NR:P3 l az 0=true:=by rw[SA,Gd,hok];rfl
      refine⟨λq=>absurd q (by omega),?_⟩
      exact NX.go (0+1) (by omega) ⟨h,λk lP=>by
       by_cases e:k=0
       ·rw[e];exact NR
       ·exact hk k (by omega)⟩ (by simp;exact(by decide:IntKind.i64.wrap 1=1))
    ·have hi1:i-1<l.length:=by omega
     obtain⟨y,hy⟩:∃y,l[i-1]=y:=⟨_,rfl⟩;have hgy:l.getD (i-1) default=y:=by rw[List.getD_eq_getElem?_getD,List.getElem?_eq_getElem hi1,<-hy];rfl
     have hwp:IntKind.i64.wrap ((i:Int)-1)=i-1:=by rw[wrap64]<;>omega
     have htn:((i:Int)-1).toNat=i-1:=by omega
     have hpos:0<i:=by omega
     have El:=Fx y x;simp[aQ,bE]at El;rw[hgy]at PC;simp[h,List.getElem?_eq_getElem h,hx,aQ,bE,Si];refine kN.aJ (λ_=>mG _ _ _) ?_
     simp[h,List.getElem?_eq_getElem h,hx,aQ,bE,Si];refine kN.aJ (λ_=>uS) ?_
     simp[h,List.getElem?_eq_getElem h,hx,aQ,bE,Si,Mz,hpos,hwp,htn,List.getElem?_eq_getElem hi1,hy];refine⟨λa1 a2 a3=>⟨⟨⟨a1,a2⟩,a3⟩,by omega,by omega⟩,kN.aJ (λ_=>El) ?_⟩
     simp;refine⟨λq=>?_,λa1 a2 a3 a4=>?_⟩
     ·refine kX ?_;rw[SA,<-PC];rcases q with((q|q)|q)|q
      ·simp[q]
      ·simp[q]
      ·simp[q]
      ·have:nT y x=false:=by rw[Cc];exact decide_eq_false q
       simp[Mz,this]
     ·have hok:okI=true:=by rw[<-PC,a1,a2,a3,Cc,decide_eq_true a4];simp
      refine AW.aV cc (λj:Nat=>⟨[(0,sl (l.map aQ)),(1,aH az),(5,aH (i:Nat)),(6,aH j)],[],H⟩) (λj=>i-j) (λj=>j<=i/\∀k (hk:k<l.length),k<j->¬(l[k].src=x.src/\l[k].id=x.id)) 0 ⟨⟨Nat.zero_le _,λk _ hk0=>absurd hk0 (by omega)⟩,by simp⟩ ?_
      rintro j ⟨hj,hkj⟩;simp;refine⟨λhji=>?_,λhji=>?_⟩
      ·have hjl:j<l.length:=by omega
       obtain⟨z,hz⟩:∃z,l[j]=z:=⟨_,rfl⟩;have Sk:IntKind.i64.wrap ((j:Int)+1)=j+1:=aB (n:=9223372036854775807) (show j<9223372036854775807 by omega) (Nat.le_refl _)
       refine AW.draw cc [] (.q 0<|.q 1<|.q 2<|.q 3<|.q 5<|.q 6<|.q 7<|.q 8<|.q 4<|.q 9<|.q 10<|.q 11<|.q 12<|.q 13<|.q 14<|.q 15<|.q 17<|.q 18<|.q 19<|.q 20<|.q 16<|.q 21<|.q 22<|.q 23<|.done) (by kernel_rfl) ?_
       by_cases hsame:z.src=x.src/\z.id=x.id
       ·have Gd:(l.take i).any (λy=>decide (y.src=x.src/\y.id=x.id))=true:=List.any_eq_true.2 ⟨z,by rw[<-hz];exact List.mem_take_iff_getElem.2 ⟨j,by omega,rfl⟩,decide_eq_true hsame⟩
        have NR:kL l az=false:=kX (by rw[SA,Gd];simp)
        simp[h,hjl,List.getElem?_eq_getElem h,List.getElem?_eq_getElem hjl,hx,hz,aQ,bE,hsame.1,hsame.2,NR]
       ·have yD:∀k (hk:k<l.length),k<j+1->¬(l[k].src=x.src/\l[k].id=x.id):=λk hk bL5=>by
         by_cases e:k=j
         ·subst e;rw[hz];exact hsame
         ·exact hkj k hk (by omega)
        by_cases hss:z.src=x.src
        ·have hid:¬z.id=x.id:=λw=>hsame ⟨hss,w⟩
         simp[h,hjl,List.getElem?_eq_getElem h,List.getElem?_eq_getElem hjl,hx,hz,aQ,bE,hss,hid];exact NX.go (j+1) (by omega) ⟨by omega,yD⟩ (by simp[Sk])
        ·simp[h,hjl,List.getElem?_eq_getElem h,List.getElem?_eq_getElem hjl,hx,hz,aQ,bE,hss];exact NX.go (j+1) (by omega) ⟨by omega,yD⟩ (by simp[Sk])
      ·have bm9:j=i:=by omega
       have Gd:(l.take i).any (λy=>decide (y.src=x.src/\y.id=x.id))=false:=List.any_eq_false.2 λy hy=>by
        obtain⟨k,hk,rfl⟩:=List.mem_take_iff_getElem.1 hy;simpa using hkj k (by omega) (by omega)
       have NR:P3 l az i=true:=by rw[SA,Gd,hok];rfl
       exact NX.go (i+1) (by omega) ⟨h,λk lP=>by
        by_cases e:k=i
        ·rw[e];exact NR
        ·exact hk k (by omega)⟩ (by simp[hwi])
   ·have:i=l.length:=by omega
    subst this;have:(List.range l.length).all (P3 l az)=true:=List.all_eq_true.2 λj hj=>hk j (List.mem_range.1 hj)
    simp[kL,h1,h2,this]
  ·have ze:60<(l.length:Int):=by omega
   simp[ze,kL,h2]
open Classical in
theorem xX(p:Prog)(hs:∀s∈p.az++an p,cN s)(l:List Event):aC prog 43 [lv (ar p),sl (l.map aQ)] (.d (.k (.bool (dR p l)))):=by
 refine aC.body (au (p:=bf [2] [] [])) func43 rfl call43 (by rw[ntmps43];simp) rfl λhf H=>?_
 have h1:=Lv p hs;have h2:=vG l p.az.length;have hm:dR p l=(decide (formed p)&&kL l p.az.length):=by
  unfold dR kL;by_cases hl:l.length<=60
  ·cases hf1:decide (formed p)with
   |false=>simp
   |true=>
    cases he:sA l with
    |false=>
     have:(List.range l.length).all (P3 l p.az.length)=false:=by
      unfold sA at he;obtain⟨i,hi,q⟩:=List.all_eq_false.1 he;refine List.all_eq_false.2 ⟨i,hi,?_⟩;unfold P3;simp at q;simp[q]
     simp[this]
    |true=>
     have hc:=P0 he;unfold iR rJ;rw[hc];simp only[Bool.true_and,hl,decide_true,Bool.and_true,List.length_map]
     congr 1
     unfold sA at he;rw[List.all_eq_true]at he;rw[Bool.eq_iff_iff,Bool.not_eq_true',List.any_eq_false,List.all_eq_true];constructor
     ·intro h i hi;have Ef:=List.mem_range.1 hi;have hg:l.getD i default=l[i]:=by rw[List.getD_eq_getElem?_getD,List.getElem?_eq_getElem Ef];rfl
      have h3:=h (BY l[i]) (List.mem_map.2 ⟨l[i],List.getElem_mem Ef,rfl⟩);have h4:qF (BY l[i]) p.az.length=true:=by simpa using h3
      have h5:=he i hi;unfold P3;rw[hg]at h5|-;rw[h5];unfold qF at h4;simp only[BY,if_true,Bool.and_eq_true,ry]at h4;simp only[h4.1,h4.2.1.1,h4.2.2,Bool.and_self]
     ·intro h n hn;obtain⟨e,he2,rfl⟩:=List.mem_map.1 hn;obtain⟨i,Ef,rfl⟩:=List.mem_iff_getElem.1 he2;have hg:l.getD i default=l[i]:=by rw[List.getD_eq_getElem?_getD,List.getElem?_eq_getElem Ef];rfl
      have h3:=h i (List.mem_range.2 Ef);unfold P3 at h3;rw[hg]at h3;simp only[Bool.and_eq_true]at h3;have h6:jT 1 1 99=true:=by decide
      have:qF (BY l[i]) p.az.length=true:=by
       unfold qF;simp only[BY,if_true,ry,h3.1.1.1,h3.1.1.2,h3.1.2,h6,Bool.and_self]
      simp[this]
  ·simp[hl]
 rw[hm];simp[ar]at h1 h2;simp[ntmps43,results43,ar];refine EC.aJ h1 ?_;by_cases hp:formed p
 ·simp[hp];refine EC.aJ h2 ?_;simp[hp]
 ·simp[hp]
end Go.Aft
end
section
set_option maxRecDepth 20000
namespace Go.Aft
section
variable {n:Nat} {R:Nat->Nat->Bool} (ht:∀i j k,R i j=true->R j k=true->R i k=true)
include ht
theorem Rx{D:List Nat}{f:Nat}(hD:iV n R D)(hn:D.Nodup)(hc:tK n R D=f+1):∃d,d<n/\sH (rG n R D) (ji n R)=some (fK n R d)/\iV n R (cR D (fK n R d))/\(cR D (fK n R d)).Nodup/\
  tK n R (cR D (fK n R d))=f/\tZ n R (f+1) D=fK n R d::tZ n R f (cR D (fK n R d)):=by
 have hlt:D.length<n:=by
  refine Classical.byContradiction λhge=>?_
  have:∀d,d<n->d∈D:=λd hd=>Classical.byContradiction λCH=>by
   have h1:=dy (a:=D++[d]) (b:=List.range n) (by
    rw[List.nodup_append];exact⟨hn,by simp,λa ha b hb q=>CH (by rw[List.mem_singleton]at hb;rw[<-hb,<-q];exact ha)⟩) λx hx=>by
    rcases List.mem_append.1 hx with q|q
    ·exact List.mem_range.2 (hD x q).1
    ·rw[List.mem_singleton.1 q];exact List.mem_range.2 hd
   simp at h1;omega
  rw[(xI ht hD).2 this]at hc;cases hc
 obtain⟨d,F8⟩:=pR ht hn (λd hd=>(hD d hd).1) hlt
 obtain⟨b1,b2,b3,b4⟩:=EP ht hD F8;refine⟨d,b2,b1,u0 ht hD b2,iB hn,by rw[Kb ht hD b2 b3 b4,hc];rfl,?_⟩
 rw[tZ,b1]
theorem SO{g:List Nat}(hg:g∈ji n R):(∃a t,g=a::t/\a<n)/\(∀k∈g,k<n)/\g.length<=n:=by
 obtain⟨f,hf,e1,e2⟩:=(gA ht).1 hg;have hlt:∀k∈g,k<n:=λk hk=>by rw[<-e1]at hk;exact xg hf hk
 have h1:=fQ (R:=R) hf;rw[e1]at h1;refine⟨?_,hlt,?_⟩
 ·cases g with
  |nil=>cases h1
  |cons a t=>exact⟨a,t,rfl,hlt a (List.mem_cons_self ..)⟩
 ·have qQ:g.Nodup:=by
   rw[<-e1];unfold fK
   split
   ·exact List.Pairwise.filter _ List.nodup_range
   ·simp
  have:=dy qQ (b:=List.range n) λk hk=>List.mem_range.2 (hlt k hk)
  simpa using this
theorem En:(ji n R).length<=n:=by
 have h1:((ji n R).map uk).Nodup:=by
  have h2:=yF (n:=n) (R:=R) ht;refine List.pairwise_map.2 (List.Pairwise.imp_of_mem ?_ h2);intro a b ha hb hne e;refine hne ?_;obtain⟨f,_,q1,q2⟩:=(gA ht).1 ha;obtain⟨f',_,r1,r2⟩:=(gA ht).1 hb;rw[<-q1,<-r1,<-q2,<-r2,e]
 have:=dy h1 (b:=List.range n) λk hk=>by
  obtain⟨g,hg,rfl⟩:=List.mem_map.1 hk;obtain⟨f,hf,_,q⟩:=(gA ht).1 hg;rw[q];exact List.mem_range.2 hf
 simpa using this
theorem Ka:tK n R []=(ji n R).length:=by
 unfold tK;rw[List.filter_eq_self.2 λg _=>by simp]
theorem MS:iV n R []:=λx hx=>absurd hx List.not_mem_nil
end
end Go.Aft
end
section
set_option maxRecDepth 20000
namespace Go.Aft
open Go.Proofs.Tryz
theorem Fv(l:List Event)(src:Int)(hl:l.length<=1000):aC prog 70 [sl (l.map aQ),aH src] (b9 (nw (fN l src))):=by
 intro H;have cc:=au (p:=bf [] [] []);refine aG.bG (au (p:=bf [] [] [])) func70 rfl call70 (by rw[ntmps70];simp) rfl λhf hw=>?_
 simp[ntmps70,results70]at hf|-;refine AW.aV cc (λs:Nat×LV×GH=>⟨[(0,sl (l.map aQ)),(1,aH src),(5,s.2.1),(6,aH s.1)],[],s.2.2⟩) (λs=>l.length-s.1)
  (λs=>s.1<=l.length/\cu 86 4 H s.2.1 ((fN (l.take s.1) src).map ak) s.2.2) (0,.d (.k (.slice none 0 0)),H) ⟨⟨Nat.zero_le _,by simpa[fN]using cu.nil⟩,by simp⟩ ?_
 rintro⟨i,y,H2⟩ ⟨hi,aA⟩;simp only at hi aA;simp;refine⟨λh=>?_,λh=>?_⟩
 ·obtain⟨x,dc⟩:∃x,l[i]=x:=⟨_,rfl⟩;have gx:l.take (i+1)=l.take i++[x]:=by rw[<-aR h,dc]
  have eM:=aB (n:=9223372036854775807) (show i<9223372036854775807 by omega)
  have dK:=Ab (l.take i) x src;rw[<-gx]at dK;have YI:(fN (l.take i) src).length<=1000:=Nat.le_trans (oC _ _) (by simp;omega)
  simp[h,List.getElem?_eq_getElem h,dc,aQ,bE,aA.plain.all];refine⟨λq=>?_,λq=>?_⟩
  ·refine eO.dU (ys:=[ak ⟨x.aa,1⟩]) fk rfl dZ (by simp) (x:=y) (by simp) aA (by simp[ak,rowsOf]) (by simp) (bp _) (λr hr=>by simp only[List.mem_singleton]at hr;subst hr;rfl) (by simp;omega) (by simp) λx' H3 aF _ _=>?_
   simp[aF.plain.all,aF.only,eM];refine NX.go (i+1,x',H3) (by simp only;omega) ⟨h,?_⟩ (by simp[aF.only])
   rw[dK,if_pos q,List.map_append];exact aF
  ·rw[if_neg q,List.append_nil]at dK;exact NX.go (i+1,y,H2) (by simp only;omega) ⟨h,by rw[dK];exact aA⟩ (by simp[aA.only,eM])
 ·have:i=l.length:=by omega
  subst this;rw[List.take_length]at aA;have YI:=oC l src;have hsu:=HY (fN l src) (by omega) (λx hx=>by obtain⟨e,_,rfl⟩:=List.mem_map.1 hx;simp)
  simp at hsu;simp[aA.plain.all];refine⟨aA.nb,EC.aJ (aC.SV (v:=b9 (nw (fN l src))) (by simp only[zz,fz,aA.fz];exact hsu)) ?_⟩
  simp[b9];exact λhz=>aL aA.nx aA.ob hw.none
def jU(n:Nat)(D:List Nat):List Bool:=(List.range n).map λk=>D.contains k
@[simp] theorem aF4 (n:Nat) (D:List Nat):(jU n D).length=n:=by simp [jU]
@[simp] theorem aF5 {n:Nat} {D:List Nat} {k:Nat} (h:k < (bC (jU n D)).length):(bC (jU n D))[k]=.d (.k (.bool (decide (k ∈ D)))):=by simp [jU,bC]
theorem SY{n:Nat}{D:List Nat}{k:Nat}:(jU n D).set k true=jU n (D++[k]):=by
 refine List.ext_getElem (by simp) λj h1 h2=>?_
 rw[List.getElem_set]
 split
 ·rename_i e;subst e;simp[jU]
 ·rename_i e;have e':¬j=k:=λq=>e q.symm
  simp[jU,e']
theorem SZ{n:Nat}{D:List Nat}{k:Nat}(h:k<n):List.take k (bC (jU n D))++LV.d (DV.k (Value.bool true))::List.drop (k+1) (bC (jU n D))=bC (jU n (D++[k])):=by
 rw[<-SY,bC,bC,List.map_set,List.set_eq_take_append_cons_drop,if_pos (by simpa using h)]
theorem S0{n:Nat}{D g:List Nat}:jU n (D++g)=jU n (cR D g):=by
 unfold jU;refine List.map_congr_left λk _=>?_
 rw[Bool.eq_iff_iff];simp[cC]
def EQ(o:Option Nat):Int:=match o with|none=>-1|some j=>j
@[simp] theorem ah3:EQ none = -1:=rfl
@[simp] theorem ah2 (j:Nat):EQ (some j)=j:=rfl
def LA(R:Nat->Nat->Bool)(D:List Nat)(a j:Nat):Bool:=!D.contains a&&(List.range j).all λk=>!R a k||R k a||D.contains k
theorem O6{R:Nat->Nat->Bool}{D:List Nat}{a:Nat}:LA R D a 0= !decide (a∈D):=by simp[LA]
theorem O7{R:Nat->Nat->Bool}{D:List Nat}{a j:Nat}:LA R D a (j+1)=(LA R D a j&&(!R a j||R j a||decide (j∈D))):=by
 unfold LA;rw[List.range_succ,List.all_append];simp[Bool.and_assoc]
theorem RK.of{r r':Option vo}{s:S}{dst:Option Nat}{K:KT}(h:r=r')(hk:@RK r' s dst K):@RK r s dst K:=h▸hk
theorem CQ(p:Prog)(n:Nat)(R:Nat->Nat->Bool)(hn:p.ai.length=n)(h6:n<=6)(ht:∀i j k,R i j=true->R j k=true->R i k=true)(ae9:aC prog 130 [lv (ar p)] (sl ((A8 n R).map rR)))
  (h128:aC prog 128 [lv (ar p)] (sl ((dO n R).map rT))):aC prog 67 [lv (ar p)] (sl ((VP n R).map rT)):=by
 have cc:=au (p:=bf [1] [] [44]);intro H;refine aG.dG (au (p:=bf [1] [] [44])) func67 rfl call67 (by rw[ntmps67];simp) rfl λhf hw=>?_
 simp[ar]at ae9 h128;have hrow:∀i,i<n->((A8 n R).map rR)[i]?=some (rR ((List.range n).map λj=>R i j)):=λi hi=>by simp[A8,List.getElem?_range hi]
 have hcell:∀i j,j<n->(((List.range n).map λj=>R i j).map rB)[j]?=some (rB (R i j)):=λi j hj=>by simp[List.getElem?_range hj]
 have GV:(A8 n R).length=n:=by simp[A8]
 have hrl:(dO n R).length<=n:=by
  have h1:=En (n:=n) (R:=R) ht;unfold ji at h1;rw[List.length_append]at h1;omega
 obtain⟨M,hM⟩:∃M,(A8 n R).map rR=M:=⟨_,rfl⟩;rw[hM]at hrow ae9;have hlM:M.length=n:=by rw[<-hM];simpa using GV
 have Bv:∀i (hi:i<M.length),M[i]=rR ((List.range n).map λj=>R i j):=λi hi=>by
  have:=hrow i (by omega)
  rw[List.getElem?_eq_getElem hi]at this;exact Option.some.inj this
 simp[ntmps67,results67,ar]at hf|-;refine AW.seq cc ?_;simp;refine AW.seq cc ?_;refine AW.draw cc [(1,.n),(3,.n)] (.q 0<|.q 1<|.q 2<|.q 3<|.q 4<|.q 5<|.done) (by kernel_rfl) ?_
 simp;refine FC.aJ ae9 ?_;simp;refine FC.aJ h128 ?_;simp;refine AW.seq cc ?_;simp;refine eO.dU (ys:=(dO n R).map rT) (H0:=H) (rows:=[]) (x:=.d (.k (.slice none 0 0))) zT rfl mB (by simp) (by simp) cu.nil (by simp[rowsOf]) (by simp) (by simp) (λr hr=>by obtain⟨_,_,rfl⟩:=List.mem_map.1 hr;rfl) (by simp;omega) (by simp) λx0 H1 SI _ _=>?_
 simp[SI.plain.all];refine AW.seq cc ?_;simp;refine AW.D4 cc (λa:Nat×LV×GH=>⟨[(1,.ip ((ar p).map .d) 0),(3,.d (.sl M)),(5,a.2.1),(6,aH a.1)],[],a.2.2⟩) (λa=>n-a.1)
  (λa=>a.1<=n/\cu 94 1 H a.2.1 ((dO n R++((List.range a.1).filter λd=>!R d d).map λd=>[d]).map rT) a.2.2) (0,x0,H1) ⟨⟨by simp,by simpa using SI⟩,by simp[SI.only,ar]⟩ ?_
 rintro⟨i,x,H2⟩ ⟨hi,aA⟩;simp only at hi aA;refine AW.seq cc ?_;simp[ar,hn];refine⟨λh=>?_,λh=>?_⟩
 ·have hi2:i<1000000:=by omega
  have F4:List.range (i+1)=List.range i++[i]:=List.range_succ;have hfl:=List.length_filter_le (λd=>!R d d) (List.range i)
  rw[List.length_range]at hfl;refine AW.ev cc ?_;simp[hrow i h,hcell i i h,rR,rB,h];refine⟨by omega,λq=>⟨aA.plain.tO,?_⟩,λq=>?_⟩
  ·refine eO.dU (ys:=[rT [i]]) zT rfl mB (by simp) (x:=x) (by simp[aA.plain.un]) aA (by simp[rowsOf,rT,rI]) (by simp) (λr hr=>by obtain⟨_,_,rfl⟩:=List.mem_map.1 hr;rfl) (by simp[rT]) (by simp;omega) (by simp) λx2 H4 h4 _ _=>?_
   simp[h4.plain.all];refine NX.go (i+1,x2,H4) (by simp only;omega) ⟨h,?_⟩ (by simp[h4.only,aB hi2,ar])
   rw[F4,List.filter_append];simpa[q]using h4
  ·refine NX.go (i+1,x,H2) (by simp only;omega) ⟨h,?_⟩ (by simp[aA.only,aB hi2,ar])
   rw[F4,List.filter_append];simpa[q]using aA
 ·have hin:i=n:=by omega
  subst hin;have MF:dO i R++((List.range i).filter λd=>!R d d).map (λd=>[d])=ji i R:=rfl
  rw[MF]at aA;obtain⟨GS,QJ⟩:∃GS,ji i R=GS:=⟨_,rfl⟩;rw[QJ]at aA;have hgl:=En (n:=i) (R:=R) ht;rw[QJ]at hgl;refine AW.WG 5 (AW.seq cc ?_);simp[aA.fz,ar,hn];refine⟨by omega,?_⟩
  refine AW.seq cc ?_;simp;refine AW.seq cc ?_;simp;obtain⟨nv,hnv⟩:∃nv,H2.next=nv:=⟨_,rfl⟩;have ab0:jS i [LV.d (DV.k (Value.bool false))]=bC (jU i []):=by simp[jS,bC,jU,List.map_const',Function.comp_def]
  rw[ab0,hnv];have hB:∀D:List Nat,(H2.add (.vec 4 0 1 (bC (jU i D)) true)).next=nv+1/\(H2.add (.vec 4 0 1 (bC (jU i D)) true)).obj nv=some (.vec 4 0 1 (bC (jU i D)) true):=λD=>⟨by rw[GH.aq,hnv],by rw[GH.ax,hnv,if_pos rfl]⟩
  refine AW.D4 cc (λa:List (List Nat)×LV×List Nat×GH=>⟨[(1,.ip ((ar p).map .d) 0),(3,.d (.sl M)),(5,sl (GS.map rT)),(7,.vs nv 0 1 0 i),(8,a.2.1)],[],a.2.2.2⟩) (λa=>GS.length-a.1.length)
   (λa=>cu 94 1 (H2.add (.vec 4 0 1 (bC (jU i a.2.2.1)) true)) a.2.1 (a.1.map rT) a.2.2.2/\iV i R a.2.2.1/\a.2.2.1.Nodup/\a.1.length+tK i R a.2.2.1=GS.length/\a.1++tZ i R (tK i R a.2.2.1) a.2.2.1=VP i R)
   ([],.d (.k (.slice none 0 0)),[],H2.add (.vec 4 0 1 (bC (jU i [])) true)) ⟨⟨.nil,MS ht,.nil,by rw[Ka ht,QJ];simp,by rw[Ka ht];rfl⟩,by simp[ar]⟩ ?_
  rintro⟨out,x8,D,H3⟩ ⟨hap,lX,qQ,hlen,PB⟩;simp only at hap lX qQ hlen PB;refine AW.seq cc ?_;simp[ar];have hol:out.length<=GS.length:=by omega
  refine⟨hap.plain.tO,RK.of (r':=some ⟨True,aH out.length,.no⟩) ?_ ?_⟩
  ·rcases id hap.is with⟨e1,rfl⟩|⟨nn,_,_,rfl,_⟩
   ·have e2:out=[]:=by simpa using e1
    subst e2;simp
   ·simp
  simp;refine⟨λh=>?_,λh=>?_⟩
  ·obtain⟨f,hf1⟩:∃f,tK i R D=f+1:=⟨tK i R D-1,by omega⟩
   obtain⟨d,BE,SH,aC6,az9,YR,yD⟩:=Rx ht lX qQ hf1;rw[QJ]at SH;have o3:H3.obj nv=some (.vec 4 0 1 (bC (jU i D)) true):=by rw[hap.ob nv (by rw[(hB D).1];omega)];exact(hB D).2
   obtain⟨rdy,ay5⟩:∃rdy,rG i R D=rdy:=⟨_,rfl⟩;rw[ay5]at SH;have Wr:∀g∈GS,(∃a t,g=a::t/\a<i)/\(∀k∈g,k<i)/\g.length<=i:=λg hg=>SO ht (by rw[QJ];exact hg)
   refine AW.ev cc ?_;simp;refine AW.aV cc (λb:Nat×Option Nat=>⟨[(1,.ip ((ar p).map .d) 0),(3,.d (.sl M)),(5,sl (GS.map rT)),(7,.vs nv 0 1 0 i),(8,x8),(9,aH (EQ b.2)),(10,aH b.1)],[],H3⟩) (λb=>GS.length-b.1)
    (λb=>b.1<=GS.length/\(∀j,b.2=some j->j<b.1)/\sH rdy (GS.take b.1)=b.2.bind λj=>GS[j]?) (0,none) ⟨⟨Nat.zero_le _,(λj hj=>by cases hj),rfl⟩,by simp[ar,hap.only]⟩ ?_
   rintro⟨k,o⟩ ⟨hk,hok,hbk⟩;simp only at hk hok hbk;simp[ar];refine⟨λjo=>?_,λjo=>?_⟩
   ·obtain⟨g,hg⟩:∃g,GS[k]=g:=⟨_,rfl⟩;obtain⟨⟨a,t,qE,ha⟩,KU,bn5⟩:=Wr g (hg▸List.getElem_mem jo);simp[jo,List.getElem?_eq_getElem jo,hg,rT,qE,rI,o3,ha,ha];have ay9:=O6 (R:=R) (D:=D) (a:=a);have ay8:=λj=>O7 (R:=R) (D:=D) (a:=a) (j:=j)
    have ay6:LA R D a i=rdy a:=by rw[<-ay5];rfl
    obtain⟨rd,hrd⟩:∃rd,LA R D a=rd:=⟨_,rfl⟩;rw[hrd]at ay9 ay8 ay6;refine AW.aV cc (λj:Nat=>⟨[(1,.ip ((ar p).map .d) 0),(3,.d (.sl M)),(5,sl (GS.map rT)),(7,.vs nv 0 1 0 i),(8,x8),(9,aH (EQ o)),(10,aH k),(11,aH a),(12,.d (.k (.bool (rd j)))),(13,aH j)],[],H3⟩) (λj=>i-j)
     (λj=>j<=i) 0 ⟨Nat.zero_le _,by simp[ar,hap.only,ay9]⟩ ?_
    intro j hj;simp[ar,hn];refine⟨λhji=>?_,λhji=>?_⟩
    ·obtain⟨c,hc⟩:∃c,rd j=c:=⟨_,rfl⟩;have ay7:=ay8 j;rw[hc]at ay7|-;simp[hrow a ha,hrow j hji,Bv,List.getElem?_range ha,List.getElem?_range hji,ha,hlM,rR,rB,o3,hji];have hj2:j<1000000:=by omega
     refine⟨λq=>⟨q,λq2=>⟨q,q2⟩⟩,λq=>⟨q,λq2 q3=>⟨q,q2,q3⟩⟩,?_⟩
     refine NX.go (j+1) (by omega) hji ?_
     simp[ar,hap.only,aB hj2,ay7]
    ·have hjn:j=i:=by omega
     subst hjn;rw[ay6];have hts:GS.take (k+1)=GS.take k++[g]:=by rw[<-aR jo,hg]
     have v8:=Cb rdy (GS.take k) g;rw[<-hts,hbk]at v8;have hhd:uk g=a:=by rw[qE];rfl
     rw[hhd]at v8;have hk2:k<1000000:=by omega
     rcases o with _|j0
     ·obtain⟨g0,KV⟩:∃g0,GS[0]?=some g0:=⟨_,List.getElem?_eq_getElem (by omega)⟩
      obtain⟨⟨a0,t0,WB,_⟩,_,_⟩:=Wr g0 (List.mem_of_getElem? KV);simp[KV,rT,WB,rI];refine⟨λq=>?_,λq=>?_⟩
      ·refine NX.go (k+1,some k) (by simp only;omega) ⟨jo,λj hj=>by cases hj;exact Nat.lt_succ_self _,?_⟩ (by simp[hap.only,ar,aB hk2])
       rw[v8,q];simp[D6,List.getElem?_eq_getElem jo,hg]
      ·refine NX.go (k+1,none) (by simp only;omega) ⟨jo,(λj hj=>by cases hj),?_⟩ (by simp[hap.only,ar,aB hk2])
       rw[v8,q];simp
     ·have hj0:=hok j0 rfl;obtain⟨g0,KV⟩:∃g0,GS[j0]?=some g0:=⟨_,List.getElem?_eq_getElem (by omega)⟩
      obtain⟨⟨a0,t0,WB,_⟩,_,_⟩:=Wr g0 (List.mem_of_getElem? KV);have hn0:¬((j0:Int)<0):=by omega
      have bn3:uk g0=a0:=by rw[WB];rfl
      have hls:D6 ((some j0).bind λj=>GS[j]?) g=decide (a<a0):=by simp only[Option.bind_some,KV,D6,hhd,bn3]
      rw[hls]at v8;simp[KV,rT,WB,rI,hn0];refine⟨λq=>⟨q,by omega⟩,λq1 q2=>?_,λq=>?_⟩
      ·refine NX.go (k+1,some k) (by simp only;omega) ⟨jo,λj hj=>by cases hj;exact Nat.lt_succ_self _,?_⟩ (by simp[hap.only,ar,aB hk2])
       rw[v8,q1,decide_eq_true q2];simp[List.getElem?_eq_getElem jo,hg]
      ·refine NX.go (k+1,some j0) (by simp only;omega) ⟨jo,λj hj=>by cases hj;omega,?_⟩ (by simp[hap.only,ar,aB hk2])
       rw[v8,if_neg];rw[Bool.and_eq_true];rintro⟨w1,w2⟩;have:=q w1;have:=of_decide_eq_true w2;omega
   ·have hke:k=GS.length:=by omega
    subst hke;rw[List.take_length,SH]at hbk;rcases o with _|j0
    ·cases hbk
    have hj0:=hok j0 rfl;obtain⟨g,hg⟩:∃g,fK i R d=g:=⟨_,rfl⟩;rw[hg]at hbk aC6 az9 YR yD;have KV:GS[j0]?=some g:=hbk.symm;obtain⟨_,KU,bn5⟩:=Wr g (List.mem_of_getElem? KV);simp;have hst:∀(D':List Nat) (o:GO),(H2.add (.vec 4 0 1 (bC (jU i D')) true)).set nv o=H2.add o:=λD' o=>by rw[<-hnv];exact GH.cV
    refine AW.aV cc (λb:Nat×GH=>⟨[(1,.ip ((ar p).map .d) 0),(3,.d (.sl M)),(5,sl (GS.map rT)),(7,.vs nv 0 1 0 i),(8,x8),(9,aH (j0:Nat)),(14,aH b.1)],[],b.2⟩) (λb=>g.length-b.1)
     (λb=>b.1<=g.length/\cu 94 1 (H2.add (.vec 4 0 1 (bC (jU i (D++g.take b.1))) true)) x8 (out.map rT) b.2) (0,H3) ⟨⟨Nat.zero_le _,by simpa using hap⟩,by simp[ar,hap.only]⟩ ?_
    rintro⟨k,H4⟩ ⟨hk,SJ⟩;simp only at hk SJ;have o4:H4.obj nv=some (.vec 4 0 1 (bC (jU i (D++g.take k))) true):=by rw[SJ.ob nv (by rw[(hB _).1];omega)];exact(hB _).2
    simp[KV,rT,ar];refine⟨hj0,λjo=>?_,λjo=>?_⟩
    ·have qR:=KU _ (List.getElem_mem jo);have hk2:k<1000000:=by omega
     have hts:g.take (k+1)=g.take k++[g[k]]:=(aR jo).symm;have hg1:g[k]+1<=i:=qR;have aD1:=SJ.set (k:=nv) (by rw[(hB _).1];omega) (.vec 4 0 1 (bC (jU i (D++g.take (k+1)))) true)
     rw[hst]at aD1;simp[KV,rT,jo,List.getElem?_eq_getElem jo,rI,o4,qR,hj0,SZ qR,hg1];exact NX.go (k+1,H4.set nv (.vec 4 0 1 (bC (jU i (D++g.take (k+1)))) true)) (by simp only;omega) ⟨jo,aD1⟩ (by simp[ar,hap.only,aB hk2])
    ·have hke:k=g.length:=by omega
     subst hke;rw[List.take_length,S0]at SJ;refine⟨hap.plain.tO,hj0,?_⟩;refine eO.dU (ys:=[rT g]) zT rfl mB (by simp) (x:=x8) (by simp[hap.plain.un]) SJ (by simp[rowsOf,rT]) (by simp) (λr hr=>by obtain⟨_,_,rfl⟩:=List.mem_map.1 hr;rfl) (by simp[rT]) (by simp;omega) (by simp) λx2 H5 h5 _ _=>?_
     simp[h5.plain.all];refine NX.go (out++[g],x2,cR D g,H5) (by simp;omega) ⟨by rw[List.map_append];exact h5,aC6,az9,by simp;omega,?_⟩ (by simp[h5.only,ar])
     simp only;rw[YR,<-PB,hf1,yD];simp
  ·have hfe:tK i R D=0:=by omega
   rw[hfe]at PB;have hoo:out=VP i R:=by rw[<-PB];simp[tZ]
   subst hoo;refine AW.ev cc ?_;simp[hap.plain.all,hap.fz];have tH:=aA.nx;have ab7:=hap.nx;rw[(hB D).1]at ab7;exact λ_=>aL (by omega) (λm hm=>by rw[hap.ob m (by rw[(hB D).1];omega),GH.ax,if_neg (by omega)];exact aA.ob m hm) hw.none
theorem nB.rin{x:Item}(h:nB x):x5 x.aa:=by
 obtain⟨h1,h2,h3,_⟩:=h;refine⟨?_,h2,h3⟩;unfold cm;omega
theorem HM(e:bz)(c:bh)(l b:List Item)(hn:-50<=e.n/\e.n<=50)(hc:e.aD[0]?=some c)(hv:vn c)(hl:l.length<=300)(CI:b.length<=300)(h1:∀x∈l,nB x)(h2:∀x∈b,nB x):
  aC prog 204 [lv (aS e),sl (l.map ak),sl (b.map ak)] (sl ((l.flatMap (jA e.n c b)).map ak)):=by
 intro H;have cc:=au (p:=bf [3] [] []);refine aG.bG (au (p:=bf [3] [] [])) func204 rfl call204 (by rw[ntmps204];simp) rfl λhf hw=>?_
 simp[ntmps204,results204,aj]at hf|-;have lX:0<e.aD.length:=(List.getElem?_eq_some_iff.1 hc).1;have hce:e.aD[0]'lX=c:=by rw[List.getElem?_eq_getElem lX]at hc;exact Option.some.inj hc
 have hfm:∀i,((l.take i).flatMap (jA e.n c b)).length<=i*300:=λi=>by
  rw[List.length_flatMap];have:∀L:List Item,(L.map λx=>(jA e.n c b x).length).sum<=L.length*300:=λL=>by
   induction L with
   |nil=>simp
   |cons x L ih=>
    have:=qT b x.aa.key (x.aa.at_-e.n) (x.aa.at_+e.n);simp only[List.map_cons,List.sum_cons,List.length_cons,jA,List.length_map]at ih|-;rw[Nat.add_mul];omega
  refine Nat.le_trans (this _) (Nat.mul_le_mul_right _ (by simp;omega))
 refine AW.aV cc (λs:Nat×LV×GH=>⟨[(1,sl (l.map ak)),(2,sl (b.map ak)),(3,.ip ((aS e).map .d) 0),(7,s.2.1),(8,aH s.1)],[],s.2.2⟩) (λs=>l.length-s.1)
  (λs=>s.1<=l.length/\cu 86 4 H s.2.1 (((l.take s.1).flatMap (jA e.n c b)).map ak) s.2.2) (0,.d (.k (.slice none 0 0)),H) ⟨⟨Nat.zero_le _,cu.nil⟩,by simp[aj]⟩ ?_
 rintro⟨i,y,H2⟩ ⟨hi',aA⟩;simp only at hi' aA;simp;refine⟨λh=>?_,λh=>?_⟩
 ·obtain⟨x,dc⟩:∃x,l[i]=x:=⟨_,rfl⟩;have hx:=h1 x (dc▸List.getElem_mem h);obtain⟨⟨hx1,hx2⟩,hx3,hx4,hx5⟩:=id hx;have gx:l.take (i+1)=l.take i++[x]:=by rw[<-aR h,dc]
  have eM:=aB (n:=9223372036854775807) (show i<9223372036854775807 by omega)
  have dK:(l.take (i+1)).flatMap (jA e.n c b)=(l.take i).flatMap (jA e.n c b)++jA e.n c b x:=by rw[gx,List.flatMap_append];simp
  have GV:=hfm i;obtain⟨out,hout⟩:∃out,(l.take i).flatMap (jA e.n c b)=out:=⟨_,rfl⟩;rw[hout]at dK aA GV;have NN:=Al b x.aa e.n (by omega) ⟨hx1,hx2⟩ hn
  obtain⟨w,hwe⟩:∃w,dN b x.aa.key (x.aa.at_-e.n) (x.aa.at_+e.n)=w:=⟨_,rfl⟩;have hwb:∀z∈w,nB z:=λz hz=>h2 z (mA.1 (hwe▸hz)).1
  have Sj:w.length<=300:=by rw[<-hwe];exact Nat.le_trans (qT _ _ _ _) CI
  have hpb:jA e.n c b x=w.map (fL c x):=by rw[jA,hwe]
  rw[hwe]at NN;rw[hpb]at dK;simp[bE]at NN;refine AW.draw cc [(8,.n)] (.q 0<|.q 1<|.q 2<|.q 3<|.q 4<|.q 6<|.q 5<|.q 7<|.q 8<|.q 9<|.done) (by kernel_rfl) ?_
  simp[h,List.getElem?_eq_getElem h,dc,ak,aj];refine FC.aJ NN ?_;simp;refine AW.aV cc (λs:Nat×LV×GH=>⟨[(1,sl (l.map ak)),(2,sl (b.map ak)),(3,.ip ((aS e).map .d) 0),(7,s.2.1),(8,aH i),(9,sl (w.map ak)),(10,aH s.1)],[],s.2.2⟩) (λs=>w.length-s.1)
   (λs=>s.1<=w.length/\cu 86 4 H s.2.1 ((out++(w.take s.1).map (fL c x)).map ak) s.2.2) (0,y,H2) ⟨⟨Nat.zero_le _,by simpa using aA⟩,by simp[aj,aA.only]⟩ ?_
  rintro⟨j,y2,H3⟩ ⟨hj',xo⟩;simp only at hj' xo;simp;refine⟨λhjl=>?_,λhjl=>?_⟩
  ·obtain⟨z,T9⟩:∃z,w[j]=z:=⟨_,rfl⟩;have hz:=hwb z (T9▸List.getElem_mem hjl);obtain⟨⟨tG,qD⟩,Px,hz4,hz5⟩:=id hz;have htw:(w.take (j+1)).map (fL c x)=(w.take j).map (fL c x)++[fL c x z]:=by rw[<-aR hjl,T9];simp
   have Sk:=aB (n:=9223372036854775807) (show j<9223372036854775807 by omega)
   have Mu:0<=kj x.aa.at_ z.aa.at_/\kj x.aa.at_ z.aa.at_<=200:=by unfold kj;split<;>omega
   have vk:=jv (r:=⟨kj x.aa.at_ z.aa.at_,x.aa.key,x.aa.val⟩) (o:=z.aa.val) ⟨by unfold cm;simp only;omega,hx3,hx4⟩ hz4 hv
   have hmul:1<=x.n*z.n/\x.n*z.n<=1000000*1000000:=⟨Int.mul_pos (by omega) (by omega),Int.mul_le_mul hx5.2 hz5.2 (by omega) (by omega)⟩
   have YE:IntKind.i64.wrap (x.n*z.n)=x.n*z.n:=by rw[wrap64]<;>omega
   have hpo:fL c x z=⟨⟨kj x.aa.at_ z.aa.at_,x.aa.key,eE ⟨kj x.aa.at_ z.aa.at_,x.aa.key,x.aa.val⟩ z.aa.val c⟩,x.n*z.n⟩:=rfl;rw[hpo]at htw;obtain⟨m,hm⟩:∃m,kj x.aa.at_ z.aa.at_=m:=⟨_,rfl⟩;rw[hm]at htw vk Mu;obtain⟨v,hve⟩:∃v,eE ⟨m,x.aa.key,x.aa.val⟩ z.aa.val c=v:=⟨_,rfl⟩;rw[hve]at htw vk;have bH9:(w.take j).length<=j:=by simp;omega
   simp[bE,aO]at vk;refine AW.draw cc [] (.q 0<|.q 1<|.q 2<|.q 3<|.q 4<|.q 6<|.q 7<|.q 8<|.q 9<|.q 10<|.q 13<|.q 14<|.q 15<|.q 16<|.q 17<|.q 19<|.q 20<|.q 21<|.q 22<|.q 23<|.q 5<|.q 11<|.q 12<|.q 18<|.q 24<|.q 25<|.f<|.one 26<|.f<|.one 27<|.done) (by kernel_rfl) ?_
   simp[h,List.getElem?_eq_getElem h,dc,hjl,List.getElem?_eq_getElem hjl,T9,ak,hm];refine AW.draw cc [(11,.n)] (.q 0<|.q 5<|.q 6<|.q 7<|.q 8<|.q 9<|.q 1<|.q 2<|.q 3<|.q 4<|.q 10<|.q 11<|.q 12<|.f<|.one 13<|.done) (by kernel_rfl) ?_
   simp[hjl,List.getElem?_eq_getElem hjl,T9,ak,aj,hce,aO,lX];refine FC.aJ vk ?_;simp[hjl,List.getElem?_eq_getElem hjl,T9,ak,aj,hce,aO,lX];refine AW.draw cc [] (.q 0<|.q 2<|.q 3<|.q 4<|.q 5<|.q 7<|.q 8<|.q 9<|.q 10<|.q 1<|.q 6<|.q 11<|.q 12<|.q 13<|.q 14<|.f<|.one 15<|.q 16<|.done) (by kernel_rfl) ?_
   simp[h,List.getElem?_eq_getElem h,dc,hjl,List.getElem?_eq_getElem hjl,T9,ak,xo.plain.all,YE];refine eO.dU (ys:=[ak ⟨⟨m,x.aa.key,v⟩,x.n*z.n⟩]) fk rfl dZ (by simp) (x:=y2) (by simp) xo (by simp[ak,rowsOf]) (by simp) (bp _) (ez _) (by simp only[List.length_map,List.length_singleton,List.length_append];omega) (by simp) λx' H4 aF _ _=>?_
   simp[aF.plain.all,aF.only,Sk];rw[cU,List.append_assoc,<-htw]at aF;exact NX.go (j+1,x',H4) (by simp only;omega) ⟨hjl,aF⟩ (by simp[aF.only,aj])
  ·have:j=w.length:=by omega
   subst this;rw[List.take_length,<-dK]at xo;exact NX.go (i+1,y2,H3) (by simp only;omega) ⟨h,xo⟩ (by simp[xo.only,eM,aj])
 ·have:i=l.length:=by omega
  subst this;rw[List.take_length]at aA;simp[aA.plain.all];exact λhz=>⟨H,aL aA.nx aA.ob hw.none,by rw[aA.fz];trivial,aA.fz,rfl⟩
def mN(l:List Item)(r:Rec):Nat->Option Nat
 |0=>none
 |i+1=>if(l.getD i default).aa.key=r.key/\(l.getD i default).aa.at_<=r.at_/\AZ ((mN l r i).bind λj=>l[j]?) (l.getD i default)=true then some i else mN l r i
theorem Bh(l:List Item)(r:Rec):∀i j,mN l r i=some j->j<i
 |i+1,j,h=>by
  rw[mN]at h
  split at h
  ·cases h;exact Nat.lt_succ_self _
  ·have:=Bh l r i j h;omega
theorem I9(l:List Item)(r:Rec):∀i,i<=l.length->Bk (l.take i) r=(mN l r i).bind λj=>l[j]?
 |0,_=>rfl
 |i+1,h=>by
  have ih:=I9 l r i (by omega)
  have hg:l.getD i default=l[i]:=by rw[List.getD_eq_getElem?_getD,List.getElem?_eq_getElem (by omega)];rfl
  rw[<-aR (show i<l.length by omega),Bj,mN,hg,ih]
  split
  ·simp
  ·rfl
theorem Lr(l:List Item)(r:Rec)(hl:l.length<=1000):aC prog 205 [sl (l.map ak),lv (bE r)] (aH (EQ (mN l r l.length))):=by
 have cc:=au (p:=bf [3] [] []);refine aC.body (au (p:=bf [3] [] [])) func205 rfl call205 (by rw[ntmps205];simp) rfl λhf H=>?_
 simp[ntmps205,results205,bE]at hf|-;refine AW.aV cc (λi:Nat=>⟨[(0,sl (l.map ak)),(3,.ip [aH r.at_,aH r.key,aH r.val] 0),(5,aH (EQ (mN l r i))),(6,aH i)],[],H⟩) (λi=>l.length-i) (λi=>i<=l.length) 0 ⟨Nat.zero_le _,by simp[mN]⟩ ?_
 intro i hi;simp;refine⟨λh=>?_,λh=>?_⟩
 ·obtain⟨x,dc⟩:∃x,l[i]=x:=⟨_,rfl⟩;have hg:l.getD i default=x:=by rw[List.getD_eq_getElem?_getD,List.getElem?_eq_getElem h,<-dc];rfl
  have eM:=aB (n:=9223372036854775807) (show i<9223372036854775807 by omega)
  have dK:mN l r (i+1)=if x.aa.key=r.key/\x.aa.at_<=r.at_/\AZ ((mN l r i).bind λj=>l[j]?) x=true then some i else mN l r i:=by rw[mN,hg]
  have hlt:=Bh l r i;obtain⟨o,ho⟩:∃o,mN l r i=o:=⟨_,rfl⟩;rw[ho]at dK hlt|-;refine AW.draw cc [] (.q 0<|.q 1<|.q 2<|.q 3<|.q 4<|.q 6<|.q 5<|.q 7<|.q 8<|.q 9<|.q 10<|.q 11<|.q 12<|.q 13<|.q 14<|.q 16<|.q 15<|.q 17<|.q 18<|.q 19<|.q 20<|.q 21<|.q 22<|.q 23<|.q 24<|.q 25<|.q 26<|.q 27<|.q 28<|.q 30<|.q 31<|.q 32<|.q 33<|.q 34<|.q 29<|.q 35<|.q 36<|.q 37<|.q 38<|.q 39<|.q 40<|.q 41<|.q 42<|.q 43<|.q 45<|.q 46<|.q 47<|.q 48<|.q 49<|.q 44<|.q 50<|.q 51<|.q 52<|.q 53<|.q 54<|.q 55<|.q 56<|.q 57<|.q 59<|.q 60<|.q 61<|.q 62<|.q 63<|.q 58<|.q 64<|.q 65<|.q 66<|.q 67<|.q 68<|.done) (by kernel_rfl) ?_
  rcases o with _|j
  ·have h0:0<l.length:=by omega
   simp[h,List.getElem?_eq_getElem h,dc,ak,h0,List.getElem?_eq_getElem h0];refine⟨λq1 q2=>?_,λq=>?_⟩
   ·exact NX.go (i+1) (by omega) h (by simp[eM,dK,AZ,q1,q2])
   ·refine NX.go (i+1) (by omega) h ?_
    rw[if_neg (by rintro⟨w1,w2,_⟩;have:=q w1;omega)]at dK
    simp[eM,dK]
  ·have hj:=hlt j rfl;have hjl:j<l.length:=by omega
   have hn0:¬((j:Int)<0):=by omega
   have hmo:AZ ((some j).bind λj=>l[j]?) x=decide (l[j].aa.at_<x.aa.at_\/ x.aa.at_=l[j].aa.at_/\l[j].aa.val<x.aa.val):=by
    simp only[Option.bind_some,List.getElem?_eq_getElem hjl,AZ]
   rw[hmo]at dK;simp[h,List.getElem?_eq_getElem h,dc,ak,hjl,List.getElem?_eq_getElem hjl,hn0];refine⟨λq1 q2 q3=>⟨⟨⟨q1,q2⟩,q3⟩,λq4=>⟨⟨⟨q1,q2⟩,q3⟩,q4⟩⟩,λq1 q2=>⟨⟨q1,q2⟩,λq3=>⟨⟨q1,q2⟩,q3⟩⟩,λq1 q2 q3=>?_,λq=>?_⟩
   ·rw[if_pos ⟨q1,q2,decide_eq_true q3⟩]at dK;exact NX.go (i+1) (by omega) h (by simp[eM,dK])
   ·refine NX.go (i+1) (by omega) h ?_
    rw[if_neg (by rintro⟨w1,w2,w3⟩;have w4:=of_decide_eq_true w3;have:=q w1 w2;omega)]at dK
    simp[eM,dK]
 ·have:i=l.length:=by omega
  subst this;simp
structure Dg(H:GH)(n ns nv:Nat)(p:Prog)(W:bZ):Prop where
 ob:H.obj n=some (.box [sl (p.az.map rS),sl (p.ai.map fm),.lF ns (W.az.map bY),.vs nv 0 1 0 W.ai.length])
 os:H.obj ns=some (.arr 30 1 W.az.length)
 ov:H.obj nv=some (.vec 30 0 1 (W.ai.map b9) true)
 dl:W.ai.length=p.ai.length
 sl_:W.az.length=p.az.length
def fI(op n:Int)(cs:List bh)(b:List Item)(x:Item):List Item:=
 if op=5 then(if eE x.aa 0 (cs.getD 0 default)≠0 then[x]else[])
 else if op=6 then[⟨⟨x.aa.at_,eE x.aa 0 (cs.getD 0 default),eE x.aa 0 (cs.getD 1 default)⟩,x.n⟩]
 else if op=13 then uo (cs.getD 0 default) b x
 else if op=14 then(if(dN b x.aa.key (x.aa.at_-n) (x.aa.at_+n)).isEmpty then[x]else[])
 else[⟨x.aa,1⟩]
theorem su(f:Item->Bool):∀a:List Item,a.flatMap (λx=>if f x=true then[x]else[])=a.filter f
 |[]=>rfl
 |x::a=>by
  rw[List.flatMap_cons,su f a];cases h:f x<;>simp[h]
theorem xy(f:Item->Item):∀a:List Item,a.flatMap (λx=>[f x])=a.map f
 |[]=>rfl
 |x::a=>by rw[List.flatMap_cons,xy f a];rfl
theorem L1(p:Prog)(W:bZ){op:Int}(name:cq)(n f:Int)(cs:List bh)(a:cg)(kr:List cg)(hop:op=5\/ op=6\/ op=13\/ op=14\/ op=15):
  mL p W op name n f cs (a::kr)=a.flatMap (fI op n cs (kr.getD 0 [])):=by
 have e0:(a::kr).getD 0 []=a:=rfl;have e1:(a::kr).getD 1 []=kr.getD 0 []:=rfl;unfold mL;simp only[e0,e1];rcases hop with rfl|rfl|rfl|rfl|rfl
 ·rw[if_neg (by decide),if_neg (by decide),if_neg (by decide),if_neg (by decide),if_pos rfl]
  exact(su (λx=>decide (eE x.aa 0 (cs.getD 0 default)≠0)) a).symm.trans (congrArg (λg=>a.flatMap g) (funext λx=>by simp[fI]))
 ·rw[if_neg (by decide),if_neg (by decide),if_neg (by decide),if_neg (by decide),if_neg (by decide),if_pos rfl]
  exact(xy _ a).symm.trans (congrArg (λg=>a.flatMap g) (funext λx=>by simp[fI]))
 ·repeat rw[if_neg (by decide)]
  rw[if_pos rfl];exact congrArg (λg=>a.flatMap g) (funext λx=>by simp[fI])
 ·repeat rw[if_neg (by decide)]
  rw[if_pos rfl];exact(su _ a).symm.trans (congrArg (λg=>a.flatMap g) (funext λx=>by simp[fI]))
 ·repeat rw[if_neg (by decide)]
  exact(xy _ a).symm.trans (congrArg (λg=>a.flatMap g) (funext λx=>by simp[fI]))
theorem HN(n:Nat)(e:bz)(a:cg)(kr:List cg)(hop:e.op=5\/ e.op=6\/ e.op=13\/ e.op=14\/ e.op=15)(hn:-50<=e.n/\e.n<=50)(hv:∀c∈e.aD,vn c)
  (hc:(e.op=5\/ e.op=13->1<=e.aD.length)/\(e.op=6->2<=e.aD.length)) (hk:e.op=13\/ e.op=14->∃b kr',kr=b::kr') (ha:bB a) (hkr:∀b∈kr,bB b):
  aC prog 144 [.gp n 0,lv (aS e),eA (a::kr)] (sl ((a.flatMap (fI e.op e.n e.aD (kr.getD 0 []))).map ak)):=by
 intro H;have cc:=au (p:=bf [4] [] []);refine aG.bG (au (p:=bf [4] [] [])) func144 rfl call144 (by rw[ntmps144];simp) rfl λhf hw=>?_
 have hne:¬e.op=1/\¬e.op=2/\¬e.op=3/\¬e.op=4/\¬e.op=7/\¬e.op=8/\¬e.op=9/\¬e.op=10/\¬e.op=11/\¬e.op=12:=by omega
 obtain⟨n1,n2,n3,n4,n7,n8,n9,n10,n11,n12⟩:=hne;have zp:=ha.2.1;have hfm:∀i,((a.take i).flatMap (fI e.op e.n e.aD (kr.getD 0 []))).length<=i:=λi=>by
  have h1:∀x,(fI e.op e.n e.aD (kr.getD 0 []) x).length<=1:=λx=>by
   unfold fI uo
   repeat' split
   all_goals simp
  have:∀L:List Item,(L.flatMap (fI e.op e.n e.aD (kr.getD 0 []))).length<=L.length:=λL=>by
   induction L with
   |nil=>simp
   |cons x L ih=>
    have:=h1 x;rw[List.flatMap_cons,List.length_append,List.length_cons];omega
  exact Nat.le_trans (this _) (by simp;omega)
 simp[ntmps144,results144,aj,n1,n2,n3,n4,n7,n8,n9,n10,n11,n12,eA,bY]at hf|-;refine AW.ev cc ?_;simp;refine AW.aV cc (λs:Nat×LV×GH=>⟨[(2,sl ((a::kr).map bY)),(4,.ip ((aS e).map .d) 0),(7,s.2.1),(8,aH s.1)],[],s.2.2⟩) (λs=>a.length-s.1)
  (λs=>s.1<=a.length/\cu 86 4 H s.2.1 (((a.take s.1).flatMap (fI e.op e.n e.aD (kr.getD 0 []))).map ak) s.2.2) (0,.d (.k (.slice none 0 0)),H) ⟨⟨Nat.zero_le _,cu.nil⟩,by simp[aj,bY]⟩ ?_
 rintro⟨i,y,H2⟩ ⟨hi',aA⟩;simp only at hi' aA;simp[bY];refine⟨λh=>?_,λh=>?_⟩
 ·obtain⟨x,dc⟩:∃x,a[i]=x:=⟨_,rfl⟩;have hx:=ha.2.2 x (dc▸List.getElem_mem h);obtain⟨⟨hx1,hx2⟩,hx3,hx4,hx5⟩:=id hx;have gx:a.take (i+1)=a.take i++[x]:=by rw[<-aR h,dc]
  have eM:=aB (n:=9223372036854775807) (show i<9223372036854775807 by omega)
  have dK:(a.take (i+1)).flatMap (fI e.op e.n e.aD (kr.getD 0 []))=(a.take i).flatMap (fI e.op e.n e.aD (kr.getD 0 []))++fI e.op e.n e.aD (kr.getD 0 []) x:=by rw[gx,List.flatMap_append];simp
  have GV:=hfm i;obtain⟨out,hout⟩:∃out,(a.take i).flatMap (fI e.op e.n e.aD (kr.getD 0 []))=out:=⟨_,rfl⟩;rw[hout]at dK aA GV;have Jx:∀z:Item,∀y' H',cu 86 4 H y' ((out++[z]).map ak) H'->fI e.op e.n e.aD (kr.getD 0 []) x=[z]->cu 86 4 H y' (((a.take (i+1)).flatMap (fI e.op e.n e.aD (kr.getD 0 []))).map ak) H':=λz y' H' q1 q2=>by rw[dK,q2];exact q1
  have Bu:fI e.op e.n e.aD (kr.getD 0 []) x=[]->cu 86 4 H y (((a.take (i+1)).flatMap (fI e.op e.n e.aD (kr.getD 0 []))).map ak) H2:=λq=>by rw[dK,q,List.append_nil];exact aA
  rcases hop with q|q|q|q|q
  ·obtain⟨c,cs,hcs⟩:∃c cs,e.aD=c::cs:=by
    cases w:e.aD with
    |nil=>rw[w]at hc;simp[q]at hc
    |cons c cs=>exact⟨c,cs,rfl⟩
   have vk:=jv (r:=x.aa) (o:=0) hx.rin (by unfold cm;omega) (hv c (by rw[hcs];simp))
   simp[bE,aO]at vk;simp[h,List.getElem?_eq_getElem h,dc,ak,aj,q];refine AW.draw cc [(6,.n)] (.q 0<|.q 4<|.q 1<|.q 2<|.q 3<|.q 5<|.q 6<|.q 7<|.q 8<|.done) (by kernel_rfl) ?_
   simp[aj,hcs,aO];refine FC.aJ vk ?_;simp;have hlo:fI e.op e.n e.aD (kr.getD 0 []) x=if eE x.aa 0 c≠0 then[x]else[]:=by rw[q,hcs];simp[fI]
   refine⟨λz=>⟨aA.plain.tO,?_⟩,λz=>?_⟩
   ·refine eO.dU (ys:=[ak x]) fk rfl dZ (by simp) (x:=y) (by simp[aA.plain.un]) aA (by simp[ak,rowsOf]) (by simp) (bp _) (ez _) (by simp only[List.length_map,List.length_singleton];omega) (by simp) λx' H3 aF _ _=>?_
    simp[aF.plain.all,aF.only,eM];rw[cU]at aF;exact NX.go (i+1,x',H3) (by simp only;omega) ⟨h,Jx _ _ _ aF (by rw[hlo,if_pos z])⟩ (by simp[aF.only,aj,bY,q,hcs,aO])
   ·exact NX.go (i+1,y,H2) (by simp only;omega) ⟨h,Bu (by rw[hlo,if_neg (by simpa using z)])⟩ (by simp[aA.only,eM,aj,bY,q,hcs,aO])
  ·obtain⟨c,d,cs,hcs⟩:∃c d cs,e.aD=c::d::cs:=by
    match w:e.aD with
    |[]=>rw[w]at hc;simp[q]at hc
    |[c]=>rw[w]at hc;simp[q]at hc
    |c::d::cs=>exact⟨c,d,cs,rfl⟩
   have vk:=jv (r:=x.aa) (o:=0) hx.rin (by unfold cm;omega) (hv c (by rw[hcs];simp))
   have hdv:=jv (r:=x.aa) (o:=0) hx.rin (by unfold cm;omega) (hv d (by rw[hcs];simp))
   simp[bE,aO]at vk hdv;simp[h,List.getElem?_eq_getElem h,dc,ak,aj,q];refine AW.draw cc [(9,.n),(16,.n)] (.q 0<|.q 1<|.q 3<|.q 7<|.q 10<|.q 14<|.q 2<|.q 4<|.q 5<|.q 6<|.q 8<|.q 9<|.q 11<|.q 12<|.q 13<|.q 15<|.q 16<|.q 17<|.q 18<|.f<|.one 19<|.done) (by kernel_rfl) ?_
   simp[aj,hcs,aO];refine FC.aJ vk ?_;simp[aj,hcs,aO];refine⟨by omega,FC.aJ hdv ?_⟩
   simp[aA.plain.all];refine eO.dU (ys:=[ak ⟨⟨x.aa.at_,eE x.aa 0 c,eE x.aa 0 d⟩,x.n⟩]) fk rfl dZ (by simp) (x:=y) (by simp[aA.plain.un]) aA (by simp[ak,rowsOf]) (by simp) (bp _) (ez _) (by simp only[List.length_map,List.length_singleton];omega) (by simp) λx' H3 aF _ _=>?_
   simp[aF.plain.all,aF.only,eM];rw[cU]at aF;exact NX.go (i+1,x',H3) (by simp only;omega) ⟨h,Jx _ _ _ aF (by rw[q,hcs];simp[fI])⟩ (by simp[aF.only,aj,bY,q,hcs,aO])
  ·obtain⟨c,cs,hcs⟩:∃c cs,e.aD=c::cs:=by
    cases w:e.aD with
    |nil=>rw[w]at hc;simp[q]at hc
    |cons c cs=>exact⟨c,cs,rfl⟩
   obtain⟨b,kr',rfl⟩:=hk (.inl q);have QI:=hkr b (by simp)
   have uh:=Lr b x.aa (by have:=QI.2.1;omega)
   have hlx:=I9 b x.aa b.length (Nat.le_refl _);have hlt:=Bh b x.aa b.length;rw[List.take_length]at hlx;obtain⟨o,ho⟩:∃o,mN b x.aa b.length=o:=⟨_,rfl⟩;rw[ho]at hlx hlt uh;simp[bE]at uh;simp[h,List.getElem?_eq_getElem h,dc,ak,aj,q];refine AW.draw cc [(5,.n)] (.q 0<|.q 1<|.q 3<|.q 2<|.q 4<|.q 5<|.q 6<|.done) (by kernel_rfl) ?_
   simp[bY];refine⟨by omega,FC.aJ uh ?_⟩
   have hlo:fI e.op e.n e.aD ((b::kr').getD 0 []) x=uo c b x:=by rw[q,hcs];simp[fI]
   rcases o with _|j
   ·simp;exact NX.go (i+1,y,H2) (by simp only;omega) ⟨h,Bu (by rw[hlo,uo,hlx];rfl)⟩ (by simp[aA.only,eM,aj,bY,q,hcs,aO])
   ·have hjl:=hlt j rfl;obtain⟨z,hz⟩:∃z,b[j]=z:=⟨_,rfl⟩;have hzo:=QI.2.2 z (hz▸List.getElem_mem hjl);have vk:=jv (r:=x.aa) (o:=z.aa.val) hx.rin hzo.2.2.1 (hv c (by rw[hcs];simp))
    simp[bE,aO]at vk;have hn0:¬((j:Int)<0):=by omega
    have hg:b[j]?=some z:=by rw[List.getElem?_eq_getElem hjl,hz]
    simp;refine AW.draw cc [(14,.n)] (.q 0<|.q 4<|.q 6<|.q 7<|.q 9<|.q 1<|.q 2<|.q 3<|.q 5<|.q 8<|.q 10<|.q 11<|.q 12<|.q 13<|.q 14<|.q 15<|.q 16<|.f<|.one 17<|.done) (by kernel_rfl) ?_
    simp[aj,hcs,aO,bY,hjl,hz,ak];refine⟨by omega,FC.aJ vk ?_⟩
    simp[ak,aA.plain.all];refine eO.dU (ys:=[ak ⟨⟨x.aa.at_,x.aa.key,eE x.aa z.aa.val c⟩,x.n⟩]) fk rfl dZ (by simp) (x:=y) (by simp[aA.plain.un]) aA (by simp[ak,rowsOf]) (by simp) (bp _) (ez _) (by simp only[List.length_map,List.length_singleton];omega) (by simp) λx' H3 aF _ _=>?_
    simp[aF.plain.all,aF.only,eM];rw[cU]at aF;exact NX.go (i+1,x',H3) (by simp only;omega) ⟨h,Jx _ _ _ aF (by rw[hlo,uo,hlx];simp only[Option.bind_some,hg])⟩ (by simp[aF.only,aj,bY,q,hcs,aO])
  ·obtain⟨b,kr',rfl⟩:=hk (.inr q);have QI:=hkr b (by simp)
   have NN:=Al b x.aa e.n (by have:=QI.2.1;omega) ⟨hx1,hx2⟩ hn
   simp[bE]at NN;simp[h,List.getElem?_eq_getElem h,dc,ak,aj,q];refine AW.draw cc [(7,.n)] (.q 0<|.q 1<|.q 3<|.q 5<|.q 2<|.q 4<|.q 6<|.q 7<|.q 8<|.q 9<|.q 10<|.done) (by kernel_rfl) ?_
   simp[bY,aj];refine⟨by omega,FC.aJ NN ?_⟩
   have hlo:fI e.op e.n e.aD ((b::kr').getD 0 []) x=if(dN b x.aa.key (x.aa.at_-e.n) (x.aa.at_+e.n)).isEmpty then[x]else[]:=by rw[q];simp[fI]
   simp;refine⟨λz=>⟨aA.plain.tO,?_⟩,λz=>?_⟩
   ·refine eO.dU (ys:=[ak x]) fk rfl dZ (by simp) (x:=y) (by simp[aA.plain.un]) aA (by simp[ak,rowsOf]) (by simp) (bp _) (ez _) (by simp only[List.length_map,List.length_singleton];omega) (by simp) λx' H3 aF _ _=>?_
    simp[aF.plain.all,aF.only,eM];rw[cU]at aF;exact NX.go (i+1,x',H3) (by simp only;omega) ⟨h,Jx _ _ _ aF (by rw[hlo,if_pos (by simp[z])])⟩ (by simp[aF.only,aj,bY,q])
   ·exact NX.go (i+1,y,H2) (by simp only;omega) ⟨h,Bu (by rw[hlo,if_neg (by simpa using z)])⟩ (by simp[aA.only,eM,aj,bY,q])
  ·simp[h,List.getElem?_eq_getElem h,dc,ak,aj,q,aA.plain.all];refine eO.dU (ys:=[ak ⟨x.aa,1⟩]) fk rfl dZ (by simp) (x:=y) (by simp[aA.plain.un]) aA (by simp[ak,rowsOf]) (by simp) (bp _) (ez _) (by simp only[List.length_map,List.length_singleton];omega) (by simp) λx' H3 aF _ _=>?_
   simp[aF.plain.all,aF.only,eM];rw[cU]at aF;exact NX.go (i+1,x',H3) (by simp only;omega) ⟨h,Jx _ _ _ aF (by rw[q];simp[fI])⟩ (by simp[aF.only,aj,bY,q])
 ·have:i=a.length:=by omega
  subst this;rw[List.take_length]at aA;simp[aA.plain.all];exact λhz=>⟨H,aL aA.nx aA.ob hw.none,by rw[aA.fz];trivial,aA.fz,rfl⟩
end Go.Aft
end
