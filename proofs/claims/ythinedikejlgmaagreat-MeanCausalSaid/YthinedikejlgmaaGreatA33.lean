import Derived.Test.YthinedikejlgmaaGreatA17
import Derived.Test.YthinedikejlgmaaGreatA22
import Derived.Test.YthinedikejlgmaaGreatA29
import Derived.Test.YthinedikejlgmaaGreatA32
import Derived.Test.YthinedikejlgmaaGreatA30
set_option linter.all false
section
set_option maxRecDepth 20000
namespace Go.Aft
open Go.Proofs.Tryz
def fP(b:List Item)(j:Nat):Bool:=iw (b.getD j default).aa&&decide ((b.getD j default).n≠0/\-1000000<=(b.getD j default).n/\(b.getD j default).n<=1000000)&&(decide (j=0)||cO (b.getD (j-1) default).aa (b.getD j default).aa)
def fe(b:List Item):Bool:=(List.range b.length).all (fP b)&&decide (b.length<=300)
def pH(b:List Item):Bool:=!b.any λx=>decide (x.n<0)
def gH(b:List Item):Bool:=fe b&&pH b
theorem gB{b:List Item}{i:Nat}(h:i<b.length)(e:fP b i=false):fe b=false:=by
 unfold fe;have:(List.range b.length).all (fP b)=false:=List.all_eq_false.2 ⟨i,List.mem_range.2 h,by simp[e]⟩
 rw[this];rfl
theorem qh{b:List Item}(h:∀j,j<b.length->fP b j=true):fe b=decide (b.length<=300):=by
 unfold fe;rw[List.all_eq_true.2 λj hj=>h j (List.mem_range.1 hj)];rfl
theorem qt(n lo hi:Int):aC prog 173 [aH n,aH lo,aH hi] (.d (.k (.bool (jT n lo hi)))):=by
 refine aC.body aP func173 rfl call173 (by rw[ntmps173];simp) rfl λ_ H=>?_
 simp[ntmps173,results173,jT]
theorem Qm(r:Rec):aC prog 172 [lv (bE r)] (.d (.k (.bool (iw r)))):=by
 refine aC.body (au (p:=bf [1] [] [])) func172 rfl call172 (by rw[ntmps172];simp) rfl λ_ H=>?_
 simp[ntmps172,results172,bE];refine EC.aJ (qt _ _ _) ?_;cases h1:jT r.at_ 0 200 with
 |false=>simp[iw,h1]
 |true=>
  simp;refine EC.aJ (qt _ _ _) ?_;cases h2:jT r.key (-1000000000) 1000000000 with
  |false=>simp[iw,h1,h2]
  |true=>
   simp;refine EC.aJ (qt _ _ _) ?_;simp[iw,h1,h2]
def orM(l:List Int):Int:=(l.find? λx=>decide (x≠0)).getD 0
theorem Z3{l:List Int}{i:Nat}(h:i<l.length)(e:l[i]≠0)(hk:∀j (hj:j<l.length),j<i->l[j]=0):orM l=l[i]:=by
 unfold orM;have:l.find? (λx=>decide (x≠0))=some l[i]:=by
  rw[List.find?_eq_some_iff_getElem];refine⟨by simpa using e,i,h,rfl,λj hj=>?_⟩
  simp[hk j (by omega) hj]
 rw[this];rfl
theorem RA{l:List Int}(hk:∀j (hj:j<l.length),l[j]=0):orM l=0:=by
 unfold orM;have:l.find? (λx=>decide (x≠0))=none:=List.find?_eq_none.2 λx hx=>by
  obtain⟨j,hj,rfl⟩:=List.mem_iff_getElem.1 hx;simp[hk j hj]
 rw[this];rfl
theorem af8(l:List Int):aC prog 216 [sl (l.map rI)] (aH (orM l)):=by
 have cc:=aP;refine aC.body aP func216 rfl call216 (by rw[ntmps216];simp) rfl λhf H=>?_
 simp[ntmps216,results216]at hf|-;refine AW.aV cc (λi:Nat=>⟨[(3,aH 0),(6,sl (l.map rI)),(7,aH l.length),(8,aH i)],[],H⟩) (λi=>l.length-i) (λi=>i<=l.length/\∀j (h:j<l.length),j<i->l[j]=0) 0 ⟨⟨Nat.zero_le _,λj _ hj=>absurd hj (by omega)⟩,by simp⟩ ?_
 rintro i ⟨hi,hk⟩;simp;refine⟨λh=>?_,λh=>?_⟩
 ·have eM:=aB h hf.1;simp[h,List.getElem?_eq_getElem h];refine⟨trivial,?_⟩;simp[rI];refine⟨λe=>(Z3 h e hk).symm,λe=>NX.go (i+1) (Nat.sub_lt_sub_left h (Nat.lt_succ_self i)) ⟨h,λj hj hji=>?_⟩ (by simp[eM])⟩
  by_cases z:j=i
  ·subst z;exact e
  ·exact hk j hj (by omega)
 ·exact(RA λj hj=>hk j hj (by omega)).symm
theorem VQ(a b:Rec):(orM [jW a.at_ b.at_,jW a.key b.key,jW a.val b.val]<0)=(cO a b=true):=by
 unfold orM cO jW;refine propext ?_;simp only[List.find?,decide_eq_true_eq]
 repeat' split
 all_goals simp_all<;>omega
theorem Ko(a b:Rec):aC prog 174 [lv (bE a),lv (bE b)] (aH (orM [jW a.at_ b.at_,jW a.key b.key,jW a.val b.val])):=by
 refine aC.body (au (p:=bf [2,3] [] [])) func174 rfl call174 (by rw[ntmps174];simp) rfl λ_ H=>?_
 have cc:=au (p:=bf [2,3] [] []);have hr:List.range' 0 3=[0,1,2]:=rfl;have ho:=af8 [jW a.at_ b.at_,jW a.key b.key,jW a.val b.val];simp at ho;simp[ntmps174,results174,bE];refine AW.draw cc [(4,.n),(9,.n),(14,.n),(16,.n)] (.q 0<|.q 2<|.q 5<|.q 7<|.q 10<|.q 12<|.q 1<|.q 3<|.q 4<|.q 6<|.q 8<|.q 9<|.q 11<|.q 13<|.q 14<|.q 15<|.q 16<|.q 17<|.done) (by kernel_rfl) ?_
 simp;refine FC.aJ (nQ _ _) ?_;simp;refine FC.aJ (nQ _ _) ?_;simp;refine FC.aJ (nQ _ _) ?_;simp[hr];refine FC.aJ ho ?_;simp
theorem Qn(b:List Item):aC prog 112 [sl (b.map ak)] (.d (.k (.bool (fe b)))):=by
 have cc:=au (p:=bf [] [] []);refine aC.body (au (p:=bf [] [] [])) func112 rfl call112 (by rw[ntmps112];simp) rfl λhf H=>?_
 simp[ntmps112,results112]at hf|-;refine AW.aV cc (λi:Nat=>⟨[(0,sl (b.map ak)),(5,sl (b.map ak)),(6,aH b.length),(7,aH i)],[],H⟩) (λi=>b.length-i) (λi=>i<=b.length/\∀j,j<i->fP b j=true) 0 ⟨⟨Nat.zero_le _,λj hj=>absurd hj (by omega)⟩,by simp⟩ ?_
 rintro i ⟨hi,hk⟩;simp;refine⟨λh=>?_,λh=>?_⟩
 ·obtain⟨x,hx⟩:∃x,b[i]=x:=⟨_,rfl⟩;have hg:b.getD i default=x:=by rw[List.getD_eq_getElem?_getD,List.getElem?_eq_getElem h,<-hx];rfl
  have uS:=Qm x.aa;simp[bE]at uS;simp[h,List.getElem?_eq_getElem h,hx,ak];refine EC.aJ uS ?_;by_cases h1:iw x.aa=true
  ·simp[h1];by_cases h0:x.n=0
   ·have hb:fP b i=false:=by unfold fP;rw[hg];simp[h0]
    simp[h0,gB h hb]
   ·simp[h0];refine EC.aJ (qt _ _ _) ?_;by_cases hin:jT x.n (-1000000) 1000000=true
    ·simp[hin];have eM:=aB h hf.1;have GW:=λy:Item=>Ko y.aa x.aa
     have PB:=λy:Item=>VQ y.aa x.aa
     have bn1:-1000000<=x.n/\x.n<=1000000:=by unfold jT at hin;simpa using hin
     have hit:fP b i=(decide (i=0)||cO (b.getD (i-1) default).aa x.aa):=by
      unfold fP;rw[hg,h1];simp[h0,bn1]
     simp[bE]at GW;refine⟨λq=>absurd q h0,λ_=>?_⟩
     refine AW.draw cc [(11,.n)] (.q 0<|.q 1<|.q 2<|.q 3<|.q 4<|.q 5<|.q 6<|.q 7<|.q 9<|.q 8<|.q 10<|.q 11<|.q 12<|.q 13<|.done) (by kernel_rfl) ?_
     by_cases Mz:i=0
     ·subst Mz;have hb:fP b 0=true:=by rw[hit];rfl
      simp;refine kN.aJ (v:=.d (.k (.int .i64 0))) (λq=>by cases q) ?_
      simp;exact NX.go 1 (by omega) ⟨h,λj hj=>by rw[show j=0 by omega];exact hb⟩ (by simp;exact(by decide:IntKind.i64.wrap 1=1))
     ·have hi1:i-1<b.length:=by omega
      obtain⟨y,hy⟩:∃y,b[i-1]=y:=⟨_,rfl⟩;have hgy:b.getD (i-1) default=y:=by rw[List.getD_eq_getElem?_getD,List.getElem?_eq_getElem hi1,<-hy];rfl
      have hwp:IntKind.i64.wrap ((i:Int)-1)=i-1:=by rw[wrap64]<;>omega
      have htn:((i:Int)-1).toNat=i-1:=by omega
      have hpos:0<i:=by omega
      rw[hgy]at hit;have ho:=PB y;have hcy:=GW y;simp[Mz,hpos,hwp,htn,List.getElem?_eq_getElem hi1,hy,ak];refine⟨⟨by omega,by omega⟩,kN.aJ (λ_=>hcy) ?_⟩
      simp;refine⟨λq=>?_,λq=>?_⟩
      ·have hb:fP b i=false:=by
        rw[hit];cases e:cO y.aa x.aa with
        |true=>rw[<-ho]at e;omega
        |false=>simp[Mz]
       exact gB h hb
      ·have hb:fP b i=true:=by
        rw[hit];have:=ho.mp (by omega)
        simp[this]
       refine NX.go (i+1) (Nat.sub_lt_sub_left h (Nat.lt_succ_self i)) ⟨h,λj hj=>?_⟩ (by simp[eM])
       by_cases z:j=i
       ·subst z;exact hb
       ·exact hk j (by omega)
    ·have hb:fP b i=false:=by
      unfold fP;rw[hg];unfold jT at hin;simp at hin|-;intro _ _ h2 h3;have:=hin h2;omega
     simp[hin,gB h hb]
  ·have hb:fP b i=false:=by unfold fP;rw[hg];simp[h1]
   simp[h1,gB h hb]
 ·rw[qh λj hj=>hk j (by omega)]
  have e:(decide ((b.length:Int)<=300))=decide (b.length<=300):=by rw[Bool.eq_iff_iff];simp;omega
  simp[e]
theorem Qo(b:List Item):aC prog 57 [sl (b.map ak)] (aH (if fe b then 0 else 2)):=by
 refine aC.body aP func57 rfl call57 (by rw[ntmps57];simp) rfl λhf H=>?_
 have h:=Qn b;simp at h;simp[ntmps57,results57];refine EC.aJ h ?_;cases fe b<;>simp
theorem HW(n:Int):aC prog 207 [aH n] (.d (.k (.bool (jT n (-1000000000) 1000000000)))):=by
 refine aC.body aP func207 rfl call207 (by rw[ntmps207];simp) rfl λ_ H=>?_
 simp[ntmps207,results207,jT]
theorem O5(r:Rec):aC prog 146 [lv (bE r)] (.d (.k (.bool (iw r)))):=by
 refine aC.body (au (p:=bf [1] [] [])) func146 rfl call146 (by rw[ntmps146];simp) rfl λ_ H=>?_
 simp[ntmps146,results146,bE];by_cases h1:0<=r.at_
 ·simp[h1];by_cases h2:r.at_<=200
  ·have ze:¬200<r.at_:=by omega
   simp[h2,ze];refine EC.aJ (HW _) ?_;cases h3:jT r.key (-1000000000) 1000000000 with
   |false=>simp[iw,h3]
   |true=>
    simp;refine EC.aJ (HW _) ?_;have:jT r.at_ 0 200=true:=by simp[jT,h1,h2]
    simp[iw,h3,this]
  ·have:jT r.at_ 0 200=false:=by simp[jT,h2]
   simp[h2,iw,this]
 ·have:jT r.at_ 0 200=false:=by simp[jT,h1]
  simp[h1,iw,this]
theorem Am(a b:Rec):aC prog 147 [lv (bE a),lv (bE b)] (.d (.k (.bool (cO a b)))):=by
 refine aC.body (au (p:=bf [2,3] [] [])) func147 rfl call147 (by rw[ntmps147];simp) rfl λ_ H=>?_
 simp[ntmps147,results147,bE];unfold cO;refine⟨λq=>?_,λq=>⟨λq2=>?_,λq2=>?_⟩⟩<;>rw[decide_eq_decide]<;>omega
theorem Lt(b:List Item):aC prog 82 [sl (b.map ak)] (.d (.k (.bool (fe b)))):=by
 have cc:=au (p:=bf [] [] []);refine aC.body (au (p:=bf [] [] [])) func82 rfl call82 (by rw[ntmps82];simp) rfl λhf H=>?_
 simp[ntmps82,results82]at hf|-;refine AW.aV cc (λi:Nat=>⟨[(0,sl (b.map ak)),(5,sl (b.map ak)),(6,aH b.length),(7,aH i)],[],H⟩) (λi=>b.length-i) (λi=>i<=b.length/\∀j,j<i->fP b j=true) 0 ⟨⟨Nat.zero_le _,λj hj=>absurd hj (by omega)⟩,by simp⟩ ?_
 rintro i ⟨hi,hk⟩;simp;refine⟨λh=>?_,λh=>?_⟩
 ·obtain⟨x,hx⟩:∃x,b[i]=x:=⟨_,rfl⟩;have hg:b.getD i default=x:=by rw[List.getD_eq_getElem?_getD,List.getElem?_eq_getElem h,<-hx];rfl
  have uS:=O5 x.aa;have eM:=aB h hf.1;have GW:=λy:Item=>Am y.aa x.aa
  simp[bE]at uS GW;simp[h,List.getElem?_eq_getElem h,hx,ak];refine AW.draw cc [(2,.n),(31,.n)] (.q 0<|.q 1<|.q 2<|.q 3<|.q 4<|.q 5<|.q 6<|.q 7<|.q 8<|.q 9<|.q 10<|.q 11<|.q 12<|.q 13<|.q 14<|.q 15<|.q 16<|.q 17<|.q 18<|.q 19<|.q 20<|.q 21<|.q 22<|.q 23<|.q 24<|.q 25<|.q 26<|.q 27<|.q 29<|.q 28<|.q 30<|.q 31<|.q 32<|.q 33<|.q 34<|.done) (by kernel_rfl) ?_
  simp;refine FC.aJ uS ?_;have hmin:i=0\/ i-1<b.length:=by omega
  by_cases kX:iw x.aa=true/\x.n≠0/\-1000000<=x.n/\x.n<=1000000
  ·obtain⟨h1,h0,hin⟩:=kX;have i1:¬x.n< -1000000:=by omega
   have i2:¬1000000<x.n:=by omega
   have hit:fP b i=(decide (i=0)||cO (b.getD (i-1) default).aa x.aa):=by
    unfold fP;rw[hg,h1];simp[h0,hin]
   by_cases Mz:i=0
   ·subst Mz;have hb:fP b 0=true:=by rw[hit];rfl
    simp[h1,h0,hin];refine kN.aJ (v:=.d (.k (.bool false))) (λq=>by cases q) ?_
    simp[h1,h0,i1,i2];exact NX.go 1 (by omega) ⟨h,λj hj=>by rw[show j=0 by omega];exact hb⟩ (by simp;exact(by decide:IntKind.i64.wrap 1=1))
   ·have hi1:i-1<b.length:=by omega
    obtain⟨y,hy⟩:∃y,b[i-1]=y:=⟨_,rfl⟩;have hgy:b.getD (i-1) default=y:=by rw[List.getD_eq_getElem?_getD,List.getElem?_eq_getElem hi1,<-hy];rfl
    have hwp:IntKind.i64.wrap ((i:Int)-1)=i-1:=by rw[wrap64]<;>omega
    have htn:((i:Int)-1).toNat=i-1:=by omega
    have hpos:0<i:=by omega
    rw[hgy]at hit;have hcy:=GW y;simp[h1,h0,hin,Mz,hpos,hwp,htn,List.getElem?_eq_getElem hi1,hy,ak];refine⟨⟨by omega,by omega⟩,kN.aJ (λ_=>hcy) ?_⟩
    simp[h1,h0,i1,i2];refine⟨λq=>?_,λq=>?_⟩
    ·have hb:fP b i=false:=by
      rw[hit,q];simp[Mz]
     exact gB h hb
    ·have hb:fP b i=true:=by
      rw[hit,q];simp
     refine NX.go (i+1) (Nat.sub_lt_sub_left h (Nat.lt_succ_self i)) ⟨h,λj hj=>?_⟩ (by simp[eM])
     by_cases z:j=i
     ·subst z;exact hb
     ·exact hk j (by omega)
  ·have hb:fP b i=false:=by
    cases q:fP b i with
    |false=>rfl
    |true=>
     unfold fP at q;rw[hg]at q;simp only[Bool.and_eq_true,decide_eq_true_eq]at q;exact absurd ⟨q.1.1,q.1.2⟩ kX
   have KU:=gB h hb;have aC3:iw x.aa=false\/ iw x.aa=true/\(x.n=0\/ x.n≠0/\(x.n< -1000000\/ ¬x.n< -1000000/\1000000<x.n)):=by
    cases q:iw x.aa with
    |false=>exact .inl rfl
    |true=>
     refine .inr ⟨rfl,?_⟩;have:¬(x.n≠0/\-1000000<=x.n/\x.n<=1000000):=λw=>kX ⟨q,w⟩
     omega
   rcases aC3 with q|⟨q,q2|⟨q2,q3|⟨q3,q4⟩⟩⟩
   ·simp[q];refine kN.aJ (v:=.d (.k (.bool false))) (λq=>by cases q) ?_
    simp[KU]
   ·simp[q,q2];refine kN.aJ (v:=.d (.k (.bool false))) (λq=>by cases q) ?_
    simp[KU]
   ·simp[q,q2,q3];refine kN.aJ (v:=.d (.k (.bool false))) (λq=>by cases q) ?_
    simp[KU]
   ·simp[q,q2,q3,q4];refine kN.aJ (v:=.d (.k (.bool false))) (λq=>by cases q) ?_
    simp[KU]
 ·rw[qh λj hj=>hk j (by omega)]
  have e:(decide ((b.length:Int)<=300))=decide (b.length<=300):=by rw[Bool.eq_iff_iff];simp;omega
  simp[e]
theorem HX(b:List Item):aC prog 83 [sl (b.map ak)] (.d (.k (.bool (pH b)))):=by
 have cc:=au (p:=bf [] [] []);refine aC.body (au (p:=bf [] [] [])) func83 rfl call83 (by rw[ntmps83];simp) rfl λhf H=>?_
 simp[ntmps83,results83]at hf|-;refine AW.aV cc (λi:Nat=>⟨[(5,sl (b.map ak)),(6,aH b.length),(7,aH i)],[],H⟩) (λi=>b.length-i) (λi=>i<=b.length/\∀j (h:j<b.length),j<i->¬b[j].n<0) 0 ⟨⟨Nat.zero_le _,λj _ hj=>absurd hj (by omega)⟩,by simp⟩ ?_
 rintro i ⟨hi,hk⟩;simp;refine⟨λh=>?_,λh=>?_⟩
 ·have eM:=aB h hf.1;simp[h,List.getElem?_eq_getElem h,ak];refine⟨λq=>?_,λq=>?_⟩
  ·have:b.any (λx=>decide (x.n<0))=true:=List.any_eq_true.2 ⟨b[i],List.getElem_mem h,by simpa using q⟩
   simp[pH,this]
  ·refine NX.go (i+1) (Nat.sub_lt_sub_left h (Nat.lt_succ_self i)) ⟨h,λj hj hji=>?_⟩ (by simp[eM])
   by_cases z:j=i
   ·subst z;omega
   ·exact hk j hj (by omega)
 ·have:b.any (λx=>decide (x.n<0))=false:=List.any_eq_false.2 λx hx=>by
   obtain⟨j,hj,rfl⟩:=List.mem_iff_getElem.1 hx;simpa using hk j hj (by omega)
  simp[pH,this]
theorem nH(b:List Item):aC prog 35 [sl (b.map ak)] (.d (.k (.bool (gH b)))):=by
 refine aC.body aP func35 rfl call35 (by rw[ntmps35];simp) rfl λhf H=>?_
 have h1:=Lt b;have h2:=HX b;simp at h1 h2;simp[ntmps35,results35];refine EC.aJ h1 ?_;cases e:fe b with
 |false=>simp[gH,e]
 |true=>
  simp;refine EC.aJ h2 ?_;simp[gH,e]
theorem IJ(x:Item):aC prog 114 [lv (ak x)] (.d (.k (.bool (decide (x.n<0))))):=by
 refine aC.body (au (p:=bf [1] [] [])) func114 rfl call114 (by rw[ntmps114];simp) rfl λhf H=>?_
 simp[ntmps114,results114,ak]
theorem L8(b:List Item):aC prog 58 [sl (b.map ak)] (.d (.k (.bool (pH b)))):=by
 refine aC.body aP func58 rfl call58 (by rw[ntmps58];simp) rfl λhf H=>?_
 have h:=ph b (λx=>decide (x.n<0)) 114 λx _=>IJ x
 simp at h;simp[ntmps58,results58];refine EC.aJ h ?_;simp[pH]
theorem JK{b:List Item}(h:fe b=true):b.length<=300:=by
 unfold fe at h;rw[Bool.and_eq_true]at h;exact of_decide_eq_true h.2
theorem Ge{b:List Item}(h:fe b=true){x:Item}(hx:x∈b):iw x.aa=true/\x.n≠0/\-1000000<=x.n/\x.n<=1000000:=by
 unfold fe at h;rw[Bool.and_eq_true,List.all_eq_true]at h;obtain⟨i,hi,rfl⟩:=List.mem_iff_getElem.1 hx;have:=h.1 i (List.mem_range.2 hi);unfold fP at this;have hg:b.getD i default=b[i]:=by rw[List.getD_eq_getElem?_getD,List.getElem?_eq_getElem hi];rfl
 rw[hg]at this;simp only[Bool.and_eq_true,decide_eq_true_eq]at this;exact⟨this.1.1,this.1.2⟩
theorem Nq{r:Rec}(h:iw r=true):(0<=r.at_/\r.at_<=200)/\cm r.key/\cm r.val:=by
 unfold iw jT at h;simp at h;exact⟨h.1.1,h.1.2,h.2⟩
theorem Gf{b:List Item}(h:fe b=true):∀x∈b,C6 x:=λx hx=>by
 have h1:=Ge h hx;exact⟨h1.2.2,(Nq h1.1).2.2⟩
def qG(f:Int)(b:List Item):LV:=if 1<=f/\f<=4/\gH b=true then(if b=[]then .dh [aH 0,aH 5]else .dh [aH (foldI f b),aH 0])else .dh [aH 0,aH 2]
theorem D3(f:Int)(b:List Item):aC prog 15 [aH f,sl (b.map ak)] (qG f b):=by
 refine aC.body aP func15 rfl call15 (by rw[ntmps15];simp) rfl λhf H=>?_
 have h1:=Qo b;have h2:=L8 b;have h3:=λq:fe b=true=>D2 f b (Nat.le_trans (JK q) (by omega)) (Gf q)
 simp at h1 h2;simp[ntmps15,results15];by_cases hr:1<=f/\f<=4
 ·have i1:¬f<1:=by omega
  have i2:¬4<f:=by omega
  simp[i1,i2,hr.1,hr.2];refine EC.aJ h1 ?_;cases hg:fe b with
  |false=>
   have:gH b=false:=by simp[gH,hg]
   simp[qG,this]
  |true=>
   simp;refine EC.aJ h2 ?_;cases hw:pH b with
   |false=>
    have:gH b=false:=by simp[gH,hg,hw]
    simp[qG,this]
   |true=>
    have hp:gH b=true:=by simp[gH,hg,hw]
    have h3':=h3 hg;simp;refine⟨λq=>?_,λq=>?_⟩
    ·have e:qG f b=.dh [aH 0,aH 5]:=by unfold qG;rw[if_pos ⟨hr.1,hr.2,hp⟩,if_pos q]
     simp[e]
    ·simp at h3';refine EC.aJ h3' ?_;simp[qG,hr,hp,q]
 ·have hn:qG f b=.dh [aH 0,aH 2]:=by unfold qG;rw[if_neg λw=>hr ⟨w.1,w.2.1⟩]
  by_cases i1:1<=f
  ·have i2:¬f<=4:=by omega
   have i3:¬f<1:=by omega
   have i4:4<f:=by omega
   simp[i1,i2,i3,i4,hn]
  ·have i3:f<1:=by omega
   simp[i1,i3,hn]
theorem vF(f:Int)(YP:1<=f/\f<=4)(l:List Item)(hl:l.length<=1000)(hb:∀x∈l,C6 x):aC prog 60 [aH f,sl (l.map ak)] (aH (foldI f l)):=by
 have cc:=au (p:=bf [] [] []);refine aC.body (au (p:=bf [] [] [])) func60 rfl call60 (by rw[ntmps60];simp) rfl λhf H=>?_
 simp[ntmps60,results60]at hf|-;refine AW.aV cc (λi:Nat=>⟨[(0,aH f),(1,sl (l.map ak)),(5,aH ((l.take i).foldl (cI f) (0,0)).2),(6,aH i)],[],H⟩) (λi=>l.length-i) (λi=>i<=l.length) 0 ⟨Nat.zero_le _,by simp⟩ λi hi=>?_
 simp;refine⟨λh=>?_,λh=>?_⟩
 ·obtain⟨x,dc⟩:∃x,l[i]=x:=⟨_,rfl⟩;have hx:=hb l[i] (List.getElem_mem h);rw[dc]at hx;have hbd:=uV f (l.take i) (0,0) (λy hy=>hb y (List.mem_of_mem_take hy)) (by simp)
  have hst:(l.take (i+1)).foldl (cI f) (0,0)=cI f ((l.take i).foldl (cI f) (0,0)) x:=by
   rw[<-aR h,dc,List.foldl_append];rfl
  obtain⟨st,hs⟩:∃st,(l.take i).foldl (cI f) (0,0)=st:=⟨_,rfl⟩;rw[hs]at hbd hst;have hlt:(l.take i).length=i:=by simp;omega
  rw[hlt]at hbd;have hm:=AY hx;obtain⟨h1,h2⟩:=hx;unfold cm at h2;have w1:IntKind.wrap .i64 (st.2+x.n)=st.2+x.n:=by rw[wrap64]<;>omega
  have w2:IntKind.wrap .i64 (x.n*x.aa.val)=x.n*x.aa.val:=by rw[wrap64]<;>omega
  have w3:IntKind.wrap .i64 (st.2+x.n*x.aa.val)=st.2+x.n*x.aa.val:=by rw[wrap64]<;>omega
  have Mq:st.1=i:=by have:=hbd.1;omega
  have w4:=aB h (show l.length<=9223372036854775807 by omega)
  have Uh:f=1\/ f=2\/ f=3\/ f=4:=by omega
  have h1i:(1:Int)≠2/\(1:Int)≠3:=by omega
  have yD:=λv:Int=>λ(q:v=(cI f st x).2)=>(q.trans (congrArg Prod.snd hst).symm)
  rcases Uh with rfl|rfl|rfl|rfl
  ·have hv:(cI 1 st x).2=st.2+x.n:=rfl;simp[h,List.getElem?_eq_getElem h,dc,ak,hs,w1];exact NX.go (i+1) (by omega) h (by simp[hst,hv,w4])
  ·have hv:(cI 2 st x).2=st.2+x.n*x.aa.val:=rfl;simp[h,List.getElem?_eq_getElem h,dc,ak,hs,w2,w3];exact NX.go (i+1) (by omega) h (by simp[hst,hv,w4])
  ·have hv:(cI 3 st x).2=if i=0\/ x.aa.val<st.2 then x.aa.val else st.2:=by rw[<-Mq];rfl
   by_cases c:i=0
   ·subst c;simp[h,List.getElem?_eq_getElem h,dc,ak,hs];exact NX.go 1 (by omega) h (by simp[hst,hv];exact(by decide:IntKind.i64.wrap 1=1))
   ·by_cases d:x.aa.val<st.2
    ·simp[h,List.getElem?_eq_getElem h,dc,ak,hs,c,d];exact NX.go (i+1) (by omega) h (by simp[hst,hv,w4,d])
    ·simp[h,List.getElem?_eq_getElem h,dc,ak,hs,c,d];exact NX.go (i+1) (by omega) h (by simp[hst,hv,w4,d,c])
  ·have hv:(cI 4 st x).2=if i=0\/ st.2<x.aa.val then x.aa.val else st.2:=by rw[<-Mq];rfl
   by_cases c:i=0
   ·subst c;simp[h,List.getElem?_eq_getElem h,dc,ak,hs];exact NX.go 1 (by omega) h (by simp[hst,hv];exact(by decide:IntKind.i64.wrap 1=1))
   ·by_cases d:st.2<x.aa.val
    ·simp[h,List.getElem?_eq_getElem h,dc,ak,hs,c,d];exact NX.go (i+1) (by omega) h (by simp[hst,hv,w4,d])
    ·simp[h,List.getElem?_eq_getElem h,dc,ak,hs,c,d];exact NX.go (i+1) (by omega) h (by simp[hst,hv,w4,d,c])
 ·have e:i=l.length:=by omega
  subst e;rw[List.take_length];refine EC.aJ (lT _) ?_;simp[foldI]
mutual
theorem Mb:∀(c:bh) (depth left:Int),0<=dW c depth left->dJ true c depth left=some (dW c depth left)
 |.mk op n kids,depth,left,h=>by
  rw[dW]at h|-;by_cases h1:10<depth\/ left<1\/ op<1\/ 10<op
  ·rw[if_pos h1]at h;omega
  ·rw[if_neg h1]at h|-;by_cases h2:(kids.length:Int)≠(if 6<=op then 2 else 0)\/ (op≠1/\n≠0)\/ n≠eY n
   ·rw[if_pos h2]at h;omega
   ·rw[if_neg h2]at h|-;rw[dJ,if_pos]
    ·exact ye kids _ _ h
    ·have hk:(kids.length:Int)=(if 6<=op then 2 else 0):=Classical.byContradiction λq=>h2 (.inl q)
     have hn:op=1\/ n=0:=Classical.byContradiction λq=>h2 (.inr (.inl ⟨λe=>q (.inl e),λe=>q (.inr e)⟩))
     have hc:n=eY n:=Classical.byContradiction λq=>h2 (.inr (.inr q))
     have hcb:=mu n;unfold cm at hcb;refine⟨by omega,by omega,?_⟩
     unfold fG;by_cases e1:op=1
     ·rw[if_pos e1];rw[if_neg (by omega)]at hk
      exact decide_eq_true ⟨by omega,by omega,by omega⟩
     ·rw[if_neg e1];have hn0:n=0:=hn.resolve_left e1;by_cases e2:op=2\/ op=3\/ op=4
      ·rw[if_pos e2];rw[if_neg (by omega)]at hk
       exact decide_eq_true ⟨hn0,by omega⟩
      ·rw[if_neg e2];by_cases e5:op=5
       ·rw[if_pos e5];rw[if_neg (by omega)]at hk
        exact decide_eq_true ⟨rfl,hn0,by omega⟩
       ·rw[if_neg e5];rw[if_pos (by omega)]at hk
        exact decide_eq_true ⟨by omega,by omega,hn0,by omega⟩
theorem ye:∀(cs:List bh) (depth left:Int),0<=di cs depth left->cz true cs (depth+1) left=some (di cs depth left)
 |[],depth,left,h=>by rw[cz,di]
 |k::ks,depth,left,h=>by
  rw[di]at h|-
  split at h
  ·omega
  ·rename_i h1;rw[if_neg h1,cz,Mb k _ _ (by omega)]
   exact ye ks _ _ h
end
theorem iO{p:Prog}{l:List Event}(h:dR p l=true):formed p/\l.length<=60/\∀e∈l,nB ⟨e.aa,1⟩:=by
 simp only[dR,Bool.and_eq_true,decide_eq_true_eq]at h;obtain⟨⟨⟨h1,h2⟩,h3⟩,h4⟩:=h;refine⟨h1,h2,λe he=>?_⟩
 unfold iR rJ at h4;simp only[Bool.and_eq_true,Bool.not_eq_true',List.any_eq_false]at h4;have h5:=h4.1.2 (BY e) (List.mem_map.2 ⟨e,he,rfl⟩);have h6:qF (BY e) p.az.length=true:=by simpa using h5
 have h7:iw e.aa=true:=by
  unfold qF at h6;simp only[BY,if_true,Bool.and_eq_true,ry]at h6;exact h6.2.2
 have:=Nq h7;exact⟨this.1,this.2.1,this.2.2,by simp only;omega,by simp only;omega⟩
noncomputable def gh (p:Prog) (l:List Event):LV:=if dR p l=true then(match dw p l with
 |some ai=>.dh [sl (ai.map bY),aH 0]
 |none=>.dh [sl [],aH 3])else .dh [sl [],aH 2]
theorem td(p:Prog)(hs:∀s∈p.az++an p,cN s)(l:List Event):aC prog 25 [lv (ar p),sl (l.map aQ)] (gh p l):=by
 intro H;have cc:=au (p:=bf [2] [] []);refine aG.dG (au (p:=bf [2] [] [])) func25 rfl call25 (by rw[ntmps25];simp) rfl λhf hw=>?_
 have h1:=p9 p hs l;simp[ar]at h1;simp[ntmps25,results25,ar]at hf|-;refine AW.seq cc ?_;simp;refine AW.seq cc ?_;simp;refine EC.aJ h1 ?_;cases ha:dR p l with
 |false=>
  simp[gh,ha];exact λhz=>bI hz
 |true=>
  obtain⟨hp,hl,hi⟩:=iO ha;have hb:=mU hp;have hk:=uJ p hs hp (by have:=hb.s1;omega) (by have:=hb.s4;omega) (fA hp) hb.dif (jb hp) l hl hi H
  simp[ar]at hk;simp;refine AW.seq cc ?_;simp;refine EC.of hk (λv H2 hR=>?_) (λv H2 hR=>by
   unfold nj at hR
   split at hR
   ·obtain⟨q,_⟩:=hR;cases q
   ·obtain⟨_,_,_,_,_,q,_⟩:=hR;cases q)
  unfold nj at hR;cases hkn:dw p l with
  |none=>
   rw[hkn]at hR;obtain⟨q1,q2⟩:=hR;cases q1;rw[q2];simp;refine AW.seq cc ?_;simp;exact λhz=>⟨bI hz,by simp[gh,ha,hkn]⟩
  |some ai=>
   rw[hkn]at hR;obtain⟨n,ms,mn,mv,ma,q1,q2,hW,q4,q5,q6⟩:=hR;cases q1;simp;have hlen:∀r∈ai.map bY,r.length=1:=λr hr=>by obtain⟨_,_,rfl⟩:=List.mem_map.1 hr;rfl
   have hfl:ai.map b9=bM (ai.map bY):=by
    clear hW hkn
    induction ai with
    |nil=>rfl
    |cons b l ih=>rw[List.map_cons,List.map_cons,ih (λr hr=>by obtain⟨_,_,rfl⟩:=List.mem_map.1 hr;rfl)];rfl
   have kp:=hW.La.ob;have ab9:n≠mv:=λe=>by
    have:=hW.La.ov;rw[<-e,kp]at this;cases this
   refine AW.cM (n:=mv) (g:=0) (sz:=1) (e:=30) (ex:=true) (ai.map bY) hW.La.ov hfl hlen ?_;simp;refine AW.seq cc ?_;simp;refine AW.ev cc ?_;simp[kp,ab9];refine λhz=>⟨aL q4 (λm hm=>kH hw q2 (λk hk=>q5 k hk) hm) hw.none,?_⟩
   have ht:List.take ai.length (ai.map bY)=ai.map bY:=List.take_of_length_le (by simp)
   rw[ht];simp[gh,ha,hkn]
noncomputable def AN (p:Prog):LV:=open Classical in if formed p then .dh [sl ((gK p.ai.length (aZ p)).map rT),aH 0]else .dh [sl [],aH 2]
theorem Mc(p:Prog)(hs:∀s∈p.az++an p,cN s):aC prog 18 [lv (ar p)] (AN p):=by
 refine aC.body (au (p:=bf [1] [] [])) func18 rfl call18 (by rw[ntmps18];simp) rfl λhf H=>?_
 have h1:=zY p hs;simp[ar]at h1;simp[ntmps18,results18,ar];refine EC.aJ h1 ?_;by_cases hp:formed p
 ·have hb:=mU hp;have h2:=yh p hs hp (by have:=hb.s1;omega) (by have:=hb.s4;omega) (fA hp)
  simp[ar]at h2;simp[hp];refine EC.of (h2 H) (λv H2 hR=>?_) (λv H2 hR=>by obtain⟨q,_⟩:=hR;cases q)
  obtain⟨q1,q2⟩:=hR;cases q1;rw[q2];simp[AN,hp]
 ·simp[hp,AN]
noncomputable def tU (p:Prog) (l:List Event) (src:Int):LV:=if dR p l=true/\0<=src/\src<p.az.length then .dh [b9 (lN l src),aH 0]else .dh [sl [],aH 2]
theorem Pk(p:Prog)(hs:∀s∈p.az++an p,cN s)(l:List Event)(src:Int):aC prog 20 [lv (ar p),sl (l.map aQ),aH src] (tU p l src):=by
 refine aC.body (au (p:=bf [3] [] [])) func20 rfl call20 (by rw[ntmps20];simp) rfl λhf H=>?_
 have h1:=p9 p hs l;simp[ar]at h1;simp[ntmps20,results20,ar];refine EC.aJ h1 ?_;cases ha:dR p l with
 |false=>simp[tU,ha]
 |true=>
  have h2:=DZ l src (by have:=(iO ha).2.1;omega)
  simp at h2;by_cases h0:src<0
  ·have hV:tU p l src=.dh [sl [],aH 2]:=by unfold tU;rw[if_neg (by omega)]
   simp[h0,hV]
  ·by_cases h3:(p.az.length:Int)<=src
   ·have hV:tU p l src=.dh [sl [],aH 2]:=by unfold tU;rw[if_neg (by omega)]
    simp[h0,h3,hV]
   ·have hV:tU p l src=.dh [b9 (lN l src),aH 0]:=by unfold tU;rw[if_pos ⟨ha,by omega,by omega⟩]
    simp[h0,h3];refine EC.aJ h2 ?_;simp[hV,b9]
mutual
def okC:bh->Prop
 |.mk op n kids=>kids.length*40<=140737488351232/\CY kids
def CY:List bh->Prop
 |[]=>True
 |c::cs=>okC c/\CY cs
end
mutual
def LY:bz->Prop
 |.mk op name n fold aD kids=>aD.length*40<=140737488351232/\kids.length*88<=140737488351232/\CY aD/\AR kids
def AR:List bz->Prop
 |[]=>True
 |e::es=>LY e/\AR es
end
def okP(p:Prog):Prop:=p.az.length*16<=140737488351232/\p.ai.length*104<=140737488351232/\∀d∈p.ai,LY d.exp
mutual
theorem AF:∀c:bh,okC c->aC prog 136 [lv (bU c)] (lv (bU c))
 |.mk op n kids,h=>by
  rw[okC]at h;exact y6 op n kids h.1 (lI kids h.2)
theorem lI:∀cs:List bh,CY cs->∀k∈cs,aC prog 136 [lv (bU k)] (lv (bU k))
 |[],_,k,hk=>by cases hk
 |c::cs,h,k,hk=>by
  rw[CY]at h;rcases List.mem_cons.1 hk with q|hk
  ·rw[q];exact AF c h.1
  ·exact lI cs h.2 k hk
end
theorem AB(op:Int)(name:cq)(n fold:Int)(aD:List bh)(kids:List bz)(hc:aD.length*40<=140737488351232)(hk:kids.length*88<=140737488351232)(hcs:∀k∈aD,aC prog 136 [lv (bU k)] (lv (bU k)))
  (ih:∀k∈kids,aC prog 72 [lv (aS k)] (lv (aS k))):aC prog 72 [lv (aS (.mk op name n fold aD kids))] (lv (aS (.mk op name n fold aD kids))):=by
 have cc:=au (p:=bf [1] [] []);refine aC.body (au (p:=bf [1] [] [])) func72 rfl call72 (by rw[ntmps72];simp) rfl λhf H=>?_
 simp[ntmps72,results72,aj,bz.op,bz.n,bz.kids,bz.name,bz.fold,bz.aD];refine AW.aV cc (λa:Nat×LV×GH=>⟨[(1,.ip [aH op,.d (.k (.string name)),aH n,aH fold,sl (aD.map bU),sl (kids.map aS)] 0),(2,.lp 2 0),(3,.lp 3 0),(4,aH a.1)],
  [(2,[aH 0,.d (.k (.string ⟨#[]⟩)),aH 0,aH 0,.d (.k (.slice none 0 0)),.d (.k (.slice none 0 0))]),(3,[aH op,.d (.k (.string name)),aH n,aH fold,a.2.1,.d (.k (.slice none 0 0))])],a.2.2⟩) (λa=>aD.length-a.1) (λa=>a.1<=aD.length/\cu 25 3 H a.2.1 ((aD.take a.1).map bU) a.2.2) (0,.d (.k (.slice none 0 0)),H) ⟨⟨Nat.zero_le _,.nil⟩,by simp⟩ ?_
 rintro⟨i,x,H'⟩ ⟨hi,aA⟩;simp only at hi aA;simp;refine⟨λh=>?_,λh=>?_⟩
 ·refine AW.draw cc [(7,.n)] (.q 0<|.q 2<|.q 4<|.q 1<|.f<|.one 3<|.q 5<|.f<|.one 6<|.q 7<|.q 8<|.f<|.one 9<|.q 10<|.f<|.one 11<|.done) (by kernel_rfl) ?_
  simp[h,List.getElem?_eq_getElem h,aO];refine FC.aJ (v:=lv (bU aD[i])) (by simpa[aO]using hcs aD[i] (List.getElem_mem h)) ?_
  simp[aO];refine eO.dU (ys:=[bU aD[i]]) Q7 rfl Q6 (by simp) (x:=x) (by simp) aA (by simp[aO,rowsOf]) (by simp) (λr hr=>by obtain⟨_,_,rfl⟩:=List.mem_map.1 hr;simp) (by simp) (by simp;omega) (by simp) λx' H' aF _ _=>?_
  rw[show(aD.take i).map bU++[bU aD[i]]=(aD.take (i+1)).map bU by rw[<-aR h,List.map_append];rfl]at aF
  simp[aF.plain.all,aF.only,aB (n:=9223372036854775807) (show i<9223372036854775807 by omega)]
  exact NX.go (i+1,x',H') (by simp only;omega) ⟨h,aF⟩ (by simp[aF.only])
 ·have e:i=aD.length:=by omega
  subst e;rw[List.take_length]at aA;simp[aA.plain.all];refine AW.aV cc (λa:Nat×LV×GH=>⟨[(1,.ip [aH op,.d (.k (.string name)),aH n,aH fold,sl (aD.map bU),sl (kids.map aS)] 0),(2,.lp 2 0),(3,.lp 3 0),(5,aH a.1)],
   [(2,[aH 0,.d (.k (.string ⟨#[]⟩)),aH 0,aH 0,.d (.k (.slice none 0 0)),.d (.k (.slice none 0 0))]),(3,[aH op,.d (.k (.string name)),aH n,aH fold,x,a.2.1])],a.2.2⟩) (λa=>kids.length-a.1) (λa=>a.1<=kids.length/\cu 68 6 H' a.2.1 ((kids.take a.1).map aS) a.2.2) (0,.d (.k (.slice none 0 0)),H') ⟨⟨Nat.zero_le _,.nil⟩,by simp[aA.only]⟩ ?_
  rintro⟨i,y,H2⟩ ⟨hi,hy⟩;simp only at hi hy;simp[aA.plain.all];refine⟨λh=>?_,λh=>?_⟩
  ·refine AW.draw cc [(7,.n)] (.q 0<|.q 2<|.q 4<|.q 1<|.f<|.one 3<|.q 5<|.f<|.one 6<|.q 7<|.q 8<|.f<|.one 9<|.q 10<|.f<|.one 11<|.done) (by kernel_rfl) ?_
   simp[h,List.getElem?_eq_getElem h,aj];refine FC.aJ (v:=lv (aS kids[i])) (by simpa[aj]using ih kids[i] (List.getElem_mem h)) ?_
   simp[aj];refine eO.dU (ys:=[aS kids[i]]) Dl rfl Dk (by simp) (x:=y) (by simp) hy (by simp[aj,rowsOf]) (by simp) (λr hr=>by obtain⟨_,_,rfl⟩:=List.mem_map.1 hr;simp) (by simp) (by simp;omega) (by simp) λy' H3 hy' _ _=>?_
   rw[show(kids.take i).map aS++[aS kids[i]]=(kids.take (i+1)).map aS by rw[<-aR h,List.map_append];rfl]at hy'
   simp[aA.plain.all,hy'.plain.all,hy'.only,aB (n:=9223372036854775807) (show i<9223372036854775807 by omega)]
   exact NX.go (i+1,y',H3) (by simp only;omega) ⟨h,hy'⟩ (by simp[aA.only,hy'.only])
  ·have e:i=kids.length:=by omega
   subst e;rw[List.take_length]at hy;have ha2:=aA.mono hy.nx hy.ob;simp[aA.plain.all,hy.plain.all,aA.fz,hy.fz];exact⟨by rw[aj];rfl,ha2.nx,ha2.ob⟩
mutual
theorem CU:∀e:bz,LY e->aC prog 72 [lv (aS e)] (lv (aS e))
 |.mk op name n fold aD kids,h=>by
  rw[LY]at h;exact AB op name n fold aD kids h.1 h.2.1 (lI aD h.2.2.1) (rF kids h.2.2.2)
theorem rF:∀es:List bz,AR es->∀k∈es,aC prog 72 [lv (aS k)] (lv (aS k))
 |[],_,k,hk=>by cases hk
 |c::cs,h,k,hk=>by
  rw[AR]at h;rcases List.mem_cons.1 hk with q|hk
  ·rw[q];exact CU c h.1
  ·exact rF cs h.2 k hk
end
theorem MX{o:Bool}{op n:Int}{k:Nat}(h:fG o op n k=true):k<=2:=by
 unfold fG at h
 split at h
 ·simp at h;omega
 ·split at h
  ·simp at h;omega
  ·split at h
   ·simp at h;omega
   ·simp at h;omega
mutual
theorem Pr{o:Bool}:∀(c:bh) (d f l:Int),dJ o c d f=some l->okC c
 |.mk op n kids,d,f,l,h=>by
  rw[dJ]at h
  split at h
  ·rename_i hc;have:=MX hc.2.2;exact⟨by omega,uK kids _ _ _ h⟩
  ·cases h
theorem uK{o:Bool}:∀(cs:List bh) (d f l:Int),cz o cs d f=some l->CY cs
 |[],d,f,l,h=>trivial
 |c::cs,d,f,l,h=>by
  rw[cz]at h
  split at h
  ·rename_i l' hl;exact⟨Pr c _ _ _ hl,uK cs _ _ _ h⟩
  ·cases h
end
theorem Ji{α:Type}{c:Prop}[Decidable c]{a x:α}{o:Option α}{P:α->Prop}(h:(if c then some a else o)=some x)(h1:P a)(h2:o=some x->P x):P x:=by
 by_cases q:c
 ·rw[if_pos q]at h;cases h;exact h1
 ·rw[if_neg q]at h;exact h2 h
theorem OY{op:Int}{x:QS}(h:bK op=some x):x.kids<=2/\x.aD<=2:=by
 unfold bK at h
 iterate 13
  refine Ji (P:=λx:QS=>x.kids<=2/\x.aD<=2) h (by decide) λh=>?_
 cases h
mutual
theorem Jc{az ai:List cq}{a:Int}:∀(e:bz) (d f l:Int),fU az ai a e d f=some l->LY e
 |.mk op name n fold aD kids,d,f,l,h=>by
  rw[fU]at h
  split at h
  ·rename_i hc;obtain⟨x,hx,k1,k2⟩:=EA hc.2.2.1;have:=OY hx
   split at h
   ·rename_i l1 h1;exact⟨by omega,by omega,uK aD _ _ _ h1,D8 kids _ _ _ h⟩
   ·cases h
  ·cases h
theorem D8{az ai:List cq}{a:Int}:∀(es:List bz) (d f l:Int),eW az ai a es d f=some l->AR es
 |[],d,f,l,h=>trivial
 |c::cs,d,f,l,h=>by
  rw[eW]at h
  split at h
  ·rename_i l' hl;exact⟨Jc c _ _ _ hl,D8 cs _ _ _ h⟩
  ·cases h
end
theorem Ea{az names:List cq}:∀(ds:List Ux) (a left l:Int),jh az names ds a left=some l->∀d∈ds,LY d.exp
 |[],a,left,l,h,d,hd=>by cases hd
 |x::ds,a,left,l,h,d,hd=>by
  rw[jh]at h
  split at h
  ·rename_i l' hl;rcases List.mem_cons.1 hd with q|hd
   ·rw[q];exact Jc _ _ _ _ hl
   ·exact Ea ds _ _ _ h d hd
  ·cases h
theorem PT{p:Prog}(h:formed p):okP p/\p.ai.length<=6:=by
 obtain⟨⟨l,hl⟩,_⟩:=h;unfold fF at hl
 split at hl
 ·rename_i hc;exact⟨⟨by omega,by omega,Ea _ _ _ _ hl⟩,hc.2.2.1⟩
 ·cases hl
end Go.Aft
end
section
set_option maxRecDepth 20000
namespace Go.Aft
mutual
def kg(f:cq->cq):bz->bz
 |.mk op name n fold aD kids=>.mk op (f name) n fold aD (oF f kids)
def oF(f:cq->cq):List bz->List bz
 |[]=>[]
 |e::es=>kg f e::oF f es
end
theorem oE(f:cq->cq):∀l,oF f l=l.map (kg f)
 |[]=>rfl
 |e::es=>by rw[oF,oE f es,List.map_cons]
structure TV(f:cq->cq)(L:List cq):Prop where
 zero:f cH=cH
 name:∀s∈L,gV (f s)=true
 inj:∀s∈L,∀t∈L,f s=f t->s=t
theorem AX{s:cq}(h:gV s=true):s≠cH:=by
 rintro rfl;simp[gV,cH,ByteArray.size]at h
theorem F0{f:cq->cq}:∀(l:List cq) (s:cq),(∀x∈l,f x=f s->x=s)->idx (l.map f) (f s)=idx l s
 |[],s,_=>rfl
 |x::l,s,h=>by
  rw[List.map_cons,si,si,F0 l s λy hy=>h y (List.mem_cons_of_mem _ hy)]
  by_cases e:x=s
  ·subst e;simp
  ·rw[if_neg e,if_neg λq=>e (h x (List.mem_cons_self ..) q)]
theorem Eb{α:Type}{c:Prop}[Decidable c]{a x:α}{o:Option α}{P:α->Prop}(h:(if c then some a else o)=some x)(h1:c->P a)(h2:o=some x->P x):P x:=by
 by_cases q:c
 ·rw[if_pos q]at h;cases h;exact h1 q
 ·rw[if_neg q]at h;exact h2 h
theorem Ri{op:Int}{x:QS}(h:bK op=some x):x.name=true->op=1\/ op=2\/ op=3:=by
 unfold bK at h;refine Eb (P:=λx:QS=>x.name=true->op=1\/ op=2\/ op=3) h (λc _=>by omega) λh=>?_
 refine Eb (P:=λx:QS=>x.name=true->op=1\/ op=2\/ op=3) h (λc _=>by omega) λh=>?_
 iterate 11
  refine Ji (P:=λx:QS=>x.name=true->op=1\/ op=2\/ op=3) h (λq=>by cases q) λh=>?_
 cases h
theorem MK{op n fold:Int}{name:cq}{nc nk:Nat}(h:hU op name n fold nc nk=true):name≠cH↔op=1\/ op=2\/ op=3:=by
 unfold hU at h
 split at h
 ·cases h
 ·rename_i x hx;simp only[Bool.and_eq_true,decide_eq_true_eq,beq_iff_eq]at h;have hn:=h.1.1.2;constructor
  ·intro q;exact Ri hx (by rw[hn];simpa using q)
  ·intro q;rcases q with rfl|rfl|rfl<;>(simp[bK]at hx;subst hx;simpa using hn.symm)
theorem PW{op n fold:Int}{name name':cq}{nc nk:Nat}(h:hU op name n fold nc nk=true)(hn:name'≠cH↔name≠cH):hU op name' n fold nc nk=true:=by
 unfold hU at h|-
 split at h
 ·cases h
 ·rename_i x hx;rw[show decide (name'≠cH)=decide (name≠cH)from decide_eq_decide.2 hn]
  exact h
theorem pX{az ai:List cq}{a op:Int}{name:cq}(h:dD az ai a op name=true):(op=1->name∈az)/\(op=2\/ op=3->name∈ai):=by
 unfold dD at h;constructor
 ·rintro rfl;simp at h;exact(jF _ _).1 h
 ·rintro(rfl|rfl)
  ·simp at h;exact(jF _ _).1 h.1
  ·simp at h;exact(jF _ _).1 h
theorem L3{f:cq->cq}{az ai:List cq}(hf:TV f (az++ai)){a op:Int}{name:cq}(h:dD az ai a op name=true):dD (az.map f) (ai.map f) a op (f name)=true:=by
 have hm:=pX h;have hs:op=1->idx (az.map f) (f name)=idx az name:=λq=>F0 _ _ λx hx e=>hf.inj _ (by simp[hx]) _ (by simp[hm.1 q]) e
 have hd:op=2\/ op=3->idx (ai.map f) (f name)=idx ai name:=λq=>F0 _ _ λx hx e=>hf.inj _ (by simp[hx]) _ (by simp[hm.2 q]) e
 unfold dD at h|-;by_cases q1:op=1
 ·rw[if_pos q1]at h|-;rw[hs q1];exact h
 ·rw[if_neg q1]at h|-;by_cases q2:op=2
  ·rw[if_pos q2]at h|-;rw[hd (.inl q2)];exact h
  ·rw[if_neg q2]at h|-;by_cases q3:op=3
   ·rw[if_pos q3]at h|-;rw[hd (.inr q3)];exact h
   ·rw[if_neg q3]
mutual
theorem O3{f:cq->cq}{az ai:List cq}(hf:TV f (az++ai)){a:Int}:∀(e:bz) (d l l':Int),fU az ai a e d l=some l'->fU (az.map f) (ai.map f) a (kg f e) d l=some l'
 |.mk op name n fold aD kids,d,l,l',h=>by
  rw[kg];rw[fU]at h|-
  split at h
  ·rename_i hc;obtain⟨h1,h2,h3,h4⟩:=hc;have hne:f name≠cH↔name≠cH:=by
    constructor
    ·intro q r;rw[r]at q;exact q hf.zero
    ·intro q;rcases(MK h3).1 q with r|r
     ·exact AX (hf.name _ (by simp[(pX h4).1 r]))
     ·exact AX (hf.name _ (by simp[(pX h4).2 r]))
   rw[if_pos ⟨h1,h2,by rw[oE,List.length_map];exact PW h3 hne,L3 hf h4⟩]
   split at h
   ·exact xU hf kids _ _ _ h
   ·cases h
  ·cases h
theorem xU{f:cq->cq}{az ai:List cq}(hf:TV f (az++ai)){a:Int}:∀(es:List bz) (d l l':Int),eW az ai a es d l=some l'->eW (az.map f) (ai.map f) a (oF f es) d l=some l'
 |[],d,l,l',h=>by rw[oF];rw[eW]at h|-;exact h
 |e::es,d,l,l',h=>by
  rw[oF];rw[eW]at h|-
  split at h
  ·rename_i l1 BA;rw[O3 hf e _ _ _ BA];exact xU hf es _ _ _ h
  ·cases h
end
mutual
theorem TI(f:cq->cq):∀e,bc (kg f e)=(bc e).map (kg f)
 |.mk op name n fold aD kids=>by rw[kg,bc,bc,List.map_cons,kg,EU f kids]
theorem EU(f:cq->cq):∀es,bn (oF f es)=(bn es).map (kg f)
 |[]=>rfl
 |e::es=>by rw[oF,bn,bn,List.map_append,TI f e,EU f es]
end
mutual
theorem Me{az ai:List cq}{a:Int}:∀(e:bz) (d l l':Int),fU az ai a e d l=some l'->∀x∈bc e,(x.op=1->x.name∈az)/\(x.op=2\/ x.op=3->x.name∈ai)
 |.mk op name n fold aD kids,d,l,l',h,x,hx=>by
  rw[fU]at h
  split at h
  ·rename_i hc
   split at h
   ·rw[bc]at hx;rcases List.mem_cons.1 hx with q|hx
    ·rw[q];exact pX hc.2.2.2
    ·exact yt kids _ _ _ h x hx
   ·cases h
  ·cases h
theorem yt{az ai:List cq}{a:Int}:∀(es:List bz) (d l l':Int),eW az ai a es d l=some l'->∀x∈bn es,(x.op=1->x.name∈az)/\(x.op=2\/ x.op=3->x.name∈ai)
 |[],d,l,l',h,x,hx=>by rw[bn]at hx;cases hx
 |e::es,d,l,l',h,x,hx=>by
  rw[eW]at h
  split at h
  ·rename_i l1 BA;rw[bn]at hx;rcases List.mem_append.1 hx with hx|hx
   ·exact Me e _ _ _ BA x hx
   ·exact yt es _ _ _ h x hx
  ·cases h
end
mutual
theorem OU{f:cq->cq}(h0:f cH=cH):∀e,Ds (kg f e)=((Ds e).1,kg f (Ds e).2)
 |.mk op name n fold aD kids=>by
  rw[kg,Ds,Ds];by_cases h:op=5
  ·rw[if_pos h,if_pos h,Lj h0 kids]
  ·rw[if_neg h,if_neg h,kg]
theorem Lj{f:cq->cq}(h0:f cH=cH):∀es,mD (oF f es)=((mD es).1,kg f (mD es).2)
 |[]=>by
  have:kg f default=default:=by
   show kg f (.mk 0 cH 0 0 [] [])=.mk 0 cH 0 0 [] []
   rw[kg,h0,oF]
  rw[oF,mD,this]
 |e::es=>by rw[oF,mD,mD,OU h0 e]
end
end Go.Aft
end
section
set_option maxRecDepth 20000
namespace Go.Aft
open Go.Proofs.Tryz
theorem xB(l:List bh)(hl:l.length*40<=140737488351232)(hk:∀k∈l,aC prog 161 [lv (bU k)] (lv (bU k))):aC prog 160 [sl (l.map bU),.fn (.func 161) [] []] (sl (l.map bU)):=by
 have cc:=aP;refine aC.body aP func160 rfl call160 (by rw[ntmps160];simp) rfl λhf H=>?_
 simp[ntmps160,results160]at hf|-;refine AW.aV cc (λa:Nat×LV×GH=>⟨[(1,.fn (.func 161) [] []),(5,a.2.1),(8,.d (.sl (l.map bU))),(9,aH l.length),(10,aH a.1)],[],a.2.2⟩) (λa=>l.length-a.1) (λa=>a.1<=l.length/\CF 25 3 H a.2.1 ((l.take a.1).map bU) a.2.2) (0,.d (.k (.slice none 0 0)),H) ⟨⟨by simp,.nil⟩,by simp⟩ ?_
 rintro⟨i,x,H'⟩ ⟨hi,aA⟩;simp only at hi aA;simp;refine⟨λh=>?_,λh=>?_⟩
 ·have hd:=hk l[i] (List.getElem_mem h);simp[aO]at hd;simp[h,List.getElem?_eq_getElem h,aO,aA.plain.all];refine EC.aJ hd ?_;simp[aA.plain.all];refine eO.Cg bU (l.take i) [l[i]] Q7 rfl Q6 (by simp) s8 (x:=x) (by simp) aA (by simp[aO,rowsOf]) (by simp) (by simp;omega) (by simp) λx' H2 aF=>?_
  rw[show(l.take i)++[l[i]]=l.take (i+1)from aR h]at aF
  simp[aF.plain.all,aF.only,aB (n:=9223372036854775807) (show i<9223372036854775807 by omega)]
  exact NX.go (i+1,x',H2) (by simp;omega) ⟨h,aF⟩ (by simp[aF.only,aF.plain.all,LV.only])
 ·have:i=l.length:=by omega
  subst this;rw[List.take_length]at aA;have hz:=aA.fz;simp[aA.plain.all,hz.1];exact hz.2
theorem Hx(op n:Int)(kids:List bh)(hl:kids.length*40<=140737488351232)(hk:∀k∈kids,aC prog 161 [lv (bU k)] (lv (bU k))):aC prog 161 [lv (bU (.mk op n kids))] (lv (bU (.mk op n kids))):=by
 have he:=xB kids hl hk;refine aC.body aP func161 rfl call161 (by rw[ntmps161];simp) rfl λhf H=>?_
 simp[ntmps161,results161,aO,bh.op,bh.n,bh.kids]at he|-;refine EC.aJ he ?_;simp[aO,bh.op,bh.n,bh.kids]
mutual
theorem Le:∀c:bh,okC c->aC prog 161 [lv (bU c)] (lv (bU c))
 |.mk op n kids,h=>by
  rw[okC]at h;exact Hx op n kids h.1 (nD kids h.2)
theorem nD:∀cs:List bh,CY cs->∀k∈cs,aC prog 161 [lv (bU k)] (lv (bU k))
 |[],_,k,hk=>by cases hk
 |c::cs,h,k,hk=>by
  rw[CY]at h;rcases List.mem_cons.1 hk with q|hk
  ·rw[q];exact Le c h.1
  ·exact nD cs h.2 k hk
end
theorem Tk(g:bz->bz)(m:Nat)(l:List bz)(hl:l.length*88<=140737488351232)(H:GH)(o:GO)(hm:H.obj m=some o)(hk:∀k∈l,∀H',H'.obj m=some o->aG prog 163 [lv (aS k),.ip [.gm m] 0] H' λce H2=>ce=.ret (lv (aS (g k)))/\H2=H'):
  aG prog 162 [sl (l.map aS),.fn (.func 163) [] [.ip [.gm m] 0]] H λce H'=>ce=.ret (sl ((l.map g).map aS))/\H'=H:=by
 have cc:=aP;refine aG.bG aP func162 rfl call162 (by rw[ntmps162];simp) rfl λhf hw=>?_
 have hmn:=hw.lt hm;simp[ntmps162,results162]at hf|-;refine AW.aV cc (λa:Nat×LV×GH=>⟨[(1,.fn (.func 163) [] [.ip [.gm m] 0]),(5,a.2.1),(8,.d (.sl (l.map aS))),(9,aH l.length),(10,aH a.1)],[],a.2.2⟩) (λa=>l.length-a.1) (λa=>a.1<=l.length/\cu 68 6 H a.2.1 (((l.take a.1).map g).map aS) a.2.2) (0,.d (.k (.slice none 0 0)),H) ⟨⟨by simp,.nil⟩,by simp[LV.only,ec]⟩ ?_
 rintro⟨i,x,H'⟩ ⟨hi,aA⟩;simp only at hi aA;simp;refine⟨λh=>?_,λh=>?_⟩
 ·have hd:=hk l[i] (List.getElem_mem h) H' (by rw[aA.ob m hmn];exact hm)
  simp[aj]at hd;have hlt:m<H'.next:=Nat.lt_of_lt_of_le hmn aA.nx;simp[h,List.getElem?_eq_getElem h,aj,aA.plain.all];refine⟨by simp[LV.nb,cD,hlt],EC.of hd (λv H2 hR=>?_) (λv H2 hR=>by cases hR.1)⟩
  obtain⟨q,rfl⟩:=hR;cases q;simp[aA.plain.all];refine eO.dU (ys:=[aS (g l[i])]) Dl rfl Dk (by simp) (x:=x) (by simp) aA (by simp[aj,rowsOf]) (by simp) (λr hr=>by obtain⟨_,_,rfl⟩:=List.mem_map.1 hr;simp) (by simp) (by simp;omega) (by simp) λx' H3 aF _ _=>?_
  rw[show((l.take i).map g).map aS++[aS (g l[i])]=((l.take (i+1)).map g).map aS by rw[<-aR h,List.map_append,List.map_append];rfl]at aF
  simp[aF.plain.all,aF.only,aB (n:=9223372036854775807) (show i<9223372036854775807 by omega)]
  exact NX.go (i+1,x',H3) (by simp;omega) ⟨h,aF⟩ (by simp[aF.only,aF.plain.all,LV.only,ec])
 ·have:i=l.length:=by omega
  subst this;rw[List.take_length]at aA;simp[aA.plain.all,aA.fz];exact λhz=>aL aA.nx aA.ob hw.none
structure ai7(es:List (Value×LV))(f:cq->cq):Prop where
 get:∀s,(bD (.string s) es).getD (.d (.k (.string ⟨#[]⟩)))=.d (.k (.string (f s)))
 key:∀(a:Value) (b:LV),(a,b)∈es->(KK.sc Sc.str).has a=true
theorem CK(f:cq->cq)(h0:f cH=cH)(m:Nat)(es:List (Value×LV))(he:ai7 es f)(op:Int)(name:cq)(n fold:Int)(aD:List bh)(kids:List bz)(hc:CY aD)(lX:aD.length*40<=140737488351232)(jo:kids.length*88<=140737488351232)
  (ih:∀k∈kids,∀H,H.obj m=some (.map es)->aG prog 163 [lv (aS k),.ip [.gm m] 0] H λce H2=>ce=.ret (lv (aS (kg f k)))/\H2=H) (H:GH) (hm:H.obj m=some (.map es)):
  aG prog 96 [lv (aS (.mk op name n fold aD kids)),.gm m] H λce H2=>ce=.ret (lv (aS (kg f (.mk op name n fold aD kids))))/\H2=H:=by
 have cc:=au (p:=bf [3] [] []);refine aG.bG (au (p:=bf [3] [] [])) func96 rfl call96 (by rw[ntmps96];simp) rfl λhf hw=>?_
 have h1:=xB aD lX (nD aD hc);have h2:=Tk (kg f) m kids jo H _ hm ih;have hkey:=eq_true he.key;have dL:=he.get;have hmn:=hw.lt hm;have Uh:name=⟨#[]⟩->f name=name:=by rintro rfl;exact h0
 simp at h1 h2;simp[ntmps96,results96,aj,bz.op,bz.n,bz.kids,bz.name,bz.fold,bz.aD,hm,dL,hkey,kg,oE];refine⟨λq=>?_,λq=>?_⟩
 ·refine EC.aJ h1 ?_;simp;refine⟨by simp[LV.nb,cD,hmn],EC.of h2 (λv H2 hR=>?_) (λv H2 hR=>by cases hR.1)⟩
  obtain⟨q,rfl⟩:=hR;cases q;simp;exact λhz=>⟨hz.drop (Nat.le_refl _),by simp[aj,kg,oE]⟩
 ·refine EC.aJ h1 ?_;simp;refine⟨by simp[LV.nb,cD,hmn],EC.of h2 (λv H2 hR=>?_) (λv H2 hR=>by cases hR.1)⟩
  obtain⟨q',rfl⟩:=hR;cases q';simp[Uh q];exact λhz=>⟨hz.drop (Nat.le_refl _),by simp[aj,kg,oE,Uh q]⟩
theorem zV(f:cq->cq)(m:Nat)(o:GO)(e:bz)(ih:∀H,H.obj m=some o->aG prog 96 [lv (aS e),.gm m] H λce H2=>ce=.ret (lv (aS (kg f e)))/\H2=H)(H:GH)(hm:H.obj m=some o):
  aG prog 163 [lv (aS e),.ip [.gm m] 0] H λce H2=>ce=.ret (lv (aS (kg f e)))/\H2=H:=by
 have cc:=au (p:=bf [2] [] []);refine aG.bG (au (p:=bf [2] [] [])) func163 rfl call163 (by rw[ntmps163];simp) rfl λhf hw=>?_
 have h1:=ih H hm;have hmn:=hw.lt hm;simp[aj]at h1;simp[ntmps163,results163,aj];refine⟨hmn,EC.of h1 (λv H2 hR=>?_) (λv H2 hR=>by cases hR.1)⟩
 obtain⟨q,rfl⟩:=hR;cases q;simp;exact λhz=>⟨hz.drop (Nat.le_refl _),by simp[aj]⟩
mutual
theorem Fe(f:cq->cq)(h0:f cH=cH)(m:Nat)(es:List (Value×LV))(he:ai7 es f):∀e:bz,LY e->∀H,H.obj m=some (.map es)->aG prog 96 [lv (aS e),.gm m] H λce H2=>ce=.ret (lv (aS (kg f e)))/\H2=H
 |.mk op name n fold aD kids,h,H,hm=>by
  rw[LY]at h;exact CK f h0 m es he op name n fold aD kids h.2.2.1 h.1 h.2.1 (tQ f h0 m es he kids h.2.2.2) H hm
theorem tQ(f:cq->cq)(h0:f cH=cH)(m:Nat)(es:List (Value×LV))(he:ai7 es f):∀l:List bz,AR l->∀k∈l,∀H,H.obj m=some (.map es)->aG prog 163 [lv (aS k),.ip [.gm m] 0] H λce H2=>ce=.ret (lv (aS (kg f k)))/\H2=H
 |[],_,k,hk=>by cases hk
 |c::cs,h,k,hk=>by
  rw[AR]at h;rcases List.mem_cons.1 hk with q|hk
  ·rw[q];exact zV f m _ c (Fe f h0 m es he c h.1)
  ·exact tQ f h0 m es he cs h.2 k hk
end
end Go.Aft
end
