import Derived.Test.YthinedikejlgmaaGreatCa
import Derived.Test.YthinedikejlgmaaGreatCf
import Derived.Test.YthinedikejlgmaaGreatAm
set_option linter.all false
set_option maxRecDepth 20000
namespace Go.Aft
open Go.Proofs.Tryz
theorem Oc{t:Int}{a b:List Item}(h:bA t a=bA t b):qn 0 t a=qn 0 t b:=by
 have hc:∀l:List Item,qn 0 t l=(bA t l).filter λx=>decide (0<=x.aa.at_):=λl=>by
  unfold qn bA;rw[List.filter_filter];refine List.filter_congr λx _=>?_
  simp
 rw[hc,hc,h]
theorem zB{p:Prog}{l:List Event}(h:sv p l=true):dR p l=true/\∃D,dw p l=some D/\D.length=p.ai.length/\∀b∈D,bB b:=by
 unfold sv at h;rw[Bool.and_eq_true]at h;obtain⟨D,hD⟩:=Option.isSome_iff_exists.1 h.2;have:=vV h.1 hD;exact⟨h.1,D,hD,this.1,this.2⟩
theorem Bg(p:Prog)(hs:WI p)(l:List Event)(t:Int)(ht:0<=t/\t<256):aC prog 8 [lv (ar p),sl (l.map aQ),.d (.k (.int .u8 t))] (.d (.k (.bool true))):=by
 have cc:=au (p:=bf [3] [] []);refine aC.body (au (p:=bf [3] [] [])) func8 rfl call8 (by rw[ntmps8];simp) rfl λhf H=>?_
 have h1:=vS p hs l;simp[ar]at h1;simp[ntmps8,results8,ar];refine EC.aJ h1 ?_;cases YO:sv p l with
 |false=>
  simp;refine EC.aJ fO ?_;simp
 |true=>
  obtain⟨ha,D,hD,hDl,hDo⟩:=zB YO;obtain⟨hp,bm4,hi⟩:=iO ha;have g:=fA hp;have h2:=D7 p (by have:=g.n6;omega) λd hd=>Nat.le_trans (g.len d hd) (by omega)
  simp[ar]at h2;simp;refine EC.aJ h2 ?_;cases hlo:(p.ai.any λd=>(bc d.exp).any bJ)with
  |true=>
   simp;refine EC.aJ fO ?_;simp
  |false=>
   obtain⟨a,hae⟩:∃a,(IntKind.i64.wrap t).tmod 201=a:=⟨_,rfl⟩;have h3:=td p hs l;have Uf:gh p l=.dh [sl (D.map bY),aH 0]:=by unfold gh;rw[if_pos ha,hD]
   rw[Uf]at h3;have h4:=Pq l a (by omega)
   obtain⟨u,hu⟩:∃u,(l.filter λe=>decide (e.aa.at_<=a))=u:=⟨_,rfl⟩
   rw[hu]at h4;have h5:=vS p hs u;have h6:=td p hs u;simp[ar]at h3 h5 h6;simp at h4;simp;refine EC.aJ h3 ?_;simp;refine AW.draw cc [(3,.n),(4,.n)] (.q 1<|.q 2<|.q 3<|.q 0<|.q 4<|.q 5<|.done) (by kernel_rfl) ?_
   simp[ar,hae];refine FC.aJ h4 ?_;simp[ar];refine FC.aJ h5 ?_;simp;cases hfu:sv p u with
   |false=>
    simp;refine EC.aJ fO ?_;simp
   |true=>
    obtain⟨hau,D',hD',ae7,ae6⟩:=zB hfu;have ab4:gh p u=.dh [sl (D'.map bY),aH 0]:=by unfold gh;rw[if_pos hau,hD']
    rw[ab4]at h6;have BF:j8 a D D':=uf (Og hp hlo) (by rw[<-hu,List.filter_filter];simp) hD hD'
    simp;refine AW.draw cc [(3,.n),(4,.n)] (.q 1<|.q 2<|.q 3<|.q 0<|.q 4<|.q 5<|.q 6<|.q 7<|.q 8<|.q 9<|.done) (by kernel_rfl) ?_
    simp[ar,hae];refine FC.aJ h4 ?_;simp[ar];refine FC.aJ h6 ?_;simp[hDl,ae7,ar];refine AW.aV cc (λi:Nat=>⟨[(7,aH a),(8,sl (D.map bY)),(10,sl (D'.map bY)),(12,aH i)],[],H⟩) (λi=>D.length-i) (λi=>i<=D.length) 0 ⟨Nat.zero_le _,by simp⟩ λi hi'=>?_
    simp;refine⟨λh=>?_,λh=>?_⟩
    ·have h':i<D'.length:=by omega
     have b1:bB D[i]:=hDo _ (List.getElem_mem h);have b2:bB D'[i]:=ae6 _ (List.getElem_mem h');have p1:=nH D[i];have p2:=nH D'[i];rw[tD b1]at p1;rw[tD b2]at p2;have c1:=oG D[i] 0 a (by have:=b1.2.1;omega)
     have c2:=oG D'[i] 0 a (by have:=b2.2.1;omega)
     have he:qn 0 a D[i]=qn 0 a D'[i]:=Oc (by
      have:=BF.2 i;unfold bq at this;rw[List.getD_eq_getElem?_getD,List.getD_eq_getElem?_getD,List.getElem?_eq_getElem h,List.getElem?_eq_getElem h']at this;exact this)
     rw[<-he]at c2;have sm:=nh (qn 0 a D[i]) (qn 0 a D[i]);simp at p1 p2 c1 c2 sm;refine AW.draw cc [(4,.n),(11,.n),(20,.n),(26,.n),(27,.n)] (.q 0<|.q 1<|.q 2<|.q 3<|.q 4<|.q 5<|.q 6<|.q 7<|.q 8<|.q 9<|.q 10<|.q 11<|.q 12<|.q 13<|.q 14<|.q 15<|.q 16<|.q 17<|.q 19<|.q 21<|.q 22<|.q 23<|.q 25<|.q 18<|.q 20<|.q 24<|.q 26<|.q 27<|.q 28<|.q 29<|.done) (by kernel_rfl) ?_
     simp[h,h',List.getElem?_eq_getElem h,List.getElem?_eq_getElem h',bY];refine FC.aJ p1 ?_;simp[h',List.getElem?_eq_getElem h',bY];refine kN.aJ (λ_=>p2) ?_
     simp[h,h',List.getElem?_eq_getElem h,List.getElem?_eq_getElem h',bY];refine kN.aJ (λ_=>c1) ?_
     simp[h',List.getElem?_eq_getElem h',bY];refine kN.aJ (λ_=>c2) ?_
     simp;refine kN.aJ (λ_=>sm) ?_
     simp;exact NX.go (i+1) (by omega) h (by simp[aB (n:=1000) (show i<1000 by have:=g.n6;omega)])
    ·refine EC.aJ fO ?_;simp
end Go.Aft
