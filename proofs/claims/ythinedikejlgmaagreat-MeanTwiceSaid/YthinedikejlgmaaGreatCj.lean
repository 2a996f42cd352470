import Derived.Test.YthinedikejlgmaaGreatCh
import Derived.Test.YthinedikejlgmaaGreatBj
set_option linter.all false
set_option maxRecDepth 20000
namespace Go.Aft
open Go.Proofs.Tryz
theorem C4(p:Prog)(hs:WI p)(l:List Event)(Wo:l.length*40<=140737488351232)(x:Event):aC prog 11 [lv (ar p),sl (l.map aQ),lv (aQ x)] (.d (.k (.bool true))):=by
 intro H;have cc:=au (p:=bf [3,5] [] []);refine aG.bG (au (p:=bf [3,5] [] [])) func11 rfl call11 (by rw[ntmps11];simp) rfl λhf hw=>?_
 obtain⟨more,yC⟩:∃more,l++[x]=more:=⟨_,rfl⟩;have f1:=vS p hs l;have h2:=vG more p.az.length;have h3:=vS p hs more;have h4:=td p hs l;have h5:=td p hs more;simp[ar]at f1 h3 h4 h5;simp at h2;simp[ntmps11,results11,ar,aQ,bE]at hf|-;refine AW.draw cc [(2,.n)] (.q 0<|.q 2<|.q 3<|.f<|.one 1<|.f<|.one 4<|.q 5<|.done) (by kernel_rfl) ?_
 simp[aQ,bE];refine eO.dU (ys:=l.map aQ) (H0:=H) (rows:=[]) (x:=.d (.k (.slice none 0 0))) Q5 rfl Q3 (by simp) (by simp) cu.nil (by simp[rowsOf]) (by simp) (by simp) (λr hr=>by obtain⟨_,_,rfl⟩:=List.mem_map.1 hr;rfl) (by simp;omega) (by simp) λx1 H1 h1 _ _=>?_
 simp[h1.plain.all];refine eO.dU (ys:=[aQ x]) Q5 rfl Q3 (by simp) (x:=x1) (by simp[h1.plain.un]) h1 (by simp[aQ,bE,rowsOf]) (by simp) (λr hr=>by obtain⟨_,_,rfl⟩:=List.mem_map.1 hr;rfl) (λr hr=>by simp only[List.mem_singleton]at hr;subst hr;rfl) (by simp;omega) (by simp) λx2 H2 aA _ _=>?_
 have hmm:l.map aQ++[aQ x]=more.map aQ:=by rw[<-yC];simp
 rw[List.nil_append,hmm]at aA;simp[aA.plain.all];refine AW.WG 7 ?_;simp[aA.fz];refine AW.draw cc [(22,.n),(28,.n),(34,.n),(39,.n)] (.q 0<|.q 1<|.q 2<|.q 3<|.q 4<|.q 5<|.q 12<|.q 13<|.q 6<|.q 7<|.q 8<|.q 9<|.q 10<|.q 11<|.q 14<|.q 15<|.q 16<|.q 17<|.q 18<|.q 19<|.q 20<|.q 21<|.q 22<|.q 23<|.q 24<|.q 25<|.q 27<|.q 26<|.q 28<|.q 29<|.q 30<|.q 31<|.q 33<|.q 32<|.q 34<|.q 35<|.q 36<|.q 37<|.q 38<|.q 39<|.q 40<|.done) (by kernel_rfl) ?_
 have SG:(l=[]\/ ∃l0 z,l=l0++[z]/\¬x.aa.at_<z.aa.at_)\/ ∃l0 z,l=l0++[z]/\x.aa.at_<z.aa.at_:=by
  rcases List.eq_nil_or_concat l with q|⟨l0,z,q⟩
  ·exact .inl (.inl q)
  ·by_cases h:x.aa.at_<z.aa.at_
   ·exact .inr ⟨l0,z,by simpa using q,h⟩
   ·exact .inl (.inr ⟨l0,z,by simpa using q,h⟩)
 have vZ:(default:DV)=.k undef:=rfl;rcases SG with(hl0|⟨l0,z,hl0,hlt⟩)|⟨l0,z,hl0,hlt⟩
 rotate_left 2
 ·have Sj:IntKind.i64.wrap (l0.length:Int)=l0.length:=by rw[wrap64]<;>(rw[hl0]at Wo;simp at Wo;omega)
  simp[ar,aQ,bE,hl0,Sj,hlt]
  repeat (refine kN.aJ (v:=aH 0) (λq=>by cases q) ?_;try simp[ar,vZ,undef])
  refine EC.aJ fO ?_;simp;exact λhz=>aL aA.nx aA.ob hw.none
 all_goals
  first
  |simp[ar,aQ,bE,hl0,vZ,undef];done
  |skip
  obtain⟨f1',_⟩:aC prog 32 [lv (ar p),sl (l.map aQ)] (.d (.k (.bool (sv p l))))/\True:=⟨by simpa[ar]using f1,trivial⟩
  obtain⟨R,hR⟩:∃R,gh p l=R:=⟨_,rfl⟩;have f4':=td p hs l;rw[hR]at f4';simp only[hl0,List.map_append,List.map_cons,List.map_nil]at f1' f4';simp[ar,aQ,bE]at f1' f4'
  first
  |(have Sj:IntKind.i64.wrap (l0.length:Int)=l0.length:=by rw[wrap64]<;>(rw[hl0]at Wo;simp at Wo;omega));simp[ar,aQ,bE,hl0,Sj,hlt]
  |simp[ar,aQ,bE,hl0,vZ,undef]
  refine kN.aJ (λ_=>h2) ?_
  simp[ar,vZ,undef];cases hE:kL more p.az.length with
  |false=>
   try simp[ar,vZ,undef]
   repeat (refine kN.aJ (v:=aH 0) (λq=>by cases q) ?_;try simp[ar,vZ,undef])
   refine EC.aJ fO ?_;simp;exact λhz=>aL aA.nx aA.ob hw.none
  |true=>
   simp[ar];refine kN.aJ (λ_=>f1') ?_
   rw[<-hl0];cases hF1:sv p l with
   |false=>
    simp[ar,vZ,undef]
    repeat (refine kN.aJ (v:=aH 0) (λq=>by cases q) ?_;try simp[ar,vZ,undef])
    refine EC.aJ fO ?_;simp;exact λhz=>aL aA.nx aA.ob hw.none
   |true=>
    simp[ar,vZ,undef];refine kN.aJ (λ_=>h3) ?_
    cases hF2:sv p more with
    |false=>
     simp[ar,vZ,undef]
     repeat (refine kN.aJ (v:=aH 0) (λq=>by cases q) ?_;try simp[ar,vZ,undef])
     refine EC.aJ fO ?_;simp;exact λhz=>aL aA.nx aA.ob hw.none
    |true=>
     obtain⟨ha,D,hD,hDl,hDo⟩:=zB hF1;obtain⟨hau,D',hD',ae7,ae6⟩:=zB hF2;obtain⟨hp,bm4,hi⟩:=iO ha;have g:=fA hp;have hk:=D7 p (by have:=g.n6;omega) λd hd=>Nat.le_trans (g.len d hd) (by omega)
     obtain⟨lk,hlo⟩:∃lk,(p.ai.any λd=>(bc d.exp).any bJ)=lk:=⟨_,rfl⟩
     rw[hlo]at hk;simp[ar]at hk;simp[ar,vZ,undef];refine kN.aJ (λ_=>hk) ?_
     cases lk with
     |true=>
      simp[ar,vZ,undef];refine EC.aJ fO ?_;simp;exact λhz=>aL aA.nx aA.ob hw.none
     |false=>
      have Uf:gh p l=.dh [sl (D.map bY),aH 0]:=by unfold gh;rw[if_pos ha,hD]
      have ab4:gh p more=.dh [sl (D'.map bY),aH 0]:=by unfold gh;rw[if_pos hau,hD']
      rw[Uf]at hR;subst hR;rw[ab4]at h5;obtain⟨c,hc⟩:∃c,IntKind.i64.wrap (x.aa.at_-1)=c:=⟨_,rfl⟩;have Wd:x∈more:=by rw[<-yC];simp
      have hxa:=((iO hau).2.2 x Wd).1;have hc1:c=x.aa.at_-1:=by rw[<-hc,wrap64]<;>(simp only at hxa;omega)
      have BF:j8 c D D':=uf (Og hp hlo) (by
       rw[<-yC,List.filter_append,List.filter_cons_of_neg (by simp;omega),List.filter_nil,List.append_nil]) hD hD'
      simp[ar,vZ,undef];refine EC.aJ f4' ?_;simp;refine EC.aJ h5 ?_;simp[hDl,ae7,ar];refine AW.aV cc (λi:Nat=>⟨[(5,.ip ((aQ x).map .d) 0),(8,sl (D.map bY)),(10,sl (D'.map bY)),(12,aH i)],[],H2⟩) (λi=>D.length-i) (λi=>i<=D.length) 0 ⟨Nat.zero_le _,by simp[aQ,bE]⟩ λi hi'=>?_
      simp;refine⟨λh=>?_,λh=>?_⟩
      ·have h':i<D'.length:=by omega
       have b1:bB D[i]:=hDo _ (List.getElem_mem h);have b2:bB D'[i]:=ae6 _ (List.getElem_mem h');have p1:=nH D[i];have p2:=nH D'[i];rw[tD b1]at p1;rw[tD b2]at p2;have c1:=oG D[i] 0 c (by have:=b1.2.1;omega)
       have c2:=oG D'[i] 0 c (by have:=b2.2.1;omega)
       have he:qn 0 c D[i]=qn 0 c D'[i]:=Oc (by
        have:=BF.2 i;unfold bq at this;rw[List.getD_eq_getElem?_getD,List.getD_eq_getElem?_getD,List.getElem?_eq_getElem h,List.getElem?_eq_getElem h']at this;exact this)
       rw[<-he]at c2;have sm:=nh (qn 0 c D[i]) (qn 0 c D[i]);simp at p1 p2 c1 c2 sm;refine AW.draw cc [(4,.n),(11,.n),(23,.n),(32,.n),(33,.n)] (.q 0<|.q 1<|.q 2<|.q 3<|.q 4<|.q 5<|.q 6<|.q 7<|.q 8<|.q 9<|.q 10<|.q 11<|.q 12<|.q 13<|.q 14<|.q 15<|.q 16<|.q 17<|.q 19<|.q 20<|.q 24<|.q 25<|.q 26<|.q 28<|.q 29<|.q 18<|.q 21<|.q 22<|.q 23<|.q 27<|.q 30<|.q 31<|.q 32<|.q 33<|.q 34<|.q 35<|.done) (by kernel_rfl) ?_
       simp[h,h',List.getElem?_eq_getElem h,List.getElem?_eq_getElem h',bY,aQ,bE];refine FC.aJ p1 ?_;simp[h',List.getElem?_eq_getElem h',bY,aQ,bE];refine kN.aJ (λ_=>p2) ?_
       simp[h,h',List.getElem?_eq_getElem h,List.getElem?_eq_getElem h',bY,aQ,bE,hc];refine kN.aJ (λ_=>c1) ?_
       simp[h',List.getElem?_eq_getElem h',bY,aQ,bE,hc];refine kN.aJ (λ_=>c2) ?_
       simp;refine kN.aJ (λ_=>sm) ?_
       simp;exact NX.go (i+1) (by omega) h (by simp[aB (n:=1000) (show i<1000 by have:=g.n6;omega),aQ,bE])
      ·refine EC.aJ fO ?_;simp;exact λhz=>aL aA.nx aA.ob hw.none
end Go.Aft
