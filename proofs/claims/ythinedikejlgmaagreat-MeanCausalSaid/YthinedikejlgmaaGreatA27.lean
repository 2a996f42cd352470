import Derived.Test.YthinedikejlgmaaGreatA26
import Derived.Test.YthinedikejlgmaaGreatA22
import Derived.Test.YthinedikejlgmaaGreatA21
set_option linter.all false
section
set_option maxRecDepth 20000
namespace Go.Aft
open Go.Proofs.Tryz
def ni(e sz N:Nat)(x:LV)(rows:List (List DV))(G:GH):Prop:=cu e sz ⟨G.obj,N⟩ x rows G
theorem ni.keep{e sz N:Nat}{x:LV}{rows:List (List DV)}{G G':GH}(h:ni e sz N x rows G)(hn:G.next<=G'.next)(ho:∀m,N<=m->m<G.next->G'.obj m=G.obj m):ni e sz N x rows G':=by
 refine⟨?_,Nat.le_trans h.nx hn,λm hm=>rfl⟩
 rcases h.is with q|⟨n,q1,q2,q3,q4⟩
 ·exact .inl q
 ·simp only at q1;exact .inr ⟨n,q1,by omega,q3,by rw[ho n q1 q2];exact q4⟩
theorem ni.nil{e sz N:Nat}{G:GH}(h:N<=G.next):ni e sz N (.d (.k (.slice none 0 0))) [] G:=⟨.inl ⟨rfl,rfl⟩,h,λ_ _=>rfl⟩
theorem ni.of{e sz N:Nat}{B:GH}(hB:B.next=N){x:LV}{rows:List (List DV)}{G:GH}(h:cu e sz B x rows G):ni e sz N x rows G:=by
 refine⟨?_,hB▸h.nx,λm hm=>rfl⟩
 rcases h.is with q|⟨n,q1,q2,q3,q4⟩
 ·exact .inl q
 ·exact .inr ⟨n,by simp only;omega,q2,q3,q4⟩
theorem Cp.keep{H H':GH}{n m1 m2 m3:Nat}{az ai:List cq}{a k:Int}(h:Cp H n m1 m2 m3 az ai a k)(hw:gU H)(ho:∀m,m<H.next->H'.obj m=H.obj m):Cp H' n m1 m2 m3 az ai a k:=
 ⟨by rw[ho _ (hw.lt h.sc)];exact h.sc,by rw[ho _ (hw.lt h.o1)];exact h.o1,by rw[ho _ (hw.lt h.o2)];exact h.o2,by rw[ho _ (hw.lt h.o3)];exact h.o3⟩
theorem Ru(l:List (List Nat)):∀r∈l.map rT,r.length=1:=λr hr=>by obtain⟨_,_,rfl⟩:=List.mem_map.1 hr;rfl
def qy(n:Nat)(R:Nat->Nat->Bool)(i:Nat):Bool:=R i i&&(bQ n R i).head? ==some i
def fc(n:Nat)(R:Nat->Nat->Bool)(i:Nat):List (List Nat):=((List.range i).filter (qy n R)).map (bQ n R)
theorem lM.af2{es:List (Value×LV)}{M:Nat->Bool}(h:lM es M)(k:Nat):(bD (.int .i64 k) es).getD (.d (.k (.bool false)))=.d (.k (.bool (M k))):=by
 rw[h.get k];cases M k<;>rfl
theorem Fq(n:Nat)(R:Nat->Nat->Bool)(i:Nat):fc n R (i+1)=fc n R i++(if qy n R i=true then[bQ n R i]else[]):=by
 unfold fc;rw[List.range_succ,List.filter_append,List.map_append,List.filter_cons];cases q:qy n R i<;>simp
theorem O2{n:Nat}{R:Nat->Nat->Bool}(ht:∀i j k,R i j=true->R j k=true->R i k=true){i:Nat}(hi:i<n):(((fc n R i).any λr=>r.contains i)|| !R i i)= !qy n R i:=by
 have hin:((fc n R i).any λr=>r.contains i)=true↔∃j,j<i/\qy n R j=true/\i∈bQ n R j:=by
  simp only[fc,List.any_eq_true,List.mem_map,List.mem_filter,List.mem_range];constructor
  ·rintro⟨r,⟨j,⟨h1,h2⟩,rfl⟩,h3⟩;exact⟨j,h1,h2,by simpa using h3⟩
  ·rintro⟨j,h1,h2,h3⟩;exact⟨_,⟨j,⟨h1,h2⟩,rfl⟩,by simpa using h3⟩
 have hsame:∀j,R i j=true->R j i=true->bQ n R j=bQ n R i:=λj h1 h2=>by
  unfold bQ;refine List.filter_congr λk _=>?_
  rw[Bool.eq_iff_iff];simp only[Bool.or_eq_true,beq_iff_eq,Bool.and_eq_true];constructor
  ·rintro(rfl|⟨h3,h4⟩)
   ·exact .inr ⟨h1,h2⟩
   ·exact .inr ⟨ht _ _ _ h1 h3,ht _ _ _ h4 h2⟩
  ·rintro(rfl|⟨h3,h4⟩)
   ·exact .inr ⟨h2,h1⟩
   ·exact .inr ⟨ht _ _ _ h2 h3,ht _ _ _ h4 h1⟩
 cases hq:qy n R i with
 |true=>
  simp only[qy,Bool.and_eq_true,beq_iff_eq]at hq;have h1:((fc n R i).any λr=>r.contains i)=false:=by
   rw[Bool.eq_false_iff];intro z;obtain⟨j,hj,hjq,hm⟩:=hin.1 z;simp only[qy,Bool.and_eq_true,beq_iff_eq]at hjq;have:=bL.1 hm;have h2:R j i=true/\R i j=true:=by
    rcases this.2 with e|e
    ·omega
    ·exact e
   have:=hsame j h2.2 h2.1;rw[this,hq.2]at hjq;have:=Option.some.inj hjq.2;omega
  rw[h1,hq.1];rfl
 |false=>
  cases hr:R i i with
  |false=>simp
  |true=>
   have h1:((fc n R i).any λr=>r.contains i)=true:=by
    refine hin.2 ?_;have hmem:i∈bQ n R i:=bL.2 ⟨hi,.inl rfl⟩;obtain⟨j,hj⟩:∃j,(bQ n R i).head?=some j:=by
     cases h:bQ n R i with
     |nil=>rw[h]at hmem;cases hmem
     |cons a l=>exact⟨a,rfl⟩
    have hjm:j∈bQ n R i:=List.mem_of_mem_head? (by rw[hj];exact rfl)
    obtain⟨hjn,hji⟩:=bL.1 hjm;have hne:j≠i:=λe=>by
     rw[e]at hj;simp[qy,hr,hj]at hq
    have qS:R i j=true/\R j i=true:=by
     rcases hji with e|e
     ·exact absurd e hne
     ·exact e
    have hs:=hsame j qS.1 qS.2;refine⟨j,?_,?_,by rw[hs];exact hmem⟩
    ·have PI:(bQ n R i).Pairwise (·<·):=List.pairwise_lt_range.filter _
     cases h:bQ n R i with
     |nil=>rw[h]at hj;cases hj
     |cons a l=>
      rw[h]at hj hmem PI;simp at hj;subst hj;rcases List.mem_cons.1 hmem with e|e
      ·exact absurd e.symm hne
      ·exact(List.pairwise_cons.1 PI).1 _ e
    ·simp only[qy,hs,hj,Bool.and_eq_true,beq_self_eq_true,and_true];exact ht _ _ _ qS.2 qS.1
   rw[h1];rfl
theorem Ns{p:Prog}{i k:Nat}(h:Path (gb p) i k):k<p.ai.length:=by
 have key:∀i k,gb p i k->k<p.ai.length:=λi k ⟨_,e,_,_,h⟩=>by
  have:=oc (an p) e.name;have h2:(an p).length=p.ai.length:=by simp[an]
  omega
 induction h with
 |one h=>exact key _ _ h
 |cons _ _ ih=>exact ih
theorem Lg(p:Prog)(lW:∀s∈p.az++an p,cN s)(hp:formed p)(g:Good p)(H:GH):
  aG prog 120 [lv (ar p)] H λce H'=>ce=.ret (.dh [sl ((dO p.ai.length (aZ p)).map rT),aH 0])/\H'=H:=by
 have cc:=au (p:=bf [1] [] []);refine aG.dG (au (p:=bf [1] [] [])) func120 rfl call120 (by rw[ntmps120];simp) rfl λhf hw=>?_
 have hlk:=rf p lW H;simp[ar]at hlk;simp[ntmps120,results120,ar]at hf|-;refine AW.seq cc ?_;simp;refine AW.seq cc ?_;simp;refine EC.of hlk (λv H1 hR=>?_) (λv H1 hR=>by rw[if_pos hp]at hR;obtain⟨⟨_,q,_⟩,_⟩:=hR;cases q)
 rw[if_pos hp]at hR;obtain⟨⟨sn,q,hrefs,dK,m1,m2,m3,ah,nd,zb⟩,wJ,ho1⟩:=hR;cases q;simp;refine AW.T7 (λhw1=>?_)
 simp only at hw1;have Wg:=hw1.lt zb.sc;refine AW.seq cc ?_;simp;refine AW.seq cc ?_;simp;refine AW.seq cc ?_;simp;refine AW.seq cc ?_;simp;obtain⟨n,hn⟩:∃n,p.ai.length=n:=⟨_,rfl⟩;obtain⟨R,hR⟩:∃R,aZ p=R:=⟨_,rfl⟩;have Ug:n<=6:=hn▸g.n6;obtain⟨mi,F6⟩:∃mi,H1.next=mi:=⟨_,rfl⟩;rw[hn,hR,F6];have hi1:=zb;refine AW.D4 cc (λa:Nat×LV×List (Value×LV)×GH=>⟨[(1,.ip ((ar p).map .d) 0),(4,.gp sn 0),(5,a.2.1),(6,.gm mi),(19,aH n),(20,aH a.1)],[],a.2.2.2⟩) (λa=>n-a.1)
  (λa=>a.1<=n/\mi+1<=a.2.2.2.next/\a.2.2.2.obj mi=some (.map a.2.2.1)/\lM a.2.2.1 (λk=>(fc n R a.1).any λr=>r.contains k)/\(∀m,m<mi->a.2.2.2.obj m=H1.obj m)/\ni 94 1 (mi+1) a.2.1 ((fc n R a.1).map rT) a.2.2.2)
  (0,.d (.k (.slice none 0 0)),[],H1.add (.map [])) ⟨⟨Nat.zero_le _,?_,?_,?_,?_,?_⟩,by simp[ar]⟩ ?_
 ·simp only[GH.aq];omega
 ·simp only[GH.ax];rw[if_pos F6.symm]
 ·simp only[fc];simpa using lM.nil
 ·exact λm hm=>by simp only[GH.ax];rw[if_neg (by omega)]
 ·simpa[fc]using ni.nil (by rw[GH.aq];omega)
 rintro⟨i,x,es,G⟩ ⟨hi,c0,c1,c2,c3,c4⟩;simp only at hi c0 c1 c2 c3 c4;refine AW.seq cc ?_;simp[ar];refine AW.seq cc ?_;simp;refine⟨λh=>?_,λh=>?_⟩
 ·have hsc:Cp G sn m1 m2 m3 p.az (an p) ah nd:=zb.keep hw1 (λm hm=>c3 m (by rw[<-F6];exact hm))
  have NJ:=λ(k:Nat) (hk:k<n) (G:GH) (hG:Cp G sn m1 m2 m3 p.az (an p) ah nd)=>uw p hrefs sn m1 m2 m3 ah nd k (by omega) G hG
  have Bw:=NJ i h G hsc;simp[ar]at Bw;refine AW.ZU (c:=xC (bf [1] [] [])) ?_;refine AW.block (c:=xC (bf [1] [] [])) ?_;refine AW.seq cc ?_;simp;refine AW.seq cc ?_;simp;refine⟨by omega,EC.of Bw (λv G2 hR=>?_) (λv G2 hR=>by cases hR.1)⟩
  obtain⟨q,er,hG2,hmr⟩:=hR;cases q;rw[hG2]
  clear hG2
  simp;have Eh:=c2.af2 i;have Db:∀k,(bD (.int .i64 ((k:Nat):Int)) er).getD (.d (.k (.bool false)))=.d (.k (.bool (R i k))):=λk=>by rw[hmr.af2 k,<-hR];rfl
  have hks:=eq_true c2.key;have hkr:=eq_true hmr.key;have og:∀X,(G.add X).obj mi=some (.map es):=λX=>by rw[GH.ax,if_neg (by omega)];exact c1
  have og2:∀X,(G.add X).obj G.next=some X:=λX=>by rw[GH.ax,if_pos rfl]
  have Bu:=O2 (n:=n) (R:=R) (λi j k h1 h2=>by rw[<-hR]at h1 h2|-;simp only[aZ,decide_eq_true_eq]at h1 h2|-;exact h1.trans h2) h
  have hsu:=Fq n R i;obtain⟨jT,bn0⟩:∃jT,((fc n R i).any λr=>r.contains i)=jT:=⟨_,rfl⟩
  rw[bn0]at Bu Eh;refine AW.seq cc ?_;simp[og,og2,hks,hkr,Eh,Db];have eM:=aB (n:=9223372036854775807) (show i<9223372036854775807 by omega)
  have hGn:∀X,G.next<=(G.add X).next:=λX=>by rw[GH.aq];omega
  have hGo:∀X m,m<G.next->(G.add X).obj m=G.obj m:=λX m hm=>by rw[GH.ax,if_neg (by omega)]
  have hx1:ni 94 1 (mi+1) x ((fc n R i).map rT) (G.add (.map er)):=c4.keep (hGn _) λm _ hm=>hGo _ m hm
  refine⟨λq=>?_,λq1 q2=>?_⟩
  ·have hrq:qy n R i=false:=by
    have h1:(jT|| !R i i)=true:=by
     rcases q with q|q<;>simp[q]
    rw[Bu]at h1;simpa using h1
   rw[hrq]at hsu;simp only[Bool.false_eq_true,if_false,List.append_nil]at hsu;refine AW.ev cc ?_;simp[eM];exact NX.go (i+1,x,es,G.add (.map er)) (by simp only;omega) ⟨h,by simp only[GH.aq];omega,og _,by simp only;rw[hsu];exact c2,λm hm=>by simp only;rw[hGo _ m (by omega)];exact c3 m hm,by simp only;rw[hsu];exact hx1⟩ (by simp[ar,c4.only])
  ·have hrq:qy n R i=true:=by
    have h1:(jT|| !R i i)=false:=by rw[q1,q2];rfl
    rw[Bu]at h1;simpa using h1
   rw[hrq]at hsu;simp only[if_true]at hsu;obtain⟨L,hL⟩:∃L,(List.range n).filter (R i)=L:=⟨_,rfl⟩;have Pz:=qZ (m:=G.next) (n:=n) (by omega) hmr (λk hk=>by rw[<-hn];exact Ns (by simpa[pT]using hk)) (og2 _)
   have hRi:pT p i=R i:=by rw[<-hR];rfl
   rw[hRi,hL]at Pz;refine AW.seq cc ?_;simp;refine AW.seq cc ?_;simp;refine⟨by rw[GH.aq];omega,EC.of Pz (λv G3 hR=>?_) (λv G3 hR=>by cases hR.1)⟩
   obtain⟨q,rfl⟩:=hR;cases q;simp;obtain⟨B,hB⟩:∃B,B=G.add (.map er):=⟨_,rfl⟩;rw[<-hB]at hx1|-;have br4:B.obj mi=some (.map es):=by rw[hB];exact og _
   have hBn:B.next=G.next+1:=by rw[hB];rfl
   have hBl:∀m,m<mi->B.obj m=H1.obj m:=λm hm=>by rw[hB,hGo _ m (by omega)];exact c3 m hm
   have hLl:L.length<=6:=by rw[<-hL];exact Nat.le_trans (List.length_filter_le _ _) (by simp;omega)
   refine AW.aV cc (λa:Nat×LV×List (Value×LV)×GH=>⟨[(1,.ip ((ar p).map .d) 0),(4,.gp sn 0),(5,x),(6,.gm mi),(7,aH i),(9,a.2.1),(19,aH n),(20,aH i),(37,sl ((bX L).map rI)),(38,aH L.length),(39,aH a.1)],[],a.2.2.2⟩) (λa=>L.length-a.1)
    (λa=>a.1<=L.length/\B.next<=a.2.2.2.next/\a.2.2.2.obj mi=some (.map a.2.2.1)/\lM a.2.2.1 (λk=>((fc n R i).any λr=>r.contains k)||((L.take a.1).filter λk=>R k i).contains k)/\(∀m,m<B.next->m≠mi->a.2.2.2.obj m=B.obj m)/\ni 3 1 B.next a.2.1 ((bX ((L.take a.1).filter λk=>R k i)).map rI) a.2.2.2)
    (0,.d (.k (.slice none 0 0)),es,B) ⟨⟨Nat.zero_le _,Nat.le_refl _,br4,by simpa using c2,λm hm _=>rfl,by simpa[bX]using ni.nil (Nat.le_refl _)⟩,by simp[ar,hx1.only,bX]⟩ ?_
   rintro⟨j,y,es2,G4⟩ ⟨hj,d0,d1,d2,d3,d4⟩;simp only at hj d0 d1 d2 d3 d4;simp;refine⟨λhjl=>?_,λhjl=>?_⟩
   ·have PF:j<L.length:=by simpa[bX]using hjl
    obtain⟨k,hk⟩:∃k,L[j]=k:=⟨_,rfl⟩;have gx:L.take (j+1)=L.take j++[k]:=by rw[<-aR PF,hk]
    have hkm:k∈L:=hk▸List.getElem_mem PF;have hkn:k<n:=by rw[<-hL]at hkm;exact List.mem_range.1 (List.mem_filter.1 hkm).1
    have bk3:Cp G4 sn m1 m2 m3 p.az (an p) ah nd:=zb.keep hw1 λm hm=>by rw[d3 m (by omega) (by omega)];exact hBl m (by omega)
    have hr4:=NJ k hkn G4 bk3;simp[ar]at hr4;have qR:(bX L)[j]?=some (k:Int):=by simp[bX,List.getElem?_eq_getElem PF,hk]
    simp[PF,qR,rI,ar,bX,hk];refine⟨by omega,EC.of hr4 (λv G5 hR=>?_) (λv G5 hR=>by cases hR.1)⟩
    obtain⟨q,er4,hG5,hm4⟩:=hR;cases q;rw[hG5]
    clear hG5
    have o5:∀X,(G4.add X).obj G4.next=some X:=λX=>by rw[GH.ax,if_pos rfl]
    have o5m:∀X,(G4.add X).obj mi=some (.map es2):=λX=>by rw[GH.ax,if_neg (by omega)];exact d1
    have h4g:(bD (.int .i64 ((i:Nat):Int)) er4).getD (.d (.k (.bool false)))=.d (.k (.bool (R k i))):=by rw[hm4.af2 i,<-hR];rfl
    have hk4:=eq_true hm4.key;have hk2:=eq_true d2.key;have Sk:=aB (n:=9223372036854775807) (show j<9223372036854775807 by omega)
    have KW:(L.take (j+1)).filter (λk=>R k i)=(L.take j).filter (λk=>R k i)++(if R k i=true then[k]else[]):=by
     rw[gx,List.filter_append,List.filter_cons];cases R k i<;>simp
    have hfl:((L.take j).filter λk=>R k i).length<=6:=Nat.le_trans (List.length_filter_le _ _) (by simp;omega)
    have d4':ni 3 1 B.next y ((bX ((L.take j).filter λk=>R k i)).map rI) (G4.add (.map er4)):=d4.keep (by rw[GH.aq];omega) λm _ hm=>by rw[GH.ax,if_neg (by omega)]
    simp[o5,hk4,h4g,d4.plain.all];refine⟨λhq=>?_,λhq=>?_⟩
    ·rw[hq]at KW;simp only[if_true]at KW;refine eO.dU (H0:=⟨(G4.add (.map er4)).obj,B.next⟩) (ys:=[rI (k:Nat)]) mB rfl Hi (by simp) (x:=y) (by simp) d4' (by simp[rowsOf,rI]) (by simp) (λr hr=>by obtain⟨_,_,rfl⟩:=List.mem_map.1 hr;rfl) (λr hr=>by simp only[List.mem_singleton]at hr;subst hr;rfl) (by simp[bX];omega) (by simp) λy' G6 h6 Ug _=>?_
     simp only[GH.aq]at Ug;have br5:G6.obj mi=some (.map es2):=by rw[h6.ob mi (by simp only;omega)];exact o5m _
     simp[h6.plain.all,br5,hk2];have hy6:ni 3 1 B.next y' ((bX ((L.take (j+1)).filter λk=>R k i)).map rI) (G6.set mi (.map (cr (.int .i64 (k:Int)) (.d (.k (.bool true))) es2))):=by
      have h7:ni 3 1 B.next y' _ G6:=ni.of (B:=⟨(G4.add (.map er4)).obj,B.next⟩) rfl h6;have h8:=h7.keep (G':=G6.set mi (.map (cr (.int .i64 (k:Int)) (.d (.k (.bool true))) es2))) (by rw[GH.aM];exact Nat.le_refl _) λm hm _=>by rw[GH.ay,if_neg (by omega)]
      rw[KW];simpa[bX]using h8
     refine NX.go (j+1,y',cr (.int .i64 (k:Int)) (.d (.k (.bool true))) es2,G6.set mi (.map (cr (.int .i64 (k:Int)) (.d (.k (.bool true))) es2))) (by simp only;omega) ⟨PF,by simp only[GH.aM];omega,GH.aY,(d2.put k).congr λu=>?_,λm hm hne=>?_,hy6⟩ (by simp[ar,hx1.only,h6.only,bX,Sk])
     ·simp only[ga];rw[KW];by_cases e:u=k
      ·rw[if_pos e,e];simp
      ·rw[if_neg e];simp[e]
     ·simp only;rw[GH.ay,if_neg hne,h6.ob m (by simp only;omega)]
      simp only;rw[GH.ax,if_neg (by omega)]
      exact d3 m hm hne
    ·rw[hq]at KW;simp only[Bool.false_eq_true,if_false,List.append_nil]at KW;exact NX.go (j+1,y,es2,G4.add (.map er4)) (by simp only;omega) ⟨PF,by simp only[GH.aq];omega,o5m _,by simp only;rw[KW];exact d2,λm hm hne=>by simp only;rw[GH.ax,if_neg (by omega)];exact d3 m hm hne,by simp only;rw[KW];exact d4'⟩ (by simp[ar,hx1.only,d4.only,bX,Sk])
   ·have e1:j=L.length:=by
     have:¬j<L.length:=by simpa[bX]using hjl
     omega
    subst e1;rw[List.take_length]at d2 d4;have ay2:L.filter (λk=>R k i)=bQ n R i:=by
     rw[<-hL,List.filter_filter,bQ];refine List.filter_congr λk _=>?_
     rw[Bool.eq_iff_iff];simp only[Bool.and_eq_true,Bool.or_eq_true,beq_iff_eq];exact⟨λq=>.inr ⟨q.2,q.1⟩,λq=>by rcases q with rfl|q;exact⟨q2,q2⟩;exact⟨q.2,q.1⟩⟩
    rw[ay2]at d2 d4;have bJ3:(bQ n R i).length<=6:=Nat.le_trans (List.length_filter_le _ _) (by simp;omega)
    refine AW.WG 9 (AW.ev cc ?_);simp[hx1.plain.all,d4.fz];have hx4:ni 94 1 (mi+1) x ((fc n R i).map rT) G4:=hx1.keep d0 λm hm1 hm2=>d3 m hm2 (by omega)
    have hrl:(fc n R i).length<=6:=by
     unfold fc;rw[List.length_map];exact Nat.le_trans (List.length_filter_le _ _) (by simp;omega)
    refine eO.dU (H0:=⟨G4.obj,mi+1⟩) (ys:=[rT (bQ n R i)]) zT rfl mB (by simp) (x:=x) (by simp) hx4 (by simp[rowsOf,rT,bX]) (by simp) (Ru _) (λr hr=>by simp only[List.mem_singleton]at hr;subst hr;rfl) (by simp;omega) (by simp) λx' G6 h6 Ug _=>?_
    simp only at Ug;simp[h6.plain.all];refine AW.ev cc ?_;simp[h6.plain.all,eM];have h7:ni 94 1 (mi+1) x' _ G6:=ni.of (B:=⟨G4.obj,mi+1⟩) rfl h6;refine NX.go (i+1,x',es2,G6) (by simp only;omega) ⟨h,by simp only;omega,by simp only;rw[h6.ob mi (by simp only;omega)];exact d1,d2.congr λu=>?_,λm hm=>?_,?_⟩ (by simp[ar,h6.only])
    ·simp only;rw[hsu,List.any_append];simp
    ·simp only;rw[h6.ob m (by simp only;omega)]
     simp only;rw[d3 m (by omega) (by omega)];exact hBl m hm
    ·simp only;rw[hsu,List.map_append];exact h7
 ·have e1:i=n:=by omega
  subst e1;refine AW.ev cc ?_;simp[c4.plain.all,c4.fz];exact λ_=>⟨aL (by omega) (λm hm=>by rw[c3 m (by omega)];exact ho1 m hm) hw.none,rfl⟩
theorem C8(l:List Int)(q:Int->Bool)(f:FuncId)(cap:List LV)(H:GH)(hcap:cD H.next cap)(hc:∀n∈l,aG prog f ([aH n]++cap) H λce H'=>ce=.ret (.d (.k (.bool (q n))))/\H'=H):
  aG prog 176 [sl (l.map rI),.fn (.func f) [] cap] H λce H'=>ce=.ret (aH (Bq q l))/\H'=H:=by
 have cc:=aP;refine aG.bG aP func176 rfl call176 (by rw[ntmps176];simp) rfl λhf hw=>?_
 simp[ntmps176,results176]at hf|-;refine AW.aV cc (λi:Nat=>⟨[(0,.d (.sl (l.map rI))),(1,.fn (.func f) [] cap),(7,aH l.length),(8,aH i)],[],H⟩) (λi=>l.length-i) (λi=>i<=l.length/\∀j (h:j<l.length),j<i->q l[j]=false) 0 ⟨by simp,by simp[LV.only,cT _ hcap,ec]⟩ ?_
 rintro i ⟨hi,hk⟩;simp;refine⟨λh=>?_,λh=>?_⟩
 ·have gY:=hc l[i] (List.getElem_mem h);simp at gY;simp[h,List.getElem?_eq_getElem h,rI];refine⟨hcap,EC.of gY (λv H2 hR=>?_) (λv H2 hR=>?_)⟩
  ·obtain⟨e,rfl⟩:=hR;cases e;simp[aB h hf.1.1];refine⟨λe=>λhz=>⟨hz.drop (Nat.le_refl _),(zo h e hk).symm⟩,λe=>NX.go (i+1) (Nat.sub_lt_sub_left h (Nat.lt_succ_self i)) ⟨h,λj hj hji=>?_⟩ (by simp[cT _ hcap])⟩
   by_cases z:j=i
   ·subst z;exact e
   ·exact hk j hj (by omega)
  ·cases hR.1
 ·exact λhz=>⟨hz.drop (Nat.le_refl _),(tn λj hj=>hk j hj (by omega)).symm⟩
theorem xf(l:List Int)(q:Int->Bool)(f:FuncId)(cap:List LV)(H:GH)(hcap:cD H.next cap)(hc:∀n∈l,aG prog f ([aH n]++cap) H λce H'=>ce=.ret (.d (.k (.bool (q n))))/\H'=H):
  aG prog 123 [sl (l.map rI),.fn (.func f) [] cap] H λce H'=>ce=.ret (.d (.k (.bool (l.any q))))/\H'=H:=by
 have cc:=aP;refine aG.bG aP func123 rfl call123 (by rw[ntmps123];simp) rfl λhf hw=>?_
 have hi:=C8 l q f cap H hcap hc;simp at hi;simp[ntmps123,results123,LV.nb,cD,hcap];refine EC.of hi (λv H2 hR=>?_) (λv H2 hR=>?_)
 ·obtain⟨e,rfl⟩:=hR;cases e;simp;refine λhz=>⟨hz.drop (Nat.le_refl _),?_⟩
  rw[<-vY q l]
 ·cases hR.1
theorem Pv(l:List Int)(k:Int):aC prog 177 [sl (l.map rI),aH k] (aH (Bq (λx=>decide (x=k)) l)):=by
 have cc:=aP;refine aC.body aP func177 rfl call177 (by rw[ntmps177];simp) rfl λhf H=>?_
 simp[ntmps177,results177]at hf|-;refine AW.aV cc (λi:Nat=>⟨[(0,.d (.sl (l.map rI))),(1,aH k),(7,aH l.length),(8,aH i)],[],H⟩) (λi=>l.length-i) (λi=>i<=l.length/\∀j (h:j<l.length),j<i->decide (l[j]=k)=false) 0 ⟨by simp,by simp⟩ ?_
 rintro i ⟨hi,hk⟩;simp;refine⟨λh=>?_,λh=>?_⟩
 ·simp[h,List.getElem?_eq_getElem h,rI,aB h hf.1];refine⟨λe=>(zo h (by simp[e]) hk).symm,λe=>NX.go (i+1) (Nat.sub_lt_sub_left h (Nat.lt_succ_self i)) ⟨h,λj hj hji=>?_⟩ (by simp)⟩
  by_cases z:j=i
  ·subst z;rw[decide_eq_false_iff_not];exact λq=>e q.symm
  ·exact hk j hj (by omega)
 ·exact(tn λj hj=>hk j hj (by omega)).symm
theorem vX(l:List Int)(k:Int):aC prog 125 [sl (l.map rI),aH k] (.d (.k (.bool (decide (k∈l))))):=by
 refine aC.body aP func125 rfl call125 (by rw[ntmps125];simp) rfl λhf H=>?_
 have hi:=Pv l k;simp at hi;simp[ntmps125,results125];refine EC.aJ hi ?_;simp;have:=vY (λx=>decide (x=k)) l
 have h2:(0<=Bq (λx=>decide (x=k)) l)↔(l.any λx=>decide (x=k))=true:=by rw[<-this];simp
 rw[h2];simp
theorem Hv(p:Prog)(lW:∀s∈p.az++an p,cN s)(hp:formed p)(d:Nat)(hd:d<p.ai.length)(H:GH):
  aG prog 97 [lv (ar p),aH d] H λce H'=>(∃n,ce=.ret (.dh [.gp n 0,.d (.k (.bool true))])/\n<H'.next/\Ak p/\∃m1 m2 m3 a k,H.next<=n/\Cp H' n m1 m2 m3 p.az (an p) a k)/\gU H'/\H.next<=H'.next/\∀m,m<H.next->H'.obj m=H.obj m:=by
 have cc:=au (p:=bf [2] [] []);refine aG.bG (au (p:=bf [2] [] [])) func97 rfl call97 (by rw[ntmps97];simp) rfl λhf hw=>?_
 have hlk:=rf p lW H;simp[ar]at hlk;simp[ntmps97,results97,ar]at hf|-;refine EC.of hlk (λv H1 hR=>?_) (λv H1 hR=>by rw[if_pos hp]at hR;obtain⟨⟨_,q,_⟩,_⟩:=hR;cases q)
 rw[if_pos hp]at hR;obtain⟨⟨sn,q,hrefs,dK,m1,m2,m3,ah,nd,zb⟩,wJ,ho1⟩:=hR;cases q;simp;refine AW.T7 (λhw1=>?_)
 simp only at hw1;have Wg:=hw1.lt zb.sc;refine AW.draw cc [] (.q 0<|.q 1<|.q 2<|.q 3<|.q 4<|.q 5<|.q 6<|.q 7<|.q 8<|.q 9<|.q 14<|.q 10<|.q 11<|.q 12<|.q 13<|.q 15<|.done) (by kernel_rfl) ?_
 simp[ar];exact λhz=>⟨H1,hz.drop wJ,Wg,⟨sn,⟨rfl,hd⟩,Wg,hrefs,dK,m1,m2,m3,ah,nd,zb⟩,hz,wJ,ho1⟩
end Go.Aft
end
section
set_option maxRecDepth 20000
namespace Go.Aft
open Go.Proofs.Tryz
open Go.Sort (insertionSort)
theorem Fc{m n:Nat}(hn:n<=12){es:List (Value×LV)}{M:Nat->Bool}{H:GH}(hM:lM es M)(hb:∀k,M k=true->k<n)(hm:H.obj m=some (.map es)):
  aG prog 101 [.gm m] H λce H'=>∃x,ce=.ret x/\lB 3 1 H x ((bX ((List.range n).filter M)).map rI) H':=by
 have cc:=au (p:=bf [] [] [14]);refine aG.MY (au (p:=bf [] [] [14])) func101 rfl call101 (by rw[ntmps101];simp) rfl λhf hw=>?_
 have hmn:=hw.lt hm;obtain⟨ks,hkn,hke⟩:=hM.nat;have hkm:=hM.mem hke;have hel:es.length=ks.length:=by have:=congrArg List.length hke;simpa using this
 have jo:ks.length<=n:=fZ n ks hkn λi hi=>hb i ((hkm i).1 hi)
 have hkeys:es.all (λe=>oS e.1)=true:=List.all_eq_true.2 λe he=>by
  have:e.1∈es.map (·.1):=List.mem_map.2 ⟨e,he,rfl⟩
  rw[hke]at this;obtain⟨k,_,q⟩:=List.mem_map.1 this;rw[<-q];rfl
 have dL:∀(i:Nat) (e:Value×LV),es[i]?=some e->e.1=Value.int .i64 (ks.getD i 0:Nat):=λi e he=>by
  have h1:(es.map (·.1))[i]?=some e.1:=by simp[he]
  rw[hke]at h1;simp only[List.getElem?_map,Option.map_eq_some_iff]at h1;obtain⟨k,h2,h3⟩:=h1;rw[<-h3];simp[List.getD,h2]
 simp[ntmps101,results101];refine AW.seq cc ?_;simp;refine AW.seq cc ?_;simp;refine AW.seq cc ?_;simp[hm];refine AW.aV cc (λa:List Nat×LV×GH=>⟨[(3,a.2.1),(6,.gp H.next 0)],[],a.2.2⟩) (λa=>Fa es.length (λi=>decide (i∈a.1)))
  (λa=>a.1.Nodup/\(∀i∈a.1,i<es.length)/\lB 3 1 (H.add (GQ m es a.1)) a.2.1 ((iG ks a.1).map rI) a.2.2)
  ([],.d (.k (.slice none 0 0)),H.add (GQ m es [])) ⟨⟨by simp,by simp,by simpa[iG]using lB.nil⟩,by simp[GQ]⟩ ?_
 rintro⟨seen,x,H2⟩ ⟨s1,s2,hv⟩;simp only at s1 s2 hv;have oi:H2.obj H.next=some (GQ m es seen):=by rw[hv.ob _ (by rw[GH.aq];omega),GH.ax,if_pos rfl]
 have om:H2.obj m=some (.map es):=by rw[hv.ob _ (by rw[GH.aq];omega),GH.ax,if_neg (by omega)];exact hm
 have YI:seen.length<=es.length:=fZ _ _ s1 s2;simp;refine ST.next (n:=H.next) (m:=m) (seen:=seen) (es:=es) (by simp) oi om (by simp) rfl rfl hkeys (λi e he hi=>?_) (λhend=>?_)
 ·have hi':=(List.getElem?_eq_some_iff.1 he).1;have hk:=dL i e he;obtain⟨e1,e2⟩:=e;simp only at hk;subst hk;simp;refine ST.entry (n:=H.next) (m:=m) (seen:=seen++[i]) (es:=es) (i:=i) (e:=_) (by simp) (by rw[GH.aY]) (by rw[GH.ay,if_neg (by omega)];exact om) (by simp) rfl hkeys (by simp) he ?_
  obtain⟨H3,vl⟩:∃H3,H2.set H.next (GO.iter m es.length (seen++[i]) es.length)=H3:=⟨_,rfl⟩;have F3:=hv.set (k:=H.next) (by rw[GH.aq];omega) (GQ m es (seen++[i]))
  have fE:∀a b:GO,(H.add a).set H.next b=H.add b:=λa b=>GH.cV
  rw[show H2.set H.next (GQ m es (seen++[i]))=H3 from vl,fE]at F3
  have dK:(seen++[i]).Nodup:=by
   rw[List.nodup_append];exact⟨s1,by simp,λa ha b hb=>by simp at hb;subst hb;intro q;subst q;exact hi ha⟩
  have Jv:Fa es.length (λj=>decide (j∈seen++[i]))<Fa es.length (λj=>decide (j∈seen)):=by
   have:=qW (n:=es.length) (M:=λj=>decide (j∈seen)) hi' (by simpa using hi)
   have e2:ga (λj=>decide (j∈seen)) i=λj=>decide (j∈seen++[i]):=by
    funext j;simp only[ga];by_cases q:j=i<;>simp[q]
   rw[e2]at this;exact this
  have hall:∀j∈seen++[i],j<es.length:=λj hj=>by
   rcases List.mem_append.1 hj with q|q
   ·exact s2 j q
   ·simp at q;subst q;exact hi'
  have hwk:iG ks (seen++[i])=iG ks seen++[((ks.getD i 0:Nat):Int)]:=by simp[iG]
  have Sj:(iG ks seen).length=seen.length:=by simp[iG]
  obtain⟨kv,hkv⟩:∃kv:Int,((ks.getD i 0:Nat):Int)=kv:=⟨_,rfl⟩;rw[hkv]at hwk|-;simp[vl,oT];refine⟨hv.plain.tO,eO.Kr (ys:=[rI kv]) mB rfl Hi (by simp) (x:=x) (by simp[hv.plain.all]) F3 (by simp[kO,rowsOf,rI]) (by simp) (Fz _) (λr hr=>by simp only[List.mem_singleton]at hr;subst hr;rfl) (by simp;omega) (by simp) λx' H5 h5 _ _=>?_⟩
  simp[h5.plain.all];refine NX.go (seen++[i],x',H5) Jv ⟨dK,hall,?_⟩ (by simp[h5.only])
  rw[hwk,List.map_append];exact h5
 ·simp;have mQ:=zQ (ks:=ks) s1 (by rw[<-hel];exact s2) (by rw[<-hel];exact hend)
  have nu:rp (iG ks seen)=bX ((List.range n).filter M):=by
   have h1:=Dv hkn (n:=n) (M:=M) λk=>⟨λq=>⟨hb k ((hkm k).1 q),(hkm k).1 q⟩,λq=>(hkm k).2 q.2⟩
   rw[<-h1];have qQ:(bX ks).Nodup:=by
    unfold bX;rw[List.Nodup,List.pairwise_map];exact hkn.imp λ{a b} q e=>q (by omega)
   have ac1:(iG ks seen).Nodup:=mQ.symm.nodup qQ;exact iH (lt:=λa b:Int=>a<b) (λa=>by omega) (λ_ _ _ p q=>by omega) (oA _ ac1) (oA _ qQ) λx=>by rw[(eT _).mem_iff,(eT _).mem_iff,mQ.mem_iff]
  obtain⟨W,hW⟩:∃W,iG ks seen=W:=⟨_,rfl⟩;rw[hW]at hv nu mQ;have hWl:W.length<=12:=by rw[mQ.length_eq];simp[bX];omega
  have o2:∀m,m<H.next->H2.obj m=H.obj m:=λm hm=>by rw[hv.ob m (by rw[GH.aq];omega),GH.ax,if_neg (by omega)]
  have n2:=hv.nx;rw[GH.aq]at n2;refine AW.seq cc ?_;simp[hv.plain.all];rcases id hv.is with⟨q1,rfl⟩|⟨n',g,q1,q2,rfl,q4,q5⟩
  ·have hW0:W=[]:=by simpa using q1
   have ad3:bX ((List.range n).filter M)=[]:=by rw[<-nu,hW0];exact List.Perm.eq_nil (eT [])
   have hs0:=Ec H2;refine⟨by simp[LV.nb],EC.of hs0 (λv H3 hR=>?_) (λv H3 hR=>by obtain⟨⟨_,e⟩,_⟩:=hR;cases e)⟩
   obtain⟨_,rfl⟩:=hR;simp;refine AW.ev cc ?_;simp[ad3];exact λhz=>⟨_,hz.drop (by omega),⟨.inl ⟨rfl,rfl⟩,by omega,o2⟩⟩
  ·rw[mV]at q4;rw[GH.aq]at q1;have hs:=Jk W.toArray (by simpa using hWl) n' H2 g (by simpa using q4)
   have hsz:W.toArray.size=W.length:=by simp
   rw[hsz]at hs;have hWm:(W.map rI).length=W.length:=by simp
   rw[hWm];refine⟨by simp[LV.nb];omega,EC.of hs (λv H3 hR=>?_) (λv H3 hR=>by obtain⟨⟨_,e⟩,_⟩:=hR;cases e)⟩
   obtain⟨_,hE⟩:=hR;rw[hE];have Pz:(insertionSort Bd W.toArray 0 W.length).toList=bX ((List.range n).filter M):=nu;rw[Pz];simp;obtain⟨F,hF⟩:∃F,bX ((List.range n).filter M)=F:=⟨_,rfl⟩;have PO:F.length=W.length:=by rw[<-hF,<-nu];exact(eT W).length_eq
   rw[hF];refine AW.ev cc ?_;simp;have o3:∀m,m<H.next->(H2.set n' (.vec 3 g 1 (F.map aH) false)).obj m=H.obj m:=λm hm=>by rw[GH.ay,if_neg (by omega)];exact o2 m hm
   refine λhz=>⟨_,hz.drop (by rw[GH.aM];omega),by rw[GH.aM];exact q2,⟨.inr ⟨n',g,by omega,by rw[GH.aM];exact q2,by rw[List.length_map,PO],by rw[GH.aY,mV],λe=>q5 ?_⟩,by rw[GH.aM];omega,o3⟩⟩
   have:F.length=0:=by have:=congrArg List.length e;simpa using this
   exact List.eq_nil_of_length_eq_zero (by rw[List.length_map];omega)
theorem Lh(p:Prog)(lW:∀s∈p.az++an p,cN s)(hp:formed p)(hs1:0<p.az.length)(Mt:p.az.length<=12)(g:Good p)(d:Nat)(hd:d<p.ai.length)(H:GH):
  aG prog 122 [lv (ar p),aH d] H λce H'=>(∃l0:List Int,ce=.ret (.dh [sl (l0.map rI),sl ((bX ((List.range p.ai.length).filter (aZ p d))).map rI),aH 0]))/\H'=H:=by
 have cc:=gF (r:=none) (f:=122) (p:=bf [2] [7,10] [31]);have ccR:∀l,(xD (some l) 122 (bf [2] [7,10] [31])).ok prog:=λl=>gF
 refine aG.dG (gF (r:=none) (f:=122) (p:=bf [2] [7,10] [31])) func122 rfl call122 (by rw[ntmps122];simp) rfl λhf hw=>?_
 have hlk:=Hv p lW hp d hd H;simp[ar]at hlk;simp[ntmps122,results122,ar]at hf|-;refine AW.seq cc ?_;simp;refine AW.seq cc ?_;simp;refine EC.of hlk (λv H1 hR=>?_) (λv H1 hR=>by obtain⟨⟨_,q,_⟩,_⟩:=hR;cases q)
 obtain⟨⟨sn,q,Wg,hrefs,dK,m1,m2,m3,ah,nd,zb⟩,hw1,wJ,ho1⟩:=hR;cases q;simp[GH.ax,GH.aq,GH.cV];refine⟨by omega,?_⟩
 obtain⟨H2,vm⟩:∃H2,H1.add (.box [.gp sn 0])=H2:=⟨_,rfl⟩;have e2:H2.next=H1.next+1:=by rw[<-vm];rfl
 have l2:∀m,m<H1.next->H2.obj m=H1.obj m:=λm hm=>by rw[<-vm,GH.ax,if_neg (by omega)]
 have b7:H2.obj H1.next=some (.box [.gp sn 0]):=by rw[<-vm,GH.ax,if_pos rfl]
 rw[vm];refine AW.T7 (λGU=>?_)
 simp only at GU;refine AW.seq cc ?_;simp;refine AW.seq cc ?_;simp[b7];have hs2:Cp H2 sn m1 m2 m3 p.az (an p) ah nd:=zb.keep hw1 l2;have NJ:=uw p hrefs sn m1 m2 m3 ah nd d hd H2 hs2;simp[ar]at NJ;refine⟨by omega,EC.of NJ (λv G2 hR=>?_) (λv G2 hR=>by cases hR.1)⟩
 obtain⟨q,er,hE,hmr⟩:=hR;cases q;rw[hE]
 clear hE
 simp;obtain⟨H3,vl⟩:∃H3,H2.add (.map er)=H3:=⟨_,rfl⟩;have e3:H3.next=H1.next+2:=by rw[<-vl,GH.aq,e2]
 have l3:∀m,m<H2.next->H3.obj m=H2.obj m:=λm hm=>by rw[<-vl,GH.ax,if_neg (by omega)]
 have br:H3.obj (H1.next+1)=some (.map er):=by rw[<-vl,GH.ax,e2,if_pos rfl]
 rw[vl,e2];refine AW.seq cc ?_;simp[GH.ax,GH.aq];refine⟨by omega,?_⟩
 obtain⟨H4,NW⟩:∃H4,((H3.add (.map [])).add (.box [.d (.k (.map none))])).set (H3.next+1) (.box [.gm H3.next])=H4:=⟨_,rfl⟩;have e4:H4.next=H1.next+4:=by rw[<-NW,GH.aM,GH.aq,GH.aq,e3]
 have l4:∀m,m<H3.next->H4.obj m=H3.obj m:=λm hm=>by rw[<-NW,GH.ay,if_neg (by omega),GH.ax,if_neg (by rw[GH.aq];omega),GH.ax,if_neg (by omega)]
 have bm:H4.obj (H1.next+2)=some (.map []):=by rw[<-NW,GH.ay,if_neg (by omega),GH.ax,if_neg (by rw[GH.aq];omega),GH.ax,if_pos (by omega)]
 have b10:H4.obj (H1.next+3)=some (.box [.gm (H1.next+2)]):=by rw[<-NW,e3,GH.ay,if_pos rfl]
 rw[NW]
 clear NW
 have hRd:pT p d=aZ p d:=rfl;rw[hRd]at hmr;have CI:∀k,aZ p d k=true->k<p.ai.length:=λk hk=>Ns (by simpa[aZ]using hk)
 have Pz:=Fc (m:=H1.next+1) (n:=p.ai.length) (H:=H4) (by have:=g.n6;omega) hmr CI (by rw[l4 _ (by omega)];exact br)
 obtain⟨L,hL⟩:∃L,(List.range p.ai.length).filter (aZ p d)=L:=⟨_,rfl⟩;rw[hL]at Pz;refine AW.seq cc ?_;simp;refine⟨by omega,EC.of Pz (λv G2 hR=>?_) (λv G2 hR=>by obtain⟨_,q,_⟩:=hR;cases q)⟩
 obtain⟨x,q,hv⟩:=hR;cases q;simp[hv.plain.all];have hLl:L.length<=6:=by rw[<-hL];exact Nat.le_trans (List.length_filter_le _ _) (by simp;exact g.n6)
 refine eO.Kr (ys:=[rI (d:Nat)]) mB rfl Hi (by simp) (x:=v) (by simp) hv (by simp[kO,rowsOf,rI]) (by simp) (Fz _) (λr hr=>by simp only[List.mem_singleton]at hr;subst hr;rfl) (by simp[bX];omega) (by simp) λx' H5 h5 hn5 _=>?_
 obtain⟨ks,hks⟩:∃ks,L++[d]=ks:=⟨_,rfl⟩;have hrows:(bX L).map rI++[rI (d:Nat)]=(bX ks).map rI:=by rw[<-hks];simp[bX]
 have bL2:ks.length<=7:=by rw[<-hks];simp;omega
 have bm5:∀k∈ks,k<p.ai.length:=λk hk=>by
  rw[<-hks]at hk;rcases List.mem_append.1 hk with q|q
  ·rw[<-hL]at q;exact List.mem_range.1 (List.mem_filter.1 q).1
  ·simp at q;omega
 rw[hrows]at h5;have bO4:=h5.nx;have PP:=h5.ob;rcases id h5.is with⟨q1,_⟩|⟨n',gg,q1,q2,rfl,q4,_⟩
 ·exfalso;have:ks.length=0:=by have:=congrArg List.length q1;simpa[bX]using this
  rw[<-hks]at this;simp at this
 rw[mV]at q4;have hrl:((bX ks).map rI).length=ks.length:=by simp[bX]
 rw[hrl];simp;obtain⟨N0,hN0⟩:∃N0,H5.next=N0:=⟨_,rfl⟩;have hs5:Cp H5 sn m1 m2 m3 p.az (an p) ah nd:=hs2.keep GU λm hm=>by rw[PP m (by omega),l4 m (by omega),l3 m hm]
 have g7:H5.obj H1.next=some (.box [.gp sn 0]):=by rw[PP _ (by omega),l4 _ (by omega),l3 _ (by omega)];exact b7
 have gr:H5.obj (H1.next+1)=some (.map er):=by rw[PP _ (by omega),l4 _ (by omega)];exact br
 have gm:H5.obj (H1.next+2)=some (.map []):=by rw[PP _ (by omega)];exact bm
 have g10:H5.obj (H1.next+3)=some (.box [.gm (H1.next+2)]):=by rw[PP _ (by omega)];exact b10
 have gl:∀m,m<H.next->H5.obj m=H.obj m:=λm hm=>by rw[PP m (by omega),l4 m (by omega),l3 m (by omega),l2 m (by omega)];exact ho1 m hm
 refine AW.T7 (λhw5=>?_)
 simp only at hw5;refine AW.YC cc (λa:Nat×List (Value×LV)×GH×List Nat=>⟨[(2,.ip ((ar p).map .d) 0),(7,.gp H1.next 0),(9,.gm (H1.next+1)),(10,.gp (H1.next+3) 0),(31,.vs n' gg 1 0 ks.length),(32,aH ks.length),(33,aH a.1)],[],a.2.2.1⟩) (λa=>a.2.2.2.map .mark) (λa=>ks.length-a.1)
  (λa=>a.1<=ks.length/\(∃M,lM a.2.1 M/\∀k,M k=true->k<p.az.length)/\N0<=a.2.2.1.next/\a.2.2.1.obj (H1.next+2)=some (.map a.2.1)/\(∀m,m<N0->m≠H1.next+2->a.2.2.1.obj m=H5.obj m)/\a.2.2.2.Nodup/\∀n∈a.2.2.2,N0<=n/\n<a.2.2.1.next/\a.2.2.1.obj n=some .qI)
  (0,[],H5,[]) ⟨⟨Nat.zero_le _,⟨_,lM.nil,λk hk=>by cases hk⟩,by simp only;omega,gm,λm hm _=>rfl,by simp,by simp⟩,by simp[ar,e3]⟩ ?_
 rintro⟨i,es,G,ms⟩ ⟨hi,⟨M,hM,zq⟩,c0,c1,c2,c3,c4⟩;simp only at hi c0 c1 c2 c3 c4;have gv:G.obj n'=some (.vec 3 gg 1 ((bX ks).map aH) false):=by rw[c2 _ (by omega) (by omega)];exact q4
 have f7:G.obj H1.next=some (.box [.gp sn 0]):=by rw[c2 _ (by omega) (by omega)];exact g7
 have fr:G.obj (H1.next+1)=some (.map er):=by rw[c2 _ (by omega) (by omega)];exact gr
 have f10:G.obj (H1.next+3)=some (.box [.gm (H1.next+2)]):=by rw[c2 _ (by omega) (by omega)];exact g10
 have hwi:=aB (n:=9223372036854775807) (show i<9223372036854775807 by omega)
 simp[ar];refine⟨λh=>?_,λh=>?_⟩
 ·obtain⟨k,hk⟩:∃k,ks[i]=k:=⟨_,rfl⟩;have hkm:k∈ks:=hk▸List.getElem_mem h;have hkn:=bm5 k hkm;have qR:(bX ks)[i]?=some (k:Int):=by simp[bX,List.getElem?_eq_getElem h,hk]
  have By:=pK p.ai[k].exp;simp[aj]at By;simp[gv,qR,hkn,List.getElem?_eq_getElem hkn,fm,aj];refine⟨h,EC.aJ By ?_⟩;simp;refine AW.at (c:=xD none 122 (bf [2] [7,10] [31])) ⟨[(2,.ip ((ar p).map .d) 0),(7,.gp H1.next 0),(9,.gm (H1.next+1)),(10,.gp (H1.next+3) 0),(31,.vs n' gg 1 0 ks.length),(32,aH ks.length),(33,aH i),(43,iF p.ai[k].exp)],[],G⟩ (by simp[ar,iF,LV.only,aj]) ?_
  refine AW.T7 λqD=>?_
  simp only[LS.CP]at qD;refine fh.rangeFunc rfl rfl (f:=164) (first:=[]) (cap:=[.ip ((aS p.ai[k].exp).map .d) 0]) (by simp[iF]) (by simp[iF])
   [(2,.ip ((ar p).map .d) 0),(7,.gp H1.next 0),(9,.gm (H1.next+1)),(10,.gp (H1.next+3) 0)] (by simp[ny]) (by simp[ny,LV.nb,cD];omega) (by simp[cD,LV.nb]) ?_
  simp only[LS.CP,List.nil_append,List.singleton_append];generalize hx:LP.mk _ _ _ _ _ _ _=x;have Jp:x.f=122:=by rw[<-hx]
  have F2:x.d=G.next:=by rw[<-hx]
  have dc:∀t,(x.env t).nb (G.next+2):=by
   rw[<-hx];intro t;refine zG ?_ t;simp[ny,LV.nb,cD];omega
  obtain⟨E,hE⟩:∃E,p.ai[k].exp=E:=⟨_,rfl⟩;rw[hE];obtain⟨J,hJ⟩:∃J:Nat->GH->Prop,J=λ(_:Nat) H'=>∃es' M',H'.obj (G.next+1)=some (x.go .ready none)/\H'.obj G.next=some .qI/\(∀m,m<G.next->m≠H1.next+2->H'.obj m=G.obj m)/\H'.obj (H1.next+2)=some (.map es')/\lM es' M'/\∀k,M' k=true->k<p.az.length:=⟨_,rfl⟩
  have hI:Iter prog (G.next+1) (G.next+2) (je E) J (λ_=>False) (λ_ _=>False):=by
   refine⟨λ{i Hq Hr} hj lY _=>?_,λh=>h.elim,λh=>h.elim,λ{i Hq} hj m o hm ho=>?_,λh=>h.elim,λh=>h.elim,?_⟩
   ·rw[hJ]at hj|-;obtain⟨es',M',q1,q2,q3,q4,q5,q6⟩:=hj;exact⟨es',M',by rw[lY _ (by omega)];exact q1,by rw[lY _ (by omega)];exact q2,λm hm hne=>by rw[lY _ (by omega)];exact q3 m hm hne,by rw[lY _ (by omega)];exact q4,q5,q6⟩
   ·rw[hJ]at hj;obtain⟨es',M',q1,q2,q3,q4,q5,q6⟩:=hj;by_cases e1:m=G.next+1
    ·subst e1;rw[q1]at ho;cases ho;exact⟨by rw[F2];omega,dc⟩
    ·by_cases e2:m=G.next
     ·subst e2;rw[q2]at ho;cases ho;trivial
     ·by_cases e3:m=H1.next+2
      ·subst e3;rw[q4]at ho;cases ho;exact q5.nb _
      ·rw[q3 m (by omega) e3]at ho
       exact GO.fu (by omega) (qD.nb m o ho)
   ·intro j Ga r hr hN tG hj;rw[hJ]at hj;obtain⟨es',M',q1,q2,q3,q4,q5,q6⟩:=hj;obtain⟨e,he,rfl⟩:∃e,(bc E)[j]?=some e/\r=lv (aS e):=by
     simp only[je,List.getElem?_map,Option.map_eq_some_iff]at hr;obtain⟨e,h1,h2⟩:=hr;exact⟨e,h1,h2.symm⟩
    refine ei.ofN (c:=λl=>xD (some l) 122 (bf [2] [7,10] [31])) ccR (λl=>by simp[Jp]) q1 ⟨_,by rw[Jp];exact func122⟩ (by rw[<-hx];rfl) (by rw[<-hx];simp) λhz l=>?_
    have xa:=(congrArg LP.lR hx).symm;have xb:=(congrArg LP.body hx).symm;have xe:=(congrArg LP.env hx).symm;have xp:=(congrArg LP.ps hx).symm;have xn:=(congrArg LP.nt hx).symm;dsimp only at xa xb xe xp xn;rw[xa,xb,xe,xp,xn]
    clear xa xb xe xp xn hx
    simp[aj,mI];refine⟨q1,?_⟩;generalize kp:x.go .busy none=ob;have hsame:(Ga.set (G.next+1) ob).set (G.next+1) (x.go .ready none)=Ga:=by rw[GH.set_set,GH.iX q1]
    have hcc:∀m,m<G.next->(Ga.set (G.next+1) ob).obj m=Ga.obj m:=λm hm=>by rw[GH.ay,if_neg (by omega)]
    refine AW.ev (ccR l) ?_;simp;refine⟨λhop=>?_,λ_ Px=>⟨⟨.busy,none,by rw[GH.aY,kp]⟩,Ga,by rw[hsame];exact tG.drop (Nat.le_refl _),GH.same.refl,by rw[hJ];exact⟨es',M',q1,q2,q3,q4,q5,q6⟩⟩⟩
    obtain⟨Gb,hGb⟩:∃Gb,Ga.set (G.next+1) ob=Gb:=⟨_,rfl⟩;rw[hGb]at hcc;rw[hGb];have k0:Gb.obj sn=some (scp [.gm m1,.gm m2,.gm m3] ah nd):=by
     have:=GU.lt hs2.sc;rw[hcc _ (by omega),q3 _ (by omega) (by omega),c2 _ (by omega) (by omega)];exact hs5.sc
    have k1:Gb.obj m1=some (.map (ee p.az 0)):=by
     have:=GU.lt hs2.o1;rw[hcc _ (by omega),q3 _ (by omega) (by omega),c2 _ (by omega) (by omega)];exact hs5.o1
    have k7:Gb.obj H1.next=some (.box [.gp sn 0]):=by rw[hcc _ (by omega),q3 _ (by omega) (by omega)];exact f7
    have k10:Gb.obj (H1.next+3)=some (.box [.gm (H1.next+2)]):=by rw[hcc _ (by omega),q3 _ (by omega) (by omega)];exact f10
    have km:Gb.obj (H1.next+2)=some (.map es'):=by rw[hcc _ (by omega)];exact q4
    have hkey:=eq_true q5.key;obtain⟨kn,hkn,bL4⟩:∃kn:Nat,Iy p.az e.name=(kn:Int)/\kn<p.az.length:=by
     have h1:=oc p.az e.name;unfold Iy
     split
     ·exact⟨0,rfl,hs1⟩
     ·exact⟨(idx p.az e.name).toNat,by omega,by omega⟩
    refine AW.draw (ccR l) [] (.q 6<|.q 0<|.q 1<|.q 2<|.q 3<|.q 4<|.q 5<|.q 7<|.q 8<|.f<|.one 9<|.done) (by kernel_rfl) ?_
    simp[k0,k1,k7,k10,km,scp,pV,kJ,hkn,hkey];have YK:=q5.put kn;have GW:∀X,(Gb.set (H1.next+2) X).set (G.next+1) (x.go .ready none)=Ga.set (H1.next+2) X:=λX=>by
     rw[<-hGb,GH.set_comm (show G.next+1≠H1.next+2 by omega),GH.set_set]
     exact GH.iX (by rw[GH.ay,if_neg (by omega)];exact q1)
    intro Px;refine⟨⟨.busy,none,by rw[GH.ay,if_neg (by omega),<-hGb,GH.aY,kp]⟩,Ga.set (H1.next+2) (.map (cr (.int .i64 (kn:Int)) (.d (.k (.bool true))) es')),?_,⟨rfl,λm hm=>by rw[GH.ay,if_neg (by omega)]⟩,?_⟩
    ·rw[GW];exact(tG.set (o:=.map (cr (.int .i64 (kn:Int)) (.d (.k (.bool true))) es')) (by omega) (YK.nb _)).drop (by rw[GH.aM];exact Nat.le_refl _)
    ·rw[hJ];refine⟨_,_,by rw[GH.ay,if_neg (by omega)];exact q1,by rw[GH.ay,if_neg (by omega)];exact q2,λm hm hne=>by rw[GH.ay,if_neg hne];exact q3 m hm hne,GH.aY,YK,λu hu=>?_⟩
     unfold ga at hu
     split at hu
     ·omega
     ·exact q6 u hu
  have hj0:J 0 ((G.add .qI).add (x.go .ready none)):=by
   rw[hJ];exact⟨es,M,by rw[GH.ax,GH.aq,if_pos rfl],by rw[GH.ax,GH.aq,if_neg (by omega),GH.ax,if_pos rfl],λm hm _=>by rw[GH.ax,GH.aq,if_neg (by omega),GH.ax,if_neg (by omega)],
    by rw[GH.ax,GH.aq,if_neg (by omega),GH.ax,if_neg (by omega)];exact c1,hM,zq⟩
  have hall:=wV hI (by omega) ((G.add .qI).add (x.go .ready none)) (by rw[GH.aq,GH.aq];omega) hj0
  refine hall.mono λce H6 hR=>?_
  obtain⟨hs6,hR⟩:=hR;cases ce with
  |ej x=>exact hR.elim
  |ret v=>
   rcases hR with hR|hR
   ·rw[hJ]at hR;obtain⟨es2,M2,q1,q2,q3,q4,q5,q6⟩:=hR;refine⟨.ready,none,q1,by simp,?_⟩
    simp[yz,F2];have Ug:H6.next=G.next+2:=by rw[hs6.next,GH.aq,GH.aq]
    refine NXD.go (i+1,es2,H6.set (G.next+1) (x.go .exhausted none),G.next::ms) (by simp only;omega) ⟨h,⟨M2,q5,q6⟩,by simp only[GH.aM];omega,by simp only;rw[GH.ay,if_neg (by omega)];exact q4,λm hm hne=>?_,?_,λu hu=>?_⟩ (by simp[ar,hwi])
    ·simp only;rw[GH.ay,if_neg (by omega),q3 _ (by omega) hne]
     exact c2 m hm hne
    ·simp only;refine List.nodup_cons.2 ⟨λhq=>?_,c3⟩
     have:=(c4 _ hq).2.1;omega
    ·simp only at hu|-;rcases List.mem_cons.1 hu with rfl|hu
     ·exact⟨by omega,by rw[GH.aM];omega,by rw[GH.ay,if_neg (by omega)];exact q2⟩
     ·have:=c4 u hu;exact⟨this.1,by rw[GH.aM];omega,by rw[GH.ay,if_neg (by omega),q3 _ (by omega) (by omega)];exact this.2.2⟩
   ·exact hR.elim
 ·have bk0:=qZ (m:=H1.next+2) (n:=p.az.length) (H:=G) Mt hM zq c1;have ax5:=qZ (m:=H1.next+1) (n:=p.ai.length) (H:=G) (by have:=g.n6;omega) hmr CI fr
  rw[hL]at ax5;refine AW.ev cc ?_;simp[f10,c1];refine⟨by omega,EC.of bk0 (λv G2 hR=>?_) (λv G2 hR=>by cases hR.1)⟩
  obtain⟨q,rfl⟩:=hR;cases q;simp;refine⟨by omega,EC.of ax5 (λv G3 hR=>?_) (λv G3 hR=>by cases hR.1)⟩
  obtain⟨q,rfl⟩:=hR;cases q;simp;intro hz;rw[show ms.map AD.mark=ms.map AD.mark++[]from(List.append_nil (ms.map AD.mark)).symm]
  refine lU ms G3 c3 (λn hn=>(c4 n hn).2.2) ?_
  have hnot:∀m,m<N0->m∉ms:=λm hm q=>by have:=(c4 m q).1;omega
  simp;exact⟨aL (by rw[jl];omega) (λm hm=>by rw[iN _ _ _ (hnot _ (by omega)),c2 m (by omega) (by omega)];exact gl m hm) hw.none,⟨_,rfl⟩,by rw[hL]⟩
end Go.Aft
end
section
set_option maxRecDepth 20000
namespace Go.Aft
open Go.Proofs.Tryz
def gD(l:List Nat):LV:=sl ((bX l).map rI)
def yA(ks:List Int)(F:Nat->List Nat):List (Value×LV):=lK ks λk=>gD (F k.toNat)
def j6(D:List Nat):List (Value×LV):=lK (bX D) λ_=>.d (.k (.bool true))
theorem rP{k:Nat}{l:List Nat}:(k:Int)∈bX l↔k∈l:=by
 unfold bX;rw[List.mem_map];constructor
 ·rintro⟨x,h1,h2⟩;have:x=k:=by omega
  rw[<-this];exact h1
 ·exact λh=>⟨k,h,rfl⟩
theorem L2{l:List Nat}(h:l.Nodup):(bX l).Nodup:=by
 unfold bX;rw[List.Nodup,List.pairwise_map];exact h.imp λ{a b} q e=>q (by omega)
theorem J4(D:List Nat)(k:Nat):(bD (.int .i64 (k:Int)) (j6 D)).getD (.d (.k (.bool false)))=.d (.k (.bool (D.contains k))):=by
 rw[j6,mj];by_cases h:k∈D
 ·rw[if_pos (rP.2 h)];simp[h]
 ·rw[if_neg (λq=>h (rP.1 q))];simp[h]
theorem Tl(D:List Nat)(hn:D.Nodup)(k:Nat):cr (.int .i64 (k:Int)) (.d (.k (.bool true))) (j6 D)=j6 (if k∈D then D else D++[k]):=by
 rw[j6,rQ _ _ _ _ (L2 hn),j6];by_cases h:k∈D
 ·rw[if_pos (rP.2 h),if_pos h];exact mq λj _=>by split<;>rfl
 ·rw[if_neg (λq=>h (rP.1 q)),if_neg h]
  rw[show bX (D++[k])=bX D++[(k:Int)]by simp[bX]]
  exact mq λj _=>by split<;>rfl
structure Grp(G:GH)(QN md b5 mi:Nat)(n:Nat)(F:Nat->List Nat)(ks:List Int)(D:List Nat):Prop where
 VX:G.obj QN=some (.box [.gm md])
 od:G.obj md=some (.map (j6 D))
 o5:G.obj b5=some (.box [.gm mi])
 oi:G.obj mi=some (.map (yA ks F))
 all:∀k:Nat,k<n->(k:Int)∈ks
theorem PR{G:GH}{QN md b5 mi n:Nat}{F:Nat->List Nat}{ks:List Int}{D:List Nat}(h:Grp G QN md b5 mi n F ks D)(d k:Nat)(hd:d<n):
  aG prog 124 [aH k,.gp QN 0,.gp b5 0,.ip [aH d] 0] G λce H'=>ce=.ret (.d (.k (.bool (!D.contains k&& !(F d).contains k))))/\H'=G:=by
 have cc:=au (p:=bf [] [] []);refine aG.bG (au (p:=bf [] [] [])) func124 rfl call124 (by rw[ntmps124];simp) rfl λhf hw=>?_
 have hg1:=J4 D k;have lP:=eq_true (iS (bX D) λ_=>LV.d (.k (.bool true)))
 have hg2:(bD (.int .i64 (d:Int)) (yA ks F)).getD (.d (.k (.slice none 0 0)))=gD (F d):=by
  rw[yA,mj,if_pos (h.all d hd)];rfl
 have hk2:=eq_true (iS ks λk=>gD (F k.toNat))
 have hco:=vX (bX (F d)) k;simp at hco;obtain⟨VX,od,o5,oi,_⟩:=h;have NU:j6 D=lK (bX D) λ_=>LV.d (.k (.bool true)):=rfl
 have hie:yA ks F=lK ks λk=>gD (F k.toNat):=rfl
 rw[<-NU]at lP;rw[<-hie]at hk2;by_cases PE:k∈D
 ·simp[PE]at hg1;simp[ntmps124,results124,VX,od,o5,oi,hg1,lP,PE];exact λhz=>hz.drop (Nat.le_refl _)
 ·simp[PE]at hg1;simp[ntmps124,results124,VX,od,o5,oi,hg1,lP,PE,hg2,hk2,gD,LV.nb];refine EC.aJ hco ?_;simp;exact λhz=>⟨hz.drop (Nat.le_refl _),by simp[PE,rP]⟩
theorem SQ(p:Prog)(lW:∀s∈p.az++an p,cN s)(hp:formed p)(hs1:0<p.az.length)(Mt:p.az.length<=12)(g:Good p){G:GH}{QN md b5 mi:Nat}{ks:List Int}{D:List Nat}
  (h:Grp G QN md b5 mi p.ai.length (fK p.ai.length (aZ p)) ks D) (d:Nat) (hd:d<p.ai.length):
  aG prog 121 [aH d,.ip ((ar p).map .d) 0,.gp QN 0,.gp b5 0] G λce H'=>ce=.ret (.d (.k (.bool (fC p.ai.length (aZ p) D d))))/\H'=G:=by
 have cc:=au (p:=bf [4] [] []);refine aG.bG (au (p:=bf [4] [] [])) func121 rfl call121 (by rw[ntmps121];simp) rfl λhf hw=>?_
 have l1:=hw.lt h.VX;have l5:=hw.lt h.o5;have NJ:=Lh p lW hp hs1 Mt g d hd G;have KX:=xf (bX ((List.range p.ai.length).filter (aZ p d))) (λz=>!D.contains z.toNat&& !(fK p.ai.length (aZ p) d).contains z.toNat) 124 [.gp QN 0,.gp b5 0,.ip [aH d] 0] G (by simp[cD,LV.nb,l1,l5]) (λz hz=>by
  obtain⟨k,_,rfl⟩:=List.mem_map.1 hz;have:=PR h d k hd;simpa using this)
 have Gd:((bX ((List.range p.ai.length).filter (aZ p d))).any λz=>!D.contains z.toNat&& !(fK p.ai.length (aZ p) d).contains z.toNat)=((List.range p.ai.length).filter (aZ p d)).any λk=>!D.contains k&& !(fK p.ai.length (aZ p) d).contains k:=by
  unfold bX;rw[List.any_map];rfl
 rw[Gd]at KX;obtain⟨c,hc⟩:∃c,(((List.range p.ai.length).filter (aZ p d)).any λk=>!D.contains k&& !(fK p.ai.length (aZ p) d).contains k)=c:=⟨_,rfl⟩
 have hrm:fC p.ai.length (aZ p) D d=(!D.contains d&& !c):=by rw[fC,hc]
 rw[hc]at KX;rw[hrm];have hg1:=J4 D d;have lP:=eq_true (iS (bX D) λ_=>LV.d (.k (.bool true)))
 have NU:j6 D=lK (bX D) λ_=>LV.d (.k (.bool true)):=rfl
 rw[<-NU]at lP;obtain⟨VX,od,o5,oi,_⟩:=h;simp[ar]at NJ KX;simp[ntmps121,results121,ar];refine EC.of NJ (λv G2 hR=>?_) (λv G2 hR=>by obtain⟨⟨_,q⟩,_⟩:=hR;cases q)
 obtain⟨⟨l0,q⟩,rfl⟩:=hR;cases q;by_cases CH:d∈D
 ·simp[CH]at hg1;simp[VX,od,hg1,lP,CH];exact λhz=>hz.drop (Nat.le_refl _)
 ·simp[CH]at hg1;simp[VX,od,hg1,lP,CH];refine⟨⟨l1,l5⟩,EC.of KX (λv G3 hR=>?_) (λv G3 hR=>by cases hR.1)⟩
  obtain⟨q,rfl⟩:=hR;cases q;simp;exact λhz=>⟨hz.drop (Nat.le_refl _),λ_=>CH⟩
end Go.Aft
end
