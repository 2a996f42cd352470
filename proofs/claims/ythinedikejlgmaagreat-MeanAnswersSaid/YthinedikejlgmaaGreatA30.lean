import Derived.Test.YthinedikejlgmaaGreatA29
import Derived.Test.YthinedikejlgmaaGreatA25
import Derived.Test.YthinedikejlgmaaGreatA28
set_option linter.all false
section
set_option maxRecDepth 20000
namespace Go.Aft
open Go.Proofs.Tryz
theorem Qp{n:Nat}{R:Nat->Nat->Bool}(ht:∀i j k,R i j=true->R j k=true->R i k=true){r:List Nat}(hr:r∈dG n R){k:Nat}(hk:k∈r):R k k=true/\fL n R k=r:=by
 simp only[dG,List.mem_map,List.mem_filter,Bool.and_eq_true]at hr;obtain⟨i,⟨_,hi,_⟩,rfl⟩:=hr;have h2:R i k=true/\R k i=true:=by
  rcases(bK.1 hk).2 with rfl|h
  ·exact⟨hi,hi⟩
  ·exact h
 have hkk:R k k=true:=ht _ _ _ h2.2 h2.1;refine⟨hkk,?_⟩;rw[fL,if_pos hkk];unfold bO;refine List.filter_congr λj _=>?_
 rw[Bool.eq_iff_iff];simp only[Bool.or_eq_true,beq_iff_eq,Bool.and_eq_true];constructor
 ·rintro(rfl|⟨h3,h4⟩)
  ·exact .inr h2
  ·exact .inr ⟨ht _ _ _ h2.1 h3,ht _ _ _ h4 h2.2⟩
 ·rintro(rfl|⟨h3,h4⟩)
  ·exact .inr ⟨h2.2,h2.1⟩
  ·exact .inr ⟨ht _ _ _ h2.2 h3,ht _ _ _ h4 h2.1⟩
theorem Ri{F:Nat->List Nat}{ks:List Int}(hn:ks.Nodup)(k:Nat):cg (.int .i64 (k:Int)) (fT (F k)) (xP ks F)=xP (if(k:Int)∈ks then ks else ks++[(k:Int)]) F:=by
 rw[xP,qZ _ _ _ _ hn,xP];refine lR λj _=>?_
 by_cases e:j=(k:Int)
 ·rw[if_pos e,e];rfl
 ·rw[if_neg e]
theorem Rj{F:Nat->List Nat}(ks:List Int)(k:Nat):bz (.int .i64 (k:Int)) (xP ks F)=if(k:Int)∈ks then some (fT (F k))else none:=by
 rw[xP,lP];rfl
theorem Iw{ks:List Int}(hn:ks.Nodup)(k:Int):(if k∈ks then ks else ks++[k]).Nodup:=by
 split
 ·exact hn
 ·rename_i q;rw[List.nodup_append];exact⟨hn,by simp,λa ha b hb=>by simp at hb;subst hb;intro z;subst z;exact q ha⟩
theorem E7{ks:List Int}{k x:Int}:x∈(if k∈ks then ks else ks++[k])↔x∈ks\/ x=k:=by
 split
 ·rename_i q;exact⟨.inl,λh=>by rcases h with h|rfl;exact h;exact q⟩
 ·simp
theorem xE(p:Prog)(lG:∀s∈p.az++an p,cN s)(hp:formed p)(hs1:0<p.az.length)(LF:p.az.length<=12)(g:Good p)(H:GH):
  aF prog 65 [lv (ax p)] H λce H'=>ce=.ret (sl ((gR p.aj.length (bh p)).map rT))/\H'=H:=by
 have cc:=ar (p:=aY [1] [5,11] []);refine aF.dV (ar (p:=aY [1] [5,11] [])) func65 rfl call65 (by rw[ntmps65];simp) rfl λhf hw=>?_
 have hri:=Kr p lG hp g H;have hg1:=λ{G:GH} {PU md b5 mi:Nat} {ks:List Int} {D:List Nat} (h:Grp G PU md b5 mi p.aj.length (fL p.aj.length (bh p)) ks D) (d:Nat) (hd:d<p.aj.length)=>RZ p lG hp hs1 LF g h d hd
 have ht:∀i j k,bh p i j=true->bh p j k=true->bh p i k=true:=λi j k h1 h2=>by
  simp only[bh,decide_eq_true_eq]at h1 h2|-;exact h1.trans h2
 have hlaw:=λ{k:Nat} (hk:k<p.aj.length)=>vR (n:=p.aj.length) ht hk
 obtain⟨n,hn⟩:∃n,p.aj.length=n:=⟨_,rfl⟩;have Tr:n<=6:=hn▸g.n6;obtain⟨R,hR⟩:∃R,bh p=R:=⟨_,rfl⟩;rw[hn,hR]at hri;rw[hR]at ht hlaw hg1|-;rw[hn]at hlaw hg1;rw[hn];obtain⟨Rg,hRg⟩:∃Rg,dG n R=Rg:=⟨_,rfl⟩;have hRl:Rg.length<=6:=by
  rw[<-hRg,dG,List.length_map];exact Nat.le_trans (List.length_filter_le _ _) (by simp;omega)
 rw[hRg]at hri;simp[ax]at hri;simp[ntmps65,results65,ax]at hf|-;refine AW.seq cc ?_;simp;refine AW.seq cc ?_;simp;refine EC.of hri (λv G2 qw=>?_) (λv G2 qw=>by cases qw.1)
 obtain⟨q,hE⟩:=qw;cases q;rw[hE]
 clear hE
 simp;refine AW.seq cc ?_;simp[GH.au,GH.aq];refine⟨by omega,?_⟩
 obtain⟨H1,wI⟩:∃H1,((H.add (GO.map [])).add (GO.box [LV.d (DV.k (Value.map none))])).set (H.next+1) (GO.box [LV.gm H.next])=H1:=⟨_,rfl⟩;have n1:H1.next=H.next+2:=by rw[<-wI];rfl
 have b1:H1.obj (H.next+1)=some (.box [.gm H.next]):=by rw[<-wI,GH.aX]
 have m1:H1.obj H.next=some (.map []):=by rw[<-wI,GH.ay,if_neg (by omega),GH.au,if_neg (by rw[GH.aq];omega),GH.au,if_pos rfl]
 have o1:∀m,m<H.next->H1.obj m=H.obj m:=λm hm=>by rw[<-wI,GH.ay,if_neg (by omega),GH.au,if_neg (by rw[GH.aq];omega),GH.au,if_neg (by omega)]
 rw[wI]
 clear wI
 obtain⟨F,hF⟩:∃F,fL n R=F:=⟨_,rfl⟩;rw[hF]at hg1;have hA:∀ks,(H1.set H.next (.map (xP ks F))).obj (H.next+1)=some (.box [.gm H.next]):=λks=>by rw[GH.ay,if_neg (by omega)];exact b1
 have hA0:H1.set H.next (.map (xP [] F))=H1:=GH.iH (by rw[m1];rfl)
 have ff:∀X Y,(H1.set H.next X).set H.next Y=H1.set H.next Y:=λX Y=>GH.set_set
 refine AW.seq cc ?_;simp;refine AW.aU cc (λa:Nat×List Int=>⟨[(1,.ip ((ax p).map .d) 0),(5,.gp (H.next+1) 0),(23,sl (Rg.map rT)),(24,aH Rg.length),(25,aH a.1)],[],H1.set H.next (.map (xP a.2 F))⟩) (λa=>Rg.length-a.1)
  (λa=>a.1<=Rg.length/\a.2.Nodup/\(∀r∈Rg.take a.1,∀k∈r,((k:Nat):Int)∈a.2)/\(∀x∈a.2,∃k:Nat,x=k/\k<n/\R k k=true)) (0,[]) ⟨⟨Nat.zero_le _,by simp,by simp,by simp⟩,by simp[ax,hA0]⟩ ?_
 ·rintro⟨i,ks⟩ ⟨hi,hkn,hka,hkb⟩;simp only at hi hkn hka hkb;have hwi:=aB (n:=9223372036854775807) (show i<9223372036854775807 by omega)
  simp[ax];refine⟨λh=>?_,λh=>?_⟩
  ·obtain⟨r,hr⟩:∃r,Rg[i]=r:=⟨_,rfl⟩;have hrm:r∈dG n R:=by rw[hRg];exact hr▸List.getElem_mem h
   have hrl:r.length<=6:=by
    simp only[dG,List.mem_map]at hrm;obtain⟨j,_,rfl⟩:=hrm;exact Nat.le_trans (List.length_filter_le _ _) (by simp;omega)
   have fU:Rg.take (i+1)=Rg.take i++[r]:=by rw[<-aR h,hr]
   simp[h,List.getElem?_eq_getElem h,hr,rT];refine AW.aU cc (λa:Nat×List Int=>⟨[(1,.ip ((ax p).map .d) 0),(5,.gp (H.next+1) 0),(7,fT r),(23,sl (Rg.map rT)),(24,aH Rg.length),(25,aH i),(29,fT r),(30,aH r.length),(31,aH a.1)],[],H1.set H.next (.map (xP a.2 F))⟩) (λa=>r.length-a.1)
    (λa=>a.1<=r.length/\a.2.Nodup/\(∀x∈ks,x∈a.2)/\(∀k∈r.take a.1,((k:Nat):Int)∈a.2)/\(∀x∈a.2,∃k:Nat,x=k/\k<n/\R k k=true)) (0,ks) ⟨⟨Nat.zero_le _,hkn,λx hx=>hx,by simp,hkb⟩,by simp[ax,fT,bU,rT]⟩ ?_
   rintro⟨j,ks2⟩ ⟨hj,d1,d2,d3,d4⟩;simp only at hj d1 d2 d3 d4;have Rn:=aB (n:=9223372036854775807) (show j<9223372036854775807 by omega)
   simp[fT];refine⟨λh2=>?_,λh2=>?_⟩
   ·have hj':j<r.length:=by simpa[bU]using h2
    obtain⟨k,hk⟩:∃k,r[j]=k:=⟨_,rfl⟩;have hkr:k∈r:=hk▸List.getElem_mem hj';have Rp:r.take (j+1)=r.take j++[k]:=by rw[<-aR hj',hk]
    have sR:(bU r)[j]?=some (k:Int):=by simp[bU,List.getElem?_eq_getElem hj',hk]
    have hin:=Qp (n:=n) (R:=R) ht hrm hkr;rw[hF]at hin;have hput:=Ri (F:=F) d1 k;rw[hin.2]at hput;have hkey:=eq_true (iE ks2 λk=>fT (F k.toNat))
    have hie:xP ks2 F=kX ks2 λk=>fT (F k.toNat):=rfl
    rw[<-hie]at hkey;have hmo:∀X,(H1.set H.next X).obj H.next=some X:=λX=>GH.aX
    have hkn2:k<n:=by
     simp only[dG,List.mem_map]at hrm;obtain⟨i0,_,rfl⟩:=hrm;exact(bK.1 hkr).1
    have ID:cg (.int .i64 (k:Int)) (.d (.sl ((bU r).map rI))) (xP ks2 F)=xP (if(k:Int)∈ks2 then ks2 else ks2++[(k:Int)]) F:=hput
    simp[hj',sR,rI,hA,hmo,hkey,ff];refine⟨by simpa[bU]using hj',NX.go (j+1,if(k:Int)∈ks2 then ks2 else ks2++[(k:Int)]) (by simp only;omega) ⟨hj',Iw d1 _,λx hx=>E7.2 (.inl (d2 x hx)),λu hu=>?_,λx hx=>?_⟩ (by simp[ax,Rn,fT,ID])⟩
    ·simp only at hu|-;rw[Rp,List.mem_append]at hu;rcases hu with hu|hu
     ·exact E7.2 (.inl (d3 u hu))
     ·simp at hu;rw[hu];exact E7.2 (.inr rfl)
    ·simp only at hx;rcases E7.1 hx with hx|hx
     ·exact d4 x hx
     ·exact⟨k,hx,hkn2,hin.1⟩
   ·have e1:j=r.length:=by
     have:¬j<r.length:=by simpa[bU]using h2
     omega
    subst e1;rw[List.take_length]at d3;refine NX.go (i+1,ks2) (by simp only;omega) ⟨h,d1,λr' hr' k hk=>?_,d4⟩ (by simp[ax,hwi])
    simp only at hr'|-;rw[fU,List.mem_append]at hr';rcases hr' with hr'|hr'
    ·exact d2 _ (hka r' hr' k hk)
    ·simp at hr';rw[hr']at hk;exact d3 k hk
  ·have e1:i=Rg.length:=by omega
   subst e1;rw[List.take_length]at hka;have hksR:∀k:Nat,k<n->R k k=true->((k:Nat):Int)∈ks:=λk hk hkk=>by
    obtain⟨r,hr,hkr⟩:=(hlaw (k:=k) hk).2 hkk;rw[hRg]at hr;exact hka r hr k hkr
   have hks0:∀k:Nat,((k:Nat):Int)∈ks->R k k=true:=λk hk=>by
    obtain⟨k',h1,_,h3⟩:=hkb _ hk;have:k'=k:=by omega
    rw[<-this];exact h3
   refine AW.seq cc ?_;simp[ax,hn];refine AW.aU cc (λa:Nat×List Int=>⟨[(1,.ip ((ax p).map .d) 0),(5,.gp (H.next+1) 0),(42,aH n),(43,aH a.1)],[],H1.set H.next (.map (xP a.2 F))⟩) (λa=>n-a.1)
    (λa=>a.1<=n/\a.2.Nodup/\(∀x∈ks,x∈a.2)/\(∀k:Nat,k<a.1->(k:Int)∈a.2)/\(∀k:Nat,a.1<=k->((k:Int)∈a.2↔(k:Int)∈ks))) (0,ks) ⟨⟨Nat.zero_le _,hkn,λx hx=>hx,λk hk=>by simp only at hk;omega,λk _=>Iff.rfl⟩,by simp[ax]⟩ ?_
   rintro⟨d,ks2⟩ ⟨hd,d1,d2,d3,d4⟩;simp only at hd d1 d2 d3 d4;have hwd:=aB (n:=9223372036854775807) (show d<9223372036854775807 by omega)
   have hkey:=eq_true (iE ks2 λk=>fT (F k.toNat))
   have hie:xP ks2 F=kX ks2 λk=>fT (F k.toNat):=rfl
   rw[<-hie]at hkey;have hmo:∀X,(H1.set H.next X).obj H.next=some X:=λX=>GH.aX
   have dD:=Rj (F:=F) ks2 d;have hput:=Ri (F:=F) d1 d;simp;refine⟨λh=>?_,λh=>?_⟩
   ·by_cases hdk:(d:Int)∈ks2
    ·rw[if_pos hdk]at dD;obtain⟨a,l,yO⟩:∃a l,F d=a::l:=by
      have:=fP (n:=n) (R:=R) (d:=d) h;rw[hF]at this;cases q:F d with
      |nil=>rw[q]at this;cases this
      |cons a l=>exact⟨a,l,rfl⟩
     have hro:fT (F d)=.d (.sl (rI a::(bU l).map rI)):=by rw[yO];rfl
     rw[hro]at dD;simp[hA,hmo,hkey,dD];refine NX.go (d+1,ks2) (by simp only;omega) ⟨h,d1,d2,λk hk=>?_,λk hk=>d4 k (by simp only at hk;omega)⟩ (by simp[ax,hwd])
     by_cases e:k=d
     ·rw[e];exact hdk
     ·exact d3 k (by simp only at hk;omega)
    ·rw[if_neg hdk]at dD;have hRd:¬R d d=true:=λq=>hdk (d2 _ (hksR d h q))
     have hFd:F d=[d]:=by rw[<-hF,fL,if_neg hRd]
     rw[hFd,if_neg hdk]at hput;have ID:cg (.int .i64 (d:Int)) (.d (.sl [[.k (.int .i64 (d:Int))]])) (xP ks2 F)=xP (ks2++[(d:Int)]) F:=hput;simp[hA,hmo,hkey,dD];refine NX.go (d+1,ks2++[(d:Int)]) (by simp only;omega) ⟨h,?_,λx hx=>by simp only;rw[List.mem_append];exact .inl (d2 x hx),λk hk=>?_,λk hk=>?_⟩ (by simp[ax,hwd,ID,ff])
     ·have:=Iw d1 (d:Int);rw[if_neg hdk]at this;exact this
     ·simp only at hk|-;rw[List.mem_append];by_cases e:k=d
      ·rw[e];exact .inr (by simp)
      ·exact .inl (d3 k (by omega))
     ·simp only at hk|-;rw[List.mem_append];constructor
      ·rintro(q|q)
       ·exact(d4 k (by omega)).1 q
       ·simp at q;omega
      ·exact λq=>.inl ((d4 k (by omega)).2 q)
   ·have edn:d=n:=by omega
    rw[edn]at d3
    clear d4 dD hput
    refine AW.seq cc ?_;simp[GH.au,GH.aq];refine⟨by omega,?_⟩
    obtain⟨B,hB⟩:∃B,H1.set H.next (.map (xP ks2 F))=B:=⟨_,rfl⟩;have eB:B.next=H.next+2:=by rw[<-hB,GH.aL,n1]
    have Bi:B.obj H.next=some (.map (xP ks2 F)):=by rw[<-hB,GH.aX]
    have B5:B.obj (H.next+1)=some (.box [.gm H.next]):=by rw[<-hB];exact hA ks2
    have Bl:∀m,m<H.next->B.obj m=H.obj m:=λm hm=>by rw[<-hB,GH.ay,if_neg (by omega)];exact o1 m hm
    rw[hB];obtain⟨H2,uJ⟩:∃H2,((B.add (.map [])).add (.box [.d (.k (.map none))])).set (B.next+1) (.box [.gm B.next])=H2:=⟨_,rfl⟩;have e2:H2.next=H.next+4:=by rw[<-uJ,GH.aL,GH.aq,GH.aq,eB]
    have l2:∀m,m<B.next->H2.obj m=B.obj m:=λm hm=>by rw[<-uJ,GH.ay,if_neg (by omega),GH.au,if_neg (by rw[GH.aq];omega),GH.au,if_neg (by omega)]
    have bmd:H2.obj (H.next+2)=some (.map (jF [])):=by rw[<-uJ,GH.ay,if_neg (by omega),GH.au,if_neg (by rw[GH.aq];omega),GH.au,if_pos (by omega)];rfl
    have PU:H2.obj (H.next+3)=some (.box [.gm (H.next+2)]):=by rw[<-uJ,eB,GH.ay,if_pos rfl]
    rw[uJ]
    clear uJ
    refine AW.seq cc ?_;simp[eB,e2];refine AW.seq cc ?_;simp;refine AW.seq cc ?_;simp;refine AW.aU cc (λa:List Nat×LV×GH=>⟨[(1,.ip ((ax p).map .d) 0),(5,.gp (H.next+1) 0),(11,.gp (H.next+3) 0),(12,.fn (.func 121) [] [.ip ((ax p).map .d) 0,.gp (H.next+3) 0,.gp (H.next+1) 0]),(13,a.2.1)],[],a.2.2⟩) (λa=>n-a.1.length)
     (λa=>a.1.Nodup/\(∀x∈a.1,x<n)/\H.next+4<=a.2.2.next/\a.2.2.obj (H.next+2)=some (.map (jF a.1))/\(∀m,m<H.next+4->m≠H.next+2->a.2.2.obj m=H2.obj m)/\∃outL f,n-a.1.length<=f/\outL++eZ n R f a.1=gR n R/\outL.length<=a.1.length/\mN 94 1 (H.next+4) a.2.1 (outL.map rT) a.2.2)
     ([],.d (.k (.slice none 0 0)),H2) ⟨⟨by simp,by simp,by simp only;omega,bmd,λm hm _=>rfl,[],n,by simp,rfl,by simp,by simpa using mN.nil (by omega)⟩,by simp[ax]⟩ ?_
    rintro⟨D,x,G⟩ ⟨c1,c2,c3,c4,c5,outL,f,c6,c7,c8,c9⟩;simp only at c1 c2 c3 c4 c5 c6 c7 c8 c9;have IS:Grp G (H.next+3) (H.next+2) (H.next+1) H.next n F ks2 D:=
     ⟨by rw[c5 _ (by omega) (by omega)];exact PU,c4,by rw[c5 _ (by omega) (by omega),l2 _ (by omega)];exact B5,by rw[c5 _ (by omega) (by omega),l2 _ (by omega)];exact Bi,d3⟩
    have pL:(jF D).length=D.length:=by simp[jF,kX,bU]
    simp[IS.U8,IS.od,ax,hn,pL];refine⟨λh=>?_,λh=>?_⟩
    ·refine AW.ev cc ?_;simp[ax,hn];refine AW.aU cc (λa:Nat=>⟨[(1,.ip ((ax p).map .d) 0),(5,.gp (H.next+1) 0),(11,.gp (H.next+3) 0),(12,.fn (.func 121) [] [.ip ((ax p).map .d) 0,.gp (H.next+3) 0,.gp (H.next+1) 0]),(13,x),(65,aH n),(66,aH a)],[],G⟩) (λa=>n-a)
      (λa=>a<=n/\∀k,k<a->fw n R D k=false) 0 ⟨⟨Nat.zero_le _,λk hk=>by omega⟩,by simp[ax,c9.only]⟩ ?_
     rintro e ⟨he,MY⟩;have hwe:=aB (n:=9223372036854775807) (show e<9223372036854775807 by omega)
     simp;refine⟨λh2=>?_,λh2=>?_⟩
     ·have MU:=hg1 IS e h2;simp[ax]at MU;simp[ax];refine⟨⟨by omega,by omega⟩,EC.of MU (λv G3 hR3=>?_) (λv G3 hR3=>by cases hR3.1)⟩
      obtain⟨q,hE⟩:=hR3;cases q;rw[hE]
      clear hE
      have Dv:bz (.int .i64 (e:Int)) (xP ks2 F)=some (fT (F e)):=by rw[Rj,if_pos (d3 e h2)]
      have hki:=eq_true (iE ks2 λk=>fT (F k.toNat))
      have hie:xP ks2 F=kX ks2 λk=>fT (F k.toNat):=rfl
      rw[<-hie]at hki;obtain⟨a,l,yO⟩:∃a l,F e=a::l:=by
       have:=fP (n:=n) (R:=R) (d:=e) h2;rw[hF]at this;cases q:F e with
       |nil=>rw[q]at this;cases this
       |cons a l=>exact⟨a,l,rfl⟩
      have OP:(F e).length<=6:=by rw[<-hF];exact Nat.le_trans (Vn (by omega)) (by omega)
      have mP:=Lx a (bU l) (by rw[yO]at OP;simp[bU]at OP|-;omega)
      have hrow:fT (F e)=.d (.sl (rI a::(bU l).map rI)):=by rw[yO];rfl
      simp at mP;cases hq:fw n R D e with
      |false=>
       simp;refine NX.go (e+1) (by omega) ⟨h2,λk hk=>?_⟩ (by simp[ax,c9.only,hwe])
       by_cases e1:k=e
       ·rw[e1];exact hq
       ·exact MY k (by omega)
      |true=>
       simp[IS.o5,IS.oi,Dv,hki,hrow,c9.plain.all];refine EC.aJ mP ?_;simp[c9.plain.all];refine eE.dJ (H0:=⟨G.obj,H.next+4⟩) (ys:=[rT (F e)]) zi rfl lY (by simp) (x:=x) (by simp) c9 (by simp[rowsOf,rT,yO,bU]) (by simp) (Qy _) (λr hr=>by simp only[List.mem_singleton]at hr;subst hr;rfl) (by simp;omega) (by simp) λx' G6 h6 Tr _=>?_
       simp only at Tr;have h6o:∀m,m<H.next+4->G6.obj m=G.obj m:=λm hm=>h6.ob m hm
       have g5:G6.obj (H.next+1)=some (.box [.gm H.next]):=by rw[h6o _ (by omega)];exact IS.o5
       have gi:G6.obj H.next=some (.map (xP ks2 F)):=by rw[h6o _ (by omega)];exact IS.oi
       have g11:G6.obj (H.next+3)=some (.box [.gm (H.next+2)]):=by rw[h6o _ (by omega)];exact IS.U8
       have gd:G6.obj (H.next+2)=some (.map (jF D)):=by rw[h6o _ (by omega)];exact c4
       have h7:mN 94 1 (H.next+4) x' ((outL++[F e]).map rT) G6:=by
        have:=mN.of (B:=⟨G.obj,H.next+4⟩) rfl h6;rw[List.map_append];exact this
       have hset6:∀X Y,(G6.set (H.next+2) X).set (H.next+2) Y=G6.set (H.next+2) Y:=λX Y=>GH.set_set
       have hg60:G6.set (H.next+2) (.map (jF D))=G6:=GH.iH gd;simp[h6.plain.all,g5,gi,Dv,hki,hrow];refine AW.aU cc (λa:Nat=>⟨[(1,.ip ((ax p).map .d) 0),(5,.gp (H.next+1) 0),(11,.gp (H.next+3) 0),(12,.fn (.func 121) [] [.ip ((ax p).map .d) 0,.gp (H.next+3) 0,.gp (H.next+1) 0]),(13,x'),(81,fT (F e)),(82,aH (F e).length),(83,aH a)],[],G6.set (H.next+2) (.map (jF (cR D ((F e).take a))))⟩) (λa=>(F e).length-a)
        (λa=>a<=(F e).length) 0 ⟨Nat.zero_le _,by simp[ax,h6.only,hrow,cR,hg60,yO,bU,fT]⟩ ?_
       intro j hj;have Rn:=aB (n:=9223372036854775807) (show j<9223372036854775807 by omega)
       simp[fT];refine⟨λh3=>?_,λh3=>?_⟩
       ·have hj':j<(F e).length:=by simpa[bU]using h3
        obtain⟨k,hk⟩:∃k,(F e)[j]=k:=⟨_,rfl⟩;have Rp:(F e).take (j+1)=(F e).take j++[k]:=by rw[<-aR hj',hk]
        have sR:(bU (F e))[j]?=some (k:Int):=by simp[bU,List.getElem?_eq_getElem hj',hk]
        have hput:=Sw (cR D ((F e).take j)) (jm c1) k;rw[<-JI,<-Rp]at hput;have OG:=eq_true (iE (bU (cR D ((F e).take j))) λ_=>LV.d (.k (.bool true)))
        have J8:jF (cR D ((F e).take j))=kX (bU (cR D ((F e).take j))) λ_=>LV.d (.k (.bool true)):=rfl
        rw[<-J8]at OG;have gg11:∀X,(G6.set (H.next+2) X).obj (H.next+3)=some (.box [.gm (H.next+2)]):=λX=>by rw[GH.ay,if_neg (by omega)];exact g11
        have ggd:∀X,(G6.set (H.next+2) X).obj (H.next+2)=some X:=λX=>GH.aX
        simp[sR,rI,gg11,ggd,OG,hput,hset6];exact⟨by simpa[bU]using hj',NX.go (j+1) (by omega) hj' (by simp[ax,h6.only,fT,Rn])⟩
       ·have e1:j=(F e).length:=by
         have:¬j<(F e).length:=by simpa[bU]using h3
         omega
        rw[e1,List.take_length];have heD:e∉D:=by
         unfold fw at hq;simp only[Bool.and_eq_true,Bool.not_eq_true']at hq;simpa using hq.1
        have tC:e∈F e:=by rw[<-hF];exact fP h2
        have hlt:=uA (l:=F e) tC heD;have hfind:(List.range n).find? (fw n R D)=some e:=by
         rw[List.find?_range_eq_some];exact⟨hq,List.mem_range.2 h2,λk hk=>by rw[MY k hk];rfl⟩
        obtain⟨f',rfl⟩:∃f',f=f'+1:=⟨f-1,by omega⟩
        rw[eZ,if_pos h,hfind]at c7;simp only at c7;rw[hF]at c7;refine NX.go (cR D (F e),x',G6.set (H.next+2) (.map (jF (cR D (F e))))) (by simp only;omega) ⟨jm c1,λk hk=>?_,by simp only[GH.aL];omega,GH.aX,λm hm hne=>by simp only;rw[GH.ay,if_neg hne,h6o m hm];exact c5 m hm hne,outL++[F e],f',by simp only;omega,by rw[List.append_assoc];exact c7,by simp only[List.length_append,List.length_cons,List.length_nil];omega,h7.keep (by rw[GH.aL];exact Nat.le_refl _) λm hm _=>by rw[GH.ay,if_neg (by omega)]⟩ (by simp[ax,h6.only])
        simp only at hk;rcases eo.1 hk with hk|hk
        ·exact c2 k hk
        ·rw[<-hF]at hk;exact wB h2 hk
     ·obtain⟨e',he'⟩:=tS ht c1 c2 h;have h3:=List.find?_some he';have h4:=List.mem_range.1 (List.mem_of_find?_eq_some he');rw[MY e' (by omega)]at h3
      cases h3
    ·have xQ:eZ n R f D=[]:=by
      cases f with
      |zero=>rfl
      |succ f=>rw[eZ,if_neg (by omega)]
     rw[xQ,List.append_nil]at c7;refine AW.ev cc ?_;simp[c9.plain.all,c9.fz,c7];exact λ_=>aO (by omega) (λm hm=>by rw[c5 m (by omega) (by omega),l2 m (by omega)];exact Bl m hm) hw.none
def dP(g:bw->Option cr):List bw->Option (List cr)
 |[]=>some []
 |e::es=>match g e with
  |none=>none
  |some b=>match dP g es with
   |none=>none
   |some bs=>some (b::bs)
theorem Ja(p:Prog)(W:b9)(top:Int):∀l:List bw,gZ p W top l=dP (fW p W top) l
 |[]=>by rw[gZ,dP]
 |e::es=>by
  rw[gZ,dP];cases fW p W top e with
  |none=>rfl
  |some b=>
   simp only[Ja p W top es];cases dP (fW p W top) es<;>rfl
theorem tU(g:bw->Option cr)(x:bw):∀l:List bw,dP g (l++[x])=match dP g l with
  |none=>none
  |some bs=>match g x with
   |none=>none
   |some b=>some (bs++[b])
 |[]=>by
  simp only[List.nil_append,dP]
 |e::es=>by
  rw[List.cons_append,dP,dP];cases g e with
  |none=>rfl
  |some b=>
   simp only[tU g x es];cases dP g es with
   |none=>rfl
   |some bs=>
    simp only;cases g x<;>rfl
theorem tV{g:bw->Option cr}:∀{l:List bw} {x:bw},x∈l->g x=none->dP g l=none
 |e::es,x,h,hx=>by
  rw[dP];rcases List.mem_cons.1 h with q|q
  ·subst q;rw[hx]
  ·cases g e with
   |none=>rfl
   |some b=>simp only[tV q hx]
theorem iO{g:bw->Option cr}:∀{l:List bw} {bs:List cr},dP g l=some bs->bs.length=l.length
 |[],bs,h=>by rw[dP]at h;cases h;rfl
 |e::es,bs,h=>by
  rw[dP]at h;cases q:g e with
  |none=>rw[q]at h;cases h
  |some b=>
   rw[q]at h;cases q2:dP g es with
   |none=>rw[q2]at h;cases h
   |some bs'=>
    rw[q2]at h;cases h;simp[iO q2]
theorem sy{g:bw->Option cr}{P:cr->Prop}:∀{l:List bw} {bs:List cr},dP g l=some bs->(∀x∈l,∀b,g x=some b->P b)->∀b∈bs,P b
 |[],bs,h,_=>by rw[dP]at h;cases h;simp
 |e::es,bs,h,hp=>by
  rw[dP]at h;cases q:g e with
  |none=>rw[q]at h;cases h
  |some b=>
   rw[q]at h;cases q2:dP g es with
   |none=>rw[q2]at h;cases h
   |some bs'=>
    rw[q2]at h;cases h;intro y hy;rcases List.mem_cons.1 hy with e1|e1
    ·subst e1;exact hp e (by simp) _ q
    ·exact sy q2 (λx hx=>hp x (by simp[hx])) y e1
def Ml(o:Option cr)(H:GH)(ce:CE)(H':GH):Prop:=H'=H/\match o with
 |some b=>ce=.ret (bY b)
 |none=>ce=.dY uR
theorem Aa(l:List cr):∀r∈l.map bX,r.length=1:=λr hr=>by obtain⟨_,_,rfl⟩:=List.mem_map.1 hr;rfl
theorem Cm(g:bw->Option cr)(l:List bw)(hl:l.length<=1000)(F:FuncId)(cap:List LV)(H:GH)(hcap:ct H.next cap)(hF:∀x∈l,∀H',H.next<=H'.next->(∀m,m<H.next->H'.obj m=H.obj m)->aF prog F ([lv (aQ x)]++cap) H' (Ml (g x) H')):
  aF prog 141 [sl (l.map aQ),.fn (.func F) [] cap] H λce H'=>H'=H/\match dP g l with
   |some bs=>ce=.ret (ei bs)
   |none=>ce=.dY uR:=by
 have cc:=aP;refine aF.bD aP func141 rfl call141 (by rw[ntmps141];simp) rfl λhf hw=>?_
 simp[ntmps141,results141]at hf|-;refine AW.aU cc (λa:Nat×LV×GH=>⟨[(1,.fn (.func F) [] cap),(5,a.2.1),(8,.d (.sl (l.map aQ))),(9,aH l.length),(10,aH a.1)],[],a.2.2⟩) (λa=>l.length-a.1) (λa=>a.1<=l.length/\∃bs,dP g (l.take a.1)=some bs/\cm 30 1 H a.2.1 (bs.map bX) a.2.2) (0,.d (.k (.slice none 0 0)),H) ⟨⟨by simp,[],by simp[dP],.nil⟩,by simp[LV.only,dQ,cQ _ hcap]⟩ ?_
 rintro⟨i,x,H'⟩ ⟨hi,bs,wF,aA⟩;simp only at hi wF aA;simp;refine⟨λh=>?_,λh=>?_⟩
 ·obtain⟨e,hee⟩:∃e,l[i]=e:=⟨_,rfl⟩;have hem:e∈l:=hee▸List.getElem_mem h;have fU:l.take (i+1)=l.take i++[e]:=by rw[<-aR h,hee]
  have hd:=hF e hem H' aA.nx aA.ob;have B6:=iO wF;have VF:bs.length<=1000:=by rw[B6];simp;omega
  simp[ai]at hd;simp[h,List.getElem?_eq_getElem h,hee,ai,aA.plain.all];refine⟨eN aA.nx _ hcap,EC.of hd (λv H2 hR=>?_) (λv H2 hR=>?_)⟩
  ·obtain⟨rfl,hR⟩:=hR;cases q:g e with
   |none=>rw[q]at hR;cases hR
   |some b=>
    rw[q]at hR;cases hR;simp[aA.plain.all,bY];refine eE.dJ (ys:=[bX b]) P7 rfl uP (by simp) (x:=x) (by simp) aA (by simp[bX,rowsOf]) (by simp) (Aa _) (λr hr=>by simp only[List.mem_singleton]at hr;subst hr;rfl) (by simp;omega) (by simp) λx' H3 aG _ _=>?_
    simp[aG.plain.all,aG.only,aB (n:=9223372036854775807) (show i<9223372036854775807 by omega)]
    refine NX.go (i+1,x',H3) (by simp only;omega) ⟨h,bs++[b],?_,by rw[List.map_append];exact aG⟩ (by simp[aG.only,aG.plain.all,LV.only,dQ,cQ _ hcap])
    rw[fU,tU,wF,q]
  ·obtain⟨rfl,hR⟩:=hR;cases q:g e with
   |some b=>rw[q]at hR;cases hR
   |none=>
    rw[q]at hR;cases hR;rw[tV hem q];simp;exact λhz=>⟨aO aA.nx aA.ob hw.none,trivial⟩
 ·have:i=l.length:=by omega
  subst this;rw[List.take_length]at wF;rw[wF];simp[aA.plain.all,aA.fz];exact λhz=>aO aA.nx aA.ob hw.none
theorem VL{n:Nat}{top:Int}{e:bw}{H:GH}(hn:n<H.next){o:Option cr}(h:aF prog 79 [.gp n 0,lv (aQ e),aH top] H (Ml o H)):aF prog 142 ([lv (aQ e)]++[.ip [.gp n 0] 0,.ip [aH top] 0]) H (Ml o H):=by
 have cc:=ar (p:=aY [3] [] []);refine aF.bD (ar (p:=aY [3] [] [])) func142 rfl call142 (by rw[ntmps142];simp) rfl λhf hw=>?_
 simp[ai]at h;simp[ntmps142,results142,ai];refine⟨hn,EC.of h (λv H2 hR=>?_) (λv H2 hR=>?_)⟩
 ·obtain⟨rfl,hR⟩:=hR;cases o with
  |none=>cases hR
  |some b=>
   cases hR;simp[bY,Ml];exact λhz=>cC hz
 ·obtain⟨rfl,hR⟩:=hR;cases o with
  |some b=>cases hR
  |none=>
   cases hR;simp[Ml];exact λhz=>⟨cC hz,trivial⟩
def JL:List (Value×LV):=(List.range 15).map λi=>(Value.int .i64 ((i:Nat)+1),.fn (.func (185+i)) [] [])
theorem Pz{op:Int}(h:1<=op/\op<=15):bz (.int .i64 op) JL=some (.fn (.func (184+op.toNat)) [] []):=by
 have pM:op=1\/ op=2\/ op=3\/ op=4\/ op=5\/ op=6\/ op=7\/ op=8\/ op=9\/ op=10\/ op=11\/ op=12\/ op=13\/ op=14\/ op=15:=by omega
 rcases pM with rfl|rfl|rfl|rfl|rfl|rfl|rfl|rfl|rfl|rfl|rfl|rfl|rfl|rfl|rfl<;>rfl
theorem Py:∀(a:Value) (b:LV),(a,b)∈JL->(KK.sc (Sc.int .i64)).has a=true:=λa b h=>by
 obtain⟨x,_,q⟩:=List.mem_map.1 h;cases q;rfl
theorem zq{op:Int}{x:PV}(h:bF op=some x)(h1:1<=op/\op<=15):x.kids<=2:=by
 have pM:op=1\/ op=2\/ op=3\/ op=4\/ op=5\/ op=6\/ op=7\/ op=8\/ op=9\/ op=10\/ op=11\/ op=12\/ op=13\/ op=14\/ op=15:=by omega
 rcases pM with rfl|rfl|rfl|rfl|rfl|rfl|rfl|rfl|rfl|rfl|rfl|rfl|rfl|rfl|rfl
 all_goals
  simp[bF]at h;subst h
  decide
structure FF(H:GH)(n ms mn mv ma:Nat)(p:Prog)(W:b9):Prop where
 Mn:Wld H n ms mn mv ma p W
 oa:H.obj ma=some (.map JL)
theorem FF.mono{H H':GH}{n ms mn mv ma:Nat}{p:Prog}{W:b9}(h:FF H n ms mn mv ma p W)(hw:gD H)(ho:∀m,m<H.next->H'.obj m=H.obj m):FF H' n ms mn mv ma p W:=by
 obtain⟨⟨ob,⟨es,os,tC⟩,⟨en,on,hen⟩,ov,dl⟩,oa⟩:=h;exact⟨⟨by rw[ho _ (hw.lt ob)];exact ob,⟨es,by rw[ho _ (hw.lt os)];exact os,tC⟩,⟨en,by rw[ho _ (hw.lt on)];exact on,hen⟩,by rw[ho _ (hw.lt ov)];exact ov,dl⟩,by rw[ho _ (hw.lt oa)];exact oa⟩
theorem rm{e k:bw}(h:k∈e.kids):SizeOf.sizeOf k<SizeOf.sizeOf e:=by
 obtain⟨op,name,n,fold,aD,kids⟩:=e;simp only[bw.kids]at h;have:=List.sizeOf_lt_of_mem h;simp only[bw.mk.sizeOf_spec];omega
theorem Ng(p:Prog)(W:b9)(top:Int)(e:bw):fW p W top e=match dP (fW p W top) e.kids with
  |none=>none
  |some ks=>if gH (bV (gV p W e.op e.name e.n e.fold e.aD ks) top)then some (bV (gV p W e.op e.name e.n e.fold e.aD ks) top)else none:=by
 obtain⟨op,name,n,fold,aD,kids⟩:=e;rw[fW,Ja];simp only[bw.kids,bw.op,bw.name,bw.n,bw.fold,bw.aD];cases dP (fW p W top) kids<;>rfl
def kP(p:Prog)(e:bw):Prop:=∀x∈bn e,p8 p x
theorem D8{k:bw}:∀{l:List bw},k∈l->∀x∈bn k,x∈bu l
 |y::l,h,x,hx=>by
  rw[bu,List.mem_append];rcases List.mem_cons.1 h with q|q
  ·subst q;exact .inl hx
  ·exact .inr (D8 q x hx)
theorem kP.self{p:Prog}{e:bw}(h:kP p e):p8 p e:=h e (by obtain⟨op,name,n,fold,aD,kids⟩:=e;rw[bn];simp)
theorem kP.Tk{p:Prog}{e k:bw}(h:kP p e)(hk:k∈e.kids):kP p k:=λx hx=>h x (by
 obtain⟨op,name,n,fold,aD,kids⟩:=e;rw[bn];exact List.mem_cons_of_mem _ (D8 hk x hx))
theorem nw{p:Prog}{W:b9}(hs:∀b∈W.az,bI b)(hd:∀b∈W.aj,bI b){top:Int}(ht:top<=200):∀(N:Nat) (e:bw),SizeOf.sizeOf e<N->kP p e->∀b,fW p W top e=some b->bI b
 |0,e,h,_,_,_=>absurd h (by omega)
 |N+1,e,h,he,b,hb=>by
  rw[Ng]at hb;cases q:dP (fW p W top) e.kids with
  |none=>rw[q]at hb;cases hb
  |some ks=>
   rw[q]at hb;simp only at hb
   split at hb
   ·rename_i hf;cases hb;have hks:∀b∈ks,bI b:=sy q λx hx b hb=>nw hs hd ht N x (by have:=rm hx;omega) (he.Tk hx) b hb
    exact SR ht (w6 hs hd e he.self ks (iO q) hks).2 hf
   ·cases hb
theorem vK{p:Prog}{W:b9}(hs:∀b∈W.az,bI b)(hd:∀b∈W.aj,bI b){n ms mn mv ma:Nat}{top:Int}(ht:top<=200):∀(N:Nat) (e:bw),SizeOf.sizeOf e<N->kP p e->∀H,FF H n ms mn mv ma p W->
  aF prog 79 [.gp n 0,lv (aQ e),aH top] H (Ml (fW p W top e) H)
 |0,e,h,_,_,_=>absurd h (by omega)
 |N+1,e,h,he,H,hW=>by
  have cc:=ar (p:=aY [3,4,5] [] []);refine aF.bD (ar (p:=aY [3,4,5] [] [])) func79 rfl call79 (by rw[ntmps79];simp) rfl λhf hw=>?_
  have hnl:=hw.lt hW.Mn.ob;obtain⟨x,h1,h2,h3,h4,h5⟩:=qI he.self.ok;have hop:1<=e.op/\e.op<=15:=Classical.byContradiction λhn=>by
   unfold bF at h1
   repeat (rw[if_neg (by omega)]at h1)
   cases h1
  have jQ:e.kids.length<=1000:=by
   have:=zq h1 hop;omega
  have hch:=Cm (fW p W top) e.kids jQ 142 [.ip [.gp n 0] 0,.ip [aH top] 0] H (by simp[ct,LV.nb];exact hnl) (λk hk H' hn' ho'=>VL (by omega) (vK hs hd ht N k (by have:=rm hk;omega) (he.Tk hk) H' (hW.mono hw ho')))
  rw[Ng];simp[ntmps79,results79,ai];refine⟨hnl,EC.of hch (λv H2 hR=>?_) (λv H2 hR=>?_)⟩
  rotate_left
  ·obtain⟨rfl,hR⟩:=hR;cases q:dP (fW p W top) e.kids with
   |some ks=>rw[q]at hR;cases hR
   |none=>
    rw[q]at hR;cases hR;simp[Ml];exact λhz=>⟨cC hz,trivial⟩
  obtain⟨rfl,hR⟩:=hR;cases q:dP (fW p W top) e.kids with
  |none=>rw[q]at hR;cases hR
  |some ks=>
   rw[q]at hR;cases hR;have hks:∀b∈ks,bI b:=sy q λx hx b hb=>nw hs hd ht N x (by have:=rm hx;omega) (he.Tk hx) b hb
   have hact:=λG (hG:FF G n ms mn mv ma p W)=>NP hG.Mn hd e he.self ks (iO q) hks
   have hit:=w6 hs hd e he.self ks (iO q) hks;obtain⟨A,hA⟩:∃A,gV p W e.op e.name e.n e.fold e.aD ks=A:=⟨_,rfl⟩;rw[hA]at hit;simp only[hA]at hact|-;have ob:=hW.Mn.ob;have oa:=hW.oa;have hkey:=eq_true Py;have dD:=Pz hop;have RS:=hact H2 hW;simp[ai]at RS;simp;refine AW.draw cc [(12,.n)] (.q 4<|.q 9<|.q 0<|.q 1<|.q 2<|.q 3<|.q 5<|.q 6<|.q 7<|.q 8<|.f (.cons 10 (.q 11<|.q 12<|.q 13<|.done) (.cons 11 (.f<|.one 10<|.q 12<|.q 13<|.done) (.nil)))) (by kernel_rfl) ?_
   simp[ob,oa,hkey,dD,ai];have AR:∀l':List Item,l'.Perm A->aC prog 135 [.d (.sl (l'.map ak)),aH top] (sl ((bV A top).map ak)):=λl' hp=>by
    have:=xB l' top (by rw[hp.length_eq];omega) (λx hx=>by have:=(hit.2 x (hp.mem_iff.1 hx)).1;omega)
    rw[Es hp]at this;exact this
   obtain⟨B,hB⟩:∃B,bV A top=B:=⟨_,rfl⟩;rw[hB]at AR;have hmany:=oO B (λx=>decide (1000000<x.n)) 143 (λx _=>Sa x)
   refine⟨⟨hnl,ya.of RS (λv H3 hR _=>?_) (λx H3 env hR _=>by obtain⟨⟨_,_,q⟩,_⟩:=hR;cases q)⟩,hnl,ya.of RS (λv H3 hR _=>?_) (λx H3 env hR _=>by obtain⟨⟨_,_,q⟩,_⟩:=hR;cases q)⟩
   all_goals
    obtain⟨⟨l',hp,q⟩,rfl⟩:=hR;cases q;simp[bY];refine FC.aJ (AR l' hp) ?_;simp at hmany;simp;refine⟨λhl=>⟨hl,EC.aJ hmany ?_⟩,λhl=>?_⟩
    ·have A5:decide (300<(B.length:Int))=false:=by simp;omega
     simp[A5,cond];refine⟨λx hx hm hz=>⟨H3,cC hz,?_⟩,λhm hz=>⟨H3,cC hz,?_⟩⟩
     ·have Ts:gH B=false:=by
       rw[Bool.eq_false_iff];intro q;simp only[gH,Bool.and_eq_true,decide_eq_true_eq,List.all_eq_true]at q;have:=q.2 x hx;omega
      rw[hA,hB,Ts];exact⟨rfl,rfl⟩
     ·have hf1:gH B=true:=by
       simp only[gH,Bool.and_eq_true,decide_eq_true_eq,List.all_eq_true];exact⟨by omega,hm⟩
      rw[hA,hB,hf1];exact⟨rfl,rfl⟩
    ·have A5:decide (300<(B.length:Int))=true:=by simp;omega
     simp[A5,cond];refine λhz=>⟨H3,cC hz,?_⟩
     have Ts:gH B=false:=by
      rw[Bool.eq_false_iff];intro q;simp only[gH,Bool.and_eq_true,decide_eq_true_eq,List.all_eq_true]at q;omega
     rw[hA,hB,Ts];exact⟨rfl,rfl⟩
def rH(p:Prog)(g:List Nat)(v:Int)(e:bw):Int:=if e.op=3/\idx (an p) e.name∈bU g then ic v e.n else v
def jT(p:Prog)(g:List Nat)(l:List bw)(v:Int):Int:=l.foldl (rH p g) v
def wN(p:Prog)(g:List Nat):Int:=g.foldl (λv d=>jT p g (bn (p.aj.getD d default).exp) v) 201
def Bh(g:List Nat)(n no nl:Nat):List LV:=[.ip [fT g] 0,.ip [.gp n 0] 0,.gp no 0,.gp nl 0]
theorem BG:∀(l:List bw) (i:Nat) (h:i<l.length),bu (l.take (i+1))=bu (l.take i)++bn l[i]
 |e::l,0,h=>by simp[bu]
 |e::l,i+1,h=>by
  simp only[List.take_succ_cons,bu,List.getElem_cons_succ,BG l i (by simpa using h),List.append_assoc]
theorem V6(e:bw):bn e=e::bu e.kids:=by obtain⟨op,name,n,fold,aD,kids⟩:=e;rw[bn];rfl
theorem I7{p:Prog}{W:b9}{n ms mn mv ma no nl:Nat}{g:List Nat}{H:GH}(hW:FF H n ms mn mv ma p W)(hw0:gD H)(h1:H.next<=no)(h2:H.next<=nl)(hne:no≠nl):
  ∀(N:Nat) (e:bw),SizeOf.sizeOf e<N->kP p e->∀(G:GH) (v:Int),(∀m,m<H.next->G.obj m=H.obj m)->G.obj no=some (.box [aH v])->G.obj nl=some (.box [.fn (.func 200) [] (Bh g n no nl)])->
   aF prog 200 ([lv (aQ e)]++Bh g n no nl) G λce H'=>(∃x,ce=.ret x)/\H'=G.set no (.box [aH (jT p g (bn e) v)])
 |0,e,h,_,_,_,_,_,_=>absurd h (by omega)
 |N+1,e,h,he,G,v,hG,hno,hnl=>by
  have cc:=ar (p:=aY [5] [] []);have jQ:e.kids.length<=1000:=by
   obtain⟨x,q1,q2,q3,q4,q5⟩:=qI he.self.ok;have hop:1<=e.op/\e.op<=15:=Classical.byContradiction λhn=>by
    unfold bF at q1
    repeat (rw[if_neg (by omega)]at q1)
    cases q1
   have:=zq q1 hop;omega
  refine aF.dV (ar (p:=aY [5] [] [])) func200 rfl call200 (by rw[ntmps200];simp[Bh]) rfl λhf hw=>?_
  have hWG:=hW.mono hw0 hG;have ob:=hWG.Mn.ob;obtain⟨en,on,hen⟩:=hWG.Mn.on;have lno:=hw.lt hno;have lnl:=hw.lt hnl;have lob:=hw.lt ob;have hkey:=eq_true hen.key;have hco:=λk=>vk (bU g) k
  have yO:bn e=e::bu e.kids:=V6 e;have J7:jT p g (bn e) v=jT p g (bu e.kids) (rH p g v e):=by rw[yO];rfl
  rw[J7];simp[ntmps200,results200,Bh,ai];refine AW.seq cc ?_;simp;refine AW.join (c:=wR (aY [5] [] [])) (λa:Int=>⟨[(4,.gp nl 0),(5,.ip ((aQ e).map .d) 0)],[],G.set no (.box [aH a])⟩) (λa=>a=rH p g v e) (AW.ev cc ?_) ?_
  ·simp;refine AW.draw cc [(12,.n)] (.q 0<|.q 1<|.q 2<|.q 3<|.q 9<|.q 4<|.q 5<|.q 6<|.q 7<|.q 8<|.q 10<|.q 11<|.q 12<|.q 13<|.done) (by kernel_rfl) ?_
   have hidG:G.set no (.box [.d (.k (.int .i64 v))])=G:=GH.iH hno;by_cases h3:e.op=3
   ·have hid:=he.self.df (.inr h3);have dD:=hen.get e.name hid;have LG:max (idx (an p) e.name) 0=idx (an p) e.name:=by omega
    simp[ai,h3,ob,on,hkey,dD,LG];refine⟨by simp[fT,LV.nb],sV.aJ (λ_=>hco _) ?_⟩
    simp;refine⟨λhin=>?_,λhin=>?_⟩
    ·simp[hno,lno];exact JN.go (rH p g v e) rfl (by simp[ai,rH,h3,hin])
    ·exact JN.go (rH p g v e) rfl (by simp[ai,rH,h3,hin,hidG])
   ·have h3':(e.op==3)=false:=by simpa using h3
    simp[ai,h3',ob,on,hkey];refine sV.aJ (v:=.d (.k (.bool false))) (λq=>by cases q) ?_
    simp;exact JN.go (rH p g v e) rfl (by simp[ai,rH,h3,hidG])
  ·intro v1 hv1;rw[<-hv1];have hs0:∀X Y,(G.set no X).set no Y=G.set no Y:=λX Y=>GH.set_set
   refine AW.seq cc ?_;simp[ai];refine AW.block (c:=wR (aY [5] [] [])) ?_;refine AW.aU cc (λi:Nat=>⟨[(4,.gp nl 0),(27,sl (e.kids.map aQ)),(28,aH e.kids.length),(29,aH i)],[],G.set no (.box [aH (jT p g (bu (e.kids.take i)) v1)])⟩) (λi=>e.kids.length-i) (λi=>i<=e.kids.length) 0 ⟨Nat.zero_le _,by simp[bu,jT]⟩ ?_
   intro i hi;simp;refine⟨λhl=>?_,λhl=>?_⟩
   ·obtain⟨k,hk⟩:∃k,e.kids[i]=k:=⟨_,rfl⟩;have hkm:k∈e.kids:=hk▸List.getElem_mem hl;have sH:=BG e.kids i hl;rw[hk]at sH;have hih:=I7 hW hw0 h1 h2 hne N k (by have:=rm hkm;omega) (he.Tk hkm) (G.set no (.box [aH (jT p g (bu (e.kids.take i)) v1)])) (jT p g (bu (e.kids.take i)) v1) (λm hm=>by rw[GH.ay,if_neg (by omega)];exact hG m hm) GH.aX (by rw[GH.ay,if_neg (Ne.symm hne)];exact hnl)
    have hgl:∀X,(G.set no X).obj nl=some (.box [.fn (.func 200) [] (Bh g n no nl)]):=λX=>by rw[GH.ay,if_neg (Ne.symm hne)];exact hnl
    have hwi:=aB (n:=9223372036854775807) (show i<9223372036854775807 by omega)
    simp[ai,Bh]at hih;simp[hl,List.getElem?_eq_getElem hl,hk,ai,hgl,Bh];have hfa:jT p g (bu (e.kids.take (i+1))) v1=jT p g (bn k) (jT p g (bu (e.kids.take i)) v1):=by rw[sH,jT,List.foldl_append];rfl
    refine⟨⟨by simp[fT,LV.nb],by rw[GH.aL];exact lob,by rw[GH.aL];exact lno,by rw[GH.aL];exact lnl⟩,EC.of hih (λv2 H2 hR=>?_) (λv2 H2 hR=>by obtain⟨⟨_,q⟩,_⟩:=hR;cases q)⟩
    obtain⟨_,hE⟩:=hR;rw[hE]
    clear hE
    simp[GH.set_set];exact NX.go (i+1) (by omega) hl (by simp[hwi,hfa])
   ·have:i=e.kids.length:=by omega
    subst this;rw[List.take_length];exact λhz=>hz.drop (by rw[GH.aL];exact Nat.le_refl _)
theorem Q1{p:Prog}{W:b9}{n ms mn mv ma:Nat}{g:List Nat}{H:GH}(hW:FF H n ms mn mv ma p W)(he:∀(d:Nat) (h:d<p.aj.length),kP p p.aj[d].exp)(hg:∀d∈g,d<p.aj.length)(hgl:g.length<=6):
  aF prog 139 [.gp n 0,fT g] H λce H'=>ce=.ret (aH (wN p g))/\H'=H:=by
 have cc:=ar (p:=aY [2,3] [5,6] []);refine aF.dV (ar (p:=aY [2,3] [5,6] [])) func139 rfl call139 (by rw[ntmps139];simp) rfl λhf hw=>?_
 have lob:=hw.lt hW.Mn.ob;simp[ntmps139,results139,fT];refine AW.seq cc ?_;simp;refine AW.seq cc ?_;simp[GH.au,GH.aq,GH.cT];refine AW.seq cc ?_;simp[GH.au,GH.aq,GH.cT];refine AW.seq cc ?_;simp[GH.au,GH.aq,GH.cT];refine⟨⟨by omega,by omega⟩,?_⟩
 obtain⟨HH,hHH⟩:∃HH:Int->GH,HH=λv=>(H.add (.box [aH v])).add (.box [.fn (.func 200) [] (Bh g n H.next (H.next+1))]):=⟨_,rfl⟩
 have hn:∀v,(HH v).next=H.next+2:=λv=>by rw[hHH];rfl
 have hno:∀v,(HH v).obj H.next=some (.box [aH v]):=λv=>by rw[hHH];simp only;rw[GH.au,GH.aq,if_neg (by omega),GH.au,if_pos rfl]
 have hnl:∀v,(HH v).obj (H.next+1)=some (.box [.fn (.func 200) [] (Bh g n H.next (H.next+1))]):=λv=>by rw[hHH];simp only;rw[GH.au,GH.aq,if_pos rfl]
 have hlo:∀v m,m<H.next->(HH v).obj m=H.obj m:=λv m hm=>by rw[hHH];simp only;rw[GH.au,GH.aq,if_neg (by omega),GH.au,if_neg (by omega)]
 have hst:∀v u,(HH v).set H.next (.box [aH u])=HH u:=λv u=>by
  rw[hHH];simp only[GH.set,GH.add];congr 1;funext m;unfold ew;split<;>simp_all
 have h0:((H.add (.box [.d (.k (.int .i64 201))])).add (.box [.d (.k .nilFunc)])).set (H.next+1) (.box [.fn (.func 200) [] [.ip [.d (.sl ((bU g).map rI))] 0,.ip [.gp n 0] 0,.gp H.next 0,.gp (H.next+1) 0]])=HH 201:=by
  rw[hHH];have:∀(A:GH) (a b:GO),(A.add a).set A.next b=A.add b:=λA a b=>GH.cT
  exact this (H.add (.box [.d (.k (.int .i64 201))])) _ _
 rw[h0];obtain⟨ex,hex⟩:∃ex:Nat->List bw,ex=λd=>bn (p.aj.getD d default).exp:=⟨_,rfl⟩
 refine AW.seq cc ?_;simp;refine AW.aU cc (λi:Nat=>⟨[(2,.ip [.gp n 0] 0),(5,.gp H.next 0),(6,.gp (H.next+1) 0),(10,fT g),(11,aH g.length),(12,aH i)],[],HH ((g.take i).foldl (λv d=>jT p g (ex d) v) 201)⟩) (λi=>g.length-i) (λi=>i<=g.length) 0 ⟨Nat.zero_le _,by simp[fT,bU]⟩ ?_
 intro i hi;have hwi:=aB (n:=9223372036854775807) (show i<9223372036854775807 by omega)
 simp[fT];refine⟨λh=>?_,λh=>?_⟩
 ·obtain⟨d,hd⟩:∃d,g[i]=d:=⟨_,rfl⟩;have hdm:d∈g:=hd▸List.getElem_mem h;have pL:=hg d hdm;have fU:g.take (i+1)=g.take i++[d]:=by rw[<-aR h,hd]
  have sR:(bU g)[i]?=some (d:Int):=by simp[bU,List.getElem?_eq_getElem h,hd]
  obtain⟨v,hv⟩:∃v,(g.take i).foldl (λv d=>jT p g (ex d) v) 201=v:=⟨_,rfl⟩
  have To:(g.take (i+1)).foldl (λv d=>jT p g (ex d) v) 201=jT p g (ex d) v:=by rw[fU,List.foldl_append,hv];rfl
  have gu:ex d=bn p.aj[d].exp:=by rw[hex];simp[List.getD,List.getElem?_eq_getElem pL]
  have hlk:=I7 hW hw (no:=H.next) (nl:=H.next+1) (g:=g) (Nat.le_refl _) (by omega) (by omega) _ p.aj[d].exp (Nat.lt_succ_self _) (he d pL) (HH v) v (hlo v) (hno v) (hnl v)
  have obv:(HH v).obj n=H.obj n:=hlo v n lob;have ob:=hW.Mn.ob;rw[hst,<-gu]at hlk;simp[ai,Bh]at hlk;rw[hv];simp[h,sR,rI];refine⟨by simpa[bU]using h,?_⟩
  refine AW.draw cc [] (.q 6<|.q 0<|.q 1<|.q 2<|.q 3<|.q 4<|.q 5<|.q 7<|.q 8<|.q 9<|.f<|.one 10<|.done) (by kernel_rfl) ?_
  simp[hnl,obv,ob,pL,List.getElem?_eq_getElem pL,ez,ai,Bh];refine⟨⟨by simp[fT,LV.nb],by rw[hn];omega,by rw[hn];omega,by rw[hn];omega⟩,ya.of hlk (λv2 H2 hR _=>?_) (λx H2 env hR _=>by obtain⟨⟨_,q⟩,_⟩:=hR;cases q)⟩
  obtain⟨_,hE⟩:=hR;rw[hE]
  clear hE
  simp;exact NX.go (i+1) (by omega) h (by simp[hwi,To,fT])
 ·have:i=g.length:=by omega
  subst this;rw[List.take_length];have hfm:g.foldl (λv d=>jT p g (ex d) v) 201=wN p g:=by rw[hex];rfl
  rw[hfm];refine AW.ev cc ?_;simp[hno];exact λ_=>aO (by rw[hn];omega) (hlo _) hw.none
def ga(l:List Event)(src:Int):List Item:=(l.filter λe=>decide (e.src=src)).map λe=>⟨e.aa,1⟩
def mZ(l:List Event)(src:Int):cr:=bV (ga l src) 200
theorem zw(l:List Event)(e:Event)(src:Int):ga (l++[e]) src=ga l src++(if e.src=src then[⟨e.aa,1⟩]else[]):=by
 unfold ga;rw[List.filter_append,List.map_append,List.filter_cons];by_cases q:e.src=src<;>simp[q]
theorem nW(l:List Event)(src:Int):(ga l src).length<=l.length:=by
 unfold ga;rw[List.length_map];exact List.length_filter_le _ _
theorem Dd(l:List Event)(src:Int)(hl:l.length<=1000):aC prog 69 [sl (l.map bg),aH src] (bY (mZ l src)):=by
 intro H;have cc:=ar (p:=aY [] [] []);refine aF.bD (ar (p:=aY [] [] [])) func69 rfl call69 (by rw[ntmps69];simp) rfl λhf hw=>?_
 simp[ntmps69,results69]at hf|-;refine AW.aU cc (λs:Nat×LV×GH=>⟨[(1,aH src),(5,s.2.1),(8,sl (l.map bg)),(9,aH l.length),(10,aH s.1)],[],s.2.2⟩) (λs=>l.length-s.1)
  (λs=>s.1<=l.length/\cm 86 4 H s.2.1 ((ga (l.take s.1) src).map ak) s.2.2) (0,.d (.k (.slice none 0 0)),H) ⟨⟨Nat.zero_le _,by simpa[ga]using cm.nil⟩,by simp⟩ ?_
 rintro⟨i,y,H2⟩ ⟨hi,aA⟩;simp only at hi aA;simp;refine⟨λh=>?_,λh=>?_⟩
 ·obtain⟨x,dc⟩:∃x,l[i]=x:=⟨_,rfl⟩;have fU:l.take (i+1)=l.take i++[x]:=by rw[<-aR h,dc]
  have eU:=aB (n:=9223372036854775807) (show i<9223372036854775807 by omega)
  have dz:=zw (l.take i) x src;rw[<-fU]at dz;have hsl:(ga (l.take i) src).length<=1000:=Nat.le_trans (nW _ _) (by simp;omega)
  simp[h,List.getElem?_eq_getElem h,dc,bg,bN,aA.plain.all];refine⟨λq=>?_,λq=>?_⟩
  ·refine eE.dJ (ys:=[ak ⟨x.aa,1⟩]) eW rfl dO (by simp) (x:=y) (by simp) aA (by simp[ak,rowsOf]) (by simp) (bl _) (λr hr=>by simp only[List.mem_singleton]at hr;subst hr;rfl) (by simp;omega) (by simp) λx' H3 aG _ _=>?_
   simp[aG.plain.all,aG.only,eU];refine NX.go (i+1,x',H3) (by simp only;omega) ⟨h,?_⟩ (by simp[aG.only])
   rw[dz,if_pos q,List.map_append];exact aG
  ·rw[if_neg q,List.append_nil]at dz;exact NX.go (i+1,y,H2) (by simp only;omega) ⟨h,by rw[dz];exact aA⟩ (by simp[aA.only,eU])
 ·have:i=l.length:=by omega
  subst this;rw[List.take_length]at aA;have hsl:=nW l src;have hsu:=xB (ga l src) 200 (by omega) (λx hx=>by obtain⟨e,_,rfl⟩:=List.mem_map.1 hx;simp)
  simp at hsu;simp[aA.plain.all];refine⟨aA.nb,EC.aJ (aC.OW (v:=sl ((bV (ga l src) 200).map ak)) (by simp only[xV,fz,aA.fz];exact hsu)) ?_⟩
  simp[bY,mZ];exact λhz=>aO aA.nx aA.ob hw.none
def nE(a b:Event):Bool:=decide (a.aa.at_<b.aa.at_\/ a.aa.at_=b.aa.at_/\(a.src<b.src\/ a.src=b.src/\a.id<b.id))
def Bn(e:Event):dg:=⟨1,e.src,e.id,1,e.aa⟩
theorem H8(e:Event):aC prog 132 [lv (bg e)] (lv (cI (Bn e))):=by
 refine aC.body (ar (p:=aY [1] [] [])) func132 rfl call132 (by rw[ntmps132];simp) rfl λhf H=>?_
 simp[ntmps132,results132,bg,bN,cI,Bn]
theorem H7(a b:Event):aC prog 133 [lv (bg a),lv (bg b)] (.d (.k (.bool (nE a b)))):=by
 refine aC.body (ar (p:=aY [2,3] [] [])) func133 rfl call133 (by rw[ntmps133];simp) rfl λhf H=>?_
 have h:=qH [a.aa.at_,a.src,a.id] [b.aa.at_,b.src,b.id];have hr:List.range' 0 3=[0,1,2]:=rfl;simp[rI]at h;simp[ntmps133,results133,bg,bN,hr];refine EC.aJ h ?_;simp;rw[Bool.eq_iff_iff];simp only[nE,decide_eq_true_eq];simp only[yx,jB]
 repeat' split
 all_goals omega
theorem Od(l:List dg):∀r∈l.map cI,r.length=7:=λr hr=>by obtain⟨_,_,rfl⟩:=List.mem_map.1 hr;rfl
theorem Ck(l:List Event)(hl:l.length<=1000):aC prog 131 [sl (l.map bg),.fn (.func 132) [] []] (sl ((l.map Bn).map cI)):=by
 intro H;have cc:=aP;refine aF.bD aP func131 rfl call131 (by rw[ntmps131];simp) rfl λhf hw=>?_
 simp[ntmps131,results131]at hf|-;refine AW.aU cc (λa:Nat×LV×GH=>⟨[(1,.fn (.func 132) [] []),(5,a.2.1),(8,.d (.sl (l.map bg))),(9,aH l.length),(10,aH a.1)],[],a.2.2⟩) (λa=>l.length-a.1) (λa=>a.1<=l.length/\cm 184 7 H a.2.1 (((l.take a.1).map Bn).map cI) a.2.2) (0,.d (.k (.slice none 0 0)),H) ⟨⟨by simp,.nil⟩,by simp[LV.only,dQ]⟩ ?_
 rintro⟨i,x,H'⟩ ⟨hi,aA⟩;simp only at hi aA;simp;refine⟨λh=>?_,λh=>?_⟩
 ·have hd:=H8 l[i];simp[bg,bN,cI]at hd;simp[h,List.getElem?_eq_getElem h,bg,bN,aA.plain.all];refine EC.aJ hd ?_;simp[aA.plain.all];refine eE.dJ (ys:=[cI (Bn l[i])]) tyE180 rfl tyE184 (by simp) (x:=x) (by simp) aA (by simp[cI,bN,rowsOf]) (by simp) (Od _) (λr hr=>by simp only[List.mem_singleton]at hr;subst hr;rfl) (by simp;omega) (by simp) λx' H3 aG _ _=>?_
  rw[show((l.take i).map Bn).map cI++[cI (Bn l[i])]=((l.take (i+1)).map Bn).map cI by rw[<-aR h,List.map_append,List.map_append];rfl]at aG
  simp[aG.plain.all,aG.only,aB (n:=9223372036854775807) (show i<9223372036854775807 by omega)]
  exact NX.go (i+1,x',H3) (by simp only;omega) ⟨h,aG⟩ (by simp[aG.only,aG.plain.all,LV.only,dQ])
 ·have:i=l.length:=by omega
  subst this;rw[List.take_length]at aA;simp[aA.plain.all,aA.fz];exact λhz=>aO aA.nx aA.ob hw.none
def CL(p:Prog)(az:List cr)(top:Int)(aj:List cr)(d:Nat):Option (List cr):=match fW p ⟨az,aj⟩ top (p.aj.getD d default).exp with
 |none=>none
 |some b=>some (aj.set d b)
def gb(p:Prog)(az:List cr)(top:Int):List Nat->List cr->Option (List cr)
 |[],aj=>some aj
 |d::g,aj=>match CL p az top aj d with
  |none=>none
  |some defs'=>gb p az top g defs'
def ir(p:Prog)(az:List cr)(far:Int)(g:List Nat):Nat->Int->List cr->Option (List cr)
 |0,_,aj=>some aj
 |f+1,top,aj=>match gb p az top g aj with
  |none=>none
  |some defs'=>if top=200 then some defs' else ir p az far g f (ic (top+far) 200) defs'
def wK(p:Prog)(az:List cr)(g:List Nat)(aj:List cr):Option (List cr):=ir p az (wN p g) g 202 (ic (wN p g-1) 200) aj
def iC(p:Prog)(az:List cr):List (List Nat)->List cr->Option (List cr)
 |[],aj=>some aj
 |g::gs,aj=>match wK p az g aj with
  |none=>none
  |some defs'=>iC p az gs defs'
def mg(p:Prog)(l:List Event):List cr:=(List.range p.az.length).map λi=>mZ l (i:Nat)
noncomputable def fA (p:Prog) (l:List Event):Option (List cr):=iC p (mg p l) (gR p.aj.length (bh p)) (List.replicate p.aj.length [])
theorem Ls(n:Nat)(H:GH)(R:DM->GH->Prop)(h:R .ret H):mO prog 137 [.gp n 0] H .ret R:=by
 refine mO.iA aP func137 rfl call137 rfl rfl rfl (by rw[ntmps137];simp) (by rw[ntmps137];omega) rfl λhw=>?_
 simp[KA,G8,ntmps137];refine EV.sound aP ?_;simp[Bp,G9];exact⟨H,aO (Nat.le_refl _) (λ_ _=>rfl) hw,h⟩
theorem ud(n:Nat)(c:List LV)(H:GH)(h1:H.obj n=some (.box c))(hl:c.length=1)(R:DM->GH->Prop)
  (h:R (.aa uR) (H.set n (.box [.d (.k (.pointer none))]))):mO prog 137 [.gp n 0] H (.dY uR) R:=by
 refine mO.iA aP func137 rfl call137 rfl rfl rfl (by rw[ntmps137];simp) (by rw[ntmps137];omega) rfl λhw=>?_
 simp[KA,G8,ntmps137,uR];refine EV.sound aP ?_;obtain⟨x,rfl⟩:∃x,c=[x]:=by
  match c,hl with
  |[x],_=>exact⟨x,rfl⟩
 simp[Bp,G9,h1];have lt:∀n o,H.obj n=some o->n<H.next:=λn o ho=>by
  rcases Nat.lt_or_ge n H.next with q|q
  ·exact q
  ·rw[hw n q]at ho;cases ho
 exact⟨_,B2 (FQ (Nat.le_refl _) hw λ_ _ q=>.inl q) (lt _ _ h1) (by simp[ct,LV.nb]),h⟩
theorem Oo(H:GH):aF prog 138 [] H λce H'=>ce=.ret (.gm H.next)/\H'=H.add (.map JL):=by
 refine aF.bD aP func138 rfl call138 (by rw[ntmps138];simp) rfl λhf hw=>?_
 simp[ntmps138,results138,GH.au,GH.aq,GH.cT,KK.has,Sc.has,cg,gh];exact λhz=>hz.drop (by rw[GH.aq];omega)
end Go.Aft
end
