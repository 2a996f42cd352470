import Derived.Test.YthinedikejlgmaaGreatA27
import Derived.Test.YthinedikejlgmaaGreatA24
import Derived.Test.YthinedikejlgmaaGreatA26
set_option linter.all false
section
set_option maxRecDepth 20000
namespace Go.Aft
open Go.Proofs.Tryz
theorem Rq{n:Nat}{R:Nat->Nat->Bool}(ht:∀i j k,R i j=true->R j k=true->R i k=true){r:List Nat}(hr:r∈dO n R){k:Nat}(hk:k∈r):R k k=true/\fK n R k=r:=by
 simp only[dO,List.mem_map,List.mem_filter,Bool.and_eq_true]at hr;obtain⟨i,⟨_,hi,_⟩,rfl⟩:=hr;have h2:R i k=true/\R k i=true:=by
  rcases(bL.1 hk).2 with rfl|h
  ·exact⟨hi,hi⟩
  ·exact h
 have hkk:R k k=true:=ht _ _ _ h2.2 h2.1;refine⟨hkk,?_⟩;rw[fK,if_pos hkk];unfold bQ;refine List.filter_congr λj _=>?_
 rw[Bool.eq_iff_iff];simp only[Bool.or_eq_true,beq_iff_eq,Bool.and_eq_true];constructor
 ·rintro(rfl|⟨h3,h4⟩)
  ·exact .inr h2
  ·exact .inr ⟨ht _ _ _ h2.1 h3,ht _ _ _ h4 h2.2⟩
 ·rintro(rfl|⟨h3,h4⟩)
  ·exact .inr ⟨h2.2,h2.1⟩
  ·exact .inr ⟨ht _ _ _ h2.2 h3,ht _ _ _ h4 h2.1⟩
theorem Se{F:Nat->List Nat}{ks:List Int}(hn:ks.Nodup)(k:Nat):cr (.int .i64 (k:Int)) (gD (F k)) (yA ks F)=yA (if(k:Int)∈ks then ks else ks++[(k:Int)]) F:=by
 rw[yA,rQ _ _ _ _ hn,yA];refine mq λj _=>?_
 by_cases e:j=(k:Int)
 ·rw[if_pos e,e];rfl
 ·rw[if_neg e]
theorem Sf{F:Nat->List Nat}(ks:List Int)(k:Nat):bD (.int .i64 (k:Int)) (yA ks F)=if(k:Int)∈ks then some (gD (F k))else none:=by
 rw[yA,mj];rfl
theorem Jl{ks:List Int}(hn:ks.Nodup)(k:Int):(if k∈ks then ks else ks++[k]).Nodup:=by
 split
 ·exact hn
 ·rename_i q;rw[List.nodup_append];exact⟨hn,by simp,λa ha b hb=>by simp at hb;subst hb;intro z;subst z;exact q ha⟩
theorem FZ{ks:List Int}{k x:Int}:x∈(if k∈ks then ks else ks++[k])↔x∈ks\/ x=k:=by
 split
 ·rename_i q;exact⟨.inl,λh=>by rcases h with h|rfl;exact h;exact q⟩
 ·simp
theorem yh(p:Prog)(lW:∀s∈p.az++an p,cN s)(hp:formed p)(hs1:0<p.az.length)(Mt:p.az.length<=12)(g:Good p)(H:GH):
  aG prog 65 [lv (ar p)] H λce H'=>ce=.ret (sl ((gK p.ai.length (aZ p)).map rT))/\H'=H:=by
 have cc:=au (p:=bf [1] [5,11] []);refine aG.dG (au (p:=bf [1] [5,11] [])) func65 rfl call65 (by rw[ntmps65];simp) rfl λhf hw=>?_
 have hri:=Lg p lW hp g H;have hg1:=λ{G:GH} {QN md b5 mi:Nat} {ks:List Int} {D:List Nat} (h:Grp G QN md b5 mi p.ai.length (fK p.ai.length (aZ p)) ks D) (d:Nat) (hd:d<p.ai.length)=>SQ p lW hp hs1 Mt g h d hd
 have ht:∀i j k,aZ p i j=true->aZ p j k=true->aZ p i k=true:=λi j k h1 h2=>by
  simp only[aZ,decide_eq_true_eq]at h1 h2|-;exact h1.trans h2
 have ac4:=λ{k:Nat} (hk:k<p.ai.length)=>wP (n:=p.ai.length) ht hk
 obtain⟨n,hn⟩:∃n,p.ai.length=n:=⟨_,rfl⟩;have Ug:n<=6:=hn▸g.n6;obtain⟨R,hR⟩:∃R,aZ p=R:=⟨_,rfl⟩;rw[hn,hR]at hri;rw[hR]at ht ac4 hg1|-;rw[hn]at ac4 hg1;rw[hn];obtain⟨Rg,hRg⟩:∃Rg,dO n R=Rg:=⟨_,rfl⟩;have hRl:Rg.length<=6:=by
  rw[<-hRg,dO,List.length_map];exact Nat.le_trans (List.length_filter_le _ _) (by simp;omega)
 rw[hRg]at hri;simp[ar]at hri;simp[ntmps65,results65,ar]at hf|-;refine AW.seq cc ?_;simp;refine AW.seq cc ?_;simp;refine EC.of hri (λv G2 qS=>?_) (λv G2 qS=>by cases qS.1)
 obtain⟨q,hE⟩:=qS;cases q;rw[hE]
 clear hE
 simp;refine AW.seq cc ?_;simp[GH.ax,GH.aq];refine⟨by omega,?_⟩
 obtain⟨H1,xq⟩:∃H1,((H.add (GO.map [])).add (GO.box [LV.d (DV.k (Value.map none))])).set (H.next+1) (GO.box [LV.gm H.next])=H1:=⟨_,rfl⟩;have n1:H1.next=H.next+2:=by rw[<-xq];rfl
 have b1:H1.obj (H.next+1)=some (.box [.gm H.next]):=by rw[<-xq,GH.aY]
 have m1:H1.obj H.next=some (.map []):=by rw[<-xq,GH.ay,if_neg (by omega),GH.ax,if_neg (by rw[GH.aq];omega),GH.ax,if_pos rfl]
 have o1:∀m,m<H.next->H1.obj m=H.obj m:=λm hm=>by rw[<-xq,GH.ay,if_neg (by omega),GH.ax,if_neg (by rw[GH.aq];omega),GH.ax,if_neg (by omega)]
 rw[xq]
 clear xq
 obtain⟨F,hF⟩:∃F,fK n R=F:=⟨_,rfl⟩;rw[hF]at hg1;have hA:∀ks,(H1.set H.next (.map (yA ks F))).obj (H.next+1)=some (.box [.gm H.next]):=λks=>by rw[GH.ay,if_neg (by omega)];exact b1
 have Ui:H1.set H.next (.map (yA [] F))=H1:=GH.iX (by rw[m1];rfl)
 have fE:∀X Y,(H1.set H.next X).set H.next Y=H1.set H.next Y:=λX Y=>GH.set_set
 refine AW.seq cc ?_;simp;refine AW.aV cc (λa:Nat×List Int=>⟨[(1,.ip ((ar p).map .d) 0),(5,.gp (H.next+1) 0),(23,sl (Rg.map rT)),(24,aH Rg.length),(25,aH a.1)],[],H1.set H.next (.map (yA a.2 F))⟩) (λa=>Rg.length-a.1)
  (λa=>a.1<=Rg.length/\a.2.Nodup/\(∀r∈Rg.take a.1,∀k∈r,((k:Nat):Int)∈a.2)/\(∀x∈a.2,∃k:Nat,x=k/\k<n/\R k k=true)) (0,[]) ⟨⟨Nat.zero_le _,by simp,by simp,by simp⟩,by simp[ar,Ui]⟩ ?_
 ·rintro⟨i,ks⟩ ⟨hi,hkn,hka,hkb⟩;simp only at hi hkn hka hkb;have hwi:=aB (n:=9223372036854775807) (show i<9223372036854775807 by omega)
  simp[ar];refine⟨λh=>?_,λh=>?_⟩
  ·obtain⟨r,hr⟩:∃r,Rg[i]=r:=⟨_,rfl⟩;have hrm:r∈dO n R:=by rw[hRg];exact hr▸List.getElem_mem h
   have hrl:r.length<=6:=by
    simp only[dO,List.mem_map]at hrm;obtain⟨j,_,rfl⟩:=hrm;exact Nat.le_trans (List.length_filter_le _ _) (by simp;omega)
   have gx:Rg.take (i+1)=Rg.take i++[r]:=by rw[<-aR h,hr]
   simp[h,List.getElem?_eq_getElem h,hr,rT];refine AW.aV cc (λa:Nat×List Int=>⟨[(1,.ip ((ar p).map .d) 0),(5,.gp (H.next+1) 0),(7,gD r),(23,sl (Rg.map rT)),(24,aH Rg.length),(25,aH i),(29,gD r),(30,aH r.length),(31,aH a.1)],[],H1.set H.next (.map (yA a.2 F))⟩) (λa=>r.length-a.1)
    (λa=>a.1<=r.length/\a.2.Nodup/\(∀x∈ks,x∈a.2)/\(∀k∈r.take a.1,((k:Nat):Int)∈a.2)/\(∀x∈a.2,∃k:Nat,x=k/\k<n/\R k k=true)) (0,ks) ⟨⟨Nat.zero_le _,hkn,λx hx=>hx,by simp,hkb⟩,by simp[ar,gD,bX,rT]⟩ ?_
   rintro⟨j,ks2⟩ ⟨hj,d1,d2,d3,d4⟩;simp only at hj d1 d2 d3 d4;have Sk:=aB (n:=9223372036854775807) (show j<9223372036854775807 by omega)
   simp[gD];refine⟨λh2=>?_,λh2=>?_⟩
   ·have hj':j<r.length:=by simpa[bX]using h2
    obtain⟨k,hk⟩:∃k,r[j]=k:=⟨_,rfl⟩;have hkr:k∈r:=hk▸List.getElem_mem hj';have Sm:r.take (j+1)=r.take j++[k]:=by rw[<-aR hj',hk]
    have qR:(bX r)[j]?=some (k:Int):=by simp[bX,List.getElem?_eq_getElem hj',hk]
    have hin:=Rq (n:=n) (R:=R) ht hrm hkr;rw[hF]at hin;have hput:=Se (F:=F) d1 k;rw[hin.2]at hput;have hkey:=eq_true (iS ks2 λk=>gD (F k.toNat))
    have hie:yA ks2 F=lK ks2 λk=>gD (F k.toNat):=rfl
    rw[<-hie]at hkey;have hmo:∀X,(H1.set H.next X).obj H.next=some X:=λX=>GH.aY
    have bm7:k<n:=by
     simp only[dO,List.mem_map]at hrm;obtain⟨i0,_,rfl⟩:=hrm;exact(bL.1 hkr).1
    have Js:cr (.int .i64 (k:Int)) (.d (.sl ((bX r).map rI))) (yA ks2 F)=yA (if(k:Int)∈ks2 then ks2 else ks2++[(k:Int)]) F:=hput
    simp[hj',qR,rI,hA,hmo,hkey,fE];refine⟨by simpa[bX]using hj',NX.go (j+1,if(k:Int)∈ks2 then ks2 else ks2++[(k:Int)]) (by simp only;omega) ⟨hj',Jl d1 _,λx hx=>FZ.2 (.inl (d2 x hx)),λu hu=>?_,λx hx=>?_⟩ (by simp[ar,Sk,gD,Js])⟩
    ·simp only at hu|-;rw[Sm,List.mem_append]at hu;rcases hu with hu|hu
     ·exact FZ.2 (.inl (d3 u hu))
     ·simp at hu;rw[hu];exact FZ.2 (.inr rfl)
    ·simp only at hx;rcases FZ.1 hx with hx|hx
     ·exact d4 x hx
     ·exact⟨k,hx,bm7,hin.1⟩
   ·have e1:j=r.length:=by
     have:¬j<r.length:=by simpa[bX]using h2
     omega
    subst e1;rw[List.take_length]at d3;refine NX.go (i+1,ks2) (by simp only;omega) ⟨h,d1,λr' hr' k hk=>?_,d4⟩ (by simp[ar,hwi])
    simp only at hr'|-;rw[gx,List.mem_append]at hr';rcases hr' with hr'|hr'
    ·exact d2 _ (hka r' hr' k hk)
    ·simp at hr';rw[hr']at hk;exact d3 k hk
  ·have e1:i=Rg.length:=by omega
   subst e1;rw[List.take_length]at hka;have bm6:∀k:Nat,k<n->R k k=true->((k:Nat):Int)∈ks:=λk hk hkk=>by
    obtain⟨r,hr,hkr⟩:=(ac4 (k:=k) hk).2 hkk;rw[hRg]at hr;exact hka r hr k hkr
   have bL3:∀k:Nat,((k:Nat):Int)∈ks->R k k=true:=λk hk=>by
    obtain⟨k',h1,_,h3⟩:=hkb _ hk;have:k'=k:=by omega
    rw[<-this];exact h3
   refine AW.seq cc ?_;simp[ar,hn];refine AW.aV cc (λa:Nat×List Int=>⟨[(1,.ip ((ar p).map .d) 0),(5,.gp (H.next+1) 0),(42,aH n),(43,aH a.1)],[],H1.set H.next (.map (yA a.2 F))⟩) (λa=>n-a.1)
    (λa=>a.1<=n/\a.2.Nodup/\(∀x∈ks,x∈a.2)/\(∀k:Nat,k<a.1->(k:Int)∈a.2)/\(∀k:Nat,a.1<=k->((k:Int)∈a.2↔(k:Int)∈ks))) (0,ks) ⟨⟨Nat.zero_le _,hkn,λx hx=>hx,λk hk=>by simp only at hk;omega,λk _=>Iff.rfl⟩,by simp[ar]⟩ ?_
   rintro⟨d,ks2⟩ ⟨hd,d1,d2,d3,d4⟩;simp only at hd d1 d2 d3 d4;have hwd:=aB (n:=9223372036854775807) (show d<9223372036854775807 by omega)
   have hkey:=eq_true (iS ks2 λk=>gD (F k.toNat))
   have hie:yA ks2 F=lK ks2 λk=>gD (F k.toNat):=rfl
   rw[<-hie]at hkey;have hmo:∀X,(H1.set H.next X).obj H.next=some X:=λX=>GH.aY
   have dL:=Sf (F:=F) ks2 d;have hput:=Se (F:=F) d1 d;simp;refine⟨λh=>?_,λh=>?_⟩
   ·by_cases hdk:(d:Int)∈ks2
    ·rw[if_pos hdk]at dL;obtain⟨a,l,zp⟩:∃a l,F d=a::l:=by
      have:=fQ (n:=n) (R:=R) (d:=d) h;rw[hF]at this;cases q:F d with
      |nil=>rw[q]at this;cases this
      |cons a l=>exact⟨a,l,rfl⟩
     have hro:gD (F d)=.d (.sl (rI a::(bX l).map rI)):=by rw[zp];rfl
     rw[hro]at dL;simp[hA,hmo,hkey,dL];refine NX.go (d+1,ks2) (by simp only;omega) ⟨h,d1,d2,λk hk=>?_,λk hk=>d4 k (by simp only at hk;omega)⟩ (by simp[ar,hwd])
     by_cases e:k=d
     ·rw[e];exact hdk
     ·exact d3 k (by simp only at hk;omega)
    ·rw[if_neg hdk]at dL;have hRd:¬R d d=true:=λq=>hdk (d2 _ (bm6 d h q))
     have hFd:F d=[d]:=by rw[<-hF,fK,if_neg hRd]
     rw[hFd,if_neg hdk]at hput;have Js:cr (.int .i64 (d:Int)) (.d (.sl [[.k (.int .i64 (d:Int))]])) (yA ks2 F)=yA (ks2++[(d:Int)]) F:=hput;simp[hA,hmo,hkey,dL];refine NX.go (d+1,ks2++[(d:Int)]) (by simp only;omega) ⟨h,?_,λx hx=>by simp only;rw[List.mem_append];exact .inl (d2 x hx),λk hk=>?_,λk hk=>?_⟩ (by simp[ar,hwd,Js,fE])
     ·have:=Jl d1 (d:Int);rw[if_neg hdk]at this;exact this
     ·simp only at hk|-;rw[List.mem_append];by_cases e:k=d
      ·rw[e];exact .inr (by simp)
      ·exact .inl (d3 k (by omega))
     ·simp only at hk|-;rw[List.mem_append];constructor
      ·rintro(q|q)
       ·exact(d4 k (by omega)).1 q
       ·simp at q;omega
      ·exact λq=>.inl ((d4 k (by omega)).2 q)
   ·have edn:d=n:=by omega
    rw[edn]at d3
    clear d4 dL hput
    refine AW.seq cc ?_;simp[GH.ax,GH.aq];refine⟨by omega,?_⟩
    obtain⟨B,hB⟩:∃B,H1.set H.next (.map (yA ks2 F))=B:=⟨_,rfl⟩;have eB:B.next=H.next+2:=by rw[<-hB,GH.aM,n1]
    have Bi:B.obj H.next=some (.map (yA ks2 F)):=by rw[<-hB,GH.aY]
    have B5:B.obj (H.next+1)=some (.box [.gm H.next]):=by rw[<-hB];exact hA ks2
    have Bl:∀m,m<H.next->B.obj m=H.obj m:=λm hm=>by rw[<-hB,GH.ay,if_neg (by omega)];exact o1 m hm
    rw[hB];obtain⟨H2,vm⟩:∃H2,((B.add (.map [])).add (.box [.d (.k (.map none))])).set (B.next+1) (.box [.gm B.next])=H2:=⟨_,rfl⟩;have e2:H2.next=H.next+4:=by rw[<-vm,GH.aM,GH.aq,GH.aq,eB]
    have l2:∀m,m<B.next->H2.obj m=B.obj m:=λm hm=>by rw[<-vm,GH.ay,if_neg (by omega),GH.ax,if_neg (by rw[GH.aq];omega),GH.ax,if_neg (by omega)]
    have bmd:H2.obj (H.next+2)=some (.map (j6 [])):=by rw[<-vm,GH.ay,if_neg (by omega),GH.ax,if_neg (by rw[GH.aq];omega),GH.ax,if_pos (by omega)];rfl
    have QN:H2.obj (H.next+3)=some (.box [.gm (H.next+2)]):=by rw[<-vm,eB,GH.ay,if_pos rfl]
    rw[vm]
    clear vm
    refine AW.seq cc ?_;simp[eB,e2];refine AW.seq cc ?_;simp;refine AW.seq cc ?_;simp;refine AW.aV cc (λa:List Nat×LV×GH=>⟨[(1,.ip ((ar p).map .d) 0),(5,.gp (H.next+1) 0),(11,.gp (H.next+3) 0),(12,.fn (.func 121) [] [.ip ((ar p).map .d) 0,.gp (H.next+3) 0,.gp (H.next+1) 0]),(13,a.2.1)],[],a.2.2⟩) (λa=>n-a.1.length)
     (λa=>a.1.Nodup/\(∀x∈a.1,x<n)/\H.next+4<=a.2.2.next/\a.2.2.obj (H.next+2)=some (.map (j6 a.1))/\(∀m,m<H.next+4->m≠H.next+2->a.2.2.obj m=H2.obj m)/\∃outL f,n-a.1.length<=f/\outL++dM n R f a.1=gK n R/\outL.length<=a.1.length/\ni 94 1 (H.next+4) a.2.1 (outL.map rT) a.2.2)
     ([],.d (.k (.slice none 0 0)),H2) ⟨⟨by simp,by simp,by simp only;omega,bmd,λm hm _=>rfl,[],n,by simp,rfl,by simp,by simpa using ni.nil (by omega)⟩,by simp[ar]⟩ ?_
    rintro⟨D,x,G⟩ ⟨c1,c2,c3,c4,c5,outL,f,c6,c7,c8,c9⟩;simp only at c1 c2 c3 c4 c5 c6 c7 c8 c9;have JD:Grp G (H.next+3) (H.next+2) (H.next+1) H.next n F ks2 D:=
     ⟨by rw[c5 _ (by omega) (by omega)];exact QN,c4,by rw[c5 _ (by omega) (by omega),l2 _ (by omega)];exact B5,by rw[c5 _ (by omega) (by omega),l2 _ (by omega)];exact Bi,d3⟩
    have nr:(j6 D).length=D.length:=by simp[j6,lK,bX]
    simp[JD.VX,JD.od,ar,hn,nr];refine⟨λh=>?_,λh=>?_⟩
    ·refine AW.ev cc ?_;simp[ar,hn];refine AW.aV cc (λa:Nat=>⟨[(1,.ip ((ar p).map .d) 0),(5,.gp (H.next+1) 0),(11,.gp (H.next+3) 0),(12,.fn (.func 121) [] [.ip ((ar p).map .d) 0,.gp (H.next+3) 0,.gp (H.next+1) 0]),(13,x),(65,aH n),(66,aH a)],[],G⟩) (λa=>n-a)
      (λa=>a<=n/\∀k,k<a->fC n R D k=false) 0 ⟨⟨Nat.zero_le _,λk hk=>by omega⟩,by simp[ar,c9.only]⟩ ?_
     rintro e ⟨he,NN⟩;have hwe:=aB (n:=9223372036854775807) (show e<9223372036854775807 by omega)
     simp;refine⟨λh2=>?_,λh2=>?_⟩
     ·have NJ:=hg1 JD e h2;simp[ar]at NJ;simp[ar];refine⟨⟨by omega,by omega⟩,EC.of NJ (λv G3 hR3=>?_) (λv G3 hR3=>by cases hR3.1)⟩
      obtain⟨q,hE⟩:=hR3;cases q;rw[hE]
      clear hE
      have Eh:bD (.int .i64 (e:Int)) (yA ks2 F)=some (gD (F e)):=by rw[Sf,if_pos (d3 e h2)]
      have hki:=eq_true (iS ks2 λk=>gD (F k.toNat))
      have hie:yA ks2 F=lK ks2 λk=>gD (F k.toNat):=rfl
      rw[<-hie]at hki;obtain⟨a,l,zp⟩:∃a l,F e=a::l:=by
       have:=fQ (n:=n) (R:=R) (d:=e) h2;rw[hF]at this;cases q:F e with
       |nil=>rw[q]at this;cases this
       |cons a l=>exact⟨a,l,rfl⟩
      have PO:(F e).length<=6:=by rw[<-hF];exact Nat.le_trans (Wb (by omega)) (by omega)
      have lX:=Mn a (bX l) (by rw[zp]at PO;simp[bX]at PO|-;omega)
      have hrow:gD (F e)=.d (.sl (rI a::(bX l).map rI)):=by rw[zp];rfl
      simp at lX;cases hq:fC n R D e with
      |false=>
       simp;refine NX.go (e+1) (by omega) ⟨h2,λk hk=>?_⟩ (by simp[ar,c9.only,hwe])
       by_cases e1:k=e
       ·rw[e1];exact hq
       ·exact NN k (by omega)
      |true=>
       simp[JD.o5,JD.oi,Eh,hki,hrow,c9.plain.all];refine EC.aJ lX ?_;simp[c9.plain.all];refine eO.dU (H0:=⟨G.obj,H.next+4⟩) (ys:=[rT (F e)]) zT rfl mB (by simp) (x:=x) (by simp) c9 (by simp[rowsOf,rT,zp,bX]) (by simp) (Ru _) (λr hr=>by simp only[List.mem_singleton]at hr;subst hr;rfl) (by simp;omega) (by simp) λx' G6 h6 Ug _=>?_
       simp only at Ug;have h6o:∀m,m<H.next+4->G6.obj m=G.obj m:=λm hm=>h6.ob m hm
       have g5:G6.obj (H.next+1)=some (.box [.gm H.next]):=by rw[h6o _ (by omega)];exact JD.o5
       have gi:G6.obj H.next=some (.map (yA ks2 F)):=by rw[h6o _ (by omega)];exact JD.oi
       have g11:G6.obj (H.next+3)=some (.box [.gm (H.next+2)]):=by rw[h6o _ (by omega)];exact JD.VX
       have gd:G6.obj (H.next+2)=some (.map (j6 D)):=by rw[h6o _ (by omega)];exact c4
       have h7:ni 94 1 (H.next+4) x' ((outL++[F e]).map rT) G6:=by
        have:=ni.of (B:=⟨G.obj,H.next+4⟩) rfl h6;rw[List.map_append];exact this
       have ax7:∀X Y,(G6.set (H.next+2) X).set (H.next+2) Y=G6.set (H.next+2) Y:=λX Y=>GH.set_set
       have bn6:G6.set (H.next+2) (.map (j6 D))=G6:=GH.iX gd;simp[h6.plain.all,g5,gi,Eh,hki,hrow];refine AW.aV cc (λa:Nat=>⟨[(1,.ip ((ar p).map .d) 0),(5,.gp (H.next+1) 0),(11,.gp (H.next+3) 0),(12,.fn (.func 121) [] [.ip ((ar p).map .d) 0,.gp (H.next+3) 0,.gp (H.next+1) 0]),(13,x'),(81,gD (F e)),(82,aH (F e).length),(83,aH a)],[],G6.set (H.next+2) (.map (j6 (cR D ((F e).take a))))⟩) (λa=>(F e).length-a)
        (λa=>a<=(F e).length) 0 ⟨Nat.zero_le _,by simp[ar,h6.only,hrow,cR,bn6,zp,bX,gD]⟩ ?_
       intro j hj;have Sk:=aB (n:=9223372036854775807) (show j<9223372036854775807 by omega)
       simp[gD];refine⟨λh3=>?_,λh3=>?_⟩
       ·have hj':j<(F e).length:=by simpa[bX]using h3
        obtain⟨k,hk⟩:∃k,(F e)[j]=k:=⟨_,rfl⟩;have Sm:(F e).take (j+1)=(F e).take j++[k]:=by rw[<-aR hj',hk]
        have qR:(bX (F e))[j]?=some (k:Int):=by simp[bX,List.getElem?_eq_getElem hj',hk]
        have hput:=Tl (cR D ((F e).take j)) (iB c1) k;rw[<-Kw,<-Sm]at hput;have PD:=eq_true (iS (bX (cR D ((F e).take j))) λ_=>LV.d (.k (.bool true)))
        have NU:j6 (cR D ((F e).take j))=lK (bX (cR D ((F e).take j))) λ_=>LV.d (.k (.bool true)):=rfl
        rw[<-NU]at PD;have gg11:∀X,(G6.set (H.next+2) X).obj (H.next+3)=some (.box [.gm (H.next+2)]):=λX=>by rw[GH.ay,if_neg (by omega)];exact g11
        have ggd:∀X,(G6.set (H.next+2) X).obj (H.next+2)=some X:=λX=>GH.aY
        simp[qR,rI,gg11,ggd,PD,hput,ax7];exact⟨by simpa[bX]using hj',NX.go (j+1) (by omega) hj' (by simp[ar,h6.only,gD,Sk])⟩
       ·have e1:j=(F e).length:=by
         have:¬j<(F e).length:=by simpa[bX]using h3
         omega
        rw[e1,List.take_length];have heD:e∉D:=by
         unfold fC at hq;simp only[Bool.and_eq_true,Bool.not_eq_true']at hq;simpa using hq.1
        have uj:e∈F e:=by rw[<-hF];exact fQ h2
        have hlt:=qu (l:=F e) uj heD;have hfind:(List.range n).find? (fC n R D)=some e:=by
         rw[List.find?_range_eq_some];exact⟨hq,List.mem_range.2 h2,λk hk=>by rw[NN k hk];rfl⟩
        obtain⟨f',rfl⟩:∃f',f=f'+1:=⟨f-1,by omega⟩
        rw[dM,if_pos h,hfind]at c7;simp only at c7;rw[hF]at c7;refine NX.go (cR D (F e),x',G6.set (H.next+2) (.map (j6 (cR D (F e))))) (by simp only;omega) ⟨iB c1,λk hk=>?_,by simp only[GH.aM];omega,GH.aY,λm hm hne=>by simp only;rw[GH.ay,if_neg hne,h6o m hm];exact c5 m hm hne,outL++[F e],f',by simp only;omega,by rw[List.append_assoc];exact c7,by simp only[List.length_append,List.length_cons,List.length_nil];omega,h7.keep (by rw[GH.aM];exact Nat.le_refl _) λm hm _=>by rw[GH.ay,if_neg (by omega)]⟩ (by simp[ar,h6.only])
        simp only at hk;rcases cC.1 hk with hk|hk
        ·exact c2 k hk
        ·rw[<-hF]at hk;exact xg h2 hk
     ·obtain⟨e',he'⟩:=pR ht c1 c2 h;have h3:=List.find?_some he';have h4:=List.mem_range.1 (List.mem_of_find?_eq_some he');rw[NN e' (by omega)]at h3
      cases h3
    ·have yD:dM n R f D=[]:=by
      cases f with
      |zero=>rfl
      |succ f=>rw[dM,if_neg (by omega)]
     rw[yD,List.append_nil]at c7;refine AW.ev cc ?_;simp[c9.plain.all,c9.fz,c7];exact λ_=>aL (by omega) (λm hm=>by rw[c5 m (by omega) (by omega),l2 m (by omega)];exact Bl m hm) hw.none
structure T0(es:List (Value×LV))(names:List cq)(f:Nat->LV):Prop where
 key:∀(a:Value) (b:LV),(a,b)∈es->(KK.sc Sc.str).has a=true
 get:∀name,0<=idx names name->bD (.string name) es=some (f (idx names name).toNat)
def b9(b:cg):LV:=sl (b.map ak)
structure Wld(H:GH)(n ms mn mv ma:Nat)(p:Prog)(W:bZ):Prop where
 ob:H.obj n=some (.box [sl (p.az.map rS),sl (p.ai.map fm),.gm ms,.gm mn,.vs mv 0 1 0 W.ai.length,.gm ma])
 os:∃es,H.obj ms=some (.map es)/\T0 es p.az λi=>b9 (W.az.getD i [])
 on:∃es,H.obj mn=some (.map es)/\T0 es (an p) λi=>aH i
 ov:H.obj mv=some (.vec 30 0 1 (W.ai.map b9) true)
 dl:W.ai.length=p.ai.length
abbrev eA(ks:List cg):LV:=sl (ks.map bY)
theorem bI{H:GH}(hz:gU H):Drop H H H:=aL (Nat.le_refl _) (λ_ _=>rfl) hz.none
theorem E8{H:GH}{n ms mn mv ma:Nat}{p:Prog}{W:bZ}(hW:Wld H n ms mn mv ma p W)(e:bz)(ks:List cg)(he:0<=idx p.az e.name):
  aG prog 185 [.gp n 0,lv (aS e),eA ks] H λce H'=>ce=.ret (b9 (W.az.getD (idx p.az e.name).toNat []))/\H'=H:=by
 have cc:=au (p:=bf [4] [] []);obtain⟨ob,⟨es,os,uj⟩,on,ov,dl⟩:=hW;refine aG.bG (au (p:=bf [4] [] [])) func185 rfl call185 (by rw[ntmps185];simp) rfl λhf hw=>?_
 simp[ntmps185,results185,aj];refine AW.draw cc [] (.q 0<|.q 1<|.q 2<|.q 4<|.q 3<|.q 5<|.q 6<|.q 7<|.done) (by kernel_rfl) ?_
 have hkey:=eq_true uj.key;have dL:=uj.get e.name he;simp[ob,os,aj,hkey,dL,b9];exact λhz=>bI hz
theorem OI{H:GH}{n ms mn mv ma:Nat}{p:Prog}{W:bZ}(hW:Wld H n ms mn mv ma p W)(e:bz)(ks:List cg)(he:0<=idx (an p) e.name):
  aG prog 186 [.gp n 0,lv (aS e),eA ks] H λce H'=>ce=.ret (b9 (W.ai.getD (idx (an p) e.name).toNat []))/\H'=H:=by
 have cc:=au (p:=bf [4] [] []);obtain⟨ob,os,⟨es,on,uj⟩,ov,dl⟩:=hW;refine aG.bG (au (p:=bf [4] [] [])) func186 rfl call186 (by rw[ntmps186];simp) rfl λhf hw=>?_
 simp[ntmps186,results186,aj];refine AW.draw cc [] (.q 0<|.q 1<|.q 2<|.q 4<|.q 5<|.q 6<|.q 8<|.q 3<|.q 7<|.q 9<|.q 10<|.q 11<|.q 12<|.q 13<|.done) (by kernel_rfl) ?_
 have hkey:=eq_true uj.key;have dL:=uj.get e.name he;have hlt:(idx (an p) e.name).toNat<W.ai.length:=by
  have:=oc (an p) e.name;have h2:(an p).length=p.ai.length:=by simp[an]
  omega
 have Mu:max (idx (an p) e.name) 0=idx (an p) e.name:=by omega
 have jm:idx (an p) e.name<W.ai.length:=by omega
 simp[ob,on,ov,aj,hkey,dL,b9,Mu,hlt,jm,he];exact λhz=>bI hz
def nB(x:Item):Prop:=(0<=x.aa.at_/\x.aa.at_<=200)/\cm x.aa.key/\cm x.aa.val/\(1<=x.n/\x.n<=1000000)
def bB(b:cg):Prop:=pG b/\b.length<=300/\∀x∈b,nB x
theorem K1{H:GH}{n ms mn mv ma:Nat}{p:Prog}{W:bZ}(hW:Wld H n ms mn mv ma p W)(e:bz)(ks:List cg)(he:0<=idx (an p) e.name)(hn:-50<=e.n/\e.n<=50)(hb:∀b∈W.ai,bB b):
  aG prog 187 [.gp n 0,lv (aS e),eA ks] H λce H'=>ce=.ret (b9 (dP e.n (W.ai.getD (idx (an p) e.name).toNat [])))/\H'=H:=by
 have cc:=au (p:=bf [4] [] []);obtain⟨ob,os,⟨es,on,uj⟩,ov,dl⟩:=hW;refine aG.bG (au (p:=bf [4] [] [])) func187 rfl call187 (by rw[ntmps187];simp) rfl λhf hw=>?_
 simp[ntmps187,results187,aj];refine AW.draw cc [(15,.n)] (.q 0<|.q 1<|.q 2<|.q 4<|.q 5<|.q 6<|.q 8<|.q 13<|.q 3<|.q 7<|.q 9<|.q 10<|.q 11<|.q 12<|.q 14<|.q 15<|.q 16<|.done) (by kernel_rfl) ?_
 have hkey:=eq_true uj.key;have dL:=uj.get e.name he;have hlt:(idx (an p) e.name).toNat<W.ai.length:=by
  have:=oc (an p) e.name;have h2:(an p).length=p.ai.length:=by simp[an]
  omega
 have Mu:max (idx (an p) e.name) 0=idx (an p) e.name:=by omega
 have jm:idx (an p) e.name<W.ai.length:=by omega
 obtain⟨b,WA⟩:∃b,W.ai[(idx (an p) e.name).toNat]=b:=⟨_,rfl⟩;have QI:bB b:=hb b (WA▸List.getElem_mem hlt);have hl:=A6 b e.n (by have:=QI.2.1;omega) (λx hx=>by have:=(QI.2.2 x hx).1;omega)
 simp at hl;simp[ob,on,ov,aj,hkey,dL,b9,Mu,hlt,jm,he,WA];refine FC.aJ hl ?_;simp;exact λhz=>⟨bI hz,by simp[b9,List.getElem?_eq_getElem hlt,WA]⟩
theorem G8(n:Nat)(e:bz)(a:cg)(ha:bB a)(hn:-50<=e.n/\e.n<=50):aC prog 191 [.gp n 0,lv (aS e),eA [a]] (b9 (dP e.n a)):=by
 refine aC.body (au (p:=bf [4] [] [])) func191 rfl call191 (by rw[ntmps191];simp) rfl λhf H=>?_
 have cc:=au (p:=bf [4] [] []);have hl:=A6 a e.n (by have:=ha.2.1;omega) (λx hx=>by have:=(ha.2.2 x hx).1;omega)
 simp at hl;simp[ntmps191,results191,aj];refine AW.draw cc [(5,.n)] (.q 0<|.q 1<|.q 3<|.q 2<|.q 4<|.q 5<|.q 6<|.done) (by kernel_rfl) ?_
 simp[aj,bY];refine FC.aJ hl ?_;simp[b9]
theorem K5(n:Nat)(e:bz)(a:cg)(ha:bB a)(H:GH):aG prog 199 [.gp n 0,lv (aS e),eA [a]] H λce H'=>ce=.ret (b9 (vJ a))/\H'=H:=by
 have hl:=p8 (λx=>⟨x.aa,1⟩) a (by have:=ha.2.1;omega) 235 [] H (by simp[cD]) (λx hx=>(Ma x).keeps H)
 refine aG.bG (au (p:=bf [4] [] [])) func199 rfl call199 (by rw[ntmps199];simp) rfl λhf hw=>?_
 simp at hl;simp[ntmps199,results199,aj,bY];refine EC.of hl (λv H2 hR=>?_) (λv H2 hR=>by cases hR.1)
 obtain⟨q,rfl⟩:=hR;cases q;simp[b9,vJ];exact λhz=>bI hz
theorem rA{k:Int}{a:cg}(ha:bB a){x:Item}(hx:x∈rowOf k a):nB x:=ha.2.2 x (pP hx).1
theorem th{a:List Item}(h:pG a):ow a:=by
 refine List.Pairwise.imp (λ{x y} q=>?_) h
 simp only[cO,decide_eq_true_eq]at q;omega
theorem Rm{k:Int}{a:cg}(ha:bB a):ow (rowOf k a):=(th ha.1).filter _
theorem wv{a:cg}(ha:bB a):∀x∈a,C6 x:=λx hx=>by
 obtain⟨_,_,h3,h4⟩:=ha.2.2 x hx;exact⟨by omega,h3⟩
theorem SR{n:Int}(hn:1<=n/\n<=50){l:List Item}{t lo hi:Int}(ht:0<=t/\t<=200)(h:sr n l t=some (lo,hi)):0<=hi/\hi<=1000:=by
 simp only[sr,Option.some.injEq,Prod.mk.injEq]at h;have h1:=Int.tmod_add_mul_tdiv t n;have h2:0<=t.tmod n:=Int.tmod_nonneg _ ht.1;have h3:0<=t.tdiv n:=Int.tdiv_nonneg ht.1 (by omega)
 have h4:0<=t.tdiv n*n:=Int.mul_nonneg h3 (by omega)
 rw[Int.mul_comm]at h1;omega
theorem Mm(e:bz):∀m,cD m [oU e]:=λm=>by simp[cD,LV.nb,oU,aj]
abbrev Cu(l:List Item)(H:GH)(ce:CE)(H':GH):Prop:=(∃l':List Item,l'.Perm l/\ce=.ret (b9 l'))/\H'=H
theorem G9(n:Nat)(e:bz)(a:cg)(ha:bB a)(hn:1<=e.n/\e.n<=50)(H:GH):aG prog 192 [.gp n 0,lv (aS e),eA [a]] H (Cu (gf e.fold 0 (sr e.n) a) H):=by
 have cc:=au (p:=bf [4] [] []);have hs:=pZ e a 229 [oU e] (Mm e) (sr e.n) 0 ha.2.1 (wv ha) (λk x hx=>IW e _ _ hn (rA ha hx).1) (λk x hx lo hi=>SR hn (rA ha hx).1) (by omega) H
 refine aG.bG (au (p:=bf [4] [] [])) func192 rfl call192 (by rw[ntmps192];simp) rfl λhf hw=>?_
 simp[oU,aj]at hs;simp[ntmps192,results192,aj];refine AW.draw cc [] (.q 1<|.q 2<|.q 4<|.q 0<|.q 3<|.f<|.one 5<|.q 6<|.done) (by kernel_rfl) ?_
 simp[aj,bY];refine yR.of hs (λv H2 hR _=>?_) (λx H2 env hR _=>by obtain⟨⟨_,_,q⟩,_⟩:=hR;cases q)
 obtain⟨⟨l',hp,q⟩,rfl⟩:=hR;cases q;simp[b9];exact λhz=>⟨bI hz,l',hp,rfl⟩
theorem G7(n:Nat)(e:bz)(a:cg)(ha:bB a)(hn:0<=e.n/\e.n<=50)(H:GH):aG prog 193 [.gp n 0,lv (aS e),eA [a]] H (Cu (gf e.fold 0 (pM e.n) a) H):=by
 have cc:=au (p:=bf [4] [] []);have hs:=pZ e a 230 [oU e] (Mm e) (pM e.n) 0 ha.2.1 (wv ha) (λk x hx=>IU e _ _ hn (rA ha hx).1) (λk x hx lo hi h=>by have:=(rA ha hx).1;simp only[pM,Option.some.injEq,Prod.mk.injEq]at h;omega) (by omega) H
 refine aG.bG (au (p:=bf [4] [] [])) func193 rfl call193 (by rw[ntmps193];simp) rfl λhf hw=>?_
 simp[oU,aj]at hs;simp[ntmps193,results193,aj];refine AW.draw cc [] (.q 1<|.q 2<|.q 4<|.q 0<|.q 3<|.f<|.one 5<|.q 6<|.done) (by kernel_rfl) ?_
 simp[aj,bY];refine yR.of hs (λv H2 hR _=>?_) (λx H2 env hR _=>by obtain⟨⟨_,_,q⟩,_⟩:=hR;cases q)
 obtain⟨⟨l',hp,q⟩,rfl⟩:=hR;cases q;simp[b9];exact λhz=>⟨bI hz,l',hp,rfl⟩
theorem GZ(n:Nat)(e:bz)(a:cg)(ha:bB a)(H:GH):aG prog 194 [.gp n 0,lv (aS e),eA [a]] H (Cu (gf e.fold 0 uv a) H):=by
 have cc:=au (p:=bf [4] [] []);have hs:=pZ e a 231 [] (by simp[cD]) uv 0 ha.2.1 (wv ha) (λk x hx=>IT _ _) (λk x hx lo hi h=>by have:=(rA ha hx).1;simp only[uv,Option.some.injEq,Prod.mk.injEq]at h;omega) (by omega) H
 refine aG.bG (au (p:=bf [4] [] [])) func194 rfl call194 (by rw[ntmps194];simp) rfl λhf hw=>?_
 simp[oU,aj]at hs;simp[ntmps194,results194,aj];refine AW.draw cc [] (.q 1<|.q 2<|.q 0<|.q 3<|.f<|.one 4<|.q 5<|.done) (by kernel_rfl) ?_
 simp[aj,bY];refine yR.of hs (λv H2 hR _=>?_) (λx H2 env hR _=>by obtain⟨⟨_,_,q⟩,_⟩:=hR;cases q)
 obtain⟨⟨l',hp,q⟩,rfl⟩:=hR;cases q;simp[b9];exact λhz=>⟨bI hz,l',hp,rfl⟩
theorem VL{n:Int}{l:List Item}{t lo hi:Int}(ht:0<=t/\t<=200)(h:qz n l t=some (lo,hi)):0<=hi/\hi<=1000:=by
 unfold qz at h
 split at h
 ·simp only[Option.some.injEq,Prod.mk.injEq]at h;omega
 ·cases h
theorem K0(n:Nat)(e:bz)(a:cg)(ha:bB a)(hn:1<=e.n/\e.n<=50)(H:GH):aG prog 195 [.gp n 0,lv (aS e),eA [a]] H (Cu (gf e.fold e.n (qz e.n) a) H):=by
 have cc:=au (p:=bf [4] [] []);have hs:=pZ e a 232 [oU e] (Mm e) (qz e.n) e.n ha.2.1 (wv ha) (λk x hx=>L9 e _ _ hn (rA ha hx).1 (Rm ha) (λy hy=>(rA ha hy).1)) (λk x hx lo hi=>VL (rA ha hx).1) (by omega) H
 refine aG.bG (au (p:=bf [4] [] [])) func195 rfl call195 (by rw[ntmps195];simp) rfl λhf hw=>?_
 simp[oU,aj]at hs;simp[ntmps195,results195,aj];refine AW.draw cc [] (.q 1<|.q 2<|.q 4<|.q 5<|.q 0<|.q 3<|.q 6<|.f<|.one 7<|.q 8<|.done) (by kernel_rfl) ?_
 simp[aj,bY];refine yR.of hs (λv H2 hR _=>?_) (λx H2 env hR _=>by obtain⟨⟨_,_,q⟩,_⟩:=hR;cases q)
 obtain⟨⟨l',hp,q⟩,rfl⟩:=hR;cases q;simp[b9];exact λhz=>⟨bI hz,l',hp,rfl⟩
theorem uP{x:Item}(h:nB x):x5 x.aa:=⟨⟨by have:=h.1;omega,by have:=h.1;omega⟩,h.2.1,h.2.2.1⟩
theorem GY(n:Nat)(e:bz)(c:bh)(a:cg)(ha:bB a)(hc:e.aD=[c])(hv:vn c):aC prog 189 [.gp n 0,lv (aS e),eA [a]] (b9 (jr c a)):=by
 have cc:=au (p:=bf [4] [] []);intro H;refine aG.bG (au (p:=bf [4] [] [])) func189 rfl call189 (by rw[ntmps189];simp) rfl λhf hw=>?_
 have Ua:=iy hv;simp[aO]at Ua;have zp:=ha.2.1;simp[ntmps189,results189,aj,hc,bY,aO];refine EC.aJ Ua ?_;simp[nX];refine AW.aV cc (λs:Nat×LV×GH=>⟨[(7,nX c),(8,s.2.1),(18,sl (a.map ak)),(19,aH a.length),(20,aH s.1)],[],s.2.2⟩) (λs=>a.length-s.1)
  (λs=>s.1<=a.length/\cu 86 4 H s.2.1 ((jr c (a.take s.1)).map ak) s.2.2) (0,.d (.k (.slice none 0 0)),H) ⟨⟨Nat.zero_le _,by simpa[jr]using cu.nil⟩,by simp[nX,cT _ (dY hv 0)]⟩ ?_
 rintro⟨i,y,H2⟩ ⟨hi,aA⟩;simp only at hi aA;simp;refine⟨λh=>?_,λh=>?_⟩
 ·obtain⟨x,dc⟩:∃x,a[i]=x:=⟨_,rfl⟩;have gx:a.take (i+1)=a.take i++[x]:=by rw[<-aR h,dc]
  have GR:=ha.2.2 x (dc▸List.getElem_mem h);have vk:=mc (uP GR) (o:=0) (by unfold cm;omega) hv
  have eM:=aB (n:=9223372036854775807) (show i<9223372036854775807 by omega)
  simp[bE]at vk;simp[h,List.getElem?_eq_getElem h,dc,ak,nX];refine⟨dY hv _,EC.aJ vk ?_⟩;simp[aA.plain.all];have YE:jr c (a.take (i+1))=jr c (a.take i)++(if eE x.aa 0 c≠0 then[x]else[]):=by
   rw[gx];unfold jr;rw[List.filter_append,List.filter_cons];by_cases q:eE x.aa 0 c=0<;>simp[q]
  have Sj:(jr c (a.take i)).length<=300:=Nat.le_trans (List.length_filter_le _ _) (by simp;omega)
  refine⟨λq=>?_,λq=>?_⟩
  ·refine eO.dU (ys:=[ak x]) fk rfl dZ (by simp) (x:=y) (by simp) aA (by simp[ak,rowsOf]) (by simp) (bp _) (λr hr=>by simp only[List.mem_singleton]at hr;subst hr;rfl) (by simp;omega) (by simp) λx' H3 aF _ _=>?_
   simp[aF.plain.all,aF.only,eM];refine NX.go (i+1,x',H3) (by simp only;omega) ⟨h,?_⟩ (by simp[aF.only,nX,cT _ (dY hv 0)])
   rw[YE,if_pos q,List.map_append];exact aF
  ·rw[if_neg (by simpa using q),List.append_nil]at YE
   exact NX.go (i+1,y,H2) (by simp only;omega) ⟨h,by rw[YE];exact aA⟩ (by simp[aA.only,nX,cT _ (dY hv 0),eM])
 ·have:i=a.length:=by omega
  subst this;rw[List.take_length]at aA;simp[aA.plain.all,aA.fz,b9];exact λhz=>aL aA.nx aA.ob hw.none
theorem aF9{k v:bh}(hk:vn k)(hv:vn v)(x:Item)(hx:nB x){m1 m2:Nat}{H:GH}(l1:m1<H.next)(l2:m2<H.next)(o1:H.obj m1=some (.box [nX k]))(o2:H.obj m2=some (.box [nX v])):
  T2 prog 227 ([lv (ak x)]++[.gp m1 0,.gp m2 0]) H (lv (ak ⟨⟨x.aa.at_,eE x.aa 0 k,eE x.aa 0 v⟩,x.n⟩)):=by
 intro H' hn ho;have cc:=au (p:=bf [3] [] []);refine aG.bG (au (p:=bf [3] [] [])) func227 rfl call227 (by rw[ntmps227];simp) rfl λhf hw=>?_
 have o1':H'.obj m1=some (.box [nX k]):=by rw[ho _ l1];exact o1
 have o2':H'.obj m2=some (.box [nX v]):=by rw[ho _ l2];exact o2
 have h1:=mc (uP hx) (o:=0) (by unfold cm;omega) hk
 have h2:=mc (uP hx) (o:=0) (by unfold cm;omega) hv
 have wJ:=λm=>dY hk m
 have hn2:=λm=>dY hv m
 simp[bE]at h1 h2;simp[ntmps227,results227,ak];refine AW.draw cc [(6,.n),(10,.n)] (.q 0<|.q 1<|.q 4<|.q 8<|.q 12<|.q 2<|.q 3<|.q 5<|.q 6<|.q 7<|.q 9<|.q 10<|.q 11<|.q 13<|.q 14<|.f<|.one 15<|.done) (by kernel_rfl) ?_
 simp[o1',o2',nX,ak];refine⟨wJ _,FC.aJ h1 ?_⟩;simp[o1',o2',nX,ak];refine⟨hn2 _,FC.aJ h2 ?_⟩;simp;exact λhz=>⟨bI hz,rfl⟩
theorem K7(n:Nat)(e:bz)(k v:bh)(a:cg)(ha:bB a)(hc:e.aD=[k,v])(hk:vn k)(hv:vn v)(H:GH):aG prog 190 [.gp n 0,lv (aS e),eA [a]] H λce H'=>ce=.ret (b9 (yL k v a))/\H'=H:=by
 have cc:=au (p:=bf [4] [7,8] []);refine aG.bG (au (p:=bf [4] [7,8] [])) func190 rfl call190 (by rw[ntmps190];simp) rfl λhf hw=>?_
 have aw5:=iy hk;have aw4:=iy hv;simp[aO]at aw5 aw4;simp[ntmps190,results190,aj,hc];refine AW.draw cc [(4,.n),(9,.n)] (.q 0<|.q 5<|.q 1<|.q 2<|.q 3<|.q 4<|.q 6<|.q 7<|.q 8<|.q 9<|.f (.cons 10 (.f<|.one 11<|.f<|.one 12<|.f<|.one 13<|.done) (.cons 11 (.f<|.one 10<|.f<|.one 12<|.f<|.one 13<|.done) (.nil)))) (by kernel_rfl) ?_
 simp[aj,hc,aO];refine FC.aJ aw5 ?_;simp[aj,hc,aO];refine FC.aJ aw4 ?_;have add0:∀o o':GO,((H.add o).add o').obj H.next=some o:=λo o'=>by rw[GH.ax,GH.aq,if_neg (by omega),GH.ax,if_pos rfl]
 have add1:∀o o':GO,((H.add o).add o').obj (H.next+1)=some o':=λo o'=>by rw[GH.ax,GH.aq,if_pos rfl]
 have addn:∀o:GO,(H.add o).next=H.next+1:=λo=>rfl
 have adds1:∀o o' u:GO,((H.add o).add o').set (H.next+1) u=(H.add o).add u:=λo o' u=>by rw[<-addn o];exact GH.cV
 have adds0:∀o o' u:GO,((H.add o).add o').set H.next u=(H.add u).add o':=λo o' u=>by
  simp only[GH.set,GH.add];congr 1;funext m;unfold eL;split<;>simp_all
 have wJ:=λm=>dY hk m
 have hn2:=λm=>dY hv m
 simp[aj,hc,aO,nX,add0,add1,addn,adds0,adds1,wJ,hn2,bY];have nu:∀(o o':GO) (m1 m2:Nat),m1<H.next+2->m2<H.next+2->((H.add o).add o').obj m1=some (.box [nX k])->((H.add o).add o').obj m2=some (.box [nX v])->
   aG prog 226 [.d (.sl (a.map ak)),.fn (.func 227) [] [.gp m1 0,.gp m2 0]] ((H.add o).add o') λce H'=>ce=.ret (.d (.sl ((yL k v a).map ak)))/\H'=(H.add o).add o':=λo o' m1 m2 l1 l2 o1 o2=>
  p8 (λx=>⟨⟨x.aa.at_,eE x.aa 0 k,eE x.aa 0 v⟩,x.n⟩) a (by have:=ha.2.1;omega) 227 [.gp m1 0,.gp m2 0] _ (by simp[cD,LV.nb,GH.aq];omega) (λx hx=>aF9 hk hv x (ha.2.2 x hx) (by rw[GH.aq,GH.aq];omega) (by rw[GH.aq,GH.aq];omega) o1 o2)
 refine⟨⟨⟨by simp only[GH.aq];omega,by simp only[GH.aq];omega⟩,EC.of (nu _ _ _ _ (by omega) (by omega) (add0 _ _) (add1 _ _)) (λv' H2 hR=>?_) (λv' H2 hR=>by cases hR.1)⟩,⟨by simp only[GH.aq];omega,by simp only[GH.aq];omega⟩,EC.of (nu _ _ _ _ (by omega) (by omega) (add1 _ _) (add0 _ _)) (λv' H2 hR=>?_) (λv' H2 hR=>by cases hR.1)⟩
 all_goals
  obtain⟨q,rfl⟩:=hR;cases q;simp[b9];exact λ_=>aL (by simp only[GH.aq];omega) (λm hm=>by rw[GH.ax,GH.aq,if_neg (by omega),GH.ax,if_neg (by omega)]) hw.none
theorem Ae{b:List Item}{ks:List Int}(hk:ks.Perm (bg b))(k:Int):
  ∃z,(bD (.int .i64 k) (lK ks (oD b))).getD (.d (.k (.slice none 0 0)))=z/\Plain z/\(∀N,z.nb N)/\∀lo hi,aC prog 233 [z,aH lo,aH hi] (sl ((bP lo hi (rowOf k b)).map ak)):=by
 rw[mj];by_cases h:k∈ks
 ·rw[if_pos h];exact⟨_,rfl,⟨rfl,trivial,rfl,rfl⟩,λ_=>trivial,λlo hi=>nI _ lo hi⟩
 ·rw[if_neg h];have h0:rowOf k b=[]:=by
   rw[rowOf,List.filter_eq_nil_iff];intro y hy q;exact h (hk.mem_iff.2 (mP.2 ⟨y,hy,by simpa using q⟩))
  refine⟨_,rfl,⟨rfl,trivial,rfl,rfl⟩,λ_=>trivial,λlo hi=>aC.SV ?_⟩
  have:=nI [] lo hi;rw[h0];simpa[zz,fz]using this
theorem uu(lo hi:Int)(l:List Item):(bP lo hi l).length<=l.length:=((List.takeWhile_sublist _).trans (List.dropWhile_sublist _)).length_le
theorem zj(k:Int)(b:List Item):(rowOf k b).length<=b.length:=List.length_filter_le _ _
theorem YB{x y:Item}(hx:nB x)(hy:nB y):1<=x.n*y.n/\x.n*y.n<=1000000000000:=by
 have h1:=hx.2.2.2;have h2:=hy.2.2.2;constructor
 ·exact Int.le_trans (by omega) (Int.mul_le_mul h1.1 h2.1 (by omega) (by omega))
 ·exact Int.le_trans (Int.mul_le_mul h1.2 h2.2 (by omega) (by omega)) (by omega)
theorem DF(n:Int)(c:bh)(a b:List Item)(hb:b.length<=300):(kU n c a b).length<=a.length*300:=by
 refine lg (λx=>?_) a
 rw[List.length_map];exact Nat.le_trans (uu _ _ _) (Nat.le_trans (zj _ _) hb)
theorem ET(c:bh)(a b:List Item):(jL c a b).length<=a.length:=by
 have h:=lg (f:=λx:Item=>match(bP 0 x.aa.at_ (rowOf x.aa.key b)).getLast? with
  |none=>[]
  |some y=>[(⟨⟨x.aa.at_,x.aa.key,eE x.aa y.aa.val c⟩,x.n⟩:Item)]) (B:=1) (λx=>by split<;>simp) a
 rw[Nat.mul_one]at h;exact h
theorem K4(n:Nat)(e:bz)(c:bh)(a b:cg)(ha:bB a)(hb:bB b)(hc:e.aD=[c])(hv:vn c)(hn:0<=e.n/\e.n<=50)(H:GH):
  aG prog 196 [.gp n 0,lv (aS e),eA [a,b]] H λce H'=>ce=.ret (b9 (kU e.n c a b))/\H'=H:=by
 have cc:=au (p:=bf [4] [] []);refine aG.bG (au (p:=bf [4] [] [])) func196 rfl call196 (by rw[ntmps196];simp) rfl λhf hw=>?_
 have Ua:=iy hv;simp[aO]at Ua;have zp:=ha.2.1;have CI:=hb.2.1;have hro:=rV b CI H;simp[ntmps196,results196,aj,hc];refine AW.draw cc [(4,.n)] (.q 0<|.q 5<|.q 6<|.q 1<|.q 2<|.q 3<|.q 4<|.q 7<|.f<|.one 8<|.q 9<|.q 10<|.done) (by kernel_rfl) ?_
 simp[aj,hc,aO,bY];refine FC.aJ Ua ?_;simp[aj,hc,aO,nX,bY];refine yR.of hro (λv H2 hR _=>?_) (λx H2 env hR _=>by obtain⟨m,ks,q,_⟩:=hR;cases q)
 obtain⟨m,ks,q,m1,m2,m3,hks,o2⟩:=hR;cases q;have xk:∀k,ec k (gP c).2:=λk=>cT (keep:=k) _ (dY hv 0)
 simp;refine AW.aV cc (λs:Nat×LV×GH=>⟨[(4,oU e),(7,nX c),(8,.gm m),(9,s.2.1),(26,sl (a.map ak)),(27,aH a.length),(28,aH s.1)],[],s.2.2⟩) (λs=>a.length-s.1)
  (λs=>s.1<=a.length/\cu 86 4 H2 s.2.1 ((kU e.n c (a.take s.1) b).map ak) s.2.2) (0,.d (.k (.slice none 0 0)),H2) ⟨⟨Nat.zero_le _,by simpa[kU]using cu.nil⟩,by simp[nX,xk,oU,aj,hc,aO]⟩ ?_
 rintro⟨i,y,H3⟩ ⟨hi,aA⟩;simp only at hi aA;simp;refine⟨λh=>?_,λh=>?_⟩
 ·obtain⟨x,dc⟩:∃x,a[i]=x:=⟨_,rfl⟩;have gx:a.take (i+1)=a.take i++[x]:=by rw[<-aR h,dc]
  have GR:=ha.2.2 x (dc▸List.getElem_mem h);have eM:=aB (n:=9223372036854775807) (show i<9223372036854775807 by omega)
  have hkey:=eq_true (iS ks (oD b));obtain⟨z,hz,hzp,hzn,Jo⟩:=Ae hks x.aa.key;have om:H3.obj m=some (.map (lK ks (oD b))):=by rw[aA.ob m m2];exact m3
  have hx1:=GR.1;have w1:IntKind.wrap .i64 (x.aa.at_-e.n)=x.aa.at_-e.n:=by rw[wrap64]<;>omega
  have w2:IntKind.wrap .i64 (x.aa.at_+e.n)=x.aa.at_+e.n:=by rw[wrap64]<;>omega
  have Jo:=Jo (x.aa.at_-e.n) (x.aa.at_+e.n);obtain⟨row,hrow⟩:∃row,bP (x.aa.at_-e.n) (x.aa.at_+e.n) (rowOf x.aa.key b)=row:=⟨_,rfl⟩;rw[hrow]at Jo;have hrl:row.length<=300:=by rw[<-hrow];exact Nat.le_trans (uu _ _ _) (Nat.le_trans (zj _ _) CI)
  have hpl:(kU e.n c (a.take i) b).length<=90000:=Nat.le_trans (DF _ _ _ _ CI) (by simp;omega)
  have Wj:kU e.n c (a.take (i+1)) b=kU e.n c (a.take i) b++row.map (fL c x):=by rw[gx,kU,List.flatMap_append,List.flatMap_cons,List.flatMap_nil,List.append_nil,hrow];rfl
  simp at Jo;simp[h,List.getElem?_eq_getElem h,dc,ak,om,hkey,hz,hzp.all,oU,aj,w1,w2];refine⟨hzn _,EC.aJ Jo ?_⟩;simp;refine AW.aV cc (λs:Nat×LV×GH=>⟨[(4,oU e),(7,nX c),(8,.gm m),(9,s.2.1),(11,.lp 11 0),(26,sl (a.map ak)),(27,aH a.length),(28,aH i),(49,sl (row.map ak)),(50,aH row.length),(51,aH s.1)],[(11,(ak x).map .d)],s.2.2⟩) (λs=>row.length-s.1)
   (λs=>s.1<=row.length/\cu 86 4 H2 s.2.1 ((kU e.n c (a.take i) b++(row.take s.1).map (fL c x)).map ak) s.2.2) (0,y,H3) ⟨⟨Nat.zero_le _,by simpa using aA⟩,by simp[nX,xk,oU,aj,hc,aO,ak,aA.only]⟩ ?_
  rintro⟨j,y2,H4⟩ ⟨hj,xo⟩;simp only at hj xo;simp;refine⟨λh2=>?_,λh2=>?_⟩
  ·obtain⟨u,hue⟩:∃u,row[j]=u:=⟨_,rfl⟩;have Sm:row.take (j+1)=row.take j++[u]:=by rw[<-aR h2,hue]
   have hum:u∈row:=hue▸List.getElem_mem h2;have hub:u∈b:=by rw[<-hrow]at hum;exact(pP (j9 hum)).1
   have Sl:=hb.2.2 u hub;have hmn:=YB GR Sl;have w3:IntKind.wrap .i64 (x.n*u.n)=x.n*u.n:=by rw[wrap64]<;>omega
   have hr':x5 ⟨kj x.aa.at_ u.aa.at_,x.aa.key,x.aa.val⟩:=⟨by have:=Sl.1;unfold cm kj;split<;>simp only<;>omega,GR.2.1,GR.2.2.1⟩
   have vk:=mc hr' (o:=u.aa.val) Sl.2.2.1 hv;have GU:=aB (n:=9223372036854775807) (show j<9223372036854775807 by omega)
   simp[bE]at vk;simp[h2,List.getElem?_eq_getElem h2,hue,ak,nX];refine⟨dY hv _,EC.aJ vk ?_⟩;simp[xo.plain.all,w3];have hp2:(kU e.n c (a.take i) b).length+(row.take j).length<=90300:=by simp;omega
   refine eO.dU (ys:=[ak (fL c x u)]) fk rfl dZ (by simp) (x:=y2) (by simp) xo (by simp[ak,rowsOf,fL]) (by simp) (bp _) (λr hr=>by simp only[List.mem_singleton]at hr;subst hr;rfl) (by simp at hp2|-;omega) (by simp) λx' H5 aF _ _=>?_
   simp[aF.plain.all,aF.only,GU];refine NX.go (j+1,x',H5) (by simp only;omega) ⟨h2,?_⟩ (by simp[aF.only,nX,xk,oU,aj,hc,aO,ak])
   rw[Sm,List.map_append (f:=fL c x),<-List.append_assoc,List.map_append];exact aF
  ·have e2:j=row.length:=by omega
   subst e2;rw[List.take_length,<-Wj]at xo;exact NX.go (i+1,y2,H4) (by simp only;omega) ⟨h,xo⟩ (by simp[xo.only,nX,xk,oU,aj,hc,aO,ak,eM])
 ·have:i=a.length:=by omega
  subst this;rw[List.take_length]at aA;simp[aA.plain.all,aA.fz,b9];have hn2:H.next<=H2.next:=by omega
  exact λhz=>aL (Nat.le_trans hn2 aA.nx) (λk hk=>by rw[aA.ob k (by omega)];exact o2 k hk) hw.none
theorem K9(n:Nat)(e:bz)(c:bh)(a b:cg)(ha:bB a)(hb:bB b)(hc:e.aD=[c])(hv:vn c)(H:GH):
  aG prog 197 [.gp n 0,lv (aS e),eA [a,b]] H λce H'=>ce=.ret (b9 (jL c a b))/\H'=H:=by
 have cc:=au (p:=bf [4] [] []);refine aG.bG (au (p:=bf [4] [] [])) func197 rfl call197 (by rw[ntmps197];simp) rfl λhf hw=>?_
 have Ua:=iy hv;simp[aO]at Ua;have zp:=ha.2.1;have CI:=hb.2.1;have hro:=rV b CI H;simp[ntmps197,results197,aj,hc];refine AW.draw cc [(4,.n)] (.q 0<|.q 5<|.q 6<|.q 1<|.q 2<|.q 3<|.q 4<|.q 7<|.f<|.one 8<|.q 9<|.q 10<|.done) (by kernel_rfl) ?_
 simp[aj,hc,aO,bY];refine FC.aJ Ua ?_;simp[aj,hc,aO,nX,bY];refine yR.of hro (λv H2 hR _=>?_) (λx H2 env hR _=>by obtain⟨m,ks,q,_⟩:=hR;cases q)
 obtain⟨m,ks,q,m1,m2,m3,hks,o2⟩:=hR;cases q;have xk:∀k,ec k (gP c).2:=λk=>cT (keep:=k) _ (dY hv 0)
 simp;refine AW.aV cc (λs:Nat×LV×GH=>⟨[(7,nX c),(8,.gm m),(9,s.2.1),(25,sl (a.map ak)),(26,aH a.length),(27,aH s.1)],[],s.2.2⟩) (λs=>a.length-s.1)
  (λs=>s.1<=a.length/\cu 86 4 H2 s.2.1 ((jL c (a.take s.1) b).map ak) s.2.2) (0,.d (.k (.slice none 0 0)),H2) ⟨⟨Nat.zero_le _,by simpa[jL]using cu.nil⟩,by simp[nX,xk,hc,aO]⟩ ?_
 rintro⟨i,y,H3⟩ ⟨hi,aA⟩;simp only at hi aA;simp;refine⟨λh=>?_,λh=>?_⟩
 ·obtain⟨x,dc⟩:∃x,a[i]=x:=⟨_,rfl⟩;have gx:a.take (i+1)=a.take i++[x]:=by rw[<-aR h,dc]
  have GR:=ha.2.2 x (dc▸List.getElem_mem h);have eM:=aB (n:=9223372036854775807) (show i<9223372036854775807 by omega)
  have hkey:=eq_true (iS ks (oD b));obtain⟨z,hz,hzp,hzn,Jo⟩:=Ae hks x.aa.key;have om:H3.obj m=some (.map (lK ks (oD b))):=by rw[aA.ob m m2];exact m3
  have Jo:=Jo 0 x.aa.at_;obtain⟨row,hrow⟩:∃row,bP 0 x.aa.at_ (rowOf x.aa.key b)=row:=⟨_,rfl⟩;rw[hrow]at Jo;have hrl:row.length<=300:=by rw[<-hrow];exact Nat.le_trans (uu _ _ _) (Nat.le_trans (zj _ _) CI)
  have hpl:(jL c (a.take i) b).length<=300:=Nat.le_trans (ET _ _ _) (by simp;omega)
  simp at Jo;simp[h,List.getElem?_eq_getElem h,dc,ak,om,hkey,hz,hzp.all];refine⟨hzn _,EC.aJ Jo ?_⟩;simp;refine⟨λq=>?_,λq=>?_⟩
  ·have Bw:row.length-1<row.length:=by omega
   obtain⟨u,hue⟩:∃u,row[row.length-1]=u:=⟨_,rfl⟩;have uh:row.getLast?=some u:=by rw[List.getLast?_eq_getElem?,List.getElem?_eq_getElem Bw,hue]
   have hum:u∈row:=hue▸List.getElem_mem Bw;have Sl:=hb.2.2 u (by rw[<-hrow]at hum;exact(pP (j9 hum)).1)
   have Wj:jL c (a.take (i+1)) b=jL c (a.take i) b++[⟨⟨x.aa.at_,x.aa.key,eE x.aa u.aa.val c⟩,x.n⟩]:=by rw[gx,jL,List.flatMap_append,List.flatMap_cons,List.flatMap_nil,List.append_nil,hrow,uh];rfl
   have vk:=mc (uP GR) (o:=u.aa.val) Sl.2.2.1 hv;have w1:IntKind.wrap .i64 ((row.length:Int)-1)=(row.length:Int)-1:=by rw[wrap64]<;>omega
   have t1:((row.length:Int)-1).toNat=row.length-1:=by omega
   simp[bE]at vk;refine AW.draw cc [(11,.n)] (.q 0<|.q 1<|.q 3<|.q 4<|.q 2<|.q 5<|.q 6<|.q 7<|.q 8<|.q 9<|.q 10<|.q 11<|.q 12<|.f<|.one 13<|.done) (by kernel_rfl) ?_
   simp[nX,w1,t1,List.getElem?_eq_getElem Bw,hue,ak];refine⟨⟨by omega,by omega⟩,dY hv _,FC.aJ vk ?_⟩
   simp[aA.plain.all];refine eO.dU (ys:=[ak ⟨⟨x.aa.at_,x.aa.key,eE x.aa u.aa.val c⟩,x.n⟩]) fk rfl dZ (by simp) (x:=y) (by simp) aA (by simp[ak,rowsOf]) (by simp) (bp _) (λr hr=>by simp only[List.mem_singleton]at hr;subst hr;rfl) (by simp;omega) (by simp) λx' H5 aF _ _=>?_
   simp[aF.plain.all,aF.only,eM];refine NX.go (i+1,x',H5) (by simp only;omega) ⟨h,?_⟩ (by simp[aF.only,nX,xk,ak])
   rw[Wj,List.map_append];exact aF
  ·have hr0:row=[]:=by
    cases row with
    |nil=>rfl
    |cons a l=>simp at q;try omega
   have Wj:jL c (a.take (i+1)) b=jL c (a.take i) b:=by rw[gx,jL,List.flatMap_append,List.flatMap_cons,List.flatMap_nil,List.append_nil,hrow,hr0];simp[jL]
   exact NX.go (i+1,y,H3) (by simp only;omega) ⟨h,by rw[Wj];exact aA⟩ (by simp[aA.only,nX,xk,eM])
 ·have:i=a.length:=by omega
  subst this;rw[List.take_length]at aA;simp[aA.plain.all,aA.fz,b9];have hn2:H.next<=H2.next:=by omega
  exact λhz=>aL (Nat.le_trans hn2 aA.nx) (λk hk=>by rw[aA.ob k (by omega)];exact o2 k hk) hw.none
theorem K6(n:Nat)(e:bz)(a b:cg)(ha:bB a)(hb:bB b)(hn:0<=e.n/\e.n<=50)(H:GH):
  aG prog 198 [.gp n 0,lv (aS e),eA [a,b]] H λce H'=>ce=.ret (b9 (rX e.n a b))/\H'=H:=by
 have cc:=au (p:=bf [4] [] []);refine aG.bG (au (p:=bf [4] [] [])) func198 rfl call198 (by rw[ntmps198];simp) rfl λhf hw=>?_
 have zp:=ha.2.1;have CI:=hb.2.1;have hro:=rV b CI H;simp[ntmps198,results198,aj,bY];refine EC.of hro (λv H2 hR=>?_) (λx H2 hR=>by obtain⟨m,ks,q,_⟩:=hR;cases q)
 obtain⟨m,ks,q,m1,m2,m3,hks,o2⟩:=hR;cases q;simp;refine AW.aV cc (λs:Nat×LV×GH=>⟨[(4,oU e),(7,.gm m),(8,s.2.1),(17,sl (a.map ak)),(18,aH a.length),(19,aH s.1)],[],s.2.2⟩) (λs=>a.length-s.1)
  (λs=>s.1<=a.length/\cu 86 4 H2 s.2.1 ((rX e.n (a.take s.1) b).map ak) s.2.2) (0,.d (.k (.slice none 0 0)),H2) ⟨⟨Nat.zero_le _,by simpa[rX]using cu.nil⟩,by simp[oU,aj]⟩ ?_
 rintro⟨i,y,H3⟩ ⟨hi,aA⟩;simp only at hi aA;simp;refine⟨λh=>?_,λh=>?_⟩
 ·obtain⟨x,dc⟩:∃x,a[i]=x:=⟨_,rfl⟩;have gx:a.take (i+1)=a.take i++[x]:=by rw[<-aR h,dc]
  have GR:=ha.2.2 x (dc▸List.getElem_mem h);have hx1:=GR.1;have eM:=aB (n:=9223372036854775807) (show i<9223372036854775807 by omega)
  have hkey:=eq_true (iS ks (oD b));obtain⟨z,hz,hzp,hzn,Jo⟩:=Ae hks x.aa.key;have om:H3.obj m=some (.map (lK ks (oD b))):=by rw[aA.ob m m2];exact m3
  have w1:IntKind.wrap .i64 (x.aa.at_-e.n)=x.aa.at_-e.n:=by rw[wrap64]<;>omega
  have w2:IntKind.wrap .i64 (x.aa.at_+e.n)=x.aa.at_+e.n:=by rw[wrap64]<;>omega
  have Jo:=Jo (x.aa.at_-e.n) (x.aa.at_+e.n);obtain⟨row,hrow⟩:∃row,bP (x.aa.at_-e.n) (x.aa.at_+e.n) (rowOf x.aa.key b)=row:=⟨_,rfl⟩;rw[hrow]at Jo;have hpl:(rX e.n (a.take i) b).length<=300:=Nat.le_trans (List.length_filter_le _ _) (by simp;omega)
  have Wj:rX e.n (a.take (i+1)) b=rX e.n (a.take i) b++(if row.isEmpty=true then[x]else[]):=by
   rw[gx];unfold rX;rw[List.filter_append,List.filter_cons,hrow];by_cases q:row.isEmpty=true<;>simp[q]
  simp at Jo;simp[h,List.getElem?_eq_getElem h,dc,ak,om,hkey,hz,hzp.all,oU,aj,w1,w2];refine⟨hzn _,EC.aJ Jo ?_⟩;simp;refine⟨λq=>⟨aA.plain.tO,?_⟩,λq=>?_⟩
  ·refine eO.dU (ys:=[ak x]) fk rfl dZ (by simp) (x:=y) (by simp[aA.plain.all]) aA (by simp[ak,rowsOf]) (by simp) (bp _) (λr hr=>by simp only[List.mem_singleton]at hr;subst hr;rfl) (by simp;omega) (by simp) λx' H5 aF _ _=>?_
   simp[aF.plain.all,aF.only,eM];refine NX.go (i+1,x',H5) (by simp only;omega) ⟨h,?_⟩ (by simp[aF.only,ak,oU,aj])
   rw[Wj,if_pos (by simp[q]),List.map_append];exact aF
  ·rw[if_neg (by simpa using q),List.append_nil]at Wj
   exact NX.go (i+1,y,H3) (by simp only;omega) ⟨h,by rw[Wj];exact aA⟩ (by simp[aA.only,eM,oU,aj])
 ·have:i=a.length:=by omega
  subst this;rw[List.take_length]at aA;simp[aA.plain.all,aA.fz,b9];have hn2:H.next<=H2.next:=by omega
  exact λhz=>aL (Nat.le_trans hn2 aA.nx) (λk hk=>by rw[aA.ob k (by omega)];exact o2 k hk) hw.none
end Go.Aft
end
