import Derived.Test.YthinedikejlgmaaGreatA25
import Derived.Test.YthinedikejlgmaaGreatA17
import Derived.Test.YthinedikejlgmaaGreatA24
import Derived.Test.YthinedikejlgmaaGreatA21
set_option linter.all false
section
set_option maxRecDepth 20000
namespace Go.Aft
open Go.Proofs.Tryz
theorem AW.T7{P:Program}{rd:RD}{x:Code}{s:S}{Q:QT}(h:gU s.H->@AW P rd ⟨x⟩ s Q):@AW P rd ⟨x⟩ s Q:=λE a w hs=>h hs.gU E a w hs
def wF(N:Nat)(x:LV)(rows:List (List DV))(G:GH):Prop:=cu 86 4 ⟨G.obj,N⟩ x rows G
theorem wF.set{N:Nat}{x:LV}{rows:List (List DV)}{G:GH}(h:wF N x rows G){k:Nat}(hk:k<N)(o:GO):wF N x rows (G.set k o):=by
 refine⟨?_,h.nx,λm hm=>rfl⟩
 rcases h.is with q|⟨n,q1,q2,q3,q4⟩
 ·exact .inl q
 ·simp only at q1;exact .inr ⟨n,q1,q2,q3,by rw[GH.ay,if_neg (by omega)];exact q4⟩
theorem wF.nil{N:Nat}{G:GH}(h:N<=G.next):wF N (.d (.k (.slice none 0 0))) [] G:=⟨.inl ⟨rfl,rfl⟩,h,λ_ _=>rfl⟩
theorem wF.of{N:Nat}{B:GH}(hB:B.next=N){x:LV}{rows:List (List DV)}{G:GH}(h:cu 86 4 B x rows G):wF N x rows G:=by
 refine⟨?_,hB▸h.nx,λm hm=>rfl⟩
 rcases h.is with q|⟨n,q1,q2,q3,q4⟩
 ·exact .inl q
 ·exact .inr ⟨n,by simp only;omega,q2,q3,q4⟩
theorem lg{α β:Type}{f:α->List β}{B:Nat}(h:∀a,(f a).length<=B):∀l:List α,(l.flatMap f).length<=l.length*B
 |[]=>by simp
 |a::l=>by
  have:=lg h l;have:=h a;rw[List.flatMap_cons,List.length_append,List.length_cons,Nat.succ_mul];omega
theorem uN:∀l:List Item,(bg l).length<=l.length
 |[]=>by simp[bg]
 |x::l=>by
  have:=uN l;have:=List.length_filter_le (λk=>decide (k≠x.aa.key)) (bg l)
  rw[bg,List.length_cons,List.length_cons];omega
theorem kP{f more key:Int}{sp:Int->Option (Int×Int)}{row:List Item}:∀(l:List Item) (last:Int),(eu f more key sp row l last).length<=l.length
 |[],_=>by simp[eu]
 |x::l,last=>by
  rw[eu]
  split
  ·have:=kP (f:=f) (more:=more) (key:=key) (sp:=sp) (row:=row) l last;rw[List.length_cons];omega
  ·rename_i low high _
   split
   ·have:=kP (f:=f) (more:=more) (key:=key) (sp:=sp) (row:=row) l last;rw[List.length_cons];omega
   ·have:=kP (f:=f) (more:=more) (key:=key) (sp:=sp) (row:=row) l high;rw[List.length_cons,List.length_cons];omega
def fD(b:List Item)(seen:List Nat):List Int:=seen.map λi=>(bg b).getD i 0
theorem yy{b:List Item}{seen:List Nat}(hn:seen.Nodup)(hb:∀i∈seen,i<(bg b).length)(ha:∀i,i<(bg b).length->i∈seen):(fD b seen).Perm (bg b):=by
 have h1:seen.Perm (List.range (bg b).length):=by
  rw[List.perm_ext_iff_of_nodup hn List.nodup_range];exact λi=>⟨λq=>List.mem_range.2 (hb i q),λq=>ha i (List.mem_range.1 q)⟩
 have h2:(List.range (bg b).length).map (λi=>(bg b).getD i 0)=bg b:=by
  refine List.ext_getElem (by simp) λi h1 h2=>?_
  simp only[List.length_map,List.length_range]at h1;simp[List.getD,List.getElem?_eq_getElem h1]
 have:=h1.map λi=>(bg b).getD i 0
 rw[h2]at this;exact this
def nY(f more:Int)(sp:List Item->Int->Option (Int×Int))(b:List Item)(seen:List Nat):List Item:=(fD b seen).flatMap (sU f more sp b)
theorem Lk(f more:Int)(sp:List Item->Int->Option (Int×Int))(b:List Item)(hb:b.length<=300){seen:List Nat}(hn:seen.Nodup)(hs:∀i∈seen,i<(bg b).length):(nY f more sp b seen).length<=90000:=by
 have h1:=lg (f:=sU f more sp b) (B:=300) (λk=>Nat.le_trans (kP _ _) (Nat.le_trans (List.length_filter_le _ _) hb)) (fD b seen)
 have h2:=fZ _ _ hn hs;have h3:=uN b;have h4:(fD b seen).length=seen.length:=by simp[fD]
 have h5:seen.length*300<=300*300:=Nat.mul_le_mul_right _ (by omega)
 unfold nY;omega
theorem pP{k:Int}{b:List Item}{x:Item}(h:x∈rowOf k b):x∈b/\x.aa.key=k:=by simpa[rowOf]using h
theorem pZ(e:bz)(b:List Item)(F:FuncId)(cap:List LV)(hcap:∀m,cD m cap)(sp:List Item->Int->Option (Int×Int))(more:Int)(hlen:b.length<=300)(hit:∀x∈b,C6 x)
  (hsp:∀k,∀x∈rowOf k b,aC prog F ([sl ((rowOf k b).map ak),aH x.aa.at_]++cap) (QC (sp (rowOf k b) x.aa.at_)))
  (hbd:∀k,∀x∈rowOf k b,∀lo hi,sp (rowOf k b) x.aa.at_=some (lo,hi)->0<=hi/\hi<=1000) (yC:0<=more/\more<=1000) (H:GH):
  aG prog 228 [lv (aS e),sl (b.map ak),.fn (.func F) [] cap,aH more] H λce H'=>(∃l':List Item,l'.Perm (gf e.fold more sp b)/\ce=.ret (sl (l'.map ak)))/\H'=H:=by
 have cc:=gF (r:=none) (f:=228) (p:=bf [4,6,7] [9] []);have ccR:∀l,(xD (some l) 228 (bf [4,6,7] [9] [])).ok prog:=λl=>gF
 refine aG.dG (gF (r:=none) (f:=228) (p:=bf [4,6,7] [9] [])) func228 rfl call228 (by rw[ntmps228];simp) rfl λhf hw=>?_
 have PD:=A7 b (by omega) (H.add (.box [.d (.k (.slice none 0 0))]))
 simp at PD;have xk:ec [] cap:=cT _ (hcap 0);simp[ntmps228,results228]at hf|-;refine AW.seq cc ?_;simp;refine AW.seq cc ?_;simp;refine AW.seq cc ?_;simp;refine EC.of PD (λv H2 hR=>?_) (λv H2 hR=>by cases hR.1)
 obtain⟨q,n2,o2,b2,m2⟩:=hR;cases q;rw[GH.aq]at n2 b2 m2 o2;have oo:H2.obj H.next=some (.box [.d (.k (.slice none 0 0))]):=by rw[o2 _ (by omega),GH.ax,if_pos rfl]
 have ol:∀m,m<H.next->H2.obj m=H.obj m:=λm hm=>by rw[o2 m (by omega),GH.ax,if_neg (by omega)]
 clear o2
 simp;refine AW.T7 (λqD=>?_)
 simp only at qD;refine fh.rangeFunc rfl rfl (f:=279) (first:=[]) (cap:=[.gp (H.next+1+1) 0]) (by simp[GH.aq]) (by simp)
  [(4,oU e),(6,.ip [.fn (.func F) [] cap] 0),(7,.ip [aH more] 0),(9,.gp H.next 0)] (by simp[ny,oU,GH.aq]) (by simp[ny,LV.nb,cD,oU,hcap];omega) (by simp[cD,LV.nb];omega) ?_
 simp only[LS.CP,List.nil_append,List.singleton_append];generalize hx:LP.mk _ _ _ _ _ _ _=x;have Jp:x.f=228:=by rw[<-hx]
 have F2:x.d=H2.next:=by rw[<-hx]
 obtain⟨D,hD⟩:∃D,H2.next=D:=⟨_,rfl⟩;have xu:((H2.add .qI).add (x.go .ready none)).next=D+2:=by rw[GH.aq,GH.aq,hD]
 obtain⟨J,hJ⟩:∃J:List Nat->GO->GH->Prop,J=λseen X G=>seen.Nodup/\(∀i∈seen,i<(bg b).length)/\G.obj (D+1)=some (x.go .ready none)/\G.obj D=some .qI/\G.obj (D+2)=some X/\(∀m,m<D->m≠H.next->G.obj m=H2.obj m)/\
  ∃y,G.obj H.next=some (.box [y])/\wF (D+3) y ((nY e.fold more sp b seen).map ak) G:=⟨_,rfl⟩
 have hkw:=yg (n:=D+1) (nb:=H.next+1+1) (m:=H.next+1) (b:=b) (H0:=(H2.add .qI).add (x.go .ready none)) (J:=J) (by rw[GH.ax,GH.aq,if_neg (by omega),GH.ax,if_neg (by omega)];exact b2)
  (by rw[GH.ax,GH.aq,if_neg (by omega),GH.ax,if_neg (by omega)];exact m2) ?_ ?_ ?_ ?_
 ·rw[hD];refine hkw.mono λce H3 hR=>?_
  obtain⟨⟨v,hv⟩,seen,X,s1,s2,s3,hj⟩:=hR;subst hv;rw[hJ]at hj;obtain⟨_,_,q1,q2,q3,q4,y,q5,q6⟩:=hj;refine⟨.ready,none,q1,by simp,?_⟩
  simp[yz,F2];have o31:(H3.set (D+1) (x.go .exhausted none)).obj H.next=some (.box [y]):=by rw[GH.ay,if_neg (by omega)];exact q5
  have hyp:=q6.plain.all;refine AW.ev cc ?_;simp[o31,hyp,q6.fz];have tH:=q6.nx;simp only at tH;refine λ_=>⟨by rw[hD,GH.ay,if_neg (by omega)];exact q2,aL (by simp only[GH.aM];omega) (λm hm=>?_) hw.none,nY e.fold more sp b seen,(yy s1 s2 s3).flatMap_right _,rfl⟩
  simp only[mg,GH.ay];rw[if_neg (by omega),if_neg (by omega),q4 m (by omega) (by omega)]
  exact ol m hm
 ·intro X;rw[hJ];refine⟨by simp,by simp,?_,?_,?_,λm hm hne=>?_,.d (.k (.slice none 0 0)),?_,?_⟩
  ·rw[GH.ax,xu,if_neg (by omega),GH.ax,GH.aq,hD,if_pos rfl]
  ·rw[GH.ax,xu,if_neg (by omega),GH.ax,GH.aq,hD,if_neg (by omega),GH.ax,hD,if_pos rfl]
  ·rw[GH.ax,xu,if_pos rfl]
  ·rw[GH.ax,xu,if_neg (by omega),GH.ax,GH.aq,hD,if_neg (by omega),GH.ax,hD,if_neg (by omega)]
  ·rw[GH.ax,xu,if_neg (by omega),GH.ax,GH.aq,hD,if_neg (by omega),GH.ax,hD,if_neg (by omega)];exact oo
  ·exact wF.nil (by rw[GH.aq,xu];omega)
 ·intro seen X Y G hj;rw[xu];rw[hJ]at hj|-;obtain⟨s1,s2,q1,q2,q3,q4,y,q5,q6⟩:=hj;exact⟨s1,s2,by rw[GH.ay,if_neg (by omega)];exact q1,by rw[GH.ay,if_neg (by omega)];exact q2,by rw[GH.aY],λm hm hne=>by rw[GH.ay,if_neg (by omega)];exact q4 m hm hne,y,by rw[GH.ay,if_neg (by omega)];exact q5,q6.set (by omega) _⟩
 ·intro seen X G hj;rw[xu];rw[hJ]at hj;obtain⟨s1,s2,q1,q2,q3,q4,y,q5,q6⟩:=hj;have:=q6.nx;exact⟨this,q3,by rw[q4 _ (by omega) (by omega)];exact m2⟩
 ·intro seen i k X G hk hi YI tG hj;rw[hJ]at hj;obtain⟨s1,s2,q1,q2,q3,q4,y,q5,q6⟩:=hj;refine ei.ofN (c:=λl=>xD (some l) 228 (bf [4,6,7] [9] [])) ccR (λl=>by simp[Jp]) q1 ⟨_,by rw[Jp];exact func228⟩ (by rw[<-hx];rfl) (by rw[<-hx];simp) λhz l=>?_
  have xa:=(congrArg LP.lR hx).symm;have xb:=(congrArg LP.body hx).symm;have xe:=(congrArg LP.env hx).symm;have xp:=(congrArg LP.ps hx).symm;have xn:=(congrArg LP.nt hx).symm;dsimp only at xa xb xe xp xn;rw[xa,xb,xe,xp,xn]
  clear xa xb xe xp xn hx
  obtain⟨row,hrow⟩:∃row,rowOf k b=row:=⟨_,rfl⟩;have hrl:row.length<=300:=by rw[<-hrow];exact Nat.le_trans (List.length_filter_le _ _) hlen
  have ax4:=hsp k;have aC9:=hbd k;rw[hrow]at ax4 aC9|-;simp[mI];refine⟨q1,?_⟩;generalize kp:x.go .busy none=ob;obtain⟨G3,KY⟩:∃G3,G.set (D+1) ob=G3:=⟨_,rfl⟩;have c3:∀m,m≠D+1->G3.obj m=G.obj m:=λm hm=>by rw[<-KY,GH.ay,if_neg (by omega)]
  have oy:G3.obj (D+1)=some ob:=by rw[<-KY,GH.aY]
  have n3:G3.next=G.next:=by rw[<-KY];rfl
  rw[KY];have Yz:wF (D+3) y ((nY e.fold more sp b seen).map ak) G3:=by rw[<-KY];exact q6.set (by omega) _
  have hgx:=Yz.nx;simp only at hgx;refine AW.ev (ccR l) ?_;simp;refine AW.aV (ccR l) (λa:Nat×Int×LV×GH=>⟨[(4,oU e),(6,.ip [.fn (.func F) [] cap] 0),(7,.ip [aH more] 0),(9,.gp H.next 0),(10,aH k),(11,sl (row.map ak)),(12,aH a.2.1),(22,sl (row.map ak)),(23,aH row.length),(24,aH a.1)],[],a.2.2.2⟩) (λa=>row.length-a.1)
   (λa=>a.1<=row.length/\G.next<=a.2.2.2.next/\a.2.2.2.obj (D+1)=some ob/\a.2.2.2.obj D=some .qI/\a.2.2.2.obj (D+2)=some X/\(∀m,m<D->m≠H.next->a.2.2.2.obj m=H2.obj m)/\a.2.2.2.obj H.next=some (.box [a.2.2.1])/\
    ∃dn,dn.length<=a.1/\eu e.fold more k (sp row) row row (-1)=dn++eu e.fold more k (sp row) row (row.drop a.1) a.2.1/\wF (D+3) a.2.2.1 ((nY e.fold more sp b seen++dn).map ak) a.2.2.2)
   (0,-1,y,G3) ⟨⟨Nat.zero_le _,by simp only;omega,oy,by rw[c3 _ (by omega)];exact q2,by rw[c3 _ (by omega)];exact q3,λm hm hne=>by rw[c3 _ (by omega)];exact q4 m hm hne,by rw[c3 _ (by omega)];exact q5,[],by simp,by simp,by simpa using Yz⟩,by simp[oU,aj,xk]⟩ ?_
  rintro⟨j,last,y2,G4⟩ ⟨hj,r0,r1,r2,r3,r4,r5,dn,nr,Jq,hown⟩;simp only at hj r0 r1 r2 r3 r4 r5 nr Jq hown;simp;refine⟨λh=>?_,λh=>?_⟩
  ·obtain⟨z,T9⟩:∃z,row[j]=z:=⟨_,rfl⟩;have hzm:z∈row:=by rw[<-T9];exact List.getElem_mem h
   have vj:row.drop j=z::row.drop (j+1):=by rw[<-T9];exact List.drop_eq_getElem_cons h
   have hzs:=ax4 z hzm;have hzb:=aC9 z hzm;simp at hzs;simp[h,List.getElem?_eq_getElem h,T9,ak];refine⟨hcap _,EC.aJ hzs ?_⟩;rw[vj,eu]at Jq;have eM:=aB (n:=9223372036854775807) (show j<9223372036854775807 by omega)
   cases hq:sp row z.aa.at_ with
   |none=>
    rw[hq]at Jq;simp[QC];exact NX.go (j+1,last,y2,G4) (by simp only;omega) ⟨h,r0,r1,r2,r3,r4,r5,dn,by simp only;omega,Jq,hown⟩ (by simp[eM,oU,aj,xk])
   |some lh=>
    obtain⟨lo,hi'⟩:=lh;rw[hq]at Jq hzb;have hzb:=hzb lo hi' rfl;simp only at Jq;simp[QC];refine⟨λe1=>?_,λe1=>?_⟩
    ·rw[if_pos e1]at Jq;exact NX.go (j+1,last,y2,G4) (by simp only;omega) ⟨h,r0,r1,r2,r3,r4,r5,dn,by simp only;omega,Jq,hown⟩ (by simp[eM,oU,aj,xk])
    ·rw[if_neg e1]at Jq;have hwi:=nI row lo hi';have hfo:=D2 e.fold (bP lo hi' row) (Nat.le_trans ((List.takeWhile_sublist _).trans (List.dropWhile_sublist _)).length_le (by omega)) (λx hx=>hit x (pP (k:=k) (by rw[hrow];exact j9 hx)).1)
     have w1:IntKind.wrap .i64 (hi'+more)=hi'+more:=by rw[wrap64]<;>omega
     simp at hwi hfo;refine AW.draw (ccR l) [(10,.n),(11,.n)] (.q 1<|.q 4<|.q 5<|.q 7<|.q 8<|.q 9<|.q 10<|.q 0<|.q 2<|.q 3<|.q 6<|.q 11<|.q 12<|.q 13<|.q 14<|.f<|.one 15<|.f<|.one 16<|.done) (by kernel_rfl) ?_
     have hyp:=hown.plain.all;simp[r5,oU,aj,hyp];refine FC.aJ hwi ?_;simp[r5,oU,aj,hyp,w1];refine FC.aJ hfo ?_;simp[hyp];have sj:=Lk e.fold more sp b hlen s1 s2;refine eO.dU (H0:=⟨G4.obj,D+3⟩) (ys:=[ak ⟨⟨hi'+more,k,foldI e.fold (bP lo hi' row)⟩,1⟩]) fk rfl dZ (by simp) (x:=y2) (by simp) hown (by simp[rowsOf,ak]) (by simp) (bp _) (λr hr=>by simp only[List.mem_singleton]at hr;subst hr;rfl) (by simp;omega) (by simp) λx' H5 h5 hn5 _=>?_
     simp only at hn5;have hx5:=h5.nx;simp only at hx5;have o5:H5.obj H.next=some (.box [y2]):=by rw[h5.ob _ (by simp only;omega)];exact r5
     have bL0:H.next<H5.next:=by omega
     simp[o5,h5.plain.all,h5.nb];have h6:wF (D+3) x' ((nY e.fold more sp b seen++(dn++[(⟨⟨hi'+more,k,foldI e.fold (bP lo hi' row)⟩,1⟩:Item)])).map ak) (H5.set H.next (.box [x'])):=by
      have h6:wF (D+3) x' _ H5:=wF.of (B:=⟨G4.obj,D+3⟩) rfl h5;have h7:=h6.set (k:=H.next) (by omega) (.box [x'])
      rw[<-List.append_assoc,List.map_append];exact h7
     have bj9:eu e.fold more k (sp row) row row (-1)=(dn++[⟨⟨hi'+more,k,foldI e.fold (bP lo hi' row)⟩,1⟩])++eu e.fold more k (sp row) row (row.drop (j+1)) hi':=by rw[Jq];simp
     have yD:=λ(m:Nat) (hm:m<D+3) (hne:m≠H.next) (o:Option GO) (hh:G4.obj m=o)=>(show(H5.set H.next (.box [x'])).obj m=o by rw[GH.ay,if_neg hne,h5.ob _ (by simp only;omega)];exact hh)
     have bo3:(dn++[(⟨⟨hi'+more,k,foldI e.fold (bP lo hi' row)⟩,1⟩:Item)]).length<=j+1:=by rw[List.length_append];simp;omega
     exact NX.go (j+1,hi',x',H5.set H.next (.box [x'])) (by simp only;omega) ⟨h,by simp only[GH.aM];omega,yD _ (by omega) (by omega) _ r1,yD _ (by omega) (by omega) _ r2,yD _ (by omega) (by omega) _ r3,λm hm hne=>yD m (by omega) hne _ (r4 m hm hne),GH.aY,_,bo3,bj9,h6⟩ (by simp[eM,oU,aj,xk])
  ·have e1:j=row.length:=by omega
   subst e1;rw[List.drop_length,eu,List.append_nil]at Jq;have tH:=hown.nx;simp only at tH;intro hz4;refine⟨⟨.busy,none,by rw[kp];exact r1⟩,G4.set (D+1) (x.go .ready none),?_,?_⟩
   ·exact(hz4.set (by omega) (GO.fu r0 (tG.nb _ _ q1))).drop (by rw[GH.aM];omega)
   ·rw[hJ];have dK:(seen++[i]).Nodup:=by
     rw[List.nodup_append];exact⟨s1,by simp,λa ha b hb=>by simp at hb;subst hb;intro q;subst q;exact hi ha⟩
    have hall:∀j∈seen++[i],j<(bg b).length:=λj hj=>by
     rcases List.mem_append.1 hj with q|q
     ·exact s2 j q
     ·simp at q;subst q;exact(List.getElem?_eq_some_iff.1 hk).1
    have hsd:nY e.fold more sp b (seen++[i])=nY e.fold more sp b seen++dn:=by
     have:(bg b).getD i 0=k:=by simp[List.getD,hk]
     simp only[nY,fD,List.map_append,List.map_cons,List.map_nil,List.flatMap_append,List.flatMap_cons,List.flatMap_nil,List.append_nil,this,sU,hrow,Jq]
    refine⟨dK,hall,GH.aY,by rw[GH.ay,if_neg (by omega)];exact r2,by rw[GH.ay,if_neg (by omega)];exact r3,λm hm hne=>by rw[GH.ay,if_neg (by omega)];exact r4 m hm hne,y2,by rw[GH.ay,if_neg (by omega)];exact r5,?_⟩
    rw[hsd];exact hown.set (by omega) _
theorem DL{α:Type}{l:List α}(h:l.Nodup){i j:Nat}(hi:i<l.length)(hj:j<l.length)(e:l[i]=l[j]):i=j:=by
 have hp:=List.pairwise_iff_getElem.1 h;rcases Nat.lt_trichotomy i j with q|q|q
 ·exact absurd e (hp i j hi hj q)
 ·exact q
 ·exact absurd e.symm (hp j i hj hi q)
theorem Mj{b:List Item}{seen:List Nat}(hs:∀i∈seen,i<(bg b).length){i:Nat}{k:Int}(hk:(bg b)[i]?=some k)(hi:i∉seen):k∉fD b seen:=by
 intro h;obtain⟨j,hj,e⟩:=List.mem_map.1 h;have hjl:=hs j hj;have Ef:=(List.getElem?_eq_some_iff.1 hk).1;have hik:=(List.getElem?_eq_some_iff.1 hk).2;simp only[List.getD,List.getElem?_eq_getElem hjl,Option.getD_some]at e;have:=DL (jE b) hjl Ef (e.trans hik.symm);exact hi (this▸hj)
theorem FU{b:List Item}{seen:List Nat}(hn:seen.Nodup)(hs:∀i∈seen,i<(bg b).length):(fD b seen).Nodup:=by
 unfold fD;rw[List.Nodup,List.pairwise_map];refine List.Pairwise.imp_of_mem (λ{i j} hi hj hne e=>?_) hn
 simp only[List.getD,List.getElem?_eq_getElem (hs i hi),List.getElem?_eq_getElem (hs j hj),Option.getD_some]at e;exact hne (DL (jE b) (hs i hi) (hs j hj) e)
theorem bm1(N:Nat){b:List Item}(ks:List Int):(GO.map (lK ks (oD b))).nb N:=by
 unfold GO.nb
 induction ks with
 |nil=>simp[lK,cD]
 |cons k ks ih=>exact⟨trivial,ih⟩
theorem rV(b:List Item)(hlen:b.length<=300)(H:GH):
  aG prog 234 [sl (b.map ak)] H λce H'=>∃m ks,ce=.ret (.gm m)/\H.next<=m/\m<H'.next/\H'.obj m=some (.map (lK ks (oD b)))/\ks.Perm (bg b)/\(∀i,i<H.next->H'.obj i=H.obj i):=by
 have cc:=gF (r:=none) (f:=234) (p:=bf [] [3] []);have ccR:∀l,(xD (some l) 234 (bf [] [3] [])).ok prog:=λl=>gF
 refine aG.dG (gF (r:=none) (f:=234) (p:=bf [] [3] [])) func234 rfl call234 (by rw[ntmps234];simp) rfl λhf hw=>?_
 simp[ntmps234,results234]at hf|-;refine AW.seq cc ?_;simp;refine AW.seq cc ?_;simp[GH.ax,GH.aq];refine⟨by omega,?_⟩
 obtain⟨H1,xq⟩:∃H1,((H.add (GO.map [])).add (GO.box [LV.d (DV.k (Value.map none))])).set (H.next+1) (GO.box [LV.gm H.next])=H1:=⟨_,rfl⟩;have n1:H1.next=H.next+2:=by rw[<-xq];rfl
 have b1:H1.obj (H.next+1)=some (.box [.gm H.next]):=by rw[<-xq,GH.aY]
 have m1:H1.obj H.next=some (.map []):=by rw[<-xq,GH.ay,if_neg (by omega),GH.ax,if_neg (by rw[GH.aq];omega),GH.ax,if_pos rfl]
 have o1:∀m,m<H.next->H1.obj m=H.obj m:=λm hm=>by rw[<-xq,GH.ay,if_neg (by omega),GH.ax,if_neg (by rw[GH.aq];omega),GH.ax,if_neg (by omega)]
 rw[xq]
 clear xq
 have PD:=A7 b (by omega) H1
 simp at PD;refine AW.seq cc ?_;simp;refine EC.of PD (λv H2 hR=>?_) (λv H2 hR=>by cases hR.1)
 obtain⟨q,n2,o2,b2,m2⟩:=hR;cases q;rw[n1]at n2 b2 m2 o2;have b12:H2.obj (H.next+1)=some (.box [.gm H.next]):=by rw[o2 _ (by omega)];exact b1
 have m12:H2.obj H.next=some (.map []):=by rw[o2 _ (by omega)];exact m1
 have ol:∀m,m<H.next->H2.obj m=H.obj m:=λm hm=>by rw[o2 m (by omega)];exact o1 m hm
 clear o2
 simp[n1];refine AW.T7 (λqD=>?_)
 simp only at qD;refine fh.rangeFunc rfl rfl (f:=279) (first:=[]) (cap:=[.gp (H.next+2+1) 0]) (by simp[GH.aq]) (by simp)
  [(3,.gp (H.next+1) 0)] (by simp[ny]) (by simp[ny,LV.nb,cD];omega) (by simp[cD,LV.nb];omega) ?_
 simp only[LS.CP,List.nil_append,List.singleton_append];generalize hx:LP.mk _ _ _ _ _ _ _=x;have Jp:x.f=234:=by rw[<-hx]
 have F2:x.d=H2.next:=by rw[<-hx]
 obtain⟨D,hD⟩:∃D,H2.next=D:=⟨_,rfl⟩;have xu:((H2.add .qI).add (x.go .ready none)).next=D+2:=by rw[GH.aq,GH.aq,hD]
 obtain⟨J,hJ⟩:∃J:List Nat->GO->GH->Prop,J=λseen X G=>seen.Nodup/\(∀i∈seen,i<(bg b).length)/\D+3<=G.next/\G.obj (D+1)=some (x.go .ready none)/\G.obj D=some .qI/\G.obj (D+2)=some X/\(∀m,m<D->m≠H.next->G.obj m=H2.obj m)/\
  G.obj H.next=some (.map (lK (fD b seen) (oD b))):=⟨_,rfl⟩
 have hkw:=yg (n:=D+1) (nb:=H.next+2+1) (m:=H.next+2) (b:=b) (H0:=(H2.add .qI).add (x.go .ready none)) (J:=J) (by rw[GH.ax,GH.aq,if_neg (by omega),GH.ax,if_neg (by omega)];exact b2)
  (by rw[GH.ax,GH.aq,if_neg (by omega),GH.ax,if_neg (by omega)];exact m2) ?_ ?_ ?_ ?_
 ·rw[hD];refine hkw.mono λce H3 hR=>?_
  obtain⟨⟨v,hv⟩,seen,X,s1,s2,s3,hj⟩:=hR;subst hv;rw[hJ]at hj;obtain⟨_,_,q0,q1,q2,q3,q4,q5⟩:=hj;refine⟨.ready,none,q1,by simp,?_⟩
  simp[yz,F2];have o31:(H3.set (D+1) (x.go .exhausted none)).obj (H.next+1)=some (.box [.gm H.next]):=by rw[GH.ay,if_neg (by omega),q4 _ (by omega) (by omega)];exact b12
  refine AW.ev cc ?_;simp[o31];refine λ_=>⟨by rw[hD,GH.ay,if_neg (by omega)];exact q2,H.add (.map (lK (fD b seen) (oD b))),CC (by simp only[GH.aM,GH.aq];omega) (λm hm=>?_) (hw.add (bm1 _ _)) (by rw[GH.aq];omega),by rw[GH.aq];omega,fD b seen,by rw[GH.ax,if_pos rfl],yy s1 s2 s3,λi hi=>by rw[GH.ax,if_neg (by omega)]⟩
  rw[GH.aq]at hm;simp only[mg,GH.ay,GH.ax];rw[if_neg (show¬m=H2.next by omega),if_neg (show¬m=D+1 by omega)]
  by_cases e:m=H.next
  ·rw[if_pos e,e];exact q5.symm
  ·rw[if_neg e,q4 m (by omega) e,ol m (by omega)]
 ·intro X;rw[hJ];refine⟨by simp,by simp,?_,?_,?_,?_,λm hm hne=>?_,?_⟩
  ·rw[GH.aq,xu];omega
  ·rw[GH.ax,xu,if_neg (by omega),GH.ax,GH.aq,hD,if_pos rfl]
  ·rw[GH.ax,xu,if_neg (by omega),GH.ax,GH.aq,hD,if_neg (by omega),GH.ax,hD,if_pos rfl]
  ·rw[GH.ax,xu,if_pos rfl]
  ·rw[GH.ax,xu,if_neg (by omega),GH.ax,GH.aq,hD,if_neg (by omega),GH.ax,hD,if_neg (by omega)]
  ·rw[GH.ax,xu,if_neg (by omega),GH.ax,GH.aq,hD,if_neg (by omega),GH.ax,hD,if_neg (by omega)];exact m12
 ·intro seen X Y G hj;rw[xu];rw[hJ]at hj|-;obtain⟨s1,s2,q0,q1,q2,q3,q4,q5⟩:=hj;exact⟨s1,s2,q0,by rw[GH.ay,if_neg (by omega)];exact q1,by rw[GH.ay,if_neg (by omega)];exact q2,by rw[GH.aY],λm hm hne=>by rw[GH.ay,if_neg (by omega)];exact q4 m hm hne,by rw[GH.ay,if_neg (by omega)];exact q5⟩
 ·intro seen X G hj;rw[xu];rw[hJ]at hj;obtain⟨s1,s2,q0,q1,q2,q3,q4,q5⟩:=hj;exact⟨q0,q3,by rw[q4 _ (by omega) (by omega)];exact m2⟩
 ·intro seen i k X G hk hi YI tG hj;rw[hJ]at hj;obtain⟨s1,s2,q0,q1,q2,q3,q4,q5⟩:=hj;refine ei.ofN (c:=λl=>xD (some l) 234 (bf [] [3] [])) ccR (λl=>by simp[Jp]) q1 ⟨_,by rw[Jp];exact func234⟩ (by rw[<-hx];rfl) (by rw[<-hx];simp) λhz l=>?_
  have xa:=(congrArg LP.lR hx).symm;have xb:=(congrArg LP.body hx).symm;have xe:=(congrArg LP.env hx).symm;have xp:=(congrArg LP.ps hx).symm;have xn:=(congrArg LP.nt hx).symm;dsimp only at xa xb xe xp xn;rw[xa,xb,xe,xp,xn]
  clear xa xb xe xp xn hx
  simp[mI];refine⟨q1,?_⟩;generalize kp:x.go .busy none=ob;obtain⟨G3,KY⟩:∃G3,G.set (D+1) ob=G3:=⟨_,rfl⟩;have c3:∀m,m≠D+1->G3.obj m=G.obj m:=λm hm=>by rw[<-KY,GH.ay,if_neg (by omega)]
  have oy:G3.obj (D+1)=some ob:=by rw[<-KY,GH.aY]
  have n3:G3.next=G.next:=by rw[<-KY];rfl
  have b13:G3.obj (H.next+1)=some (.box [.gm H.next]):=by rw[c3 _ (by omega),q4 _ (by omega) (by omega)];exact b12
  have m13:G3.obj H.next=some (.map (lK (fD b seen) (oD b))):=by rw[c3 _ (by omega)];exact q5
  have hkey:=eq_true (iS (fD b seen) (oD b));have hput:=rQ k (oD b k) (oD b) (fD b seen) (FU s1 s2);have hin:=Mj s2 hk hi;have dK:(seen++[i]).Nodup:=by
   rw[List.nodup_append];exact⟨s1,by simp,λa ha b hb=>by simp at hb;subst hb;intro q;subst q;exact hi ha⟩
  have hall:∀j∈seen++[i],j<(bg b).length:=λj hj=>by
   rcases List.mem_append.1 hj with q|q
   ·exact s2 j q
   ·simp at q;subst q;exact(List.getElem?_eq_some_iff.1 hk).1
  have hka:fD b (seen++[i])=fD b seen++[k]:=by simp[fD,List.getD,hk]
  rw[if_neg hin]at hput;have Js:cr (.int .i64 k) (.d (.sl ((rowOf k b).map ak))) (lK (fD b seen) (oD b))=lK (fD b (seen++[i])) (oD b):=by
   rw[hka];refine hput.trans (mq λj hj=>?_)
   by_cases e:j=k
   ·rw[if_pos e,e]
   ·rw[if_neg e]
  rw[KY];refine AW.ev (ccR l) ?_;simp[b13,m13,hkey,Js];intro hz4;refine⟨⟨.busy,none,by rw[GH.ay,if_neg (by omega),kp];exact oy⟩,(G3.set H.next (.map (lK (fD b (seen++[i])) (oD b)))).set (D+1) (x.go .ready none),?_,?_⟩
  ·exact(hz4.set (by rw[GH.aM];omega) (GO.fu (by rw[GH.aM];omega) (tG.nb _ _ q1))).drop (by rw[GH.aM,GH.aM];omega)
  ·rw[hJ];exact⟨dK,hall,by rw[GH.aM,GH.aM];omega,GH.aY,by rw[GH.ay,if_neg (by omega),GH.ay,if_neg (by omega),c3 _ (by omega)];exact q2,by rw[GH.ay,if_neg (by omega),GH.ay,if_neg (by omega),c3 _ (by omega)];exact q3,
    λm hm hne=>by rw[GH.ay,if_neg (by omega),GH.ay,if_neg hne,c3 _ (by omega)];exact q4 m hm hne,by rw[GH.ay,if_neg (by omega),GH.aY]⟩
end Go.Aft
end
section
set_option maxRecDepth 20000
namespace Go.Aft
def fK(n:Nat)(R:Nat->Nat->Bool)(d:Nat):List Nat:=if R d d=true then bQ n R d else[d]
def fC(n:Nat)(R:Nat->Nat->Bool)(D:List Nat)(d:Nat):Bool:=!D.contains d&& !((List.range n).filter (R d)).any λk=>!D.contains k&& !(fK n R d).contains k
def cR(D l:List Nat):List Nat:=l.foldl (λD k=>if k∈D then D else D++[k]) D
def dM(n:Nat)(R:Nat->Nat->Bool):Nat->List Nat->List (List Nat)
 |0,_=>[]
 |f+1,D=>if D.length<n then match(List.range n).find? (fC n R D)with
  |none=>[]
  |some d=>fK n R d::dM n R f (cR D (fK n R d))else[]
def gK(n:Nat)(R:Nat->Nat->Bool):List (List Nat):=dM n R n []
theorem nV(D:List Nat)(k:Nat)(l:List Nat):cR D (k::l)=cR (if k∈D then D else D++[k]) l:=rfl
theorem Kw(D l:List Nat)(k:Nat):cR D (l++[k])=if k∈cR D l then cR D l else cR D l++[k]:=by
 rw[cR,List.foldl_append];rfl
theorem cC{x:Nat}:∀{l D:List Nat},x∈cR D l↔x∈D\/ x∈l
 |[],D=>by simp[cR]
 |k::l,D=>by
  rw[nV,cC]
  split
  ·rename_i h;rw[List.mem_cons];constructor
   ·rintro(q|q)
    ·exact .inl q
    ·exact .inr (.inr q)
   ·rintro(q|q|q)
    ·exact .inl q
    ·rw[q];exact .inl h
    ·exact .inr q
  ·simp[or_assoc]
theorem iB:∀{l D:List Nat},D.Nodup->(cR D l).Nodup
 |[],D,h=>h
 |k::l,D,h=>by
  rw[nV];refine iB ?_
  split
  ·exact h
  ·rename_i q;rw[List.nodup_append];exact⟨h,by simp,λa ha b hb=>by simp at hb;subst hb;intro z;subst z;exact q ha⟩
theorem uq:∀{l D:List Nat},D.length<=(cR D l).length
 |[],D=>Nat.le_refl _
 |k::l,D=>by
  rw[nV];refine Nat.le_trans ?_ uq
  split
  ·exact Nat.le_refl _
  ·simp
theorem qu:∀{l D:List Nat} {d:Nat},d∈l->d∉D->D.length<(cR D l).length
 |k::l,D,d,h,hd=>by
  rw[nV];by_cases e:k∈D
  ·rw[if_pos e];rcases List.mem_cons.1 h with q|q
   ·rw[q]at hd;exact absurd e hd
   ·exact qu q hd
  ·rw[if_neg e];refine Nat.lt_of_lt_of_le ?_ uq;simp
theorem fQ{n:Nat}{R:Nat->Nat->Bool}{d:Nat}(hd:d<n):d∈fK n R d:=by
 unfold fK
 split
 ·exact bL.2 ⟨hd,.inl rfl⟩
 ·simp
theorem xg{n:Nat}{R:Nat->Nat->Bool}{d k:Nat}(hd:d<n)(h:k∈fK n R d):k<n:=by
 unfold fK at h
 split at h
 ·exact(bL.1 h).1
 ·simp at h;omega
theorem Wb{n:Nat}{R:Nat->Nat->Bool}{d:Nat}(hn:1<=n):(fK n R d).length<=n:=by
 unfold fK
 split
 ·exact Nat.le_trans (List.length_filter_le _ _) (by simp)
 ·simpa using hn
theorem Ib{n:Nat}{R:Nat->Nat->Bool}(ht:∀i j k,R i j=true->R j k=true->R i k=true){D:List Nat}:∀(c d:Nat),((List.range n).filter λj=>j==d||R d j).length<=c->d<n->d∉D->∃e,e<n/\fC n R D e=true
 |0,d,hc,hd,_=>by
  have:d∈(List.range n).filter λj=>j==d||R d j:=List.mem_filter.2 ⟨List.mem_range.2 hd,by simp⟩
  have:=List.length_pos_of_mem this;omega
 |c+1,d,hc,hd,hD=>by
  cases h:fC n R D d with
  |true=>exact⟨d,hd,h⟩
  |false=>
   have hcd:D.contains d=false:=by simpa using hD
   unfold fC at h;rw[hcd]at h;simp only[Bool.not_false,Bool.true_and,Bool.not_eq_false',List.any_eq_true,List.mem_filter,List.mem_range,Bool.and_eq_true,Bool.not_eq_true']at h;obtain⟨k,⟨hk,hdk⟩,h1,h2⟩:=h;have PE:k∉D:=by simpa using h1
   have PD:k≠d/\R k d=false:=by
    have h3:k∉fK n R d:=by simpa using h2
    unfold fK at h3
    split at h3
    ·rename_i hdd;refine⟨λe=>h3 (by rw[e];exact bL.2 ⟨hd,.inl rfl⟩),?_⟩
     cases q:R k d with
     |false=>rfl
     |true=>exact absurd (bL.2 ⟨hk,.inr ⟨hdk,q⟩⟩) h3
    ·rename_i hdd;refine⟨by simpa using h3,?_⟩
     cases q:R k d with
     |false=>rfl
     |true=>exact absurd (ht _ _ _ hdk q) hdd
   refine Ib ht c k ?_ hk PE;have hsub:((List.range n).filter λj=>j==k||R k j).length<((List.range n).filter λj=>j==d||R d j).length:=by
    have h5:∀j,(j==k||R k j)=true->(j==d||R d j)=true:=λj hj=>by
     simp only[Bool.or_eq_true,beq_iff_eq]at hj|-;rcases hj with rfl|hj
     ·exact .inr hdk
     ·exact .inr (ht _ _ _ hdk hj)
    have h6:((List.range n).filter λj=>j==k||R k j)=((List.range n).filter λj=>j==d||R d j).filter λj=>j==k||R k j:=by
     rw[List.filter_filter];refine List.filter_congr λj _=>?_
     cases q:(j==k||R k j)with
     |false=>simp
     |true=>rw[h5 j q];rfl
    rw[h6];refine List.length_filter_lt_length_iff_exists.2 ⟨d,List.mem_filter.2 ⟨List.mem_range.2 hd,by simp⟩,?_⟩
    simp[PD.2,Ne.symm PD.1]
   omega
theorem pR{n:Nat}{R:Nat->Nat->Bool}(ht:∀i j k,R i j=true->R j k=true->R i k=true){D:List Nat}(hn:D.Nodup)(hb:∀d∈D,d<n)(hl:D.length<n):∃d,(List.range n).find? (fC n R D)=some d:=by
 have hex:∃d,d<n/\d∉D:=by
  refine Classical.byContradiction λhc=>?_
  have hall:∀d,d<n->d∈D:=λd hd=>Classical.byContradiction λq=>hc ⟨d,hd,q⟩
  have h1:(List.range n).length<=D.length:=dy List.nodup_range λx hx=>hall x (List.mem_range.1 hx)
  simp at h1;omega
 obtain⟨d,hd,hD⟩:=hex;obtain⟨e,he,hr⟩:=Ib ht _ d (Nat.le_refl _) hd hD;cases h:(List.range n).find? (fC n R D)with
 |some d=>exact⟨d,rfl⟩
 |none=>
  have:=List.find?_eq_none.1 h e (List.mem_range.2 he);exact absurd hr this
end Go.Aft
end
section
set_option maxRecDepth 20000
namespace Go.Aft
open Go.Proofs.Tryz
open Go.Sort (swp insInner insOuter insertionSort SWO PermIn SortedIn)
theorem Tu(a b:Int):aC prog 244 [aH a,aH b] (.d (.k (.bool (decide (a<b))))):=by
 refine aC.body aP func244 rfl call244 (by rw[ntmps244];simp) rfl λ_ H=>?_
 simp[ntmps244,results244];refine EC.aJ (xJ a) ?_;simp
def Bd(x y:Int):Bool:=decide (x<y)
theorem C7(d:Array Int)(hsz:d.size<=1000)(n:Nat)(H:GH)(g:Nat)(hg:H.obj n=some (.vec 3 g 1 (d.toList.map aH) false)):
  aG prog 238 [.vs n g 1 0 d.size,aH 0,aH d.size] H λce H'=>(∃v,ce=.ret v)/\H'=H.set n (.vec 3 g 1 ((insertionSort Bd d 0 d.size).toList.map aH) false):=by
 have cc:=au (p:=bf [] [] []);refine aG.bG (au (p:=bf [] [] [])) func238 rfl call238 (by rw[ntmps238];simp) rfl λhf hw=>?_
 have ln:=hw.lt hg;simp[ntmps238,results238];refine AW.aV cc (λs:Nat×Array Int=>⟨[(0,.vs n g 1 0 d.size),(1,aH 0),(2,aH d.size),(6,aH s.1)],[],H.set n (.vec 3 g 1 (s.2.toList.map aH) false)⟩) (λs=>d.size-s.1)
  (λs=>1<=s.1/\(s.1<=d.size\/ s.1=1)/\s.2.size=d.size/\insertionSort Bd d 0 d.size=insOuter Bd 0 d.size s.1 s.2) (1,d) ⟨⟨by simp,by simp,rfl,rfl⟩,by simp[GH.iX hg];rfl⟩ ?_
 rintro⟨i,d1⟩ ⟨i1,i2,i3,i5⟩;simp only at i1 i2 i3 i5;simp;refine⟨λh=>?_,λh=>?_⟩
 ·refine AW.aV cc (λs:Nat×Array Int=>⟨[(0,.vs n g 1 0 d.size),(1,aH 0),(2,aH d.size),(6,aH i),(7,aH s.1)],[],H.set n (.vec 3 g 1 (s.2.toList.map aH) false)⟩) (λs=>s.1)
   (λs=>s.1<=i/\s.2.size=d.size/\insInner Bd 0 i d1=insInner Bd 0 s.1 s.2) (i,d1) ⟨⟨Nat.le_refl _,i3,rfl⟩,by simp⟩ ?_
  rintro⟨j,d2⟩ ⟨j2,j3,j5⟩;simp only at j2 j3 j5;have ob:∀o,(H.set n o).obj n=some o:=λo=>GH.aY
  simp;refine AW.draw cc [(13,.n)] (.q 0<|.q 1<|.q 2<|.q 3<|.q 4<|.q 5<|.q 6<|.q 8<|.q 9<|.q 10<|.q 11<|.q 7<|.q 12<|.q 13<|.q 14<|.done) (by kernel_rfl) ?_
  have wj:IntKind.wrap .i64 ((j:Int)-1)=(j:Int)-1:=by rw[wrap64]<;>omega
  have tj:((j:Int)-1).toNat=j-1:=by omega
  have g1:d2.toList[j]?=some d2[j]! :=by rw[getElem!_pos d2 j (by omega)];simp[show j<d2.size by omega]
  have g2:d2.toList[j-1]?=some d2[j-1]! :=by rw[getElem!_pos d2 (j-1) (by omega)];simp[show j-1<d2.size by omega]
  have hx:=Tu d2[j]! d2[j-1]!;simp at g1 g2 hx;simp[ob,wj,tj,g1,g2];refine⟨λq=>⟨q,by omega⟩,λq=>⟨q,by omega,by omega⟩,kN.aJ (λ_=>hx) ?_⟩
  simp;refine⟨λq1 q2=>?_,λq=>?_⟩
  ·refine AW.draw cc [] (.q 0<|.q 1<|.q 2<|.q 3<|.q 4<|.q 5<|.q 6<|.q 7<|.q 8<|.q 10<|.q 11<|.q 12<|.q 9<|.q 13<|.q 14<|.f<|.one 15<|.q 16<|.f<|.one 17<|.done) (by kernel_rfl) ?_
   have fE:=λ(M:List LV) (k:Nat) (w:LV) (hk:k<M.length)=>(List.set_eq_take_append_cons_drop (l:=M) (i:=k) (a:=w)).trans (if_pos hk)
   obtain⟨L,hL⟩:∃L,d2.toList.map aH=L:=⟨_,rfl⟩;have hLl:L.length=d2.size:=by rw[<-hL];simp
   have s1:=(fE L j (aH d2[j-1]!) (by omega)).symm
   have s2:=(fE (L.set j (aH d2[j-1]!)) (j-1) (aH d2[j]!) (by simp;omega)).symm
   have c1:j+1<=d2.size:=by omega
   have c2:j-1+1<=d2.size:=by omega
   have g1:L[j]?=some (aH d2[j]!):=by rw[<-hL];simp[g1]
   have g2:L[j-1]?=some (aH d2[j-1]!):=by rw[<-hL];simp[g2]
   have hsw:(L.set j (aH d2[j-1]!)).set (j-1) (aH d2[j]!)=(swp d2 j (j-1)).toList.map aH:=by
    rw[<-hL,swp];simp
   rw[hL];simp only[Bc]at s1 s2 hsw g1 g2;simp[ob,wj,tj,g1,g2,c1,c2,hLl,s1,s2,GH.set_set,hsw];have w3:((j-1:Nat):Int)=(j:Int)-1:=by omega
   exact⟨⟨by omega,by omega⟩,by omega,⟨by omega,by omega⟩,NX.go (j-1,swp d2 j (j-1)) (by simp only;omega) ⟨by simp only;omega,by simp only;rw[swp_size];exact j3,by rw[j5];exact insInner_go ⟨q1,by simpa[Bd]using q2⟩⟩ (by simp[wj,w3])⟩
  ·have w2:IntKind.wrap .i64 ((i:Int)+1)=(i:Int)+1:=by rw[wrap64]<;>omega
   have hst:insInner Bd 0 j d2=d2:=insInner_stop λq'=>by
    have h1:=q q'.1;have h2:=q'.2;simp only[Bd,decide_eq_true_eq]at h2;omega
   refine NX.go (i+1,d2) (by simp only;omega) ⟨by simp only;omega,by simp only;omega,j3,?_⟩ (by simp[w2])
   rw[i5,insOuter,if_pos h,j5,hst]
 ·have e:insOuter Bd 0 d.size i d1=d1:=by rw[insOuter,if_neg (by omega)]
  rw[i5,e];exact λhz=>hz.drop (by rw[GH.aM];exact Nat.le_refl _)
theorem FR:SWO Bd where
 irrefl x:=by simp[Bd]
 trans x y z h1 h2:=by simp only[Bd,decide_eq_true_eq]at*;omega
 ntrans x y z h1 h2:=by simp only[Bd,decide_eq_false_iff_not]at*;omega
theorem Jk(d:Array Int)(hsz:d.size<=12)(n:Nat)(H:GH)(g:Nat)(hg:H.obj n=some (.vec 3 g 1 (d.toList.map aH) false)):
  aG prog 170 [.vs n g 1 0 d.size] H λce H'=>(∃v,ce=.ret v)/\H'=H.set n (.vec 3 g 1 ((insertionSort Bd d 0 d.size).toList.map aH) false):=by
 have cc:=au (p:=bf [] [] []);have hpdq:∀k:Int,aG prog 214 [.vs n g 1 0 d.size,aH 0,aH d.size,aH k] H λce H'=>(∃v,ce=.ret v)/\H'=H.set n (.vec 3 g 1 ((insertionSort Bd d 0 d.size).toList.map aH) false):=λk=>by
  refine aG.bG (au (p:=bf [] [] [])) func214 rfl call214 (by rw[ntmps214];simp) rfl λhf hw=>?_
  have ln:=hw.lt hg;have hin:=C7 d (by omega) n H g hg
  have w1:IntKind.wrap .i64 (d.size:Int)=d.size:=by rw[wrap64]<;>omega
  have c1:(d.size:Int)<=12:=by omega
  simp at hin;simp[ntmps214,results214];refine AW.aV cc (λs:Nat=>⟨[(0,.vs n g 1 0 d.size),(1,aH 0),(2,aH d.size),(3,aH k)],[],H⟩) (λs=>s) (λs=>True) 0 ⟨trivial,by simp⟩ ?_
  intro i _;simp[w1,c1];refine⟨ln,EC.of hin (λv H2 hR=>?_) (λv H2 hR=>by obtain⟨⟨_,e⟩,_⟩:=hR;cases e)⟩
  obtain⟨_,hE⟩:=hR;rw[hE];simp;exact λhz=>hz.drop (by rw[GH.aM];exact Nat.le_refl _)
 refine aG.bG (au (p:=bf [] [] [])) func170 rfl call170 (by rw[ntmps170];simp) rfl λhf hw=>?_
 have ln:=hw.lt hg;have w1:IntKind.wrap .u64 (d.size:Int)=(d.size:Nat):=by simp[IntKind.wrap,IntKind.bits,IntKind.signed];omega
 simp[ntmps170,results170,w1];refine EC.of (bits_Len d.size (by omega) H) (λv H2 hR=>?_) (λv H2 hR=>by obtain⟨⟨_,e⟩,_⟩:=hR;cases e)
 obtain⟨⟨k,q⟩,rfl⟩:=hR;cases q;have hp:=hpdq k;simp at hp;simp;refine⟨ln,EC.of hp (λv H3 hR=>?_) (λv H3 hR=>by obtain⟨⟨_,e⟩,_⟩:=hR;cases e)⟩
 obtain⟨_,hE⟩:=hR;rw[hE];simp;exact λhz=>hz.drop (by rw[GH.aM];exact Nat.le_refl _)
def rp(l:List Int):List Int:=(insertionSort Bd l.toArray 0 l.length).toList
theorem eT(l:List Int):(rp l).Perm l:=by
 have h:=(Go.Sort.insertionSort_holds FR l.toArray 0 l.toArray.size (Nat.zero_le _) (Nat.le_refl _)).1;have h3:=h.2.2;have e1:=h.1;simp only[List.size_toArray]at h3 e1;have hx:(l.toArray.extract 0 l.length).toList=l:=by simp
 have hy:((insertionSort Bd l.toArray 0 l.length).extract 0 l.length).toList=rp l:=by
  rw[rp];generalize insertionSort Bd l.toArray 0 l.length=D at e1;rw[<-e1];simp
 rw[hx,hy]at h3;exact h3
theorem oA(l:List Int)(hn:l.Nodup):(rp l).Pairwise (·<·):=by
 have h2:=(Go.Sort.insertionSort_holds FR l.toArray 0 l.toArray.size (Nat.zero_le _) (Nat.le_refl _)).2;have hp:(rp l).Pairwise (·≠·):=(eT l).symm.pairwise hn λ{a b} q e=>q e.symm
 rw[List.pairwise_iff_getElem]at hp|-;intro i j hi hj hij;have hl:=(eT l).length_eq;have h3:=h2 i j (Nat.zero_le _) hij (by simp;omega)
 have hsz:(insertionSort Bd l.toArray 0 l.length).size=l.length:=by
  have:=(Go.Sort.insertionSort_holds FR l.toArray 0 l.toArray.size (Nat.zero_le _) (Nat.le_refl _)).1.1;simpa using this
 simp only[List.size_toArray]at h3;rw[getElem!_pos _ i (by omega),getElem!_pos _ j (by omega)]at h3
 simp only[Bd,decide_eq_false_iff_not]at h3;have g:∀k (hk:k<(rp l).length),(rp l)[k]=(insertionSort Bd l.toArray 0 l.length)[k]'(by omega):=λk hk=>by simp[rp]
 rw[<-g i hi,<-g j hj]at h3;have:=hp i j hi hj hij;omega
def bX(l:List Nat):List Int:=l.map λk:Nat=>(k:Int)
theorem Dv{ks:List Nat}(hn:ks.Nodup){n:Nat}{M:Nat->Bool}(h:∀k,k∈ks↔k<n/\M k=true):rp (bX ks)=bX ((List.range n).filter M):=by
 have h1:(bX ks).Nodup:=by
  unfold bX;rw[List.Nodup,List.pairwise_map];exact hn.imp λ{a b} q e=>q (by omega)
 have h2:(bX ((List.range n).filter M)).Pairwise (·<·):=by
  unfold bX;rw[List.pairwise_map];exact(List.pairwise_lt_range.filter M).imp λ{a b} q=>by omega
 refine iH (lt:=λa b:Int=>a<b) (λa=>by omega) (λ_ _ _ p q=>by omega) (oA _ h1) h2 λx=>?_
 rw[(eT _).mem_iff];simp only[bX,List.mem_map,List.mem_filter,List.mem_range,h]
theorem Ec(H:GH):aG prog 170 [.d (.k (.slice none 0 0))] H λce H'=>(∃v,ce=.ret v)/\H'=H:=by
 have cc:=au (p:=bf [] [] []);have hin:∀H,aG prog 238 [.d (.k (.slice none 0 0)),aH 0,aH 0] H λce H'=>(∃v,ce=.ret v)/\H'=H:=λH=>by
  refine aG.bG (au (p:=bf [] [] [])) func238 rfl call238 (by rw[ntmps238];simp) rfl λhf hw=>?_
  have w1:IntKind.wrap .i64 1=1:=rfl;simp[ntmps238,results238];refine AW.aV cc (λs:Nat=>⟨[(0,.d (.k (.slice none 0 0))),(1,aH 0),(2,aH 0),(6,aH 1)],[],H⟩) (λs=>s) (λs=>True) 0 ⟨trivial,by simp[w1]⟩ ?_
  intro i _;simp;exact λhz=>hz.drop (Nat.le_refl _)
 have hpdq:∀(k:Int) (H:GH),aG prog 214 [.d (.k (.slice none 0 0)),aH 0,aH 0,aH k] H λce H'=>(∃v,ce=.ret v)/\H'=H:=λk H=>by
  refine aG.bG (au (p:=bf [] [] [])) func214 rfl call214 (by rw[ntmps214];simp) rfl λhf hw=>?_
  have w1:IntKind.wrap .i64 0=0:=rfl;have hi:=hin H;simp at hi;simp[ntmps214,results214];refine AW.aV cc (λs:Nat=>⟨[(0,.d (.k (.slice none 0 0))),(1,aH 0),(2,aH 0),(3,aH k)],[],H⟩) (λs=>s) (λs=>True) 0 ⟨trivial,by simp⟩ ?_
  intro i _;simp[w1];refine EC.of hi (λv H2 hR=>?_) (λv H2 hR=>by obtain⟨⟨_,e⟩,_⟩:=hR;cases e)
  obtain⟨_,rfl⟩:=hR;simp;exact λhz=>hz.drop (Nat.le_refl _)
 refine aG.bG (au (p:=bf [] [] [])) func170 rfl call170 (by rw[ntmps170];simp) rfl λhf hw=>?_
 have w1:IntKind.wrap .u64 0=((0:Nat):Int):=rfl;simp[ntmps170,results170,w1];refine EC.of (bits_Len 0 (by omega) H) (λv H2 hR=>?_) (λv H2 hR=>by obtain⟨⟨_,e⟩,_⟩:=hR;cases e)
 obtain⟨⟨k,q⟩,rfl⟩:=hR;cases q;have hp:=hpdq k H2;simp at hp;simp;refine EC.of hp (λv H3 hR=>?_) (λv H3 hR=>by obtain⟨⟨_,e⟩,_⟩:=hR;cases e)
 obtain⟨_,rfl⟩:=hR;simp;exact λhz=>hz.drop (Nat.le_refl _)
end Go.Aft
end
section
set_option maxRecDepth 20000
namespace Go.Aft
open Go.Proofs.Tryz
open Go.Sort (insertionSort)
theorem mV(l:List Int):bM (l.map rI)=l.map aH:=by
 induction l with
 |nil=>rfl
 |cons a l ih=>simp only[List.map_cons,bM,List.flatten_cons,List.map_append]at ih|-;rw[ih];rfl
def iG(ks:List Nat)(seen:List Nat):List Int:=seen.map λi=>((ks.getD i 0:Nat):Int)
theorem zQ{ks seen:List Nat}(hn:seen.Nodup)(hb:∀i∈seen,i<ks.length)(ha:∀i,i<ks.length->i∈seen):(iG ks seen).Perm (bX ks):=by
 have h1:seen.Perm (List.range ks.length):=by
  rw[List.perm_ext_iff_of_nodup hn List.nodup_range];exact λi=>⟨λq=>List.mem_range.2 (hb i q),λq=>ha i (List.mem_range.1 q)⟩
 have h2:(List.range ks.length).map (λi=>((ks.getD i 0:Nat):Int))=bX ks:=by
  refine List.ext_getElem (by simp[bX]) λi h1 h2=>?_
  simp only[List.length_map,List.length_range]at h1;simp[bX,List.getD,List.getElem?_eq_getElem h1]
 have:=h1.map λi=>((ks.getD i 0:Nat):Int)
 rw[h2]at this;exact this
theorem A3(k:Nat):∀(es:List (Value×LV)) (ks:List Nat),es.map (·.1)=ks.map (λk:Nat=>Value.int .i64 k)->((bD (.int .i64 k) es).isSome=true↔k∈ks)
 |[],[],_=>by simp[bD]
 |[],j::ks,h=>by simp at h
 |e::es,[],h=>by simp at h
 |(a,b)::es,j::ks,h=>by
  simp only[List.map_cons,List.cons.injEq]at h;obtain⟨rfl,h⟩:=h;have ih:=A3 k es ks h;simp only[bD,gJ];by_cases e:(k:Int)=j
  ·have e':k=j:=by omega
   subst e';simp
  ·have e':¬k=j:=by omega
   simp only[e,decide_false,Bool.false_eq_true,if_false,ih,List.mem_cons,e',false_or]
theorem lM.mem{es:List (Value×LV)}{M:Nat->Bool}(h:lM es M){ks:List Nat}(hk:es.map (·.1)=ks.map λk:Nat=>Value.int .i64 k)(k:Nat):k∈ks↔M k=true:=by
 rw[<-A3 k es ks hk,h.get k]
 split<;>simp_all
theorem Fz(l:List Int):∀r∈l.map rI,r.length=1:=λr hr=>by obtain⟨_,_,rfl⟩:=List.mem_map.1 hr;rfl
theorem qZ{m n:Nat}(hn:n<=12){es:List (Value×LV)}{M:Nat->Bool}{H:GH}(hM:lM es M)(hb:∀k,M k=true->k<n)(hm:H.obj m=some (.map es)):
  aG prog 101 [.gm m] H λce H'=>ce=.ret (sl ((bX ((List.range n).filter M)).map rI))/\H'=H:=by
 have cc:=au (p:=bf [] [] [14]);refine aG.dG (au (p:=bf [] [] [14])) func101 rfl call101 (by rw[ntmps101];simp) rfl λhf hw=>?_
 have hmn:=hw.lt hm;obtain⟨ks,hkn,hke⟩:=hM.nat;have hkm:=hM.mem hke;have hel:es.length=ks.length:=by have:=congrArg List.length hke;simpa using this
 have jo:ks.length<=n:=fZ n ks hkn λi hi=>hb i ((hkm i).1 hi)
 have hkeys:es.all (λe=>oS e.1)=true:=List.all_eq_true.2 λe he=>by
  have:e.1∈es.map (·.1):=List.mem_map.2 ⟨e,he,rfl⟩
  rw[hke]at this;obtain⟨k,_,q⟩:=List.mem_map.1 this;rw[<-q];rfl
 have dL:∀(i:Nat) (e:Value×LV),es[i]?=some e->e.1=Value.int .i64 (ks.getD i 0:Nat):=λi e he=>by
  have h1:(es.map (·.1))[i]?=some e.1:=by simp[he]
  rw[hke]at h1;simp only[List.getElem?_map,Option.map_eq_some_iff]at h1;obtain⟨k,h2,h3⟩:=h1;rw[<-h3];simp[List.getD,h2]
 simp[ntmps101,results101];refine AW.seq cc ?_;simp;refine AW.seq cc ?_;simp;refine AW.seq cc ?_;simp[hm];refine AW.aV cc (λa:List Nat×LV×GH=>⟨[(3,a.2.1),(6,.gp H.next 0)],[],a.2.2⟩) (λa=>Fa es.length (λi=>decide (i∈a.1)))
  (λa=>a.1.Nodup/\(∀i∈a.1,i<es.length)/\lB 3 1 (H.add (GQ m es a.1)) a.2.1 ((iG ks a.1).map rI) a.2.2)
  ([],.d (.k (.slice none 0 0)),H.add (GQ m es [])) ⟨⟨by simp,by simp,by simpa[iG]using lB.nil⟩,by simp[GQ]⟩ ?_
 rintro⟨seen,x,H2⟩ ⟨s1,s2,hv⟩;simp only at s1 s2 hv;have oi:H2.obj H.next=some (GQ m es seen):=by rw[hv.ob _ (by rw[GH.aq];omega),GH.ax,if_pos rfl]
 have om:H2.obj m=some (.map es):=by rw[hv.ob _ (by rw[GH.aq];omega),GH.ax,if_neg (by omega)];exact hm
 have YI:seen.length<=es.length:=fZ _ _ s1 s2;simp;refine ST.next (n:=H.next) (m:=m) (seen:=seen) (es:=es) (by simp) oi om (by simp) rfl rfl hkeys (λi e he hi=>?_) (λhend=>?_)
 ·have hi':=(List.getElem?_eq_some_iff.1 he).1;have hk:=dL i e he;obtain⟨e1,e2⟩:=e;simp only at hk;subst hk;simp;refine ST.entry (n:=H.next) (m:=m) (seen:=seen++[i]) (es:=es) (i:=i) (e:=_) (by simp) (by rw[GH.aY]) (by rw[GH.ay,if_neg (by omega)];exact om) (by simp) rfl hkeys (by simp) he ?_
  obtain⟨H3,vl⟩:∃H3,H2.set H.next (GO.iter m es.length (seen++[i]) es.length)=H3:=⟨_,rfl⟩;have F3:=hv.set (k:=H.next) (by rw[GH.aq];omega) (GQ m es (seen++[i]))
  have fE:∀a b:GO,(H.add a).set H.next b=H.add b:=λa b=>GH.cV
  rw[show H2.set H.next (GQ m es (seen++[i]))=H3 from vl,fE]at F3
  have dK:(seen++[i]).Nodup:=by
   rw[List.nodup_append];exact⟨s1,by simp,λa ha b hb=>by simp at hb;subst hb;intro q;subst q;exact hi ha⟩
  have Jv:Fa es.length (λj=>decide (j∈seen++[i]))<Fa es.length (λj=>decide (j∈seen)):=by
   have:=qW (n:=es.length) (M:=λj=>decide (j∈seen)) hi' (by simpa using hi)
   have e2:ga (λj=>decide (j∈seen)) i=λj=>decide (j∈seen++[i]):=by
    funext j;simp only[ga];by_cases q:j=i<;>simp[q]
   rw[e2]at this;exact this
  have hall:∀j∈seen++[i],j<es.length:=λj hj=>by
   rcases List.mem_append.1 hj with q|q
   ·exact s2 j q
   ·simp at q;subst q;exact hi'
  have hwk:iG ks (seen++[i])=iG ks seen++[((ks.getD i 0:Nat):Int)]:=by simp[iG]
  have Sj:(iG ks seen).length=seen.length:=by simp[iG]
  obtain⟨kv,hkv⟩:∃kv:Int,((ks.getD i 0:Nat):Int)=kv:=⟨_,rfl⟩;rw[hkv]at hwk|-;simp[vl,oT];refine⟨hv.plain.tO,eO.Kr (ys:=[rI kv]) mB rfl Hi (by simp) (x:=x) (by simp[hv.plain.all]) F3 (by simp[kO,rowsOf,rI]) (by simp) (Fz _) (λr hr=>by simp only[List.mem_singleton]at hr;subst hr;rfl) (by simp;omega) (by simp) λx' H5 h5 _ _=>?_⟩
  simp[h5.plain.all];refine NX.go (seen++[i],x',H5) Jv ⟨dK,hall,?_⟩ (by simp[h5.only])
  rw[hwk,List.map_append];exact h5
 ·simp;have mQ:=zQ (ks:=ks) s1 (by rw[<-hel];exact s2) (by rw[<-hel];exact hend)
  have nu:rp (iG ks seen)=bX ((List.range n).filter M):=by
   have h1:=Dv hkn (n:=n) (M:=M) λk=>⟨λq=>⟨hb k ((hkm k).1 q),(hkm k).1 q⟩,λq=>(hkm k).2 q.2⟩
   rw[<-h1];have qQ:(bX ks).Nodup:=by
    unfold bX;rw[List.Nodup,List.pairwise_map];exact hkn.imp λ{a b} q e=>q (by omega)
   have ac1:(iG ks seen).Nodup:=mQ.symm.nodup qQ;exact iH (lt:=λa b:Int=>a<b) (λa=>by omega) (λ_ _ _ p q=>by omega) (oA _ ac1) (oA _ qQ) λx=>by rw[(eT _).mem_iff,(eT _).mem_iff,mQ.mem_iff]
  obtain⟨W,hW⟩:∃W,iG ks seen=W:=⟨_,rfl⟩;rw[hW]at hv nu mQ;have hWl:W.length<=12:=by rw[mQ.length_eq];simp[bX];omega
  have o2:∀m,m<H.next->H2.obj m=H.obj m:=λm hm=>by rw[hv.ob m (by rw[GH.aq];omega),GH.ax,if_neg (by omega)]
  have n2:=hv.nx;rw[GH.aq]at n2;refine AW.seq cc ?_;simp[hv.plain.all];rcases id hv.is with⟨q1,rfl⟩|⟨n',g,q1,q2,rfl,q4,q5⟩
  ·have hW0:W=[]:=by simpa using q1
   have ad3:bX ((List.range n).filter M)=[]:=by rw[<-nu,hW0];exact List.Perm.eq_nil (eT [])
   have hs0:=Ec H2;refine⟨by simp[LV.nb],EC.of hs0 (λv H3 hR=>?_) (λv H3 hR=>by obtain⟨⟨_,e⟩,_⟩:=hR;cases e)⟩
   obtain⟨_,rfl⟩:=hR;simp;refine AW.ev cc ?_;simp[ad3];exact λ_=>aL (by omega) o2 hw.none
  ·rw[mV]at q4;rw[GH.aq]at q1;have hs:=Jk W.toArray (by simpa using hWl) n' H2 g (by simpa using q4)
   have hsz:W.toArray.size=W.length:=by simp
   rw[hsz]at hs;have hWm:(W.map rI).length=W.length:=by simp
   rw[hWm];refine⟨by simp[LV.nb];omega,EC.of hs (λv H3 hR=>?_) (λv H3 hR=>by obtain⟨⟨_,e⟩,_⟩:=hR;cases e)⟩
   obtain⟨_,hE⟩:=hR;rw[hE];have Pz:(insertionSort Bd W.toArray 0 W.length).toList=bX ((List.range n).filter M):=nu;rw[Pz];simp;obtain⟨F,hF⟩:∃F,bX ((List.range n).filter M)=F:=⟨_,rfl⟩;have PO:F.length=W.length:=by rw[<-hF,<-nu];exact(eT W).length_eq
   rw[hF];refine AW.cM (n:=n') (g:=g) (sz:=1) (e:=3) (ex:=false) (F.map rI) (by rw[GH.aY,mV]) rfl (Fz _) ?_
   refine AW.ev cc ?_;have htf:(F.map rI).take W.length=F.map rI:=List.take_of_length_le (by simp;omega)
   have bq9:W.length<=F.length:=by omega
   simp[bq9,htf];have o3:∀m,m<H.next->(H2.set n' (.vec 3 g 1 (F.map aH) false)).obj m=H.obj m:=λm hm=>by rw[GH.ay,if_neg (by omega)];exact o2 m hm
   exact λhz=>aL (by simp only[GH.aM];omega) (λm hm=>kH hw (by omega) o3 hm) hw.none
end Go.Aft
end
