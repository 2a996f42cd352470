import Derived.Test.YthinedikejlgmaaGreatA26
set_option linter.all false
section
set_option maxRecDepth 20000
namespace Go.Aft
open Go.Proofs.Tryz
theorem AW.Tj{P:Program}{rd:RD}{x:Code}{s:S}{Q:QT}(h:gD s.H->@AW P rd ⟨x⟩ s Q):@AW P rd ⟨x⟩ s Q:=λE a w hs=>h hs.gD E a w hs
def vG(N:Nat)(x:LV)(rows:List (List DV))(G:GH):Prop:=cm 86 4 ⟨G.obj,N⟩ x rows G
theorem vG.set{N:Nat}{x:LV}{rows:List (List DV)}{G:GH}(h:vG N x rows G){k:Nat}(hk:k<N)(o:GO):vG N x rows (G.set k o):=by
 refine⟨?_,h.nx,λm hm=>rfl⟩
 rcases h.is with q|⟨n,q1,q2,q3,q4⟩
 ·exact .inl q
 ·simp only at q1;exact .inr ⟨n,q1,q2,q3,by rw[GH.ay,if_neg (by omega)];exact q4⟩
theorem vG.nil{N:Nat}{G:GH}(h:N<=G.next):vG N (.d (.k (.slice none 0 0))) [] G:=⟨.inl ⟨rfl,rfl⟩,h,λ_ _=>rfl⟩
theorem vG.of{N:Nat}{B:GH}(hB:B.next=N){x:LV}{rows:List (List DV)}{G:GH}(h:cm 86 4 B x rows G):vG N x rows G:=by
 refine⟨?_,hB▸h.nx,λm hm=>rfl⟩
 rcases h.is with q|⟨n,q1,q2,q3,q4⟩
 ·exact .inl q
 ·exact .inr ⟨n,by simp only;omega,q2,q3,q4⟩
theorem kG{α β:Type}{f:α->List β}{B:Nat}(h:∀a,(f a).length<=B):∀l:List α,(l.flatMap f).length<=l.length*B
 |[]=>by simp
 |a::l=>by
  have:=kG h l;have:=h a;rw[List.flatMap_cons,List.length_append,List.length_cons,Nat.succ_mul];omega
theorem ue:∀l:List Item,(aZ l).length<=l.length
 |[]=>by simp[aZ]
 |x::l=>by
  have:=ue l;have:=List.length_filter_le (λk=>decide (k≠x.aa.key)) (aZ l)
  rw[aZ,List.length_cons,List.length_cons];omega
theorem ki{f more key:Int}{sp:Int->Option (Int×Int)}{row:List Item}:∀(l:List Item) (last:Int),(ec f more key sp row l last).length<=l.length
 |[],_=>by simp[ec]
 |x::l,last=>by
  rw[ec]
  split
  ·have:=ki (f:=f) (more:=more) (key:=key) (sp:=sp) (row:=row) l last;rw[List.length_cons];omega
  ·rename_i low high _
   split
   ·have:=ki (f:=f) (more:=more) (key:=key) (sp:=sp) (row:=row) l last;rw[List.length_cons];omega
   ·have:=ki (f:=f) (more:=more) (key:=key) (sp:=sp) (row:=row) l high;rw[List.length_cons,List.length_cons];omega
def fe(b:List Item)(seen:List Nat):List Int:=seen.map λi=>(aZ b).getD i 0
theorem xN{b:List Item}{seen:List Nat}(hn:seen.Nodup)(hb:∀i∈seen,i<(aZ b).length)(ha:∀i,i<(aZ b).length->i∈seen):(fe b seen).Perm (aZ b):=by
 have h1:seen.Perm (List.range (aZ b).length):=by
  rw[List.perm_ext_iff_of_nodup hn List.nodup_range];exact λi=>⟨λq=>List.mem_range.2 (hb i q),λq=>ha i (List.mem_range.1 q)⟩
 have h2:(List.range (aZ b).length).map (λi=>(aZ b).getD i 0)=aZ b:=by
  refine List.ext_getElem (by simp) λi h1 h2=>?_
  simp only[List.length_map,List.length_range]at h1;simp[List.getD,List.getElem?_eq_getElem h1]
 have:=h1.map λi=>(aZ b).getD i 0
 rw[h2]at this;exact this
def nJ(f more:Int)(sp:List Item->Int->Option (Int×Int))(b:List Item)(seen:List Nat):List Item:=(fe b seen).flatMap (sk f more sp b)
theorem Kw(f more:Int)(sp:List Item->Int->Option (Int×Int))(b:List Item)(hb:b.length<=300){seen:List Nat}(hn:seen.Nodup)(hs:∀i∈seen,i<(aZ b).length):(nJ f more sp b seen).length<=90000:=by
 have h1:=kG (f:=sk f more sp b) (B:=300) (λk=>Nat.le_trans (ki _ _) (Nat.le_trans (List.length_filter_le _ _) hb)) (fe b seen)
 have h2:=fH _ _ hn hs;have h3:=ue b;have h4:(fe b seen).length=seen.length:=by simp[fe]
 have h5:seen.length*300<=300*300:=Nat.mul_le_mul_right _ (by omega)
 unfold nJ;omega
theorem pp{k:Int}{b:List Item}{x:Item}(h:x∈rowOf k b):x∈b/\x.aa.key=k:=by simpa[rowOf]using h
theorem pI(e:bw)(b:List Item)(F:FuncId)(cap:List LV)(hcap:∀m,ct m cap)(sp:List Item->Int->Option (Int×Int))(more:Int)(hlen:b.length<=300)(hit:∀x∈b,Co x)
  (hsp:∀k,∀x∈rowOf k b,aC prog F ([sl ((rowOf k b).map ak),aH x.aa.at_]++cap) (PI (sp (rowOf k b) x.aa.at_)))
  (hbd:∀k,∀x∈rowOf k b,∀lo hi,sp (rowOf k b) x.aa.at_=some (lo,hi)->0<=hi/\hi<=1000) (MZ:0<=more/\more<=1000) (H:GH):
  aF prog 228 [lv (aQ e),sl (b.map ak),.fn (.func F) [] cap,aH more] H λce H'=>(∃l':List Item,l'.Perm (fS e.fold more sp b)/\ce=.ret (sl (l'.map ak)))/\H'=H:=by
 have cc:=fZ (r:=none) (f:=228) (p:=aY [4,6,7] [9] []);have ccR:∀l,(wS (some l) 228 (aY [4,6,7] [9] [])).ok prog:=λl=>fZ
 refine aF.dV (fZ (r:=none) (f:=228) (p:=aY [4,6,7] [9] [])) func228 rfl call228 (by rw[ntmps228];simp) rfl λhf hw=>?_
 have OG:=Av b (by omega) (H.add (.box [.d (.k (.slice none 0 0))]))
 simp at OG;have wD:dQ [] cap:=cQ _ (hcap 0);simp[ntmps228,results228]at hf|-;refine AW.seq cc ?_;simp;refine AW.seq cc ?_;simp;refine AW.seq cc ?_;simp;refine EC.of OG (λv H2 hR=>?_) (λv H2 hR=>by cases hR.1)
 obtain⟨q,n2,o2,b2,m2⟩:=hR;cases q;rw[GH.aq]at n2 b2 m2 o2;have oo:H2.obj H.next=some (.box [.d (.k (.slice none 0 0))]):=by rw[o2 _ (by omega),GH.au,if_pos rfl]
 have ol:∀m,m<H.next->H2.obj m=H.obj m:=λm hm=>by rw[o2 m (by omega),GH.au,if_neg (by omega)]
 clear o2
 simp;refine AW.Tj (λqh=>?_)
 simp only at qh;refine eV.rangeFunc rfl rfl (f:=279) (first:=[]) (cap:=[.gp (H.next+1+1) 0]) (by simp[GH.aq]) (by simp)
  [(4,oC e),(6,.ip [.fn (.func F) [] cap] 0),(7,.ip [aH more] 0),(9,.gp H.next 0)] (by simp[mS,oC,GH.aq]) (by simp[mS,LV.nb,ct,oC,hcap];omega) (by simp[ct,LV.nb];omega) ?_
 simp only[LS.Cd,List.nil_append,List.singleton_append];generalize hx:LP.mk _ _ _ _ _ _ _=x;have IA:x.f=228:=by rw[<-hx]
 have Fa:x.d=H2.next:=by rw[<-hx]
 obtain⟨D,hD⟩:∃D,H2.next=D:=⟨_,rfl⟩;have wJ:((H2.add .qm).add (x.go .ready none)).next=D+2:=by rw[GH.aq,GH.aq,hD]
 obtain⟨J,hJ⟩:∃J:List Nat->GO->GH->Prop,J=λseen X G=>seen.Nodup/\(∀i∈seen,i<(aZ b).length)/\G.obj (D+1)=some (x.go .ready none)/\G.obj D=some .qm/\G.obj (D+2)=some X/\(∀m,m<D->m≠H.next->G.obj m=H2.obj m)/\
  ∃y,G.obj H.next=some (.box [y])/\vG (D+3) y ((nJ e.fold more sp b seen).map ak) G:=⟨_,rfl⟩
 have hkw:=xD (n:=D+1) (nb:=H.next+1+1) (m:=H.next+1) (b:=b) (H0:=(H2.add .qm).add (x.go .ready none)) (J:=J) (by rw[GH.au,GH.aq,if_neg (by omega),GH.au,if_neg (by omega)];exact b2)
  (by rw[GH.au,GH.aq,if_neg (by omega),GH.au,if_neg (by omega)];exact m2) ?_ ?_ ?_ ?_
 ·rw[hD];refine hkw.mono λce H3 hR=>?_
  obtain⟨⟨v,hv⟩,seen,X,s1,s2,s3,hj⟩:=hR;subst hv;rw[hJ]at hj;obtain⟨_,_,q1,q2,q3,q4,y,q5,q6⟩:=hj;refine⟨.ready,none,q1,by simp,?_⟩
  simp[xO,Fa];have o31:(H3.set (D+1) (x.go .exhausted none)).obj H.next=some (.box [y]):=by rw[GH.ay,if_neg (by omega)];exact q5
  have hyp:=q6.plain.all;refine AW.ev cc ?_;simp[o31,hyp,q6.fz];have sQ:=q6.nx;simp only at sQ;refine λ_=>⟨by rw[hD,GH.ay,if_neg (by omega)];exact q2,aO (by simp only[GH.aL];omega) (λm hm=>?_) hw.none,nJ e.fold more sp b seen,(xN s1 s2 s3).flatMap_right _,rfl⟩
  simp only[lM,GH.ay];rw[if_neg (by omega),if_neg (by omega),q4 m (by omega) (by omega)]
  exact ol m hm
 ·intro X;rw[hJ];refine⟨by simp,by simp,?_,?_,?_,λm hm hne=>?_,.d (.k (.slice none 0 0)),?_,?_⟩
  ·rw[GH.au,wJ,if_neg (by omega),GH.au,GH.aq,hD,if_pos rfl]
  ·rw[GH.au,wJ,if_neg (by omega),GH.au,GH.aq,hD,if_neg (by omega),GH.au,hD,if_pos rfl]
  ·rw[GH.au,wJ,if_pos rfl]
  ·rw[GH.au,wJ,if_neg (by omega),GH.au,GH.aq,hD,if_neg (by omega),GH.au,hD,if_neg (by omega)]
  ·rw[GH.au,wJ,if_neg (by omega),GH.au,GH.aq,hD,if_neg (by omega),GH.au,hD,if_neg (by omega)];exact oo
  ·exact vG.nil (by rw[GH.aq,wJ];omega)
 ·intro seen X Y G hj;rw[wJ];rw[hJ]at hj|-;obtain⟨s1,s2,q1,q2,q3,q4,y,q5,q6⟩:=hj;exact⟨s1,s2,by rw[GH.ay,if_neg (by omega)];exact q1,by rw[GH.ay,if_neg (by omega)];exact q2,by rw[GH.aX],λm hm hne=>by rw[GH.ay,if_neg (by omega)];exact q4 m hm hne,y,by rw[GH.ay,if_neg (by omega)];exact q5,q6.set (by omega) _⟩
 ·intro seen X G hj;rw[wJ];rw[hJ]at hj;obtain⟨s1,s2,q1,q2,q3,q4,y,q5,q6⟩:=hj;have:=q6.nx;exact⟨this,q3,by rw[q4 _ (by omega) (by omega)];exact m2⟩
 ·intro seen i k X G hk hi hsl sP hj;rw[hJ]at hj;obtain⟨s1,s2,q1,q2,q3,q4,y,q5,q6⟩:=hj;refine dX.ofN (c:=λl=>wS (some l) 228 (aY [4,6,7] [9] [])) ccR (λl=>by simp[IA]) q1 ⟨_,by rw[IA];exact func228⟩ (by rw[<-hx];rfl) (by rw[<-hx];simp) λhz l=>?_
  have xa:=(congrArg LP.lu hx).symm;have xb:=(congrArg LP.body hx).symm;have xe:=(congrArg LP.env hx).symm;have xp:=(congrArg LP.ps hx).symm;have xn:=(congrArg LP.nt hx).symm;dsimp only at xa xb xe xp xn;rw[xa,xb,xe,xp,xn]
  clear xa xb xe xp xn hx
  obtain⟨row,hrow⟩:∃row,rowOf k b=row:=⟨_,rfl⟩;have hrl:row.length<=300:=by rw[<-hrow];exact Nat.le_trans (List.length_filter_le _ _) hlen
  have hspk:=hsp k;have hbdk:=hbd k;rw[hrow]at hspk hbdk|-;simp[mr];refine⟨q1,?_⟩;generalize jP:x.go .busy none=ob;obtain⟨G3,Ka⟩:∃G3,G.set (D+1) ob=G3:=⟨_,rfl⟩;have c3:∀m,m≠D+1->G3.obj m=G.obj m:=λm hm=>by rw[<-Ka,GH.ay,if_neg (by omega)]
  have oy:G3.obj (D+1)=some ob:=by rw[<-Ka,GH.aX]
  have n3:G3.next=G.next:=by rw[<-Ka];rfl
  rw[Ka];have q63:vG (D+3) y ((nJ e.fold more sp b seen).map ak) G3:=by rw[<-Ka];exact q6.set (by omega) _
  have hgx:=q63.nx;simp only at hgx;refine AW.ev (ccR l) ?_;simp;refine AW.aU (ccR l) (λa:Nat×Int×LV×GH=>⟨[(4,oC e),(6,.ip [.fn (.func F) [] cap] 0),(7,.ip [aH more] 0),(9,.gp H.next 0),(10,aH k),(11,sl (row.map ak)),(12,aH a.2.1),(22,sl (row.map ak)),(23,aH row.length),(24,aH a.1)],[],a.2.2.2⟩) (λa=>row.length-a.1)
   (λa=>a.1<=row.length/\G.next<=a.2.2.2.next/\a.2.2.2.obj (D+1)=some ob/\a.2.2.2.obj D=some .qm/\a.2.2.2.obj (D+2)=some X/\(∀m,m<D->m≠H.next->a.2.2.2.obj m=H2.obj m)/\a.2.2.2.obj H.next=some (.box [a.2.2.1])/\
    ∃dn,dn.length<=a.1/\ec e.fold more k (sp row) row row (-1)=dn++ec e.fold more k (sp row) row (row.drop a.1) a.2.1/\vG (D+3) a.2.2.1 ((nJ e.fold more sp b seen++dn).map ak) a.2.2.2)
   (0,-1,y,G3) ⟨⟨Nat.zero_le _,by simp only;omega,oy,by rw[c3 _ (by omega)];exact q2,by rw[c3 _ (by omega)];exact q3,λm hm hne=>by rw[c3 _ (by omega)];exact q4 m hm hne,by rw[c3 _ (by omega)];exact q5,[],by simp,by simp,by simpa using q63⟩,by simp[oC,ai,wD]⟩ ?_
  rintro⟨j,last,y2,G4⟩ ⟨hj,r0,r1,r2,r3,r4,r5,dn,pL,IB,hown⟩;simp only at hj r0 r1 r2 r3 r4 r5 pL IB hown;simp;refine⟨λh=>?_,λh=>?_⟩
  ·obtain⟨z,Tl⟩:∃z,row[j]=z:=⟨_,rfl⟩;have hzm:z∈row:=by rw[<-Tl];exact List.getElem_mem h
   have uG:row.drop j=z::row.drop (j+1):=by rw[<-Tl];exact List.drop_eq_getElem_cons h
   have hzs:=hspk z hzm;have hzb:=hbdk z hzm;simp at hzs;simp[h,List.getElem?_eq_getElem h,Tl,ak];refine⟨hcap _,EC.aJ hzs ?_⟩;rw[uG,ec]at IB;have eU:=aB (n:=9223372036854775807) (show j<9223372036854775807 by omega)
   cases hq:sp row z.aa.at_ with
   |none=>
    rw[hq]at IB;simp[PI];exact NX.go (j+1,last,y2,G4) (by simp only;omega) ⟨h,r0,r1,r2,r3,r4,r5,dn,by simp only;omega,IB,hown⟩ (by simp[eU,oC,ai,wD])
   |some lh=>
    obtain⟨lo,hi'⟩:=lh;rw[hq]at IB hzb;have hzb:=hzb lo hi' rfl;simp only at IB;simp[PI];refine⟨λe1=>?_,λe1=>?_⟩
    ·rw[if_pos e1]at IB;exact NX.go (j+1,last,y2,G4) (by simp only;omega) ⟨h,r0,r1,r2,r3,r4,r5,dn,by simp only;omega,IB,hown⟩ (by simp[eU,oC,ai,wD])
    ·rw[if_neg e1]at IB;have hwi:=nh row lo hi';have hfo:=De e.fold (bM lo hi' row) (Nat.le_trans ((List.takeWhile_sublist _).trans (List.dropWhile_sublist _)).length_le (by omega)) (λx hx=>hit x (pp (k:=k) (by rw[hrow];exact jI hx)).1)
     have w1:IntKind.wrap .i64 (hi'+more)=hi'+more:=by rw[wrap64]<;>omega
     simp at hwi hfo;refine AW.draw (ccR l) [(10,.n),(11,.n)] (.q 1<|.q 4<|.q 5<|.q 7<|.q 8<|.q 9<|.q 10<|.q 0<|.q 2<|.q 3<|.q 6<|.q 11<|.q 12<|.q 13<|.q 14<|.f<|.one 15<|.f<|.one 16<|.done) (by kernel_rfl) ?_
     have hyp:=hown.plain.all;simp[r5,oC,ai,hyp];refine FC.aJ hwi ?_;simp[r5,oC,ai,hyp,w1];refine FC.aJ hfo ?_;simp[hyp];have rz:=Kw e.fold more sp b hlen s1 s2;refine eE.dJ (H0:=⟨G4.obj,D+3⟩) (ys:=[ak ⟨⟨hi'+more,k,foldI e.fold (bM lo hi' row)⟩,1⟩]) eW rfl dO (by simp) (x:=y2) (by simp) hown (by simp[rowsOf,ak]) (by simp) (bl _) (λr hr=>by simp only[List.mem_singleton]at hr;subst hr;rfl) (by simp;omega) (by simp) λx' H5 h5 hn5 _=>?_
     simp only at hn5;have hx5:=h5.nx;simp only at hx5;have o5:H5.obj H.next=some (.box [y2]):=by rw[h5.ob _ (by simp only;omega)];exact r5
     have hlt5:H.next<H5.next:=by omega
     simp[o5,h5.plain.all,h5.nb];have h6:vG (D+3) x' ((nJ e.fold more sp b seen++(dn++[(⟨⟨hi'+more,k,foldI e.fold (bM lo hi' row)⟩,1⟩:Item)])).map ak) (H5.set H.next (.box [x'])):=by
      have h6:vG (D+3) x' _ H5:=vG.of (B:=⟨G4.obj,D+3⟩) rfl h5;have h7:=h6.set (k:=H.next) (by omega) (.box [x'])
      rw[<-List.append_assoc,List.map_append];exact h7
     have hsr2:ec e.fold more k (sp row) row row (-1)=(dn++[⟨⟨hi'+more,k,foldI e.fold (bM lo hi' row)⟩,1⟩])++ec e.fold more k (sp row) row (row.drop (j+1)) hi':=by rw[IB];simp
     have xQ:=λ(m:Nat) (hm:m<D+3) (hne:m≠H.next) (o:Option GO) (hh:G4.obj m=o)=>(show(H5.set H.next (.box [x'])).obj m=o by rw[GH.ay,if_neg hne,h5.ob _ (by simp only;omega)];exact hh)
     have hdl3:(dn++[(⟨⟨hi'+more,k,foldI e.fold (bM lo hi' row)⟩,1⟩:Item)]).length<=j+1:=by rw[List.length_append];simp;omega
     exact NX.go (j+1,hi',x',H5.set H.next (.box [x'])) (by simp only;omega) ⟨h,by simp only[GH.aL];omega,xQ _ (by omega) (by omega) _ r1,xQ _ (by omega) (by omega) _ r2,xQ _ (by omega) (by omega) _ r3,λm hm hne=>xQ m (by omega) hne _ (r4 m hm hne),GH.aX,_,hdl3,hsr2,h6⟩ (by simp[eU,oC,ai,wD])
  ·have e1:j=row.length:=by omega
   subst e1;rw[List.drop_length,ec,List.append_nil]at IB;have sQ:=hown.nx;simp only at sQ;intro hz4;refine⟨⟨.busy,none,by rw[jP];exact r1⟩,G4.set (D+1) (x.go .ready none),?_,?_⟩
   ·exact(hz4.set (by omega) (GO.eX r0 (sP.nb _ _ q1))).drop (by rw[GH.aL];omega)
   ·rw[hJ];have dz:(seen++[i]).Nodup:=by
     rw[List.nodup_append];exact⟨s1,by simp,λa ha b hb=>by simp at hb;subst hb;intro q;subst q;exact hi ha⟩
    have hall:∀j∈seen++[i],j<(aZ b).length:=λj hj=>by
     rcases List.mem_append.1 hj with q|q
     ·exact s2 j q
     ·simp at q;subst q;exact(List.getElem?_eq_some_iff.1 hk).1
    have hsd:nJ e.fold more sp b (seen++[i])=nJ e.fold more sp b seen++dn:=by
     have:(aZ b).getD i 0=k:=by simp[List.getD,hk]
     simp only[nJ,fe,List.map_append,List.map_cons,List.map_nil,List.flatMap_append,List.flatMap_cons,List.flatMap_nil,List.append_nil,this,sk,hrow,IB]
    refine⟨dz,hall,GH.aX,by rw[GH.ay,if_neg (by omega)];exact r2,by rw[GH.ay,if_neg (by omega)];exact r3,λm hm hne=>by rw[GH.ay,if_neg (by omega)];exact r4 m hm hne,y2,by rw[GH.ay,if_neg (by omega)];exact r5,?_⟩
    rw[hsd];exact hown.set (by omega) _
theorem C5{α:Type}{l:List α}(h:l.Nodup){i j:Nat}(hi:i<l.length)(hj:j<l.length)(e:l[i]=l[j]):i=j:=by
 have hp:=List.pairwise_iff_getElem.1 h;rcases Nat.lt_trichotomy i j with q|q|q
 ·exact absurd e (hp i j hi hj q)
 ·exact q
 ·exact absurd e.symm (hp j i hj hi q)
theorem Lt{b:List Item}{seen:List Nat}(hs:∀i∈seen,i<(aZ b).length){i:Nat}{k:Int}(hk:(aZ b)[i]?=some k)(hi:i∉seen):k∉fe b seen:=by
 intro h;obtain⟨j,hj,e⟩:=List.mem_map.1 h;have hjl:=hs j hj;have Dt:=(List.getElem?_eq_some_iff.1 hk).1;have hik:=(List.getElem?_eq_some_iff.1 hk).2;simp only[List.getD,List.getElem?_eq_getElem hjl,Option.getD_some]at e;have:=C5 (jd b) hjl Dt (e.trans hik.symm);exact hi (this▸hj)
theorem E3{b:List Item}{seen:List Nat}(hn:seen.Nodup)(hs:∀i∈seen,i<(aZ b).length):(fe b seen).Nodup:=by
 unfold fe;rw[List.Nodup,List.pairwise_map];refine List.Pairwise.imp_of_mem (λ{i j} hi hj hne e=>?_) hn
 simp only[List.getD,List.getElem?_eq_getElem (hs i hi),List.getElem?_eq_getElem (hs j hj),Option.getD_some]at e;exact hne (C5 (jd b) (hs i hi) (hs j hj) e)
theorem hmnb(N:Nat){b:List Item}(ks:List Int):(GO.map (kX ks (nX b))).nb N:=by
 unfold GO.nb
 induction ks with
 |nil=>simp[kX,ct]
 |cons k ks ih=>exact⟨trivial,ih⟩
theorem ri(b:List Item)(hlen:b.length<=300)(H:GH):
  aF prog 234 [sl (b.map ak)] H λce H'=>∃m ks,ce=.ret (.gm m)/\H.next<=m/\m<H'.next/\H'.obj m=some (.map (kX ks (nX b)))/\ks.Perm (aZ b)/\(∀i,i<H.next->H'.obj i=H.obj i):=by
 have cc:=fZ (r:=none) (f:=234) (p:=aY [] [3] []);have ccR:∀l,(wS (some l) 234 (aY [] [3] [])).ok prog:=λl=>fZ
 refine aF.dV (fZ (r:=none) (f:=234) (p:=aY [] [3] [])) func234 rfl call234 (by rw[ntmps234];simp) rfl λhf hw=>?_
 simp[ntmps234,results234]at hf|-;refine AW.seq cc ?_;simp;refine AW.seq cc ?_;simp[GH.au,GH.aq];refine⟨by omega,?_⟩
 obtain⟨H1,wI⟩:∃H1,((H.add (GO.map [])).add (GO.box [LV.d (DV.k (Value.map none))])).set (H.next+1) (GO.box [LV.gm H.next])=H1:=⟨_,rfl⟩;have n1:H1.next=H.next+2:=by rw[<-wI];rfl
 have b1:H1.obj (H.next+1)=some (.box [.gm H.next]):=by rw[<-wI,GH.aX]
 have m1:H1.obj H.next=some (.map []):=by rw[<-wI,GH.ay,if_neg (by omega),GH.au,if_neg (by rw[GH.aq];omega),GH.au,if_pos rfl]
 have o1:∀m,m<H.next->H1.obj m=H.obj m:=λm hm=>by rw[<-wI,GH.ay,if_neg (by omega),GH.au,if_neg (by rw[GH.aq];omega),GH.au,if_neg (by omega)]
 rw[wI]
 clear wI
 have OG:=Av b (by omega) H1
 simp at OG;refine AW.seq cc ?_;simp;refine EC.of OG (λv H2 hR=>?_) (λv H2 hR=>by cases hR.1)
 obtain⟨q,n2,o2,b2,m2⟩:=hR;cases q;rw[n1]at n2 b2 m2 o2;have b12:H2.obj (H.next+1)=some (.box [.gm H.next]):=by rw[o2 _ (by omega)];exact b1
 have m12:H2.obj H.next=some (.map []):=by rw[o2 _ (by omega)];exact m1
 have ol:∀m,m<H.next->H2.obj m=H.obj m:=λm hm=>by rw[o2 m (by omega)];exact o1 m hm
 clear o2
 simp[n1];refine AW.Tj (λqh=>?_)
 simp only at qh;refine eV.rangeFunc rfl rfl (f:=279) (first:=[]) (cap:=[.gp (H.next+2+1) 0]) (by simp[GH.aq]) (by simp)
  [(3,.gp (H.next+1) 0)] (by simp[mS]) (by simp[mS,LV.nb,ct];omega) (by simp[ct,LV.nb];omega) ?_
 simp only[LS.Cd,List.nil_append,List.singleton_append];generalize hx:LP.mk _ _ _ _ _ _ _=x;have IA:x.f=234:=by rw[<-hx]
 have Fa:x.d=H2.next:=by rw[<-hx]
 obtain⟨D,hD⟩:∃D,H2.next=D:=⟨_,rfl⟩;have wJ:((H2.add .qm).add (x.go .ready none)).next=D+2:=by rw[GH.aq,GH.aq,hD]
 obtain⟨J,hJ⟩:∃J:List Nat->GO->GH->Prop,J=λseen X G=>seen.Nodup/\(∀i∈seen,i<(aZ b).length)/\D+3<=G.next/\G.obj (D+1)=some (x.go .ready none)/\G.obj D=some .qm/\G.obj (D+2)=some X/\(∀m,m<D->m≠H.next->G.obj m=H2.obj m)/\
  G.obj H.next=some (.map (kX (fe b seen) (nX b))):=⟨_,rfl⟩
 have hkw:=xD (n:=D+1) (nb:=H.next+2+1) (m:=H.next+2) (b:=b) (H0:=(H2.add .qm).add (x.go .ready none)) (J:=J) (by rw[GH.au,GH.aq,if_neg (by omega),GH.au,if_neg (by omega)];exact b2)
  (by rw[GH.au,GH.aq,if_neg (by omega),GH.au,if_neg (by omega)];exact m2) ?_ ?_ ?_ ?_
 ·rw[hD];refine hkw.mono λce H3 hR=>?_
  obtain⟨⟨v,hv⟩,seen,X,s1,s2,s3,hj⟩:=hR;subst hv;rw[hJ]at hj;obtain⟨_,_,q0,q1,q2,q3,q4,q5⟩:=hj;refine⟨.ready,none,q1,by simp,?_⟩
  simp[xO,Fa];have o31:(H3.set (D+1) (x.go .exhausted none)).obj (H.next+1)=some (.box [.gm H.next]):=by rw[GH.ay,if_neg (by omega),q4 _ (by omega) (by omega)];exact b12
  refine AW.ev cc ?_;simp[o31];refine λ_=>⟨by rw[hD,GH.ay,if_neg (by omega)];exact q2,H.add (.map (kX (fe b seen) (nX b))),B1 (by simp only[GH.aL,GH.aq];omega) (λm hm=>?_) (hw.add (hmnb _ _)) (by rw[GH.aq];omega),by rw[GH.aq];omega,fe b seen,by rw[GH.au,if_pos rfl],xN s1 s2 s3,λi hi=>by rw[GH.au,if_neg (by omega)]⟩
  rw[GH.aq]at hm;simp only[lM,GH.ay,GH.au];rw[if_neg (show¬m=H2.next by omega),if_neg (show¬m=D+1 by omega)]
  by_cases e:m=H.next
  ·rw[if_pos e,e];exact q5.symm
  ·rw[if_neg e,q4 m (by omega) e,ol m (by omega)]
 ·intro X;rw[hJ];refine⟨by simp,by simp,?_,?_,?_,?_,λm hm hne=>?_,?_⟩
  ·rw[GH.aq,wJ];omega
  ·rw[GH.au,wJ,if_neg (by omega),GH.au,GH.aq,hD,if_pos rfl]
  ·rw[GH.au,wJ,if_neg (by omega),GH.au,GH.aq,hD,if_neg (by omega),GH.au,hD,if_pos rfl]
  ·rw[GH.au,wJ,if_pos rfl]
  ·rw[GH.au,wJ,if_neg (by omega),GH.au,GH.aq,hD,if_neg (by omega),GH.au,hD,if_neg (by omega)]
  ·rw[GH.au,wJ,if_neg (by omega),GH.au,GH.aq,hD,if_neg (by omega),GH.au,hD,if_neg (by omega)];exact m12
 ·intro seen X Y G hj;rw[wJ];rw[hJ]at hj|-;obtain⟨s1,s2,q0,q1,q2,q3,q4,q5⟩:=hj;exact⟨s1,s2,q0,by rw[GH.ay,if_neg (by omega)];exact q1,by rw[GH.ay,if_neg (by omega)];exact q2,by rw[GH.aX],λm hm hne=>by rw[GH.ay,if_neg (by omega)];exact q4 m hm hne,by rw[GH.ay,if_neg (by omega)];exact q5⟩
 ·intro seen X G hj;rw[wJ];rw[hJ]at hj;obtain⟨s1,s2,q0,q1,q2,q3,q4,q5⟩:=hj;exact⟨q0,q3,by rw[q4 _ (by omega) (by omega)];exact m2⟩
 ·intro seen i k X G hk hi hsl sP hj;rw[hJ]at hj;obtain⟨s1,s2,q0,q1,q2,q3,q4,q5⟩:=hj;refine dX.ofN (c:=λl=>wS (some l) 234 (aY [] [3] [])) ccR (λl=>by simp[IA]) q1 ⟨_,by rw[IA];exact func234⟩ (by rw[<-hx];rfl) (by rw[<-hx];simp) λhz l=>?_
  have xa:=(congrArg LP.lu hx).symm;have xb:=(congrArg LP.body hx).symm;have xe:=(congrArg LP.env hx).symm;have xp:=(congrArg LP.ps hx).symm;have xn:=(congrArg LP.nt hx).symm;dsimp only at xa xb xe xp xn;rw[xa,xb,xe,xp,xn]
  clear xa xb xe xp xn hx
  simp[mr];refine⟨q1,?_⟩;generalize jP:x.go .busy none=ob;obtain⟨G3,Ka⟩:∃G3,G.set (D+1) ob=G3:=⟨_,rfl⟩;have c3:∀m,m≠D+1->G3.obj m=G.obj m:=λm hm=>by rw[<-Ka,GH.ay,if_neg (by omega)]
  have oy:G3.obj (D+1)=some ob:=by rw[<-Ka,GH.aX]
  have n3:G3.next=G.next:=by rw[<-Ka];rfl
  have b13:G3.obj (H.next+1)=some (.box [.gm H.next]):=by rw[c3 _ (by omega),q4 _ (by omega) (by omega)];exact b12
  have m13:G3.obj H.next=some (.map (kX (fe b seen) (nX b))):=by rw[c3 _ (by omega)];exact q5
  have hkey:=eq_true (iE (fe b seen) (nX b));have hput:=qZ k (nX b k) (nX b) (fe b seen) (E3 s1 s2);have hin:=Lt s2 hk hi;have dz:(seen++[i]).Nodup:=by
   rw[List.nodup_append];exact⟨s1,by simp,λa ha b hb=>by simp at hb;subst hb;intro q;subst q;exact hi ha⟩
  have hall:∀j∈seen++[i],j<(aZ b).length:=λj hj=>by
   rcases List.mem_append.1 hj with q|q
   ·exact s2 j q
   ·simp at q;subst q;exact(List.getElem?_eq_some_iff.1 hk).1
  have hka:fe b (seen++[i])=fe b seen++[k]:=by simp[fe,List.getD,hk]
  rw[if_neg hin]at hput;have ID:cg (.int .i64 k) (.d (.sl ((rowOf k b).map ak))) (kX (fe b seen) (nX b))=kX (fe b (seen++[i])) (nX b):=by
   rw[hka];refine hput.trans (lR λj hj=>?_)
   by_cases e:j=k
   ·rw[if_pos e,e]
   ·rw[if_neg e]
  rw[Ka];refine AW.ev (ccR l) ?_;simp[b13,m13,hkey,ID];intro hz4;refine⟨⟨.busy,none,by rw[GH.ay,if_neg (by omega),jP];exact oy⟩,(G3.set H.next (.map (kX (fe b (seen++[i])) (nX b)))).set (D+1) (x.go .ready none),?_,?_⟩
  ·exact(hz4.set (by rw[GH.aL];omega) (GO.eX (by rw[GH.aL];omega) (sP.nb _ _ q1))).drop (by rw[GH.aL,GH.aL];omega)
  ·rw[hJ];exact⟨dz,hall,by rw[GH.aL,GH.aL];omega,GH.aX,by rw[GH.ay,if_neg (by omega),GH.ay,if_neg (by omega),c3 _ (by omega)];exact q2,by rw[GH.ay,if_neg (by omega),GH.ay,if_neg (by omega),c3 _ (by omega)];exact q3,
    λm hm hne=>by rw[GH.ay,if_neg (by omega),GH.ay,if_neg hne,c3 _ (by omega)];exact q4 m hm hne,by rw[GH.ay,if_neg (by omega),GH.aX]⟩
structure Tc(es:List (Value×LV))(names:List ca)(f:Nat->LV):Prop where
 key:∀(a:Value) (b:LV),(a,b)∈es->(KK.sc Sc.str).has a=true
 get:∀name,0<=idx names name->bz (.string name) es=some (f (idx names name).toNat)
def bY(b:cr):LV:=sl (b.map ak)
structure Wld(H:GH)(n ms mn mv ma:Nat)(p:Prog)(W:b9):Prop where
 ob:H.obj n=some (.box [sl (p.az.map rS),sl (p.aj.map ez),.gm ms,.gm mn,.vs mv 0 1 0 W.aj.length,.gm ma])
 os:∃es,H.obj ms=some (.map es)/\Tc es p.az λi=>bY (W.az.getD i [])
 on:∃es,H.obj mn=some (.map es)/\Tc es (an p) λi=>aH i
 ov:H.obj mv=some (.vec 30 0 1 (W.aj.map bY) true)
 dl:W.aj.length=p.aj.length
abbrev ei(ks:List cr):LV:=sl (ks.map bX)
theorem cC{H:GH}(hz:gD H):Drop H H H:=aO (Nat.le_refl _) (λ_ _=>rfl) hz.none
theorem Ej{H:GH}{n ms mn mv ma:Nat}{p:Prog}{W:b9}(hW:Wld H n ms mn mv ma p W)(e:bw)(ks:List cr)(he:0<=idx p.az e.name):
  aF prog 185 [.gp n 0,lv (aQ e),ei ks] H λce H'=>ce=.ret (bY (W.az.getD (idx p.az e.name).toNat []))/\H'=H:=by
 have cc:=ar (p:=aY [4] [] []);obtain⟨ob,⟨es,os,tC⟩,on,ov,dl⟩:=hW;refine aF.bD (ar (p:=aY [4] [] [])) func185 rfl call185 (by rw[ntmps185];simp) rfl λhf hw=>?_
 simp[ntmps185,results185,ai];refine AW.draw cc [] (.q 0<|.q 1<|.q 2<|.q 4<|.q 3<|.q 5<|.q 6<|.q 7<|.done) (by kernel_rfl) ?_
 have hkey:=eq_true tC.key;have dD:=tC.get e.name he;simp[ob,os,ai,hkey,dD,bY];exact λhz=>cC hz
theorem NO{H:GH}{n ms mn mv ma:Nat}{p:Prog}{W:b9}(hW:Wld H n ms mn mv ma p W)(e:bw)(ks:List cr)(he:0<=idx (an p) e.name):
  aF prog 186 [.gp n 0,lv (aQ e),ei ks] H λce H'=>ce=.ret (bY (W.aj.getD (idx (an p) e.name).toNat []))/\H'=H:=by
 have cc:=ar (p:=aY [4] [] []);obtain⟨ob,os,⟨es,on,tC⟩,ov,dl⟩:=hW;refine aF.bD (ar (p:=aY [4] [] [])) func186 rfl call186 (by rw[ntmps186];simp) rfl λhf hw=>?_
 simp[ntmps186,results186,ai];refine AW.draw cc [] (.q 0<|.q 1<|.q 2<|.q 4<|.q 5<|.q 6<|.q 8<|.q 3<|.q 7<|.q 9<|.q 10<|.q 11<|.q 12<|.q 13<|.done) (by kernel_rfl) ?_
 have hkey:=eq_true tC.key;have dD:=tC.get e.name he;have hlt:(idx (an p) e.name).toNat<W.aj.length:=by
  have:=nM (an p) e.name;have h2:(an p).length=p.aj.length:=by simp[an]
  omega
 have LG:max (idx (an p) e.name) 0=idx (an p) e.name:=by omega
 have iT:idx (an p) e.name<W.aj.length:=by omega
 simp[ob,on,ov,ai,hkey,dD,bY,LG,hlt,iT,he];exact λhz=>cC hz
def mU(x:Item):Prop:=(0<=x.aa.at_/\x.aa.at_<=200)/\cq x.aa.key/\cq x.aa.val/\(1<=x.n/\x.n<=1000000)
def bI(b:cr):Prop:=oZ b/\b.length<=300/\∀x∈b,mU x
theorem Ke{H:GH}{n ms mn mv ma:Nat}{p:Prog}{W:b9}(hW:Wld H n ms mn mv ma p W)(e:bw)(ks:List cr)(he:0<=idx (an p) e.name)(hn:-50<=e.n/\e.n<=50)(hb:∀b∈W.aj,bI b):
  aF prog 187 [.gp n 0,lv (aQ e),ei ks] H λce H'=>ce=.ret (bY (dU e.n (W.aj.getD (idx (an p) e.name).toNat [])))/\H'=H:=by
 have cc:=ar (p:=aY [4] [] []);obtain⟨ob,os,⟨es,on,tC⟩,ov,dl⟩:=hW;refine aF.bD (ar (p:=aY [4] [] [])) func187 rfl call187 (by rw[ntmps187];simp) rfl λhf hw=>?_
 simp[ntmps187,results187,ai];refine AW.draw cc [(15,.n)] (.q 0<|.q 1<|.q 2<|.q 4<|.q 5<|.q 6<|.q 8<|.q 13<|.q 3<|.q 7<|.q 9<|.q 10<|.q 11<|.q 12<|.q 14<|.q 15<|.q 16<|.done) (by kernel_rfl) ?_
 have hkey:=eq_true tC.key;have dD:=tC.get e.name he;have hlt:(idx (an p) e.name).toNat<W.aj.length:=by
  have:=nM (an p) e.name;have h2:(an p).length=p.aj.length:=by simp[an]
  omega
 have LG:max (idx (an p) e.name) 0=idx (an p) e.name:=by omega
 have iT:idx (an p) e.name<W.aj.length:=by omega
 obtain⟨b,hbe⟩:∃b,W.aj[(idx (an p) e.name).toNat]=b:=⟨_,rfl⟩;have Tt:bI b:=hb b (hbe▸List.getElem_mem hlt);have hl:=As b e.n (by have:=Tt.2.1;omega) (λx hx=>by have:=(Tt.2.2 x hx).1;omega)
 simp at hl;simp[ob,on,ov,ai,hkey,dD,bY,LG,hlt,iT,he,hbe];refine FC.aJ hl ?_;simp;exact λhz=>⟨cC hz,by simp[bY,List.getElem?_eq_getElem hlt,hbe]⟩
theorem F3(n:Nat)(e:bw)(a:cr)(ha:bI a)(hn:-50<=e.n/\e.n<=50):aC prog 191 [.gp n 0,lv (aQ e),ei [a]] (bY (dU e.n a)):=by
 refine aC.body (ar (p:=aY [4] [] [])) func191 rfl call191 (by rw[ntmps191];simp) rfl λhf H=>?_
 have cc:=ar (p:=aY [4] [] []);have hl:=As a e.n (by have:=ha.2.1;omega) (λx hx=>by have:=(ha.2.2 x hx).1;omega)
 simp at hl;simp[ntmps191,results191,ai];refine AW.draw cc [(5,.n)] (.q 0<|.q 1<|.q 3<|.q 2<|.q 4<|.q 5<|.q 6<|.done) (by kernel_rfl) ?_
 simp[ai,bX];refine FC.aJ hl ?_;simp[bY]
theorem Kg(n:Nat)(e:bw)(a:cr)(ha:bI a)(H:GH):aF prog 199 [.gp n 0,lv (aQ e),ei [a]] H λce H'=>ce=.ret (bY (xw a))/\H'=H:=by
 have hl:=pJ (λx=>⟨x.aa,1⟩) a (by have:=ha.2.1;omega) 235 [] H (by simp[ct]) (λx hx=>(Lk x).keeps H)
 refine aF.bD (ar (p:=aY [4] [] [])) func199 rfl call199 (by rw[ntmps199];simp) rfl λhf hw=>?_
 simp at hl;simp[ntmps199,results199,ai,bX];refine EC.of hl (λv H2 hR=>?_) (λv H2 hR=>by cases hR.1)
 obtain⟨q,rfl⟩:=hR;cases q;simp[bY,xw];exact λhz=>cC hz
theorem qL{k:Int}{a:cr}(ha:bI a){x:Item}(hx:x∈rowOf k a):mU x:=ha.2.2 x (pp hx).1
theorem sE{a:List Item}(h:oZ a):nS a:=by
 refine List.Pairwise.imp (λ{x y} q=>?_) h
 simp only[cM,decide_eq_true_eq]at q;omega
theorem Ql{k:Int}{a:cr}(ha:bI a):nS (rowOf k a):=(sE ha.1).filter _
theorem vA{a:cr}(ha:bI a):∀x∈a,Co x:=λx hx=>by
 obtain⟨_,_,h3,h4⟩:=ha.2.2 x hx;exact⟨by omega,h3⟩
theorem R1{n:Int}(hn:1<=n/\n<=50){l:List Item}{t lo hi:Int}(ht:0<=t/\t<=200)(h:rC n l t=some (lo,hi)):0<=hi/\hi<=1000:=by
 simp only[rC,Option.some.injEq,Prod.mk.injEq]at h;have h1:=Int.tmod_add_mul_tdiv t n;have h2:0<=t.tmod n:=Int.tmod_nonneg _ ht.1;have h3:0<=t.tdiv n:=Int.tdiv_nonneg ht.1 (by omega)
 have h4:0<=t.tdiv n*n:=Int.mul_nonneg h3 (by omega)
 rw[Int.mul_comm]at h1;omega
theorem Lw(e:bw):∀m,ct m [oC e]:=λm=>by simp[ct,LV.nb,oC,ai]
abbrev BR(l:List Item)(H:GH)(ce:CE)(H':GH):Prop:=(∃l':List Item,l'.Perm l/\ce=.ret (bY l'))/\H'=H
theorem F4(n:Nat)(e:bw)(a:cr)(ha:bI a)(hn:1<=e.n/\e.n<=50)(H:GH):aF prog 192 [.gp n 0,lv (aQ e),ei [a]] H (BR (fS e.fold 0 (rC e.n) a) H):=by
 have cc:=ar (p:=aY [4] [] []);have hs:=pI e a 229 [oC e] (Lw e) (rC e.n) 0 ha.2.1 (vA ha) (λk x hx=>HZ e _ _ hn (qL ha hx).1) (λk x hx lo hi=>R1 hn (qL ha hx).1) (by omega) H
 refine aF.bD (ar (p:=aY [4] [] [])) func192 rfl call192 (by rw[ntmps192];simp) rfl λhf hw=>?_
 simp[oC,ai]at hs;simp[ntmps192,results192,ai];refine AW.draw cc [] (.q 1<|.q 2<|.q 4<|.q 0<|.q 3<|.f<|.one 5<|.q 6<|.done) (by kernel_rfl) ?_
 simp[ai,bX];refine ya.of hs (λv H2 hR _=>?_) (λx H2 env hR _=>by obtain⟨⟨_,_,q⟩,_⟩:=hR;cases q)
 obtain⟨⟨l',hp,q⟩,rfl⟩:=hR;cases q;simp[bY];exact λhz=>⟨cC hz,l',hp,rfl⟩
theorem F2(n:Nat)(e:bw)(a:cr)(ha:bI a)(hn:0<=e.n/\e.n<=50)(H:GH):aF prog 193 [.gp n 0,lv (aQ e),ei [a]] H (BR (fS e.fold 0 (pg e.n) a) H):=by
 have cc:=ar (p:=aY [4] [] []);have hs:=pI e a 230 [oC e] (Lw e) (pg e.n) 0 ha.2.1 (vA ha) (λk x hx=>HX e _ _ hn (qL ha hx).1) (λk x hx lo hi h=>by have:=(qL ha hx).1;simp only[pg,Option.some.injEq,Prod.mk.injEq]at h;omega) (by omega) H
 refine aF.bD (ar (p:=aY [4] [] [])) func193 rfl call193 (by rw[ntmps193];simp) rfl λhf hw=>?_
 simp[oC,ai]at hs;simp[ntmps193,results193,ai];refine AW.draw cc [] (.q 1<|.q 2<|.q 4<|.q 0<|.q 3<|.f<|.one 5<|.q 6<|.done) (by kernel_rfl) ?_
 simp[ai,bX];refine ya.of hs (λv H2 hR _=>?_) (λx H2 env hR _=>by obtain⟨⟨_,_,q⟩,_⟩:=hR;cases q)
 obtain⟨⟨l',hp,q⟩,rfl⟩:=hR;cases q;simp[bY];exact λhz=>⟨cC hz,l',hp,rfl⟩
theorem F1(n:Nat)(e:bw)(a:cr)(ha:bI a)(H:GH):aF prog 194 [.gp n 0,lv (aQ e),ei [a]] H (BR (fS e.fold 0 tM a) H):=by
 have cc:=ar (p:=aY [4] [] []);have hs:=pI e a 231 [] (by simp[ct]) tM 0 ha.2.1 (vA ha) (λk x hx=>HW _ _) (λk x hx lo hi h=>by have:=(qL ha hx).1;simp only[tM,Option.some.injEq,Prod.mk.injEq]at h;omega) (by omega) H
 refine aF.bD (ar (p:=aY [4] [] [])) func194 rfl call194 (by rw[ntmps194];simp) rfl λhf hw=>?_
 simp[oC,ai]at hs;simp[ntmps194,results194,ai];refine AW.draw cc [] (.q 1<|.q 2<|.q 0<|.q 3<|.f<|.one 4<|.q 5<|.done) (by kernel_rfl) ?_
 simp[ai,bX];refine ya.of hs (λv H2 hR _=>?_) (λx H2 env hR _=>by obtain⟨⟨_,_,q⟩,_⟩:=hR;cases q)
 obtain⟨⟨l',hp,q⟩,rfl⟩:=hR;cases q;simp[bY];exact λhz=>⟨cC hz,l',hp,rfl⟩
theorem UW{n:Int}{l:List Item}{t lo hi:Int}(ht:0<=t/\t<=200)(h:qd n l t=some (lo,hi)):0<=hi/\hi<=1000:=by
 unfold qd at h
 split at h
 ·simp only[Option.some.injEq,Prod.mk.injEq]at h;omega
 ·cases h
theorem Kc(n:Nat)(e:bw)(a:cr)(ha:bI a)(hn:1<=e.n/\e.n<=50)(H:GH):aF prog 195 [.gp n 0,lv (aQ e),ei [a]] H (BR (fS e.fold e.n (qd e.n) a) H):=by
 have cc:=ar (p:=aY [4] [] []);have hs:=pI e a 232 [oC e] (Lw e) (qd e.n) e.n ha.2.1 (vA ha) (λk x hx=>Lj e _ _ hn (qL ha hx).1 (Ql ha) (λy hy=>(qL ha hy).1)) (λk x hx lo hi=>UW (qL ha hx).1) (by omega) H
 refine aF.bD (ar (p:=aY [4] [] [])) func195 rfl call195 (by rw[ntmps195];simp) rfl λhf hw=>?_
 simp[oC,ai]at hs;simp[ntmps195,results195,ai];refine AW.draw cc [] (.q 1<|.q 2<|.q 4<|.q 5<|.q 0<|.q 3<|.q 6<|.f<|.one 7<|.q 8<|.done) (by kernel_rfl) ?_
 simp[ai,bX];refine ya.of hs (λv H2 hR _=>?_) (λx H2 env hR _=>by obtain⟨⟨_,_,q⟩,_⟩:=hR;cases q)
 obtain⟨⟨l',hp,q⟩,rfl⟩:=hR;cases q;simp[bY];exact λhz=>⟨cC hz,l',hp,rfl⟩
theorem ug{x:Item}(h:mU x):xq x.aa:=⟨⟨by have:=h.1;omega,by have:=h.1;omega⟩,h.2.1,h.2.2.1⟩
theorem F0(n:Nat)(e:bw)(c:bc)(a:cr)(ha:bI a)(hc:e.aD=[c])(hv:uK c):aC prog 189 [.gp n 0,lv (aQ e),ei [a]] (bY (jJ c a)):=by
 have cc:=ar (p:=aY [4] [] []);intro H;refine aF.bD (ar (p:=aY [4] [] [])) func189 rfl call189 (by rw[ntmps189];simp) rfl λhf hw=>?_
 have Tm:=gQ hv;simp[aN]at Tm;have yO:=ha.2.1;simp[ntmps189,results189,ai,hc,bX,aN];refine EC.aJ Tm ?_;simp[nI];refine AW.aU cc (λs:Nat×LV×GH=>⟨[(7,nI c),(8,s.2.1),(18,sl (a.map ak)),(19,aH a.length),(20,aH s.1)],[],s.2.2⟩) (λs=>a.length-s.1)
  (λs=>s.1<=a.length/\cm 86 4 H s.2.1 ((jJ c (a.take s.1)).map ak) s.2.2) (0,.d (.k (.slice none 0 0)),H) ⟨⟨Nat.zero_le _,by simpa[jJ]using cm.nil⟩,by simp[nI,cQ _ (dN hv 0)]⟩ ?_
 rintro⟨i,y,H2⟩ ⟨hi,aA⟩;simp only at hi aA;simp;refine⟨λh=>?_,λh=>?_⟩
 ·obtain⟨x,dc⟩:∃x,a[i]=x:=⟨_,rfl⟩;have fU:a.take (i+1)=a.take i++[x]:=by rw[<-aR h,dc]
  have FW:=ha.2.2 x (dc▸List.getElem_mem h);have uH:=lK (ug FW) (o:=0) (by unfold cq;omega) hv
  have eU:=aB (n:=9223372036854775807) (show i<9223372036854775807 by omega)
  simp[bN]at uH;simp[h,List.getElem?_eq_getElem h,dc,ak,nI];refine⟨dN hv _,EC.aJ uH ?_⟩;simp[aA.plain.all];have hwm:jJ c (a.take (i+1))=jJ c (a.take i)++(if ek x.aa 0 c≠0 then[x]else[]):=by
   rw[fU];unfold jJ;rw[List.filter_append,List.filter_cons];by_cases q:ek x.aa 0 c=0<;>simp[q]
  have hwl:(jJ c (a.take i)).length<=300:=Nat.le_trans (List.length_filter_le _ _) (by simp;omega)
  refine⟨λq=>?_,λq=>?_⟩
  ·refine eE.dJ (ys:=[ak x]) eW rfl dO (by simp) (x:=y) (by simp) aA (by simp[ak,rowsOf]) (by simp) (bl _) (λr hr=>by simp only[List.mem_singleton]at hr;subst hr;rfl) (by simp;omega) (by simp) λx' H3 aG _ _=>?_
   simp[aG.plain.all,aG.only,eU];refine NX.go (i+1,x',H3) (by simp only;omega) ⟨h,?_⟩ (by simp[aG.only,nI,cQ _ (dN hv 0)])
   rw[hwm,if_pos q,List.map_append];exact aG
  ·rw[if_neg (by simpa using q),List.append_nil]at hwm
   exact NX.go (i+1,y,H2) (by simp only;omega) ⟨h,by rw[hwm];exact aA⟩ (by simp[aA.only,nI,cQ _ (dN hv 0),eU])
 ·have:i=a.length:=by omega
  subst this;rw[List.take_length]at aA;simp[aA.plain.all,aA.fz,bY];exact λhz=>aO aA.nx aA.ob hw.none
theorem each1{k v:bc}(hk:uK k)(hv:uK v)(x:Item)(hx:mU x){m1 m2:Nat}{H:GH}(l1:m1<H.next)(l2:m2<H.next)(o1:H.obj m1=some (.box [nI k]))(o2:H.obj m2=some (.box [nI v])):
  Te prog 227 ([lv (ak x)]++[.gp m1 0,.gp m2 0]) H (lv (ak ⟨⟨x.aa.at_,ek x.aa 0 k,ek x.aa 0 v⟩,x.n⟩)):=by
 intro H' hn ho;have cc:=ar (p:=aY [3] [] []);refine aF.bD (ar (p:=aY [3] [] [])) func227 rfl call227 (by rw[ntmps227];simp) rfl λhf hw=>?_
 have o1':H'.obj m1=some (.box [nI k]):=by rw[ho _ l1];exact o1
 have o2':H'.obj m2=some (.box [nI v]):=by rw[ho _ l2];exact o2
 have h1:=lK (ug hx) (o:=0) (by unfold cq;omega) hk
 have h2:=lK (ug hx) (o:=0) (by unfold cq;omega) hv
 have vm:=λm=>dN hk m
 have hn2:=λm=>dN hv m
 simp[bN]at h1 h2;simp[ntmps227,results227,ak];refine AW.draw cc [(6,.n),(10,.n)] (.q 0<|.q 1<|.q 4<|.q 8<|.q 12<|.q 2<|.q 3<|.q 5<|.q 6<|.q 7<|.q 9<|.q 10<|.q 11<|.q 13<|.q 14<|.f<|.one 15<|.done) (by kernel_rfl) ?_
 simp[o1',o2',nI,ak];refine⟨vm _,FC.aJ h1 ?_⟩;simp[o1',o2',nI,ak];refine⟨hn2 _,FC.aJ h2 ?_⟩;simp;exact λhz=>⟨cC hz,rfl⟩
theorem Ki(n:Nat)(e:bw)(k v:bc)(a:cr)(ha:bI a)(hc:e.aD=[k,v])(hk:uK k)(hv:uK v)(H:GH):aF prog 190 [.gp n 0,lv (aQ e),ei [a]] H λce H'=>ce=.ret (bY (Bo k v a))/\H'=H:=by
 have cc:=ar (p:=aY [4] [7,8] []);refine aF.bD (ar (p:=aY [4] [7,8] [])) func190 rfl call190 (by rw[ntmps190];simp) rfl λhf hw=>?_
 have hvo1:=gQ hk;have hvo2:=gQ hv;simp[aN]at hvo1 hvo2;simp[ntmps190,results190,ai,hc];refine AW.draw cc [(4,.n),(9,.n)] (.q 0<|.q 5<|.q 1<|.q 2<|.q 3<|.q 4<|.q 6<|.q 7<|.q 8<|.q 9<|.f (.cons 10 (.f<|.one 11<|.f<|.one 12<|.f<|.one 13<|.done) (.cons 11 (.f<|.one 10<|.f<|.one 12<|.f<|.one 13<|.done) (.nil)))) (by kernel_rfl) ?_
 simp[ai,hc,aN];refine FC.aJ hvo1 ?_;simp[ai,hc,aN];refine FC.aJ hvo2 ?_;have add0:∀o o':GO,((H.add o).add o').obj H.next=some o:=λo o'=>by rw[GH.au,GH.aq,if_neg (by omega),GH.au,if_pos rfl]
 have add1:∀o o':GO,((H.add o).add o').obj (H.next+1)=some o':=λo o'=>by rw[GH.au,GH.aq,if_pos rfl]
 have addn:∀o:GO,(H.add o).next=H.next+1:=λo=>rfl
 have adds1:∀o o' u:GO,((H.add o).add o').set (H.next+1) u=(H.add o).add u:=λo o' u=>by rw[<-addn o];exact GH.cT
 have adds0:∀o o' u:GO,((H.add o).add o').set H.next u=(H.add u).add o':=λo o' u=>by
  simp only[GH.set,GH.add];congr 1;funext m;unfold ew;split<;>simp_all
 have vm:=λm=>dN hk m
 have hn2:=λm=>dN hv m
 simp[ai,hc,aN,nI,add0,add1,addn,adds0,adds1,vm,hn2,bX];have mQ:∀(o o':GO) (m1 m2:Nat),m1<H.next+2->m2<H.next+2->((H.add o).add o').obj m1=some (.box [nI k])->((H.add o).add o').obj m2=some (.box [nI v])->
   aF prog 226 [.d (.sl (a.map ak)),.fn (.func 227) [] [.gp m1 0,.gp m2 0]] ((H.add o).add o') λce H'=>ce=.ret (.d (.sl ((Bo k v a).map ak)))/\H'=(H.add o).add o':=λo o' m1 m2 l1 l2 o1 o2=>
  pJ (λx=>⟨⟨x.aa.at_,ek x.aa 0 k,ek x.aa 0 v⟩,x.n⟩) a (by have:=ha.2.1;omega) 227 [.gp m1 0,.gp m2 0] _ (by simp[ct,LV.nb,GH.aq];omega) (λx hx=>each1 hk hv x (ha.2.2 x hx) (by rw[GH.aq,GH.aq];omega) (by rw[GH.aq,GH.aq];omega) o1 o2)
 refine⟨⟨⟨by simp only[GH.aq];omega,by simp only[GH.aq];omega⟩,EC.of (mQ _ _ _ _ (by omega) (by omega) (add0 _ _) (add1 _ _)) (λv' H2 hR=>?_) (λv' H2 hR=>by cases hR.1)⟩,⟨by simp only[GH.aq];omega,by simp only[GH.aq];omega⟩,EC.of (mQ _ _ _ _ (by omega) (by omega) (add1 _ _) (add0 _ _)) (λv' H2 hR=>?_) (λv' H2 hR=>by cases hR.1)⟩
 all_goals
  obtain⟨q,rfl⟩:=hR;cases q;simp[bY];exact λ_=>aO (by simp only[GH.aq];omega) (λm hm=>by rw[GH.au,GH.aq,if_neg (by omega),GH.au,if_neg (by omega)]) hw.none
theorem zz{b:List Item}{ks:List Int}(hk:ks.Perm (aZ b))(k:Int):
  ∃z,(bz (.int .i64 k) (kX ks (nX b))).getD (.d (.k (.slice none 0 0)))=z/\Plain z/\(∀N,z.nb N)/\∀lo hi,aC prog 233 [z,aH lo,aH hi] (sl ((bM lo hi (rowOf k b)).map ak)):=by
 rw[lP];by_cases h:k∈ks
 ·rw[if_pos h];exact⟨_,rfl,⟨rfl,trivial,rfl,rfl⟩,λ_=>trivial,λlo hi=>nh _ lo hi⟩
 ·rw[if_neg h];have h0:rowOf k b=[]:=by
   rw[rowOf,List.filter_eq_nil_iff];intro y hy q;exact h (hk.mem_iff.2 (mC.2 ⟨y,hy,by simpa using q⟩))
  refine⟨_,rfl,⟨rfl,trivial,rfl,rfl⟩,λ_=>trivial,λlo hi=>aC.OW ?_⟩
  have:=nh [] lo hi;rw[h0];simpa[xV,fz]using this
theorem tK(lo hi:Int)(l:List Item):(bM lo hi l).length<=l.length:=((List.takeWhile_sublist _).trans (List.dropWhile_sublist _)).length_le
theorem yI(k:Int)(b:List Item):(rowOf k b).length<=b.length:=List.length_filter_le _ _
theorem mul_n{x y:Item}(hx:mU x)(hy:mU y):1<=x.n*y.n/\x.n*y.n<=1000000000000:=by
 have h1:=hx.2.2.2;have h2:=hy.2.2.2;constructor
 ·exact Int.le_trans (by omega) (Int.mul_le_mul h1.1 h2.1 (by omega) (by omega))
 ·exact Int.le_trans (Int.mul_le_mul h1.2 h2.2 (by omega) (by omega)) (by omega)
theorem CX(n:Int)(c:bc)(a b:List Item)(hb:b.length<=300):(kZ n c a b).length<=a.length*300:=by
 refine kG (λx=>?_) a
 rw[List.length_map];exact Nat.le_trans (tK _ _ _) (Nat.le_trans (yI _ _) hb)
theorem D6(c:bc)(a b:List Item):(jG c a b).length<=a.length:=by
 have h:=kG (f:=λx:Item=>match(bM 0 x.aa.at_ (rowOf x.aa.key b)).getLast? with
  |none=>[]
  |some y=>[(⟨⟨x.aa.at_,x.aa.key,ek x.aa y.aa.val c⟩,x.n⟩:Item)]) (B:=1) (λx=>by split<;>simp) a
 rw[Nat.mul_one]at h;exact h
theorem Kf(n:Nat)(e:bw)(c:bc)(a b:cr)(ha:bI a)(hb:bI b)(hc:e.aD=[c])(hv:uK c)(hn:0<=e.n/\e.n<=50)(H:GH):
  aF prog 196 [.gp n 0,lv (aQ e),ei [a,b]] H λce H'=>ce=.ret (bY (kZ e.n c a b))/\H'=H:=by
 have cc:=ar (p:=aY [4] [] []);refine aF.bD (ar (p:=aY [4] [] [])) func196 rfl call196 (by rw[ntmps196];simp) rfl λhf hw=>?_
 have Tm:=gQ hv;simp[aN]at Tm;have yO:=ha.2.1;have B6:=hb.2.1;have hro:=ri b B6 H;simp[ntmps196,results196,ai,hc];refine AW.draw cc [(4,.n)] (.q 0<|.q 5<|.q 6<|.q 1<|.q 2<|.q 3<|.q 4<|.q 7<|.f<|.one 8<|.q 9<|.q 10<|.done) (by kernel_rfl) ?_
 simp[ai,hc,aN,bX];refine FC.aJ Tm ?_;simp[ai,hc,aN,nI,bX];refine ya.of hro (λv H2 hR _=>?_) (λx H2 env hR _=>by obtain⟨m,ks,q,_⟩:=hR;cases q)
 obtain⟨m,ks,q,m1,m2,m3,hks,o2⟩:=hR;cases q;have wD:∀k,dQ k (gy c).2:=λk=>cQ (keep:=k) _ (dN hv 0)
 simp;refine AW.aU cc (λs:Nat×LV×GH=>⟨[(4,oC e),(7,nI c),(8,.gm m),(9,s.2.1),(26,sl (a.map ak)),(27,aH a.length),(28,aH s.1)],[],s.2.2⟩) (λs=>a.length-s.1)
  (λs=>s.1<=a.length/\cm 86 4 H2 s.2.1 ((kZ e.n c (a.take s.1) b).map ak) s.2.2) (0,.d (.k (.slice none 0 0)),H2) ⟨⟨Nat.zero_le _,by simpa[kZ]using cm.nil⟩,by simp[nI,wD,oC,ai,hc,aN]⟩ ?_
 rintro⟨i,y,H3⟩ ⟨hi,aA⟩;simp only at hi aA;simp;refine⟨λh=>?_,λh=>?_⟩
 ·obtain⟨x,dc⟩:∃x,a[i]=x:=⟨_,rfl⟩;have fU:a.take (i+1)=a.take i++[x]:=by rw[<-aR h,dc]
  have FW:=ha.2.2 x (dc▸List.getElem_mem h);have eU:=aB (n:=9223372036854775807) (show i<9223372036854775807 by omega)
  have hkey:=eq_true (iE ks (nX b));obtain⟨z,hz,hzp,hzn,Iz⟩:=zz hks x.aa.key;have om:H3.obj m=some (.map (kX ks (nX b))):=by rw[aA.ob m m2];exact m3
  have hx1:=FW.1;have w1:IntKind.wrap .i64 (x.aa.at_-e.n)=x.aa.at_-e.n:=by rw[wrap64]<;>omega
  have w2:IntKind.wrap .i64 (x.aa.at_+e.n)=x.aa.at_+e.n:=by rw[wrap64]<;>omega
  have Iz:=Iz (x.aa.at_-e.n) (x.aa.at_+e.n);obtain⟨row,hrow⟩:∃row,bM (x.aa.at_-e.n) (x.aa.at_+e.n) (rowOf x.aa.key b)=row:=⟨_,rfl⟩;rw[hrow]at Iz;have hrl:row.length<=300:=by rw[<-hrow];exact Nat.le_trans (tK _ _ _) (Nat.le_trans (yI _ _) B6)
  have hpl:(kZ e.n c (a.take i) b).length<=90000:=Nat.le_trans (CX _ _ _ _ B6) (by simp;omega)
  have Vt:kZ e.n c (a.take (i+1)) b=kZ e.n c (a.take i) b++row.map (fq c x):=by rw[fU,kZ,List.flatMap_append,List.flatMap_cons,List.flatMap_nil,List.append_nil,hrow];rfl
  simp at Iz;simp[h,List.getElem?_eq_getElem h,dc,ak,om,hkey,hz,hzp.all,oC,ai,w1,w2];refine⟨hzn _,EC.aJ Iz ?_⟩;simp;refine AW.aU cc (λs:Nat×LV×GH=>⟨[(4,oC e),(7,nI c),(8,.gm m),(9,s.2.1),(11,.lp 11 0),(26,sl (a.map ak)),(27,aH a.length),(28,aH i),(49,sl (row.map ak)),(50,aH row.length),(51,aH s.1)],[(11,(ak x).map .d)],s.2.2⟩) (λs=>row.length-s.1)
   (λs=>s.1<=row.length/\cm 86 4 H2 s.2.1 ((kZ e.n c (a.take i) b++(row.take s.1).map (fq c x)).map ak) s.2.2) (0,y,H3) ⟨⟨Nat.zero_le _,by simpa using aA⟩,by simp[nI,wD,oC,ai,hc,aN,ak,aA.only]⟩ ?_
  rintro⟨j,y2,H4⟩ ⟨hj,wH⟩;simp only at hj wH;simp;refine⟨λh2=>?_,λh2=>?_⟩
  ·obtain⟨u,hue⟩:∃u,row[j]=u:=⟨_,rfl⟩;have Rp:row.take (j+1)=row.take j++[u]:=by rw[<-aR h2,hue]
   have hum:u∈row:=hue▸List.getElem_mem h2;have hub:u∈b:=by rw[<-hrow]at hum;exact(pp (jI hum)).1
   have Ro:=hb.2.2 u hub;have hmn:=mul_n FW Ro;have w3:IntKind.wrap .i64 (x.n*u.n)=x.n*u.n:=by rw[wrap64]<;>omega
   have hr':xq ⟨jN x.aa.at_ u.aa.at_,x.aa.key,x.aa.val⟩:=⟨by have:=Ro.1;unfold cq jN;split<;>simp only<;>omega,FW.2.1,FW.2.2.1⟩
   have uH:=lK hr' (o:=u.aa.val) Ro.2.2.1 hv;have FX:=aB (n:=9223372036854775807) (show j<9223372036854775807 by omega)
   simp[bN]at uH;simp[h2,List.getElem?_eq_getElem h2,hue,ak,nI];refine⟨dN hv _,EC.aJ uH ?_⟩;simp[wH.plain.all,w3];have hp2:(kZ e.n c (a.take i) b).length+(row.take j).length<=90300:=by simp;omega
   refine eE.dJ (ys:=[ak (fq c x u)]) eW rfl dO (by simp) (x:=y2) (by simp) wH (by simp[ak,rowsOf,fq]) (by simp) (bl _) (λr hr=>by simp only[List.mem_singleton]at hr;subst hr;rfl) (by simp at hp2|-;omega) (by simp) λx' H5 aG _ _=>?_
   simp[aG.plain.all,aG.only,FX];refine NX.go (j+1,x',H5) (by simp only;omega) ⟨h2,?_⟩ (by simp[aG.only,nI,wD,oC,ai,hc,aN,ak])
   rw[Rp,List.map_append (f:=fq c x),<-List.append_assoc,List.map_append];exact aG
  ·have e2:j=row.length:=by omega
   subst e2;rw[List.take_length,<-Vt]at wH;exact NX.go (i+1,y2,H4) (by simp only;omega) ⟨h,wH⟩ (by simp[wH.only,nI,wD,oC,ai,hc,aN,ak,eU])
 ·have:i=a.length:=by omega
  subst this;rw[List.take_length]at aA;simp[aA.plain.all,aA.fz,bY];have hn2:H.next<=H2.next:=by omega
  exact λhz=>aO (Nat.le_trans hn2 aA.nx) (λk hk=>by rw[aA.ob k (by omega)];exact o2 k hk) hw.none
theorem Kk(n:Nat)(e:bw)(c:bc)(a b:cr)(ha:bI a)(hb:bI b)(hc:e.aD=[c])(hv:uK c)(H:GH):
  aF prog 197 [.gp n 0,lv (aQ e),ei [a,b]] H λce H'=>ce=.ret (bY (jG c a b))/\H'=H:=by
 have cc:=ar (p:=aY [4] [] []);refine aF.bD (ar (p:=aY [4] [] [])) func197 rfl call197 (by rw[ntmps197];simp) rfl λhf hw=>?_
 have Tm:=gQ hv;simp[aN]at Tm;have yO:=ha.2.1;have B6:=hb.2.1;have hro:=ri b B6 H;simp[ntmps197,results197,ai,hc];refine AW.draw cc [(4,.n)] (.q 0<|.q 5<|.q 6<|.q 1<|.q 2<|.q 3<|.q 4<|.q 7<|.f<|.one 8<|.q 9<|.q 10<|.done) (by kernel_rfl) ?_
 simp[ai,hc,aN,bX];refine FC.aJ Tm ?_;simp[ai,hc,aN,nI,bX];refine ya.of hro (λv H2 hR _=>?_) (λx H2 env hR _=>by obtain⟨m,ks,q,_⟩:=hR;cases q)
 obtain⟨m,ks,q,m1,m2,m3,hks,o2⟩:=hR;cases q;have wD:∀k,dQ k (gy c).2:=λk=>cQ (keep:=k) _ (dN hv 0)
 simp;refine AW.aU cc (λs:Nat×LV×GH=>⟨[(7,nI c),(8,.gm m),(9,s.2.1),(25,sl (a.map ak)),(26,aH a.length),(27,aH s.1)],[],s.2.2⟩) (λs=>a.length-s.1)
  (λs=>s.1<=a.length/\cm 86 4 H2 s.2.1 ((jG c (a.take s.1) b).map ak) s.2.2) (0,.d (.k (.slice none 0 0)),H2) ⟨⟨Nat.zero_le _,by simpa[jG]using cm.nil⟩,by simp[nI,wD,hc,aN]⟩ ?_
 rintro⟨i,y,H3⟩ ⟨hi,aA⟩;simp only at hi aA;simp;refine⟨λh=>?_,λh=>?_⟩
 ·obtain⟨x,dc⟩:∃x,a[i]=x:=⟨_,rfl⟩;have fU:a.take (i+1)=a.take i++[x]:=by rw[<-aR h,dc]
  have FW:=ha.2.2 x (dc▸List.getElem_mem h);have eU:=aB (n:=9223372036854775807) (show i<9223372036854775807 by omega)
  have hkey:=eq_true (iE ks (nX b));obtain⟨z,hz,hzp,hzn,Iz⟩:=zz hks x.aa.key;have om:H3.obj m=some (.map (kX ks (nX b))):=by rw[aA.ob m m2];exact m3
  have Iz:=Iz 0 x.aa.at_;obtain⟨row,hrow⟩:∃row,bM 0 x.aa.at_ (rowOf x.aa.key b)=row:=⟨_,rfl⟩;rw[hrow]at Iz;have hrl:row.length<=300:=by rw[<-hrow];exact Nat.le_trans (tK _ _ _) (Nat.le_trans (yI _ _) B6)
  have hpl:(jG c (a.take i) b).length<=300:=Nat.le_trans (D6 _ _ _) (by simp;omega)
  simp at Iz;simp[h,List.getElem?_eq_getElem h,dc,ak,om,hkey,hz,hzp.all];refine⟨hzn _,EC.aJ Iz ?_⟩;simp;refine⟨λq=>?_,λq=>?_⟩
  ·have AX:row.length-1<row.length:=by omega
   obtain⟨u,hue⟩:∃u,row[row.length-1]=u:=⟨_,rfl⟩;have tB:row.getLast?=some u:=by rw[List.getLast?_eq_getElem?,List.getElem?_eq_getElem AX,hue]
   have hum:u∈row:=hue▸List.getElem_mem AX;have Ro:=hb.2.2 u (by rw[<-hrow]at hum;exact(pp (jI hum)).1)
   have Vt:jG c (a.take (i+1)) b=jG c (a.take i) b++[⟨⟨x.aa.at_,x.aa.key,ek x.aa u.aa.val c⟩,x.n⟩]:=by rw[fU,jG,List.flatMap_append,List.flatMap_cons,List.flatMap_nil,List.append_nil,hrow,tB];rfl
   have uH:=lK (ug FW) (o:=u.aa.val) Ro.2.2.1 hv;have w1:IntKind.wrap .i64 ((row.length:Int)-1)=(row.length:Int)-1:=by rw[wrap64]<;>omega
   have t1:((row.length:Int)-1).toNat=row.length-1:=by omega
   simp[bN]at uH;refine AW.draw cc [(11,.n)] (.q 0<|.q 1<|.q 3<|.q 4<|.q 2<|.q 5<|.q 6<|.q 7<|.q 8<|.q 9<|.q 10<|.q 11<|.q 12<|.f<|.one 13<|.done) (by kernel_rfl) ?_
   simp[nI,w1,t1,List.getElem?_eq_getElem AX,hue,ak];refine⟨⟨by omega,by omega⟩,dN hv _,FC.aJ uH ?_⟩
   simp[aA.plain.all];refine eE.dJ (ys:=[ak ⟨⟨x.aa.at_,x.aa.key,ek x.aa u.aa.val c⟩,x.n⟩]) eW rfl dO (by simp) (x:=y) (by simp) aA (by simp[ak,rowsOf]) (by simp) (bl _) (λr hr=>by simp only[List.mem_singleton]at hr;subst hr;rfl) (by simp;omega) (by simp) λx' H5 aG _ _=>?_
   simp[aG.plain.all,aG.only,eU];refine NX.go (i+1,x',H5) (by simp only;omega) ⟨h,?_⟩ (by simp[aG.only,nI,wD,ak])
   rw[Vt,List.map_append];exact aG
  ·have hr0:row=[]:=by
    cases row with
    |nil=>rfl
    |cons a l=>simp at q;try omega
   have Vt:jG c (a.take (i+1)) b=jG c (a.take i) b:=by rw[fU,jG,List.flatMap_append,List.flatMap_cons,List.flatMap_nil,List.append_nil,hrow,hr0];simp[jG]
   exact NX.go (i+1,y,H3) (by simp only;omega) ⟨h,by rw[Vt];exact aA⟩ (by simp[aA.only,nI,wD,eU])
 ·have:i=a.length:=by omega
  subst this;rw[List.take_length]at aA;simp[aA.plain.all,aA.fz,bY];have hn2:H.next<=H2.next:=by omega
  exact λhz=>aO (Nat.le_trans hn2 aA.nx) (λk hk=>by rw[aA.ob k (by omega)];exact o2 k hk) hw.none
theorem Kh(n:Nat)(e:bw)(a b:cr)(ha:bI a)(hb:bI b)(hn:0<=e.n/\e.n<=50)(H:GH):
  aF prog 198 [.gp n 0,lv (aQ e),ei [a,b]] H λce H'=>ce=.ret (bY (tw e.n a b))/\H'=H:=by
 have cc:=ar (p:=aY [4] [] []);refine aF.bD (ar (p:=aY [4] [] [])) func198 rfl call198 (by rw[ntmps198];simp) rfl λhf hw=>?_
 have yO:=ha.2.1;have B6:=hb.2.1;have hro:=ri b B6 H;simp[ntmps198,results198,ai,bX];refine EC.of hro (λv H2 hR=>?_) (λx H2 hR=>by obtain⟨m,ks,q,_⟩:=hR;cases q)
 obtain⟨m,ks,q,m1,m2,m3,hks,o2⟩:=hR;cases q;simp;refine AW.aU cc (λs:Nat×LV×GH=>⟨[(4,oC e),(7,.gm m),(8,s.2.1),(17,sl (a.map ak)),(18,aH a.length),(19,aH s.1)],[],s.2.2⟩) (λs=>a.length-s.1)
  (λs=>s.1<=a.length/\cm 86 4 H2 s.2.1 ((tw e.n (a.take s.1) b).map ak) s.2.2) (0,.d (.k (.slice none 0 0)),H2) ⟨⟨Nat.zero_le _,by simpa[tw]using cm.nil⟩,by simp[oC,ai]⟩ ?_
 rintro⟨i,y,H3⟩ ⟨hi,aA⟩;simp only at hi aA;simp;refine⟨λh=>?_,λh=>?_⟩
 ·obtain⟨x,dc⟩:∃x,a[i]=x:=⟨_,rfl⟩;have fU:a.take (i+1)=a.take i++[x]:=by rw[<-aR h,dc]
  have FW:=ha.2.2 x (dc▸List.getElem_mem h);have hx1:=FW.1;have eU:=aB (n:=9223372036854775807) (show i<9223372036854775807 by omega)
  have hkey:=eq_true (iE ks (nX b));obtain⟨z,hz,hzp,hzn,Iz⟩:=zz hks x.aa.key;have om:H3.obj m=some (.map (kX ks (nX b))):=by rw[aA.ob m m2];exact m3
  have w1:IntKind.wrap .i64 (x.aa.at_-e.n)=x.aa.at_-e.n:=by rw[wrap64]<;>omega
  have w2:IntKind.wrap .i64 (x.aa.at_+e.n)=x.aa.at_+e.n:=by rw[wrap64]<;>omega
  have Iz:=Iz (x.aa.at_-e.n) (x.aa.at_+e.n);obtain⟨row,hrow⟩:∃row,bM (x.aa.at_-e.n) (x.aa.at_+e.n) (rowOf x.aa.key b)=row:=⟨_,rfl⟩;rw[hrow]at Iz;have hpl:(tw e.n (a.take i) b).length<=300:=Nat.le_trans (List.length_filter_le _ _) (by simp;omega)
  have Vt:tw e.n (a.take (i+1)) b=tw e.n (a.take i) b++(if row.isEmpty=true then[x]else[]):=by
   rw[fU];unfold tw;rw[List.filter_append,List.filter_cons,hrow];by_cases q:row.isEmpty=true<;>simp[q]
  simp at Iz;simp[h,List.getElem?_eq_getElem h,dc,ak,om,hkey,hz,hzp.all,oC,ai,w1,w2];refine⟨hzn _,EC.aJ Iz ?_⟩;simp;refine⟨λq=>⟨aA.plain.tL,?_⟩,λq=>?_⟩
  ·refine eE.dJ (ys:=[ak x]) eW rfl dO (by simp) (x:=y) (by simp[aA.plain.all]) aA (by simp[ak,rowsOf]) (by simp) (bl _) (λr hr=>by simp only[List.mem_singleton]at hr;subst hr;rfl) (by simp;omega) (by simp) λx' H5 aG _ _=>?_
   simp[aG.plain.all,aG.only,eU];refine NX.go (i+1,x',H5) (by simp only;omega) ⟨h,?_⟩ (by simp[aG.only,ak,oC,ai])
   rw[Vt,if_pos (by simp[q]),List.map_append];exact aG
  ·rw[if_neg (by simpa using q),List.append_nil]at Vt
   exact NX.go (i+1,y,H3) (by simp only;omega) ⟨h,by rw[Vt];exact aA⟩ (by simp[aA.only,eU,oC,ai])
 ·have:i=a.length:=by omega
  subst this;rw[List.take_length]at aA;simp[aA.plain.all,aA.fz,bY];have hn2:H.next<=H2.next:=by omega
  exact λhz=>aO (Nat.le_trans hn2 aA.nx) (λk hk=>by rw[aA.ob k (by omega)];exact o2 k hk) hw.none
end Go.Aft
end
