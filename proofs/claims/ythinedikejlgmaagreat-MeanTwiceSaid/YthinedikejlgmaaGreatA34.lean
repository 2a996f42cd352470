import Derived.Test.YthinedikejlgmaaGreatA20
import Derived.Test.YthinedikejlgmaaGreatA33
import Derived.Test.YthinedikejlgmaaGreatA27
import Derived.Test.YthinedikejlgmaaGreatA24
import Derived.Test.YthinedikejlgmaaGreatA30
import Derived.Test.YthinedikejlgmaaGreatA31
set_option linter.all false
section
set_option maxRecDepth 20000
namespace Go.Aft
open Go.Proofs.Tryz
structure KN(n m:Nat)(rows:List LV)(J:Nat->GH->Prop):Prop where
 box:∀{i:Nat} {H:GH},J i H->H.obj m=some (.box [nC n m])
 lt:∀{i:Nat} {H:GH},J i H->n<H.next
 step:∀{i:Nat} {H:GH} {r:LV},rows[i]?=some r->gU H->J i H->ei prog n [r] H λce H'=>ce=.ret (bool true)/\H.next<=H'.next/\J (i+1) H'
def KC(n m:Nat)(rows:List LV)(J:Nat->GH->Prop)(f:FuncId)(cap:List LV)(neg:Bool)(e:bz):Prop:=
 ∀(i:Nat) (H:GH),J i H->(∃tl,rows.drop i=je e++tl)->aG prog f ([lv (aS e)]++cap) H λce H'=>ce=.ret (bool (!neg))/\H.next<=H'.next/\J (i+(bc e).length) H'
theorem LZ{n m:Nat}{rows:List LV}{J:Nat->GH->Prop}(hI:KN n m rows J){e:bz}(h:KC n m rows J 165 (jt n m) false e):KC n m rows J 167 [.gp m 0] true e:=by
 intro i H hj ht;have cc:=au (p:=bf [2] [] []);refine aG.bG (au (p:=bf [2] [] [])) func167 rfl call167 (by rw[ntmps167];simp) rfl λhf hw=>?_
 have hc:=h i H hj ht;have hm:=hI.box hj;have hn:=hI.lt hj;simp[aj,jt]at hc;have hlt:=hw.lt hm;simp[ntmps167,results167,aj,hm,nC,jt];refine⟨⟨hn,hlt⟩,EC.of hc (λv H2 hR=>?_) (λv H2 hR=>by cases hR.1)⟩
 obtain⟨q,h1,h2⟩:=hR;cases q;simp;exact λhz=>⟨H2,hz.drop h1,h1,h2⟩
theorem FJ{n m:Nat}{rows:List LV}{J:Nat->GH->Prop}(hI:KN n m rows J)(op en fold:Int)(name:cq)(aD:List bh)(kids:List bz)
  (ih:∀k∈kids,KC n m rows J 165 (jt n m) false k):KC n m rows J 165 (jt n m) false (.mk op name en fold aD kids):=by
 intro i H hj ht;obtain⟨tl,ht⟩:=ht;have cc:=au (p:=bf [3] [] []);have hrow:rows[i]?=some (lv (aS (.mk op name en fold aD kids))):=by
  have:(rows.drop i)[0]?=some (lv (aS (.mk op name en fold aD kids))):=by rw[ht];simp[je,bc]
  rw[List.getElem?_drop]at this;simpa using this
 have ht1:rows.drop (i+1)=nZ kids++tl:=by
  rw[<-List.drop_drop,ht];simp[je,nZ,bc]
 refine aG.bG (au (p:=bf [3] [] [])) func165 rfl call165 (by rw[ntmps165];simp[jt]) rfl λhf hw=>?_
 have hlt:=hw.lt (hI.box hj);have hnl:=hI.lt hj;have hy:=hI.step hrow hw hj;simp[aj]at hy;simp[ntmps165,results165,aj,jt];refine EY.of hy (λv H1 hR=>?_) (λv H1 hR=>by cases hR.1)
 obtain⟨q,wJ,hR⟩:=hR;cases q;simp[bool];have hm1:=hI.box hR;have SF:=o8 kids 167 [.gp m 0] H1 (λj H'=>H1.next<=H'.next/\J (i+1+(bn (kids.take j)).length) H') (λH'=>False) (λx H'=>False)
  (λj H' q=>q.1) (λH' q=>q.elim) (λx H' q=>q.elim)
  (by simp[cD,LV.nb];omega) (λj hj' H' q=>?_) ⟨Nat.le_refl _,by simpa[bn]using hR⟩
 ·simp at SF;refine⟨by omega,EC.of SF (λv2 H2 qS=>?_) (λv2 H2 qS=>qS.elim)⟩
  obtain⟨q,hs2,hR4⟩:=qS;subst q;simp[bool];have e:i+(bc (.mk op name en fold aD kids)).length=i+1+(bn kids).length:=by simp[bc];omega
  rw[e];exact λhz=>⟨H2,hz.drop (by omega),by omega,hR4⟩
 ·obtain⟨qs,qj⟩:=q;have hsplit:kids=kids.take j++(kids[j]::kids.drop (j+1)):=by
   rw[<-List.drop_eq_getElem_cons hj',List.take_append_drop]
  have hall:bn kids=bn (kids.take j)++(bc kids[j]++bn (kids.drop (j+1))):=by
   conv=>lhs;rw[hsplit]
   rw[jM];simp only[bn]
  have gx:bn (kids.take (j+1))=bn (kids.take j)++bc kids[j]:=by
   rw[List.take_add_one,List.getElem?_eq_getElem hj',jM];simp[bn]
  have hdj:rows.drop (i+1+(bn (kids.take j)).length)=je kids[j]++(nZ (kids.drop (j+1))++tl):=by
   rw[<-List.drop_drop,ht1,nZ,hall,List.map_append,List.append_assoc];rw[List.drop_append_of_le_length (by simp),List.drop_eq_nil_of_le (by simp)]
   simp[je,nZ]
  have hk:=LZ hI (ih kids[j] (List.getElem_mem hj')) (i+1+(bn (kids.take j)).length) H' qj ⟨_,hdj⟩;refine hk.mono λce H2 qS=>?_
  obtain⟨q,s2,qS⟩:=qS;subst q;exact .inl ⟨rfl,by omega,by rw[gx,List.length_append,<-Nat.add_assoc];exact qS⟩
theorem x9{n m:Nat}{rows:List LV}{J:Nat->GH->Prop}(hI:KN n m rows J):∀e:bz,KC n m rows J 165 (jt n m) false e
 |.mk op name en fold aD kids=>FJ hI op en fold name aD kids λk hk=>x9 hI k
theorem L0{n:Nat}{e:bz}{J:Nat->GH->Prop}(H:GH)(hI:KN n H.next (je e) J)(hn:n<H.next)(hj:J 0 (H.add (.box [nC n H.next]))):
  aG prog 164 [.yl n,.ip ((aS e).map .d) 0] H λce H'=>(∃v,ce=.ret v)/\H.next<=H'.next/\J (bc e).length H':=by
 have cc:=au (p:=bf [2] [3] []);refine aG.bG (au (p:=bf [2] [3] [])) func164 rfl call164 (by rw[ntmps164];simp) rfl λhf hw=>?_
 simp[ntmps164,results164,aj,GH.ax,GH.aq,GH.cV];have hc:=x9 hI e 0 (H.add (.box [nC n H.next])) hj ⟨[],by simp⟩
 simp[aj,jt,nC]at hc;refine⟨by omega,EC.of hc (λv H2 hR=>?_) (λv H2 hR=>by cases hR.1)⟩
 obtain⟨q,h1,h2⟩:=hR;rw[GH.aq]at h1;simp;exact λhz=>⟨H2,hz.drop (by omega),by omega,h2⟩
theorem P7(l:List bz)(hl:l.length*88<=140737488351232)(hk:∀k∈l,aC prog 102 [lv (aS k)] (lv (aS k))):aC prog 162 [sl (l.map aS),.fn (.func 102) [] []] (sl (l.map aS)):=by
 intro H;have cc:=aP;refine aG.bG aP func162 rfl call162 (by rw[ntmps162];simp) rfl λhf hw=>?_
 simp[ntmps162,results162]at hf|-;refine AW.aV cc (λa:Nat×LV×GH=>⟨[(1,.fn (.func 102) [] []),(5,a.2.1),(8,.d (.sl (l.map aS))),(9,aH l.length),(10,aH a.1)],[],a.2.2⟩) (λa=>l.length-a.1) (λa=>a.1<=l.length/\cu 68 6 H a.2.1 ((l.take a.1).map aS) a.2.2) (0,.d (.k (.slice none 0 0)),H) ⟨⟨by simp,.nil⟩,by simp⟩ ?_
 rintro⟨i,x,H'⟩ ⟨hi,aA⟩;simp only at hi aA;simp;refine⟨λh=>?_,λh=>?_⟩
 ·have hd:=hk l[i] (List.getElem_mem h);simp[aj]at hd;simp[h,List.getElem?_eq_getElem h,aj,aA.plain.all];refine EC.aJ hd ?_;simp[aA.plain.all];refine eO.dU (ys:=[aS l[i]]) Dl rfl Dk (by simp) (x:=x) (by simp) aA (by simp[aj,rowsOf]) (by simp) (λr hr=>by obtain⟨_,_,rfl⟩:=List.mem_map.1 hr;simp) (by simp) (by simp;omega) (by simp) λx' H3 aF _ _=>?_
  rw[show(l.take i).map aS++[aS l[i]]=(l.take (i+1)).map aS by rw[<-aR h,List.map_append];rfl]at aF
  simp[aF.plain.all,aF.only,aB (n:=9223372036854775807) (show i<9223372036854775807 by omega)]
  exact NX.go (i+1,x',H3) (by simp;omega) ⟨h,aF⟩ (by simp[aF.only,aF.plain.all,LV.only,ec])
 ·have:i=l.length:=by omega
  subst this;rw[List.take_length]at aA;simp[aA.plain.all,aA.fz];exact λhz=>aL aA.nx aA.ob hw.none
theorem Ld(op:Int)(name:cq)(n fold:Int)(aD:List bh)(kids:List bz)(hc:CY aD)(lX:aD.length*40<=140737488351232)(jo:kids.length*88<=140737488351232)(ih:∀k∈kids,aC prog 102 [lv (aS k)] (lv (aS k))):
  aC prog 102 [lv (aS (.mk op name n fold aD kids))] (lv (aS (.mk op name n fold aD kids))):=by
 have cc:=au (p:=bf [] [] []);refine aC.body (au (p:=bf [] [] [])) func102 rfl call102 (by rw[ntmps102];simp) rfl λhf H=>?_
 have h1:=xB aD lX (nD aD hc);have h2:=P7 kids jo ih;simp at h1 h2;simp[ntmps102,results102,aj,bz.op,bz.n,bz.kids,bz.name,bz.fold,bz.aD];refine AW.draw cc [(2,.n),(5,.n)] (.q 0<|.q 3<|.q 1<|.q 2<|.q 4<|.q 5<|.q 6<|.f<|.one 7<|.q 8<|.f<|.one 9<|.done) (by kernel_rfl) ?_
 simp;refine FC.aJ h1 ?_;simp;refine FC.aJ h2 ?_;simp[aj,bz.op,bz.n,bz.kids,bz.name,bz.fold,bz.aD]
mutual
theorem Dn:∀e:bz,LY e->aC prog 102 [lv (aS e)] (lv (aS e))
 |.mk op name n fold aD kids,h=>by
  rw[LY]at h;exact Ld op name n fold aD kids h.2.2.1 h.1 h.2.1 (zW kids h.2.2.2)
theorem zW:∀es:List bz,AR es->∀k∈es,aC prog 102 [lv (aS k)] (lv (aS k))
 |[],_,k,hk=>by cases hk
 |e::es,h,k,hk=>by
  rw[AR]at h;rcases List.mem_cons.1 hk with q|hk
  ·rw[q];exact Dn e h.1
  ·exact zW es h.2 k hk
end
mutual
theorem Nu:∀e:bz,LY e->∀x∈bc e,LY x
 |.mk op name n fold aD kids,h,x,hx=>by
  rw[bc]at hx;rcases List.mem_cons.1 hx with q|q
  ·rw[q];exact h
  ·rw[LY]at h;exact Ix kids h.2.2.2 x q
theorem Ix:∀es:List bz,AR es->∀x∈bn es,LY x
 |[],_,x,hx=>by rw[bn]at hx;cases hx
 |e::es,h,x,hx=>by
  rw[AR]at h;rw[bn]at hx;rcases List.mem_append.1 hx with q|q
  ·exact Nu e h.1 x q
  ·exact Ix es h.2 x q
end
def KI(N:Nat)(x:LV)(rows:List (List DV))(G:GH):Prop:=lB 68 6 ⟨G.obj,N⟩ x rows G
theorem KI.set{N:Nat}{x:LV}{rows:List (List DV)}{G:GH}(h:KI N x rows G){k:Nat}(hk:k<N)(o:GO):KI N x rows (G.set k o):=by
 refine⟨?_,h.nx,λm hm=>rfl⟩
 rcases h.is with q|⟨n,g,q1,q2,q3,q4,q5⟩
 ·exact .inl q
 ·have q1':N<=n:=q1;exact .inr ⟨n,g,q1,q2,q3,by rw[GH.ay,if_neg (by omega)];exact q4,q5⟩
theorem KI.nil{N:Nat}{G:GH}(h:N<=G.next):KI N (.d (.k (.slice none 0 0))) [] G:=⟨.inl ⟨rfl,rfl⟩,h,λ_ _=>rfl⟩
theorem ql(rows:List (List DV))(r:List DV):bM (rows++[r])=bM rows++r.map LV.d:=by simp[bM]
def tM:List DV:=[.k (.int .i64 0),.k (.string ⟨#[]⟩),.k (.int .i64 0),.k (.int .i64 0),.k (.slice none 0 0),.k (.slice none 0 0)]
theorem zX(p:Prog)(hp:formed p)(d:Nat)(hd:d<p.ai.length):aC prog 77 [lv (ar p),aH d] (.dh [sl ((bc p.ai[d].exp).map aS),aH 0]):=by
 intro H;have cc:=gF (r:=none) (f:=77) (p:=bf [2] [8] [31]);have ccR:∀l,(xD (some l) 77 (bf [2] [8] [31])).ok prog:=λl=>gF
 have lW:=oh hp;obtain⟨e,he⟩:∃e,p.ai[d].exp=e:=⟨_,rfl⟩;have hok:∀x∈bc e,LY x:=λx hx=>Nu e (he▸(PT hp).1.2.2 _ (List.getElem_mem hd)) x hx
 have zp:(bc e).length<=60:=by rw[<-he];exact(fA hp).len _ (List.getElem_mem hd)
 refine aG.dG (gF (r:=none) (f:=77) (p:=bf [2] [8] [31])) func77 rfl call77 (by rw[ntmps77];simp) rfl λhf hw=>?_
 have hh:=Hv p lW hp d hd H;have By:=pK e;simp[aj]at By;simp[ntmps77,results77,ar]at hf|-;refine AW.seq cc ?_;simp;refine AW.seq cc ?_;simp;refine EC.of hh (λv H1 hR=>?_) (λv H1 hR=>by obtain⟨⟨_,q,_⟩,_⟩:=hR;cases q)
 obtain⟨⟨n0,q,hn0,_⟩,tG,hle1,aa7⟩:=hR;cases q;simp;refine AW.seq cc ?_;simp;refine AW.seq cc ?_;simp[hd,List.getElem?_eq_getElem hd,fm,he,aj];refine EC.aJ By ?_;simp;obtain⟨b8,hb8⟩:∃b8,H1.next=b8:=⟨_,rfl⟩;obtain⟨H2,vm⟩:∃H2,H1.add (.box [.d (.k (.slice none 0 0))])=H2:=⟨_,rfl⟩;have n2:H2.next=b8+1:=by rw[<-vm,GH.aq,hb8]
 have oo:H2.obj b8=some (.box [.d (.k (.slice none 0 0))]):=by rw[<-vm,GH.ax,if_pos hb8.symm]
 have ol:∀m,m<H.next->H2.obj m=H.obj m:=λm hm=>by rw[<-vm,GH.ax,if_neg (by omega)];exact aa7 m hm
 rw[vm,hb8];refine AW.T7 (λqD=>?_)
 simp only at qD;refine fh.rangeFunc rfl rfl (f:=164) (first:=[]) (cap:=[.ip ((aS e).map .d) 0]) (by simp[iF,aj]) (by simp[iF])
  [(2,.ip ((ar p).map .d) 0),(8,.gp b8 0)] (by simp[ny,ar]) (by simp[ny,LV.nb,cD,ar,n2]) (by simp[cD,LV.nb]) ?_
 simp only[LS.CP,List.nil_append,List.singleton_append];generalize hx:LP.mk _ _ _ _ _ _ _=x;have Jp:x.f=77:=by rw[<-hx]
 have F2:x.d=H2.next:=by rw[<-hx]
 obtain⟨D,hD⟩:∃D,H2.next=D:=⟨_,rfl⟩;have xu:((H2.add .qI).add (x.go .ready none)).next=D+2:=by rw[GH.aq,GH.aq,hD]
 obtain⟨J,hJ⟩:∃J:Nat->GH->Prop,J=λi G=>G.obj (D+2)=some (.box [nC (D+1) (D+2)])/\G.obj (D+1)=some (x.go .ready none)/\G.obj D=some .qI/\(∀m,m<D->m≠b8->G.obj m=H2.obj m)/\
  ∃y,G.obj b8=some (.box [y])/\KI (D+3) y (((bc e).take i).map aS) G:=⟨_,rfl⟩
 have hI:KN (D+1) (D+2) (je e) J:=by
  refine⟨λ{i G} hj=>?_,λ{i G} hj=>?_,λ{i G r} hr hzG hj=>?_⟩
  ·rw[hJ]at hj;exact hj.1
  ·rw[hJ]at hj;obtain⟨_,_,_,_,y,_,q6⟩:=hj;have:=q6.nx;simp only at this;omega
  ·rw[hJ]at hj;obtain⟨q0,q1,q2,q4,y,q5,q6⟩:=hj;obtain⟨e0,he0,rfl⟩:∃e0,(bc e)[i]?=some e0/\r=lv (aS e0):=by
    simp only[je,List.getElem?_map,Option.map_eq_some_iff]at hr;obtain⟨e0,h1,h2⟩:=hr;exact⟨e0,h1,h2.symm⟩
   have Ef:i<(bc e).length:=(List.getElem?_eq_some_iff.1 he0).1;have hcp:=Dn e0 (hok e0 (List.mem_of_getElem? he0));refine ei.ofN (c:=λl=>xD (some l) 77 (bf [2] [8] [31])) ccR (λl=>by simp[Jp]) q1 ⟨_,by rw[Jp];exact func77⟩ (by rw[<-hx];rfl) (by rw[<-hx];simp) λhz l=>?_
   have xa:=(congrArg LP.lR hx).symm;have xb:=(congrArg LP.body hx).symm;have xe:=(congrArg LP.env hx).symm;have xp:=(congrArg LP.ps hx).symm;have xn:=(congrArg LP.nt hx).symm;dsimp only at xa xb xe xp xn;rw[xa,xb,xe,xp,xn]
   clear xa xb xe xp xn hx
   simp[mI,aj];refine⟨q1,?_⟩;generalize kp:x.go .busy none=ob;obtain⟨G3,KY⟩:∃G3,G.set (D+1) ob=G3:=⟨_,rfl⟩;have c3:∀m,m≠D+1->G3.obj m=G.obj m:=λm hm=>by rw[<-KY,GH.ay,if_neg (by omega)]
   have oy:G3.obj (D+1)=some ob:=by rw[<-KY,GH.aY]
   have n3:G3.next=G.next:=by rw[<-KY];rfl
   rw[KY];have Yz:KI (D+3) y (((bc e).take i).map aS) G3:=by rw[<-KY];exact q6.set (by omega) _
   have hgx:=Yz.nx;simp only at hgx;have ob8:G3.obj b8=some (.box [y]):=by rw[c3 _ (by omega)];exact q5
   simp[aj]at hcp;refine AW.block (c:=xD (some l) 77 (bf [2] [8] [31])) ?_;refine AW.draw (ccR l) [(2,.n)] (.q 4<|.q 0<|.q 1<|.q 2<|.q 3<|.f<|.one 5<|.q 6<|.f (.cons 7 (.f<|.one 8<|.done) (.cons 8 (.f<|.one 7<|.done) (.nil)))) (by kernel_rfl) ?_
   have Bw:List.range' 0 1=[0]:=rfl;simp[ob8,Yz.plain.all,Bw];refine FC.aJ hcp ?_;obtain⟨rows,hrows⟩:∃rows,((bc e).take i).map aS=rows:=⟨_,rfl⟩;have hrl:rows.length=i:=by rw[<-hrows];simp;omega
   have hr6:∀r∈rows,r.length=6:=λr hr=>by rw[<-hrows]at hr;obtain⟨_,_,rfl⟩:=List.mem_map.1 hr;simp
   rw[hrows]at Yz;have hlen:∀X:S,True:=λ_=>trivial
   have SG:=Yz.is;have aA:lB 68 6 ⟨G3.obj,D+3⟩ y rows G3:=Yz;rcases SG with⟨k1,k2⟩|⟨nv,gv,k1,k2,k3,k4,k5⟩
   ·subst k2;have Mz:i=0:=by rw[<-hrl,k1];rfl
    subst Mz;simp;refine eO.Kr (ys:=[tM]) Dl rfl Dk (by simp) (by simp) aA (by simp[tM,kO]) (by simp) hr6 (by simp[tM]) (by simp;omega) (by simp) λx' G4 aF tH hsame=>?_
    obtain⟨m4,g4,e1,e2,e3,e4,e5⟩:=aF.is.resolve_left (λq=>by simp at q)
    subst e3;simp at e1;have e1':D+3<=m4:=by omega
    have ob84:G4.obj b8=some (.box [.d (.k (.slice none 0 0))]):=by rw[aF.ob b8 (show b8<D+3 by omega)];exact ob8
    have bl5:G3.next<=G4.next:=tH;obtain⟨Fl,PO⟩:∃Fl,bM (rows++[tM])=Fl:=⟨_,rfl⟩;have hr7:∀r∈rows++[tM],r.length=6:=λr hr=>by
     rcases List.mem_append.1 hr with q|q
     ·exact hr6 r q
     ·rw[List.mem_singleton.1 q];rfl
    have SN:Fl.length=0*6+6:=by
     rw[<-PO,kZ hr7,List.length_append,hrl,List.length_singleton]
    have hput:Fl.take (0*6)++((aS e0).map LV.d)++Fl.drop (0*6+6)=bM (rows++[aS e0]):=by
     rw[List.drop_eq_nil_of_le (by omega),List.append_nil,<-PO,ql,ql,List.take_left' (by rw[kZ (sz:=6) hr6,hrl])]
    rw[PO]at e4;have hm4:∀o,(G4.set b8 o).obj m4=some (.vec 68 g4 6 Fl false):=λo=>by rw[GH.ay,if_neg (by omega)];exact e4
    have hm5:∀o,(G4.set m4 o).obj b8=some (.box [.d (.k (.slice none 0 0))]):=λo=>by rw[GH.ay,if_neg (by omega)];exact ob84
    obtain⟨C,hC⟩:∃C,bM (rows++[aS e0])=C:=⟨_,rfl⟩;rw[hC]at hput;simp[aj]at hput;have Bz:m4<G4.next:=e2;have nu:∀G6:GH,G6.next=G4.next->G6.obj b8=some (.box [.vs m4 g4 6 0 (0+1)])->G6.obj m4=some (.vec 68 g4 6 C false)->(∀m,m≠m4->m≠b8->G6.obj m=G4.obj m)->gU G6->
      (∃a b,G6.obj (D+1)=some (x.go a b))/\∃H',Drop G (G6.set (D+1) (x.go .ready none)) H'/\G.next<=H'.next/\J (0+1) H':=λG6 u1 u2 u3 u4 hz6=>by
     have v1:G6.obj (D+1)=some ob:=by rw[u4 _ (by omega) (by omega),aF.ob _ (show D+1<D+3 by omega)];exact oy
     refine⟨⟨.busy,none,by rw[v1,kp]⟩,G6.set (D+1) (x.go .ready none),?_,by rw[GH.aM,u1];omega,?_⟩
     ·exact(hz6.set (by omega) (GO.fu (by omega) (hzG.nb _ _ q1))).drop (by rw[GH.aM];omega)
     ·rw[hJ];refine⟨?_,by rw[GH.aY],?_,λm hm hne=>?_,.vs m4 g4 6 0 (0+1),?_,?_⟩
      ·rw[GH.ay,if_neg (by omega),u4 _ (by omega) (by omega),aF.ob _ (show D+2<D+3 by omega)]
       show G3.obj (D+2)=_
       rw[c3 _ (by omega)];exact q0
      ·rw[GH.ay,if_neg (by omega),u4 _ (by omega) (by omega),aF.ob _ (show D<D+3 by omega)]
       show G3.obj D=_
       rw[c3 _ (by omega)];exact q2
      ·rw[GH.ay,if_neg (by omega),u4 _ (by omega) (by omega),aF.ob _ (show m<D+3 by omega)]
       show G3.obj m=_
       rw[c3 _ (by omega)];exact q4 m hm hne
      ·rw[GH.ay,if_neg (by omega)];exact u2
      ·have Bv:((bc e).take (0+1)).map aS=rows++[aS e0]:=by
        rw[List.take_add_one,he0,List.map_append,hrows];rfl
       rw[Bv];refine⟨.inr ⟨m4,g4,by simp only;omega,by rw[GH.aM,u1];exact Bz,by simp[hrl],?_,by simp⟩,by simp only[GH.aM];omega,λm hm=>rfl⟩
       rw[GH.ay,if_neg (by omega),hC];exact u3
    simp[e4,hrl,ob84,hm4,hm5,SN];rw[hput];have Sv:m4≠b8:=by omega
    have GW:∀X Y:GO,(G4.set b8 X).set m4 Y=(G4.set m4 Y).set b8 X:=λX Y=>GH.set_comm (Ne.symm Sv)
    have hend:=nu ((G4.set m4 (.vec 68 g4 6 C false)).set b8 (.box [.vs m4 g4 6 0 (0+1)])) rfl GH.aY (by rw[GH.ay,if_neg Sv,GH.aY]) (λm h1 h2=>by rw[GH.ay,if_neg h2,GH.ay,if_neg h1])
    rw[GW]
    try simp at hend
    exact⟨⟨Bz,hend⟩,Bz,hend⟩
   ·subst k3;simp;refine eO.Kr (ys:=[tM]) Dl rfl Dk (by simp) (by simp) aA (by simp[tM,kO]) (by simp) hr6 (by simp[tM]) (by simp;omega) (by simp) λx' G4 aF tH hsame=>?_
    obtain⟨m4,g4,e1,e2,e3,e4,e5⟩:=aF.is.resolve_left (λq=>by simp at q)
    subst e3;simp at e1;have e1':D+3<=m4:=by omega
    have ob84:G4.obj b8=some (.box [.vs nv gv 6 0 rows.length]):=by rw[aF.ob b8 (show b8<D+3 by omega)];exact ob8
    have bl5:G3.next<=G4.next:=tH;obtain⟨Fl,PO⟩:∃Fl,bM (rows++[tM])=Fl:=⟨_,rfl⟩;have hr7:∀r∈rows++[tM],r.length=6:=λr hr=>by
     rcases List.mem_append.1 hr with q|q
     ·exact hr6 r q
     ·rw[List.mem_singleton.1 q];rfl
    have SN:Fl.length=i*6+6:=by
     rw[<-PO,kZ hr7,List.length_append,hrl,List.length_singleton];omega
    have hput:Fl.take (i*6)++((aS e0).map LV.d)++Fl.drop (i*6+6)=bM (rows++[aS e0]):=by
     rw[List.drop_eq_nil_of_le (by omega),List.append_nil,<-PO,ql,ql,List.take_left' (by rw[kZ (sz:=6) hr6,hrl])]
    rw[PO]at e4;have hm4:∀o,(G4.set b8 o).obj m4=some (.vec 68 g4 6 Fl false):=λo=>by rw[GH.ay,if_neg (by omega)];exact e4
    have hm5:∀o,(G4.set m4 o).obj b8=some (.box [.vs nv gv 6 0 rows.length]):=λo=>by rw[GH.ay,if_neg (by omega)];exact ob84
    obtain⟨C,hC⟩:∃C,bM (rows++[aS e0])=C:=⟨_,rfl⟩;rw[hC]at hput;simp[aj]at hput;have Bz:m4<G4.next:=e2;have nu:∀G6:GH,G6.next=G4.next->G6.obj b8=some (.box [.vs m4 g4 6 0 (i+1)])->G6.obj m4=some (.vec 68 g4 6 C false)->(∀m,m≠m4->m≠b8->G6.obj m=G4.obj m)->gU G6->
      (∃a b,G6.obj (D+1)=some (x.go a b))/\∃H',Drop G (G6.set (D+1) (x.go .ready none)) H'/\G.next<=H'.next/\J (i+1) H':=λG6 u1 u2 u3 u4 hz6=>by
     have v1:G6.obj (D+1)=some ob:=by rw[u4 _ (by omega) (by omega),aF.ob _ (show D+1<D+3 by omega)];exact oy
     refine⟨⟨.busy,none,by rw[v1,kp]⟩,G6.set (D+1) (x.go .ready none),?_,by rw[GH.aM,u1];omega,?_⟩
     ·exact(hz6.set (by omega) (GO.fu (by omega) (hzG.nb _ _ q1))).drop (by rw[GH.aM];omega)
     ·rw[hJ];refine⟨?_,by rw[GH.aY],?_,λm hm hne=>?_,.vs m4 g4 6 0 (i+1),?_,?_⟩
      ·rw[GH.ay,if_neg (by omega),u4 _ (by omega) (by omega),aF.ob _ (show D+2<D+3 by omega)]
       show G3.obj (D+2)=_
       rw[c3 _ (by omega)];exact q0
      ·rw[GH.ay,if_neg (by omega),u4 _ (by omega) (by omega),aF.ob _ (show D<D+3 by omega)]
       show G3.obj D=_
       rw[c3 _ (by omega)];exact q2
      ·rw[GH.ay,if_neg (by omega),u4 _ (by omega) (by omega),aF.ob _ (show m<D+3 by omega)]
       show G3.obj m=_
       rw[c3 _ (by omega)];exact q4 m hm hne
      ·rw[GH.ay,if_neg (by omega)];exact u2
      ·have Bv:((bc e).take (i+1)).map aS=rows++[aS e0]:=by
        rw[List.take_add_one,he0,List.map_append,hrows];rfl
       rw[Bv];refine⟨.inr ⟨m4,g4,by simp only;omega,by rw[GH.aM,u1];exact Bz,by simp[hrl],?_,by simp⟩,by simp only[GH.aM];omega,λm hm=>rfl⟩
       rw[GH.ay,if_neg (by omega),hC];exact u3
    simp[e4,hrl,ob84,hm4,hm5,SN];rw[hput];have Sv:m4≠b8:=by omega
    have GW:∀X Y:GO,(G4.set b8 X).set m4 Y=(G4.set m4 Y).set b8 X:=λX Y=>GH.set_comm (Ne.symm Sv)
    have hend:=nu ((G4.set m4 (.vec 68 g4 6 C false)).set b8 (.box [.vs m4 g4 6 0 (i+1)])) rfl GH.aY (by rw[GH.ay,if_neg Sv,GH.aY]) (λm h1 h2=>by rw[GH.ay,if_neg h2,GH.ay,if_neg h1])
    rw[GW]
    try simp at hend
    exact⟨by omega,⟨Bz,hend⟩,Bz,hend⟩
 have hj0:J 0 (((H2.add .qI).add (x.go .ready none)).add (.box [nC (D+1) (D+2)])):=by
  rw[hJ];refine⟨?_,?_,?_,λm hm hne=>?_,.d (.k (.slice none 0 0)),?_,?_⟩
  ·rw[GH.ax,xu,if_pos rfl]
  ·rw[GH.ax,xu,if_neg (by omega),GH.ax,GH.aq,hD,if_pos rfl]
  ·rw[GH.ax,xu,if_neg (by omega),GH.ax,GH.aq,hD,if_neg (by omega),GH.ax,hD,if_pos rfl]
  ·rw[GH.ax,xu,if_neg (by omega),GH.ax,GH.aq,hD,if_neg (by omega),GH.ax,hD,if_neg (by omega)]
  ·rw[GH.ax,xu,if_neg (by omega),GH.ax,GH.aq,hD,if_neg (by omega),GH.ax,hD,if_neg (by omega)];exact oo
  ·exact KI.nil (by rw[GH.aq,xu];omega)
 have hkw:=L0 (n:=D+1) (e:=e) (J:=J) ((H2.add .qI).add (x.go .ready none)) (by rw[xu];exact hI) (by rw[xu];omega) (by rw[xu];exact hj0)
 rw[hD];refine hkw.mono λce H3 hR=>?_
 obtain⟨⟨v,hv⟩,hle,hj⟩:=hR;subst hv;rw[hJ]at hj;obtain⟨q0,q1,q2,q4,y,q5,q6⟩:=hj;refine⟨.ready,none,q1,by simp,?_⟩
 simp[yz,F2];rw[List.take_length]at q6;have hne:(bc e).map aS≠[]:=by
  obtain⟨op,name,n,fold,aD,kids⟩:=e;simp[bc]
 obtain⟨nv,gv,k1,k2,k3,k4,k5⟩:=q6.is.resolve_left (λq=>hne q.1)
 simp only at k1;subst k3;obtain⟨H4,NW⟩:∃H4,H3.set (D+1) (x.go .exhausted none)=H4:=⟨_,rfl⟩;have n4:H4.next=H3.next:=by rw[<-NW];rfl
 have o4:∀m,m≠D+1->H4.obj m=H3.obj m:=λm hm=>by rw[<-NW,GH.ay,if_neg hm]
 rw[NW];have ov4:H4.obj nv=some (.vec 68 gv 6 (bM ((bc e).map aS)) false):=by rw[o4 _ (by omega)];exact k4
 have ob4:H4.obj b8=some (.box [.vs nv gv 6 0 ((bc e).map aS).length]):=by rw[o4 _ (by omega)];exact q5
 have od4:H4.obj D=some .qI:=by rw[o4 _ (by omega)];exact q2
 have ol4:∀m,m<H.next->H4.obj m=H.obj m:=λm hm=>by rw[o4 _ (by omega),q4 m (by omega) (by omega)];exact ol m hm
 refine AW.cM (n:=nv) (g:=gv) (sz:=6) (e:=68) (ex:=false) ((bc e).map aS) ov4 rfl (λr hr=>by obtain⟨_,_,rfl⟩:=List.mem_map.1 hr;simp) ?_
 refine AW.ev cc ?_;have bo9:b8≠nv:=by omega
 simp[ob4,bo9];refine λ_=>⟨⟨by omega,.qI,by rw[hD];exact od4,rfl⟩,aL (by simp only;omega) (λm hm=>?_) hw.none,?_⟩
 ·simp only[mg];rw[if_neg (by omega)]
  exact kH hw (show H.next<=nv by omega) (λk hk=>ol4 k hk) hm
 ·rw[he];exact List.take_of_length_le (by simp)
theorem Md(p:Prog)(hs:∀s∈p.az++an p,cN s)(l:List Event)(d:Nat)(hd:d<p.ai.length)(node:Nat)(hn:node<(bc p.ai[d].exp).length)(ha:dR p l=true){ai:List cg}(hk:dw p l=some ai)(nr:ai.length=p.ai.length)(zd:∀b∈ai,bB b)(Wc:iP p (bc p.ai[d].exp)[node])
  {x:Item} {t:List Item} (hb:cZ p ⟨fH p l,ai⟩ 200 (bc p.ai[d].exp)[node]=some (x::t)) (htl:t.length<=1000):aC prog 30 [lv (ar p),sl (l.map aQ),aH d,aH node] (.dh [b9 (x::t),aH 0]):=by
 intro H;have cc:=au (p:=bf [4] [] []);refine aG.dG (au (p:=bf [4] [] [])) func30 rfl call30 (by rw[ntmps30];simp) rfl λhf hw=>?_
 have h1:=p9 p hs l;obtain⟨hp,hl,hi⟩:=iO ha;have Sy:=mU hp;have hkn:=uJ p hs hp (by have:=Sy.s1;omega) (by have:=Sy.s4;omega) (fA hp) Sy.dif (jb hp) l hl hi H
 have hpa:=zX p hp d hd;obtain⟨L,hL⟩:∃L,bc p.ai[d].exp=L:=⟨_,rfl⟩;obtain⟨e,he⟩:∃e,(bc p.ai[d].exp)[node]=e:=⟨_,rfl⟩;rw[he]at Wc hb;simp only[hL]at hpa hn he;rw[ha]at h1;have lX:=ER x t htl;simp[ar]at h1 hkn hpa lX;simp[ntmps30,results30,ar]at hf|-;refine AW.seq cc ?_;simp;refine AW.seq cc ?_;simp;refine EC.aJ h1 ?_;have BE:¬((p.ai.length:Int)<=d):=by omega
 have hd2:¬((d:Int)<0):=by omega
 simp[BE,hd2];refine AW.seq cc ?_;simp;refine EC.aJ hpa ?_;simp;have wJ:¬((L.length:Int)<=node):=by omega
 have hn2:¬((node:Int)<0):=by omega
 refine AW.seq cc ?_;simp[wJ,hn2];refine AW.seq cc ?_;simp;refine EC.of hkn (λv H2 hR=>?_) (λv H2 hR=>by
  unfold nj at hR;rw[hk]at hR;obtain⟨_,_,_,_,_,q,_⟩:=hR;cases q)
 unfold nj at hR;rw[hk]at hR;obtain⟨n,ms,mn,mv,ma,q1,q2,hW,q4,q5,q6⟩:=hR;cases q1;have Py:∀b∈fH p l,bB b:=λb hb=>by
  obtain⟨i,_,rfl⟩:=List.mem_map.1 hb;exact sY hl hi (i:Nat)
 have hex:=sQ (W:=⟨fH p l,ai⟩) Py zd (top:=200) (Int.le_refl _) _ e (Nat.lt_succ_self _) Wc H2 hW;rw[hb]at hex;simp[aj]at hex;simp;refine AW.ev cc ?_;have hLe:L[node]?=some e:=by rw[List.getElem?_eq_getElem hn,he]
 have ln:n<H2.next:=q6.lt hW.La.ob;simp[hn,he,aj];refine⟨ln,EC.of hex (λv H3 hR=>?_) (λv H3 hR=>by cases hR.2)⟩
 obtain⟨hE,hv⟩:=hR;cases hv;rw[hE];simp[b9];refine EC.aJ lX ?_;simp;exact λhz=>⟨aL q4 q5 hw.none,rfl⟩
section
variable {p:Prog} {S:List cg} (hS:∀b∈S,bB b) (he:∀(d:Nat) (h:d<p.ai.length),iP p p.ai[d].exp)
include hS he
theorem Ik{T:Int}(hT:T<=200):∀(g:List Nat),(∀d∈g,d<p.ai.length)->∀(ai D:List cg),fq p S T g ai=some D->(∀b∈ai,bB b)->D.length=ai.length/\∀b∈D,bB b
 |[],_,ai,D,h,hd=>by rw[fq]at h;cases h;exact⟨rfl,hd⟩
 |d::g,hg,ai,D,h,hd=>by
  rw[fq]at h
  split at h
  ·cases h
  ·rename_i defs1 h1;rw[tT]at h1
   split at h1
   ·cases h1
   ·rename_i b hb;have e1:defs1=ai.set d b:=(Option.some.inj h1).symm;subst e1;have nr:=hg d (List.mem_cons_self ..);have hb':cZ p ⟨S,ai⟩ T p.ai[d].exp=some b:=by
     have:=fS nr;unfold cQ at this;rw[<-this];exact hb
    have F9:bB b:=lZ (W:=⟨S,ai⟩) hS hd hT _ _ (Nat.lt_succ_self _) (he d nr) b hb';have ih:=Ik hT g (λk hk=>hg k (List.mem_cons_of_mem _ hk)) _ D h λc hc=>by
     rcases List.mem_or_eq_of_mem_set hc with q|q
     ·exact hd c q
     ·rw[q];exact F9
    exact⟨by rw[ih.1,List.length_set],ih.2⟩
theorem Hl{far:Int}{g:List Nat}(hg:∀d∈g,d<p.ai.length):∀(f:Nat) (top:Int),top<=200->∀(ai D:List cg),fV p S far g f top ai=some D->(∀b∈ai,bB b)->D.length=ai.length/\∀b∈D,bB b
 |0,_,_,ai,D,h,hd=>by rw[fV]at h;cases h;exact⟨rfl,hd⟩
 |f+1,top,ht,ai,D,h,hd=>by
  rw[fV]at h
  split at h
  ·cases h
  ·rename_i d1 h1;have hp:=Ik hS he ht g hg ai d1 h1 hd
   split at h
   ·cases h;exact hp
   ·have hm:gW (top+far) 200<=200:=by unfold gW;split<;>omega
    have ih:=Hl hg f _ hm d1 D h hp.2;exact⟨ih.1.trans hp.1,ih.2⟩
theorem BI:∀(gs:List (List Nat)),(∀g∈gs,∀d∈g,d<p.ai.length)->∀(ai D:List cg),dX p S gs ai=some D->(∀b∈ai,bB b)->D.length=ai.length/\∀b∈D,bB b
 |[],_,ai,D,h,hd=>by rw[dX]at h;cases h;exact⟨rfl,hd⟩
 |g::gs,hg,ai,D,h,hd=>by
  rw[dX]at h
  split at h
  ·cases h
  ·rename_i d1 h1;have hm:gW (tJ p g-1) 200<=200:=by unfold gW;split<;>omega
   have hp:=Hl hS he (hg g (List.mem_cons_self ..)) 202 _ hm ai d1 h1 hd;have ih:=BI gs (λg' hg'=>hg g' (List.mem_cons_of_mem _ hg')) d1 D h hp.2
   exact⟨ih.1.trans hp.1,ih.2⟩
end
theorem vV{p:Prog}{l:List Event}(ha:dR p l=true){ai:List cg}(h:dw p l=some ai):ai.length=p.ai.length/\∀b∈ai,bB b:=by
 obtain⟨hp,hl,hi⟩:=iO ha;have Eh:=(jj (p:=p) p.ai.length [] (λx hx=>absurd hx List.not_mem_nil)).1
 have:=BI (p:=p) (S:=fH p l) (λb hb=>by
  obtain⟨i,_,rfl⟩:=List.mem_map.1 hb;exact sY hl hi (i:Nat)) (jb hp) (gK p.ai.length (aZ p)) (λg hg d hd=>(Eh g hg).1.lt hd) _ ai h λb hb=>by rw[List.eq_of_mem_replicate hb];exact⟨.nil,by simp,by simp⟩
 exact⟨by rw[this.1];simp,this.2⟩
theorem tw:dR jV GX=true:=by
 have h1:decide (GX.length<=60)=true:=by decide
 have h2:sA GX=true:=by decide+kernel
 have h3:iR (GX.map BY) jV.az.length=true:=by decide+kernel
 have h4:=mX;simp[dR,h4,h2,h3]
 decide
def xz:bh:=.mk 7 0 [.mk 5 0 [],.mk 2 0 []]
theorem JY:I1 xz ⟨10,1,5⟩ 7/\eE ⟨10,1,5⟩ 7 xz= -3:=by decide+kernel
theorem S9:qG 2 [⟨⟨10,1,5⟩,3⟩]=.dh [aH 15,aH 0]:=by
 have h1:gH [⟨⟨10,1,5⟩,3⟩]=true:=by decide+kernel
 have h2:foldI 2 [⟨⟨10,1,5⟩,3⟩]=15:=by decide+kernel
 unfold qG;rw[if_pos ⟨by omega,by omega,h1⟩,if_neg (by simp),h2]
theorem PZ:qG 2 []=.dh [aH 0,aH 5]:=by
 have h1:gH []=true:=by decide+kernel
 unfold qG;rw[if_pos ⟨by omega,by omega,h1⟩,if_pos rfl]
end Go.Aft
end
section
set_option maxRecDepth 20000
namespace Go.Aft
open Go.Proofs.Tryz
theorem ez(x:Item):∀r∈[ak x],r.length=4:=λr hr=>by simp only[List.mem_singleton]at hr;subst hr;rfl
theorem cU(l:List Item)(x:Item):l.map ak++[ak x]=(l++[x]).map ak:=by simp
theorem mW(f:Item->Bool)(l:List Item)(i:Nat):((l.take i).filter f).length<=i:=Nat.le_trans (List.length_filter_le _ _) (by simp;omega)
theorem sw(f:Item->Bool)(l:List Item)(x:Item):(l++[x]).filter f=l.filter f++(if f x=true then[x]else[]):=by
 rw[List.filter_append];cases h:f x<;>simp[h]
theorem xV(l:List Item)(n:Int)(hl:l.length<=1000)(hb:∀x∈l,0<=x.aa.at_/\x.aa.at_<=200)(hn:-50<=n/\n<=50):aC prog 201 [sl (l.map ak),aH n] (sl ((dP n l).map ak)):=by
 intro H;have cc:=au (p:=bf [] [] []);refine aG.bG (au (p:=bf [] [] [])) func201 rfl call201 (by rw[ntmps201];simp) rfl λhf hw=>?_
 simp[ntmps201,results201]at hf|-;refine AW.aV cc (λs:Nat×LV×GH=>⟨[(0,sl (l.map ak)),(1,aH n),(5,s.2.1),(6,aH s.1)],[],s.2.2⟩) (λs=>l.length-s.1)
  (λs=>s.1<=l.length/\cu 86 4 H s.2.1 ((dP n (l.take s.1)).map ak) s.2.2) (0,.d (.k (.slice none 0 0)),H) ⟨⟨Nat.zero_le _,cu.nil⟩,by simp⟩ ?_
 rintro⟨i,y,H2⟩ ⟨hi,aA⟩;simp only at hi aA;simp;refine⟨λh=>?_,λh=>?_⟩
 ·obtain⟨x,dc⟩:∃x,l[i]=x:=⟨_,rfl⟩;have Wd:=hb x (dc▸List.getElem_mem h);have gx:l.take (i+1)=l.take i++[x]:=by rw[<-aR h,dc]
  have eM:=aB (n:=9223372036854775807) (show i<9223372036854775807 by omega)
  have hwa:IntKind.i64.wrap (x.aa.at_+n)=x.aa.at_+n:=by rw[wrap64]<;>omega
  have dK:dP n (l.take i++[x])=dP n (l.take i)++[⟨⟨x.aa.at_+n,x.aa.key,x.aa.val⟩,x.n⟩]:=by simp[dP]
  rw[<-gx]at dK;have GV:(dP n (l.take i)).length<=i:=by simp[dP];omega
  simp[h,List.getElem?_eq_getElem h,dc,ak,aA.plain.all,hwa];refine eO.dU (ys:=[ak ⟨⟨x.aa.at_+n,x.aa.key,x.aa.val⟩,x.n⟩]) fk rfl dZ (by simp) (x:=y) (by simp) aA (by simp[ak,rowsOf]) (by simp) (bp _) (ez _) (by simp only[List.length_map,List.length_singleton];omega) (by simp) λx' H3 aF _ _=>?_
  simp[aF.plain.all,aF.only,eM];rw[cU,<-dK]at aF;exact NX.go (i+1,x',H3) (by simp only;omega) ⟨h,aF⟩ (by simp[aF.only])
 ·have:i=l.length:=by omega
  subst this;rw[List.take_length]at aA;simp[aA.plain.all];exact λhz=>⟨H,aL aA.nx aA.ob hw.none,by rw[aA.fz];trivial,aA.fz,rfl⟩
theorem nG(l:List Item)(k lo hi:Int)(hl:l.length<=1000):aC prog 236 [sl (l.map ak),aH k,aH lo,aH hi] (sl ((dN l k lo hi).map ak)):=by
 intro H;have cc:=au (p:=bf [] [] []);refine aG.bG (au (p:=bf [] [] [])) func236 rfl call236 (by rw[ntmps236];simp) rfl λhf hw=>?_
 simp[ntmps236,results236]at hf|-;refine AW.aV cc (λs:Nat×LV×GH=>⟨[(0,sl (l.map ak)),(1,aH k),(2,aH lo),(3,aH hi),(9,s.2.1),(10,aH s.1)],[],s.2.2⟩) (λs=>l.length-s.1)
  (λs=>s.1<=l.length/\cu 86 4 H s.2.1 ((dN (l.take s.1) k lo hi).map ak) s.2.2) (0,.d (.k (.slice none 0 0)),H) ⟨⟨Nat.zero_le _,cu.nil⟩,by simp⟩ ?_
 rintro⟨i,y,H2⟩ ⟨hi',aA⟩;simp only at hi' aA;simp;refine⟨λh=>?_,λh=>?_⟩
 ·obtain⟨x,dc⟩:∃x,l[i]=x:=⟨_,rfl⟩;have gx:l.take (i+1)=l.take i++[x]:=by rw[<-aR h,dc]
  have eM:=aB (n:=9223372036854775807) (show i<9223372036854775807 by omega)
  have dK:=sw (λx=>decide (x.aa.key=k/\lo<=x.aa.at_/\x.aa.at_<=hi)) (l.take i) x
  rw[<-gx]at dK;have GV:=mW (λx=>decide (x.aa.key=k/\lo<=x.aa.at_/\x.aa.at_<=hi)) l i
  simp[h,List.getElem?_eq_getElem h,dc,ak,aA.plain.all];refine⟨λq1 q2 q3=>?_,λq=>?_⟩
  ·refine eO.dU (ys:=[ak x]) vu rfl dZ (by simp) (x:=y) (by simp) aA (by simp[ak,rowsOf]) (by simp) (bp _) (ez _) (by simp only[List.length_map,List.length_singleton,dN];omega) (by simp) λx' H3 aF _ _=>?_
   simp[aF.plain.all,aF.only,eM];rw[if_pos (decide_eq_true ⟨q1,q2,q3⟩)]at dK;rw[cU,dN,<-dK]at aF;exact NX.go (i+1,x',H3) (by simp only;omega) ⟨h,aF⟩ (by simp[aF.only])
  ·rw[if_neg (by simp;omega),List.append_nil]at dK
   refine NX.go (i+1,y,H2) (by simp only;omega) ⟨h,?_⟩ (by simp[aA.only,eM])
   simp only[dN]at aA|-;rw[dK];exact aA
 ·have:i=l.length:=by omega
  subst this;rw[List.take_length]at aA;simp[aA.plain.all];exact λhz=>⟨H,aL aA.nx aA.ob hw.none,by rw[aA.fz];trivial,aA.fz,rfl⟩
def qn(lo hi:Int)(l:List Item):List Item:=l.filter λx=>decide (lo<=x.aa.at_/\x.aa.at_<=hi)
theorem oG(l:List Item)(lo hi:Int)(hl:l.length<=1000000):aC prog 36 [sl (l.map ak),aH lo,aH hi] (sl ((qn lo hi l).map ak)):=by
 intro H;have cc:=au (p:=bf [] [] []);refine aG.bG (au (p:=bf [] [] [])) func36 rfl call36 (by rw[ntmps36];simp) rfl λhf hw=>?_
 simp[ntmps36,results36]at hf|-;refine AW.aV cc (λs:Nat×LV×GH=>⟨[(1,aH lo),(2,aH hi),(7,s.2.1),(10,sl (l.map ak)),(11,aH l.length),(12,aH s.1)],[],s.2.2⟩) (λs=>l.length-s.1)
  (λs=>s.1<=l.length/\cu 86 4 H s.2.1 ((qn lo hi (l.take s.1)).map ak) s.2.2) (0,.d (.k (.slice none 0 0)),H) ⟨⟨Nat.zero_le _,cu.nil⟩,by simp⟩ ?_
 rintro⟨i,y,H2⟩ ⟨hi',aA⟩;simp only at hi' aA;simp;refine⟨λh=>?_,λh=>?_⟩
 ·obtain⟨x,dc⟩:∃x,l[i]=x:=⟨_,rfl⟩;have gx:l.take (i+1)=l.take i++[x]:=by rw[<-aR h,dc]
  have eM:=aB (n:=9223372036854775807) (show i<9223372036854775807 by omega)
  have dK:=sw (λx=>decide (lo<=x.aa.at_/\x.aa.at_<=hi)) (l.take i) x
  rw[<-gx]at dK;have GV:=mW (λx=>decide (lo<=x.aa.at_/\x.aa.at_<=hi)) l i
  simp[h,List.getElem?_eq_getElem h,dc,ak,aA.plain.all];refine⟨λq1 q2=>?_,λq=>?_⟩
  ·refine eO.dU (ys:=[ak x]) vu rfl dZ (by simp) (x:=y) (by simp) aA (by simp[ak,rowsOf]) (by simp) (bp _) (ez _) (by simp only[List.length_map,List.length_singleton,qn];omega) (by simp) λx' H3 aF _ _=>?_
   simp[aF.plain.all,aF.only,eM];rw[if_pos (decide_eq_true ⟨q1,q2⟩)]at dK;rw[cU,qn,<-dK]at aF;exact NX.go (i+1,x',H3) (by simp only;omega) ⟨h,aF⟩ (by simp[aF.only])
  ·rw[if_neg (by simp;omega),List.append_nil]at dK
   exact NX.go (i+1,y,H2) (by simp only;omega) ⟨h,by simp only[qn]at aA|-;rw[dK];exact aA⟩ (by simp[aA.only,eM])
 ·have:i=l.length:=by omega
  subst this;rw[List.take_length]at aA;simp[aA.plain.all];exact λhz=>⟨H,aL aA.nx aA.ob hw.none,by rw[aA.fz];trivial,aA.fz,rfl⟩
theorem Al(l:List Item)(r:Rec)(n:Int)(hl:l.length<=1000)(hr:0<=r.at_/\r.at_<=200)(hn:-50<=n/\n<=50):aC prog 206 [sl (l.map ak),lv (bE r),aH n] (sl ((dN l r.key (r.at_-n) (r.at_+n)).map ak)):=by
 intro H;have cc:=au (p:=bf [4] [] []);refine aG.bG (au (p:=bf [4] [] [])) func206 rfl call206 (by rw[ntmps206];simp) rfl λhf hw=>?_
 have hwa:IntKind.i64.wrap (r.at_+n)=r.at_+n:=by rw[wrap64]<;>omega
 have Si:IntKind.i64.wrap (r.at_-n)=r.at_-n:=by rw[wrap64]<;>omega
 simp[ntmps206,results206,bE]at hf|-;refine AW.aV cc (λs:Nat×LV×GH=>⟨[(0,sl (l.map ak)),(2,aH n),(4,.ip [aH r.at_,aH r.key,aH r.val] 0),(7,s.2.1),(8,aH s.1)],[],s.2.2⟩) (λs=>l.length-s.1)
  (λs=>s.1<=l.length/\cu 86 4 H s.2.1 ((dN (l.take s.1) r.key (r.at_-n) (r.at_+n)).map ak) s.2.2) (0,.d (.k (.slice none 0 0)),H) ⟨⟨Nat.zero_le _,cu.nil⟩,by simp⟩ ?_
 rintro⟨i,y,H2⟩ ⟨hi',aA⟩;simp only at hi' aA;simp;refine⟨λh=>?_,λh=>?_⟩
 ·obtain⟨x,dc⟩:∃x,l[i]=x:=⟨_,rfl⟩;have gx:l.take (i+1)=l.take i++[x]:=by rw[<-aR h,dc]
  have eM:=aB (n:=9223372036854775807) (show i<9223372036854775807 by omega)
  have dK:=sw (λx=>decide (x.aa.key=r.key/\r.at_-n<=x.aa.at_/\x.aa.at_<=r.at_+n)) (l.take i) x
  rw[<-gx]at dK;have GV:=mW (λx=>decide (x.aa.key=r.key/\r.at_-n<=x.aa.at_/\x.aa.at_<=r.at_+n)) l i
  refine AW.draw cc [] (.q 0<|.q 1<|.q 2<|.q 3<|.q 4<|.q 6<|.q 5<|.q 7<|.q 8<|.q 9<|.q 10<|.q 11<|.q 12<|.q 13<|.q 14<|.q 16<|.q 18<|.q 15<|.q 17<|.q 19<|.q 20<|.q 21<|.q 22<|.q 23<|.q 24<|.q 25<|.q 26<|.q 27<|.q 29<|.q 31<|.q 28<|.q 30<|.q 32<|.q 33<|.q 34<|.done) (by kernel_rfl) ?_
  simp[h,List.getElem?_eq_getElem h,dc,ak,aA.plain.all,hwa,Si];refine⟨λq1 q2 q3=>?_,λq=>?_⟩
  ·refine eO.dU (ys:=[ak x]) fk rfl dZ (by simp) (x:=y) (by simp) aA (by simp[ak,rowsOf]) (by simp) (bp _) (ez _) (by simp only[List.length_map,List.length_singleton,dN];omega) (by simp) λx' H3 aF _ _=>?_
   simp[aF.plain.all,aF.only,eM];rw[if_pos (decide_eq_true ⟨q1,by omega,by omega⟩)]at dK
   rw[cU,dN,<-dK]at aF;exact NX.go (i+1,x',H3) (by simp only;omega) ⟨h,aF⟩ (by simp[aF.only])
  ·rw[if_neg (by simp;omega),List.append_nil]at dK
   refine NX.go (i+1,y,H2) (by simp only;omega) ⟨h,?_⟩ (by simp[aA.only,eM])
   simp only[dN]at aA|-;rw[dK];exact aA
 ·have:i=l.length:=by omega
  subst this;rw[List.take_length]at aA;simp[aA.plain.all];exact λhz=>⟨H,aL aA.nx aA.ob hw.none,by rw[aA.fz];trivial,aA.fz,rfl⟩
theorem Ls(l:List Item):aC prog 145 [sl (l.map ak)] (.d (.k (.bool (gZ l)))):=by
 have cc:=au (p:=bf [] [] []);refine aC.body (au (p:=bf [] [] [])) func145 rfl call145 (by rw[ntmps145];simp) rfl λhf H=>?_
 simp[ntmps145,results145]at hf|-;refine⟨λq=>?_,λq=>?_⟩
 ·have h2:¬l.length<=300:=by omega
  simp[gZ,h2]
 have h3:l.length<=300:=by omega
 refine AW.aV cc (λi:Nat=>⟨[(0,sl (l.map ak)),(3,aH i)],[],H⟩) (λi=>l.length-i) (λi=>i<=l.length/\∀x∈l.take i,x.n<=1000000) 0 ⟨⟨Nat.zero_le _,by simp⟩,by simp⟩ ?_
 rintro i ⟨hi,hall⟩;simp;refine⟨λh=>?_,λh=>?_⟩
 ·obtain⟨x,dc⟩:∃x,l[i]=x:=⟨_,rfl⟩;have gx:l.take (i+1)=l.take i++[x]:=by rw[<-aR h,dc]
  have eM:=aB (n:=9223372036854775807) (show i<9223372036854775807 by omega)
  simp[h,List.getElem?_eq_getElem h,dc,ak];refine⟨λq=>?_,λq=>?_⟩
  ·simp only[gZ,Bool.eq_false_iff,ne_eq,Bool.and_eq_true,List.all_eq_true,decide_eq_true_eq,not_and];intro _ w;have:=w x (dc▸List.getElem_mem h);omega
  ·refine NX.go (i+1) (by omega) ⟨h,λz hz=>?_⟩ (by simp[eM])
   rw[gx]at hz;rcases List.mem_append.1 hz with w|w
   ·exact hall z w
   ·rw[List.mem_singleton.1 w];omega
 ·have:i=l.length:=by omega
  subst this;rw[List.take_length]at hall;simp only[gZ,Bool.and_eq_true,List.all_eq_true,decide_eq_true_eq];simp[h3];exact λx hx=>hall x hx
theorem Dz(l:List Item)(y:Item)(hl:l.length<=1000000):aC prog 237 [sl (l.map ak),lv (ak y)] (.d (.k (.bool (decide (y∈l))))):=by
 have cc:=jG (p:=bf [3] [] []);refine aC.body (jG (p:=bf [3] [] [])) func237 rfl call237 (by rw[ntmps237];simp) rfl λhf H=>?_
 simp[ntmps237,results237]at hf|-;refine AW.aV cc (λi:Nat=>⟨[(0,sl (l.map ak)),(3,.ip ((ak y).map .d) 0),(5,aH i)],[],H⟩) (λi=>l.length-i) (λi=>i<=l.length/\y∉l.take i) 0 ⟨⟨Nat.zero_le _,by simp⟩,by simp[ak]⟩ ?_
 rintro i ⟨hi,hall⟩;simp;refine⟨λh=>?_,λh=>?_⟩
 ·obtain⟨x,dc⟩:∃x,l[i]=x:=⟨_,rfl⟩;have Wd:x∈l:=dc▸List.getElem_mem h;have gx:l.take (i+1)=l.take i++[x]:=by rw[<-aR h,dc]
  have eM:=aB (n:=9223372036854775807) (show i<9223372036854775807 by omega)
  have hxy:x=y↔x.aa.at_=y.aa.at_/\x.aa.key=y.aa.key/\x.aa.val=y.aa.val/\x.n=y.n:=by
   obtain⟨⟨a,b,c⟩,d⟩:=x;obtain⟨⟨a',b',c'⟩,d'⟩:=y;simp;simp[and_assoc]
  refine AW.draw cc [] (.q 0<|.q 1<|.q 2<|.q 3<|.q 4<|.q 5<|.done) (by kernel_rfl) ?_
  simp[h,List.getElem?_eq_getElem h,dc,ak];refine⟨λq1 q2 q3 q4=>(hxy.2 ⟨q1,q2,q3,q4⟩)▸Wd,λq=>?_⟩
  refine NX.go (i+1) (by omega) ⟨h,λw=>?_⟩ (by simp[eM,ak])
  rw[gx]at w;rcases List.mem_append.1 w with w|w
  ·exact hall w
  ·have e:=hxy.1 (List.mem_singleton.1 w).symm;exact q e.1 e.2.1 e.2.2.1 e.2.2.2
 ·have:i=l.length:=by omega
  subst this;rw[List.take_length]at hall;simp[hall]
end Go.Aft
end
section
set_option maxRecDepth 20000
namespace Go.Aft
def eD(gen:Item->Option Rec)(b:List Item):List Item:=b.foldl (λout x=>match gen x with
 |none=>out
 |some r=>if(⟨r,1⟩:Item)∈out then out else out++[⟨r,1⟩]) []
theorem kY(gen:Item->Option Rec)(b:List Item)(x:Item):eD gen (b++[x])=match gen x with
 |none=>eD gen b
 |some r=>if(⟨r,1⟩:Item)∈eD gen b then eD gen b else eD gen b++[⟨r,1⟩]:=by
 rw[eD,List.foldl_append];rfl
theorem tu(gen:Item->Option Rec)(r:Rec):∀b:List Item,Xm (bS (eD gen b) r) (∃x∈b,gen x=some r)/\((⟨r,1⟩:Item)∈eD gen b↔∃x∈b,gen x=some r):=by
 refine iI ⟨⟨λ⟨x,h,_⟩=>absurd h List.not_mem_nil,λ_=>rfl⟩,⟨λh=>absurd h List.not_mem_nil,λ⟨x,h,_⟩=>absurd h List.not_mem_nil⟩⟩ λb x ih=>?_
 rw[kY];have hiff:(∃y∈b++[x],gen y=some r)↔(∃y∈b,gen y=some r)\/ gen x=some r:=by
  constructor
  ·rintro⟨y,hy,q⟩;rcases List.mem_append.1 hy with h|h
   ·exact .inl ⟨y,h,q⟩
   ·rw[List.mem_singleton.1 h]at q;exact .inr q
  ·rintro(⟨y,hy,q⟩|q)
   ·exact⟨y,List.mem_append_left _ hy,q⟩
   ·exact⟨x,List.mem_append_right _ (List.mem_singleton.2 rfl),q⟩
 cases hg:gen x with
 |none=>
  simp only;have h2:(∃y∈b,gen y=some r)↔(∃y∈b++[x],gen y=some r):=by rw[hiff,hg];simp
  exact⟨ih.1.congr h2,ih.2.trans h2⟩
 |some s=>
  simp only;by_cases e:s=r
  ·subst e;have h2:(∃y∈b++[x],gen y=some s):=hiff.2 (.inr hg)
   split
   ·rename_i hm;have h3:=ih.2.1 hm;exact⟨ih.1.congr ⟨λ_=>h2,λ_=>h3⟩,⟨λ_=>h2,λ_=>hm⟩⟩
   ·rename_i hm;have h3:¬∃y∈b,gen y=some s:=λq=>hm (ih.2.2 q)
    refine⟨⟨λ_=>?_,λq=>absurd h2 q⟩,⟨λ_=>h2,λ_=>by simp⟩⟩
    rw[lq,ih.1.2 h3];simp[bS]
  ·have h2:(∃y∈b,gen y=some r)↔(∃y∈b++[x],gen y=some r):=by rw[hiff,hg];simp[e]
   split
   ·exact⟨ih.1.congr h2,ih.2.trans h2⟩
   ·refine⟨?_,?_⟩
    ·rw[lq];have:bS [(⟨s,1⟩:Item)] r=0:=by simp[bS,e]
     rw[this,Int.add_zero];exact ih.1.congr h2
    ·rw[<-h2,<-ih.2,List.mem_append];have:¬(⟨r,1⟩:Item)∈[(⟨s,1⟩:Item)]:=λq=>e (by have:=List.mem_singleton.1 q;injection this with h1 _;exact h1.symm)
     exact⟨λq=>q.resolve_right this,.inl⟩
def AZ(o:Option Item)(y:Item):Bool:=match o with
 |none=>true
 |some z=>decide (z.aa.at_<y.aa.at_\/ y.aa.at_=z.aa.at_/\z.aa.val<y.aa.val)
def Bk(b:List Item)(r:Rec):Option Item:=b.foldl (λo y=>if y.aa.key=r.key/\y.aa.at_<=r.at_/\AZ o y=true then some y else o) none
theorem Bj(b:List Item)(r:Rec)(y:Item):Bk (b++[y]) r=if y.aa.key=r.key/\y.aa.at_<=r.at_/\AZ (Bk b r) y=true then some y else Bk b r:=by
 unfold Bk;rw[List.foldl_append];rfl
theorem Ja(r:Rec):∀b:List Item,pG b->(∀x∈b,0<=x.aa.at_)->Bk b r=(dN b r.key 0 r.at_).getLast?:=by
 refine iI (λ_ _=>rfl) λb y ih hb h0=>?_
 have hb':=List.pairwise_append.1 hb;have ih:=ih hb'.1 λx hx=>h0 x (List.mem_append_left _ hx)
 have hy0:=h0 y (by simp)
 have hw:dN (b++[y]) r.key 0 r.at_=dN b r.key 0 r.at_++(if y.aa.key=r.key/\y.aa.at_<=r.at_ then[y]else[]):=by
  rw[dN,List.filter_append,dN]
  congr 1
  by_cases q:y.aa.key=r.key/\y.aa.at_<=r.at_
  ·rw[if_pos q,List.filter_cons_of_pos (by simp[q.1,q.2,hy0]),List.filter_nil]
  ·rw[if_neg q,List.filter_cons_of_neg (by simp;intro h1 h2;exact Int.not_le.1 λh3=>q ⟨h1,h3⟩),List.filter_nil]
 rw[Bj,hw,ih];by_cases q:y.aa.key=r.key/\y.aa.at_<=r.at_
 ·rw[if_pos q,List.getLast?_concat];rw[if_pos];refine⟨q.1,q.2,?_⟩;cases hl:(dN b r.key 0 r.at_).getLast? with
  |none=>rfl
  |some z=>
   have hz:=mA.1 (List.mem_of_getLast? hl);have:=hb'.2.2 z hz.1 y (by simp)
   simp only[cO,decide_eq_true_eq]at this;have hk:z.aa.key=y.aa.key:=by rw[hz.2.1,q.1]
   exact decide_eq_true (by omega)
 ·rw[if_neg q,List.append_nil,if_neg λw=>q ⟨w.1,w.2.1⟩]
def uo(c:bh)(b:List Item)(x:Item):List Item:=match Bk b x.aa with
 |none=>[]
 |some y=>[⟨⟨x.aa.at_,x.aa.key,eE x.aa y.aa.val c⟩,x.n⟩]
def mL(p:Prog)(W:bZ)(op:Int)(name:cq)(n f:Int)(cs:List bh)(ks:List cg):List Item:=
 let a:=ks.getD 0 []
 let b:=ks.getD 1 []
 let c:=cs.getD 0 default
 if op=1 then W.az.getD (idx p.az name).toNat []
 else if op=2 then W.ai.getD (idx (an p) name).toNat []
 else if op=3 then dP n (W.ai.getD (idx (an p) name).toNat [])
 else if op=4 then a++b
 else if op=5 then jr c a
 else if op=6 then yL c (cs.getD 1 default) a
 else if op=7 then dP n a
 else if op=8 then eD (ja f 0 (xw n) a) a
 else if op=9 then eD (ja f 0 (wM n) a) a
 else if op=10 then eD (ja f 0 wK a) a
 else if op=11 then eD (ja f n (iK n) a) a
 else if op=12 then a.flatMap (jA n c b)
 else if op=13 then a.flatMap (uo c b)
 else if op=14 then a.filter λx=>(dN b x.aa.key (x.aa.at_-n) (x.aa.at_+n)).isEmpty
 else vJ a
theorem NF{b:List Item}(hb:ow b)(n:Int)(a:List Item):rX n a b=a.filter λx=>(dN b x.aa.key (x.aa.at_-n) (x.aa.at_+n)).isEmpty:=by
 unfold rX;refine List.filter_congr λx _=>?_
 rw[iW hb]
theorem Pe(p:Prog)(W:bZ){op:Int}{name:cq}{n f:Int}{cs:List bh}{ks:List cg}(hk:∀b∈ks,jP b)(h8:op=8->1<=n)(h11:op=11->0<=n)(r:Rec):bS (mL p W op name n f cs ks) r=bS (gu p W op name n f cs ks) r:=by
 have k0:=zx hk 0;have k1:=zx hk 1;have t0:=th k0.1;have t1:=th k1.1;unfold mL gu;simp only;by_cases q1:op=1
 ·rw[if_pos q1,if_pos q1]
 rw[if_neg q1,if_neg q1];by_cases q2:op=2
 ·rw[if_pos q2,if_pos q2]
 rw[if_neg q2,if_neg q2];by_cases q3:op=3
 ·rw[if_pos q3,if_pos q3]
 rw[if_neg q3,if_neg q3];by_cases q4:op=4
 ·rw[if_pos q4,if_pos q4]
 rw[if_neg q4,if_neg q4];by_cases q5:op=5
 ·rw[if_pos q5,if_pos q5]
 rw[if_neg q5,if_neg q5];by_cases q6:op=6
 ·rw[if_pos q6,if_pos q6]
 rw[if_neg q6,if_neg q6];by_cases q7:op=7
 ·rw[if_pos q7,if_pos q7]
 rw[if_neg q7,if_neg q7];by_cases q8:op=8
 ·rw[if_pos q8,if_pos q8];exact(tu _ r _).1.eq (mh (JJ (h8 q8)) t0 k0.2 r) Iff.rfl
 rw[if_neg q8,if_neg q8];by_cases q9:op=9
 ·rw[if_pos q9,if_pos q9];exact(tu _ r _).1.eq (mh HD t0 k0.2 r) Iff.rfl
 rw[if_neg q9,if_neg q9];by_cases q10:op=10
 ·rw[if_pos q10,if_pos q10];exact(tu _ r _).1.eq (mh Hj t0 k0.2 r) Iff.rfl
 rw[if_neg q10,if_neg q10];by_cases q11:op=11
 ·rw[if_pos q11,if_pos q11];exact(tu _ r _).1.eq (mh (Np (h11 q11)) t0 k0.2 r) Iff.rfl
 rw[if_neg q11,if_neg q11];by_cases q12:op=12
 ·rw[if_pos q12,if_pos q12,zk t1]
 rw[if_neg q12,if_neg q12];by_cases q13:op=13
 ·rw[if_pos q13,if_pos q13,zK t1];have e:uo (cs.getD 0 default) (ks.getD 1 [])=wB (cs.getD 0 default) (ks.getD 1 []):=by
   funext x
   rw[uo,wB,Ja x.aa _ k1.1 k1.2];cases(dN (ks.getD 1 []) x.aa.key 0 x.aa.at_).getLast? <;>rfl
  rw[e]
 rw[if_neg q13,if_neg q13];by_cases q14:op=14
 ·rw[if_pos q14,if_pos q14,NF t1]
 rw[if_neg q14,if_neg q14]
mutual
def qH(p:Prog)(W:bZ)(top:Int):bz->Option cg
 |.mk op name n f cs kids=>match sB p W top kids with
  |none=>none
  |some ks=>if gZ (b6 (mL p W op name n f cs ks) top)then some (b6 (mL p W op name n f cs ks) top)else none
def sB(p:Prog)(W:bZ)(top:Int):List bz->Option (List cg)
 |[]=>some []
 |e::es=>match qH p W top e with
  |none=>none
  |some b=>match sB p W top es with
   |none=>none
   |some bs=>some (b::bs)
end
theorem CM{a b:List Item}(h:∀r,bS a r=bS b r)(t:Int):b6 a t=b6 b t:=sO.summed λr _=>h r
mutual
theorem EB{p:Prog}{W:bZ}{top:Int}:∀e:bz,(∀x∈bc e,(x.op=8->1<=x.n)/\(x.op=11->0<=x.n))->qH p W top e=cZ p W top e/\∀b,cZ p W top e=some b->jP b
 |.mk op name n f cs kids,hx=>by
  obtain⟨q1,q2⟩:=BX kids λx hx'=>hx x (by rw[bc];exact List.mem_cons_of_mem _ hx')
  have hx0:=hx (.mk op name n f cs kids) (by rw[bc];exact List.mem_cons_self ..)
  rw[qH,cZ,q1];cases hk:eC p W top kids with
  |none=>exact⟨rfl,λb h=>by cases h⟩
  |some ks=>
   simp only;rw[CM (Pe p W (op:=op) (name:=name) (n:=n) (f:=f) (cs:=cs) (q2 ks hk) hx0.1 hx0.2) top];refine⟨rfl,λb h=>?_⟩
   split at h
   ·cases h;exact jP.summed _ _
   ·cases h
theorem BX{p:Prog}{W:bZ}{top:Int}:∀es:List bz,(∀x∈bn es,(x.op=8->1<=x.n)/\(x.op=11->0<=x.n))->sB p W top es=eC p W top es/\∀ks,eC p W top es=some ks->∀b∈ks,jP b
 |[],_=>⟨by rw[sB,eC],λks h b hb=>by rw[eC]at h;cases h;exact absurd hb List.not_mem_nil⟩
 |e::es,hx=>by
  obtain⟨q1,q2⟩:=EB (p:=p) (W:=W) (top:=top) e λx hx'=>hx x (by rw[bn];exact List.mem_append_left _ hx')
  obtain⟨q3,q4⟩:=BX (p:=p) (W:=W) (top:=top) es λx hx'=>hx x (by rw[bn];exact List.mem_append_right _ hx')
  rw[sB,eC,q1,q3];refine⟨rfl,λks h b hb=>?_⟩
  cases h1:cZ p W top e with
  |none=>rw[h1]at h;cases h
  |some b1=>
   rw[h1]at h;cases h2:eC p W top es with
   |none=>rw[h2]at h;cases h
   |some bs=>
    rw[h2]at h;cases h;rcases List.mem_cons.1 hb with q|q
    ·rw[q];exact q2 _ h1
    ·exact q4 _ h2 b q
end
end Go.Aft
end
