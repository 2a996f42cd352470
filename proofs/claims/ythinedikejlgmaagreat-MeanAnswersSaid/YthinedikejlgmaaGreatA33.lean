import Derived.Test.YthinedikejlgmaaGreatA32
import Derived.Test.YthinedikejlgmaaGreatA25
import Derived.Test.YthinedikejlgmaaGreatA23
import Derived.Test.YthinedikejlgmaaGreatA30
import Derived.Test.YthinedikejlgmaaGreatA18
set_option linter.all false
section
set_option maxRecDepth 20000
namespace Go.Aft
open Go.Proofs.Tryz
def CM(out:List Item)(x:Item):List Item:=match out.getLast? with
 |none=>out++[x]
 |some y=>if y.aa=x.aa then out.dropLast++[⟨y.aa,y.n+x.n⟩]else out++[x]
def nR(l:List Item):List Item:=l.foldl CM []
theorem oQ(l:List Item)(x:Item):nR (l++[x])=CM (nR l) x:=by unfold nR;rw[List.foldl_append];rfl
theorem mc(out:List Item)(y x:Item):CM (out++[y]) x=if y.aa=x.aa then out++[⟨y.aa,y.n+x.n⟩]else out++[y]++[x]:=by
 unfold CM;rw[List.getLast?_concat,List.dropLast_concat]
theorem nT(x:Item):CM [] x=[x]:=rfl
theorem N1(out:List Item)(x:Item)(r:Rec):bQ (CM out x) r=bQ out r+(if x.aa=r then x.n else 0):=by
 rcases List.eq_nil_or_concat out with rfl|⟨l,y,rfl⟩
 ·rw[nT];simp[bQ]
 ·rw[List.concat_eq_append,mc]
  split
  ·rename_i e;rw[kI,kI];simp only[bQ,e]
   split<;>omega
  ·rw[kI];simp only[bQ];omega
theorem SY(r:Rec):∀l:List Item,bQ (nR l) r=bQ l r:=by
 refine iv rfl λl x ih=>?_
 rw[oQ,N1,ih,kI];simp[bQ]
theorem JG:∀l:List Item,NdB l->oZ (nR l)/\(nR l).map (·.aa)⊆l.map (·.aa)/\(nR l).getLast?.map (·.aa)=l.getLast?.map (·.aa):=by
 refine iv (λ_=>⟨.nil,by simp[nR],rfl⟩) λl x ih h=>?_
 have h':=List.pairwise_append.1 h;obtain⟨i1,i2,i3⟩:=ih h'.1;rw[oQ];rcases List.eq_nil_or_concat (nR l)with e|⟨o,y,e⟩
 ·rw[e,nT];refine⟨List.pairwise_singleton _ _,by simp,by simp⟩
 ·rw[List.concat_eq_append]at e;rw[e]at i1 i2 i3|-;have hym:y.aa∈l.map (·.aa):=i2 (by simp)
  have hle:∀z∈l,cM x.aa z.aa=false:=λz hz=>h'.2.2 z hz x (by simp)
  have hyx:cM x.aa y.aa=false:=by
   obtain⟨z,hz,e⟩:=List.mem_map.1 hym;rw[<-e];exact hle z hz
  have hi:=List.pairwise_append.1 i1;rw[mc]
  split
  ·rename_i q;refine⟨List.pairwise_append.2 ⟨hi.1,List.pairwise_singleton _ _,λz hz w hw=>?_⟩,?_,?_⟩
   ·rw[List.mem_singleton.1 hw];exact hi.2.2 z hz y (by simp)
   ·intro r hr;rw[List.map_append]at hr|-;refine List.mem_append_left _ ?_;rcases List.mem_append.1 hr with w|w
    ·exact i2 (by rw[List.map_append];exact List.mem_append_left _ w)
    ·simp at w;rw[w];exact hym
   ·rw[List.getLast?_concat,List.getLast?_concat];simp[q]
  ·rename_i q;have hlt:cM y.aa x.aa=true:=by
    cases w:cM y.aa x.aa with
    |true=>rfl
    |false=>exact absurd (vU w hyx) q
   refine⟨List.pairwise_append.2 ⟨i1,List.pairwise_singleton _ _,λz hz w hw=>?_⟩,?_,by rw[List.getLast?_concat,List.getLast?_concat]⟩
   ·rw[List.mem_singleton.1 hw];rcases List.mem_append.1 hz with v|v
    ·exact ko (hi.2.2 z v y (by simp)) hlt
    ·rw[List.mem_singleton.1 v];exact hlt
   ·intro r hr;rw[List.map_append]at hr|-;rcases List.mem_append.1 hr with w|w
    ·exact List.mem_append_left _ (i2 w)
    ·exact List.mem_append_right _ w
theorem V7{l l':List Item}(hp:l'.Perm l)(hn:NdB l'):(nR l').filter (λx=>decide (x.n≠0))=mR l:=by
 refine vB ((JG l' hn).1.filter _) (λx hx=>by simpa using(List.mem_filter.1 hx).2) λr=>?_
 have h1:=(JG l' hn).1;have h2:bQ ((nR l').filter λx=>decide (x.n≠0)) r=bQ (nR l') r:=by
  have:∀L:List Item,bQ (L.filter λx=>decide (x.n≠0)) r=bQ L r:=λL=>by
   induction L with
   |nil=>rfl
   |cons x L ih=>
    by_cases e:x.n=0
    ·rw[List.filter_cons_of_neg (by simp[e]),ih,bQ]
     split<;>omega
    ·rw[List.filter_cons_of_pos (by simp[e]),bQ,bQ,ih]
  exact this _
 rw[h2,SY];exact wW hp r
theorem SX(l:List Item):(nR l).length<=l.length:=by
 revert l
 refine iv (by simp[nR]) λl x ih=>?_
 rw[oQ];rcases List.eq_nil_or_concat (nR l)with e|⟨o,y,e⟩
 ·rw[e,nT];simp
 ·rw[List.concat_eq_append]at e;rw[e]at ih|-;rw[mc];simp at ih
  split<;>simp<;>omega
theorem V8{M:Int}(hM:0<=M):∀l:List Item,(∀x∈l,1<=x.n/\x.n<=M)->∀x∈nR l,1<=x.n/\x.n<=M*l.length:=by
 refine iv (λ_ x hx=>absurd hx (by simp[nR])) λl x ih h=>?_
 have ih:=ih λy hy=>h y (List.mem_append_left _ hy)
 have hx:=h x (by simp)
 have hml:M*((l.length:Int)+1)=M*l.length+M:=by rw[Int.mul_add,Int.mul_one]
 have h0:0<=M*(l.length:Int):=Int.mul_nonneg hM (by omega)
 rw[oQ];intro z hz;rw[List.length_append,List.length_singleton]
 push_cast
 rw[hml];rcases List.eq_nil_or_concat (nR l)with e|⟨o,y,e⟩
 ·rw[e,nT,List.mem_singleton]at hz;rw[hz];omega
 ·rw[List.concat_eq_append]at e;rw[e]at ih hz;rw[mc]at hz;have hy:=ih y (by simp)
  split at hz
  ·rcases List.mem_append.1 hz with q|q
   ·have:=ih z (List.mem_append_left _ q);omega
   ·rw[List.mem_singleton.1 q];simp only;omega
  ·rcases List.mem_append.1 hz with q|q
   ·have:=ih z q;omega
   ·rw[List.mem_singleton.1 q];omega
theorem GX(l:List Item)(hl:l.length<=1000000)(hn:∀x∈l,1<=x.n/\x.n<=1000000000000):aC prog 37 [sl (l.map ak)] (bY (mR l)):=by
 intro H;obtain⟨l',hp,uk,hsrt⟩:=pq (l.length+1) l (Nat.lt_succ_self _) hl;have hll:l'.length=l.length:=hp.length_eq;have hn':∀x∈l',1<=x.n/\x.n<=1000000000000:=λx hx=>hn x (hp.mem_iff.1 hx)
 have cc:=ig (p:=aY [] [] [46]);refine aF.dV (ig (p:=aY [] [] [46])) func37 rfl call37 (by rw[ntmps37];simp) rfl λhf hw=>?_
 simp at hsrt;simp[ntmps37,results37];refine AW.seq cc ?_;simp;refine AW.seq cc ?_;simp;refine AW.seq cc ?_;simp;refine EC.aJ hsrt ?_;simp;refine AW.aU cc (λst:Nat×LV×GH=>⟨[(3,st.2.1),(11,sl (l'.map ak)),(12,aH l'.length),(13,aH st.1)],[],st.2.2⟩) (λst=>l'.length-st.1)
  (λst=>st.1<=l'.length/\kL 86 4 H st.2.1 ((nR (l'.take st.1)).map ak) st.2.2) (0,.d (.k (.slice none 0 0)),H) ⟨⟨Nat.zero_le _,kL.nil⟩,by simp⟩ ?_
 rintro⟨i,y,H2⟩ ⟨hi,aA⟩;simp only at hi aA;have yO:=SX (l'.take i);have htl:(l'.take i).length<=i:=by simp;omega
 simp;refine⟨λh=>?_,λh=>?_⟩
 ·obtain⟨x,hx⟩:∃x,l'[i]=x:=⟨_,rfl⟩;have hxm:x∈l':=hx▸List.getElem_mem h;have hta:l'.take (i+1)=l'.take i++[x]:=by rw[<-aR h,hx]
  have dz:=oQ (l'.take i) x;rw[<-hta]at dz;have hbd:=V8 (M:=1000000000000) (by omega) (l'.take i) λz hz=>hn' z (List.mem_of_mem_take hz)
  have eU:=aB (n:=9223372036854775807) (show i<9223372036854775807 by omega)
  obtain⟨O,hO⟩:∃O,nR (l'.take i)=O:=⟨_,rfl⟩;rw[hO]at dz aA yO hbd;have hr4:∀r∈O.map ak,r.length=4:=bl _;rcases id aA.is with⟨k1,k2⟩|⟨nv,gv,k1,k2,k3,k4,k5⟩
  ·have hO0:O=[]:=by simpa using k1
   subst hO0;subst k2;rw[nT]at dz;simp[h,List.getElem?_eq_getElem h,hx,ak];refine AW.draw cc [] (.q 0<|.q 1<|.q 2<|.q 3<|.q 4<|.q 5<|.q 6<|.q 7<|.q 9<|.q 8<|.q 10<|.q 11<|.q 12<|.done) (by kernel_rfl) ?_
   simp[ak];refine eE.JD (ys:=[ak x]) uP rfl dO (by simp) (x:=.d (.k (.slice none 0 0))) (by simp) aA (by simp[ak,rowsOf]) (by simp) (bl _) (λr hr=>by simp only[List.mem_singleton]at hr;subst hr;rfl) (by simp) (by simp) λx' H3 aG _ _=>?_
   simp[aG.plain.all,aG.only,eU];refine NX.go (i+1,x',H3) (by simp only;omega) ⟨h,?_⟩ (by simp[aG.only])
   rw[dz];exact aG
  ·rcases List.eq_nil_or_concat O with e|⟨o,w,e⟩
   ·subst e;exact absurd rfl k5
   ·rw[List.concat_eq_append]at e;subst e;rw[mc]at dz;subst k3;have hol:(o++[w]).length=o.length+1:=by simp
    have hwo:IntKind.i64.wrap (o.length:Int)=o.length:=by rw[wrap64]<;>omega
    obtain⟨F,hF⟩:∃F,bG (o.map ak)=F:=⟨_,rfl⟩;have hfl:bG (o.map ak++[ak w])=F++[aH w.aa.at_,aH w.aa.key,aH w.aa.val,aH w.n]:=by rw[<-hF];simp[bG,ak]
    have VH:F.length=o.length*4:=by rw[<-hF];exact oE (f:=ak) (λ_=>rfl) o
    have uG:∀B:List LV,List.drop (o.length*4) (F++B)=B:=λB=>by rw[<-VH,List.drop_left]
    have hdr3:∀a b c d:LV,List.drop (o.length*4+3) (F++[a,b,c,d])=[d]:=λa b c d=>by rw[<-List.drop_drop,uG];rfl
    have htk3:∀a b c d:LV,List.take (o.length*4+3) (F++[a,b,c,d])=F++[a,b,c]:=λa b c d=>by rw[<-VH,List.take_length_add_append];rfl
    have hdr4:∀a b c d:LV,List.drop (o.length*4+3+1) (F++[a,b,c,d])=[]:=λa b c d=>List.drop_eq_nil_of_le (by simp;omega)
    simp[h,List.getElem?_eq_getElem h,hx,ak];refine AW.draw cc [] (.q 0<|.q 1<|.q 2<|.q 3<|.q 4<|.q 5<|.q 6<|.q 7<|.q 9<|.q 8<|.q 10<|.q 11<|.q 12<|.done) (by kernel_rfl) ?_
    simp[k4,hwo,hfl,uG,hdr3,VH];refine⟨by omega,λq1 q2 q3=>?_,λq=>?_⟩
    ·have hr:w.aa=x.aa:=by
      obtain⟨⟨a1,a2,a3⟩,_⟩:=w;obtain⟨⟨b1,b2,b3⟩,_⟩:=x;simp at q1 q2 q3|-;exact⟨q1,q2,q3⟩
     rw[if_pos hr]at dz;have LW:=hbd w (by simp)
     have LU:=hn' x hxm;have hwn:IntKind.i64.wrap (w.n+x.n)=w.n+x.n:=by
      have:(1000000000000:Int)*((l'.take i).length:Int)<=1000000000000*1000000:=by
       refine Int.mul_le_mul_of_nonneg_left ?_ (by omega)
       omega
      rw[wrap64]<;>omega
     refine AW.draw cc [] (.q 0<|.q 1<|.q 2<|.q 3<|.q 4<|.q 6<|.q 5<|.q 7<|.q 8<|.q 9<|.q 10<|.f<|.one 11<|.done) (by kernel_rfl) ?_
     simp[k4,hwo,hfl,uG,hdr3,VH,hwn,htk3,hdr4,eU];refine⟨by omega,?_⟩
     refine NX.go (i+1,.vs nv gv 4 0 (o.length+1),H2.set nv (.vec 86 gv 4 (bG ((o++[(⟨w.aa,w.n+x.n⟩:Item)]).map ak)) false)) (by simp only;omega) ⟨h,?_⟩ (by simp[bG,ak,<-hF])
     rw[dz];refine⟨.inr ⟨nv,gv,k1,by rw[GH.aL];exact k2,by simp,by rw[GH.ay,if_pos rfl],by simp⟩,by rw[GH.aL];exact aA.nx,λm hm=>by rw[GH.ay,if_neg (by omega)];exact aA.ob m hm⟩
    ·have hr:¬w.aa=x.aa:=λe=>q (by rw[e]) (by rw[e]) (by rw[e])
     rw[if_neg hr]at dz;refine eE.JD (ys:=[ak x]) (rows:=(o++[w]).map ak) uP rfl dO (by simp) (x:=.vs nv gv 4 0 (o.length+1)) (by simp) (by simpa using aA) (by simp[ak,rowsOf]) (by simp) (bl _) (λr hr=>by simp only[List.mem_singleton]at hr;subst hr;rfl) (by simp;omega) (by simp) λx' H3 aG _ _=>?_
     simp[aG.plain.all,aG.only,eU];refine NX.go (i+1,x',H3) (by simp only;omega) ⟨h,?_⟩ (by simp[aG.only])
     rw[dz];simpa using aG
 ·have:i=l'.length:=by omega
  subst this;rw[List.take_length]at aA yO;obtain⟨M,hM⟩:∃M,nR l'=M:=⟨_,rfl⟩;rw[hM]at aA yO;have yP:=V7 hp uk;rw[hM]at yP;rcases id aA.is with⟨k1,k2⟩|⟨nv,gv,k1,k2,k3,k4,k5⟩
  ·have hM0:M=[]:=by simpa using k1
   subst hM0;subst k2;refine AW.ev cc ?_;simp;refine AW.aU cc (λst:Nat=>⟨[(7,.d (.k (.slice none 0 0))),(48,.d (.k (.slice none 0 0))),(49,aH (0:Nat)),(50,aH (0:Nat))],[],H2⟩) (λst=>0) (λst=>True) 0 ⟨trivial,by simp⟩ ?_
   rintro j _;simp;exact λhz=>⟨aO aA.nx aA.ob hw.none,by rw[<-yP];rfl⟩
  ·subst k3;refine AW.cL (n:=nv) (g:=gv) (sz:=4) (e:=86) (ex:=false) (M.map ak) k4 rfl (bl _) ?_;refine AW.ev cc ?_;obtain⟨H4,M8⟩:∃H4:GH,({obj:=λm=>if m=nv then none else Option.map (GO.cL nv gv 4 (List.map ak M)) (H2.obj m),next:=H2.next}:GH)=H4:=⟨_,rfl⟩
   have hof:∀m,m<H.next->H4.obj m=H.obj m:=λm hm=>by rw[<-M8];exact lB hw k1 (λk hk=>aA.ob k hk) hm
   have hnf:H.next<=H4.next:=by rw[<-M8];exact aA.nx
   simp;rw[M8];refine AW.aU cc (λst:Nat×LV×GH=>⟨[(7,st.2.1),(48,sl (M.map ak)),(49,aH M.length),(50,aH st.1)],[],st.2.2⟩) (λst=>M.length-st.1)
    (λst=>st.1<=M.length/\cm 86 4 H4 st.2.1 (((M.take st.1).filter λx=>decide (x.n≠0)).map ak) st.2.2) (0,.d (.k (.slice none 0 0)),H4) ⟨⟨Nat.zero_le _,by simpa using cm.nil⟩,by simp[List.take_of_length_le]⟩ ?_
   rintro⟨j,z,H3⟩ ⟨hj,fp⟩;simp only at hj fp;simp;refine⟨λh=>?_,λh=>?_⟩
   ·obtain⟨x,hx⟩:∃x,M[j]=x:=⟨_,rfl⟩;have hta:M.take (j+1)=M.take j++[x]:=by rw[<-aR h,hx]
    have eU:=aB (n:=9223372036854775807) (show j<9223372036854775807 by omega)
    have hlt:((M.take j).filter λx=>decide (x.n≠0)).length<=j:=Nat.le_trans (List.length_filter_le _ _) (by simp;omega)
    have dz:(M.take (j+1)).filter (λx=>decide (x.n≠0))=(M.take j).filter (λx=>decide (x.n≠0))++(if x.n≠0 then[x]else[]):=by
     rw[hta,List.filter_append];by_cases q:x.n=0<;>simp[q]
    simp[h,List.getElem?_eq_getElem h,hx,ak,fp.plain.all];refine⟨λq=>?_,λq=>?_⟩
    ·refine eE.dJ (ys:=[ak x]) uP rfl dO (by simp) (x:=z) (by simp) fp (by simp[ak,rowsOf]) (by simp) (bl _) (λr hr=>by simp only[List.mem_singleton]at hr;subst hr;rfl) (by simp only[List.length_map,List.length_singleton];omega) (by simp) λx' H5 aG _ _=>?_
     simp[aG.plain.all,aG.only,eU];refine NX.go (j+1,x',H5) (by simp only;omega) ⟨h,?_⟩ (by simp[aG.only])
     rw[dz,if_pos q,List.map_append];exact aG
    ·rw[if_neg (by simpa using q),List.append_nil]at dz
     exact NX.go (j+1,z,H3) (by simp only;omega) ⟨h,by rw[dz];exact fp⟩ (by simp[fp.only,eU])
   ·have:j=M.length:=by omega
    subst this;rw[List.take_length]at fp;simp[fp.plain.all];rw[yP]at fp;exact λhz=>⟨H,aO (Nat.le_trans hnf fp.nx) (λm hm=>by rw[fp.ob m (by omega)];exact hof m hm) hw.none,by rw[fp.fz];trivial,by rw[fp.fz];rfl,rfl⟩
end Go.Aft
end
section
set_option maxRecDepth 20000
namespace Go.Aft
open Go.RowKit
open Go.Proofs.Tryz
section
variable {H:Type} {enc:TypeId×Value->H} {w:World}
theorem gW.conv{P:Program}{α β:Type}{n off fuel:Nat}{fs:List Field}{r:α->List DV}{fit:α->Prop}{r':β->List DV}{fit':β->Prop}(h:gW enc P w n fs off r fit fuel)(g:α->β)(hr:∀x,r' (g x)=r x)(hf:∀x,fit x->fit' (g x)):gW enc P w n fs off r' fit' fuel:=
 λcs xs h1 h2=>by
  obtain⟨x,q1,q2⟩:=h cs xs h1 h2;exact⟨g x,by rw[hr];exact q1,λq=>hf x (q2 q)⟩
theorem rd_rec(fuel:Nat):Rd enc prog w 27 bN (λ_=>True) fuel:=
 Rd.struct underlying27 fuel λf hf=>((gW.cons (n:=3) rfl (Rd.int underlying3 f)<|gW.cons rfl (Rd.int underlying3 f)<|gW.cons rfl (Rd.int underlying3 f)<|gW.nil)).conv (λx=>⟨x.1,x.2.1,x.2.2.1⟩) (λ_=>rfl) (λ_ _=>trivial)
end
end Go.Aft
end
section
set_option maxRecDepth 20000
namespace Go.Aft
open Go.Proofs.Tryz
theorem vS(a b:List Event):aC prog 29 [sl (a.map bg),sl (b.map bg)] (.d (.k (.bool (decide (a=b))))):=by
 have cc:=ig (p:=aY [] [] []);refine aC.vz (ig (p:=aY [] [] [])) func29 rfl call29 (by rw[ntmps29];simp) rfl λhf H=>?_
 simp[ntmps29,results29]at hf|-;refine AW.seq cc ?_;simp;refine AW.seq cc ?_;simp;refine⟨λhl=>?_,λhl=>?_⟩
 ·intro e;subst e;exact hl rfl
 ·refine AW.ev cc ?_;simp;refine AW.aU cc (λi:Nat=>⟨[(0,.d (.sl (a.map bg))),(1,.d (.sl (b.map bg))),(5,aH i)],[],H⟩) (λi=>a.length-i) (λi=>i<=a.length/\a.take i=b.take i) 0 ⟨by simp,by simp⟩ ?_
  rintro i ⟨hi,hI⟩;simp;refine⟨λh=>?_,λh=>?_⟩
  ·have h':i<b.length:=by omega
   refine AW.draw cc [] (.q 0<|.q 1<|.q 2<|.q 4<|.q 5<|.q 6<|.q 3<|.q 7<|.q 8<|.done) (by kernel_rfl) ?_
   simp[h,h',List.getElem?_eq_getElem h,List.getElem?_eq_getElem h',bg,bN];refine⟨λq e=>by subst e;simp at q,λq1 q2 q3 q4 q5=>?_⟩
   refine NX.go (i+1) (Nat.sub_lt_sub_left h (Nat.lt_succ_self i)) ⟨h,?_⟩ (by simp[aB h hf.1.1])
   rw[List.take_add_one,List.take_add_one,hI,List.getElem?_eq_getElem h,List.getElem?_eq_getElem h']
   congr 2
   generalize a[i]=x at*;generalize b[i]=y at*;obtain⟨x1,x2,⟨x3,x4,x5⟩⟩:=x;obtain⟨y1,y2,⟨y3,y4,y5⟩⟩:=y;simp only at q1 q2 q3 q4 q5;subst q1 q2 q3 q4 q5;rfl
  ·have e:i=a.length:=by omega
   subst e;rw[List.take_length,List.take_of_length_le (by omega)]at hI
   exact hI
theorem EG(a b:Event):aC prog 90 [lv (bg a),lv (bg b)] (.d (.k (.bool (decide (Sm a b))))):=by
 refine aC.body (ar (p:=aY [2,3] [] [])) func90 rfl call90 (by rw[ntmps90];simp) rfl λ_ H=>?_
 simp[ntmps90,results90,bg,bN];refine⟨λq=>?_,λq=>⟨λq2=>?_,λq2=>?_⟩⟩
 all_goals(unfold Sm;omega)
theorem AW.fzVec{P:Program}{rd:RD}{x:Code}{s:S}{Q:QT}(n:Nat){e:TypeId}{g sz:Nat}{cells:List LV}{ex:Bool}(hn:s.H.obj n=some (.vec e g sz cells ex))(h:@AW P rd ⟨x⟩ {s with H:=s.H.set n (.vec e g sz (xV cells) ex)} Q):@AW P rd ⟨x⟩ s Q:=by
 refine λE a w hs=>h E a w ?_
 obtain⟨h2,G,lm,h1,hM,hx,aK,he⟩:=hs;refine⟨h2,G,lm,h1,⟨hM.qg,λb o v hv=>?_,hM.fresh,hM.Cn,hM.loc,λm o ho=>?_⟩,⟨⟨hx.le,hx.nx,hx.os,hx.tape,hx.output,hx.drawn,hx.size,hx.frame,hx.own⟩,hx.nl⟩,aK,he⟩
 ·rcases hM.dm b o v hv with q|⟨m,e',sz',k,q1,q2,q3⟩
  ·exact .inl q
  ·refine .inr ⟨m,e',sz',k,q1,?_,q3⟩;rw[GH.ay,if_neg]
   ·exact q2
   ·intro q;subst q;rw[hn]at q2;cases q2
 ·rw[GH.ay]at ho
  split at ho
  ·rename_i e0;subst e0;cases ho;obtain⟨r1,r2,r3,b,C,vs,rest,r4,r5,r6,r7,r8,r9,r10,r11,r12⟩:=hM.gX _ _ hn;exact⟨r1,r2,r3,b,C,vs,rest,r4,r5,r6,r7,r8,w8 _ _ r9,r10,r11,by rw[yU,List.length_map];exact r12⟩
  ·exact hM.gX m o ho
theorem xz(s t:ca)(v:LV):∀es:List (Value×LV),(∀(a:Value) (b:LV),(a,b)∈es->(KK.sc Sc.str).has a=true)->bz (.string s) (cg (.string t) v es)=if s=t then some v else bz (.string s) es
 |[],_=>by simp only[cg,bz,nq];by_cases h:s=t<;>simp[h]
 |(a,b)::es,hk=>by
  have ih:=xz s t v es λa b hab=>hk a b (by simp[hab])
  have ha:=hk a b (by simp)
  cases a with
  |string u=>
   simp only[cg,nq];by_cases h1:t=u
   ·simp only[h1,decide_true,if_true,bz,nq];by_cases h2:s=u<;>simp[h2]
   ·simp only[h1,decide_false,Bool.false_eq_true,if_false,bz,nq,ih];by_cases h2:s=u
    ·have:¬u=t:=λe=>h1 e.symm
     simp[h2,this]
    ·simp[h2]
  |_=>simp[KK.has,Sc.has]at ha
theorem C8(t:ca)(v:LV):∀es:List (Value×LV),(∀(a:Value) (b:LV),(a,b)∈es->(KK.sc Sc.str).has a=true)->∀(a:Value) (b:LV),(a,b)∈cg (.string t) v es->(KK.sc Sc.str).has a=true
 |[],_,a,b,hab=>by
  simp only[cg,List.mem_singleton,Prod.mk.injEq]at hab;rw[hab.1];rfl
 |(c,d)::es,h,a,b,hab=>by
  simp only[cg]at hab
  split at hab
  ·rcases List.mem_cons.1 hab with q|q
   ·cases q;rfl
   ·exact h a b (List.mem_cons_of_mem _ q)
  ·rcases List.mem_cons.1 hab with q|q
   ·rw[show a=c from(Prod.mk.inj q).1];exact h c d (List.mem_cons_self ..)
   ·exact C8 t v es (λa b hab=>h a b (List.mem_cons_of_mem _ hab)) a b q
structure BS(es:List (Value×LV))(names:List ca)(f:Nat->LV)(i:Nat):Prop where
 key:∀(a:Value) (b:LV),(a,b)∈es->(KK.sc Sc.str).has a=true
 get:∀j (h:j<names.length),j<i->bz (.string names[j]) es=some (f j)
theorem BS.nil(names:List ca)(f:Nat->LV):BS [] names f 0:=⟨λ_ _ h=>absurd h List.not_mem_nil,λj _ h=>absurd h (by omega)⟩
theorem BS.put{es:List (Value×LV)}{names:List ca}{f:Nat->LV}{i:Nat}(h:BS es names f i)(hi:i<names.length)(hd:∀j (hj:j<names.length),j<i->names[j]≠names[i]):BS (cg (.string names[i]) (f i) es) names f (i+1):=by
 refine⟨C8 _ _ _ h.key,λj hj hji=>?_⟩
 rw[xz _ _ _ _ h.key];by_cases e:j=i
 ·subst e;rw[if_pos rfl]
 ·rw[if_neg (hd j hj (by omega))];exact h.get j hj (by omega)
theorem BS.all{es:List (Value×LV)}{names:List ca}{f:Nat->LV}(h:BS es names f names.length):Tc es names f:=by
 refine⟨h.key,λname hn=>?_⟩
 have hlt:=nM names name;obtain⟨i,hi⟩:∃i:Nat,idx names name=(i:Int):=⟨(idx names name).toNat,by omega⟩
 rw[hi]at hlt|-;have Dt:i<names.length:=by omega
 have hname:names[i]=name:=by
  have h2:=hi;unfold idx at h2
  split at h2
  ·rename_i j hj;obtain⟨h1,h3,_⟩:=List.findIdx?_eq_some_iff_getElem.1 hj;have:j=i:=by omega
   subst this;simpa using h3
  ·omega
 have:=h.get i Dt Dt;rw[hname]at this;simpa using this
theorem P4:prog.underlying 186=some (.array 2 3):=by kernel_rfl
theorem xg(w:World):(sizeOf 3).run prog w=.ok 1 w:=by
 have h:(prog.info? 3).map (·.size)=some 1:=by kernel_rfl
 obtain⟨i,h1,h2⟩:=Option.map_eq_some_iff.1 h;simp[sizeOf,typeInfo,h1,h2]
theorem isAgg3(w:World):(isAgg 3).run prog w=.ok false w:=by simp[isAgg,run_underlying underlying3]
theorem Ac{xs:List Value}(h:b6 [.int .i64,.int .i64] xs=true):∃a b,xs=[.int .i64 a,.int .i64 b]:=by
 obtain⟨a,us,e1,h1⟩:=jR h;obtain⟨b,vs,e2,h2⟩:=jR h1;have e3:=mF h2;exact⟨a,b,by rw[e1,e2,e3]⟩
def ur(t:TypeId):Option (List Sc):=if t=186 then some [.int .i64,.int .i64]else none
theorem vq{T:TypeId}{ks:List Sc}(h:ur T=some ks):T=186/\ks=[.int .i64,.int .i64]:=by
 unfold ur at h
 split at h
 ·rename_i q;exact⟨q,(Option.some.inj h).symm⟩
 ·cases h
theorem Rc(b:Bool)(d:Nat)(a:Int)(w:World):(Instr.checkKey b (d+1) 3 (.int .i64 a)).run prog w=.ok () w:=by simp[Instr.checkKey,run_underlying underlying3]
theorem Rb(d:Nat)(b:Bool)(x y:Int)(w:World):(Instr.checkKey b (d+2) 186 (.agg #[.int .i64 x,.int .i64 y])).run prog w=.ok () w:=by
 rw[Instr.checkKey];simp only[Sem.run_bind,run_underlying P4,Result.andThen_ok];have hr:List.range' 0 2=[0,1]:=rfl;simp[hr,xg,part,isAgg3,Rc]
theorem eq_pair(m:Nat)(a b c d:Int)(w:World):(Op.equalIn (m+2) 186 (.agg #[.int .i64 a,.int .i64 b]) (.agg #[.int .i64 c,.int .i64 d])).run prog w=.ok (a==c&&b==d) w:=by
 rw[Op.equalIn];simp only[Sem.run_bind,run_underlying P4,Result.andThen_ok];have hr:List.range' 0 2=[0,1]:=rfl;have he:=λ(u v:Int) (w:World)=>run_equalIn_int (P:=prog) w m 3 .i64 .i64 u v underlying3
 simp[hr,xg,part,isAgg3,he];by_cases h1:a=c<;>by_cases h2:b=d<;>simp[h1,h2]
theorem L3:vJ prog ur:=by
 intro T ks h xs w b h1;obtain⟨rfl,rfl⟩:=vq h;obtain⟨x,y,rfl⟩:=Ac h1;exact Rb 9998 b x y w
theorem O6:yD prog ur:=by
 intro T ks h xs ys w h1 h2;obtain⟨rfl,rfl⟩:=vq h;obtain⟨a,b,rfl⟩:=Ac h1;obtain⟨c,d,rfl⟩:=Ac h2;have gd:∀x y,(eqGuard .eql 186 x y (.agg [Value.int .i64 a,Value.int .i64 b].toArray) (.agg [Value.int .i64 c,Value.int .i64 d].toArray)).run prog w=.ok () w/\(eqGuard .neq 186 x y (.agg [Value.int .i64 a,Value.int .i64 b].toArray) (.agg [Value.int .i64 c,Value.int .i64 d].toArray)).run prog w=.ok () w:=λx y=>⟨run_eqGuard_agg w _ _ x y _ _ (by kernel_rfl),run_eqGuard_agg w _ _ x y _ _ (by kernel_rfl)⟩
 refine⟨?_,gd⟩;rw[show((10000:Nat))=9998+2 from rfl]
 refine(eq_pair 9998 a b c d w).trans ?_;simp[allEq,uU]
def cxA(bJ:Nat->Kd):Cx:=⟨bT bf,ur,bJ,λ_ _=>none,RD.any⟩
@[simp] theorem eqTabA186:ur 186=some [.int .i64,.int .i64]:=rfl
@[simp] theorem cxA_ty {p:Nat->Kd}:(cxA p).ty=bT bf:=rfl
@[simp] theorem cxA_eqt {p:Nat->Kd} (t:TypeId):(cxA p).bP t=ur t:=rfl
@[simp] theorem cxA_pub {p:Nat->Kd} (t:Nat):(cxA p).bJ t=p t:=rfl
@[simp] theorem cxA_spec {p:Nat->Kd} (f:FuncId) (a:List LV):(cxA p).spec f a=none:=rfl
@[simp] theorem cxA_rd {p:Nat->Kd}:(cxA p).rd=RD.any:=rfl
theorem SA{p:Nat->Kd}:(cxA p).ok prog:=⟨uO,O6,L3,λf args pre v h=>(by cases h),(by kernel_rfl)⟩
end Go.Aft
end
section
set_option maxRecDepth 20000
namespace Go.Aft
theorem Hl(x:Item):∀l:List Item,(vW x l).length<=l.length+1
 |[]=>by simp[vW]
 |y::l=>by
  have:=Hl x l;rw[vW]
  split
  ·simp
  ·split<;>simp<;>omega
theorem CJ:∀l:List Item,(s8 l).length<=l.length
 |[]=>by simp[s8]
 |x::l=>by
  have h1:=Hl x (s8 l);have h2:=CJ l;rw[s8,List.length_cons];omega
theorem JC(l:List Item):(mR l).length<=l.length:=Nat.le_trans (List.length_filter_le _ _) (CJ l)
theorem Gq(l:List Item)(t:Int):(bV l t).length<=l.length:=Nat.le_trans (JC _) (List.length_filter_le _ _)
theorem DS{r:Rec}:∀{l:List Item},(∀x∈l,x.n=1)->0<=bQ l r/\bQ l r<=l.length
 |[],_=>⟨Int.le_refl _,Int.le_refl _⟩
 |x::l,h=>by
  have ih:=DS (r:=r) (l:=l) λy hy=>h y (by simp[hy])
  have hx:=h x (by simp)
  rw[bQ,List.length_cons]
  split<;>omega
theorem CP{l:List Event}{src:Int}{x:Item}(h:x∈ga l src):∃e∈l,e.src=src/\x=⟨e.aa,1⟩:=by
 unfold ga at h;obtain⟨e,he,rfl⟩:=List.mem_map.1 h;exact⟨e,(List.mem_filter.1 he).1,of_decide_eq_true (List.mem_filter.1 he).2,rfl⟩
theorem yH{l:List Event}(hl:l.length<=60)(hi:∀e∈l,mU ⟨e.aa,1⟩)(src:Int):bI (mZ l src):=by
 have hlen:=nW l src;have h1:∀x∈ga l src,x.n=1/\mU x:=λx hx=>by
  obtain⟨e,he,_,rfl⟩:=CP hx;exact⟨rfl,hi e he⟩
 refine SR (Int.le_refl _) (λx hx=>(h1 x hx).2.b) ?_
 simp only[gH,Bool.and_eq_true,decide_eq_true_eq,List.all_eq_true];refine⟨?_,λx hx=>?_⟩
 ·have:=Gq (ga l src) 200;omega
 ·have h2:=(jj.1 hx).2;have h3:=DS (r:=x.aa) (l:=(ga l src).filter λx=>decide (0<=x.aa.at_/\x.aa.at_<=200)) λy hy=>(h1 y (List.mem_filter.1 hy).1).1
  have h4:=List.length_filter_le (λx:Item=>decide (0<=x.aa.at_/\x.aa.at_<=200)) (ga l src)
  omega
end Go.Aft
end
