import Derived.Test.YthinedikejlgmaaGreatA28
import Derived.Test.YthinedikejlgmaaGreatA26
import Derived.Test.YthinedikejlgmaaGreatA20
import Derived.Test.YthinedikejlgmaaGreatA27
import Derived.Test.YthinedikejlgmaaGreatA21
set_option linter.all false
section
set_option maxRecDepth 20000
namespace Go.Aft
open Go.Proofs.Tryz
open Go.Sort (insertionSort)
theorem mH(l:List Int):bG (l.map rI)=l.map aH:=by
 induction l with
 |nil=>rfl
 |cons a l ih=>simp only[List.map_cons,bG,List.flatten_cons,List.map_append]at ih|-;rw[ih];rfl
def iq(ks:List Nat)(seen:List Nat):List Int:=seen.map λi=>((ks.getD i 0:Nat):Int)
theorem zf{ks seen:List Nat}(hn:seen.Nodup)(hb:∀i∈seen,i<ks.length)(ha:∀i,i<ks.length->i∈seen):(iq ks seen).Perm (bU ks):=by
 have h1:seen.Perm (List.range ks.length):=by
  rw[List.perm_ext_iff_of_nodup hn List.nodup_range];exact λi=>⟨λq=>List.mem_range.2 (hb i q),λq=>ha i (List.mem_range.1 q)⟩
 have h2:(List.range ks.length).map (λi=>((ks.getD i 0:Nat):Int))=bU ks:=by
  refine List.ext_getElem (by simp[bU]) λi h1 h2=>?_
  simp only[List.length_map,List.length_range]at h1;simp[bU,List.getD,List.getElem?_eq_getElem h1]
 have:=h1.map λi=>((ks.getD i 0:Nat):Int)
 rw[h2]at this;exact this
theorem Ap(k:Nat):∀(es:List (Value×LV)) (ks:List Nat),es.map (·.1)=ks.map (λk:Nat=>Value.int .i64 k)->((bz (.int .i64 k) es).isSome=true↔k∈ks)
 |[],[],_=>by simp[bz]
 |[],j::ks,h=>by simp at h
 |e::es,[],h=>by simp at h
 |(a,b)::es,j::ks,h=>by
  simp only[List.map_cons,List.cons.injEq]at h;obtain⟨rfl,h⟩:=h;have ih:=Ap k es ks h;simp only[bz,gh];by_cases e:(k:Int)=j
  ·have e':k=j:=by omega
   subst e';simp
  ·have e':¬k=j:=by omega
   simp only[e,decide_false,Bool.false_eq_true,if_false,ih,List.mem_cons,e',false_or]
theorem kY.mem{es:List (Value×LV)}{M:Nat->Bool}(h:kY es M){ks:List Nat}(hk:es.map (·.1)=ks.map λk:Nat=>Value.int .i64 k)(k:Nat):k∈ks↔M k=true:=by
 rw[<-Ap k es ks hk,h.get k]
 split<;>simp_all
theorem EI(l:List Int):∀r∈l.map rI,r.length=1:=λr hr=>by obtain⟨_,_,rfl⟩:=List.mem_map.1 hr;rfl
theorem qC{m n:Nat}(hn:n<=12){es:List (Value×LV)}{M:Nat->Bool}{H:GH}(hM:kY es M)(hb:∀k,M k=true->k<n)(hm:H.obj m=some (.map es)):
  aF prog 101 [.gm m] H λce H'=>ce=.ret (sl ((bU ((List.range n).filter M)).map rI))/\H'=H:=by
 have cc:=ar (p:=aY [] [] [14]);refine aF.dV (ar (p:=aY [] [] [14])) func101 rfl call101 (by rw[ntmps101];simp) rfl λhf hw=>?_
 have hmn:=hw.lt hm;obtain⟨ks,hkn,hke⟩:=hM.nat;have hkm:=hM.mem hke;have hel:es.length=ks.length:=by have:=congrArg List.length hke;simpa using this
 have jQ:ks.length<=n:=fH n ks hkn λi hi=>hb i ((hkm i).1 hi)
 have hkeys:es.all (λe=>oA e.1)=true:=List.all_eq_true.2 λe he=>by
  have:e.1∈es.map (·.1):=List.mem_map.2 ⟨e,he,rfl⟩
  rw[hke]at this;obtain⟨k,_,q⟩:=List.mem_map.1 this;rw[<-q];rfl
 have dD:∀(i:Nat) (e:Value×LV),es[i]?=some e->e.1=Value.int .i64 (ks.getD i 0:Nat):=λi e he=>by
  have h1:(es.map (·.1))[i]?=some e.1:=by simp[he]
  rw[hke]at h1;simp only[List.getElem?_map,Option.map_eq_some_iff]at h1;obtain⟨k,h2,h3⟩:=h1;rw[<-h3];simp[List.getD,h2]
 simp[ntmps101,results101];refine AW.seq cc ?_;simp;refine AW.seq cc ?_;simp;refine AW.seq cc ?_;simp[hm];refine AW.aU cc (λa:List Nat×LV×GH=>⟨[(3,a.2.1),(6,.gp H.next 0)],[],a.2.2⟩) (λa=>Em es.length (λi=>decide (i∈a.1)))
  (λa=>a.1.Nodup/\(∀i∈a.1,i<es.length)/\kL 3 1 (H.add (FU m es a.1)) a.2.1 ((iq ks a.1).map rI) a.2.2)
  ([],.d (.k (.slice none 0 0)),H.add (FU m es [])) ⟨⟨by simp,by simp,by simpa[iq]using kL.nil⟩,by simp[FU]⟩ ?_
 rintro⟨seen,x,H2⟩ ⟨s1,s2,hv⟩;simp only at s1 s2 hv;have oi:H2.obj H.next=some (FU m es seen):=by rw[hv.ob _ (by rw[GH.aq];omega),GH.au,if_pos rfl]
 have om:H2.obj m=some (.map es):=by rw[hv.ob _ (by rw[GH.aq];omega),GH.au,if_neg (by omega)];exact hm
 have hsl:seen.length<=es.length:=fH _ _ s1 s2;simp;refine ST.next (n:=H.next) (m:=m) (seen:=seen) (es:=es) (by simp) oi om (by simp) rfl rfl hkeys (λi e he hi=>?_) (λhend=>?_)
 ·have hi':=(List.getElem?_eq_some_iff.1 he).1;have hk:=dD i e he;obtain⟨e1,e2⟩:=e;simp only at hk;subst hk;simp;refine ST.entry (n:=H.next) (m:=m) (seen:=seen++[i]) (es:=es) (i:=i) (e:=_) (by simp) (by rw[GH.aX]) (by rw[GH.ay,if_neg (by omega)];exact om) (by simp) rfl hkeys (by simp) he ?_
  obtain⟨H3,uI⟩:∃H3,H2.set H.next (GO.iter m es.length (seen++[i]) es.length)=H3:=⟨_,rfl⟩;have Fb:=hv.set (k:=H.next) (by rw[GH.aq];omega) (FU m es (seen++[i]))
  have ff:∀a b:GO,(H.add a).set H.next b=H.add b:=λa b=>GH.cT
  rw[show H2.set H.next (FU m es (seen++[i]))=H3 from uI,ff]at Fb
  have dz:(seen++[i]).Nodup:=by
   rw[List.nodup_append];exact⟨s1,by simp,λa ha b hb=>by simp at hb;subst hb;intro q;subst q;exact hi ha⟩
  have IG:Em es.length (λj=>decide (j∈seen++[i]))<Em es.length (λj=>decide (j∈seen)):=by
   have:=qA (n:=es.length) (M:=λj=>decide (j∈seen)) hi' (by simpa using hi)
   have e2:fI (λj=>decide (j∈seen)) i=λj=>decide (j∈seen++[i]):=by
    funext j;simp only[fI];by_cases q:j=i<;>simp[q]
   rw[e2]at this;exact this
  have hall:∀j∈seen++[i],j<es.length:=λj hj=>by
   rcases List.mem_append.1 hj with q|q
   ·exact s2 j q
   ·simp at q;subst q;exact hi'
  have hwk:iq ks (seen++[i])=iq ks seen++[((ks.getD i 0:Nat):Int)]:=by simp[iq]
  have hwl:(iq ks seen).length=seen.length:=by simp[iq]
  obtain⟨kv,hkv⟩:∃kv:Int,((ks.getD i 0:Nat):Int)=kv:=⟨_,rfl⟩;rw[hkv]at hwk|-;simp[uI,oB];refine⟨hv.plain.tL,eE.JD (ys:=[rI kv]) lY rfl Gc (by simp) (x:=x) (by simp[hv.plain.all]) Fb (by simp[kg,rowsOf,rI]) (by simp) (EI _) (λr hr=>by simp only[List.mem_singleton]at hr;subst hr;rfl) (by simp;omega) (by simp) λx' H5 h5 _ _=>?_⟩
  simp[h5.plain.all];refine NX.go (seen++[i],x',H5) IG ⟨dz,hall,?_⟩ (by simp[h5.only])
  rw[hwk,List.map_append];exact h5
 ·simp;have mE:=zf (ks:=ks) s1 (by rw[<-hel];exact s2) (by rw[<-hel];exact hend)
  have mQ:qG (iq ks seen)=bU ((List.range n).filter M):=by
   have h1:=CO hkn (n:=n) (M:=M) λk=>⟨λq=>⟨hb k ((hkm k).1 q),(hkm k).1 q⟩,λq=>(hkm k).2 q.2⟩
   rw[<-h1];have uk:(bU ks).Nodup:=by
    unfold bU;rw[List.Nodup,List.pairwise_map];exact hkn.imp λ{a b} q e=>q (by omega)
   have hnd2:(iq ks seen).Nodup:=mE.symm.nodup uk;exact iu (lt:=λa b:Int=>a<b) (λa=>by omega) (λ_ _ _ p q=>by omega) (nU _ hnd2) (nU _ uk) λx=>by rw[(eL _).mem_iff,(eL _).mem_iff,mE.mem_iff]
  obtain⟨W,hW⟩:∃W,iq ks seen=W:=⟨_,rfl⟩;rw[hW]at hv mQ mE;have hWl:W.length<=12:=by rw[mE.length_eq];simp[bU];omega
  have o2:∀m,m<H.next->H2.obj m=H.obj m:=λm hm=>by rw[hv.ob m (by rw[GH.aq];omega),GH.au,if_neg (by omega)]
  have n2:=hv.nx;rw[GH.aq]at n2;refine AW.seq cc ?_;simp[hv.plain.all];rcases id hv.is with⟨q1,rfl⟩|⟨n',g,q1,q2,rfl,q4,q5⟩
  ·have hW0:W=[]:=by simpa using q1
   have hfi0:bU ((List.range n).filter M)=[]:=by rw[<-mQ,hW0];exact List.Perm.eq_nil (eL [])
   have hs0:=Dp H2;refine⟨by simp[LV.nb],EC.of hs0 (λv H3 hR=>?_) (λv H3 hR=>by obtain⟨⟨_,e⟩,_⟩:=hR;cases e)⟩
   obtain⟨_,rfl⟩:=hR;simp;refine AW.ev cc ?_;simp[hfi0];exact λ_=>aO (by omega) o2 hw.none
  ·rw[mH]at q4;rw[GH.aq]at q1;have hs:=Iv W.toArray (by simpa using hWl) n' H2 g (by simpa using q4)
   have hsz:W.toArray.size=W.length:=by simp
   rw[hsz]at hs;have hWm:(W.map rI).length=W.length:=by simp
   rw[hWm];refine⟨by simp[LV.nb];omega,EC.of hs (λv H3 hR=>?_) (λv H3 hR=>by obtain⟨⟨_,e⟩,_⟩:=hR;cases e)⟩
   obtain⟨_,hE⟩:=hR;rw[hE];have OC:(insertionSort AB W.toArray 0 W.length).toList=bU ((List.range n).filter M):=mQ;rw[OC];simp;obtain⟨F,hF⟩:∃F,bU ((List.range n).filter M)=F:=⟨_,rfl⟩;have OP:F.length=W.length:=by rw[<-hF,<-mQ];exact(eL W).length_eq
   rw[hF];refine AW.cL (n:=n') (g:=g) (sz:=1) (e:=3) (ex:=false) (F.map rI) (by rw[GH.aX,mH]) rfl (EI _) ?_
   refine AW.ev cc ?_;have htf:(F.map rI).take W.length=F.map rI:=List.take_of_length_le (by simp;omega)
   have hFle:W.length<=F.length:=by omega
   simp[hFle,htf];have o3:∀m,m<H.next->(H2.set n' (.vec 3 g 1 (F.map aH) false)).obj m=H.obj m:=λm hm=>by rw[GH.ay,if_neg (by omega)];exact o2 m hm
   exact λhz=>aO (by simp only[GH.aL];omega) (λm hm=>lB hw (by omega) o3 hm) hw.none
end Go.Aft
end
section
set_option maxRecDepth 20000
namespace Go.Aft
open Go.Proofs.Tryz
def mN(e sz N:Nat)(x:LV)(rows:List (List DV))(G:GH):Prop:=cm e sz ⟨G.obj,N⟩ x rows G
theorem mN.keep{e sz N:Nat}{x:LV}{rows:List (List DV)}{G G':GH}(h:mN e sz N x rows G)(hn:G.next<=G'.next)(ho:∀m,N<=m->m<G.next->G'.obj m=G.obj m):mN e sz N x rows G':=by
 refine⟨?_,Nat.le_trans h.nx hn,λm hm=>rfl⟩
 rcases h.is with q|⟨n,q1,q2,q3,q4⟩
 ·exact .inl q
 ·simp only at q1;exact .inr ⟨n,q1,by omega,q3,by rw[ho n q1 q2];exact q4⟩
theorem mN.nil{e sz N:Nat}{G:GH}(h:N<=G.next):mN e sz N (.d (.k (.slice none 0 0))) [] G:=⟨.inl ⟨rfl,rfl⟩,h,λ_ _=>rfl⟩
theorem mN.of{e sz N:Nat}{B:GH}(hB:B.next=N){x:LV}{rows:List (List DV)}{G:GH}(h:cm e sz B x rows G):mN e sz N x rows G:=by
 refine⟨?_,hB▸h.nx,λm hm=>rfl⟩
 rcases h.is with q|⟨n,q1,q2,q3,q4⟩
 ·exact .inl q
 ·exact .inr ⟨n,by simp only;omega,q2,q3,q4⟩
theorem BM.keep{H H':GH}{n m1 m2 m3:Nat}{az aj:List ca}{a k:Int}(h:BM H n m1 m2 m3 az aj a k)(hw:gD H)(ho:∀m,m<H.next->H'.obj m=H.obj m):BM H' n m1 m2 m3 az aj a k:=
 ⟨by rw[ho _ (hw.lt h.sc)];exact h.sc,by rw[ho _ (hw.lt h.o1)];exact h.o1,by rw[ho _ (hw.lt h.o2)];exact h.o2,by rw[ho _ (hw.lt h.o3)];exact h.o3⟩
theorem Qy(l:List (List Nat)):∀r∈l.map rT,r.length=1:=λr hr=>by obtain⟨_,_,rfl⟩:=List.mem_map.1 hr;rfl
def qc(n:Nat)(R:Nat->Nat->Bool)(i:Nat):Bool:=R i i&&(bO n R i).head? ==some i
def eT(n:Nat)(R:Nat->Nat->Bool)(i:Nat):List (List Nat):=((List.range i).filter (qc n R)).map (bO n R)
theorem kY.getB{es:List (Value×LV)}{M:Nat->Bool}(h:kY es M)(k:Nat):(bz (.int .i64 k) es).getD (.d (.k (.bool false)))=.d (.k (.bool (M k))):=by
 rw[h.get k];cases M k<;>rfl
theorem Ey(n:Nat)(R:Nat->Nat->Bool)(i:Nat):eT n R (i+1)=eT n R i++(if qc n R i=true then[bO n R i]else[]):=by
 unfold eT;rw[List.range_succ,List.filter_append,List.map_append,List.filter_cons];cases q:qc n R i<;>simp
theorem N7{n:Nat}{R:Nat->Nat->Bool}(ht:∀i j k,R i j=true->R j k=true->R i k=true){i:Nat}(hi:i<n):(((eT n R i).any λr=>r.contains i)|| !R i i)= !qc n R i:=by
 have hin:((eT n R i).any λr=>r.contains i)=true↔∃j,j<i/\qc n R j=true/\i∈bO n R j:=by
  simp only[eT,List.any_eq_true,List.mem_map,List.mem_filter,List.mem_range];constructor
  ·rintro⟨r,⟨j,⟨h1,h2⟩,rfl⟩,h3⟩;exact⟨j,h1,h2,by simpa using h3⟩
  ·rintro⟨j,h1,h2,h3⟩;exact⟨_,⟨j,⟨h1,h2⟩,rfl⟩,by simpa using h3⟩
 have hsame:∀j,R i j=true->R j i=true->bO n R j=bO n R i:=λj h1 h2=>by
  unfold bO;refine List.filter_congr λk _=>?_
  rw[Bool.eq_iff_iff];simp only[Bool.or_eq_true,beq_iff_eq,Bool.and_eq_true];constructor
  ·rintro(rfl|⟨h3,h4⟩)
   ·exact .inr ⟨h1,h2⟩
   ·exact .inr ⟨ht _ _ _ h1 h3,ht _ _ _ h4 h2⟩
  ·rintro(rfl|⟨h3,h4⟩)
   ·exact .inr ⟨h2,h1⟩
   ·exact .inr ⟨ht _ _ _ h2 h3,ht _ _ _ h4 h1⟩
 cases hq:qc n R i with
 |true=>
  simp only[qc,Bool.and_eq_true,beq_iff_eq]at hq;have h1:((eT n R i).any λr=>r.contains i)=false:=by
   rw[Bool.eq_false_iff];intro z;obtain⟨j,hj,hjq,hm⟩:=hin.1 z;simp only[qc,Bool.and_eq_true,beq_iff_eq]at hjq;have:=bK.1 hm;have h2:R j i=true/\R i j=true:=by
    rcases this.2 with e|e
    ·omega
    ·exact e
   have:=hsame j h2.2 h2.1;rw[this,hq.2]at hjq;have:=Option.some.inj hjq.2;omega
  rw[h1,hq.1];rfl
 |false=>
  cases hr:R i i with
  |false=>simp
  |true=>
   have h1:((eT n R i).any λr=>r.contains i)=true:=by
    refine hin.2 ?_;have hmem:i∈bO n R i:=bK.2 ⟨hi,.inl rfl⟩;obtain⟨j,hj⟩:∃j,(bO n R i).head?=some j:=by
     cases h:bO n R i with
     |nil=>rw[h]at hmem;cases hmem
     |cons a l=>exact⟨a,rfl⟩
    have hjm:j∈bO n R i:=List.mem_of_mem_head? (by rw[hj];exact rfl)
    obtain⟨hjn,hji⟩:=bK.1 hjm;have hne:j≠i:=λe=>by
     rw[e]at hj;simp[qc,hr,hj]at hq
    have qw:R i j=true/\R j i=true:=by
     rcases hji with e|e
     ·exact absurd e hne
     ·exact e
    have hs:=hsame j qw.1 qw.2;refine⟨j,?_,?_,by rw[hs];exact hmem⟩
    ·have OJ:(bO n R i).Pairwise (·<·):=List.pairwise_lt_range.filter _
     cases h:bO n R i with
     |nil=>rw[h]at hj;cases hj
     |cons a l=>
      rw[h]at hj hmem OJ;simp at hj;subst hj;rcases List.mem_cons.1 hmem with e|e
      ·exact absurd e.symm hne
      ·exact(List.pairwise_cons.1 OJ).1 _ e
    ·simp only[qc,hs,hj,Bool.and_eq_true,beq_self_eq_true,and_true];exact ht _ _ _ qw.2 qw.1
   rw[h1];rfl
theorem MB{p:Prog}{i k:Nat}(h:Path (fJ p) i k):k<p.aj.length:=by
 have key:∀i k,fJ p i k->k<p.aj.length:=λi k ⟨_,e,_,_,h⟩=>by
  have:=nM (an p) e.name;have h2:(an p).length=p.aj.length:=by simp[an]
  omega
 induction h with
 |one h=>exact key _ _ h
 |cons _ _ ih=>exact ih
theorem Kr(p:Prog)(lG:∀s∈p.az++an p,cN s)(hp:formed p)(g:Good p)(H:GH):
  aF prog 120 [lv (ax p)] H λce H'=>ce=.ret (.dx [sl ((dG p.aj.length (bh p)).map rT),aH 0])/\H'=H:=by
 have cc:=ar (p:=aY [1] [] []);refine aF.dV (ar (p:=aY [1] [] [])) func120 rfl call120 (by rw[ntmps120];simp) rfl λhf hw=>?_
 have hlk:=qD p lG H;simp[ax]at hlk;simp[ntmps120,results120,ax]at hf|-;refine AW.seq cc ?_;simp;refine AW.seq cc ?_;simp;refine EC.of hlk (λv H1 hR=>?_) (λv H1 hR=>by rw[if_pos hp]at hR;obtain⟨⟨_,q,_⟩,_⟩:=hR;cases q)
 rw[if_pos hp]at hR;obtain⟨⟨sn,q,hrefs,dz,m1,m2,m3,ah,nd,yA⟩,vm,ho1⟩:=hR;cases q;simp;refine AW.Tj (λhw1=>?_)
 simp only at hw1;have Vq:=hw1.lt yA.sc;refine AW.seq cc ?_;simp;refine AW.seq cc ?_;simp;refine AW.seq cc ?_;simp;refine AW.seq cc ?_;simp;obtain⟨n,hn⟩:∃n,p.aj.length=n:=⟨_,rfl⟩;obtain⟨R,hR⟩:∃R,bh p=R:=⟨_,rfl⟩;have Tr:n<=6:=hn▸g.n6;obtain⟨mi,Ff⟩:∃mi,H1.next=mi:=⟨_,rfl⟩;rw[hn,hR,Ff];have hi1:=yA;refine AW.Dg cc (λa:Nat×LV×List (Value×LV)×GH=>⟨[(1,.ip ((ax p).map .d) 0),(4,.gp sn 0),(5,a.2.1),(6,.gm mi),(19,aH n),(20,aH a.1)],[],a.2.2.2⟩) (λa=>n-a.1)
  (λa=>a.1<=n/\mi+1<=a.2.2.2.next/\a.2.2.2.obj mi=some (.map a.2.2.1)/\kY a.2.2.1 (λk=>(eT n R a.1).any λr=>r.contains k)/\(∀m,m<mi->a.2.2.2.obj m=H1.obj m)/\mN 94 1 (mi+1) a.2.1 ((eT n R a.1).map rT) a.2.2.2)
  (0,.d (.k (.slice none 0 0)),[],H1.add (.map [])) ⟨⟨Nat.zero_le _,?_,?_,?_,?_,?_⟩,by simp[ax]⟩ ?_
 ·simp only[GH.aq];omega
 ·simp only[GH.au];rw[if_pos Ff.symm]
 ·simp only[eT];simpa using kY.nil
 ·exact λm hm=>by simp only[GH.au];rw[if_neg (by omega)]
 ·simpa[eT]using mN.nil (by rw[GH.aq];omega)
 rintro⟨i,x,es,G⟩ ⟨hi,c0,c1,c2,c3,c4⟩;simp only at hi c0 c1 c2 c3 c4;refine AW.seq cc ?_;simp[ax];refine AW.seq cc ?_;simp;refine⟨λh=>?_,λh=>?_⟩
 ·have hsc:BM G sn m1 m2 m3 p.az (an p) ah nd:=yA.keep hw1 (λm hm=>c3 m (by rw[<-Ff];exact hm))
  have MU:=λ(k:Nat) (hk:k<n) (G:GH) (hG:BM G sn m1 m2 m3 p.az (an p) ah nd)=>tN p hrefs sn m1 m2 m3 ah nd k (by omega) G hG
  have AX:=MU i h G hsc;simp[ax]at AX;refine AW.seqW (c:=wR (aY [1] [] [])) ?_;refine AW.block (c:=wR (aY [1] [] [])) ?_;refine AW.seq cc ?_;simp;refine AW.seq cc ?_;simp;refine⟨by omega,EC.of AX (λv G2 hR=>?_) (λv G2 hR=>by cases hR.1)⟩
  obtain⟨q,er,hG2,hmr⟩:=hR;cases q;rw[hG2]
  clear hG2
  simp;have Dv:=c2.getB i;have IT:∀k,(bz (.int .i64 ((k:Nat):Int)) er).getD (.d (.k (.bool false)))=.d (.k (.bool (R i k))):=λk=>by rw[hmr.getB k,<-hR];rfl
  have hks:=eq_true c2.key;have hkr:=eq_true hmr.key;have og:∀X,(G.add X).obj mi=some (.map es):=λX=>by rw[GH.au,if_neg (by omega)];exact c1
  have og2:∀X,(G.add X).obj G.next=some X:=λX=>by rw[GH.au,if_pos rfl]
  have AU:=N7 (n:=n) (R:=R) (λi j k h1 h2=>by rw[<-hR]at h1 h2|-;simp only[bh,decide_eq_true_eq]at h1 h2|-;exact h1.trans h2) h
  have hsu:=Ey n R i;obtain⟨mD,hinB⟩:∃mD,((eT n R i).any λr=>r.contains i)=mD:=⟨_,rfl⟩
  rw[hinB]at AU Dv;refine AW.seq cc ?_;simp[og,og2,hks,hkr,Dv,IT];have eU:=aB (n:=9223372036854775807) (show i<9223372036854775807 by omega)
  have hGn:∀X,G.next<=(G.add X).next:=λX=>by rw[GH.aq];omega
  have hGo:∀X m,m<G.next->(G.add X).obj m=G.obj m:=λX m hm=>by rw[GH.au,if_neg (by omega)]
  have hx1:mN 94 1 (mi+1) x ((eT n R i).map rT) (G.add (.map er)):=c4.keep (hGn _) λm _ hm=>hGo _ m hm
  refine⟨λq=>?_,λq1 q2=>?_⟩
  ·have hrq:qc n R i=false:=by
    have h1:(mD|| !R i i)=true:=by
     rcases q with q|q<;>simp[q]
    rw[AU]at h1;simpa using h1
   rw[hrq]at hsu;simp only[Bool.false_eq_true,if_false,List.append_nil]at hsu;refine AW.ev cc ?_;simp[eU];exact NX.go (i+1,x,es,G.add (.map er)) (by simp only;omega) ⟨h,by simp only[GH.aq];omega,og _,by simp only;rw[hsu];exact c2,λm hm=>by simp only;rw[hGo _ m (by omega)];exact c3 m hm,by simp only;rw[hsu];exact hx1⟩ (by simp[ax,c4.only])
  ·have hrq:qc n R i=true:=by
    have h1:(mD|| !R i i)=false:=by rw[q1,q2];rfl
    rw[AU]at h1;simpa using h1
   rw[hrq]at hsu;simp only[if_true]at hsu;obtain⟨L,hL⟩:∃L,(List.range n).filter (R i)=L:=⟨_,rfl⟩;have OC:=qC (m:=G.next) (n:=n) (by omega) hmr (λk hk=>by rw[<-hn];exact MB (by simpa[py]using hk)) (og2 _)
   have hRi:py p i=R i:=by rw[<-hR];rfl
   rw[hRi,hL]at OC;refine AW.seq cc ?_;simp;refine AW.seq cc ?_;simp;refine⟨by rw[GH.aq];omega,EC.of OC (λv G3 hR=>?_) (λv G3 hR=>by cases hR.1)⟩
   obtain⟨q,rfl⟩:=hR;cases q;simp;obtain⟨B,hB⟩:∃B,B=G.add (.map er):=⟨_,rfl⟩;rw[<-hB]at hx1|-;have hBmi:B.obj mi=some (.map es):=by rw[hB];exact og _
   have hBn:B.next=G.next+1:=by rw[hB];rfl
   have hBl:∀m,m<mi->B.obj m=H1.obj m:=λm hm=>by rw[hB,hGo _ m (by omega)];exact c3 m hm
   have hLl:L.length<=6:=by rw[<-hL];exact Nat.le_trans (List.length_filter_le _ _) (by simp;omega)
   refine AW.aU cc (λa:Nat×LV×List (Value×LV)×GH=>⟨[(1,.ip ((ax p).map .d) 0),(4,.gp sn 0),(5,x),(6,.gm mi),(7,aH i),(9,a.2.1),(19,aH n),(20,aH i),(37,sl ((bU L).map rI)),(38,aH L.length),(39,aH a.1)],[],a.2.2.2⟩) (λa=>L.length-a.1)
    (λa=>a.1<=L.length/\B.next<=a.2.2.2.next/\a.2.2.2.obj mi=some (.map a.2.2.1)/\kY a.2.2.1 (λk=>((eT n R i).any λr=>r.contains k)||((L.take a.1).filter λk=>R k i).contains k)/\(∀m,m<B.next->m≠mi->a.2.2.2.obj m=B.obj m)/\mN 3 1 B.next a.2.1 ((bU ((L.take a.1).filter λk=>R k i)).map rI) a.2.2.2)
    (0,.d (.k (.slice none 0 0)),es,B) ⟨⟨Nat.zero_le _,Nat.le_refl _,hBmi,by simpa using c2,λm hm _=>rfl,by simpa[bU]using mN.nil (Nat.le_refl _)⟩,by simp[ax,hx1.only,bU]⟩ ?_
   rintro⟨j,y,es2,G4⟩ ⟨hj,d0,d1,d2,d3,d4⟩;simp only at hj d0 d1 d2 d3 d4;simp;refine⟨λhjl=>?_,λhjl=>?_⟩
   ·have OH:j<L.length:=by simpa[bU]using hjl
    obtain⟨k,hk⟩:∃k,L[j]=k:=⟨_,rfl⟩;have fU:L.take (j+1)=L.take j++[k]:=by rw[<-aR OH,hk]
    have hkm:k∈L:=hk▸List.getElem_mem OH;have hkn:k<n:=by rw[<-hL]at hkm;exact List.mem_range.1 (List.mem_filter.1 hkm).1
    have hsc4:BM G4 sn m1 m2 m3 p.az (an p) ah nd:=yA.keep hw1 λm hm=>by rw[d3 m (by omega) (by omega)];exact hBl m (by omega)
    have hr4:=MU k hkn G4 hsc4;simp[ax]at hr4;have sR:(bU L)[j]?=some (k:Int):=by simp[bU,List.getElem?_eq_getElem OH,hk]
    simp[OH,sR,rI,ax,bU,hk];refine⟨by omega,EC.of hr4 (λv G5 hR=>?_) (λv G5 hR=>by cases hR.1)⟩
    obtain⟨q,er4,hG5,hm4⟩:=hR;cases q;rw[hG5]
    clear hG5
    have o5:∀X,(G4.add X).obj G4.next=some X:=λX=>by rw[GH.au,if_pos rfl]
    have o5m:∀X,(G4.add X).obj mi=some (.map es2):=λX=>by rw[GH.au,if_neg (by omega)];exact d1
    have h4g:(bz (.int .i64 ((i:Nat):Int)) er4).getD (.d (.k (.bool false)))=.d (.k (.bool (R k i))):=by rw[hm4.getB i,<-hR];rfl
    have hk4:=eq_true hm4.key;have hk2:=eq_true d2.key;have Rn:=aB (n:=9223372036854775807) (show j<9223372036854775807 by omega)
    have J7:(L.take (j+1)).filter (λk=>R k i)=(L.take j).filter (λk=>R k i)++(if R k i=true then[k]else[]):=by
     rw[fU,List.filter_append,List.filter_cons];cases R k i<;>simp
    have hfl:((L.take j).filter λk=>R k i).length<=6:=Nat.le_trans (List.length_filter_le _ _) (by simp;omega)
    have d4':mN 3 1 B.next y ((bU ((L.take j).filter λk=>R k i)).map rI) (G4.add (.map er4)):=d4.keep (by rw[GH.aq];omega) λm _ hm=>by rw[GH.au,if_neg (by omega)]
    simp[o5,hk4,h4g,d4.plain.all];refine⟨λhq=>?_,λhq=>?_⟩
    ·rw[hq]at J7;simp only[if_true]at J7;refine eE.dJ (H0:=⟨(G4.add (.map er4)).obj,B.next⟩) (ys:=[rI (k:Nat)]) lY rfl Gc (by simp) (x:=y) (by simp) d4' (by simp[rowsOf,rI]) (by simp) (λr hr=>by obtain⟨_,_,rfl⟩:=List.mem_map.1 hr;rfl) (λr hr=>by simp only[List.mem_singleton]at hr;subst hr;rfl) (by simp[bU];omega) (by simp) λy' G6 h6 Tr _=>?_
     simp only[GH.aq]at Tr;have h6mi:G6.obj mi=some (.map es2):=by rw[h6.ob mi (by simp only;omega)];exact o5m _
     simp[h6.plain.all,h6mi,hk2];have hy6:mN 3 1 B.next y' ((bU ((L.take (j+1)).filter λk=>R k i)).map rI) (G6.set mi (.map (cg (.int .i64 (k:Int)) (.d (.k (.bool true))) es2))):=by
      have h7:mN 3 1 B.next y' _ G6:=mN.of (B:=⟨(G4.add (.map er4)).obj,B.next⟩) rfl h6;have h8:=h7.keep (G':=G6.set mi (.map (cg (.int .i64 (k:Int)) (.d (.k (.bool true))) es2))) (by rw[GH.aL];exact Nat.le_refl _) λm hm _=>by rw[GH.ay,if_neg (by omega)]
      rw[J7];simpa[bU]using h8
     refine NX.go (j+1,y',cg (.int .i64 (k:Int)) (.d (.k (.bool true))) es2,G6.set mi (.map (cg (.int .i64 (k:Int)) (.d (.k (.bool true))) es2))) (by simp only;omega) ⟨OH,by simp only[GH.aL];omega,GH.aX,(d2.put k).congr λu=>?_,λm hm hne=>?_,hy6⟩ (by simp[ax,hx1.only,h6.only,bU,Rn])
     ·simp only[fI];rw[J7];by_cases e:u=k
      ·rw[if_pos e,e];simp
      ·rw[if_neg e];simp[e]
     ·simp only;rw[GH.ay,if_neg hne,h6.ob m (by simp only;omega)]
      simp only;rw[GH.au,if_neg (by omega)]
      exact d3 m hm hne
    ·rw[hq]at J7;simp only[Bool.false_eq_true,if_false,List.append_nil]at J7;exact NX.go (j+1,y,es2,G4.add (.map er4)) (by simp only;omega) ⟨OH,by simp only[GH.aq];omega,o5m _,by simp only;rw[J7];exact d2,λm hm hne=>by simp only;rw[GH.au,if_neg (by omega)];exact d3 m hm hne,by simp only;rw[J7];exact d4'⟩ (by simp[ax,hx1.only,d4.only,bU,Rn])
   ·have e1:j=L.length:=by
     have:¬j<L.length:=by simpa[bU]using hjl
     omega
    subst e1;rw[List.take_length]at d2 d4;have hring:L.filter (λk=>R k i)=bO n R i:=by
     rw[<-hL,List.filter_filter,bO];refine List.filter_congr λk _=>?_
     rw[Bool.eq_iff_iff];simp only[Bool.and_eq_true,Bool.or_eq_true,beq_iff_eq];exact⟨λq=>.inr ⟨q.2,q.1⟩,λq=>by rcases q with rfl|q;exact⟨q2,q2⟩;exact⟨q.2,q.1⟩⟩
    rw[hring]at d2 d4;have hral:(bO n R i).length<=6:=Nat.le_trans (List.length_filter_le _ _) (by simp;omega)
    refine AW.fzT 9 (AW.ev cc ?_);simp[hx1.plain.all,d4.fz];have hx4:mN 94 1 (mi+1) x ((eT n R i).map rT) G4:=hx1.keep d0 λm hm1 hm2=>d3 m hm2 (by omega)
    have hrl:(eT n R i).length<=6:=by
     unfold eT;rw[List.length_map];exact Nat.le_trans (List.length_filter_le _ _) (by simp;omega)
    refine eE.dJ (H0:=⟨G4.obj,mi+1⟩) (ys:=[rT (bO n R i)]) zi rfl lY (by simp) (x:=x) (by simp) hx4 (by simp[rowsOf,rT,bU]) (by simp) (Qy _) (λr hr=>by simp only[List.mem_singleton]at hr;subst hr;rfl) (by simp;omega) (by simp) λx' G6 h6 Tr _=>?_
    simp only at Tr;simp[h6.plain.all];refine AW.ev cc ?_;simp[h6.plain.all,eU];have h7:mN 94 1 (mi+1) x' _ G6:=mN.of (B:=⟨G4.obj,mi+1⟩) rfl h6;refine NX.go (i+1,x',es2,G6) (by simp only;omega) ⟨h,by simp only;omega,by simp only;rw[h6.ob mi (by simp only;omega)];exact d1,d2.congr λu=>?_,λm hm=>?_,?_⟩ (by simp[ax,h6.only])
    ·simp only;rw[hsu,List.any_append];simp
    ·simp only;rw[h6.ob m (by simp only;omega)]
     simp only;rw[d3 m (by omega) (by omega)];exact hBl m hm
    ·simp only;rw[hsu,List.map_append];exact h7
 ·have e1:i=n:=by omega
  subst e1;refine AW.ev cc ?_;simp[c4.plain.all,c4.fz];exact λ_=>⟨aO (by omega) (λm hm=>by rw[c3 m (by omega)];exact ho1 m hm) hw.none,rfl⟩
theorem Cq(l:List Int)(q:Int->Bool)(f:FuncId)(cap:List LV)(H:GH)(hcap:ct H.next cap)(hc:∀n∈l,aF prog f ([aH n]++cap) H λce H'=>ce=.ret (.d (.k (.bool (q n))))/\H'=H):
  aF prog 176 [sl (l.map rI),.fn (.func f) [] cap] H λce H'=>ce=.ret (aH (AO q l))/\H'=H:=by
 have cc:=aP;refine aF.bD aP func176 rfl call176 (by rw[ntmps176];simp) rfl λhf hw=>?_
 simp[ntmps176,results176]at hf|-;refine AW.aU cc (λi:Nat=>⟨[(0,.d (.sl (l.map rI))),(1,.fn (.func f) [] cap),(7,aH l.length),(8,aH i)],[],H⟩) (λi=>l.length-i) (λi=>i<=l.length/\∀j (h:j<l.length),j<i->q l[j]=false) 0 ⟨by simp,by simp[LV.only,cQ _ hcap,dQ]⟩ ?_
 rintro i ⟨hi,hk⟩;simp;refine⟨λh=>?_,λh=>?_⟩
 ·have gG:=hc l[i] (List.getElem_mem h);simp at gG;simp[h,List.getElem?_eq_getElem h,rI];refine⟨hcap,EC.of gG (λv H2 hR=>?_) (λv H2 hR=>?_)⟩
  ·obtain⟨e,rfl⟩:=hR;cases e;simp[aB h hf.1.1];refine⟨λe=>λhz=>⟨hz.drop (Nat.le_refl _),(yN h e hk).symm⟩,λe=>NX.go (i+1) (Nat.sub_lt_sub_left h (Nat.lt_succ_self i)) ⟨h,λj hj hji=>?_⟩ (by simp[cQ _ hcap])⟩
   by_cases z:j=i
   ·subst z;exact e
   ·exact hk j hj (by omega)
  ·cases hR.1
 ·exact λhz=>⟨hz.drop (Nat.le_refl _),(sF λj hj=>hk j hj (by omega)).symm⟩
theorem wA(l:List Int)(q:Int->Bool)(f:FuncId)(cap:List LV)(H:GH)(hcap:ct H.next cap)(hc:∀n∈l,aF prog f ([aH n]++cap) H λce H'=>ce=.ret (.d (.k (.bool (q n))))/\H'=H):
  aF prog 123 [sl (l.map rI),.fn (.func f) [] cap] H λce H'=>ce=.ret (.d (.k (.bool (l.any q))))/\H'=H:=by
 have cc:=aP;refine aF.bD aP func123 rfl call123 (by rw[ntmps123];simp) rfl λhf hw=>?_
 have hi:=Cq l q f cap H hcap hc;simp at hi;simp[ntmps123,results123,LV.nb,ct,hcap];refine EC.of hi (λv H2 hR=>?_) (λv H2 hR=>?_)
 ·obtain⟨e,rfl⟩:=hR;cases e;simp;refine λhz=>⟨hz.drop (Nat.le_refl _),?_⟩
  rw[<-vl q l]
 ·cases hR.1
theorem Oz(l:List Int)(k:Int):aC prog 177 [sl (l.map rI),aH k] (aH (AO (λx=>decide (x=k)) l)):=by
 have cc:=aP;refine aC.body aP func177 rfl call177 (by rw[ntmps177];simp) rfl λhf H=>?_
 simp[ntmps177,results177]at hf|-;refine AW.aU cc (λi:Nat=>⟨[(0,.d (.sl (l.map rI))),(1,aH k),(7,aH l.length),(8,aH i)],[],H⟩) (λi=>l.length-i) (λi=>i<=l.length/\∀j (h:j<l.length),j<i->decide (l[j]=k)=false) 0 ⟨by simp,by simp⟩ ?_
 rintro i ⟨hi,hk⟩;simp;refine⟨λh=>?_,λh=>?_⟩
 ·simp[h,List.getElem?_eq_getElem h,rI,aB h hf.1];refine⟨λe=>(yN h (by simp[e]) hk).symm,λe=>NX.go (i+1) (Nat.sub_lt_sub_left h (Nat.lt_succ_self i)) ⟨h,λj hj hji=>?_⟩ (by simp)⟩
  by_cases z:j=i
  ·subst z;rw[decide_eq_false_iff_not];exact λq=>e q.symm
  ·exact hk j hj (by omega)
 ·exact(sF λj hj=>hk j hj (by omega)).symm
theorem vk(l:List Int)(k:Int):aC prog 125 [sl (l.map rI),aH k] (.d (.k (.bool (decide (k∈l))))):=by
 refine aC.body aP func125 rfl call125 (by rw[ntmps125];simp) rfl λhf H=>?_
 have hi:=Oz l k;simp at hi;simp[ntmps125,results125];refine EC.aJ hi ?_;simp;have:=vl (λx=>decide (x=k)) l
 have h2:(0<=AO (λx=>decide (x=k)) l)↔(l.any λx=>decide (x=k))=true:=by rw[<-this];simp
 rw[h2];simp
theorem Gl(p:Prog)(lG:∀s∈p.az++an p,cN s)(hp:formed p)(d:Nat)(hd:d<p.aj.length)(H:GH):
  aF prog 97 [lv (ax p),aH d] H λce H'=>(∃n,ce=.ret (.dx [.gp n 0,.d (.k (.bool true))])/\n<H'.next/\zG p/\∃m1 m2 m3 a k,H.next<=n/\BM H' n m1 m2 m3 p.az (an p) a k)/\gD H'/\H.next<=H'.next/\∀m,m<H.next->H'.obj m=H.obj m:=by
 have cc:=ar (p:=aY [2] [] []);refine aF.bD (ar (p:=aY [2] [] [])) func97 rfl call97 (by rw[ntmps97];simp) rfl λhf hw=>?_
 have hlk:=qD p lG H;simp[ax]at hlk;simp[ntmps97,results97,ax]at hf|-;refine EC.of hlk (λv H1 hR=>?_) (λv H1 hR=>by rw[if_pos hp]at hR;obtain⟨⟨_,q,_⟩,_⟩:=hR;cases q)
 rw[if_pos hp]at hR;obtain⟨⟨sn,q,hrefs,dz,m1,m2,m3,ah,nd,yA⟩,vm,ho1⟩:=hR;cases q;simp;refine AW.Tj (λhw1=>?_)
 simp only at hw1;have Vq:=hw1.lt yA.sc;refine AW.draw cc [] (.q 0<|.q 1<|.q 2<|.q 3<|.q 4<|.q 5<|.q 6<|.q 7<|.q 8<|.q 9<|.q 14<|.q 10<|.q 11<|.q 12<|.q 13<|.q 15<|.done) (by kernel_rfl) ?_
 simp[ax];exact λhz=>⟨H1,hz.drop vm,Vq,⟨sn,⟨rfl,hd⟩,Vq,hrefs,dz,m1,m2,m3,ah,nd,yA⟩,hz,vm,ho1⟩
end Go.Aft
end
section
set_option maxRecDepth 20000
namespace Go.Aft
open Go.Proofs.Tryz
open Go.Sort (insertionSort)
theorem Eo{m n:Nat}(hn:n<=12){es:List (Value×LV)}{M:Nat->Bool}{H:GH}(hM:kY es M)(hb:∀k,M k=true->k<n)(hm:H.obj m=some (.map es)):
  aF prog 101 [.gm m] H λce H'=>∃x,ce=.ret x/\kL 3 1 H x ((bU ((List.range n).filter M)).map rI) H':=by
 have cc:=ar (p:=aY [] [] [14]);refine aF.Me (ar (p:=aY [] [] [14])) func101 rfl call101 (by rw[ntmps101];simp) rfl λhf hw=>?_
 have hmn:=hw.lt hm;obtain⟨ks,hkn,hke⟩:=hM.nat;have hkm:=hM.mem hke;have hel:es.length=ks.length:=by have:=congrArg List.length hke;simpa using this
 have jQ:ks.length<=n:=fH n ks hkn λi hi=>hb i ((hkm i).1 hi)
 have hkeys:es.all (λe=>oA e.1)=true:=List.all_eq_true.2 λe he=>by
  have:e.1∈es.map (·.1):=List.mem_map.2 ⟨e,he,rfl⟩
  rw[hke]at this;obtain⟨k,_,q⟩:=List.mem_map.1 this;rw[<-q];rfl
 have dD:∀(i:Nat) (e:Value×LV),es[i]?=some e->e.1=Value.int .i64 (ks.getD i 0:Nat):=λi e he=>by
  have h1:(es.map (·.1))[i]?=some e.1:=by simp[he]
  rw[hke]at h1;simp only[List.getElem?_map,Option.map_eq_some_iff]at h1;obtain⟨k,h2,h3⟩:=h1;rw[<-h3];simp[List.getD,h2]
 simp[ntmps101,results101];refine AW.seq cc ?_;simp;refine AW.seq cc ?_;simp;refine AW.seq cc ?_;simp[hm];refine AW.aU cc (λa:List Nat×LV×GH=>⟨[(3,a.2.1),(6,.gp H.next 0)],[],a.2.2⟩) (λa=>Em es.length (λi=>decide (i∈a.1)))
  (λa=>a.1.Nodup/\(∀i∈a.1,i<es.length)/\kL 3 1 (H.add (FU m es a.1)) a.2.1 ((iq ks a.1).map rI) a.2.2)
  ([],.d (.k (.slice none 0 0)),H.add (FU m es [])) ⟨⟨by simp,by simp,by simpa[iq]using kL.nil⟩,by simp[FU]⟩ ?_
 rintro⟨seen,x,H2⟩ ⟨s1,s2,hv⟩;simp only at s1 s2 hv;have oi:H2.obj H.next=some (FU m es seen):=by rw[hv.ob _ (by rw[GH.aq];omega),GH.au,if_pos rfl]
 have om:H2.obj m=some (.map es):=by rw[hv.ob _ (by rw[GH.aq];omega),GH.au,if_neg (by omega)];exact hm
 have hsl:seen.length<=es.length:=fH _ _ s1 s2;simp;refine ST.next (n:=H.next) (m:=m) (seen:=seen) (es:=es) (by simp) oi om (by simp) rfl rfl hkeys (λi e he hi=>?_) (λhend=>?_)
 ·have hi':=(List.getElem?_eq_some_iff.1 he).1;have hk:=dD i e he;obtain⟨e1,e2⟩:=e;simp only at hk;subst hk;simp;refine ST.entry (n:=H.next) (m:=m) (seen:=seen++[i]) (es:=es) (i:=i) (e:=_) (by simp) (by rw[GH.aX]) (by rw[GH.ay,if_neg (by omega)];exact om) (by simp) rfl hkeys (by simp) he ?_
  obtain⟨H3,uI⟩:∃H3,H2.set H.next (GO.iter m es.length (seen++[i]) es.length)=H3:=⟨_,rfl⟩;have Fb:=hv.set (k:=H.next) (by rw[GH.aq];omega) (FU m es (seen++[i]))
  have ff:∀a b:GO,(H.add a).set H.next b=H.add b:=λa b=>GH.cT
  rw[show H2.set H.next (FU m es (seen++[i]))=H3 from uI,ff]at Fb
  have dz:(seen++[i]).Nodup:=by
   rw[List.nodup_append];exact⟨s1,by simp,λa ha b hb=>by simp at hb;subst hb;intro q;subst q;exact hi ha⟩
  have IG:Em es.length (λj=>decide (j∈seen++[i]))<Em es.length (λj=>decide (j∈seen)):=by
   have:=qA (n:=es.length) (M:=λj=>decide (j∈seen)) hi' (by simpa using hi)
   have e2:fI (λj=>decide (j∈seen)) i=λj=>decide (j∈seen++[i]):=by
    funext j;simp only[fI];by_cases q:j=i<;>simp[q]
   rw[e2]at this;exact this
  have hall:∀j∈seen++[i],j<es.length:=λj hj=>by
   rcases List.mem_append.1 hj with q|q
   ·exact s2 j q
   ·simp at q;subst q;exact hi'
  have hwk:iq ks (seen++[i])=iq ks seen++[((ks.getD i 0:Nat):Int)]:=by simp[iq]
  have hwl:(iq ks seen).length=seen.length:=by simp[iq]
  obtain⟨kv,hkv⟩:∃kv:Int,((ks.getD i 0:Nat):Int)=kv:=⟨_,rfl⟩;rw[hkv]at hwk|-;simp[uI,oB];refine⟨hv.plain.tL,eE.JD (ys:=[rI kv]) lY rfl Gc (by simp) (x:=x) (by simp[hv.plain.all]) Fb (by simp[kg,rowsOf,rI]) (by simp) (EI _) (λr hr=>by simp only[List.mem_singleton]at hr;subst hr;rfl) (by simp;omega) (by simp) λx' H5 h5 _ _=>?_⟩
  simp[h5.plain.all];refine NX.go (seen++[i],x',H5) IG ⟨dz,hall,?_⟩ (by simp[h5.only])
  rw[hwk,List.map_append];exact h5
 ·simp;have mE:=zf (ks:=ks) s1 (by rw[<-hel];exact s2) (by rw[<-hel];exact hend)
  have mQ:qG (iq ks seen)=bU ((List.range n).filter M):=by
   have h1:=CO hkn (n:=n) (M:=M) λk=>⟨λq=>⟨hb k ((hkm k).1 q),(hkm k).1 q⟩,λq=>(hkm k).2 q.2⟩
   rw[<-h1];have uk:(bU ks).Nodup:=by
    unfold bU;rw[List.Nodup,List.pairwise_map];exact hkn.imp λ{a b} q e=>q (by omega)
   have hnd2:(iq ks seen).Nodup:=mE.symm.nodup uk;exact iu (lt:=λa b:Int=>a<b) (λa=>by omega) (λ_ _ _ p q=>by omega) (nU _ hnd2) (nU _ uk) λx=>by rw[(eL _).mem_iff,(eL _).mem_iff,mE.mem_iff]
  obtain⟨W,hW⟩:∃W,iq ks seen=W:=⟨_,rfl⟩;rw[hW]at hv mQ mE;have hWl:W.length<=12:=by rw[mE.length_eq];simp[bU];omega
  have o2:∀m,m<H.next->H2.obj m=H.obj m:=λm hm=>by rw[hv.ob m (by rw[GH.aq];omega),GH.au,if_neg (by omega)]
  have n2:=hv.nx;rw[GH.aq]at n2;refine AW.seq cc ?_;simp[hv.plain.all];rcases id hv.is with⟨q1,rfl⟩|⟨n',g,q1,q2,rfl,q4,q5⟩
  ·have hW0:W=[]:=by simpa using q1
   have hfi0:bU ((List.range n).filter M)=[]:=by rw[<-mQ,hW0];exact List.Perm.eq_nil (eL [])
   have hs0:=Dp H2;refine⟨by simp[LV.nb],EC.of hs0 (λv H3 hR=>?_) (λv H3 hR=>by obtain⟨⟨_,e⟩,_⟩:=hR;cases e)⟩
   obtain⟨_,rfl⟩:=hR;simp;refine AW.ev cc ?_;simp[hfi0];exact λhz=>⟨_,hz.drop (by omega),⟨.inl ⟨rfl,rfl⟩,by omega,o2⟩⟩
  ·rw[mH]at q4;rw[GH.aq]at q1;have hs:=Iv W.toArray (by simpa using hWl) n' H2 g (by simpa using q4)
   have hsz:W.toArray.size=W.length:=by simp
   rw[hsz]at hs;have hWm:(W.map rI).length=W.length:=by simp
   rw[hWm];refine⟨by simp[LV.nb];omega,EC.of hs (λv H3 hR=>?_) (λv H3 hR=>by obtain⟨⟨_,e⟩,_⟩:=hR;cases e)⟩
   obtain⟨_,hE⟩:=hR;rw[hE];have OC:(insertionSort AB W.toArray 0 W.length).toList=bU ((List.range n).filter M):=mQ;rw[OC];simp;obtain⟨F,hF⟩:∃F,bU ((List.range n).filter M)=F:=⟨_,rfl⟩;have OP:F.length=W.length:=by rw[<-hF,<-mQ];exact(eL W).length_eq
   rw[hF];refine AW.ev cc ?_;simp;have o3:∀m,m<H.next->(H2.set n' (.vec 3 g 1 (F.map aH) false)).obj m=H.obj m:=λm hm=>by rw[GH.ay,if_neg (by omega)];exact o2 m hm
   refine λhz=>⟨_,hz.drop (by rw[GH.aL];omega),by rw[GH.aL];exact q2,⟨.inr ⟨n',g,by omega,by rw[GH.aL];exact q2,by rw[List.length_map,OP],by rw[GH.aX,mH],λe=>q5 ?_⟩,by rw[GH.aL];omega,o3⟩⟩
   have:F.length=0:=by have:=congrArg List.length e;simpa using this
   exact List.eq_nil_of_length_eq_zero (by rw[List.length_map];omega)
theorem Ks(p:Prog)(lG:∀s∈p.az++an p,cN s)(hp:formed p)(hs1:0<p.az.length)(LF:p.az.length<=12)(g:Good p)(d:Nat)(hd:d<p.aj.length)(H:GH):
  aF prog 122 [lv (ax p),aH d] H λce H'=>(∃l0:List Int,ce=.ret (.dx [sl (l0.map rI),sl ((bU ((List.range p.aj.length).filter (bh p d))).map rI),aH 0]))/\H'=H:=by
 have cc:=fZ (r:=none) (f:=122) (p:=aY [2] [7,10] [31]);have ccR:∀l,(wS (some l) 122 (aY [2] [7,10] [31])).ok prog:=λl=>fZ
 refine aF.dV (fZ (r:=none) (f:=122) (p:=aY [2] [7,10] [31])) func122 rfl call122 (by rw[ntmps122];simp) rfl λhf hw=>?_
 have hlk:=Gl p lG hp d hd H;simp[ax]at hlk;simp[ntmps122,results122,ax]at hf|-;refine AW.seq cc ?_;simp;refine AW.seq cc ?_;simp;refine EC.of hlk (λv H1 hR=>?_) (λv H1 hR=>by obtain⟨⟨_,q,_⟩,_⟩:=hR;cases q)
 obtain⟨⟨sn,q,Vq,hrefs,dz,m1,m2,m3,ah,nd,yA⟩,hw1,vm,ho1⟩:=hR;cases q;simp[GH.au,GH.aq,GH.cT];refine⟨by omega,?_⟩
 obtain⟨H2,uJ⟩:∃H2,H1.add (.box [.gp sn 0])=H2:=⟨_,rfl⟩;have e2:H2.next=H1.next+1:=by rw[<-uJ];rfl
 have l2:∀m,m<H1.next->H2.obj m=H1.obj m:=λm hm=>by rw[<-uJ,GH.au,if_neg (by omega)]
 have b7:H2.obj H1.next=some (.box [.gp sn 0]):=by rw[<-uJ,GH.au,if_pos rfl]
 rw[uJ];refine AW.Tj (λFX=>?_)
 simp only at FX;refine AW.seq cc ?_;simp;refine AW.seq cc ?_;simp[b7];have hs2:BM H2 sn m1 m2 m3 p.az (an p) ah nd:=yA.keep hw1 l2;have MU:=tN p hrefs sn m1 m2 m3 ah nd d hd H2 hs2;simp[ax]at MU;refine⟨by omega,EC.of MU (λv G2 hR=>?_) (λv G2 hR=>by cases hR.1)⟩
 obtain⟨q,er,hE,hmr⟩:=hR;cases q;rw[hE]
 clear hE
 simp;obtain⟨H3,uI⟩:∃H3,H2.add (.map er)=H3:=⟨_,rfl⟩;have e3:H3.next=H1.next+2:=by rw[<-uI,GH.aq,e2]
 have l3:∀m,m<H2.next->H3.obj m=H2.obj m:=λm hm=>by rw[<-uI,GH.au,if_neg (by omega)]
 have br:H3.obj (H1.next+1)=some (.map er):=by rw[<-uI,GH.au,e2,if_pos rfl]
 rw[uI,e2];refine AW.seq cc ?_;simp[GH.au,GH.aq];refine⟨by omega,?_⟩
 obtain⟨H4,M8⟩:∃H4,((H3.add (.map [])).add (.box [.d (.k (.map none))])).set (H3.next+1) (.box [.gm H3.next])=H4:=⟨_,rfl⟩;have e4:H4.next=H1.next+4:=by rw[<-M8,GH.aL,GH.aq,GH.aq,e3]
 have l4:∀m,m<H3.next->H4.obj m=H3.obj m:=λm hm=>by rw[<-M8,GH.ay,if_neg (by omega),GH.au,if_neg (by rw[GH.aq];omega),GH.au,if_neg (by omega)]
 have bm:H4.obj (H1.next+2)=some (.map []):=by rw[<-M8,GH.ay,if_neg (by omega),GH.au,if_neg (by rw[GH.aq];omega),GH.au,if_pos (by omega)]
 have b10:H4.obj (H1.next+3)=some (.box [.gm (H1.next+2)]):=by rw[<-M8,e3,GH.ay,if_pos rfl]
 rw[M8]
 clear M8
 have hRd:py p d=bh p d:=rfl;rw[hRd]at hmr;have B6:∀k,bh p d k=true->k<p.aj.length:=λk hk=>MB (by simpa[bh]using hk)
 have OC:=Eo (m:=H1.next+1) (n:=p.aj.length) (H:=H4) (by have:=g.n6;omega) hmr B6 (by rw[l4 _ (by omega)];exact br)
 obtain⟨L,hL⟩:∃L,(List.range p.aj.length).filter (bh p d)=L:=⟨_,rfl⟩;rw[hL]at OC;refine AW.seq cc ?_;simp;refine⟨by omega,EC.of OC (λv G2 hR=>?_) (λv G2 hR=>by obtain⟨_,q,_⟩:=hR;cases q)⟩
 obtain⟨x,q,hv⟩:=hR;cases q;simp[hv.plain.all];have hLl:L.length<=6:=by rw[<-hL];exact Nat.le_trans (List.length_filter_le _ _) (by simp;exact g.n6)
 refine eE.JD (ys:=[rI (d:Nat)]) lY rfl Gc (by simp) (x:=v) (by simp) hv (by simp[kg,rowsOf,rI]) (by simp) (EI _) (λr hr=>by simp only[List.mem_singleton]at hr;subst hr;rfl) (by simp[bU];omega) (by simp) λx' H5 h5 hn5 _=>?_
 obtain⟨ks,hks⟩:∃ks,L++[d]=ks:=⟨_,rfl⟩;have hrows:(bU L).map rI++[rI (d:Nat)]=(bU ks).map rI:=by rw[<-hks];simp[bU]
 have hksl:ks.length<=7:=by rw[<-hks];simp;omega
 have hksb:∀k∈ks,k<p.aj.length:=λk hk=>by
  rw[<-hks]at hk;rcases List.mem_append.1 hk with q|q
  ·rw[<-hL]at q;exact List.mem_range.1 (List.mem_filter.1 q).1
  ·simp at q;omega
 rw[hrows]at h5;have h5nx:=h5.nx;have OQ:=h5.ob;rcases id h5.is with⟨q1,_⟩|⟨n',gg,q1,q2,rfl,q4,_⟩
 ·exfalso;have:ks.length=0:=by have:=congrArg List.length q1;simpa[bU]using this
  rw[<-hks]at this;simp at this
 rw[mH]at q4;have hrl:((bU ks).map rI).length=ks.length:=by simp[bU]
 rw[hrl];simp;obtain⟨N0,hN0⟩:∃N0,H5.next=N0:=⟨_,rfl⟩;have hs5:BM H5 sn m1 m2 m3 p.az (an p) ah nd:=hs2.keep FX λm hm=>by rw[OQ m (by omega),l4 m (by omega),l3 m hm]
 have g7:H5.obj H1.next=some (.box [.gp sn 0]):=by rw[OQ _ (by omega),l4 _ (by omega),l3 _ (by omega)];exact b7
 have gr:H5.obj (H1.next+1)=some (.map er):=by rw[OQ _ (by omega),l4 _ (by omega)];exact br
 have gm:H5.obj (H1.next+2)=some (.map []):=by rw[OQ _ (by omega)];exact bm
 have g10:H5.obj (H1.next+3)=some (.box [.gm (H1.next+2)]):=by rw[OQ _ (by omega)];exact b10
 have gl:∀m,m<H.next->H5.obj m=H.obj m:=λm hm=>by rw[OQ m (by omega),l4 m (by omega),l3 m (by omega),l2 m (by omega)];exact ho1 m hm
 refine AW.Tj (λhw5=>?_)
 simp only at hw5;refine AW.loopD cc (λa:Nat×List (Value×LV)×GH×List Nat=>⟨[(2,.ip ((ax p).map .d) 0),(7,.gp H1.next 0),(9,.gm (H1.next+1)),(10,.gp (H1.next+3) 0),(31,.vs n' gg 1 0 ks.length),(32,aH ks.length),(33,aH a.1)],[],a.2.2.1⟩) (λa=>a.2.2.2.map .mark) (λa=>ks.length-a.1)
  (λa=>a.1<=ks.length/\(∃M,kY a.2.1 M/\∀k,M k=true->k<p.az.length)/\N0<=a.2.2.1.next/\a.2.2.1.obj (H1.next+2)=some (.map a.2.1)/\(∀m,m<N0->m≠H1.next+2->a.2.2.1.obj m=H5.obj m)/\a.2.2.2.Nodup/\∀n∈a.2.2.2,N0<=n/\n<a.2.2.1.next/\a.2.2.1.obj n=some .qm)
  (0,[],H5,[]) ⟨⟨Nat.zero_le _,⟨_,kY.nil,λk hk=>by cases hk⟩,by simp only;omega,gm,λm hm _=>rfl,by simp,by simp⟩,by simp[ax,e3]⟩ ?_
 rintro⟨i,es,G,ms⟩ ⟨hi,⟨M,hM,yP⟩,c0,c1,c2,c3,c4⟩;simp only at hi c0 c1 c2 c3 c4;have gv:G.obj n'=some (.vec 3 gg 1 ((bU ks).map aH) false):=by rw[c2 _ (by omega) (by omega)];exact q4
 have f7:G.obj H1.next=some (.box [.gp sn 0]):=by rw[c2 _ (by omega) (by omega)];exact g7
 have fr:G.obj (H1.next+1)=some (.map er):=by rw[c2 _ (by omega) (by omega)];exact gr
 have f10:G.obj (H1.next+3)=some (.box [.gm (H1.next+2)]):=by rw[c2 _ (by omega) (by omega)];exact g10
 have hwi:=aB (n:=9223372036854775807) (show i<9223372036854775807 by omega)
 simp[ax];refine⟨λh=>?_,λh=>?_⟩
 ·obtain⟨k,hk⟩:∃k,ks[i]=k:=⟨_,rfl⟩;have hkm:k∈ks:=hk▸List.getElem_mem h;have hkn:=hksb k hkm;have sR:(bU ks)[i]?=some (k:Int):=by simp[bU,List.getElem?_eq_getElem h,hk]
  have AZ:=o8 p.aj[k].exp;simp[ai]at AZ;simp[gv,sR,hkn,List.getElem?_eq_getElem hkn,ez,ai];refine⟨h,EC.aJ AZ ?_⟩;simp;refine AW.at (c:=wS none 122 (aY [2] [7,10] [31])) ⟨[(2,.ip ((ax p).map .d) 0),(7,.gp H1.next 0),(9,.gm (H1.next+1)),(10,.gp (H1.next+3) 0),(31,.vs n' gg 1 0 ks.length),(32,aH ks.length),(33,aH i),(43,ia p.aj[k].exp)],[],G⟩ (by simp[ax,ia,LV.only,ai]) ?_
  refine AW.Tj λqh=>?_
  simp only[LS.Cd]at qh;refine eV.rangeFunc rfl rfl (f:=164) (first:=[]) (cap:=[.ip ((aQ p.aj[k].exp).map .d) 0]) (by simp[ia]) (by simp[ia])
   [(2,.ip ((ax p).map .d) 0),(7,.gp H1.next 0),(9,.gm (H1.next+1)),(10,.gp (H1.next+3) 0)] (by simp[mS]) (by simp[mS,LV.nb,ct];omega) (by simp[ct,LV.nb]) ?_
  simp only[LS.Cd,List.nil_append,List.singleton_append];generalize hx:LP.mk _ _ _ _ _ _ _=x;have IA:x.f=122:=by rw[<-hx]
  have Fa:x.d=G.next:=by rw[<-hx]
  have dc:∀t,(x.env t).nb (G.next+2):=by
   rw[<-hx];intro t;refine yZ ?_ t;simp[mS,LV.nb,ct];omega
  obtain⟨E,hE⟩:∃E,p.aj[k].exp=E:=⟨_,rfl⟩;rw[hE];obtain⟨J,hJ⟩:∃J:Nat->GH->Prop,J=λ(_:Nat) H'=>∃es' M',H'.obj (G.next+1)=some (x.go .ready none)/\H'.obj G.next=some .qm/\(∀m,m<G.next->m≠H1.next+2->H'.obj m=G.obj m)/\H'.obj (H1.next+2)=some (.map es')/\kY es' M'/\∀k,M' k=true->k<p.az.length:=⟨_,rfl⟩
  have hI:Iter prog (G.next+1) (G.next+2) (iN E) J (λ_=>False) (λ_ _=>False):=by
   refine⟨λ{i Hq Hr} hj lH _=>?_,λh=>h.elim,λh=>h.elim,λ{i Hq} hj m o hm ho=>?_,λh=>h.elim,λh=>h.elim,?_⟩
   ·rw[hJ]at hj|-;obtain⟨es',M',q1,q2,q3,q4,q5,q6⟩:=hj;exact⟨es',M',by rw[lH _ (by omega)];exact q1,by rw[lH _ (by omega)];exact q2,λm hm hne=>by rw[lH _ (by omega)];exact q3 m hm hne,by rw[lH _ (by omega)];exact q4,q5,q6⟩
   ·rw[hJ]at hj;obtain⟨es',M',q1,q2,q3,q4,q5,q6⟩:=hj;by_cases e1:m=G.next+1
    ·subst e1;rw[q1]at ho;cases ho;exact⟨by rw[Fa];omega,dc⟩
    ·by_cases e2:m=G.next
     ·subst e2;rw[q2]at ho;cases ho;trivial
     ·by_cases e3:m=H1.next+2
      ·subst e3;rw[q4]at ho;cases ho;exact q5.nb _
      ·rw[q3 m (by omega) e3]at ho
       exact GO.eX (by omega) (qh.nb m o ho)
   ·intro j Ga r hr hN sP hj;rw[hJ]at hj;obtain⟨es',M',q1,q2,q3,q4,q5,q6⟩:=hj;obtain⟨e,he,rfl⟩:∃e,(bn E)[j]?=some e/\r=lv (aQ e):=by
     simp only[iN,List.getElem?_map,Option.map_eq_some_iff]at hr;obtain⟨e,h1,h2⟩:=hr;exact⟨e,h1,h2.symm⟩
    refine dX.ofN (c:=λl=>wS (some l) 122 (aY [2] [7,10] [31])) ccR (λl=>by simp[IA]) q1 ⟨_,by rw[IA];exact func122⟩ (by rw[<-hx];rfl) (by rw[<-hx];simp) λhz l=>?_
    have xa:=(congrArg LP.lu hx).symm;have xb:=(congrArg LP.body hx).symm;have xe:=(congrArg LP.env hx).symm;have xp:=(congrArg LP.ps hx).symm;have xn:=(congrArg LP.nt hx).symm;dsimp only at xa xb xe xp xn;rw[xa,xb,xe,xp,xn]
    clear xa xb xe xp xn hx
    simp[ai,mr];refine⟨q1,?_⟩;generalize jP:x.go .busy none=ob;have hsame:(Ga.set (G.next+1) ob).set (G.next+1) (x.go .ready none)=Ga:=by rw[GH.set_set,GH.iH q1]
    have hcc:∀m,m<G.next->(Ga.set (G.next+1) ob).obj m=Ga.obj m:=λm hm=>by rw[GH.ay,if_neg (by omega)]
    refine AW.ev (ccR l) ?_;simp;refine⟨λhop=>?_,λ_ OB=>⟨⟨.busy,none,by rw[GH.aX,jP]⟩,Ga,by rw[hsame];exact sP.drop (Nat.le_refl _),GH.same.refl,by rw[hJ];exact⟨es',M',q1,q2,q3,q4,q5,q6⟩⟩⟩
    obtain⟨Gb,hGb⟩:∃Gb,Ga.set (G.next+1) ob=Gb:=⟨_,rfl⟩;rw[hGb]at hcc;rw[hGb];have k0:Gb.obj sn=some (scp [.gm m1,.gm m2,.gm m3] ah nd):=by
     have:=FX.lt hs2.sc;rw[hcc _ (by omega),q3 _ (by omega) (by omega),c2 _ (by omega) (by omega)];exact hs5.sc
    have k1:Gb.obj m1=some (.map (dR p.az 0)):=by
     have:=FX.lt hs2.o1;rw[hcc _ (by omega),q3 _ (by omega) (by omega),c2 _ (by omega) (by omega)];exact hs5.o1
    have k7:Gb.obj H1.next=some (.box [.gp sn 0]):=by rw[hcc _ (by omega),q3 _ (by omega) (by omega)];exact f7
    have k10:Gb.obj (H1.next+3)=some (.box [.gm (H1.next+2)]):=by rw[hcc _ (by omega),q3 _ (by omega) (by omega)];exact f10
    have km:Gb.obj (H1.next+2)=some (.map es'):=by rw[hcc _ (by omega)];exact q4
    have hkey:=eq_true q5.key;obtain⟨kn,hkn,hknl⟩:∃kn:Nat,HF p.az e.name=(kn:Int)/\kn<p.az.length:=by
     have h1:=nM p.az e.name;unfold HF
     split
     ·exact⟨0,rfl,hs1⟩
     ·exact⟨(idx p.az e.name).toNat,by omega,by omega⟩
    refine AW.draw (ccR l) [] (.q 6<|.q 0<|.q 1<|.q 2<|.q 3<|.q 4<|.q 5<|.q 7<|.q 8<|.f<|.one 9<|.done) (by kernel_rfl) ?_
    simp[k0,k1,k7,k10,km,scp,pE,jZ,hkn,hkey];have hputm:=q5.put kn;have LQ:∀X,(Gb.set (H1.next+2) X).set (G.next+1) (x.go .ready none)=Ga.set (H1.next+2) X:=λX=>by
     rw[<-hGb,GH.set_comm (show G.next+1≠H1.next+2 by omega),GH.set_set]
     exact GH.iH (by rw[GH.ay,if_neg (by omega)];exact q1)
    intro OB;refine⟨⟨.busy,none,by rw[GH.ay,if_neg (by omega),<-hGb,GH.aX,jP]⟩,Ga.set (H1.next+2) (.map (cg (.int .i64 (kn:Int)) (.d (.k (.bool true))) es')),?_,⟨rfl,λm hm=>by rw[GH.ay,if_neg (by omega)]⟩,?_⟩
    ·rw[LQ];exact(sP.set (o:=.map (cg (.int .i64 (kn:Int)) (.d (.k (.bool true))) es')) (by omega) (hputm.nb _)).drop (by rw[GH.aL];exact Nat.le_refl _)
    ·rw[hJ];refine⟨_,_,by rw[GH.ay,if_neg (by omega)];exact q1,by rw[GH.ay,if_neg (by omega)];exact q2,λm hm hne=>by rw[GH.ay,if_neg hne];exact q3 m hm hne,GH.aX,hputm,λu hu=>?_⟩
     unfold fI at hu
     split at hu
     ·omega
     ·exact q6 u hu
  have hj0:J 0 ((G.add .qm).add (x.go .ready none)):=by
   rw[hJ];exact⟨es,M,by rw[GH.au,GH.aq,if_pos rfl],by rw[GH.au,GH.aq,if_neg (by omega),GH.au,if_pos rfl],λm hm _=>by rw[GH.au,GH.aq,if_neg (by omega),GH.au,if_neg (by omega)],
    by rw[GH.au,GH.aq,if_neg (by omega),GH.au,if_neg (by omega)];exact c1,hM,yP⟩
  have hall:=v8 hI (by omega) ((G.add .qm).add (x.go .ready none)) (by rw[GH.aq,GH.aq];omega) hj0
  refine hall.mono λce H6 hR=>?_
  obtain⟨hs6,hR⟩:=hR;cases ce with
  |dY x=>exact hR.elim
  |ret v=>
   rcases hR with hR|hR
   ·rw[hJ]at hR;obtain⟨es2,M2,q1,q2,q3,q4,q5,q6⟩:=hR;refine⟨.ready,none,q1,by simp,?_⟩
    simp[xO,Fa];have Tr:H6.next=G.next+2:=by rw[hs6.next,GH.aq,GH.aq]
    refine NXD.go (i+1,es2,H6.set (G.next+1) (x.go .exhausted none),G.next::ms) (by simp only;omega) ⟨h,⟨M2,q5,q6⟩,by simp only[GH.aL];omega,by simp only;rw[GH.ay,if_neg (by omega)];exact q4,λm hm hne=>?_,?_,λu hu=>?_⟩ (by simp[ax,hwi])
    ·simp only;rw[GH.ay,if_neg (by omega),q3 _ (by omega) hne]
     exact c2 m hm hne
    ·simp only;refine List.nodup_cons.2 ⟨λhq=>?_,c3⟩
     have:=(c4 _ hq).2.1;omega
    ·simp only at hu|-;rcases List.mem_cons.1 hu with rfl|hu
     ·exact⟨by omega,by rw[GH.aL];omega,by rw[GH.ay,if_neg (by omega)];exact q2⟩
     ·have:=c4 u hu;exact⟨this.1,by rw[GH.aL];omega,by rw[GH.ay,if_neg (by omega),q3 _ (by omega) (by omega)];exact this.2.2⟩
   ·exact hR.elim
 ·have hso1:=qC (m:=H1.next+2) (n:=p.az.length) (H:=G) LF hM yP c1;have hso2:=qC (m:=H1.next+1) (n:=p.aj.length) (H:=G) (by have:=g.n6;omega) hmr B6 fr
  rw[hL]at hso2;refine AW.ev cc ?_;simp[f10,c1];refine⟨by omega,EC.of hso1 (λv G2 hR=>?_) (λv G2 hR=>by cases hR.1)⟩
  obtain⟨q,rfl⟩:=hR;cases q;simp;refine⟨by omega,EC.of hso2 (λv G3 hR=>?_) (λv G3 hR=>by cases hR.1)⟩
  obtain⟨q,rfl⟩:=hR;cases q;simp;intro hz;rw[show ms.map AD.mark=ms.map AD.mark++[]from(List.append_nil (ms.map AD.mark)).symm]
  refine lE ms G3 c3 (λn hn=>(c4 n hn).2.2) ?_
  have hnot:∀m,m<N0->m∉ms:=λm hm q=>by have:=(c4 m q).1;omega
  simp;exact⟨aO (by rw[iS];omega) (λm hm=>by rw[iz _ _ _ (hnot _ (by omega)),c2 m (by omega) (by omega)];exact gl m hm) hw.none,⟨_,rfl⟩,by rw[hL]⟩
end Go.Aft
end
section
set_option maxRecDepth 20000
namespace Go.Aft
open Go.Proofs.Tryz
def fT(l:List Nat):LV:=sl ((bU l).map rI)
def xP(ks:List Int)(F:Nat->List Nat):List (Value×LV):=kX ks λk=>fT (F k.toNat)
def jF(D:List Nat):List (Value×LV):=kX (bU D) λ_=>.d (.k (.bool true))
theorem qY{k:Nat}{l:List Nat}:(k:Int)∈bU l↔k∈l:=by
 unfold bU;rw[List.mem_map];constructor
 ·rintro⟨x,h1,h2⟩;have:x=k:=by omega
  rw[<-this];exact h1
 ·exact λh=>⟨k,h,rfl⟩
theorem Lc{l:List Nat}(h:l.Nodup):(bU l).Nodup:=by
 unfold bU;rw[List.Nodup,List.pairwise_map];exact h.imp λ{a b} q e=>q (by omega)
theorem Ji(D:List Nat)(k:Nat):(bz (.int .i64 (k:Int)) (jF D)).getD (.d (.k (.bool false)))=.d (.k (.bool (D.contains k))):=by
 rw[jF,lP];by_cases h:k∈D
 ·rw[if_pos (qY.2 h)];simp[h]
 ·rw[if_neg (λq=>h (qY.1 q))];simp[h]
theorem Sw(D:List Nat)(hn:D.Nodup)(k:Nat):cg (.int .i64 (k:Int)) (.d (.k (.bool true))) (jF D)=jF (if k∈D then D else D++[k]):=by
 rw[jF,qZ _ _ _ _ (Lc hn),jF];by_cases h:k∈D
 ·rw[if_pos (qY.2 h),if_pos h];exact lR λj _=>by split<;>rfl
 ·rw[if_neg (λq=>h (qY.1 q)),if_neg h]
  rw[show bU (D++[k])=bU D++[(k:Int)]by simp[bU]]
  exact lR λj _=>by split<;>rfl
structure Grp(G:GH)(PU md b5 mi:Nat)(n:Nat)(F:Nat->List Nat)(ks:List Int)(D:List Nat):Prop where
 U8:G.obj PU=some (.box [.gm md])
 od:G.obj md=some (.map (jF D))
 o5:G.obj b5=some (.box [.gm mi])
 oi:G.obj mi=some (.map (xP ks F))
 all:∀k:Nat,k<n->(k:Int)∈ks
theorem OU{G:GH}{PU md b5 mi n:Nat}{F:Nat->List Nat}{ks:List Int}{D:List Nat}(h:Grp G PU md b5 mi n F ks D)(d k:Nat)(hd:d<n):
  aF prog 124 [aH k,.gp PU 0,.gp b5 0,.ip [aH d] 0] G λce H'=>ce=.ret (.d (.k (.bool (!D.contains k&& !(F d).contains k))))/\H'=G:=by
 have cc:=ar (p:=aY [] [] []);refine aF.bD (ar (p:=aY [] [] [])) func124 rfl call124 (by rw[ntmps124];simp) rfl λhf hw=>?_
 have hg1:=Ji D k;have lg:=eq_true (iE (bU D) λ_=>LV.d (.k (.bool true)))
 have hg2:(bz (.int .i64 (d:Int)) (xP ks F)).getD (.d (.k (.slice none 0 0)))=fT (F d):=by
  rw[xP,lP,if_pos (h.all d hd)];rfl
 have hk2:=eq_true (iE ks λk=>fT (F k.toNat))
 have hco:=vk (bU (F d)) k;simp at hco;obtain⟨U8,od,o5,oi,_⟩:=h;have J8:jF D=kX (bU D) λ_=>LV.d (.k (.bool true)):=rfl
 have hie:xP ks F=kX ks λk=>fT (F k.toNat):=rfl
 rw[<-J8]at lg;rw[<-hie]at hk2;by_cases Ry:k∈D
 ·simp[Ry]at hg1;simp[ntmps124,results124,U8,od,o5,oi,hg1,lg,Ry];exact λhz=>hz.drop (Nat.le_refl _)
 ·simp[Ry]at hg1;simp[ntmps124,results124,U8,od,o5,oi,hg1,lg,Ry,hg2,hk2,fT,LV.nb];refine EC.aJ hco ?_;simp;exact λhz=>⟨hz.drop (Nat.le_refl _),by simp[Ry,qY]⟩
theorem RZ(p:Prog)(lG:∀s∈p.az++an p,cN s)(hp:formed p)(hs1:0<p.az.length)(LF:p.az.length<=12)(g:Good p){G:GH}{PU md b5 mi:Nat}{ks:List Int}{D:List Nat}
  (h:Grp G PU md b5 mi p.aj.length (fL p.aj.length (bh p)) ks D) (d:Nat) (hd:d<p.aj.length):
  aF prog 121 [aH d,.ip ((ax p).map .d) 0,.gp PU 0,.gp b5 0] G λce H'=>ce=.ret (.d (.k (.bool (fw p.aj.length (bh p) D d))))/\H'=G:=by
 have cc:=ar (p:=aY [4] [] []);refine aF.bD (ar (p:=aY [4] [] [])) func121 rfl call121 (by rw[ntmps121];simp) rfl λhf hw=>?_
 have l1:=hw.lt h.U8;have l5:=hw.lt h.o5;have MU:=Ks p lG hp hs1 LF g d hd G;have J9:=wA (bU ((List.range p.aj.length).filter (bh p d))) (λz=>!D.contains z.toNat&& !(fL p.aj.length (bh p) d).contains z.toNat) 124 [.gp PU 0,.gp b5 0,.ip [aH d] 0] G (by simp[ct,LV.nb,l1,l5]) (λz hz=>by
  obtain⟨k,_,rfl⟩:=List.mem_map.1 hz;have:=OU h d k hd;simpa using this)
 have Fj:((bU ((List.range p.aj.length).filter (bh p d))).any λz=>!D.contains z.toNat&& !(fL p.aj.length (bh p) d).contains z.toNat)=((List.range p.aj.length).filter (bh p d)).any λk=>!D.contains k&& !(fL p.aj.length (bh p) d).contains k:=by
  unfold bU;rw[List.any_map];rfl
 rw[Fj]at J9;obtain⟨c,hc⟩:∃c,(((List.range p.aj.length).filter (bh p d)).any λk=>!D.contains k&& !(fL p.aj.length (bh p) d).contains k)=c:=⟨_,rfl⟩
 have hrm:fw p.aj.length (bh p) D d=(!D.contains d&& !c):=by rw[fw,hc]
 rw[hc]at J9;rw[hrm];have hg1:=Ji D d;have lg:=eq_true (iE (bU D) λ_=>LV.d (.k (.bool true)))
 have J8:jF D=kX (bU D) λ_=>LV.d (.k (.bool true)):=rfl
 rw[<-J8]at lg;obtain⟨U8,od,o5,oi,_⟩:=h;simp[ax]at MU J9;simp[ntmps121,results121,ax];refine EC.of MU (λv G2 hR=>?_) (λv G2 hR=>by obtain⟨⟨_,q⟩,_⟩:=hR;cases q)
 obtain⟨⟨l0,q⟩,rfl⟩:=hR;cases q;by_cases IV:d∈D
 ·simp[IV]at hg1;simp[U8,od,hg1,lg,IV];exact λhz=>hz.drop (Nat.le_refl _)
 ·simp[IV]at hg1;simp[U8,od,hg1,lg,IV];refine⟨⟨l1,l5⟩,EC.of J9 (λv G3 hR=>?_) (λv G3 hR=>by cases hR.1)⟩
  obtain⟨q,rfl⟩:=hR;cases q;simp;exact λhz=>⟨hz.drop (Nat.le_refl _),λ_=>IV⟩
end Go.Aft
end
