import Derived.Test.YthinedikejlgmaaGreatA25
set_option linter.all false
section
set_option maxRecDepth 20000
namespace Go.Aft
open Go.Proofs.Tryz
theorem qe{k:Value}{v:LV}(hk:wv k k=true):∀es:List (Value×LV),bz k (cg k v es)=some v
 |[]=>by simp[cg,bz,hk]
 |e::es=>by
  simp only[cg];cases h:wv k e.1
  ·simp only[Bool.false_eq_true,if_false,bz,h,qe hk es]
  ·simp only[if_true,bz,hk]
theorem fH:∀(n:Nat) (l:List Nat),l.Nodup->(∀i∈l,i<n)->l.length<=n
 |0,l,_,h=>by
  cases l with
  |nil=>simp
  |cons a l=>exact absurd (h a (by simp)) (by omega)
 |n+1,l,hn,h=>by
  have h1:=fH n (l.erase n) (hn.erase n) λi hi=>by
   have h2:=h i (List.mem_of_mem_erase hi);have h3:i≠n:=λe=>by subst e;exact hn.not_mem_erase hi
   omega
  have h4:l.length<=(l.erase n).length+1:=by rw[List.length_erase];split<;>omega
  omega
theorem xB(l:List Item)(top:Int)(hlen:l.length<=1000000)(hn:∀x∈l,-1000000000000<=x.n/\x.n<=1000000000000):aC prog 135 [sl (l.map ak),aH top] (sl ((bV l top).map ak)):=by
 intro H;have cc:=ig (p:=aY [] [] [53]);refine aF.dV (ig (p:=aY [] [] [53])) func135 rfl call135 (by rw[ntmps135];simp) rfl λhf hw=>?_
 simp[ntmps135,results135]at hf|-;refine AW.seq cc ?_;simp;refine AW.seq cc ?_;simp;refine AW.seq cc ?_;simp;have ob:∀X,(H.add X).obj H.next=some X:=λX=>by rw[GH.au,if_pos rfl]
 refine AW.aU cc (λi:Nat=>⟨[(1,aH top),(5,.gm H.next),(12,.d (.sl (l.map ak))),(13,aH l.length),(14,aH i)],[],H.add (.map (nP (qv ((l.take i).filter (OA top)))))⟩) (λi=>l.length-i) (λi=>i<=l.length) 0 ⟨Nat.zero_le _,by simp[qv,nP]⟩ λi hi=>?_
 simp;refine⟨λh=>?_,λh=>?_⟩
 ·have hx:=hn l[i] (List.getElem_mem h);obtain⟨x,dc⟩:∃x,l[i]=x:=⟨_,rfl⟩;have fU:l.take (i+1)=l.take i++[x]:=by rw[<-aR h,dc]
  obtain⟨M,hM⟩:∃M,qv ((l.take i).filter (OA top))=M:=⟨_,rfl⟩;have yP:-1000000000000000000<=tW x.aa M/\tW x.aa M<=1000000000000000000:=by
   rw[<-hM,Ht (Nt _),JM];have hb:=Bs (r:=x.aa) (b:=1000000000000) (l:=(l.take i).filter (OA top)) (λy hy=>hn y (List.mem_of_mem_take (List.mem_filter.1 hy).1)) (by omega)
   have hle:((l.take i).filter (OA top)).length<=1000000:=Nat.le_trans (List.length_filter_le _ _) (by simp;omega)
   omega
  rw[dc]at hx;simp[h,List.getElem?_eq_getElem h,dc,ak];have hwr:IntKind.wrap .i64 (tW x.aa M+x.n)=tW x.aa M+x.n:=by rw[wrap64]<;>omega
  have hfi:OA top x=true->qv ((l.take (i+1)).filter (OA top))=jo x M:=λq=>by
   rw[fU,List.filter_append,List.filter_cons,if_pos q,List.filter_nil,PA,hM]
  have hfo:OA top x=false->qv ((l.take (i+1)).filter (OA top))=M:=λq=>by
   rw[fU,List.filter_append,List.filter_cons,if_neg (by simp[q]),List.filter_nil,List.append_nil,hM]
  have xQ:∀q:0<=x.aa.at_/\x.aa.at_<=top,OA top x=true:=λq=>by simp[OA,q]
  have hno:∀q:¬(0<=x.aa.at_/\x.aa.at_<=top),OA top x=false:=λq=>by simpa[OA]using q
  have hkr:Value.agg #[.int .i64 x.aa.at_,.int .i64 x.aa.key,.int .i64 x.aa.val]=kR x.aa:=rfl;have hkk:wv (kR x.aa) (kR x.aa)=true:=by rw[Lu];simp
  have hkey:=eq_true (Jh M);have dD:=Aq x.aa M;have hput:=wg x M;have MW:cg (kR x.aa) (.d (.k (.int .i64 (tW x.aa M)))) (nP M)=nP (jo ⟨x.aa,0⟩ M):=by
   have:=wg ⟨x.aa,0⟩ M;simpa using this
  have hlt:pH (kR x.aa) (nP M)<(nP (jo ⟨x.aa,0⟩ M)).length:=by rw[<-MW];exact MJ _
  have PL:yu (pH (kR x.aa) (nP M)) (.d (.k (.int .i64 (tW x.aa M+x.n)))) (nP (jo ⟨x.aa,0⟩ M))=nP (jo x M):=by
   rw[<-MW,C7];exact hput
  have hkey0:=eq_true (Jh (jo ⟨x.aa,0⟩ M));have hget0:(bz (kR x.aa) (nP (jo ⟨x.aa,0⟩ M))).getD (.d (.k (.int .i64 0)))=aH (tW x.aa M):=by
   rw[<-MW,qe hkk];rfl
  have hasK:(KK.ag [.int .i64,.int .i64,.int .i64]).has (kR x.aa)=true:=rfl;have ff:∀X Y,(H.add X).set H.next Y=H.add Y:=λX Y=>GH.cT
  refine⟨λc1 c2=>?_,λc=>?_⟩
  ·rw[hM];have hq:=hfi (xQ ⟨c1,c2⟩);refine AW.draw cc [] (.q 0<|.q 1<|.q 4<|.q 2<|.q 5<|.f (.cons 3 (.q 6<|.f<|.one 7<|.q 8<|.f<|.one 9<|.done) (.cons 7 (.q 8<|.q 3<|.q 6<|.f<|.one 9<|.done) (.nil)))) (by kernel_rfl) ?_
   simp[ob,hkr,hkey,dD,hwr,hlt,MW,PL,hkey0,hget0,hasK,ff];have eU:=aB (n:=9223372036854775807) (show i<9223372036854775807 by omega)
   exact⟨NX.go (i+1) (by omega) h (by simp[hq,eU]),NX.go (i+1) (by omega) h (by simp[hq,eU])⟩
  ·have hq:=hfo (hno λq=>by have:=c q.1;omega)
   rw[hM]at*;exact NX.go (i+1) (by omega) h (by simp[hq,aB (n:=9223372036854775807) (show i<9223372036854775807 by omega)])
 ·have e:i=l.length:=by omega
  subst e;rw[List.take_length];obtain⟨L,hL⟩:∃L,l.filter (OA top)=L:=⟨_,rfl⟩;obtain⟨M,hM⟩:∃M,qv L=M:=⟨_,rfl⟩;have AR:bV l top=mR L:=by rw[<-hL];rfl
  have hMl:M.length<=1000000:=by
   rw[<-hM];exact Nat.le_trans (S4 L) (by rw[<-hL];exact Nat.le_trans (List.length_filter_le _ _) hlen)
  rw[hL,hM,AR];have hel:(nP M).length=M.length:=by simp[nP]
  obtain⟨es,tC⟩:∃es,nP M=es:=⟨_,rfl⟩;have hkeys:es.all (λe=>oA e.1)=true:=List.all_eq_true.2 λe he=>by
   rw[<-tC]at he;obtain⟨x,_,q⟩:=List.mem_map.1 he;rw[<-q];rfl
  rw[tC]at hel|-;refine AW.seq cc ?_;simp;refine AW.seq cc ?_;simp[ob];have b1:(H.add (.map es)).next=H.next+1:=rfl;refine AW.aU cc (λa:List Nat×LV×GH=>⟨[(8,a.2.1),(40,.gp (H.next+1) 0)],[],a.2.2⟩) (λa=>Em es.length (λi=>decide (i∈a.1)))
   (λa=>a.1.Nodup/\(∀i∈a.1,i<es.length)/\kL 86 4 ((H.add (.map es)).add (.iter H.next es.length a.1 es.length)) a.2.1 ((qz M a.1).map ak) a.2.2)
   ([],.d (.k (.slice none 0 0)),(H.add (.map es)).add (.iter H.next es.length [] es.length)) ⟨⟨by simp,by simp,by simpa[qz]using kL.nil⟩,by simp[b1]⟩ ?_
  rintro⟨seen,x,H2⟩ ⟨s1,s2,hv⟩;simp only at s1 s2 hv;have oi:H2.obj (H.next+1)=some (.iter H.next es.length seen es.length):=by rw[hv.ob _ (by rw[GH.aq];omega),GH.au,if_pos b1.symm]
  have om:H2.obj H.next=some (.map es):=by rw[hv.ob _ (by rw[GH.aq];omega),GH.au,if_neg (by omega)];exact ob _
  simp;refine ST.next (n:=H.next+1) (m:=H.next) (seen:=seen) (es:=es) (by simp) oi om (by simp) rfl rfl hkeys (λi e he hi=>?_) (λhend=>?_)
  ·have hi':=(List.getElem?_eq_some_iff.1 he).1;obtain⟨y,hy,hk⟩:∃y,M[i]?=some y/\e=(kR y.aa,aH y.n):=by
    rw[<-tC]at he;simp only[nP,List.getElem?_map,Option.map_eq_some_iff]at he;obtain⟨y,h1,h2⟩:=he;exact⟨y,h1,h2.symm⟩
   simp;refine ST.entry (n:=H.next+1) (m:=H.next) (seen:=seen++[i]) (es:=es) (i:=i) (e:=e) (by simp) (by rw[GH.aX]) (by rw[GH.ay,if_neg (by omega)];exact om) (by simp) rfl hkeys (by simp) he ?_
   rw[hk];obtain⟨H3,uI⟩:∃H3,H2.set (H.next+1) (GO.iter H.next es.length (seen++[i]) es.length)=H3:=⟨_,rfl⟩;have Fb:=hv.set (k:=H.next+1) (by rw[GH.aq];omega) (.iter H.next es.length (seen++[i]) es.length)
   have ff:∀a b:GO,((H.add (.map es)).add a).set (H.next+1) b=(H.add (.map es)).add b:=λa b=>by rw[<-b1];exact GH.cT
   rw[uI,ff]at Fb;have hwk:qz M (seen++[i])=qz M seen++(if y.n≠0 then[y]else[]):=by
    have hg:M.getD i default=y:=by simp[List.getD,hy]
    simp only[qz,List.map_append,List.map_cons,List.map_nil,List.filter_append,hg,List.filter_cons,List.filter_nil];by_cases q:y.n=0<;>simp[q]
   have dz:(seen++[i]).Nodup:=by
    rw[List.nodup_append];exact⟨s1,by simp,λa ha b hb=>by simp at hb;subst hb;intro q;subst q;exact hi ha⟩
   have hsl:seen.length<=es.length:=fH _ _ s1 s2;have hwl:(qz M seen).length<=1000000:=Nat.le_trans (List.length_filter_le _ _) (by simp;omega)
   have IG:Em es.length (λj=>decide (j∈seen++[i]))<Em es.length (λj=>decide (j∈seen)):=by
    have:=qA (n:=es.length) (M:=λj=>decide (j∈seen)) hi' (by simpa using hi)
    have e2:fI (λj=>decide (j∈seen)) i=λj=>decide (j∈seen++[i]):=by
     funext j;simp only[fI];by_cases q:j=i<;>simp[q]
    rw[e2]at this;exact this
   have hall:∀j∈seen++[i],j<es.length:=λj hj=>by
    rcases List.mem_append.1 hj with q|q
    ·exact s2 j q
    ·simp at q;subst q;exact hi'
   simp[oB,kR,uI];refine⟨λq=>⟨hv.plain.tL,?_⟩,λq=>?_⟩
   ·refine eE.JD (ys:=[ak y]) uP rfl dO (by simp) (x:=x) (by simp[hv.plain.all]) Fb (by simp[kg,rowsOf,ak]) (by simp) (bl _) (λr hr=>by simp only[List.mem_singleton]at hr;subst hr;rfl) (by simp;omega) (by simp) λx' H5 h5 _ _=>?_
    simp[h5.plain.all];refine NX.go (seen++[i],x',H5) IG ⟨dz,hall,?_⟩ (by simp[h5.only])
    rw[hwk,if_pos q,List.map_append];exact h5
   ·refine NX.go (seen++[i],x,H3) IG ⟨dz,hall,?_⟩ (by simp[Fb.only])
    rw[hwk,if_neg (by simpa using q),List.append_nil];exact Fb
  ·simp;have hwl:(qz M seen).length<=1000000:=Nat.le_trans (List.length_filter_le _ _) (by simp;have:=fH _ _ s1 s2;omega)
   have hsb:=Oy (qz M seen) (by omega) x _ H2 hv
   refine AW.seq cc ?_;simp[hv.plain.all];refine⟨hv.nb,EC.of hsb (λv H3 hR=>?_) (λv H3 hR=>by obtain⟨⟨_,e⟩,_⟩:=hR;cases e)⟩
   obtain⟨_,n3,l',hp,OC,Fb⟩:=hR;have hbag:l'=mR L:=by
    rw[hel]at hend s2;rw[<-hM]at hp s2 hend;exact JA s1 s2 hend hp OC
   subst hbag;have n2:=Fb.nx;rw[GH.aq,GH.aq]at n2;have o3:∀m,m<H.next->H3.obj m=H.obj m:=λm hm=>by rw[Fb.ob m (by rw[GH.aq,GH.aq];omega),GH.au,if_neg (by rw[GH.aq];omega),GH.au,if_neg (by omega)]
   simp[hv.plain.all];rcases Fb.is with⟨q1,rfl⟩|⟨n,g,q1,q2,rfl,q4,q5⟩
   ·refine AW.ev cc ?_;simp;exact λ_=>⟨aO (by omega) o3 hw.none,by simpa using q1⟩
   ·rw[GH.aq,GH.aq]at q1;refine AW.cL (n:=n) (g:=g) (sz:=4) (e:=86) (ex:=false) ((mR L).map ak) q4 rfl (bl _) ?_;refine AW.ev cc ?_;simp;exact λ_=>⟨aO (by simp only;omega) (λm hm=>lB hw (by omega) o3 hm) hw.none,List.take_of_length_le (by simp)⟩
def Co(x:Item):Prop:=(-1000000<=x.n/\x.n<=1000000)/\cq x.aa.val
theorem Al{x:Item}(h:Co x):-1000000000000000<=x.n*x.aa.val/\x.n*x.aa.val<=1000000000000000:=by
 obtain⟨h1,h2⟩:=h;unfold cq at h2;have h3:(x.n*x.aa.val).natAbs<=1000000*1000000000:=by
  rw[Int.natAbs_mul];exact Nat.mul_le_mul (by omega) (by omega)
 omega
theorem uo(f:Int):∀(l:List Item) (st:Nat×Int),(∀x∈l,Co x)->-1000000000000000*(st.1+1:Int)<=st.2/\st.2<=1000000000000000*(st.1+1:Int)->(l.foldl (cG f) st).1=st.1+l.length/\
  -1000000000000000*(st.1+l.length+1:Int)<=(l.foldl (cG f) st).2/\(l.foldl (cG f) st).2<=1000000000000000*(st.1+l.length+1:Int)
 |[],st,_,h=>by simpa using h
 |x::l,st,hl,h=>by
  rw[List.foldl_cons];have hx:=hl x (by simp)
  have hm:=Al hx;obtain⟨h1,h2⟩:=hx;unfold cq at h2;have ih:=uo f l (cG f st x) (λy hy=>hl y (List.mem_cons_of_mem _ hy)) (by
   simp only[cG]
   split
   ·push_cast;omega
   ·split
    ·push_cast;omega
    ·split
     ·split<;>push_cast<;>omega
     ·split
      ·split<;>push_cast<;>omega
      ·push_cast;omega)
  have e:(cG f st x).1=st.1+1:=rfl;rw[e]at ih;simp only[List.length_cons]
  push_cast at ih|-
  exact⟨by omega,by omega,by omega⟩
theorem De(f:Int)(l:List Item)(hl:l.length<=1000)(hb:∀x∈l,Co x):aC prog 59 [aH f,sl (l.map ak)] (aH (foldI f l)):=by
 have cc:=ar (p:=aY [] [] []);refine aC.body (ar (p:=aY [] [] [])) func59 rfl call59 (by rw[ntmps59];simp) rfl λhf H=>?_
 simp[ntmps59,results59]at hf|-;refine AW.aU cc (λi:Nat=>⟨[(0,aH f),(5,aH ((l.take i).foldl (cG f) (0,0)).2),(9,.d (.sl (l.map ak))),(10,aH l.length),(11,aH i)],[],H⟩) (λi=>l.length-i) (λi=>i<=l.length) 0 ⟨Nat.zero_le _,by simp⟩ λi hi=>?_
 simp;refine⟨λh=>?_,λh=>?_⟩
 ·obtain⟨x,dc⟩:∃x,l[i]=x:=⟨_,rfl⟩;have hx:=hb l[i] (List.getElem_mem h);rw[dc]at hx;have hbd:=uo f (l.take i) (0,0) (λy hy=>hb y (List.mem_of_mem_take hy)) (by simp)
  have hst:(l.take (i+1)).foldl (cG f) (0,0)=cG f ((l.take i).foldl (cG f) (0,0)) x:=by
   rw[<-aR h,dc,List.foldl_append];rfl
  obtain⟨st,hs⟩:∃st,(l.take i).foldl (cG f) (0,0)=st:=⟨_,rfl⟩;rw[hs]at hbd hst;have hlt:(l.take i).length=i:=by simp;omega
  rw[hlt]at hbd;have hm:=Al hx;obtain⟨h1,h2⟩:=hx;unfold cq at h2;have w1:IntKind.wrap .i64 (st.2+x.n)=st.2+x.n:=by rw[wrap64]<;>omega
  have w2:IntKind.wrap .i64 (x.n*x.aa.val)=x.n*x.aa.val:=by rw[wrap64]<;>omega
  have w3:IntKind.wrap .i64 (st.2+x.n*x.aa.val)=st.2+x.n*x.aa.val:=by rw[wrap64]<;>omega
  have LA:st.1=i:=by have:=hbd.1;omega
  have xQ:∀v:Int,v=(cG f st x).2->v=((l.take (i+1)).foldl (cG f) (0,0)).2:=λv q=>by rw[hst,q]
  simp[h,List.getElem?_eq_getElem h,dc,ak,hs,w1,w2,w3,aB h (show l.length<=9223372036854775807 by omega)]
  have w4:=aB h (show l.length<=9223372036854775807 by omega)
  refine⟨λq=>?_,λn1=>⟨λq=>?_,λn2=>⟨λq=>⟨λr=>?_,λr1 r2=>?_⟩,λn3=>⟨λq=>⟨λr=>?_,λr1 r2=>?_⟩,λn4=>?_⟩⟩⟩⟩
  ·have hv:(cG f st x).2=st.2+x.n:=by simp[cG,q]
   exact NX.go (i+1) (by omega) h (by simp[hst,hv,w4])
  ·have hv:(cG f st x).2=st.2+x.n*x.aa.val:=by simp[cG,n1,q]
   exact NX.go (i+1) (by omega) h (by simp[hst,hv,w4])
  ·have hv:(cG f st x).2=x.aa.val:=by simp only[cG];rw[if_neg n1,if_neg n2,if_pos q,if_pos (by rw[LA];exact r)]
   exact NX.go (i+1) (by omega) h (by simp[hst,hv,w4])
  ·have hv:(cG f st x).2=st.2:=by simp only[cG];rw[if_neg n1,if_neg n2,if_pos q,if_neg (by rw[LA];omega)]
   exact NX.go (i+1) (by omega) h (by simp[hst,hv,w4])
  ·have hv:(cG f st x).2=x.aa.val:=by simp only[cG];rw[if_neg n1,if_neg n2,if_neg n3,if_pos q,if_pos (by rw[LA];exact r)]
   exact NX.go (i+1) (by omega) h (by simp[hst,hv,w4])
  ·have hv:(cG f st x).2=st.2:=by simp only[cG];rw[if_neg n1,if_neg n2,if_neg n3,if_pos q,if_neg (by rw[LA];omega)]
   exact NX.go (i+1) (by omega) h (by simp[hst,hv,w4])
  ·have hv:(cG f st x).2=st.2:=by simp only[cG];rw[if_neg n1,if_neg n2,if_neg n3,if_neg n4]
   exact NX.go (i+1) (by omega) h (by simp[hst,hv,w4])
 ·have e:i=l.length:=by omega
  subst e;rw[List.take_length];refine EC.aJ (gF _) ?_;simp[foldI]
theorem DF(low:Int):∀(l:List Item) (i:Nat),i<=l.length->(∀(j:Nat) (h:j<l.length),j<i->l[j].aa.at_<low)->(∀h:i<l.length,low<=l[i].aa.at_)->mG low l=l.drop i
 |[],i,_,_,_=>by simp[mG]
 |x::l,0,_,_,h=>by
  have:=h (by simp)
  simp only[mG,List.drop_zero];rw[List.dropWhile_cons,if_neg (by simpa using this)]
 |x::l,i+1,hi,h1,h2=>by
  have h0:=h1 0 (by simp) (by omega)
  simp only[mG]at*;rw[List.dropWhile_cons,if_pos (by simpa using h0),List.drop_succ_cons]
  exact DF low l i (by simpa using hi) (λj h hj=>h1 (j+1) (Nat.succ_lt_succ h) (by omega)) (λh=>h2 (Nat.succ_lt_succ h))
theorem CB(high:Int):∀(l:List Item) (i:Nat),i<=l.length->(∀(j:Nat) (h:j<l.length),j<i->l[j].aa.at_<=high)->(∀h:i<l.length,high<l[i].aa.at_)->l.takeWhile (λx=>decide (x.aa.at_<=high))=l.take i
 |[],i,_,_,_=>by simp
 |x::l,0,_,_,h=>by
  have:=h (by simp)
  rw[List.takeWhile_cons,if_neg (by simpa using this),List.take_zero]
 |x::l,i+1,hi,h1,h2=>by
  have h0:=h1 0 (by simp) (by omega)
  rw[List.takeWhile_cons,if_pos (by simpa using h0),List.take_succ_cons]
  rw[CB high l i (by simpa using hi) (λj h hj=>h1 (j+1) (Nat.succ_lt_succ h) (by omega)) (λh=>h2 (Nat.succ_lt_succ h))]
theorem nh(l:List Item)(low high:Int):aC prog 233 [sl (l.map ak),aH low,aH high] (sl ((bM low high l).map ak)):=by
 have cc:=ar (p:=aY [] [] []);refine aC.body (ar (p:=aY [] [] [])) func233 rfl call233 (by rw[ntmps233];simp) rfl λhf H=>?_
 simp[ntmps233,results233]at hf|-;refine AW.aU cc (λi:Nat=>⟨[(0,.d (.sl (l.map ak))),(1,aH low),(2,aH high),(7,aH i)],[],H⟩) (λi=>l.length-i) (λi=>i<=l.length/\∀(j:Nat) (h:j<l.length),j<i->l[j].aa.at_<low) 0 ⟨⟨Nat.zero_le _,λj h hj=>by omega⟩,by simp⟩ λi hi=>?_
 obtain⟨hi,Vx⟩:=hi;have hd:(default:DV)=.k undef:=rfl;rcases Decidable.em (i<l.length)with h|h
 case' inl=>
  simp[h,List.getElem?_eq_getElem h,ak];refine⟨λq=>NX.go (i+1) (by omega) ⟨h,λj hj hji=>?_⟩ (by simp[aB h (show l.length<=9223372036854775807 by omega),ak]),λq=>?_⟩
  ·by_cases e:j=i
   ·subst e;exact q
   ·exact Vx j hj (by omega)
  have hup:∀h:i<l.length,low<=l[i].aa.at_:=λ_=>q
 case' inr=>
  simp[h,hd,undef];have hup:∀h:i<l.length,low<=l[i].aa.at_:=λh'=>absurd h' h
 all_goals
  have hfr:=DF low l i hi Vx hup;refine AW.aU cc (λk:Nat=>⟨[(0,.d (.sl (l.map ak))),(2,aH high),(7,aH i),(8,aH k)],[],H⟩) (λk=>l.length-k) (λk=>k<=l.length/\i<=k/\∀(j:Nat) (h:j<l.length),i<=j->j<k->l[j].aa.at_<=high) i ⟨⟨hi,Nat.le_refl _,λj h h1 h2=>by omega⟩,by simp[ak]⟩ λk hk=>?_
  obtain⟨hk,hik,hin⟩:=hk;simp;rcases Decidable.em (k<l.length)with h2|h2
  case' inl=>
   simp[h2,List.getElem?_eq_getElem h2,ak];refine⟨λq=>NX.go (k+1) (by omega) ⟨h2,by omega,λj hj h3 h4=>?_⟩ (by simp[aB h2 (show l.length<=9223372036854775807 by omega),ak]),λq=>?_⟩
   ·by_cases e:j=k
    ·subst e;exact q
    ·exact hin j hj h3 (by omega)
   have hup2:∀h:k<l.length,high<l[k].aa.at_:=λ_=>q
  case' inr=>
   simp[h2,hd,undef];have hup2:∀h:k<l.length,high<l[k].aa.at_:=λh'=>absurd h' h2
  all_goals
   have hut:=CB high (l.drop i) (k-i) (by simp;omega) (λj hj hjk=>by
    rw[List.getElem_drop];exact hin (i+j) (by simp at hj;omega) (by omega) (by omega)) (λhj=>by
    rw[List.getElem_drop];have:=hup2 (by simp at hj;omega)
    simpa[show i+(k-i)=k by omega]using this)
   have hres:(List.take k (l.map ak)).drop i=(bM low high l).map ak:=by
    rw[bM,hfr,hut,<-List.map_take,<-List.map_drop,List.drop_take]
   exact⟨⟨hik,hk⟩,hres⟩
def Te(P:Program)(f:FuncId)(args:List LV)(H:GH)(v:LV):Prop:=∀H',H.next<=H'.next->(∀m,m<H.next->H'.obj m=H.obj m)->aF P f args H' λce H2=>ce=.ret v/\H2=H'
theorem aC.keeps{P:Program}{f:FuncId}{args:List LV}{v:LV}(h:aC P f args v)(H:GH):Te P f args H v:=λH' _ _=>h H'
theorem pJ(g:Item->Item)(l:List Item)(hl:l.length<=1000000)(F:FuncId)(cap:List LV)(H:GH)(hcap:ct H.next cap)(hF:∀x∈l,Te prog F ([lv (ak x)]++cap) H (lv (ak (g x)))):
  aF prog 226 [sl (l.map ak),.fn (.func F) [] cap] H λce H'=>ce=.ret (sl ((l.map g).map ak))/\H'=H:=by
 have cc:=aP;refine aF.bD aP func226 rfl call226 (by rw[ntmps226];simp) rfl λhf hw=>?_
 simp[ntmps226,results226]at hf|-;refine AW.aU cc (λa:Nat×LV×GH=>⟨[(1,.fn (.func F) [] cap),(5,a.2.1),(8,.d (.sl (l.map ak))),(9,aH l.length),(10,aH a.1)],[],a.2.2⟩) (λa=>l.length-a.1) (λa=>a.1<=l.length/\cm 86 4 H a.2.1 (((l.take a.1).map g).map ak) a.2.2) (0,.d (.k (.slice none 0 0)),H) ⟨⟨by simp,.nil⟩,by simp[LV.only,dQ,cQ _ hcap]⟩ ?_
 rintro⟨i,x,H'⟩ ⟨hi,aA⟩;simp only at hi aA;simp;refine⟨λh=>?_,λh=>?_⟩
 ·have hd:=hF l[i] (List.getElem_mem h) H' aA.nx aA.ob;simp[ak]at hd;simp[h,List.getElem?_eq_getElem h,ak,aA.plain.all];refine⟨eN aA.nx _ hcap,EC.of hd (λv H2 hR=>?_) (λv H2 hR=>by cases hR.1)⟩
  obtain⟨q,rfl⟩:=hR;cases q;simp[aA.plain.all];refine eE.dJ (ys:=[ak (g l[i])]) eW rfl dO (by simp) (x:=x) (by simp) aA (by simp[ak,rowsOf]) (by simp) (bl _) (λr hr=>by simp only[List.mem_singleton]at hr;subst hr;rfl) (by simp;omega) (by simp) λx' H3 aG _ _=>?_
  rw[show((l.take i).map g).map ak++[ak (g l[i])]=((l.take (i+1)).map g).map ak by rw[<-aR h,List.map_append,List.map_append];rfl]at aG
  simp[aG.plain.all,aG.only,aB (n:=9223372036854775807) (show i<9223372036854775807 by omega)]
  exact NX.go (i+1,x',H3) (by simp;omega) ⟨h,aG⟩ (by simp[aG.only,aG.plain.all,LV.only,dQ,cQ _ hcap,ak])
 ·have:i=l.length:=by omega
  subst this;rw[List.take_length]at aA;simp[aA.plain.all,aA.fz];exact λhz=>aO aA.nx aA.ob hw.none
theorem HY(x:Item)(n:Int)(h:-1000000000<=x.aa.at_+n/\x.aa.at_+n<=1000000000):aC prog 264 [lv (ak x),.ip [aH n] 0] (lv (ak ⟨⟨x.aa.at_+n,x.aa.key,x.aa.val⟩,x.n⟩)):=by
 refine aC.body (ar (p:=aY [] [] [])) func264 rfl call264 (by rw[ntmps264];simp) rfl λhf H=>?_
 have hw:IntKind.wrap .i64 (x.aa.at_+n)=x.aa.at_+n:=by rw[wrap64]<;>omega
 simp[ntmps264,results264,ak,hw]
theorem As(l:List Item)(n:Int)(hl:l.length<=1000000)(h:∀x∈l,-1000000000<=x.aa.at_+n/\x.aa.at_+n<=1000000000):aC prog 224 [sl (l.map ak),aH n] (sl ((dU n l).map ak)):=by
 intro H;have hc:=pJ (λx=>⟨⟨x.aa.at_+n,x.aa.key,x.aa.val⟩,x.n⟩) l hl 264 [.ip [aH n] 0] H (by simp[ct,LV.nb]) (λx hx=>(HY x n (h x hx)).keeps H)
 refine aF.bD (ar (p:=aY [3] [] [])) func224 rfl call224 (by rw[ntmps224];simp) rfl λhf hw=>?_
 simp at hc;simp[ntmps224,results224];refine EC.of hc (λv H2 hR=>?_) (λv H2 hR=>by cases hR.1)
 obtain⟨q,rfl⟩:=hR;cases q;simp;exact λhz=>⟨hz.drop (Nat.le_refl _),by rw[dU,List.map_map]⟩
theorem Lk(x:Item):aC prog 235 [lv (ak x)] (lv (ak ⟨x.aa,1⟩)):=by
 refine aC.body (ar (p:=aY [1] [] [])) func235 rfl call235 (by rw[ntmps235];simp) rfl λhf H=>?_
 simp[ntmps235,results235,ak]
def PI(o:Option (Int×Int)):LV:=match o with|some (a,b)=>.dx [aH a,aH b,.d (.k (.bool true))]|none=>.dx [aH 0,aH 0,.d (.k (.bool false))]
def oC(e:bw):LV:=.ip ((aQ e).map .d) 0
theorem HZ(e:bw)(l:List Item)(t:Int)(hn:1<=e.n/\e.n<=50)(ht:0<=t/\t<=200):aC prog 229 [sl (l.map ak),aH t,oC e] (PI (rC e.n l t)):=by
 refine aC.body (ar (p:=aY [] [] [])) func229 rfl call229 (by rw[ntmps229];simp) rfl λhf H=>?_
 have cc:=ar (p:=aY [] [] []);have hn0:e.n≠0:=by omega
 have hq0:0<=t.tdiv e.n*e.n/\t.tdiv e.n*e.n<=200:=by
  have h1:=Int.tmod_add_mul_tdiv t e.n;have h2:0<=t.tmod e.n:=Int.tmod_nonneg _ ht.1;have h3:0<=t.tdiv e.n:=Int.tdiv_nonneg ht.1 (by omega)
  have h4:0<=t.tdiv e.n*e.n:=Int.mul_nonneg h3 (by omega)
  rw[Int.mul_comm]at h1;omega
 have hq1:0<=t.tdiv e.n/\t.tdiv e.n<=200:=⟨Int.tdiv_nonneg ht.1 (by omega),Int.le_trans (Int.tdiv_le_self _ ht.1) ht.2⟩
 have w1:IntKind.wrap .i64 (t.tdiv e.n)=t.tdiv e.n:=by rw[wrap64]<;>omega
 have w2:IntKind.wrap .i64 (t.tdiv e.n*e.n)=t.tdiv e.n*e.n:=by rw[wrap64]<;>omega
 have w3:IntKind.wrap .i64 (t.tdiv e.n*e.n+e.n)=t.tdiv e.n*e.n+e.n:=by rw[wrap64]<;>omega
 have w4:IntKind.wrap .i64 (t.tdiv e.n*e.n+e.n-1)=t.tdiv e.n*e.n+e.n-1:=by rw[wrap64]<;>omega
 simp[ntmps229,results229,oC,ai];refine AW.draw cc [] (.q 0<|.q 1<|.q 4<|.q 2<|.q 3<|.q 5<|.q 6<|.q 7<|.done) (by kernel_rfl) ?_
 simp[hn0,w1,w2];refine AW.draw cc [] (.q 0<|.q 1<|.q 2<|.q 6<|.q 3<|.q 4<|.q 5<|.q 7<|.q 8<|.done) (by kernel_rfl) ?_
 simp[w3,w4,PI,rC]
theorem HX(e:bw)(l:List Item)(t:Int)(hn:0<=e.n/\e.n<=50)(ht:0<=t/\t<=200):aC prog 230 [sl (l.map ak),aH t,oC e] (PI (pg e.n l t)):=by
 refine aC.body (ar (p:=aY [] [] [])) func230 rfl call230 (by rw[ntmps230];simp) rfl λhf H=>?_
 have w1:IntKind.wrap .i64 (t-e.n)=t-e.n:=by rw[wrap64]<;>omega
 simp[ntmps230,results230,oC,ai,w1,PI,pg]
theorem HW(l:List Item)(t:Int):aC prog 231 [sl (l.map ak),aH t] (PI (tM l t)):=by
 refine aC.body (ar (p:=aY [] [] [])) func231 rfl call231 (by rw[ntmps231];simp) rfl λhf H=>?_
 simp[ntmps231,results231,PI,tM]
theorem jI{low high:Int}{l:List Item}{x:Item}(h:x∈bM low high l):x∈l:=by
 unfold bM mG at h;exact(List.dropWhile_sublist _).mem ((List.takeWhile_sublist _).mem h)
def nS(l:List Item):Prop:=l.Pairwise λa b=>a.aa.at_<=b.aa.at_
theorem I3{low:Int}:∀{l:List Item},nS l->∀x∈mG low l,low<=x.aa.at_
 |[],_,x,hx=>by simp[mG]at hx
 |y::l,h,x,hx=>by
  have h':=List.pairwise_cons.1 h;simp only[mG]at hx;rw[List.dropWhile_cons]at hx
  split at hx
  ·exact I3 h'.2 x hx
  ·rename_i q;have q':low<=y.aa.at_:=by simpa using q
   rcases List.mem_cons.1 hx with e|e
   ·rw[e];exact q'
   ·exact Int.le_trans q' (h'.1 x e)
theorem NQ{low high:Int}{l:List Item}(h:nS l){x:Item}(hx:x∈bM low high l):low<=x.aa.at_/\x.aa.at_<=high:=by
 unfold bM at hx;exact⟨I3 h x ((List.takeWhile_sublist _).mem hx),by have:=List.all_eq_true.1 (List.all_takeWhile (p:=λx:Item=>decide (x.aa.at_<=high)) (l:=mG low l)) x hx;simpa using this⟩
theorem Ou{n:Int}{l:List Item}:∀(k:Nat) (t:Int),bM (t-n) (t-1) l=[]->yw n l k t=t
 |0,t,h=>rfl
 |k+1,t,h=>by rw[yw,h]
theorem Lj(e:bw)(l:List Item)(t:Int)(hn:1<=e.n/\e.n<=50)(ht:0<=t/\t<=200)(hl:nS l)(hb:∀x∈l,0<=x.aa.at_/\x.aa.at_<=200):aC prog 232 [sl (l.map ak),aH t,oC e] (PI (qd e.n l t)):=by
 refine aC.body (ar (p:=aY [] [] [])) func232 rfl call232 (by rw[ntmps232];simp) rfl λhf H=>?_
 have cc:=ar (p:=aY [] [] []);have wi:=λa b=>nh l a b
 have w1:IntKind.wrap .i64 (t+1)=t+1:=by rw[wrap64]<;>omega
 have w2:IntKind.wrap .i64 (t+e.n)=t+e.n:=by rw[wrap64]<;>omega
 have w3:∀u:Int,0<=u->u<=200->IntKind.wrap .i64 (u-e.n)=u-e.n:=λu a b=>by rw[wrap64]<;>omega
 have w4:∀u:Int,0<=u->u<=200->IntKind.wrap .i64 (u-1)=u-1:=λu a b=>by rw[wrap64]<;>omega
 simp at wi;simp[ntmps232,results232,oC,ai,w1,w2,w3 t ht.1 ht.2,w4 t ht.1 ht.2];refine EC.aJ (wi _ _) ?_;simp;refine⟨λh=>?_,λh=>?_⟩
 ·have:qd e.n l t=none:=by
   unfold qd;cases hq:bM (t+1) (t+e.n) l with
   |nil=>rw[hq]at h;simp at h
   |cons a b=>rfl
  simp[this,PI]
 ·have hnil:bM (t+1) (t+e.n) l=[]:=by
   cases hq:bM (t+1) (t+e.n) l with
   |nil=>rfl
   |cons a b=>rw[hq]at h;simp at h;try omega
  have Vr:qd e.n l t=some (yw e.n l 201 t,t):=by unfold qd;rw[hnil]
  refine EC.aJ (wi _ _) ?_;simp;refine AW.aU cc (λu:Nat×Int=>⟨[(0,.d (.sl (l.map ak))),(1,aH t),(2,oC e),(8,aH u.2),(9,.d (.sl ((bM (u.2-e.n) (u.2-1) l).map ak)))],[],H⟩) (λu=>u.2.toNat)
   (λu=>0<=u.2/\u.2<=200/\u.2<=(u.1:Int)/\yw e.n l u.1 u.2=yw e.n l 201 t) (201,t) ⟨⟨ht.1,ht.2,by simp;omega,rfl⟩,by simp[oC,ai,w3 t ht.1 ht.2,w4 t ht.1 ht.2]⟩ ?_
  rintro⟨k,u⟩ ⟨h1,h2,h3,h4⟩;simp only at h1 h2 h3 h4;simp;refine⟨λq=>?_,λq=>?_⟩
  ·obtain⟨x,r,hx⟩:∃x r,bM (u-e.n) (u-1) l=x::r:=by
    cases hq:bM (u-e.n) (u-1) l with
    |nil=>rw[hq]at q;simp at q;try omega
    |cons a b=>exact⟨a,b,rfl⟩
   have tA:=hb x (jI (by rw[hx];simp))
   have FW:=NQ hl (x:=x) (low:=u-e.n) (high:=u-1) (by rw[hx];simp)
   obtain⟨k',rfl⟩:∃k',k=k'+1:=⟨k-1,by omega⟩
   have h5:yw e.n l k' x.aa.at_=yw e.n l 201 t:=by rw[<-h4,yw,hx]
   simp[hx,ak,oC,ai,w3 _ tA.1 tA.2,w4 _ tA.1 tA.2];refine EC.aJ (wi _ _) ?_;simp;exact NX.go (k',x.aa.at_) (by simp only;omega) ⟨tA.1,tA.2,by omega,h5⟩ (by simp[oC,ai])
  ·have hnil2:bM (u-e.n) (u-1) l=[]:=by
    cases hq:bM (u-e.n) (u-1) l with
    |nil=>rfl
    |cons a b=>rw[hq]at q;simp at q;try omega
   rw[Ou k u hnil2]at h4;simp[Vr,PI,h4]
def fzE(es:List (Value×LV)):List (Value×LV):=es.map λe=>(e.1,fz e.2)
theorem yU:∀l:List LV,xV l=l.map fz
 |[]=>rfl
 |x::l=>by rw[xV,List.map_cons,yU l]
theorem AW.fzMap{P:Program}{rd:RD}{x:Code}{s:S}{Q:QT}(n:Nat)(es:List (Value×LV))(hn:s.H.obj n=some (.map es))(h:@AW P rd ⟨x⟩ {s with H:=s.H.set n (.map (fzE es))} Q):@AW P rd ⟨x⟩ s Q:=by
 refine λE a w hs=>h E a w ?_
 obtain⟨h2,G,lm,h1,hM,hx,aK,he⟩:=hs;refine⟨h2,G,lm,h1,⟨hM.qg,λb o v hv=>?_,hM.fresh,hM.Cn,hM.loc,λm o ho=>?_⟩,⟨⟨hx.le,hx.nx,hx.os,hx.tape,hx.output,hx.drawn,hx.size,hx.frame,hx.own⟩,hx.nl⟩,aK,he⟩
 ·rcases hM.dm b o v hv with q|⟨m,e,sz,k,q1,q2,q3⟩
  ·exact .inl q
  ·refine .inr ⟨m,e,sz,k,q1,?_,q3⟩;rw[GH.ay,if_neg]
   ·exact q2
   ·intro q;subst q;rw[hn]at q2;cases q2
 ·rw[GH.ay]at ho
  split at ho
  ·rename_i e;subst e;cases ho;obtain⟨r1,r2,xs,c,r3,r4⟩:=hM.gX _ _ hn;obtain⟨t1,t2,t3,t4⟩:=r4;refine⟨r1,r2,xs,c,r3,?_,?_,t3,t4⟩
   ·rw[t1];simp[fzE]
   ·have:=w8 _ _ t2;rw[yU]at this;simp only[fzE,List.map_map,GH.aL]at this|-;exact this
  ·exact hM.gX m o ho
def kX(ks:List Int)(f:Int->LV):List (Value×LV):=ks.map λj=>(Value.int .i64 j,f j)
theorem lP(k:Int)(f:Int->LV):∀ks:List Int,bz (.int .i64 k) (kX ks f)=if k∈ks then some (f k)else none
 |[]=>rfl
 |j::ks=>by
  have ih:=lP k f ks;simp only[kX,List.map_cons,bz,gh]at ih|-;by_cases e:k=j
  ·simp[e]
  ·simp only[e,decide_false,Bool.false_eq_true,if_false,ih,List.mem_cons,false_or]
theorem lR{ks:List Int}{f g:Int->LV}(h:∀k∈ks,f k=g k):kX ks f=kX ks g:=List.map_congr_left λk hk=>by rw[h k hk]
theorem qZ(k:Int)(v:LV)(f:Int->LV):∀ks:List Int,ks.Nodup->cg (.int .i64 k) v (kX ks f)=kX (if k∈ks then ks else ks++[k]) (λj=>if j=k then v else f j)
 |[],_=>by simp[kX,cg]
 |j::ks,hn=>by
  have hn':=List.nodup_cons.1 hn;have ih:=qZ k v f ks hn'.2;simp only[kX,List.map_cons,cg,gh]at ih|-;by_cases e:k=j
  ·subst e;simp only[decide_true,if_true,List.mem_cons,true_or,List.map_cons];refine congrArg _ (List.map_congr_left λi hi=>?_)
   rw[if_neg (λq=>hn'.1 (by rw[<-q];exact hi))]
  ·simp only[e,decide_false,Bool.false_eq_true,if_false,ih,List.mem_cons,false_or];by_cases e2:k∈ks
   ·simp only[e2,if_true,List.map_cons];rw[if_neg (λq=>e q.symm)]
   ·simp only[e2,if_false,List.cons_append,List.map_cons];rw[if_neg (λq=>e q.symm)]
theorem iE(ks:List Int)(f:Int->LV):∀(a:Value) (b:LV),(a,b)∈kX ks f->(KK.sc (Sc.int .i64)).has a=true:=λa b h=>by
 obtain⟨x,_,q⟩:=List.mem_map.1 h;cases q;rfl
theorem mC{k:Int}:∀{l:List Item},k∈aZ l↔∃x∈l,x.aa.key=k
 |[]=>by simp[aZ]
 |x::l=>by
  have ih:=mC (k:=k) (l:=l);rw[aZ,List.mem_cons,List.mem_filter,ih];constructor
  ·rintro(q|⟨⟨y,h1,h2⟩,_⟩)
   ·exact⟨x,by simp,q.symm⟩
   ·exact⟨y,by simp[h1],h2⟩
  ·rintro⟨y,h1,h2⟩;by_cases e:k=x.aa.key
   ·exact .inl e
   ·rcases List.mem_cons.1 h1 with q|q
    ·exact absurd (by rw[<-h2,q]) e
    ·exact .inr ⟨⟨y,q,h2⟩,by simpa using e⟩
theorem jd:∀l:List Item,(aZ l).Nodup
 |[]=>.nil
 |x::l=>by
  rw[aZ];exact List.nodup_cons.2 ⟨λh=>by simpa using(List.mem_filter.1 h).2,(jd l).filter _⟩
theorem rq(x:Item):∀l:List Item,aZ (l++[x])=if x.aa.key∈aZ l then aZ l else aZ l++[x.aa.key]
 |[]=>by simp[aZ]
 |y::l=>by
  rw[List.cons_append,aZ,aZ,rq x l];by_cases e:x.aa.key=y.aa.key
  ·rw[if_pos (show x.aa.key∈y.aa.key::_ by rw[e];exact List.mem_cons_self ..)]
   split
   ·rfl
   ·rw[List.filter_append,List.filter_cons,if_neg (by simp[e]),List.filter_nil,List.append_nil]
  ·by_cases h:x.aa.key∈aZ l
   ·have h2:x.aa.key∈y.aa.key::(aZ l).filter λk=>decide (k≠y.aa.key):=List.mem_cons.2 (.inr (List.mem_filter.2 ⟨h,by simpa using e⟩))
    rw[if_pos h2,if_pos h]
   ·have h2:¬x.aa.key∈y.aa.key::(aZ l).filter λk=>decide (k≠y.aa.key):=λq=>by
     rcases List.mem_cons.1 q with q|q
     ·exact e q
     ·exact h (List.mem_filter.1 q).1
    rw[if_neg h2,if_neg h,List.filter_append,List.filter_cons,if_pos (by simpa using e)]
    rfl
theorem zB(k:Int)(x:Item)(l:List Item):rowOf k (l++[x])=rowOf k l++(if x.aa.key=k then[x]else[]):=by
 unfold rowOf;rw[List.filter_append,List.filter_cons];by_cases e:x.aa.key=k<;>simp[e]
def nX(b:List Item)(k:Int):LV:=sl ((rowOf k b).map ak)
def ta(b:List Item):List (Value×LV):=kX (aZ b) (nX b)
structure KeyR(N:Nat)(b:List Item)(own:Int->Nat)(H:GH):Prop where
 lo:∀k∈aZ b,N<=own k/\own k<H.next
 ob:∀k∈aZ b,H.obj (own k)=some (.arr 86 4 (rowOf k b).length)
 inj:∀k∈aZ b,∀j∈aZ b,own k=own j->k=j
def kW(b:List Item)(own:Int->Nat)(k:Int):LV:=.kQ (own k) ((rowOf k b).map ak)
theorem Av(b:List Item)(hlen:b.length<=1000000)(H:GH):aF prog 266 [sl (b.map ak)] H λce H'=>ce=.ret (.fn (.func 279) [] [.gp (H.next+1) 0])/\H.next+2<=H'.next/\(∀m,m<H.next->H'.obj m=H.obj m)/\
  H'.obj (H.next+1)=some (.box [.gm H.next])/\H'.obj H.next=some (.map (ta b)):=by
 have cc:=ar (p:=aY [] [3] []);refine aF.dV (ar (p:=aY [] [3] [])) func266 rfl call266 (by rw[ntmps266];simp) rfl λhf hw=>?_
 simp[ntmps266,results266]at hf|-;refine AW.seq cc ?_;simp;refine AW.seq cc ?_;simp[GH.au,GH.aq];refine⟨by omega,?_⟩
 obtain⟨H1,wI⟩:∃H1,((H.add (GO.map [])).add (GO.box [LV.d (DV.k (Value.map none))])).set (H.next+1) (GO.box [LV.gm H.next])=H1:=⟨_,rfl⟩;have n1:H1.next=H.next+2:=by rw[<-wI];rfl
 have b1:H1.obj (H.next+1)=some (.box [.gm H.next]):=by rw[<-wI,GH.aX]
 have m1:H1.obj H.next=some (.map []):=by rw[<-wI,GH.ay,if_neg (by omega),GH.au,if_neg (by rw[GH.aq];omega),GH.au,if_pos rfl]
 have o1:∀m,m<H.next->H1.obj m=H.obj m:=λm hm=>by rw[<-wI,GH.ay,if_neg (by omega),GH.au,if_neg (by rw[GH.aq];omega),GH.au,if_neg (by omega)]
 rw[wI]
 clear wI
 refine AW.seq cc ?_;simp;refine AW.aU cc (λa:Nat×(Int->Nat)×GH=>⟨[(3,.gp (H.next+1) 0),(7,.d (.sl (b.map ak))),(8,aH b.length),(9,aH a.1)],[],a.2.2⟩) (λa=>b.length-a.1)
  (λa=>a.1<=b.length/\KeyR (H.next+2) (b.take a.1) a.2.1 a.2.2/\H.next+2<=a.2.2.next/\a.2.2.obj (H.next+1)=some (.box [.gm H.next])/\a.2.2.obj H.next=some (.map (kX (aZ (b.take a.1)) (kW (b.take a.1) a.2.1)))/\∀m,m<H.next->a.2.2.obj m=H.obj m)
  (0,λ_=>0,H1) ⟨⟨Nat.zero_le _,⟨λk hk=>by simp[aZ]at hk,λk hk=>by simp[aZ]at hk,λk hk=>by simp[aZ]at hk⟩,by simp only;omega,b1,by simpa[aZ,kX]using m1,o1⟩,by simp⟩ ?_
 rintro⟨i,own,H2⟩ ⟨hi,hk,n2,b2,m2,o2⟩;simp only at hi hk n2 b2 m2 o2;simp;refine⟨λh=>?_,λh=>?_⟩
 ·obtain⟨x,dc⟩:∃x,b[i]=x:=⟨_,rfl⟩;have fU:b.take (i+1)=b.take i++[x]:=by rw[<-aR h,dc]
  simp[h,List.getElem?_eq_getElem h,dc,ak];obtain⟨pre,hpre⟩:∃pre,b.take i=pre:=⟨_,rfl⟩;rw[hpre]at hk m2 fU;have hpl:pre.length<=1000000:=by rw[<-hpre];simp;omega
  have hkey:=eq_true (iE (aZ pre) (kW pre own));have dD:=lP x.aa.key (kW pre own) (aZ pre);have hput:=λv=>qZ x.aa.key v (kW pre own) (aZ pre) (jd pre)
  have hlt1:H.next<H2.next:=by omega
  refine AW.draw cc [] (.q 1<|.q 2<|.q 5<|.q 6<|.q 4<|.q 7<|.q 8<|.q 9<|.q 10<|.f (.cons 0 (.f (.cons 3 (.f<|.one 11<|.f<|.one 12<|.done) (.cons 11 (.q 3<|.f<|.one 12<|.done) (.nil)))) (.cons 3 (.f (.cons 0 (.f<|.one 11<|.f<|.one 12<|.done) (.cons 11 (.q 0<|.f<|.one 12<|.done) (.nil)))) (.cons 11 (.q 0<|.q 3<|.f<|.one 12<|.done) (.nil))))) (by kernel_rfl) ?_
  have hcell:([[.k (.int .i64 x.aa.at_),.k (.int .i64 x.aa.key),.k (.int .i64 x.aa.val),.k (.int .i64 x.n)]]:List (List DV))=[ak x]:=rfl;have hrl:∀j,(rowOf j pre).length<=pre.length:=λj=>List.length_filter_le _ _
  have eU:=aB (n:=9223372036854775807) (show i<9223372036854775807 by omega)
  have hro:∀j,j≠x.aa.key->rowOf j (pre++[x])=rowOf j pre:=λj q=>by rw[zB,if_neg (λe=>q e.symm),List.append_nil]
  have hrk:rowOf x.aa.key (pre++[x])=rowOf x.aa.key pre++[x]:=by rw[zB,if_pos rfl]
  have PM:∀j,∀r∈(rowOf j pre).map ak,r.length=4:=λj=>bl _
  by_cases hin:x.aa.key∈aZ pre
  ·have hks:aZ (pre++[x])=aZ pre:=by rw[rq,if_pos hin]
   obtain⟨k1,k2⟩:=hk.lo _ hin;have k3:=hk.ob _ hin;have k4:=hrl x.aa.key;have hne:H.next≠own x.aa.key:=by omega
   have mQ:cg (.int .i64 x.aa.key) (.kQ (own x.aa.key) ((rowOf x.aa.key pre).map ak++[ak x])) (kX (aZ pre) (kW pre own))=kX (aZ (pre++[x])) (kW (pre++[x]) own):=by
    rw[hput,if_pos hin,hks];refine lR λj hj=>?_
    by_cases e:j=x.aa.key
    ·subst e;rw[if_pos rfl,kW,hrk,List.map_append];rfl
    ·rw[if_neg e,kW,kW,hro j e]
   have m3:∀X,(H2.set (own x.aa.key) X).obj H.next=some (.map (kX (aZ pre) (kW pre own))):=λX=>by rw[GH.ay,if_neg hne];exact m2
   have b3:∀X,(H2.set (own x.aa.key) X).obj (H.next+1)=some (.box [.gm H.next]):=λX=>by rw[GH.ay,if_neg (by omega)];exact b2
   have IU:KeyR (H.next+2) (b.take (i+1)) own ((H2.set (own x.aa.key) (.arr 86 4 ((rowOf x.aa.key pre).length+1))).set H.next (.map (kX (aZ (pre++[x])) (kW (pre++[x]) own)))):=by
    rw[fU];refine⟨λk hk'=>?_,λk hk'=>?_,λk hk' j hj'=>?_⟩
    ·rw[hks]at hk';rw[GH.aL,GH.aL];exact hk.lo k hk'
    ·rw[hks]at hk';have:=hk.lo k hk';rw[GH.ay,if_neg (by omega),GH.ay]
     by_cases e:k=x.aa.key
     ·subst e;rw[if_pos rfl,hrk];simp
     ·rw[if_neg (λq=>e (hk.inj k hk' _ hin q)),hro k e];exact hk.ob k hk'
    ·rw[hks]at hk' hj';exact hk.inj k hk' j hj'
   obtain⟨H3,uI⟩:∃H3,(H2.set (own x.aa.key) (.arr 86 4 ((rowOf x.aa.key pre).length+1))).set H.next (.map (kX (aZ (pre++[x])) (kW (pre++[x]) own)))=H3:=⟨_,rfl⟩;have n4:H3.next=H2.next:=by rw[<-uI];rfl
   have b4:H3.obj (H.next+1)=some (.box [.gm H.next]):=by rw[<-uI,GH.ay,if_neg (by omega)];exact b3 _
   have m4:H3.obj H.next=some (.map (kX (aZ (b.take (i+1))) (kW (b.take (i+1)) own))):=by rw[<-uI,fU,GH.aX]
   have o4:∀m,m<H.next->H3.obj m=H.obj m:=λm hm=>by rw[<-uI,GH.ay,if_neg (by omega),GH.ay,if_neg (by omega)];exact o2 m hm
   rw[uI]at IU;simp[b2,m2,dD,hkey,hin,kW];refine⟨⟨?_,?_⟩,⟨?_,?_⟩,?_⟩
   all_goals
    refine eE.ev ?_;simp[k3,hcell,m3,b3,mQ,hkey,PM,uI];exact⟨⟨by omega,by omega⟩,by rw[GH.aL];omega,NX.go (i+1,own,H3) (by simp only;omega) ⟨h,IU,by simp only;omega,b4,m4,o4⟩ (by simp[eU])⟩
  ·have hks:aZ (pre++[x])=aZ pre++[x.aa.key]:=by rw[rq,if_neg hin]
   have hr0:rowOf x.aa.key pre=[]:=by
    rw[rowOf,List.filter_eq_nil_iff];intro y hy q;exact hin (mC.2 ⟨y,hy,by simpa using q⟩)
   obtain⟨own',hown⟩:∃own':Int->Nat,own'=λj=>if j=x.aa.key then H2.next else own j:=⟨_,rfl⟩
   have hok:own' x.aa.key=H2.next:=by rw[hown];simp
   have J5:∀j,j≠x.aa.key->own' j=own j:=λj q=>by rw[hown];simp[q]
   have mQ:cg (.int .i64 x.aa.key) (.kQ H2.next [ak x]) (kX (aZ pre) (kW pre own))=kX (aZ (pre++[x])) (kW (pre++[x]) own'):=by
    rw[hput,if_neg hin,hks];refine lR λj hj=>?_
    by_cases e:j=x.aa.key
    ·subst e;rw[if_pos rfl,kW,hrk,hr0,hok];rfl
    ·rw[if_neg e,kW,kW,hro j e,J5 j e]
   have m3:∀X,(H2.add X).obj H.next=some (.map (kX (aZ pre) (kW pre own))):=λX=>by rw[GH.au,if_neg (by omega)];exact m2
   have b3:∀X,(H2.add X).obj (H.next+1)=some (.box [.gm H.next]):=λX=>by rw[GH.au,if_neg (by omega)];exact b2
   have IU:KeyR (H.next+2) (b.take (i+1)) own' ((H2.add (.arr 86 4 1)).set H.next (.map (kX (aZ (pre++[x])) (kW (pre++[x]) own')))):=by
    rw[fU];refine⟨λk hk'=>?_,λk hk'=>?_,λk hk' j hj'=>?_⟩
    ·rw[GH.aL,GH.aq];by_cases e:k=x.aa.key
     ·subst e;rw[hok];omega
     ·rw[J5 k e];rw[hks]at hk';have:=hk.lo k ((List.mem_append.1 hk').resolve_right (by simpa using e))
      omega
    ·by_cases e:k=x.aa.key
     ·subst e;rw[hok,GH.ay,if_neg (by omega),GH.au,if_pos rfl,hrk,hr0];rfl
     ·rw[hks]at hk';have hk2:=(List.mem_append.1 hk').resolve_right (by simpa using e)
      have:=hk.lo k hk2;rw[J5 k e,GH.ay,if_neg (by omega),GH.au,if_neg (by omega),hro k e];exact hk.ob k hk2
    ·rw[hks]at hk' hj';intro q;by_cases e:k=x.aa.key
     ·by_cases e2:j=x.aa.key
      ·rw[e,e2]
      ·have:=hk.lo j ((List.mem_append.1 hj').resolve_right (by simpa using e2))
       rw[e,hok,J5 j e2]at q;omega
     ·have k2:=(List.mem_append.1 hk').resolve_right (by simpa using e)
      have:=hk.lo k k2;by_cases e2:j=x.aa.key
      ·rw[e2,hok,J5 k e]at q;omega
      ·rw[J5 k e,J5 j e2]at q;exact hk.inj k k2 j ((List.mem_append.1 hj').resolve_right (by simpa using e2)) q
   obtain⟨H3,uI⟩:∃H3,(H2.add (.arr 86 4 1)).set H.next (.map (kX (aZ (pre++[x])) (kW (pre++[x]) own')))=H3:=⟨_,rfl⟩;have n4:H3.next=H2.next+1:=by rw[<-uI];rfl
   have b4:H3.obj (H.next+1)=some (.box [.gm H.next]):=by rw[<-uI,GH.ay,if_neg (by omega)];exact b3 _
   have m4:H3.obj H.next=some (.map (kX (aZ (b.take (i+1))) (kW (b.take (i+1)) own'))):=by rw[<-uI,fU,GH.aX]
   have o4:∀m,m<H.next->H3.obj m=H.obj m:=λm hm=>by rw[<-uI,GH.ay,if_neg (by omega),GH.au,if_neg (by omega)];exact o2 m hm
   rw[uI]at IU;have ha:H.next<(H2.add (.arr 86 4 1)).next:=by rw[GH.aq];omega
   have hb':H2.next<(H2.add (.arr 86 4 1)).next:=by rw[GH.aq];omega
   simp[b2,m2,dD,hkey,hin];refine⟨⟨?_,?_⟩,⟨?_,?_⟩,?_⟩
   all_goals
    refine eE.ev ?_;simp[hcell,m3,b3,mQ,hkey,LV.nb,uI,ha,hb'];exact NX.go (i+1,own',H3) (by simp only;omega) ⟨h,IU,by simp only;omega,b4,m4,o4⟩ (by simp[eU])
 ·have e:i=b.length:=by omega
  subst e;rw[List.take_length]at hk m2;refine AW.fzMap H.next _ m2 ?_;have hfz:fzE (kX (aZ b) (kW b own))=ta b:=by
   simp only[fzE,kX,ta,List.map_map];refine List.map_congr_left λk hk'=>?_
   simp[kW,nX,fz]
  rw[hfz];refine AW.ev cc ?_;simp;exact λhz=>⟨_,hz.drop (by rw[GH.aL];omega),by rw[GH.aL];omega,by rw[GH.aL];omega,λm hm=>by rw[GH.ay,if_neg (by omega)];exact o2 m hm,by rw[GH.ay,if_neg (by omega)];exact b2,GH.aX⟩
def FU(m:Nat)(es:List (Value×LV))(seen:List Nat):GO:=.iter m es.length seen es.length
theorem dX.Tj{P:Program}{n:Nat}{args:List LV}{H:GH}{R:CE->GH->Prop}(h:gD H->dX P n args H R):dX P n args H R:=λG w vs hM pO hargs=>
 h ⟨λn hn=>by
  cases ho:H.obj n with
  |none=>rfl
  |some o=>have:=(hM.gX n o ho).1;omega,λn o ho=>BX (hM.gX n o ho).2⟩ G w vs hM pO hargs
theorem N6{b:List Item}{i:Nat}{e:Value×LV}(h:(ta b)[i]?=some e):∃k,(aZ b)[i]?=some k/\e=(.int .i64 k,sl ((rowOf k b).map ak)):=by
 simp only[ta,kX,List.getElem?_map,Option.map_eq_some_iff]at h;obtain⟨k,h1,h2⟩:=h;exact⟨k,h1,h2.symm⟩
@[simp] theorem N5 (b:List Item):(ta b).length=(aZ b).length:=by simp [ta,kX]
theorem xD{n nb m:Nat}{b:List Item}{H0:GH}{J:List Nat->GO->GH->Prop}(hnb:H0.obj nb=some (.box [.gm m]))(hm:H0.obj m=some (.map (ta b)))
  (h0:∀X,J [] X (H0.add X)) (hst:∀seen X Y H,J seen X H->J seen Y (H.set H0.next Y)) (jP:∀seen X H,J seen X H->H0.next<H.next/\H.obj H0.next=some X/\H.obj m=some (.map (ta b)))
  (hstep:∀seen i k X H,(aZ b)[i]?=some k->i∉seen->(∀i∈seen,i<(aZ b).length)->gD H->J seen X H->dX prog n [aH k,sl ((rowOf k b).map ak)] H λce H'=>ce=.ret (bool true)/\J (seen++[i]) X H'):
  aF prog 279 [.yl n,.gp nb 0] H0 λce H'=>(∃v,ce=.ret v)/\∃seen X,seen.Nodup/\(∀i∈seen,i<(aZ b).length)/\(∀i,i<(aZ b).length->i∈seen)/\J seen X H':=by
 have cc:=ar (p:=aY [] [] []);refine aF.dV (ar (p:=aY [] [] [])) func279 rfl call279 (by rw[ntmps279];simp) rfl λhf hw=>?_
 have hmn:=hw.lt hm;have Vu:=hw.lt hnb;obtain⟨es,tC⟩:∃es,ta b=es:=⟨_,rfl⟩;have hel:es.length=(aZ b).length:=by rw[<-tC,N5]
 have hkeys:es.all (λe=>oA e.1)=true:=by rw[<-tC];exact List.all_eq_true.2 λe he=>by obtain⟨x,_,q⟩:=List.mem_map.1 he;rw[<-q];rfl
 rw[tC]at hm jP;rw[<-hel]at hstep|-;simp[ntmps279,results279];refine AW.seq cc ?_;simp[hnb,hm];refine AW.block (c:=wR (aY [] [] [])) ?_;refine AW.aU cc (λa:List Nat×GH=>⟨[(0,.yl n),(6,.gp H0.next 0)],[],a.2⟩) (λa=>Em es.length (λi=>decide (i∈a.1)))
  (λa=>a.1.Nodup/\(∀i∈a.1,i<es.length)/\J a.1 (FU m es a.1) a.2) ([],H0.add (FU m es [])) ⟨⟨by simp,by simp,h0 _⟩,by simp[FU]⟩ ?_
 rintro⟨seen,H2⟩ ⟨s1,s2,hj⟩;simp only at s1 s2 hj;obtain⟨b1,oi,om⟩:=jP _ _ _ hj;simp;refine ST.next (n:=H0.next) (m:=m) (seen:=seen) (es:=es) (by simp) oi om (by simp) rfl rfl hkeys (λi e he hi=>?_) (λhend=>?_)
 ·have hi':=(List.getElem?_eq_some_iff.1 he).1;have hj3:=hst _ _ (FU m es (seen++[i])) _ hj;obtain⟨k,hk,rfl⟩:=N6 (by rw[tC];exact he)
  simp;refine ST.entry (n:=H0.next) (m:=m) (seen:=seen++[i]) (es:=es) (i:=i) (e:=_) (by simp) (by rw[GH.aX]) (by rw[GH.ay,if_neg (by omega)];exact om) (by simp) rfl hkeys (by simp) he ?_
  obtain⟨H3,uI⟩:∃H3,H2.set H0.next (GO.iter m es.length (seen++[i]) es.length)=H3:=⟨_,rfl⟩;rw[show H2.set H0.next (FU m es (seen++[i]))=H3 from uI]at hj3
  have hy:=dX.Tj λhz=>hstep seen i k _ H3 hk hi s2 hz hj3
  have dz:(seen++[i]).Nodup:=by
   rw[List.nodup_append];exact⟨s1,by simp,λa ha b hb=>by simp at hb;subst hb;intro q;subst q;exact hi ha⟩
  have IG:Em es.length (λj=>decide (j∈seen++[i]))<Em es.length (λj=>decide (j∈seen)):=by
   have:=qA (n:=es.length) (M:=λj=>decide (j∈seen)) hi' (by simpa using hi)
   have e2:fI (λj=>decide (j∈seen)) i=λj=>decide (j∈seen++[i]):=by
    funext j;simp only[fI];by_cases q:j=i<;>simp[q]
   rw[e2]at this;exact this
  have hall:∀j∈seen++[i],j<es.length:=λj hj=>by
   rcases List.mem_append.1 hj with q|q
   ·exact s2 j q
   ·simp at q;subst q;exact hi'
  simp[uI,oB];refine EY.of hy (λv H4 hR=>?_) (λx H4 hR=>by obtain⟨q,_⟩:=hR;cases q)
  obtain⟨q,hj4⟩:=hR;cases q;simp;exact NX.go (seen++[i],H4) IG ⟨dz,hall,hj4⟩ (by simp[FU])
 ·simp;exact λhz=>⟨H2,hz.drop (by omega),seen,s1,s2,by simpa using hend,_,hj⟩
end Go.Aft
end
