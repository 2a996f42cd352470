import Derived.Test.YthinedikejlgmaaGreatA24
set_option linter.all false
section
set_option maxRecDepth 20000
namespace Go.Aft
open Go.Proofs.Tryz
theorem qA{k:Value}{v:LV}(hk:xd k k=true):∀es:List (Value×LV),bD k (cr k v es)=some v
 |[]=>by simp[cr,bD,hk]
 |e::es=>by
  simp only[cr];cases h:xd k e.1
  ·simp only[Bool.false_eq_true,if_false,bD,h,qA hk es]
  ·simp only[if_true,bD,hk]
theorem fZ:∀(n:Nat) (l:List Nat),l.Nodup->(∀i∈l,i<n)->l.length<=n
 |0,l,_,h=>by
  cases l with
  |nil=>simp
  |cons a l=>exact absurd (h a (by simp)) (by omega)
 |n+1,l,hn,h=>by
  have h1:=fZ n (l.erase n) (hn.erase n) λi hi=>by
   have h2:=h i (List.mem_of_mem_erase hi);have h3:i≠n:=λe=>by subst e;exact hn.not_mem_erase hi
   omega
  have h4:l.length<=(l.erase n).length+1:=by rw[List.length_erase];split<;>omega
  omega
theorem yd(l:List Item)(top:Int)(hlen:l.length<=1000000)(hn:∀x∈l,-1000000000000<=x.n/\x.n<=1000000000000):aC prog 135 [sl (l.map ak),aH top] (sl ((b6 l top).map ak)):=by
 intro H;have cc:=jG (p:=bf [] [] [53]);refine aG.dG (jG (p:=bf [] [] [53])) func135 rfl call135 (by rw[ntmps135];simp) rfl λhf hw=>?_
 simp[ntmps135,results135]at hf|-;refine AW.seq cc ?_;simp;refine AW.seq cc ?_;simp;refine AW.seq cc ?_;simp;have ob:∀X,(H.add X).obj H.next=some X:=λX=>by rw[GH.ax,if_pos rfl]
 refine AW.aV cc (λi:Nat=>⟨[(1,aH top),(5,.gm H.next),(12,.d (.sl (l.map ak))),(13,aH l.length),(14,aH i)],[],H.add (.map (oq (qP ((l.take i).filter (Pw top)))))⟩) (λi=>l.length-i) (λi=>i<=l.length) 0 ⟨Nat.zero_le _,by simp[qP,oq]⟩ λi hi=>?_
 simp;refine⟨λh=>?_,λh=>?_⟩
 ·have hx:=hn l[i] (List.getElem_mem h);obtain⟨x,dc⟩:∃x,l[i]=x:=⟨_,rfl⟩;have gx:l.take (i+1)=l.take i++[x]:=by rw[<-aR h,dc]
  obtain⟨M,hM⟩:∃M,qP ((l.take i).filter (Pw top))=M:=⟨_,rfl⟩;have zq:-1000000000000000000<=uG x.aa M/\uG x.aa M<=1000000000000000000:=by
   rw[<-hM,Im (Oj _),KA];have hb:=B3 (r:=x.aa) (b:=1000000000000) (l:=(l.take i).filter (Pw top)) (λy hy=>hn y (List.mem_of_mem_take (List.mem_filter.1 hy).1)) (by omega)
   have hle:((l.take i).filter (Pw top)).length<=1000000:=Nat.le_trans (List.length_filter_le _ _) (by simp;omega)
   omega
  rw[dc]at hx;simp[h,List.getElem?_eq_getElem h,dc,ak];have hwr:IntKind.wrap .i64 (uG x.aa M+x.n)=uG x.aa M+x.n:=by rw[wrap64]<;>omega
  have YO:Pw top x=true->qP ((l.take (i+1)).filter (Pw top))=jN x M:=λq=>by
   rw[gx,List.filter_append,List.filter_cons,if_pos q,List.filter_nil,Qv,hM]
  have hfo:Pw top x=false->qP ((l.take (i+1)).filter (Pw top))=M:=λq=>by
   rw[gx,List.filter_append,List.filter_cons,if_neg (by simp[q]),List.filter_nil,List.append_nil,hM]
  have yD:∀q:0<=x.aa.at_/\x.aa.at_<=top,Pw top x=true:=λq=>by simp[Pw,q]
  have hno:∀q:¬(0<=x.aa.at_/\x.aa.at_<=top),Pw top x=false:=λq=>by simpa[Pw]using q
  have hkr:Value.agg #[.int .i64 x.aa.at_,.int .i64 x.aa.key,.int .i64 x.aa.val]=kR x.aa:=rfl;have hkk:xd (kR x.aa) (kR x.aa)=true:=by rw[Mk];simp
  have hkey:=eq_true (J3 M);have dL:=A4 x.aa M;have hput:=wW x M;have NL:cr (kR x.aa) (.d (.k (.int .i64 (uG x.aa M)))) (oq M)=oq (jN ⟨x.aa,0⟩ M):=by
   have:=wW ⟨x.aa,0⟩ M;simpa using this
  have hlt:pY (kR x.aa) (oq M)<(oq (jN ⟨x.aa,0⟩ M)).length:=by rw[<-NL];exact Nz _
  have QE:y7 (pY (kR x.aa) (oq M)) (.d (.k (.int .i64 (uG x.aa M+x.n)))) (oq (jN ⟨x.aa,0⟩ M))=oq (jN x M):=by
   rw[<-NL,DO];exact hput
  have aA8:=eq_true (J3 (jN ⟨x.aa,0⟩ M));have aB5:(bD (kR x.aa) (oq (jN ⟨x.aa,0⟩ M))).getD (.d (.k (.int .i64 0)))=aH (uG x.aa M):=by
   rw[<-NL,qA hkk];rfl
  have bp1:(KK.ag [.int .i64,.int .i64,.int .i64]).has (kR x.aa)=true:=rfl;have fE:∀X Y,(H.add X).set H.next Y=H.add Y:=λX Y=>GH.cV
  refine⟨λc1 c2=>?_,λc=>?_⟩
  ·rw[hM];have hq:=YO (yD ⟨c1,c2⟩);refine AW.draw cc [] (.q 0<|.q 1<|.q 4<|.q 2<|.q 5<|.f (.cons 3 (.q 6<|.f<|.one 7<|.q 8<|.f<|.one 9<|.done) (.cons 7 (.q 8<|.q 3<|.q 6<|.f<|.one 9<|.done) (.nil)))) (by kernel_rfl) ?_
   simp[ob,hkr,hkey,dL,hwr,hlt,NL,QE,aA8,aB5,bp1,fE];have eM:=aB (n:=9223372036854775807) (show i<9223372036854775807 by omega)
   exact⟨NX.go (i+1) (by omega) h (by simp[hq,eM]),NX.go (i+1) (by omega) h (by simp[hq,eM])⟩
  ·have hq:=hfo (hno λq=>by have:=c q.1;omega)
   rw[hM]at*;exact NX.go (i+1) (by omega) h (by simp[hq,aB (n:=9223372036854775807) (show i<9223372036854775807 by omega)])
 ·have e:i=l.length:=by omega
  subst e;rw[List.take_length];obtain⟨L,hL⟩:∃L,l.filter (Pw top)=L:=⟨_,rfl⟩;obtain⟨M,hM⟩:∃M,qP L=M:=⟨_,rfl⟩;have Bs:b6 l top=nw L:=by rw[<-hL];rfl
  have hMl:M.length<=1000000:=by
   rw[<-hM];exact Nat.le_trans (TS L) (by rw[<-hL];exact Nat.le_trans (List.length_filter_le _ _) hlen)
  rw[hL,hM,Bs];have hel:(oq M).length=M.length:=by simp[oq]
  obtain⟨es,uj⟩:∃es,oq M=es:=⟨_,rfl⟩;have hkeys:es.all (λe=>oS e.1)=true:=List.all_eq_true.2 λe he=>by
   rw[<-uj]at he;obtain⟨x,_,q⟩:=List.mem_map.1 he;rw[<-q];rfl
  rw[uj]at hel|-;refine AW.seq cc ?_;simp;refine AW.seq cc ?_;simp[ob];have b1:(H.add (.map es)).next=H.next+1:=rfl;refine AW.aV cc (λa:List Nat×LV×GH=>⟨[(8,a.2.1),(40,.gp (H.next+1) 0)],[],a.2.2⟩) (λa=>Fa es.length (λi=>decide (i∈a.1)))
   (λa=>a.1.Nodup/\(∀i∈a.1,i<es.length)/\lB 86 4 ((H.add (.map es)).add (.iter H.next es.length a.1 es.length)) a.2.1 ((qV M a.1).map ak) a.2.2)
   ([],.d (.k (.slice none 0 0)),(H.add (.map es)).add (.iter H.next es.length [] es.length)) ⟨⟨by simp,by simp,by simpa[qV]using lB.nil⟩,by simp[b1]⟩ ?_
  rintro⟨seen,x,H2⟩ ⟨s1,s2,hv⟩;simp only at s1 s2 hv;have oi:H2.obj (H.next+1)=some (.iter H.next es.length seen es.length):=by rw[hv.ob _ (by rw[GH.aq];omega),GH.ax,if_pos b1.symm]
  have om:H2.obj H.next=some (.map es):=by rw[hv.ob _ (by rw[GH.aq];omega),GH.ax,if_neg (by omega)];exact ob _
  simp;refine ST.next (n:=H.next+1) (m:=H.next) (seen:=seen) (es:=es) (by simp) oi om (by simp) rfl rfl hkeys (λi e he hi=>?_) (λhend=>?_)
  ·have hi':=(List.getElem?_eq_some_iff.1 he).1;obtain⟨y,hy,hk⟩:∃y,M[i]?=some y/\e=(kR y.aa,aH y.n):=by
    rw[<-uj]at he;simp only[oq,List.getElem?_map,Option.map_eq_some_iff]at he;obtain⟨y,h1,h2⟩:=he;exact⟨y,h1,h2.symm⟩
   simp;refine ST.entry (n:=H.next+1) (m:=H.next) (seen:=seen++[i]) (es:=es) (i:=i) (e:=e) (by simp) (by rw[GH.aY]) (by rw[GH.ay,if_neg (by omega)];exact om) (by simp) rfl hkeys (by simp) he ?_
   rw[hk];obtain⟨H3,vl⟩:∃H3,H2.set (H.next+1) (GO.iter H.next es.length (seen++[i]) es.length)=H3:=⟨_,rfl⟩;have F3:=hv.set (k:=H.next+1) (by rw[GH.aq];omega) (.iter H.next es.length (seen++[i]) es.length)
   have fE:∀a b:GO,((H.add (.map es)).add a).set (H.next+1) b=(H.add (.map es)).add b:=λa b=>by rw[<-b1];exact GH.cV
   rw[vl,fE]at F3;have hwk:qV M (seen++[i])=qV M seen++(if y.n≠0 then[y]else[]):=by
    have hg:M.getD i default=y:=by simp[List.getD,hy]
    simp only[qV,List.map_append,List.map_cons,List.map_nil,List.filter_append,hg,List.filter_cons,List.filter_nil];by_cases q:y.n=0<;>simp[q]
   have dK:(seen++[i]).Nodup:=by
    rw[List.nodup_append];exact⟨s1,by simp,λa ha b hb=>by simp at hb;subst hb;intro q;subst q;exact hi ha⟩
   have YI:seen.length<=es.length:=fZ _ _ s1 s2;have Sj:(qV M seen).length<=1000000:=Nat.le_trans (List.length_filter_le _ _) (by simp;omega)
   have Jv:Fa es.length (λj=>decide (j∈seen++[i]))<Fa es.length (λj=>decide (j∈seen)):=by
    have:=qW (n:=es.length) (M:=λj=>decide (j∈seen)) hi' (by simpa using hi)
    have e2:ga (λj=>decide (j∈seen)) i=λj=>decide (j∈seen++[i]):=by
     funext j;simp only[ga];by_cases q:j=i<;>simp[q]
    rw[e2]at this;exact this
   have hall:∀j∈seen++[i],j<es.length:=λj hj=>by
    rcases List.mem_append.1 hj with q|q
    ·exact s2 j q
    ·simp at q;subst q;exact hi'
   simp[oT,kR,vl];refine⟨λq=>⟨hv.plain.tO,?_⟩,λq=>?_⟩
   ·refine eO.Kr (ys:=[ak y]) vu rfl dZ (by simp) (x:=x) (by simp[hv.plain.all]) F3 (by simp[kO,rowsOf,ak]) (by simp) (bp _) (λr hr=>by simp only[List.mem_singleton]at hr;subst hr;rfl) (by simp;omega) (by simp) λx' H5 h5 _ _=>?_
    simp[h5.plain.all];refine NX.go (seen++[i],x',H5) Jv ⟨dK,hall,?_⟩ (by simp[h5.only])
    rw[hwk,if_pos q,List.map_append];exact h5
   ·refine NX.go (seen++[i],x,H3) Jv ⟨dK,hall,?_⟩ (by simp[F3.only])
    rw[hwk,if_neg (by simpa using q),List.append_nil];exact F3
  ·simp;have Sj:(qV M seen).length<=1000000:=Nat.le_trans (List.length_filter_le _ _) (by simp;have:=fZ _ _ s1 s2;omega)
   have hsb:=Pu (qV M seen) (by omega) x _ H2 hv
   refine AW.seq cc ?_;simp[hv.plain.all];refine⟨hv.nb,EC.of hsb (λv H3 hR=>?_) (λv H3 hR=>by obtain⟨⟨_,e⟩,_⟩:=hR;cases e)⟩
   obtain⟨_,n3,l',hp,Pz,F3⟩:=hR;have bo8:l'=nw L:=by
    rw[hel]at hend s2;rw[<-hM]at hp s2 hend;exact Kn s1 s2 hend hp Pz
   subst bo8;have n2:=F3.nx;rw[GH.aq,GH.aq]at n2;have o3:∀m,m<H.next->H3.obj m=H.obj m:=λm hm=>by rw[F3.ob m (by rw[GH.aq,GH.aq];omega),GH.ax,if_neg (by rw[GH.aq];omega),GH.ax,if_neg (by omega)]
   simp[hv.plain.all];rcases F3.is with⟨q1,rfl⟩|⟨n,g,q1,q2,rfl,q4,q5⟩
   ·refine AW.ev cc ?_;simp;exact λ_=>⟨aL (by omega) o3 hw.none,by simpa using q1⟩
   ·rw[GH.aq,GH.aq]at q1;refine AW.cM (n:=n) (g:=g) (sz:=4) (e:=86) (ex:=false) ((nw L).map ak) q4 rfl (bp _) ?_;refine AW.ev cc ?_;simp;exact λ_=>⟨aL (by simp only;omega) (λm hm=>kH hw (by omega) o3 hm) hw.none,List.take_of_length_le (by simp)⟩
def C6(x:Item):Prop:=(-1000000<=x.n/\x.n<=1000000)/\cm x.aa.val
theorem AY{x:Item}(h:C6 x):-1000000000000000<=x.n*x.aa.val/\x.n*x.aa.val<=1000000000000000:=by
 obtain⟨h1,h2⟩:=h;unfold cm at h2;have h3:(x.n*x.aa.val).natAbs<=1000000*1000000000:=by
  rw[Int.natAbs_mul];exact Nat.mul_le_mul (by omega) (by omega)
 omega
theorem uV(f:Int):∀(l:List Item) (st:Nat×Int),(∀x∈l,C6 x)->-1000000000000000*(st.1+1:Int)<=st.2/\st.2<=1000000000000000*(st.1+1:Int)->(l.foldl (cI f) st).1=st.1+l.length/\
  -1000000000000000*(st.1+l.length+1:Int)<=(l.foldl (cI f) st).2/\(l.foldl (cI f) st).2<=1000000000000000*(st.1+l.length+1:Int)
 |[],st,_,h=>by simpa using h
 |x::l,st,hl,h=>by
  rw[List.foldl_cons];have hx:=hl x (by simp)
  have hm:=AY hx;obtain⟨h1,h2⟩:=hx;unfold cm at h2;have ih:=uV f l (cI f st x) (λy hy=>hl y (List.mem_cons_of_mem _ hy)) (by
   simp only[cI]
   split
   ·push_cast;omega
   ·split
    ·push_cast;omega
    ·split
     ·split<;>push_cast<;>omega
     ·split
      ·split<;>push_cast<;>omega
      ·push_cast;omega)
  have e:(cI f st x).1=st.1+1:=rfl;rw[e]at ih;simp only[List.length_cons]
  push_cast at ih|-
  exact⟨by omega,by omega,by omega⟩
theorem D2(f:Int)(l:List Item)(hl:l.length<=1000)(hb:∀x∈l,C6 x):aC prog 59 [aH f,sl (l.map ak)] (aH (foldI f l)):=by
 have cc:=au (p:=bf [] [] []);refine aC.body (au (p:=bf [] [] [])) func59 rfl call59 (by rw[ntmps59];simp) rfl λhf H=>?_
 simp[ntmps59,results59]at hf|-;refine AW.aV cc (λi:Nat=>⟨[(0,aH f),(5,aH ((l.take i).foldl (cI f) (0,0)).2),(9,.d (.sl (l.map ak))),(10,aH l.length),(11,aH i)],[],H⟩) (λi=>l.length-i) (λi=>i<=l.length) 0 ⟨Nat.zero_le _,by simp⟩ λi hi=>?_
 simp;refine⟨λh=>?_,λh=>?_⟩
 ·obtain⟨x,dc⟩:∃x,l[i]=x:=⟨_,rfl⟩;have hx:=hb l[i] (List.getElem_mem h);rw[dc]at hx;have hbd:=uV f (l.take i) (0,0) (λy hy=>hb y (List.mem_of_mem_take hy)) (by simp)
  have hst:(l.take (i+1)).foldl (cI f) (0,0)=cI f ((l.take i).foldl (cI f) (0,0)) x:=by
   rw[<-aR h,dc,List.foldl_append];rfl
  obtain⟨st,hs⟩:∃st,(l.take i).foldl (cI f) (0,0)=st:=⟨_,rfl⟩;rw[hs]at hbd hst;have hlt:(l.take i).length=i:=by simp;omega
  rw[hlt]at hbd;have hm:=AY hx;obtain⟨h1,h2⟩:=hx;unfold cm at h2;have w1:IntKind.wrap .i64 (st.2+x.n)=st.2+x.n:=by rw[wrap64]<;>omega
  have w2:IntKind.wrap .i64 (x.n*x.aa.val)=x.n*x.aa.val:=by rw[wrap64]<;>omega
  have w3:IntKind.wrap .i64 (st.2+x.n*x.aa.val)=st.2+x.n*x.aa.val:=by rw[wrap64]<;>omega
  have Mq:st.1=i:=by have:=hbd.1;omega
  have yD:∀v:Int,v=(cI f st x).2->v=((l.take (i+1)).foldl (cI f) (0,0)).2:=λv q=>by rw[hst,q]
  simp[h,List.getElem?_eq_getElem h,dc,ak,hs,w1,w2,w3,aB h (show l.length<=9223372036854775807 by omega)]
  have w4:=aB h (show l.length<=9223372036854775807 by omega)
  refine⟨λq=>?_,λn1=>⟨λq=>?_,λn2=>⟨λq=>⟨λr=>?_,λr1 r2=>?_⟩,λn3=>⟨λq=>⟨λr=>?_,λr1 r2=>?_⟩,λn4=>?_⟩⟩⟩⟩
  ·have hv:(cI f st x).2=st.2+x.n:=by simp[cI,q]
   exact NX.go (i+1) (by omega) h (by simp[hst,hv,w4])
  ·have hv:(cI f st x).2=st.2+x.n*x.aa.val:=by simp[cI,n1,q]
   exact NX.go (i+1) (by omega) h (by simp[hst,hv,w4])
  ·have hv:(cI f st x).2=x.aa.val:=by simp only[cI];rw[if_neg n1,if_neg n2,if_pos q,if_pos (by rw[Mq];exact r)]
   exact NX.go (i+1) (by omega) h (by simp[hst,hv,w4])
  ·have hv:(cI f st x).2=st.2:=by simp only[cI];rw[if_neg n1,if_neg n2,if_pos q,if_neg (by rw[Mq];omega)]
   exact NX.go (i+1) (by omega) h (by simp[hst,hv,w4])
  ·have hv:(cI f st x).2=x.aa.val:=by simp only[cI];rw[if_neg n1,if_neg n2,if_neg n3,if_pos q,if_pos (by rw[Mq];exact r)]
   exact NX.go (i+1) (by omega) h (by simp[hst,hv,w4])
  ·have hv:(cI f st x).2=st.2:=by simp only[cI];rw[if_neg n1,if_neg n2,if_neg n3,if_pos q,if_neg (by rw[Mq];omega)]
   exact NX.go (i+1) (by omega) h (by simp[hst,hv,w4])
  ·have hv:(cI f st x).2=st.2:=by simp only[cI];rw[if_neg n1,if_neg n2,if_neg n3,if_neg n4]
   exact NX.go (i+1) (by omega) h (by simp[hst,hv,w4])
 ·have e:i=l.length:=by omega
  subst e;rw[List.take_length];refine EC.aJ (gX _) ?_;simp[foldI]
theorem Es(low:Int):∀(l:List Item) (i:Nat),i<=l.length->(∀(j:Nat) (h:j<l.length),j<i->l[j].aa.at_<low)->(∀h:i<l.length,low<=l[i].aa.at_)->mT low l=l.drop i
 |[],i,_,_,_=>by simp[mT]
 |x::l,0,_,_,h=>by
  have:=h (by simp)
  simp only[mT,List.drop_zero];rw[List.dropWhile_cons,if_neg (by simpa using this)]
 |x::l,i+1,hi,h1,h2=>by
  have h0:=h1 0 (by simp) (by omega)
  simp only[mT]at*;rw[List.dropWhile_cons,if_pos (by simpa using h0),List.drop_succ_cons]
  exact Es low l i (by simpa using hi) (λj h hj=>h1 (j+1) (Nat.succ_lt_succ h) (by omega)) (λh=>h2 (Nat.succ_lt_succ h))
theorem Dj(high:Int):∀(l:List Item) (i:Nat),i<=l.length->(∀(j:Nat) (h:j<l.length),j<i->l[j].aa.at_<=high)->(∀h:i<l.length,high<l[i].aa.at_)->l.takeWhile (λx=>decide (x.aa.at_<=high))=l.take i
 |[],i,_,_,_=>by simp
 |x::l,0,_,_,h=>by
  have:=h (by simp)
  rw[List.takeWhile_cons,if_neg (by simpa using this),List.take_zero]
 |x::l,i+1,hi,h1,h2=>by
  have h0:=h1 0 (by simp) (by omega)
  rw[List.takeWhile_cons,if_pos (by simpa using h0),List.take_succ_cons]
  rw[Dj high l i (by simpa using hi) (λj h hj=>h1 (j+1) (Nat.succ_lt_succ h) (by omega)) (λh=>h2 (Nat.succ_lt_succ h))]
theorem nI(l:List Item)(low high:Int):aC prog 233 [sl (l.map ak),aH low,aH high] (sl ((bP low high l).map ak)):=by
 have cc:=au (p:=bf [] [] []);refine aC.body (au (p:=bf [] [] [])) func233 rfl call233 (by rw[ntmps233];simp) rfl λhf H=>?_
 simp[ntmps233,results233]at hf|-;refine AW.aV cc (λi:Nat=>⟨[(0,.d (.sl (l.map ak))),(1,aH low),(2,aH high),(7,aH i)],[],H⟩) (λi=>l.length-i) (λi=>i<=l.length/\∀(j:Nat) (h:j<l.length),j<i->l[j].aa.at_<low) 0 ⟨⟨Nat.zero_le _,λj h hj=>by omega⟩,by simp⟩ λi hi=>?_
 obtain⟨hi,Wn⟩:=hi;have hd:(default:DV)=.k undef:=rfl;rcases Decidable.em (i<l.length)with h|h
 case' inl=>
  simp[h,List.getElem?_eq_getElem h,ak];refine⟨λq=>NX.go (i+1) (by omega) ⟨h,λj hj hji=>?_⟩ (by simp[aB h (show l.length<=9223372036854775807 by omega),ak]),λq=>?_⟩
  ·by_cases e:j=i
   ·subst e;exact q
   ·exact Wn j hj (by omega)
  have hup:∀h:i<l.length,low<=l[i].aa.at_:=λ_=>q
 case' inr=>
  simp[h,hd,undef];have hup:∀h:i<l.length,low<=l[i].aa.at_:=λh'=>absurd h' h
 all_goals
  have hfr:=Es low l i hi Wn hup;refine AW.aV cc (λk:Nat=>⟨[(0,.d (.sl (l.map ak))),(2,aH high),(7,aH i),(8,aH k)],[],H⟩) (λk=>l.length-k) (λk=>k<=l.length/\i<=k/\∀(j:Nat) (h:j<l.length),i<=j->j<k->l[j].aa.at_<=high) i ⟨⟨hi,Nat.le_refl _,λj h h1 h2=>by omega⟩,by simp[ak]⟩ λk hk=>?_
  obtain⟨hk,hik,hin⟩:=hk;simp;rcases Decidable.em (k<l.length)with h2|h2
  case' inl=>
   simp[h2,List.getElem?_eq_getElem h2,ak];refine⟨λq=>NX.go (k+1) (by omega) ⟨h2,by omega,λj hj h3 h4=>?_⟩ (by simp[aB h2 (show l.length<=9223372036854775807 by omega),ak]),λq=>?_⟩
   ·by_cases e:j=k
    ·subst e;exact q
    ·exact hin j hj h3 (by omega)
   have aw9:∀h:k<l.length,high<l[k].aa.at_:=λ_=>q
  case' inr=>
   simp[h2,hd,undef];have aw9:∀h:k<l.length,high<l[k].aa.at_:=λh'=>absurd h' h2
  all_goals
   have hut:=Dj high (l.drop i) (k-i) (by simp;omega) (λj hj hjk=>by
    rw[List.getElem_drop];exact hin (i+j) (by simp at hj;omega) (by omega) (by omega)) (λhj=>by
    rw[List.getElem_drop];have:=aw9 (by simp at hj;omega)
    simpa[show i+(k-i)=k by omega]using this)
   have hres:(List.take k (l.map ak)).drop i=(bP low high l).map ak:=by
    rw[bP,hfr,hut,<-List.map_take,<-List.map_drop,List.drop_take]
   exact⟨⟨hik,hk⟩,hres⟩
def T2(P:Program)(f:FuncId)(args:List LV)(H:GH)(v:LV):Prop:=∀H',H.next<=H'.next->(∀m,m<H.next->H'.obj m=H.obj m)->aG P f args H' λce H2=>ce=.ret v/\H2=H'
theorem aC.keeps{P:Program}{f:FuncId}{args:List LV}{v:LV}(h:aC P f args v)(H:GH):T2 P f args H v:=λH' _ _=>h H'
theorem p8(g:Item->Item)(l:List Item)(hl:l.length<=1000000)(F:FuncId)(cap:List LV)(H:GH)(hcap:cD H.next cap)(hF:∀x∈l,T2 prog F ([lv (ak x)]++cap) H (lv (ak (g x)))):
  aG prog 226 [sl (l.map ak),.fn (.func F) [] cap] H λce H'=>ce=.ret (sl ((l.map g).map ak))/\H'=H:=by
 have cc:=aP;refine aG.bG aP func226 rfl call226 (by rw[ntmps226];simp) rfl λhf hw=>?_
 simp[ntmps226,results226]at hf|-;refine AW.aV cc (λa:Nat×LV×GH=>⟨[(1,.fn (.func F) [] cap),(5,a.2.1),(8,.d (.sl (l.map ak))),(9,aH l.length),(10,aH a.1)],[],a.2.2⟩) (λa=>l.length-a.1) (λa=>a.1<=l.length/\cu 86 4 H a.2.1 (((l.take a.1).map g).map ak) a.2.2) (0,.d (.k (.slice none 0 0)),H) ⟨⟨by simp,.nil⟩,by simp[LV.only,ec,cT _ hcap]⟩ ?_
 rintro⟨i,x,H'⟩ ⟨hi,aA⟩;simp only at hi aA;simp;refine⟨λh=>?_,λh=>?_⟩
 ·have hd:=hF l[i] (List.getElem_mem h) H' aA.nx aA.ob;simp[ak]at hd;simp[h,List.getElem?_eq_getElem h,ak,aA.plain.all];refine⟨eV aA.nx _ hcap,EC.of hd (λv H2 hR=>?_) (λv H2 hR=>by cases hR.1)⟩
  obtain⟨q,rfl⟩:=hR;cases q;simp[aA.plain.all];refine eO.dU (ys:=[ak (g l[i])]) fk rfl dZ (by simp) (x:=x) (by simp) aA (by simp[ak,rowsOf]) (by simp) (bp _) (λr hr=>by simp only[List.mem_singleton]at hr;subst hr;rfl) (by simp;omega) (by simp) λx' H3 aF _ _=>?_
  rw[show((l.take i).map g).map ak++[ak (g l[i])]=((l.take (i+1)).map g).map ak by rw[<-aR h,List.map_append,List.map_append];rfl]at aF
  simp[aF.plain.all,aF.only,aB (n:=9223372036854775807) (show i<9223372036854775807 by omega)]
  exact NX.go (i+1,x',H3) (by simp;omega) ⟨h,aF⟩ (by simp[aF.only,aF.plain.all,LV.only,ec,cT _ hcap,ak])
 ·have:i=l.length:=by omega
  subst this;rw[List.take_length]at aA;simp[aA.plain.all,aA.fz];exact λhz=>aL aA.nx aA.ob hw.none
theorem IV(x:Item)(n:Int)(h:-1000000000<=x.aa.at_+n/\x.aa.at_+n<=1000000000):aC prog 264 [lv (ak x),.ip [aH n] 0] (lv (ak ⟨⟨x.aa.at_+n,x.aa.key,x.aa.val⟩,x.n⟩)):=by
 refine aC.body (au (p:=bf [] [] [])) func264 rfl call264 (by rw[ntmps264];simp) rfl λhf H=>?_
 have hw:IntKind.wrap .i64 (x.aa.at_+n)=x.aa.at_+n:=by rw[wrap64]<;>omega
 simp[ntmps264,results264,ak,hw]
theorem A6(l:List Item)(n:Int)(hl:l.length<=1000000)(h:∀x∈l,-1000000000<=x.aa.at_+n/\x.aa.at_+n<=1000000000):aC prog 224 [sl (l.map ak),aH n] (sl ((dP n l).map ak)):=by
 intro H;have hc:=p8 (λx=>⟨⟨x.aa.at_+n,x.aa.key,x.aa.val⟩,x.n⟩) l hl 264 [.ip [aH n] 0] H (by simp[cD,LV.nb]) (λx hx=>(IV x n (h x hx)).keeps H)
 refine aG.bG (au (p:=bf [3] [] [])) func224 rfl call224 (by rw[ntmps224];simp) rfl λhf hw=>?_
 simp at hc;simp[ntmps224,results224];refine EC.of hc (λv H2 hR=>?_) (λv H2 hR=>by cases hR.1)
 obtain⟨q,rfl⟩:=hR;cases q;simp;exact λhz=>⟨hz.drop (Nat.le_refl _),by rw[dP,List.map_map]⟩
theorem Ma(x:Item):aC prog 235 [lv (ak x)] (lv (ak ⟨x.aa,1⟩)):=by
 refine aC.body (au (p:=bf [1] [] [])) func235 rfl call235 (by rw[ntmps235];simp) rfl λhf H=>?_
 simp[ntmps235,results235,ak]
def QC(o:Option (Int×Int)):LV:=match o with|some (a,b)=>.dh [aH a,aH b,.d (.k (.bool true))]|none=>.dh [aH 0,aH 0,.d (.k (.bool false))]
def oU(e:bz):LV:=.ip ((aS e).map .d) 0
theorem IW(e:bz)(l:List Item)(t:Int)(hn:1<=e.n/\e.n<=50)(ht:0<=t/\t<=200):aC prog 229 [sl (l.map ak),aH t,oU e] (QC (sr e.n l t)):=by
 refine aC.body (au (p:=bf [] [] [])) func229 rfl call229 (by rw[ntmps229];simp) rfl λhf H=>?_
 have cc:=au (p:=bf [] [] []);have hn0:e.n≠0:=by omega
 have hq0:0<=t.tdiv e.n*e.n/\t.tdiv e.n*e.n<=200:=by
  have h1:=Int.tmod_add_mul_tdiv t e.n;have h2:0<=t.tmod e.n:=Int.tmod_nonneg _ ht.1;have h3:0<=t.tdiv e.n:=Int.tdiv_nonneg ht.1 (by omega)
  have h4:0<=t.tdiv e.n*e.n:=Int.mul_nonneg h3 (by omega)
  rw[Int.mul_comm]at h1;omega
 have hq1:0<=t.tdiv e.n/\t.tdiv e.n<=200:=⟨Int.tdiv_nonneg ht.1 (by omega),Int.le_trans (Int.tdiv_le_self _ ht.1) ht.2⟩
 have w1:IntKind.wrap .i64 (t.tdiv e.n)=t.tdiv e.n:=by rw[wrap64]<;>omega
 have w2:IntKind.wrap .i64 (t.tdiv e.n*e.n)=t.tdiv e.n*e.n:=by rw[wrap64]<;>omega
 have w3:IntKind.wrap .i64 (t.tdiv e.n*e.n+e.n)=t.tdiv e.n*e.n+e.n:=by rw[wrap64]<;>omega
 have w4:IntKind.wrap .i64 (t.tdiv e.n*e.n+e.n-1)=t.tdiv e.n*e.n+e.n-1:=by rw[wrap64]<;>omega
 simp[ntmps229,results229,oU,aj];refine AW.draw cc [] (.q 0<|.q 1<|.q 4<|.q 2<|.q 3<|.q 5<|.q 6<|.q 7<|.done) (by kernel_rfl) ?_
 simp[hn0,w1,w2];refine AW.draw cc [] (.q 0<|.q 1<|.q 2<|.q 6<|.q 3<|.q 4<|.q 5<|.q 7<|.q 8<|.done) (by kernel_rfl) ?_
 simp[w3,w4,QC,sr]
theorem IU(e:bz)(l:List Item)(t:Int)(hn:0<=e.n/\e.n<=50)(ht:0<=t/\t<=200):aC prog 230 [sl (l.map ak),aH t,oU e] (QC (pM e.n l t)):=by
 refine aC.body (au (p:=bf [] [] [])) func230 rfl call230 (by rw[ntmps230];simp) rfl λhf H=>?_
 have w1:IntKind.wrap .i64 (t-e.n)=t-e.n:=by rw[wrap64]<;>omega
 simp[ntmps230,results230,oU,aj,w1,QC,pM]
theorem IT(l:List Item)(t:Int):aC prog 231 [sl (l.map ak),aH t] (QC (uv l t)):=by
 refine aC.body (au (p:=bf [] [] [])) func231 rfl call231 (by rw[ntmps231];simp) rfl λhf H=>?_
 simp[ntmps231,results231,QC,uv]
theorem j9{low high:Int}{l:List Item}{x:Item}(h:x∈bP low high l):x∈l:=by
 unfold bP mT at h;exact(List.dropWhile_sublist _).mem ((List.takeWhile_sublist _).mem h)
def ow(l:List Item):Prop:=l.Pairwise λa b=>a.aa.at_<=b.aa.at_
theorem JL{low:Int}:∀{l:List Item},ow l->∀x∈mT low l,low<=x.aa.at_
 |[],_,x,hx=>by simp[mT]at hx
 |y::l,h,x,hx=>by
  have h':=List.pairwise_cons.1 h;simp only[mT]at hx;rw[List.dropWhile_cons]at hx
  split at hx
  ·exact JL h'.2 x hx
  ·rename_i q;have q':low<=y.aa.at_:=by simpa using q
   rcases List.mem_cons.1 hx with e|e
   ·rw[e];exact q'
   ·exact Int.le_trans q' (h'.1 x e)
theorem OK{low high:Int}{l:List Item}(h:ow l){x:Item}(hx:x∈bP low high l):low<=x.aa.at_/\x.aa.at_<=high:=by
 unfold bP at hx;exact⟨JL h x ((List.takeWhile_sublist _).mem hx),by have:=List.all_eq_true.1 (List.all_takeWhile (p:=λx:Item=>decide (x.aa.at_<=high)) (l:=mT low l)) x hx;simpa using this⟩
theorem Po{n:Int}{l:List Item}:∀(k:Nat) (t:Int),bP (t-n) (t-1) l=[]->y8 n l k t=t
 |0,t,h=>rfl
 |k+1,t,h=>by rw[y8,h]
theorem L9(e:bz)(l:List Item)(t:Int)(hn:1<=e.n/\e.n<=50)(ht:0<=t/\t<=200)(hl:ow l)(hb:∀x∈l,0<=x.aa.at_/\x.aa.at_<=200):aC prog 232 [sl (l.map ak),aH t,oU e] (QC (qz e.n l t)):=by
 refine aC.body (au (p:=bf [] [] [])) func232 rfl call232 (by rw[ntmps232];simp) rfl λhf H=>?_
 have cc:=au (p:=bf [] [] []);have wi:=λa b=>nI l a b
 have w1:IntKind.wrap .i64 (t+1)=t+1:=by rw[wrap64]<;>omega
 have w2:IntKind.wrap .i64 (t+e.n)=t+e.n:=by rw[wrap64]<;>omega
 have w3:∀u:Int,0<=u->u<=200->IntKind.wrap .i64 (u-e.n)=u-e.n:=λu a b=>by rw[wrap64]<;>omega
 have w4:∀u:Int,0<=u->u<=200->IntKind.wrap .i64 (u-1)=u-1:=λu a b=>by rw[wrap64]<;>omega
 simp at wi;simp[ntmps232,results232,oU,aj,w1,w2,w3 t ht.1 ht.2,w4 t ht.1 ht.2];refine EC.aJ (wi _ _) ?_;simp;refine⟨λh=>?_,λh=>?_⟩
 ·have:qz e.n l t=none:=by
   unfold qz;cases hq:bP (t+1) (t+e.n) l with
   |nil=>rw[hq]at h;simp at h
   |cons a b=>rfl
  simp[this,QC]
 ·have bl7:bP (t+1) (t+e.n) l=[]:=by
   cases hq:bP (t+1) (t+e.n) l with
   |nil=>rfl
   |cons a b=>rw[hq]at h;simp at h;try omega
  have Wh:qz e.n l t=some (y8 e.n l 201 t,t):=by unfold qz;rw[bl7]
  refine EC.aJ (wi _ _) ?_;simp;refine AW.aV cc (λu:Nat×Int=>⟨[(0,.d (.sl (l.map ak))),(1,aH t),(2,oU e),(8,aH u.2),(9,.d (.sl ((bP (u.2-e.n) (u.2-1) l).map ak)))],[],H⟩) (λu=>u.2.toNat)
   (λu=>0<=u.2/\u.2<=200/\u.2<=(u.1:Int)/\y8 e.n l u.1 u.2=y8 e.n l 201 t) (201,t) ⟨⟨ht.1,ht.2,by simp;omega,rfl⟩,by simp[oU,aj,w3 t ht.1 ht.2,w4 t ht.1 ht.2]⟩ ?_
  rintro⟨k,u⟩ ⟨h1,h2,h3,h4⟩;simp only at h1 h2 h3 h4;simp;refine⟨λq=>?_,λq=>?_⟩
  ·obtain⟨x,r,hx⟩:∃x r,bP (u-e.n) (u-1) l=x::r:=by
    cases hq:bP (u-e.n) (u-1) l with
    |nil=>rw[hq]at q;simp at q;try omega
    |cons a b=>exact⟨a,b,rfl⟩
   have ug:=hb x (j9 (by rw[hx];simp))
   have GR:=OK hl (x:=x) (low:=u-e.n) (high:=u-1) (by rw[hx];simp)
   obtain⟨k',rfl⟩:∃k',k=k'+1:=⟨k-1,by omega⟩
   have h5:y8 e.n l k' x.aa.at_=y8 e.n l 201 t:=by rw[<-h4,y8,hx]
   simp[hx,ak,oU,aj,w3 _ ug.1 ug.2,w4 _ ug.1 ug.2];refine EC.aJ (wi _ _) ?_;simp;exact NX.go (k',x.aa.at_) (by simp only;omega) ⟨ug.1,ug.2,by omega,h5⟩ (by simp[oU,aj])
  ·have az7:bP (u-e.n) (u-1) l=[]:=by
    cases hq:bP (u-e.n) (u-1) l with
    |nil=>rfl
    |cons a b=>rw[hq]at q;simp at q;try omega
   rw[Po k u az7]at h4;simp[Wh,QC,h4]
def fzE(es:List (Value×LV)):List (Value×LV):=es.map λe=>(e.1,fz e.2)
theorem zy:∀l:List LV,zz l=l.map fz
 |[]=>rfl
 |x::l=>by rw[zz,List.map_cons,zy l]
theorem AW.aF0{P:Program}{rd:RD}{x:Code}{s:S}{Q:QT}(n:Nat)(es:List (Value×LV))(hn:s.H.obj n=some (.map es))(h:@AW P rd ⟨x⟩ {s with H:=s.H.set n (.map (fzE es))} Q):@AW P rd ⟨x⟩ s Q:=by
 refine λE a w hs=>h E a w ?_
 obtain⟨h2,G,lm,h1,hM,hx,aK,he⟩:=hs;refine⟨h2,G,lm,h1,⟨hM.qC,λb o v hv=>?_,hM.fresh,hM.C3,hM.loc,λm o ho=>?_⟩,⟨⟨hx.le,hx.nx,hx.os,hx.tape,hx.output,hx.drawn,hx.size,hx.frame,hx.own⟩,hx.nl⟩,aK,he⟩
 ·rcases hM.dF b o v hv with q|⟨m,e,sz,k,q1,q2,q3⟩
  ·exact .inl q
  ·refine .inr ⟨m,e,sz,k,q1,?_,q3⟩;rw[GH.ay,if_neg]
   ·exact q2
   ·intro q;subst q;rw[hn]at q2;cases q2
 ·rw[GH.ay]at ho
  split at ho
  ·rename_i e;subst e;cases ho;obtain⟨r1,r2,xs,c,r3,r4⟩:=hM.iC _ _ hn;obtain⟨t1,t2,t3,t4⟩:=r4;refine⟨r1,r2,xs,c,r3,?_,?_,t3,t4⟩
   ·rw[t1];simp[fzE]
   ·have:=xM _ _ t2;rw[zy]at this;simp only[fzE,List.map_map,GH.aM]at this|-;exact this
  ·exact hM.iC m o ho
def lK(ks:List Int)(f:Int->LV):List (Value×LV):=ks.map λj=>(Value.int .i64 j,f j)
theorem mj(k:Int)(f:Int->LV):∀ks:List Int,bD (.int .i64 k) (lK ks f)=if k∈ks then some (f k)else none
 |[]=>rfl
 |j::ks=>by
  have ih:=mj k f ks;simp only[lK,List.map_cons,bD,gJ]at ih|-;by_cases e:k=j
  ·simp[e]
  ·simp only[e,decide_false,Bool.false_eq_true,if_false,ih,List.mem_cons,false_or]
theorem mq{ks:List Int}{f g:Int->LV}(h:∀k∈ks,f k=g k):lK ks f=lK ks g:=List.map_congr_left λk hk=>by rw[h k hk]
theorem rQ(k:Int)(v:LV)(f:Int->LV):∀ks:List Int,ks.Nodup->cr (.int .i64 k) v (lK ks f)=lK (if k∈ks then ks else ks++[k]) (λj=>if j=k then v else f j)
 |[],_=>by simp[lK,cr]
 |j::ks,hn=>by
  have hn':=List.nodup_cons.1 hn;have ih:=rQ k v f ks hn'.2;simp only[lK,List.map_cons,cr,gJ]at ih|-;by_cases e:k=j
  ·subst e;simp only[decide_true,if_true,List.mem_cons,true_or,List.map_cons];refine congrArg _ (List.map_congr_left λi hi=>?_)
   rw[if_neg (λq=>hn'.1 (by rw[<-q];exact hi))]
  ·simp only[e,decide_false,Bool.false_eq_true,if_false,ih,List.mem_cons,false_or];by_cases e2:k∈ks
   ·simp only[e2,if_true,List.map_cons];rw[if_neg (λq=>e q.symm)]
   ·simp only[e2,if_false,List.cons_append,List.map_cons];rw[if_neg (λq=>e q.symm)]
theorem iS(ks:List Int)(f:Int->LV):∀(a:Value) (b:LV),(a,b)∈lK ks f->(KK.sc (Sc.int .i64)).has a=true:=λa b h=>by
 obtain⟨x,_,q⟩:=List.mem_map.1 h;cases q;rfl
theorem mP{k:Int}:∀{l:List Item},k∈bg l↔∃x∈l,x.aa.key=k
 |[]=>by simp[bg]
 |x::l=>by
  have ih:=mP (k:=k) (l:=l);rw[bg,List.mem_cons,List.mem_filter,ih];constructor
  ·rintro(q|⟨⟨y,h1,h2⟩,_⟩)
   ·exact⟨x,by simp,q.symm⟩
   ·exact⟨y,by simp[h1],h2⟩
  ·rintro⟨y,h1,h2⟩;by_cases e:k=x.aa.key
   ·exact .inl e
   ·rcases List.mem_cons.1 h1 with q|q
    ·exact absurd (by rw[<-h2,q]) e
    ·exact .inr ⟨⟨y,q,h2⟩,by simpa using e⟩
theorem jE:∀l:List Item,(bg l).Nodup
 |[]=>.nil
 |x::l=>by
  rw[bg];exact List.nodup_cons.2 ⟨λh=>by simpa using(List.mem_filter.1 h).2,(jE l).filter _⟩
theorem sd(x:Item):∀l:List Item,bg (l++[x])=if x.aa.key∈bg l then bg l else bg l++[x.aa.key]
 |[]=>by simp[bg]
 |y::l=>by
  rw[List.cons_append,bg,bg,sd x l];by_cases e:x.aa.key=y.aa.key
  ·rw[if_pos (show x.aa.key∈y.aa.key::_ by rw[e];exact List.mem_cons_self ..)]
   split
   ·rfl
   ·rw[List.filter_append,List.filter_cons,if_neg (by simp[e]),List.filter_nil,List.append_nil]
  ·by_cases h:x.aa.key∈bg l
   ·have h2:x.aa.key∈y.aa.key::(bg l).filter λk=>decide (k≠y.aa.key):=List.mem_cons.2 (.inr (List.mem_filter.2 ⟨h,by simpa using e⟩))
    rw[if_pos h2,if_pos h]
   ·have h2:¬x.aa.key∈y.aa.key::(bg l).filter λk=>decide (k≠y.aa.key):=λq=>by
     rcases List.mem_cons.1 q with q|q
     ·exact e q
     ·exact h (List.mem_filter.1 q).1
    rw[if_neg h2,if_neg h,List.filter_append,List.filter_cons,if_pos (by simpa using e)]
    rfl
theorem Ag(k:Int)(x:Item)(l:List Item):rowOf k (l++[x])=rowOf k l++(if x.aa.key=k then[x]else[]):=by
 unfold rowOf;rw[List.filter_append,List.filter_cons];by_cases e:x.aa.key=k<;>simp[e]
def oD(b:List Item)(k:Int):LV:=sl ((rowOf k b).map ak)
def tV(b:List Item):List (Value×LV):=lK (bg b) (oD b)
structure ai8(N:Nat)(b:List Item)(own:Int->Nat)(H:GH):Prop where
 lo:∀k∈bg b,N<=own k/\own k<H.next
 ob:∀k∈bg b,H.obj (own k)=some (.arr 86 4 (rowOf k b).length)
 inj:∀k∈bg b,∀j∈bg b,own k=own j->k=j
def lJ(b:List Item)(own:Int->Nat)(k:Int):LV:=.lF (own k) ((rowOf k b).map ak)
theorem A7(b:List Item)(hlen:b.length<=1000000)(H:GH):aG prog 266 [sl (b.map ak)] H λce H'=>ce=.ret (.fn (.func 279) [] [.gp (H.next+1) 0])/\H.next+2<=H'.next/\(∀m,m<H.next->H'.obj m=H.obj m)/\
  H'.obj (H.next+1)=some (.box [.gm H.next])/\H'.obj H.next=some (.map (tV b)):=by
 have cc:=au (p:=bf [] [3] []);refine aG.dG (au (p:=bf [] [3] [])) func266 rfl call266 (by rw[ntmps266];simp) rfl λhf hw=>?_
 simp[ntmps266,results266]at hf|-;refine AW.seq cc ?_;simp;refine AW.seq cc ?_;simp[GH.ax,GH.aq];refine⟨by omega,?_⟩
 obtain⟨H1,xq⟩:∃H1,((H.add (GO.map [])).add (GO.box [LV.d (DV.k (Value.map none))])).set (H.next+1) (GO.box [LV.gm H.next])=H1:=⟨_,rfl⟩;have n1:H1.next=H.next+2:=by rw[<-xq];rfl
 have b1:H1.obj (H.next+1)=some (.box [.gm H.next]):=by rw[<-xq,GH.aY]
 have m1:H1.obj H.next=some (.map []):=by rw[<-xq,GH.ay,if_neg (by omega),GH.ax,if_neg (by rw[GH.aq];omega),GH.ax,if_pos rfl]
 have o1:∀m,m<H.next->H1.obj m=H.obj m:=λm hm=>by rw[<-xq,GH.ay,if_neg (by omega),GH.ax,if_neg (by rw[GH.aq];omega),GH.ax,if_neg (by omega)]
 rw[xq]
 clear xq
 refine AW.seq cc ?_;simp;refine AW.aV cc (λa:Nat×(Int->Nat)×GH=>⟨[(3,.gp (H.next+1) 0),(7,.d (.sl (b.map ak))),(8,aH b.length),(9,aH a.1)],[],a.2.2⟩) (λa=>b.length-a.1)
  (λa=>a.1<=b.length/\ai8 (H.next+2) (b.take a.1) a.2.1 a.2.2/\H.next+2<=a.2.2.next/\a.2.2.obj (H.next+1)=some (.box [.gm H.next])/\a.2.2.obj H.next=some (.map (lK (bg (b.take a.1)) (lJ (b.take a.1) a.2.1)))/\∀m,m<H.next->a.2.2.obj m=H.obj m)
  (0,λ_=>0,H1) ⟨⟨Nat.zero_le _,⟨λk hk=>by simp[bg]at hk,λk hk=>by simp[bg]at hk,λk hk=>by simp[bg]at hk⟩,by simp only;omega,b1,by simpa[bg,lK]using m1,o1⟩,by simp⟩ ?_
 rintro⟨i,own,H2⟩ ⟨hi,hk,n2,b2,m2,o2⟩;simp only at hi hk n2 b2 m2 o2;simp;refine⟨λh=>?_,λh=>?_⟩
 ·obtain⟨x,dc⟩:∃x,b[i]=x:=⟨_,rfl⟩;have gx:b.take (i+1)=b.take i++[x]:=by rw[<-aR h,dc]
  simp[h,List.getElem?_eq_getElem h,dc,ak];obtain⟨pre,hpre⟩:∃pre,b.take i=pre:=⟨_,rfl⟩;rw[hpre]at hk m2 gx;have hpl:pre.length<=1000000:=by rw[<-hpre];simp;omega
  have hkey:=eq_true (iS (bg pre) (lJ pre own));have dL:=mj x.aa.key (lJ pre own) (bg pre);have hput:=λv=>rQ x.aa.key v (lJ pre own) (bg pre) (jE pre)
  have bL1:H.next<H2.next:=by omega
  refine AW.draw cc [] (.q 1<|.q 2<|.q 5<|.q 6<|.q 4<|.q 7<|.q 8<|.q 9<|.q 10<|.f (.cons 0 (.f (.cons 3 (.f<|.one 11<|.f<|.one 12<|.done) (.cons 11 (.q 3<|.f<|.one 12<|.done) (.nil)))) (.cons 3 (.f (.cons 0 (.f<|.one 11<|.f<|.one 12<|.done) (.cons 11 (.q 0<|.f<|.one 12<|.done) (.nil)))) (.cons 11 (.q 0<|.q 3<|.f<|.one 12<|.done) (.nil))))) (by kernel_rfl) ?_
  have hcell:([[.k (.int .i64 x.aa.at_),.k (.int .i64 x.aa.key),.k (.int .i64 x.aa.val),.k (.int .i64 x.n)]]:List (List DV))=[ak x]:=rfl;have hrl:∀j,(rowOf j pre).length<=pre.length:=λj=>List.length_filter_le _ _
  have eM:=aB (n:=9223372036854775807) (show i<9223372036854775807 by omega)
  have hro:∀j,j≠x.aa.key->rowOf j (pre++[x])=rowOf j pre:=λj q=>by rw[Ag,if_neg (λe=>q e.symm),List.append_nil]
  have hrk:rowOf x.aa.key (pre++[x])=rowOf x.aa.key pre++[x]:=by rw[Ag,if_pos rfl]
  have QF:∀j,∀r∈(rowOf j pre).map ak,r.length=4:=λj=>bp _
  by_cases hin:x.aa.key∈bg pre
  ·have hks:bg (pre++[x])=bg pre:=by rw[sd,if_pos hin]
   obtain⟨k1,k2⟩:=hk.lo _ hin;have k3:=hk.ob _ hin;have k4:=hrl x.aa.key;have hne:H.next≠own x.aa.key:=by omega
   have nu:cr (.int .i64 x.aa.key) (.lF (own x.aa.key) ((rowOf x.aa.key pre).map ak++[ak x])) (lK (bg pre) (lJ pre own))=lK (bg (pre++[x])) (lJ (pre++[x]) own):=by
    rw[hput,if_pos hin,hks];refine mq λj hj=>?_
    by_cases e:j=x.aa.key
    ·subst e;rw[if_pos rfl,lJ,hrk,List.map_append];rfl
    ·rw[if_neg e,lJ,lJ,hro j e]
   have m3:∀X,(H2.set (own x.aa.key) X).obj H.next=some (.map (lK (bg pre) (lJ pre own))):=λX=>by rw[GH.ay,if_neg hne];exact m2
   have b3:∀X,(H2.set (own x.aa.key) X).obj (H.next+1)=some (.box [.gm H.next]):=λX=>by rw[GH.ay,if_neg (by omega)];exact b2
   have JE:ai8 (H.next+2) (b.take (i+1)) own ((H2.set (own x.aa.key) (.arr 86 4 ((rowOf x.aa.key pre).length+1))).set H.next (.map (lK (bg (pre++[x])) (lJ (pre++[x]) own)))):=by
    rw[gx];refine⟨λk hk'=>?_,λk hk'=>?_,λk hk' j hj'=>?_⟩
    ·rw[hks]at hk';rw[GH.aM,GH.aM];exact hk.lo k hk'
    ·rw[hks]at hk';have:=hk.lo k hk';rw[GH.ay,if_neg (by omega),GH.ay]
     by_cases e:k=x.aa.key
     ·subst e;rw[if_pos rfl,hrk];simp
     ·rw[if_neg (λq=>e (hk.inj k hk' _ hin q)),hro k e];exact hk.ob k hk'
    ·rw[hks]at hk' hj';exact hk.inj k hk' j hj'
   obtain⟨H3,vl⟩:∃H3,(H2.set (own x.aa.key) (.arr 86 4 ((rowOf x.aa.key pre).length+1))).set H.next (.map (lK (bg (pre++[x])) (lJ (pre++[x]) own)))=H3:=⟨_,rfl⟩;have n4:H3.next=H2.next:=by rw[<-vl];rfl
   have b4:H3.obj (H.next+1)=some (.box [.gm H.next]):=by rw[<-vl,GH.ay,if_neg (by omega)];exact b3 _
   have m4:H3.obj H.next=some (.map (lK (bg (b.take (i+1))) (lJ (b.take (i+1)) own))):=by rw[<-vl,gx,GH.aY]
   have o4:∀m,m<H.next->H3.obj m=H.obj m:=λm hm=>by rw[<-vl,GH.ay,if_neg (by omega),GH.ay,if_neg (by omega)];exact o2 m hm
   rw[vl]at JE;simp[b2,m2,dL,hkey,hin,lJ];refine⟨⟨?_,?_⟩,⟨?_,?_⟩,?_⟩
   all_goals
    refine eO.ev ?_;simp[k3,hcell,m3,b3,nu,hkey,QF,vl];exact⟨⟨by omega,by omega⟩,by rw[GH.aM];omega,NX.go (i+1,own,H3) (by simp only;omega) ⟨h,JE,by simp only;omega,b4,m4,o4⟩ (by simp[eM])⟩
  ·have hks:bg (pre++[x])=bg pre++[x.aa.key]:=by rw[sd,if_neg hin]
   have hr0:rowOf x.aa.key pre=[]:=by
    rw[rowOf,List.filter_eq_nil_iff];intro y hy q;exact hin (mP.2 ⟨y,hy,by simpa using q⟩)
   obtain⟨own',hown⟩:∃own':Int->Nat,own'=λj=>if j=x.aa.key then H2.next else own j:=⟨_,rfl⟩
   have hok:own' x.aa.key=H2.next:=by rw[hown];simp
   have KS:∀j,j≠x.aa.key->own' j=own j:=λj q=>by rw[hown];simp[q]
   have nu:cr (.int .i64 x.aa.key) (.lF H2.next [ak x]) (lK (bg pre) (lJ pre own))=lK (bg (pre++[x])) (lJ (pre++[x]) own'):=by
    rw[hput,if_neg hin,hks];refine mq λj hj=>?_
    by_cases e:j=x.aa.key
    ·subst e;rw[if_pos rfl,lJ,hrk,hr0,hok];rfl
    ·rw[if_neg e,lJ,lJ,hro j e,KS j e]
   have m3:∀X,(H2.add X).obj H.next=some (.map (lK (bg pre) (lJ pre own))):=λX=>by rw[GH.ax,if_neg (by omega)];exact m2
   have b3:∀X,(H2.add X).obj (H.next+1)=some (.box [.gm H.next]):=λX=>by rw[GH.ax,if_neg (by omega)];exact b2
   have JE:ai8 (H.next+2) (b.take (i+1)) own' ((H2.add (.arr 86 4 1)).set H.next (.map (lK (bg (pre++[x])) (lJ (pre++[x]) own')))):=by
    rw[gx];refine⟨λk hk'=>?_,λk hk'=>?_,λk hk' j hj'=>?_⟩
    ·rw[GH.aM,GH.aq];by_cases e:k=x.aa.key
     ·subst e;rw[hok];omega
     ·rw[KS k e];rw[hks]at hk';have:=hk.lo k ((List.mem_append.1 hk').resolve_right (by simpa using e))
      omega
    ·by_cases e:k=x.aa.key
     ·subst e;rw[hok,GH.ay,if_neg (by omega),GH.ax,if_pos rfl,hrk,hr0];rfl
     ·rw[hks]at hk';have hk2:=(List.mem_append.1 hk').resolve_right (by simpa using e)
      have:=hk.lo k hk2;rw[KS k e,GH.ay,if_neg (by omega),GH.ax,if_neg (by omega),hro k e];exact hk.ob k hk2
    ·rw[hks]at hk' hj';intro q;by_cases e:k=x.aa.key
     ·by_cases e2:j=x.aa.key
      ·rw[e,e2]
      ·have:=hk.lo j ((List.mem_append.1 hj').resolve_right (by simpa using e2))
       rw[e,hok,KS j e2]at q;omega
     ·have k2:=(List.mem_append.1 hk').resolve_right (by simpa using e)
      have:=hk.lo k k2;by_cases e2:j=x.aa.key
      ·rw[e2,hok,KS k e]at q;omega
      ·rw[KS k e,KS j e2]at q;exact hk.inj k k2 j ((List.mem_append.1 hj').resolve_right (by simpa using e2)) q
   obtain⟨H3,vl⟩:∃H3,(H2.add (.arr 86 4 1)).set H.next (.map (lK (bg (pre++[x])) (lJ (pre++[x]) own')))=H3:=⟨_,rfl⟩;have n4:H3.next=H2.next+1:=by rw[<-vl];rfl
   have b4:H3.obj (H.next+1)=some (.box [.gm H.next]):=by rw[<-vl,GH.ay,if_neg (by omega)];exact b3 _
   have m4:H3.obj H.next=some (.map (lK (bg (b.take (i+1))) (lJ (b.take (i+1)) own'))):=by rw[<-vl,gx,GH.aY]
   have o4:∀m,m<H.next->H3.obj m=H.obj m:=λm hm=>by rw[<-vl,GH.ay,if_neg (by omega),GH.ax,if_neg (by omega)];exact o2 m hm
   rw[vl]at JE;have ha:H.next<(H2.add (.arr 86 4 1)).next:=by rw[GH.aq];omega
   have hb':H2.next<(H2.add (.arr 86 4 1)).next:=by rw[GH.aq];omega
   simp[b2,m2,dL,hkey,hin];refine⟨⟨?_,?_⟩,⟨?_,?_⟩,?_⟩
   all_goals
    refine eO.ev ?_;simp[hcell,m3,b3,nu,hkey,LV.nb,vl,ha,hb'];exact NX.go (i+1,own',H3) (by simp only;omega) ⟨h,JE,by simp only;omega,b4,m4,o4⟩ (by simp[eM])
 ·have e:i=b.length:=by omega
  subst e;rw[List.take_length]at hk m2;refine AW.aF0 H.next _ m2 ?_;have hfz:fzE (lK (bg b) (lJ b own))=tV b:=by
   simp only[fzE,lK,tV,List.map_map];refine List.map_congr_left λk hk'=>?_
   simp[lJ,oD,fz]
  rw[hfz];refine AW.ev cc ?_;simp;exact λhz=>⟨_,hz.drop (by rw[GH.aM];omega),by rw[GH.aM];omega,by rw[GH.aM];omega,λm hm=>by rw[GH.ay,if_neg (by omega)];exact o2 m hm,by rw[GH.ay,if_neg (by omega)];exact b2,GH.aY⟩
def GQ(m:Nat)(es:List (Value×LV))(seen:List Nat):GO:=.iter m es.length seen es.length
theorem ei.T7{P:Program}{n:Nat}{args:List LV}{H:GH}{R:CE->GH->Prop}(h:gU H->ei P n args H R):ei P n args H R:=λG w vs hM qd hargs=>
 h ⟨λn hn=>by
  cases ho:H.obj n with
  |none=>rfl
  |some o=>have:=(hM.iC n o ho).1;omega,λn o ho=>CA (hM.iC n o ho).2⟩ G w vs hM qd hargs
theorem O1{b:List Item}{i:Nat}{e:Value×LV}(h:(tV b)[i]?=some e):∃k,(bg b)[i]?=some k/\e=(.int .i64 k,sl ((rowOf k b).map ak)):=by
 simp only[tV,lK,List.getElem?_map,Option.map_eq_some_iff]at h;obtain⟨k,h1,h2⟩:=h;exact⟨k,h1,h2.symm⟩
@[simp] theorem O0 (b:List Item):(tV b).length=(bg b).length:=by simp [tV,lK]
theorem yg{n nb m:Nat}{b:List Item}{H0:GH}{J:List Nat->GO->GH->Prop}(hnb:H0.obj nb=some (.box [.gm m]))(hm:H0.obj m=some (.map (tV b)))
  (h0:∀X,J [] X (H0.add X)) (hst:∀seen X Y H,J seen X H->J seen Y (H.set H0.next Y)) (kp:∀seen X H,J seen X H->H0.next<H.next/\H.obj H0.next=some X/\H.obj m=some (.map (tV b)))
  (hstep:∀seen i k X H,(bg b)[i]?=some k->i∉seen->(∀i∈seen,i<(bg b).length)->gU H->J seen X H->ei prog n [aH k,sl ((rowOf k b).map ak)] H λce H'=>ce=.ret (bool true)/\J (seen++[i]) X H'):
  aG prog 279 [.yl n,.gp nb 0] H0 λce H'=>(∃v,ce=.ret v)/\∃seen X,seen.Nodup/\(∀i∈seen,i<(bg b).length)/\(∀i,i<(bg b).length->i∈seen)/\J seen X H':=by
 have cc:=au (p:=bf [] [] []);refine aG.dG (au (p:=bf [] [] [])) func279 rfl call279 (by rw[ntmps279];simp) rfl λhf hw=>?_
 have hmn:=hw.lt hm;have Wk:=hw.lt hnb;obtain⟨es,uj⟩:∃es,tV b=es:=⟨_,rfl⟩;have hel:es.length=(bg b).length:=by rw[<-uj,O0]
 have hkeys:es.all (λe=>oS e.1)=true:=by rw[<-uj];exact List.all_eq_true.2 λe he=>by obtain⟨x,_,q⟩:=List.mem_map.1 he;rw[<-q];rfl
 rw[uj]at hm kp;rw[<-hel]at hstep|-;simp[ntmps279,results279];refine AW.seq cc ?_;simp[hnb,hm];refine AW.block (c:=xC (bf [] [] [])) ?_;refine AW.aV cc (λa:List Nat×GH=>⟨[(0,.yl n),(6,.gp H0.next 0)],[],a.2⟩) (λa=>Fa es.length (λi=>decide (i∈a.1)))
  (λa=>a.1.Nodup/\(∀i∈a.1,i<es.length)/\J a.1 (GQ m es a.1) a.2) ([],H0.add (GQ m es [])) ⟨⟨by simp,by simp,h0 _⟩,by simp[GQ]⟩ ?_
 rintro⟨seen,H2⟩ ⟨s1,s2,hj⟩;simp only at s1 s2 hj;obtain⟨b1,oi,om⟩:=kp _ _ _ hj;simp;refine ST.next (n:=H0.next) (m:=m) (seen:=seen) (es:=es) (by simp) oi om (by simp) rfl rfl hkeys (λi e he hi=>?_) (λhend=>?_)
 ·have hi':=(List.getElem?_eq_some_iff.1 he).1;have hj3:=hst _ _ (GQ m es (seen++[i])) _ hj;obtain⟨k,hk,rfl⟩:=O1 (by rw[uj];exact he)
  simp;refine ST.entry (n:=H0.next) (m:=m) (seen:=seen++[i]) (es:=es) (i:=i) (e:=_) (by simp) (by rw[GH.aY]) (by rw[GH.ay,if_neg (by omega)];exact om) (by simp) rfl hkeys (by simp) he ?_
  obtain⟨H3,vl⟩:∃H3,H2.set H0.next (GO.iter m es.length (seen++[i]) es.length)=H3:=⟨_,rfl⟩;rw[show H2.set H0.next (GQ m es (seen++[i]))=H3 from vl]at hj3
  have hy:=ei.T7 λhz=>hstep seen i k _ H3 hk hi s2 hz hj3
  have dK:(seen++[i]).Nodup:=by
   rw[List.nodup_append];exact⟨s1,by simp,λa ha b hb=>by simp at hb;subst hb;intro q;subst q;exact hi ha⟩
  have Jv:Fa es.length (λj=>decide (j∈seen++[i]))<Fa es.length (λj=>decide (j∈seen)):=by
   have:=qW (n:=es.length) (M:=λj=>decide (j∈seen)) hi' (by simpa using hi)
   have e2:ga (λj=>decide (j∈seen)) i=λj=>decide (j∈seen++[i]):=by
    funext j;simp only[ga];by_cases q:j=i<;>simp[q]
   rw[e2]at this;exact this
  have hall:∀j∈seen++[i],j<es.length:=λj hj=>by
   rcases List.mem_append.1 hj with q|q
   ·exact s2 j q
   ·simp at q;subst q;exact hi'
  simp[vl,oT];refine EY.of hy (λv H4 hR=>?_) (λx H4 hR=>by obtain⟨q,_⟩:=hR;cases q)
  obtain⟨q,hj4⟩:=hR;cases q;simp;exact NX.go (seen++[i],H4) Jv ⟨dK,hall,hj4⟩ (by simp[GQ])
 ·simp;exact λhz=>⟨H2,hz.drop (by omega),seen,s1,s2,by simpa using hend,_,hj⟩
end Go.Aft
end
