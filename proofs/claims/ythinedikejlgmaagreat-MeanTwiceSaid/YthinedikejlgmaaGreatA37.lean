import Derived.Test.YthinedikejlgmaaGreatA36
import Derived.Test.YthinedikejlgmaaGreatA35
set_option linter.all false
section
set_option maxRecDepth 20000
namespace Go.Aft
open Go.Proofs.Tryz
theorem Dg.mono{H H':GH}{n ns nv:Nat}{p:Prog}{W:bZ}(h:Dg H n ns nv p W)(hw:gU H)(ho:∀m,m<H.next->H'.obj m=H.obj m):Dg H' n ns nv p W:=by
 obtain⟨ob,os,ov,dl,sl_⟩:=h;exact⟨by rw[ho _ (hw.lt ob)];exact ob,by rw[ho _ (hw.lt os)];exact os,by rw[ho _ (hw.lt ov)];exact ov,dl,sl_⟩
theorem HT{H:GH}{n ns nv:Nat}{p:Prog}{W:bZ}(hW:Dg H n ns nv p W)(e:bz)(ks:List cg)(hop:e.op=1)(he:0<=idx p.az e.name):
  aG prog 144 [.gp n 0,lv (aS e),eA ks] H λce H'=>ce=.ret (sl ((W.az.getD (idx p.az e.name).toNat []).map ak))/\H'=H:=by
 have cc:=au (p:=bf [4] [] []);obtain⟨ob,os,ov,dl,sl_⟩:=hW;refine aG.bG (au (p:=bf [4] [] [])) func144 rfl call144 (by rw[ntmps144];simp) rfl λhf hw=>?_
 have hin:=kQ p.az e.name;simp at hin;simp[ntmps144,results144,aj,hop];refine AW.draw cc [(11,.n)] (.q 0<|.q 1<|.q 2<|.q 4<|.q 5<|.q 6<|.q 7<|.q 9<|.q 3<|.q 8<|.q 10<|.q 11<|.q 12<|.q 13<|.q 14<|.done) (by kernel_rfl) ?_
 have hlt:=oc p.az e.name;have Mu:max (idx p.az e.name) 0=idx p.az e.name:=by omega
 have jm:(idx p.az e.name).toNat<W.az.length:=by omega
 have hlt3:idx p.az e.name<W.az.length:=by omega
 simp[ob,aj];refine FC.aJ hin ?_;simp[ob,he,jm,hlt3,Mu,bY,List.getElem?_eq_getElem jm];exact λhz=>bI hz
theorem HS{H:GH}{n ns nv:Nat}{p:Prog}{W:bZ}(hW:Dg H n ns nv p W)(h6:p.ai.length<=6)(e:bz)(ks:List cg)(hop:e.op=2)(he:0<=idx (an p) e.name):
  aG prog 144 [.gp n 0,lv (aS e),eA ks] H λce H'=>ce=.ret (sl ((W.ai.getD (idx (an p) e.name).toNat []).map ak))/\H'=H:=by
 have cc:=au (p:=bf [4] [] []);obtain⟨ob,os,ov,dl,sl_⟩:=hW;refine aG.bG (au (p:=bf [4] [] [])) func144 rfl call144 (by rw[ntmps144];simp) rfl λhf hw=>?_
 have hin:=kQ (an p) e.name;have hdn:=jx p h6;simp[ar]at hin hdn;simp[ntmps144,results144,aj,hop];refine AW.draw cc [(8,.n),(11,.n)] (.q 0<|.q 1<|.q 2<|.q 4<|.q 5<|.q 6<|.q 9<|.q 3<|.q 7<|.q 8<|.q 10<|.q 11<|.q 12<|.q 13<|.q 14<|.done) (by kernel_rfl) ?_
 have hlt:(idx (an p) e.name).toNat<W.ai.length:=by
  have:=oc (an p) e.name;have h2:(an p).length=p.ai.length:=by simp[an]
  omega
 have Mu:max (idx (an p) e.name) 0=idx (an p) e.name:=by omega
 have jm:idx (an p) e.name<W.ai.length:=by omega
 simp[ob,ov,aj];refine FC.aJ hdn ?_;simp[ob,ov,aj];refine FC.aJ hin ?_;simp[ob,ov,Mu,hlt,jm,he,b9,List.getElem?_eq_getElem hlt];exact λhz=>bI hz
theorem HR{H:GH}{n ns nv:Nat}{p:Prog}{W:bZ}(hW:Dg H n ns nv p W)(h6:p.ai.length<=6)(e:bz)(ks:List cg)(hop:e.op=3)(he:0<=idx (an p) e.name)(hn:-50<=e.n/\e.n<=50)(hb:∀b∈W.ai,bB b):
  aG prog 144 [.gp n 0,lv (aS e),eA ks] H λce H'=>ce=.ret (sl ((dP e.n (W.ai.getD (idx (an p) e.name).toNat [])).map ak))/\H'=H:=by
 have cc:=au (p:=bf [4] [] []);obtain⟨ob,os,ov,dl,sl_⟩:=hW;refine aG.bG (au (p:=bf [4] [] [])) func144 rfl call144 (by rw[ntmps144];simp) rfl λhf hw=>?_
 have hin:=kQ (an p) e.name;have hdn:=jx p h6;simp[ar]at hin hdn;simp[ntmps144,results144,aj,hop];refine AW.draw cc [(8,.n),(11,.n),(16,.n)] (.q 0<|.q 1<|.q 2<|.q 4<|.q 5<|.q 6<|.q 9<|.q 14<|.q 3<|.q 7<|.q 8<|.q 10<|.q 11<|.q 12<|.q 13<|.q 15<|.q 16<|.q 17<|.done) (by kernel_rfl) ?_
 have hlt:(idx (an p) e.name).toNat<W.ai.length:=by
  have:=oc (an p) e.name;have h2:(an p).length=p.ai.length:=by simp[an]
  omega
 have Mu:max (idx (an p) e.name) 0=idx (an p) e.name:=by omega
 have jm:idx (an p) e.name<W.ai.length:=by omega
 obtain⟨b,WA⟩:∃b,W.ai[(idx (an p) e.name).toNat]=b:=⟨_,rfl⟩;have QI:bB b:=hb b (WA▸List.getElem_mem hlt);have hl:=xV b e.n (by have:=QI.2.1;omega) (λx hx=>by have:=(QI.2.2 x hx).1;omega) hn
 simp at hl;simp[ob,ov,aj];refine FC.aJ hdn ?_;simp[ob,ov,aj];refine FC.aJ hin ?_;simp[ob,ov,Mu,hlt,jm,he,b9,List.getElem?_eq_getElem hlt,WA,aj];refine FC.aJ hl ?_;simp;exact λhz=>⟨bI hz,by rw[List.getElem?_eq_getElem hlt,WA];rfl⟩
theorem HQ(n:Nat)(e:bz)(a b:cg)(hop:e.op=4)(ha:a.length<=300)(hb:b.length<=300):aC prog 144 [.gp n 0,lv (aS e),eA [a,b]] (sl ((a++b).map ak)):=by
 intro H;have cc:=au (p:=bf [4] [] []);refine aG.bG (au (p:=bf [4] [] [])) func144 rfl call144 (by rw[ntmps144];simp) rfl λhf hw=>?_
 simp[ntmps144,results144,aj,hop,eA,bY];refine AW.draw cc [(2,.n),(6,.n)] (.q 0<|.q 1<|.q 2<|.q 4<|.q 5<|.q 6<|.f<|.one 3<|.f<|.one 7<|.q 8<|.done) (by kernel_rfl) ?_
 simp[bY];refine eO.ah4 (ys:=a.map ak) (H0:=H) (rows:=[]) (x:=.d (.k (.slice none 0 0))) fk (.inr rfl) rfl dZ (by simp) (by simp) cu.nil (by simp[rowsOf]) (by simp) (by simp) (λr hr=>by obtain⟨_,_,rfl⟩:=List.mem_map.1 hr;rfl) (by simp;omega) (by simp) λx1 H1 h1 _ _=>?_
 simp[h1.plain.all];refine eO.ah4 (ys:=b.map ak) fk (.inr rfl) rfl dZ (by simp) (x:=x1) (by simp[h1.plain.un]) h1 (by simp[rowsOf]) (by simp) (by simp) (λr hr=>by obtain⟨_,_,rfl⟩:=List.mem_map.1 hr;rfl) (by simp;omega) (by simp) λx2 H2 h2 _ _=>?_
 simp[h2.plain.all];exact λhz=>⟨H,aL h2.nx h2.ob hw.none,by rw[h2.fz];trivial,by rw[h2.fz];simp,rfl⟩
theorem HP(n:Nat)(e:bz)(a:cg)(hop:e.op=7)(ha:bB a)(hn:-50<=e.n/\e.n<=50):aC prog 144 [.gp n 0,lv (aS e),eA [a]] (sl ((dP e.n a).map ak)):=by
 refine aC.body (au (p:=bf [4] [] [])) func144 rfl call144 (by rw[ntmps144];simp) rfl λhf H=>?_
 have cc:=au (p:=bf [4] [] []);have hl:=xV a e.n (by have:=ha.2.1;omega) (λx hx=>by have:=(ha.2.2 x hx).1;omega) hn
 simp at hl;simp[ntmps144,results144,aj,hop,eA,bY];refine AW.draw cc [(5,.n)] (.q 0<|.q 1<|.q 3<|.q 2<|.q 4<|.q 5<|.q 6<|.done) (by kernel_rfl) ?_
 simp[bY,aj];refine FC.aJ hl ?_;simp
theorem nB.ok{x:Item}(h:nB x):C6 x:=⟨⟨by have:=h.2.2.2.1;omega,h.2.2.2.2⟩,h.2.2.1⟩
theorem HO(n:Nat)(e:bz)(a:cg)(hop:e.op=8\/ e.op=9\/ e.op=10)(ha:bB a)(hn:0<=e.n/\e.n<=1000)(h8:e.op=8->1<=e.n)(YP:1<=e.fold/\e.fold<=4):aC prog 144 [.gp n 0,lv (aS e),eA [a]] (sl ((eD (ja e.fold 0 (Rc e.op e.n) a) a).map ak)):=by
 refine aC.body (au (p:=bf [4] [] [])) func144 rfl call144 (by rw[ntmps144];simp) rfl λhf H=>?_
 have cc:=au (p:=bf [4] [] []);have hl:=HU e a hop hn h8 YP (by have:=ha.2.1;omega) (λx hx=>by have:=ha.2.2 x hx;exact⟨this.1.1,this.1.2,this.ok⟩)
 simp[aj]at hl;rcases hop with q|q|q
 all_goals
  simp[ntmps144,results144,aj,q,eA,bY];refine AW.draw cc [(4,.n)] (.q 1<|.q 2<|.q 0<|.q 3<|.q 4<|.q 5<|.done) (by kernel_rfl) ?_
  simp[aj,bY];rw[q]at hl;refine FC.aJ hl ?_;simp[q]
theorem Fu(n:Nat)(e:bz)(a:cg)(q:e.op=11)(ha:bB a)(hn:0<=e.n/\e.n<=1000)(YP:1<=e.fold/\e.fold<=4):aC prog 144 [.gp n 0,lv (aS e),eA [a]] (sl ((eD (ja e.fold e.n (iK e.n) a) a).map ak)):=by
 refine aC.body (au (p:=bf [4] [] [])) func144 rfl call144 (by rw[ntmps144];simp) rfl λhf H=>?_
 have cc:=au (p:=bf [4] [] []);have hl:=HL e a hn YP (by have:=ha.2.1;omega) (λx hx=>by have:=ha.2.2 x hx;exact⟨this.1.1,this.1.2,this.ok⟩)
 simp[aj,q]at hl;simp[ntmps144,results144,aj,q,eA,bY];refine AW.draw cc [(4,.n)] (.q 1<|.q 2<|.q 0<|.q 3<|.q 4<|.q 5<|.done) (by kernel_rfl) ?_
 simp[aj,bY];refine FC.aJ hl ?_;simp
theorem Ft(n:Nat)(e:bz)(a b:cg)(c:bh)(q:e.op=12)(ha:bB a)(hb:bB b)(hn:-50<=e.n/\e.n<=50)(hc:e.aD[0]?=some c)(hv:vn c):aC prog 144 [.gp n 0,lv (aS e),eA [a,b]] (sl ((a.flatMap (jA e.n c b)).map ak)):=by
 refine aC.body (au (p:=bf [4] [] [])) func144 rfl call144 (by rw[ntmps144];simp) rfl λhf H=>?_
 have cc:=au (p:=bf [4] [] []);have hl:=HM e c a b hn hc hv ha.2.1 hb.2.1 ha.2.2 hb.2.2;simp[aj,q]at hl;simp[ntmps144,results144,aj,q,eA,bY];refine AW.draw cc [(7,.n)] (.q 1<|.q 2<|.q 4<|.q 5<|.q 0<|.q 3<|.q 6<|.q 7<|.q 8<|.done) (by kernel_rfl) ?_
 simp[aj,bY];refine FC.aJ hl ?_;simp
theorem V2{α:Type}:∀{l:List α},0<l.length->∃b t,l=b::t
 |b::t,_=>⟨b,t,rfl⟩
 |[],h=>absurd h (by simp)
theorem WH{op:Int}{name:cq}{n fold:Int}{nc nk:Nat}(h:hU op name n fold nc nk=true)(q:op=8\/ op=9\/ op=10\/ op=11):1<=fold/\fold<=4:=by
 unfold hU at h;rcases q with rfl|rfl|rfl|rfl
 all_goals
  simp[bK]at h;omega
theorem Lq{H:GH}{n ns nv:Nat}{p:Prog}{W:bZ}(hW:Dg H n ns nv p W)(h6:p.ai.length<=6)(hd:∀b∈W.ai,bB b)(e:bz)(he:qv p e)(ks:List cg)(hk:ks.length=e.kids.length)(hks:∀b∈ks,bB b):
  aG prog 144 [.gp n 0,lv (aS e),eA ks] H λce H'=>ce=.ret (sl ((mL p W e.op e.name e.n e.fold e.aD ks).map ak))/\H'=H:=by
 obtain⟨x,h1,h2,h3,h4,h5⟩:=ru he.ok;have hop:1<=e.op/\e.op<=15:=Classical.byContradiction λhn=>by
  unfold bK at h1
  repeat (rw[if_neg (by omega)]at h1)
  cases h1
 have hcs:=he.cs;have hfo:=WH he.ok;have hnm:=he.nm;have hdf:=he.df;have hx:=h1;obtain⟨o,ho⟩:∃o,e.op=o:=⟨_,rfl⟩;rw[ho]at h1 hnm hdf hfo hop;have qb:o=1\/ o=2\/ o=3\/ o=4\/ (o=5\/ o=6\/ o=13\/ o=14\/ o=15)\/ o=7\/ (o=8\/ o=9\/ o=10)\/ o=11\/ o=12:=by omega
 rcases qb with q|q|q|q|q|q|q|q|q
 ·rw[q]at hnm;rw[ho,q];exact HT hW e ks (ho.trans q) (hnm rfl)
 ·rw[q]at hdf;rw[ho,q];exact HS hW h6 e ks (ho.trans q) (hdf (.inl rfl))
 ·subst q;simp[bK]at h1;subst h1;rw[ho];exact HR hW h6 e ks ho (hdf (.inr rfl)) (by simp only at h4 h5;omega) hd
 ·subst q;simp[bK]at h1;subst h1;simp only at h2;obtain⟨a,b,rfl⟩:=um (l:=ks) (by omega)
  rw[ho];exact HQ n e a b ho (hks a (by simp)).2.1 (hks b (by simp)).2.1 H
 ·obtain⟨k,jo⟩:∃a kr,ks=a::kr:=by
   cases ks with
   |cons a kr=>exact⟨a,kr,rfl⟩
   |nil=>
    rcases q with rfl|rfl|rfl|rfl|rfl
    all_goals
     simp[bK]at h1;subst h1;simp only[List.length_nil]at h2 hk;omega
  obtain⟨kr,rfl⟩:=jo;rw[ho,L1 p W e.name e.n e.fold e.aD k kr q,<-ho];rw[<-ho]at q;refine HN n e k kr q ?_ hcs ?_ ?_ (hks k (by simp)) (λb hb=>hks b (by simp[hb])) H
  all_goals
   rw[ho]at q;rcases q with rfl|rfl|rfl|rfl|rfl
   all_goals
    simp[bK]at h1;subst h1;simp only[List.length_cons]at h2 h3 h4 h5 hk
    first
    |omega
    |(refine⟨λ_=>?_,λ_=>?_⟩<;>omega)
    |(intro w;rw[ho]at w;exact V2 (by omega))
 ·subst q;simp[bK]at h1;subst h1;simp only at h2 h4 h5;obtain⟨a,rfl⟩:=jI (l:=ks) (by omega)
  rw[ho];exact HP n e a ho (hks a (by simp)) (by omega) H
 ·obtain⟨a,rfl⟩:=jI (l:=ks) (by
   rcases q with rfl|rfl|rfl
   all_goals
    simp[bK]at h1;subst h1;simp only at h2;omega)
  have hq:=ho▸q;have h8:=HO n e a hq (hks a (by simp)) (by
   rcases q with rfl|rfl|rfl
   all_goals
    simp[bK]at h1;subst h1;simp only at h4 h5;omega) (λw=>by
   rw[ho]at w;subst w;simp[bK]at h1;subst h1;simp only at h4 h5;omega) (hfo (by omega)) H
  rw[ho]at h8|-;rcases q with rfl|rfl|rfl
  ·exact h8
  ·exact h8
  ·exact h8
 ·subst q;simp[bK]at h1;subst h1;simp only at h2 h4 h5;obtain⟨a,rfl⟩:=jI (l:=ks) (by omega)
  rw[ho];exact Fu n e a ho (hks a (by simp)) (by omega) (hfo (by omega)) H
 ·subst q;simp[bK]at h1;subst h1;simp only at h2 h3 h4 h5;obtain⟨a,b,rfl⟩:=um (l:=ks) (by omega)
  obtain⟨c,hc⟩:=xK (l:=e.aD) (by omega)
  have:=Ft n e a b c ho (hks a (by simp)) (hks b (by simp)) (by omega) (by rw[hc];rfl) (hcs c (by rw[hc];simp)) H
  rw[ho,hc];exact this
def EvR(o:Option cg)(H:GH)(ce:CE)(H':GH):Prop:=H'=H/\match o with
 |some b=>ce=.ret (.dh [b9 b,.d (.k (.bool true))])
 |none=>∃v:DV,ce=.ret (.dh [.d v,.d (.k (.bool false))])
theorem Td(p:Prog)(W:bZ)(top:Int)(e:bz):qH p W top e=match eb (qH p W top) e.kids with
  |none=>none
  |some ks=>if gZ (b6 (mL p W e.op e.name e.n e.fold e.aD ks) top)then some (b6 (mL p W e.op e.name e.n e.fold e.aD ks) top)else none:=by
 have hs:∀l:List bz,sB p W top l=eb (qH p W top) l:=λl=>by
  induction l with
  |nil=>rw[sB,eb]
  |cons e es ih=>
   rw[sB,eb];cases qH p W top e with
   |none=>rfl
   |some b=>simp only[ih];rfl
 obtain⟨op,name,n,fold,aD,kids⟩:=e;rw[qH,hs];rfl
theorem qv.bi3{p:Prog}{x:bz}(h:qv p x):(x.op=8->1<=x.n)/\(x.op=11->0<=x.n):=by
 obtain⟨s,q1,q2,q3,q4,q5⟩:=ru h.ok;refine⟨λq=>?_,λq=>?_⟩
 all_goals
  rw[q]at q1;simp[bK]at q1;subst q1;simp only at q4;omega
theorem iP.same{p:Prog}{e:bz}(h:iP p e)(W:bZ)(top:Int):qH p W top e=cZ p W top e:=(EB e λx hx=>(h x hx).bi3).1
theorem Tt(l:List Item)(t:Int):qn 0 t (nw l)=b6 l t:=by
 refine wA ((pn l).filter _) (λx hx=>(jJ.1 (List.mem_filter.1 hx).1).1) λr=>?_
 unfold qn;rw[fB _ (λr=>decide (0<=r.at_/\r.at_<=t)) (λ_=>rfl),fB _ (λr=>decide (0<=r.at_/\r.at_<=t)) (λ_=>rfl),Cf]
theorem MJ(gen:Item->Option Rec):∀b:List Item,∀x∈eD gen b,x.n=1:=by
 refine iI (λx h=>absurd h List.not_mem_nil) λb y ih x hx=>?_
 rw[kY]at hx
 split at hx
 ·exact ih x hx
 ·split at hx
  ·exact ih x hx
  ·rcases List.mem_append.1 hx with q|q
   ·exact ih x q
   ·rw[List.mem_singleton.1 q]
theorem Pg(p:Prog)(W:bZ){op:Int}(name:cq)(n f:Int)(cs:List bh){ks:List cg}(hk:∀b∈ks,jP b)(hop:¬(op=8\/ op=9\/ op=10\/ op=11)):mL p W op name n f cs ks=gu p W op name n f cs ks:=by
 have k1:=zx hk 1;have t1:=th k1.1;unfold mL gu;simp only;have e8:¬op=8:=by omega
 have e9:¬op=9:=by omega
 have WW:¬op=10:=by omega
 have e11:¬op=11:=by omega
 simp only[if_neg e8,if_neg e9,if_neg WW,if_neg e11,zk t1,zK t1,NF t1];have e:uo (cs.getD 0 default) (ks.getD 1 [])=wB (cs.getD 0 default) (ks.getD 1 []):=by
  funext x
  rw[uo,wB,Ja x.aa _ k1.1 k1.2];cases(dN (ks.getD 1 []) x.aa.key 0 x.aa.at_).getLast? <;>rfl
 rw[e]
theorem bB.T8{b:cg}(h:bB b):jP b:=⟨h.1,λx hx=>(h.2.2 x hx).1.1⟩
theorem IA{p:Prog}{W:bZ}(hs:∀b∈W.az,bB b)(hd:∀b∈W.ai,bB b)(e:bz)(he:qv p e)(ks:List cg)(hk:ks.length=e.kids.length)(hks:∀b∈ks,bB b):
  (mL p W e.op e.name e.n e.fold e.aD ks).length<=90000/\∀x∈mL p W e.op e.name e.n e.fold e.aD ks,1<=x.n/\x.n<=1000000000000:=by
 by_cases hop:e.op=8\/ e.op=9\/ e.op=10\/ e.op=11
 ·have hg:∀i,(ks.getD i []).length<=300:=λi=>by
   rw[List.getD_eq_getElem?_getD];cases q:ks[i]? with
   |none=>simp
   |some b=>exact(hks b (List.mem_of_getElem? q)).2.1
  have hl:∀gen,(eD gen (ks.getD 0 [])).length<=90000:=λgen=>by
   have:=uU gen (ks.getD 0 []);have:=hg 0;omega
  have h1:∀gen,∀x∈eD gen (ks.getD 0 []),1<=x.n/\x.n<=1000000000000:=λgen x hx=>by rw[MJ gen _ x hx];omega
  have hg:∃gen,mL p W e.op e.name e.n e.fold e.aD ks=eD gen (ks.getD 0 []):=by
   rcases hop with q|q|q|q
   ·exact⟨ja e.fold 0 (xw e.n) (ks.getD 0 []),by rw[q];rfl⟩
   ·exact⟨ja e.fold 0 (wM e.n) (ks.getD 0 []),by rw[q];rfl⟩
   ·exact⟨ja e.fold 0 wK (ks.getD 0 []),by rw[q];rfl⟩
   ·exact⟨ja e.fold e.n (iK e.n) (ks.getD 0 []),by rw[q];rfl⟩
  obtain⟨gen,F7⟩:=hg;rw[F7];exact⟨hl gen,h1 gen⟩
 ·rw[Pg p W e.name e.n e.fold e.aD (λb hb=>(hks b hb).T8) hop]
  have:=xL hs hd e he ks hk hks;exact⟨this.1,λx hx=>(this.2 x hx).1⟩
theorem uA{p:Prog}{W:bZ}(h6:p.ai.length<=6)(hs:∀b∈W.az,bB b)(hd:∀b∈W.ai,bB b){n ns nv:Nat}{top:Int}(ht:top<=200):∀(N:Nat) (e:bz),SizeOf.sizeOf e<N->iP p e->∀H,Dg H n ns nv p W->
  aG prog 81 [.gp n 0,lv (aS e),aH top] H (EvR (cZ p W top e) H)
 |0,e,h,_,_,_=>absurd h (by omega)
 |N+1,e,h,he,H,hW=>by
  have cc:=au (p:=bf [4] [] []);refine aG.bG (au (p:=bf [4] [] [])) func81 rfl call81 (by rw[ntmps81];simp) rfl λhf hw=>?_
  have hnl:=hw.lt hW.ob;obtain⟨x,h1,h2,h3,h4,h5⟩:=ru he.self.ok;have hop:1<=e.op/\e.op<=15:=Classical.byContradiction λhn=>by
   unfold bK at h1
   repeat (rw[if_neg (by omega)]at h1)
   cases h1
  have jo:e.kids.length<=1000:=by
   have:=z8 h1 hop;omega
  rw[<-he.same,Td];simp[ntmps81,results81,aj];refine AW.aV cc (λa:Nat×LV×GH=>⟨[(0,.gp n 0),(2,aH top),(4,.ip ((aS e).map .d) 0),(8,a.2.1),(9,aH a.1)],[],a.2.2⟩) (λa=>e.kids.length-a.1) (λa=>a.1<=e.kids.length/\∃bs,eb (qH p W top) (e.kids.take a.1)=some bs/\cu 30 1 H a.2.1 (bs.map bY) a.2.2) (0,.d (.k (.slice none 0 0)),H) ⟨⟨by simp,[],by simp[eb],.nil⟩,by simp[aj]⟩ ?_
  rintro⟨i,y,H2⟩ ⟨hi,bs,v8,aA⟩;simp only at hi v8 aA;simp[aj];refine⟨λh=>?_,λh=>?_⟩
  ·obtain⟨k,hke⟩:∃k,e.kids[i]=k:=⟨_,rfl⟩;have hkm:k∈e.kids:=hke▸List.getElem_mem h;have gx:e.kids.take (i+1)=e.kids.take i++[k]:=by rw[<-aR h,hke]
   have NR:=uA h6 hs hd ht N k (by have:=rY hkm;omega) (he.T8 hkm) H2 (hW.mono hw aA.ob)
   rw[<-(he.T8 hkm).same]at NR;simp[aj]at NR;simp[h,List.getElem?_eq_getElem h,hke,aj];refine⟨by have:=aA.nx;omega,EC.of NR (λv H3 hR=>?_) (λv H3 hR=>?_)⟩
   ·obtain⟨rfl,hR⟩:=hR;cases q:qH p W top k with
    |some b=>
     rw[q]at hR;cases hR;simp[aA.plain.all,b9];have CI:=jf v8;have Wz:bs.length<=1000:=by rw[CI];simp;omega
     refine eO.dU (ys:=[bY b]) Q4 rfl vu (by simp) (x:=y) (by simp) aA (by simp[bY,rowsOf]) (by simp) (AJ _) (λr hr=>by simp only[List.mem_singleton]at hr;subst hr;rfl) (by simp;omega) (by simp) λx' H3 aF _ _=>?_
     simp[aF.plain.all,aF.only,aB (n:=9223372036854775807) (show i<9223372036854775807 by omega)]
     refine NX.go (i+1,x',H3) (by simp only;omega) ⟨h,bs++[b],?_,by rw[List.map_append];exact aF⟩ (by simp[aF.only,aj])
     rw[gx,uE,v8,q]
    |none=>
     rw[q]at hR;obtain⟨v',hR⟩:=hR;cases hR;rw[uF hkm q];simp;exact λhz=>⟨H,aL aA.nx aA.ob hw.none,rfl,.sl [],rfl⟩
   ·obtain⟨rfl,hR⟩:=hR;cases q:qH p W top k with
    |some b=>rw[q]at hR;cases hR
    |none=>rw[q]at hR;obtain⟨v',hR⟩:=hR;cases hR
  ·have:i=e.kids.length:=by omega
   subst this;rw[List.take_length]at v8;rw[v8];have hks:∀b∈bs,bB b:=s9 v8 λx hx b hb=>lZ hs hd ht _ x (Nat.lt_succ_self _) (he.T8 hx) b (by rw[<-(he.T8 hx).same];exact hb)
   have hno:=Lq (hW.mono hw aA.ob) h6 hd e he.self bs (jf v8) hks;have hit:=IA hs hd e he.self bs (jf v8) hks;obtain⟨A,hA⟩:∃A,mL p W e.op e.name e.n e.fold e.aD bs=A:=⟨_,rfl⟩;rw[hA]at hno hit;simp[aj]at hno;have Uf:=HY A (by omega) hit.2
   have Ww:=oG (nw A) 0 top (by have:=Kq A;omega)
   rw[Tt]at Ww;have YO:=Ls (b6 A top);simp[b9]at Uf Ww YO;simp[aA.plain.all];refine⟨⟨by have:=aA.nx;omega,aA.nb⟩,EC.of (aG.SV (by simp only[zz,fz,aA.fz];exact hno)) (λv H3 hR=>?_) (λv H3 hR=>by obtain⟨q,_⟩:=hR;cases q)⟩
   obtain⟨q,rfl⟩:=hR;cases q;simp;refine EC.aJ Uf ?_;simp;refine EC.aJ Ww ?_;simp;refine EC.aJ YO ?_;simp;refine λhz=>⟨H,aL aA.nx aA.ob hw.none,rfl,?_⟩
   rw[hA];cases gZ (b6 A top)with
   |true=>rfl
   |false=>exact⟨_,rfl⟩
def vh(p:Prog)(l:List Event)(H:GH)(ce:CE)(H':GH):Prop:=match dw p l with
 |none=>ce=.ret (.dh [.d (.k (.pointer none)),.d (.k (.bool false))])/\H'=H
 |some ai=>∃n ns nv,ce=.ret (.dh [.gp n 0,.d (.k (.bool true))])/\H.next<=n/\H.next<=nv/\Dg H' n ns nv p ⟨fH p l,ai⟩/\H.next<=H'.next/\(∀m,m<H.next->H'.obj m=H.obj m)/\gU H'
theorem xW(p:Prog)(lW:∀s∈p.az++an p,cN s)(hp:formed p)(l:List Event)(hl:l.length<=60)(hi:∀e∈l,nB ⟨e.aa,1⟩)(H:GH):aG prog 80 [lv (ar p),sl (l.map aQ)] H (vh p l H):=by
 have cc:=au (p:=bf [2] [22] [20]);have g:=fA hp;have fb:=mU hp;have he:∀(d:Nat) (h:d<p.ai.length),iP p p.ai[d].exp:=λd h x hx=>(gq hp h x hx).node
 refine aG.dG (au (p:=bf [2] [22] [20])) func80 rfl call80 (by rw[ntmps80];simp) rfl λhf hw=>?_
 have d6:=fb.d6;have s4:=fb.s4;simp[ntmps80,results80,ar]at hf|-;refine AW.seq cc ?_;simp;refine AW.seq cc ?_;refine AW.draw cc [(0,.n),(2,.n)] (.q 0<|.q 1<|.q 2<|.q 3<|.f<|.one 4<|.q 5<|.f<|.one 6<|.q 7<|.done) (by kernel_rfl) ?_
 simp;obtain⟨n,hn⟩:∃n,p.ai.length=n:=⟨_,rfl⟩;refine⟨by omega,by simp[GH.aq],?_⟩
 rw[hn];obtain⟨G,hG⟩:∃G,((H.add (GO.vec 30 0 1 (jS n [LV.d (DV.k (Value.slice none 0 0))]) true)).add (GO.box [LV.d (DV.sl (List.map rS p.az)),LV.d (DV.sl (List.map fm p.ai)),LV.d (DV.k (Value.slice none 0 0)),LV.vs H.next 0 1 0 n]))=G:=⟨_,rfl⟩;rw[hG];have kv:G.obj H.next=some (.vec 30 0 1 (jS n [.d (.k (.slice none 0 0))]) true):=by rw[<-hG];simp[GH.ax,GH.aq]
 have kw:G.obj (H.next+1)=some (.box [sl (p.az.map rS),sl (p.ai.map fm),.d (.k (.slice none 0 0)),.vs H.next 0 1 0 n]):=by rw[<-hG];simp[GH.ax,GH.aq]
 have kn:G.next=H.next+2:=by rw[<-hG];simp[GH.aq]
 have kl:∀m,m<H.next->G.obj m=H.obj m:=λm hm=>by
  rw[<-hG,GH.ax,if_neg (by rw[GH.aq];omega),GH.ax,if_neg (by omega)]
 refine AW.YW H.next kv ?_;obtain⟨G0,MF⟩:∃G0,G.set H.next (.vec 30 0 1 (zz (jS n [.d (.k (.slice none 0 0))])) true)=G0:=⟨_,rfl⟩;have hfz:=Dy n;rw[hfz]at MF;rw[hfz];simp only[LS.CP];rw[show(G.set H.next (.vec 30 0 1 ((List.replicate n ([]:cg)).map b9) true))=G0 from MF]
 have e0:G0.next=H.next+2:=by rw[<-MF,GH.aM];exact kn
 have cv:G0.obj H.next=some (.vec 30 0 1 ((List.replicate n ([]:cg)).map b9) true):=by rw[<-MF,GH.aY]
 have cw:G0.obj (H.next+1)=some (.box [sl (p.az.map rS),sl (p.ai.map fm),.d (.k (.slice none 0 0)),.vs H.next 0 1 0 n]):=by rw[<-MF,GH.ay,if_neg (by omega)];exact kw
 have cl:∀m,m<H.next->G0.obj m=H.obj m:=λm hm=>by rw[<-MF,GH.ay,if_neg (by omega)];exact kl m hm
 clear kv kw kn kl MF hG hfz
 have hwr:=λi:Nat=>λ(q:i<1000)=>aB (n:=9223372036854775807) (show i<9223372036854775807 by omega)
 obtain⟨S,hS⟩:∃S,fH p l=S:=⟨_,rfl⟩;have hSl:S.length=p.az.length:=by rw[<-hS];simp[fH]
 have ME:∀b∈S,bB b:=λb hb=>by
  rw[<-hS]at hb;obtain⟨i,_,rfl⟩:=List.mem_map.1 hb;exact sY hl hi (i:Nat)
 refine AW.seq cc ?_;simp[ar];refine AW.aV cc (λa:Nat×LV×GH=>⟨[(1,sl (l.map aQ)),(2,.ip ((ar p).map .d) 0),(6,.gp (H.next+1) 0),(7,aH a.1)],[],a.2.2⟩) (λa=>p.az.length-a.1)
  (λa=>a.1<=p.az.length/\cu 30 1 H a.2.1 ((S.take a.1).map bY) a.2.2/\H.next+2<=a.2.2.next/\a.2.2.obj (H.next+1)=some (.box [sl (p.az.map rS),sl (p.ai.map fm),a.2.1,.vs H.next 0 1 0 n])/\a.2.2.obj H.next=some (.vec 30 0 1 ((List.replicate n ([]:cg)).map b9) true))
  (0,.d (.k (.slice none 0 0)),G0) ⟨⟨Nat.zero_le _,?_,by rw[e0];exact Nat.le_refl _,cw,cv⟩,by simp[ar,GH.aq]⟩ ?_
 ·exact⟨.inl ⟨rfl,rfl⟩,by simp only;omega,cl⟩
 rintro⟨i,y,G1⟩ ⟨Ef,aA,gn,gw,gv⟩;simp only at Ef aA gn gw gv;simp[ar];have Jq:∀b,y≠ .lF (H.next+1) b/\y≠ .lF H.next b:=λb=>by
  rcases aA.is with⟨_,q⟩|⟨m,q1,q2,q3,q4⟩
  ·rw[q];exact⟨by simp,by simp⟩
  ·rw[q3];refine⟨λe=>?_,λe=>?_⟩
   ·cases e;rw[gw]at q4;cases q4
   ·cases e;rw[gv]at q4;cases q4
 refine⟨λh=>?_,λh=>?_⟩
 ·have hsb:lN l i=nw (fN l i):=by
   unfold lN b6;rw[List.filter_eq_self.2];intro x hx;obtain⟨e,he,_,rfl⟩:=Dw hx;have h5:=(hi e he).1;simpa using h5
  have h2:=Fv l i (by omega)
  rw[<-hsb]at h2;have hSi:S[i]?=some (lN l i):=by rw[<-hS];simp[fH,h]
  simp at h2;refine AW.draw cc [(7,.n)] (.q 0<|.q 1<|.q 2<|.q 3<|.q 5<|.q 6<|.q 7<|.q 8<|.q 4<|.f<|.one 9<|.q 10<|.q 11<|.f<|.one 12<|.done) (by kernel_rfl) ?_
  simp;refine FC.aJ h2 ?_;simp[gw,aA.plain.all,b9];refine eO.dU (ys:=[bY (lN l i)]) Q4 rfl vu (by simp) (x:=y) (by simp) aA (by simp[bY,rowsOf]) (by simp) (AJ _) (λr hr=>by simp only[List.mem_singleton]at hr;subst hr;rfl) (by simp;omega) (by simp) λx' H3 aF hn3 ho3=>?_
  simp only at hn3 ho3;have gw3:=(ho3 (H.next+1) (by omega) λr=>(Jq r).1).trans gw
  have gv3:=(ho3 H.next (by omega) λr=>(Jq r).2).trans gv
  simp[aF.plain.all,gw3];have gx:(S.take i).map bY++[bY (lN l i)]=(S.take (i+1)).map bY:=by
   rw[List.take_succ,hSi,List.map_append];rfl
  rw[gx]at aF;refine⟨aF.nb,NX.go (i+1,x',H3.set (H.next+1) (.box [sl (p.az.map rS),sl (p.ai.map fm),x',.vs H.next 0 1 0 n])) (by simp only;omega) ⟨h,⟨?_,by rw[GH.aM];exact aF.nx,λm hm=>by rw[GH.ay,if_neg (by omega)];exact aF.ob m hm⟩,by rw[GH.aM];omega,by rw[GH.aY],by rw[GH.ay,if_neg (by omega)];exact gv3⟩ (by simp[hwr i (by omega),ar])⟩
  rcases aF.is with q|⟨k,q1,q2,q3,q4⟩
  ·exact .inl q
  ·exact .inr ⟨k,q1,by rw[GH.aM];exact q2,q3,by rw[GH.ay,if_neg (λe=>by rw[e,gw3]at q4;cases q4)];exact q4⟩
 ·have:i=p.az.length:=by omega
  subst this;rw[List.take_of_length_le (by omega)]at aA
  have hs1:=fb.s1;obtain⟨ns,b1,b2,rfl,b4⟩:∃ns,H.next<=ns/\ns<G1.next/\y=.lF ns (S.map bY)/\G1.obj ns=some (.arr 30 1 (S.map bY).length):=by
   rcases aA.is with⟨q,_⟩|⟨ns,q1,q2,q3,q4⟩
   ·have:=congrArg List.length q;simp only[List.length_map,List.length_nil]at this;omega
   ·exact⟨ns,q1,q2,q3,q4⟩
  have ac0:ns≠H.next:=λe=>(Jq (S.map bY)).2 (by rw[e])
  have bK2:ns≠H.next+1:=λe=>(Jq (S.map bY)).1 (by rw[e])
  obtain⟨GG,NY⟩:∃GG:List cg->GH,GG=λai=>G1.set H.next (.vec 30 0 1 (ai.map b9) true):=⟨_,rfl⟩
  have hW:∀ai:List cg,ai.length=n->Dg (GG ai) (H.next+1) ns H.next p ⟨S,ai⟩:=λai nr=>by
   rw[NY];refine⟨?_,?_,?_,by rw[hn];exact nr,hSl⟩
   ·simp only[nr];rw[GH.ay,if_neg (by omega)];exact gw
   ·rw[GH.ay,if_neg ac0];simpa using b4
   ·exact GH.aY
  have oL:∀ai m,m<H.next->(GG ai).obj m=H.obj m:=λai m hm=>by rw[NY];simp only;rw[GH.ay,if_neg (by omega)];exact aA.ob m hm
  have oN:∀ai,(GG ai).next=G1.next:=λai=>by rw[NY];rfl
  have ae4:GG (List.replicate n [])=G1:=by rw[NY];exact GH.iX gv
  have h3:=xY p g.n6 λd hd=>Nat.le_trans (g.len d hd) (by omega)
  rw[Hp g]at h3;have h4:=tX p (Lc p) (pJ p) g.n6 (Ni g) (Nh g) h3;rw[AH g]at h4;have ht:∀i j k,aZ p i j=true->aZ p j k=true->aZ p i k=true:=λi j k h1 h2=>fp h1 h2
  have h2:=CQ p p.ai.length (aZ p) rfl g.n6 ht h4 (xZ g);rw[<-Ry ht]at h2;have hK0:=Mh hp l;rw[hS,hn]at hK0;rw[hn]at h2 h4;have Eh:∀g∈gK n (aZ p),qK p g:=λg hg=>by rw[<-hn]at hg;exact((jj (p:=p) p.ai.length [] (λx hx=>absurd hx List.not_mem_nil)).1 g hg).1
  have aB3:(gK n (aZ p)).length<=6:=Nat.le_trans (qg _ _) (by omega)
  have BB:∀g∈gK n (aZ p),g.length<=6:=λg hg=>by
   have:=dy (Eh g hg).nodup λx hx=>List.mem_range.2 ((Eh g hg).lt hx)
   simp at this;omega
  obtain⟨GS,QJ⟩:∃GS,gK n (aZ p)=GS:=⟨_,rfl⟩;rw[QJ]at h2 hK0 Eh aB3 BB;simp[ar]at h2 h4;refine AW.seq cc ?_;simp[ar];refine EC.aJ h2 ?_;simp;refine AW.seq cc ?_;simp[ar];refine EC.aJ h4 ?_;simp;obtain⟨K,hK⟩:∃K,dw p l=K:=⟨_,rfl⟩;rw[hK]at hK0;refine AW.seq cc ?_;simp;refine AW.aV cc (λa:Nat×List cg=>⟨[(2,.ip ((ar p).map .d) 0),(6,.gp (H.next+1) 0),(8,sl (GS.map rT)),(9,sl ((A8 n (aZ p)).map rR)),(10,aH a.1)],[],GG a.2⟩)
   (λa=>GS.length-a.1) (λa=>a.1<=GS.length/\a.2.length=n/\(∀b∈a.2,bB b)/\qf p S (aZ p) (GS.drop a.1) a.2=K) (0,List.replicate n [])
   ⟨⟨Nat.zero_le _,by simp,λb hb=>by rw[List.eq_of_mem_replicate hb];exact⟨.nil,by simp,by simp⟩,hK0.symm⟩,by simp[ar,ae4]⟩ ?_
  rintro⟨i,ai⟩ ⟨hi1,nr,zd,qR⟩;simp only at hi1 nr zd qR;simp;refine⟨λh=>?_,λh=>?_⟩
  ·obtain⟨gr,hge⟩:∃g,GS[i]=g:=⟨_,rfl⟩;have QH:gr∈GS:=hge▸List.getElem_mem h;have Ei:GS.drop i=gr::GS.drop (i+1):=by rw[List.drop_eq_getElem_cons h,hge]
   rw[Ei,qf]at qR;have hlt:∀k∈gr,k<n:=λk hk=>by rw[<-hn];exact(Eh gr QH).lt hk
   obtain⟨g0,gt,KV⟩:∃a t,gr=a::t:=by
    obtain⟨d,hd,e⟩:=Eh gr QH;cases gr with
    |nil=>have:=fQ (R:=aZ p) hd;rw[<-e]at this;cases this
    |cons a t=>exact⟨a,t,rfl⟩
   have ac8:g0<n:=hlt g0 (by rw[KV];simp)
   have hhd:gr.headD 0=g0:=by rw[KV];rfl
   rw[hhd]at qR;have hgl:=BB gr QH;have bK7:(A8 n (aZ p))[g0]?=some ((List.range n).map λj=>aZ p g0 j):=by simp[A8,ac8]
   have hrow:((List.range n).map λj=>aZ p g0 j)[g0]?=some (aZ p g0 g0):=by simp[ac8]
   simp[h,List.getElem?_eq_getElem h,hge,rT];refine AW.draw cc [] (.q 0<|.q 1<|.q 2<|.q 3<|.q 9<|.q 10<|.q 11<|.q 4<|.q 5<|.q 6<|.q 7<|.q 8<|.q 12<|.q 13<|.q 14<|.q 15<|.q 16<|.done) (by kernel_rfl) ?_
   have hml:(A8 n (aZ p)).length=n:=by simp[A8]
   have hmg:∀q,(A8 n (aZ p))[g0]'q=(List.range n).map λj=>aZ p g0 j:=λq=>by simp[A8]
   simp[h,hge,rT,KV,rI,hml,ac8,rR,rB,hmg];obtain⟨K2,YV⟩:∃K2,BM p S gr (aZ p g0 g0) ai=K2:=⟨_,rfl⟩;have Wp:fV p S 1 gr 202 (if aZ p g0 g0=true then 0 else 200) ai=K2:=by
    rw[<-YV];unfold BM
    split
    ·rfl
    ·rw[fV];cases fq p S 200 gr ai<;>rfl
   rw[YV]at qR;obtain⟨top0,ht0⟩:∃t:Int,t=(if aZ p g0 g0=true then 0 else 200):=⟨_,rfl⟩
   rw[<-ht0]at Wp;have Wf:0<=top0/\top0<=200:=by rw[ht0];split<;>omega
   refine⟨λq=>?_,λq=>?_⟩
   all_goals
    refine AW.aV cc (λa:Nat×Int×List cg=>⟨[(2,.ip ((ar p).map .d) 0),(6,.gp (H.next+1) 0),(8,sl (GS.map rT)),(9,sl ((A8 n (aZ p)).map rR)),(10,aH i),(12,aH a.2.1)],[],GG a.2.2⟩)
     (λa=>a.1) (λa=>0<=a.2.1/\a.2.1<=201/\201-a.2.1<a.1/\a.2.2.length=n/\(∀b∈a.2.2,bB b)/\(a.2.1<=200->fV p S 1 gr (a.1-1) a.2.1 a.2.2=K2)/\(a.2.1=201->some a.2.2=K2)) (203,top0,ai)
     ⟨⟨Wf.1,by simp only;omega,by simp only;omega,nr,zd,λ_=>Wp,λe=>by simp only at e;omega⟩,by simp[ar,ht0,q]⟩ ?_
    rintro⟨f,top,defs1⟩ ⟨ht1,ht2,hf3,PL,Ej,lP,Wq⟩;simp only at ht1 ht2 hf3 PL Ej lP Wq;simp;refine⟨λNH=>?_,λNH=>?_⟩
    ·obtain⟨f,rfl⟩:∃f',f=f'+2:=⟨f-2,by omega⟩
     have lP:=lP NH;rw[show f+2-1=f+1 from rfl,fV]at lP
     obtain⟨K3,hK3⟩:∃K3,fq p S top gr defs1=K3:=⟨_,rfl⟩;rw[hK3]at lP;refine AW.aV cc (λa:Nat×List cg=>⟨[(2,.ip ((ar p).map .d) 0),(6,.gp (H.next+1) 0),(8,sl (GS.map rT)),(9,sl ((A8 n (aZ p)).map rR)),(10,aH i),(12,aH top),(13,aH a.1)],[],GG a.2⟩)
      (λa=>gr.length-a.1) (λa=>a.1<=gr.length/\a.2.length=n/\(∀b∈a.2,bB b)/\fq p S top (gr.drop a.1) a.2=K3) (0,defs1) ⟨⟨Nat.zero_le _,PL,Ej,hK3⟩,by simp[ar]⟩ ?_
     rintro⟨j,defs2⟩ ⟨hj,sj,lQ,hk2⟩;simp only at hj sj lQ hk2;simp[h,List.getElem?_eq_getElem h,hge,rT];refine⟨λJw=>?_,λJw=>?_⟩
     ·obtain⟨d,NU⟩:∃d,gr[j]=d:=⟨_,rfl⟩;have hdm:d∈gr:=NU▸List.getElem_mem Jw;have xl:=(Eh gr QH).lt hdm;have MA:gr.drop j=d::gr.drop (j+1):=by rw[List.drop_eq_getElem_cons Jw,NU]
      rw[MA,fq,tT]at hk2;have ad6:(p.ai.getD d default).exp=p.ai[d].exp:=fS xl;rw[ad6]at hk2;have hex:=uA (W:=⟨S,defs2⟩) d6 ME lQ NH _ p.ai[d].exp (Nat.lt_succ_self _) (he d xl) (GG defs2) (hW defs2 sj);simp[aj]at hex;refine AW.draw cc [] (.q 0<|.q 1<|.q 3<|.q 4<|.q 5<|.q 7<|.q 13<|.q 2<|.q 6<|.q 8<|.q 9<|.q 10<|.q 11<|.q 12<|.f<|.one 14<|.q 15<|.q 16<|.q 17<|.q 18<|.q 19<|.done) (by kernel_rfl) ?_
      simp[h,hge,ar,rT,rI,Jw,NU,xl,List.getElem?_eq_getElem xl,List.getElem?_eq_getElem Jw,fm,aj];refine⟨by rw[oN];have:=aA.nx;omega,yR.of hex (λv H2 hR _=>?_) (λx H2 env hR lY=>?_)⟩
      ·obtain⟨hE,hm⟩:=hR;rw[hE]
       clear hE
       cases hx:cZ p ⟨S,defs2⟩ top p.ai[d].exp with
       |some b=>
        rw[hx]at hm hk2;cases hm;have jm:d<defs2.length:=by omega
        have fE:List.take d (defs2.map b9)++LV.d (DV.sl (b.map ak))::List.drop (d+1) (defs2.map b9)=(defs2.set d b).map b9:=by
         rw[List.map_set,List.set_eq_take_append_cons_drop,if_pos (by simpa using jm)];rfl
        have BG:(GG defs2).set H.next (.vec 30 0 1 ((defs2.set d b).map b9) true)=GG (defs2.set d b):=by rw[NY];exact GH.set_set
        have F9:bB b:=lZ (W:=⟨S,defs2⟩) ME lQ NH _ _ (Nat.lt_succ_self _) (he d xl) b hx;have YF:=(hW defs2 sj).ob;have hov:=(hW defs2 sj).ov;simp[b9];refine AW.draw cc [] (.q 0<|.q 1<|.q 2<|.q 4<|.q 5<|.q 6<|.q 8<|.q 11<|.q 3<|.q 7<|.q 9<|.q 10<|.q 12<|.f<|.one 13<|.done) (by kernel_rfl) ?_
        simp[h,hge,rT,rI,Jw,NU,List.getElem?_eq_getElem Jw,YF,hov,b9];refine⟨jm,?_⟩;simp[show d+1<=defs2.length by omega]
        rw[fE,BG];exact NX.go (j+1,defs2.set d b) (by simp only;omega) ⟨Jw,by rw[List.length_set];exact sj,λc hc=>by
         rcases List.mem_or_eq_of_mem_set hc with q|q
         ·exact lQ c q
         ·rw[q];exact F9,hk2⟩ (by simp[hwr j (by omega),ar])
       |none=>
        rw[hx]at hm hk2;obtain⟨v',hm⟩:=hm;cases hm;simp;have hkn:dw p l=none:=by
         rw[hK,<-qR];rw[<-hk2]at lP;rw[<-lP]
        refine λhz=>⟨H,aL (by rw[oN];exact aA.nx) (oL defs2) hw.none,?_⟩
        unfold vh;rw[hkn];exact⟨rfl,rfl⟩
      ·obtain⟨_,hm⟩:=hR;cases hx:cZ p ⟨S,defs2⟩ top p.ai[d].exp with
       |some b=>rw[hx]at hm;cases hm
       |none=>rw[hx]at hm;obtain⟨v',hm⟩:=hm;cases hm
     ·have:j=gr.length:=by omega
      subst this;rw[List.drop_length,fq]at hk2;rw[<-hk2]at lP;simp only at lP;refine NX.go (f+1,top+1,defs2) (by simp only;omega) ⟨by simp only;omega,by simp only;omega,by simp only;omega,sj,lQ,λq=>?_,λq=>?_⟩ (by simp[ar,show IntKind.i64.wrap (top+1)=top+1 by rw[wrap64]<;>omega])
      ·simp only at q|-;rw[if_neg (by omega)]at lP
       have hmt:gW (top+1) 200=top+1:=by unfold gW;rw[if_neg (by omega)]
       rw[hmt]at lP;exact lP
      ·simp only at q|-;rw[if_pos (by omega)]at lP
       exact lP
    ·have br8:top=201:=by omega
     have Wq:=Wq br8;rw[<-Wq]at qR;exact NX.go (i+1,defs1) (by simp only;omega) ⟨h,PL,Ej,qR⟩ (by simp[hwr i (by omega),ar])
  ·have:i=GS.length:=by omega
   subst this;rw[List.drop_length,qf]at qR;have YF:=(hW ai nr).ob;refine AW.ev cc ?_;simp;refine λhz=>⟨GG ai,hz.drop (by rw[oN];exact aA.nx),by rw[oN];omega,?_⟩
   unfold vh;rw[hK,<-qR];refine⟨H.next+1,ns,H.next,rfl,by omega,Nat.le_refl _,?_,by rw[oN];exact aA.nx,oL ai,hz⟩
   rw[hS];exact hW ai nr
theorem Qq(ai:List cg):ai.map b9=bM (ai.map bY):=by
 induction ai with
 |nil=>rfl
 |cons b l ih=>rw[List.map_cons,List.map_cons,ih];rfl
noncomputable def vQ (p:Prog) (l:List Event):LV:=match dw p l with
 |some ai=>.dh [sl (ai.map bY),.d (.k (.bool true))]
 |none=>.dh [sl [],.d (.k (.bool false))]
theorem Fw(p:Prog)(hs:∀s∈p.az++an p,cN s)(l:List Event)(ha:dR p l=true):aC prog 74 [lv (ar p),sl (l.map aQ)] (vQ p l):=by
 intro H;have cc:=au (p:=bf [2] [] []);obtain⟨hp,hl,hi⟩:=iO ha;refine aG.dG (au (p:=bf [2] [] [])) func74 rfl call74 (by rw[ntmps74];simp) rfl λhf hw=>?_
 have hk:=xW p hs hp l hl hi H;simp[ar]at hk;simp[ntmps74,results74,ar]at hf|-;refine AW.seq cc ?_;simp;refine AW.seq cc ?_;simp;refine EC.of hk (λv H2 hR=>?_) (λv H2 hR=>by
  unfold vh at hR
  split at hR
  ·obtain⟨q,_⟩:=hR;cases q
  ·obtain⟨_,_,_,q,_⟩:=hR;cases q)
 unfold vh at hR;cases hkn:dw p l with
 |none=>
  rw[hkn]at hR;obtain⟨q1,q2⟩:=hR;cases q1;rw[q2];simp;refine AW.seq cc ?_;simp;exact λhz=>⟨bI hz,by simp[vQ,hkn]⟩
 |some ai=>
  rw[hkn]at hR;obtain⟨n,ns,nv,q1,q2,q3,hW,q4,q5,q6⟩:=hR;cases q1;simp;have hlen:∀r∈ai.map bY,r.length=1:=λr hr=>by obtain⟨_,_,rfl⟩:=List.mem_map.1 hr;rfl
  have kp:=hW.ob;have ab9:n≠nv:=λe=>by
   have:=hW.ov;rw[<-e,kp]at this;cases this
  refine AW.cM (n:=nv) (g:=0) (sz:=1) (e:=30) (ex:=true) (ai.map bY) hW.ov (Qq ai) hlen ?_;simp;refine AW.seq cc ?_;simp;refine AW.ev cc ?_;simp[kp,ab9];refine λhz=>⟨aL q4 (λm hm=>kH hw q3 (λk hk=>q5 k hk) hm) hw.none,?_⟩
  have ht:List.take ai.length (ai.map bY)=ai.map bY:=List.take_of_length_le (by simp)
  rw[ht];simp[vQ,hkn]
structure bu6 where
 other:Int
 fold:Int
 bag:cg
end Go.Aft
end
section
set_option maxRecDepth 20000
namespace Go.Aft
open Go.RowKit
open Go.Proofs.Tryz
section
variable {H:Type} {enc:TypeId×Value->H} {w:World}
theorem uC{P:Program}{α:Type}{t e:TypeId}{r:List α->List DV}{x1:List α->DV}{fit:List α->Prop}{base:Nat}{v:Value}{d:DataW H}{p:List MemPlace}(hr:∀fuel,Rd enc P w t r fit fuel)(hx:∀x,r x=[x1 x])(hu:P.underlying t=some (.slice e))
  (hval:Value.okWide P w .any base t v) (hd:DataW.Trod enc P w 0 (λ_=>true) true t v d p) (hw:Wt P t d):∃x,fit x/\LR (Ch w) 0 ix (.d (x1 x)) v:=by
 obtain⟨a,len,cap,rfl⟩:=Go.WideShapes.okWide_slice hu hval;obtain⟨fuel,hf⟩:=hd;obtain⟨x,h1,h2⟩:=hr fuel _ _ _ hf;refine⟨x,h2 hw,?_⟩;rw[hx]at h1;have h3:=sK (G:=Ch w) (nx:=0) (lm:=ix) h1;simp only[List.map_cons,List.map_nil]at h3;unfold bH at h3;obtain⟨v',vs',e,h4,_⟩:=h3;have:v'=.slice a len cap:=by
  have:=congrArg List.head? e;simpa[Value.cells]using this.symm
 rw[<-this];exact h4
theorem AI(fuel:Nat):Rd enc prog w 82 aQ (λ_=>True) fuel:=
 Rd.struct underlying82 fuel λf hf=>((gG.cons (n:=5) rfl (Rd.int underlying3 f)<|gG.cons rfl (Rd.int underlying3 f)<|gG.cons rfl (ZX f)<|gG.nil)).conv (λx=>⟨x.1,x.2.1,x.2.2.1⟩) (λ_=>rfl) (λ_ _=>trivial)
theorem DC(fuel:Nat):Rd enc prog w 43 (λl:List Event=>[.sl (l.map aQ)]) (λl=>∀n∈l,True) fuel:=Rd.slice underlying43 (by decide+kernel) (λx=>by rw[show prog.cellsOf 82=5 by decide+kernel];rfl) fuel λf _=>AI f
end
theorem aq6{n:Int}(w:(Lit.int .u8 n).wf=true):0<=n/\n<256:=by
 simp only[Lit.wf,Bool.and_eq_true,decide_eq_true_eq]at w;have h1:IntKind.min .u8=0:=rfl;have h2:IntKind.max .u8=255:=rfl;omega
end Go.Aft
end
