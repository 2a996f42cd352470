import Derived.Test.YthinedikejlgmaaGreatA20
import Derived.Test.YthinedikejlgmaaGreatA21
import Derived.Test.YthinedikejlgmaaGreatA18
import Derived.Test.YthinedikejlgmaaGreatA17
import Derived.Test.YthinedikejlgmaaGreatA15
set_option linter.all false
section
set_option maxRecDepth 20000
namespace Go.Aft
open Go.Proofs.Tryz
mutual
theorem Jd{az ai:List cq}{a:Int}:∀(x:bz) (depth left l:Int),fU az ai a x depth left=some l->((bc x).length:Int)+l<=left
 |.mk op name n fold aD kids,depth,left,l,h=>by
  rw[fU]at h
  split at h
  ·rename_i hc
   split at h
   ·rename_i l1 h1;have h1:=oR _ _ _ _ h1 (by omega)
    have:=D9 kids _ _ _ h (by omega)
    simp only[bc,List.length_cons];omega
   ·cases h
  ·cases h
theorem D9{az ai:List cq}{a:Int}:∀(x:List bz) (depth left l:Int),eW az ai a x depth left=some l->0<=left->((bn x).length:Int)+l<=left
 |[],depth,left,l,h,h0=>by rw[eW]at h;cases h;simp[bn]
 |k::ks,depth,left,l,h,h0=>by
  rw[eW]at h
  split at h
  ·rename_i l' hl;have h1:=Jd k _ _ _ hl;have h2:=lV _ _ _ _ hl;have h3:=D9 ks _ _ _ h (by omega)
   simp only[bn,List.length_append];omega
  ·cases h
end
def Lc(p:Prog):List (List Nat):=p.ai.map λd=>(jZ (an p) (bc d.exp)).map Int.toNat
structure Good(p:Prog):Prop where
 n6:p.ai.length<=6
 len:∀d∈p.ai,(bc d.exp).length<=60
 ref:∀d∈p.ai,∀e∈bc d.exp,qB e->0<=idx (an p) e.name
theorem Good.of{p:Prog}{l:Int}(h:fF p=some l):Good p:=by
 unfold fF at h
 split at h
 ·rename_i hc;have key:∀d∈p.ai,∃a l1 l2,fU p.az (an p) a d.exp 1 l1=some l2/\l1<=60:=λd hd=>by
   obtain⟨i,hi,rfl⟩:=List.mem_iff_getElem.1 hd;obtain⟨l1,l2,q1,q2,q3⟩:=vT _ _ _ _ h (by omega) i hi
   exact⟨_,l1,l2,q1,q3⟩
  refine⟨hc.2.2.1,λd hd=>?_,λd hd e he hr=>?_⟩
  ·obtain⟨a,l1,l2,q,q2⟩:=key d hd;have:=Jd _ _ _ _ q;have:=lV _ _ _ _ q;omega
  ·obtain⟨a,l1,l2,q,q2⟩:=key d hd;exact w8 _ _ _ _ q e he hr
 ·cases h
theorem s7{names:List cq}{l:List bz}{x:Int}:x∈jZ names l↔∃e∈l,qB e/\idx names e.name=x:=by
 simp only[jZ,List.mem_map,List.mem_filter,Bp,decide_eq_true_eq,qB];exact⟨λ⟨e,⟨h1,h2⟩,h3⟩=>⟨e,h1,h2,h3⟩,λ⟨e,h1,h2,h3⟩=>⟨e,⟨h1,h2⟩,h3⟩⟩
theorem pJ(p:Prog):(Lc p).length=p.ai.length:=by simp[Lc]
theorem VE(p:Prog){i:Nat}(h:i<p.ai.length):(Lc p).getD i []=(jZ (an p) (bc p.ai[i].exp)).map Int.toNat:=by
 simp[Lc,List.getD,List.getElem?_eq_getElem h]
theorem Hp{p:Prog}(g:Good p):(p.ai.map λd=>jZ (an p) (bc d.exp)).map rL=(Lc p).map rT:=by
 simp only[Lc,List.map_map];refine List.map_congr_left λd hd=>?_
 simp only[Function.comp,rL,rT,List.map_map]
 congr 2
 refine List.map_congr_left λx hx=>?_
 obtain⟨e,h1,h2,rfl⟩:=s7.1 hx;have:=g.ref d hd e h1 h2;simp only[Function.comp];rw[Int.toNat_of_nonneg this]
theorem Ni{p:Prog}(g:Good p):∀l∈Lc p,∀x∈l,x<(Lc p).length:=λl hl x hx=>by
 rw[pJ];obtain⟨d,hd,rfl⟩:=List.mem_map.1 hl;obtain⟨y,hy,rfl⟩:=List.mem_map.1 hx;obtain⟨e,h1,h2,rfl⟩:=s7.1 hy;have h3:=g.ref d hd e h1 h2;have h4:=oc (an p) e.name;have h5:(an p).length=p.ai.length:=by simp[an]
 omega
theorem ZT{l:List Nat}{c:Nat}:(∀x∈l,x<=c)->l.sum<=l.length*c:=by
 induction l with
 |nil=>simp
 |cons y l ih=>
  intro h;have h1:=h y (by simp)
  have h2:=ih λx hx=>h x (List.mem_cons_of_mem _ hx)
  simp only[List.sum_cons,List.length_cons,Nat.add_mul];omega
theorem Nh{p:Prog}(g:Good p):((Lc p).map List.length).sum<=10000:=by
 have:=ZT (l:=(Lc p).map List.length) (c:=60) λx hx=>by
  obtain⟨l,hl,rfl⟩:=List.mem_map.1 hx;obtain⟨d,hd,rfl⟩:=List.mem_map.1 hl;have h1:=g.len d hd;have h2:(jZ (an p) (bc d.exp)).length<=(bc d.exp).length:=by rw[jZ,List.length_map];exact List.length_filter_le _ _
  rw[List.length_map];omega
 rw[List.length_map,pJ]at this;have:=g.n6;have:p.ai.length*60<=6*60:=Nat.mul_le_mul_right _ this;omega
theorem Ho{p:Prog}(g:Good p)(i k:Nat):k∈(Lc p).getD i []↔gb p i k:=by
 by_cases h:i<p.ai.length
 ·rw[VE p h,List.mem_map];constructor
  ·rintro⟨x,hx,rfl⟩;obtain⟨e,h1,h2,rfl⟩:=s7.1 hx;exact⟨h,e,h1,h2,(Int.toNat_of_nonneg (g.ref _ (List.getElem_mem h) e h1 h2)).symm⟩
  ·rintro⟨_,e,h1,h2,h3⟩;exact⟨_,s7.2 ⟨e,h1,h2,rfl⟩,by omega⟩
 ·constructor
  ·intro q;rw[List.getD,List.getElem?_eq_none (by rw[pJ];omega)]at q
   cases q
  ·rintro⟨q,_⟩;exact absurd q h
theorem Q9{p:Prog}(g:Good p)(i k:Nat):Path (λa b=>b∈(Lc p).getD a []) i k↔Path (gb p) i k:=⟨Path.congr λi k=>(Ho g i k).1,Path.congr λi k=>(Ho g i k).2⟩
open Classical in
noncomputable def aZ (p:Prog) (i k:Nat):Bool:=decide (Path (gb p) i k)
open Classical in
theorem AH{p:Prog}(g:Good p):pS (Lc p)=A8 p.ai.length (aZ p):=by
 simp only[pS,A8,pJ];refine List.map_congr_left λi _=>?_
 simp only[oM,pJ];refine List.map_congr_left λj _=>?_
 rw[Bool.eq_iff_iff,aZ,decide_eq_true_eq,decide_eq_true_eq];exact Q9 g i j
theorem xZ{p:Prog}(g:Good p):aC prog 128 [lv (ar p)] (sl ((dO p.ai.length (aZ p)).map rT)):=by
 refine CS p _ _ g.n6 ?_;have h1:=xY p g.n6 λd hd=>Nat.le_trans (g.len d hd) (by omega)
 rw[Hp g]at h1;have h2:=tX p (Lc p) (pJ p) g.n6 (Ni g) (Nh g) h1;rw[AH g]at h2;exact h2
theorem Gj{p:Prog}(g:Good p):Fs p↔∀ring∈dO p.ai.length (aZ p),∀k∈ring,∀h:k<p.ai.length,(bc p.ai[k].exp).any bJ=false:=by
 have ht:∀i j k,aZ p i j=true->aZ p j k=true->aZ p i k=true:=λi j k h1 h2=>by
  simp only[aZ,decide_eq_true_eq]at*;exact h1.trans h2
 constructor
 ·intro h ring hr k hk hkn;have:aZ p k k=true:=(wP ht hkn).1 ⟨ring,hr,hk⟩;simp only[aZ,decide_eq_true_eq]at this;have:=h k hkn this;rw[List.any_eq_false];exact λe he=>by rw[this e he];simp
 ·intro h i hi hp e he;obtain⟨ring,hr,hk⟩:=(wP ht hi).2 (by simp only[aZ,decide_eq_true_eq];exact hp)
  have:=h ring hr i hk hi;rw[List.any_eq_false]at this;simpa using this e he
open Classical in
theorem Lv(p:Prog)(lW:∀s∈p.az++an p,cN s):aC prog 66 [lv (ar p)] (.d (.k (.bool (decide (formed p))))):=by
 have cc:=au (p:=bf [1] [] []);refine aC.EO (au (p:=bf [1] [] [])) func66 rfl call66 (by rw[ntmps66];simp) rfl λhf H=>?_
 have hcn:=HZ p lW;simp[ar]at hcn;simp[ntmps66,results66,ar]at hf|-;refine AW.seq cc ?_;simp;refine AW.seq cc ?_;simp;refine EC.aJ hcn ?_;cases hc:fF p with
 |none=>
  have:¬formed p:=by rintro⟨⟨l,hl⟩,_⟩;rw[hc]at hl;cases hl
  simp[kE,this]
 |some l=>
  have g:=Good.of hc;have hl:l<=60:=by
   unfold fF at hc
   split at hc
   ·exact(Je _ _ _ _ hc (by omega)).2
   ·cases hc
  have hr:=xZ g;simp[ar]at hr;obtain⟨W,hW⟩:∃W,dO p.ai.length (aZ p)=W:=⟨_,rfl⟩;have hfr:formed p↔∀ring∈W,∀k∈ring,∀h:k<p.ai.length,(bc p.ai[k].exp).any bJ=false:=by
   rw[<-hW,<-Gj g];exact⟨λh=>h.2,λh=>⟨⟨l,hc⟩,h⟩⟩
  have hbd:∀ring∈W,ring.length<=6/\∀k∈ring,k<p.ai.length:=λring hr=>by
   rw[<-hW]at hr;obtain⟨i,_,rfl⟩:=List.mem_map.1 hr;refine⟨?_,λk hk=>(bL.1 hk).1⟩
   have h1:(bQ p.ai.length (aZ p) i).length<=(List.range p.ai.length).length:=List.length_filter_le _ _;have:=g.n6;rw[List.length_range]at h1;omega
  have hWl:W.length<=6:=by
   rw[<-hW,dO,List.length_map];have h1:=List.length_filter_le (λi=>aZ p i i&&(bQ p.ai.length (aZ p) i).head? ==some i) (List.range p.ai.length)
   have:=g.n6;rw[List.length_range]at h1;omega
  rw[hW]at hr;simp[kE];refine⟨λq=>by omega,λ_=>?_⟩
  refine AW.seq cc ?_;simp;refine EC.aJ hr ?_;simp;refine AW.ev cc ?_;simp;refine AW.aV cc (λi:Nat=>⟨[(1,.ip ((ar p).map .d) 0),(3,.d (.sl (W.map rT))),(4,aH i)],[],H⟩) (λi=>W.length-i)
   (λi=>i<=W.length/\∀j (h:j<W.length),j<i->∀k∈W[j],∀h:k<p.ai.length,(bc p.ai[k].exp).any bJ=false) 0 ⟨⟨by simp,by simp⟩,by simp[ar]⟩ ?_
  rintro i ⟨hi,hI⟩;simp[ar];refine⟨λh=>?_,λh=>?_⟩
  ·have hi2:i<1000000:=by omega
   obtain⟨hrl,hrb⟩:=hbd _ (List.getElem_mem h);refine AW.aV cc (λk:Nat=>⟨[(1,.ip ((ar p).map .d) 0),(3,.d (.sl (W.map rT))),(4,aH i),(5,aH k)],[],H⟩) (λk=>W[i].length-k)
    (λk=>k<=W[i].length/\∀j (h:j<W[i].length),j<k->∀h:W[i][j]<p.ai.length,(bc p.ai[W[i][j]].exp).any bJ=false) 0 ⟨⟨by simp,by simp⟩,by simp[ar]⟩ ?_
   rintro k ⟨hk,hK⟩;simp[h,List.getElem?_eq_getElem h,rT];refine⟨λjo=>?_,λjo=>?_⟩
   ·have hk2:k<1000000:=by omega
    have hx:W[i][k]<p.ai.length:=hrb _ (List.getElem_mem jo);have hah:=H8 p.ai[W[i][k]].exp (Nat.le_trans (g.len _ (List.getElem_mem hx)) (by omega))
    simp[aj]at hah;refine AW.draw cc [(12,.n)] (.q 0<|.q 2<|.q 3<|.q 4<|.q 6<|.q 1<|.q 5<|.q 7<|.q 8<|.q 9<|.q 10<|.q 11<|.q 12<|.done) (by kernel_rfl) ?_
    simp[h,List.getElem?_eq_getElem h,jo,List.getElem?_eq_getElem jo,ar,rI,rT,hx,List.getElem?_eq_getElem hx,fm,aj];refine FC.aJ hah ?_;simp;refine⟨λx hx1 hx2 hfm=>?_,λhno=>?_⟩
    ·have:=hfr.1 hfm _ (List.getElem_mem h) _ (List.getElem_mem jo) hx;rw[List.any_eq_false]at this;exact this x hx1 hx2
    ·refine NX.go (k+1) (show W[i].length-(k+1)<W[i].length-k by omega) ⟨jo,λj hj hji hjn=>?_⟩ (by simp[ar,aB hk2])
     by_cases z:j=k
     ·subst z;rw[List.any_eq_false];exact λx hx1=>by rw[hno x hx1];simp
     ·exact hK j hj (by omega) hjn
   ·have e:k=W[i].length:=by omega
    subst e;refine NX.go (i+1) (Nat.sub_lt_sub_left h (Nat.lt_succ_self i)) ⟨h,λj hj hji c hc hcn=>?_⟩ (by simp[ar,aB hi2])
    by_cases z:j=i
    ·subst z;obtain⟨t,ht,rfl⟩:=List.mem_iff_getElem.1 hc;exact hK t ht ht hcn
    ·exact hI j hj (by omega) c hc hcn
  ·refine hfr.2 λring hr k hk hkn=>?_
   obtain⟨j,hj,rfl⟩:=List.mem_iff_getElem.1 hr;exact hI j hj (by omega) k hk hkn
def WI(p:Prog):Prop:=∀s∈p.az++an p,cN s
def Ml(p:Prog)(d:Int):Prop:=formed p/\0<=d/\d<p.ai.length
open Classical in
noncomputable def bg9 (p:Prog) (d:Int):LV:=
 if h:Ml p d then
  (match Nr p (p.ai[d.toNat]'(by have:=h.2;omega)).exp with
  |(s,true)=>.dh [aH s.src,aH s.n,aH 0]
  |(_,false)=>.dh [aH 0,aH 0,aH 7])
 else .dh [aH 0,aH 0,aH 2]
open Classical in
noncomputable def aO2 (p:Prog) (d:Int) (r:Rec):LV:=
 if h:Ml p d/\iw r=true then
  (match Nr p (p.ai[d.toNat]'(by have:=h.1.2;omega)).exp with
  |(s,true)=>.dh [.d (.k (.bool (s.Yt.all λc=>eE r 0 c !=0))),aH 0]
  |(_,false)=>.dh [.d (.k (.bool false)),aH 7])
 else .dh [.d (.k (.bool false)),aH 2]
theorem nM(n lo hi:Int):aC prog 252 [.d (.k (.int .i64 n)),.d (.k (.int .i64 lo)),.d (.k (.int .i64 hi))] (.d (.k (.bool (jT n lo hi)))):=by
 refine aC.body aP func252 rfl call252 (by rw[ntmps252];simp) rfl λ_ H=>?_
 simp[ntmps252,results252,jT]
theorem Jy(r:Rec):aC prog 281 [lv (bE r)] (.d (.k (.bool (iw r)))):=by
 refine aC.body (au (p:=bf [1] [] [])) func281 rfl call281 (by rw[ntmps281];simp) rfl λ_ H=>?_
 simp[ntmps281,results281,bE];refine EC.aJ (nM _ _ _) ?_;cases h1:jT r.at_ 0 200 with
 |false=>simp[iw,h1]
 |true=>
  simp;refine EC.aJ (nM _ _ _) ?_;cases h2:jT r.key (-1000000000) 1000000000 with
  |false=>simp[iw,h1,h2]
  |true=>
   simp;refine EC.aJ (nM _ _ _) ?_;simp[iw,h1,h2]
def ry(n:dx):Bool:=jT n.id 0 999&&jT n.Nf 1 99&&iw n.aa
theorem Ee(n:dx):aC prog 272 [.agg [],lv (cK n)] (.d (.k (.bool (ry n)))):=by
 refine aC.body (au (p:=bf [2,3] [] [])) func272 rfl call272 (by rw[ntmps272];simp) rfl λ_ H=>?_
 have hr:=Jy n.aa;simp[bE]at hr;simp[ntmps272,results272,cK,bE];refine EC.aJ (nM _ _ _) ?_;cases h1:jT n.id 0 999 with
 |false=>simp[ry,h1]
 |true=>
  simp;refine EC.aJ (nM _ _ _) ?_;cases h2:jT n.Nf 1 99 with
  |false=>simp[ry,h1,h2]
  |true=>
   simp;refine EC.aJ hr ?_;simp[ry,h1,h2]
theorem PG(n:dx):aC prog 273 [.agg [],lv (cK n)] (.d (.k (.bool (ry n&&decide (n.aa=zg))))):=by
 refine aC.body (jG (p:=bf [2,3] [] [])) func273 rfl call273 (by rw[ntmps273];simp) rfl λ_ H=>?_
 have hr:=Ee n;simp[cK,bE]at hr;simp[ntmps273,results273,cK,bE];refine EC.aJ hr ?_;cases h1:ry n with
 |false=>simp[h1]
 |true=>
  obtain⟨d0,s0,i0,v0,a,b,c⟩:=n;simp[zg];rw[Bool.eq_iff_iff];simp
def vR(n:dx):Bool:=decide (n.id=0)&&decide (n.Nf=0)&&decide (n.aa.key=0/\n.aa.val=0)&&jT n.aa.at_ 0 201
theorem JA(n:dx):aC prog 274 [.agg [],lv (cK n)] (.d (.k (.bool (vR n)))):=by
 refine aC.body (jG (p:=bf [2,3] [] [])) func274 rfl call274 (by rw[ntmps274];simp) rfl λ_ H=>?_
 obtain⟨d0,s0,i0,v0,a,b,c⟩:=n;simp[ntmps274,results274,cK,bE];by_cases h:i0=0/\v0=0/\b=0/\c=0
 ·obtain⟨rfl,rfl,rfl,rfl⟩:=h;simp;refine EC.aJ (nM _ _ _) ?_;simp[vR]
 ·refine⟨λq1 q2 q3 q4=>absurd ⟨q1,q2,q3,q4⟩ h,λ_=>?_⟩
  have hb:(i0==0&&v0==0&&(b==0&&c==0))=false:=by
   rw[Bool.eq_false_iff];intro q;simp at q;exact h ⟨q.1.1,q.1.2,q.2.1,q.2.2⟩
  have hm:vR ⟨d0,s0,i0,v0,⟨a,b,c⟩⟩=false:=by
   rw[Bool.eq_false_iff];intro q;simp[vR]at q;exact h ⟨q.1.1.1,q.1.1.2,q.1.2.1,q.1.2.2⟩
  rw[hb,hm];simp
def Gn:List (Value×LV):=[(.int .i64 1,.fn (.func 272) [.agg []] []),(.int .i64 2,.fn (.func 273) [.agg []] []),(.int .i64 3,.fn (.func 274) [.agg []] [])]
theorem JC(H:GH):aG prog 251 [] H λce H'=>ce=.ret (.gm H.next)/\H'=H.add (.map Gn):=by
 refine aG.bG aP func251 rfl call251 (by rw[ntmps251];simp) rfl λhf hw=>?_
 simp[ntmps251,results251,GH.ax,GH.aq,GH.cV,KK.has,Sc.has,cr,gJ,Gn];exact λhz=>hz.drop (by rw[GH.aq];omega)
def qF(n:dx)(az:Int):Bool:=jT n.src 0 (az-1)&&(if n.KZ=1 then ry n else if n.KZ=2 then ry n&&decide (n.aa=zg)else if n.KZ=3 then vR n else false)
theorem TA:(∀(a:Value) (b:LV),(a,b)∈Gn->(KK.sc (Sc.int .i64)).has a=true)=True:=by
 refine eq_true λa b hab=>?_
 simp only[Gn,List.mem_cons,List.not_mem_nil,or_false,Prod.mk.injEq]at hab;rcases hab with⟨rfl,_⟩|⟨rfl,_⟩|⟨rfl,_⟩<;>rfl
theorem Jz(n:dx)(az:Int)(m1 m0:Nat)(H:GH)(h1:H.obj m1=some (.box [.gm m0]))(h0:H.obj m0=some (.map Gn))(hs:0<=az/\az<=4):
  aG prog 254 [lv (cK n),.gp m1 0,.ip [aH az] 0] H λce H'=>ce=.ret (.d (.k (.bool (!qF n az))))/\H'=H:=by
 have cc:=au (p:=bf [3] [] []);refine aG.bG (au (p:=bf [3] [] [])) func254 rfl call254 (by rw[ntmps254];simp) rfl λhf hw=>?_
 have l1:=hw.lt h1;have l0:=hw.lt h0;have c1:=Ee n;have c2:=PG n;have c3:=JA n;have w:IntKind.wrap .i64 (az-1)=az-1:=by rw[wrap64]<;>omega
 obtain⟨d0,s0,i0,v0,a,b,c⟩:=n;simp[cK,bE]at c1 c2 c3;have hd:(¬(d0=1\/ d0=2\/ d0=3))\/ (d0=1\/ d0=2\/ d0=3):=by omega
 rcases hd with hd|hd
 ·have e1:¬d0=1:=by omega
  have e2:¬d0=2:=by omega
  have e3:¬d0=3:=by omega
  simp[ntmps254,results254,h1,h0,cK,bE,TA];simp[Gn,bD,gJ,e1,e2,e3,Ne.symm e1,Ne.symm e2,Ne.symm e3];exact λhz=>⟨hz.drop (Nat.le_refl _),by simp[qF,e1,e2,e3]⟩
 ·rcases hd with rfl|rfl|rfl
  all_goals
   simp[ntmps254,results254,h1,h0,cK,bE,TA];simp[Gn,bD,gJ,w];refine EC.aJ (nM _ _ _) ?_;cases h2:jT s0 0 (az-1)with
   |false=>
    simp;exact λhz=>⟨hz.drop (Nat.le_refl _),by simp[qF,h2]⟩
   |true=>
    simp[l1,l0,h1,h0,LV.nb,cD]
    first
     |refine EC.aJ c1 ?_
     |refine EC.aJ c2 ?_
     |refine EC.aJ c3 ?_
    simp;exact λhz=>⟨hz.drop (Nat.le_refl _),by simp[qF,h2]⟩
theorem AV(l:List dx)(q:dx->Bool)(f:FuncId)(cap:List LV)(H:GH)(hcap:cD H.next cap)(hc:∀n∈l,aG prog f ([lv (cK n)]++cap) H λce H'=>ce=.ret (.d (.k (.bool (q n))))/\H'=H):
  aG prog 275 [sl (l.map cK),.fn (.func f) [] cap] H λce H'=>ce=.ret (aH (Bq q l))/\H'=H:=by
 have cc:=aP;refine aG.bG aP func275 rfl call275 (by rw[ntmps275];simp) rfl λhf hw=>?_
 simp[ntmps275,results275]at hf|-;refine AW.aV cc (λi:Nat=>⟨[(0,.d (.sl (l.map cK))),(1,.fn (.func f) [] cap),(7,aH l.length),(8,aH i)],[],H⟩) (λi=>l.length-i) (λi=>i<=l.length/\∀j (h:j<l.length),j<i->q l[j]=false) 0 ⟨by simp,by simp[LV.only,cT _ hcap,ec]⟩ ?_
 rintro i ⟨hi,hk⟩;simp;refine⟨λh=>?_,λh=>?_⟩
 ·have gY:=hc l[i] (List.getElem_mem h);simp[cK,bE]at gY;simp[h,List.getElem?_eq_getElem h,cK,bE];refine⟨hcap,EC.of gY (λv H2 hR=>?_) (λv H2 hR=>?_)⟩
  ·obtain⟨e,rfl⟩:=hR;cases e;simp[aB h hf.1.1];refine⟨λe=>λhz=>⟨hz.drop (Nat.le_refl _),(zo h e hk).symm⟩,λe=>NX.go (i+1) (Nat.sub_lt_sub_left h (Nat.lt_succ_self i)) ⟨h,λj hj hji=>?_⟩ (by simp[cT _ hcap])⟩
   by_cases z:j=i
   ·subst z;exact e
   ·exact hk j hj (by omega)
  ·cases hR.1
 ·exact λhz=>⟨hz.drop (Nat.le_refl _),(tn λj hj=>hk j hj (by omega)).symm⟩
theorem vP(l:List dx)(q:dx->Bool)(f:FuncId)(cap:List LV)(H:GH)(hcap:cD H.next cap)(hc:∀n∈l,aG prog f ([lv (cK n)]++cap) H λce H'=>ce=.ret (.d (.k (.bool (q n))))/\H'=H):
  aG prog 253 [sl (l.map cK),.fn (.func f) [] cap] H λce H'=>ce=.ret (.d (.k (.bool (l.any q))))/\H'=H:=by
 have cc:=aP;refine aG.bG aP func253 rfl call253 (by rw[ntmps253];simp) rfl λhf hw=>?_
 have hi:=AV l q f cap H hcap hc;simp at hi;simp[ntmps253,results253,LV.nb,cD,hcap];refine EC.of hi (λv H2 hR=>?_) (λv H2 hR=>?_)
 ·obtain⟨e,rfl⟩:=hR;cases e;simp;refine λhz=>⟨hz.drop (Nat.le_refl _),?_⟩
  rw[<-vY q l]
 ·cases hR.1
def rJ(l:List dx)(az:Int):Bool:=jT az 1 4&&decide (l.length<=60)&& !l.any λn=>!qF n az
theorem Mw(l:List dx)(az:Int):aC prog 221 [sl (l.map cK),aH az] (.d (.k (.bool (rJ l az)))):=by
 intro H;have cc:=au (p:=bf [3] [5] []);refine aG.bG (au (p:=bf [3] [5] [])) func221 rfl call221 (by rw[ntmps221];simp) rfl λhf hw=>?_
 simp[ntmps221,results221]at hf|-;refine EC.of (JC _) (λv H2 hR=>?_) (λv H2 hR=>?_)
 rotate_left
 ·cases hR.1
 obtain⟨e,rfl⟩:=hR;cases e;simp[GH.ax,GH.aq,GH.cV];refine⟨by omega,?_⟩
 obtain⟨H2,vm⟩:∃H2,((H.add (GO.map Gn)).add (GO.box [LV.d (DV.k (Value.map none))])).set (H.next+1) (GO.box [LV.gm H.next])=H2:=⟨_,rfl⟩;have n2:H2.next=H.next+2:=by rw[<-vm];rfl
 have o0:H2.obj H.next=some (.map Gn):=by rw[<-vm];simp[GH.ay,GH.ax,GH.aq]
 have o1:H2.obj (H.next+1)=some (.box [.gm H.next]):=by rw[<-vm];simp[GH.ay,GH.ax,GH.aq]
 have hlo:∀m,m<H.next->H2.obj m=H.obj m:=λm hm=>by
  rw[<-vm,GH.ay,if_neg (by omega),GH.ax,GH.aq,if_neg (by omega),GH.ax,if_neg (by omega)]
 rw[vm]
 clear vm
 refine EC.aJ (nM _ _ _) ?_;have vj:Drop H H2 H:=aL (by omega) hlo hw.none
 cases h1:jT az 1 4 with
 |false=>
  simp;exact λhz=>⟨vj,by simp[rJ,h1]⟩
 |true=>
  by_cases h2:l.length<=60
  rotate_left
  ·have ze:¬((l.length:Int)<=60):=by omega
   simp[ze,h2];exact λhz=>⟨vj,by simp[rJ,h2]⟩
  ·have ze:((l.length:Int)<=60):=by omega
   simp[ze,h2];have hs:0<=az/\az<=4:=by simp[jT]at h1;omega
   have KX:=vP l (λn=>!qF n az) 254 [.gp (H.next+1) 0,.ip [aH az] 0] H2 (by simp[LV.nb,cD];omega) λn hn=>Jz n az (H.next+1) H.next H2 o1 o0 hs
   simp at KX;refine⟨by omega,EC.of KX (λv H3 hR=>?_) (λv H3 hR=>?_)⟩
   ·obtain⟨e,rfl⟩:=hR;cases e;simp;exact λhz=>⟨vj,by simp[rJ,h1,h2]⟩
   ·cases hR.1
theorem NP(n:dx):aC prog 255 [lv (cK n)] (.agg [aH n.src,aH n.id]):=by
 refine aC.body (au (p:=bf [1] [] [])) func255 rfl call255 (by rw[ntmps255];simp) rfl λ_ H=>?_
 simp[ntmps255,results255,cK,bE]
def B4(o:Option (Nat×Nat)):LV:=match o with
 |some (i,j)=>.dh [aH i,aH j,.d (.k (.bool true))]
 |none=>.dh [aH 0,aH 0,.d (.k (.bool false))]
theorem B7{l:List dx}{k:Nat}(h:k<l.length):iz l k=(l.take k).findIdx? λa=>mZ a l[k]:=by
 simp[iz,List.getElem?_eq_getElem h]
theorem B6{l:List dx}{k:Nat}(h:k<l.length)(hn:∀j (hj:j<k),mZ l[j] l[k]=false):iz l k=none:=by
 rw[B7 h,List.findIdx?_eq_none_iff];intro x hx;obtain⟨j,hj,rfl⟩:=List.mem_iff_getElem.1 hx;simp only[List.length_take]at hj;rw[List.getElem_take];exact hn j (by omega)
theorem Ke{l:List dx}{k i:Nat}(h:k<l.length)(hi:i<k)(hy:mZ l[i] l[k]=true)(hn:∀j (hj:j<i),mZ l[j] l[k]=false):iz l k=some i:=by
 rw[B7 h,List.findIdx?_eq_some_iff_getElem];refine⟨by simp;omega,by rw[List.getElem_take];exact hy,λj hj=>?_⟩
 rw[List.getElem_take,hn j hj];simp
theorem Mx(l:List dx):aC prog 222 [sl (l.map cK)] (B4 (qp l)):=by
 have cc:=jG (p:=bf [] [] []);refine aC.EO (jG (p:=bf [] [] [])) func222 rfl call222 (by rw[ntmps222];simp) rfl λhf H=>?_
 simp[ntmps222,results222]at hf|-;refine AW.seq cc ?_;simp;refine AW.scope cc ?_;simp;refine AW.aV cc (λk:Nat=>⟨[(0,.d (.sl (l.map cK))),(2,aH 0),(3,aH 0),(4,.d (.k (.bool false))),(9,.d (.sl (l.map cK))),(10,aH l.length),(11,aH k)],[],H⟩) (λk=>l.length-k)
  (λk=>k<=l.length/\∀j,j<k->iz l j=none) 0 ⟨by simp,by simp⟩ ?_
 rintro k ⟨hk,hI⟩;simp;refine⟨λh=>?_,λh=>?_⟩
 ·simp[h,List.getElem?_eq_getElem h,cK,bE];have jo:k<=l.length:=by omega
  have hmin:min k l.length=k:=by omega
  refine⟨λh3=>?_,λh3=>⟨jo,?_⟩⟩
  ·refine NX.go (k+1) (Nat.sub_lt_sub_left h (Nat.lt_succ_self k)) ⟨h,λj hj=>?_⟩ (by simp[aB h hf.1])
   by_cases z:j=k
   ·subst z;exact B6 h λi hi=>by simp[mZ,h3]
   ·exact hI j (by omega)
  ·refine AW.aV cc (λi:Nat=>⟨[(0,.d (.sl (l.map cK))),(2,aH 0),(3,aH 0),(4,.d (.k (.bool false))),(5,aH k),(6,.lp 6 0),(9,.d (.sl (l.map cK))),(10,aH l.length),(11,aH k),(21,.d (.sl ((l.take k).map cK))),(22,aH k),(23,aH i)],[(6,(cK l[k]).map .d)],H⟩) (λi=>k-i)
    (λi=>i<=k/\∀j (hj:j<i) (hjk:j<k),mZ l[j] l[k]=false) 0 ⟨⟨by simp,by simp⟩,by simp[cK,bE,hmin]⟩ ?_
   rintro i ⟨hi,hJ⟩;simp[cK,bE];refine⟨λhik=>?_,λhik=>?_⟩
   ·have Ef:i<l.length:=by omega
    have hit:i<(l.take k).length:=by simp;omega
    simp[hik,Ef,hit,hmin,List.getElem?_eq_getElem Ef,cK,bE];have oi:=NP l[i];have ok:=NP l[k];simp[cK,bE]at oi ok;refine AW.draw cc [(5,.n),(7,.n)] (.q 0<|.q 1<|.q 2<|.q 3<|.q 4<|.q 5<|.q 6<|.q 7<|.q 8<|.q 9<|.q 10<|.q 11<|.q 13<|.q 12<|.q 14<|.q 15<|.q 16<|.q 17<|.q 18<|.q 19<|.q 20<|.q 21<|.done) (by kernel_rfl) ?_
    generalize ha:l[i]=a at oi|-;generalize hb:l[k]=b at ok|-;simp[cK,bE];refine kN.aJ (λ_=>oi) ?_
    simp;refine kN.aJ (λ_=>ok) ?_
    simp;have h3b:¬b.KZ=3:=by rw[<-hb];exact h3
    have hne:a=b↔a.KZ=b.KZ/\a.src=b.src/\a.id=b.id/\a.Nf=b.Nf/\a.aa.at_=b.aa.at_/\a.aa.key=b.aa.key/\a.aa.val=b.aa.val:=by
     obtain⟨d0,s0,i0,v0,⟨x,y,z⟩⟩:=a;obtain⟨d1,s1,i1,v1,⟨x1,y1,z1⟩⟩:=b;simp
    refine⟨λq1 q2 q3 q4 q5=>?_,λq=>?_⟩
    ·have hc:mZ l[i] l[k]=true:=by
      rw[ha,hb,mZ,decide_eq_true_eq];refine⟨q1,h3b,q2,q3,q4,λe=>?_⟩
      have:=hne.1 e;omega
     have:qp l=some (i,k):=Kc h (λj hj=>hI j hj) (Ke h hik hc λj hj=>hJ j hj (by omega))
     rw[this];simp[B4,LV.nb,cD]
    ·refine NX.go (i+1) (Nat.sub_lt_sub_left hik (Nat.lt_succ_self i)) ⟨hik,λj hj hjk=>?_⟩ (by simp[cK,bE,aB Ef hf.1,hb])
     by_cases z:j=i
     ·subst z;rw[ha,mZ,decide_eq_false_iff_not];rintro⟨q1,_,q2,q3,q4,q5⟩;exact q5 (hne.2 (q q1 q2 q3 q4))
     ·have:=hJ j (by omega) hjk
      rw[hb]at this;exact this
   ·have:i=k:=by omega
    subst this;refine NX.go (i+1) (Nat.sub_lt_sub_left h (Nat.lt_succ_self i)) ⟨h,λj hj=>?_⟩ (by simp[aB h hf.1])
    by_cases z:j=i
    ·subst z;exact B6 h λi hi=>hJ i hi hi
    ·exact hI j (by omega)
 ·have:qp l=none:=yN λj hj=>hI j (by omega)
  rw[this];simp[B4,LV.nb,cD]
def iR(l:List dx)(az:Int):Bool:=rJ l az&&decide (qp l=none)
theorem JB(l:List dx)(az:Int):aC prog 182 [sl (l.map cK),aH az] (.d (.k (.bool (iR l az)))):=by
 refine aC.body aP func182 rfl call182 (by rw[ntmps182];simp) rfl λhf H=>?_
 have h1:=Mw l az;have h2:=Mx l;simp at h1 h2;simp[ntmps182,results182];refine EC.aJ h1 ?_;cases hp:rJ l az with
 |false=>simp[iR,hp]
 |true=>
  simp;refine EC.aJ h2 ?_;cases hc:qp l with
  |none=>simp[B4,iR,hp,hc]
  |some ij=>simp[B4,iR,hp,hc]
theorem My(l:List dx)(az:Int):aC prog 134 [sl (l.map cK),aH az] (aH (if iR l az=true then 0 else 2)):=by
 refine aC.body aP func134 rfl call134 (by rw[ntmps134];simp) rfl λhf H=>?_
 have h1:=JB l az;simp at h1;simp[ntmps134,results134];refine EC.aJ h1 ?_;cases hp:iR l az<;>simp
def kk(src id:Int):Value:=.agg #[.int .i64 src,.int .i64 id]
structure bP7(es:List (Value×LV))(l:List dx):Prop where
 get:∀src id:Int,bD (kk src id) es=(YD l src id).map λn=>lv (cK n)
 key:∀(a:Value) (b:LV),(a,b)∈es->(KK.ag [.int .i64,.int .i64]).has a=true
 nb:∀n,cD n (es.map (·.2))
 nd:(es.map (·.1)).Nodup
theorem FX{a b c d:Int}:xd (kk a b) (kk c d)=decide (a=c/\b=d):=by
 simp[xd,kk,allEq,vC];rw[Bool.eq_iff_iff];simp
theorem Z9{a:Value}(h:(KK.ag [.int .i64,.int .i64]).has a=true):∃s i,a=kk s i:=by
 cases a<;>simp only[KK.has,Bool.false_eq_true]at h;rename_i vs;obtain⟨x,us,e1,h⟩:=kq h;obtain⟨y,us',e2,h⟩:=kq h;have:=mR h;subst this;subst e2;refine⟨x,y,?_⟩;rw[kk];congr 1;apply Array.toList_inj.1;rw[e1]
theorem DW:∀(es:List (Value×LV)) (v:LV) (s i src id:Int),(∀(a:Value) (b:LV),(a,b)∈es->(KK.ag [.int .i64,.int .i64]).has a=true)->bD (kk src id) (cr (kk s i) v es)=if src=s/\id=i then some v else bD (kk src id) es
 |[],v,s,i,src,id,_=>by simp[cr,bD,FX]
 |(a,b)::es,v,s,i,src,id,h=>by
  obtain⟨s',i',rfl⟩:=Z9 (h a b (by simp))
  have ih:=DW es v s i src id λa b hab=>h a b (List.mem_cons_of_mem _ hab)
  simp only[cr,FX];by_cases e:s=s'/\i=i'
  ·obtain⟨rfl,rfl⟩:=e;simp only[and_self,decide_true,if_true,bD,FX];by_cases e2:src=s/\id=i
   ·simp[e2]
   ·simp[e2]
  ·simp only[e,decide_false,Bool.false_eq_true,if_false,bD,FX,ih];by_cases e2:src=s'/\id=i'
   ·obtain⟨rfl,rfl⟩:=e2;have:¬(src=s/\id=i):=λq=>e ⟨q.1.symm,q.2.symm⟩
    simp[this]
   ·simp[e2]
theorem IE(v:LV)(s i:Int):∀(es:List (Value×LV)),(∀(a:Value) (b:LV),(a,b)∈es->(KK.ag [.int .i64,.int .i64]).has a=true)->∀(a:Value) (b:LV),(a,b)∈cr (kk s i) v es->(KK.ag [.int .i64,.int .i64]).has a=true
 |[],_,a,b,hab=>by
  simp only[cr,List.mem_singleton,Prod.mk.injEq]at hab;rw[hab.1];rfl
 |(c,d)::es,h,a,b,hab=>by
  simp only[cr]at hab
  split at hab
  ·rcases List.mem_cons.1 hab with q|q
   ·cases q;rfl
   ·exact h a b (List.mem_cons_of_mem _ q)
  ·rcases List.mem_cons.1 hab with q|q
   ·rw[show a=c from(Prod.mk.inj q).1];exact h c d (List.mem_cons_self ..)
   ·exact IE v s i es (λa b hab=>h a b (List.mem_cons_of_mem _ hab)) a b q
end Go.Aft
end
section
namespace Go.Aft
def Y1(P:Program)(c:Cx)(rs:List ResultVar)(H0:GH)(R:CE->GH->Prop):AE->S->Prop
 |.normal,s|.ret,s=>s.df=[]/\(gU s.H->∃r,rE c.ty s rs=some r/\∃H',Drop H0 s.H H'/\r.nb H'.next/\R (.ret r) H')
 |.ej x,s=>s.df=[]/\(gU s.H->∃H',Drop H0 s.H H'/\x.nb H'.next/\R (.ej x) H')
 |_,_=>False
theorem aG.MY{P:Program}{c:Cx}(hc:c.ok P){f:FuncId}{fn:Func}{code:Code}(hf:P.funcs[f]?=some fn)(hb:fn.body=some code)(he:Enters P f){args:List LV}(hn:args.length<=fn.ntmps)(hrd:c.rd.uc f=true){H:GH}{R:CE->GH->Prop}
  (h:jk args->gU H->@AW P c.rd ⟨code⟩ ⟨gj 0 args,vi,H,fn.ntmps,[]⟩ ⟨Go.Aft.Y1 P c fn.results.toList H R⟩):aG P f args H R:=by
 refine⟨he,jR.fits λhfit G w vs hM qd hargs=>?_⟩
 have hw:gU H:=⟨λn hn=>by
  cases ho:H.obj n with
  |none=>rfl
  |some o=>have:=(hM.iC n o ho).1;omega,λn o ho=>CA (hM.iC n o ho).2⟩
 have hlen:=bN hargs;refine wu hf hb hrd (gO (h hfit hw ⟨G,H,w⟩ _ w ?_) ?_)
 ·refine⟨by simp;omega,G,ix,rfl,hM,Ext.refl G H w qd,λt=>?_,rfl⟩
  simp only;rw[qa,if_pos (Nat.zero_le _),Nat.sub_zero];by_cases ht:t<args.length
  ·have hx:args[t]?=some (args.getD t .any):=by simp[List.getD,List.getElem?_eq_getElem ht]
   obtain⟨v,h1,h2⟩:=kM hargs t _ hx;have:(vs.toArray++Array.replicate (fn.ntmps-vs.toArray.size) undef).getD t undef=v:=by
    rw[Array.getD_eq_getD_getElem?,Array.getElem?_append_left (by simp;omega)]
    simp[h1]
   rw[this];exact h2
  ·have:args.getD t .any=.any:=by simp[List.getD,List.getElem?_eq_none (Nat.le_of_not_lt ht)]
   rw[this];simp[LR]
 ·rintro e a' w' ⟨ae,s',q,r⟩;have hnb:=r.gU;obtain⟨g2,G',lm',g1,zu,hx',yE,he⟩:=r;have fin:∀(x:LV) (v:Value) (H':GH),Drop H s'.H H'->x.nb H'.next->LR G' s'.H.next lm' x v->MR (gL H'.next G') ix vi H' w'/\lD (gL H'.next G')/\Ext ⟨G,H,w⟩ (gL H'.next G') H' w'/\LR (gL H'.next G') H'.next ix x v:=by
   intro x v H' hd hnb hv;have:=wH zu (E:=⟨G,H,w⟩) (λn o ho=>(hM.iC n o ho).2) qd hx' hd
   exact⟨this.1,this.2.1,this.2.2,Cy (jO _ _ hv hnb)⟩
  have ay3:(s'.df=[]/\(gU s'.H->∃r,rE c.ty s' fn.results.toList=some r/\∃H',Drop H s'.H H'/\r.nb H'.next/\R (.ret r) H'))->LeavesInM Fence.wide 0 P fn a'.tmps (E6 G H w R) a'.defers .returning w':=λ⟨q1,q2⟩=>by
   rw[q1]at g1;have g1:a'.defers=[]:=g1;rw[g1];obtain⟨r,hr,H',hd,ac3,hR⟩:=q2 hnb;obtain⟨v,h1,h2⟩:=Dx (P:=P) (s:=s') (a:=a') hc.ty zu yE hr;obtain⟨p1,p2,p3,p4⟩:=fin r v H' hd ac3 h2;exact⟨v,h1,.ret r,H',_,hR,⟨v,rfl,p4⟩,p1,p2,p3⟩
  cases ae with
  |normal=>cases he;exact ay3 q
  |ret=>cases he;exact ay3 q
  |exit i=>exact q.elim
  |goto l=>exact q.elim
  |ej x=>
   obtain⟨v',rfl,hv⟩:=he;obtain⟨q1,q2⟩:=q;rw[q1]at g1;have g1:a'.defers=[]:=g1
   show LeavesInM Fence.wide 0 P fn a'.tmps (E6 G H w R) a'.defers (.panicking _) w'
   rw[g1];obtain⟨H',hd,ac3,hR⟩:=q2 hnb;obtain⟨p1,p2,p3,p4⟩:=fin x v' H' hd ac3 (bF (Nat.le_refl _) (Gh.le_refl _ _) (λ_ _ e=>by cases e) _ _ hv)
   exact⟨.ej x,H',_,hR,⟨v',rfl,p4⟩,p1,p2,p3⟩
attribute [simp] Go.Aft.Y1
end Go.Aft
end
section
set_option maxRecDepth 20000
namespace Go.Aft
open Go.Proofs.Tryz
def Zo(n:Int):Bool:=jT n (-1000000000) 1000000000
def au7(r:Room):Bool:=jT r.most 0 6&&Zo r.low&&Zo r.high&&jT (r.high-r.low) 0 60
open Classical in
noncomputable def bt2 (p:Prog) (d:Int) (l:List dx) (r:Room) (key:Int):Bool:=decide (Ml p d)&&iR l p.az.length&&decide (av7 l=[])&&au7 r&&Zo key
mutual
def DV.nz:DV->DV
 |.k (.slice none 0 0)=>.sl []
 |.k v=>.k v
 |.sl xs=>.sl (QD xs)
def VZ:List DV->List DV
 |[]=>[]
 |c::cs=>c.nz::VZ cs
def QD:List (List DV)->List (List DV)
 |[]=>[]
 |r::rs=>VZ r::QD rs
end
theorem FI:∀l:List DV,(VZ l).length=l.length
 |[]=>rfl
 |c::cs=>by simp[VZ,FI cs]
theorem FH:∀l:List (List DV),(QD l).length=l.length
 |[]=>rfl
 |c::cs=>by simp[QD,FH cs]
theorem RS:∀(l:List (List DV)) (n:Nat),(∀r∈l,r.length=n)->∀r∈QD l,r.length=n
 |[],n,h,r,hr=>by simp[QD]at hr
 |c::cs,n,h,r,hr=>by
  rw[QD]at hr;rcases List.mem_cons.1 hr with rfl|hr
  ·rw[FI];exact h c (by simp)
  ·exact RS cs n (λr hr=>h r (List.mem_cons_of_mem _ hr)) r hr
mutual
theorem Zl{M:Mem}:∀(d:DV) (v:Value),DR M d v->DR M d.nz v
 |.sl xs,v,h=>by
  rw[DV.nz];unfold DR at h|-;obtain⟨a,cap,sz,e,h1,h2,h3,h4⟩:=h;refine⟨a,cap,sz,by rw[FH];exact e,by rw[FH];exact h1,h2,RS _ _ h3,?_⟩
  rcases h4 with rfl|⟨b,o,e1,e2⟩
  ·exact .inl rfl
  ·exact .inr ⟨b,o,e1,Y8 xs b o e2⟩
 |.k u,v,h=>by
  by_cases hu:u=.slice none 0 0
  ·subst hu;unfold DR at h;rw[DV.nz];unfold DR;exact⟨none,0,0,h.1,by simp,by simp,by simp,.inl rfl⟩
  ·have:(DV.k u).nz=.k u:=by
    unfold DV.nz
    split
    ·rename_i q;cases q;exact absurd rfl hu
    ·rename_i q;cases q;rfl
    ·rename_i q;cases q
   rw[this];exact h
theorem Y9{M:Mem}:∀(l:List DV) (b o:Nat),RC M b o l->RC M b o (VZ l)
 |[],b,o,h=>h
 |c::cs,b,o,h=>by
  unfold RC at h;rw[VZ];unfold RC;obtain⟨⟨v,h1,h2⟩,h3⟩:=h;exact⟨⟨v,h1,Zl c v h2⟩,Y9 cs b (o+1) h3⟩
theorem Y8{M:Mem}:∀(l:List (List DV)) (b o:Nat),RR M b o l->RR M b o (QD l)
 |[],b,o,h=>h
 |r::rs,b,o,h=>by
  unfold RR at h;rw[QD];unfold RR;rw[FI];exact⟨Y9 r b o h.1,Y8 rs b (o+r.length) h.2⟩
end
mutual
def LV.nz:LV->LV
 |.d x=>.d x.nz
 |.agg xs=>.agg (VY xs)
 |.dh xs=>.dh (VY xs)
 |x=>x
def VY:List LV->List LV
 |[]=>[]
 |x::xs=>x.nz::VY xs
end
mutual
theorem Zh{G:Gh}{nx:Nat}{lm:Nat->Option Nat}:∀(x:LV) (v:Value),LR G nx lm x v->LR G nx lm x.nz v
 |.d x,v,h=>by rw[LV.nz];unfold LR at h|-;exact Zl x v h
 |.agg xs,v,h=>by
  rw[LV.nz];unfold LR at h|-;obtain⟨vs,e,h⟩:=h;exact⟨vs,e,GI xs vs h⟩
 |.dh xs,v,h=>by
  rw[LV.nz];unfold LR at h|-;obtain⟨vs,e,h⟩:=h;exact⟨vs,e,GI xs vs h⟩
 |.lp ..,v,h|.gp ..,v,h|.ep ..,v,h|.lF ..,v,h|.gm ..,v,h|.vs ..,v,h|.vp ..,v,h|.yl ..,v,h|.ip ..,v,h|.fn ..,v,h|.gd ..,v,h|.any,v,h=>by simpa only[LV.nz]using h
theorem GI{G:Gh}{nx:Nat}{lm:Nat->Option Nat}:∀(xs:List LV) (vs:List Value),bH G nx lm xs vs->bH G nx lm (VY xs) vs
 |[],vs,h=>h
 |x::xs,vs,h=>by
  unfold bH at h;rw[VY];unfold bH;obtain⟨v,r,e,h1,h2⟩:=h;exact⟨v,r,e,Zh x v h1,GI xs r h2⟩
end
theorem aC.nz{P:Program}{f:FuncId}{args:List LV}{v:LV}(h:aC P f args v):aC P f args v.nz:=λH=>by
 refine⟨(h H).1,λG w vs h1 h2 h3=>Calls.mono ((h H).2 G w vs h1 h2 h3) λe w' ⟨ce,H',G',q,r1,r2⟩=>⟨.ret v.nz,H',G',⟨rfl,q.2⟩,?_,r2⟩⟩
 obtain⟨rfl,_⟩:=q;obtain⟨u,e1,e2⟩:=r1;exact⟨u,e1,Zh v u e2⟩
def jW(a b:Int):Int:=if a<b then-1 else if b<a then 1 else 0
def y9:List Int->List Int->Int
 |[],[]=>0
 |[],_::_=>-1
 |_::_,[]=>1
 |a::l,b::m=>if jW a b=0 then y9 l m else jW a b
theorem xJ(n:Int):aC prog 249 [aH n] (.d (.k (.bool false))):=by
 refine aC.body aP func249 rfl call249 (by rw[ntmps249];simp) rfl λ_ H=>?_
 simp[ntmps249,results249]
theorem nQ(a b:Int):aC prog 217 [aH a,aH b] (aH (jW a b)):=by
 refine aC.body aP func217 rfl call217 (by rw[ntmps217];simp) rfl λ_ H=>?_
 have h1:=xJ a;have h2:=xJ b;simp at h1 h2;simp[ntmps217,results217];refine EC.aJ h1 ?_;simp;refine EC.aJ h2 ?_;simp;refine⟨λq=>by simp[jW,q],λq=>⟨λq2=>?_,λq2=>?_⟩⟩
 ·simp[jW,q2];omega
 ·simp[jW];omega
theorem wZ{a b:List Int}:∀(i:Nat),i<=a.length->i<=b.length->(∀j (h:j<i) (h1:j<a.length) (h2:j<b.length),jW a[j] b[j]=0)->y9 a b=y9 (a.drop i) (b.drop i):=by
 intro i
 induction i with
 |zero=>simp
 |succ i ih=>
  intro h1 h2 h;rw[ih (by omega) (by omega) λj hj=>h j (by omega)]
  rw[List.drop_eq_getElem_cons (show i<a.length by omega),List.drop_eq_getElem_cons (show i<b.length by omega),y9,if_pos (h i (by omega) (by omega) (by omega))]
theorem rq(a b:List Int):aC prog 181 [sl (a.map rI),sl (b.map rI)] (aH (y9 a b)):=by
 have cc:=aP;refine aC.body aP func181 rfl call181 (by rw[ntmps181];simp) rfl λhf H=>?_
 simp[ntmps181,results181]at hf|-;refine AW.aV cc (λi:Nat=>⟨[(0,.d (.sl (a.map rI))),(1,.d (.sl (b.map rI))),(9,.d (.sl (a.map rI))),(10,aH a.length),(11,aH i)],[],H⟩) (λi=>a.length-i) (λi=>i<=a.length/\i<=b.length/\∀j (h:j<i) (h1:j<a.length) (h2:j<b.length),jW a[j] b[j]=0) 0 ⟨by simp,by simp⟩ ?_
 rintro i ⟨hi,hib,hI⟩;simp;refine⟨λh=>?_,λh=>?_⟩
 ·simp[h,List.getElem?_eq_getElem h,rI];refine⟨λq=>?_,λq=>?_⟩
  ·rw[wZ i hi hib hI,List.drop_eq_getElem_cons h,List.drop_eq_nil_of_le q,y9]
  ·have hc:=nQ a[i] b[i];simp at hc;simp[q,List.getElem?_eq_getElem q];refine EC.aJ hc ?_;simp;have hl:y9 a b=if jW a[i] b[i]=0 then y9 (a.drop (i+1)) (b.drop (i+1))else jW a[i] b[i]:=by
    rw[wZ i hi hib hI,List.drop_eq_getElem_cons h,List.drop_eq_getElem_cons q,y9]
   refine⟨λq2=>?_,λq2=>?_⟩
   ·rw[hl,if_neg q2]
   ·refine NX.go (i+1) (Nat.sub_lt_sub_left h (Nat.lt_succ_self i)) ⟨h,q,λj hj h1 h2=>?_⟩ (by simp[aB h hf.1.1,rI])
    by_cases z:j=i
    ·subst z;exact q2
    ·exact hI j (by omega) h1 h2
 ·have e:i=a.length:=by omega
  subst e;have hl:=wZ _ hi hib hI;rw[List.drop_length]at hl;refine⟨λq=>?_,λq=>?_⟩
  ·rw[hl,List.drop_eq_getElem_cons q];rfl
  ·rw[hl,List.drop_eq_nil_of_le q];rfl
structure aM5 where
 ev:Event
 Nf:Int
structure bE7 where
 sh:Shape
 room:Room
 bF4:LV
 loose:LV
 has:Bool
 low:Rec
 high:Rec
 bF3:LV
@[simp] theorem bt0 {op:Op}:ek (some .x) op=.x:=rfl
@[simp] theorem an4 {P:Program} {c:Cx} {dst:Option Nat} {s:S} {o:OT} {K:KT} {Q:QT} {x0:TypeId} {x1:Operand} {x2 x3 x4:Option Operand}:@Cm P c dst (.slice x0 x1 x2 x3 x4) s o K Q = @RK (bV c.ty c.bR c.bO s dst (.slice x0 x1 x2 x3 x4)) s dst K:=rfl
end Go.Aft
end
