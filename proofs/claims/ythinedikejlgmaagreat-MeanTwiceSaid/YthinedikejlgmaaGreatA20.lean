import Derived.Test.YthinedikejlgmaaGreatA19
import Derived.Test.YthinedikejlgmaaGreatA17
set_option linter.all false
section
set_option maxRecDepth 20000
namespace Go.Aft
open Go.Proofs.Tryz
theorem cu.set{e:TypeId}{sz:Nat}{H0 H:GH}{x:LV}{rows:List (List DV)}(h:cu e sz H0 x rows H){k:Nat}(hk:k<H0.next)(o:GO):cu e sz (H0.set k o) x rows (H.set k o):=by
 refine⟨?_,h.nx,λm hm=>?_⟩
 ·rcases h.is with q|⟨n,q1,q2,q3,q4⟩
  ·exact .inl q
  ·exact .inr ⟨n,q1,q2,q3,by rw[GH.ay,if_neg (by omega)];exact q4⟩
 ·rw[GH.ay,GH.ay]
  split
  ·rfl
  ·exact h.ob m hm
theorem R3:∀{l:List Nat} {x:Nat},x∈l->x<=l.sum
 |y::l,x,h=>by
  rcases List.mem_cons.1 h with rfl|h
  ·simp
  ·have:=R3 h;simp;omega
def rT(l:List Nat):List DV:=[.sl (l.map λk=>rI (k:Nat))]
def rB(b:Bool):List DV:=[.k (.bool b)]
def rR(l:List Bool):List DV:=[.sl (l.map rB)]
open Classical in
noncomputable def oM (to:List (List Nat)) (i:Nat):List Bool:=(List.range to.length).map λj=>decide (Path (λa b=>b∈to.getD a []) i j)
@[simp] theorem O9 (to:List (List Nat)) (i:Nat):(oM to i).length=to.length:=by simp [oM]
noncomputable def pS (to:List (List Nat)):List (List Bool):=(List.range to.length).map (oM to)
def bC(l:List Bool):List LV:=l.map λb=>.d (.k (.bool b))
@[simp] theorem bt1 (l:List Bool):(bC l).length=l.length:=by simp [bC]
theorem S1(l:List Bool):bM (l.map rB)=bC l:=by
 induction l with
 |nil=>rfl
 |cons b l ih=>
  simp[bM,bC,rB]at ih|-;exact ih
theorem Z2(l:List Bool):∀r∈l.map rB,r.length=1:=λr hr=>by obtain⟨_,_,rfl⟩:=List.mem_map.1 hr;rfl
theorem Dm(n g sz:Nat)(rows:List (List DV)):∀xs:List LV,jd n g sz rows xs=xs.map (LV.cM n g sz rows)
 |[]=>rfl
 |x::xs=>by rw[jd,Dm n g sz rows xs];rfl
open Classical in
noncomputable def fT (to:List (List Nat)) (n i:Nat):List LV:=(List.range n).map λk=>if k<i then .d (.sl ((oM to k).map rB))else .d (.k (.slice none 0 0))
@[simp] theorem ah0 (to:List (List Nat)) (n i:Nat):(fT to n i).length=n:=by simp [fT]
theorem PU{α:Type}(f:α->DV)(l:List α):bM (l.map λa=>[f a])=l.map λa=>.d (f a):=by
 induction l with
 |nil=>rfl
 |cons b l ih=>
  simp[bM]at ih|-;exact ih
theorem MV{to:List (List Nat)}{n i n1:Nat}(hn:to.length=n)(h:i<n):(List.take i (fT to n i)++LV.vs n1 0 1 0 n::List.drop (i+1) (fT to n i)).map (LV.cM n1 0 1 ((oM to i).map rB))=fT to n (i+1):=by
 have hm:min i n=i:=by omega
 have hg:∀a j (hj:j<(fT to n a).length),(fT to n a)[j]=if j<a then .d (.sl ((oM to j).map rB))else .d (.k (.slice none 0 0)):=λa j hj=>by simp[fT]
 refine List.ext_getElem (by simp;omega) λj h1 h2=>?_
 rw[List.getElem_map,hg,List.getElem_append]
 split
 ·rename_i q;have q:j<i:=by simpa[hm]using q
  rw[List.getElem_take,hg,if_pos q,if_pos (by omega)];simp
 ·rename_i q;simp[hm]at q;rw[List.getElem_cons]
  split
  ·rename_i q2;simp[hm]at q2;have:j=i:=by omega
   subst this;rw[if_pos (by omega)]
   simp[hn];exact List.take_of_length_le (by simp[hn])
  ·rename_i q2;simp[hm]at q2;rw[List.getElem_drop,hg,if_neg (by simp[hm];omega),if_neg (by omega)]
   simp
open Classical in
theorem tX(p:Prog)(to:List (List Nat))(hn:to.length=p.ai.length)(h6:p.ai.length<=6)(hb:∀l∈to,∀x∈l,x<to.length)(hsz:(to.map List.length).sum<=10000)
  (aE7:aC prog 180 [lv (ar p)] (sl (to.map rT))):aC prog 130 [lv (ar p)] (sl ((pS to).map rR)):=by
 have cc:=au (p:=bf [1] [] [15,24]);intro H;refine aG.dG (au (p:=bf [1] [] [15,24])) func130 rfl call130 (by rw[ntmps130];simp) rfl λhf hw=>?_
 simp[ar]at aE7;simp[ntmps130,results130,ar]at hf|-;refine AW.seq cc ?_;simp;refine AW.seq cc ?_;simp;refine AW.seq cc ?_;simp;refine EC.aJ aE7 ?_;simp;refine AW.seq cc ?_;simp;refine⟨by omega,?_⟩
 obtain⟨n,Wk⟩:∃n,p.ai.length=n:=⟨_,rfl⟩;rw[Wk]at hn h6|-;have ab0:jS n [LV.d (DV.k (Value.slice none 0 0))]=fT to n 0:=by
  simp only[jS,fT,Nat.not_lt_zero,if_false,List.map_const',List.length_range];simp
 rw[ab0];have hlt:∀m,m<H.next->(H.add (GO.vec 178 0 1 (fT to n 0) true)).obj m=H.obj m:=λm hm=>by rw[GH.ax,if_neg (by omega)]
 refine AW.seq cc ?_;simp;refine AW.D4 cc (λa:Nat×GH=>⟨[(3,aH n),(4,.d (.sl (to.map rT))),(5,.vs H.next 0 1 0 n),(6,aH a.1)],[],a.2⟩) (λa=>n-a.1)
  (λa=>a.1<=n/\H.next<a.2.next/\a.2.obj H.next=some (.vec 178 0 1 (fT to n a.1) true)/\∀m,m<H.next->a.2.obj m=H.obj m) (0,H.add (.vec 178 0 1 (fT to n 0) true)) ⟨⟨by simp,by rw[GH.aq];exact Nat.lt_succ_self _,by rw[GH.ax,if_pos rfl],hlt⟩,by simp⟩ ?_
 rintro⟨i,H1⟩ ⟨hi,tH,hv,kp⟩;simp only at hi tH hv kp;refine AW.seq cc ?_;simp;refine⟨λh=>?_,λh=>?_⟩
 ·have ad9:(List.take i (fT to n i)++LV.vs H1.next 0 1 0 n::List.drop (i+1) (fT to n i))[i]?=some (LV.vs H1.next 0 1 0 n):=by
   have hm:min i n=i:=by omega
   rw[List.getElem?_append_right (by simp;omega)];simp[hm]
  obtain⟨cs,hcs⟩:∃cs,List.take i (fT to n i)++LV.vs H1.next 0 1 0 n::List.drop (i+1) (fT to n i)=cs:=⟨_,rfl⟩;have lX:cs.length=n:=by rw[<-hcs];simp;omega
  rw[hcs]at ad9;refine AW.join (c:=xC (bf [1] [] [15,24])) (λH2:GH=>⟨[(3,aH n),(4,.d (.sl (to.map rT))),(5,.vs H.next 0 1 0 n),(6,aH i)],[],H2⟩)
   (λH2=>H1.next<H2.next/\H2.obj H1.next=some (.vec 4 0 1 (bC (oM to i)) true)/\H2.obj H.next=some (.vec 178 0 1 cs true)/\∀m,m<H.next->H2.obj m=H.obj m) ?_ λH2 hj=>?_
  rotate_left
  ·obtain⟨j1,j2,j3,j4⟩:=hj;refine AW.cM (n:=H1.next) (g:=0) (sz:=1) (e:=4) (ex:=true) ((oM to i).map rB) j2 (S1 _).symm (Z2 _) ?_;refine AW.ev cc ?_;simp;refine NX.go (i+1,H2.cM H1.next 0 1 ((oM to i).map rB)) (by simp;omega) ⟨h,by simp;omega,?_,λm hm=>?_⟩ ?_
   ·simp only[GH.cM];rw[if_neg (by omega),j3]
    simp only[Option.map_some,GO.cM,Dm];rw[<-hcs,MV hn h]
   ·simp only[GH.cM];rw[if_neg (by omega),j4 m hm]
    cases ho:H.obj m with
    |none=>rfl
    |some o=>simp only[Option.map_some];rw[GO.vB (N:=H.next) (by omega) (hw.nb m o ho)]
   ·have e1:¬H.next=H1.next:=by omega
    have e2:H.next≠H1.next:=by omega
    simp[e1,aB (n:=1000000) (show i<1000000 by omega)]
  refine AW.block (c:=xC (bf [1] [] [15,24])) ?_;refine AW.seq cc ?_;have YG:∀o,(H1.add o).obj H.next=some (.vec 178 0 1 (fT to n i) true):=λo=>by rw[GH.ax,if_neg (by omega)];exact hv
  have hi1:i+1<=n:=h;simp[YG,hi1,h];refine⟨by omega,by rw[GH.aq];exact Nat.lt_succ_self _,?_⟩
  have ay4:jS n [LV.d (DV.k (Value.bool false))]=bC (List.replicate n false):=by simp[jS,bC]
  rw[ay4];rw[hcs];obtain⟨B0,hB0⟩:∃B0,(H1.add (GO.vec 4 0 1 (bC (List.replicate n false)) true)).set H.next (GO.vec 178 0 1 cs true)=B0:=⟨_,rfl⟩;have b1:B0.next=H1.next+1:=by rw[<-hB0];rfl
  have b2:B0.obj H1.next=some (.vec 4 0 1 (bC (List.replicate n false)) true):=by rw[<-hB0,GH.ay,if_neg (by omega),GH.ax,if_pos rfl]
  have b3:B0.obj H.next=some (.vec 178 0 1 cs true):=by rw[<-hB0,GH.ay,if_pos rfl]
  have b4:∀m,m<H.next->B0.obj m=H.obj m:=λm hm=>by rw[<-hB0,GH.ay,if_neg (by omega),GH.ax,if_neg (by omega)];exact kp m hm
  rw[hB0];have hin:i<to.length:=by omega
  have hgd:∀j (hj:j<to.length),to.getD j []=to[j]:=λj hj=>by simp[List.getD,List.getElem?_eq_getElem hj]
  have Bs:∀j (hj:j<to.length),to[j].length<=10000:=λj hj=>by
   have:to[j].length<=(to.map List.length).sum:=R3 (List.mem_map.2 ⟨_,List.getElem_mem hj,rfl⟩);omega
  have hmr:∀l:List Nat,∀r∈l.map (λk=>rI (k:Nat)),r.length=1:=λl r hr=>by obtain⟨_,_,rfl⟩:=List.mem_map.1 hr;rfl
  refine AW.seq cc ?_;simp[hin,List.getElem?_eq_getElem hin,rT];refine eO.dU mB rfl Hi (by simp) (by simp) (.nil) (by simp[rowsOf];rfl) (by simp) (by simp) (hmr _) (by have:=Bs i hin;simp;omega) (by simp) λx0 H3 h3 _ _=>?_
  simp[h3.plain.all];refine AW.seq cc ?_;simp;refine AW.block (c:=xC (bf [1] [] [15,24])) ?_;refine AW.aV cc (λa:Nat×LV×List Nat×List Bool×GH×GH=>⟨[(3,aH n),(4,.d (.sl (to.map rT))),(5,.vs H.next 0 1 0 n),(6,aH i),(7,a.2.1),(8,aH a.1)],[],a.2.2.2.2.2⟩) (λa=>a.2.2.1.length+z6 to a.2.2.2.1-a.1)
   (λa=>QA to i a.1 a.2.2.2.1 a.2.2.1/\cu 3 1 a.2.2.2.2.1 a.2.1 (a.2.2.1.map λk=>rI (k:Nat)) a.2.2.2.2.2/\a.2.2.2.2.1.next=H1.next+1/\a.2.2.2.2.1.obj H1.next=some (.vec 4 0 1 (bC a.2.2.2.1) true)/\a.2.2.2.2.1.obj H.next=some (.vec 178 0 1 cs true)/\
    (∀m,m<H.next->a.2.2.2.2.1.obj m=H.obj m)/\a.2.2.1.length+z6 to a.2.2.2.1<=20000) (0,x0,to[i],List.replicate to.length false,B0,H3) ⟨⟨?_,?_,b1,?_,b3,b4,?_⟩,by simp[h3.only]⟩ ?_
  ·have:=QA.start hb hin;rw[hgd i hin]at this;exact this
  ·simpa using h3
  ·rw[hn];exact b2
  ·have:=Bs i hin;have:=Nj to (List.replicate to.length false);simp only;omega
  rintro⟨k,x,todo,row,B,H2⟩ ⟨El,hap,c1,c2,c3,c4,hT⟩;simp only at El hap c1 c2 c3 c4 hT;have o1:H2.obj H1.next=some (.vec 4 0 1 (bC row) true):=by rw[hap.ob _ (by omega)];exact c2
  have o2:H2.obj H.next=some (.vec 178 0 1 cs true):=by rw[hap.ob _ (by omega)];exact c3
  have hrow:QA to i todo.length row todo->row=oM to i:=λEl=>by
   refine List.ext_getElem (by rw[El.len,O9]) λj hj1 hj2=>?_
   have:=El.end j;rw[show row.getD j false=row[j]by simp[List.getD,List.getElem?_eq_getElem hj1]]at this
   rw[Bool.eq_iff_iff,this];simp[oM]
  rcases id hap.is with⟨e1,rfl⟩|⟨nn,e1,e2,rfl,e3⟩
  ·have e4:todo=[]:=by simpa using e1
   subst e4;have e5:k=0:=by have:=El.hk;simpa using this
   subst e5;simp;exact JN.go H2 ⟨by have:=hap.nx;omega,by rw[o1,hrow El],o2,λm hm=>by rw[hap.ob _ (by omega)];exact c4 m hm⟩ (by simp)
  simp;refine⟨λhk=>?_,λhk=>?_⟩
  ·have hbd:=El.W4 _ (List.getElem_mem hk);have hrl:=El.len;refine AW.draw cc [] (.q 0<|.q 1<|.q 2<|.q 4<|.q 5<|.q 6<|.q 3<|.q 7<|.q 8<|.q 9<|.q 10<|.done) (by kernel_rfl) ?_
   have hdn:todo[k]<n:=by omega
   have vj:todo[k]<row.length:=by omega
   simp[o1,o2,hk,List.getElem?_eq_getElem hk,ad9,h,hdn,bC,vj,List.getElem?_eq_getElem vj,rI];have Db:row.getD todo[k] false=row[todo[k]]:=by simp[List.getD,List.getElem?_eq_getElem vj]
   have hk2:k<1000000:=by omega
   refine⟨λhq=>?_,λhq=>?_⟩
   ·refine AW.draw cc [] (.q 0<|.q 1<|.q 2<|.q 4<|.q 5<|.q 6<|.q 3<|.q 7<|.q 8<|.f<|.one 9<|.done) (by kernel_rfl) ?_
    simp[o1,o2,hk,List.getElem?_eq_getElem hk,ad9,h,hdn,bC,vj,List.getElem?_eq_getElem vj,rI];have BE:todo[k]+1<=row.length:=vj;have fE:List.take todo[k] (List.map (λb=>LV.d (DV.k (Value.bool b))) row)++LV.d (DV.k (Value.bool true))::List.drop (todo[k]+1) (List.map (λb=>LV.d (DV.k (Value.bool b))) row)=bC (row.set todo[k] true):=by
     rw[bC,List.map_set,List.set_eq_take_append_cons_drop,if_pos (by simpa using vj)]
    have htd:todo[k]<to.length:=by omega
    simp[BE,fE,hk,List.getElem?_eq_getElem hk,htd,List.getElem?_eq_getElem htd,rI,rT];have hts:=HA to row todo[k] htd vj hq;have bp2:=hap.set (k:=H1.next) (by omega) (.vec 4 0 1 (bC (row.set todo[k] true)) true)
    refine eO.dU mB rfl Hi (by simp) (x:=.lF nn (todo.map λk=>rI (k:Nat))) (by simp[rI]) bp2 (by simp[rowsOf];rfl) (by simp) (hmr _) (by simp) (by simp;omega) (by simp) λx2 H4 h4 _ _=>?_
    simp[h4.plain.all];refine NX.go (k+1,x2,todo++to[todo[k]],row.set todo[k] true,B.set H1.next (.vec 4 0 1 (bC (row.set todo[k] true)) true),H4) (by simp;omega) ⟨?_,by rw[List.map_append];exact h4,c1,by rw[GH.ay,if_pos rfl],by rw[GH.ay,if_neg (by omega)];exact c3,λm hm=>by rw[GH.ay,if_neg (by omega)];exact c4 m hm,by simp;omega⟩ (by simp[aB hk2,h4.only])
    have:=El.bg1 hb hk (by rw[Db];exact hq)
    rw[hgd _ htd]at this;exact this
   ·refine NX.go (k+1,.lF nn (todo.map λk=>rI (k:Nat)),todo,row,B,H2) (by simp;omega) ⟨El.skip hk (by rw[Db];exact hq),hap,c1,c2,c3,c4,hT⟩ (by simp[aB hk2,rI])
  ·have hke:k=todo.length:=by have:=El.hk;omega
   subst hke;exact JN.go H2 ⟨by have:=hap.nx;omega,by rw[o1,hrow El],o2,λm hm=>by rw[hap.ob _ (by omega)];exact c4 m hm⟩ (by simp)
 ·have hin:i=n:=by omega
  subst hin;have KX:fT to i i=bM ((pS to).map rR):=by
   have:(pS to).map rR=(List.range to.length).map λk=>[DV.sl ((oM to k).map rB)]:=by
    simp only[pS,List.map_map];rfl
   rw[this,PU,hn,fT];exact List.map_congr_left λk hk=>by rw[if_pos (List.mem_range.1 hk)]
  refine AW.cM (n:=H.next) (g:=0) (sz:=1) (e:=178) (ex:=true) ((pS to).map rR) (by rw[<-KX];exact hv) rfl (λr hr=>by obtain⟨_,_,rfl⟩:=List.mem_map.1 hr;rfl) ?_
  refine AW.ev cc ?_;have hl:(pS to).length=i:=by simp[pS,hn]
  simp[hl];refine λ_=>⟨aL (by simp;omega) (λm hm=>?_) hw.none,List.take_of_length_le (by simp[hl])⟩
  simp only;rw[if_neg (by omega),kp m hm]
  cases ho:H.obj m with
  |none=>rfl
  |some o=>simp only[Option.map_some];rw[GO.vB (N:=H.next) (by omega) (hw.nb m o ho)]
def se(n:Nat)(R:Nat->Nat->Bool)(i:Nat):Bool:=R i i&&(bQ n R i).head? ==some i
def A8(n:Nat)(R:Nat->Nat->Bool):List (List Bool):=(List.range n).map λi=>(List.range n).map λj=>R i j
theorem CS(p:Prog)(n:Nat)(R:Nat->Nat->Bool)(h6:n<=6)(aE8:aC prog 130 [lv (ar p)] (sl ((A8 n R).map rR))):aC prog 128 [lv (ar p)] (sl ((dO n R).map rT)):=by
 have cc:=au (p:=bf [1] [] []);refine aC.EO (au (p:=bf [1] [] [])) func128 rfl call128 (by rw[ntmps128];simp) rfl λhf H=>?_
 simp[ar]at aE8;simp[ntmps128,results128,ar]at hf|-;refine AW.seq cc ?_;simp;refine AW.seq cc ?_;simp;refine EC.aJ aE8 ?_;have hrow:∀i,i<n->((A8 n R).map rR)[i]?=some (rR ((List.range n).map λj=>R i j)):=λi hi=>by simp[A8,List.getElem?_range hi]
 have hcell:∀i j,j<n->(((List.range n).map λj=>R i j).map rB)[j]?=some (rB (R i j)):=λi j hj=>by simp[List.getElem?_range hj]
 have GV:(A8 n R).length=n:=by simp[A8]
 obtain⟨M,hM⟩:∃M,(A8 n R).map rR=M:=⟨_,rfl⟩;rw[hM]at hrow|-;have hlM:M.length=n:=by rw[<-hM];simpa using GV
 have Bv:∀i (hi:i<M.length),M[i]=rR ((List.range n).map λj=>R i j):=λi hi=>by
  have:=hrow i (by omega)
  rw[List.getElem?_eq_getElem hi]at this;exact Option.some.inj this
 simp;refine AW.seq cc ?_;simp;refine AW.seq cc ?_;simp;refine AW.D4 cc (λa:Nat×LV×GH=>⟨[(3,.d (.sl M)),(4,a.2.1),(5,aH a.1)],[],a.2.2⟩) (λa=>n-a.1)
  (λa=>a.1<=n/\cu 94 1 H a.2.1 ((((List.range a.1).filter (se n R)).map (bQ n R)).map rT) a.2.2) (0,.d (.k (.slice none 0 0)),H) ⟨⟨by simp,.nil⟩,by simp⟩ ?_
 rintro⟨i,x,H1⟩ ⟨hi,hap⟩;simp only at hi hap;refine AW.seq cc ?_;simp[hlM];refine⟨λh=>?_,λh=>?_⟩
 ·refine AW.ZU (c:=xC (bf [1] [] [])) ?_;refine AW.block (c:=xC (bf [1] [] [])) ?_;refine AW.seq cc ?_;simp[hrow i h,hcell i i h,rR,rB,h];have hi2:i<1000000:=by omega
  have F4:List.range (i+1)=List.range i++[i]:=List.range_succ;refine⟨by omega,λhq=>?_,λhq=>?_⟩
  ·refine AW.ev cc ?_;simp;refine NX.go (i+1,x,H1) (by simp;omega) ⟨h,?_⟩ (by simp[hap.only,aB hi2])
   rw[F4,List.filter_append];simpa[se,hq]using hap
  refine AW.seq cc ?_;simp;refine AW.seq cc ?_;simp;refine AW.aV cc (λa:Nat×LV×GH=>⟨[(3,.d (.sl M)),(4,x),(5,aH i),(6,a.2.1),(7,aH a.1)],[],a.2.2⟩) (λa=>n-a.1)
   (λa=>a.1<=n/\cu 3 1 H1 a.2.1 (((List.range a.1).filter λk=>k==i||R i k&&R k i).map λk=>rI (k:Nat)) a.2.2) (0,.d (.k (.slice none 0 0)),H1) ⟨⟨by simp,.nil⟩,by simp[hap.only]⟩ ?_
  rintro⟨k,y,H2⟩ ⟨hk,hin⟩;simp only at hk hin;simp[hlM];refine⟨λhkn=>?_,λhkn=>?_⟩
  ·simp[Bv,hrow i h,hrow k hkn,hcell i k hkn,hcell k i h,rR,rB,h,hkn,hlM];have hk2:k<1000000:=by omega
   have F4:List.range (k+1)=List.range k++[k]:=List.range_succ;have hfl:((List.range k).filter λk=>k==i||R i k&&R k i).length<=k:=by
    have:=List.length_filter_le (λk=>k==i||R i k&&R k i) (List.range k);simpa using this
   refine⟨λq=>⟨q,λq2=>⟨q,q2⟩⟩,λq=>⟨hin.plain.tO,?_⟩,λq1 q2=>?_⟩
   ·refine eO.dU mB rfl Hi (by simp) (x:=y) (by simp[hin.plain.un]) hin (by simp[rowsOf];rfl) (by simp) (λr hr=>by obtain⟨_,_,rfl⟩:=List.mem_map.1 hr;rfl) (by simp) (by simp;omega) (by simp) λx2 H4 h4 _ _=>?_
    simp[h4.plain.all];refine NX.go (k+1,x2,H4) (by simp;omega) ⟨hkn,?_⟩ (by simp[h4.only,hap.only,aB hk2])
    have hc:(k==i||R i k&&R k i)=true:=by
     rcases q with q|q
     ·have:k=i:=by omega
      simp[this]
     ·simp[q]
    rw[F4,List.filter_append,List.map_append];simpa[hc,rI]using h4
   ·refine NX.go (k+1,y,H2) (by simp;omega) ⟨hkn,?_⟩ (by simp[hin.only,hap.only,aB hk2])
    have hc:(k==i||R i k&&R k i)=false:=by
     simp;exact⟨by omega,q2⟩
    rw[F4,List.filter_append];simpa[hc]using hin
  ·have hke:k=n:=by omega
   subst hke;have hin:cu 3 1 H1 y ((bQ k R i).map λk=>rI (k:Nat)) H2:=hin
   obtain⟨a,l,zp⟩:∃a l,bQ k R i=a::l:=by
    cases hh:bQ k R i with
    |nil=>have:i∈bQ k R i:=bL.2 ⟨h,.inl rfl⟩;rw[hh]at this;cases this
    |cons a l=>exact⟨a,l,rfl⟩
   have hfl:(((List.range i).filter (se k R)).map (bQ k R)).length<=i:=by
    have:=List.length_filter_le (se k R) (List.range i);simpa using this
   rw[zp]at hin;refine AW.WG 6 (AW.ev cc ?_);simp[hin.fz,hap.plain.all,rI];refine⟨λq=>?_,λq=>?_⟩
   ·have hc:se k R i=true:=by simp[se,zp,hq];omega
    refine eO.dU zT rfl mB (by simp) (x:=x) (by simp) (hap.mono hin.nx hin.ob) (by simp[rowsOf];rfl) (by simp) (λr hr=>by obtain⟨_,_,rfl⟩:=List.mem_map.1 hr;rfl) (by simp) (by simp at hfl|-;omega) (by simp) λx2 H4 h4 _ _=>?_
    simp[h4.plain.all];refine AW.ev cc ?_;simp;refine NX.go (i+1,x2,H4) (by simp;omega) ⟨h,?_⟩ (by simp[h4.only,aB hi2])
    rw[F4,List.filter_append,List.map_append,List.map_append];simpa[hc,rT,zp,rI]using h4
   ·have hc:se k R i=false:=by simp[se,zp,hq];omega
    refine AW.ev cc ?_;simp;refine NX.go (i+1,x,H2) (by simp;omega) ⟨h,?_⟩ (by simp[hap.only,aB hi2])
    rw[F4,List.filter_append];simpa[hc]using hap.mono hin.nx hin.ob
 ·have e:i=n:=by omega
  subst e;refine AW.ev cc ?_;simp[hap.plain.all,hap.fz];refine⟨?_,hap.nx,hap.ob⟩;rw[dO,List.map_map];rfl
def I2(x:QS):LV:=.agg [aH x.kids,aH x.aD,.d (.k (.bool x.name)),.d (.k (.bool x.fold)),aH x.low,aH x.high]
def jY:List (Value×LV):=[1,2,3,4,5,6,7,8,9,10,11,12,13,14,15].map λop:Int=>(.int .i64 op,I2 ((bK op).getD ⟨0,0,false,false,0,0⟩))
theorem gJ{a b:Int}:xd (.int .i64 a) (.int .i64 b)=decide (a=b):=by simp[xd,vC];rfl
theorem DU(op:Int):bD (.int .i64 op) jY=(bK op).map I2:=by
 by_cases h:1<=op/\op<=15
 ·have:op=1\/ op=2\/ op=3\/ op=4\/ op=5\/ op=6\/ op=7\/ op=8\/ op=9\/ op=10\/ op=11\/ op=12\/ op=13\/ op=14\/ op=15:=by omega
  rcases this with rfl|rfl|rfl|rfl|rfl|rfl|rfl|rfl|rfl|rfl|rfl|rfl|rfl|rfl|rfl<;>rfl
 ·have hn:bK op=none:=by
   unfold bK
   repeat (rw[if_neg (by omega)])
  rw[hn];simp only[jY,List.map_cons,List.map_nil,bD,gJ];rw[decide_eq_false (by omega),decide_eq_false (by omega),decide_eq_false (by omega),decide_eq_false (by omega),decide_eq_false (by omega),decide_eq_false (by omega),decide_eq_false (by omega),decide_eq_false (by omega),decide_eq_false (by omega),decide_eq_false (by omega),decide_eq_false (by omega),decide_eq_false (by omega),decide_eq_false (by omega),decide_eq_false (by omega),decide_eq_false (by omega)]
  rfl
def au6:QS:=⟨0,0,false,false,0,0⟩
@[simp] theorem aQ9 (n:Int):(KK.sc (Sc.int .i64)).has (.int .i64 n)=true:=rfl
theorem VH:(∀(a:Value) (b:LV),(a,b)∈jY->(KK.sc (Sc.int .i64)).has a=true)=True:=by
 refine eq_true λa b hab=>?_
 simp only[jY,List.mem_map]at hab;obtain⟨s,_,q⟩:=hab;cases q;rfl
theorem VI(op:Int):(bD (.int .i64 op) jY).getD (.agg [.d (.k (.int .i64 0)),.d (.k (.int .i64 0)),.d (.k (.bool false)),.d (.k (.bool false)),.d (.k (.int .i64 0)),.d (.k (.int .i64 0))])=I2 ((bK op).getD au6):=by
 rw[DU];cases bK op<;>rfl
theorem Rh(op:Int):(bD (.int .i64 op) jY).isSome=(bK op).isSome:=by
 rw[DU];cases bK op<;>rfl
theorem Ht(H:GH):aG prog 154 [] H λce H'=>ce=.ret (.gm H.next)/\H'=H.add (.map jY):=by
 have cc:=aP;refine aG.bG aP func154 rfl call154 (by rw[ntmps154];simp) rfl λhf hw=>?_
 simp[ntmps154,results154,GH.ax,GH.aq,GH.cV,KK.has,Sc.has,cr,gJ,jY,I2,bK];exact λhz=>hz.drop (by rw[GH.aq];omega)
structure Cp(H:GH)(n m1 m2 m3:Nat)(az ai:List cq)(ahead nodes:Int):Prop where
 sc:H.obj n=some (scp [.gm m1,.gm m2,.gm m3] ahead nodes)
 o1:H.obj m1=some (.map (ee az 0))
 o2:H.obj m2=some (.map (ee ai 0))
 o3:H.obj m3=some (.map jY)
theorem Cp.ne{H:GH}{n m1 m2 m3:Nat}{az ai:List cq}{a k:Int}(h:Cp H n m1 m2 m3 az ai a k):m1≠n/\m2≠n/\m3≠n:=by
 refine⟨λe=>?_,λe=>?_,λe=>?_⟩
 ·have:=h.o1;rw[e,h.sc]at this;cases this
 ·have:=h.o2;rw[e,h.sc]at this;cases this
 ·have:=h.o3;rw[e,h.sc]at this;cases this
theorem Cp.set{H:GH}{n m1 m2 m3:Nat}{az ai:List cq}{a k:Int}(h:Cp H n m1 m2 m3 az ai a k)(a' k':Int):Cp (H.set n (scp [.gm m1,.gm m2,.gm m3] a' k')) n m1 m2 m3 az ai a' k':=by
 obtain⟨e1,e2,e3⟩:=h.ne;exact⟨GH.aY,by rw[GH.ay,if_neg e1];exact h.o1,by rw[GH.ay,if_neg e2];exact h.o2,by rw[GH.ay,if_neg e3];exact h.o3⟩
def M8(H:GH)(n m1 m2 m3:Nat)(ahead:Int)(r:Option Int):CE->GH->Prop:=λce H'=>match r with
 |some l=>(∃v,ce=.ret v)/\H'=H.set n (scp [.gm m1,.gm m2,.gm m3] ahead (60-l))
 |none=>ce=.ej ck/\∃m,H'=H.set n (scp [.gm m1,.gm m2,.gm m3] ahead m)
theorem OO(op en fold:Int)(name:cq)(aD:List bh)(kids:List bz)(az ai:List cq)
  (ih:∀k∈kids,∀(n m1 m2 m3:Nat) (H:GH) (ahead nodes depth:Int),Cp H n m1 m2 m3 az ai ahead nodes->0<=nodes->nodes<=60->0<=depth->depth<=100->
   aG prog 156 [.gp n 0,lv (aS k),aH depth] H (M8 H n m1 m2 m3 ahead (fU az ai ahead k depth (60-nodes))))
  (n m1 m2 m3:Nat) (H:GH) (ahead nodes depth:Int) (hs:Cp H n m1 m2 m3 az ai ahead nodes) (h0:0<=nodes) (h1:nodes<=60) (Wv:0<=depth) (BE:depth<=100):
   aG prog 156 [.gp n 0,lv (aS (.mk op name en fold aD kids)),aH depth] H (M8 H n m1 m2 m3 ahead (fU az ai ahead (.mk op name en fold aD kids) depth (60-nodes))):=by
 have cc:=au (p:=bf [4] [] []);refine aG.dG (au (p:=bf [4] [] [])) func156 rfl call156 (by rw[ntmps156];simp) rfl λhf hw=>?_
 simp[ntmps156,results156,aj]at hf|-;have hc:cD H.next [.gm m1,.gm m2,.gm m3]:=by
  have:=hw.nb n _ hs.sc;simp[scp,GO.nb,cD,LV.nb]at this|-;exact this
 have hlt:=hw.lt hs.sc;have vj:∀m,gU (H.set n (scp [.gm m1,.gm m2,.gm m3] ahead m))->Drop H (H.set n (scp [.gm m1,.gm m2,.gm m3] ahead m)) (H.set n (scp [.gm m1,.gm m2,.gm m3] ahead m)):=λm hz=>hz.drop (by rw[GH.aM];exact Nat.le_refl _)
 have hno:∀m,¬(depth<=10/\1<=60-nodes/\hU op name en fold aD.length kids.length=true/\dD az ai ahead op name=true)->gU (H.set n (scp [.gm m1,.gm m2,.gm m3] ahead m))->
   ∃H',Drop H (H.set n (scp [.gm m1,.gm m2,.gm m3] ahead m)) H'/\(ck:LV).nb H'.next/\M8 H n m1 m2 m3 ahead (fU az ai ahead (.mk op name en fold aD kids) depth (60-nodes)) (.ej ck) H':=λm hq hz=>by
  refine⟨_,vj m hz,by simp[ck,LV.nb],?_⟩
  rw[fU,if_neg hq];exact⟨rfl,_,rfl⟩
 refine AW.seq cc ?_;simp;refine AW.seq cc ?_;simp[hlt];refine EC.need (Hu n H _ _ _ ahead nodes depth hs.sc hc h0 (by omega)) (λhb v=>?_) (λhb=>?_)
 rotate_left
 ·simp;exact hno _ (by omega)
 have hs1:=hs.set ahead (nodes+1);have o0:=hs1.sc;have o1:=hs1.o1;have o2:=hs1.o2;have o3:=hs1.o3;obtain⟨e1,e2,e3⟩:=hs.ne;generalize xq:H.set n (scp [.gm m1,.gm m2,.gm m3] ahead (nodes+1))=H1 at o0 o1 o2 o3;have tH:H1.next=H.next:=by rw[<-xq];rfl
 simp[xq];refine AW.seq cc ?_;refine AW.draw cc [] (.q 0<|.q 1<|.q 2<|.q 4<|.q 3<|.q 5<|.q 6<|.q 7<|.q 8<|.q 9<|.f<|.one 10<|.f<|.one 11<|.q 12<|.done) (by kernel_rfl) ?_
 obtain⟨x,hx⟩:∃x,(bK op).getD au6=x:=⟨_,rfl⟩;simp[o0,o3,scp,VI,Rh,VH,hx,I2];have ab8:¬(hU op name en fold aD.length kids.length=true/\dD az ai ahead op name=true)->gU H1->∃H',Drop H H1 H'/\(ck:LV).nb H'.next/\M8 H n m1 m2 m3 ahead (fU az ai ahead (.mk op name en fold aD kids) depth (60-nodes)) (.ej ck) H':=λhq hz=>by
  rw[<-xq]at hz|-;exact hno _ (λq=>hq q.2.2) hz
 have hE:hU op name en fold aD.length kids.length=true↔((bK op).isSome=true/\(kids.length:Int)=x.kids/\(aD.length:Int)=x.aD/\(x.name= !decide (name={data:=#[]}))/\x.low<=en/\en<=x.high)/\(if x.fold=true then 1<=fold/\fold<=4 else fold=0):=by
  unfold hU;cases hsh:bK op with
  |none=>simp
  |some y=>
   rw[hsh]at hx;simp only[Option.getD_some]at hx;subst hx;have Wk:decide (name≠cH)= !decide (name={data:=#[]}):=by
    rw[decide_not];rfl
   simp only[Wk,Bool.and_eq_true,decide_eq_true_eq,beq_iff_eq,Option.isSome_some,true_and];cases y.fold
   ·simp only[Bool.false_eq_true,if_false,decide_eq_true_eq];constructor
    ·rintro⟨⟨⟨⟨a,b⟩,c⟩,d,e⟩,f⟩;exact⟨⟨a,b,c,d,e⟩,f⟩
    ·rintro⟨⟨a,b,c,d,e⟩,f⟩;exact⟨⟨⟨⟨a,b⟩,c⟩,d,e⟩,f⟩
   ·simp only[if_true,decide_eq_true_eq];constructor
    ·rintro⟨⟨⟨⟨a,b⟩,c⟩,d,e⟩,f⟩;exact⟨⟨a,b,c,d,e⟩,f⟩
    ·rintro⟨⟨a,b,c,d,e⟩,f⟩;exact⟨⟨⟨⟨a,b⟩,c⟩,d,e⟩,f⟩
 refine AW.seq cc ?_;simp;refine EC.need (eo _ _) (λMD v1=>?_) (λMD=>?_)
 rotate_left
 ·simp only[Bool.and_eq_true,decide_eq_true_eq,beq_iff_eq]at MD;simp;refine ab8 λq=>MD ?_
  obtain⟨a,b,c,d,e,f⟩:=(hE.1 q.1).1;exact⟨⟨⟨⟨⟨a,b⟩,c⟩,d⟩,e⟩,f⟩
 simp only[Bool.and_eq_true,decide_eq_true_eq,beq_iff_eq]at MD;simp;refine AW.seq cc ?_;simp;refine⟨λq=>⟨q,λq2=>⟨q,q2⟩⟩,?_,?_⟩
 ·cases x.fold<;>simp<;>omega
 refine EC.need (eo _ _) (λMC v2=>?_) (λMC=>?_)
 rotate_left
 ·simp;refine ab8 λq=>MC ?_
  have:=(hE.1 q.1).2
  revert this
  cases x.fold<;>simp
 have hok:hU op name en fold aD.length kids.length=true:=by
  refine hE.2 ⟨⟨MD.1.1.1.1.1,MD.1.1.1.1.2,MD.1.1.1.2,MD.1.1.2,MD.1.2,MD.2⟩,?_⟩
  revert MC
  cases x.fold<;>simp
 simp;refine AW.seq cc ?_;refine AW.draw cc [] (.q 0<|.q 1<|.q 2<|.q 3<|.q 5<|.q 4<|.q 6<|.q 7<|.q 8<|.q 9<|.q 10<|.q 11<|.q 12<|.done) (by kernel_rfl) ?_
 simp[o0,o1,scp,pV,vL,kJ];refine AW.seq cc ?_;refine AW.draw cc [] (.q 0<|.q 1<|.q 2<|.q 3<|.q 5<|.q 4<|.q 6<|.q 7<|.q 8<|.q 9<|.q 10<|.q 11<|.q 12<|.done) (by kernel_rfl) ?_
 simp[o0,o2,scp,pV,vL,kJ];refine AW.join (c:=xC (bf [4] [] [])) (λ_:Unit=>⟨[(0,.gp n 0),(2,aH depth),(4,.ip ((aS (.mk op name en fold aD kids)).map .d) 0)],[],H1⟩)
  (λ_=>dD az ai ahead op name=true) (AW.ev cc ?_) λ_ hk=>?_
 ·have kX:dD az ai ahead op name≠true->gU H1->∃H',Drop H H1 H'/\(ck:LV).nb H'.next/\M8 H n m1 m2 m3 ahead (fU az ai ahead (.mk op name en fold aD kids) depth (60-nodes)) (.ej ck) H':=λq=>ab8 λq2=>q q2.2
  have hop:op=1\/ op=2\/ op=3\/ (op≠1/\op≠2/\op≠3):=by omega
  rcases hop with rfl|rfl|rfl|⟨n1,n2,n3⟩
  ·simp;refine EC.need (eo _ _) (λhb v=>?_) (λhb=>?_)
   ·simp;exact JN.go () (by simpa[dD]using hb) (by simp[aj])
   ·simp;exact kX (by simpa[dD]using hb)
  ·simp[o0,scp];have hb0:dD az ai ahead 2 name=(decide (0<=idx ai name)&&decide (Iy ai name<ahead)):=by
    unfold Iy;by_cases q:idx ai name<0
    ·have q2:¬0<=idx ai name:=by omega
     simp[dD,q2]
    ·simp[dD,q]
   refine EC.need (eo _ _) (λhb v=>?_) (λhb=>?_)
   ·simp;exact JN.go () (by rw[hb0];exact hb) (by simp[aj])
   ·simp;exact kX (by rw[hb0];exact hb)
  ·simp;refine EC.need (eo _ _) (λhb v=>?_) (λhb=>?_)
   ·simp;exact JN.go () (by simpa[dD]using hb) (by simp[aj])
   ·simp;exact kX (by simpa[dD]using hb)
  ·simp[n1,n2,n3];exact JN.go () (by simp[dD,n1,n2,n3]) (by simp[aj])
 ·have hsp:fU az ai ahead (.mk op name en fold aD kids) depth (60-nodes)=match cz (decide (op=12\/ op=13)) aD 1 (59-nodes)with
   |some l=>eW az ai ahead kids (depth+1) l
   |none=>none:=by
   rw[fU,if_pos ⟨by omega,by omega,hok,hk⟩,show 60-nodes-1=59-nodes by omega]
   cases cz (decide (op=12\/ op=13)) aD 1 (59-nodes)<;>rfl
  rw[hsp]
  clear hsp
  obtain⟨ob,kp⟩:∃ob,decide (op=12\/ op=13)=ob:=⟨_,rfl⟩;rw[kp];have w1:IntKind.wrap .i64 (depth+1)=depth+1:=by rw[wrap64]<;>omega
  refine AW.join (c:=xC (bf [4] [] [])) (λl:Int=>⟨[(0,.gp n 0),(2,aH depth),(4,.ip ((aS (.mk op name en fold aD kids)).map .d) 0)],[],H.set n (scp [.gm m1,.gm m2,.gm m3] ahead (60-l))⟩)
   (λl=>cz ob aD 1 (59-nodes)=some l) (AW.ev cc ?_) λl hl=>?_
  ·simp[aj];refine AW.aV cc (λa:Nat×Int=>⟨[(0,.gp n 0),(2,aH depth),(4,.ip ((aS (.mk op name en fold aD kids)).map .d) 0),(137,.d (.sl (aD.map bU))),(138,aH aD.length),(139,aH a.1)],[],H.set n (scp [.gm m1,.gm m2,.gm m3] ahead (60-a.2))⟩) (λa=>aD.length-a.1)
    (λa=>a.1<=aD.length/\0<=a.2/\a.2<=59-nodes/\cz ob aD 1 (59-nodes)=cz ob (aD.drop a.1) 1 a.2) (0,59-nodes) ⟨⟨by simp,by simp;omega,by simp,by simp⟩,by simp[aj,show 60-(59-nodes)=nodes+1 by omega,xq]⟩ ?_
   rintro⟨i,left⟩ ⟨hi,hl0,BA,hI⟩;simp only at hi hl0 BA hI;simp;refine⟨λh=>?_,λh=>?_⟩
   ·have hd:=List.drop_eq_getElem_cons h;rw[hd,cz]at hI;simp[h,List.getElem?_eq_getElem h,aO,aj,hlt,GH.aM];have ho:(op==12||op==13)=ob:=by
     rw[<-kp,Bool.eq_iff_iff];simp
    rw[ho];have ih':=Dp ob aD[i] n (H.set n (scp [.gm m1,.gm m2,.gm m3] ahead (60-left))) (.gm m1) (.gm m2) (.gm m3) ahead (60-left) 1 GH.aY (by omega) (by omega) (by omega) (by omega)
    rw[show 60-(60-left)=left by omega]at ih'
    simp only[GH.set_set,R1,aO,List.map_cons,List.map_nil,Bc]at ih';refine EC.of ih' (λv' H' hR=>?_) (λv' H' hR=>?_)
    ·cases hl:dJ ob aD[i] 1 left with
     |none=>rw[hl]at hR;cases hR.1
     |some l=>
      rw[hl]at hR hI;have hle:=mO _ _ _ _ hl;obtain⟨_,rfl⟩:=hR;simp[aB h hf.1.1];exact NX.go (i+1,l) (by simp;omega) ⟨h,hle.1,by simp only;omega,hI⟩ (by simp[aj])
    ·cases hl:dJ ob aD[i] 1 left with
     |some l=>rw[hl]at hR;obtain⟨⟨_,q⟩,_⟩:=hR;cases q
     |none=>
      rw[hl]at hR hI;obtain⟨q,m,rfl⟩:=hR;cases q;simp;refine λhz=>⟨_,vj _ hz,by simp[ck,LV.nb],?_⟩
      rw[hI];exact⟨rfl,_,rfl⟩
   ·have:aD.drop i=[]:=List.drop_eq_nil_of_le h;rw[this,cz]at hI;exact JN.go left hI (by simp[aj])
  ·have hlb:=oR _ _ _ _ hl (by omega)
   rw[hl];refine AW.ev cc ?_;simp[aj];refine AW.aV cc (λa:Nat×Int=>⟨[(0,.gp n 0),(2,aH depth),(156,.d (.sl (kids.map aS))),(157,aH kids.length),(158,aH a.1)],[],H.set n (scp [.gm m1,.gm m2,.gm m3] ahead (60-a.2))⟩) (λa=>kids.length-a.1)
    (λa=>a.1<=kids.length/\0<=a.2/\a.2<=l/\eW az ai ahead kids (depth+1) l=eW az ai ahead (kids.drop a.1) (depth+1) a.2) (0,l) ⟨⟨by simp,by simp;omega,by simp,by simp⟩,by simp⟩ ?_
   rintro⟨i,left⟩ ⟨hi,hl0,BA,hI⟩;simp only at hi hl0 BA hI;simp;refine⟨λh=>?_,λh=>?_⟩
   ·have hd:=List.drop_eq_getElem_cons h;rw[hd,eW]at hI;simp[h,List.getElem?_eq_getElem h,aj,hlt,w1,GH.aM];have ih':=ih kids[i] (List.getElem_mem h) n m1 m2 m3 (H.set n (scp [.gm m1,.gm m2,.gm m3] ahead (60-left))) ahead (60-left) (depth+1) (hs.set _ _) (by omega) (by omega) (by omega) (by omega)
    rw[show 60-(60-left)=left by omega]at ih'
    simp only[M8,GH.set_set,R1,aj,List.map_cons,List.map_nil,Bc]at ih';refine EC.of ih' (λv' H' hR=>?_) (λv' H' hR=>?_)
    ·cases hl:fU az ai ahead kids[i] (depth+1) left with
     |none=>rw[hl]at hR;cases hR.1
     |some l2=>
      rw[hl]at hR hI;have hle:=lV _ _ _ _ hl;obtain⟨_,hH⟩:=hR;rw[GH.set_set]at hH;subst hH;simp[aB h hf.2.1];exact NX.go (i+1,l2) (by simp;omega) ⟨h,hle.1,by simp only;omega,hI⟩ (by simp)
    ·cases hl:fU az ai ahead kids[i] (depth+1) left with
     |some l=>rw[hl]at hR;obtain⟨⟨_,q⟩,_⟩:=hR;cases q
     |none=>
      rw[hl]at hR hI;obtain⟨q,m,hH⟩:=hR;rw[GH.set_set]at hH;subst hH;cases q;simp;refine λhz=>⟨_,vj _ hz,by simp[ck,LV.nb],?_⟩
      rw[hI];exact⟨rfl,_,rfl⟩
   ·have:kids.drop i=[]:=List.drop_eq_nil_of_le h;rw[this,eW]at hI;rw[hI];exact λhz=>⟨_,vj _ hz,⟨_,rfl⟩,rfl⟩
theorem Hw(az ai:List cq):∀(e:bz) (n m1 m2 m3:Nat) (H:GH) (ahead nodes depth:Int),Cp H n m1 m2 m3 az ai ahead nodes->0<=nodes->nodes<=60->0<=depth->depth<=100->
   aG prog 156 [.gp n 0,lv (aS e),aH depth] H (M8 H n m1 m2 m3 ahead (fU az ai ahead e depth (60-nodes)))
 |.mk op name en fold aD kids,n,m1,m2,m3,H,ahead,nodes,depth,hs,h0,h1,Wv,BE=>
  OO op en fold name aD kids az ai (λk hk n m1 m2 m3 H ahead nodes depth hs h0 h1 Wv BE=>Hw az ai k n m1 m2 m3 H ahead nodes depth hs h0 h1 Wv BE) n m1 m2 m3 H ahead nodes depth hs h0 h1 Wv BE
theorem C9(l:List bz)(f:FuncId)(cap:List LV)(H:GH)(Kp:Nat->GH->Prop)(Sp:GH->Prop)(Pp:LV->GH->Prop)
  (hK:∀j H',Kp j H'->H.next<=H'.next) (hS:∀H',Sp H'->H.next<=H'.next) (hP:∀x H',Pp x H'->H.next<=H'.next/\x.nb H'.next) (hcap:cD H.next cap)
  (hc:∀(j:Nat) (h:j<l.length) (H':GH),Kp j H'->aG prog f ([lv (aS l[j])]++cap) H' λce H2=>match ce with
   |.ret v=>v=bool false/\Kp (j+1) H2\/ v=bool true/\Sp H2
   |.ej x=>Pp x H2) (h0:Kp 0 H):
  aG prog 213 [sl (l.map aS),.fn (.func f) [] cap] H λce H'=>match ce with
   |.ret v=>v=aH (-1)/\Kp l.length H'\/ (∃q:Nat,v=aH q)/\Sp H'
   |.ej x=>Pp x H':=by
 have cc:=aP;refine aG.bG aP func213 rfl call213 (by rw[ntmps213];simp) rfl λhf hw=>?_
 simp[ntmps213,results213]at hf|-;refine AW.aV cc (λa:Nat×GH=>⟨[(0,.d (.sl (l.map aS))),(1,.fn (.func f) [] cap),(7,aH l.length),(8,aH a.1)],[],a.2⟩) (λa=>l.length-a.1) (λa=>a.1<=l.length/\Kp a.1 a.2) (0,H) ⟨⟨by simp,h0⟩,by simp[LV.only,cT _ hcap,ec]⟩ ?_
 rintro⟨i,H'⟩ ⟨hi,hk⟩;simp only at hi hk;simp;have tH:=hK _ _ hk;refine⟨λh=>?_,λh=>?_⟩
 ·have gY:=hc i h H' hk;simp[aj]at gY;simp[h,List.getElem?_eq_getElem h,aj];refine⟨eV tH _ hcap,EC.of gY (λv H2 hR=>?_) (λv H2 hR=>?_)⟩
  ·rcases hR with⟨rfl,hR⟩|⟨rfl,hR⟩
   ·simp;exact NX.go (i+1,H2) (by simp;omega) ⟨h,hR⟩ (by simp[aB h hf.1.1,cT _ hcap])
   ·simp;exact λhz=>⟨H2,hz.drop (hS _ hR),⟨i,rfl⟩,hR⟩
  ·simp;exact λhz=>⟨H2,hz.drop (hP _ _ hR).1,(hP _ _ hR).2,hR⟩
 ·have:i=l.length:=by omega
  subst this;exact λhz=>⟨H',hz.drop tH,hk⟩
theorem o8(l:List bz)(f:FuncId)(cap:List LV)(H:GH)(Kp:Nat->GH->Prop)(Sp:GH->Prop)(Pp:LV->GH->Prop)
  (hK:∀j H',Kp j H'->H.next<=H'.next) (hS:∀H',Sp H'->H.next<=H'.next) (hP:∀x H',Pp x H'->H.next<=H'.next/\x.nb H'.next) (hcap:cD H.next cap)
  (hc:∀(j:Nat) (h:j<l.length) (H':GH),Kp j H'->aG prog f ([lv (aS l[j])]++cap) H' λce H2=>match ce with
   |.ret v=>v=bool false/\Kp (j+1) H2\/ v=bool true/\Sp H2
   |.ej x=>Pp x H2) (h0:Kp 0 H):
  aG prog 166 [sl (l.map aS),.fn (.func f) [] cap] H λce H'=>match ce with
   |.ret v=>v=bool false/\Kp l.length H'\/ v=bool true/\Sp H'
   |.ej x=>Pp x H':=by
 have cc:=aP;refine aG.bG aP func166 rfl call166 (by rw[ntmps166];simp) rfl λhf hw=>?_
 simp[ntmps166,results166]at hf|-;have hi:=C9 l f cap H Kp Sp Pp hK hS hP hcap hc h0;simp at hi;refine⟨by simp[LV.nb,cD,hcap],EC.of hi (λv H2 hR=>?_) (λv H2 hR=>?_)⟩
 ·rcases hR with⟨rfl,hR⟩|⟨⟨q,rfl⟩,hR⟩
  ·simp;exact λhz=>⟨H2,hz.drop (hK _ _ hR),hR⟩
  ·simp;exact λhz=>⟨H2,hz.drop (hS _ hR),hR⟩
 ·simp;exact λhz=>⟨H2,hz.drop (hP _ _ hR).1,(hP _ _ hR).2,hR⟩
theorem fu{a b:Nat}(h:a<=b){x:LV}(hx:x.nb a):x.nb b:=by
 have:=eV h [x] (by simp[cD,hx])
 simpa[cD]using this
theorem GO.fu{a b:Nat}(h:a<=b){o:GO}(ho:o.nb a):o.nb b:=by
 cases o with
 |box cs=>exact eV h _ ho
 |map es=>exact eV h _ ho
 |vec e g sz cells ex=>exact eV h _ ho
 |fz cs=>exact eV h _ ho
 |iter m s l k=>exact Nat.lt_of_lt_of_le ho h
 |loop f st pend env nt ps lR body d=>exact⟨Nat.lt_of_lt_of_le ho.1 h,λt=>Go.Aft.fu h (ho.2 t)⟩
 |arr=>trivial
 |qI=>trivial
theorem ei.mono{P:Program}{n:Nat}{args:List LV}{H:GH}{R R':CE->GH->Prop}(h:ei P n args H R)(hr:∀e H',R e H'->R' e H'):ei P n args H R':=by
 intro G w vs h1 h2 h3;obtain⟨fn,tmps,lR,body,q1,q2⟩:=h G w vs h1 h2 h3;exact⟨fn,tmps,lR,body,q1,RoundIn.mono q2 λe w' ⟨ce,H',G',q,r⟩=>⟨ce,H',G',hr _ _ q,r⟩⟩
theorem EY.of{P:Program}{n:Nat}{args:List LV}{H:GH}{s:S}{dst:Option Nat}{K:KT}{Q:QT}{R:CE->GH->Prop}(h:ei P n args H R)(hk:∀v H',R (.ret v) H'->@AP K (({s with H:=H'}:S).put dst v))
  (hp:∀x H',R (.ej x) H'->Q.q (.ej x) {s with H:=H'}):@EY P n args H s dst K Q:=
 ei.mono h λce H' hR=>by
  cases ce with
  |ret v=>exact hk v H' hR
  |ej x=>exact hp x H' hR
theorem jM:∀a b:List bz,bn (a++b)=bn a++bn b
 |[],b=>by simp[bn]
 |x::a,b=>by simp[bn,jM a b]
def jt(n m:Nat):List LV:=[.ip [.yl n] 0,.gp m 0]
def nC(n m:Nat):LV:=.fn (.func 165) [] (jt n m)
def je(e:bz):List LV:=(bc e).map λx=>lv (aS x)
def nZ(l:List bz):List LV:=(bn l).map λx=>lv (aS x)
def Cn(n N m:Nat)(rows:List LV)(J:Nat->GH->Prop)(St:GH->Prop)(Pn:LV->GH->Prop)(f:FuncId)(cap:List LV)(neg:Bool)(e:bz):Prop:=
 ∀(i:Nat) (H:GH),H.obj m=some (.box [nC n m])->N<=H.next->J i H->(∃tl,rows.drop i=je e++tl)->aG prog f ([lv (aS e)]++cap) H (av8 N J St Pn neg (i+(bc e).length) H)
theorem Pd{n N m:Nat}{rows:List LV}{J:Nat->GH->Prop}{St:GH->Prop}{Pn:LV->GH->Prop}(hI:Iter prog n N rows J St Pn){e:bz}(hnm:n<N/\N<=m)(h:Cn n N m rows J St Pn 165 (jt n m) false e):Cn n N m rows J St Pn 167 [.gp m 0] true e:=by
 intro i H hm hN hj ht;have cc:=au (p:=bf [2] [] []);refine aG.bG (au (p:=bf [2] [] [])) func167 rfl call167 (by rw[ntmps167];simp) rfl λhf hw=>?_
 have hc:=h i H hm hN hj ht;simp[aj,jt]at hc;have hlt:=hw.lt hm;simp[ntmps167,results167,aj,hm,nC,jt];refine⟨⟨by omega,hlt⟩,EC.of hc (λv H2 hR=>?_) (λv H2 hR=>?_)⟩
 ·obtain⟨hs,hR⟩:=hR;rcases hR with⟨rfl,hR⟩|⟨rfl,hR⟩
  ·simp;exact λhz=>⟨H2,hz.drop (by rw[hs.next];exact Nat.le_refl _),hs,by simp[hR]⟩
  ·simp;exact λhz=>⟨H2,hz.drop (by rw[hs.next];exact Nat.le_refl _),hs,by simp[hR]⟩
 ·obtain⟨hs,hR⟩:=hR;have hnb:=hI.stP hR (λ_ _=>rfl) (by rw[hs.next];exact hN)
  simp;exact λhz=>⟨H2,hz.drop (by rw[hs.next];exact Nat.le_refl _),fu (by rw[hs.next];exact hN) hnb.1,hs,hR⟩
theorem Iz{n N m:Nat}{rows:List LV}{J:Nat->GH->Prop}{St:GH->Prop}{Pn:LV->GH->Prop}(hI:Iter prog n N rows J St Pn)(hnm:n<N/\N<=m)(op en fold:Int)(name:cq)(aD:List bh)(kids:List bz)
  (ih:∀k∈kids,Cn n N m rows J St Pn 165 (jt n m) false k):Cn n N m rows J St Pn 165 (jt n m) false (.mk op name en fold aD kids):=by
 intro i H hm hN hj ht;obtain⟨tl,ht⟩:=ht;have cc:=au (p:=bf [3] [] []);have hrow:rows[i]?=some (lv (aS (.mk op name en fold aD kids))):=by
  have:(rows.drop i)[0]?=some (lv (aS (.mk op name en fold aD kids))):=by rw[ht];simp[je,bc]
  rw[List.getElem?_drop]at this;simpa using this
 have ht1:rows.drop (i+1)=nZ kids++tl:=by
  rw[<-List.drop_drop,ht];simp[je,nZ,bc]
 refine aG.bG (au (p:=bf [3] [] [])) func165 rfl call165 (by rw[ntmps165];simp[jt]) rfl λhf hw=>?_
 have hlt:=hw.lt hm;have hy:=hI.step hrow hN hw hj;simp[aj]at hy;simp[ntmps165,results165,aj,jt];refine EY.of hy (λv H1 hR=>?_) (λv H1 hR=>?_)
 rotate_left
 ·obtain⟨hs,hR⟩:=hR;have hnb:=hI.stP hR (λ_ _=>rfl) (by rw[hs.next];exact hN)
  simp;exact λhz=>⟨H1,hz.drop (by rw[hs.next];exact Nat.le_refl _),fu (by rw[hs.next];exact hN) hnb.1,hs,hR⟩
 ·obtain⟨hs,hR⟩:=hR;rcases hR with⟨rfl,hR⟩|⟨rfl,hR⟩
  ·simp;have hN1:N<=H1.next:=by rw[hs.next];exact hN
   have hm1:H1.obj m=some (.box [nC n m]):=by rw[hs.obj m hnm.2];exact hm
   have SF:=o8 kids 167 [.gp m 0] H1 (λj H'=>GH.same N H1 H'/\J (i+1+(bn (kids.take j)).length) H') (λH'=>GH.same N H1 H'/\St H') (λx H'=>GH.same N H1 H'/\Pn x H')
    (λj H' q=>by rw[q.1.next];exact Nat.le_refl _) (λH' q=>by rw[q.1.next];exact Nat.le_refl _)
    (λx H' q=>⟨by rw[q.1.next];exact Nat.le_refl _,fu (by rw[q.1.next];exact hN1) (hI.stP q.2 (λ_ _=>rfl) (by rw[q.1.next];exact hN1)).1⟩)
    (by simp[cD,LV.nb,hs.next,hlt]) (λj hj' H' q=>?_) ⟨GH.same.refl,by simpa[bn]using hR⟩
   ·simp at SF;refine⟨by rw[hs.next];exact hlt,EC.of SF (λv2 H2 qS=>?_) (λv2 H2 qS=>?_)⟩
    ·rcases qS with⟨rfl,hs2,qS⟩|⟨rfl,hs2,qS⟩
     ·have Ud:=hs.trans hs2;simp;refine λhz=>⟨H2,hz.drop (by rw[Ud.next];exact Nat.le_refl _),Ud,?_⟩
      have e:i+(bc (.mk op name en fold aD kids)).length=i+1+(bn kids).length:=by simp[bc];omega
      rw[e];simp[qS]
     ·have Ud:=hs.trans hs2;simp;exact λhz=>⟨H2,hz.drop (by rw[Ud.next];exact Nat.le_refl _),Ud,by simp[qS]⟩
    ·obtain⟨hs2,qS⟩:=qS;have Ud:=hs.trans hs2;have hnb:=hI.stP qS (λ_ _=>rfl) (by rw[Ud.next];exact hN)
     simp;exact λhz=>⟨H2,hz.drop (by rw[Ud.next];exact Nat.le_refl _),fu (by rw[Ud.next];exact hN) hnb.1,Ud,qS⟩
   ·obtain⟨qs,qj⟩:=q;have hsplit:kids=kids.take j++(kids[j]::kids.drop (j+1)):=by
     rw[<-List.drop_eq_getElem_cons hj',List.take_append_drop]
    have hall:bn kids=bn (kids.take j)++(bc kids[j]++bn (kids.drop (j+1))):=by
     conv=>lhs;rw[hsplit]
     rw[jM];simp only[bn]
    have gx:bn (kids.take (j+1))=bn (kids.take j)++bc kids[j]:=by
     rw[List.take_add_one,List.getElem?_eq_getElem hj',jM];simp[bn]
    have hdj:rows.drop (i+1+(bn (kids.take j)).length)=je kids[j]++(nZ (kids.drop (j+1))++tl):=by
     rw[<-List.drop_drop,ht1,nZ,hall,List.map_append,List.append_assoc];rw[List.drop_append_of_le_length (by simp),List.drop_eq_nil_of_le (by simp)]
     simp[je,nZ]
    have hk:=Pd hI hnm (ih kids[j] (List.getElem_mem hj')) (i+1+(bn (kids.take j)).length) H' (by rw[qs.obj m hnm.2];exact hm1) (by rw[qs.next];exact hN1) qj ⟨_,hdj⟩
    refine hk.mono λce H2 qS=>?_
    obtain⟨s2,qS⟩:=qS;cases ce with
    |ret v=>
     rcases qS with⟨rfl,qS⟩|⟨rfl,qS⟩
     ·exact .inl ⟨rfl,qs.trans s2,by rw[gx,List.length_append,<-Nat.add_assoc];exact qS⟩
     ·exact .inr ⟨rfl,qs.trans s2,qS⟩
    |ej x=>exact⟨qs.trans s2,qS⟩
  ·simp;exact λhz=>⟨H1,hz.drop (by rw[hs.next];exact Nat.le_refl _),hs,by simp[hR]⟩
theorem AU{n N m:Nat}{rows:List LV}{J:Nat->GH->Prop}{St:GH->Prop}{Pn:LV->GH->Prop}(hI:Iter prog n N rows J St Pn)(hnm:n<N/\N<=m):∀e:bz,Cn n N m rows J St Pn 165 (jt n m) false e
 |.mk op name en fold aD kids=>Iz hI hnm op en fold name aD kids λk hk=>AU hI hnm k
def iF(e:bz):LV:=.fn (.func 164) [] [.ip ((aS e).map .d) 0]
theorem pK(e:bz):aC prog 98 [lv (aS e)] (iF e):=by
 refine aC.body (au (p:=bf [1] [] [])) func98 rfl call98 (by rw[ntmps98];simp) rfl λhf H=>?_
 simp[ntmps98,results98,aj,iF,LV.nb,cD]
theorem wV{n N:Nat}{e:bz}{J:Nat->GH->Prop}{St:GH->Prop}{Pn:LV->GH->Prop}(hI:Iter prog n N (je e) J St Pn)(hnN:n<N)(H:GH)(hN:N<=H.next)(hj:J 0 H):
  aG prog 164 [.yl n,.ip ((aS e).map .d) 0] H λce H'=>GH.same N H H'/\(match ce with
   |.ret v=>J (bc e).length H'\/ St H'
   |.ej x=>Pn x H'):=by
 have cc:=au (p:=bf [2] [3] []);refine aG.bG (au (p:=bf [2] [3] [])) func164 rfl call164 (by rw[ntmps164];simp) rfl λhf hw=>?_
 simp[ntmps164,results164,aj,GH.ax,GH.aq,GH.cV];have xq:∀m,m<N->(H.add (.box [nC n H.next])).obj m=H.obj m:=λm hm=>by rw[GH.ax,if_neg (by omega)]
 have hc:=AU hI ⟨hnN,hN⟩ e 0 (H.add (.box [nC n H.next])) (by rw[GH.ax,if_pos rfl]) (by rw[GH.aq];omega) (hI.stJ hj xq (by rw[GH.aq];omega)) ⟨[],by simp⟩
 simp[aj,jt,nC]at hc;have BF:∀H2,GH.same N (H.add (.box [nC n H.next])) H2->gU H2->(∀m o,m<N->H2.obj m=some o->o.nb N)->Drop H H2 (H2.cut H.next)/\GH.same N H (H2.cut H.next):=λH2 hs hz hnb=>by
  refine⟨hz.WX (by rw[hs.next,GH.aq];omega) (Nat.le_refl _) λm o hm ho=>?_,rfl,λm hm=>?_⟩
  ·by_cases hmN:m<N
   ·refine .inr ?_;have:=hnb m o hmN ho;exact GO.fu hN this
   ·rw[hs.obj m (by omega),GH.ax,if_neg (by omega)]at ho
    exact .inl ho
  ·by_cases Mu:m<H.next
   ·rw[GH.xE Mu,hs.obj m hm,GH.ax,if_neg (by omega)]
   ·rw[GH.MN (by omega),hw.none m (by omega)]
 refine⟨by omega,EC.of hc (λv H2 hR=>?_) (λv H2 hR=>?_)⟩
 ·obtain⟨hs,hR⟩:=hR;simp;refine λhz=>?_
  rcases hR with⟨_,hR⟩|⟨_,hR⟩
  ·obtain⟨q1,q2⟩:=BF H2 hs hz (hI.nbJ hR);exact⟨_,q1,q2,.inl (hI.stJ hR (λm hm=>GH.xE (by omega)) (by rw[GH.wm];exact hN))⟩
  ·obtain⟨q1,q2⟩:=BF H2 hs hz (hI.nbS hR);exact⟨_,q1,q2,.inr (hI.stS hR (λm hm=>GH.xE (by omega)) (by rw[GH.wm];exact hN))⟩
 ·obtain⟨hs,hR⟩:=hR;simp;refine λhz=>?_
  obtain⟨q1,q2⟩:=BF H2 hs hz (hI.nbP hR);have:=hI.stP hR (H':=H2.cut H.next) (λm hm=>GH.xE (by omega)) (by rw[GH.wm];exact hN)
  exact⟨_,q1,fu (by rw[GH.wm];exact hN) this.1,q2,this.2⟩
end Go.Aft
end
