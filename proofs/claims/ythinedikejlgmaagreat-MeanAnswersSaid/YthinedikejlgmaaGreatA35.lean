import Derived.Test.YthinedikejlgmaaGreatA34
import Derived.Test.YthinedikejlgmaaGreatA28
import Derived.Test.YthinedikejlgmaaGreatA32
import Derived.Test.YthinedikejlgmaaGreatA20
import Derived.Test.YthinedikejlgmaaGreatA29
import Derived.Test.YthinedikejlgmaaGreatA25
set_option linter.all false
section
set_option maxRecDepth 20000
namespace Go.Aft
open Go.Proofs.Tryz
theorem rW{p:Prog}{l:List Event}(h:fE p l=true):formed p/\l.length<=60/\∀e∈l,mU ⟨e.aa,1⟩:=by
 simp only[fE,Bool.and_eq_true,decide_eq_true_eq]at h;obtain⟨⟨⟨h1,h2⟩,h3⟩,h4⟩:=h;refine⟨h1,h2,λe he=>?_⟩
 unfold iD qT at h4;simp only[Bool.and_eq_true,Bool.not_eq_true',List.any_eq_false]at h4;have h5:=h4.1.2 (Bn e) (List.mem_map.2 ⟨e,he,rfl⟩);have h6:qi (Bn e) p.az.length=true:=by simpa using h5
 have h7:mm e.aa=true:=by
  unfold qi at h6;simp only[Bn,if_true,Bool.and_eq_true,qJ]at h6;exact h6.2.2
 have:=Mz h7;exact⟨this.1,this.2.1,this.2.2,by simp only;omega,by simp only;omega⟩
noncomputable def iB (p:Prog) (l:List Event):LV:=if fE p l=true then(match fA p l with
 |some aj=>.dx [sl (aj.map bX),aH 0]
 |none=>.dx [sl [],aH 3])else .dx [sl [],aH 2]
theorem ML(p:Prog)(hs:∀s∈p.az++an p,cN s)(l:List Event):aC prog 25 [lv (ax p),sl (l.map bg)] (iB p l):=by
 intro H;have cc:=ar (p:=aY [2] [] []);refine aF.dV (ar (p:=aY [2] [] [])) func25 rfl call25 (by rw[ntmps25];simp) rfl λhf hw=>?_
 have h1:=tZ p hs l;simp[ax]at h1;simp[ntmps25,results25,ax]at hf|-;refine AW.seq cc ?_;simp;refine AW.seq cc ?_;simp;refine EC.aJ h1 ?_;cases ha:fE p l with
 |false=>
  simp[iB,ha];exact λhz=>cC hz
 |true=>
  obtain⟨hp,hl,hi⟩:=rW ha;have hb:=rD hp;have hk:=Au p hs hp (by have:=hb.s1;omega) (by have:=hb.s4;omega) (kD hp) hb.dif (pT hp) l hl hi H
  simp[ax]at hk;simp;refine AW.seq cc ?_;simp;refine EC.of hk (λv H2 hR=>?_) (λv H2 hR=>by
   unfold qa at hR
   split at hR
   ·obtain⟨q,_⟩:=hR;cases q
   ·obtain⟨_,_,_,_,_,q,_⟩:=hR;cases q)
  unfold qa at hR;cases hkn:fA p l with
  |none=>
   rw[hkn]at hR;obtain⟨q1,q2⟩:=hR;cases q1;rw[q2];simp;refine AW.seq cc ?_;simp;exact λhz=>⟨cC hz,by simp[iB,ha,hkn]⟩
  |some aj=>
   rw[hkn]at hR;obtain⟨n,ms,mn,mv,ma,q1,q2,hW,q4,q5,q6⟩:=hR;cases q1;simp;have hlen:∀r∈aj.map bX,r.length=1:=λr hr=>by obtain⟨_,_,rfl⟩:=List.mem_map.1 hr;rfl
   have hfl:aj.map bY=bG (aj.map bX):=by
    clear hW hkn
    induction aj with
    |nil=>rfl
    |cons b l ih=>rw[List.map_cons,List.map_cons,ih (λr hr=>by obtain⟨_,_,rfl⟩:=List.mem_map.1 hr;rfl)];rfl
   have jP:=hW.Mn.ob;have hnmv:n≠mv:=λe=>by
    have:=hW.Mn.ov;rw[<-e,jP]at this;cases this
   refine AW.cL (n:=mv) (g:=0) (sz:=1) (e:=30) (ex:=true) (aj.map bX) hW.Mn.ov hfl hlen ?_;simp;refine AW.seq cc ?_;simp;refine AW.ev cc ?_;simp[jP,hnmv];refine λhz=>⟨aO q4 (λm hm=>lB hw q2 (λk hk=>q5 k hk) hm) hw.none,?_⟩
   have ht:List.take aj.length (aj.map bX)=aj.map bX:=List.take_of_length_le (by simp)
   rw[ht];simp[iB,ha,hkn]
noncomputable def Ae (p:Prog):LV:=open Classical in if formed p then .dx [sl ((gR p.aj.length (bh p)).map rT),aH 0]else .dx [sl [],aH 2]
theorem Lm(p:Prog)(hs:∀s∈p.az++an p,cN s):aC prog 18 [lv (ax p)] (Ae p):=by
 refine aC.body (ar (p:=aY [1] [] [])) func18 rfl call18 (by rw[ntmps18];simp) rfl λhf H=>?_
 have h1:=zm p hs;simp[ax]at h1;simp[ntmps18,results18,ax];refine EC.aJ h1 ?_;by_cases hp:formed p
 ·have hb:=rD hp;have h2:=xE p hs hp (by have:=hb.s1;omega) (by have:=hb.s4;omega) (kD hp)
  simp[ax]at h2;simp[hp];refine EC.of (h2 H) (λv H2 hR=>?_) (λv H2 hR=>by obtain⟨q,_⟩:=hR;cases q)
  obtain⟨q1,q2⟩:=hR;cases q1;rw[q2];simp[Ae,hp]
 ·simp[hp,Ae]
noncomputable def s9 (p:Prog) (l:List Event) (src:Int):LV:=if fE p l=true/\0<=src/\src<p.az.length then .dx [bY (mZ l src),aH 0]else .dx [sl [],aH 2]
theorem Oq(p:Prog)(hs:∀s∈p.az++an p,cN s)(l:List Event)(src:Int):aC prog 20 [lv (ax p),sl (l.map bg),aH src] (s9 p l src):=by
 refine aC.body (ar (p:=aY [3] [] [])) func20 rfl call20 (by rw[ntmps20];simp) rfl λhf H=>?_
 have h1:=tZ p hs l;simp[ax]at h1;simp[ntmps20,results20,ax];refine EC.aJ h1 ?_;cases ha:fE p l with
 |false=>simp[s9,ha]
 |true=>
  have h2:=Dd l src (by have:=(rW ha).2.1;omega)
  simp at h2;by_cases h0:src<0
  ·have hV:s9 p l src=.dx [sl [],aH 2]:=by unfold s9;rw[if_neg (by omega)]
   simp[h0,hV]
  ·by_cases h3:(p.az.length:Int)<=src
   ·have hV:s9 p l src=.dx [sl [],aH 2]:=by unfold s9;rw[if_neg (by omega)]
    simp[h0,h3,hV]
   ·have hV:s9 p l src=.dx [bY (mZ l src),aH 0]:=by unfold s9;rw[if_pos ⟨ha,by omega,by omega⟩]
    simp[h0,h3];refine EC.aJ h2 ?_;simp[hV,bY]
mutual
def Oi:bc->Prop
 |.mk op n kids=>kids.length*40<=140737488351232/\vZ kids
def vZ:List bc->Prop
 |[]=>True
 |c::cs=>Oi c/\vZ cs
end
mutual
def Ag:bw->Prop
 |.mk op name n fold aD kids=>aD.length*40<=140737488351232/\kids.length*88<=140737488351232/\vZ aD/\u0 kids
def u0:List bw->Prop
 |[]=>True
 |e::es=>Ag e/\u0 es
end
def okP(p:Prog):Prop:=p.az.length*16<=140737488351232/\p.aj.length*104<=140737488351232/\∀d∈p.aj,Ag d.exp
mutual
theorem z6:∀c:bc,Oi c->aC prog 136 [lv (bB c)] (lv (bB c))
 |.mk op n kids,h=>by
  rw[Oi]at h;exact yt op n kids h.1 (kV kids h.2)
theorem kV:∀cs:List bc,vZ cs->∀k∈cs,aC prog 136 [lv (bB k)] (lv (bB k))
 |[],_,k,hk=>by cases hk
 |c::cs,h,k,hk=>by
  rw[vZ]at h;rcases List.mem_cons.1 hk with q|hk
  ·rw[q];exact z6 c h.1
  ·exact kV cs h.2 k hk
end
theorem zZ(op:Int)(name:ca)(n fold:Int)(aD:List bc)(kids:List bw)(hc:aD.length*40<=140737488351232)(hk:kids.length*88<=140737488351232)(hcs:∀k∈aD,aC prog 136 [lv (bB k)] (lv (bB k)))
  (ih:∀k∈kids,aC prog 72 [lv (aQ k)] (lv (aQ k))):aC prog 72 [lv (aQ (.mk op name n fold aD kids))] (lv (aQ (.mk op name n fold aD kids))):=by
 have cc:=ar (p:=aY [1] [] []);refine aC.body (ar (p:=aY [1] [] [])) func72 rfl call72 (by rw[ntmps72];simp) rfl λhf H=>?_
 simp[ntmps72,results72,ai,bw.op,bw.n,bw.kids,bw.name,bw.fold,bw.aD];refine AW.aU cc (λa:Nat×LV×GH=>⟨[(1,.ip [aH op,.d (.k (.string name)),aH n,aH fold,sl (aD.map bB),sl (kids.map aQ)] 0),(2,.lp 2 0),(3,.lp 3 0),(4,aH a.1)],
  [(2,[aH 0,.d (.k (.string ⟨#[]⟩)),aH 0,aH 0,.d (.k (.slice none 0 0)),.d (.k (.slice none 0 0))]),(3,[aH op,.d (.k (.string name)),aH n,aH fold,a.2.1,.d (.k (.slice none 0 0))])],a.2.2⟩) (λa=>aD.length-a.1) (λa=>a.1<=aD.length/\cm 25 3 H a.2.1 ((aD.take a.1).map bB) a.2.2) (0,.d (.k (.slice none 0 0)),H) ⟨⟨Nat.zero_le _,.nil⟩,by simp⟩ ?_
 rintro⟨i,x,H'⟩ ⟨hi,aA⟩;simp only at hi aA;simp;refine⟨λh=>?_,λh=>?_⟩
 ·refine AW.draw cc [(7,.n)] (.q 0<|.q 2<|.q 4<|.q 1<|.f<|.one 3<|.q 5<|.f<|.one 6<|.q 7<|.q 8<|.f<|.one 9<|.q 10<|.f<|.one 11<|.done) (by kernel_rfl) ?_
  simp[h,List.getElem?_eq_getElem h,aN];refine FC.aJ (v:=lv (bB aD[i])) (by simpa[aN]using hcs aD[i] (List.getElem_mem h)) ?_
  simp[aN];refine eE.dJ (ys:=[bB aD[i]]) P9 rfl P8 (by simp) (x:=x) (by simp) aA (by simp[aN,rowsOf]) (by simp) (λr hr=>by obtain⟨_,_,rfl⟩:=List.mem_map.1 hr;simp) (by simp) (by simp;omega) (by simp) λx' H' aG _ _=>?_
  rw[show(aD.take i).map bB++[bB aD[i]]=(aD.take (i+1)).map bB by rw[<-aR h,List.map_append];rfl]at aG
  simp[aG.plain.all,aG.only,aB (n:=9223372036854775807) (show i<9223372036854775807 by omega)]
  exact NX.go (i+1,x',H') (by simp only;omega) ⟨h,aG⟩ (by simp[aG.only])
 ·have e:i=aD.length:=by omega
  subst e;rw[List.take_length]at aA;simp[aA.plain.all];refine AW.aU cc (λa:Nat×LV×GH=>⟨[(1,.ip [aH op,.d (.k (.string name)),aH n,aH fold,sl (aD.map bB),sl (kids.map aQ)] 0),(2,.lp 2 0),(3,.lp 3 0),(5,aH a.1)],
   [(2,[aH 0,.d (.k (.string ⟨#[]⟩)),aH 0,aH 0,.d (.k (.slice none 0 0)),.d (.k (.slice none 0 0))]),(3,[aH op,.d (.k (.string name)),aH n,aH fold,x,a.2.1])],a.2.2⟩) (λa=>kids.length-a.1) (λa=>a.1<=kids.length/\cm 68 6 H' a.2.1 ((kids.take a.1).map aQ) a.2.2) (0,.d (.k (.slice none 0 0)),H') ⟨⟨Nat.zero_le _,.nil⟩,by simp[aA.only]⟩ ?_
  rintro⟨i,y,H2⟩ ⟨hi,hy⟩;simp only at hi hy;simp[aA.plain.all];refine⟨λh=>?_,λh=>?_⟩
  ·refine AW.draw cc [(7,.n)] (.q 0<|.q 2<|.q 4<|.q 1<|.f<|.one 3<|.q 5<|.f<|.one 6<|.q 7<|.q 8<|.f<|.one 9<|.q 10<|.f<|.one 11<|.done) (by kernel_rfl) ?_
   simp[h,List.getElem?_eq_getElem h,ai];refine FC.aJ (v:=lv (aQ kids[i])) (by simpa[ai]using ih kids[i] (List.getElem_mem h)) ?_
   simp[ai];refine eE.dJ (ys:=[aQ kids[i]]) CD rfl CC (by simp) (x:=y) (by simp) hy (by simp[ai,rowsOf]) (by simp) (λr hr=>by obtain⟨_,_,rfl⟩:=List.mem_map.1 hr;simp) (by simp) (by simp;omega) (by simp) λy' H3 hy' _ _=>?_
   rw[show(kids.take i).map aQ++[aQ kids[i]]=(kids.take (i+1)).map aQ by rw[<-aR h,List.map_append];rfl]at hy'
   simp[aA.plain.all,hy'.plain.all,hy'.only,aB (n:=9223372036854775807) (show i<9223372036854775807 by omega)]
   exact NX.go (i+1,y',H3) (by simp only;omega) ⟨h,hy'⟩ (by simp[aA.only,hy'.only])
  ·have e:i=kids.length:=by omega
   subst e;rw[List.take_length]at hy;have ha2:=aA.mono hy.nx hy.ob;simp[aA.plain.all,hy.plain.all,aA.fz,hy.fz];exact⟨by rw[ai];rfl,ha2.nx,ha2.ob⟩
mutual
theorem tg:∀e:bw,Ag e->aC prog 72 [lv (aQ e)] (lv (aQ e))
 |.mk op name n fold aD kids,h=>by
  rw[Ag]at h;exact zZ op name n fold aD kids h.1 h.2.1 (kV aD h.2.2.1) (qQ kids h.2.2.2)
theorem qQ:∀es:List bw,u0 es->∀k∈es,aC prog 72 [lv (aQ k)] (lv (aQ k))
 |[],_,k,hk=>by cases hk
 |c::cs,h,k,hk=>by
  rw[u0]at h;rcases List.mem_cons.1 hk with q|hk
  ·rw[q];exact tg c h.1
  ·exact qQ cs h.2 k hk
end
theorem Md{o:Bool}{op n:Int}{k:Nat}(h:fk o op n k=true):k<=2:=by
 unfold fk at h
 split at h
 ·simp at h;omega
 ·split at h
  ·simp at h;omega
  ·split at h
   ·simp at h;omega
   ·simp at h;omega
mutual
theorem Ow{o:Bool}:∀(c:bc) (d f l:Int),dy o c d f=some l->Oi c
 |.mk op n kids,d,f,l,h=>by
  rw[dy]at h
  split at h
  ·rename_i hc;have:=Md hc.2.2;exact⟨by omega,ua kids _ _ _ h⟩
  ·cases h
theorem ua{o:Bool}:∀(cs:List bc) (d f l:Int),cp o cs d f=some l->vZ cs
 |[],d,f,l,h=>trivial
 |c::cs,d,f,l,h=>by
  rw[cp]at h
  split at h
  ·rename_i l' hl;exact⟨Ow c _ _ _ hl,ua cs _ _ _ h⟩
  ·cases h
end
theorem It{α:Type}{c:Prop}[Decidable c]{a x:α}{o:Option α}{P:α->Prop}(h:(if c then some a else o)=some x)(h1:P a)(h2:o=some x->P x):P x:=by
 by_cases q:c
 ·rw[if_pos q]at h;cases h;exact h1
 ·rw[if_neg q]at h;exact h2 h
theorem N3{op:Int}{x:PV}(h:bF op=some x):x.kids<=2/\x.aD<=2:=by
 unfold bF at h
 iterate 13
  refine It (P:=λx:PV=>x.kids<=2/\x.aD<=2) h (by decide) λh=>?_
 cases h
mutual
theorem Im{az aj:List ca}{a:Int}:∀(e:bw) (d f l:Int),fF az aj a e d f=some l->Ag e
 |.mk op name n fold aD kids,d,f,l,h=>by
  rw[fF]at h
  split at h
  ·rename_i hc;obtain⟨x,hx,k1,k2⟩:=DL hc.2.2.1;have:=N3 hx
   split at h
   ·rename_i l1 h1;exact⟨by omega,by omega,ua aD _ _ _ h1,Dk kids _ _ _ h⟩
   ·cases h
  ·cases h
theorem Dk{az aj:List ca}{a:Int}:∀(es:List bw) (d f l:Int),eO az aj a es d f=some l->u0 es
 |[],d,f,l,h=>trivial
 |c::cs,d,f,l,h=>by
  rw[eO]at h
  split at h
  ·rename_i l' hl;exact⟨Im c _ _ _ hl,Dk cs _ _ _ h⟩
  ·cases h
end
theorem Dm{az names:List ca}:∀(ds:List TJ) (a left l:Int),iP az names ds a left=some l->∀d∈ds,Ag d.exp
 |[],a,left,l,h,d,hd=>by cases hd
 |x::ds,a,left,l,h,d,hd=>by
  rw[iP]at h
  split at h
  ·rename_i l' hl;rcases List.mem_cons.1 hd with q|hd
   ·rw[q];exact Im _ _ _ _ hl
   ·exact Dm ds _ _ _ h d hd
  ·cases h
theorem OX{p:Prog}(h:formed p):okP p/\p.aj.length<=6:=by
 obtain⟨⟨l,hl⟩,_⟩:=h;unfold fh at hl
 split at hl
 ·rename_i hc;exact⟨⟨by omega,by omega,Dm _ _ _ _ hl⟩,hc.2.2.1⟩
 ·cases hl
end Go.Aft
end
section
set_option maxRecDepth 20000
namespace Go.Aft
mutual
def jL(f:ca->ca):bw->bw
 |.mk op name n fold aD kids=>.mk op (f name) n fold aD (nZ f kids)
def nZ(f:ca->ca):List bw->List bw
 |[]=>[]
 |e::es=>jL f e::nZ f es
end
theorem nY(f:ca->ca):∀l,nZ f l=l.map (jL f)
 |[]=>rfl
 |e::es=>by rw[nZ,nY f es,List.map_cons]
structure S7(f:ca->ca)(L:List ca):Prop where
 zero:f cF=cF
 name:∀s∈L,gE (f s)=true
 inj:∀s∈L,∀t∈L,f s=f t->s=t
theorem Ak{s:ca}(h:gE s=true):s≠cF:=by
 rintro rfl;simp[gE,cF,ByteArray.size]at h
theorem E8{f:ca->ca}:∀(l:List ca) (s:ca),(∀x∈l,f x=f s->x=s)->idx (l.map f) (f s)=idx l s
 |[],s,_=>rfl
 |x::l,s,h=>by
  rw[List.map_cons,ry,ry,E8 l s λy hy=>h y (List.mem_cons_of_mem _ hy)]
  by_cases e:x=s
  ·subst e;simp
  ·rw[if_neg e,if_neg λq=>e (h x (List.mem_cons_self ..) q)]
theorem Dn{α:Type}{c:Prop}[Decidable c]{a x:α}{o:Option α}{P:α->Prop}(h:(if c then some a else o)=some x)(h1:c->P a)(h2:o=some x->P x):P x:=by
 by_cases q:c
 ·rw[if_pos q]at h;cases h;exact h1 q
 ·rw[if_neg q]at h;exact h2 h
theorem Qh{op:Int}{x:PV}(h:bF op=some x):x.name=true->op=1\/ op=2\/ op=3:=by
 unfold bF at h;refine Dn (P:=λx:PV=>x.name=true->op=1\/ op=2\/ op=3) h (λc _=>by omega) λh=>?_
 refine Dn (P:=λx:PV=>x.name=true->op=1\/ op=2\/ op=3) h (λc _=>by omega) λh=>?_
 iterate 11
  refine It (P:=λx:PV=>x.name=true->op=1\/ op=2\/ op=3) h (λq=>by cases q) λh=>?_
 cases h
theorem L2{op n fold:Int}{name:ca}{nc nk:Nat}(h:gI op name n fold nc nk=true):name≠cF↔op=1\/ op=2\/ op=3:=by
 unfold gI at h
 split at h
 ·cases h
 ·rename_i x hx;simp only[Bool.and_eq_true,decide_eq_true_eq,beq_iff_eq]at h;have hn:=h.1.1.2;constructor
  ·intro q;exact Qh hx (by rw[hn];simpa using q)
  ·intro q;rcases q with rfl|rfl|rfl<;>(simp[bF]at hx;subst hx;simpa using hn.symm)
theorem O0{op n fold:Int}{name name':ca}{nc nk:Nat}(h:gI op name n fold nc nk=true)(hn:name'≠cF↔name≠cF):gI op name' n fold nc nk=true:=by
 unfold gI at h|-
 split at h
 ·cases h
 ·rename_i x hx;rw[show decide (name'≠cF)=decide (name≠cF)from decide_eq_decide.2 hn]
  exact h
theorem pG{az aj:List ca}{a op:Int}{name:ca}(h:di az aj a op name=true):(op=1->name∈az)/\(op=2\/ op=3->name∈aj):=by
 unfold di at h;constructor
 ·rintro rfl;simp at h;exact(je _ _).1 h
 ·rintro(rfl|rfl)
  ·simp at h;exact(je _ _).1 h.1
  ·simp at h;exact(je _ _).1 h
theorem Ld{f:ca->ca}{az aj:List ca}(hf:S7 f (az++aj)){a op:Int}{name:ca}(h:di az aj a op name=true):di (az.map f) (aj.map f) a op (f name)=true:=by
 have hm:=pG h;have hs:op=1->idx (az.map f) (f name)=idx az name:=λq=>E8 _ _ λx hx e=>hf.inj _ (by simp[hx]) _ (by simp[hm.1 q]) e
 have hd:op=2\/ op=3->idx (aj.map f) (f name)=idx aj name:=λq=>E8 _ _ λx hx e=>hf.inj _ (by simp[hx]) _ (by simp[hm.2 q]) e
 unfold di at h|-;by_cases q1:op=1
 ·rw[if_pos q1]at h|-;rw[hs q1];exact h
 ·rw[if_neg q1]at h|-;by_cases q2:op=2
  ·rw[if_pos q2]at h|-;rw[hd (.inl q2)];exact h
  ·rw[if_neg q2]at h|-;by_cases q3:op=3
   ·rw[if_pos q3]at h|-;rw[hd (.inr q3)];exact h
   ·rw[if_neg q3]
mutual
theorem N8{f:ca->ca}{az aj:List ca}(hf:S7 f (az++aj)){a:Int}:∀(e:bw) (d l l':Int),fF az aj a e d l=some l'->fF (az.map f) (aj.map f) a (jL f e) d l=some l'
 |.mk op name n fold aD kids,d,l,l',h=>by
  rw[jL];rw[fF]at h|-
  split at h
  ·rename_i hc;obtain⟨h1,h2,h3,h4⟩:=hc;have hne:f name≠cF↔name≠cF:=by
    constructor
    ·intro q r;rw[r]at q;exact q hf.zero
    ·intro q;rcases(L2 h3).1 q with r|r
     ·exact Ak (hf.name _ (by simp[(pG h4).1 r]))
     ·exact Ak (hf.name _ (by simp[(pG h4).2 r]))
   rw[if_pos ⟨h1,h2,by rw[nY,List.length_map];exact O0 h3 hne,Ld hf h4⟩]
   split at h
   ·exact xk hf kids _ _ _ h
   ·cases h
  ·cases h
theorem xk{f:ca->ca}{az aj:List ca}(hf:S7 f (az++aj)){a:Int}:∀(es:List bw) (d l l':Int),eO az aj a es d l=some l'->eO (az.map f) (aj.map f) a (nZ f es) d l=some l'
 |[],d,l,l',h=>by rw[nZ];rw[eO]at h|-;exact h
 |e::es,d,l,l',h=>by
  rw[nZ];rw[eO]at h|-
  split at h
  ·rename_i l1 Dr;rw[N8 hf e _ _ _ Dr];exact xk hf es _ _ _ h
  ·cases h
end
mutual
theorem SU(f:ca->ca):∀e,bn (jL f e)=(bn e).map (jL f)
 |.mk op name n fold aD kids=>by rw[jL,bn,bn,List.map_cons,jL,D7 f kids]
theorem D7(f:ca->ca):∀es,bu (nZ f es)=(bu es).map (jL f)
 |[]=>rfl
 |e::es=>by rw[nZ,bu,bu,List.map_append,SU f e,D7 f es]
end
mutual
theorem Lo{az aj:List ca}{a:Int}:∀(e:bw) (d l l':Int),fF az aj a e d l=some l'->∀x∈bn e,(x.op=1->x.name∈az)/\(x.op=2\/ x.op=3->x.name∈aj)
 |.mk op name n fold aD kids,d,l,l',h,x,hx=>by
  rw[fF]at h
  split at h
  ·rename_i hc
   split at h
   ·rw[bn]at hx;rcases List.mem_cons.1 hx with q|hx
    ·rw[q];exact pG hc.2.2.2
    ·exact xK kids _ _ _ h x hx
   ·cases h
  ·cases h
theorem xK{az aj:List ca}{a:Int}:∀(es:List bw) (d l l':Int),eO az aj a es d l=some l'->∀x∈bu es,(x.op=1->x.name∈az)/\(x.op=2\/ x.op=3->x.name∈aj)
 |[],d,l,l',h,x,hx=>by rw[bu]at hx;cases hx
 |e::es,d,l,l',h,x,hx=>by
  rw[eO]at h
  split at h
  ·rename_i l1 Dr;rw[bu]at hx;rcases List.mem_append.1 hx with hx|hx
   ·exact Lo e _ _ _ Dr x hx
   ·exact xK es _ _ _ h x hx
  ·cases h
end
mutual
theorem NZ{f:ca->ca}(h0:f cF=cF):∀e,CK (jL f e)=((CK e).1,jL f (CK e).2)
 |.mk op name n fold aD kids=>by
  rw[jL,CK,CK];by_cases h:op=5
  ·rw[if_pos h,if_pos h,Kv h0 kids]
  ·rw[if_neg h,if_neg h,jL]
theorem Kv{f:ca->ca}(h0:f cF=cF):∀es,mb (nZ f es)=((mb es).1,jL f (mb es).2)
 |[]=>by
  have:jL f default=default:=by
   show jL f (.mk 0 cF 0 0 [] [])=.mk 0 cF 0 0 [] []
   rw[jL,h0,nZ]
  rw[nZ,mb,this]
 |e::es=>by rw[nZ,mb,mb,NZ h0 e]
end
end Go.Aft
end
section
set_option maxRecDepth 20000
namespace Go.Aft
open Go.Proofs.Tryz
theorem wQ(l:List bc)(hl:l.length*40<=140737488351232)(hk:∀k∈l,aC prog 161 [lv (bB k)] (lv (bB k))):aC prog 160 [sl (l.map bB),.fn (.func 161) [] []] (sl (l.map bB)):=by
 have cc:=aP;refine aC.body aP func160 rfl call160 (by rw[ntmps160];simp) rfl λhf H=>?_
 simp[ntmps160,results160]at hf|-;refine AW.aU cc (λa:Nat×LV×GH=>⟨[(1,.fn (.func 161) [] []),(5,a.2.1),(8,.d (.sl (l.map bB))),(9,aH l.length),(10,aH a.1)],[],a.2.2⟩) (λa=>l.length-a.1) (λa=>a.1<=l.length/\B3 25 3 H a.2.1 ((l.take a.1).map bB) a.2.2) (0,.d (.k (.slice none 0 0)),H) ⟨⟨by simp,.nil⟩,by simp⟩ ?_
 rintro⟨i,x,H'⟩ ⟨hi,aA⟩;simp only at hi aA;simp;refine⟨λh=>?_,λh=>?_⟩
 ·have hd:=hk l[i] (List.getElem_mem h);simp[aN]at hd;simp[h,List.getElem?_eq_getElem h,aN,aA.plain.all];refine EC.aJ hd ?_;simp[aA.plain.all];refine eE.BE bB (l.take i) [l[i]] P9 rfl P8 (by simp) sx (x:=x) (by simp) aA (by simp[aN,rowsOf]) (by simp) (by simp;omega) (by simp) λx' H2 aG=>?_
  rw[show(l.take i)++[l[i]]=l.take (i+1)from aR h]at aG
  simp[aG.plain.all,aG.only,aB (n:=9223372036854775807) (show i<9223372036854775807 by omega)]
  exact NX.go (i+1,x',H2) (by simp;omega) ⟨h,aG⟩ (by simp[aG.only,aG.plain.all,LV.only])
 ·have:i=l.length:=by omega
  subst this;rw[List.take_length]at aA;have hz:=aA.fz;simp[aA.plain.all,hz.1];exact hz.2
theorem Gn(op n:Int)(kids:List bc)(hl:kids.length*40<=140737488351232)(hk:∀k∈kids,aC prog 161 [lv (bB k)] (lv (bB k))):aC prog 161 [lv (bB (.mk op n kids))] (lv (bB (.mk op n kids))):=by
 have he:=wQ kids hl hk;refine aC.body aP func161 rfl call161 (by rw[ntmps161];simp) rfl λhf H=>?_
 simp[ntmps161,results161,aN,bc.op,bc.n,bc.kids]at he|-;refine EC.aJ he ?_;simp[aN,bc.op,bc.n,bc.kids]
mutual
theorem Ko:∀c:bc,Oi c->aC prog 161 [lv (bB c)] (lv (bB c))
 |.mk op n kids,h=>by
  rw[Oi]at h;exact Gn op n kids h.1 (mW kids h.2)
theorem mW:∀cs:List bc,vZ cs->∀k∈cs,aC prog 161 [lv (bB k)] (lv (bB k))
 |[],_,k,hk=>by cases hk
 |c::cs,h,k,hk=>by
  rw[vZ]at h;rcases List.mem_cons.1 hk with q|hk
  ·rw[q];exact Ko c h.1
  ·exact mW cs h.2 k hk
end
theorem Sv(g:bw->bw)(m:Nat)(l:List bw)(hl:l.length*88<=140737488351232)(H:GH)(o:GO)(hm:H.obj m=some o)(hk:∀k∈l,∀H',H'.obj m=some o->aF prog 163 [lv (aQ k),.ip [.gm m] 0] H' λce H2=>ce=.ret (lv (aQ (g k)))/\H2=H'):
  aF prog 162 [sl (l.map aQ),.fn (.func 163) [] [.ip [.gm m] 0]] H λce H'=>ce=.ret (sl ((l.map g).map aQ))/\H'=H:=by
 have cc:=aP;refine aF.bD aP func162 rfl call162 (by rw[ntmps162];simp) rfl λhf hw=>?_
 have hmn:=hw.lt hm;simp[ntmps162,results162]at hf|-;refine AW.aU cc (λa:Nat×LV×GH=>⟨[(1,.fn (.func 163) [] [.ip [.gm m] 0]),(5,a.2.1),(8,.d (.sl (l.map aQ))),(9,aH l.length),(10,aH a.1)],[],a.2.2⟩) (λa=>l.length-a.1) (λa=>a.1<=l.length/\cm 68 6 H a.2.1 (((l.take a.1).map g).map aQ) a.2.2) (0,.d (.k (.slice none 0 0)),H) ⟨⟨by simp,.nil⟩,by simp[LV.only,dQ]⟩ ?_
 rintro⟨i,x,H'⟩ ⟨hi,aA⟩;simp only at hi aA;simp;refine⟨λh=>?_,λh=>?_⟩
 ·have hd:=hk l[i] (List.getElem_mem h) H' (by rw[aA.ob m hmn];exact hm)
  simp[ai]at hd;have hlt:m<H'.next:=Nat.lt_of_lt_of_le hmn aA.nx;simp[h,List.getElem?_eq_getElem h,ai,aA.plain.all];refine⟨by simp[LV.nb,ct,hlt],EC.of hd (λv H2 hR=>?_) (λv H2 hR=>by cases hR.1)⟩
  obtain⟨q,rfl⟩:=hR;cases q;simp[aA.plain.all];refine eE.dJ (ys:=[aQ (g l[i])]) CD rfl CC (by simp) (x:=x) (by simp) aA (by simp[ai,rowsOf]) (by simp) (λr hr=>by obtain⟨_,_,rfl⟩:=List.mem_map.1 hr;simp) (by simp) (by simp;omega) (by simp) λx' H3 aG _ _=>?_
  rw[show((l.take i).map g).map aQ++[aQ (g l[i])]=((l.take (i+1)).map g).map aQ by rw[<-aR h,List.map_append,List.map_append];rfl]at aG
  simp[aG.plain.all,aG.only,aB (n:=9223372036854775807) (show i<9223372036854775807 by omega)]
  exact NX.go (i+1,x',H3) (by simp;omega) ⟨h,aG⟩ (by simp[aG.only,aG.plain.all,LV.only,dQ])
 ·have:i=l.length:=by omega
  subst this;rw[List.take_length]at aA;simp[aA.plain.all,aA.fz];exact λhz=>aO aA.nx aA.ob hw.none
structure MapT(es:List (Value×LV))(f:ca->ca):Prop where
 get:∀s,(bz (.string s) es).getD (.d (.k (.string ⟨#[]⟩)))=.d (.k (.string (f s)))
 key:∀(a:Value) (b:LV),(a,b)∈es->(KK.sc Sc.str).has a=true
theorem B8(f:ca->ca)(h0:f cF=cF)(m:Nat)(es:List (Value×LV))(he:MapT es f)(op:Int)(name:ca)(n fold:Int)(aD:List bc)(kids:List bw)(hc:vZ aD)(mP:aD.length*40<=140737488351232)(jQ:kids.length*88<=140737488351232)
  (ih:∀k∈kids,∀H,H.obj m=some (.map es)->aF prog 163 [lv (aQ k),.ip [.gm m] 0] H λce H2=>ce=.ret (lv (aQ (jL f k)))/\H2=H) (H:GH) (hm:H.obj m=some (.map es)):
  aF prog 96 [lv (aQ (.mk op name n fold aD kids)),.gm m] H λce H2=>ce=.ret (lv (aQ (jL f (.mk op name n fold aD kids))))/\H2=H:=by
 have cc:=ar (p:=aY [3] [] []);refine aF.bD (ar (p:=aY [3] [] [])) func96 rfl call96 (by rw[ntmps96];simp) rfl λhf hw=>?_
 have h1:=wQ aD mP (mW aD hc);have h2:=Sv (jL f) m kids jQ H _ hm ih;have hkey:=eq_true he.key;have dD:=he.get;have hmn:=hw.lt hm;have Ts:name=⟨#[]⟩->f name=name:=by rintro rfl;exact h0
 simp at h1 h2;simp[ntmps96,results96,ai,bw.op,bw.n,bw.kids,bw.name,bw.fold,bw.aD,hm,dD,hkey,jL,nY];refine⟨λq=>?_,λq=>?_⟩
 ·refine EC.aJ h1 ?_;simp;refine⟨by simp[LV.nb,ct,hmn],EC.of h2 (λv H2 hR=>?_) (λv H2 hR=>by cases hR.1)⟩
  obtain⟨q,rfl⟩:=hR;cases q;simp;exact λhz=>⟨hz.drop (Nat.le_refl _),by simp[ai,jL,nY]⟩
 ·refine EC.aJ h1 ?_;simp;refine⟨by simp[LV.nb,ct,hmn],EC.of h2 (λv H2 hR=>?_) (λv H2 hR=>by cases hR.1)⟩
  obtain⟨q',rfl⟩:=hR;cases q';simp[Ts q];exact λhz=>⟨hz.drop (Nat.le_refl _),by simp[ai,jL,nY,Ts q]⟩
theorem zk(f:ca->ca)(m:Nat)(o:GO)(e:bw)(ih:∀H,H.obj m=some o->aF prog 96 [lv (aQ e),.gm m] H λce H2=>ce=.ret (lv (aQ (jL f e)))/\H2=H)(H:GH)(hm:H.obj m=some o):
  aF prog 163 [lv (aQ e),.ip [.gm m] 0] H λce H2=>ce=.ret (lv (aQ (jL f e)))/\H2=H:=by
 have cc:=ar (p:=aY [2] [] []);refine aF.bD (ar (p:=aY [2] [] [])) func163 rfl call163 (by rw[ntmps163];simp) rfl λhf hw=>?_
 have h1:=ih H hm;have hmn:=hw.lt hm;simp[ai]at h1;simp[ntmps163,results163,ai];refine⟨hmn,EC.of h1 (λv H2 hR=>?_) (λv H2 hR=>by cases hR.1)⟩
 obtain⟨q,rfl⟩:=hR;cases q;simp;exact λhz=>⟨hz.drop (Nat.le_refl _),by simp[ai]⟩
mutual
theorem Ep(f:ca->ca)(h0:f cF=cF)(m:Nat)(es:List (Value×LV))(he:MapT es f):∀e:bw,Ag e->∀H,H.obj m=some (.map es)->aF prog 96 [lv (aQ e),.gm m] H λce H2=>ce=.ret (lv (aQ (jL f e)))/\H2=H
 |.mk op name n fold aD kids,h,H,hm=>by
  rw[Ag]at h;exact B8 f h0 m es he op name n fold aD kids h.2.2.1 h.1 h.2.1 (s6 f h0 m es he kids h.2.2.2) H hm
theorem s6(f:ca->ca)(h0:f cF=cF)(m:Nat)(es:List (Value×LV))(he:MapT es f):∀l:List bw,u0 l->∀k∈l,∀H,H.obj m=some (.map es)->aF prog 163 [lv (aQ k),.ip [.gm m] 0] H λce H2=>ce=.ret (lv (aQ (jL f k)))/\H2=H
 |[],_,k,hk=>by cases hk
 |c::cs,h,k,hk=>by
  rw[u0]at h;rcases List.mem_cons.1 hk with q|hk
  ·rw[q];exact zk f m _ c (Ep f h0 m es he c h.1)
  ·exact s6 f h0 m es he cs h.2 k hk
end
structure JZ(n m:Nat)(rows:List LV)(J:Nat->GH->Prop):Prop where
 box:∀{i:Nat} {H:GH},J i H->H.obj m=some (.box [mV n m])
 lt:∀{i:Nat} {H:GH},J i H->n<H.next
 step:∀{i:Nat} {H:GH} {r:LV},rows[i]?=some r->gD H->J i H->dX prog n [r] H λce H'=>ce=.ret (bool true)/\H.next<=H'.next/\J (i+1) H'
def JP(n m:Nat)(rows:List LV)(J:Nat->GH->Prop)(f:FuncId)(cap:List LV)(neg:Bool)(e:bw):Prop:=
 ∀(i:Nat) (H:GH),J i H->(∃tl,rows.drop i=iN e++tl)->aF prog f ([lv (aQ e)]++cap) H λce H'=>ce=.ret (bool (!neg))/\H.next<=H'.next/\J (i+(bn e).length) H'
theorem K9{n m:Nat}{rows:List LV}{J:Nat->GH->Prop}(hI:JZ n m rows J){e:bw}(h:JP n m rows J 165 (iV n m) false e):JP n m rows J 167 [.gp m 0] true e:=by
 intro i H hj ht;have cc:=ar (p:=aY [2] [] []);refine aF.bD (ar (p:=aY [2] [] [])) func167 rfl call167 (by rw[ntmps167];simp) rfl λhf hw=>?_
 have hc:=h i H hj ht;have hm:=hI.box hj;have hn:=hI.lt hj;simp[ai,iV]at hc;have hlt:=hw.lt hm;simp[ntmps167,results167,ai,hm,mV,iV];refine⟨⟨hn,hlt⟩,EC.of hc (λv H2 hR=>?_) (λv H2 hR=>by cases hR.1)⟩
 obtain⟨q,h1,h2⟩:=hR;cases q;simp;exact λhz=>⟨H2,hz.drop h1,h1,h2⟩
theorem EQ{n m:Nat}{rows:List LV}{J:Nat->GH->Prop}(hI:JZ n m rows J)(op en fold:Int)(name:ca)(aD:List bc)(kids:List bw)
  (ih:∀k∈kids,JP n m rows J 165 (iV n m) false k):JP n m rows J 165 (iV n m) false (.mk op name en fold aD kids):=by
 intro i H hj ht;obtain⟨tl,ht⟩:=ht;have cc:=ar (p:=aY [3] [] []);have hrow:rows[i]?=some (lv (aQ (.mk op name en fold aD kids))):=by
  have:(rows.drop i)[0]?=some (lv (aQ (.mk op name en fold aD kids))):=by rw[ht];simp[iN,bn]
  rw[List.getElem?_drop]at this;simpa using this
 have ht1:rows.drop (i+1)=nK kids++tl:=by
  rw[<-List.drop_drop,ht];simp[iN,nK,bn]
 refine aF.bD (ar (p:=aY [3] [] [])) func165 rfl call165 (by rw[ntmps165];simp[iV]) rfl λhf hw=>?_
 have hlt:=hw.lt (hI.box hj);have hnl:=hI.lt hj;have hy:=hI.step hrow hw hj;simp[ai]at hy;simp[ntmps165,results165,ai,iV];refine EY.of hy (λv H1 hR=>?_) (λv H1 hR=>by cases hR.1)
 obtain⟨q,vm,hR⟩:=hR;cases q;simp[bool];have hm1:=hI.box hR;have RM:=oJ kids 167 [.gp m 0] H1 (λj H'=>H1.next<=H'.next/\J (i+1+(bu (kids.take j)).length) H') (λH'=>False) (λx H'=>False)
  (λj H' q=>q.1) (λH' q=>q.elim) (λx H' q=>q.elim)
  (by simp[ct,LV.nb];omega) (λj hj' H' q=>?_) ⟨Nat.le_refl _,by simpa[bu]using hR⟩
 ·simp at RM;refine⟨by omega,EC.of RM (λv2 H2 qw=>?_) (λv2 H2 qw=>qw.elim)⟩
  obtain⟨q,hs2,hR4⟩:=qw;subst q;simp[bool];have e:i+(bn (.mk op name en fold aD kids)).length=i+1+(bu kids).length:=by simp[bn];omega
  rw[e];exact λhz=>⟨H2,hz.drop (by omega),by omega,hR4⟩
 ·obtain⟨qs,qj⟩:=q;have hsplit:kids=kids.take j++(kids[j]::kids.drop (j+1)):=by
   rw[<-List.drop_eq_getElem_cons hj',List.take_append_drop]
  have hall:bu kids=bu (kids.take j)++(bn kids[j]++bu (kids.drop (j+1))):=by
   conv=>lhs;rw[hsplit]
   rw[jl];simp only[bu]
  have fU:bu (kids.take (j+1))=bu (kids.take j)++bn kids[j]:=by
   rw[List.take_add_one,List.getElem?_eq_getElem hj',jl];simp[bu]
  have hdj:rows.drop (i+1+(bu (kids.take j)).length)=iN kids[j]++(nK (kids.drop (j+1))++tl):=by
   rw[<-List.drop_drop,ht1,nK,hall,List.map_append,List.append_assoc];rw[List.drop_append_of_le_length (by simp),List.drop_eq_nil_of_le (by simp)]
   simp[iN,nK]
  have hk:=K9 hI (ih kids[j] (List.getElem_mem hj')) (i+1+(bu (kids.take j)).length) H' qj ⟨_,hdj⟩;refine hk.mono λce H2 qw=>?_
  obtain⟨q,s2,qw⟩:=qw;subst q;exact .inl ⟨rfl,by omega,by rw[fU,List.length_append,<-Nat.add_assoc];exact qw⟩
theorem xy{n m:Nat}{rows:List LV}{J:Nat->GH->Prop}(hI:JZ n m rows J):∀e:bw,JP n m rows J 165 (iV n m) false e
 |.mk op name en fold aD kids=>EQ hI op en fold name aD kids λk hk=>xy hI k
theorem La{n:Nat}{e:bw}{J:Nat->GH->Prop}(H:GH)(hI:JZ n H.next (iN e) J)(hn:n<H.next)(hj:J 0 (H.add (.box [mV n H.next]))):
  aF prog 164 [.yl n,.ip ((aQ e).map .d) 0] H λce H'=>(∃v,ce=.ret v)/\H.next<=H'.next/\J (bn e).length H':=by
 have cc:=ar (p:=aY [2] [3] []);refine aF.bD (ar (p:=aY [2] [3] [])) func164 rfl call164 (by rw[ntmps164];simp) rfl λhf hw=>?_
 simp[ntmps164,results164,ai,GH.au,GH.aq,GH.cT];have hc:=xy hI e 0 (H.add (.box [mV n H.next])) hj ⟨[],by simp⟩
 simp[ai,iV,mV]at hc;refine⟨by omega,EC.of hc (λv H2 hR=>?_) (λv H2 hR=>by cases hR.1)⟩
 obtain⟨q,h1,h2⟩:=hR;rw[GH.aq]at h1;simp;exact λhz=>⟨H2,hz.drop (by omega),by omega,h2⟩
theorem O8(l:List bw)(hl:l.length*88<=140737488351232)(hk:∀k∈l,aC prog 102 [lv (aQ k)] (lv (aQ k))):aC prog 162 [sl (l.map aQ),.fn (.func 102) [] []] (sl (l.map aQ)):=by
 intro H;have cc:=aP;refine aF.bD aP func162 rfl call162 (by rw[ntmps162];simp) rfl λhf hw=>?_
 simp[ntmps162,results162]at hf|-;refine AW.aU cc (λa:Nat×LV×GH=>⟨[(1,.fn (.func 102) [] []),(5,a.2.1),(8,.d (.sl (l.map aQ))),(9,aH l.length),(10,aH a.1)],[],a.2.2⟩) (λa=>l.length-a.1) (λa=>a.1<=l.length/\cm 68 6 H a.2.1 ((l.take a.1).map aQ) a.2.2) (0,.d (.k (.slice none 0 0)),H) ⟨⟨by simp,.nil⟩,by simp⟩ ?_
 rintro⟨i,x,H'⟩ ⟨hi,aA⟩;simp only at hi aA;simp;refine⟨λh=>?_,λh=>?_⟩
 ·have hd:=hk l[i] (List.getElem_mem h);simp[ai]at hd;simp[h,List.getElem?_eq_getElem h,ai,aA.plain.all];refine EC.aJ hd ?_;simp[aA.plain.all];refine eE.dJ (ys:=[aQ l[i]]) CD rfl CC (by simp) (x:=x) (by simp) aA (by simp[ai,rowsOf]) (by simp) (λr hr=>by obtain⟨_,_,rfl⟩:=List.mem_map.1 hr;simp) (by simp) (by simp;omega) (by simp) λx' H3 aG _ _=>?_
  rw[show(l.take i).map aQ++[aQ l[i]]=(l.take (i+1)).map aQ by rw[<-aR h,List.map_append];rfl]at aG
  simp[aG.plain.all,aG.only,aB (n:=9223372036854775807) (show i<9223372036854775807 by omega)]
  exact NX.go (i+1,x',H3) (by simp;omega) ⟨h,aG⟩ (by simp[aG.only,aG.plain.all,LV.only,dQ])
 ·have:i=l.length:=by omega
  subst this;rw[List.take_length]at aA;simp[aA.plain.all,aA.fz];exact λhz=>aO aA.nx aA.ob hw.none
theorem Kn(op:Int)(name:ca)(n fold:Int)(aD:List bc)(kids:List bw)(hc:vZ aD)(mP:aD.length*40<=140737488351232)(jQ:kids.length*88<=140737488351232)(ih:∀k∈kids,aC prog 102 [lv (aQ k)] (lv (aQ k))):
  aC prog 102 [lv (aQ (.mk op name n fold aD kids))] (lv (aQ (.mk op name n fold aD kids))):=by
 have cc:=ar (p:=aY [] [] []);refine aC.body (ar (p:=aY [] [] [])) func102 rfl call102 (by rw[ntmps102];simp) rfl λhf H=>?_
 have h1:=wQ aD mP (mW aD hc);have h2:=O8 kids jQ ih;simp at h1 h2;simp[ntmps102,results102,ai,bw.op,bw.n,bw.kids,bw.name,bw.fold,bw.aD];refine AW.draw cc [(2,.n),(5,.n)] (.q 0<|.q 3<|.q 1<|.q 2<|.q 4<|.q 5<|.q 6<|.f<|.one 7<|.q 8<|.f<|.one 9<|.done) (by kernel_rfl) ?_
 simp;refine FC.aJ h1 ?_;simp;refine FC.aJ h2 ?_;simp[ai,bw.op,bw.n,bw.kids,bw.name,bw.fold,bw.aD]
mutual
theorem CG:∀e:bw,Ag e->aC prog 102 [lv (aQ e)] (lv (aQ e))
 |.mk op name n fold aD kids,h=>by
  rw[Ag]at h;exact Kn op name n fold aD kids h.2.2.1 h.1 h.2.1 (zl kids h.2.2.2)
theorem zl:∀es:List bw,u0 es->∀k∈es,aC prog 102 [lv (aQ k)] (lv (aQ k))
 |[],_,k,hk=>by cases hk
 |e::es,h,k,hk=>by
  rw[u0]at h;rcases List.mem_cons.1 hk with q|hk
  ·rw[q];exact CG e h.1
  ·exact zl es h.2 k hk
end
mutual
theorem ME:∀e:bw,Ag e->∀x∈bn e,Ag x
 |.mk op name n fold aD kids,h,x,hx=>by
  rw[bn]at hx;rcases List.mem_cons.1 hx with q|q
  ·rw[q];exact h
  ·rw[Ag]at h;exact HD kids h.2.2.2 x q
theorem HD:∀es:List bw,u0 es->∀x∈bu es,Ag x
 |[],_,x,hx=>by rw[bu]at hx;cases hx
 |e::es,h,x,hx=>by
  rw[u0]at h;rw[bu]at hx;rcases List.mem_append.1 hx with q|q
  ·exact ME e h.1 x q
  ·exact HD es h.2 x q
end
def JV(N:Nat)(x:LV)(rows:List (List DV))(G:GH):Prop:=kL 68 6 ⟨G.obj,N⟩ x rows G
theorem JV.set{N:Nat}{x:LV}{rows:List (List DV)}{G:GH}(h:JV N x rows G){k:Nat}(hk:k<N)(o:GO):JV N x rows (G.set k o):=by
 refine⟨?_,h.nx,λm hm=>rfl⟩
 rcases h.is with q|⟨n,g,q1,q2,q3,q4,q5⟩
 ·exact .inl q
 ·have q1':N<=n:=q1;exact .inr ⟨n,g,q1,q2,q3,by rw[GH.ay,if_neg (by omega)];exact q4,q5⟩
theorem JV.nil{N:Nat}{G:GH}(h:N<=G.next):JV N (.d (.k (.slice none 0 0))) [] G:=⟨.inl ⟨rfl,rfl⟩,h,λ_ _=>rfl⟩
theorem pV(rows:List (List DV))(r:List DV):bG (rows++[r])=bG rows++r.map LV.d:=by simp[bG]
def sX:List DV:=[.k (.int .i64 0),.k (.string ⟨#[]⟩),.k (.int .i64 0),.k (.int .i64 0),.k (.slice none 0 0),.k (.slice none 0 0)]
theorem Kt(p:Prog)(hp:formed p)(d:Nat)(hd:d<p.aj.length):aC prog 77 [lv (ax p),aH d] (.dx [sl ((bn p.aj[d].exp).map aQ),aH 0]):=by
 intro H;have cc:=fZ (r:=none) (f:=77) (p:=aY [2] [8] [31]);have ccR:∀l,(wS (some l) 77 (aY [2] [8] [31])).ok prog:=λl=>fZ
 have lG:=nO hp;obtain⟨e,he⟩:∃e,p.aj[d].exp=e:=⟨_,rfl⟩;have hok:∀x∈bn e,Ag x:=λx hx=>ME e (he▸(OX hp).1.2.2 _ (List.getElem_mem hd)) x hx
 have yO:(bn e).length<=60:=by rw[<-he];exact(kD hp).len _ (List.getElem_mem hd)
 refine aF.dV (fZ (r:=none) (f:=77) (p:=aY [2] [8] [31])) func77 rfl call77 (by rw[ntmps77];simp) rfl λhf hw=>?_
 have hh:=Gl p lG hp d hd H;have AZ:=o8 e;simp[ai]at AZ;simp[ntmps77,results77,ax]at hf|-;refine AW.seq cc ?_;simp;refine AW.seq cc ?_;simp;refine EC.of hh (λv H1 hR=>?_) (λv H1 hR=>by obtain⟨⟨_,q,_⟩,_⟩:=hR;cases q)
 obtain⟨⟨n0,q,hn0,_⟩,sP,hle1,hsame1⟩:=hR;cases q;simp;refine AW.seq cc ?_;simp;refine AW.seq cc ?_;simp[hd,List.getElem?_eq_getElem hd,ez,he,ai];refine EC.aJ AZ ?_;simp;obtain⟨b8,hb8⟩:∃b8,H1.next=b8:=⟨_,rfl⟩;obtain⟨H2,uJ⟩:∃H2,H1.add (.box [.d (.k (.slice none 0 0))])=H2:=⟨_,rfl⟩;have n2:H2.next=b8+1:=by rw[<-uJ,GH.aq,hb8]
 have oo:H2.obj b8=some (.box [.d (.k (.slice none 0 0))]):=by rw[<-uJ,GH.au,if_pos hb8.symm]
 have ol:∀m,m<H.next->H2.obj m=H.obj m:=λm hm=>by rw[<-uJ,GH.au,if_neg (by omega)];exact hsame1 m hm
 rw[uJ,hb8];refine AW.Tj (λqh=>?_)
 simp only at qh;refine eV.rangeFunc rfl rfl (f:=164) (first:=[]) (cap:=[.ip ((aQ e).map .d) 0]) (by simp[ia,ai]) (by simp[ia])
  [(2,.ip ((ax p).map .d) 0),(8,.gp b8 0)] (by simp[mS,ax]) (by simp[mS,LV.nb,ct,ax,n2]) (by simp[ct,LV.nb]) ?_
 simp only[LS.Cd,List.nil_append,List.singleton_append];generalize hx:LP.mk _ _ _ _ _ _ _=x;have IA:x.f=77:=by rw[<-hx]
 have Fa:x.d=H2.next:=by rw[<-hx]
 obtain⟨D,hD⟩:∃D,H2.next=D:=⟨_,rfl⟩;have wJ:((H2.add .qm).add (x.go .ready none)).next=D+2:=by rw[GH.aq,GH.aq,hD]
 obtain⟨J,hJ⟩:∃J:Nat->GH->Prop,J=λi G=>G.obj (D+2)=some (.box [mV (D+1) (D+2)])/\G.obj (D+1)=some (x.go .ready none)/\G.obj D=some .qm/\(∀m,m<D->m≠b8->G.obj m=H2.obj m)/\
  ∃y,G.obj b8=some (.box [y])/\JV (D+3) y (((bn e).take i).map aQ) G:=⟨_,rfl⟩
 have hI:JZ (D+1) (D+2) (iN e) J:=by
  refine⟨λ{i G} hj=>?_,λ{i G} hj=>?_,λ{i G r} hr hzG hj=>?_⟩
  ·rw[hJ]at hj;exact hj.1
  ·rw[hJ]at hj;obtain⟨_,_,_,_,y,_,q6⟩:=hj;have:=q6.nx;simp only at this;omega
  ·rw[hJ]at hj;obtain⟨q0,q1,q2,q4,y,q5,q6⟩:=hj;obtain⟨e0,he0,rfl⟩:∃e0,(bn e)[i]?=some e0/\r=lv (aQ e0):=by
    simp only[iN,List.getElem?_map,Option.map_eq_some_iff]at hr;obtain⟨e0,h1,h2⟩:=hr;exact⟨e0,h1,h2.symm⟩
   have Dt:i<(bn e).length:=(List.getElem?_eq_some_iff.1 he0).1;have hcp:=CG e0 (hok e0 (List.mem_of_getElem? he0));refine dX.ofN (c:=λl=>wS (some l) 77 (aY [2] [8] [31])) ccR (λl=>by simp[IA]) q1 ⟨_,by rw[IA];exact func77⟩ (by rw[<-hx];rfl) (by rw[<-hx];simp) λhz l=>?_
   have xa:=(congrArg LP.lu hx).symm;have xb:=(congrArg LP.body hx).symm;have xe:=(congrArg LP.env hx).symm;have xp:=(congrArg LP.ps hx).symm;have xn:=(congrArg LP.nt hx).symm;dsimp only at xa xb xe xp xn;rw[xa,xb,xe,xp,xn]
   clear xa xb xe xp xn hx
   simp[mr,ai];refine⟨q1,?_⟩;generalize jP:x.go .busy none=ob;obtain⟨G3,Ka⟩:∃G3,G.set (D+1) ob=G3:=⟨_,rfl⟩;have c3:∀m,m≠D+1->G3.obj m=G.obj m:=λm hm=>by rw[<-Ka,GH.ay,if_neg (by omega)]
   have oy:G3.obj (D+1)=some ob:=by rw[<-Ka,GH.aX]
   have n3:G3.next=G.next:=by rw[<-Ka];rfl
   rw[Ka];have q63:JV (D+3) y (((bn e).take i).map aQ) G3:=by rw[<-Ka];exact q6.set (by omega) _
   have hgx:=q63.nx;simp only at hgx;have ob8:G3.obj b8=some (.box [y]):=by rw[c3 _ (by omega)];exact q5
   simp[ai]at hcp;refine AW.block (c:=wS (some l) 77 (aY [2] [8] [31])) ?_;refine AW.draw (ccR l) [(2,.n)] (.q 4<|.q 0<|.q 1<|.q 2<|.q 3<|.f<|.one 5<|.q 6<|.f (.cons 7 (.f<|.one 8<|.done) (.cons 8 (.f<|.one 7<|.done) (.nil)))) (by kernel_rfl) ?_
   have AX:List.range' 0 1=[0]:=rfl;simp[ob8,q63.plain.all,AX];refine FC.aJ hcp ?_;obtain⟨rows,hrows⟩:∃rows,((bn e).take i).map aQ=rows:=⟨_,rfl⟩;have hrl:rows.length=i:=by rw[<-hrows];simp;omega
   have hr6:∀r∈rows,r.length=6:=λr hr=>by rw[<-hrows]at hr;obtain⟨_,_,rfl⟩:=List.mem_map.1 hr;simp
   rw[hrows]at q63;have hlen:∀X:S,True:=λ_=>trivial
   have hcase:=q63.is;have aA:kL 68 6 ⟨G3.obj,D+3⟩ y rows G3:=q63;rcases hcase with⟨k1,k2⟩|⟨nv,gv,k1,k2,k3,k4,k5⟩
   ·subst k2;have RA:i=0:=by rw[<-hrl,k1];rfl
    subst RA;simp;refine eE.JD (ys:=[sX]) CD rfl CC (by simp) (by simp) aA (by simp[sX,kg]) (by simp) hr6 (by simp[sX]) (by simp;omega) (by simp) λx' G4 aG sQ hsame=>?_
    obtain⟨m4,g4,e1,e2,e3,e4,e5⟩:=aG.is.resolve_left (λq=>by simp at q)
    subst e3;simp at e1;have e1':D+3<=m4:=by omega
    have ob84:G4.obj b8=some (.box [.d (.k (.slice none 0 0))]):=by rw[aG.ob b8 (show b8<D+3 by omega)];exact ob8
    have hnx':G3.next<=G4.next:=sQ;obtain⟨Fl,OP⟩:∃Fl,bG (rows++[sX])=Fl:=⟨_,rfl⟩;have hr7:∀r∈rows++[sX],r.length=6:=λr hr=>by
     rcases List.mem_append.1 hr with q|q
     ·exact hr6 r q
     ·rw[List.mem_singleton.1 q];rfl
    have RV:Fl.length=0*6+6:=by
     rw[<-OP,kF hr7,List.length_append,hrl,List.length_singleton]
    have hput:Fl.take (0*6)++((aQ e0).map LV.d)++Fl.drop (0*6+6)=bG (rows++[aQ e0]):=by
     rw[List.drop_eq_nil_of_le (by omega),List.append_nil,<-OP,pV,pV,List.take_left' (by rw[kF (sz:=6) hr6,hrl])]
    rw[OP]at e4;have hm4:∀o,(G4.set b8 o).obj m4=some (.vec 68 g4 6 Fl false):=λo=>by rw[GH.ay,if_neg (by omega)];exact e4
    have hm5:∀o,(G4.set m4 o).obj b8=some (.box [.d (.k (.slice none 0 0))]):=λo=>by rw[GH.ay,if_neg (by omega)];exact ob84
    obtain⟨C,hC⟩:∃C,bG (rows++[aQ e0])=C:=⟨_,rfl⟩;rw[hC]at hput;simp[ai]at hput;have A0:m4<G4.next:=e2;have mQ:∀G6:GH,G6.next=G4.next->G6.obj b8=some (.box [.vs m4 g4 6 0 (0+1)])->G6.obj m4=some (.vec 68 g4 6 C false)->(∀m,m≠m4->m≠b8->G6.obj m=G4.obj m)->gD G6->
      (∃a b,G6.obj (D+1)=some (x.go a b))/\∃H',Drop G (G6.set (D+1) (x.go .ready none)) H'/\G.next<=H'.next/\J (0+1) H':=λG6 u1 u2 u3 u4 hz6=>by
     have v1:G6.obj (D+1)=some ob:=by rw[u4 _ (by omega) (by omega),aG.ob _ (show D+1<D+3 by omega)];exact oy
     refine⟨⟨.busy,none,by rw[v1,jP]⟩,G6.set (D+1) (x.go .ready none),?_,by rw[GH.aL,u1];omega,?_⟩
     ·exact(hz6.set (by omega) (GO.eX (by omega) (hzG.nb _ _ q1))).drop (by rw[GH.aL];omega)
     ·rw[hJ];refine⟨?_,by rw[GH.aX],?_,λm hm hne=>?_,.vs m4 g4 6 0 (0+1),?_,?_⟩
      ·rw[GH.ay,if_neg (by omega),u4 _ (by omega) (by omega),aG.ob _ (show D+2<D+3 by omega)]
       show G3.obj (D+2)=_
       rw[c3 _ (by omega)];exact q0
      ·rw[GH.ay,if_neg (by omega),u4 _ (by omega) (by omega),aG.ob _ (show D<D+3 by omega)]
       show G3.obj D=_
       rw[c3 _ (by omega)];exact q2
      ·rw[GH.ay,if_neg (by omega),u4 _ (by omega) (by omega),aG.ob _ (show m<D+3 by omega)]
       show G3.obj m=_
       rw[c3 _ (by omega)];exact q4 m hm hne
      ·rw[GH.ay,if_neg (by omega)];exact u2
      ·have AV:((bn e).take (0+1)).map aQ=rows++[aQ e0]:=by
        rw[List.take_add_one,he0,List.map_append,hrows];rfl
       rw[AV];refine⟨.inr ⟨m4,g4,by simp only;omega,by rw[GH.aL,u1];exact A0,by simp[hrl],?_,by simp⟩,by simp only[GH.aL];omega,λm hm=>rfl⟩
       rw[GH.ay,if_neg (by omega),hC];exact u3
    simp[e4,hrl,ob84,hm4,hm5,RV];rw[hput];have Rw:m4≠b8:=by omega
    have LQ:∀X Y:GO,(G4.set b8 X).set m4 Y=(G4.set m4 Y).set b8 X:=λX Y=>GH.set_comm (Ne.symm Rw)
    have hend:=mQ ((G4.set m4 (.vec 68 g4 6 C false)).set b8 (.box [.vs m4 g4 6 0 (0+1)])) rfl GH.aX (by rw[GH.ay,if_neg Rw,GH.aX]) (λm h1 h2=>by rw[GH.ay,if_neg h2,GH.ay,if_neg h1])
    rw[LQ]
    try simp at hend
    exact⟨⟨A0,hend⟩,A0,hend⟩
   ·subst k3;simp;refine eE.JD (ys:=[sX]) CD rfl CC (by simp) (by simp) aA (by simp[sX,kg]) (by simp) hr6 (by simp[sX]) (by simp;omega) (by simp) λx' G4 aG sQ hsame=>?_
    obtain⟨m4,g4,e1,e2,e3,e4,e5⟩:=aG.is.resolve_left (λq=>by simp at q)
    subst e3;simp at e1;have e1':D+3<=m4:=by omega
    have ob84:G4.obj b8=some (.box [.vs nv gv 6 0 rows.length]):=by rw[aG.ob b8 (show b8<D+3 by omega)];exact ob8
    have hnx':G3.next<=G4.next:=sQ;obtain⟨Fl,OP⟩:∃Fl,bG (rows++[sX])=Fl:=⟨_,rfl⟩;have hr7:∀r∈rows++[sX],r.length=6:=λr hr=>by
     rcases List.mem_append.1 hr with q|q
     ·exact hr6 r q
     ·rw[List.mem_singleton.1 q];rfl
    have RV:Fl.length=i*6+6:=by
     rw[<-OP,kF hr7,List.length_append,hrl,List.length_singleton];omega
    have hput:Fl.take (i*6)++((aQ e0).map LV.d)++Fl.drop (i*6+6)=bG (rows++[aQ e0]):=by
     rw[List.drop_eq_nil_of_le (by omega),List.append_nil,<-OP,pV,pV,List.take_left' (by rw[kF (sz:=6) hr6,hrl])]
    rw[OP]at e4;have hm4:∀o,(G4.set b8 o).obj m4=some (.vec 68 g4 6 Fl false):=λo=>by rw[GH.ay,if_neg (by omega)];exact e4
    have hm5:∀o,(G4.set m4 o).obj b8=some (.box [.vs nv gv 6 0 rows.length]):=λo=>by rw[GH.ay,if_neg (by omega)];exact ob84
    obtain⟨C,hC⟩:∃C,bG (rows++[aQ e0])=C:=⟨_,rfl⟩;rw[hC]at hput;simp[ai]at hput;have A0:m4<G4.next:=e2;have mQ:∀G6:GH,G6.next=G4.next->G6.obj b8=some (.box [.vs m4 g4 6 0 (i+1)])->G6.obj m4=some (.vec 68 g4 6 C false)->(∀m,m≠m4->m≠b8->G6.obj m=G4.obj m)->gD G6->
      (∃a b,G6.obj (D+1)=some (x.go a b))/\∃H',Drop G (G6.set (D+1) (x.go .ready none)) H'/\G.next<=H'.next/\J (i+1) H':=λG6 u1 u2 u3 u4 hz6=>by
     have v1:G6.obj (D+1)=some ob:=by rw[u4 _ (by omega) (by omega),aG.ob _ (show D+1<D+3 by omega)];exact oy
     refine⟨⟨.busy,none,by rw[v1,jP]⟩,G6.set (D+1) (x.go .ready none),?_,by rw[GH.aL,u1];omega,?_⟩
     ·exact(hz6.set (by omega) (GO.eX (by omega) (hzG.nb _ _ q1))).drop (by rw[GH.aL];omega)
     ·rw[hJ];refine⟨?_,by rw[GH.aX],?_,λm hm hne=>?_,.vs m4 g4 6 0 (i+1),?_,?_⟩
      ·rw[GH.ay,if_neg (by omega),u4 _ (by omega) (by omega),aG.ob _ (show D+2<D+3 by omega)]
       show G3.obj (D+2)=_
       rw[c3 _ (by omega)];exact q0
      ·rw[GH.ay,if_neg (by omega),u4 _ (by omega) (by omega),aG.ob _ (show D<D+3 by omega)]
       show G3.obj D=_
       rw[c3 _ (by omega)];exact q2
      ·rw[GH.ay,if_neg (by omega),u4 _ (by omega) (by omega),aG.ob _ (show m<D+3 by omega)]
       show G3.obj m=_
       rw[c3 _ (by omega)];exact q4 m hm hne
      ·rw[GH.ay,if_neg (by omega)];exact u2
      ·have AV:((bn e).take (i+1)).map aQ=rows++[aQ e0]:=by
        rw[List.take_add_one,he0,List.map_append,hrows];rfl
       rw[AV];refine⟨.inr ⟨m4,g4,by simp only;omega,by rw[GH.aL,u1];exact A0,by simp[hrl],?_,by simp⟩,by simp only[GH.aL];omega,λm hm=>rfl⟩
       rw[GH.ay,if_neg (by omega),hC];exact u3
    simp[e4,hrl,ob84,hm4,hm5,RV];rw[hput];have Rw:m4≠b8:=by omega
    have LQ:∀X Y:GO,(G4.set b8 X).set m4 Y=(G4.set m4 Y).set b8 X:=λX Y=>GH.set_comm (Ne.symm Rw)
    have hend:=mQ ((G4.set m4 (.vec 68 g4 6 C false)).set b8 (.box [.vs m4 g4 6 0 (i+1)])) rfl GH.aX (by rw[GH.ay,if_neg Rw,GH.aX]) (λm h1 h2=>by rw[GH.ay,if_neg h2,GH.ay,if_neg h1])
    rw[LQ]
    try simp at hend
    exact⟨by omega,⟨A0,hend⟩,A0,hend⟩
 have hj0:J 0 (((H2.add .qm).add (x.go .ready none)).add (.box [mV (D+1) (D+2)])):=by
  rw[hJ];refine⟨?_,?_,?_,λm hm hne=>?_,.d (.k (.slice none 0 0)),?_,?_⟩
  ·rw[GH.au,wJ,if_pos rfl]
  ·rw[GH.au,wJ,if_neg (by omega),GH.au,GH.aq,hD,if_pos rfl]
  ·rw[GH.au,wJ,if_neg (by omega),GH.au,GH.aq,hD,if_neg (by omega),GH.au,hD,if_pos rfl]
  ·rw[GH.au,wJ,if_neg (by omega),GH.au,GH.aq,hD,if_neg (by omega),GH.au,hD,if_neg (by omega)]
  ·rw[GH.au,wJ,if_neg (by omega),GH.au,GH.aq,hD,if_neg (by omega),GH.au,hD,if_neg (by omega)];exact oo
  ·exact JV.nil (by rw[GH.aq,wJ];omega)
 have hkw:=La (n:=D+1) (e:=e) (J:=J) ((H2.add .qm).add (x.go .ready none)) (by rw[wJ];exact hI) (by rw[wJ];omega) (by rw[wJ];exact hj0)
 rw[hD];refine hkw.mono λce H3 hR=>?_
 obtain⟨⟨v,hv⟩,hle,hj⟩:=hR;subst hv;rw[hJ]at hj;obtain⟨q0,q1,q2,q4,y,q5,q6⟩:=hj;refine⟨.ready,none,q1,by simp,?_⟩
 simp[xO,Fa];rw[List.take_length]at q6;have hne:(bn e).map aQ≠[]:=by
  obtain⟨op,name,n,fold,aD,kids⟩:=e;simp[bn]
 obtain⟨nv,gv,k1,k2,k3,k4,k5⟩:=q6.is.resolve_left (λq=>hne q.1)
 simp only at k1;subst k3;obtain⟨H4,M8⟩:∃H4,H3.set (D+1) (x.go .exhausted none)=H4:=⟨_,rfl⟩;have n4:H4.next=H3.next:=by rw[<-M8];rfl
 have o4:∀m,m≠D+1->H4.obj m=H3.obj m:=λm hm=>by rw[<-M8,GH.ay,if_neg hm]
 rw[M8];have ov4:H4.obj nv=some (.vec 68 gv 6 (bG ((bn e).map aQ)) false):=by rw[o4 _ (by omega)];exact k4
 have ob4:H4.obj b8=some (.box [.vs nv gv 6 0 ((bn e).map aQ).length]):=by rw[o4 _ (by omega)];exact q5
 have od4:H4.obj D=some .qm:=by rw[o4 _ (by omega)];exact q2
 have ol4:∀m,m<H.next->H4.obj m=H.obj m:=λm hm=>by rw[o4 _ (by omega),q4 m (by omega) (by omega)];exact ol m hm
 refine AW.cL (n:=nv) (g:=gv) (sz:=6) (e:=68) (ex:=false) ((bn e).map aQ) ov4 rfl (λr hr=>by obtain⟨_,_,rfl⟩:=List.mem_map.1 hr;simp) ?_
 refine AW.ev cc ?_;have hb8n:b8≠nv:=by omega
 simp[ob4,hb8n];refine λ_=>⟨⟨by omega,.qm,by rw[hD];exact od4,rfl⟩,aO (by simp only;omega) (λm hm=>?_) hw.none,?_⟩
 ·simp only[lM];rw[if_neg (by omega)]
  exact lB hw (show H.next<=nv by omega) (λk hk=>ol4 k hk) hm
 ·rw[he];exact List.take_of_length_le (by simp)
end Go.Aft
end
