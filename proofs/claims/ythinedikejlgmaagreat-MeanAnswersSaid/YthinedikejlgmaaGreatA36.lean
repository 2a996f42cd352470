import Derived.Test.YthinedikejlgmaaGreatA35
import Derived.Test.YthinedikejlgmaaGreatA33
import Derived.Test.YthinedikejlgmaaGreatA32
set_option linter.all false
section
set_option maxRecDepth 20000
namespace Go.Aft
open Go.Proofs.Tryz
theorem Ln(p:Prog)(hs:∀s∈p.az++an p,cN s)(l:List Event)(d:Nat)(hd:d<p.aj.length)(node:Nat)(hn:node<(bn p.aj[d].exp).length)(ha:fE p l=true){aj:List cr}(hk:fA p l=some aj)(pL:aj.length=p.aj.length)(LN:∀b∈aj,bI b)(hxo:kP p (bn p.aj[d].exp)[node])
  {x:Item} {t:List Item} (hb:fW p ⟨mg p l,aj⟩ 200 (bn p.aj[d].exp)[node]=some (x::t)) (htl:t.length<=1000):aC prog 30 [lv (ax p),sl (l.map bg),aH d,aH node] (.dx [bY (x::t),aH 0]):=by
 intro H;have cc:=ar (p:=aY [4] [] []);refine aF.dV (ar (p:=aY [4] [] [])) func30 rfl call30 (by rw[ntmps30];simp) rfl λhf hw=>?_
 have h1:=tZ p hs l;obtain⟨hp,hl,hi⟩:=rW ha;have hfb:=rD hp;have hkn:=Au p hs hp (by have:=hfb.s1;omega) (by have:=hfb.s4;omega) (kD hp) hfb.dif (pT hp) l hl hi H
 have hpa:=Kt p hp d hd;obtain⟨L,hL⟩:∃L,bn p.aj[d].exp=L:=⟨_,rfl⟩;obtain⟨e,he⟩:∃e,(bn p.aj[d].exp)[node]=e:=⟨_,rfl⟩;rw[he]at hxo hb;simp only[hL]at hpa hn he;rw[ha]at h1;have mP:=Pt x t htl;simp[ax]at h1 hkn hpa mP;simp[ntmps30,results30,ax]at hf|-;refine AW.seq cc ?_;simp;refine AW.seq cc ?_;simp;refine EC.aJ h1 ?_;have A5:¬((p.aj.length:Int)<=d):=by omega
 have hd2:¬((d:Int)<0):=by omega
 simp[A5,hd2];refine AW.seq cc ?_;simp;refine EC.aJ hpa ?_;simp;have vm:¬((L.length:Int)<=node):=by omega
 have hn2:¬((node:Int)<0):=by omega
 refine AW.seq cc ?_;simp[vm,hn2];refine AW.seq cc ?_;simp;refine EC.of hkn (λv H2 hR=>?_) (λv H2 hR=>by
  unfold qa at hR;rw[hk]at hR;obtain⟨_,_,_,_,_,q,_⟩:=hR;cases q)
 unfold qa at hR;rw[hk]at hR;obtain⟨n,ms,mn,mv,ma,q1,q2,hW,q4,q5,q6⟩:=hR;cases q1;have hsok:∀b∈mg p l,bI b:=λb hb=>by
  obtain⟨i,_,rfl⟩:=List.mem_map.1 hb;exact yH hl hi (i:Nat)
 have hex:=vK (W:=⟨mg p l,aj⟩) hsok LN (top:=200) (Int.le_refl _) _ e (Nat.lt_succ_self _) hxo H2 hW;rw[hb]at hex;simp[ai]at hex;simp;refine AW.ev cc ?_;have hLe:L[node]?=some e:=by rw[List.getElem?_eq_getElem hn,he]
 have ln:n<H2.next:=q6.lt hW.Mn.ob;simp[hn,he,ai];refine⟨ln,EC.of hex (λv H3 hR=>?_) (λv H3 hR=>by cases hR.2)⟩
 obtain⟨hE,hv⟩:=hR;cases hv;rw[hE];simp[bY];refine EC.aJ mP ?_;simp;exact λhz=>⟨aO q4 q5 hw.none,rfl⟩
section
variable {p:Prog} {S:List cr} (hS:∀b∈S,bI b) (he:∀(d:Nat) (h:d<p.aj.length),kP p p.aj[d].exp)
include hS he
theorem Hp{T:Int}(hT:T<=200):∀(g:List Nat),(∀d∈g,d<p.aj.length)->∀(aj D:List cr),gb p S T g aj=some D->(∀b∈aj,bI b)->D.length=aj.length/\∀b∈D,bI b
 |[],_,aj,D,h,hd=>by rw[gb]at h;cases h;exact⟨rfl,hd⟩
 |d::g,hg,aj,D,h,hd=>by
  rw[gb]at h
  split at h
  ·cases h
  ·rename_i defs1 h1;rw[CL]at h1
   split at h1
   ·cases h1
   ·rename_i b hb;have e1:defs1=aj.set d b:=(Option.some.inj h1).symm;subst e1;have pL:=hg d (List.mem_cons_self ..);have hb':fW p ⟨S,aj⟩ T p.aj[d].exp=some b:=by
     have:=oG pL;unfold fC at this;rw[<-this];exact hb
    have Fh:bI b:=nw (W:=⟨S,aj⟩) hS hd hT _ _ (Nat.lt_succ_self _) (he d pL) b hb';have ih:=Hp hT g (λk hk=>hg k (List.mem_cons_of_mem _ hk)) _ D h λc hc=>by
     rcases List.mem_or_eq_of_mem_set hc with q|q
     ·exact hd c q
     ·rw[q];exact Fh
    exact⟨by rw[ih.1,List.length_set],ih.2⟩
theorem Ge{far:Int}{g:List Nat}(hg:∀d∈g,d<p.aj.length):∀(f:Nat) (top:Int),top<=200->∀(aj D:List cr),ir p S far g f top aj=some D->(∀b∈aj,bI b)->D.length=aj.length/\∀b∈D,bI b
 |0,_,_,aj,D,h,hd=>by rw[ir]at h;cases h;exact⟨rfl,hd⟩
 |f+1,top,ht,aj,D,h,hd=>by
  rw[ir]at h
  split at h
  ·cases h
  ·rename_i d1 h1;have hp:=Hp hS he ht g hg aj d1 h1 hd
   split at h
   ·cases h;exact hp
   ·have hm:ic (top+far) 200<=200:=by unfold ic;split<;>omega
    have ih:=Ge hg f _ hm d1 D h hp.2;exact⟨ih.1.trans hp.1,ih.2⟩
theorem A9:∀(gs:List (List Nat)),(∀g∈gs,∀d∈g,d<p.aj.length)->∀(aj D:List cr),iC p S gs aj=some D->(∀b∈aj,bI b)->D.length=aj.length/\∀b∈D,bI b
 |[],_,aj,D,h,hd=>by rw[iC]at h;cases h;exact⟨rfl,hd⟩
 |g::gs,hg,aj,D,h,hd=>by
  rw[iC]at h
  split at h
  ·cases h
  ·rename_i d1 h1;have hm:ic (wN p g-1) 200<=200:=by unfold ic;split<;>omega
   have hp:=Ge hS he (hg g (List.mem_cons_self ..)) 202 _ hm aj d1 h1 hd;have ih:=A9 gs (λg' hg'=>hg g' (List.mem_cons_of_mem _ hg')) d1 D h hp.2
   exact⟨ih.1.trans hp.1,ih.2⟩
end
theorem Ra{p:Prog}{l:List Event}(ha:fE p l=true){aj:List cr}(h:fA p l=some aj):aj.length=p.aj.length/\∀b∈aj,bI b:=by
 obtain⟨hp,hl,hi⟩:=rW ha;have Dv:=(kC (p:=p) p.aj.length [] (λx hx=>absurd hx List.not_mem_nil)).1
 have:=A9 (p:=p) (S:=mg p l) (λb hb=>by
  obtain⟨i,_,rfl⟩:=List.mem_map.1 hb;exact yH hl hi (i:Nat)) (pT hp) (gR p.aj.length (bh p)) (λg hg d hd=>(Dv g hg).1.lt hd) _ aj h λb hb=>by rw[List.eq_of_mem_replicate hb];exact⟨.nil,by simp,by simp⟩
 exact⟨by rw[this.1];simp,this.2⟩
theorem sJ:fE jA FZ=true:=by
 have h1:decide (FZ.length<=60)=true:=by decide
 have h2:rJ FZ=true:=by decide+kernel
 have h3:iD (FZ.map Bn) jA.az.length=true:=by decide+kernel
 have h4:=mJ;simp[fE,h4,h2,h3]
 decide
def wO:bc:=.mk 7 0 [.mk 5 0 [],.mk 2 0 []]
theorem Jd:Ia wO ⟨10,1,5⟩ 7/\ek ⟨10,1,5⟩ 7 wO= -3:=by decide+kernel
theorem Sh:qk 2 [⟨⟨10,1,5⟩,3⟩]=.dx [aH 15,aH 0]:=by
 have h1:lD [⟨⟨10,1,5⟩,3⟩]=true:=by decide+kernel
 have h2:foldI 2 [⟨⟨10,1,5⟩,3⟩]=15:=by decide+kernel
 unfold qk;rw[if_pos ⟨by omega,by omega,h1⟩,if_neg (by simp),h2]
theorem O2:qk 2 []=.dx [aH 0,aH 5]:=by
 have h1:lD []=true:=by decide+kernel
 unfold qk;rw[if_pos ⟨by omega,by omega,h1⟩,if_pos rfl]
end Go.Aft
end
section
set_option maxRecDepth 20000
namespace Go.Aft
open Go.Proofs.Tryz
theorem VS:bn jA.aj[1].exp=jA.aj[1].exp::(bn Ab++bu [.mk 3 nmB 3 0 [] []]):=rfl
theorem VM:∀x∈bn Ab,x∈bn jA.aj[1].exp:=λx hx=>by
 rw[VS];exact List.mem_cons_of_mem _ (List.mem_append_left _ hx)
theorem Sg:1<(bn jA.aj[1].exp).length:=by decide+kernel
theorem Si:(bn (jA.aj[1]'(by decide)).exp)[1]'Sg=Ab:=rfl
theorem Sj{aj:List cr}(hk:fA jA FZ=some aj)(h0:aj.getD 0 []=VT):aC prog 30 [lv (ax jA),sl (FZ.map bg),aH 1,aH 1] (.dx [bY [⟨⟨10,1,5⟩,1⟩,⟨⟨14,1,12⟩,1⟩],aH 0]):=by
 have hok:=Ra sJ hk;exact Ln jA (nO mJ) FZ 1 (by decide) 1 Sg sJ hk hok.1 hok.2 (by rw[Si];exact λx hx=>pT mJ 1 (by decide) x (VM x hx)) (by rw[Si];exact Sf _ h0) (by decide)
theorem aC.nzA{P:Program}{f:FuncId}{args:List LV}{v:LV}(h:aC P f (U9 args) v):aC P f args v:=λH=>⟨(h H).1,λG w vs h1 h2 h3=>(h H).2 G w vs h1 h2 (FN _ _ h3)⟩
theorem Ov:aC prog 17 [] (.d (.k (.bool true))):=by
 have cc:=ig (p:=aY [] [] []);refine aC.body (ig (p:=aY [] [] [])) func17 rfl call17 (by rw[ntmps17];simp) rfl λhf H=>?_
 have hs:=nO mJ;obtain⟨b,hk,B6,LW⟩:=VR;have e1:=Vi;have e2:=Vj;have e3:=ML jA hs FZ;have e4:=Lm jA hs;have e5:=Oq jA hs FZ 1;have e6:=Sj hk rfl;have e7:=Ot wO ⟨10,1,5⟩ 7;have e8:=Df 2 [⟨⟨10,1,5⟩,3⟩];have e9:=Df 2 [];have v3:iB jA FZ=.dx [sl ([[⟨⟨10,1,5⟩,1⟩,⟨⟨14,1,7⟩,1⟩],b,[⟨⟨14,1,7⟩,1⟩]].map bX),aH 0]:=by
  unfold iB;rw[if_pos sJ,hk]
 have v4:Ae jA=.dx [sl ([[0],[1],[2]].map rT),aH 0]:=by
  unfold Ae;rw[if_pos mJ,Bk]
 have v5:s9 jA FZ 1=.dx [bY [⟨⟨11,1,2⟩,1⟩],aH 0]:=by
  unfold s9;rw[if_pos ⟨sJ,by omega,by decide⟩,Se]
 have v7:(if Ia wO ⟨10,1,5⟩ 7 then LV.dx [aH (ek ⟨10,1,5⟩ 7 wO),aH 0]else .dx [aH 0,aH 2])=.dx [aH (-3),aH 0]:=by
  rw[if_pos Jd.1,Jd.2]
 rw[v3]at e3;rw[v4]at e4;rw[v5]at e5;rw[v7]at e7;rw[Sh]at e8;rw[O2]at e9;obtain⟨x,y,hxy⟩:∃x y,lv (ax jA)=.agg [.d x,.d y]:=⟨_,_,rfl⟩;obtain⟨E1,hE1⟩:∃E1,FZ.map bg=E1:=⟨_,rfl⟩;have hEl:0<E1.length:=by rw[<-hE1];decide
 have hE0:E1[0]=bg ⟨0,1,⟨10,1,5⟩⟩:=by subst hE1;rfl
 rw[hxy]at e1 e3 e4 e5 e6;rw[hE1]at e2 e3 e5 e6;simp[wO,bB,pz,bN]at e7;simp[ak]at e8;simp at e9;simp[bY,ak]at e5 e6;have AX:List.range' 0 1=[0]:=rfl;have MV:List.range' 0 2=[0,1]:=rfl;simp[ntmps17,results17];refine EC.aJ e1 ?_;simp;refine EC.aJ e2 ?_;simp;refine EC.aJ e3 ?_;simp;refine EC.aJ e4 ?_;simp;refine EC.aJ e5 ?_;simp;refine EC.aJ e6 ?_;have e7':aC prog 13 [.agg [aH 7,aH 0,.d (.sl [[.k (.int .i64 5),.k (.int .i64 0),.k (.slice none 0 0)],[.k (.int .i64 2),.k (.int .i64 0),.k (.slice none 0 0)]])],.agg [aH 10,aH 1,aH 5],aH 7] (.dx [aH (-3),aH 0]):=aC.nzA (by simpa[U9,LV.nz,DV.nz,PJ,Va]using e7)
 simp[MV,hE0,bg,bN,hEl];refine EC.aJ e7' ?_;simp[AX,hE0,bg,bN,hEl];refine EC.aJ e8 ?_;simp;have e9':aC prog 15 [aH 2,.d (.k (.slice none 0 0))] (.dx [aH 0,aH 5]):=aC.nzA (by simpa[U9,LV.nz,DV.nz,PJ,Va]using e9)
 refine EC.aJ e9' ?_;simp;refine AW.draw cc [(3,.n),(4,.n),(6,.n),(11,.n),(13,.n),(17,.n),(19,.n),(23,.n),(24,.n),(26,.n),(41,.n)] (.q 0<|.q 1<|.q 3<|.q 4<|.q 5<|.q 2<|.q 6<|.q 7<|.q 8<|.q 9<|.q 11<|.q 12<|.q 10<|.q 13<|.q 14<|.q 15<|.q 16<|.q 17<|.q 18<|.q 19<|.q 20<|.q 21<|.q 22<|.q 23<|.q 24<|.q 25<|.q 26<|.q 27<|.q 28<|.q 29<|.q 30<|.q 31<|.q 32<|.q 33<|.q 34<|.q 35<|.q 36<|.q 37<|.q 41<|.q 38<|.q 39<|.q 40<|.q 42<|.q 43<|.q 44<|.done) (by kernel_rfl) ?_
 have i1:=rj 10 1 5;have i2:=rj 14 1 7;have i3:=rj 11 1 2;have i4:=rj 14 1 12;have i5:=rj 13 1 5;simp[ak]at i1 i2 i3 i4 i5;have s1:=rV [⟨⟨10,1,5⟩,1⟩,⟨⟨14,1,7⟩,1⟩] [⟨⟨10,1,5⟩,1⟩,⟨⟨14,1,7⟩,1⟩];have s2:=rV [⟨⟨14,1,7⟩,1⟩] [⟨⟨14,1,7⟩,1⟩];have s3:=rV [⟨⟨11,1,2⟩,1⟩] [⟨⟨11,1,2⟩,1⟩];have s4:=rV [⟨⟨10,1,5⟩,1⟩,⟨⟨14,1,12⟩,1⟩] [⟨⟨10,1,5⟩,1⟩,⟨⟨14,1,12⟩,1⟩];simp[ak]at s1 s2 s3 s4;have hb1':b[1]'(by omega)=⟨⟨13,1,5⟩,1⟩:=by rw[List.getElem?_eq_getElem (show 1<b.length by omega)]at LW;exact Option.some.inj LW
 have hbl1:1<b.length:=by omega
 simp[AX,MV,bX,ak];refine FC.aJ i1 ?_;simp;refine FC.aJ i2 ?_;simp[AX,MV,bX,ak];refine FC.aJ s1 ?_;simp;refine sV.aJ (λ_=>i2) ?_
 simp[AX,MV,bX,ak];refine sV.aJ (λ_=>s2) ?_
 simp;refine sV.aJ (λ_=>i3) ?_
 simp[AX,MV,bX,ak];refine sV.aJ (λ_=>s3) ?_
 simp;refine sV.aJ (λ_=>i1) ?_
 simp;refine sV.aJ (λ_=>i4) ?_
 simp[AX,MV,bX,ak];refine sV.aJ (λ_=>s4) ?_
 have VF:(4:Int)<b.length:=by omega
 simp[B6,hbl1,VF,hb1',ak];refine sV.aJ (λ_=>i5) ?_
 simp[B6,hbl1,VF,hb1',ak];omega
theorem O3{l:List Event}(h:rJ l=true):pX (l.map Bn)=none:=x6 λj hj=>by
 have hjl:j<l.length:=by simpa using hj
 unfold gT;rw[List.getElem?_map,List.getElem?_eq_getElem hjl];simp only[Option.map_some];refine List.findIdx?_eq_none_iff.2 λa ha=>?_
 rw[<-List.map_take]at ha;obtain⟨x,hx,rfl⟩:=List.mem_map.1 ha;unfold rJ at h;rw[List.all_eq_true]at h;have h1:=h j (List.mem_range.2 hjl);have hg:l.getD j default=l[j]:=by rw[List.getD_eq_getElem?_getD,List.getElem?_eq_getElem hjl];rfl
 unfold Cu at h1;rw[hg,Bool.and_eq_true,Bool.not_eq_true',List.any_eq_false]at h1;have h2:=h1.1 x hx;have h3:¬(x.src=l[j].src/\x.id=l[j].id):=by simpa using h2
 unfold mL Bn;exact decide_eq_false λw=>h3 ⟨w.2.2.1,w.2.2.2.1⟩
def O4(l:List Event)(az:Int)(i:Nat):Bool:=mD (l.getD i default).src 0 (az-1)&&mD (l.getD i default).id 0 999&&mm (l.getD i default).aa&&Cu l i (l.getD i default)
def lI(l:List Event)(az:Int):Bool:=mD az 1 4&&decide (l.length<=60)&&(List.range l.length).all (O4 l az)
theorem BB(a b:Event):nE a b=decide (Sm a b):=rfl
theorem EH(l:List Event)(az:Int):aC prog 45 [sl (l.map bg),aH az] (.d (.k (.bool (lI l az)))):=by
 have cc:=ar (p:=aY [] [] []);refine aC.body (ar (p:=aY [] [] [])) func45 rfl call45 (by rw[ntmps45];simp) rfl λhf H=>?_
 simp[ntmps45,results45]at hf|-;refine EC.aJ (mj _ _ _) ?_;cases h1:mD az 1 4 with
 |false=>simp[lI,h1]
 |true=>
  have hs:1<=az/\az<=4:=by unfold mD at h1;simpa using h1
  by_cases h2:l.length<=60
  ·have A7:¬(60<(l.length:Int)):=by omega
   have Rm:IntKind.i64.wrap (az-1)=az-1:=by rw[wrap64]<;>omega
   simp[A7];refine AW.aU cc (λi:Nat=>⟨[(0,sl (l.map bg)),(1,aH az),(5,aH i)],[],H⟩) (λi=>l.length-i) (λi=>i<=l.length/\∀j,j<i->O4 l az j=true) 0 ⟨⟨Nat.zero_le _,λj hj=>absurd hj (by omega)⟩,by simp⟩ ?_
   rintro i ⟨hi,hk⟩;simp;refine⟨λh=>?_,λh=>?_⟩
   ·obtain⟨x,hx⟩:∃x,l[i]=x:=⟨_,rfl⟩;have hg:l.getD i default=x:=by rw[List.getD_eq_getElem?_getD,List.getElem?_eq_getElem h,<-hx];rfl
    have Ct:O4 l az i=false->lI l az=false:=λq=>by
     unfold lI;have:(List.range l.length).all (O4 l az)=false:=List.all_eq_false.2 ⟨i,List.mem_range.2 h,by simp[q]⟩
     rw[this];simp
    have yB:=N9 x.aa;simp[bN]at yB;refine AW.draw cc [(7,.n),(15,.n),(24,.n),(40,.n)] (.q 0<|.q 1<|.q 2<|.q 3<|.q 5<|.q 6<|.q 4<|.q 7<|.q 8<|.q 9<|.q 10<|.q 11<|.q 12<|.q 13<|.q 14<|.q 15<|.q 16<|.q 17<|.q 18<|.q 19<|.q 20<|.q 21<|.q 22<|.q 23<|.q 24<|.q 25<|.q 26<|.q 27<|.q 28<|.q 29<|.q 30<|.q 31<|.q 32<|.q 33<|.q 34<|.q 36<|.q 37<|.q 38<|.q 35<|.q 39<|.q 40<|.q 41<|.q 42<|.q 43<|.done) (by kernel_rfl) ?_
    simp[h,List.getElem?_eq_getElem h,hx,bg,bN,Rm];refine FC.aJ (mj _ _ _) ?_;have hg1:i≠0->∃(h':i-1<l.length),True:=λ_=>⟨by omega,trivial⟩
    have hwi:IntKind.i64.wrap ((i:Int)+1)=i+1:=aB (n:=9223372036854775807) (show i<9223372036854775807 by omega) (Nat.le_refl _)
    obtain⟨okI,OF⟩:∃okI:Bool,(mD x.src 0 (az-1)&&mD x.id 0 999&&mm x.aa&&(decide (i=0)||nE (l.getD (i-1) default) x))=okI:=⟨_,rfl⟩;have RF:O4 l az i=(okI&& !(l.take i).any (λy=>decide (y.src=x.src/\y.id=x.id))):=by
     unfold O4 Cu;rw[hg,<-OF];cases mD x.src 0 (az-1)<;>cases mD x.id 0 999<;>cases mm x.aa<;>cases(decide (i=0)||nE (l.getD (i-1) default) x)<;>simp
    by_cases RA:i=0
    ·subst RA;simp[h,List.getElem?_eq_getElem h,hx,bg,bN,Rm];refine sV.aJ (λ_=>mj _ _ _) ?_
     simp[h,List.getElem?_eq_getElem h,hx,bg,bN,Rm];refine sV.aJ (λ_=>yB) ?_
     simp[h,List.getElem?_eq_getElem h,hx,bg,bN,Rm];refine sV.aJ (v:=.d (.k (.bool false))) (λq=>by cases q) ?_
     simp;refine⟨λq=>?_,λa1 a2 a3=>?_⟩
     ·refine Ct ?_;rw[RF,<-OF];rcases q with(q|q)|q<;>simp[q]
     ·have hok:okI=true:=by rw[<-OF,a1,a2,a3];rfl
      refine AW.aU cc (λj:Nat=>⟨[(0,sl (l.map bg)),(1,aH az),(5,aH (0:Nat)),(6,aH j)],[],H⟩) (λj=>0-j) (λj=>j<=0/\∀k (hk:k<l.length),k<j->¬(l[k].src=x.src/\l[k].id=x.id)) 0 ⟨⟨Nat.zero_le _,λk _ hk0=>absurd hk0 (by omega)⟩,by simp⟩ ?_
      rintro j ⟨hj,hkj⟩;simp;have hjeq:j=0:=by omega
      have Fj:(l.take 0).any (λy=>decide (y.src=x.src/\y.id=x.id))=false:=List.any_eq_false.2 λy hy=>by
       obtain⟨k,hk,rfl⟩:=List.mem_take_iff_getElem.1 hy;simpa using hkj k (by omega) (by omega)
      have M5:O4 l az 0=true:=by rw[RF,Fj,hok];rfl
      refine⟨λq=>absurd q (by omega),?_⟩
      exact NX.go (0+1) (by omega) ⟨h,λk lg=>by
       by_cases e:k=0
       ·rw[e];exact M5
       ·exact hk k (by omega)⟩ (by simp;exact(by decide:IntKind.i64.wrap 1=1))
    ·have hi1:i-1<l.length:=by omega
     obtain⟨y,hy⟩:∃y,l[i-1]=y:=⟨_,rfl⟩;have hgy:l.getD (i-1) default=y:=by rw[List.getD_eq_getElem?_getD,List.getElem?_eq_getElem hi1,<-hy];rfl
     have hwp:IntKind.i64.wrap ((i:Int)-1)=i-1:=by rw[wrap64]<;>omega
     have htn:((i:Int)-1).toNat=i-1:=by omega
     have hpos:0<i:=by omega
     have Dz:=EG y x;simp[bg,bN]at Dz;rw[hgy]at OF;simp[h,List.getElem?_eq_getElem h,hx,bg,bN,Rm];refine sV.aJ (λ_=>mj _ _ _) ?_
     simp[h,List.getElem?_eq_getElem h,hx,bg,bN,Rm];refine sV.aJ (λ_=>yB) ?_
     simp[h,List.getElem?_eq_getElem h,hx,bg,bN,Rm,RA,hpos,hwp,htn,List.getElem?_eq_getElem hi1,hy];refine⟨λa1 a2 a3=>⟨⟨⟨a1,a2⟩,a3⟩,by omega,by omega⟩,sV.aJ (λ_=>Dz) ?_⟩
     simp;refine⟨λq=>?_,λa1 a2 a3 a4=>?_⟩
     ·refine Ct ?_;rw[RF,<-OF];rcases q with((q|q)|q)|q
      ·simp[q]
      ·simp[q]
      ·simp[q]
      ·have:nE y x=false:=by rw[BB];exact decide_eq_false q
       simp[RA,this]
     ·have hok:okI=true:=by rw[<-OF,a1,a2,a3,BB,decide_eq_true a4];simp
      refine AW.aU cc (λj:Nat=>⟨[(0,sl (l.map bg)),(1,aH az),(5,aH (i:Nat)),(6,aH j)],[],H⟩) (λj=>i-j) (λj=>j<=i/\∀k (hk:k<l.length),k<j->¬(l[k].src=x.src/\l[k].id=x.id)) 0 ⟨⟨Nat.zero_le _,λk _ hk0=>absurd hk0 (by omega)⟩,by simp⟩ ?_
      rintro j ⟨hj,hkj⟩;simp;refine⟨λhji=>?_,λhji=>?_⟩
      ·have hjl:j<l.length:=by omega
       obtain⟨z,hz⟩:∃z,l[j]=z:=⟨_,rfl⟩;have Rn:IntKind.i64.wrap ((j:Int)+1)=j+1:=aB (n:=9223372036854775807) (show j<9223372036854775807 by omega) (Nat.le_refl _)
       refine AW.draw cc [] (.q 0<|.q 1<|.q 2<|.q 3<|.q 5<|.q 6<|.q 7<|.q 8<|.q 4<|.q 9<|.q 10<|.q 11<|.q 12<|.q 13<|.q 14<|.q 15<|.q 17<|.q 18<|.q 19<|.q 20<|.q 16<|.q 21<|.q 22<|.q 23<|.done) (by kernel_rfl) ?_
       by_cases hsame:z.src=x.src/\z.id=x.id
       ·have Fj:(l.take i).any (λy=>decide (y.src=x.src/\y.id=x.id))=true:=List.any_eq_true.2 ⟨z,by rw[<-hz];exact List.mem_take_iff_getElem.2 ⟨j,by omega,rfl⟩,decide_eq_true hsame⟩
        have M5:lI l az=false:=Ct (by rw[RF,Fj];simp)
        simp[h,hjl,List.getElem?_eq_getElem h,List.getElem?_eq_getElem hjl,hx,hz,bg,bN,hsame.1,hsame.2,M5]
       ·have xQ:∀k (hk:k<l.length),k<j+1->¬(l[k].src=x.src/\l[k].id=x.id):=λk hk hkj1=>by
         by_cases e:k=j
         ·subst e;rw[hz];exact hsame
         ·exact hkj k hk (by omega)
        by_cases hss:z.src=x.src
        ·have hid:¬z.id=x.id:=λw=>hsame ⟨hss,w⟩
         simp[h,hjl,List.getElem?_eq_getElem h,List.getElem?_eq_getElem hjl,hx,hz,bg,bN,hss,hid];exact NX.go (j+1) (by omega) ⟨by omega,xQ⟩ (by simp[Rn])
        ·simp[h,hjl,List.getElem?_eq_getElem h,List.getElem?_eq_getElem hjl,hx,hz,bg,bN,hss];exact NX.go (j+1) (by omega) ⟨by omega,xQ⟩ (by simp[Rn])
      ·have hjeq:j=i:=by omega
       have Fj:(l.take i).any (λy=>decide (y.src=x.src/\y.id=x.id))=false:=List.any_eq_false.2 λy hy=>by
        obtain⟨k,hk,rfl⟩:=List.mem_take_iff_getElem.1 hy;simpa using hkj k (by omega) (by omega)
       have M5:O4 l az i=true:=by rw[RF,Fj,hok];rfl
       exact NX.go (i+1) (by omega) ⟨h,λk lg=>by
        by_cases e:k=i
        ·rw[e];exact M5
        ·exact hk k (by omega)⟩ (by simp[hwi])
   ·have:i=l.length:=by omega
    subst this;have:(List.range l.length).all (O4 l az)=true:=List.all_eq_true.2 λj hj=>hk j (List.mem_range.1 hj)
    simp[lI,h1,h2,this]
  ·have A7:60<(l.length:Int):=by omega
   simp[A7,lI,h2]
open Classical in
theorem GW(p:Prog)(hs:∀s∈p.az++an p,cN s)(l:List Event):aC prog 43 [lv (ax p),sl (l.map bg)] (.d (.k (.bool (fE p l)))):=by
 refine aC.body (ar (p:=aY [2] [] [])) func43 rfl call43 (by rw[ntmps43];simp) rfl λhf H=>?_
 have h1:=KI p hs;have h2:=EH l p.az.length;have hm:fE p l=(decide (formed p)&&lI l p.az.length):=by
  unfold fE lI;by_cases hl:l.length<=60
  ·cases hf1:decide (formed p)with
   |false=>simp
   |true=>
    cases he:rJ l with
    |false=>
     have:(List.range l.length).all (O4 l p.az.length)=false:=by
      unfold rJ at he;obtain⟨i,hi,q⟩:=List.all_eq_false.1 he;refine List.all_eq_false.2 ⟨i,hi,?_⟩;unfold O4;simp at q;simp[q]
     simp[this]
    |true=>
     have hc:=O3 he;unfold iD qT;rw[hc];simp only[Bool.true_and,hl,decide_true,Bool.and_true,List.length_map]
     congr 1
     unfold rJ at he;rw[List.all_eq_true]at he;rw[Bool.eq_iff_iff,Bool.not_eq_true',List.any_eq_false,List.all_eq_true];constructor
     ·intro h i hi;have Dt:=List.mem_range.1 hi;have hg:l.getD i default=l[i]:=by rw[List.getD_eq_getElem?_getD,List.getElem?_eq_getElem Dt];rfl
      have h3:=h (Bn l[i]) (List.mem_map.2 ⟨l[i],List.getElem_mem Dt,rfl⟩);have h4:qi (Bn l[i]) p.az.length=true:=by simpa using h3
      have h5:=he i hi;unfold O4;rw[hg]at h5|-;rw[h5];unfold qi at h4;simp only[Bn,if_true,Bool.and_eq_true,qJ]at h4;simp only[h4.1,h4.2.1.1,h4.2.2,Bool.and_self]
     ·intro h n hn;obtain⟨e,he2,rfl⟩:=List.mem_map.1 hn;obtain⟨i,Dt,rfl⟩:=List.mem_iff_getElem.1 he2;have hg:l.getD i default=l[i]:=by rw[List.getD_eq_getElem?_getD,List.getElem?_eq_getElem Dt];rfl
      have h3:=h i (List.mem_range.2 Dt);unfold O4 at h3;rw[hg]at h3;simp only[Bool.and_eq_true]at h3;have h6:mD 1 1 99=true:=by decide
      have:qi (Bn l[i]) p.az.length=true:=by
       unfold qi;simp only[Bn,if_true,qJ,h3.1.1.1,h3.1.1.2,h3.1.2,h6,Bool.and_self]
      simp[this]
  ·simp[hl]
 rw[hm];simp[ax]at h1 h2;simp[ntmps43,results43,ax];refine EC.aJ h1 ?_;by_cases hp:formed p
 ·simp[hp];refine EC.aJ h2 ?_;simp[hp]
 ·simp[hp]
end Go.Aft
end
section
set_option maxRecDepth 20000
namespace Go.Aft
theorem u6{α β:Type}{f:α->β}:∀{l:List α},(l.map f).Nodup->l.Nodup
 |[],_=>.nil
 |a::l,h=>by
  have:=List.nodup_cons.1 h;exact List.nodup_cons.2 ⟨λq=>this.1 (List.mem_map.2 ⟨a,q,rfl⟩),u6 this.2⟩
abbrev tD(g:List Nat):Nat:=g.headD 0
def iQ(n:Nat)(R:Nat->Nat->Bool):List (List Nat):=dG n R++((List.range n).filter λd=>!R d d).map λd=>[d]
def qR(n:Nat)(R:Nat->Nat->Bool)(D:List Nat)(f:Nat):Bool:=!D.contains f&&(List.range n).all λk=>!R f k||R k f||D.contains k
def Dj(o:Option (List Nat))(g:List Nat):Bool:=match o with
 |none=>true
 |some b=>decide (tD g<tD b)
def rU(rdy:Nat->Bool)(Gs:List (List Nat)):Option (List Nat):=Gs.foldl (λo g=>if(rdy (tD g)&&Dj o g)=true then some g else o) none
def tn(n:Nat)(R:Nat->Nat->Bool):Nat->List Nat->List (List Nat)
 |0,_=>[]
 |f+1,D=>match rU (qR n R D) (iQ n R)with
  |none=>[]
  |some g=>g::tn n R f (cR D g)
def U0(n:Nat)(R:Nat->Nat->Bool):List (List Nat):=tn n R (iQ n R).length []
theorem BA(rdy:Nat->Bool)(Gs:List (List Nat))(g:List Nat):rU rdy (Gs++[g])=if(rdy (tD g)&&Dj (rU rdy Gs) g)=true then some g else rU rdy Gs:=by
 rw[rU,List.foldl_append];rfl
theorem SQ{rdy:Nat->Bool}{g0:List Nat}(hr:rdy (tD g0)=true):∀Gs:List (List Nat),(∀g∈Gs,rdy (tD g)=true->g=g0\/ tD g0<tD g)->
  (rU rdy Gs=none\/ ∃b∈Gs,rdy (tD b)=true/\rU rdy Gs=some b)/\(g0∈Gs->rU rdy Gs=some g0):=by
 refine iv (λ_=>⟨.inl rfl,λh=>absurd h List.not_mem_nil⟩) λGs g ih hg=>?_
 obtain⟨i1,i2⟩:=ih λx hx=>hg x (List.mem_append_left _ hx)
 have hgg:=hg g (by simp)
 rw[BA];constructor
 ·split
  ·rename_i q;rw[Bool.and_eq_true]at q;exact .inr ⟨g,by simp,q.1,rfl⟩
  ·rcases i1 with q|⟨b,hb,q1,q2⟩
   ·exact .inl q
   ·exact .inr ⟨b,List.mem_append_left _ hb,q1,q2⟩
 ·intro h0;by_cases e:g=g0
  ·subst e;rcases i1 with q|⟨b,hb,q1,q2⟩
   ·rw[q,hr];rfl
   ·rcases hg b (List.mem_append_left _ hb) q1 with q|q
    ·rw[q2,q,if_neg (by simp[Dj])]
    ·rw[q2,if_pos (by rw[hr];exact decide_eq_true q)]
  ·have hm:g0∈Gs:=by
    rcases List.mem_append.1 h0 with q|q
    ·exact q
    ·exact absurd (List.mem_singleton.1 q).symm e
   rw[i2 hm];by_cases q:rdy (tD g)=true
   ·have:=(hgg q).resolve_left e;rw[if_neg];rw[Bool.and_eq_true];rintro⟨_,w⟩;have:=of_decide_eq_true (show decide (tD g<tD g0)=true from w)
    omega
   ·rw[if_neg];rw[Bool.and_eq_true];exact λw=>q w.1
section
variable {n:Nat} {R:Nat->Nat->Bool} (ht:∀i j k,R i j=true->R j k=true->R i k=true)
include ht
theorem xA{d k:Nat}(hk:k<n)(h:R d k=true):k∈fL n R d↔R k d=true:=by
 unfold fL
 split
 ·rename_i hd;rw[bK];constructor
  ·rintro⟨_,e|q⟩
   ·rw[e];exact hd
   ·exact q.2
  ·intro q;exact⟨hk,.inr ⟨h,q⟩⟩
 ·rename_i hd;rw[List.mem_singleton];constructor
  ·intro e;rw[e]at h;exact absurd h hd
  ·intro q;exact absurd (ht _ _ _ h q) hd
theorem tR{D:List Nat}(d:Nat):fw n R D d=qR n R D d:=by
 rw[Bool.eq_iff_iff];unfold fw qR;rw[Bool.and_eq_true,Bool.and_eq_true];refine and_congr Iff.rfl ?_;rw[Bool.not_eq_true',List.any_eq_false,List.all_eq_true];constructor
 ·intro h k hk;cases q:R d k with
  |false=>rfl
  |true=>
   have h1:=h k (List.mem_filter.2 ⟨hk,q⟩);cases q2:R k d with
   |true=>rfl
   |false=>
    have h2:k∉fL n R d:=λw=>by rw[(xA ht (List.mem_range.1 hk) q).1 w]at q2;cases q2
    simp[h2]at h1;simp[h1]
 ·intro h k hk;obtain⟨hk,q⟩:=List.mem_filter.1 hk;have h1:=h k hk;rw[q]at h1;cases q2:R k d with
  |true=>simp[(xA ht (List.mem_range.1 hk) q).2 q2]
  |false=>
   rw[q2]at h1;simp at h1;simp[h1]
theorem UT{d f:Nat}(hd:R d d=true)(hf:f∈bO n R d):bO n R f=bO n R d/\R f f=true:=by
 have h12:R d f=true/\R f d=true:=by
  rcases(bK.1 hf).2 with e|q
  ·rw[e];exact⟨hd,hd⟩
  ·exact q
 refine⟨?_,ht _ _ _ h12.2 h12.1⟩;unfold bO;refine List.filter_congr λj _=>?_
 rw[Bool.eq_iff_iff];simp only[Bool.or_eq_true,beq_iff_eq,Bool.and_eq_true];constructor
 ·rintro(rfl|⟨h1,h2⟩)
  ·exact .inr h12
  ·exact .inr ⟨ht _ _ _ h12.1 h1,ht _ _ _ h2 h12.2⟩
 ·rintro(rfl|⟨h1,h2⟩)
  ·exact .inr ⟨h12.2,h12.1⟩
  ·exact .inr ⟨ht _ _ _ h12.2 h1,ht _ _ _ h2 h12.1⟩
theorem Lz{d f:Nat}(hf:f∈fL n R d):fL n R f=fL n R d:=by
 unfold fL at hf|-;cases h:R d d with
 |true=>
  rw[if_pos h]at hf;obtain⟨q1,q2⟩:=UT ht h hf;rw[if_pos q2,if_pos rfl,q1]
 |false=>
  rw[if_neg (by rw[h];simp),List.mem_singleton]at hf
  subst hf;rw[h]
theorem Ix{d:Nat}(hd:d<n):tD (fL n R d)∈fL n R d/\tD (fL n R d)<=d:=by
 have hm:=fP (R:=R) hd;have hp:(fL n R d).Pairwise (·<·):=by
  unfold fL
  split
  ·exact List.Pairwise.filter _ List.pairwise_lt_range
  ·simp
 cases h:fL n R d with
 |nil=>rw[h]at hm;cases hm
 |cons a l=>
  rw[h]at hm hp;refine⟨List.mem_cons_self ..,?_⟩;rcases List.mem_cons.1 hm with q|q
  ·rw[q];exact Nat.le_refl _
  ·exact Nat.le_of_lt ((List.pairwise_cons.1 hp).1 d q)
theorem fQ{g:List Nat}:g∈iQ n R↔∃f,f<n/\fL n R f=g/\tD g=f:=by
 unfold iQ;rw[List.mem_append];constructor
 ·rintro(h|h)
  ·simp only[dG,List.mem_map,List.mem_filter,Bool.and_eq_true,List.mem_range,beq_iff_eq]at h;obtain⟨i,⟨hi,h1,h2⟩,rfl⟩:=h;refine⟨i,hi,by rw[fL,if_pos h1],?_⟩
   unfold tD;cases q:bO n R i with
   |nil=>rw[q]at h2;cases h2
   |cons a l=>rw[q]at h2;exact Option.some.inj h2
  ·simp only[List.mem_map,List.mem_filter,List.mem_range,Bool.not_eq_true']at h;obtain⟨d,⟨hd,h1⟩,rfl⟩:=h;exact⟨d,hd,by rw[fL,if_neg (by rw[h1];simp)],rfl⟩
 ·rintro⟨f,hf,h1,h2⟩;cases q:R f f with
  |true=>
   left;rw[fL,if_pos q]at h1;simp only[dG,List.mem_map,List.mem_filter,Bool.and_eq_true,List.mem_range,beq_iff_eq];refine⟨f,⟨hf,q,?_⟩,h1⟩;have hm:f∈bO n R f:=bK.2 ⟨hf,.inl rfl⟩;rw[h1]at hm|-;cases g with
   |nil=>cases hm
   |cons a l=>exact congrArg some h2
  |false=>
   right;rw[fL,if_neg (by rw[q];simp)]at h1
   simp only[List.mem_map,List.mem_filter,List.mem_range,Bool.not_eq_true'];exact⟨f,⟨hf,q⟩,h1⟩
theorem xS:(iQ n R).Nodup:=by
 have h1:((iQ n R).map tD).Nodup:=by
  have e1:(dG n R).map tD=(List.range n).filter λi=>R i i&&(bO n R i).head? ==some i:=by
   rw[dG,List.map_map]
   conv=>rhs;rw[<-List.map_id ((List.range n).filter λi=>R i i&&(bO n R i).head? ==some i)]
   refine List.map_congr_left λi hi=>?_
   have:=(List.mem_filter.1 hi).2;rw[Bool.and_eq_true,beq_iff_eq]at this
   show tD (bO n R i)=i
   unfold tD;cases q:bO n R i with
   |nil=>rw[q]at this;cases this.2
   |cons a l=>rw[q]at this;exact Option.some.inj this.2
  have e2:(((List.range n).filter λd=>!R d d).map λd=>[d]).map tD=(List.range n).filter λd=>!R d d:=by
   rw[List.map_map]
   conv=>rhs;rw[<-List.map_id ((List.range n).filter λd=>!R d d)]
   exact List.map_congr_left λ_ _=>rfl
  rw[iQ,List.map_append,e1,e2,List.nodup_append];refine⟨List.Pairwise.filter _ List.nodup_range,List.Pairwise.filter _ List.nodup_range,λa ha b hb e=>?_⟩
  have h3:=(List.mem_filter.1 ha).2;have h4:=(List.mem_filter.1 hb).2;rw[Bool.and_eq_true]at h3;rw[<-e,h3.1]at h4;cases h4
 exact u6 h1
def kf(n:Nat)(R:Nat->Nat->Bool)(D:List Nat):Prop:=∀x∈D,x<n/\∀k∈fL n R x,k∈D
theorem Bt{D:List Nat}(hD:kf n R D){d:Nat}(hd:d<n):kf n R (cR D (fL n R d)):=λx hx=>by
 rcases eo.1 hx with q|q
 ·exact⟨(hD x q).1,λk hk=>eo.2 (.inl ((hD x q).2 k hk))⟩
 ·exact⟨wB hd q,λk hk=>eo.2 (.inr (by rw[Lz ht q]at hk;exact hk))⟩
theorem D4{D:List Nat}(hD:kf n R D){d:Nat}(hf:(List.range n).find? (fw n R D)=some d):rU (qR n R D) (iQ n R)=some (fL n R d)/\d<n/\tD (fL n R d)=d/\d∉D:=by
 have hd:d<n:=List.mem_range.1 (List.mem_of_find?_eq_some hf);have hr:=List.find?_some hf;have hmin:∀k,k<d->fw n R D k=false:=λk hk=>by
  cases q:fw n R D k with
  |false=>rfl
  |true=>
   obtain⟨_,xs,ys,e,hno⟩:=List.find?_eq_some_iff_append.1 hf;have hkr:k∈List.range n:=List.mem_range.2 (by omega)
   have hp:(List.range n).Pairwise (·<·):=List.pairwise_lt_range
   rw[e]at hkr hp;rcases List.mem_append.1 hkr with w|w
   ·have:=hno k w;rw[q]at this;cases this
   ·rcases List.mem_cons.1 w with w|w
    ·omega
    ·have:=(List.pairwise_cons.1 (List.pairwise_append.1 hp).2.1).1 k w;omega
 have IV:d∉D:=by
  unfold fw at hr;rw[Bool.and_eq_true]at hr;simpa using hr.1
 obtain⟨h1,h2⟩:=Ix ht hd;have Du:tD (fL n R d)=d:=by
  refine Classical.byContradiction λhne=>?_
  obtain⟨f,hfe⟩:∃f,tD (fL n R d)=f:=⟨_,rfl⟩;rw[hfe]at h1 h2 hne;have hlt:f<d:=by omega
  have MY:=hmin f hlt;rw[tR ht]at MY hr;have hRd:R d d=true:=by
   unfold fL at h1
   split at h1
   ·rename_i q;exact q
   ·rw[List.mem_singleton]at h1;exact absurd h1 hne
  rw[fL,if_pos hRd]at h1;have LL:R d f=true/\R f d=true:=(bK.1 h1).2.resolve_left hne;have hfD:f∉D:=λq=>IV ((hD f q).2 d (by
   rw[fL,if_pos (ht _ _ _ LL.2 LL.1)];exact bK.2 ⟨hd,.inr ⟨LL.2,LL.1⟩⟩))
  have:qR n R D f=true:=by
   unfold qR at hr|-;rw[Bool.and_eq_true,List.all_eq_true]at hr|-;refine⟨by simpa using hfD,λk hk=>?_⟩
   have h3:=hr.2 k hk;cases q:R f k with
   |false=>rfl
   |true=>
    rw[ht _ _ _ LL.1 q]at h3;cases q2:R k d with
    |true=>rw[ht _ _ _ q2 LL.1];rfl
    |false=>rw[q2]at h3;simp at h3;simp[h3]
  rw[this]at MY;cases MY
 refine⟨?_,hd,Du,IV⟩;refine(SQ (by rw[Du,<-tR ht];exact hr) (iQ n R) λg hg q=>?_).2 ((fQ ht).2 ⟨d,hd,rfl,Du⟩)
 obtain⟨f,hf',e1,e2⟩:=(fQ ht).1 hg;rw[e2]at q|-;rw[Du];rw[<-tR ht]at q;rcases Nat.lt_trichotomy f d with w|w|w
 ·rw[hmin f w]at q;cases q
 ·left;rw[<-e1,w]
 ·exact .inr w
def sU(n:Nat)(R:Nat->Nat->Bool)(D:List Nat):Nat:=((iQ n R).filter λg=>!D.contains (tD g)).length
theorem Jp{D:List Nat}(hD:kf n R D){d:Nat}(hd:d<n)(hh:tD (fL n R d)=d)(IV:d∉D):sU n R (cR D (fL n R d))=sU n R D-1:=by
 obtain⟨A,hA⟩:∃A,(iQ n R).filter (λg=>!D.contains (tD g))=A:=⟨_,rfl⟩
 have hAn:A.Nodup:=by rw[<-hA];exact List.Pairwise.filter _ (xS ht)
 have J6:fL n R d∈A:=by
  rw[<-hA];exact List.mem_filter.2 ⟨(fQ ht).2 ⟨d,hd,rfl,hh⟩,by rw[hh];simpa using IV⟩
 have e:(iQ n R).filter (λg=>!(cR D (fL n R d)).contains (tD g))=A.filter (·!=fL n R d):=by
  rw[<-hA,List.filter_filter];refine List.filter_congr λg hg=>?_
  obtain⟨f,hf,e1,e2⟩:=(fQ ht).1 hg;rw[Bool.eq_iff_iff];simp only[Bool.and_eq_true,Bool.not_eq_true',List.contains_eq_mem,decide_eq_false_iff_not,bne_iff_ne,ne_eq,eo,not_or,e2];rw[and_comm];refine and_congr ?_ Iff.rfl;constructor
  ·intro q w;apply q;rw[<-w];rw[<-e1];exact fP hf
  ·intro q w;apply q;rw[<-e1,Lz ht w]
 unfold sU;rw[e,hA,<-hAn.erase_eq_filter,List.length_erase_of_mem J6]
theorem wX{D:List Nat}(hD:kf n R D):sU n R D=0↔∀d,d<n->d∈D:=by
 unfold sU;rw[List.length_eq_zero_iff,List.filter_eq_nil_iff];constructor
 ·intro h d hd;obtain⟨h1,h2⟩:=Ix ht hd;have hlt:=wB hd h1;have e:=Lz ht h1;have h3:=h (fL n R d) ((fQ ht).2 ⟨_,hlt,e,rfl⟩);have h4:tD (fL n R d)∈D:=by simpa using h3
  refine(hD _ h4).2 d ?_;rw[e];exact fP hd
 ·intro h g hg;obtain⟨f,hf,e1,e2⟩:=(fQ ht).1 hg;rw[e2];simpa using h f hf
theorem QD:∀(f2 f1:Nat) (D:List Nat),kf n R D->D.Nodup->sU n R D=f2->n-D.length<=f1->eZ n R f1 D=tn n R f2 D
 |0,f1,D,hD,hn,hc,hf=>by
  have hall:=(wX ht hD).1 hc;have hlen:n<=D.length:=by
   have:=dL (a:=List.range n) (b:=D) List.nodup_range λx hx=>hall x (List.mem_range.1 hx)
   simpa using this
  rw[tn];cases f1 with
  |zero=>rfl
  |succ f1=>rw[eZ,if_neg (by omega)]
 |f2+1,f1,D,hD,hn,hc,hf=>by
  have hlt:D.length<n:=by
   refine Classical.byContradiction λhge=>?_
   have:∀d,d<n->d∈D:=λd hd=>Classical.byContradiction λIV=>by
    have h1:=dL (a:=D++[d]) (b:=List.range n) (by
     rw[List.nodup_append];exact⟨hn,by simp,λa ha b hb q=>IV (by rw[List.mem_singleton]at hb;rw[<-hb,<-q];exact ha)⟩) λx hx=>by
     rcases List.mem_append.1 hx with q|q
     ·exact List.mem_range.2 (hD x q).1
     ·rw[List.mem_singleton.1 q];exact List.mem_range.2 hd
    simp at h1;omega
   rw[(wX ht hD).2 this]at hc;cases hc
  obtain⟨d,LL⟩:=tS ht hn (λd hd=>(hD d hd).1) hlt
  obtain⟨b1,b2,b3,b4⟩:=D4 ht hD LL;cases f1 with
  |zero=>omega
  |succ f1=>
   rw[eZ,if_pos hlt,LL,tn,b1];simp only;have hlen:=uA (l:=fL n R d) (D:=D) (fP b2) b4;rw[QD f2 f1 _ (Bt ht hD b2) (jm hn) (by rw[Jp ht hD b2 b3 b4,hc];rfl) (by omega)]
theorem QC:gR n R=U0 n R:=by
 refine QD ht _ n [] (λx hx=>absurd hx List.not_mem_nil) .nil ?_ (by simp)
 unfold sU;rw[List.filter_eq_self.2 λg _=>by simp]
end
end Go.Aft
end
section
set_option maxRecDepth 20000
namespace Go.Aft
section
variable {n:Nat} {R:Nat->Nat->Bool} (ht:∀i j k,R i j=true->R j k=true->R i k=true)
include ht
theorem QB{D:List Nat}{f:Nat}(hD:kf n R D)(hn:D.Nodup)(hc:sU n R D=f+1):∃d,d<n/\rU (qR n R D) (iQ n R)=some (fL n R d)/\kf n R (cR D (fL n R d))/\(cR D (fL n R d)).Nodup/\
  sU n R (cR D (fL n R d))=f/\tn n R (f+1) D=fL n R d::tn n R f (cR D (fL n R d)):=by
 have hlt:D.length<n:=by
  refine Classical.byContradiction λhge=>?_
  have:∀d,d<n->d∈D:=λd hd=>Classical.byContradiction λIV=>by
   have h1:=dL (a:=D++[d]) (b:=List.range n) (by
    rw[List.nodup_append];exact⟨hn,by simp,λa ha b hb q=>IV (by rw[List.mem_singleton]at hb;rw[<-hb,<-q];exact ha)⟩) λx hx=>by
    rcases List.mem_append.1 hx with q|q
    ·exact List.mem_range.2 (hD x q).1
    ·rw[List.mem_singleton.1 q];exact List.mem_range.2 hd
   simp at h1;omega
  rw[(wX ht hD).2 this]at hc;cases hc
 obtain⟨d,LL⟩:=tS ht hn (λd hd=>(hD d hd).1) hlt
 obtain⟨b1,b2,b3,b4⟩:=D4 ht hD LL;refine⟨d,b2,b1,Bt ht hD b2,jm hn,by rw[Jp ht hD b2 b3 b4,hc];rfl,?_⟩
 rw[tn,b1]
theorem RX{g:List Nat}(hg:g∈iQ n R):(∃a t,g=a::t/\a<n)/\(∀k∈g,k<n)/\g.length<=n:=by
 obtain⟨f,hf,e1,e2⟩:=(fQ ht).1 hg;have hlt:∀k∈g,k<n:=λk hk=>by rw[<-e1]at hk;exact wB hf hk
 have h1:=fP (R:=R) hf;rw[e1]at h1;refine⟨?_,hlt,?_⟩
 ·cases g with
  |nil=>cases h1
  |cons a t=>exact⟨a,t,rfl,hlt a (List.mem_cons_self ..)⟩
 ·have uk:g.Nodup:=by
   rw[<-e1];unfold fL
   split
   ·exact List.Pairwise.filter _ List.nodup_range
   ·simp
  have:=dL uk (b:=List.range n) λk hk=>List.mem_range.2 (hlt k hk)
  simpa using this
theorem DC:(iQ n R).length<=n:=by
 have h1:((iQ n R).map tD).Nodup:=by
  have h2:=xS (n:=n) (R:=R) ht;refine List.pairwise_map.2 (List.Pairwise.imp_of_mem ?_ h2);intro a b ha hb hne e;refine hne ?_;obtain⟨f,_,q1,q2⟩:=(fQ ht).1 ha;obtain⟨f',_,r1,r2⟩:=(fQ ht).1 hb;rw[<-q1,<-r1,<-q2,<-r2,e]
 have:=dL h1 (b:=List.range n) λk hk=>by
  obtain⟨g,hg,rfl⟩:=List.mem_map.1 hk;obtain⟨f,hf,_,q⟩:=(fQ ht).1 hg;rw[q];exact List.mem_range.2 hf
 simpa using this
theorem Jo:sU n R []=(iQ n R).length:=by
 unfold sU;rw[List.filter_eq_self.2 λg _=>by simp]
theorem L9:kf n R []:=λx hx=>absurd hx List.not_mem_nil
end
end Go.Aft
end
section
set_option maxRecDepth 20000
namespace Go.Aft
open Go.Proofs.Tryz
theorem ED(l:List Event)(src:Int)(hl:l.length<=1000):aC prog 70 [sl (l.map bg),aH src] (bY (mR (ga l src))):=by
 intro H;have cc:=ar (p:=aY [] [] []);refine aF.bD (ar (p:=aY [] [] [])) func70 rfl call70 (by rw[ntmps70];simp) rfl λhf hw=>?_
 simp[ntmps70,results70]at hf|-;refine AW.aU cc (λs:Nat×LV×GH=>⟨[(0,sl (l.map bg)),(1,aH src),(5,s.2.1),(6,aH s.1)],[],s.2.2⟩) (λs=>l.length-s.1)
  (λs=>s.1<=l.length/\cm 86 4 H s.2.1 ((ga (l.take s.1) src).map ak) s.2.2) (0,.d (.k (.slice none 0 0)),H) ⟨⟨Nat.zero_le _,by simpa[ga]using cm.nil⟩,by simp⟩ ?_
 rintro⟨i,y,H2⟩ ⟨hi,aA⟩;simp only at hi aA;simp;refine⟨λh=>?_,λh=>?_⟩
 ·obtain⟨x,dc⟩:∃x,l[i]=x:=⟨_,rfl⟩;have fU:l.take (i+1)=l.take i++[x]:=by rw[<-aR h,dc]
  have eU:=aB (n:=9223372036854775807) (show i<9223372036854775807 by omega)
  have dz:=zw (l.take i) x src;rw[<-fU]at dz;have hsl:(ga (l.take i) src).length<=1000:=Nat.le_trans (nW _ _) (by simp;omega)
  simp[h,List.getElem?_eq_getElem h,dc,bg,bN,aA.plain.all];refine⟨λq=>?_,λq=>?_⟩
  ·refine eE.dJ (ys:=[ak ⟨x.aa,1⟩]) eW rfl dO (by simp) (x:=y) (by simp) aA (by simp[ak,rowsOf]) (by simp) (bl _) (λr hr=>by simp only[List.mem_singleton]at hr;subst hr;rfl) (by simp;omega) (by simp) λx' H3 aG _ _=>?_
   simp[aG.plain.all,aG.only,eU];refine NX.go (i+1,x',H3) (by simp only;omega) ⟨h,?_⟩ (by simp[aG.only])
   rw[dz,if_pos q,List.map_append];exact aG
  ·rw[if_neg q,List.append_nil]at dz;exact NX.go (i+1,y,H2) (by simp only;omega) ⟨h,by rw[dz];exact aA⟩ (by simp[aA.only,eU])
 ·have:i=l.length:=by omega
  subst this;rw[List.take_length]at aA;have hsl:=nW l src;have hsu:=GX (ga l src) (by omega) (λx hx=>by obtain⟨e,_,rfl⟩:=List.mem_map.1 hx;simp)
  simp at hsu;simp[aA.plain.all];refine⟨aA.nb,EC.aJ (aC.OW (v:=bY (mR (ga l src))) (by simp only[xV,fz,aA.fz];exact hsu)) ?_⟩
  simp[bY];exact λhz=>aO aA.nx aA.ob hw.none
def jy(n:Nat)(D:List Nat):List Bool:=(List.range n).map λk=>D.contains k
@[simp] theorem flgD_len (n:Nat) (D:List Nat):(jy n D).length=n:=by simp [jy]
@[simp] theorem flgD_get {n:Nat} {D:List Nat} {k:Nat} (h:k < (bC (jy n D)).length):(bC (jy n D))[k]=.d (.k (.bool (decide (k ∈ D)))):=by simp [jy,bC]
theorem R5{n:Nat}{D:List Nat}{k:Nat}:(jy n D).set k true=jy n (D++[k]):=by
 refine List.ext_getElem (by simp) λj h1 h2=>?_
 rw[List.getElem_set]
 split
 ·rename_i e;subst e;simp[jy]
 ·rename_i e;have e':¬j=k:=λq=>e q.symm
  simp[jy,e']
theorem R6{n:Nat}{D:List Nat}{k:Nat}(h:k<n):List.take k (bC (jy n D))++LV.d (DV.k (Value.bool true))::List.drop (k+1) (bC (jy n D))=bC (jy n (D++[k])):=by
 rw[<-R5,bC,bC,List.map_set,List.set_eq_take_append_cons_drop,if_pos (by simpa using h)]
theorem R7{n:Nat}{D g:List Nat}:jy n (D++g)=jy n (cR D g):=by
 unfold jy;refine List.map_congr_left λk _=>?_
 rw[Bool.eq_iff_iff];simp[eo]
def D5(o:Option Nat):Int:=match o with|none=>-1|some j=>j
@[simp] theorem bestI_none:D5 none = -1:=rfl
@[simp] theorem bestI_some (j:Nat):D5 (some j)=j:=rfl
def KQ(R:Nat->Nat->Bool)(D:List Nat)(a j:Nat):Bool:=!D.contains a&&(List.range j).all λk=>!R a k||R k a||D.contains k
theorem Ob{R:Nat->Nat->Bool}{D:List Nat}{a:Nat}:KQ R D a 0= !decide (a∈D):=by simp[KQ]
theorem Oc{R:Nat->Nat->Bool}{D:List Nat}{a j:Nat}:KQ R D a (j+1)=(KQ R D a j&&(!R a j||R j a||decide (j∈D))):=by
 unfold KQ;rw[List.range_succ,List.all_append];simp[Bool.and_assoc]
theorem RK.of{r r':Option uL}{s:S}{dst:Option Nat}{K:KT}(h:r=r')(hk:@RK r' s dst K):@RK r s dst K:=h▸hk
theorem Ce(p:Prog)(n:Nat)(R:Nat->Nat->Bool)(hn:p.aj.length=n)(h6:n<=6)(ht:∀i j k,R i j=true->R j k=true->R i k=true)(h130:aC prog 130 [lv (ax p)] (sl ((Aw n R).map rR)))
  (h128:aC prog 128 [lv (ax p)] (sl ((dG n R).map rT))):aC prog 67 [lv (ax p)] (sl ((U0 n R).map rT)):=by
 have cc:=ar (p:=aY [1] [] [44]);intro H;refine aF.dV (ar (p:=aY [1] [] [44])) func67 rfl call67 (by rw[ntmps67];simp) rfl λhf hw=>?_
 simp[ax]at h130 h128;have hrow:∀i,i<n->((Aw n R).map rR)[i]?=some (rR ((List.range n).map λj=>R i j)):=λi hi=>by simp[Aw,List.getElem?_range hi]
 have hcell:∀i j,j<n->(((List.range n).map λj=>R i j).map rB)[j]?=some (rB (R i j)):=λi j hj=>by simp[List.getElem?_range hj]
 have FY:(Aw n R).length=n:=by simp[Aw]
 have hrl:(dG n R).length<=n:=by
  have h1:=DC (n:=n) (R:=R) ht;unfold iQ at h1;rw[List.length_append]at h1;omega
 obtain⟨M,hM⟩:∃M,(Aw n R).map rR=M:=⟨_,rfl⟩;rw[hM]at hrow h130;have hlM:M.length=n:=by rw[<-hM];simpa using FY
 have AV:∀i (hi:i<M.length),M[i]=rR ((List.range n).map λj=>R i j):=λi hi=>by
  have:=hrow i (by omega)
  rw[List.getElem?_eq_getElem hi]at this;exact Option.some.inj this
 simp[ntmps67,results67,ax]at hf|-;refine AW.seq cc ?_;simp;refine AW.seq cc ?_;refine AW.draw cc [(1,.n),(3,.n)] (.q 0<|.q 1<|.q 2<|.q 3<|.q 4<|.q 5<|.done) (by kernel_rfl) ?_
 simp;refine FC.aJ h130 ?_;simp;refine FC.aJ h128 ?_;simp;refine AW.seq cc ?_;simp;refine eE.dJ (ys:=(dG n R).map rT) (H0:=H) (rows:=[]) (x:=.d (.k (.slice none 0 0))) zi rfl lY (by simp) (by simp) cm.nil (by simp[rowsOf]) (by simp) (by simp) (λr hr=>by obtain⟨_,_,rfl⟩:=List.mem_map.1 hr;rfl) (by simp;omega) (by simp) λx0 H1 RP _ _=>?_
 simp[RP.plain.all];refine AW.seq cc ?_;simp;refine AW.Dg cc (λa:Nat×LV×GH=>⟨[(1,.ip ((ax p).map .d) 0),(3,.d (.sl M)),(5,a.2.1),(6,aH a.1)],[],a.2.2⟩) (λa=>n-a.1)
  (λa=>a.1<=n/\cm 94 1 H a.2.1 ((dG n R++((List.range a.1).filter λd=>!R d d).map λd=>[d]).map rT) a.2.2) (0,x0,H1) ⟨⟨by simp,by simpa using RP⟩,by simp[RP.only,ax]⟩ ?_
 rintro⟨i,x,H2⟩ ⟨hi,aA⟩;simp only at hi aA;refine AW.seq cc ?_;simp[ax,hn];refine⟨λh=>?_,λh=>?_⟩
 ·have hi2:i<1000000:=by omega
  have Fc:List.range (i+1)=List.range i++[i]:=List.range_succ;have hfl:=List.length_filter_le (λd=>!R d d) (List.range i)
  rw[List.length_range]at hfl;refine AW.ev cc ?_;simp[hrow i h,hcell i i h,rR,rB,h];refine⟨by omega,λq=>⟨aA.plain.tL,?_⟩,λq=>?_⟩
  ·refine eE.dJ (ys:=[rT [i]]) zi rfl lY (by simp) (x:=x) (by simp[aA.plain.un]) aA (by simp[rowsOf,rT,rI]) (by simp) (λr hr=>by obtain⟨_,_,rfl⟩:=List.mem_map.1 hr;rfl) (by simp[rT]) (by simp;omega) (by simp) λx2 H4 h4 _ _=>?_
   simp[h4.plain.all];refine NX.go (i+1,x2,H4) (by simp only;omega) ⟨h,?_⟩ (by simp[h4.only,aB hi2,ax])
   rw[Fc,List.filter_append];simpa[q]using h4
  ·refine NX.go (i+1,x,H2) (by simp only;omega) ⟨h,?_⟩ (by simp[aA.only,aB hi2,ax])
   rw[Fc,List.filter_append];simpa[q]using aA
 ·have hin:i=n:=by omega
  subst hin;have LY:dG i R++((List.range i).filter λd=>!R d d).map (λd=>[d])=iQ i R:=rfl
  rw[LY]at aA;obtain⟨GS,PP⟩:∃GS,iQ i R=GS:=⟨_,rfl⟩;rw[PP]at aA;have hgl:=DC (n:=i) (R:=R) ht;rw[PP]at hgl;refine AW.fzT 5 (AW.seq cc ?_);simp[aA.fz,ax,hn];refine⟨by omega,?_⟩
  refine AW.seq cc ?_;simp;refine AW.seq cc ?_;simp;obtain⟨nv,hnv⟩:∃nv,H2.next=nv:=⟨_,rfl⟩;have hrep:jx i [LV.d (DV.k (Value.bool false))]=bC (jy i []):=by simp[jx,bC,jy,List.map_const',Function.comp_def]
  rw[hrep,hnv];have hB:∀D:List Nat,(H2.add (.vec 4 0 1 (bC (jy i D)) true)).next=nv+1/\(H2.add (.vec 4 0 1 (bC (jy i D)) true)).obj nv=some (.vec 4 0 1 (bC (jy i D)) true):=λD=>⟨by rw[GH.aq,hnv],by rw[GH.au,hnv,if_pos rfl]⟩
  refine AW.Dg cc (λa:List (List Nat)×LV×List Nat×GH=>⟨[(1,.ip ((ax p).map .d) 0),(3,.d (.sl M)),(5,sl (GS.map rT)),(7,.vs nv 0 1 0 i),(8,a.2.1)],[],a.2.2.2⟩) (λa=>GS.length-a.1.length)
   (λa=>cm 94 1 (H2.add (.vec 4 0 1 (bC (jy i a.2.2.1)) true)) a.2.1 (a.1.map rT) a.2.2.2/\kf i R a.2.2.1/\a.2.2.1.Nodup/\a.1.length+sU i R a.2.2.1=GS.length/\a.1++tn i R (sU i R a.2.2.1) a.2.2.1=U0 i R)
   ([],.d (.k (.slice none 0 0)),[],H2.add (.vec 4 0 1 (bC (jy i [])) true)) ⟨⟨.nil,L9 ht,.nil,by rw[Jo ht,PP];simp,by rw[Jo ht];rfl⟩,by simp[ax]⟩ ?_
  rintro⟨out,x8,D,H3⟩ ⟨hap,mP,uk,hlen,OE⟩;simp only at hap mP uk hlen OE;refine AW.seq cc ?_;simp[ax];have hol:out.length<=GS.length:=by omega
  refine⟨hap.plain.tL,RK.of (r':=some ⟨True,aH out.length,.no⟩) ?_ ?_⟩
  ·rcases id hap.is with⟨e1,rfl⟩|⟨nn,_,_,rfl,_⟩
   ·have e2:out=[]:=by simpa using e1
    subst e2;simp
   ·simp
  simp;refine⟨λh=>?_,λh=>?_⟩
  ·obtain⟨f,hf1⟩:∃f,sU i R D=f+1:=⟨sU i R D-1,by omega⟩
   obtain⟨d,A5,RO,hcl',hnd',hc',xQ⟩:=QB ht mP uk hf1;rw[PP]at RO;have o3:H3.obj nv=some (.vec 4 0 1 (bC (jy i D)) true):=by rw[hap.ob nv (by rw[(hB D).1];omega)];exact(hB D).2
   obtain⟨rdy,hrdy⟩:∃rdy,qR i R D=rdy:=⟨_,rfl⟩;rw[hrdy]at RO;have VA:∀g∈GS,(∃a t,g=a::t/\a<i)/\(∀k∈g,k<i)/\g.length<=i:=λg hg=>RX ht (by rw[PP];exact hg)
   refine AW.ev cc ?_;simp;refine AW.aU cc (λb:Nat×Option Nat=>⟨[(1,.ip ((ax p).map .d) 0),(3,.d (.sl M)),(5,sl (GS.map rT)),(7,.vs nv 0 1 0 i),(8,x8),(9,aH (D5 b.2)),(10,aH b.1)],[],H3⟩) (λb=>GS.length-b.1)
    (λb=>b.1<=GS.length/\(∀j,b.2=some j->j<b.1)/\rU rdy (GS.take b.1)=b.2.bind λj=>GS[j]?) (0,none) ⟨⟨Nat.zero_le _,(λj hj=>by cases hj),rfl⟩,by simp[ax,hap.only]⟩ ?_
   rintro⟨k,o⟩ ⟨hk,hok,hbk⟩;simp only at hk hok hbk;simp[ax];refine⟨λjQ=>?_,λjQ=>?_⟩
   ·obtain⟨g,hg⟩:∃g,GS[k]=g:=⟨_,rfl⟩;obtain⟨⟨a,t,sH,ha⟩,RB,hgl2⟩:=VA g (hg▸List.getElem_mem jQ);simp[jQ,List.getElem?_eq_getElem jQ,hg,rT,sH,rI,o3,ha,ha];have hrd0:=Ob (R:=R) (D:=D) (a:=a);have hrd1:=λj=>Oc (R:=R) (D:=D) (a:=a) (j:=j)
    have hrdn:KQ R D a i=rdy a:=by rw[<-hrdy];rfl
    obtain⟨rd,hrd⟩:∃rd,KQ R D a=rd:=⟨_,rfl⟩;rw[hrd]at hrd0 hrd1 hrdn;refine AW.aU cc (λj:Nat=>⟨[(1,.ip ((ax p).map .d) 0),(3,.d (.sl M)),(5,sl (GS.map rT)),(7,.vs nv 0 1 0 i),(8,x8),(9,aH (D5 o)),(10,aH k),(11,aH a),(12,.d (.k (.bool (rd j)))),(13,aH j)],[],H3⟩) (λj=>i-j)
     (λj=>j<=i) 0 ⟨Nat.zero_le _,by simp[ax,hap.only,hrd0]⟩ ?_
    intro j hj;simp[ax,hn];refine⟨λhji=>?_,λhji=>?_⟩
    ·obtain⟨c,hc⟩:∃c,rd j=c:=⟨_,rfl⟩;have hrd2:=hrd1 j;rw[hc]at hrd2|-;simp[hrow a ha,hrow j hji,AV,List.getElem?_range ha,List.getElem?_range hji,ha,hlM,rR,rB,o3,hji];have hj2:j<1000000:=by omega
     refine⟨λq=>⟨q,λq2=>⟨q,q2⟩⟩,λq=>⟨q,λq2 q3=>⟨q,q2,q3⟩⟩,?_⟩
     refine NX.go (j+1) (by omega) hji ?_
     simp[ax,hap.only,aB hj2,hrd2]
    ·have hjn:j=i:=by omega
     subst hjn;rw[hrdn];have hts:GS.take (k+1)=GS.take k++[g]:=by rw[<-aR jQ,hg]
     have wF:=BA rdy (GS.take k) g;rw[<-hts,hbk]at wF;have hhd:tD g=a:=by rw[sH];rfl
     rw[hhd]at wF;have hk2:k<1000000:=by omega
     rcases o with _|j0
     ·obtain⟨g0,J6⟩:∃g0,GS[0]?=some g0:=⟨_,List.getElem?_eq_getElem (by omega)⟩
      obtain⟨⟨a0,t0,VG,_⟩,_,_⟩:=VA g0 (List.mem_of_getElem? J6);simp[J6,rT,VG,rI];refine⟨λq=>?_,λq=>?_⟩
      ·refine NX.go (k+1,some k) (by simp only;omega) ⟨jQ,λj hj=>by cases hj;exact Nat.lt_succ_self _,?_⟩ (by simp[hap.only,ax,aB hk2])
       rw[wF,q];simp[Dj,List.getElem?_eq_getElem jQ,hg]
      ·refine NX.go (k+1,none) (by simp only;omega) ⟨jQ,(λj hj=>by cases hj),?_⟩ (by simp[hap.only,ax,aB hk2])
       rw[wF,q];simp
     ·have hj0:=hok j0 rfl;obtain⟨g0,J6⟩:∃g0,GS[j0]?=some g0:=⟨_,List.getElem?_eq_getElem (by omega)⟩
      obtain⟨⟨a0,t0,VG,_⟩,_,_⟩:=VA g0 (List.mem_of_getElem? J6);have hn0:¬((j0:Int)<0):=by omega
      have hhd0:tD g0=a0:=by rw[VG];rfl
      have hls:Dj ((some j0).bind λj=>GS[j]?) g=decide (a<a0):=by simp only[Option.bind_some,J6,Dj,hhd,hhd0]
      rw[hls]at wF;simp[J6,rT,VG,rI,hn0];refine⟨λq=>⟨q,by omega⟩,λq1 q2=>?_,λq=>?_⟩
      ·refine NX.go (k+1,some k) (by simp only;omega) ⟨jQ,λj hj=>by cases hj;exact Nat.lt_succ_self _,?_⟩ (by simp[hap.only,ax,aB hk2])
       rw[wF,q1,decide_eq_true q2];simp[List.getElem?_eq_getElem jQ,hg]
      ·refine NX.go (k+1,some j0) (by simp only;omega) ⟨jQ,λj hj=>by cases hj;omega,?_⟩ (by simp[hap.only,ax,aB hk2])
       rw[wF,if_neg];rw[Bool.and_eq_true];rintro⟨w1,w2⟩;have:=q w1;have:=of_decide_eq_true w2;omega
   ·have hke:k=GS.length:=by omega
    subst hke;rw[List.take_length,RO]at hbk;rcases o with _|j0
    ·cases hbk
    have hj0:=hok j0 rfl;obtain⟨g,hg⟩:∃g,fL i R d=g:=⟨_,rfl⟩;rw[hg]at hbk hcl' hnd' hc' xQ;have J6:GS[j0]?=some g:=hbk.symm;obtain⟨_,RB,hgl2⟩:=VA g (List.mem_of_getElem? J6);simp;have hst:∀(D':List Nat) (o:GO),(H2.add (.vec 4 0 1 (bC (jy i D')) true)).set nv o=H2.add o:=λD' o=>by rw[<-hnv];exact GH.cT
    refine AW.aU cc (λb:Nat×GH=>⟨[(1,.ip ((ax p).map .d) 0),(3,.d (.sl M)),(5,sl (GS.map rT)),(7,.vs nv 0 1 0 i),(8,x8),(9,aH (j0:Nat)),(14,aH b.1)],[],b.2⟩) (λb=>g.length-b.1)
     (λb=>b.1<=g.length/\cm 94 1 (H2.add (.vec 4 0 1 (bC (jy i (D++g.take b.1))) true)) x8 (out.map rT) b.2) (0,H3) ⟨⟨Nat.zero_le _,by simpa using hap⟩,by simp[ax,hap.only]⟩ ?_
    rintro⟨k,H4⟩ ⟨hk,RQ⟩;simp only at hk RQ;have o4:H4.obj nv=some (.vec 4 0 1 (bC (jy i (D++g.take k))) true):=by rw[RQ.ob nv (by rw[(hB _).1];omega)];exact(hB _).2
    simp[J6,rT,ax];refine⟨hj0,λjQ=>?_,λjQ=>?_⟩
    ·have sR:=RB _ (List.getElem_mem jQ);have hk2:k<1000000:=by omega
     have hts:g.take (k+1)=g.take k++[g[k]]:=(aR jQ).symm;have hg1:g[k]+1<=i:=sR;have hap5:=RQ.set (k:=nv) (by rw[(hB _).1];omega) (.vec 4 0 1 (bC (jy i (D++g.take (k+1)))) true)
     rw[hst]at hap5;simp[J6,rT,jQ,List.getElem?_eq_getElem jQ,rI,o4,sR,hj0,R6 sR,hg1];exact NX.go (k+1,H4.set nv (.vec 4 0 1 (bC (jy i (D++g.take (k+1)))) true)) (by simp only;omega) ⟨jQ,hap5⟩ (by simp[ax,hap.only,aB hk2])
    ·have hke:k=g.length:=by omega
     subst hke;rw[List.take_length,R7]at RQ;refine⟨hap.plain.tL,hj0,?_⟩;refine eE.dJ (ys:=[rT g]) zi rfl lY (by simp) (x:=x8) (by simp[hap.plain.un]) RQ (by simp[rowsOf,rT]) (by simp) (λr hr=>by obtain⟨_,_,rfl⟩:=List.mem_map.1 hr;rfl) (by simp[rT]) (by simp;omega) (by simp) λx2 H5 h5 _ _=>?_
     simp[h5.plain.all];refine NX.go (out++[g],x2,cR D g,H5) (by simp;omega) ⟨by rw[List.map_append];exact h5,hcl',hnd',by simp;omega,?_⟩ (by simp[h5.only,ax])
     simp only;rw[hc',<-OE,hf1,xQ];simp
  ·have hfe:sU i R D=0:=by omega
   rw[hfe]at OE;have hoo:out=U0 i R:=by rw[<-OE];simp[tn]
   subst hoo;refine AW.ev cc ?_;simp[hap.plain.all,hap.fz];have sQ:=aA.nx;have hnx3:=hap.nx;rw[(hB D).1]at hnx3;exact λ_=>aO (by omega) (λm hm=>by rw[hap.ob m (by rw[(hB D).1];omega),GH.au,if_neg (by omega)];exact aA.ob m hm) hw.none
end Go.Aft
end
