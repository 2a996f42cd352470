import Derived.Test.YthinedikejlgmaaGreatA18
import Derived.Test.YthinedikejlgmaaGreatA17
set_option linter.all false
section
set_option maxRecDepth 20000
namespace Go.Aft
open Go.Proofs.Tryz
def ee:List cq->Nat->List (Value×LV)
 |[],_=>[]
 |s::l,i=>(.string s,aH (i:Int))::ee l (i+1)
theorem ID:∀(l:List cq) (k:Nat) (s:cq),s∉l->cr (.string s) (aH ((k+l.length:Nat):Int)) (ee l k)=ee (l++[s]) k
 |[],k,s,_=>by simp[cr,ee]
 |x::l,k,s,h=>by
  have h1:s≠x:=λe=>h (by simp[e])
  have:=ID l (k+1) s (λe=>h (by simp[e]))
  simp only[ee,List.cons_append,cr,nL,h1,decide_false,Bool.false_eq_true,if_false];rw[<-this];simp only[List.length_cons];rw[show k+(l.length+1)=k+1+l.length by omega]
theorem si(x:cq)(l:List cq)(s:cq):idx (x::l) s=if x=s then 0 else if idx l s<0 then-1 else idx l s+1:=by
 unfold idx;rw[List.findIdx?_cons];by_cases e:x=s
 ·simp[e]
 ·simp only[e,decide_false,Bool.false_eq_true,if_false];cases h:List.findIdx? (λx=>decide (x=s)) l with
  |none=>simp
  |some i=>simp;omega
theorem F1(l:List cq)(s:cq):-1<=idx l s:=by
 unfold idx;split<;>omega
theorem oc(l:List cq)(s:cq):idx l s<l.length:=by
 unfold idx
 split
 ·rename_i i h;have:=(List.findIdx?_eq_some_iff_getElem.1 h).1;omega
 ·omega
theorem jF(l:List cq)(s:cq):0<=idx l s↔s∈l:=by
 unfold idx
 split
 ·rename_i i h;obtain⟨h1,h2,_⟩:=List.findIdx?_eq_some_iff_getElem.1 h;simp only[decide_eq_true_eq]at h2;exact⟨λ_=>h2▸List.getElem_mem h1,λ_=>by omega⟩
 ·rename_i h;rw[List.findIdx?_eq_none_iff]at h;constructor
  ·intro h0;omega
  ·intro hm;have:=h s hm;simp at this
theorem wX:∀(l:List cq) (k:Nat) (s:cq),bD (.string s) (ee l k)=if idx l s<0 then none else some (aH ((k:Int)+idx l s))
 |[],k,s=>by simp[bD,ee,idx]
 |x::l,k,s=>by
  have:=wX l (k+1) s;simp only[ee,bD,nL,this,si];by_cases e:s=x
  ·subst e;simp
  ·have e':¬x=s:=λq=>e q.symm
   have hg:=F1 l s;simp only[e,e',decide_false,Bool.false_eq_true,if_false];by_cases q:idx l s<0
   ·simp[q]
   ·rw[if_neg q,if_neg q,if_neg (by omega)]
    rw[show((k+1:Nat):Int)+idx l s=(k:Int)+(idx l s+1)by omega]
theorem kJ:∀(l:List cq) (k:Nat),(∀(a:Value) (b:LV),(a,b)∈ee l k->(KK.sc Sc.str).has a=true)=True
 |[],k=>by simp[ee]
 |x::l,k=>by
  have ih:=kJ l (k+1);refine eq_true λa b hab=>?_
  simp only[ee,List.mem_cons]at hab;rcases hab with q|q
  ·cases q;rfl
  ·exact(of_eq_true ih) a b q
@[simp] theorem aQ8 (s:cq):(KK.sc Sc.str).has (.string s)=true:=rfl
def Iy(l:List cq)(s:cq):Int:=if idx l s<0 then 0 else idx l s
theorem pV(l:List cq)(s:cq):(bD (.string s) (ee l 0)).getD (.d (.k (.int .i64 0)))=aH (Iy l s):=by
 rw[wX,Iy];split<;>simp
theorem vL(l:List cq)(s:cq):(bD (.string s) (ee l 0)).isSome=decide (0<=idx l s):=by
 rw[wX];by_cases h:idx l s<0
 ·rw[if_pos h];simp;omega
 ·rw[if_neg h];simp;omega
def AS(l os:List cq):Prop:=∀i (h:i<l.length),gV l[i]=true/\l[i]∉l.take i/\l[i]∉os
theorem tR(l os:List cq)(o:LV)(H:GH)(hl:∀s∈l,cN s)(ho:o=.d (.k (.map none))/\os=[]\/ ∃m,o=.gm m/\H.obj m=some (.map (ee os 0))):
  aG prog 155 [sl (l.map rS),o] H λce H'=>open Classical in if AS l os then ce=.ret (.gm H.next)/\H'=H.add (.map (ee l 0))else ce=.ej ck/\H'=H:=by
 have cc:=aP;refine aG.bG aP func155 rfl call155 (by rw[ntmps155];simp) rfl λhf hw=>?_
 have ho2:∀s:cq,∀i:Nat,True:=λ_ _=>trivial
 simp[ntmps155,results155]at hf|-;have Uf:o.only []/\o.un=o:=by
  rcases ho with⟨rfl,_⟩|⟨m,rfl,_⟩<;>simp[LV.only]
 refine AW.aV cc (λi:Nat=>⟨[(1,o),(5,.gm H.next),(13,.d (.sl (l.map rS))),(14,aH l.length),(15,aH i)],[],H.add (.map (ee (l.take i) 0))⟩) (λi=>l.length-i) (λi=>i<=l.length/\∀j (h:j<l.length),j<i->gV l[j]=true/\l[j]∉l.take j/\l[j]∉os) 0 ⟨by simp,by simp[ee,Uf]⟩ ?_
 intro i hi;simp;have yD:∀n,(H.add (.map n)).obj H.next=some (.map n):=λn=>by simp[GH.ax]
 have vj:∀n,Drop H (H.add (.map n)) H:=λn=>aL (by simp[GH.aq]) (λm hm=>by rw[GH.ax,if_neg (by omega)]) hw.none
 refine⟨λh=>?_,λh=>?_⟩
 ·have hnm:=OQ l[i] (hl _ (List.getElem_mem h));have hput:=ID (l.take i) 0 l[i];simp only[List.length_take,Nat.min_eq_left (Nat.le_of_lt h),Nat.zero_add,Bc]at hput;rw[aR h]at hput;have kX:∀b:Prop,¬(gV l[i]=true/\l[i]∉l.take i/\l[i]∉os)->∃H',Drop H (H.add (.map (ee (l.take i) 0))) H'/\(ck:LV).nb H'.next/\¬AS l os/\H'=H:=λb q=>⟨H,vj _,by simp[ck,LV.nb],λhn=>q (hn i h),rfl⟩
  have YN:(gV l[i]=true/\l[i]∉l.take i/\l[i]∉os)->∀j (hj:j<l.length),j<i+1->gV l[j]=true/\l[j]∉l.take j/\l[j]∉os:=λq j hj hji=>by
   by_cases e:j=i
   ·subst e;exact q
   ·exact hi.2 j hj (by omega)
  rcases ho with⟨rfl,rfl⟩|⟨m,rfl,hm⟩
  ·simp[h,List.getElem?_eq_getElem h,rS,yD,pV,vL,kJ];refine EC.aJ hnm ?_;simp;refine EC.need (eo _ _) (λhb v=>?_) (λhb=>?_)
   ·simp[jF]at hb;simp[yD,hput hb.2,kJ];refine NX.go (i+1) (by omega) ⟨h,YN ⟨hb.1,hb.2,by simp⟩⟩ (by simp[GH.cV,aB h hf.1.1])
   ·simp[jF]at hb;simp;exact λhz=>kX True (λq=>q.2.1 (hb q.1))
  ·have hm':∀n,(H.add (.map n)).obj m=some (.map (ee os 0)):=λn=>by
    rw[GH.ax,if_neg (by have:=hw.lt hm;omega)];exact hm
   have hlt:∀n,m<(H.add (.map n)).next:=λn=>by have:=hw.lt hm;rw[GH.aq];omega
   simp[h,List.getElem?_eq_getElem h,rS,yD,pV,vL,kJ,hm'];refine EC.aJ hnm ?_;simp;refine EC.need (eo _ _) (λhb v=>?_) (λhb=>?_)
   ·simp[jF]at hb;simp[yD,hput hb.1.2,kJ];refine NX.go (i+1) (by omega) ⟨h,YN ⟨hb.1.1,hb.1.2,hb.2⟩⟩ (by simp[GH.cV,aB h hf.1.1,LV.only])
   ·simp[jF]at hb;simp;exact λhz=>kX True (λq=>q.2.2 (hb q.1 q.2.1))
 ·have hok:AS l os:=λj hj=>hi.2 j hj (by omega)
  have ht:l.take i=l:=List.take_of_length_le h;refine λhz=>⟨_,hz.drop (by simp[GH.aq]),by simp[GH.aq],hok,by rw[ht]⟩
theorem oH(l:List cq)(s:cq):aC prog 219 [sl (l.map rS),.d (.k (.string s))] (.d (.k (.bool (decide (0<=idx l s))))):=by
 refine aC.body aP func219 rfl call219 (by rw[ntmps219];simp) rfl λhf H=>?_
 have hi:=kQ l s;simp at hi;simp[ntmps219,results219];refine EC.aJ hi ?_;simp
theorem Ay:aC prog 250 [] (sl (eX.map rS)):=by
 refine aC.body aP func250 rfl call250 (by rw[ntmps250];simp) rfl λhf H=>?_
 have hr:List.range' 0 34=[0,1,2,3,4,5,6,7,8,9,10,11,12,13,14,15,16,17,18,19,20,21,22,23,24,25,26,27,28,29,30,31,32,33]:=rfl;simp[ntmps250,results250,hr,eX,rS]
theorem Lw(s:cq)(hs:cN s):aC prog 218 [.d (.k (.string s))] (.d (.k (.bool (gV s)))):=by
 have cc:=aP;unfold cN at hs;refine aC.body aP func218 rfl call218 (by rw[ntmps218];simp) rfl λhf H=>?_
 have hk:=Ay;have hh:=oH eX s;simp at hk hh;by_cases hc:0<s.size/\s.size<=8
 ·have a1:¬s.size=0:=by omega
  have a2:¬8<(s.size:Int):=by omega
  have a3:¬(s.size:Int)<1:=by omega
  have a4:1<=s.size:=by omega
  simp[ntmps218,results218,a1,a2,a3];refine EC.aJ hk ?_;simp[a1,a2,a3];refine EC.aJ hh ?_;simp[a1,a2,a3];refine⟨λq=>?_,λq=>?_⟩
  ·simp[gV];intro _ _ _;exact(jF _ _).1 q
  ·refine AW.aV cc (λi:Nat=>⟨[(0,.d (.k (.string s))),(3,aH i)],[],H⟩) (λi=>s.size-i) (λi=>i<=s.size/\∀j,j<i->97<=jH s (j:Nat)/\jH s (j:Nat)<=122) 0 (by simp) λi hi=>?_
   simp;refine⟨λh=>⟨h,λq=>⟨q,h⟩,λq=>by simp[gV,yp h q],λq1 q2=>?_⟩,λh=>?_⟩
   ·refine NX.go (i+1) (by omega) ⟨h,λj hj=>?_⟩ (by simp[aB h (show s.size<=9223372036854775807 by omega)])
    by_cases e:j=i
    ·subst e;exact⟨q1,q2⟩
    ·exact hi.2 j (by omega)
   ·have hl:nK s=true:=Bf λj hj=>hi.2 j (by omega)
    have q':¬0<=idx eX s:=by omega
    simp[gV,hl,a4,hc.2];exact λx hx e=>q' ((jF _ _).2 (e▸hx))
 ·have hnm:gV s=false:=by
   simp[gV];intros;omega
  rw[hnm];by_cases h0:s.size=0
  ·simp[ntmps218,results218,h0]
  ·have a2:8<(s.size:Int):=by omega
   have a3:¬(s.size:Int)<1:=by omega
   simp[ntmps218,results218,h0,a2,a3]
theorem jx(p:Prog)(hl:p.ai.length<=6):aC prog 50 [lv (ar p)] (sl ((an p).map rS)):=by
 have cc:=au (p:=bf [1] [] []);refine aC.body (au (p:=bf [1] [] [])) func50 rfl call50 (by rw[ntmps50];simp) rfl λhf H=>?_
 simp[ntmps50,results50,ar]at hf|-;refine AW.aV cc (λa:Nat×LV×GH=>⟨[(1,.ip ((ar p).map .d) 0),(3,a.2.1),(4,aH a.1)],[],a.2.2⟩) (λa=>p.ai.length-a.1) (λa=>a.1<=p.ai.length/\CF 9 1 H a.2.1 (((p.ai.take a.1).map (·.name)).map rS) a.2.2) (0,.d (.k (.slice none 0 0)),H) ⟨⟨by simp,.nil⟩,by simp[ar]⟩ ?_
 rintro⟨i,x,H'⟩ ⟨hi,aA⟩;simp only at hi aA;simp[ar];by_cases h:i<p.ai.length
 ·have h6:(i:Int)<=6:=by omega
  have h6':¬6<(i:Int):=by omega
  simp[h,h6,h6',List.getElem?_eq_getElem h,fm,aj,aA.plain.all];refine eO.Cg rS ((p.ai.take i).map (·.name)) [p.ai[i].name] Ng rfl VB (by simp) (λ_=>rfl) (x:=x) (by simp) aA (by simp[rS,rowsOf]) (by simp) (by simp;omega) (by simp) λx' H2 aF=>?_
  have ht:(p.ai.take i).map (·.name)++[p.ai[i].name]=(p.ai.take (i+1)).map (·.name):=by rw[<-aR h,List.map_append];rfl
  rw[ht]at aF;simp[aF.plain.all,aF.only,aB h hf.2.1];exact NX.go (i+1,x',H2) (by simp;omega) ⟨h,aF⟩ (by simp[aF.only,aF.plain.all,ar])
 ·have:i=p.ai.length:=by omega
  subst this;rw[List.take_length]at aA;have hz:=aA.fz;simp[aA.plain.all,hz.1,an];exact hz.2
open Classical in
theorem y5(l:List cq)(hl:∀s∈l,cN s):aC prog 178 [sl (l.map rS)] (.d (.k (.bool (decide (o7 l))))):=by
 have cc:=aP;refine aC.body aP func178 rfl call178 (by rw[ntmps178];simp) rfl λhf H=>?_
 simp[ntmps178,results178]at hf|-;refine AW.aV cc (λi:Nat=>⟨[(0,.d (.sl (l.map rS))),(3,aH i)],[],H⟩) (λi=>l.length-i) (λi=>i<=l.length/\∀j (h:j<l.length),j<i->gV l[j]=true/\l[j]∉l.take j) 0 (by simp) λi hi=>?_
 simp;refine⟨λh=>?_,λh=>?_⟩
 ·have hn:=Lw l[i] (hl _ (List.getElem_mem h));have hh:=oH (l.take i) l[i];simp at hh;refine AW.draw cc [(4,.n),(14,.n)] (.q 0<|.q 1<|.q 2<|.q 3<|.q 4<|.q 5<|.q 6<|.q 7<|.q 8<|.q 10<|.q 11<|.q 12<|.q 9<|.q 13<|.q 14<|.q 15<|.done) (by kernel_rfl) ?_
  simp[h,List.getElem?_eq_getElem h,rS];refine FC.aJ hn ?_;simp[h,List.getElem?_eq_getElem h,rS];refine⟨λq=>⟨q,Nat.le_of_lt h⟩,kN.aJ (λ_=>by rw[<-List.map_take]at*;exact hh) ?_⟩
  simp;refine⟨λq hd=>?_,λq1 q2=>NX.go (i+1) (by omega) ⟨h,λj hj hji=>?_⟩ (by simp[aB h hf.1])⟩
  ·have:=hd i h;rcases q with q|q
   ·rw[this.1]at q;cases q
   ·exact this.2 ((jF _ _).1 q)
  ·by_cases e:j=i
   ·subst e;exact⟨q1,λhm=>by have:=(jF _ _).2 hm;omega⟩
   ·exact hi.2 j hj (by omega)
 ·have:o7 l:=λj hj=>hi.2 j hj (by omega)
  simp[this]
def oB(x:QS):LV:=.agg [aH x.aD,aH x.kids,.d (.k (.bool x.name)),.d (.k (.bool x.fold)),aH x.low,aH x.high]
def gR:Option QS->LV
 |some x=>.dh [oB x,.d (.k (.bool true))]
 |none=>.dh [oB ⟨0,0,false,false,0,0⟩,.d (.k (.bool false))]
theorem Ax:aC prog 220 [aH 1] (gR (bK 1)):=by
 refine aC.body aP func220 rfl call220 (by rw[ntmps220];simp) rfl λhf H=>?_
 simp[ntmps220,results220,bK,gR,oB]
theorem Aw:aC prog 220 [aH 2] (gR (bK 2)):=by
 refine aC.body aP func220 rfl call220 (by rw[ntmps220];simp) rfl λhf H=>?_
 simp[ntmps220,results220,bK,gR,oB]
theorem Av:aC prog 220 [aH 3] (gR (bK 3)):=by
 refine aC.body aP func220 rfl call220 (by rw[ntmps220];simp) rfl λhf H=>?_
 simp[ntmps220,results220,bK,gR,oB]
theorem Au:aC prog 220 [aH 4] (gR (bK 4)):=by
 refine aC.body aP func220 rfl call220 (by rw[ntmps220];simp) rfl λhf H=>?_
 simp[ntmps220,results220,bK,gR,oB]
theorem As:aC prog 220 [aH 5] (gR (bK 5)):=by
 refine aC.body aP func220 rfl call220 (by rw[ntmps220];simp) rfl λhf H=>?_
 simp[ntmps220,results220,bK,gR,oB]
theorem Ar:aC prog 220 [aH 6] (gR (bK 6)):=by
 refine aC.body aP func220 rfl call220 (by rw[ntmps220];simp) rfl λhf H=>?_
 simp[ntmps220,results220,bK,gR,oB]
theorem Aq:aC prog 220 [aH 7] (gR (bK 7)):=by
 refine aC.body aP func220 rfl call220 (by rw[ntmps220];simp) rfl λhf H=>?_
 simp[ntmps220,results220,bK,gR,oB]
theorem Ap:aC prog 220 [aH 8] (gR (bK 8)):=by
 refine aC.body aP func220 rfl call220 (by rw[ntmps220];simp) rfl λhf H=>?_
 simp[ntmps220,results220,bK,gR,oB]
theorem Ao:aC prog 220 [aH 9] (gR (bK 9)):=by
 refine aC.body aP func220 rfl call220 (by rw[ntmps220];simp) rfl λhf H=>?_
 simp[ntmps220,results220,bK,gR,oB]
theorem yZ:aC prog 220 [aH 10] (gR (bK 10)):=by
 refine aC.body aP func220 rfl call220 (by rw[ntmps220];simp) rfl λhf H=>?_
 simp[ntmps220,results220,bK,gR,oB]
theorem yY:aC prog 220 [aH 11] (gR (bK 11)):=by
 refine aC.body aP func220 rfl call220 (by rw[ntmps220];simp) rfl λhf H=>?_
 simp[ntmps220,results220,bK,gR,oB]
theorem yX:aC prog 220 [aH 12] (gR (bK 12)):=by
 refine aC.body aP func220 rfl call220 (by rw[ntmps220];simp) rfl λhf H=>?_
 simp[ntmps220,results220,bK,gR,oB]
theorem yW:aC prog 220 [aH 13] (gR (bK 13)):=by
 refine aC.body aP func220 rfl call220 (by rw[ntmps220];simp) rfl λhf H=>?_
 simp[ntmps220,results220,bK,gR,oB]
theorem yV:aC prog 220 [aH 14] (gR (bK 14)):=by
 refine aC.body aP func220 rfl call220 (by rw[ntmps220];simp) rfl λhf H=>?_
 simp[ntmps220,results220,bK,gR,oB]
theorem yU:aC prog 220 [aH 15] (gR (bK 15)):=by
 refine aC.body aP func220 rfl call220 (by rw[ntmps220];simp) rfl λhf H=>?_
 simp[ntmps220,results220,bK,gR,oB]
theorem An(op:Int)(h:¬(1<=op/\op<=15)):aC prog 220 [aH op] (gR (bK op)):=by
 refine aC.body aP func220 rfl call220 (by rw[ntmps220];simp) rfl λhf H=>?_
 have hn:bK op=none:=by
  unfold bK
  repeat (rw[if_neg (by omega)])
 have e1:(op==1)=false:=by rw[beq_eq_false_iff_ne];omega
 have e2:(op==2)=false:=by rw[beq_eq_false_iff_ne];omega
 have e3:(op==3)=false:=by rw[beq_eq_false_iff_ne];omega
 have e4:(op==4)=false:=by rw[beq_eq_false_iff_ne];omega
 have e5:(op==5)=false:=by rw[beq_eq_false_iff_ne];omega
 have e6:(op==6)=false:=by rw[beq_eq_false_iff_ne];omega
 have e7:(op==7)=false:=by rw[beq_eq_false_iff_ne];omega
 have e8:(op==8)=false:=by rw[beq_eq_false_iff_ne];omega
 have e9:(op==9)=false:=by rw[beq_eq_false_iff_ne];omega
 have WW:(op==10)=false:=by rw[beq_eq_false_iff_ne];omega
 have e11:(op==11)=false:=by rw[beq_eq_false_iff_ne];omega
 have e12:(op==12)=false:=by rw[beq_eq_false_iff_ne];omega
 have e13:(op==13)=false:=by rw[beq_eq_false_iff_ne];omega
 have e14:(op==14)=false:=by rw[beq_eq_false_iff_ne];omega
 have e15:(op==15)=false:=by rw[beq_eq_false_iff_ne];omega
 have f1:¬op=1:=by omega
 have f2:¬op=2:=by omega
 have f3:¬op=3:=by omega
 have f4:¬op=4:=by omega
 have f5:¬op=5:=by omega
 have f6:¬op=6:=by omega
 have f7:¬op=7:=by omega
 have f8:¬op=8:=by omega
 have f9:¬op=9:=by omega
 have f10:¬op=10:=by omega
 have f11:¬op=11:=by omega
 have f12:¬op=12:=by omega
 have f13:¬op=13:=by omega
 have f14:¬op=14:=by omega
 have f15:¬op=15:=by omega
 simp[ntmps220,results220,hn,gR,oB,f1,f2,f3,f4,f5,f6,f7,f8,f9,f10,f11,f12,f13,f14,f15]
theorem CR(op:Int):aC prog 220 [aH op] (gR (bK op)):=by
 by_cases h:1<=op/\op<=15
 ·have:op=1\/ op=2\/ op=3\/ op=4\/ op=5\/ op=6\/ op=7\/ op=8\/ op=9\/ op=10\/ op=11\/ op=12\/ op=13\/ op=14\/ op=15:=by omega
  rcases this with rfl|rfl|rfl|rfl|rfl|rfl|rfl|rfl|rfl|rfl|rfl|rfl|rfl|rfl|rfl
  ·exact Ax
  ·exact Aw
  ·exact Av
  ·exact Au
  ·exact As
  ·exact Ar
  ·exact Aq
  ·exact Ap
  ·exact Ao
  ·exact yZ
  ·exact yY
  ·exact yX
  ·exact yW
  ·exact yV
  ·exact yU
 ·exact An op h
theorem Jn:∀(l:List cq) (a:Nat) (s:cq),(0<=idx (l.take a) s↔0<=idx l s/\idx l s<a)
 |[],a,s=>by simp[idx]
 |x::l,0,s=>by
  have:=F1 (x::l) s;constructor
  ·intro h;simp[idx]at h
  ·intro h;omega
 |x::l,a+1,s=>by
  have ih:=Jn l a s;have h1:=F1 l s;have h2:=F1 (l.take a) s;rw[List.take_succ_cons,si,si];by_cases e:x=s
  ·simp[e]
  ·simp only[e,if_false]
   split<;>split<;>omega
def tf(az ai:List cq)(ahead:Int):LV:=.agg [.d (.sl (az.map rS)),.d (.sl (ai.map rS)),aH ahead]
theorem Lu(op en fold:Int)(name:cq)(aD:List bh)(kids:List bz)(az ai:List cq)(ahead:Nat)(ha:ahead<=ai.length)
  (ih:∀k∈kids,∀depth left:Int,0<=depth->left<=1000->aC prog 179 [tf az ai ahead,lv (aS k),aH depth,aH left] (aH (kE (fU az ai ahead k depth left) left)))
  (depth left:Int) (hd:0<=depth) (hl:left<=1000):aC prog 179 [tf az ai ahead,lv (aS (.mk op name en fold aD kids)),aH depth,aH left] (aH (kE (fU az ai ahead (.mk op name en fold aD kids) depth left) left)):=by
 have cc:=au (p:=bf [4,5] [] []);refine aC.EO (au (p:=bf [4,5] [] [])) func179 rfl call179 (by rw[ntmps179];simp) rfl λhf H=>?_
 have hsh:=CR op;simp[ntmps179,results179,aj,tf]at hf|-;refine AW.seq cc ?_;simp;refine AW.seq cc ?_;simp;refine EC.aJ hsh ?_;obtain⟨R,hR⟩:∃R,fU az ai ahead (.mk op name en fold aD kids) depth left=R:=⟨_,rfl⟩;rw[hR];have hno:¬(depth<=10/\1<=left/\hU op name en fold aD.length kids.length=true/\dD az ai ahead op name=true)->R=none:=λq=>by rw[<-hR,fU,if_neg q]
 cases hs:bK op with
 |none=>
  rw[hno (by rintro⟨_,_,q,_⟩;obtain⟨x,hx,_⟩:=EA q;rw[hs]at hx;cases hx)]
  simp[gR,oB];refine AW.ev cc ?_;simp[kE]
 |some y=>
  have Wk:decide (name≠cH)= !decide (name={data:=#[]}):=by
   rw[decide_not];rfl
  obtain⟨yk,yc,yn,yf,ylo,yhi⟩:=y;have hE:hU op name en fold aD.length kids.length=true↔((aD.length:Int)=yc/\(kids.length:Int)=yk/\(yn= !decide (name={data:=#[]}))/\ylo<=en/\en<=yhi)/\(if yf=true then 1<=fold/\fold<=4 else fold=0):=by
   unfold hU;rw[hs];simp only[Wk,Bool.and_eq_true,decide_eq_true_eq,beq_iff_eq];cases yf
   ·simp only[Bool.false_eq_true,if_false,decide_eq_true_eq];constructor
    ·rintro⟨⟨⟨⟨a,b⟩,c⟩,d,e⟩,f⟩;exact⟨⟨b,a,c,d,e⟩,f⟩
    ·rintro⟨⟨a,b,c,d,e⟩,f⟩;exact⟨⟨⟨⟨b,a⟩,c⟩,d,e⟩,f⟩
   ·simp only[if_true,decide_eq_true_eq];constructor
    ·rintro⟨⟨⟨⟨a,b⟩,c⟩,d,e⟩,f⟩;exact⟨⟨b,a,c,d,e⟩,f⟩
    ·rintro⟨⟨a,b,c,d,e⟩,f⟩;exact⟨⟨⟨⟨b,a⟩,c⟩,d,e⟩,f⟩
  simp[gR,oB];refine AW.seq cc ?_;simp;by_cases hg:depth<=10/\1<=left/\(aD.length:Int)=yc/\(kids.length:Int)=yk/\(yn= !decide (name={data:=#[]}))
  rotate_left
  ·have hz:(bif decide (10<depth)||decide (left<1)||(aD.length:Int) !=yc||(kids.length:Int) !=yk|| !yn== !decide (name={data:=#[]})then LV.d (DV.k (Value.bool true))else LV.any)=.d (.k (.bool true)):=by
    rw[show(decide (10<depth)||decide (left<1)||(aD.length:Int) !=yc||(kids.length:Int) !=yk|| !yn== !decide (name={data:=#[]}))=true from ?_]
    ·rfl
    ·cases hb:(decide (10<depth)||decide (left<1)||(aD.length:Int) !=yc||(kids.length:Int) !=yk|| !yn== !decide (name={data:=#[]}))with
     |true=>rfl
     |false=>
      exfalso;simp at hb;obtain⟨⟨⟨⟨a,b⟩,c⟩,d⟩,e⟩:=hb;refine hg ⟨a,b,c,d,?_⟩
      revert e
      cases yn<;>simp
   refine⟨λq1 q2 q3 q4 q5=>absurd ⟨q1,q2,q3,q4,q5⟩ hg,λ_=>⟨λq1 q2 q3 q4 q5=>absurd ⟨q1,q2,q3,q4,q5⟩ hg,?_⟩⟩
   rw[hz];have hq:R=none:=hno λq=>by
    obtain⟨q1,q2,q3,_⟩:=q;have:=(hE.1 q3).1;exact hg ⟨q1,q2,this.1,this.2.1,this.2.2.1⟩
   simp[hq,kE]
  obtain⟨g1,g2,g3,g4,g5⟩:=hg;refine⟨λ_ _ _ _ _=>⟨⟨⟨⟨⟨g1,g2⟩,g3⟩,g4⟩,g5⟩,EC.aJ (Az _ _ _) ?_⟩,λq=>?_⟩
  rotate_left
  ·exfalso;have:=q g1 g2 g3 g4;rw[g5]at this;simp at this
  subst g5;have b1:decide (10<depth)=false:=by rw[decide_eq_false_iff_not];omega
  have b2:decide (left<1)=false:=by rw[decide_eq_false_iff_not];omega
  have b3:((aD.length:Int) !=yc)=false:=by rw[bne_eq_false_iff_eq];exact g3
  have b4:((kids.length:Int) !=yk)=false:=by rw[bne_eq_false_iff_eq];exact g4
  simp[b1,b2,b3,b4];refine⟨λq=>?_,λr1 r2=>?_⟩
  ·rw[hno λq2=>by have:=(hE.1 q2.2.2.1).1;omega]
   simp[kE]
  obtain⟨yn,hyn⟩:∃yn,(!decide (name={data:=#[]}))=yn:=⟨_,rfl⟩;rw[hyn];refine AW.join (c:=xC (bf [4,5] [] [])) (λ_:Unit=>⟨[(2,aH depth),(3,aH left),(4,.ip [.d (.sl (az.map rS)),.d (.sl (ai.map rS)),aH ahead] 0),(5,.ip ((aS (.mk op name en fold aD kids)).map .d) 0),(9,.lp 9 0),(10,.d (.k (.bool true)))],[(9,[aH yc,aH yk,.d (.k (.bool yn)),.d (.k (.bool yf)),aH ylo,aH yhi])],H⟩)
   (λ_=>hU op name en fold aD.length kids.length=true) (AW.ev cc ?_) λ_ hok=>?_
  ·cases yf with
   |true=>
    simp;refine EC.aJ (Az _ _ _) ?_;simp;refine⟨λq=>?_,λq1 q2=>?_⟩
    ·rw[hno λq2=>by have:=(hE.1 q2.2.2.1).2;simp at this;omega]
     simp[kE]
    ·exact JN.go () (hE.2 ⟨⟨g3,g4,rfl,r1,r2⟩,by simp;omega⟩) (by simp[aj])
   |false=>
    simp;refine⟨λq=>?_,λq=>?_⟩
    ·rw[hno λq2=>by have:=(hE.1 q2.2.2.1).2;simp at this;omega]
     simp[kE]
    ·exact JN.go () (hE.2 ⟨⟨g3,g4,rfl,r1,r2⟩,by simp;omega⟩) (by simp[aj])
  refine AW.join (c:=xC (bf [4,5] [] [])) (λb:Bool=>⟨[(2,aH depth),(3,aH left),(4,.ip [.d (.sl (az.map rS)),.d (.sl (ai.map rS)),aH ahead] 0),(5,.ip ((aS (.mk op name en fold aD kids)).map .d) 0),(9,.lp 9 0),(10,.d (.k (.bool b)))],[(9,[aH yc,aH yk,.d (.k (.bool yn)),.d (.k (.bool yf)),aH ylo,aH yhi])],H⟩)
   (λb=>b=dD az ai ahead op name) (AW.ev cc ?_) λb hb=>?_
  ·have hop:op=1\/ op=2\/ op=3\/ (op≠1/\op≠2/\op≠3):=by omega
   rcases hop with rfl|rfl|rfl|⟨n1,n2,n3⟩
   ·simp[aj];refine EC.aJ (by simpa using oH az name) ?_
    simp;exact JN.go (decide (0<=idx az name)) (by simp[dD]) (by simp[aj])
   ·simp[aj];refine AW.draw cc [(7,.n)] (.q 0<|.q 2<|.q 5<|.q 1<|.q 3<|.q 4<|.q 6<|.q 7<|.q 8<|.done) (by kernel_rfl) ?_
    simp;refine⟨ha,FC.aJ (by simpa[List.map_take]using oH (ai.take ahead) name) ?_⟩
    simp;exact JN.go (decide (0<=idx (ai.take ahead) name)) (by simp[dD,Jn]) (by simp[aj])
   ·simp[aj];refine EC.aJ (by simpa using oH ai name) ?_
    simp;exact JN.go (decide (0<=idx ai name)) (by simp[dD]) (by simp[aj])
   ·simp[n1,n2,n3,aj];exact JN.go true (by simp[dD,n1,n2,n3]) (by simp[aj])
  have hsp:dD az ai ahead op name=true->R=match cz (decide (op=12\/ op=13)) aD 1 (left-1)with
   |some l=>eW az ai ahead kids (depth+1) l
   |none=>none:=λq=>by
   rw[<-hR,fU,if_pos ⟨g1,g2,hok,q⟩];cases cz (decide (op=12\/ op=13)) aD 1 (left-1)<;>rfl
  obtain⟨ob,kp⟩:∃ob,decide (op=12\/ op=13)=ob:=⟨_,rfl⟩;have ho:(op==12||op==13)=ob:=by
   rw[<-kp,Bool.eq_iff_iff];simp
  rw[kp]at hsp;have w1:IntKind.wrap .i64 (depth+1)=depth+1:=by rw[wrap64]<;>omega
  refine AW.seq cc ?_;simp[aj];refine AW.join (c:=xC (bf [4,5] [] [])) (λa:Int×Bool=>⟨[(2,aH depth),(3,aH left),(4,.ip [.d (.sl (az.map rS)),.d (.sl (ai.map rS)),aH ahead] 0),(5,.ip ((aS (.mk op name en fold aD kids)).map .d) 0),(9,.lp 9 0),(10,.d (.k (.bool a.2))),(11,aH a.1)],[(9,[aH yc,aH yk,.d (.k (.bool yn)),.d (.k (.bool yf)),aH ylo,aH yhi])],H⟩)
   (λa=>(a.2=true->1<=a.1/\a.1<=left/\R=eW az ai ahead kids (depth+1) (left-a.1))/\(a.2=false->R=none)) (AW.ev cc ?_) λa hI=>?_
  ·simp[aj];refine AW.aV cc (λa:Nat×Int×Bool=>⟨[(2,aH depth),(3,aH left),(4,.ip [.d (.sl (az.map rS)),.d (.sl (ai.map rS)),aH ahead] 0),(5,.ip ((aS (.mk op name en fold aD kids)).map .d) 0),(9,.lp 9 0),(10,.d (.k (.bool a.2.2))),(11,aH a.2.1),(12,aH a.1)],[(9,[aH yc,aH yk,.d (.k (.bool yn)),.d (.k (.bool yf)),aH ylo,aH yhi])],H⟩) (λa=>aD.length-a.1)
    (λa=>a.1<=aD.length/\(a.2.2=true->1<=a.2.1/\a.2.1<=left/\R=match cz ob (aD.drop a.1) 1 (left-a.2.1)with
    |some l=>eW az ai ahead kids (depth+1) l
    |none=>none)/\(a.2.2=false->R=none)) (0,1,b) ⟨⟨by simp,λq=>⟨by simp,by simpa using g2,by simpa using hsp (hb▸q)⟩,λq=>hno λq2=>by rw[<-hb]at q2;simp only at q;rw[q]at q2;exact absurd q2.2.2.2 (by simp)⟩,by simp[aj]⟩ ?_
   rintro⟨i,cnt,is⟩ ⟨hi,hI1,hI2⟩;simp only at hi hI1 hI2;cases is with
   |false=>
    simp;exact JN.go (cnt,false) ⟨by simp,hI2⟩ (by simp[aj])
   |true=>
    obtain⟨c1,c2,hI⟩:=hI1 rfl
    clear hI1 hI2
    simp[aj];refine⟨λq=>?_,λq=>?_⟩
    ·have h:i<aD.length:=by omega
     have hd:=List.drop_eq_getElem_cons h;rw[hd,cz]at hI;refine AW.draw cc [(16,.n)] (.q 0<|.q 2<|.q 5<|.q 13<|.q 14<|.q 15<|.q 1<|.q 3<|.q 4<|.q 6<|.q 7<|.q 8<|.q 9<|.q 10<|.q 11<|.q 12<|.q 16<|.q 17<|.done) (by kernel_rfl) ?_
     have w2:IntKind.wrap .i64 (left-cnt)=left-cnt:=by rw[wrap64]<;>omega
     simp[h,List.getElem?_eq_getElem h,aO,w2,ho];refine FC.aJ (by simpa[aO]using AA ob aD[i] 1 (left-cnt) (by omega) (by omega)) ?_
     cases hl:dJ ob aD[i] 1 (left-cnt)with
     |none=>
      rw[hl]at hI;simp[kE,aB h hf.2.1.1];exact NX.go (i+1,IntKind.wrap .i64 (cnt+ -1),false) (by simp;omega) ⟨h,by simp,λ_=>hI⟩ (by simp[aj])
     |some l=>
      rw[hl]at hI;have hle:=mO _ _ _ _ hl;have w3:IntKind.wrap .i64 (cnt+(left-cnt-l))=left-l:=by rw[wrap64]<;>omega
      simp[kE,aB h hf.2.1.1,w3];exact NX.go (i+1,left-l,true) (by simp;omega) ⟨h,λ_=>⟨by simp only;omega,by simp only;omega,by simp only[show left-(left-l)=l by omega];exact hI⟩,by simp⟩ (by simp[aj];omega)
    ·have:aD.drop i=[]:=List.drop_eq_nil_of_le (by omega)
     rw[this,cz]at hI;exact JN.go (cnt,true) ⟨λ_=>⟨c1,c2,hI⟩,by simp⟩ (by simp[aj])
  ·obtain⟨cnt0,is0⟩:=a;obtain⟨hJ1,hJ2⟩:=hI;simp only at hJ1 hJ2;refine AW.seq cc ?_;simp[aj];refine AW.aV cc (λa:Nat×Int×Bool=>⟨[(2,aH depth),(3,aH left),(4,.ip [.d (.sl (az.map rS)),.d (.sl (ai.map rS)),aH ahead] 0),(5,.ip ((aS (.mk op name en fold aD kids)).map .d) 0),(9,.lp 9 0),(10,.d (.k (.bool a.2.2))),(11,aH a.2.1),(14,aH a.1)],[(9,[aH yc,aH yk,.d (.k (.bool yn)),.d (.k (.bool yf)),aH ylo,aH yhi])],H⟩) (λa=>kids.length-a.1)
    (λa=>a.1<=kids.length/\(a.2.2=true->1<=a.2.1/\a.2.1<=left/\R=eW az ai ahead (kids.drop a.1) (depth+1) (left-a.2.1))/\(a.2.2=false->R=none)) (0,cnt0,is0) ⟨⟨by simp,by simpa using hJ1,hJ2⟩,by simp[aj]⟩ ?_
   rintro⟨i,cnt,is⟩ ⟨hi,hI1,hI2⟩;simp only at hi hI1 hI2;cases is with
   |false=>
    simp;rw[hI2 rfl];refine AW.ev cc ?_;simp[kE]
   |true=>
    obtain⟨c1,c2,hI⟩:=hI1 rfl
    clear hI1 hI2
    simp[aj];refine⟨λq=>?_,λq=>?_⟩
    ·have h:i<kids.length:=by omega
     have hd:=List.drop_eq_getElem_cons h;rw[hd,eW]at hI;refine AW.draw cc [(11,.n)] (.q 1<|.q 3<|.q 6<|.q 7<|.q 8<|.q 9<|.q 10<|.q 0<|.q 2<|.q 4<|.q 5<|.q 11<|.q 12<|.done) (by kernel_rfl) ?_
     have w2:IntKind.wrap .i64 (left-cnt)=left-cnt:=by rw[wrap64]<;>omega
     simp[h,List.getElem?_eq_getElem h,aj,w1,w2];refine FC.aJ (by simpa[aj,tf]using ih kids[i] (List.getElem_mem h) (depth+1) (left-cnt) (by omega) (by omega)) ?_
     cases hl:fU az ai ahead kids[i] (depth+1) (left-cnt)with
     |none=>
      rw[hl]at hI;simp[kE,aB h hf.2.2.1];exact NX.go (i+1,IntKind.wrap .i64 (cnt+ -1),false) (by simp;omega) ⟨h,by simp,λ_=>hI⟩ (by simp[aj])
     |some l=>
      rw[hl]at hI;have hle:=lV _ _ _ _ hl;have w3:IntKind.wrap .i64 (cnt+(left-cnt-l))=left-l:=by rw[wrap64]<;>omega
      simp[kE,aB h hf.2.2.1,w3];exact NX.go (i+1,left-l,true) (by simp;omega) ⟨h,λ_=>⟨by simp only;omega,by simp only;omega,by simp only[show left-(left-l)=l by omega];exact hI⟩,by simp⟩ (by simp[aj];omega)
    ·have:kids.drop i=[]:=List.drop_eq_nil_of_le (by omega)
     rw[this,eW]at hI;rw[hI];refine AW.ev cc ?_;simp[kE]
     try omega
theorem DB(az ai:List cq)(ahead:Nat)(ha:ahead<=ai.length):∀(e:bz) (depth left:Int),0<=depth->left<=1000->aC prog 179 [tf az ai ahead,lv (aS e),aH depth,aH left] (aH (kE (fU az ai ahead e depth left) left))
 |.mk op name en fold aD kids,depth,left,hd,hl=>Lu op en fold name aD kids az ai ahead ha (λk hk depth left hd hl=>DB az ai ahead ha k depth left hd hl) depth left hd hl
structure cu(e:TypeId)(sz:Nat)(H0:GH)(x:LV)(rows:List (List DV))(H:GH):Prop where
 is:rows=[]/\x=.d (.k (.slice none 0 0))\/ ∃n,H0.next<=n/\n<H.next/\x=.lF n rows/\H.obj n=some (.arr e sz rows.length)
 nx:H0.next<=H.next
 ob:∀m,m<H0.next->H.obj m=H0.obj m
theorem cu.nil{e:TypeId}{sz:Nat}{H:GH}:cu e sz H (.d (.k (.slice none 0 0))) [] H:=⟨.inl ⟨rfl,rfl⟩,Nat.le_refl _,λ_ _=>rfl⟩
theorem cu.plain{e:TypeId}{sz:Nat}{H0 H:GH}{x:LV}{rows:List (List DV)}(h:cu e sz H0 x rows H):Plain x:=by
 rcases h.is with⟨_,rfl⟩|⟨n,_,_,rfl,_⟩<;>exact⟨rfl,trivial,rfl,rfl⟩
theorem cu.only{e:TypeId}{sz:Nat}{H0 H:GH}{x:LV}{rows:List (List DV)}(h:cu e sz H0 x rows H){k:List Nat}:x.only k:=by
 rcases h.is with⟨_,rfl⟩|⟨n,_,_,rfl,_⟩<;>simp[LV.only]
theorem cu.fz{e:TypeId}{sz:Nat}{H0 H:GH}{x:LV}{rows:List (List DV)}(h:cu e sz H0 x rows H):Go.Aft.fz x=.d (.sl rows):=by
 rcases h.is with⟨rfl,rfl⟩|⟨n,_,_,rfl,_⟩<;>simp[Go.Aft.fz]
def S.WG(s:S)(t:Nat):S:={s with env:=eL s.env t (Go.Aft.fz (s.env t))}
theorem AW.WG{P:Program}{rd:RD}{x:Code}{s:S}{Q:QT}(t:Nat)(h:@AW P rd ⟨x⟩ (s.WG t) Q):@AW P rd ⟨x⟩ s Q:=by
 refine λE a w hs=>h E a w ?_
 obtain⟨h2,G,lm,h1,hM,hx,aK,hn⟩:=hs;refine⟨h2,G,lm,h1,hM,hx,λu=>?_,hn⟩
 simp only[S.WG];by_cases e:u=t
 ·subst e;rw[eG];exact T1 _ _ (aK u)
 ·rw[aX _ _ e];exact aK u
attribute [simp] S.WG
theorem cu.mono{e:TypeId}{sz:Nat}{H0 H1 H2:GH}{x:LV}{rows:List (List DV)}(h:cu e sz H0 x rows H1)(hn:H1.next<=H2.next)(ho:∀m,m<H1.next->H2.obj m=H1.obj m):cu e sz H0 x rows H2:=by
 refine⟨?_,Nat.le_trans h.nx hn,λm hm=>by have:=h.nx;rw[ho m (by omega)];exact h.ob m hm⟩
 rcases h.is with q|⟨n,q1,q2,q3,q4⟩
 ·exact .inl q
 ·exact .inr ⟨n,q1,by omega,q3,by rw[ho n q2];exact q4⟩
theorem HF{ty:TypeId->Option aU}{t:TypeId}(q:slK ty t=true):∃e' sz' z' bt',ty t=some ⟨.sl e',sz',z',bt'⟩:=by
 unfold slK at q
 split at q
 ·exact⟨_,_,_,_,‹_›⟩
 ·cases q
theorem eO.ah4{c:Cx}{s:S}{K:KT}{dst:Option Nat}{T T' e:TypeId}{d ed:aU}{a b:Operand}{H0:GH}{rows ys:List (List DV)}(hT:c.ty T=some d)(hTT:T=T'\/ slK c.ty T'=true)(hd:d.k=.sl e)(he:c.ty e=some ed)(hsz:ed.sz≠0)
  {x:LV} (ha:s.get a=x) (aA:cu e ed.sz H0 x rows s.H) (hb:rowsOf (s.arg b)=some ys) (NV:s.aI b) (hr:∀r∈rows,r.length=ed.sz) (hy:∀r∈ys,r.length=ed.sz)
  (hl:(rows.length+ys.length)*ed.bt<=140737488355328/\rows.length+ys.length<=140737488355328) (hv:∀t,dst=some t->c.bO t≠ .vec)
  (hk:∀x' H',cu e ed.sz H0 x' (rows++ys) H'->s.H.next<=H'.next->(∀m,m<s.H.next->(∀r,x≠ .lF m r)->H'.obj m=s.H.obj m)->@AP K (({s with H:=H'}:S).put dst x')):@eO c #[a,b] #[T,T'] s dst K:=by
 obtain⟨k,sz,z,bt⟩:=d;simp only at hd;subst hd;have hap:s.aI a:=by
  unfold S.aI;rw[ha];rcases aA.is with⟨_,rfl⟩|⟨n,_,_,rfl,_⟩<;>trivial
 have sk:s.arg a=x:=by
  unfold S.arg;rw[ha];exact aA.plain.un
 rcases id aA.is with⟨rfl,e1⟩|⟨n,q1,q2,e1,e2⟩
 ·rw[e1]at sk;have uR:eR c.ty c.bO s dst .append [T,T'] [a,b]=none:=by
   by_cases e:T=T'
   ·subst e;simp only[eR,hT,he,sk,if_true,Option.bind_some,if_neg hsz];cases dst with
    |none=>rfl
    |some t=>simp[hv t rfl]
   ·obtain⟨e',sz',z',bt',hT'⟩:=HF (hTT.resolve_left e);simp only[eR,if_neg e,hT,hT',sk]
  refine eO.ev ?_;simp only[bV,uR,Option.none_or,sG,hT,he,sk,hb,if_pos hTT,Option.bind_some,if_neg hsz,nW];simp only[List.length_nil,Nat.zero_add]at hl;refine⟨⟨hap,NV,hy,hl⟩,?_⟩;refine hk (.lF s.H.next ([]++ys)) (s.H.add (.arr e ed.sz ys.length)) ⟨.inr ⟨s.H.next,aA.nx,by rw[GH.aq];omega,rfl,by rw[GH.ax,if_pos rfl];simp⟩,by rw[GH.aq];have:=aA.nx;omega,λm hm=>?_⟩ (by rw[GH.aq];omega) (λm hm _=>by rw[GH.ax,if_neg (by omega)])
  have:=aA.nx;rw[GH.ax,if_neg (by omega)];exact aA.ob m hm
 ·rw[e1]at sk;have uR:eR c.ty c.bO s dst .append [T,T'] [a,b]=none:=by
   by_cases e:T=T'
   ·subst e;simp only[eR,hT,he,sk,if_true,Option.bind_some,if_neg hsz]
   ·obtain⟨e',sz',z',bt',hT'⟩:=HF (hTT.resolve_left e);simp only[eR,if_neg e,hT,hT',sk]
  refine eO.ev ?_;simp only[bV,uR,Option.none_or,sG,hT,he,sk,e2,hb,if_pos hTT,Option.bind_some,if_neg hsz,and_self,nW];refine⟨⟨hap,NV,trivial,hr,hy,hl⟩,?_⟩;refine hk (.lF n (rows++ys)) (s.H.set n (.arr e ed.sz (rows.length+ys.length))) ⟨.inr ⟨n,q1,q2,rfl,by rw[GH.ay,if_pos rfl];simp⟩,by rw[GH.aM];exact aA.nx,λm hm=>by rw[GH.ay,if_neg (by omega)];exact aA.ob m hm⟩ (by rw[GH.aM];exact Nat.le_refl _) (λm hm hne=>?_)
  rw[GH.ay,if_neg];intro e;subst e;exact hne rows e1
theorem eO.dU{c:Cx}{s:S}{K:KT}{dst:Option Nat}{T e:TypeId}{d ed:aU}{a b:Operand}{H0:GH}{rows ys:List (List DV)}(hT:c.ty T=some d)(hd:d.k=.sl e)(he:c.ty e=some ed)(hsz:ed.sz≠0)
  {x:LV} (ha:s.get a=x) (aA:cu e ed.sz H0 x rows s.H) (hb:rowsOf (s.arg b)=some ys) (NV:s.aI b) (hr:∀r∈rows,r.length=ed.sz) (hy:∀r∈ys,r.length=ed.sz)
  (hl:(rows.length+ys.length)*ed.bt<=140737488355328/\rows.length+ys.length<=140737488355328) (hv:∀t,dst=some t->c.bO t≠ .vec)
  (hk:∀x' H',cu e ed.sz H0 x' (rows++ys) H'->s.H.next<=H'.next->(∀m,m<s.H.next->(∀r,x≠ .lF m r)->H'.obj m=s.H.obj m)->@AP K (({s with H:=H'}:S).put dst x')):@eO c #[a,b] #[T,T] s dst K:=
 eO.ah4 hT (.inl rfl) hd he hsz ha aA hb NV hr hy hl hv hk
theorem ot:∀a b:List bz,bn (a++b)=bn a++bn b
 |[],b=>by simp[bn]
 |x::a,b=>by simp[bn,ot a b]
theorem TJ:∀(e:bz) (k:bz),k∈e.kids->(bc k).length<=(bc e).length
 |.mk op name n fold aD kids,k,hk=>by
  have:∀l:List bz,k∈l->(bc k).length<=(bn l).length:=by
   intro l
   induction l with
   |nil=>intro h;cases h
   |cons x l ih=>
    intro h;rw[bn,List.length_append];rcases List.mem_cons.1 h with rfl|h
    ·omega
    ·have:=ih h;omega
  have:=this kids hk;simp only[bc,List.length_cons];omega
theorem Lx(op n fold:Int)(name:cq)(aD:List bh)(kids:List bz)(hn:(bc (.mk op name n fold aD kids)).length<=1000000)
  (ih:∀k∈kids,aC prog 33 [lv (aS k)] (sl ((bc k).map aS))):aC prog 33 [lv (aS (.mk op name n fold aD kids))] (sl ((bc (.mk op name n fold aD kids)).map aS)):=by
 have cc:=au (p:=bf [1] [] [6]);refine aC.body (au (p:=bf [1] [] [6])) func33 rfl call33 (by rw[ntmps33];simp) rfl λhf H=>?_
 have Bw:List.range' 0 1=[0]:=rfl;simp[ntmps33,results33,aj,Bw]at hf|-;refine AW.aV cc (λa:Nat×LV×GH=>⟨[(1,.ip ((aS (.mk op name n fold aD kids)).map .d) 0),(3,a.2.1),(4,aH a.1)],[],a.2.2⟩) (λa=>kids.length-a.1) (λa=>a.1<=kids.length/\CF 68 6 H a.2.1 ((.mk op name n fold aD kids::bn (kids.take a.1)).map aS) a.2.2)
  (0,.lF H.next [aS (.mk op name n fold aD kids)],H.add (.arr 68 6 1)) ⟨⟨by simp,by simpa[bn]using CF.first (by simp)⟩,by simp[aj,LV.only]⟩ ?_
 rintro⟨i,x,H'⟩ ⟨hi,aA⟩;simp only at hi aA;simp[aj];refine⟨λh=>?_,λh=>?_⟩
 ·have ihk:=ih kids[i] (List.getElem_mem h);simp[aj]at ihk;simp[h,List.getElem?_eq_getElem h,aj,aA.plain.all];refine EC.aJ ihk ?_;simp[aA.plain.all];have hall:bn (kids.take (i+1))=bn (kids.take i)++bc kids[i]:=by
   rw[<-aR h,ot];simp[bn]
  have hlen:(bn (kids.take (i+1))).length<=(bn kids).length:=by
   have:bn kids=bn (kids.take (i+1))++bn (kids.drop (i+1)):=by rw[<-ot,List.take_append_drop]
   rw[this,List.length_append];omega
  rw[hall,List.length_append]at hlen;simp only[bc,List.length_cons]at hn;refine eO.Cg aS (.mk op name n fold aD kids::bn (kids.take i)) (bc kids[i]) Dl rfl Dk (by simp) Ie (x:=x) (by simp) aA (by simp[rowsOf]) (by simp) (by simp;omega) (by simp) λx' H2 aF=>?_
  rw[List.cons_append,<-hall]at aF;simp[aF.plain.all,aF.only,aB h hf.2.1];exact NX.go (i+1,x',H2) (by simp;omega) ⟨h,aF⟩ (by simp[aF.only,aF.plain.all,aj])
 ·have e:i=kids.length:=by omega
  subst e;rw[List.take_length]at aA;have hz:=aA.fz;simp[aA.plain.all,hz.1,bc];exact hz.2
theorem oI:∀(e:bz),(bc e).length<=1000000->aC prog 33 [lv (aS e)] (sl ((bc e).map aS))
 |.mk op name n fold aD kids,h=>Lx op n fold name aD kids h λk hk=>oI k (Nat.le_trans (TJ (.mk op name n fold aD kids) k hk) h)
theorem H8(e:bz)(hn:(bc e).length<=1000000):aC prog 129 [lv (aS e)] (.d (.k (.bool ((bc e).any bJ)))):=by
 have cc:=au (p:=bf [1] [] []);refine aC.body (au (p:=bf [1] [] [])) func129 rfl call129 (by rw[ntmps129];simp) rfl λhf H=>?_
 have ha:=oI e hn;simp[aj]at ha;simp[ntmps129,results129,aj];refine EC.aJ ha ?_;simp;generalize hl:bc e=l at hn;refine AW.aV cc (λi:Nat=>⟨[(3,.d (.sl (l.map aS))),(4,aH i)],[],H⟩) (λi=>l.length-i) (λi=>i<=l.length/\∀j (h:j<l.length),j<i->bJ l[j]=false) 0 (by simp) λi hi=>?_
 simp;refine⟨λh=>?_,λh=>?_⟩
 ·simp[h,List.getElem?_eq_getElem h,aj];refine⟨λq=>⟨q,λq2=>⟨q,q2⟩⟩,λq=>⟨l[i],List.getElem_mem h,by simpa[bJ]using q⟩,λq1 q2=>?_⟩
  refine NX.go (i+1) (by omega) ⟨h,λj hj hji=>?_⟩ (by simp[aB (n:=1000000) (show i<1000000 by omega)])
  by_cases z:j=i
  ·subst z;simp[bJ];exact⟨q1,q2⟩
  ·exact hi.2 j hj (by omega)
 ·intro x hx;obtain⟨j,hj,rfl⟩:=List.mem_iff_getElem.1 hx;exact hi.2 j hj (by omega)
def Bp(e:bz):Bool:=decide (e.op=2\/ e.op=3)
def jZ(names:List cq)(l:List bz):List Int:=(l.filter Bp).map λe=>idx names e.name
def rL(l:List Int):List DV:=[.sl (l.map rI)]
@[simp] theorem bg7 (l:List Int):(rL l).length=1:=rfl
theorem xY(p:Prog)(hl:p.ai.length<=6)(hn:∀d∈p.ai,(bc d.exp).length<=1000):aC prog 180 [lv (ar p)] (sl ((p.ai.map λd=>jZ (an p) (bc d.exp)).map rL)):=by
 have cc:=au (p:=bf [1] [] []);refine aC.body (au (p:=bf [1] [] [])) func180 rfl call180 (by rw[ntmps180];simp) rfl λhf H=>?_
 have hd:=jx p hl;simp[ar]at hd;simp[ntmps180,results180,ar]at hf|-;refine EC.aJ hd ?_;simp;refine AW.D4 cc (λa:Nat×LV×GH=>⟨[(1,.ip ((ar p).map .d) 0),(3,a.2.1),(4,.d (.sl ((an p).map rS))),(5,aH a.1)],[],a.2.2⟩) (λa=>p.ai.length-a.1)
  (λa=>a.1<=p.ai.length/\cu 94 1 H a.2.1 (((p.ai.take a.1).map λd=>jZ (an p) (bc d.exp)).map rL) a.2.2) (0,.d (.k (.slice none 0 0)),H) ⟨⟨by simp,.nil⟩,by simp[ar]⟩ ?_
 rintro⟨i,x,H1⟩ ⟨hi,aA⟩;simp only at hi aA;refine AW.seq cc ?_;simp[ar];refine⟨λh=>?_,λh=>?_⟩
 ·have hall:=oI p.ai[i].exp (by have:=hn _ (List.getElem_mem h);omega)
  simp[aj]at hall;refine AW.ZU (c:=xC (bf [1] [] [])) ?_;refine AW.block (c:=xC (bf [1] [] [])) ?_;refine AW.seq cc ?_;simp;refine AW.seq cc ?_;simp[h,List.getElem?_eq_getElem h,fm,aj];refine EC.aJ hall ?_;have GV:=hn _ (List.getElem_mem h);simp;generalize hE:bc p.ai[i].exp=E at GV;refine AW.seq cc ?_;simp;refine AW.aV cc (λa:Nat×LV×GH=>⟨[(1,.ip ((ar p).map .d) 0),(3,x),(4,.d (.sl ((an p).map rS))),(5,aH i),(6,a.2.1),(7,.d (.sl (E.map aS))),(8,aH a.1)],[],a.2.2⟩) (λa=>E.length-a.1)
   (λa=>a.1<=E.length/\cu 3 1 H1 a.2.1 ((jZ (an p) (E.take a.1)).map rI) a.2.2) (0,.d (.k (.slice none 0 0)),H1) ⟨⟨by simp,by simpa[jZ]using cu.nil⟩,by simp[ar,aA.only]⟩ ?_
  rintro⟨k,y,H2⟩ ⟨hk,hin⟩;simp only at hk hin;simp;refine⟨λjo=>?_,λjo=>?_⟩
  ·have gx:jZ (an p) (E.take (k+1))=jZ (an p) (E.take k)++(if Bp E[k]then[idx (an p) E[k].name]else[]):=by
    rw[<-aR jo,jZ,List.filter_append,List.map_append];simp only[jZ,List.filter_cons,List.filter_nil]
    split<;>rfl
   have hlr:(jZ (an p) (E.take (k+1))).length<=1000:=by
    have h1:(jZ (an p) (E.take (k+1))).length<=(E.take (k+1)).length:=by rw[jZ,List.length_map];exact List.length_filter_le _ _
    have h2:(E.take (k+1)).length<=E.length:=by simp;omega
    omega
   have aB0:=kQ (an p) E[k].name;simp at aB0;simp[jo,List.getElem?_eq_getElem jo,aj,hin.plain.all];refine⟨λhr=>?_,λBw NK=>?_⟩
   ·simp only[Bp,hr,decide_true,if_true]at gx;refine EC.aJ aB0 ?_;simp;refine eO.dU mB rfl Hi (by simp) (x:=y) (by simp) hin (by simp[rowsOf];rfl) (by simp) (by simp) (by simp) (by rw[gx]at hlr;simp at hlr|-;omega) (by simp) λx' H3 h3 _ _=>?_
    simp[h3.plain.all,aB (n:=1000000) (show k<1000000 by omega)]
    refine NX.go (k+1,x',H3) (by simp;omega) ⟨jo,by rw[gx,List.map_append];exact h3⟩ (by simp[ar,aA.only,h3.only])
   ·simp only[Bp,not_or.2 ⟨Bw,NK⟩,decide_false,Bool.false_eq_true,if_false,List.append_nil]at gx;simp[aB (n:=1000000) (show k<1000000 by omega)]
    refine NX.go (k+1,y,H2) (by simp;omega) ⟨jo,by rw[gx];exact hin⟩ (by simp[ar,aA.only,hin.only])
  ·have e:k=E.length:=by omega
   subst e;rw[List.take_length]at hin;refine AW.WG 6 (AW.ev cc ?_);simp[aA.plain.all,hin.fz];refine eO.dU zT rfl mB (by simp) (x:=x) (by simp) (aA.mono hin.nx hin.ob) (by simp[rowsOf];rfl) (by simp) (λr hr=>by obtain⟨_,_,rfl⟩:=List.mem_map.1 hr;rfl) (by simp) (by simp;omega) (by simp) λx' H3 h3 _ _=>?_
   simp[h3.plain.all,aB (n:=1000000) (show i<1000000 by omega)]
   refine AW.ev cc ?_;simp[h3.plain.all,aB (n:=1000000) (show i<1000000 by omega)]
   refine NX.go (i+1,x',H3) (by simp;omega) ⟨h,?_⟩ (by simp[ar,h3.only])
   rw[<-aR h,List.map_append,List.map_append];simpa[hE,rL]using h3
 ·have e:i=p.ai.length:=by omega
  subst e;rw[List.take_length,List.map_map]at aA;simp[aA.plain.all,aA.fz];exact⟨aA.nx,aA.ob⟩
theorem aG.SV{P:Program}{f:FuncId}{args:List LV}{H:GH}{R:CE->GH->Prop}(h:aG P f (zz args) H R):aG P f args H R:=⟨h.1,λG w vs h1 h2 h3=>h.2 G w vs h1 h2 (xM _ _ h3)⟩
theorem aC.SV{P:Program}{f:FuncId}{args:List LV}{v:LV}(h:aC P f (zz args) v):aC P f args v:=λH=>(h H).SV
theorem cu.nb{e:TypeId}{sz:Nat}{H0 H:GH}{x:LV}{rows:List (List DV)}(h:cu e sz H0 x rows H):x.nb H.next:=by
 rcases h.is with⟨rfl,rfl⟩|⟨n,_,h2,rfl,_⟩
 ·simp[LV.nb]
 ·exact h2
open Classical in
theorem HZ(p:Prog)(lW:∀s∈p.az++an p,cN s):aC prog 127 [lv (ar p)] (aH (kE (fF p) 60)):=by
 have cc:=au (p:=bf [1] [] []);refine aC.EO (au (p:=bf [1] [] [])) func127 rfl call127 (by rw[ntmps127];simp) rfl λhf H=>?_
 simp[ntmps127,results127,ar]at hf|-;refine AW.seq cc ?_;simp;refine AW.seq cc ?_;simp;refine⟨λq=>?_,λq1 q2 q3=>?_⟩
 ·have:fF p=none:=by unfold fF;rw[if_neg];rintro⟨_,_,_,_⟩;omega
  rw[this];rfl
 have hdn:=jx p (by omega)
 simp[ar]at hdn;have hdf:=y5 (p.az++an p) lW;have GV:(an p).length=p.ai.length:=by simp[an]
 refine AW.seq cc ?_;refine AW.draw cc [(3,.n)] (.q 0<|.q 1<|.q 2<|.q 3<|.q 4<|.f<|.one 5<|.f<|.one 6<|.done) (by kernel_rfl) ?_
 simp;refine FC.aJ hdn ?_;simp;have hno:¬o7 (p.az++an p)->fF p=none:=λq=>by unfold fF;rw[if_neg];rintro⟨_,_,_,q2⟩;exact q q2
 refine AW.join (c:=xC (bf [1] [] [])) (λH1:GH=>⟨[(1,.ip ((ar p).map .d) 0),(3,.lp 3 0)],[(3,[.d (.sl (p.az.map rS)),.d (.sl ((an p).map rS)),aH 0])],H1⟩)
  (λH1=>o7 (p.az++an p)/\H.next<=H1.next/\∀m,m<H.next->H1.obj m=H.obj m) (AW.ev cc ?_) λH1 h1=>?_
 ·simp;refine AW.draw cc [(6,.n)] (.q 0<|.q 3<|.f (.cons 1 (.f (.cons 2 (.q 4<|.f<|.one 5<|.q 6<|.q 7<|.done) (.cons 4 (.f<|.one 2<|.f<|.one 5<|.q 6<|.q 7<|.done) (.nil)))) (.cons 4 (.f<|.one 1<|.f<|.one 2<|.f<|.one 5<|.q 6<|.q 7<|.done) (.nil)))) (by kernel_rfl) ?_
  simp;refine⟨⟨?_,?_⟩,?_⟩
  all_goals
   refine eO.dU Ng rfl VB (by simp) (by simp) (.nil) (by simp[rowsOf];rfl) (by simp) (by simp) (λr hr=>by obtain⟨_,_,rfl⟩:=List.mem_map.1 hr;rfl) (by simp;omega) (by simp) λx' H3 h3 _ _=>?_
   simp[h3.plain.all];refine eO.dU Ng rfl VB (by simp) (by simp) h3 (by simp[rowsOf];rfl) (by simp) (by simp) (λr hr=>by obtain⟨_,_,rfl⟩:=List.mem_map.1 hr;rfl) (by simp;omega) (by simp) λx2 H4 h4 _ _=>?_
   simp[h4.plain.all];refine⟨h4.nb,FC.aJ (aC.SV (v:=.d (.k (.bool (decide (o7 (p.az++an p)))))) (by simp only[zz,h4.fz,List.nil_append,<-List.map_append];exact hdf)) ?_⟩
   simp;exact⟨λq=>⟨by rw[hno q];rfl,h4.nx,h4.ob⟩,λq=>JN.go H4 ⟨q,h4.nx,h4.ob⟩ (by simp[ar])⟩
 ·obtain⟨SD,tH,kp⟩:=h1;have hsp:fF p=jh p.az (an p) p.ai 0 60:=by
   unfold fF;rw[if_pos];exact⟨by omega,by omega,by omega,SD⟩
  rw[hsp]
  clear hno hdf hsp
  refine AW.ev cc ?_;simp;refine AW.aV cc (λa:Nat×Int=>⟨[(1,.ip ((ar p).map .d) 0),(3,.lp 3 0),(4,aH (60-a.2)),(5,aH a.1)],[(3,[.d (.sl (p.az.map rS)),.d (.sl ((an p).map rS)),aH (a.1-1:Nat)])],H1⟩) (λa=>p.ai.length-a.1)
   (λa=>a.1<=p.ai.length/\0<=a.2/\a.2<=60/\jh p.az (an p) p.ai 0 60=jh p.az (an p) (p.ai.drop a.1) a.1 a.2) (0,60) ⟨⟨by simp,by simp,by simp,by simp⟩,by simp[ar]⟩ ?_
  rintro⟨i,left⟩ ⟨hi,hl0,BA,hI⟩;simp only at hi hl0 BA hI;simp[ar];refine⟨λh=>?_,λh=>?_⟩
  ·have hd:=List.drop_eq_getElem_cons h;rw[hd,jh]at hI;have w2:IntKind.wrap .i64 (60-(60-left))=left:=by rw[wrap64]<;>omega
   refine AW.draw cc [(9,.n)] (.q 1<|.q 3<|.q 7<|.q 8<|.q 0<|.q 2<|.q 4<|.q 5<|.q 6<|.q 9<|.q 10<|.done) (by kernel_rfl) ?_
   simp[h,List.getElem?_eq_getElem h,fm,aj,w2];have hx:=DB p.az (an p) i (by omega) p.ai[i].exp 1 left (by omega) (by omega)
   simp[tf,aj]at hx;refine FC.aJ hx ?_;cases hl:fU p.az (an p) i p.ai[i].exp 1 left with
   |none=>
    rw[hl]at hI;simp[kE];rw[hI];exact⟨rfl,tH,kp⟩
   |some l=>
    rw[hl]at hI;have hle:=lV _ _ _ _ hl;have w3:IntKind.wrap .i64 (60-left+(left-l))=60-l:=by rw[wrap64]<;>omega
    simp[kE,w3,aB (n:=1000000) (show i<1000000 by omega)]
    refine⟨λq=>by omega,λq=>NX.go (i+1,l) (by simp;omega) ⟨h,hle.1,by simp only;omega,by simpa using hI⟩ (by simp[ar])⟩
  ·have:p.ai.drop i=[]:=List.drop_eq_nil_of_le (by omega)
   rw[this,jh]at hI;rw[hI];simp[kE];exact⟨tH,kp⟩
end Go.Aft
end
