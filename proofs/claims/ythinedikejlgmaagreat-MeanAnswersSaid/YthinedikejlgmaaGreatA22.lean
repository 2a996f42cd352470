import Derived.Test.YthinedikejlgmaaGreatA21
import Derived.Test.YthinedikejlgmaaGreatA15
import Derived.Test.YthinedikejlgmaaGreatA17
set_option linter.all false
section
set_option maxRecDepth 20000
namespace Go.Aft
open Go.Proofs.Tryz
def kk(src id:Int):Value:=.agg #[.int .i64 src,.int .i64 id]
structure MapN(es:List (Value×LV))(l:List dg):Prop where
 get:∀src id:Int,bz (kk src id) es=(lastM l src id).map λn=>lv (cI n)
 key:∀(a:Value) (b:LV),(a,b)∈es->(KK.ag [.int .i64,.int .i64]).has a=true
 nb:∀n,ct n (es.map (·.2))
 nd:(es.map (·.1)).Nodup
theorem E5{a b c d:Int}:wv (kk a b) (kk c d)=decide (a=c/\b=d):=by
 simp[wv,kk,allEq,uU];rw[Bool.eq_iff_iff];simp
theorem key_kk{a:Value}(h:(KK.ag [.int .i64,.int .i64]).has a=true):∃s i,a=kk s i:=by
 cases a<;>simp only[KK.has,Bool.false_eq_true]at h;rename_i vs;obtain⟨x,us,e1,h⟩:=jR h;obtain⟨y,us',e2,h⟩:=jR h;have:=mF h;subst this;subst e2;refine⟨x,y,?_⟩;rw[kk];congr 1;apply Array.toList_inj.1;rw[e1]
theorem Dc:∀(es:List (Value×LV)) (v:LV) (s i src id:Int),(∀(a:Value) (b:LV),(a,b)∈es->(KK.ag [.int .i64,.int .i64]).has a=true)->bz (kk src id) (cg (kk s i) v es)=if src=s/\id=i then some v else bz (kk src id) es
 |[],v,s,i,src,id,_=>by simp[cg,bz,E5]
 |(a,b)::es,v,s,i,src,id,h=>by
  obtain⟨s',i',rfl⟩:=key_kk (h a b (by simp))
  have ih:=Dc es v s i src id λa b hab=>h a b (List.mem_cons_of_mem _ hab)
  simp only[cg,E5];by_cases e:s=s'/\i=i'
  ·obtain⟨rfl,rfl⟩:=e;simp only[and_self,decide_true,if_true,bz,E5];by_cases e2:src=s/\id=i
   ·simp[e2]
   ·simp[e2]
  ·simp only[e,decide_false,Bool.false_eq_true,if_false,bz,E5,ih];by_cases e2:src=s'/\id=i'
   ·obtain⟨rfl,rfl⟩:=e2;have:¬(src=s/\id=i):=λq=>e ⟨q.1.symm,q.2.symm⟩
    simp[this]
   ·simp[e2]
theorem HL(v:LV)(s i:Int):∀(es:List (Value×LV)),(∀(a:Value) (b:LV),(a,b)∈es->(KK.ag [.int .i64,.int .i64]).has a=true)->∀(a:Value) (b:LV),(a,b)∈cg (kk s i) v es->(KK.ag [.int .i64,.int .i64]).has a=true
 |[],_,a,b,hab=>by
  simp only[cg,List.mem_singleton,Prod.mk.injEq]at hab;rw[hab.1];rfl
 |(c,d)::es,h,a,b,hab=>by
  simp only[cg]at hab
  split at hab
  ·rcases List.mem_cons.1 hab with q|q
   ·cases q;rfl
   ·exact h a b (List.mem_cons_of_mem _ q)
  ·rcases List.mem_cons.1 hab with q|q
   ·rw[show a=c from(Prod.mk.inj q).1];exact h c d (List.mem_cons_self ..)
   ·exact HL v s i es (λa b hab=>h a b (List.mem_cons_of_mem _ hab)) a b q
end Go.Aft
end
section
namespace Go.Aft
def bodyO(P:Program)(c:Cx)(rs:List ResultVar)(H0:GH)(R:CE->GH->Prop):AE->S->Prop
 |.normal,s|.ret,s=>s.df=[]/\(gD s.H->∃r,qO c.ty s rs=some r/\∃H',Drop H0 s.H H'/\r.nb H'.next/\R (.ret r) H')
 |.dY x,s=>s.df=[]/\(gD s.H->∃H',Drop H0 s.H H'/\x.nb H'.next/\R (.dY x) H')
 |_,_=>False
theorem aF.Me{P:Program}{c:Cx}(hc:c.ok P){f:FuncId}{fn:Func}{code:Code}(hf:P.funcs[f]?=some fn)(hb:fn.body=some code)(he:Enters P f){args:List LV}(hn:args.length<=fn.ntmps)(hrd:c.rd.tu f=true){H:GH}{R:CE->GH->Prop}
  (h:iR args->gD H->@AW P c.rd ⟨code⟩ ⟨fK 0 args,uF,H,fn.ntmps,[]⟩ ⟨Go.Aft.bodyO P c fn.results.toList H R⟩):aF P f args H R:=by
 refine⟨he,jv.fits λhfit G w vs hM pO hargs=>?_⟩
 have hw:gD H:=⟨λn hn=>by
  cases ho:H.obj n with
  |none=>rfl
  |some o=>have:=(hM.gX n o ho).1;omega,λn o ho=>BX (hM.gX n o ho).2⟩
 have hlen:=bH hargs;refine vw hf hb hrd (gx (h hfit hw ⟨G,H,w⟩ _ w ?_) ?_)
 ·refine⟨by simp;omega,G,gP,rfl,hM,Ext.refl G H w pO,λt=>?_,rfl⟩
  simp only;rw[pK,if_pos (Nat.zero_le _),Nat.sub_zero];by_cases ht:t<args.length
  ·have hx:args[t]?=some (args.getD t .any):=by simp[List.getD,List.getElem?_eq_getElem ht]
   obtain⟨v,h1,h2⟩:=j9 hargs t _ hx;have:(vs.toArray++Array.replicate (fn.ntmps-vs.toArray.size) undef).getD t undef=v:=by
    rw[Array.getD_eq_getD_getElem?,Array.getElem?_append_left (by simp;omega)]
    simp[h1]
   rw[this];exact h2
  ·have:args.getD t .any=.any:=by simp[List.getD,List.getElem?_eq_none (Nat.le_of_not_lt ht)]
   rw[this];simp[LR]
 ·rintro e a' w' ⟨ae,s',q,r⟩;have hnb:=r.gD;obtain⟨g2,G',lm',g1,yQ,hx',xR,he⟩:=r;have fin:∀(x:LV) (v:Value) (H':GH),Drop H s'.H H'->x.nb H'.next->LR G' s'.H.next lm' x v->MR (gj H'.next G') gP uF H' w'/\kN (gj H'.next G')/\Ext ⟨G,H,w⟩ (gj H'.next G') H' w'/\LR (gj H'.next G') H'.next gP x v:=by
   intro x v H' hd hnb hv;have:=vI yQ (E:=⟨G,H,w⟩) (λn o ho=>(hM.gX n o ho).2) pO hx' hd
   exact⟨this.1,this.2.1,this.2.2,BU (jq _ _ hv hnb)⟩
  have hret:(s'.df=[]/\(gD s'.H->∃r,qO c.ty s' fn.results.toList=some r/\∃H',Drop H s'.H H'/\r.nb H'.next/\R (.ret r) H'))->LeavesInM Fence.wide 0 P fn a'.tmps (Eh G H w R) a'.defers .returning w':=λ⟨q1,q2⟩=>by
   rw[q1]at g1;have g1:a'.defers=[]:=g1;rw[g1];obtain⟨r,hr,H',hd,hnb',hR⟩:=q2 hnb;obtain⟨v,h1,h2⟩:=CQ (P:=P) (s:=s') (a:=a') hc.ty yQ xR hr;obtain⟨p1,p2,p3,p4⟩:=fin r v H' hd hnb' h2;exact⟨v,h1,.ret r,H',_,hR,⟨v,rfl,p4⟩,p1,p2,p3⟩
  cases ae with
  |normal=>cases he;exact hret q
  |ret=>cases he;exact hret q
  |exit i=>exact q.elim
  |goto l=>exact q.elim
  |dY x=>
   obtain⟨v',rfl,hv⟩:=he;obtain⟨q1,q2⟩:=q;rw[q1]at g1;have g1:a'.defers=[]:=g1
   show LeavesInM Fence.wide 0 P fn a'.tmps (Eh G H w R) a'.defers (.panicking _) w'
   rw[g1];obtain⟨H',hd,hnb',hR⟩:=q2 hnb;obtain⟨p1,p2,p3,p4⟩:=fin x v' H' hd hnb' (bA (Nat.le_refl _) (Gh.le_refl _ _) (λ_ _ e=>by cases e) _ _ hv)
   exact⟨.dY x,H',_,hR,⟨v',rfl,p4⟩,p1,p2,p3⟩
attribute [simp] Go.Aft.bodyO
end Go.Aft
end
section
set_option maxRecDepth 20000
namespace Go.Aft
open Go.Proofs.Tryz
def valB(n:Int):Bool:=mD n (-1000000000) 1000000000
def roomB(r:Room):Bool:=mD r.most 0 6&&valB r.low&&valB r.high&&mD (r.high-r.low) 0 60
open Classical in
noncomputable def askedB (p:Prog) (d:Int) (l:List dg) (r:Room) (key:Int):Bool:=decide (Lv p d)&&iD l p.az.length&&decide (lateM l=[])&&roomB r&&valB key
mutual
def DV.nz:DV->DV
 |.k (.slice none 0 0)=>.sl []
 |.k v=>.k v
 |.sl xs=>.sl (PJ xs)
def Va:List DV->List DV
 |[]=>[]
 |c::cs=>c.nz::Va cs
def PJ:List (List DV)->List (List DV)
 |[]=>[]
 |r::rs=>Va r::PJ rs
end
theorem EP:∀l:List DV,(Va l).length=l.length
 |[]=>rfl
 |c::cs=>by simp[Va,EP cs]
theorem EO:∀l:List (List DV),(PJ l).length=l.length
 |[]=>rfl
 |c::cs=>by simp[PJ,EO cs]
theorem QU:∀(l:List (List DV)) (n:Nat),(∀r∈l,r.length=n)->∀r∈PJ l,r.length=n
 |[],n,h,r,hr=>by simp[PJ]at hr
 |c::cs,n,h,r,hr=>by
  rw[PJ]at hr;rcases List.mem_cons.1 hr with rfl|hr
  ·rw[EP];exact h c (by simp)
  ·exact QU cs n (λr hr=>h r (List.mem_cons_of_mem _ hr)) r hr
mutual
theorem DR_nz{M:Mem}:∀(d:DV) (v:Value),DR M d v->DR M d.nz v
 |.sl xs,v,h=>by
  rw[DV.nz];unfold DR at h|-;obtain⟨a,cap,sz,e,h1,h2,h3,h4⟩:=h;refine⟨a,cap,sz,by rw[EO];exact e,by rw[EO];exact h1,h2,QU _ _ h3,?_⟩
  rcases h4 with rfl|⟨b,o,e1,e2⟩
  ·exact .inl rfl
  ·exact .inr ⟨b,o,e1,RR_nz xs b o e2⟩
 |.k u,v,h=>by
  by_cases hu:u=.slice none 0 0
  ·subst hu;unfold DR at h;rw[DV.nz];unfold DR;exact⟨none,0,0,h.1,by simp,by simp,by simp,.inl rfl⟩
  ·have:(DV.k u).nz=.k u:=by
    unfold DV.nz
    split
    ·rename_i q;cases q;exact absurd rfl hu
    ·rename_i q;cases q;rfl
    ·rename_i q;cases q
   rw[this];exact h
theorem RC_nz{M:Mem}:∀(l:List DV) (b o:Nat),RC M b o l->RC M b o (Va l)
 |[],b,o,h=>h
 |c::cs,b,o,h=>by
  unfold RC at h;rw[Va];unfold RC;obtain⟨⟨v,h1,h2⟩,h3⟩:=h;exact⟨⟨v,h1,DR_nz c v h2⟩,RC_nz cs b (o+1) h3⟩
theorem RR_nz{M:Mem}:∀(l:List (List DV)) (b o:Nat),RR M b o l->RR M b o (PJ l)
 |[],b,o,h=>h
 |r::rs,b,o,h=>by
  unfold RR at h;rw[PJ];unfold RR;rw[EP];exact⟨RC_nz r b o h.1,RR_nz rs b (o+r.length) h.2⟩
end
mutual
def LV.nz:LV->LV
 |.d x=>.d x.nz
 |.agg xs=>.agg (U9 xs)
 |.dx xs=>.dx (U9 xs)
 |x=>x
def U9:List LV->List LV
 |[]=>[]
 |x::xs=>x.nz::U9 xs
end
mutual
theorem LR_nz{G:Gh}{nx:Nat}{lm:Nat->Option Nat}:∀(x:LV) (v:Value),LR G nx lm x v->LR G nx lm x.nz v
 |.d x,v,h=>by rw[LV.nz];unfold LR at h|-;exact DR_nz x v h
 |.agg xs,v,h=>by
  rw[LV.nz];unfold LR at h|-;obtain⟨vs,e,h⟩:=h;exact⟨vs,e,FN xs vs h⟩
 |.dx xs,v,h=>by
  rw[LV.nz];unfold LR at h|-;obtain⟨vs,e,h⟩:=h;exact⟨vs,e,FN xs vs h⟩
 |.lp ..,v,h|.gp ..,v,h|.ep ..,v,h|.kQ ..,v,h|.gm ..,v,h|.vs ..,v,h|.vp ..,v,h|.yl ..,v,h|.ip ..,v,h|.fn ..,v,h|.gd ..,v,h|.any,v,h=>by simpa only[LV.nz]using h
theorem FN{G:Gh}{nx:Nat}{lm:Nat->Option Nat}:∀(xs:List LV) (vs:List Value),bE G nx lm xs vs->bE G nx lm (U9 xs) vs
 |[],vs,h=>h
 |x::xs,vs,h=>by
  unfold bE at h;rw[U9];unfold bE;obtain⟨v,r,e,h1,h2⟩:=h;exact⟨v,r,e,LR_nz x v h1,FN xs r h2⟩
end
theorem aC.nz{P:Program}{f:FuncId}{args:List LV}{v:LV}(h:aC P f args v):aC P f args v.nz:=λH=>by
 refine⟨(h H).1,λG w vs h1 h2 h3=>Calls.mono ((h H).2 G w vs h1 h2 h3) λe w' ⟨ce,H',G',q,r1,r2⟩=>⟨.ret v.nz,H',G',⟨rfl,q.2⟩,?_,r2⟩⟩
 obtain⟨rfl,_⟩:=q;obtain⟨u,e1,e2⟩:=r1;exact⟨u,e1,LR_nz v u e2⟩
def jB(a b:Int):Int:=if a<b then-1 else if b<a then 1 else 0
def yx:List Int->List Int->Int
 |[],[]=>0
 |[],_::_=>-1
 |_::_,[]=>1
 |a::l,b::m=>if jB a b=0 then yx l m else jB a b
theorem wY(n:Int):aC prog 249 [aH n] (.d (.k (.bool false))):=by
 refine aC.body aP func249 rfl call249 (by rw[ntmps249];simp) rfl λ_ H=>?_
 simp[ntmps249,results249]
theorem nB(a b:Int):aC prog 217 [aH a,aH b] (aH (jB a b)):=by
 refine aC.body aP func217 rfl call217 (by rw[ntmps217];simp) rfl λ_ H=>?_
 have h1:=wY a;have h2:=wY b;simp at h1 h2;simp[ntmps217,results217];refine EC.aJ h1 ?_;simp;refine EC.aJ h2 ?_;simp;refine⟨λq=>by simp[jB,q],λq=>⟨λq2=>?_,λq2=>?_⟩⟩
 ·simp[jB,q2];omega
 ·simp[jB];omega
theorem wm{a b:List Int}:∀(i:Nat),i<=a.length->i<=b.length->(∀j (h:j<i) (h1:j<a.length) (h2:j<b.length),jB a[j] b[j]=0)->yx a b=yx (a.drop i) (b.drop i):=by
 intro i
 induction i with
 |zero=>simp
 |succ i ih=>
  intro h1 h2 h;rw[ih (by omega) (by omega) λj hj=>h j (by omega)]
  rw[List.drop_eq_getElem_cons (show i<a.length by omega),List.drop_eq_getElem_cons (show i<b.length by omega),yx,if_pos (h i (by omega) (by omega) (by omega))]
theorem qH(a b:List Int):aC prog 181 [sl (a.map rI),sl (b.map rI)] (aH (yx a b)):=by
 have cc:=aP;refine aC.body aP func181 rfl call181 (by rw[ntmps181];simp) rfl λhf H=>?_
 simp[ntmps181,results181]at hf|-;refine AW.aU cc (λi:Nat=>⟨[(0,.d (.sl (a.map rI))),(1,.d (.sl (b.map rI))),(9,.d (.sl (a.map rI))),(10,aH a.length),(11,aH i)],[],H⟩) (λi=>a.length-i) (λi=>i<=a.length/\i<=b.length/\∀j (h:j<i) (h1:j<a.length) (h2:j<b.length),jB a[j] b[j]=0) 0 ⟨by simp,by simp⟩ ?_
 rintro i ⟨hi,hib,hI⟩;simp;refine⟨λh=>?_,λh=>?_⟩
 ·simp[h,List.getElem?_eq_getElem h,rI];refine⟨λq=>?_,λq=>?_⟩
  ·rw[wm i hi hib hI,List.drop_eq_getElem_cons h,List.drop_eq_nil_of_le q,yx]
  ·have hc:=nB a[i] b[i];simp at hc;simp[q,List.getElem?_eq_getElem q];refine EC.aJ hc ?_;simp;have hl:yx a b=if jB a[i] b[i]=0 then yx (a.drop (i+1)) (b.drop (i+1))else jB a[i] b[i]:=by
    rw[wm i hi hib hI,List.drop_eq_getElem_cons h,List.drop_eq_getElem_cons q,yx]
   refine⟨λq2=>?_,λq2=>?_⟩
   ·rw[hl,if_neg q2]
   ·refine NX.go (i+1) (Nat.sub_lt_sub_left h (Nat.lt_succ_self i)) ⟨h,q,λj hj h1 h2=>?_⟩ (by simp[aB h hf.1.1,rI])
    by_cases z:j=i
    ·subst z;exact q2
    ·exact hI j (by omega) h1 h2
 ·have e:i=a.length:=by omega
  subst e;have hl:=wm _ hi hib hI;rw[List.drop_length]at hl;refine⟨λq=>?_,λq=>?_⟩
  ·rw[hl,List.drop_eq_getElem_cons q];rfl
  ·rw[hl,List.drop_eq_nil_of_le q];rfl
def kq(b:List Item)(j:Nat):Bool:=mm (b.getD j default).aa&&decide ((b.getD j default).n≠0/\-1000000<=(b.getD j default).n/\(b.getD j default).n<=1000000)&&(decide (j=0)||cM (b.getD (j-1) default).aa (b.getD j default).aa)
def fM(b:List Item):Bool:=(List.range b.length).all (kq b)&&decide (b.length<=300)
def Ek(b:List Item):Bool:=!b.any λx=>decide (x.n<0)
def lD(b:List Item):Bool:=fM b&&Ek b
theorem j7{b:List Item}{i:Nat}(h:i<b.length)(e:kq b i=false):fM b=false:=by
 unfold fM;have:(List.range b.length).all (kq b)=false:=List.all_eq_false.2 ⟨i,List.mem_range.2 h,by simp[e]⟩
 rw[this];rfl
theorem Fk{b:List Item}(h:∀j,j<b.length->kq b j=true):fM b=decide (b.length<=300):=by
 unfold fM;rw[List.all_eq_true.2 λj hj=>h j (List.mem_range.1 hj)];rfl
theorem pZ(n lo hi:Int):aC prog 173 [aH n,aH lo,aH hi] (.d (.k (.bool (mD n lo hi)))):=by
 refine aC.body aP func173 rfl call173 (by rw[ntmps173];simp) rfl λ_ H=>?_
 simp[ntmps173,results173,mD]
theorem Pr(r:Rec):aC prog 172 [lv (bN r)] (.d (.k (.bool (mm r)))):=by
 refine aC.body (ar (p:=aY [1] [] [])) func172 rfl call172 (by rw[ntmps172];simp) rfl λ_ H=>?_
 simp[ntmps172,results172,bN];refine EC.aJ (pZ _ _ _) ?_;cases h1:mD r.at_ 0 200 with
 |false=>simp[mm,h1]
 |true=>
  simp;refine EC.aJ (pZ _ _ _) ?_;cases h2:mD r.key (-1000000000) 1000000000 with
  |false=>simp[mm,h1,h2]
  |true=>
   simp;refine EC.aJ (pZ _ _ _) ?_;simp[mm,h1,h2]
def orM(l:List Int):Int:=(l.find? λx=>decide (x≠0)).getD 0
theorem orM_at{l:List Int}{i:Nat}(h:i<l.length)(e:l[i]≠0)(hk:∀j (hj:j<l.length),j<i->l[j]=0):orM l=l[i]:=by
 unfold orM;have:l.find? (λx=>decide (x≠0))=some l[i]:=by
  rw[List.find?_eq_some_iff_getElem];refine⟨by simpa using e,i,h,rfl,λj hj=>?_⟩
  simp[hk j (by omega) hj]
 rw[this];rfl
theorem QE{l:List Int}(hk:∀j (hj:j<l.length),l[j]=0):orM l=0:=by
 unfold orM;have:l.find? (λx=>decide (x≠0))=none:=List.find?_eq_none.2 λx hx=>by
  obtain⟨j,hj,rfl⟩:=List.mem_iff_getElem.1 hx;simp[hk j hj]
 rw[this];rfl
theorem cmp_Or(l:List Int):aC prog 216 [sl (l.map rI)] (aH (orM l)):=by
 have cc:=aP;refine aC.body aP func216 rfl call216 (by rw[ntmps216];simp) rfl λhf H=>?_
 simp[ntmps216,results216]at hf|-;refine AW.aU cc (λi:Nat=>⟨[(3,aH 0),(6,sl (l.map rI)),(7,aH l.length),(8,aH i)],[],H⟩) (λi=>l.length-i) (λi=>i<=l.length/\∀j (h:j<l.length),j<i->l[j]=0) 0 ⟨⟨Nat.zero_le _,λj _ hj=>absurd hj (by omega)⟩,by simp⟩ ?_
 rintro i ⟨hi,hk⟩;simp;refine⟨λh=>?_,λh=>?_⟩
 ·have eU:=aB h hf.1;simp[h,List.getElem?_eq_getElem h];refine⟨trivial,?_⟩;simp[rI];refine⟨λe=>(orM_at h e hk).symm,λe=>NX.go (i+1) (Nat.sub_lt_sub_left h (Nat.lt_succ_self i)) ⟨h,λj hj hji=>?_⟩ (by simp[eU])⟩
  by_cases z:j=i
  ·subst z;exact e
  ·exact hk j hj (by omega)
 ·exact(QE λj hj=>hk j hj (by omega)).symm
theorem U1(a b:Rec):(orM [jB a.at_ b.at_,jB a.key b.key,jB a.val b.val]<0)=(cM a b=true):=by
 unfold orM cM jB;refine propext ?_;simp only[List.find?,decide_eq_true_eq]
 repeat' split
 all_goals simp_all<;>omega
theorem JB(a b:Rec):aC prog 174 [lv (bN a),lv (bN b)] (aH (orM [jB a.at_ b.at_,jB a.key b.key,jB a.val b.val])):=by
 refine aC.body (ar (p:=aY [2,3] [] [])) func174 rfl call174 (by rw[ntmps174];simp) rfl λ_ H=>?_
 have cc:=ar (p:=aY [2,3] [] []);have hr:List.range' 0 3=[0,1,2]:=rfl;have ho:=cmp_Or [jB a.at_ b.at_,jB a.key b.key,jB a.val b.val];simp at ho;simp[ntmps174,results174,bN];refine AW.draw cc [(4,.n),(9,.n),(14,.n),(16,.n)] (.q 0<|.q 2<|.q 5<|.q 7<|.q 10<|.q 12<|.q 1<|.q 3<|.q 4<|.q 6<|.q 8<|.q 9<|.q 11<|.q 13<|.q 14<|.q 15<|.q 16<|.q 17<|.done) (by kernel_rfl) ?_
 simp;refine FC.aJ (nB _ _) ?_;simp;refine FC.aJ (nB _ _) ?_;simp;refine FC.aJ (nB _ _) ?_;simp[hr];refine FC.aJ ho ?_;simp
theorem Ps(b:List Item):aC prog 112 [sl (b.map ak)] (.d (.k (.bool (fM b)))):=by
 have cc:=ar (p:=aY [] [] []);refine aC.body (ar (p:=aY [] [] [])) func112 rfl call112 (by rw[ntmps112];simp) rfl λhf H=>?_
 simp[ntmps112,results112]at hf|-;refine AW.aU cc (λi:Nat=>⟨[(0,sl (b.map ak)),(5,sl (b.map ak)),(6,aH b.length),(7,aH i)],[],H⟩) (λi=>b.length-i) (λi=>i<=b.length/\∀j,j<i->kq b j=true) 0 ⟨⟨Nat.zero_le _,λj hj=>absurd hj (by omega)⟩,by simp⟩ ?_
 rintro i ⟨hi,hk⟩;simp;refine⟨λh=>?_,λh=>?_⟩
 ·obtain⟨x,hx⟩:∃x,b[i]=x:=⟨_,rfl⟩;have hg:b.getD i default=x:=by rw[List.getD_eq_getElem?_getD,List.getElem?_eq_getElem h,<-hx];rfl
  have yB:=Pr x.aa;simp[bN]at yB;simp[h,List.getElem?_eq_getElem h,hx,ak];refine EC.aJ yB ?_;by_cases h1:mm x.aa=true
  ·simp[h1];by_cases h0:x.n=0
   ·have hb:kq b i=false:=by unfold kq;rw[hg];simp[h0]
    simp[h0,j7 h hb]
   ·simp[h0];refine EC.aJ (pZ _ _ _) ?_;by_cases hin:mD x.n (-1000000) 1000000=true
    ·simp[hin];have eU:=aB h hf.1;have LQ:=λy:Item=>JB y.aa x.aa
     have OE:=λy:Item=>U1 y.aa x.aa
     have hin':-1000000<=x.n/\x.n<=1000000:=by unfold mD at hin;simpa using hin
     have hit:kq b i=(decide (i=0)||cM (b.getD (i-1) default).aa x.aa):=by
      unfold kq;rw[hg,h1];simp[h0,hin']
     simp[bN]at LQ;refine⟨λq=>absurd q h0,λ_=>?_⟩
     refine AW.draw cc [(11,.n)] (.q 0<|.q 1<|.q 2<|.q 3<|.q 4<|.q 5<|.q 6<|.q 7<|.q 9<|.q 8<|.q 10<|.q 11<|.q 12<|.q 13<|.done) (by kernel_rfl) ?_
     by_cases RA:i=0
     ·subst RA;have hb:kq b 0=true:=by rw[hit];rfl
      simp;refine sV.aJ (v:=.d (.k (.int .i64 0))) (λq=>by cases q) ?_
      simp;exact NX.go 1 (by omega) ⟨h,λj hj=>by rw[show j=0 by omega];exact hb⟩ (by simp;exact(by decide:IntKind.i64.wrap 1=1))
     ·have hi1:i-1<b.length:=by omega
      obtain⟨y,hy⟩:∃y,b[i-1]=y:=⟨_,rfl⟩;have hgy:b.getD (i-1) default=y:=by rw[List.getD_eq_getElem?_getD,List.getElem?_eq_getElem hi1,<-hy];rfl
      have hwp:IntKind.i64.wrap ((i:Int)-1)=i-1:=by rw[wrap64]<;>omega
      have htn:((i:Int)-1).toNat=i-1:=by omega
      have hpos:0<i:=by omega
      rw[hgy]at hit;have ho:=OE y;have hcy:=LQ y;simp[RA,hpos,hwp,htn,List.getElem?_eq_getElem hi1,hy,ak];refine⟨⟨by omega,by omega⟩,sV.aJ (λ_=>hcy) ?_⟩
      simp;refine⟨λq=>?_,λq=>?_⟩
      ·have hb:kq b i=false:=by
        rw[hit];cases e:cM y.aa x.aa with
        |true=>rw[<-ho]at e;omega
        |false=>simp[RA]
       exact j7 h hb
      ·have hb:kq b i=true:=by
        rw[hit];have:=ho.mp (by omega)
        simp[this]
       refine NX.go (i+1) (Nat.sub_lt_sub_left h (Nat.lt_succ_self i)) ⟨h,λj hj=>?_⟩ (by simp[eU])
       by_cases z:j=i
       ·subst z;exact hb
       ·exact hk j (by omega)
    ·have hb:kq b i=false:=by
      unfold kq;rw[hg];unfold mD at hin;simp at hin|-;intro _ _ h2 h3;have:=hin h2;omega
     simp[hin,j7 h hb]
  ·have hb:kq b i=false:=by unfold kq;rw[hg];simp[h1]
   simp[h1,j7 h hb]
 ·rw[Fk λj hj=>hk j (by omega)]
  have e:(decide ((b.length:Int)<=300))=decide (b.length<=300):=by rw[Bool.eq_iff_iff];simp;omega
  simp[e]
theorem Pu(b:List Item):aC prog 57 [sl (b.map ak)] (aH (if fM b then 0 else 2)):=by
 refine aC.body aP func57 rfl call57 (by rw[ntmps57];simp) rfl λhf H=>?_
 have h:=Ps b;simp at h;simp[ntmps57,results57];refine EC.aJ h ?_;cases fM b<;>simp
theorem KF(a b:Rec):aC prog 147 [lv (bN a),lv (bN b)] (.d (.k (.bool (cM a b)))):=by
 refine aC.body (ar (p:=aY [2,3] [] [])) func147 rfl call147 (by rw[ntmps147];simp) rfl λ_ H=>?_
 simp[ntmps147,results147,bN];unfold cM;refine⟨λq=>?_,λq=>⟨λq2=>?_,λq2=>?_⟩⟩<;>rw[decide_eq_decide]<;>omega
end Go.Aft
end
