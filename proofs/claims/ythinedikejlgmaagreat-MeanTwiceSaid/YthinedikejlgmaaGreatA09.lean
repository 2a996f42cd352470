import Derived.Test.YthinedikejlgmaaGreatA08
import Derived.RangeFuncLeaves
set_option linter.all false
section
namespace Go.Aft
def gj:Nat->List LV->Nat->LV
 |_,[]=>λ_=>.any
 |k,x::xs=>eL (gj (k+1) xs) k x
def rD(ty:TypeId->Option aU)(s:S):ResultVar->Option LV
 |.tmp t=>some (s.env t)
 |.cell a T=>
  match ty T with
  |none=>none
  |some d=>
   match s.env a with
   |.lp k off=>(s.L k).bind λcs=>dz d (cs.drop off)
   |.gp n off=>match s.H.obj n with
    |some (.box cs)=>dz d (cs.drop off)
    |_=>none
   |_=>none
def mF(ty:TypeId->Option aU)(s:S):List ResultVar->Option (List LV)
 |[]=>some []
 |r::rs=>(rD ty s r).bind λv=>(mF ty s rs).map λvs=>v::vs
def rE(ty:TypeId->Option aU)(s:S)(rs:List ResultVar):Option LV:=
 match rs with
 |[r]=>rD ty s r
 |rs=>(mF ty s rs).map .dh
mutual
def fz:LV->LV
 |.lF _ xs=>.d (.sl xs)
 |.d (.k (.slice none 0 0))=>.d (.sl [])
 |.agg cs=>.agg (zz cs)
 |.dh cs=>.dh (zz cs)
 |x=>x
def zz:List LV->List LV
 |[]=>[]
 |x::xs=>fz x::zz xs
end
mutual
theorem T1{G:Gh}{nx:Nat}{lm:Nat->Option Nat}:∀(x:LV) (v:Value),LR G nx lm x v->LR G nx lm (fz x) v
 |.lF n xs,v,h=>by unfold LR at h;rw[fz];unfold LR;exact h.2.1
 |.agg cs,v,h=>by unfold LR at h;rw[fz];unfold LR;obtain⟨vs,h1,h2⟩:=h;exact⟨vs,h1,xM cs vs h2⟩
 |.dh cs,v,h=>by unfold LR at h;rw[fz];unfold LR;obtain⟨vs,h1,h2⟩:=h;exact⟨vs,h1,xM cs vs h2⟩
 |.d x,v,h=>by
  unfold fz
  split
  ·rename_i e;cases e
  ·rename_i e;cases e;unfold LR DR at h|-;exact⟨none,0,0,h.1,by simp,by simp,by simp,.inl rfl⟩
  ·rename_i e;cases e
  ·rename_i e;cases e
  ·exact h
 |.lp k off,v,h=>by simpa[fz]using h
 |.gp m off,v,h=>by simpa[fz]using h
 |.ep xs es i off,v,h=>by simpa[fz]using h
 |.gm m,v,h=>by simpa[fz]using h
 |.vs _ _ _ _ _,v,h=>by simpa[fz]using h
 |.vp _ _ _,v,h=>by simpa[fz]using h
 |.yl _,v,h=>by simpa[fz]using h
 |.ip _ _,v,h=>by simpa[fz]using h
 |.fn f a b,v,h=>by simpa[fz]using h
 |.gd g raw,v,h=>by simpa[fz]using h
 |.any,v,h=>by simpa[fz]using h
theorem xM{G:Gh}{nx:Nat}{lm:Nat->Option Nat}:∀(xs:List LV) (vs:List Value),bH G nx lm xs vs->bH G nx lm (zz xs) vs
 |[],vs,h=>by simpa[zz]using h
 |x::xs,vs,h=>by
  unfold bH at h;unfold zz bH;obtain⟨v,r,h1,h2,h3⟩:=h;exact⟨v,r,h1,T1 x v h2,xM xs r h3⟩
end
inductive DM where
 |ret|ej (x:LV)|aa (x:LV)
def Zm(G:Gh)(nx:Nat):DM->FrameMode->Prop
 |.ret,u=>u=.returning
 |.ej x,u=>∃v,u=.panicking [{v:=v,recovered:=false}]/\LR G nx ix x v
 |.aa x,u=>∃v,u=.panicking [{v:=v,recovered:=true}]/\LR G nx ix x v
def Fo:DM->DM
 |.aa _=>.ret
 |m=>m
def nq(P:Program)(f:FuncId)(args:List LV)(H:GH)(m:DM)(R:DM->GH->Prop):Prop:=
 Enters P f/\∀G w vs u,MR G ix vi H w->lD G->bH G H.next ix args vs->Zm G H.next m u->
  CallsDIn Fence.wide 0 P f vs.toArray u w λe u' w'=>∃v m' H' G',e=.returned v/\R m' H'/\Zm G' H'.next m' u'/\MR G' ix vi H' w'/\lD G'/\Ext ⟨G,H,w⟩ G' H' w'
def fw(P:Program)(c:Cx)(rs:List ResultVar)(s:S)(H0:GH)(R:CE->GH->Prop):List AD->DM->GH->Prop
 |[],.ret,H=>∃r,rE c.ty {s with H:=H} rs=some r/\∃H',Drop H0 H H'/\(fz r).nb H'.next/\R (.ret (fz r)) H'
 |[],.ej x,H=>∃H',Drop H0 H H'/\x.nb H'.next/\R (.ej x) H'
 |[],.aa _,_=>False
 |.mark n::ds,m,H=>H.obj n=some .qI/\fw P c rs s H0 R ds m (H.del n)
 |.call f args cap::ds,m,H=>cD H.next (args++cap)/\nq P f (args++cap) H m λm' H'=>fw P c rs s H0 R ds (Fo m') H'
def Oe(P:Program)(c:Cx)(rs:List ResultVar)(H0:GH)(R:CE->GH->Prop):AE->S->Prop
 |.normal,s|.ret,s=>fw P c rs s H0 R s.df .ret s.H
 |.ej x,s=>fw P c rs s H0 R s.df (.ej x) s.H
 |_,_=>False
def zm:List AD->GH->Prop
 |[],_=>True
 |.mark n::ds,H=>H.obj n=some .qI/\zm ds (H.del n)
 |_,_=>False
def ta:List AD->GH->GH
 |.mark n::ds,H=>ta ds (H.del n)
 |_,H=>H
def Kk(c:Cx)(rs:List ResultVar)(H0:GH)(v:LV):AE->S->Prop
 |.normal,s|.ret,s=>zm s.df s.H/\(rE c.ty {s with H:=ta s.df s.H} rs).map fz=some v/\v.nb H0.next/\H0.next<=s.H.next/\∀n,n<H0.next->(ta s.df s.H).obj n=H0.obj n
 |_,_=>False
section
variable {P:Program} {c:Cx} {E:tL} {s:S} {a:Act} {w:World}
theorem qa:∀(xs:List LV) (k t:Nat),gj k xs t=if k<=t then xs.getD (t-k) .any else .any
 |[],k,t=>by simp[gj]
 |x::xs,k,t=>by
  simp only[gj,eL];rw[qa xs (k+1) t];by_cases e:t=k
  ·subst e;simp
  ·rw[if_neg e];by_cases h:k<=t
   ·rw[if_pos (show k+1<=t by omega),if_pos h,show t-k=(t-(k+1))+1 from by omega];simp
   ·rw[if_neg (by omega),if_neg h]
theorem Ah(cW:nA P c.ty){G:Gh}{lm:Nat->Option Nat}(hM:MR G lm s.L s.H w)(aK:∀t,LR G s.H.next lm (s.env t) (a.tmps.getD t undef)){r:ResultVar}{v:LV}(h:rD c.ty s r=some v):
  ∃v',((match r with|.tmp t=>pure (a.tmps.getD t undef)|.cell x t=>do loadVar t (<-asAddr (a.tmps.getD x undef))):Sem Value).run P w=.ok v' w/\LR G s.H.next lm v v':=by
 cases r with
 |tmp t=>simp[rD]at h;subst h;exact⟨_,rfl,aK t⟩
 |cell x T=>
  simp only[rD]at h;cases hT:c.ty T with
  |none=>rw[hT]at h;cases h
  |some d=>
   rw[hT]at h;simp only at h;have hx:=aK x
   split at h
   ·rename_i k off e;rw[e]at hx;unfold LR at hx;obtain⟨b,hb,hv⟩:=hx;cases hL:s.L k with
    |none=>rw[hL]at h;cases h
    |some cs=>
     rw[hL]at h;simp only[Option.bind_some]at h;obtain⟨b',vs,g1,g2,g3,g4⟩:=hM.loc k cs hL;have:b'=b:=by rw[g1]at hb;exact Option.some.inj hb
     subst this;obtain⟨v',q1,q2⟩:=fW (cW T d hT) (mb g3 (off:=off)) (eS g4 off) h;exact⟨v',by simp[hv,asAddr,q1],q2⟩
   ·rename_i n off e;rw[e]at hx;unfold LR at hx
    split at h
    ·rename_i cs hL;obtain⟨_,g2,vs,g3,g4⟩:=hM.iC n _ hL;obtain⟨v',q1,q2⟩:=fW (cW T d hT) (mb g3 (off:=off)) (eS g4 off) h;exact⟨v',by simp[hx.2,asAddr,q1],bF (Nat.le_refl _) (Gh.le_refl _ _) (λ_ _ e=>by cases e) _ _ q2⟩
    ·cases h
   ·cases h
theorem Ai(cW:nA P c.ty){G:Gh}{lm:Nat->Option Nat}(hM:MR G lm s.L s.H w)(aK:∀t,LR G s.H.next lm (s.env t) (a.tmps.getD t undef)):∀{rs:List ResultVar} {vs:List LV},mF c.ty s rs=some vs->
  ∃us,(rs.mapM (λr:ResultVar=>(match r with|.tmp t=>pure (a.tmps.getD t undef)|.cell x t=>do loadVar t (<-asAddr (a.tmps.getD x undef)):Sem Value))).run P w=.ok us w/\bH G s.H.next lm vs us
 |[],vs,h=>by simp[mF]at h;subst h;exact⟨[],by simp,by simp[bH]⟩
 |r::rs,vs,h=>by
  simp only[mF]at h;cases hr:rD c.ty s r with
  |none=>rw[hr]at h;cases h
  |some v=>
   rw[hr]at h;cases Wh:mF c.ty s rs with
   |none=>rw[Wh]at h;cases h
   |some vs'=>
    rw[Wh]at h;simp at h;subst h;obtain⟨v',h1,h2⟩:=Ah (P:=P) cW hM aK hr;obtain⟨us,h3,h4⟩:=Ai cW hM aK Wh;refine⟨v'::us,?_,by unfold bH;exact⟨v',us,rfl,h2,h4⟩⟩
    rw[List.mapM_cons];simp only[Sem.run_bind,h1,Result.andThen_ok,h3];rfl
theorem Dx(cW:nA P c.ty){G:Gh}{lm:Nat->Option Nat}(hM:MR G lm s.L s.H w)(aK:∀t,LR G s.H.next lm (s.env t) (a.tmps.getD t undef)){fn:Func}{v:LV}(h:rE c.ty s fn.results.toList=some v):
  ∃v',(results fn a.tmps).run P w=.ok v' w/\LR G s.H.next lm v v':=by
 let g:ResultVar->Sem Value:=λr=>match r with|.tmp t=>pure (a.tmps.getD t undef)|.cell x t=>do loadVar t (<-asAddr (a.tmps.getD x undef))
 have bo4:results fn a.tmps=(fn.results.mapM g)>>=λvs=>(pure (if h:vs.size=1 then vs[0]else .tuple vs):Sem Value):=rfl
 have key:∀us:List Value,(fn.results.toList.mapM g).run P w=.ok us w->(results fn a.tmps).run P w=.ok (if h:us.toArray.size=1 then us.toArray[0]else .tuple us.toArray) w:=by
  intro us hus;rw[bo4,Array.mapM_eq_mapM_toList];simp only[Sem.run_bind,Sem.run_map,hus,Result.andThen_ok];rfl
 unfold rE at h
 split at h
 ·rename_i r e;obtain⟨v',h1,h2⟩:=Ah (P:=P) cW hM aK h;refine⟨v',?_,h2⟩;have:=key [v'] (by
   rw[e,List.mapM_cons,List.mapM_nil];have zw:(g r).run P w=.ok v' w:=h1;simp only[Sem.run_bind,zw,Result.andThen_ok];rfl)
  rw[this];simp
 ·rename_i rs hne;simp only[Option.map_eq_some_iff]at h;obtain⟨vs,h1,rfl⟩:=h;obtain⟨us,h2,h3⟩:=Ai (P:=P) cW hM aK h1;refine⟨.tuple us.toArray,?_,by unfold LR;exact⟨us,rfl,h3⟩⟩
  have hl:us.length=fn.results.toList.length:=by
   have e1:=bN h3;have e2:∀{rs:List ResultVar} {vs:List LV},mF c.ty s rs=some vs->vs.length=rs.length:=by
    intro rs
    induction rs with
    |nil=>intro vs h;simp[mF]at h;simp[<-h]
    |cons r rs ih=>
     intro vs h;simp only[mF]at h;cases hr:rD c.ty s r with
     |none=>rw[hr]at h;cases h
     |some v=>
      rw[hr]at h;cases Wh:mF c.ty s rs with
      |none=>rw[Wh]at h;cases h
      |some vs'=>rw[Wh]at h;simp at h;subst h;simp[ih Wh]
   rw[e1,e2 h1]
  rw[key us h2];rw[dif_neg];simp only[List.size_toArray];intro q;rw[q]at hl;obtain⟨r,hr⟩:=List.length_eq_one_iff.1 hl.symm;exact hne r hr
theorem aL{H0 H:GH}(h1:H0.next<=H.next)(h2:∀n,n<H0.next->H.obj n=H0.obj n)(h3:∀n,H0.next<=n->H0.obj n=none):Drop H0 H H0:=
 ⟨h1,Nat.le_refl _,λn hn=>(h2 n hn).symm,h3,λn o ho=>.inl ho⟩
theorem iL(hc:c.ok P){fn:Func}{G0:Gh}{H0:GH}{w0:World}(hM0:MR G0 ix vi H0 w0)(qd:lD G0){R:CE->GH->Prop}{s:S}{tmps:Array Value}{lm:Nat->Option Nat}:
  ∀(ds:List AD) (m:DM) (H:GH) (G:Gh) (w:World) (cs:List Deferred) (u:FrameMode),MR G lm s.L H w->Ext ⟨G0,H0,w0⟩ G H w->(∀t,LR G H.next lm (s.env t) (tmps.getD t undef))->GP G H.next ds cs->Zm G H.next m u->
   fw P c fn.results.toList s H0 R ds m H->LeavesInM Fence.wide 0 P fn tmps (E6 G0 H0 w0 R) cs u w
 |[],m,H,G,w,cs,u,hM,hx,aK,hd,hu,h=>by
  cases hd;have fin:∀(x:LV) (v:Value) (H':GH),Drop H0 H H'->x.nb H'.next->LR G H.next lm x v->MR (gL H'.next G) ix vi H' w/\lD (gL H'.next G)/\Ext ⟨G0,H0,w0⟩ (gL H'.next G) H' w/\LR (gL H'.next G) H'.next ix x v:=by
   intro x v H' hd hnb hv;have:=wH hM (E:=⟨G0,H0,w0⟩) (λn o ho=>(hM0.iC n o ho).2) qd hx hd
   exact⟨this.1,this.2.1,this.2.2,Cy (jO _ _ hv hnb)⟩
  cases m with
  |ret=>
   cases hu;obtain⟨r,hr,H',hd,hnb,hR⟩:=h;obtain⟨v,h1,h2⟩:=Dx (P:=P) (s:={s with H:=H}) (a:=⟨tmps,[]⟩) hc.ty hM aK hr
   obtain⟨q1,q2,q3,q4⟩:=fin (fz r) v H' hd hnb (T1 r v h2);exact⟨v,h1,.ret (fz r),H',_,hR,⟨v,rfl,q4⟩,q1,q2,q3⟩
  |ej x=>
   obtain⟨v,rfl,hv⟩:=hu;obtain⟨H',hd,hnb,hR⟩:=h;have hv':LR G H.next lm x v:=bF (Nat.le_refl _) (Gh.le_refl _ _) (λ_ _ e=>by cases e) _ _ hv
   obtain⟨q1,q2,q3,q4⟩:=fin x v H' hd hnb hv';exact⟨.ej x,H',_,hR,⟨v,rfl,q4⟩,q1,q2,q3⟩
  |aa x=>exact h.elim
 |.mark n::ds,m,H,G,w,cs,u,hM,hx,aK,hd,hu,h=>by
  obtain⟨d,r,rfl,⟨h1,rfl⟩,h2⟩:=hd;obtain⟨hn,h⟩:=h;obtain⟨q1,q2,q3⟩:=hM.iC n _ hn;have hlt:=eN q3;refine⟨?_,.inl ⟨G.nm n,eU w (G.nm n) (.deferred none),rfl,?_,?_⟩⟩
  ·cases m<;>first|(cases hu;simp;done)|(obtain⟨v,rfl,_⟩:=hu;simp)
  ·have fE:(setObj (G.nm n) (.deferred none)).run P w=.ok () (eU w (G.nm n) (.deferred none)):=by simp[setObj,Sem.run,q3,eU]
   have dL:(getObj (G.nm n)).run P w=.ok (.deferred (some [])) w:=by simp[getObj,Sem.run,q3]
   simp only[Instr.takeDeferred,Sem.run_bind,dL,Result.andThen_ok,fE];rfl
  ·exact iL hc hM0 qd ds m (H.del n) G _ r u (hM.Tn n hn _ q2 (by simp)) (hx.Tn n _ q2) aK h2 hu h
 |.call f args cap::ds,m,H,G,w,cs,u,hM,hx,aK,hd,hu,h=>by
  obtain⟨d,r,rfl,⟨xs,ys,rfl,h1,zw⟩,h2⟩:=hd;obtain⟨hnb,hE,h⟩:=h;refine⟨?_,.inr ⟨by simp[Fence.wide],.func f,ys.toArray,f,(xs++ys).toArray,rfl,?_,λ_ _=>trivial,?_⟩⟩
  ·cases m<;>first|(cases hu;simp;done)|(obtain⟨v,rfl,_⟩:=hu;simp)
  ·simp only[invoke];have:=hE (xs.toArray++ys.toArray) w;rw[this];simp
  ·obtain⟨hM2,bq3⟩:=zM hM;have hall:=eF h1 zw;have JG:bH (iq G) H.next ix (args++cap) (xs++ys):=ca (Nat.le_refl _) (ng _ G) (λ_ _ e=>e) _ _ hall
   have hu2:Zm (iq G) H.next m u:=by
    cases m<;>first|exact hu|(obtain⟨v,e,hv⟩:=hu;exact⟨v,e,bF (Nat.le_refl _) (ng _ G) (λ_ _ e=>e) _ _ hv⟩)
   have gY:=h (iq G) w _ u hM2 bq3 JG hu2;refine⟨gY.1,λc₀ cs hm hr=>?_⟩
   obtain⟨e,u',w',fr,⟨v,m',H',G',rfl,hR,We,zu,bq4,hx'⟩,Bt,hk,hf,yD⟩:=gY.2 c₀ cs hm hr;refine⟨_,u',w',fr,?_,Bt,hk,hf,yD⟩;obtain⟨zq,NG,hle⟩:=zN hM hx zu bq4 hx';have hb:=lz H'.next G G';refine iL hc hM0 qd ds (Fo m') H' _ w' r (settle u') zq NG (λt=>bF hx'.nx hle (λ_ _ e=>e) _ _ (aK t)) (ct hx'.nx hle _ _ h2) ?_ hR
   cases m' with
   |ret=>cases We;rfl
   |ej x=>obtain⟨v,rfl,hv⟩:=We;exact⟨v,rfl,bF (Nat.le_refl _) hb (λ_ _ e=>e) _ _ hv⟩
   |aa x=>obtain⟨v,rfl,hv⟩:=We;rfl
theorem wu{f:FuncId}{fn:Func}{rd:RD}{code:Code}{args:Array Value}{w:World}{R:Ending->World->Prop}(hf:P.funcs[f]?=some fn)(hb:fn.body=some code)(hrd:rd.uc f=true)
  (h:zP P rd code (bodyPostM Fence.wide 0 P fn R) {tmps:=args++Array.replicate (fn.ntmps-args.size) undef,defers:=[]} w):Calls P f args w R:=by
 simp only[RD.uc,Bool.and_eq_true,Option.isNone_iff_eq_none]at hrd;refine(callsIn_wide (n:=0)).1 ⟨trivial,λcs hr=>?_⟩
 let b:Frame:={(default:Frame)with fn:=f,kind:=.normal,roundOf:=none}
 have uT:Frame.enter P f args .normal=b.atR {tmps:=args++Array.replicate (fn.ntmps-args.size) undef,defers:=[]} [.code code]:=by
  simp[Frame.enter,Frame.atR,hf,hb,b]
 obtain⟨e,a',w',hq,gE⟩:=h b [] cs hrd.1.symm (λg hg=>by have:=hrd.2;rw[hg]at this;simpa using Eq.symm (by simpa using this))
 rw[<-uT]at gE;cases e with
 |normal=>
  obtain⟨e',w'',fr',hR,hs,hfn,hl⟩:=leaves_stepsInM a'.defers .returning w' {b.atR a' []with mode:=.returning} cs rfl rfl rfl hf rfl trivial hr hq
  exact⟨e',w'',fr',hR,ComesIn.of_steps (StepsIn.trans gE (.one (fenced_wide P _) (stepR_end rfl))) hs,hfn,hl⟩
 |ret=>
  obtain⟨todo,Sn⟩:=gE.1 rfl;obtain⟨e',w'',fr',hR,hs,hfn,hl⟩:=leaves_stepsInM a'.defers .returning w' {b.atR a' todo with mode:=.returning} cs rfl rfl rfl hf rfl trivial hr hq
  exact⟨e',w'',fr',hR,ComesIn.of_steps Sn hs,hfn,hl⟩
 |panic chain=>
  obtain⟨todo,Sn⟩:=gE;obtain⟨e',w'',fr',hR,hs,hfn,hl⟩:=leaves_stepsInM a'.defers (.panicking chain) w' {b.atR a' todo with mode:=.panicking chain} cs rfl rfl rfl hf rfl trivial hr hq
  exact⟨e',w'',fr',hR,ComesIn.of_steps Sn hs,hfn,hl⟩
 |exit id=>exact hq.elim
 |goto l=>exact hq.elim
 |outgrown=>exact⟨.outgrown,w',b,hq,gE.resolve_left (by simp[b]),rfl,trivial⟩
theorem jR.iQ(hc:c.ok P){f:FuncId}{fn:Func}{code:Code}(hf:P.funcs[f]?=some fn)(hb:fn.body=some code){args:List LV}(hn:args.length<=fn.ntmps){rd:RD}(hrd:rd.uc f=true){H:GH}{R:CE->GH->Prop}
  (h:(∀n,H.next<=n->H.obj n=none)->fh P rd code ⟨gj 0 args,vi,H,fn.ntmps,[]⟩ (Oe P c fn.results.toList H R)):jR P f args H R:=by
 intro G w vs hM qd hargs;have hnone:∀n,H.next<=n->H.obj n=none:=λn hn=>by
  cases ho:H.obj n with
  |none=>rfl
  |some o=>have:=(hM.iC n o ho).1;omega
 have hlen:=bN hargs;refine wu hf hb hrd (gO (h hnone ⟨G,H,w⟩ _ w ?_) ?_)
 ·refine⟨by simp;omega,G,ix,rfl,hM,Ext.refl G H w qd,λt=>?_,rfl⟩
  simp only;rw[qa,if_pos (Nat.zero_le _),Nat.sub_zero];by_cases ht:t<args.length
  ·have hx:args[t]?=some (args.getD t .any):=by simp[List.getD,List.getElem?_eq_getElem ht]
   obtain⟨v,h1,h2⟩:=kM hargs t _ hx;have:(vs.toArray++Array.replicate (fn.ntmps-vs.toArray.size) undef).getD t undef=v:=by
    rw[Array.getD_eq_getD_getElem?,Array.getElem?_append_left (by simp;omega)]
    simp[h1]
   rw[this];exact h2
  ·have:args.getD t .any=.any:=by simp[List.getD,List.getElem?_eq_none (Nat.le_of_not_lt ht)]
   rw[this];simp[LR]
 ·rintro e a' w' ⟨ae,s',q,r⟩;obtain⟨g2,G',lm',g1,zu,hx',yE,he⟩:=r;cases ae with
  |normal=>cases he;exact iL hc hM qd s'.df .ret s'.H G' w' _ _ zu hx' yE g1 rfl q
  |ret=>cases he;exact iL hc hM qd s'.df .ret s'.H G' w' _ _ zu hx' yE g1 rfl q
  |exit i=>exact q.elim
  |goto l=>exact q.elim
  |ej x=>
   obtain⟨v',rfl,hv⟩:=he;exact iL hc hM qd s'.df (.ej x) s'.H G' w' _ _ zu hx' yE g1 ⟨v',rfl,hv⟩ q
theorem ue{rs:List ResultVar}{H0:GH}{R:CE->GH->Prop}:∀(ds:List AD) (m:DM) (H:GH),zm ds H->fw P c rs s H0 R [] m (ta ds H)->fw P c rs s H0 R ds m H
 |[],m,H,_,h=>h
 |.mark n::ds,m,H,hm,h=>⟨hm.1,ue ds m _ hm.2 h⟩
 |.call .. ::ds,m,H,hm,h=>hm.elim
theorem vN:∀(ds:List AD) (H:GH),(ta ds H).next=H.next
 |[],H=>rfl
 |.mark n::ds,H=>vN ds (H.del n)
 |.call .. ::ds,H=>rfl
theorem aC.iQ(hc:c.ok P){f:FuncId}{fn:Func}{code:Code}(hf:P.funcs[f]?=some fn)(hb:fn.body=some code)(he:Enters P f){args:List LV}(hn:args.length<=fn.ntmps){rd:RD}(hrd:rd.uc f=true){v:LV}
  (h:∀H:GH,fh P rd code ⟨gj 0 args,vi,H,fn.ntmps,[]⟩ (Kk c fn.results.toList H v)):aC P f args v:=by
 intro H;refine⟨he,jR.iQ hc hf hb hn hrd λhnone=>(h H).mono λe s q=>?_⟩
 have key:Kk c fn.results.toList H v .ret s->fw P c fn.results.toList s H (λce H'=>ce=.ret v/\H'=H) s.df .ret s.H:=λq=>by
  obtain⟨r,h1,rfl⟩:=Option.map_eq_some_iff.1 q.2.1;exact ue _ _ _ q.1 ⟨r,h1,H,aL (by rw[vN];exact q.2.2.2.1) q.2.2.2.2 hnone,q.2.2.1,rfl,rfl⟩
 cases e with
 |normal=>exact key q
 |ret=>exact key q
 |exit i=>exact q.elim
 |goto l=>exact q.elim
 |ej x=>exact q.elim
end
end Go.Aft
end
section
namespace Go.Aft
def TK.okB:TK->TypeDesc->Bool
 |.agg fs,.struct f=>f.toList.map (λf=>(f.offset,f.type))==fs
 |.arr n e,.array m e'=>m==n&&e'==e
 |.sl e,.slice e'=>e'==e
 |.map k e,.map k' e'=>k'==k&&e'==e
 |.str,.string=>true
 |.int k,.int k'=>decide (k'=k)
 |.bool,.bool=>true
 |.ptr e,.pointer e'=>e'==e
 |.iface p,.interface ms=>p==ms.isEmpty
 |.func,.func ..=>true
 |.dh,.tuple _=>true
 |_,_=>false
theorem TK.bw{k:TK}{d:TypeDesc}(h:k.okB d=true):k.ok d:=by
 cases k<;>cases d<;>simp_all[TK.okB,TK.ok]
def vEq:Value->Value->Bool
 |.int k a,.int j b=>decide (k=j)&&a==b
 |.string a,.string b=>a.size==0&&b.size==0
 |.bool a,.bool b=>a==b
 |.slice none 0 0,.slice none 0 0=>true
 |.pointer none,.pointer none=>true
 |.map none,.map none=>true
 |.nilFunc,.nilFunc=>true
 |.nilIface,.nilIface=>true
 |_,_=>false
theorem Zp{a b:Value}(h:vEq a b=true):a=b:=by
 unfold vEq at h
 split at h<;>simp_all
def OL:List Value->List Value->Bool
 |[],[]=>true
 |a::x,b::y=>vEq a b&&OL x y
 |_,_=>false
theorem Nd:∀{x y:List Value},OL x y=true->x=y
 |[],[],_=>rfl
 |a::x,b::y,h=>by
  simp only[OL,Bool.and_eq_true]at h;rw[Zp h.1,Nd h.2]
 |[],_::_,h=>by simp[OL]at h
 |_::_,[],h=>by simp[OL]at h
def aU.chk(d:aU)(ti:TypeInfo)(u:TypeDesc):Bool:=
 d.k.okB u&&(ti.size==d.sz)&&(decide (ti.bytes<=4096)&&ti.bytes==d.bt)&&d.zero.all Value.oneCell'&&(d.zero.length==d.sz)&&
 match ti.zero with
 |none=>false
 |some z=>OL z.cells.toList d.zero&&(if d.k.isAgg then(match z with|.agg _=>true|_=>false)else z.oneCell')
theorem aU.bw{P:Program}{t:TypeId}{d:aU}{ti:TypeInfo}{u:TypeDesc}(h1:P.types[t]?=some ti)(h2:P.underlying t=some u)(h:d.chk ti u=true):d.ok P t:=by
 unfold aU.chk at h;cases hz:ti.zero with
 |none=>rw[hz]at h;simp at h
 |some z=>
  rw[hz]at h;simp only[Bool.and_eq_true,decide_eq_true_eq,beq_iff_eq,List.all_eq_true]at h;obtain⟨⟨⟨⟨⟨g1,g2⟩,g3,g3'⟩,g4⟩,g5⟩,g6,g7⟩:=h;have hi:P.info? t=some ti:=by
   unfold Tables.info?;rw[if_pos (Array.getElem?_eq_some_iff.1 h1).1];exact h1
  refine⟨⟨u,h2,TK.bw g1⟩,⟨ti,z,hi,g2,hz,Nd g6,g3,g3'⟩,g4,g5,λz' hz'=>?_⟩
  rw[hi]at hz';simp only[Option.map_some,Option.some.injEq,hz]at hz';subst hz';by_cases ha:d.k.isAgg=true
  ·rw[if_pos ha]at g7|-
   split at g7
   ·exact⟨_,rfl⟩
   ·cases g7
  ·rw[if_neg ha]at g7|-;exact g7
def bW(tab:List (Nat×aU))(t:TypeId):Option aU:=tab.lookup t
theorem Xa{P:Program}{tab:List (Nat×aU)}(h:∀p∈tab,p.2.ok P p.1):nA P (bW tab):=by
 intro t d hd;unfold bW at hd;have:(t,d)∈tab:=by
  induction tab with
  |nil=>simp at hd
  |cons p ps ih=>
   obtain⟨k,v⟩:=p;rw[List.lookup_cons]at hd;by_cases e:t==k
   ·rw[e]at hd;simp at hd;simp at e;subst e;subst hd;simp
   ·rw[show(t==k)=false from by simpa using e]at hd
    exact List.mem_cons_of_mem _ (ih (λp hp=>h p (List.mem_cons_of_mem _ hp)) hd)
 exact h _ this
theorem forall_nil{α:Type}{P:α->Prop}:∀p∈([]:List α),P p:=λp h=>by cases h
theorem forall_cons{α:Type}{P:α->Prop}{a:α}{l:List α}(h:P a)(t:∀p∈l,P p):∀p∈a::l,P p:=λp hp=>by
 rcases List.mem_cons.1 hp with rfl|hp
 ·exact h
 ·exact t p hp
class KT where
 k:S->Prop
class QT where
 q:AE->S->Prop
class CT where
 c:Code
class OT where
 l:List Oper
 rest:List Oper
class FA(α:Type) where
 f:α->Prop
class NT where
 n:Prop
def AP[K:KT](s:S):Prop:=K.k s
def yM(dst:Option Nat)(nt:Nat):Prop:=match dst with|some t=>t<nt|none=>True
def RK(r:Option vo)(s:S)(dst:Option Nat)[K:KT]:Prop:=match r with|none=>False|some r=>r.pre/\AP ((s.kD dst r.kD).put dst r.v)
def BK(x:LV)[F:FA Bool]:Prop:=match x with|.d (.k (.bool g))=>F.f g|_=>False
def jq{α:Type}(x:Option α)[F:FA α]:Prop:=match x with|some g=>F.f g|_=>False
def GK(r:Option (Prop×LV))(g:Bool)(s:S)(dst:Option Nat)[K:KT][N:NT]:Prop:=match r with|some (pre,v)=>(g=true->pre)/\AP (s.put dst (.gd g v))|none=>N.n
def SPK(r:Option (Prop×LV))(s:S)(dst:Option Nat)[K:KT][N:NT]:Prop:=match r with|some (pre,v)=>pre/\AP (s.put dst v)|none=>N.n
def IK(x:LV)[N:NT]:Prop:=match x with|.d (.k (.iface _ _))=>N.n|_=>False
def TH[K:KT][Q:QT]:AE->S->Prop:=Hs K.k Q.q
def BL(i:Nat)[Q:QT]:AE->S->Prop:=Ca i Q.q
def EV(P:Program)(c:Cx)[x:CT](s:S)[Q:QT]:Prop:=WT P c x.c s Q.q
def AW(P:Program)(rd:RD)[x:CT](s:S)[Q:QT]:Prop:=fh P rd x.c s Q.q
def RN(P:Program)(c:Cx)[o:OT](s:S)[Q:QT]:Prop:=qM P c o.l.toArray o.rest s Q.q
def ST(P:Program)(c:Cx)(s:S)(dst:Option Nat)(op:Op)[K:KT][Q:QT]:Prop:=gy P c s dst op K.k Q.q
class FB where
 f:FuncId×List LV×List LV->Prop
 y:Nat->Prop
def CLK(x:LV)[F:FB]:Prop:=match cE x with
 |some p=>F.f p
 |none=>match x with
  |.yl n=>F.y n
  |_=>False
def EY(P:Program)(n:Nat)(args:List LV)(H:GH)(s:S)(dst:Option Nat)[K:KT][Q:QT]:Prop:=ei P n args H (VK K.k Q.q s dst)
def EC(P:Program)(f:FuncId)(args:List LV)(H:GH)(s:S)(dst:Option Nat)[K:KT][Q:QT]:Prop:=aG P f args H (VK K.k Q.q s dst)
def af1(x:LV)(want:Bool):Option Bool:=match x with
 |.d (.k (.bool g))=>some (g==want)
 |.gd g0 (.d (.k (.bool g)))=>some (g0&&(g==want))
 |_=>none
def DA(j:Nat)[o:OT]:Option Nat:=(o.l[j]?).bind (·.dst)
def GD(d:Option Nat)(s:S)(want:Bool):Option Bool:=match d with|none=>none|some t=>af1 (s.env t) want
def OS(P:Program)(c:Cx)(dst:Option Nat)(op:Op)(g:Option (Nat×Bool))(s:S)[o:OT][K:KT][Q:QT]:Prop:=
 match g with
 |none=>
  match op with
  |.pick x a b=>@BK (s.arg x) ⟨λg=>s.aI x/\(g=true->s.aI a)/\(g=false->s.aI b)/\AP (s.put dst (mJ g (s.arg a) (s.arg b)))⟩
  |op=>ST P c s dst op
 |some (j,want)=>@jq Bool (GD (DA j) s want) ⟨λg=>
   match op with
   |.pick x a b=>@BK (s.arg x) ⟨λh=>(g=true->s.aI x/\(h=true->s.aI a)/\(h=false->s.aI b))/\AP (s.put dst (.gd g (mJ h (s.arg a) (s.arg b))))⟩
   |op=>@GK (cS c s dst op) g s dst K ⟨(g=true->ST P c s dst op)/\(g=false->AP (s.put dst .any))⟩⟩
section
variable {P:Program} {c:Cx} {s:S} {Q:QT} {K:KT} {N:NT} {dst:Option Nat}
@[simp] theorem bF2 {env:Nat->LV} {L:Nat->Option (List LV)} {H:GH} {nt:Nat} {df:List AD}:@AP K ⟨env,L,H,nt,df⟩=K.k ⟨env,L,H,nt,df⟩:=rfl
@[simp] theorem af6 {t nt:Nat}:yM (some t) nt=(t < nt):=rfl
@[simp] theorem af7 {nt:Nat}:yM none nt=True:=rfl
@[simp] theorem nW {pre:Prop} {v:LV} {kD:Zj}:@RK (some ⟨pre,v,kD⟩) s dst K=(pre/\@AP K ((s.kD dst kD).put dst v)):=rfl
@[simp] theorem bF1 {g:Bool} {F:FA Bool}:@BK (.d (.k (.bool g))) F=F.f g:=rfl
@[simp] theorem bu3 {α:Type} {g:α} {F:FA α}:@jq α (some g) F=F.f g:=rfl
@[simp] theorem aW8 {pre:Prop} {v:LV} {g:Bool}:@GK (some (pre,v)) g s dst K N=((g=true->pre)/\@AP K (s.put dst (.gd g v))):=rfl
@[simp] theorem aW9 {g:Bool}:@GK none g s dst K N=N.n:=rfl
@[simp] theorem aJ0 {pre:Prop} {v:LV}:@SPK (some (pre,v)) s dst K N=(pre/\@AP K (s.put dst v)):=rfl
@[simp] theorem aJ1:@SPK none s dst K N=N.n:=rfl
@[simp] theorem bF0 {T:TypeId} {v:Value}:@IK (.d (.k (.iface T v))) N=N.n:=rfl
@[simp] theorem an9:@TH K Q .normal s=K.k s:=rfl
@[simp] theorem aU1 {i:Nat}:@TH K Q (.exit i) s=Q.q (.exit i) s:=rfl
@[simp] theorem aU0 {i:Nat}:@TH K Q (.goto i) s=Q.q (.goto i) s:=rfl
@[simp] theorem bt5:@TH K Q .ret s=Q.q .ret s:=rfl
@[simp] theorem bt6 {x:LV}:@TH K Q (.ej x) s=Q.q (.ej x) s:=rfl
@[simp] theorem aq3 {i:Nat}:@BL i Q .normal s=Q.q .normal s:=rfl
@[simp] theorem aY0 {i:Nat}:@BL i Q (.exit i) s=Q.q .normal s:=by simp [BL,Ca]
@[simp] theorem aY2 {i j:Nat}:@BL i Q (.exit j) s=if j=i then Q.q .normal s else Q.q (.exit j) s:=rfl
@[simp] theorem aY1 {i j:Nat}:@BL i Q (.goto j) s=Q.q (.goto j) s:=rfl
@[simp] theorem bv5 {i:Nat}:@BL i Q .ret s=Q.q .ret s:=rfl
@[simp] theorem bv6 {i:Nat} {x:LV}:@BL i Q (.ej x) s=Q.q (.ej x) s:=rfl
@[simp] theorem aX0:@EV P c ⟨.skip⟩ s Q=Q.q .normal s:=rfl
@[simp] theorem aN0 {l:Nat}:@EV P c ⟨.label l⟩ s Q=Q.q .normal s:=rfl
@[simp] theorem bv1:@EV P c ⟨.ret⟩ s Q=Q.q .ret s:=rfl
@[simp] theorem aX3 {i:Nat}:@EV P c ⟨.exit i⟩ s Q=Q.q (.exit i) s:=rfl
@[simp] theorem aX2 {i:Nat}:@EV P c ⟨.goto i⟩ s Q=Q.q (.goto i) s:=rfl
@[simp] theorem bv0 {x y:Code}:@EV P c ⟨.seq x y⟩ s Q = @EV P c ⟨x⟩ s ⟨@TH ⟨fun s'=>@EV P c ⟨y⟩ s' Q⟩ Q⟩:=rfl
@[simp] theorem aN1 {i:Nat} {x:Code}:@EV P c ⟨.block i x⟩ s Q = @EV P c ⟨x⟩ s ⟨@BL i Q⟩:=rfl
@[simp] theorem aX5 {o:Operand} {x y:Code}:@EV P c ⟨.cond o x y⟩ s Q = @BK (s.get o) ⟨fun g=>(g=true->@EV P c ⟨x⟩ s Q)/\(g=false->@EV P c ⟨y⟩ s Q)⟩:=by
 simp only[EV,WT,BK]
 split<;>simp_all
@[simp] theorem aq2 {i:Nat} {l:List Oper}:@EV P c ⟨.region i l.toArray false⟩ s Q = @RN P c ⟨l,l⟩ s Q:=rfl
@[simp] theorem aX4 {i:Nat} {ops:Array Oper}:@EV P c ⟨.region i ops true⟩ s Q = @AW P c.rd ⟨.region i ops true⟩ s Q:=rfl
@[simp] theorem aX1 {x:Code}:@EV P c ⟨.loop x⟩ s Q = @AW P c.rd ⟨.loop x⟩ s Q:=rfl
@[simp] theorem Xp {f:Operand} {ps:Array Tmp} {x y:Code}:@EV P c ⟨.rangeFunc f ps x y⟩ s Q = @AW P c.rd ⟨.rangeFunc f ps x y⟩ s Q:=rfl
@[simp] theorem aM9 {x:Code}:@EV P c ⟨.scope x⟩ s Q = @AW P c.rd ⟨.scope x⟩ s Q:=rfl
variable {l rest:List Oper} {T:TypeId} {pos:String} {af:Array Edge} {g:Option (Nat×Bool)} {j:Nat} {want:Bool} {o:OT}
@[simp] theorem bt9:@RN P c ⟨l,[]⟩ s Q=Q.q .normal s:=rfl
theorem T5:GD (@DA j ⟨l,rest⟩) s want=guardOf l.toArray s j want:=by
 simp only[GD,DA,guardOf];simp only[List.getElem?_toArray];cases(l[j]?).bind (·.dst)<;>first|rfl|(simp only[af1];rfl)
@[simp] theorem aU6 {op:Op}:@RN P c ⟨l,⟨dst,op,T,pos,af,g⟩ :: rest⟩ s Q=(yM dst s.nt/\@OS P c dst op g s ⟨l,[]⟩ ⟨fun s'=>@RN P c ⟨l,rest⟩ s' Q⟩ Q):=by
 cases g with
 |none=>cases op<;>first|rfl|(simp only[RN,qM,OS,BK,yM,AP];congr 1)
 |some g=>
  obtain⟨j,want⟩:=g;simp only[RN,qM,OS,yM,jq,T5]
  congr 1
  cases guardOf l.toArray s j want with
  |none=>rfl
  |some g=>cases op<;>first|rfl|(simp only[BK,GK,AP];congr 1)|(simp only[GK,AP,ST];generalize cS _ _ _ _=r;cases r<;>rfl)
@[simp] theorem aX7 {op:Op}:@DA 0 ⟨⟨dst,op,T,pos,af,g⟩ :: l,rest⟩=dst:=rfl
@[simp] theorem aX8 {o:Oper}:@DA (j+1) ⟨o :: l,rest⟩ = @DA j ⟨l,[]⟩:=by simp [DA]
@[simp] theorem aV7 {x a b:Operand}:@OS P c dst (.pick x a b) none s o K Q = @BK (s.arg x) ⟨fun g=>s.aI x/\(g=true->s.aI a)/\(g=false->s.aI b)/\@AP K (s.put dst (mJ g (s.arg a) (s.arg b)))⟩:=rfl
@[simp] theorem aL9 {x a b:Operand}:@OS P c dst (.pick x a b) (some (j,want)) s o K Q = @jq Bool (GD (@DA j o) s want) ⟨fun g=>@BK (s.arg x) ⟨fun h=>(g=true->s.aI x/\(h=true->s.aI a)/\(h=false->s.aI b))/\@AP K (s.put dst (.gd g (mJ h (s.arg a) (s.arg b))))⟩⟩:=rfl
@[simp] theorem bv4 {f:FuncId} {first cap:List LV} {F:FB}:@CLK (.fn (.func f) first cap) F=F.f (f,first,cap):=rfl
@[simp] theorem bv3 {n:Nat} {F:FB}:@CLK (.yl n) F=F.y n:=rfl
@[simp] theorem aU3 {fo:Operand} {args:Array Operand} {tys:Array TypeId}:@ST P c s dst (.call ⟨.value fo,args,tys⟩) K Q =
  @CLK (s.arg fo) ⟨λp=>s.aI fo/\jc (args.toList.map s.aI)/\cD s.H.next (p.2.1++args.toList.map s.arg++p.2.2)/\
   @SPK (c.spec p.1 (p.2.1++args.toList.map s.arg++p.2.2)) s dst K ⟨@EC P p.1 (p.2.1++args.toList.map s.arg++p.2.2) s.H s dst K Q⟩,
   λn=>s.aI fo/\jc (args.toList.map s.aI)/\cD s.H.next (args.toList.map s.arg)/\@EY P n (args.toList.map s.arg) s.H s dst K Q⟩:=by
 simp only[ST,gy,CLK,SPK,AP,EC,EY];cases cE (s.arg fo)with
 |none=>rfl
 |some p=>
  obtain⟨f,first,cap⟩:=p
  simp only;cases c.spec f (first++args.toList.map s.arg++cap)<;>rfl
@[simp] theorem aI9 {fo:Operand} {args:Array Operand} {tys:Array TypeId}:@ST P c s dst (.defer ⟨.value fo,args,tys⟩) K Q =
  @jq _ (cE (s.arg fo)) ⟨λp=>c.rd.r=none/\s.aI fo/\jc (args.toList.map s.aI)/\cD s.H.next (p.2.1++args.toList.map s.arg)/\cD s.H.next p.2.2/\@AP K (({s with df:=.call p.1 (p.2.1++args.toList.map s.arg) p.2.2::s.df}:S).put dst .any)⟩:=by
 simp only[ST,gy,jq,AP];cases cE (s.arg fo)with
 |none=>rfl
 |some p=>rfl
class FS where
 f:S->Prop
def FSK(x:Option S)[F:FS]:Prop:=match x with|some s=>F.f s|none=>False
@[simp] theorem aM7 {F:FS}:@FSK (some s) F=F.f s:=rfl
@[simp] theorem Y5 {fn:Fn} {first cap:Array Operand}:@ST P c s dst (.makeFunc fn first cap) K Q = @FSK (oe c.bO cap.toList s) ⟨fun s'=>@AP K (s'.put dst (.fn fn (first.toList.map s'.get) (cap.toList.map s'.get)))⟩:=by
 simp only[ST,gy,FSK];cases oe c.bO cap.toList s<;>rfl
@[simp] theorem aI7 {T:TypeId} {x:Operand}:@ST P c s dst (.range T x) K Q =
  match c.ty T,s.arg x with
  |some ⟨.map _ _,_,_,_⟩,.gm m=>match s.H.obj m with
   |some (.map es)=>s.aI x/\@AP K (({s with H:=s.H.add (.iter m es.length [] es.length)}:S).put dst (.gp s.H.next 0))
   |_=>False
  |_,_=>False:=rfl
theorem ST.next{x:Operand}{n m since last:Nat}{seen:List Nat}{es:List (Value×LV)}(hx:s.arg x=.gp n 0)(hn:s.H.obj n=some (.iter m since seen last))(hm:s.H.obj m=some (.map es))(hp:s.aI x)(h1:since=es.length)(h2:last=es.length)(h3:es.all (λe=>oS e.1)=true)
  (yC:∀i e,es[i]?=some e->i∉seen->@AP K (({s with H:=s.H.set n (.iter m since (seen++[i]) es.length)}:S).put dst (.dh [.d (.k (.bool true)),oT e.1,e.2])))
  (hend:(∀i,i<es.length->i∈seen)->@AP K (s.put dst (.dh [.d (.k (.bool false))]))):@ST P c s dst (.next x false) K Q:=by
 simp only[ST,gy,hx,hn,hm];exact⟨hp,h1,h2,h3,yC,hend⟩
theorem ST.entry{x:Operand}{n m since last i:Nat}{seen:List Nat}{es:List (Value×LV)}{e:Value×LV}(hx:s.arg x=.gp n 0)(hn:s.H.obj n=some (.iter m since seen last))(hm:s.H.obj m=some (.map es))(hp:s.aI x)(h2:last=es.length)(h3:es.all (λe=>oS e.1)=true)(hi:seen.getLast?=some i)(he:es[i]?=some e)
  (hk:@AP K (s.put dst (.dh [oT e.1,e.2]))):@ST P c s dst (.entry x) K Q:=by
 simp only[ST,gy,hx,hn,hm];exact⟨hp,h2,h3,i,e,hi,he,hk⟩
@[simp] theorem aI8 {x:Operand}:@ST P c s dst (.panic x) K Q=(s.aI x/\(s.arg x).nb s.H.next/\@IK (s.arg x) ⟨Q.q (.ej (s.arg x)) s⟩):=by
 simp only[ST,gy,IK]
 split<;>simp_all
def vW:Op->Bool
 |.call ⟨.value _,_,_⟩|.panic _|.range .. |.next .. |.entry .. |.defer .. |.makeFunc .. |.buildSlice ..=>false
 |_=>true
theorem dH{op:Op}(h:vW op=true):@ST P c s dst op K Q= @RK (bV c.ty c.bR c.bO s dst op) s dst K:=by
 cases op with
 |call cl=>
  obtain⟨callee,args,tys⟩:=cl;cases callee<;>first|(simp[vW]at h;done)|(simp only[ST,gy];generalize bV _ _ _ _ _ _=r;cases r<;>rfl)
 |panic x=>simp[vW]at h
 |range T x=>simp[vW]at h
 |makeFunc f a b=>simp[vW]at h
 |next x b=>simp[vW]at h
 |entry x=>simp[vW]at h
 |defer x=>simp[vW]at h
 |buildSlice T l q=>simp[vW]at h
 |_=>simp only[ST,gy];generalize bV _ _ _ _ _ _=r;cases r<;>rfl
theorem EC.aJ{f:FuncId}{args:List LV}{v:LV}{H:GH}(h:aC P f args v)(hk:@AP K (({s with H:=H}:S).put dst v)):@EC P f args H s dst K Q:=
 (h H).mono λce H' ⟨e,eH⟩=>by subst e;subst eH;exact hk
theorem EV.sound{x:Code}{Q:AE->S->Prop}(hc:c.ok P)(h:@EV P c ⟨x⟩ s ⟨Q⟩):fh P c.rd x s Q:=mm hc x s Q h
@[simp] theorem aV9 {x0:Operand}:@OS P c dst (.move x0) none s o K Q = @RK (bV c.ty c.bR c.bO s dst (.move x0)) s dst K:=dH rfl
@[simp] theorem aL1 {x0:Operand}:@OS P c dst (.move x0) (some (j,want)) s o K Q = @jq Bool (GD (@DA j o) s want) ⟨fun g=>@GK (cS c s dst (.move x0)) g s dst K ⟨(g=true->@RK (bV c.ty c.bR c.bO s dst (.move x0)) s dst K)/\(g=false->@AP K (s.put dst .any))⟩⟩:=by
 rw[<-dH (P:=P) (Q:=Q) rfl];rfl
@[simp] theorem ap9 {x0:Operand}:@OS P c dst (.assign x0) none s o K Q = @RK (bV c.ty c.bR c.bO s dst (.assign x0)) s dst K:=dH rfl
@[simp] theorem aM4 {x0:TypeId}:@OS P c dst (.alloc x0) none s o K Q = @RK (bV c.ty c.bR c.bO s dst (.alloc x0)) s dst K:=dH rfl
@[simp] theorem bu2 {x0:TypeId} {x1:Operand}:@OS P c dst (.box x0 x1) none s o K Q = @RK (bV c.ty c.bR c.bO s dst (.box x0 x1)) s dst K:=dH rfl
@[simp] theorem aM2 {x0:TypeId} {x1:Array (Nat × Operand)}:@OS P c dst (.build x0 x1) none s o K Q = @RK (bV c.ty c.bR c.bO s dst (.build x0 x1)) s dst K:=dH rfl
@[simp] theorem ap5 {x0:TypeId} {x1:Array (Nat × Operand)}:@OS P c dst (.build x0 x1) (some (j,want)) s o K Q = @jq Bool (GD (@DA j o) s want) ⟨fun g=>@GK (cS c s dst (.build x0 x1)) g s dst K ⟨(g=true->@RK (bV c.ty c.bR c.bO s dst (.build x0 x1)) s dst K)/\(g=false->@AP K (s.put dst .any))⟩⟩:=by
 rw[<-dH (P:=P) (Q:=Q) rfl];rfl
@[simp] theorem Uw {x0:TypeId} {x1:Nat} {x2:Array (Nat × Operand)}:@OS P c dst (.buildSlice x0 x1 x2) none s o K Q = @RK ((bsV c.ty c.bO s dst x0 x1 x2).or (bV c.ty c.bR c.bO s dst (.buildSlice x0 x1 x2))) s dst K:=by
 simp only[OS,ST,gy,RK,AP];cases(bsV c.ty c.bO s dst x0 x1 x2).or (bV c.ty c.bR c.bO s dst (.buildSlice x0 x1 x2))<;>rfl
@[simp] theorem ap8 {x0:TypeId} {x1:Operand} {x2:Operand} {x3:Operand}:@OS P c dst (.insert x0 x1 x2 x3) none s o K Q = @RK (bV c.ty c.bR c.bO s dst (.insert x0 x1 x2 x3)) s dst K:=dH rfl
@[simp] theorem aW0 {x0:TypeId} {x1:Operand}:@OS P c dst (.load x0 x1) none s o K Q = @RK (bV c.ty c.bR c.bO s dst (.load x0 x1)) s dst K:=dH rfl
@[simp] theorem aL2 {x0:TypeId} {x1:Operand}:@OS P c dst (.load x0 x1) (some (j,want)) s o K Q = @jq Bool (GD (@DA j o) s want) ⟨fun g=>@GK (cS c s dst (.load x0 x1)) g s dst K ⟨(g=true->@RK (bV c.ty c.bR c.bO s dst (.load x0 x1)) s dst K)/\(g=false->@AP K (s.put dst .any))⟩⟩:=by
 rw[<-dH (P:=P) (Q:=Q) rfl];rfl
@[simp] theorem aL4 {x0:TypeId} {x1:Operand} {x2:Operand}:@OS P c dst (.store x0 x1 x2) none s o K Q = @RK (bV c.ty c.bR c.bO s dst (.store x0 x1 x2)) s dst K:=dH rfl
@[simp] theorem Zf {x0:Operand}:@OS P c dst (.nilCheck x0) none s o K Q = @RK (bV c.ty c.bR c.bO s dst (.nilCheck x0)) s dst K:=dH rfl
@[simp] theorem Xg {x0:Operand}:@OS P c dst (.nilCheck x0) (some (j,want)) s o K Q = @jq Bool (GD (@DA j o) s want) ⟨fun g=>@GK (cS c s dst (.nilCheck x0)) g s dst K ⟨(g=true->@RK (bV c.ty c.bR c.bO s dst (.nilCheck x0)) s dst K)/\(g=false->@AP K (s.put dst .any))⟩⟩:=by
 rw[<-dH (P:=P) (Q:=Q) rfl];rfl
@[simp] theorem aM3 {x0:BinOp} {x1:TypeId} {x2:Operand} {x3:Operand} {x4:TypeId}:@OS P c dst (.binOp x0 x1 x2 x3 x4) none s o K Q = @RK (bV c.ty c.bR c.bO s dst (.binOp x0 x1 x2 x3 x4)) s dst K:=dH rfl
@[simp] theorem ap6 {x0:BinOp} {x1:TypeId} {x2:Operand} {x3:Operand} {x4:TypeId}:@OS P c dst (.binOp x0 x1 x2 x3 x4) (some (j,want)) s o K Q = @jq Bool (GD (@DA j o) s want) ⟨fun g=>@GK (cS c s dst (.binOp x0 x1 x2 x3 x4)) g s dst K ⟨(g=true->@RK (bV c.ty c.bR c.bO s dst (.binOp x0 x1 x2 x3 x4)) s dst K)/\(g=false->@AP K (s.put dst .any))⟩⟩:=by
 rw[<-dH (P:=P) (Q:=Q) rfl];rfl
@[simp] theorem aV6 {x0:UnOp} {x1:TypeId} {x2:Operand}:@OS P c dst (.unOp x0 x1 x2) none s o K Q = @RK (bV c.ty c.bR c.bO s dst (.unOp x0 x1 x2)) s dst K:=dH rfl
@[simp] theorem aK9 {x0:UnOp} {x1:TypeId} {x2:Operand}:@OS P c dst (.unOp x0 x1 x2) (some (j,want)) s o K Q = @jq Bool (GD (@DA j o) s want) ⟨fun g=>@GK (cS c s dst (.unOp x0 x1 x2)) g s dst K ⟨(g=true->@RK (bV c.ty c.bR c.bO s dst (.unOp x0 x1 x2)) s dst K)/\(g=false->@AP K (s.put dst .any))⟩⟩:=by
 rw[<-dH (P:=P) (Q:=Q) rfl];rfl
@[simp] theorem ai5 {x0:TypeId} {x1:TypeId} {x2:Operand}:@OS P c dst (.convert x0 x1 x2) none s o K Q = @RK (bV c.ty c.bR c.bO s dst (.convert x0 x1 x2)) s dst K:=dH rfl
@[simp] theorem Qy {x0:TypeId} {x1:Operand}:@OS P c dst (.makeInterface x0 x1) none s o K Q = @RK (bV c.ty c.bR c.bO s dst (.makeInterface x0 x1)) s dst K:=dH rfl
@[simp] theorem ai3 {x0:TypeId} {x1:Option Operand}:@OS P c dst (.makeMap x0 x1) none s o K Q = @RK (bV c.ty c.bR c.bO s dst (.makeMap x0 x1)) s dst K:=dH rfl
@[simp] theorem Xj {x0:TypeId} {x1:Operand} {x2:Operand}:@OS P c dst (.makeSlice x0 x1 x2) none s o K Q = @RK (bV c.ty c.bR c.bO s dst (.makeSlice x0 x1 x2)) s dst K:=dH rfl
@[simp] theorem aL5 {x0:TypeId} {x1:Operand} {x2:Option Operand} {x3:Option Operand} {x4:Option Operand}:@OS P c dst (.slice x0 x1 x2 x3 x4) none s o K Q = @RK (bV c.ty c.bR c.bO s dst (.slice x0 x1 x2 x3 x4)) s dst K:=dH rfl
@[simp] theorem Xl {x0:TypeId} {x1:Operand} {x2:Nat}:@OS P c dst (.fieldAddr x0 x1 x2) none s o K Q = @RK (bV c.ty c.bR c.bO s dst (.fieldAddr x0 x1 x2)) s dst K:=dH rfl
@[simp] theorem Uu {x0:TypeId} {x1:Operand} {x2:Nat}:@OS P c dst (.fieldAddr x0 x1 x2) (some (j,want)) s o K Q = @jq Bool (GD (@DA j o) s want) ⟨fun g=>@GK (cS c s dst (.fieldAddr x0 x1 x2)) g s dst K ⟨(g=true->@RK (bV c.ty c.bR c.bO s dst (.fieldAddr x0 x1 x2)) s dst K)/\(g=false->@AP K (s.put dst .any))⟩⟩:=by
 rw[<-dH (P:=P) (Q:=Q) rfl];rfl
@[simp] theorem Xk {x0:TypeId} {x1:Operand} {x2:Operand}:@OS P c dst (.indexAddr x0 x1 x2) none s o K Q = @RK (bV c.ty c.bR c.bO s dst (.indexAddr x0 x1 x2)) s dst K:=dH rfl
@[simp] theorem Ut {x0:TypeId} {x1:Operand} {x2:Operand}:@OS P c dst (.indexAddr x0 x1 x2) (some (j,want)) s o K Q = @jq Bool (GD (@DA j o) s want) ⟨fun g=>@GK (cS c s dst (.indexAddr x0 x1 x2)) g s dst K ⟨(g=true->@RK (bV c.ty c.bR c.bO s dst (.indexAddr x0 x1 x2)) s dst K)/\(g=false->@AP K (s.put dst .any))⟩⟩:=by
 rw[<-dH (P:=P) (Q:=Q) rfl];rfl
@[simp] theorem aL8 {x0:TypeId} {x1:Operand} {x2:Operand}:@OS P c dst (.index x0 x1 x2) none s o K Q = @RK (bV c.ty c.bR c.bO s dst (.index x0 x1 x2)) s dst K:=dH rfl
@[simp] theorem ap2 {x0:TypeId} {x1:Operand} {x2:Operand}:@OS P c dst (.index x0 x1 x2) (some (j,want)) s o K Q = @jq Bool (GD (@DA j o) s want) ⟨fun g=>@GK (cS c s dst (.index x0 x1 x2)) g s dst K ⟨(g=true->@RK (bV c.ty c.bR c.bO s dst (.index x0 x1 x2)) s dst K)/\(g=false->@AP K (s.put dst .any))⟩⟩:=by
 rw[<-dH (P:=P) (Q:=Q) rfl];rfl
@[simp] theorem ap7 {x0:TypeId} {x1:Operand} {x2:Operand} {x3:Bool}:@OS P c dst (.lookup x0 x1 x2 x3) none s o K Q = @RK (bV c.ty c.bR c.bO s dst (.lookup x0 x1 x2 x3)) s dst K:=dH rfl
@[simp] theorem ai2 {x0:TypeId} {x1:Operand} {x2:Operand} {x3:Bool}:@OS P c dst (.lookup x0 x1 x2 x3) (some (j,want)) s o K Q = @jq Bool (GD (@DA j o) s want) ⟨fun g=>@GK (cS c s dst (.lookup x0 x1 x2 x3)) g s dst K ⟨(g=true->@RK (bV c.ty c.bR c.bO s dst (.lookup x0 x1 x2 x3)) s dst K)/\(g=false->@AP K (s.put dst .any))⟩⟩:=by
 rw[<-dH (P:=P) (Q:=Q) rfl];rfl
@[simp] theorem Xi {x0:TypeId} {x1:Operand} {x2:Operand} {x3:Operand}:@OS P c dst (.mapUpdate x0 x1 x2 x3) none s o K Q = @RK (bV c.ty c.bR c.bO s dst (.mapUpdate x0 x1 x2 x3)) s dst K:=dH rfl
@[simp] theorem Uv {x0:Operand} {x1:TypeId} {x2:TypeId} {x3:Bool}:@OS P c dst (.typeAssert x0 x1 x2 x3) none s o K Q = @RK (bV c.ty c.bR c.bO s dst (.typeAssert x0 x1 x2 x3)) s dst K:=dH rfl
@[simp] theorem ai4 {x0:Operand} {x1:Nat}:@OS P c dst (.extract x0 x1) none s o K Q = @RK (bV c.ty c.bR c.bO s dst (.extract x0 x1)) s dst K:=dH rfl
def eO(c:Cx)(x:Array Operand)(y:Array TypeId)(s:S)(dst:Option Nat)[K:KT]:Prop:=RK (bV c.ty c.bR c.bO s dst (.call ⟨.builtin .append,x,y⟩)) s dst
@[simp] theorem aq0 {x:Array Operand} {y:Array TypeId}:@OS P c dst (.call ⟨.builtin .append,x,y⟩) none s o K Q = @eO c x y s dst K:=dH rfl
@[simp] theorem aW4 {x:Array Operand} {y:Array TypeId}:@OS P c dst (.call ⟨.builtin .len,x,y⟩) none s o K Q = @RK (bV c.ty c.bR c.bO s dst (.call ⟨.builtin .len,x,y⟩)) s dst K:=dH rfl
@[simp] theorem aW5 {x:Array Operand} {y:Array TypeId}:@OS P c dst (.call ⟨.builtin .cap,x,y⟩) none s o K Q = @RK (bV c.ty c.bR c.bO s dst (.call ⟨.builtin .cap,x,y⟩)) s dst K:=dH rfl
@[simp] theorem aW2 {x:Array Operand} {y:Array TypeId}:@OS P c dst (.call ⟨.builtin .min,x,y⟩) none s o K Q = @RK (bV c.ty c.bR c.bO s dst (.call ⟨.builtin .min,x,y⟩)) s dst K:=dH rfl
@[simp] theorem aW3 {x:Array Operand} {y:Array TypeId}:@OS P c dst (.call ⟨.builtin .max,x,y⟩) none s o K Q = @RK (bV c.ty c.bR c.bO s dst (.call ⟨.builtin .max,x,y⟩)) s dst K:=dH rfl
@[simp] theorem Ze {b:Builtin} {x:Array Operand} {y:Array TypeId}:@OS P c dst (.call ⟨.builtin b,x,y⟩) (some (j,want)) s o K Q = @jq Bool (GD (@DA j o) s want) ⟨fun g=>@GK (cS c s dst (.call ⟨.builtin b,x,y⟩)) g s dst K ⟨(g=true->@RK (bV c.ty c.bR c.bO s dst (.call ⟨.builtin b,x,y⟩)) s dst K)/\(g=false->@AP K (s.put dst .any))⟩⟩:=by
 rw[<-dH (P:=P) (Q:=Q) rfl];rfl
@[simp] theorem aW1 {fo:Operand} {x:Array Operand} {y:Array TypeId}:@OS P c dst (.call ⟨.value fo,x,y⟩) none s o K Q = @ST P c s dst (.call ⟨.value fo,x,y⟩) K Q:=rfl
@[simp] theorem aL3 {fo:Operand} {x:Array Operand} {y:Array TypeId}:@OS P c dst (.call ⟨.value fo,x,y⟩) (some (j,want)) s o K Q = @jq Bool (GD (@DA j o) s want) ⟨fun g=>@GK (cS c s dst (.call ⟨.value fo,x,y⟩)) g s dst K ⟨(g=true->@ST P c s dst (.call ⟨.value fo,x,y⟩) K Q)/\(g=false->@AP K (s.put dst .any))⟩⟩:=rfl
@[simp] theorem aL7 {x:Operand}:@OS P c dst (.panic x) none s o K Q = @ST P c s dst (.panic x) K Q:=rfl
@[simp] theorem ap1 {x:Operand}:@OS P c dst (.panic x) (some (j,want)) s o K Q = @jq Bool (GD (@DA j o) s want) ⟨fun g=>@GK (cS c s dst (.panic x)) g s dst K ⟨(g=true->@ST P c s dst (.panic x) K Q)/\(g=false->@AP K (s.put dst .any))⟩⟩:=rfl
@[simp] theorem aL6 {T:TypeId} {x:Operand}:@OS P c dst (.range T x) none s o K Q = @ST P c s dst (.range T x) K Q:=rfl
@[simp] theorem ap0 {T:TypeId} {x:Operand}:@OS P c dst (.range T x) (some (j,want)) s o K Q = @jq Bool (GD (@DA j o) s want) ⟨fun g=>@GK (cS c s dst (.range T x)) g s dst K ⟨(g=true->@ST P c s dst (.range T x) K Q)/\(g=false->@AP K (s.put dst .any))⟩⟩:=rfl
@[simp] theorem aV8 {x:Operand} {b:Bool}:@OS P c dst (.next x b) none s o K Q = @ST P c s dst (.next x b) K Q:=rfl
@[simp] theorem aL0 {x:Operand} {b:Bool}:@OS P c dst (.next x b) (some (j,want)) s o K Q = @jq Bool (GD (@DA j o) s want) ⟨fun g=>@GK (cS c s dst (.next x b)) g s dst K ⟨(g=true->@ST P c s dst (.next x b) K Q)/\(g=false->@AP K (s.put dst .any))⟩⟩:=rfl
@[simp] theorem aM0 {x:Operand}:@OS P c dst (.entry x) none s o K Q = @ST P c s dst (.entry x) K Q:=rfl
@[simp] theorem ap3 {x:Operand}:@OS P c dst (.entry x) (some (j,want)) s o K Q = @jq Bool (GD (@DA j o) s want) ⟨fun g=>@GK (cS c s dst (.entry x)) g s dst K ⟨(g=true->@ST P c s dst (.entry x) K Q)/\(g=false->@AP K (s.put dst .any))⟩⟩:=rfl
@[simp] theorem aM1 {x:Call}:@OS P c dst (.defer x) none s o K Q = @ST P c s dst (.defer x) K Q:=rfl
@[simp] theorem ap4 {x:Call}:@OS P c dst (.defer x) (some (j,want)) s o K Q = @jq Bool (GD (@DA j o) s want) ⟨fun g=>@GK (cS c s dst (.defer x)) g s dst K ⟨(g=true->@ST P c s dst (.defer x) K Q)/\(g=false->@AP K (s.put dst .any))⟩⟩:=rfl
@[simp] theorem Zg {fn:Fn} {x y:Array Operand}:@OS P c dst (.makeFunc fn x y) none s o K Q = @ST P c s dst (.makeFunc fn x y) K Q:=rfl
@[simp] theorem Xh {fn:Fn} {x y:Array Operand}:@OS P c dst (.makeFunc fn x y) (some (j,want)) s o K Q = @jq Bool (GD (@DA j o) s want) ⟨fun g=>@GK (cS c s dst (.makeFunc fn x y)) g s dst K ⟨(g=true->@ST P c s dst (.makeFunc fn x y) K Q)/\(g=false->@AP K (s.put dst .any))⟩⟩:=rfl
@[simp] theorem bF5 {x:DV}:LV.un (LV.d x)=(LV.d x):=rfl
@[simp] theorem bw8 {x:DV}:LV.tO (LV.d x)=True:=rfl
@[simp] theorem aT6 {x:DV}:LV.cells (LV.d x)=[(LV.d x)]:=rfl
@[simp] theorem bz0 {x:DV}:LV.one (LV.d x)=true:=rfl
@[simp] theorem bw1 {k off:Nat}:LV.un (LV.lp k off)=(LV.lp k off):=rfl
@[simp] theorem aZ4 {k off:Nat}:LV.tO (LV.lp k off)=True:=rfl
@[simp] theorem aH4 {k off:Nat}:LV.cells (LV.lp k off)=[(LV.lp k off)]:=rfl
@[simp] theorem bh3 {k off:Nat}:LV.one (LV.lp k off)=true:=rfl
@[simp] theorem bw3 {n off:Nat}:LV.un (LV.gp n off)=(LV.gp n off):=rfl
@[simp] theorem aZ6 {n off:Nat}:LV.tO (LV.gp n off)=True:=rfl
@[simp] theorem aH6 {n off:Nat}:LV.cells (LV.gp n off)=[(LV.gp n off)]:=rfl
@[simp] theorem bh5 {n off:Nat}:LV.one (LV.gp n off)=true:=rfl
@[simp] theorem bw7 {xs:List (List DV)} {es i off:Nat}:LV.un (LV.ep xs es i off)=(LV.ep xs es i off):=rfl
@[simp] theorem ba0 {xs:List (List DV)} {es i off:Nat}:LV.tO (LV.ep xs es i off)=True:=rfl
@[simp] theorem aI0 {xs:List (List DV)} {es i off:Nat}:LV.cells (LV.ep xs es i off)=[(LV.ep xs es i off)]:=rfl
@[simp] theorem bh9 {xs:List (List DV)} {es i off:Nat}:LV.one (LV.ep xs es i off)=true:=rfl
@[simp] theorem aY8 {n:Nat} {xs:List (List DV)}:LV.un (LV.lF n xs)=(LV.lF n xs):=rfl
@[simp] theorem aN4 {n:Nat} {xs:List (List DV)}:LV.tO (LV.lF n xs)=True:=rfl
@[simp] theorem am8 {n:Nat} {xs:List (List DV)}:LV.cells (LV.lF n xs)=[(LV.lF n xs)]:=rfl
@[simp] theorem aO4 {n:Nat} {xs:List (List DV)}:LV.one (LV.lF n xs)=true:=rfl
@[simp] theorem bw4 {n:Nat}:LV.un (LV.gm n)=(LV.gm n):=rfl
@[simp] theorem aZ7 {n:Nat}:LV.tO (LV.gm n)=True:=rfl
@[simp] theorem aH7 {n:Nat}:LV.cells (LV.gm n)=[(LV.gm n)]:=rfl
@[simp] theorem bh6 {n:Nat}:LV.one (LV.gm n)=true:=rfl
@[simp] theorem bv9 {n g sz i len:Nat}:LV.un (LV.vs n g sz i len)=(LV.vs n g sz i len):=rfl
@[simp] theorem aZ2 {n g sz i len:Nat}:LV.tO (LV.vs n g sz i len)=True:=rfl
@[simp] theorem aH2 {n g sz i len:Nat}:LV.cells (LV.vs n g sz i len)=[(LV.vs n g sz i len)]:=rfl
@[simp] theorem bh1 {n g sz i len:Nat}:LV.one (LV.vs n g sz i len)=true:=rfl
@[simp] theorem bw0 {n g o:Nat}:LV.un (LV.vp n g o)=(LV.vp n g o):=rfl
@[simp] theorem aZ3 {n g o:Nat}:LV.tO (LV.vp n g o)=True:=rfl
@[simp] theorem aH3 {n g o:Nat}:LV.cells (LV.vp n g o)=[(LV.vp n g o)]:=rfl
@[simp] theorem bh2 {n g o:Nat}:LV.one (LV.vp n g o)=true:=rfl
@[simp] theorem bv8 {n:Nat}:LV.un (LV.yl n)=(LV.yl n):=rfl
@[simp] theorem aZ1 {n:Nat}:LV.tO (LV.yl n)=True:=rfl
@[simp] theorem aH1 {n:Nat}:LV.cells (LV.yl n)=[(LV.yl n)]:=rfl
@[simp] theorem bh0 {n:Nat}:LV.one (LV.yl n)=true:=rfl
@[simp] theorem bw2 {cs:List LV} {off:Nat}:LV.un (LV.ip cs off)=(LV.ip cs off):=rfl
@[simp] theorem aZ5 {cs:List LV} {off:Nat}:LV.tO (LV.ip cs off)=True:=rfl
@[simp] theorem aH5 {cs:List LV} {off:Nat}:LV.cells (LV.ip cs off)=[(LV.ip cs off)]:=rfl
@[simp] theorem bh4 {cs:List LV} {off:Nat}:LV.one (LV.ip cs off)=true:=rfl
@[simp] theorem bw6 {f:Fn} {first cap:List LV}:LV.un (LV.fn f first cap)=(LV.fn f first cap):=rfl
@[simp] theorem aZ9 {f:Fn} {first cap:List LV}:LV.tO (LV.fn f first cap)=True:=rfl
@[simp] theorem aH9 {f:Fn} {first cap:List LV}:LV.cells (LV.fn f first cap)=[(LV.fn f first cap)]:=rfl
@[simp] theorem bh8 {f:Fn} {first cap:List LV}:LV.one (LV.fn f first cap)=true:=rfl
@[simp] theorem aZ0 {cs:List LV}:LV.un (LV.agg cs)=(LV.agg cs):=rfl
@[simp] theorem aN6 {cs:List LV}:LV.tO (LV.agg cs)=True:=rfl
@[simp] theorem an0 {cs:List LV}:LV.cells (LV.agg cs)=cs:=rfl
@[simp] theorem aO6 {cs:List LV}:LV.one (LV.agg cs)=false:=rfl
@[simp] theorem aY7 {vs:List LV}:LV.un (LV.dh vs)=(LV.dh vs):=rfl
@[simp] theorem aN3 {vs:List LV}:LV.tO (LV.dh vs)=True:=rfl
@[simp] theorem am7 {vs:List LV}:LV.cells (LV.dh vs)=[(LV.dh vs)]:=rfl
@[simp] theorem aO3 {vs:List LV}:LV.one (LV.dh vs)=false:=rfl
@[simp] theorem bw5 {g:Bool} {raw:LV}:LV.un (LV.gd g raw)=raw:=rfl
@[simp] theorem aZ8 {g:Bool} {raw:LV}:LV.tO (LV.gd g raw)=(g=true):=rfl
@[simp] theorem aH8 {g:Bool} {raw:LV}:LV.cells (LV.gd g raw)=[(LV.gd g raw)]:=rfl
@[simp] theorem bh7 {g:Bool} {raw:LV}:LV.one (LV.gd g raw)=false:=rfl
@[simp] theorem aY9 :LV.un (LV.any)=(LV.any):=rfl
@[simp] theorem aN5 :LV.tO (LV.any)=True:=rfl
@[simp] theorem am9 :LV.cells (LV.any)=[(LV.any)]:=rfl
@[simp] theorem aO5 :LV.one (LV.any)=false:=rfl
end
attribute [simp] oe S.frz zm ta fw Fo GH.del LV.sub qL LV.pW gT eR kO L6 bsV Rf oT oS GD af1 bV DG Dq mM rN zl Option.or ir gM gz cG sG cS S.get xF zJ S.arg S.aI S.kD S.put mg cE jc j7 cD LV.nb W5 Gt Gr unV bool oV kz dz LV.shift Iw places BR putAt tW rowsOf Ys tF sx TK.isAgg TK.isBool mJ gj Value.oneCell' lG gI keyOf Kk Oe rE rD mF fz zz
end Go.Aft
end
