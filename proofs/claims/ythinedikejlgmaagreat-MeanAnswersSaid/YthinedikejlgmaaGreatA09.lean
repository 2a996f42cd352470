import Derived.Test.YthinedikejlgmaaGreatA08
import Derived.RangeFuncLeaves
set_option linter.all false
section
namespace Go.Aft
def fK:Nat->List LV->Nat->LV
 |_,[]=>λ_=>.any
 |k,x::xs=>ew (fK (k+1) xs) k x
def qN(ty:TypeId->Option aS)(s:S):ResultVar->Option LV
 |.tmp t=>some (s.env t)
 |.cell a T=>
  match ty T with
  |none=>none
  |some d=>
   match s.env a with
   |.lp k off=>(s.L k).bind λcs=>dh d (cs.drop off)
   |.gp n off=>match s.H.obj n with
    |some (.box cs)=>dh d (cs.drop off)
    |_=>none
   |_=>none
def mh(ty:TypeId->Option aS)(s:S):List ResultVar->Option (List LV)
 |[]=>some []
 |r::rs=>(qN ty s r).bind λv=>(mh ty s rs).map λvs=>v::vs
def qO(ty:TypeId->Option aS)(s:S)(rs:List ResultVar):Option LV:=
 match rs with
 |[r]=>qN ty s r
 |rs=>(mh ty s rs).map .dx
mutual
def fz:LV->LV
 |.kQ _ xs=>.d (.sl xs)
 |.d (.k (.slice none 0 0))=>.d (.sl [])
 |.agg cs=>.agg (xV cs)
 |.dx cs=>.dx (xV cs)
 |x=>x
def xV:List LV->List LV
 |[]=>[]
 |x::xs=>fz x::xV xs
end
mutual
theorem Td{G:Gh}{nx:Nat}{lm:Nat->Option Nat}:∀(x:LV) (v:Value),LR G nx lm x v->LR G nx lm (fz x) v
 |.kQ n xs,v,h=>by unfold LR at h;rw[fz];unfold LR;exact h.2.1
 |.agg cs,v,h=>by unfold LR at h;rw[fz];unfold LR;obtain⟨vs,h1,h2⟩:=h;exact⟨vs,h1,w8 cs vs h2⟩
 |.dx cs,v,h=>by unfold LR at h;rw[fz];unfold LR;obtain⟨vs,h1,h2⟩:=h;exact⟨vs,h1,w8 cs vs h2⟩
 |.d x,v,h=>by
  unfold fz
  split
  ·rename_i e;cases e
  ·rename_i e;cases e;unfold LR DR at h|-;exact⟨none,0,0,h.1,by simp,by simp,by simp,.inl rfl⟩
  ·rename_i e;cases e
  ·rename_i e;cases e
  ·exact h
 |.lp k off,v,h=>by simpa[fz]using h
 |.gp m off,v,h=>by simpa[fz]using h
 |.ep xs es i off,v,h=>by simpa[fz]using h
 |.gm m,v,h=>by simpa[fz]using h
 |.vs _ _ _ _ _,v,h=>by simpa[fz]using h
 |.vp _ _ _,v,h=>by simpa[fz]using h
 |.yl _,v,h=>by simpa[fz]using h
 |.ip _ _,v,h=>by simpa[fz]using h
 |.fn f a b,v,h=>by simpa[fz]using h
 |.gd g raw,v,h=>by simpa[fz]using h
 |.any,v,h=>by simpa[fz]using h
theorem w8{G:Gh}{nx:Nat}{lm:Nat->Option Nat}:∀(xs:List LV) (vs:List Value),bE G nx lm xs vs->bE G nx lm (xV xs) vs
 |[],vs,h=>by simpa[xV]using h
 |x::xs,vs,h=>by
  unfold bE at h;unfold xV bE;obtain⟨v,r,h1,h2,h3⟩:=h;exact⟨v,r,h1,Td x v h2,w8 xs r h3⟩
end
inductive DM where
 |ret|dY (x:LV)|aa (x:LV)
def DMR(G:Gh)(nx:Nat):DM->FrameMode->Prop
 |.ret,u=>u=.returning
 |.dY x,u=>∃v,u=.panicking [{v:=v,recovered:=false}]/\LR G nx gP x v
 |.aa x,u=>∃v,u=.panicking [{v:=v,recovered:=true}]/\LR G nx gP x v
def Ew:DM->DM
 |.aa _=>.ret
 |m=>m
def mO(P:Program)(f:FuncId)(args:List LV)(H:GH)(m:DM)(R:DM->GH->Prop):Prop:=
 Enters P f/\∀G w vs u,MR G gP uF H w->kN G->bE G H.next gP args vs->DMR G H.next m u->
  CallsDIn Fence.wide 0 P f vs.toArray u w λe u' w'=>∃v m' H' G',e=.returned v/\R m' H'/\DMR G' H'.next m' u'/\MR G' gP uF H' w'/\kN G'/\Ext ⟨G,H,w⟩ G' H' w'
def eY(P:Program)(c:Cx)(rs:List ResultVar)(s:S)(H0:GH)(R:CE->GH->Prop):List AD->DM->GH->Prop
 |[],.ret,H=>∃r,qO c.ty {s with H:=H} rs=some r/\∃H',Drop H0 H H'/\(fz r).nb H'.next/\R (.ret (fz r)) H'
 |[],.dY x,H=>∃H',Drop H0 H H'/\x.nb H'.next/\R (.dY x) H'
 |[],.aa _,_=>False
 |.mark n::ds,m,H=>H.obj n=some .qm/\eY P c rs s H0 R ds m (H.del n)
 |.call f args cap::ds,m,H=>ct H.next (args++cap)/\mO P f (args++cap) H m λm' H'=>eY P c rs s H0 R ds (Ew m') H'
def Np(P:Program)(c:Cx)(rs:List ResultVar)(H0:GH)(R:CE->GH->Prop):AE->S->Prop
 |.normal,s|.ret,s=>eY P c rs s H0 R s.df .ret s.H
 |.dY x,s=>eY P c rs s H0 R s.df (.dY x) s.H
 |_,_=>False
def yL:List AD->GH->Prop
 |[],_=>True
 |.mark n::ds,H=>H.obj n=some .qm/\yL ds (H.del n)
 |_,_=>False
def sA:List AD->GH->GH
 |.mark n::ds,H=>sA ds (H.del n)
 |_,H=>H
def Jx(c:Cx)(rs:List ResultVar)(H0:GH)(v:LV):AE->S->Prop
 |.normal,s|.ret,s=>yL s.df s.H/\(qO c.ty {s with H:=sA s.df s.H} rs).map fz=some v/\v.nb H0.next/\H0.next<=s.H.next/\∀n,n<H0.next->(sA s.df s.H).obj n=H0.obj n
 |_,_=>False
section
variable {P:Program} {c:Cx} {E:sW} {s:S} {a:Act} {w:World}
theorem pK:∀(xs:List LV) (k t:Nat),fK k xs t=if k<=t then xs.getD (t-k) .any else .any
 |[],k,t=>by simp[fK]
 |x::xs,k,t=>by
  simp only[fK,ew];rw[pK xs (k+1) t];by_cases e:t=k
  ·subst e;simp
  ·rw[if_neg e];by_cases h:k<=t
   ·rw[if_pos (show k+1<=t by omega),if_pos h,show t-k=(t-(k+1))+1 from by omega];simp
   ·rw[if_neg (by omega),if_neg h]
theorem zC(cU:mT P c.ty){G:Gh}{lm:Nat->Option Nat}(hM:MR G lm s.L s.H w)(aK:∀t,LR G s.H.next lm (s.env t) (a.tmps.getD t undef)){r:ResultVar}{v:LV}(h:qN c.ty s r=some v):
  ∃v',((match r with|.tmp t=>pure (a.tmps.getD t undef)|.cell x t=>do loadVar t (<-asAddr (a.tmps.getD x undef))):Sem Value).run P w=.ok v' w/\LR G s.H.next lm v v':=by
 cases r with
 |tmp t=>simp[qN]at h;subst h;exact⟨_,rfl,aK t⟩
 |cell x T=>
  simp only[qN]at h;cases hT:c.ty T with
  |none=>rw[hT]at h;cases h
  |some d=>
   rw[hT]at h;simp only at h;have hx:=aK x
   split at h
   ·rename_i k off e;rw[e]at hx;unfold LR at hx;obtain⟨b,hb,hv⟩:=hx;cases hL:s.L k with
    |none=>rw[hL]at h;cases h
    |some cs=>
     rw[hL]at h;simp only[Option.bind_some]at h;obtain⟨b',vs,g1,g2,g3,g4⟩:=hM.loc k cs hL;have:b'=b:=by rw[g1]at hb;exact Option.some.inj hb
     subst this;obtain⟨v',q1,q2⟩:=fG (cU T d hT) (lJ g3 (off:=off)) (eF g4 off) h;exact⟨v',by simp[hv,asAddr,q1],q2⟩
   ·rename_i n off e;rw[e]at hx;unfold LR at hx
    split at h
    ·rename_i cs hL;obtain⟨_,g2,vs,g3,g4⟩:=hM.gX n _ hL;obtain⟨v',q1,q2⟩:=fG (cU T d hT) (lJ g3 (off:=off)) (eF g4 off) h;exact⟨v',by simp[hx.2,asAddr,q1],bA (Nat.le_refl _) (Gh.le_refl _ _) (λ_ _ e=>by cases e) _ _ q2⟩
    ·cases h
   ·cases h
theorem zD(cU:mT P c.ty){G:Gh}{lm:Nat->Option Nat}(hM:MR G lm s.L s.H w)(aK:∀t,LR G s.H.next lm (s.env t) (a.tmps.getD t undef)):∀{rs:List ResultVar} {vs:List LV},mh c.ty s rs=some vs->
  ∃us,(rs.mapM (λr:ResultVar=>(match r with|.tmp t=>pure (a.tmps.getD t undef)|.cell x t=>do loadVar t (<-asAddr (a.tmps.getD x undef)):Sem Value))).run P w=.ok us w/\bE G s.H.next lm vs us
 |[],vs,h=>by simp[mh]at h;subst h;exact⟨[],by simp,by simp[bE]⟩
 |r::rs,vs,h=>by
  simp only[mh]at h;cases hr:qN c.ty s r with
  |none=>rw[hr]at h;cases h
  |some v=>
   rw[hr]at h;cases Vr:mh c.ty s rs with
   |none=>rw[Vr]at h;cases h
   |some vs'=>
    rw[Vr]at h;simp at h;subst h;obtain⟨v',h1,h2⟩:=zC (P:=P) cU hM aK hr;obtain⟨us,h3,h4⟩:=zD cU hM aK Vr;refine⟨v'::us,?_,by unfold bE;exact⟨v',us,rfl,h2,h4⟩⟩
    rw[List.mapM_cons];simp only[Sem.run_bind,h1,Result.andThen_ok,h3];rfl
theorem CQ(cU:mT P c.ty){G:Gh}{lm:Nat->Option Nat}(hM:MR G lm s.L s.H w)(aK:∀t,LR G s.H.next lm (s.env t) (a.tmps.getD t undef)){fn:Func}{v:LV}(h:qO c.ty s fn.results.toList=some v):
  ∃v',(results fn a.tmps).run P w=.ok v' w/\LR G s.H.next lm v v':=by
 let g:ResultVar->Sem Value:=λr=>match r with|.tmp t=>pure (a.tmps.getD t undef)|.cell x t=>do loadVar t (<-asAddr (a.tmps.getD x undef))
 have hdef:results fn a.tmps=(fn.results.mapM g)>>=λvs=>(pure (if h:vs.size=1 then vs[0]else .tuple vs):Sem Value):=rfl
 have key:∀us:List Value,(fn.results.toList.mapM g).run P w=.ok us w->(results fn a.tmps).run P w=.ok (if h:us.toArray.size=1 then us.toArray[0]else .tuple us.toArray) w:=by
  intro us hus;rw[hdef,Array.mapM_eq_mapM_toList];simp only[Sem.run_bind,Sem.run_map,hus,Result.andThen_ok];rfl
 unfold qO at h
 split at h
 ·rename_i r e;obtain⟨v',h1,h2⟩:=zC (P:=P) cU hM aK h;refine⟨v',?_,h2⟩;have:=key [v'] (by
   rw[e,List.mapM_cons,List.mapM_nil];have yR:(g r).run P w=.ok v' w:=h1;simp only[Sem.run_bind,yR,Result.andThen_ok];rfl)
  rw[this];simp
 ·rename_i rs hne;simp only[Option.map_eq_some_iff]at h;obtain⟨vs,h1,rfl⟩:=h;obtain⟨us,h2,h3⟩:=zD (P:=P) cU hM aK h1;refine⟨.tuple us.toArray,?_,by unfold LR;exact⟨us,rfl,h3⟩⟩
  have hl:us.length=fn.results.toList.length:=by
   have e1:=bH h3;have e2:∀{rs:List ResultVar} {vs:List LV},mh c.ty s rs=some vs->vs.length=rs.length:=by
    intro rs
    induction rs with
    |nil=>intro vs h;simp[mh]at h;simp[<-h]
    |cons r rs ih=>
     intro vs h;simp only[mh]at h;cases hr:qN c.ty s r with
     |none=>rw[hr]at h;cases h
     |some v=>
      rw[hr]at h;cases Vr:mh c.ty s rs with
      |none=>rw[Vr]at h;cases h
      |some vs'=>rw[Vr]at h;simp at h;subst h;simp[ih Vr]
   rw[e1,e2 h1]
  rw[key us h2];rw[dif_neg];simp only[List.size_toArray];intro q;rw[q]at hl;obtain⟨r,hr⟩:=List.length_eq_one_iff.1 hl.symm;exact hne r hr
theorem aO{H0 H:GH}(h1:H0.next<=H.next)(h2:∀n,n<H0.next->H.obj n=H0.obj n)(h3:∀n,H0.next<=n->H0.obj n=none):Drop H0 H H0:=
 ⟨h1,Nat.le_refl _,λn hn=>(h2 n hn).symm,h3,λn o ho=>.inl ho⟩
theorem iy(hc:c.ok P){fn:Func}{G0:Gh}{H0:GH}{w0:World}(hM0:MR G0 gP uF H0 w0)(pO:kN G0){R:CE->GH->Prop}{s:S}{tmps:Array Value}{lm:Nat->Option Nat}:
  ∀(ds:List AD) (m:DM) (H:GH) (G:Gh) (w:World) (cs:List Deferred) (u:FrameMode),MR G lm s.L H w->Ext ⟨G0,H0,w0⟩ G H w->(∀t,LR G H.next lm (s.env t) (tmps.getD t undef))->FT G H.next ds cs->DMR G H.next m u->
   eY P c fn.results.toList s H0 R ds m H->LeavesInM Fence.wide 0 P fn tmps (Eh G0 H0 w0 R) cs u w
 |[],m,H,G,w,cs,u,hM,hx,aK,hd,hu,h=>by
  cases hd;have fin:∀(x:LV) (v:Value) (H':GH),Drop H0 H H'->x.nb H'.next->LR G H.next lm x v->MR (gj H'.next G) gP uF H' w/\kN (gj H'.next G)/\Ext ⟨G0,H0,w0⟩ (gj H'.next G) H' w/\LR (gj H'.next G) H'.next gP x v:=by
   intro x v H' hd hnb hv;have:=vI hM (E:=⟨G0,H0,w0⟩) (λn o ho=>(hM0.gX n o ho).2) pO hx hd
   exact⟨this.1,this.2.1,this.2.2,BU (jq _ _ hv hnb)⟩
  cases m with
  |ret=>
   cases hu;obtain⟨r,hr,H',hd,hnb,hR⟩:=h;obtain⟨v,h1,h2⟩:=CQ (P:=P) (s:={s with H:=H}) (a:=⟨tmps,[]⟩) hc.ty hM aK hr
   obtain⟨q1,q2,q3,q4⟩:=fin (fz r) v H' hd hnb (Td r v h2);exact⟨v,h1,.ret (fz r),H',_,hR,⟨v,rfl,q4⟩,q1,q2,q3⟩
  |dY x=>
   obtain⟨v,rfl,hv⟩:=hu;obtain⟨H',hd,hnb,hR⟩:=h;have hv':LR G H.next lm x v:=bA (Nat.le_refl _) (Gh.le_refl _ _) (λ_ _ e=>by cases e) _ _ hv
   obtain⟨q1,q2,q3,q4⟩:=fin x v H' hd hnb hv';exact⟨.dY x,H',_,hR,⟨v,rfl,q4⟩,q1,q2,q3⟩
  |aa x=>exact h.elim
 |.mark n::ds,m,H,G,w,cs,u,hM,hx,aK,hd,hu,h=>by
  obtain⟨d,r,rfl,⟨h1,rfl⟩,h2⟩:=hd;obtain⟨hn,h⟩:=h;obtain⟨q1,q2,q3⟩:=hM.gX n _ hn;have hlt:=eA q3;refine⟨?_,.inl ⟨G.nm n,eM w (G.nm n) (.deferred none),rfl,?_,?_⟩⟩
  ·cases m<;>first|(cases hu;simp;done)|(obtain⟨v,rfl,_⟩:=hu;simp)
  ·have ff:(setObj (G.nm n) (.deferred none)).run P w=.ok () (eM w (G.nm n) (.deferred none)):=by simp[setObj,Sem.run,q3,eM]
   have dD:(getObj (G.nm n)).run P w=.ok (.deferred (some [])) w:=by simp[getObj,Sem.run,q3]
   simp only[Instr.takeDeferred,Sem.run_bind,dD,Result.andThen_ok,ff];rfl
  ·exact iy hc hM0 pO ds m (H.del n) G _ r u (hM.Sy n hn _ q2 (by simp)) (hx.Sy n _ q2) aK h2 hu h
 |.call f args cap::ds,m,H,G,w,cs,u,hM,hx,aK,hd,hu,h=>by
  obtain⟨d,r,rfl,⟨xs,ys,rfl,h1,yR⟩,h2⟩:=hd;obtain⟨hnb,hE,h⟩:=h;refine⟨?_,.inr ⟨by simp[Fence.wide],.func f,ys.toArray,f,(xs++ys).toArray,rfl,?_,λ_ _=>trivial,?_⟩⟩
  ·cases m<;>first|(cases hu;simp;done)|(obtain⟨v,rfl,_⟩:=hu;simp)
  ·simp only[invoke];have:=hE (xs.toArray++ys.toArray) w;rw[this];simp
  ·obtain⟨hM2,hNL2⟩:=zb hM;have hall:=eu h1 yR;have IX:bE (gM G) H.next gP (args++cap) (xs++ys):=bW (Nat.le_refl _) (mM _ G) (λ_ _ e=>e) _ _ hall
   have hu2:DMR (gM G) H.next m u:=by
    cases m<;>first|exact hu|(obtain⟨v,e,hv⟩:=hu;exact⟨v,e,bA (Nat.le_refl _) (mM _ G) (λ_ _ e=>e) _ _ hv⟩)
   have gG:=h (gM G) w _ u hM2 hNL2 IX hu2;refine⟨gG.1,λc₀ cs hm hr=>?_⟩
   obtain⟨e,u',w',fr,⟨v,m',H',G',rfl,hR,Vo,yQ,hNL',hx'⟩,AS,hk,hf,xQ⟩:=gG.2 c₀ cs hm hr;refine⟨_,u',w',fr,?_,AS,hk,hf,xQ⟩;obtain⟨yP,PK,hle⟩:=zc hM hx yQ hNL' hx';have hb:=kK H'.next G G';refine iy hc hM0 pO ds (Ew m') H' _ w' r (settle u') yP PK (λt=>bA hx'.nx hle (λ_ _ e=>e) _ _ (aK t)) (ck hx'.nx hle _ _ h2) ?_ hR
   cases m' with
   |ret=>cases Vo;rfl
   |dY x=>obtain⟨v,rfl,hv⟩:=Vo;exact⟨v,rfl,bA (Nat.le_refl _) hb (λ_ _ e=>e) _ _ hv⟩
   |aa x=>obtain⟨v,rfl,hv⟩:=Vo;rfl
theorem vw{f:FuncId}{fn:Func}{rd:RD}{code:Code}{args:Array Value}{w:World}{R:Ending->World->Prop}(hf:P.funcs[f]?=some fn)(hb:fn.body=some code)(hrd:rd.tu f=true)
  (h:ze P rd code (bodyPostM Fence.wide 0 P fn R) {tmps:=args++Array.replicate (fn.ntmps-args.size) undef,defers:=[]} w):Calls P f args w R:=by
 simp only[RD.tu,Bool.and_eq_true,Option.isNone_iff_eq_none]at hrd;refine(callsIn_wide (n:=0)).1 ⟨trivial,λcs hr=>?_⟩
 let b:Frame:={(default:Frame)with fn:=f,kind:=.normal,roundOf:=none}
 have ul:Frame.enter P f args .normal=b.atR {tmps:=args++Array.replicate (fn.ntmps-args.size) undef,defers:=[]} [.code code]:=by
  simp[Frame.enter,Frame.atR,hf,hb,b]
 obtain⟨e,a',w',hq,fV⟩:=h b [] cs hrd.1.symm (λg hg=>by have:=hrd.2;rw[hg]at this;simpa using Eq.symm (by simpa using this))
 rw[<-ul]at fV;cases e with
 |normal=>
  obtain⟨e',w'',fr',hR,hs,hfn,hl⟩:=leaves_stepsInM a'.defers .returning w' {b.atR a' []with mode:=.returning} cs rfl rfl rfl hf rfl trivial hr hq
  exact⟨e',w'',fr',hR,ComesIn.of_steps (StepsIn.trans fV (.one (fenced_wide P _) (stepR_end rfl))) hs,hfn,hl⟩
 |ret=>
  obtain⟨todo,Rq⟩:=fV.1 rfl;obtain⟨e',w'',fr',hR,hs,hfn,hl⟩:=leaves_stepsInM a'.defers .returning w' {b.atR a' todo with mode:=.returning} cs rfl rfl rfl hf rfl trivial hr hq
  exact⟨e',w'',fr',hR,ComesIn.of_steps Rq hs,hfn,hl⟩
 |panic chain=>
  obtain⟨todo,Rq⟩:=fV;obtain⟨e',w'',fr',hR,hs,hfn,hl⟩:=leaves_stepsInM a'.defers (.panicking chain) w' {b.atR a' todo with mode:=.panicking chain} cs rfl rfl rfl hf rfl trivial hr hq
  exact⟨e',w'',fr',hR,ComesIn.of_steps Rq hs,hfn,hl⟩
 |exit id=>exact hq.elim
 |goto l=>exact hq.elim
 |outgrown=>exact⟨.outgrown,w',b,hq,fV.resolve_left (by simp[b]),rfl,trivial⟩
theorem jv.iA(hc:c.ok P){f:FuncId}{fn:Func}{code:Code}(hf:P.funcs[f]?=some fn)(hb:fn.body=some code){args:List LV}(hn:args.length<=fn.ntmps){rd:RD}(hrd:rd.tu f=true){H:GH}{R:CE->GH->Prop}
  (h:(∀n,H.next<=n->H.obj n=none)->eV P rd code ⟨fK 0 args,uF,H,fn.ntmps,[]⟩ (Np P c fn.results.toList H R)):jv P f args H R:=by
 intro G w vs hM pO hargs;have hnone:∀n,H.next<=n->H.obj n=none:=λn hn=>by
  cases ho:H.obj n with
  |none=>rfl
  |some o=>have:=(hM.gX n o ho).1;omega
 have hlen:=bH hargs;refine vw hf hb hrd (gx (h hnone ⟨G,H,w⟩ _ w ?_) ?_)
 ·refine⟨by simp;omega,G,gP,rfl,hM,Ext.refl G H w pO,λt=>?_,rfl⟩
  simp only;rw[pK,if_pos (Nat.zero_le _),Nat.sub_zero];by_cases ht:t<args.length
  ·have hx:args[t]?=some (args.getD t .any):=by simp[List.getD,List.getElem?_eq_getElem ht]
   obtain⟨v,h1,h2⟩:=j9 hargs t _ hx;have:(vs.toArray++Array.replicate (fn.ntmps-vs.toArray.size) undef).getD t undef=v:=by
    rw[Array.getD_eq_getD_getElem?,Array.getElem?_append_left (by simp;omega)]
    simp[h1]
   rw[this];exact h2
  ·have:args.getD t .any=.any:=by simp[List.getD,List.getElem?_eq_none (Nat.le_of_not_lt ht)]
   rw[this];simp[LR]
 ·rintro e a' w' ⟨ae,s',q,r⟩;obtain⟨g2,G',lm',g1,yQ,hx',xR,he⟩:=r;cases ae with
  |normal=>cases he;exact iy hc hM pO s'.df .ret s'.H G' w' _ _ yQ hx' xR g1 rfl q
  |ret=>cases he;exact iy hc hM pO s'.df .ret s'.H G' w' _ _ yQ hx' xR g1 rfl q
  |exit i=>exact q.elim
  |goto l=>exact q.elim
  |dY x=>
   obtain⟨v',rfl,hv⟩:=he;exact iy hc hM pO s'.df (.dY x) s'.H G' w' _ _ yQ hx' xR g1 ⟨v',rfl,hv⟩ q
theorem tv{rs:List ResultVar}{H0:GH}{R:CE->GH->Prop}:∀(ds:List AD) (m:DM) (H:GH),yL ds H->eY P c rs s H0 R [] m (sA ds H)->eY P c rs s H0 R ds m H
 |[],m,H,_,h=>h
 |.mark n::ds,m,H,hm,h=>⟨hm.1,tv ds m _ hm.2 h⟩
 |.call .. ::ds,m,H,hm,h=>hm.elim
theorem u7:∀(ds:List AD) (H:GH),(sA ds H).next=H.next
 |[],H=>rfl
 |.mark n::ds,H=>u7 ds (H.del n)
 |.call .. ::ds,H=>rfl
theorem aC.iA(hc:c.ok P){f:FuncId}{fn:Func}{code:Code}(hf:P.funcs[f]?=some fn)(hb:fn.body=some code)(he:Enters P f){args:List LV}(hn:args.length<=fn.ntmps){rd:RD}(hrd:rd.tu f=true){v:LV}
  (h:∀H:GH,eV P rd code ⟨fK 0 args,uF,H,fn.ntmps,[]⟩ (Jx c fn.results.toList H v)):aC P f args v:=by
 intro H;refine⟨he,jv.iA hc hf hb hn hrd λhnone=>(h H).mono λe s q=>?_⟩
 have key:Jx c fn.results.toList H v .ret s->eY P c fn.results.toList s H (λce H'=>ce=.ret v/\H'=H) s.df .ret s.H:=λq=>by
  obtain⟨r,h1,rfl⟩:=Option.map_eq_some_iff.1 q.2.1;exact tv _ _ _ q.1 ⟨r,h1,H,aO (by rw[u7];exact q.2.2.2.1) q.2.2.2.2 hnone,q.2.2.1,rfl,rfl⟩
 cases e with
 |normal=>exact key q
 |ret=>exact key q
 |exit i=>exact q.elim
 |goto l=>exact q.elim
 |dY x=>exact q.elim
end
end Go.Aft
end
section
namespace Go.Aft
def TK.okB:TK->TypeDesc->Bool
 |.agg fs,.struct f=>f.toList.map (λf=>(f.offset,f.type))==fs
 |.arr n e,.array m e'=>m==n&&e'==e
 |.sl e,.slice e'=>e'==e
 |.map k e,.map k' e'=>k'==k&&e'==e
 |.str,.string=>true
 |.int k,.int k'=>decide (k'=k)
 |.bool,.bool=>true
 |.ptr e,.pointer e'=>e'==e
 |.iface p,.interface ms=>p==ms.isEmpty
 |.func,.func ..=>true
 |.dx,.tuple _=>true
 |_,_=>false
theorem TK.bq{k:TK}{d:TypeDesc}(h:k.okB d=true):k.ok d:=by
 cases k<;>cases d<;>simp_all[TK.okB,TK.ok]
def vEq:Value->Value->Bool
 |.int k a,.int j b=>decide (k=j)&&a==b
 |.string a,.string b=>a.size==0&&b.size==0
 |.bool a,.bool b=>a==b
 |.slice none 0 0,.slice none 0 0=>true
 |.pointer none,.pointer none=>true
 |.map none,.map none=>true
 |.nilFunc,.nilFunc=>true
 |.nilIface,.nilIface=>true
 |_,_=>false
theorem vEq_eq{a b:Value}(h:vEq a b=true):a=b:=by
 unfold vEq at h
 split at h<;>simp_all
def NR:List Value->List Value->Bool
 |[],[]=>true
 |a::x,b::y=>vEq a b&&NR x y
 |_,_=>false
theorem Mo:∀{x y:List Value},NR x y=true->x=y
 |[],[],_=>rfl
 |a::x,b::y,h=>by
  simp only[NR,Bool.and_eq_true]at h;rw[vEq_eq h.1,Mo h.2]
 |[],_::_,h=>by simp[NR]at h
 |_::_,[],h=>by simp[NR]at h
def aS.chk(d:aS)(ti:TypeInfo)(u:TypeDesc):Bool:=
 d.k.okB u&&(ti.size==d.sz)&&(decide (ti.bytes<=4096)&&ti.bytes==d.bt)&&d.zero.all Value.oneCell'&&(d.zero.length==d.sz)&&
 match ti.zero with
 |none=>false
 |some z=>NR z.cells.toList d.zero&&(if d.k.isAgg then(match z with|.agg _=>true|_=>false)else z.oneCell')
theorem aS.bq{P:Program}{t:TypeId}{d:aS}{ti:TypeInfo}{u:TypeDesc}(h1:P.types[t]?=some ti)(h2:P.underlying t=some u)(h:d.chk ti u=true):d.ok P t:=by
 unfold aS.chk at h;cases hz:ti.zero with
 |none=>rw[hz]at h;simp at h
 |some z=>
  rw[hz]at h;simp only[Bool.and_eq_true,decide_eq_true_eq,beq_iff_eq,List.all_eq_true]at h;obtain⟨⟨⟨⟨⟨g1,g2⟩,g3,g3'⟩,g4⟩,g5⟩,g6,g7⟩:=h;have hi:P.info? t=some ti:=by
   unfold Tables.info?;rw[if_pos (Array.getElem?_eq_some_iff.1 h1).1];exact h1
  refine⟨⟨u,h2,TK.bq g1⟩,⟨ti,z,hi,g2,hz,Mo g6,g3,g3'⟩,g4,g5,λz' hz'=>?_⟩
  rw[hi]at hz';simp only[Option.map_some,Option.some.injEq,hz]at hz';subst hz';by_cases ha:d.k.isAgg=true
  ·rw[if_pos ha]at g7|-
   split at g7
   ·exact⟨_,rfl⟩
   ·cases g7
  ·rw[if_neg ha]at g7|-;exact g7
def bT(tab:List (Nat×aS))(t:TypeId):Option aS:=tab.lookup t
theorem Wa{P:Program}{tab:List (Nat×aS)}(h:∀p∈tab,p.2.ok P p.1):mT P (bT tab):=by
 intro t d hd;unfold bT at hd;have:(t,d)∈tab:=by
  induction tab with
  |nil=>simp at hd
  |cons p ps ih=>
   obtain⟨k,v⟩:=p;rw[List.lookup_cons]at hd;by_cases e:t==k
   ·rw[e]at hd;simp at hd;simp at e;subst e;subst hd;simp
   ·rw[show(t==k)=false from by simpa using e]at hd
    exact List.mem_cons_of_mem _ (ih (λp hp=>h p (List.mem_cons_of_mem _ hp)) hd)
 exact h _ this
theorem forall_nil{α:Type}{P:α->Prop}:∀p∈([]:List α),P p:=λp h=>by cases h
theorem forall_cons{α:Type}{P:α->Prop}{a:α}{l:List α}(h:P a)(t:∀p∈l,P p):∀p∈a::l,P p:=λp hp=>by
 rcases List.mem_cons.1 hp with rfl|hp
 ·exact h
 ·exact t p hp
class KT where
 k:S->Prop
class QT where
 q:AE->S->Prop
class CT where
 c:Code
class OT where
 l:List Oper
 rest:List Oper
class FA(α:Type) where
 f:α->Prop
class NT where
 n:Prop
def AP[K:KT](s:S):Prop:=K.k s
def xZ(dst:Option Nat)(nt:Nat):Prop:=match dst with|some t=>t<nt|none=>True
def RK(r:Option uL)(s:S)(dst:Option Nat)[K:KT]:Prop:=match r with|none=>False|some r=>r.pre/\AP ((s.jU dst r.jU).put dst r.v)
def BK(x:LV)[F:FA Bool]:Prop:=match x with|.d (.k (.bool g))=>F.f g|_=>False
def iU{α:Type}(x:Option α)[F:FA α]:Prop:=match x with|some g=>F.f g|_=>False
def GK(r:Option (Prop×LV))(g:Bool)(s:S)(dst:Option Nat)[K:KT][N:NT]:Prop:=match r with|some (pre,v)=>(g=true->pre)/\AP (s.put dst (.gd g v))|none=>N.n
def SPK(r:Option (Prop×LV))(s:S)(dst:Option Nat)[K:KT][N:NT]:Prop:=match r with|some (pre,v)=>pre/\AP (s.put dst v)|none=>N.n
def IK(x:LV)[N:NT]:Prop:=match x with|.d (.k (.iface _ _))=>N.n|_=>False
def TH[K:KT][Q:QT]:AE->S->Prop:=Gi K.k Q.q
def BL(i:Nat)[Q:QT]:AE->S->Prop:=Bz i Q.q
def EV(P:Program)(c:Cx)[x:CT](s:S)[Q:QT]:Prop:=VU P c x.c s Q.q
def AW(P:Program)(rd:RD)[x:CT](s:S)[Q:QT]:Prop:=eV P rd x.c s Q.q
def RN(P:Program)(c:Cx)[o:OT](s:S)[Q:QT]:Prop:=qq P c o.l.toArray o.rest s Q.q
def ST(P:Program)(c:Cx)(s:S)(dst:Option Nat)(op:Op)[K:KT][Q:QT]:Prop:=fN P c s dst op K.k Q.q
class FB where
 f:FuncId×List LV×List LV->Prop
 y:Nat->Prop
def CLK(x:LV)[F:FB]:Prop:=match cu x with
 |some p=>F.f p
 |none=>match x with
  |.yl n=>F.y n
  |_=>False
def EY(P:Program)(n:Nat)(args:List LV)(H:GH)(s:S)(dst:Option Nat)[K:KT][Q:QT]:Prop:=dX P n args H (UU K.k Q.q s dst)
def EC(P:Program)(f:FuncId)(args:List LV)(H:GH)(s:S)(dst:Option Nat)[K:KT][Q:QT]:Prop:=aF P f args H (UU K.k Q.q s dst)
def grdV(x:LV)(want:Bool):Option Bool:=match x with
 |.d (.k (.bool g))=>some (g==want)
 |.gd g0 (.d (.k (.bool g)))=>some (g0&&(g==want))
 |_=>none
def DA(j:Nat)[o:OT]:Option Nat:=(o.l[j]?).bind (·.dst)
def GD(d:Option Nat)(s:S)(want:Bool):Option Bool:=match d with|none=>none|some t=>grdV (s.env t) want
def OS(P:Program)(c:Cx)(dst:Option Nat)(op:Op)(g:Option (Nat×Bool))(s:S)[o:OT][K:KT][Q:QT]:Prop:=
 match g with
 |none=>
  match op with
  |.pick x a b=>@BK (s.arg x) ⟨λg=>s.aI x/\(g=true->s.aI a)/\(g=false->s.aI b)/\AP (s.put dst (mu g (s.arg a) (s.arg b)))⟩
  |op=>ST P c s dst op
 |some (j,want)=>@iU Bool (GD (DA j) s want) ⟨λg=>
   match op with
   |.pick x a b=>@BK (s.arg x) ⟨λh=>(g=true->s.aI x/\(h=true->s.aI a)/\(h=false->s.aI b))/\AP (s.put dst (.gd g (mu h (s.arg a) (s.arg b))))⟩
   |op=>@GK (cO c s dst op) g s dst K ⟨(g=true->ST P c s dst op)/\(g=false->AP (s.put dst .any))⟩⟩
section
variable {P:Program} {c:Cx} {s:S} {Q:QT} {K:KT} {N:NT} {dst:Option Nat}
@[simp] theorem AP_mk {env:Nat->LV} {L:Nat->Option (List LV)} {H:GH} {nt:Nat} {df:List AD}:@AP K ⟨env,L,H,nt,df⟩=K.k ⟨env,L,H,nt,df⟩:=rfl
@[simp] theorem dstOk_some {t nt:Nat}:xZ (some t) nt=(t < nt):=rfl
@[simp] theorem dstOk_none {nt:Nat}:xZ none nt=True:=rfl
@[simp] theorem nH {pre:Prop} {v:LV} {jU:Eff}:@RK (some ⟨pre,v,jU⟩) s dst K=(pre/\@AP K ((s.jU dst jU).put dst v)):=rfl
@[simp] theorem BK_mk {g:Bool} {F:FA Bool}:@BK (.d (.k (.bool g))) F=F.f g:=rfl
@[simp] theorem OPK_mk {α:Type} {g:α} {F:FA α}:@iU α (some g) F=F.f g:=rfl
@[simp] theorem GK_some {pre:Prop} {v:LV} {g:Bool}:@GK (some (pre,v)) g s dst K N=((g=true->pre)/\@AP K (s.put dst (.gd g v))):=rfl
@[simp] theorem GK_none {g:Bool}:@GK none g s dst K N=N.n:=rfl
@[simp] theorem SPK_some {pre:Prop} {v:LV}:@SPK (some (pre,v)) s dst K N=(pre/\@AP K (s.put dst v)):=rfl
@[simp] theorem SPK_none:@SPK none s dst K N=N.n:=rfl
@[simp] theorem IK_mk {T:TypeId} {v:Value}:@IK (.d (.k (.iface T v))) N=N.n:=rfl
@[simp] theorem TH_normal:@TH K Q .normal s=K.k s:=rfl
@[simp] theorem TH_exit {i:Nat}:@TH K Q (.exit i) s=Q.q (.exit i) s:=rfl
@[simp] theorem TH_goto {i:Nat}:@TH K Q (.goto i) s=Q.q (.goto i) s:=rfl
@[simp] theorem TH_ret:@TH K Q .ret s=Q.q .ret s:=rfl
@[simp] theorem TH_pan {x:LV}:@TH K Q (.dY x) s=Q.q (.dY x) s:=rfl
@[simp] theorem BL_normal {i:Nat}:@BL i Q .normal s=Q.q .normal s:=rfl
@[simp] theorem BL_same {i:Nat}:@BL i Q (.exit i) s=Q.q .normal s:=by simp [BL,Bz]
@[simp] theorem BL_exit {i j:Nat}:@BL i Q (.exit j) s=if j=i then Q.q .normal s else Q.q (.exit j) s:=rfl
@[simp] theorem BL_goto {i j:Nat}:@BL i Q (.goto j) s=Q.q (.goto j) s:=rfl
@[simp] theorem BL_ret {i:Nat}:@BL i Q .ret s=Q.q .ret s:=rfl
@[simp] theorem BL_pan {i:Nat} {x:LV}:@BL i Q (.dY x) s=Q.q (.dY x) s:=rfl
@[simp] theorem EV_skip:@EV P c ⟨.skip⟩ s Q=Q.q .normal s:=rfl
@[simp] theorem EV_label {l:Nat}:@EV P c ⟨.label l⟩ s Q=Q.q .normal s:=rfl
@[simp] theorem EV_ret:@EV P c ⟨.ret⟩ s Q=Q.q .ret s:=rfl
@[simp] theorem EV_exit {i:Nat}:@EV P c ⟨.exit i⟩ s Q=Q.q (.exit i) s:=rfl
@[simp] theorem EV_goto {i:Nat}:@EV P c ⟨.goto i⟩ s Q=Q.q (.goto i) s:=rfl
@[simp] theorem EV_seq {x y:Code}:@EV P c ⟨.seq x y⟩ s Q = @EV P c ⟨x⟩ s ⟨@TH ⟨fun s'=>@EV P c ⟨y⟩ s' Q⟩ Q⟩:=rfl
@[simp] theorem EV_block {i:Nat} {x:Code}:@EV P c ⟨.block i x⟩ s Q = @EV P c ⟨x⟩ s ⟨@BL i Q⟩:=rfl
@[simp] theorem EV_cond {o:Operand} {x y:Code}:@EV P c ⟨.cond o x y⟩ s Q = @BK (s.get o) ⟨fun g=>(g=true->@EV P c ⟨x⟩ s Q)/\(g=false->@EV P c ⟨y⟩ s Q)⟩:=by
 simp only[EV,VU,BK]
 split<;>simp_all
@[simp] theorem EV_region {i:Nat} {l:List Oper}:@EV P c ⟨.region i l.toArray false⟩ s Q = @RN P c ⟨l,l⟩ s Q:=rfl
@[simp] theorem EV_draw {i:Nat} {ops:Array Oper}:@EV P c ⟨.region i ops true⟩ s Q = @AW P c.rd ⟨.region i ops true⟩ s Q:=rfl
@[simp] theorem EV_loop {x:Code}:@EV P c ⟨.loop x⟩ s Q = @AW P c.rd ⟨.loop x⟩ s Q:=rfl
@[simp] theorem Wp {f:Operand} {ps:Array Tmp} {x y:Code}:@EV P c ⟨.rangeFunc f ps x y⟩ s Q = @AW P c.rd ⟨.rangeFunc f ps x y⟩ s Q:=rfl
@[simp] theorem EV_scope {x:Code}:@EV P c ⟨.scope x⟩ s Q = @AW P c.rd ⟨.scope x⟩ s Q:=rfl
variable {l rest:List Oper} {T:TypeId} {pos:String} {af:Array Edge} {g:Option (Nat×Bool)} {j:Nat} {want:Bool} {o:OT}
@[simp] theorem RN_nil:@RN P c ⟨l,[]⟩ s Q=Q.q .normal s:=rfl
theorem Th:GD (@DA j ⟨l,rest⟩) s want=guardOf l.toArray s j want:=by
 simp only[GD,DA,guardOf];simp only[List.getElem?_toArray];cases(l[j]?).bind (·.dst)<;>first|rfl|(simp only[grdV];rfl)
@[simp] theorem RN_cons {op:Op}:@RN P c ⟨l,⟨dst,op,T,pos,af,g⟩ :: rest⟩ s Q=(xZ dst s.nt/\@OS P c dst op g s ⟨l,[]⟩ ⟨fun s'=>@RN P c ⟨l,rest⟩ s' Q⟩ Q):=by
 cases g with
 |none=>cases op<;>first|rfl|(simp only[RN,qq,OS,BK,xZ,AP];congr 1)
 |some g=>
  obtain⟨j,want⟩:=g;simp only[RN,qq,OS,xZ,iU,Th]
  congr 1
  cases guardOf l.toArray s j want with
  |none=>rfl
  |some g=>cases op<;>first|rfl|(simp only[BK,GK,AP];congr 1)|(simp only[GK,AP,ST];generalize cO _ _ _ _=r;cases r<;>rfl)
@[simp] theorem DA_zero {op:Op}:@DA 0 ⟨⟨dst,op,T,pos,af,g⟩ :: l,rest⟩=dst:=rfl
@[simp] theorem DA_succ {o:Oper}:@DA (j+1) ⟨o :: l,rest⟩ = @DA j ⟨l,[]⟩:=by simp [DA]
@[simp] theorem OS_pick {x a b:Operand}:@OS P c dst (.pick x a b) none s o K Q = @BK (s.arg x) ⟨fun g=>s.aI x/\(g=true->s.aI a)/\(g=false->s.aI b)/\@AP K (s.put dst (mu g (s.arg a) (s.arg b)))⟩:=rfl
@[simp] theorem OS_gpick {x a b:Operand}:@OS P c dst (.pick x a b) (some (j,want)) s o K Q = @iU Bool (GD (@DA j o) s want) ⟨fun g=>@BK (s.arg x) ⟨fun h=>(g=true->s.aI x/\(h=true->s.aI a)/\(h=false->s.aI b))/\@AP K (s.put dst (.gd g (mu h (s.arg a) (s.arg b))))⟩⟩:=rfl
@[simp] theorem CLK_fn {f:FuncId} {first cap:List LV} {F:FB}:@CLK (.fn (.func f) first cap) F=F.f (f,first,cap):=rfl
@[simp] theorem CLK_yl {n:Nat} {F:FB}:@CLK (.yl n) F=F.y n:=rfl
@[simp] theorem ST_call {fo:Operand} {args:Array Operand} {tys:Array TypeId}:@ST P c s dst (.call ⟨.value fo,args,tys⟩) K Q =
  @CLK (s.arg fo) ⟨λp=>s.aI fo/\iL (args.toList.map s.aI)/\ct s.H.next (p.2.1++args.toList.map s.arg++p.2.2)/\
   @SPK (c.spec p.1 (p.2.1++args.toList.map s.arg++p.2.2)) s dst K ⟨@EC P p.1 (p.2.1++args.toList.map s.arg++p.2.2) s.H s dst K Q⟩,
   λn=>s.aI fo/\iL (args.toList.map s.aI)/\ct s.H.next (args.toList.map s.arg)/\@EY P n (args.toList.map s.arg) s.H s dst K Q⟩:=by
 simp only[ST,fN,CLK,SPK,AP,EC,EY];cases cu (s.arg fo)with
 |none=>rfl
 |some p=>
  obtain⟨f,first,cap⟩:=p
  simp only;cases c.spec f (first++args.toList.map s.arg++cap)<;>rfl
@[simp] theorem ST_defer {fo:Operand} {args:Array Operand} {tys:Array TypeId}:@ST P c s dst (.defer ⟨.value fo,args,tys⟩) K Q =
  @iU _ (cu (s.arg fo)) ⟨λp=>c.rd.r=none/\s.aI fo/\iL (args.toList.map s.aI)/\ct s.H.next (p.2.1++args.toList.map s.arg)/\ct s.H.next p.2.2/\@AP K (({s with df:=.call p.1 (p.2.1++args.toList.map s.arg) p.2.2::s.df}:S).put dst .any)⟩:=by
 simp only[ST,fN,iU,AP];cases cu (s.arg fo)with
 |none=>rfl
 |some p=>rfl
class FS where
 f:S->Prop
def FSK(x:Option S)[F:FS]:Prop:=match x with|some s=>F.f s|none=>False
@[simp] theorem FSK_some {F:FS}:@FSK (some s) F=F.f s:=rfl
@[simp] theorem ST_makeFunc {fn:Fn} {first cap:Array Operand}:@ST P c s dst (.makeFunc fn first cap) K Q = @FSK (nN c.bJ cap.toList s) ⟨fun s'=>@AP K (s'.put dst (.fn fn (first.toList.map s'.get) (cap.toList.map s'.get)))⟩:=by
 simp only[ST,fN,FSK];cases nN c.bJ cap.toList s<;>rfl
@[simp] theorem ST_range {T:TypeId} {x:Operand}:@ST P c s dst (.range T x) K Q =
  match c.ty T,s.arg x with
  |some ⟨.map _ _,_,_,_⟩,.gm m=>match s.H.obj m with
   |some (.map es)=>s.aI x/\@AP K (({s with H:=s.H.add (.iter m es.length [] es.length)}:S).put dst (.gp s.H.next 0))
   |_=>False
  |_,_=>False:=rfl
theorem ST.next{x:Operand}{n m since last:Nat}{seen:List Nat}{es:List (Value×LV)}(hx:s.arg x=.gp n 0)(hn:s.H.obj n=some (.iter m since seen last))(hm:s.H.obj m=some (.map es))(hp:s.aI x)(h1:since=es.length)(h2:last=es.length)(h3:es.all (λe=>oA e.1)=true)
  (MZ:∀i e,es[i]?=some e->i∉seen->@AP K (({s with H:=s.H.set n (.iter m since (seen++[i]) es.length)}:S).put dst (.dx [.d (.k (.bool true)),oB e.1,e.2])))
  (hend:(∀i,i<es.length->i∈seen)->@AP K (s.put dst (.dx [.d (.k (.bool false))]))):@ST P c s dst (.next x false) K Q:=by
 simp only[ST,fN,hx,hn,hm];exact⟨hp,h1,h2,h3,MZ,hend⟩
theorem ST.entry{x:Operand}{n m since last i:Nat}{seen:List Nat}{es:List (Value×LV)}{e:Value×LV}(hx:s.arg x=.gp n 0)(hn:s.H.obj n=some (.iter m since seen last))(hm:s.H.obj m=some (.map es))(hp:s.aI x)(h2:last=es.length)(h3:es.all (λe=>oA e.1)=true)(hi:seen.getLast?=some i)(he:es[i]?=some e)
  (hk:@AP K (s.put dst (.dx [oB e.1,e.2]))):@ST P c s dst (.entry x) K Q:=by
 simp only[ST,fN,hx,hn,hm];exact⟨hp,h2,h3,i,e,hi,he,hk⟩
@[simp] theorem ST_panic {x:Operand}:@ST P c s dst (.panic x) K Q=(s.aI x/\(s.arg x).nb s.H.next/\@IK (s.arg x) ⟨Q.q (.dY (s.arg x)) s⟩):=by
 simp only[ST,fN,IK]
 split<;>simp_all
def vj:Op->Bool
 |.call ⟨.value _,_,_⟩|.panic _|.range .. |.next .. |.entry .. |.defer .. |.makeFunc .. |.buildSlice ..=>false
 |_=>true
theorem dw{op:Op}(h:vj op=true):@ST P c s dst op K Q= @RK (bS c.ty c.bP c.bJ s dst op) s dst K:=by
 cases op with
 |call cl=>
  obtain⟨callee,args,tys⟩:=cl;cases callee<;>first|(simp[vj]at h;done)|(simp only[ST,fN];generalize bS _ _ _ _ _ _=r;cases r<;>rfl)
 |panic x=>simp[vj]at h
 |range T x=>simp[vj]at h
 |makeFunc f a b=>simp[vj]at h
 |next x b=>simp[vj]at h
 |entry x=>simp[vj]at h
 |defer x=>simp[vj]at h
 |buildSlice T l q=>simp[vj]at h
 |_=>simp only[ST,fN];generalize bS _ _ _ _ _ _=r;cases r<;>rfl
theorem EC.aJ{f:FuncId}{args:List LV}{v:LV}{H:GH}(h:aC P f args v)(hk:@AP K (({s with H:=H}:S).put dst v)):@EC P f args H s dst K Q:=
 (h H).mono λce H' ⟨e,eH⟩=>by subst e;subst eH;exact hk
theorem EV.sound{x:Code}{Q:AE->S->Prop}(hc:c.ok P)(h:@EV P c ⟨x⟩ s ⟨Q⟩):eV P c.rd x s Q:=lQ hc x s Q h
@[simp] theorem OS_move {x0:Operand}:@OS P c dst (.move x0) none s o K Q = @RK (bS c.ty c.bP c.bJ s dst (.move x0)) s dst K:=dw rfl
@[simp] theorem OSg_move {x0:Operand}:@OS P c dst (.move x0) (some (j,want)) s o K Q = @iU Bool (GD (@DA j o) s want) ⟨fun g=>@GK (cO c s dst (.move x0)) g s dst K ⟨(g=true->@RK (bS c.ty c.bP c.bJ s dst (.move x0)) s dst K)/\(g=false->@AP K (s.put dst .any))⟩⟩:=by
 rw[<-dw (P:=P) (Q:=Q) rfl];rfl
@[simp] theorem OS_assign {x0:Operand}:@OS P c dst (.assign x0) none s o K Q = @RK (bS c.ty c.bP c.bJ s dst (.assign x0)) s dst K:=dw rfl
@[simp] theorem OS_alloc {x0:TypeId}:@OS P c dst (.alloc x0) none s o K Q = @RK (bS c.ty c.bP c.bJ s dst (.alloc x0)) s dst K:=dw rfl
@[simp] theorem OS_box {x0:TypeId} {x1:Operand}:@OS P c dst (.box x0 x1) none s o K Q = @RK (bS c.ty c.bP c.bJ s dst (.box x0 x1)) s dst K:=dw rfl
@[simp] theorem OS_build {x0:TypeId} {x1:Array (Nat × Operand)}:@OS P c dst (.build x0 x1) none s o K Q = @RK (bS c.ty c.bP c.bJ s dst (.build x0 x1)) s dst K:=dw rfl
@[simp] theorem OSg_build {x0:TypeId} {x1:Array (Nat × Operand)}:@OS P c dst (.build x0 x1) (some (j,want)) s o K Q = @iU Bool (GD (@DA j o) s want) ⟨fun g=>@GK (cO c s dst (.build x0 x1)) g s dst K ⟨(g=true->@RK (bS c.ty c.bP c.bJ s dst (.build x0 x1)) s dst K)/\(g=false->@AP K (s.put dst .any))⟩⟩:=by
 rw[<-dw (P:=P) (Q:=Q) rfl];rfl
@[simp] theorem TI {x0:TypeId} {x1:Nat} {x2:Array (Nat × Operand)}:@OS P c dst (.buildSlice x0 x1 x2) none s o K Q = @RK ((bsV c.ty c.bJ s dst x0 x1 x2).or (bS c.ty c.bP c.bJ s dst (.buildSlice x0 x1 x2))) s dst K:=by
 simp only[OS,ST,fN,RK,AP];cases(bsV c.ty c.bJ s dst x0 x1 x2).or (bS c.ty c.bP c.bJ s dst (.buildSlice x0 x1 x2))<;>rfl
@[simp] theorem OS_insert {x0:TypeId} {x1:Operand} {x2:Operand} {x3:Operand}:@OS P c dst (.insert x0 x1 x2 x3) none s o K Q = @RK (bS c.ty c.bP c.bJ s dst (.insert x0 x1 x2 x3)) s dst K:=dw rfl
@[simp] theorem OS_load {x0:TypeId} {x1:Operand}:@OS P c dst (.load x0 x1) none s o K Q = @RK (bS c.ty c.bP c.bJ s dst (.load x0 x1)) s dst K:=dw rfl
@[simp] theorem OSg_load {x0:TypeId} {x1:Operand}:@OS P c dst (.load x0 x1) (some (j,want)) s o K Q = @iU Bool (GD (@DA j o) s want) ⟨fun g=>@GK (cO c s dst (.load x0 x1)) g s dst K ⟨(g=true->@RK (bS c.ty c.bP c.bJ s dst (.load x0 x1)) s dst K)/\(g=false->@AP K (s.put dst .any))⟩⟩:=by
 rw[<-dw (P:=P) (Q:=Q) rfl];rfl
@[simp] theorem OS_store {x0:TypeId} {x1:Operand} {x2:Operand}:@OS P c dst (.store x0 x1 x2) none s o K Q = @RK (bS c.ty c.bP c.bJ s dst (.store x0 x1 x2)) s dst K:=dw rfl
@[simp] theorem OS_nilCheck {x0:Operand}:@OS P c dst (.nilCheck x0) none s o K Q = @RK (bS c.ty c.bP c.bJ s dst (.nilCheck x0)) s dst K:=dw rfl
@[simp] theorem Wg {x0:Operand}:@OS P c dst (.nilCheck x0) (some (j,want)) s o K Q = @iU Bool (GD (@DA j o) s want) ⟨fun g=>@GK (cO c s dst (.nilCheck x0)) g s dst K ⟨(g=true->@RK (bS c.ty c.bP c.bJ s dst (.nilCheck x0)) s dst K)/\(g=false->@AP K (s.put dst .any))⟩⟩:=by
 rw[<-dw (P:=P) (Q:=Q) rfl];rfl
@[simp] theorem OS_binOp {x0:BinOp} {x1:TypeId} {x2:Operand} {x3:Operand} {x4:TypeId}:@OS P c dst (.binOp x0 x1 x2 x3 x4) none s o K Q = @RK (bS c.ty c.bP c.bJ s dst (.binOp x0 x1 x2 x3 x4)) s dst K:=dw rfl
@[simp] theorem OSg_binOp {x0:BinOp} {x1:TypeId} {x2:Operand} {x3:Operand} {x4:TypeId}:@OS P c dst (.binOp x0 x1 x2 x3 x4) (some (j,want)) s o K Q = @iU Bool (GD (@DA j o) s want) ⟨fun g=>@GK (cO c s dst (.binOp x0 x1 x2 x3 x4)) g s dst K ⟨(g=true->@RK (bS c.ty c.bP c.bJ s dst (.binOp x0 x1 x2 x3 x4)) s dst K)/\(g=false->@AP K (s.put dst .any))⟩⟩:=by
 rw[<-dw (P:=P) (Q:=Q) rfl];rfl
@[simp] theorem OS_unOp {x0:UnOp} {x1:TypeId} {x2:Operand}:@OS P c dst (.unOp x0 x1 x2) none s o K Q = @RK (bS c.ty c.bP c.bJ s dst (.unOp x0 x1 x2)) s dst K:=dw rfl
@[simp] theorem OSg_unOp {x0:UnOp} {x1:TypeId} {x2:Operand}:@OS P c dst (.unOp x0 x1 x2) (some (j,want)) s o K Q = @iU Bool (GD (@DA j o) s want) ⟨fun g=>@GK (cO c s dst (.unOp x0 x1 x2)) g s dst K ⟨(g=true->@RK (bS c.ty c.bP c.bJ s dst (.unOp x0 x1 x2)) s dst K)/\(g=false->@AP K (s.put dst .any))⟩⟩:=by
 rw[<-dw (P:=P) (Q:=Q) rfl];rfl
@[simp] theorem OS_convert {x0:TypeId} {x1:TypeId} {x2:Operand}:@OS P c dst (.convert x0 x1 x2) none s o K Q = @RK (bS c.ty c.bP c.bJ s dst (.convert x0 x1 x2)) s dst K:=dw rfl
@[simp] theorem PD {x0:TypeId} {x1:Operand}:@OS P c dst (.makeInterface x0 x1) none s o K Q = @RK (bS c.ty c.bP c.bJ s dst (.makeInterface x0 x1)) s dst K:=dw rfl
@[simp] theorem OS_makeMap {x0:TypeId} {x1:Option Operand}:@OS P c dst (.makeMap x0 x1) none s o K Q = @RK (bS c.ty c.bP c.bJ s dst (.makeMap x0 x1)) s dst K:=dw rfl
@[simp] theorem Wj {x0:TypeId} {x1:Operand} {x2:Operand}:@OS P c dst (.makeSlice x0 x1 x2) none s o K Q = @RK (bS c.ty c.bP c.bJ s dst (.makeSlice x0 x1 x2)) s dst K:=dw rfl
@[simp] theorem OS_slice {x0:TypeId} {x1:Operand} {x2:Option Operand} {x3:Option Operand} {x4:Option Operand}:@OS P c dst (.slice x0 x1 x2 x3 x4) none s o K Q = @RK (bS c.ty c.bP c.bJ s dst (.slice x0 x1 x2 x3 x4)) s dst K:=dw rfl
@[simp] theorem Wl {x0:TypeId} {x1:Operand} {x2:Nat}:@OS P c dst (.fieldAddr x0 x1 x2) none s o K Q = @RK (bS c.ty c.bP c.bJ s dst (.fieldAddr x0 x1 x2)) s dst K:=dw rfl
@[simp] theorem TF {x0:TypeId} {x1:Operand} {x2:Nat}:@OS P c dst (.fieldAddr x0 x1 x2) (some (j,want)) s o K Q = @iU Bool (GD (@DA j o) s want) ⟨fun g=>@GK (cO c s dst (.fieldAddr x0 x1 x2)) g s dst K ⟨(g=true->@RK (bS c.ty c.bP c.bJ s dst (.fieldAddr x0 x1 x2)) s dst K)/\(g=false->@AP K (s.put dst .any))⟩⟩:=by
 rw[<-dw (P:=P) (Q:=Q) rfl];rfl
@[simp] theorem Wk {x0:TypeId} {x1:Operand} {x2:Operand}:@OS P c dst (.indexAddr x0 x1 x2) none s o K Q = @RK (bS c.ty c.bP c.bJ s dst (.indexAddr x0 x1 x2)) s dst K:=dw rfl
@[simp] theorem TE {x0:TypeId} {x1:Operand} {x2:Operand}:@OS P c dst (.indexAddr x0 x1 x2) (some (j,want)) s o K Q = @iU Bool (GD (@DA j o) s want) ⟨fun g=>@GK (cO c s dst (.indexAddr x0 x1 x2)) g s dst K ⟨(g=true->@RK (bS c.ty c.bP c.bJ s dst (.indexAddr x0 x1 x2)) s dst K)/\(g=false->@AP K (s.put dst .any))⟩⟩:=by
 rw[<-dw (P:=P) (Q:=Q) rfl];rfl
@[simp] theorem OS_index {x0:TypeId} {x1:Operand} {x2:Operand}:@OS P c dst (.index x0 x1 x2) none s o K Q = @RK (bS c.ty c.bP c.bJ s dst (.index x0 x1 x2)) s dst K:=dw rfl
@[simp] theorem OSg_index {x0:TypeId} {x1:Operand} {x2:Operand}:@OS P c dst (.index x0 x1 x2) (some (j,want)) s o K Q = @iU Bool (GD (@DA j o) s want) ⟨fun g=>@GK (cO c s dst (.index x0 x1 x2)) g s dst K ⟨(g=true->@RK (bS c.ty c.bP c.bJ s dst (.index x0 x1 x2)) s dst K)/\(g=false->@AP K (s.put dst .any))⟩⟩:=by
 rw[<-dw (P:=P) (Q:=Q) rfl];rfl
@[simp] theorem OS_lookup {x0:TypeId} {x1:Operand} {x2:Operand} {x3:Bool}:@OS P c dst (.lookup x0 x1 x2 x3) none s o K Q = @RK (bS c.ty c.bP c.bJ s dst (.lookup x0 x1 x2 x3)) s dst K:=dw rfl
@[simp] theorem OSg_lookup {x0:TypeId} {x1:Operand} {x2:Operand} {x3:Bool}:@OS P c dst (.lookup x0 x1 x2 x3) (some (j,want)) s o K Q = @iU Bool (GD (@DA j o) s want) ⟨fun g=>@GK (cO c s dst (.lookup x0 x1 x2 x3)) g s dst K ⟨(g=true->@RK (bS c.ty c.bP c.bJ s dst (.lookup x0 x1 x2 x3)) s dst K)/\(g=false->@AP K (s.put dst .any))⟩⟩:=by
 rw[<-dw (P:=P) (Q:=Q) rfl];rfl
@[simp] theorem Wi {x0:TypeId} {x1:Operand} {x2:Operand} {x3:Operand}:@OS P c dst (.mapUpdate x0 x1 x2 x3) none s o K Q = @RK (bS c.ty c.bP c.bJ s dst (.mapUpdate x0 x1 x2 x3)) s dst K:=dw rfl
@[simp] theorem TG {x0:Operand} {x1:TypeId} {x2:TypeId} {x3:Bool}:@OS P c dst (.typeAssert x0 x1 x2 x3) none s o K Q = @RK (bS c.ty c.bP c.bJ s dst (.typeAssert x0 x1 x2 x3)) s dst K:=dw rfl
@[simp] theorem OS_extract {x0:Operand} {x1:Nat}:@OS P c dst (.extract x0 x1) none s o K Q = @RK (bS c.ty c.bP c.bJ s dst (.extract x0 x1)) s dst K:=dw rfl
def eE(c:Cx)(x:Array Operand)(y:Array TypeId)(s:S)(dst:Option Nat)[K:KT]:Prop:=RK (bS c.ty c.bP c.bJ s dst (.call ⟨.builtin .append,x,y⟩)) s dst
@[simp] theorem OS_append {x:Array Operand} {y:Array TypeId}:@OS P c dst (.call ⟨.builtin .append,x,y⟩) none s o K Q = @eE c x y s dst K:=dw rfl
@[simp] theorem OS_blen {x:Array Operand} {y:Array TypeId}:@OS P c dst (.call ⟨.builtin .len,x,y⟩) none s o K Q = @RK (bS c.ty c.bP c.bJ s dst (.call ⟨.builtin .len,x,y⟩)) s dst K:=dw rfl
@[simp] theorem OS_bcap {x:Array Operand} {y:Array TypeId}:@OS P c dst (.call ⟨.builtin .cap,x,y⟩) none s o K Q = @RK (bS c.ty c.bP c.bJ s dst (.call ⟨.builtin .cap,x,y⟩)) s dst K:=dw rfl
@[simp] theorem OS_bmin {x:Array Operand} {y:Array TypeId}:@OS P c dst (.call ⟨.builtin .min,x,y⟩) none s o K Q = @RK (bS c.ty c.bP c.bJ s dst (.call ⟨.builtin .min,x,y⟩)) s dst K:=dw rfl
@[simp] theorem OS_bmax {x:Array Operand} {y:Array TypeId}:@OS P c dst (.call ⟨.builtin .max,x,y⟩) none s o K Q = @RK (bS c.ty c.bP c.bJ s dst (.call ⟨.builtin .max,x,y⟩)) s dst K:=dw rfl
@[simp] theorem OSg_builtin {b:Builtin} {x:Array Operand} {y:Array TypeId}:@OS P c dst (.call ⟨.builtin b,x,y⟩) (some (j,want)) s o K Q = @iU Bool (GD (@DA j o) s want) ⟨fun g=>@GK (cO c s dst (.call ⟨.builtin b,x,y⟩)) g s dst K ⟨(g=true->@RK (bS c.ty c.bP c.bJ s dst (.call ⟨.builtin b,x,y⟩)) s dst K)/\(g=false->@AP K (s.put dst .any))⟩⟩:=by
 rw[<-dw (P:=P) (Q:=Q) rfl];rfl
@[simp] theorem OS_call {fo:Operand} {x:Array Operand} {y:Array TypeId}:@OS P c dst (.call ⟨.value fo,x,y⟩) none s o K Q = @ST P c s dst (.call ⟨.value fo,x,y⟩) K Q:=rfl
@[simp] theorem OSg_call {fo:Operand} {x:Array Operand} {y:Array TypeId}:@OS P c dst (.call ⟨.value fo,x,y⟩) (some (j,want)) s o K Q = @iU Bool (GD (@DA j o) s want) ⟨fun g=>@GK (cO c s dst (.call ⟨.value fo,x,y⟩)) g s dst K ⟨(g=true->@ST P c s dst (.call ⟨.value fo,x,y⟩) K Q)/\(g=false->@AP K (s.put dst .any))⟩⟩:=rfl
@[simp] theorem OS_panic {x:Operand}:@OS P c dst (.panic x) none s o K Q = @ST P c s dst (.panic x) K Q:=rfl
@[simp] theorem OSg_panic {x:Operand}:@OS P c dst (.panic x) (some (j,want)) s o K Q = @iU Bool (GD (@DA j o) s want) ⟨fun g=>@GK (cO c s dst (.panic x)) g s dst K ⟨(g=true->@ST P c s dst (.panic x) K Q)/\(g=false->@AP K (s.put dst .any))⟩⟩:=rfl
@[simp] theorem OS_range {T:TypeId} {x:Operand}:@OS P c dst (.range T x) none s o K Q = @ST P c s dst (.range T x) K Q:=rfl
@[simp] theorem OSg_range {T:TypeId} {x:Operand}:@OS P c dst (.range T x) (some (j,want)) s o K Q = @iU Bool (GD (@DA j o) s want) ⟨fun g=>@GK (cO c s dst (.range T x)) g s dst K ⟨(g=true->@ST P c s dst (.range T x) K Q)/\(g=false->@AP K (s.put dst .any))⟩⟩:=rfl
@[simp] theorem OS_next {x:Operand} {b:Bool}:@OS P c dst (.next x b) none s o K Q = @ST P c s dst (.next x b) K Q:=rfl
@[simp] theorem OSg_next {x:Operand} {b:Bool}:@OS P c dst (.next x b) (some (j,want)) s o K Q = @iU Bool (GD (@DA j o) s want) ⟨fun g=>@GK (cO c s dst (.next x b)) g s dst K ⟨(g=true->@ST P c s dst (.next x b) K Q)/\(g=false->@AP K (s.put dst .any))⟩⟩:=rfl
@[simp] theorem OS_entry {x:Operand}:@OS P c dst (.entry x) none s o K Q = @ST P c s dst (.entry x) K Q:=rfl
@[simp] theorem OSg_entry {x:Operand}:@OS P c dst (.entry x) (some (j,want)) s o K Q = @iU Bool (GD (@DA j o) s want) ⟨fun g=>@GK (cO c s dst (.entry x)) g s dst K ⟨(g=true->@ST P c s dst (.entry x) K Q)/\(g=false->@AP K (s.put dst .any))⟩⟩:=rfl
@[simp] theorem OS_defer {x:Call}:@OS P c dst (.defer x) none s o K Q = @ST P c s dst (.defer x) K Q:=rfl
@[simp] theorem OSg_defer {x:Call}:@OS P c dst (.defer x) (some (j,want)) s o K Q = @iU Bool (GD (@DA j o) s want) ⟨fun g=>@GK (cO c s dst (.defer x)) g s dst K ⟨(g=true->@ST P c s dst (.defer x) K Q)/\(g=false->@AP K (s.put dst .any))⟩⟩:=rfl
@[simp] theorem OS_makeFunc {fn:Fn} {x y:Array Operand}:@OS P c dst (.makeFunc fn x y) none s o K Q = @ST P c s dst (.makeFunc fn x y) K Q:=rfl
@[simp] theorem Wh {fn:Fn} {x y:Array Operand}:@OS P c dst (.makeFunc fn x y) (some (j,want)) s o K Q = @iU Bool (GD (@DA j o) s want) ⟨fun g=>@GK (cO c s dst (.makeFunc fn x y)) g s dst K ⟨(g=true->@ST P c s dst (.makeFunc fn x y) K Q)/\(g=false->@AP K (s.put dst .any))⟩⟩:=rfl
@[simp] theorem un_d {x:DV}:LV.un (LV.d x)=(LV.d x):=rfl
@[simp] theorem unP_d {x:DV}:LV.tL (LV.d x)=True:=rfl
@[simp] theorem cells_d {x:DV}:LV.cells (LV.d x)=[(LV.d x)]:=rfl
@[simp] theorem one_d {x:DV}:LV.one (LV.d x)=true:=rfl
@[simp] theorem un_lp {k off:Nat}:LV.un (LV.lp k off)=(LV.lp k off):=rfl
@[simp] theorem unP_lp {k off:Nat}:LV.tL (LV.lp k off)=True:=rfl
@[simp] theorem cells_lp {k off:Nat}:LV.cells (LV.lp k off)=[(LV.lp k off)]:=rfl
@[simp] theorem one_lp {k off:Nat}:LV.one (LV.lp k off)=true:=rfl
@[simp] theorem un_gp {n off:Nat}:LV.un (LV.gp n off)=(LV.gp n off):=rfl
@[simp] theorem unP_gp {n off:Nat}:LV.tL (LV.gp n off)=True:=rfl
@[simp] theorem cells_gp {n off:Nat}:LV.cells (LV.gp n off)=[(LV.gp n off)]:=rfl
@[simp] theorem one_gp {n off:Nat}:LV.one (LV.gp n off)=true:=rfl
@[simp] theorem un_ep {xs:List (List DV)} {es i off:Nat}:LV.un (LV.ep xs es i off)=(LV.ep xs es i off):=rfl
@[simp] theorem unP_ep {xs:List (List DV)} {es i off:Nat}:LV.tL (LV.ep xs es i off)=True:=rfl
@[simp] theorem cells_ep {xs:List (List DV)} {es i off:Nat}:LV.cells (LV.ep xs es i off)=[(LV.ep xs es i off)]:=rfl
@[simp] theorem one_ep {xs:List (List DV)} {es i off:Nat}:LV.one (LV.ep xs es i off)=true:=rfl
@[simp] theorem un_osl {n:Nat} {xs:List (List DV)}:LV.un (LV.kQ n xs)=(LV.kQ n xs):=rfl
@[simp] theorem unP_osl {n:Nat} {xs:List (List DV)}:LV.tL (LV.kQ n xs)=True:=rfl
@[simp] theorem cells_osl {n:Nat} {xs:List (List DV)}:LV.cells (LV.kQ n xs)=[(LV.kQ n xs)]:=rfl
@[simp] theorem one_osl {n:Nat} {xs:List (List DV)}:LV.one (LV.kQ n xs)=true:=rfl
@[simp] theorem un_gm {n:Nat}:LV.un (LV.gm n)=(LV.gm n):=rfl
@[simp] theorem unP_gm {n:Nat}:LV.tL (LV.gm n)=True:=rfl
@[simp] theorem cells_gm {n:Nat}:LV.cells (LV.gm n)=[(LV.gm n)]:=rfl
@[simp] theorem one_gm {n:Nat}:LV.one (LV.gm n)=true:=rfl
@[simp] theorem un_vs {n g sz i len:Nat}:LV.un (LV.vs n g sz i len)=(LV.vs n g sz i len):=rfl
@[simp] theorem unP_vs {n g sz i len:Nat}:LV.tL (LV.vs n g sz i len)=True:=rfl
@[simp] theorem cells_vs {n g sz i len:Nat}:LV.cells (LV.vs n g sz i len)=[(LV.vs n g sz i len)]:=rfl
@[simp] theorem one_vs {n g sz i len:Nat}:LV.one (LV.vs n g sz i len)=true:=rfl
@[simp] theorem un_vp {n g o:Nat}:LV.un (LV.vp n g o)=(LV.vp n g o):=rfl
@[simp] theorem unP_vp {n g o:Nat}:LV.tL (LV.vp n g o)=True:=rfl
@[simp] theorem cells_vp {n g o:Nat}:LV.cells (LV.vp n g o)=[(LV.vp n g o)]:=rfl
@[simp] theorem one_vp {n g o:Nat}:LV.one (LV.vp n g o)=true:=rfl
@[simp] theorem un_yl {n:Nat}:LV.un (LV.yl n)=(LV.yl n):=rfl
@[simp] theorem unP_yl {n:Nat}:LV.tL (LV.yl n)=True:=rfl
@[simp] theorem cells_yl {n:Nat}:LV.cells (LV.yl n)=[(LV.yl n)]:=rfl
@[simp] theorem one_yl {n:Nat}:LV.one (LV.yl n)=true:=rfl
@[simp] theorem un_ip {cs:List LV} {off:Nat}:LV.un (LV.ip cs off)=(LV.ip cs off):=rfl
@[simp] theorem unP_ip {cs:List LV} {off:Nat}:LV.tL (LV.ip cs off)=True:=rfl
@[simp] theorem cells_ip {cs:List LV} {off:Nat}:LV.cells (LV.ip cs off)=[(LV.ip cs off)]:=rfl
@[simp] theorem one_ip {cs:List LV} {off:Nat}:LV.one (LV.ip cs off)=true:=rfl
@[simp] theorem un_fn {f:Fn} {first cap:List LV}:LV.un (LV.fn f first cap)=(LV.fn f first cap):=rfl
@[simp] theorem unP_fn {f:Fn} {first cap:List LV}:LV.tL (LV.fn f first cap)=True:=rfl
@[simp] theorem cells_fn {f:Fn} {first cap:List LV}:LV.cells (LV.fn f first cap)=[(LV.fn f first cap)]:=rfl
@[simp] theorem one_fn {f:Fn} {first cap:List LV}:LV.one (LV.fn f first cap)=true:=rfl
@[simp] theorem un_agg {cs:List LV}:LV.un (LV.agg cs)=(LV.agg cs):=rfl
@[simp] theorem unP_agg {cs:List LV}:LV.tL (LV.agg cs)=True:=rfl
@[simp] theorem cells_agg {cs:List LV}:LV.cells (LV.agg cs)=cs:=rfl
@[simp] theorem one_agg {cs:List LV}:LV.one (LV.agg cs)=false:=rfl
@[simp] theorem un_tup {vs:List LV}:LV.un (LV.dx vs)=(LV.dx vs):=rfl
@[simp] theorem unP_tup {vs:List LV}:LV.tL (LV.dx vs)=True:=rfl
@[simp] theorem cells_tup {vs:List LV}:LV.cells (LV.dx vs)=[(LV.dx vs)]:=rfl
@[simp] theorem one_tup {vs:List LV}:LV.one (LV.dx vs)=false:=rfl
@[simp] theorem un_gd {g:Bool} {raw:LV}:LV.un (LV.gd g raw)=raw:=rfl
@[simp] theorem unP_gd {g:Bool} {raw:LV}:LV.tL (LV.gd g raw)=(g=true):=rfl
@[simp] theorem cells_gd {g:Bool} {raw:LV}:LV.cells (LV.gd g raw)=[(LV.gd g raw)]:=rfl
@[simp] theorem one_gd {g:Bool} {raw:LV}:LV.one (LV.gd g raw)=false:=rfl
@[simp] theorem un_any :LV.un (LV.any)=(LV.any):=rfl
@[simp] theorem unP_any :LV.tL (LV.any)=True:=rfl
@[simp] theorem cells_any :LV.cells (LV.any)=[(LV.any)]:=rfl
@[simp] theorem one_any :LV.one (LV.any)=false:=rfl
end
attribute [simp] nN S.frz yL sA eY Ew GH.del LV.sub qp LV.pF gC eD kg Lg bsV Qf oB oA GD grdV bS CY CI mz qW yK Option.or gN gq fO cE rQ cO S.get wU y8 S.arg S.aI S.jU S.put lM cu iL jH ct LV.nb V5 Fz Fy unV bool oD kz dh LV.shift HC places Bg putAt tc rowsOf toD sO rG TK.isAgg TK.isBool mu fK Value.oneCell' kS gf keyOf Jx Np qO qN mh fz xV
end Go.Aft
end
