import Derived.Test.YthinedikejlgmaaGreatA12
import Derived.RangeFuncIn
set_option linter.all false
namespace Go.Aft
section
variable {P:Program} {rd:RD} {Q:Exit->Act->World->Prop} {a:Act} {w:World}
def LC(P:Program)(rd:RD)(l:Nat)(Q:Exit->Act->World->Prop)(a':Act):Ending->World->Prop
 |.returned _,w3=>∃jump w4,(Instr.endLoop l).run P w3=.ok jump w4/\(match jump with
  |none=>Q .normal a' w4
  |some c=>zP P rd c Q a' w4)
 |.panicked chain,w3=>Q (.panic chain) a' w3
 |.outgrown,_=>LetsOut Q
theorem CJ{f0:FuncId}(hf:rd.f=some f0){g:Operand}{ps:Array Tmp}{lR body:Code}{l:Nat}{mark:List Deferred}{w1 w1' w2:World}{d:Deferred}{f:FuncId}{args:Array Value}
  (he:(Instr.enterLoop f0 a.tmps ps lR body rd.r).run P w=.ok (l,mark) w1) (hres:(resolve a.eval (rangeCall g l) 0).run P w1=.ok d w1') (hinv:(invoke d.target d.args).run P w1'=.ok (.enter f args) w2)
  (hc:Calls P f args w2 (LC P rd l Q {a with defers:=mark++a.defers})):zP P rd (.rangeFunc g ps lR body) Q a w:=by
 intro b k cs hro hb;have El:=hb f0 hf;rw[<-El,<-hro]at he;have uT:=stepR_rangeFunc (P:=P) (b:=b) (a:=a) (k:=k) (cs:=cs) (w:=w) he hres hinv;obtain⟨e,w3,fr,hR,Bt,hfn,Sw⟩:=((callsIn_wide (n:=0)).2 hc).2 (b.atR {a with defers:=mark++a.defers} (.inRangeFunc l::k)::cs) (room_wide _)
 cases e with
 |outgrown=>obtain⟨a0,w0,hq⟩:=hR;exact⟨.outgrown,a0,w0,hq,.inr (Outgrown.of_steps (.one uT) Bt)⟩
 |returned v=>
  obtain⟨jump,w4,hend,hj⟩:=hR;have sback:StepsIn (Machine.fenced P Fence.wide) P (lone (b.atR a (.code (.rangeFunc g ps lR body)::k)) cs w) (lone (b.atR {a with defers:=mark++a.defers} ((jump.map Item.code).toList++k)) cs w4):=by
   refine .head (fenced_wide P _) uT (StepsIn.trans Bt (.head (fenced_wide P _) ?_ (.one (fenced_wide P _) (stepR_endRangeFunc hend))));rw[<-finish_atR_inRangeFunc l v];exact step_leave_returned Sw
  cases jump with
  |none=>exact⟨.normal,_,w4,hj,sback⟩
  |some c=>
   obtain⟨e',a'',w5,hq,gE⟩:=hj b k cs hro hb;exact⟨e',a'',w5,hq,.of_steps sback gE⟩
 |panicked chain=>
  refine⟨.panic chain,_,w3,hR,.inRangeFunc l::k,.head (fenced_wide P _) uT (StepsIn.trans Bt (.one (fenced_wide P _) ?_))⟩;rw[<-Frame.raise_atR];exact step_leave_panicked Sw
def Lp(P:Program)(l:Nat)(R:Ending->World->Prop):Exit->Act->World->Prop
 |.normal,_,w=>∃v w',(Instr.endRound l none).run P w=.ok v w'/\R (.returned v) w'
 |.ret,_,w=>∃v w',(Instr.endRound l (some .ret)).run P w=.ok v w'/\R (.returned v) w'
 |.exit id,_,w=>∃v w',(Instr.endRound l (some (.exit id))).run P w=.ok v w'/\R (.returned v) w'
 |.goto t,_,w=>∃v w',(Instr.endRound l (some (.goto t))).run P w=.ok v w'/\R (.returned v) w'
 |.panic chain,a,w=>a.defers=[]/\R (.panicked chain) w
 |.outgrown,_,_=>False
theorem ZW{l:Nat}{f:FuncId}{tmps:Array Value}{lR body:Code}{R:Ending->World->Prop}(hf:∃fn,P.funcs[f]?=some fn)
  (h:zP P ⟨some l,some f⟩ lR (Exit.then (λa1 w1=>∃w2,(Instr.beginRound l).run P w1=.ok () w2/\zP P ⟨some l,some f⟩ body (Lp P l R) a1 w2) (λ_ _ _=>False)) {tmps:=tmps,defers:=[]} w):
  RoundIn Fence.wide 0 P l f tmps lR body w R:=by
 refine⟨trivial,λc cs hr=>?_⟩
 let b:Frame:={(default:Frame)with fn:=f,kind:=.normal,roundOf:=some l}
 have hb0:Frame.round l f tmps lR body .normal=b.atR {tmps:=tmps,defers:=[]} [.code lR,.beginRound,.code body]:=by
  simp[Frame.round,Frame.atR,b]
 have El:∀g,(⟨some l,some f⟩:RD).f=some g->b.fn=g:=λg hg=>by cases hg;rfl
 obtain⟨e,a1,w1,hq,gE⟩:=h b [.beginRound,.code body] (c::cs) rfl El;rw[<-hb0]at gE;cases e with
 |normal=>
  obtain⟨w2,hbr,hbody⟩:=hq;have s1:StepsIn (Machine.fenced P Fence.wide) P (lone (b.atR a1 [.beginRound,.code body]) (c::cs) w1) (lone (b.atR a1 [.code body]) (c::cs) w2):=.one (fenced_wide P _) (stepR_beginRound rfl hbr);obtain⟨e2,a2,w3,Ue,JF⟩:=hbody b [] (c::cs) rfl El;have hs0:=StepsIn.trans gE s1;cases e2 with
  |normal=>obtain⟨v,w4,hend,hR⟩:=Ue;exact⟨.returned v,w4,hR,hs0.trans (StepsIn.trans JF (.one (fenced_wide P _) (stepR_round_end rfl rfl hend)))⟩
  |ret=>obtain⟨v,w4,hend,hR⟩:=Ue;obtain⟨k1,hs⟩:=JF.2 rfl;exact⟨.returned v,w4,hR,hs0.trans (StepsIn.trans hs (.one (fenced_wide P _) (stepR_round_ret rfl rfl hend)))⟩
  |exit id=>obtain⟨v,w4,hend,hR⟩:=Ue;obtain⟨k1,hk,hs⟩:=JF.2 rfl rfl;exact⟨.returned v,w4,hR,hs0.trans (StepsIn.trans hs (.one (fenced_wide P _) (stepR_round_exit rfl rfl hk hend)))⟩
  |goto t=>obtain⟨v,w4,hend,hR⟩:=Ue;obtain⟨k1,hk,hs⟩:=JF.2 rfl rfl;exact⟨.returned v,w4,hR,hs0.trans (StepsIn.trans hs (.one (fenced_wide P _) (stepR_round_goto rfl rfl hk hend)))⟩
  |panic chain=>obtain⟨hd,hR⟩:=Ue;obtain⟨todo,hs⟩:=JF;exact⟨.panicked chain,w3,hR,hs0.trans (StepsIn.trans hs (.one (fenced_wide P _) (step_leave_panicked ⟨rfl,hd,hf⟩)))⟩
  |outgrown=>exact Ue.elim
 |exit id=>exact hq.elim
 |goto t=>exact hq.elim
 |ret=>exact hq.elim
 |panic chain=>exact hq.elim
 |outgrown=>exact hq.elim
end
def mI(env:Nat->LV):List (Nat×LV)->Nat->LV
 |[]=>env
 |(t,v)::r=>mI (eL env t v) r
theorem DE{G:Gh}{nx:Nat}{lm:Nat->Option Nat}:∀(ps:List Nat) (xs:List LV) (vs:List Value) (env:Nat->LV) (tmps:Array Value),bH G nx lm xs vs->(∀t,LR G nx lm (env t) (tmps.getD t undef))->(∀p∈ps,p<tmps.size)->
  ((ps.zip vs).foldl (λtm (p:Nat×Value)=>tm.setIfInBounds p.1 p.2) tmps).size=tmps.size/\∀t,LR G nx lm (mI env (ps.zip xs) t) (((ps.zip vs).foldl (λtm (p:Nat×Value)=>tm.setIfInBounds p.1 p.2) tmps).getD t undef)
 |[],xs,vs,env,tmps,_,he,_=>⟨rfl,he⟩
 |p::ps,[],vs,env,tmps,hx,he,_=>by
  unfold bH at hx;subst hx;exact⟨rfl,he⟩
 |p::ps,x::xs,vs,env,tmps,hx,he,hp=>by
  unfold bH at hx;obtain⟨v,r,rfl,h1,h2⟩:=hx;simp only[List.zip_cons_cons,List.foldl_cons,mI];have hlt:=hp p (List.mem_cons_self ..);obtain⟨q1,q2⟩:=DE ps xs r (eL env p x) (tmps.setIfInBounds p v) h2 (λt=>by
   by_cases e:t=p
   ·subst e;simp only[eG];simpa[hlt]using h1
   ·rw[aX _ _ e];have:(tmps.setIfInBounds p v).getD t undef=tmps.getD t undef:=by
     simp only[Array.getD_eq_getD_getElem?,Array.getElem?_setIfInBounds_ne (Ne.symm e)]
    rw[this];exact he t) (λq hq=>by rw[Array.size_setIfInBounds];exact hp q (List.mem_cons_of_mem _ hq))
  rw[Array.size_setIfInBounds]at q1;exact⟨q1,q2⟩
structure LP where
 f:FuncId
 env:Nat->LV
 nt:Nat
 ps:Array Nat
 lR:Code
 body:Code
 d:Nat
def LP.go(x:LP)(st:LoopState)(pend:Option Code):GO:=.loop x.f st pend x.env x.nt x.ps x.lR x.body x.d
def iJ(x:LP)(n:Nat)(H0:GH)(R:CE->GH->Prop)(s:S)(jump:Option Code):Prop:=
 ∃st pend,s.H.obj n=some (x.go st pend)/\∃H',Drop H0 (s.H.set n (x.go (if jump.isNone then .ready else .done) jump)) H'/\R (.ret (bool jump.isNone)) H'
def ZV(x:LP)(n:Nat)(H0:GH)(R:CE->GH->Prop):AE->S->Prop
 |.normal,s=>iJ x n H0 R s none
 |.ret,s=>iJ x n H0 R s (some .ret)
 |.exit i,s=>iJ x n H0 R s (some (.exit i))
 |.goto l,s=>iJ x n H0 R s (some (.goto l))
 |.ej v,s=>s.df=[]/\∃H',Drop H0 s.H H'/\v.nb H'.next/\R (.ej v) H'
theorem I5{G:Gh}{lm:Nat->Option Nat}{L:Nat->Option (List LV)}{H:GH}{w:World}(hM:MR G lm L H w){n:Nat}{x:LP}{st:LoopState}{pend:Option Code}(hn:H.obj n=some (x.go st pend)):
  n<H.next/\x.d<H.next/\G.own (G.nm n)=.nm n/\∃tmps,w.heap[G.nm n]?=some (.loop ⟨st,pend,x.f,tmps,x.ps,x.lR,x.body,G.nm x.d⟩)/\tmps.size=x.nt/\∀t,LR G H.next ix (x.env t) (tmps.getD t undef):=by
 obtain⟨h1,h2,h3,tmps,h4,h5,h6⟩:=hM.iC n _ hn;exact⟨h1,h2,h3,tmps,h4,h5,h6⟩
theorem run_getLoop{P:Program}{w:World}{l:Nat}{r:Loop}(h:w.heap[l]?=some (.loop r)):(Instr.getLoop l).run P w=.ok r w:=by
 simp[Instr.getLoop,getObj,Sem.run,h]
theorem ux{P:Program}{w:World}{l:Nat}{r:Loop}{o':Obj}(h:w.heap[l]?=some (.loop r)):(setObj l o').run P w=.ok () (eU w l o'):=by
 simp[setObj,Sem.run,h,eU]
theorem Aa{G:Gh}{lm:Nat->Option Nat}{L:Nat->Option (List LV)}{H:GH}{w:World}{E:tL}(hM:MR G lm L H w)(hx:Ext E G H w){n:Nat}{x:LP}{st:LoopState}{pend:Option Code}(hn:H.obj n=some (x.go st pend))(st':LoopState)(pend':Option Code):
  ∃tmps,w.heap[G.nm n]?=some (.loop ⟨st,pend,x.f,tmps,x.ps,x.lR,x.body,G.nm x.d⟩)/\
   MR G lm L (H.set n (x.go st' pend')) (eU w (G.nm n) (.loop ⟨st',pend',x.f,tmps,x.ps,x.lR,x.body,G.nm x.d⟩))/\Ext E G (H.set n (x.go st' pend')) (eU w (G.nm n) (.loop ⟨st',pend',x.f,tmps,x.ps,x.lR,x.body,G.nm x.d⟩)):=by
 obtain⟨h1,h2,h3,tmps,h4,h5,h6⟩:=I5 hM hn;have hl:=eN h4;refine⟨tmps,h4,?_,?_⟩
 ·refine hM.dV n hn _ _ h3 (by intro e sz m q;cases q) (by intro e sz m q;cases q) ⟨h2,h3,tmps,?_,h5,h6⟩
  rw[ew,if_pos ⟨rfl,hl⟩]
 ·exact hx.dV hM n _ _ h3
theorem ei.VW{P:Program}{n:Nat}{x:LP}{args:List LV}{H:GH}{R:CE->GH->Prop}(hn:H.obj n=some (x.go .ready none))(hf:∃fn,P.funcs[x.f]?=some fn)(hl:args.length=x.ps.size)(hps:∀p∈x.ps.toList,p<x.nt)
  (h:(∀m,H.next<=m->H.obj m=none)->∀l,fh P ⟨some l,some x.f⟩ x.lR ⟨mI x.env (x.ps.toList.zip args),vi,H,x.nt,[]⟩
   (Hs (λs1=>s1.H.obj n=some (x.go .ready none)/\fh P ⟨some l,some x.f⟩ x.body {s1 with H:=s1.H.set n (x.go .busy none)} (ZV x n H R)) (λ_ _=>False))):ei P n args H R:=by
 intro G w vs hM qd hargs;have hnone:∀m,H.next<=m->H.obj m=none:=λm hm=>by
  cases ho:H.obj m with
  |none=>rfl
  |some o=>have:=(hM.iC m o ho).1;omega
 obtain⟨h1,h2,h3,tmps,h4,h5,h6⟩:=I5 hM hn;have hlen:=bN hargs;refine⟨x.f,(x.ps.toList.zip vs).foldl (λtm (p:Nat×Value)=>tm.setIfInBounds p.1 p.2) tmps,x.lR,x.body,?_,?_⟩
 ·have hsz:vs.toArray.size=x.ps.size:=by simp only[List.size_toArray];omega
  simp only[Instr.yield,Sem.run_bind,run_getLoop h4,Result.andThen_ok,hsz,ne_eq,not_true_eq_false,if_false];have e:(x.ps.zip vs.toArray).foldl (λtmps x=>tmps.setIfInBounds x.1 x.2) tmps=(x.ps.toList.zip vs).foldl (λtm (p:Nat×Value)=>tm.setIfInBounds p.1 p.2) tmps:=by
   rw[<-Array.foldl_toList,Array.toList_zip]
  rw[<-e];rfl
 ·obtain⟨q1,q2⟩:=DE x.ps.toList args vs x.env tmps hargs h6 (λp hp=>by rw[h5];exact hps p hp)
  have hE:∀m o,H.obj m=some o->OR G H.next w m o:=λm o ho=>(hM.iC m o ho).2
  refine ZW hf (gO (h hnone (G.nm n) ⟨G,H,w⟩ {tmps:=_,defers:=[]} w ⟨by rw[q1,h5],G,ix,rfl,hM,Ext.refl G H w qd,q2,rfl⟩) ?_)
  rintro e a1 w1 ⟨ae,s1,q,r⟩;cases ae with
  |normal=>
   obtain⟨rfl,g2,G1,lm1,g1,hM1,hx1,SB,_⟩:=r.normal;obtain⟨wJ,hbody⟩:=q;obtain⟨tm1,c1,c2,c3⟩:=Aa hM1 hx1 wJ .busy none;have hnm:G1.nm n=G.nm n:=hx1.le.nm n h1;rw[hnm]at c1 c2 c3;refine⟨_,?_,gO (hbody ⟨G,H,w⟩ a1 _ ⟨g2,G1,lm1,g1,c2,c3,SB,rfl⟩) ?_⟩
   ·simp only[Instr.beginRound,Sem.run_bind,run_getLoop c1,Result.andThen_ok,ux c1];rfl
   ·rintro e a2 w2 ⟨ae,s2,q,r⟩;obtain⟨g2,G2,lm2,g1,hM2,hx2,BC,hex⟩:=r;have bl6:G2.nm n=G.nm n:=hx2.le.nm n h1;have fin:∀jump,iJ x n H R s2 jump->∃v w',(Instr.endRound (G.nm n) jump).run P w2=.ok v w'/\E6 G H w R (.returned v) w':=by
     rintro jump ⟨st,pend,hn2,H',hd,hR⟩;obtain⟨tm2,d1,d2,d3⟩:=Aa hM2 hx2 hn2 (if jump.isNone then .ready else .done) jump
     rw[bl6]at d1 d2 d3;obtain⟨e1,e2,e3⟩:=wH d2 (E:=⟨G,H,w⟩) hE qd d3 hd;refine⟨.bool jump.isNone,_,?_,_,H',_,hR,⟨_,rfl,?_⟩,e1,e2,e3⟩
     ·simp only[Instr.endRound,Sem.run_bind,run_getLoop d1,Result.andThen_ok,ux d1];rfl
     ·unfold bool;exact Gq
    cases ae with
    |normal=>cases hex;exact fin none q
    |ret=>cases hex;exact fin _ q
    |exit i=>cases hex;exact fin _ q
    |goto l=>cases hex;exact fin _ q
    |ej x=>
     obtain⟨v,rfl,hv⟩:=hex;obtain⟨hdf,H',hd,hnb,hR⟩:=q;rw[hdf]at g1;obtain⟨e1,e2,e3⟩:=wH hM2 (E:=⟨G,H,w⟩) hE qd hx2 hd;refine⟨g1,_,H',_,hR,⟨v,rfl,?_⟩,e1,e2,e3⟩;exact Cy (jO _ _ hv hnb)
  |exit i=>exact q.elim
  |goto l=>exact q.elim
  |ret=>exact q.elim
  |ej x=>exact q.elim
def yz(Q:AE->S->Prop)(s:S):Option Code->Prop
 |none=>Q .normal s
 |some .ret=>Q .ret s
 |some (.exit i)=>Q (.exit i) s
 |some (.goto l)=>Q (.goto l) s
 |_=>False
def Rt(x:LP)(n:Nat)(s:S)(Q:AE->S->Prop):CE->GH->Prop
 |.ret _,H'=>∃st pend,H'.obj n=some (x.go st pend)/\st≠ .busy/\yz Q {s with H:=H'.set n (x.go .exhausted pend),df:=.mark x.d::s.df} pend
 |.ej v,H'=>Q (.ej v) {s with H:=H',df:=.mark x.d::s.df}
theorem uI{n:Nat}:∀{a b:List LV},cD n (a++b)=(cD n a/\cD n b)
 |[],b=>by simp[cD]
 |x::a,b=>by simp[cD,uI (a:=a) (b:=b),and_assoc]
theorem zG{n:Nat}:∀{es:List (Nat×LV)},ny (λp=>p.2.nb n) es->∀t,(qO es t).nb n
 |[],_,t=>by simp[LV.nb]
 |(j,v)::r,h,t=>by
  rw[xA];by_cases e:t=j
  ·rw[if_pos e];exact h.1
  ·rw[if_neg e];exact zG h.2 t
theorem N9{G:Gh}{nx:Nat}{lm:Nat->Option Nat}{env:Nat->LV}{tm:Nat->Value}(he:∀t,LR G nx lm (env t) (tm t)):∀{es:List (Nat×LV)},ny (λp=>env p.1=p.2) es->∀t,LR G nx lm (qO es t) (tm t)
 |[],_,t=>by simp[LR]
 |(j,v)::r,h,t=>by
  rw[xA];by_cases e:t=j
  ·rw[if_pos e,e];have:=he j;rw[h.1]at this;exact this
  ·rw[if_neg e];exact N9 he h.2 t
theorem fh.rangeFunc{P:Program}{rd:RD}{s:S}{Q:AE->S->Prop}{f0:FuncId}(hr:rd.r=none)(Uh:rd.f=some f0){g:Operand}{ps:Array Tmp}{lR body:Code}{f:FuncId}{first cap:List LV}
  (hg:cE (s.arg g)=some (f,first,cap)) (hgp:s.aI g) (es:List (Nat×LV)) (uj:ny (λp=>s.env p.1=p.2) es) (hen:ny (λp=>p.2.nb s.H.next) es) (hnb:cD s.H.next (first++cap))
  (h:aG P f (first++[.yl (s.H.next+1)]++cap) ((s.H.add .qI).add ((⟨f0,qO es,s.nt,ps,lR,body,s.H.next⟩:LP).go .ready none)) (Rt ⟨f0,qO es,s.nt,ps,lR,body,s.H.next⟩ (s.H.next+1) s Q)):fh P rd (.rangeFunc g ps lR body) s Q:=by
 intro E a w hs;obtain⟨g2,G,lm,g1,hM,hx,aK,_⟩:=hs;have hfo:=aW aK g hgp;obtain⟨x,dc⟩:∃x,s.arg g=x:=⟨_,rfl⟩;rw[dc]at hg hfo;unfold cE at hg
 split at hg
 ·rename_i f' first' cap'
  cases hg;unfold LR at hfo;obtain⟨fs,cs,e1,l1,l2⟩:=hfo
  --the block of the deferred calls
  have le1:=uH (G:=G) s.H.next w.heap.size;have hM1:=hM.sI .qI (.deferred (some [])) (by simp) (by
   refine⟨by simp[tc],?_⟩
   simp only[tc,eG];rw[dg,if_pos rfl])
  have hx1:=hx.sI hM .qI (.deferred (some []));have env1:∀t,LR (tc G s.H.next w.heap.size) (s.H.next+1) lm (s.env t) (a.tmps.getD t undef):=λt=>bF (Nat.le_succ _) le1 (λ_ _ e=>e) _ _ (aK t)
  generalize hG1:tc G s.H.next w.heap.size=G1 at hM1 hx1 env1 le1;generalize hw1:w.alloc (.deferred (some []))=w1 at hM1 hx1;have BE:G1.nm s.H.next=w.heap.size:=by rw[<-hG1];simp[tc]
  have bI8:w1.heap.size=w.heap.size+1:=by rw[<-hw1];exact Array.size_push _
  --the record
  have le2:=uH (G:=G1) (s.H.next+1) w1.heap.size;have aB7:∀t,LR (tc G1 (s.H.next+1) w1.heap.size) (s.H.next+1+1) ix (qO es t) (a.tmps.getD t undef):=λt=>
   bF (Nat.le_succ _) le2 (λ_ _ e=>e) _ _ (bF (Nat.le_succ _) le1 (λ_ _ e=>e) _ _ (jO _ _ (N9 aK uj t) (zG hen t)))
  have hM2:=hM1.sI ((⟨f0,qO es,s.nt,ps,lR,body,s.H.next⟩:LP).go .ready none) (.loop ⟨.ready,none,f0,a.tmps,ps,lR,body,w.heap.size⟩) (by intro e sz m q;cases q) (by
   refine⟨by simp only[GH.add];omega,by simp[tc,GH.add],a.tmps,?_,g2,aB7⟩
   simp only[tc,GH.add,eG];rw[dg,if_pos rfl,aX _ _ (by omega),BE])
  have hx2:=hx1.sI hM1 ((⟨f0,qO es,s.nt,ps,lR,body,s.H.next⟩:LP).go .ready none) (.loop ⟨.ready,none,f0,a.tmps,ps,lR,body,w.heap.size⟩);have env2:∀t,LR (tc G1 (s.H.next+1) w1.heap.size) (s.H.next+1+1) lm (s.env t) (a.tmps.getD t undef):=λt=>bF (Nat.le_succ _) le2 (λ_ _ e=>e) _ _ (env1 t)
  have le12:G.le s.H.next (tc G1 (s.H.next+1) w1.heap.size):=Gh.le_trans (Nat.le_succ _) le1 le2;have hd2:(tc G1 (s.H.next+1) w1.heap.size).nm s.H.next=w.heap.size:=by simp only[tc];rw[aX _ _ (by omega),BE]
  have hn2:(tc G1 (s.H.next+1) w1.heap.size).nm (s.H.next+1)=w1.heap.size:=by simp[tc]
  change MR (tc G1 (s.H.next+1) w1.heap.size) lm s.L _ _ at hM2
  change Ext E (tc G1 (s.H.next+1) w1.heap.size) _ _ at hx2
  generalize hG2:tc G1 (s.H.next+1) w1.heap.size=G2 at hM2 hx2 env2 le12 hd2 hn2;generalize GU:w1.alloc (.loop ⟨.ready,none,f0,a.tmps,ps,lR,body,w.heap.size⟩)=w2 at hM2 hx2;have uT:(Instr.enterLoop f0 a.tmps ps lR body rd.r).run P w=.ok (w1.heap.size,[⟨.collected w.heap.size,#[]⟩]) w2:=by
   simp only[hr,Instr.enterLoop,Sem.run_bind,run_newObj_alloc,Result.andThen,Sem.run_pure,hw1,GU]
  have hres:(resolve a.eval (rangeCall g w1.heap.size) 0).run P w2=.ok ⟨.fn (.func f) cs.toArray,(fs++[Value.func (.yield w1.heap.size) #[] #[]]).toArray⟩ w2:=by
   simp only[resolve,rangeCall];simp only[e1,Deferred.ofValue];simp[Act.eval]
  have hinv:(invoke (.fn (.func f) cs.toArray) (fs++[Value.func (.yield w1.heap.size) #[] #[]]).toArray).run P w2=.ok (.enter f (fs++[Value.func (.yield w1.heap.size) #[] #[]]++cs).toArray) w2:=by
   simp only[invoke];have:=h.1 ((fs++[Value.func (.yield w1.heap.size) #[] #[]]).toArray++cs.toArray) w2;rw[this];simp
  have hall:bH G2 (s.H.next+1+1) lm (first++[.yl (s.H.next+1)]++cap) (fs++[Value.func (.yield w1.heap.size) #[] #[]]++cs):=by
   refine eF (eF (ca (by omega) le12 (λ_ _ e=>e) _ _ l1) ?_) (ca (by omega) le12 (λ_ _ e=>e) _ _ l2)
   unfold bH LR bH;exact⟨_,_,rfl,⟨by omega,by rw[hn2]⟩,rfl⟩
  have ac2:cD (s.H.next+1+1) (first++[.yl (s.H.next+1)]++cap):=by
   have:cD (s.H.next+1+1) (first++cap):=eV (by omega) _ hnb
   rw[uI]at this|-;rw[uI];exact⟨⟨this.1,by simp[cD,LV.nb]⟩,this.2⟩
  obtain⟨hMc,SL⟩:=zM hM2;have gY:=h.2 (iq G2) w2 _ hMc SL (ca (Nat.le_refl _) (ng _ G2) (λ_ _ e=>e) _ _ (dm _ _ hall ac2))
  refine CJ Uh uT hres hinv (Calls.mono gY λe w3 hq=>?_)
  obtain⟨ce,H3,G3,YS,JH,hM3,bq2,hx3⟩:=hq;obtain⟨zq,NG,hle⟩:=zN hM2 hx2 hM3 bq2 hx3;have ab7:s.H.next+1+1<=H3.next:=hx3.nx;have env3:∀t,LR (jK G2 G3) H3.next lm (s.env t) (a.tmps.getD t undef):=λt=>bF ab7 hle (λ_ _ e=>e) _ _ (env2 t)
  have hdf:GP (jK G2 G3) H3.next (.mark s.H.next::s.df) (⟨.collected w.heap.size,#[]⟩::a.defers):=
   ⟨_,_,rfl,⟨by omega,by rw[hle.nm _ (by simp only[GH.add];omega),hd2]⟩,ct (by omega) (Gh.le_trans (nx':=s.H.next+1+1) (by omega) le12 hle) _ _ g1⟩
  cases ce with
  |ret v=>
   obtain⟨v',rfl,hv⟩:=JH;obtain⟨st,pend,o1,o2,o3⟩:=YS;obtain⟨tm,c1,c2,c3⟩:=Aa zq NG o1 .exhausted pend;have hnm:(jK G2 G3).nm (s.H.next+1)=w1.heap.size:=by rw[hle.nm _ (by simp only[GH.add];omega),hn2]
   rw[hnm]at c1 c2 c3;have hS:∀ae e,(∀G nx,ExR G nx ae e)->KD E ae {s with H:=H3.set (s.H.next+1) ((⟨f0,qO es,s.nt,ps,lR,body,s.H.next⟩:LP).go .exhausted pend),df:=.mark s.H.next::s.df} e {a with defers:=⟨.collected w.heap.size,#[]⟩::a.defers} _:=
    λae e he=>⟨g2,jK G2 G3,lm,hdf,c2,c3,env3,he _ _⟩
   refine⟨pend,eU w3 w1.heap.size (.loop ⟨.exhausted,pend,f0,tm,ps,lR,body,(jK G2 G3).nm s.H.next⟩),?_,?_⟩
   ·simp only[Instr.endLoop,Sem.run_bind,run_getLoop c1,Result.andThen_ok];have:(st==LoopState.busy)=false:=by cases st<;>first|rfl|exact absurd rfl o2
    simp only[this,Bool.false_eq_true,if_false,Sem.run_bind,Sem.run_pure,ux c1,Result.andThen_ok]
   ·unfold yz at o3
    split at o3
    ·exact⟨.normal,_,o3,hS _ _ λ_ _=>rfl⟩
    ·exact eP (wpIn_ret ⟨.ret,_,o3,hS _ _ λ_ _=>rfl⟩)
    ·exact eP (wpIn_exit ⟨.exit _,_,o3,hS _ _ λ_ _=>rfl⟩)
    ·exact eP (wpIn_goto ⟨.goto _,_,o3,hS _ _ λ_ _=>rfl⟩)
    ·exact o3.elim
  |ej v=>
   obtain⟨v',rfl,hv⟩:=JH;refine⟨.ej v,_,YS,g2,jK G2 G3,lm,hdf,zq,NG,env3,v',rfl,?_⟩;exact bF (Nat.le_refl _) (lz _ G2 G3) (λ_ _ e=>e) _ _ hv
 ·cases hg
end Go.Aft
