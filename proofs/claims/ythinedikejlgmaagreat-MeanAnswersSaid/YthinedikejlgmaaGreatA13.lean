import Derived.Test.YthinedikejlgmaaGreatA12
import Derived.RangeFuncIn
set_option linter.all false
namespace Go.Aft
section
variable {P:Program} {rd:RD} {Q:Exit->Act->World->Prop} {a:Act} {w:World}
def KR(P:Program)(rd:RD)(l:Nat)(Q:Exit->Act->World->Prop)(a':Act):Ending->World->Prop
 |.returned _,w3=>∃jump w4,(Instr.endLoop l).run P w3=.ok jump w4/\(match jump with
  |none=>Q .normal a' w4
  |some c=>ze P rd c Q a' w4)
 |.panicked chain,w3=>Q (.panic chain) a' w3
 |.outgrown,_=>LetsOut Q
theorem B7{f0:FuncId}(hf:rd.f=some f0){g:Operand}{ps:Array Tmp}{lu body:Code}{l:Nat}{mark:List Deferred}{w1 w1' w2:World}{d:Deferred}{f:FuncId}{args:Array Value}
  (he:(Instr.enterLoop f0 a.tmps ps lu body rd.r).run P w=.ok (l,mark) w1) (hres:(resolve a.eval (rangeCall g l) 0).run P w1=.ok d w1') (hinv:(invoke d.target d.args).run P w1'=.ok (.enter f args) w2)
  (hc:Calls P f args w2 (KR P rd l Q {a with defers:=mark++a.defers})):ze P rd (.rangeFunc g ps lu body) Q a w:=by
 intro b k cs hro hb;have Dz:=hb f0 hf;rw[<-Dz,<-hro]at he;have ul:=stepR_rangeFunc (P:=P) (b:=b) (a:=a) (k:=k) (cs:=cs) (w:=w) he hres hinv;obtain⟨e,w3,fr,hR,AS,hfn,Rx⟩:=((callsIn_wide (n:=0)).2 hc).2 (b.atR {a with defers:=mark++a.defers} (.inRangeFunc l::k)::cs) (room_wide _)
 cases e with
 |outgrown=>obtain⟨a0,w0,hq⟩:=hR;exact⟨.outgrown,a0,w0,hq,.inr (Outgrown.of_steps (.one ul) AS)⟩
 |returned v=>
  obtain⟨jump,w4,hend,hj⟩:=hR;have sback:StepsIn (Machine.fenced P Fence.wide) P (lone (b.atR a (.code (.rangeFunc g ps lu body)::k)) cs w) (lone (b.atR {a with defers:=mark++a.defers} ((jump.map Item.code).toList++k)) cs w4):=by
   refine .head (fenced_wide P _) ul (StepsIn.trans AS (.head (fenced_wide P _) ?_ (.one (fenced_wide P _) (stepR_endRangeFunc hend))));rw[<-finish_atR_inRangeFunc l v];exact step_leave_returned Rx
  cases jump with
  |none=>exact⟨.normal,_,w4,hj,sback⟩
  |some c=>
   obtain⟨e',a'',w5,hq,fV⟩:=hj b k cs hro hb;exact⟨e',a'',w5,hq,.of_steps sback fV⟩
 |panicked chain=>
  refine⟨.panic chain,_,w3,hR,.inRangeFunc l::k,.head (fenced_wide P _) ul (StepsIn.trans AS (.one (fenced_wide P _) ?_))⟩;rw[<-Frame.raise_atR];exact step_leave_panicked Rx
def KB(P:Program)(l:Nat)(R:Ending->World->Prop):Exit->Act->World->Prop
 |.normal,_,w=>∃v w',(Instr.endRound l none).run P w=.ok v w'/\R (.returned v) w'
 |.ret,_,w=>∃v w',(Instr.endRound l (some .ret)).run P w=.ok v w'/\R (.returned v) w'
 |.exit id,_,w=>∃v w',(Instr.endRound l (some (.exit id))).run P w=.ok v w'/\R (.returned v) w'
 |.goto t,_,w=>∃v w',(Instr.endRound l (some (.goto t))).run P w=.ok v w'/\R (.returned v) w'
 |.panic chain,a,w=>a.defers=[]/\R (.panicked chain) w
 |.outgrown,_,_=>False
theorem roundA{l:Nat}{f:FuncId}{tmps:Array Value}{lu body:Code}{R:Ending->World->Prop}(hf:∃fn,P.funcs[f]?=some fn)
  (h:ze P ⟨some l,some f⟩ lu (Exit.then (λa1 w1=>∃w2,(Instr.beginRound l).run P w1=.ok () w2/\ze P ⟨some l,some f⟩ body (KB P l R) a1 w2) (λ_ _ _=>False)) {tmps:=tmps,defers:=[]} w):
  RoundIn Fence.wide 0 P l f tmps lu body w R:=by
 refine⟨trivial,λc cs hr=>?_⟩
 let b:Frame:={(default:Frame)with fn:=f,kind:=.normal,roundOf:=some l}
 have hb0:Frame.round l f tmps lu body .normal=b.atR {tmps:=tmps,defers:=[]} [.code lu,.beginRound,.code body]:=by
  simp[Frame.round,Frame.atR,b]
 have Dz:∀g,(⟨some l,some f⟩:RD).f=some g->b.fn=g:=λg hg=>by cases hg;rfl
 obtain⟨e,a1,w1,hq,fV⟩:=h b [.beginRound,.code body] (c::cs) rfl Dz;rw[<-hb0]at fV;cases e with
 |normal=>
  obtain⟨w2,hbr,hbody⟩:=hq;have s1:StepsIn (Machine.fenced P Fence.wide) P (lone (b.atR a1 [.beginRound,.code body]) (c::cs) w1) (lone (b.atR a1 [.code body]) (c::cs) w2):=.one (fenced_wide P _) (stepR_beginRound rfl hbr);obtain⟨e2,a2,w3,Tq,IW⟩:=hbody b [] (c::cs) rfl Dz;have hs0:=StepsIn.trans fV s1;cases e2 with
  |normal=>obtain⟨v,w4,hend,hR⟩:=Tq;exact⟨.returned v,w4,hR,hs0.trans (StepsIn.trans IW (.one (fenced_wide P _) (stepR_round_end rfl rfl hend)))⟩
  |ret=>obtain⟨v,w4,hend,hR⟩:=Tq;obtain⟨k1,hs⟩:=IW.2 rfl;exact⟨.returned v,w4,hR,hs0.trans (StepsIn.trans hs (.one (fenced_wide P _) (stepR_round_ret rfl rfl hend)))⟩
  |exit id=>obtain⟨v,w4,hend,hR⟩:=Tq;obtain⟨k1,hk,hs⟩:=IW.2 rfl rfl;exact⟨.returned v,w4,hR,hs0.trans (StepsIn.trans hs (.one (fenced_wide P _) (stepR_round_exit rfl rfl hk hend)))⟩
  |goto t=>obtain⟨v,w4,hend,hR⟩:=Tq;obtain⟨k1,hk,hs⟩:=IW.2 rfl rfl;exact⟨.returned v,w4,hR,hs0.trans (StepsIn.trans hs (.one (fenced_wide P _) (stepR_round_goto rfl rfl hk hend)))⟩
  |panic chain=>obtain⟨hd,hR⟩:=Tq;obtain⟨todo,hs⟩:=IW;exact⟨.panicked chain,w3,hR,hs0.trans (StepsIn.trans hs (.one (fenced_wide P _) (step_leave_panicked ⟨rfl,hd,hf⟩)))⟩
  |outgrown=>exact Tq.elim
 |exit id=>exact hq.elim
 |goto t=>exact hq.elim
 |ret=>exact hq.elim
 |panic chain=>exact hq.elim
 |outgrown=>exact hq.elim
end
def mr(env:Nat->LV):List (Nat×LV)->Nat->LV
 |[]=>env
 |(t,v)::r=>mr (ew env t v) r
theorem CW{G:Gh}{nx:Nat}{lm:Nat->Option Nat}:∀(ps:List Nat) (xs:List LV) (vs:List Value) (env:Nat->LV) (tmps:Array Value),bE G nx lm xs vs->(∀t,LR G nx lm (env t) (tmps.getD t undef))->(∀p∈ps,p<tmps.size)->
  ((ps.zip vs).foldl (λtm (p:Nat×Value)=>tm.setIfInBounds p.1 p.2) tmps).size=tmps.size/\∀t,LR G nx lm (mr env (ps.zip xs) t) (((ps.zip vs).foldl (λtm (p:Nat×Value)=>tm.setIfInBounds p.1 p.2) tmps).getD t undef)
 |[],xs,vs,env,tmps,_,he,_=>⟨rfl,he⟩
 |p::ps,[],vs,env,tmps,hx,he,_=>by
  unfold bE at hx;subst hx;exact⟨rfl,he⟩
 |p::ps,x::xs,vs,env,tmps,hx,he,hp=>by
  unfold bE at hx;obtain⟨v,r,rfl,h1,h2⟩:=hx;simp only[List.zip_cons_cons,List.foldl_cons,mr];have hlt:=hp p (List.mem_cons_self ..);obtain⟨q1,q2⟩:=CW ps xs r (ew env p x) (tmps.setIfInBounds p v) h2 (λt=>by
   by_cases e:t=p
   ·subst e;simp only[eG];simpa[hlt]using h1
   ·rw[aW _ _ e];have:(tmps.setIfInBounds p v).getD t undef=tmps.getD t undef:=by
     simp only[Array.getD_eq_getD_getElem?,Array.getElem?_setIfInBounds_ne (Ne.symm e)]
    rw[this];exact he t) (λq hq=>by rw[Array.size_setIfInBounds];exact hp q (List.mem_cons_of_mem _ hq))
  rw[Array.size_setIfInBounds]at q1;exact⟨q1,q2⟩
structure LP where
 f:FuncId
 env:Nat->LV
 nt:Nat
 ps:Array Nat
 lu:Code
 body:Code
 d:Nat
def LP.go(x:LP)(st:LoopState)(pend:Option Code):GO:=.loop x.f st pend x.env x.nt x.ps x.lu x.body x.d
def iw(x:LP)(n:Nat)(H0:GH)(R:CE->GH->Prop)(s:S)(jump:Option Code):Prop:=
 ∃st pend,s.H.obj n=some (x.go st pend)/\∃H',Drop H0 (s.H.set n (x.go (if jump.isNone then .ready else .done) jump)) H'/\R (.ret (bool jump.isNone)) H'
def roundQ(x:LP)(n:Nat)(H0:GH)(R:CE->GH->Prop):AE->S->Prop
 |.normal,s=>iw x n H0 R s none
 |.ret,s=>iw x n H0 R s (some .ret)
 |.exit i,s=>iw x n H0 R s (some (.exit i))
 |.goto l,s=>iw x n H0 R s (some (.goto l))
 |.dY v,s=>s.df=[]/\∃H',Drop H0 s.H H'/\v.nb H'.next/\R (.dY v) H'
theorem Ig{G:Gh}{lm:Nat->Option Nat}{L:Nat->Option (List LV)}{H:GH}{w:World}(hM:MR G lm L H w){n:Nat}{x:LP}{st:LoopState}{pend:Option Code}(hn:H.obj n=some (x.go st pend)):
  n<H.next/\x.d<H.next/\G.own (G.nm n)=.nm n/\∃tmps,w.heap[G.nm n]?=some (.loop ⟨st,pend,x.f,tmps,x.ps,x.lu,x.body,G.nm x.d⟩)/\tmps.size=x.nt/\∀t,LR G H.next gP (x.env t) (tmps.getD t undef):=by
 obtain⟨h1,h2,h3,tmps,h4,h5,h6⟩:=hM.gX n _ hn;exact⟨h1,h2,h3,tmps,h4,h5,h6⟩
theorem run_getLoop{P:Program}{w:World}{l:Nat}{r:Loop}(h:w.heap[l]?=some (.loop r)):(Instr.getLoop l).run P w=.ok r w:=by
 simp[Instr.getLoop,getObj,Sem.run,h]
theorem tO{P:Program}{w:World}{l:Nat}{r:Loop}{o':Obj}(h:w.heap[l]?=some (.loop r)):(setObj l o').run P w=.ok () (eM w l o'):=by
 simp[setObj,Sem.run,h,eM]
theorem zu{G:Gh}{lm:Nat->Option Nat}{L:Nat->Option (List LV)}{H:GH}{w:World}{E:sW}(hM:MR G lm L H w)(hx:Ext E G H w){n:Nat}{x:LP}{st:LoopState}{pend:Option Code}(hn:H.obj n=some (x.go st pend))(st':LoopState)(pend':Option Code):
  ∃tmps,w.heap[G.nm n]?=some (.loop ⟨st,pend,x.f,tmps,x.ps,x.lu,x.body,G.nm x.d⟩)/\
   MR G lm L (H.set n (x.go st' pend')) (eM w (G.nm n) (.loop ⟨st',pend',x.f,tmps,x.ps,x.lu,x.body,G.nm x.d⟩))/\Ext E G (H.set n (x.go st' pend')) (eM w (G.nm n) (.loop ⟨st',pend',x.f,tmps,x.ps,x.lu,x.body,G.nm x.d⟩)):=by
 obtain⟨h1,h2,h3,tmps,h4,h5,h6⟩:=Ig hM hn;have hl:=eA h4;refine⟨tmps,h4,?_,?_⟩
 ·refine hM.dK n hn _ _ h3 (by intro e sz m q;cases q) (by intro e sz m q;cases q) ⟨h2,h3,tmps,?_,h5,h6⟩
  rw[ee,if_pos ⟨rfl,hl⟩]
 ·exact hx.dK hM n _ _ h3
theorem dX.U7{P:Program}{n:Nat}{x:LP}{args:List LV}{H:GH}{R:CE->GH->Prop}(hn:H.obj n=some (x.go .ready none))(hf:∃fn,P.funcs[x.f]?=some fn)(hl:args.length=x.ps.size)(hps:∀p∈x.ps.toList,p<x.nt)
  (h:(∀m,H.next<=m->H.obj m=none)->∀l,eV P ⟨some l,some x.f⟩ x.lu ⟨mr x.env (x.ps.toList.zip args),uF,H,x.nt,[]⟩
   (Gi (λs1=>s1.H.obj n=some (x.go .ready none)/\eV P ⟨some l,some x.f⟩ x.body {s1 with H:=s1.H.set n (x.go .busy none)} (roundQ x n H R)) (λ_ _=>False))):dX P n args H R:=by
 intro G w vs hM pO hargs;have hnone:∀m,H.next<=m->H.obj m=none:=λm hm=>by
  cases ho:H.obj m with
  |none=>rfl
  |some o=>have:=(hM.gX m o ho).1;omega
 obtain⟨h1,h2,h3,tmps,h4,h5,h6⟩:=Ig hM hn;have hlen:=bH hargs;refine⟨x.f,(x.ps.toList.zip vs).foldl (λtm (p:Nat×Value)=>tm.setIfInBounds p.1 p.2) tmps,x.lu,x.body,?_,?_⟩
 ·have hsz:vs.toArray.size=x.ps.size:=by simp only[List.size_toArray];omega
  simp only[Instr.yield,Sem.run_bind,run_getLoop h4,Result.andThen_ok,hsz,ne_eq,not_true_eq_false,if_false];have e:(x.ps.zip vs.toArray).foldl (λtmps x=>tmps.setIfInBounds x.1 x.2) tmps=(x.ps.toList.zip vs).foldl (λtm (p:Nat×Value)=>tm.setIfInBounds p.1 p.2) tmps:=by
   rw[<-Array.foldl_toList,Array.toList_zip]
  rw[<-e];rfl
 ·obtain⟨q1,q2⟩:=CW x.ps.toList args vs x.env tmps hargs h6 (λp hp=>by rw[h5];exact hps p hp)
  have hE:∀m o,H.obj m=some o->OR G H.next w m o:=λm o ho=>(hM.gX m o ho).2
  refine roundA hf (gx (h hnone (G.nm n) ⟨G,H,w⟩ {tmps:=_,defers:=[]} w ⟨by rw[q1,h5],G,gP,rfl,hM,Ext.refl G H w pO,q2,rfl⟩) ?_)
  rintro e a1 w1 ⟨ae,s1,q,r⟩;cases ae with
  |normal=>
   obtain⟨rfl,g2,G1,lm1,g1,hM1,hx1,RH,_⟩:=r.normal;obtain⟨vm,hbody⟩:=q;obtain⟨tm1,c1,c2,c3⟩:=zu hM1 hx1 vm .busy none;have hnm:G1.nm n=G.nm n:=hx1.le.nm n h1;rw[hnm]at c1 c2 c3;refine⟨_,?_,gx (hbody ⟨G,H,w⟩ a1 _ ⟨g2,G1,lm1,g1,c2,c3,RH,rfl⟩) ?_⟩
   ·simp only[Instr.beginRound,Sem.run_bind,run_getLoop c1,Result.andThen_ok,tO c1];rfl
   ·rintro e a2 w2 ⟨ae,s2,q,r⟩;obtain⟨g2,G2,lm2,g1,hM2,hx2,A3,hex⟩:=r;have hnm2:G2.nm n=G.nm n:=hx2.le.nm n h1;have fin:∀jump,iw x n H R s2 jump->∃v w',(Instr.endRound (G.nm n) jump).run P w2=.ok v w'/\Eh G H w R (.returned v) w':=by
     rintro jump ⟨st,pend,hn2,H',hd,hR⟩;obtain⟨tm2,d1,d2,d3⟩:=zu hM2 hx2 hn2 (if jump.isNone then .ready else .done) jump
     rw[hnm2]at d1 d2 d3;obtain⟨e1,e2,e3⟩:=vI d2 (E:=⟨G,H,w⟩) hE pO d3 hd;refine⟨.bool jump.isNone,_,?_,_,H',_,hR,⟨_,rfl,?_⟩,e1,e2,e3⟩
     ·simp only[Instr.endRound,Sem.run_bind,run_getLoop d1,Result.andThen_ok,tO d1];rfl
     ·unfold bool;exact Fx
    cases ae with
    |normal=>cases hex;exact fin none q
    |ret=>cases hex;exact fin _ q
    |exit i=>cases hex;exact fin _ q
    |goto l=>cases hex;exact fin _ q
    |dY x=>
     obtain⟨v,rfl,hv⟩:=hex;obtain⟨hdf,H',hd,hnb,hR⟩:=q;rw[hdf]at g1;obtain⟨e1,e2,e3⟩:=vI hM2 (E:=⟨G,H,w⟩) hE pO hx2 hd;refine⟨g1,_,H',_,hR,⟨v,rfl,?_⟩,e1,e2,e3⟩;exact BU (jq _ _ hv hnb)
  |exit i=>exact q.elim
  |goto l=>exact q.elim
  |ret=>exact q.elim
  |dY x=>exact q.elim
def xO(Q:AE->S->Prop)(s:S):Option Code->Prop
 |none=>Q .normal s
 |some .ret=>Q .ret s
 |some (.exit i)=>Q (.exit i) s
 |some (.goto l)=>Q (.goto l) s
 |_=>False
def Qx(x:LP)(n:Nat)(s:S)(Q:AE->S->Prop):CE->GH->Prop
 |.ret _,H'=>∃st pend,H'.obj n=some (x.go st pend)/\st≠ .busy/\xO Q {s with H:=H'.set n (x.go .exhausted pend),df:=.mark x.d::s.df} pend
 |.dY v,H'=>Q (.dY v) {s with H:=H',df:=.mark x.d::s.df}
theorem tY{n:Nat}:∀{a b:List LV},ct n (a++b)=(ct n a/\ct n b)
 |[],b=>by simp[ct]
 |x::a,b=>by simp[ct,tY (a:=a) (b:=b),and_assoc]
theorem yZ{n:Nat}:∀{es:List (Nat×LV)},mS (λp=>p.2.nb n) es->∀t,(qu es t).nb n
 |[],_,t=>by simp[LV.nb]
 |(j,v)::r,h,t=>by
  rw[wP];by_cases e:t=j
  ·rw[if_pos e];exact h.1
  ·rw[if_neg e];exact yZ h.2 t
theorem Nk{G:Gh}{nx:Nat}{lm:Nat->Option Nat}{env:Nat->LV}{tm:Nat->Value}(he:∀t,LR G nx lm (env t) (tm t)):∀{es:List (Nat×LV)},mS (λp=>env p.1=p.2) es->∀t,LR G nx lm (qu es t) (tm t)
 |[],_,t=>by simp[LR]
 |(j,v)::r,h,t=>by
  rw[wP];by_cases e:t=j
  ·rw[if_pos e,e];have:=he j;rw[h.1]at this;exact this
  ·rw[if_neg e];exact Nk he h.2 t
theorem eV.rangeFunc{P:Program}{rd:RD}{s:S}{Q:AE->S->Prop}{f0:FuncId}(hr:rd.r=none)(Ts:rd.f=some f0){g:Operand}{ps:Array Tmp}{lu body:Code}{f:FuncId}{first cap:List LV}
  (hg:cu (s.arg g)=some (f,first,cap)) (hgp:s.aI g) (es:List (Nat×LV)) (tC:mS (λp=>s.env p.1=p.2) es) (hen:mS (λp=>p.2.nb s.H.next) es) (hnb:ct s.H.next (first++cap))
  (h:aF P f (first++[.yl (s.H.next+1)]++cap) ((s.H.add .qm).add ((⟨f0,qu es,s.nt,ps,lu,body,s.H.next⟩:LP).go .ready none)) (Qx ⟨f0,qu es,s.nt,ps,lu,body,s.H.next⟩ (s.H.next+1) s Q)):eV P rd (.rangeFunc g ps lu body) s Q:=by
 intro E a w hs;obtain⟨g2,G,lm,g1,hM,hx,aK,_⟩:=hs;have hfo:=aV aK g hgp;obtain⟨x,dc⟩:∃x,s.arg g=x:=⟨_,rfl⟩;rw[dc]at hg hfo;unfold cu at hg
 split at hg
 ·rename_i f' first' cap'
  cases hg;unfold LR at hfo;obtain⟨fs,cs,e1,l1,l2⟩:=hfo
  --the block of the deferred calls
  have le1:=tX (G:=G) s.H.next w.heap.size;have hM1:=hM.rX .qm (.deferred (some [])) (by simp) (by
   refine⟨by simp[sB],?_⟩
   simp only[sB,eG];rw[cV,if_pos rfl])
  have hx1:=hx.rX hM .qm (.deferred (some []));have env1:∀t,LR (sB G s.H.next w.heap.size) (s.H.next+1) lm (s.env t) (a.tmps.getD t undef):=λt=>bA (Nat.le_succ _) le1 (λ_ _ e=>e) _ _ (aK t)
  generalize hG1:sB G s.H.next w.heap.size=G1 at hM1 hx1 env1 le1;generalize hw1:w.alloc (.deferred (some []))=w1 at hM1 hx1;have A5:G1.nm s.H.next=w.heap.size:=by rw[<-hG1];simp[sB]
  have hsz1:w1.heap.size=w.heap.size+1:=by rw[<-hw1];exact Array.size_push _
  --the record
  have le2:=tX (G:=G1) (s.H.next+1) w1.heap.size;have henvL:∀t,LR (sB G1 (s.H.next+1) w1.heap.size) (s.H.next+1+1) gP (qu es t) (a.tmps.getD t undef):=λt=>
   bA (Nat.le_succ _) le2 (λ_ _ e=>e) _ _ (bA (Nat.le_succ _) le1 (λ_ _ e=>e) _ _ (jq _ _ (Nk aK tC t) (yZ hen t)))
  have hM2:=hM1.rX ((⟨f0,qu es,s.nt,ps,lu,body,s.H.next⟩:LP).go .ready none) (.loop ⟨.ready,none,f0,a.tmps,ps,lu,body,w.heap.size⟩) (by intro e sz m q;cases q) (by
   refine⟨by simp only[GH.add];omega,by simp[sB,GH.add],a.tmps,?_,g2,henvL⟩
   simp only[sB,GH.add,eG];rw[cV,if_pos rfl,aW _ _ (by omega),A5])
  have hx2:=hx1.rX hM1 ((⟨f0,qu es,s.nt,ps,lu,body,s.H.next⟩:LP).go .ready none) (.loop ⟨.ready,none,f0,a.tmps,ps,lu,body,w.heap.size⟩);have env2:∀t,LR (sB G1 (s.H.next+1) w1.heap.size) (s.H.next+1+1) lm (s.env t) (a.tmps.getD t undef):=λt=>bA (Nat.le_succ _) le2 (λ_ _ e=>e) _ _ (env1 t)
  have le12:G.le s.H.next (sB G1 (s.H.next+1) w1.heap.size):=Gh.le_trans (Nat.le_succ _) le1 le2;have hd2:(sB G1 (s.H.next+1) w1.heap.size).nm s.H.next=w.heap.size:=by simp only[sB];rw[aW _ _ (by omega),A5]
  have hn2:(sB G1 (s.H.next+1) w1.heap.size).nm (s.H.next+1)=w1.heap.size:=by simp[sB]
  change MR (sB G1 (s.H.next+1) w1.heap.size) lm s.L _ _ at hM2
  change Ext E (sB G1 (s.H.next+1) w1.heap.size) _ _ at hx2
  generalize hG2:sB G1 (s.H.next+1) w1.heap.size=G2 at hM2 hx2 env2 le12 hd2 hn2;generalize FX:w1.alloc (.loop ⟨.ready,none,f0,a.tmps,ps,lu,body,w.heap.size⟩)=w2 at hM2 hx2;have ul:(Instr.enterLoop f0 a.tmps ps lu body rd.r).run P w=.ok (w1.heap.size,[⟨.collected w.heap.size,#[]⟩]) w2:=by
   simp only[hr,Instr.enterLoop,Sem.run_bind,run_newObj_alloc,Result.andThen,Sem.run_pure,hw1,FX]
  have hres:(resolve a.eval (rangeCall g w1.heap.size) 0).run P w2=.ok ⟨.fn (.func f) cs.toArray,(fs++[Value.func (.yield w1.heap.size) #[] #[]]).toArray⟩ w2:=by
   simp only[resolve,rangeCall];simp only[e1,Deferred.ofValue];simp[Act.eval]
  have hinv:(invoke (.fn (.func f) cs.toArray) (fs++[Value.func (.yield w1.heap.size) #[] #[]]).toArray).run P w2=.ok (.enter f (fs++[Value.func (.yield w1.heap.size) #[] #[]]++cs).toArray) w2:=by
   simp only[invoke];have:=h.1 ((fs++[Value.func (.yield w1.heap.size) #[] #[]]).toArray++cs.toArray) w2;rw[this];simp
  have hall:bE G2 (s.H.next+1+1) lm (first++[.yl (s.H.next+1)]++cap) (fs++[Value.func (.yield w1.heap.size) #[] #[]]++cs):=by
   refine eu (eu (bW (by omega) le12 (λ_ _ e=>e) _ _ l1) ?_) (bW (by omega) le12 (λ_ _ e=>e) _ _ l2)
   unfold bE LR bE;exact⟨_,_,rfl,⟨by omega,by rw[hn2]⟩,rfl⟩
  have hnb2:ct (s.H.next+1+1) (first++[.yl (s.H.next+1)]++cap):=by
   have:ct (s.H.next+1+1) (first++cap):=eN (by omega) _ hnb
   rw[tY]at this|-;rw[tY];exact⟨⟨this.1,by simp[ct,LV.nb]⟩,this.2⟩
  obtain⟨hMc,RT⟩:=zb hM2;have gG:=h.2 (gM G2) w2 _ hMc RT (bW (Nat.le_refl _) (mM _ G2) (λ_ _ e=>e) _ _ (cZ _ _ hall hnb2))
  refine B7 Ts ul hres hinv (Calls.mono gG λe w3 hq=>?_)
  obtain⟨ce,H3,G3,hRc,IY,hM3,hNL3,hx3⟩:=hq;obtain⟨yP,PK,hle⟩:=zc hM2 hx2 hM3 hNL3 hx3;have hnx3:s.H.next+1+1<=H3.next:=hx3.nx;have env3:∀t,LR (jk G2 G3) H3.next lm (s.env t) (a.tmps.getD t undef):=λt=>bA hnx3 hle (λ_ _ e=>e) _ _ (env2 t)
  have hdf:FT (jk G2 G3) H3.next (.mark s.H.next::s.df) (⟨.collected w.heap.size,#[]⟩::a.defers):=
   ⟨_,_,rfl,⟨by omega,by rw[hle.nm _ (by simp only[GH.add];omega),hd2]⟩,ck (by omega) (Gh.le_trans (nx':=s.H.next+1+1) (by omega) le12 hle) _ _ g1⟩
  cases ce with
  |ret v=>
   obtain⟨v',rfl,hv⟩:=IY;obtain⟨st,pend,o1,o2,o3⟩:=hRc;obtain⟨tm,c1,c2,c3⟩:=zu yP PK o1 .exhausted pend;have hnm:(jk G2 G3).nm (s.H.next+1)=w1.heap.size:=by rw[hle.nm _ (by simp only[GH.add];omega),hn2]
   rw[hnm]at c1 c2 c3;have hS:∀ae e,(∀G nx,ExR G nx ae e)->JQ E ae {s with H:=H3.set (s.H.next+1) ((⟨f0,qu es,s.nt,ps,lu,body,s.H.next⟩:LP).go .exhausted pend),df:=.mark s.H.next::s.df} e {a with defers:=⟨.collected w.heap.size,#[]⟩::a.defers} _:=
    λae e he=>⟨g2,jk G2 G3,lm,hdf,c2,c3,env3,he _ _⟩
   refine⟨pend,eM w3 w1.heap.size (.loop ⟨.exhausted,pend,f0,tm,ps,lu,body,(jk G2 G3).nm s.H.next⟩),?_,?_⟩
   ·simp only[Instr.endLoop,Sem.run_bind,run_getLoop c1,Result.andThen_ok];have:(st==LoopState.busy)=false:=by cases st<;>first|rfl|exact absurd rfl o2
    simp only[this,Bool.false_eq_true,if_false,Sem.run_bind,Sem.run_pure,tO c1,Result.andThen_ok]
   ·unfold xO at o3
    split at o3
    ·exact⟨.normal,_,o3,hS _ _ λ_ _=>rfl⟩
    ·exact eC (wpIn_ret ⟨.ret,_,o3,hS _ _ λ_ _=>rfl⟩)
    ·exact eC (wpIn_exit ⟨.exit _,_,o3,hS _ _ λ_ _=>rfl⟩)
    ·exact eC (wpIn_goto ⟨.goto _,_,o3,hS _ _ λ_ _=>rfl⟩)
    ·exact o3.elim
  |dY v=>
   obtain⟨v',rfl,hv⟩:=IY;refine⟨.dY v,_,hRc,g2,jk G2 G3,lm,hdf,yP,PK,env3,v',rfl,?_⟩;exact bA (Nat.le_refl _) (kK _ G2 G3) (λ_ _ e=>e) _ _ hv
 ·cases hg
end Go.Aft
