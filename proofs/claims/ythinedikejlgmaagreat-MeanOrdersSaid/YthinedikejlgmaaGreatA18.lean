import Derived.Test.YthinedikejlgmaaGreatA17
import Derived.RangeFuncIn
set_option linter.all false
namespace Go.Aft
section
variable {P:Program} {rd:RD} {Q:Exit->Act->World->Prop} {a:Act} {w:World}
def d9l (P:Program) (rd:RD) (l:Nat) (Q:Exit->Act->World->Prop) (a':Act):Ending->World->Prop
 | .returned _,w3=>∃ jump w4,(Instr.endLoop l).run P w3=.ok jump w4/\(match jump with
  | none=>Q .normal a' w4
  | some c=>wpA P rd c Q a' w4)
 | .panicked chain,w3=>Q (.panic chain) a' w3
 | .outgrown,_=>LetsOut Q
theorem c4b {f0:FuncId} (hf:rd.f=some f0) {g:Operand} {ps:Array Tmp} {asn body:Code} {l:Nat} {mark:List Deferred} {w1 w1' w2:World} {d:Deferred} {f:FuncId} {args:Array Value}
  (he:(Instr.enterLoop f0 a.tmps ps asn body rd.r).run P w=.ok (l,mark) w1) (hres:(resolve a.eval (rangeCall g l) 0).run P w1=.ok d w1') (hinv:(invoke d.target d.args).run P w1'=.ok (.enter f args) w2)
  (hc:Calls P f args w2 (d9l P rd l Q { a with defers:=mark ++ a.defers })):wpA P rd (.rangeFunc g ps asn body) Q a w:=by
 intro b k cs hro hb
 have hbf:=hb f0 hf
 rw [<- hbf,<- hro] at he
 have henter:=stepR_rangeFunc (P:=P) (b:=b) (a:=a) (k:=k) (cs:=cs) (w:=w) he hres hinv
 obtain ⟨e,w3,fr,hR,hsteps,hfn,hleave⟩:=((callsIn_wide (n:=0)).2 hc).2 (b.atR { a with defers:=mark ++ a.defers } (.inRangeFunc l :: k) :: cs) (room_wide _)
 cases e with
 | outgrown=>obtain ⟨a0,w0,hq⟩:=hR;exact ⟨.outgrown,a0,w0,hq,.inr (Outgrown.of_steps (.one henter) hsteps)⟩
 | returned v =>
  obtain ⟨jump,w4,hend,hj⟩:=hR
  have sback:StepsIn (Machine.fenced P Fence.wide) P (lone (b.atR a (.code (.rangeFunc g ps asn body) :: k)) cs w) (lone (b.atR { a with defers:=mark ++ a.defers } ((jump.map Item.code).toList ++ k)) cs w4):=by
   refine .head (fenced_wide P _) henter (StepsIn.trans hsteps (.head (fenced_wide P _) ?_ (.one (fenced_wide P _) (stepR_endRangeFunc hend))))
   rw [<- finish_atR_inRangeFunc l v];exact step_leave_returned hleave
  cases jump with
  | none=>exact ⟨.normal,_,w4,hj,sback⟩
  | some c =>
   obtain ⟨e',a'',w5,hq,harr⟩:=hj b k cs hro hb
   exact ⟨e',a'',w5,hq,.of_steps sback harr⟩
 | panicked chain =>
  refine ⟨.panic chain,_,w3,hR,.inRangeFunc l :: k,.head (fenced_wide P _) henter (StepsIn.trans hsteps (.one (fenced_wide P _) ?_))⟩
  rw [<- Frame.raise_atR];exact step_leave_panicked hleave
def d9d (P:Program) (l:Nat) (R:Ending->World->Prop):Exit->Act->World->Prop
 | .normal,_,w=>∃ v w',(Instr.endRound l none).run P w=.ok v w'/\R (.returned v) w'
 | .ret,_,w=>∃ v w',(Instr.endRound l (some .ret)).run P w=.ok v w'/\R (.returned v) w'
 | .exit id,_,w=>∃ v w',(Instr.endRound l (some (.exit id))).run P w=.ok v w'/\R (.returned v) w'
 | .goto t,_,w=>∃ v w',(Instr.endRound l (some (.goto t))).run P w=.ok v w'/\R (.returned v) w'
 | .panic chain,a,w=>a.defers=[]/\R (.panicked chain) w
 | .outgrown,_,_=>False
theorem f4t {l:Nat} {f:FuncId} {tmps:Array Value} {asn body:Code} {R:Ending->World->Prop} (hf:∃ fn,P.funcs[f]?=some fn)
  (h:wpA P ⟨some l,some f⟩ asn (Exit.then (fun a1 w1=>∃ w2,(Instr.beginRound l).run P w1=.ok () w2/\wpA P ⟨some l,some f⟩ body (d9d P l R) a1 w2) (fun _ _ _=>False)) { tmps:=tmps,defers:=[] } w) :
  RoundIn Fence.wide 0 P l f tmps asn body w R:=by
 refine ⟨trivial,fun c cs hr=>?_⟩
 let b:Frame:={ (default:Frame) with fn:=f,kind:=.normal,roundOf:=some l }
 have hb0:Frame.round l f tmps asn body .normal=b.atR { tmps:=tmps,defers:=[] } [.code asn,.beginRound,.code body]:=by
  simp [Frame.round,Frame.atR,b]
 have hbf:∀ g,(⟨some l,some f⟩:RD).f=some g->b.fn=g:=fun g hg=>by cases hg;rfl
 obtain ⟨e,a1,w1,hq,harr⟩:=h b [.beginRound,.code body] (c :: cs) rfl hbf
 rw [<- hb0] at harr
 cases e with
 | normal =>
  obtain ⟨w2,hbr,hbody⟩:=hq
  have s1:StepsIn (Machine.fenced P Fence.wide) P (lone (b.atR a1 [.beginRound,.code body]) (c :: cs) w1) (lone (b.atR a1 [.code body]) (c :: cs) w2):=.one (fenced_wide P _) (stepR_beginRound rfl hbr)
  obtain ⟨e2,a2,w3,hq2,harr2⟩:=hbody b [] (c :: cs) rfl hbf
  have hs0:=StepsIn.trans harr s1
  cases e2 with
  | normal=>obtain ⟨v,w4,hend,hR⟩:=hq2;exact ⟨.returned v,w4,hR,hs0.trans (StepsIn.trans harr2 (.one (fenced_wide P _) (stepR_round_end rfl rfl hend)))⟩
  | ret=>obtain ⟨v,w4,hend,hR⟩:=hq2;obtain ⟨k1,hs⟩:=harr2.2 rfl;exact ⟨.returned v,w4,hR,hs0.trans (StepsIn.trans hs (.one (fenced_wide P _) (stepR_round_ret rfl rfl hend)))⟩
  | exit id=>obtain ⟨v,w4,hend,hR⟩:=hq2;obtain ⟨k1,hk,hs⟩:=harr2.2 rfl rfl;exact ⟨.returned v,w4,hR,hs0.trans (StepsIn.trans hs (.one (fenced_wide P _) (stepR_round_exit rfl rfl hk hend)))⟩
  | goto t=>obtain ⟨v,w4,hend,hR⟩:=hq2;obtain ⟨k1,hk,hs⟩:=harr2.2 rfl rfl;exact ⟨.returned v,w4,hR,hs0.trans (StepsIn.trans hs (.one (fenced_wide P _) (stepR_round_goto rfl rfl hk hend)))⟩
  | panic chain=>obtain ⟨hd,hR⟩:=hq2;obtain ⟨todo,hs⟩:=harr2;exact ⟨.panicked chain,w3,hR,hs0.trans (StepsIn.trans hs (.one (fenced_wide P _) (step_leave_panicked ⟨rfl,hd,hf⟩)))⟩
  | outgrown=>exact hq2.elim
 | exit id=>exact hq.elim
 | goto t=>exact hq.elim
 | ret=>exact hq.elim
 | panic chain=>exact hq.elim
 | outgrown=>exact hq.elim
end
def putAll (env:Nat->LV):List (Nat × LV)->Nat->LV
 | []=>env
 | (t,v) :: r=>putAll (upd env t v) r
theorem c7n {G:Gh} {nx:Nat} {lm:Nat->Option Nat}:∀ (ps:List Nat) (xs:List LV) (vs:List Value) (env:Nat->LV) (tmps:Array Value),LRs G nx lm xs vs->(∀ t,LR G nx lm (env t) (tmps.getD t undef))->(∀ p ∈ ps,p < tmps.size) ->
  ((ps.zip vs).foldl (fun tm (p:Nat × Value)=>tm.setIfInBounds p.1 p.2) tmps).size=tmps.size/\∀ t,LR G nx lm (putAll env (ps.zip xs) t) (((ps.zip vs).foldl (fun tm (p:Nat × Value)=>tm.setIfInBounds p.1 p.2) tmps).getD t undef)
 | [],xs,vs,env,tmps,_,he,_=>⟨rfl,he⟩
 | p :: ps,[],vs,env,tmps,hx,he,_=>by
  unfold LRs at hx;subst hx
  exact ⟨rfl,he⟩
 | p :: ps,x :: xs,vs,env,tmps,hx,he,hp=>by
  unfold LRs at hx
  obtain ⟨v,r,rfl,h1,h2⟩:=hx
  simp only [List.zip_cons_cons,List.foldl_cons,putAll]
  have hlt:=hp p (List.mem_cons_self ..)
  obtain ⟨q1,q2⟩:=c7n ps xs r (upd env p x) (tmps.setIfInBounds p v) h2 (fun t=>by
   by_cases e:t=p
   ·subst e;simp only [upd_same];simpa [hlt] using h1
   ·rw [upd_ne _ _ e]
    have:(tmps.setIfInBounds p v).getD t undef=tmps.getD t undef:=by
     simp only [Array.getD_eq_getD_getElem?,Array.getElem?_setIfInBounds_ne (Ne.symm e)]
    rw [this];exact he t) (fun q hq=>by rw [Array.size_setIfInBounds];exact hp q (List.mem_cons_of_mem _ hq))
  rw [Array.size_setIfInBounds] at q1
  exact ⟨q1,q2⟩
structure LP where
 f:FuncId
 env:Nat->LV
 nt:Nat
 ps:Array Nat
 asn:Code
 body:Code
 d:Nat
def LP.go (x:LP) (st:LoopState) (pend:Option Code):GO:=.loop x.f st pend x.env x.nt x.ps x.asn x.body x.d
def roundEnd (x:LP) (n:Nat) (H0:GH) (R:CE->GH->Prop) (s:S) (jump:Option Code):Prop :=
 ∃ st pend,s.H.obj n=some (x.go st pend)/\∃ H',Drop H0 (s.H.set n (x.go (if jump.isNone then .ready else .done) jump)) H'/\R (.ret (bool jump.isNone)) H'
def f4s (x:LP) (n:Nat) (H0:GH) (R:CE->GH->Prop):AE->S->Prop
 | .normal,s=>roundEnd x n H0 R s none
 | .ret,s=>roundEnd x n H0 R s (some .ret)
 | .exit i,s=>roundEnd x n H0 R s (some (.exit i))
 | .goto l,s=>roundEnd x n H0 R s (some (.goto l))
 | .pan v,s=>s.df=[]/\∃ H',Drop H0 s.H H'/\v.nb H'.next/\R (.pan v) H'
theorem d6b {G:Gh} {lm:Nat->Option Nat} {L:Nat->Option (List LV)} {H:GH} {w:World} (hM:MR G lm L H w) {n:Nat} {x:LP} {st:LoopState} {pend:Option Code} (hn:H.obj n=some (x.go st pend)) :
  n < H.next/\x.d < H.next/\G.own (G.nm n)=.nm n/\∃ tmps,w.heap[G.nm n]?=some (.loop ⟨st,pend,x.f,tmps,x.ps,x.asn,x.body,G.nm x.d⟩)/\tmps.size=x.nt/\∀ t,LR G H.next noL (x.env t) (tmps.getD t undef):=by
 obtain ⟨h1,h2,h3,tmps,h4,h5,h6⟩:=hM.nmd n _ hn
 exact ⟨h1,h2,h3,tmps,h4,h5,h6⟩
theorem run_getLoop {P:Program} {w:World} {l:Nat} {r:Loop} (h:w.heap[l]?=some (.loop r)):(Instr.getLoop l).run P w=.ok r w:=by
 simp [Instr.getLoop,getObj,Sem.run,h]
theorem b4g {P:Program} {w:World} {l:Nat} {r:Loop} {o':Obj} (h:w.heap[l]?=some (.loop r)):(setObj l o').run P w=.ok () (setB w l o'):=by
 simp [setObj,Sem.run,h,setB]
theorem c4j {G:Gh} {lm:Nat->Option Nat} {L:Nat->Option (List LV)} {H:GH} {w:World} {E:Ent} (hM:MR G lm L H w) (hx:Ext E G H w) {n:Nat} {x:LP} {st:LoopState} {pend:Option Code} (hn:H.obj n=some (x.go st pend)) (st':LoopState) (pend':Option Code) :
  ∃ tmps,w.heap[G.nm n]?=some (.loop ⟨st,pend,x.f,tmps,x.ps,x.asn,x.body,G.nm x.d⟩) /\
   MR G lm L (H.set n (x.go st' pend')) (setB w (G.nm n) (.loop ⟨st',pend',x.f,tmps,x.ps,x.asn,x.body,G.nm x.d⟩))/\Ext E G (H.set n (x.go st' pend')) (setB w (G.nm n) (.loop ⟨st',pend',x.f,tmps,x.ps,x.asn,x.body,G.nm x.d⟩)):=by
 obtain ⟨h1,h2,h3,tmps,h4,h5,h6⟩:=d6b hM hn
 have hl:=heap_lt h4
 refine ⟨tmps,h4,?_,?_⟩
 ·refine hM.a3b n hn _ _ h3 (by intro e sz m q;cases q) (by intro e sz m q;cases q) ⟨h2,h3,tmps,?_,h5,h6⟩
  rw [a2j,if_pos ⟨rfl,hl⟩]
 ·exact hx.a3b hM n _ _ h3
theorem a2v.f2w {P:Program} {n:Nat} {x:LP} {args:List LV} {H:GH} {R:CE->GH->Prop} (hn:H.obj n=some (x.go .ready none)) (hf:∃ fn,P.funcs[x.f]?=some fn) (hl:args.length=x.ps.size) (hps:∀ p ∈ x.ps.toList,p < x.nt)
  (h:(∀ m,H.next<=m->H.obj m=none)->∀ l,AWp P ⟨some l,some x.f⟩ x.asn ⟨putAll x.env (x.ps.toList.zip args),noS,H,x.nt,[]⟩
   (e1v (fun s1=>s1.H.obj n=some (x.go .ready none)/\AWp P ⟨some l,some x.f⟩ x.body { s1 with H:=s1.H.set n (x.go .busy none) } (f4s x n H R)) (fun _ _=>False))):a2v P n args H R:=by
 intro G w vs hM hNL hargs
 have hnone:∀ m,H.next<=m->H.obj m=none:=fun m hm=>by
  cases ho:H.obj m with
  | none=>rfl
  | some o=>have:=(hM.nmd m o ho).1;omega
 obtain ⟨h1,h2,h3,tmps,h4,h5,h6⟩:=d6b hM hn
 have hlen:=a0u hargs
 refine ⟨x.f,(x.ps.toList.zip vs).foldl (fun tm (p:Nat × Value)=>tm.setIfInBounds p.1 p.2) tmps,x.asn,x.body,?_,?_⟩
 ·have hsz:vs.toArray.size=x.ps.size:=by simp only [List.size_toArray];omega
  simp only [Instr.yield,Sem.run_bind,run_getLoop h4,Result.andThen_ok,hsz,ne_eq,not_true_eq_false,if_false]
  have e:(x.ps.zip vs.toArray).foldl (fun tmps x=>tmps.setIfInBounds x.1 x.2) tmps=(x.ps.toList.zip vs).foldl (fun tm (p:Nat × Value)=>tm.setIfInBounds p.1 p.2) tmps:=by
   rw [<- Array.foldl_toList,Array.toList_zip]
  rw [<- e]
  rfl
 ·obtain ⟨q1,q2⟩:=c7n x.ps.toList args vs x.env tmps hargs h6 (fun p hp=>by rw [h5];exact hps p hp)
  have hE:∀ m o,H.obj m=some o->OR G H.next w m o:=fun m o ho=>(hM.nmd m o ho).2
  refine f4t hf (a4a (h hnone (G.nm n) ⟨G,H,w⟩ { tmps:=_,defers:=[] } w ⟨by rw [q1,h5],G,noL,rfl,hM,Ext.refl G H w hNL,q2,rfl⟩) ?_)
  rintro e a1 w1 ⟨ae,s1,q,r⟩
  cases ae with
  | normal =>
   obtain ⟨rfl,g2,G1,lm1,g1,hM1,hx1,henv1,_⟩:=r.normal
   obtain ⟨hn1,hbody⟩:=q
   obtain ⟨tm1,c1,c2,c3⟩:=c4j hM1 hx1 hn1 .busy none
   have hnm:G1.nm n=G.nm n:=hx1.le.nm n h1
   rw [hnm] at c1 c2 c3
   refine ⟨_,?_,a4a (hbody ⟨G,H,w⟩ a1 _ ⟨g2,G1,lm1,g1,c2,c3,henv1,rfl⟩) ?_⟩
   ·simp only [Instr.beginRound,Sem.run_bind,run_getLoop c1,Result.andThen_ok,b4g c1]
    rfl
   ·rintro e a2 w2 ⟨ae,s2,q,r⟩
    obtain ⟨g2,G2,lm2,g1,hM2,hx2,henv2,hex⟩:=r
    have hnm2:G2.nm n=G.nm n:=hx2.le.nm n h1
    have fin:∀ jump,roundEnd x n H R s2 jump->∃ v w',(Instr.endRound (G.nm n) jump).run P w2=.ok v w'/\e1l G H w R (.returned v) w':=by
     rintro jump ⟨st,pend,hn2,H',hd,hR⟩
     obtain ⟨tm2,d1,d2,d3⟩:=c4j hM2 hx2 hn2 (if jump.isNone then .ready else .done) jump
     rw [hnm2] at d1 d2 d3
     obtain ⟨e1,e2,e3⟩:=c0i d2 (E:=⟨G,H,w⟩) hE hNL d3 hd
     refine ⟨.bool jump.isNone,_,?_,_,H',_,hR,⟨_,rfl,?_⟩,e1,e2,e3⟩
     ·simp only [Instr.endRound,Sem.run_bind,run_getLoop d1,Result.andThen_ok,b4g d1]
      rfl
     ·unfold bool;exact d3v
    cases ae with
    | normal=>cases hex;exact fin none q
    | ret=>cases hex;exact fin _ q
    | exit i=>cases hex;exact fin _ q
    | goto l=>cases hex;exact fin _ q
    | pan x =>
     obtain ⟨v,rfl,hv⟩:=hex
     obtain ⟨hdf,H',hd,hnb,hR⟩:=q
     rw [hdf] at g1
     obtain ⟨e1,e2,e3⟩:=c0i hM2 (E:=⟨G,H,w⟩) hE hNL hx2 hd
     refine ⟨g1,_,H',_,hR,⟨v,rfl,?_⟩,e1,e2,e3⟩
     exact c6i (a6d _ _ hv hnb)
  | exit i=>exact q.elim
  | goto l=>exact q.elim
  | ret=>exact q.elim
  | pan x=>exact q.elim
def c8s (Q:AE->S->Prop) (s:S):Option Code->Prop
 | none=>Q .normal s
 | some .ret=>Q .ret s
 | some (.exit i)=>Q (.exit i) s
 | some (.goto l)=>Q (.goto l) s
 | _=>False
def f0z (x:LP) (n:Nat) (s:S) (Q:AE->S->Prop):CE->GH->Prop
 | .ret _,H'=>∃ st pend,H'.obj n=some (x.go st pend)/\st ≠ .busy/\c8s Q { s with H:=H'.set n (x.go .exhausted pend),df:=.mark x.d :: s.df } pend
 | .pan v,H'=>Q (.pan v) { s with H:=H',df:=.mark x.d :: s.df }
theorem b4q {n:Nat}:∀ {a b:List LV},nbs n (a ++ b)=(nbs n a/\nbs n b)
 | [],b=>by simp [nbs]
 | x :: a,b=>by simp [nbs,b4q (a:=a) (b:=b),and_assoc]
theorem c5v {n:Nat}:∀ {es:List (Nat × LV)},allL (fun p=>p.2.nb n) es->∀ t,(envL es t).nb n
 | [],_,t=>by simp [LV.nb]
 | (j,v) :: r,h,t=>by
  rw [envL_cons]
  by_cases e:t=j
  ·rw [if_pos e];exact h.1
  ·rw [if_neg e];exact c5v h.2 t
theorem e5k {G:Gh} {nx:Nat} {lm:Nat->Option Nat} {env:Nat->LV} {tm:Nat->Value} (he:∀ t,LR G nx lm (env t) (tm t)):∀ {es:List (Nat × LV)},allL (fun p=>env p.1=p.2) es->∀ t,LR G nx lm (envL es t) (tm t)
 | [],_,t=>by simp [LR]
 | (j,v) :: r,h,t=>by
  rw [envL_cons]
  by_cases e:t=j
  ·rw [if_pos e,e];have:=he j;rw [h.1] at this;exact this
  ·rw [if_neg e];exact e5k he h.2 t
theorem AWp.rangeFunc {P:Program} {rd:RD} {s:S} {Q:AE->S->Prop} {f0:FuncId} (hr:rd.r=none) (hf0:rd.f=some f0) {g:Operand} {ps:Array Tmp} {asn body:Code} {f:FuncId} {first cap:List LV}
  (hg:a1k (s.arg g)=some (f,first,cap)) (hgp:s.argP g) (es:List (Nat × LV)) (hes:allL (fun p=>s.env p.1=p.2) es) (hen:allL (fun p=>p.2.nb s.H.next) es) (hnb:nbs s.H.next (first ++ cap))
  (h:a0j P f (first ++ [.yl (s.H.next+1)] ++ cap) ((s.H.add .dfr).add ((⟨f0,envL es,s.nt,ps,asn,body,s.H.next⟩:LP).go .ready none)) (f0z ⟨f0,envL es,s.nt,ps,asn,body,s.H.next⟩ (s.H.next+1) s Q)):AWp P rd (.rangeFunc g ps asn body) s Q:=by
 intro E a w hs
 obtain ⟨g2,G,lm,g1,hM,hx,henv,_⟩:=hs
 have hfo:=a0q henv g hgp
 obtain ⟨x,hxe⟩:∃ x,s.arg g=x:=⟨_,rfl⟩
 rw [hxe] at hg hfo
 unfold a1k at hg
 split at hg
 ·rename_i f' first' cap'
  cases hg
  unfold LR at hfo
  obtain ⟨fs,cs,e1,l1,l2⟩:=hfo
  -- the block of the deferred calls
  have le1:=b8m (G:=G) s.H.next w.heap.size
  have hM1:=hM.c0h .dfr (.deferred (some [])) (by simp) (by
   refine ⟨by simp [nmG],?_⟩
   simp only [nmG,upd_same]
   rw [a1t,if_pos rfl])
  have hx1:=hx.c0h hM .dfr (.deferred (some []))
  have env1:∀ t,LR (nmG G s.H.next w.heap.size) (s.H.next+1) lm (s.env t) (a.tmps.getD t undef):=fun t=>a0v (Nat.le_succ _) le1 (fun _ _ e=>e) _ _ (henv t)
  generalize hG1:nmG G s.H.next w.heap.size=G1 at hM1 hx1 env1 le1
  generalize hw1:w.alloc (.deferred (some []))=w1 at hM1 hx1
  have hd1:G1.nm s.H.next=w.heap.size:=by rw [<- hG1];simp [nmG]
  have hsz1:w1.heap.size=w.heap.size+1:=by rw [<- hw1];exact Array.size_push _
  -- the record
  have le2:=b8m (G:=G1) (s.H.next+1) w1.heap.size
  have henvL:∀ t,LR (nmG G1 (s.H.next+1) w1.heap.size) (s.H.next+1+1) noL (envL es t) (a.tmps.getD t undef):=fun t =>
   a0v (Nat.le_succ _) le2 (fun _ _ e=>e) _ _ (a0v (Nat.le_succ _) le1 (fun _ _ e=>e) _ _ (a6d _ _ (e5k henv hes t) (c5v hen t)))
  have hM2:=hM1.c0h ((⟨f0,envL es,s.nt,ps,asn,body,s.H.next⟩:LP).go .ready none) (.loop ⟨.ready,none,f0,a.tmps,ps,asn,body,w.heap.size⟩) (by intro e sz m q;cases q) (by
   refine ⟨by simp only [GH.add];omega,by simp [nmG,GH.add],a.tmps,?_,g2,henvL⟩
   simp only [nmG,GH.add,upd_same]
   rw [a1t,if_pos rfl,upd_ne _ _ (by omega),hd1])
  have hx2:=hx1.c0h hM1 ((⟨f0,envL es,s.nt,ps,asn,body,s.H.next⟩:LP).go .ready none) (.loop ⟨.ready,none,f0,a.tmps,ps,asn,body,w.heap.size⟩)
  have env2:∀ t,LR (nmG G1 (s.H.next+1) w1.heap.size) (s.H.next+1+1) lm (s.env t) (a.tmps.getD t undef):=fun t=>a0v (Nat.le_succ _) le2 (fun _ _ e=>e) _ _ (env1 t)
  have le12:G.le s.H.next (nmG G1 (s.H.next+1) w1.heap.size):=Gh.le_trans (Nat.le_succ _) le1 le2
  have hd2:(nmG G1 (s.H.next+1) w1.heap.size).nm s.H.next=w.heap.size:=by simp only [nmG];rw [upd_ne _ _ (by omega),hd1]
  have hn2:(nmG G1 (s.H.next+1) w1.heap.size).nm (s.H.next+1)=w1.heap.size:=by simp [nmG]
  change MR (nmG G1 (s.H.next+1) w1.heap.size) lm s.L _ _ at hM2
  change Ext E (nmG G1 (s.H.next+1) w1.heap.size) _ _ at hx2
  generalize hG2:nmG G1 (s.H.next+1) w1.heap.size=G2 at hM2 hx2 env2 le12 hd2 hn2
  generalize hw2:w1.alloc (.loop ⟨.ready,none,f0,a.tmps,ps,asn,body,w.heap.size⟩)=w2 at hM2 hx2
  have henter:(Instr.enterLoop f0 a.tmps ps asn body rd.r).run P w=.ok (w1.heap.size,[⟨.collected w.heap.size,#[]⟩]) w2:=by
   simp only [hr,Instr.enterLoop,Sem.run_bind,run_newObj_alloc,Result.andThen,Sem.run_pure,hw1,hw2]
  have hres:(resolve a.eval (rangeCall g w1.heap.size) 0).run P w2=.ok ⟨.fn (.func f) cs.toArray,(fs ++ [Value.func (.yield w1.heap.size) #[] #[]]).toArray⟩ w2:=by
   simp only [resolve,rangeCall]
   simp only [e1,Deferred.ofValue]
   simp [Act.eval]
  have hinv:(invoke (.fn (.func f) cs.toArray) (fs ++ [Value.func (.yield w1.heap.size) #[] #[]]).toArray).run P w2=.ok (.enter f (fs ++ [Value.func (.yield w1.heap.size) #[] #[]] ++ cs).toArray) w2:=by
   simp only [invoke]
   have:=h.1 ((fs ++ [Value.func (.yield w1.heap.size) #[] #[]]).toArray ++ cs.toArray) w2
   rw [this];simp
  have hall:LRs G2 (s.H.next+1+1) lm (first ++ [.yl (s.H.next+1)] ++ cap) (fs ++ [Value.func (.yield w1.heap.size) #[] #[]] ++ cs):=by
   refine a2g (a2g (a1d (by omega) le12 (fun _ _ e=>e) _ _ l1) ?_) (a1d (by omega) le12 (fun _ _ e=>e) _ _ l2)
   unfold LRs LR LRs
   exact ⟨_,_,rfl,⟨by omega,by rw [hn2]⟩,rfl⟩
  have hnb2:nbs (s.H.next+1+1) (first ++ [.yl (s.H.next+1)] ++ cap):=by
   have:nbs (s.H.next+1+1) (first ++ cap):=a2w (by omega) _ hnb
   rw [b4q] at this |-
   rw [b4q]
   exact ⟨⟨this.1,by simp [nbs,LV.nb]⟩,this.2⟩
  obtain ⟨hMc,hNLc⟩:=c6g hM2
  have hcall:=h.2 (a6b G2) w2 _ hMc hNLc (a1d (Nat.le_refl _) (a8n _ G2) (fun _ _ e=>e) _ _ (a2a _ _ hall hnb2))
  refine c4b hf0 henter hres hinv (Calls.mono hcall fun e w3 hq=>?_)
  obtain ⟨ce,H3,G3,hRc,hEnd,hM3,hNL3,hx3⟩:=hq
  obtain ⟨hMb,hxb,hle⟩:=c6h hM2 hx2 hM3 hNL3 hx3
  have hnx3:s.H.next+1+1<=H3.next:=hx3.nx
  have env3:∀ t,LR (a8o G2 G3) H3.next lm (s.env t) (a.tmps.getD t undef):=fun t=>a0v hnx3 hle (fun _ _ e=>e) _ _ (env2 t)
  have hdf:DFRs (a8o G2 G3) H3.next (.mark s.H.next :: s.df) (⟨.collected w.heap.size,#[]⟩ :: a.defers) :=
   ⟨_,_,rfl,⟨by omega,by rw [hle.nm _ (by simp only [GH.add];omega),hd2]⟩,a1g (by omega) (Gh.le_trans (nx':=s.H.next+1+1) (by omega) le12 hle) _ _ g1⟩
  cases ce with
  | ret v =>
   obtain ⟨v',rfl,hv⟩:=hEnd
   obtain ⟨st,pend,o1,o2,o3⟩:=hRc
   obtain ⟨tm,c1,c2,c3⟩:=c4j hMb hxb o1 .exhausted pend
   have hnm:(a8o G2 G3).nm (s.H.next+1)=w1.heap.size:=by rw [hle.nm _ (by simp only [GH.add];omega),hn2]
   rw [hnm] at c1 c2 c3
   have hS:∀ ae e,(∀ G nx,ExR G nx ae e)->SimX E ae { s with H:=H3.set (s.H.next+1) ((⟨f0,envL es,s.nt,ps,asn,body,s.H.next⟩:LP).go .exhausted pend),df:=.mark s.H.next :: s.df } e { a with defers:=⟨.collected w.heap.size,#[]⟩ :: a.defers } _ :=
    fun ae e he=>⟨g2,a8o G2 G3,lm,hdf,c2,c3,env3,he _ _⟩
   refine ⟨pend,setB w3 w1.heap.size (.loop ⟨.exhausted,pend,f0,tm,ps,asn,body,(a8o G2 G3).nm s.H.next⟩),?_,?_⟩
   ·simp only [Instr.endLoop,Sem.run_bind,run_getLoop c1,Result.andThen_ok]
    have:(st == LoopState.busy)=false:=by cases st <;> first | rfl | exact absurd rfl o2
    simp only [this,Bool.false_eq_true,if_false,Sem.run_bind,Sem.run_pure,b4g c1,Result.andThen_ok]
   ·unfold c8s at o3
    split at o3
    ·exact ⟨.normal,_,o3,hS _ _ fun _ _=>rfl⟩
    ·exact a2m (wpIn_ret ⟨.ret,_,o3,hS _ _ fun _ _=>rfl⟩)
    ·exact a2m (wpIn_exit ⟨.exit _,_,o3,hS _ _ fun _ _=>rfl⟩)
    ·exact a2m (wpIn_goto ⟨.goto _,_,o3,hS _ _ fun _ _=>rfl⟩)
    ·exact o3.elim
  | pan v =>
   obtain ⟨v',rfl,hv⟩:=hEnd
   refine ⟨.pan v,_,hRc,g2,a8o G2 G3,lm,hdf,hMb,hxb,env3,v',rfl,?_⟩
   exact a0v (Nat.le_refl _) (a6o _ G2 G3) (fun _ _ e=>e) _ _ hv
 ·cases hg
end Go.Aft
