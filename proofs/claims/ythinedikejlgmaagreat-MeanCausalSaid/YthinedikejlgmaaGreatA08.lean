import Derived.Test.YthinedikejlgmaaGreatA07
import Derived.Maps.RangeRun
import Derived.RangeFuncRecord
set_option linter.all false
namespace Go.Aft
section
variable {P:Program} {rd:RD} {c:Cx} {E:tL} {s:S} {a:Act} {w:World} {o:Oper} {K:S->Prop} {Q:AE->S->Prop} {next:Act->World->Prop}
theorem wC{G:Gh}{lm:Nat->Option Nat}{nx:Nat}(h:∀t,LR G nx lm (s.env t) (a.tmps.getD t undef)):∀l:List Operand,jc (l.map s.aI)->bH G nx lm (l.map s.arg) (l.map a.eval)
 |[],_=>by simp[bH]
 |o::l,hp=>by
  simp only[List.map_cons]at hp|-;unfold bH;exact⟨_,_,rfl,aW h o hp.1,wC h l hp.2⟩
theorem kf{rd:Option Nat}{n:Next}{w':World}(h:(execOp a.eval o).run P w=.ok n w')(hn:∀d,n≠ .defer d):(o.semAt rd a.eval).run P w=.ok n w':=by
 by_cases hd:∃c,o.op=.defer c
 ·obtain⟨c,hc⟩:=hd;exfalso;simp only[execOp,hc,Sem.run_bind]at h;cases hr:(resolve a.eval c o.type).run P w with
  |ok d w1=>rw[hr]at h;simp only[Result.andThen_ok,Sem.run_pure]at h;cases h;exact hn _ rfl
  |halt x w1=>rw[hr]at h;simp only[Result.andThen]at h;cases h
 ·rw[Oper.semAt_eq rd _ _ λc hc=>hd ⟨c,hc⟩];exact h
theorem Kg{f:FuncId}{args:Array Value}{R:Ending->World->Prop}{n:Nat}(h:Calls P f args w R):CallsIn (tI rd) n P f args w R:=callsIn_wide.2 h
theorem kG{next:Act->World->Prop}{Q':Exit->Act->World->Prop}{r:vo}(h:bT P E s o a w r)(hk:∀s' a' w',s'=(s.kD o.dst r.kD).put o.dst r.v->cF E s' a' w'->next a' w'):o.wpIn (tI rd) 0 P a w next Q':=by
 obtain⟨n,v',w',h1,h2,h3⟩:=h;refine⟨λ_ _=>trivial,?_⟩
 rw[kf h1 (by rcases h2 with rfl|⟨rfl,rfl⟩<;>(intro d e;cases e))]
 rcases h2 with rfl|⟨rfl,rfl⟩
 ·exact hk _ _ _ rfl h3
 ·exact hk _ _ _ rfl h3
theorem Kh{fo:Operand}{args:Array Operand}{tys:Array TypeId}{f:FuncId}{first cap:List LV}(ho:o.op=.call ⟨.value fo,args,tys⟩)(hf:cE (s.arg fo)=some (f,first,cap))(hp:s.aI fo)(hq:jc (args.toList.map s.aI))
  (hnb:cD s.H.next (first++args.toList.map s.arg++cap)) (hs:cF E s a w) (aN:∀t,o.dst=some t->t<s.nt) {R:CE->GH->Prop} (hc:aG P f (first++args.toList.map s.arg++cap) s.H R)
  (hR:∀v H' a' w',R (.ret v) H'->s.H.next<=H'.next->cF E (({s with H:=H'}:S).put o.dst v) a' w'->next a' w') (Sr:∀x H',R (.ej x) H'->Q (.ej x) {s with H:=H'}):o.wpIn (tI rd) 0 P a w next (AQ E Q):=by
 obtain⟨g2,G,lm,g1,hM,hx,aK,_⟩:=hs;have hfo:=aW aK fo hp;obtain⟨x,dc⟩:∃x,s.arg fo=x:=⟨_,rfl⟩;rw[dc]at hf hfo;unfold cE at hf
 split at hf
 ·rename_i f' first' cap'
  cases hf;unfold LR at hfo;obtain⟨fs,cs,e1,l1,l2⟩:=hfo;have hargs:=wC aK args.toList hq;have hall:=eF (eF l1 hargs) l2;have hrun:(execOp a.eval o).run P w=.ok (.enter f (fs++args.toList.map a.eval++cs).toArray) w:=by
   simp only[execOp,ho,resolve];simp only[e1,Deferred.ofValue];have:=hc.1 ((fs.toArray++args.map a.eval)++cs.toArray) w;simp only[bind,pure,Sem.bind,invoke];rw[this]
   congr 2
   apply Array.ext';simp
  obtain⟨hM2,qd⟩:=zM hM;have JG:bH (iq G) s.H.next ix (first++args.toList.map s.arg++cap) (fs++args.toList.map a.eval++cs):=
   ca (Nat.le_refl _) (ng _ G) (λ_ _ e=>e) _ _ (dm _ _ hall hnb)
  have gY:=hc.2 (iq G) w _ hM2 qd JG;refine⟨λ_ _=>trivial,?_⟩
  rw[kf hrun (λd e=>by cases e)]
  refine⟨λe=>(by cases e),Kg (Calls.mono gY λe w2 Ue=>?_)⟩
  obtain⟨ce,H2,G2,YS,JH,hMc,SL,Sh⟩:=Ue;obtain⟨zq,NG,hle⟩:=zN hM hx hMc SL Sh;have BC:=ic (s:=s) (a:=a) Sh.nx hle (λ_ _ e=>e) aK
  cases ce with
  |ret v=>
   obtain⟨v',rfl,hv⟩:=JH;refine hR v H2 _ _ YS Sh.nx ?_;exact cF.mk' (L':=s.L) (H':=H2) g2 (ct Sh.nx hle _ _ g1) zq NG BC (bF (Nat.le_refl _) (lz _ G G2) (λ_ _ e=>by cases e) _ _ hv) aN
  |ej x=>
   obtain⟨v',rfl,hv⟩:=JH;refine⟨.ej x,{s with H:=H2},Sr x H2 YS,g2,jK G G2,lm,ct Sh.nx hle _ _ g1,zq,NG,BC,v',rfl,?_⟩
   exact bF (Nat.le_refl _) (lz _ G G2) (λ_ _ e=>e) _ _ hv
 ·cases hf
theorem Gp{fo:Operand}{args:Array Operand}{tys:Array TypeId}{f:FuncId}{first cap:List LV}(ho:o.op=.call ⟨.value fo,args,tys⟩)(hf:cE (s.arg fo)=some (f,first,cap))(hp:s.aI fo)(hq:jc (args.toList.map s.aI))
  (hnb:cD s.H.next (first++args.toList.map s.arg++cap)) (hs:cF E s a w) (aN:∀t,o.dst=some t->t<s.nt) {R:CE->GH->Prop} (hc:aG P f (first++args.toList.map s.arg++cap) s.H R)
  (hR:∀v H' a' w',R (.ret v) H'->cF E (({s with H:=H'}:S).put o.dst v) a' w'->next a' w') (Sr:∀x H',R (.ej x) H'->Q (.ej x) {s with H:=H'}):o.wpIn (tI rd) 0 P a w next (AQ E Q):=
 Kh ho hf hp hq hnb hs aN hc (λv H' a' w' h _ hS=>hR v H' a' w' h hS) Sr
theorem QW{fo:Operand}{args:Array Operand}{tys:Array TypeId}{n:Nat}(ho:o.op=.call ⟨.value fo,args,tys⟩)(hf:s.arg fo=.yl n)(hp:s.aI fo)(hq:jc (args.toList.map s.aI))
  (hnb:cD s.H.next (args.toList.map s.arg)) (hs:cF E s a w) (aN:∀t,o.dst=some t->t<s.nt) {R:CE->GH->Prop} (hc:ei P n (args.toList.map s.arg) s.H R)
  (hR:∀v H' a' w',R (.ret v) H'->s.H.next<=H'.next->cF E (({s with H:=H'}:S).put o.dst v) a' w'->next a' w') (Sr:∀x H',R (.ej x) H'->Q (.ej x) {s with H:=H'}):o.wpIn (tI rd) 0 P a w next (AQ E Q):=by
 obtain⟨g2,G,lm,g1,hM,hx,aK,_⟩:=hs;have hfo:=aW aK fo hp;rw[hf]at hfo;unfold LR at hfo;have hargs:=wC aK args.toList hq;obtain⟨hM2,qd⟩:=zM hM;have JG:bH (iq G) s.H.next ix (args.toList.map s.arg) (args.toList.map a.eval):=
  ca (Nat.le_refl _) (ng _ G) (λ_ _ e=>e) _ _ (dm _ _ hargs hnb)
 obtain⟨fn,tmps,lR,body,ay0,aa8⟩:=hc (iq G) w _ hM2 qd JG;have hrun:(execOp a.eval o).run P w=.ok (.round (G.nm n) fn tmps lR body) w:=by
  simp only[execOp,ho,resolve];simp only[hfo.2,Deferred.ofValue];have e:#[]++args.map a.eval=(args.toList.map a.eval).toArray:=by apply Array.ext';simp
  simp only[bind,pure,Sem.bind,invoke];rw[e];exact ay0
 refine⟨λ_ _=>trivial,?_⟩
 rw[kf hrun (λd e=>by cases e)]
 refine⟨λe=>(by cases e),RoundIn.mono (F:=tI rd) aa8 λe w2 Ue=>?_⟩
 obtain⟨ce,H2,G2,YS,JH,hMc,SL,Sh⟩:=Ue;obtain⟨zq,NG,hle⟩:=zN hM hx hMc SL Sh;have BC:=ic (s:=s) (a:=a) Sh.nx hle (λ_ _ e=>e) aK
 cases ce with
 |ret v=>
  obtain⟨v',rfl,hv⟩:=JH;refine hR v H2 _ _ YS Sh.nx ?_;exact cF.mk' (L':=s.L) (H':=H2) g2 (ct Sh.nx hle _ _ g1) zq NG BC (bF (Nat.le_refl _) (lz _ G G2) (λ_ _ e=>by cases e) _ _ hv) aN
 |ej x=>
  obtain⟨v',rfl,hv⟩:=JH;refine⟨.ej x,{s with H:=H2},Sr x H2 YS,g2,jK G G2,lm,ct Sh.nx hle _ _ g1,zq,NG,BC,v',rfl,?_⟩
  exact bF (Nat.le_refl _) (lz _ G G2) (λ_ _ e=>e) _ _ hv
theorem Jg{G:Gh}{nx:Nat}{lm:Nat->Option Nat}{k:Value}(h:oS k=true):LR G nx lm (oT k) k:=by
 unfold oT oS at*
 split
 ·rename_i vs;simp only[List.all_eq_true]at h;unfold LR;exact⟨vs.toList,by simp,w9 h⟩
 ·rename_i hne
  split at h
  ·rename_i vs;exact absurd rfl (hne vs)
  ·unfold LR DR;exact⟨rfl,h⟩
theorem VC{G:Gh}{nx:Nat}{lm:Nat->Option Nat}{x y z:LV}{u v t:Value}(h1:LR G nx lm x u)(h2:LR G nx lm y v)(h3:LR G nx lm z t):LR G nx lm (.dh [x,y,z]) (.tuple #[u,v,t]):=by
 unfold LR bH bH bH bH;exact⟨[u,v,t],rfl,_,_,rfl,h1,_,_,rfl,h2,_,_,rfl,h3,rfl⟩
theorem VD{G:Gh}{nx:Nat}{lm:Nat->Option Nat}{x y:LV}{u v:Value}(h1:LR G nx lm x u)(h2:LR G nx lm y v):LR G nx lm (.dh [x,y]) (.tuple #[u,v]):=by
 unfold LR bH bH bH;exact⟨[u,v],rfl,_,_,rfl,h1,_,_,rfl,h2,rfl⟩
theorem Gq{G:Gh}{nx:Nat}{lm:Nat->Option Nat}{b:Bool}:LR G nx lm (.d (.k (.bool b))) (.bool b):=by unfold LR DR;exact⟨rfl,rfl⟩
theorem J2{G:Gh}{nx:Nat}{es:List (Value×LV)}{xs:List MapEntry}{c:Nat}(h:KM G nx es xs c){i:Nat}{e:Value×LV}(he:es[i]?=some e):∃x,xs[i]?=some x/\x.key=e.1/\x.born=i/\LR G nx ix e.2 x.val:=by
 obtain⟨h1,h2,h3,h4⟩:=h;have hl:xs.length=es.length:=by have:=congrArg List.length h1;simpa using this
 have hi:=(List.getElem?_eq_some_iff.1 he).1;have hx:xs[i]?=some (xs[i]'(by omega)):=List.getElem?_eq_getElem (by omega)
 refine⟨_,hx,?_,?_,?_⟩
 ·have:=congrArg (λl=>l[i]?) h1
  simp only[List.getElem?_map,hx,he,Option.map_some]at this;exact Option.some.inj this
 ·have:=congrArg (λl=>l[i]?) h3
  simp only[List.getElem?_map,hx,Option.map_some,List.getElem?_range (show i<xs.length by omega)]at this
  exact Option.some.inj this
 ·obtain⟨v,q1,q2⟩:=kM h2 i e.2 (by simp[he])
  simp only[List.getElem?_map,hx,Option.map_some]at q1;cases q1;exact q2
theorem Rs{T k' e':TypeId}{d:aU}{x:Operand}{m:Nat}{es:List (Value×LV)}(hok:d.ok P T)(hk:d.k=.map k' e')(ho:o.op=.range T x)(hx:s.arg x=.gm m)(hn:s.H.obj m=some (.map es))(hp:s.aI x)(hs:cF E s a w)(aN:∀t,o.dst=some t->t<s.nt)
  (hk':∀a' w',cF E (({s with H:=s.H.add (.iter m es.length [] es.length)}:S).put o.dst (.gp s.H.next 0)) a' w'->next a' w'):o.wpIn (tI rd) 0 P a w next (AQ E Q):=by
 obtain⟨g2,G,lm,g1,hM,uQ,aK,_⟩:=hs;have hv:=aW aK x hp;rw[hx]at hv;unfold LR at hv;obtain⟨desc,u1,u2⟩:=hok.u;rw[hk]at u2;cases desc<;>simp only[TK.ok]at u2;obtain⟨hlt,hown,xs,c,hb,hR⟩:=nJ hM hn;have hl:xs.length=es.length:=by have:=congrArg List.length hR.1;simpa using this
 have hc:c=es.length:=by rw[hR.2.2.2,hl]
 subst hc;have dL:(getObj (G.nm m)).run P w=.ok (.map xs.toArray es.length) w:=MapKept.run_getObj_map hb;have hle:=uH (G:=G) s.H.next w.heap.size;have zu:=hM.sI (.iter m es.length [] es.length) (.mapIter (some (G.nm m)) es.length #[] es.length) (by simp) (by
  refine⟨Nat.lt_succ_of_lt hlt,by simp[tc],?_⟩
  simp only[tc,eG];rw[dg,if_pos rfl,aX _ _ (by omega)])
 have hrun:(execOp a.eval o).run P w=.ok (.value (.pointer (some ⟨w.heap.size,0,none⟩))) (w.alloc (.mapIter (some (G.nm m)) es.length #[] es.length)):=by
  simp[execOp,ho,Instr.range,run_underlying u1,hv.2,dL,run_newObj_alloc]
 refine⟨λ_ _=>trivial,?_⟩
 rw[kf hrun (λd e=>by cases e)]
 refine hk' _ _ (cF.mk' (L':=s.L) (H':=s.H.add _) g2 (ct (Nat.le_succ _) hle _ _ g1) zu (uQ.sI hM _ _) (ic (Nat.le_succ _) hle (λ_ _ e=>e) aK) ?_ aN)
 unfold LR;exact⟨Nat.lt_succ_self _,by simp[tc]⟩
theorem Jh{G:Gh}{lm:Nat->Option Nat}{L:Nat->Option (List LV)}{H:GH}(hM:MR G lm L H w){n m since last:Nat}{seen:List Nat}(hn:H.obj n=some (.iter m since seen last)):
  n<H.next/\m<H.next/\G.own (G.nm n)=.nm n/\w.heap[G.nm n]?=some (.mapIter (some (G.nm m)) since seen.toArray last):=by
 obtain⟨h1,h2,h3,h4⟩:=hM.iC n _ hn;exact⟨h1,h2,h3,h4⟩
theorem V1{x:Operand}{n m since last:Nat}{seen:List Nat}{es:List (Value×LV)}(ho:o.op=.next x false)(hx:s.arg x=.gp n 0)(hn:s.H.obj n=some (.iter m since seen last))(hm:s.H.obj m=some (.map es))(hp:s.aI x)(h1:since=es.length)(h2:last=es.length)
  (hkey:∀e∈es,oS e.1=true) (hs:cF E s a w) (aN:∀t,o.dst=some t->t<s.nt)
  (yC:∀i e,es[i]?=some e->i∉seen->∀a' w',cF E (({s with H:=s.H.set n (.iter m since (seen++[i]) es.length)}:S).put o.dst (.dh [.d (.k (.bool true)),oT e.1,e.2])) a' w'->next a' w')
  (hend:(∀i,i<es.length->i∈seen)->∀a' w',cF E (s.put o.dst (.dh [.d (.k (.bool false))])) a' w'->next a' w'):o.wpIn (tI rd) 0 P a w next (AQ E Q):=by
 subst h1;subst h2;obtain⟨g2,G,lm,g1,hM,uQ,aK,hex⟩:=hs;have hv:=aW aK x hp;rw[hx]at hv;unfold LR at hv;obtain⟨hlt,aA3,NM,hbn⟩:=Jh hM hn;obtain⟨_,hown,xs,c,hb,hR⟩:=nJ hM hm;have hl:xs.length=es.length:=by have:=congrArg List.length hR.1;simpa using this
 have hc:c=es.length:=by rw[hR.2.2.2,hl]
 subst hc;have Ek:∀(i:Nat) (y:MapEntry),xs[i]?=some y->y.born=i:=λi y hy=>by
  have:=congrArg (λl=>l[i]?) hR.2.2.1
  have hi:=(List.getElem?_eq_some_iff.1 hy).1;simp only[List.getElem?_map,hy,Option.map_some,List.getElem?_range hi]at this;exact Option.some.inj this
 rcases run_next_at (P:=P) w o.type (G.nm n) (G.nm m) es.length es.length seen.toArray xs.toArray es.length hbn hb (λy hy=>by
   obtain⟨i,hi⟩:=List.getElem?_of_mem (show y∈xs from by simpa using hy)
   rw[Ek i y hi];have:=(List.getElem?_eq_some_iff.1 hi).1;omega) (Nat.le_refl _)with⟨q1,q2⟩|⟨y,hy,w1,hw1,q2⟩
 ·have hrun:(execOp a.eval o).run P w=.ok (.value (.tuple #[.bool false])) w:=by simp[execOp,ho,hv.2,q2]
  refine⟨λ_ _=>trivial,?_⟩
  rw[kf hrun (λd e=>by cases e)]
  refine hend (λi hi=>?_) _ _ (cF.mk' (L':=s.L) (H':=s.H) g2 g1 hM uQ aK (by unfold LR bH bH;exact⟨[.bool false],rfl,_,_,rfl,Gq,rfl⟩) aN)
  have GR:xs[i]?=some (xs[i]'(by omega)):=List.getElem?_eq_getElem (by omega)
  by_cases hin:i∈seen
  ·exact hin
  ·have hmem:(xs[i]'(by omega))∈(leftOf xs.toArray seen.toArray).toList:=by
    unfold leftOf;simp only[Array.toList_filter,List.mem_filter];refine⟨List.mem_of_getElem? GR,?_⟩;rw[Ek i _ GR];simpa using hin
   have:(leftOf xs.toArray seen.toArray).toList.length=0:=by simpa using q1
   rw[List.length_eq_zero_iff]at this;rw[this]at hmem;cases hmem
 ·have hyl:y∈xs/\y.born∉seen:=by
   unfold leftOf at hy;simp only[Array.toList_filter,List.mem_filter]at hy;exact⟨hy.1,by simpa using hy.2⟩
  obtain⟨i,hi⟩:=List.getElem?_of_mem hyl.1;have hbi:=Ek i y hi;have Ef:=(List.getElem?_eq_some_iff.1 hi).1;have hei:es[i]?=some (es[i]'(by omega)):=List.getElem?_eq_getElem (by omega)
  obtain⟨y',r1,r2,r3,r4⟩:=J2 hR hei;rw[hi]at r1;cases r1;have hrun:(execOp a.eval o).run P w=.ok (.value (.tuple #[.bool true,y.key,y.val])) (ChangeMaps.setBlock w1 (G.nm n) (.mapIter (some (G.nm m)) es.length (seen.toArray.push y.born) es.length)):=by simp[execOp,ho,hv.2,q2]
  refine⟨λ_ _=>trivial,?_⟩
  rw[kf hrun (λd e=>by cases e)]
  have bj3:∃G1:World,G1=w1/\MR G lm s.L s.H G1/\Ext E G s.H G1/\G1.heap=w.heap:=by
   rcases hw1 with rfl|rfl
   ·exact⟨_,rfl,hM,uQ,rfl⟩
   ·exact⟨_,rfl,⟨hM.qC,hM.dF,hM.fresh,hM.C3,hM.loc,hM.iC⟩,⟨⟨uQ.le,uQ.nx,uQ.os,uQ.tape,uQ.output,Nat.le_succ_of_le uQ.drawn,uQ.size,uQ.frame,uQ.own⟩,uQ.nl⟩,rfl⟩
  obtain⟨G1,rfl,hM1,hx1,hheap⟩:=bj3;have xm:G.nm n<G1.heap.size:=by rw[hheap];exact eN hbn
  have fE:=hM1.dV n hn (.iter m es.length (seen++[i]) es.length) (.mapIter (some (G.nm m)) es.length (seen.toArray.push y.born) es.length) NM (by simp) (by simp)
   ⟨aA3,NM,by rw[ew,if_pos ⟨rfl,xm⟩,hbi];simp⟩
  refine yC i _ hei (by rw[<-hbi];exact hyl.2) _ _ (cF.mk' (L':=s.L) (H':=s.H.set n _) g2 g1 fE (hx1.dV hM1 n _ _ NM) aK (VC Gq ?_ ?_) aN)
  ·rw[r2];exact Jg (hkey _ (List.mem_of_getElem? hei))
  ·exact bF (Nat.le_refl _) (Gh.le_refl _ _) (λ_ _ e=>by cases e) _ _ r4
theorem Ti{x:Operand}{n m since last i:Nat}{seen:List Nat}{es:List (Value×LV)}{e:Value×LV}(ho:o.op=.entry x)(hx:s.arg x=.gp n 0)(hn:s.H.obj n=some (.iter m since seen last))(hm:s.H.obj m=some (.map es))(hp:s.aI x)(h2:last=es.length)
  (hkey:∀e∈es,oS e.1=true) (hi:seen.getLast?=some i) (he:es[i]?=some e) (hs:cF E s a w) (aN:∀t,o.dst=some t->t<s.nt)
  (hk:∀a' w',cF E (s.put o.dst (.dh [oT e.1,e.2])) a' w'->next a' w'):o.wpIn (tI rd) 0 P a w next (AQ E Q):=by
 subst h2;obtain⟨g2,G,lm,g1,hM,uQ,aK,hex⟩:=hs;have hv:=aW aK x hp;rw[hx]at hv;unfold LR at hv;obtain⟨hlt,aA3,NM,hbn⟩:=Jh hM hn;obtain⟨_,hown,xs,c,hb,hR⟩:=nJ hM hm;have hl:xs.length=es.length:=by have:=congrArg List.length hR.1;simpa using this
 have hc:c=es.length:=by rw[hR.2.2.2,hl]
 subst hc;obtain⟨y,r1,r2,r3,r4⟩:=J2 hR he;obtain⟨pre,rfl⟩:∃pre,seen=pre++[i]:=⟨seen.dropLast,by
  have hne:seen≠[]:=λq=>by rw[q]at hi;cases hi
  rw[List.getLast?_eq_some_getLast hne]at hi
  conv=>lhs;rw[<-List.dropLast_concat_getLast hne]
  rw[Option.some.inj hi]⟩
 have qQ:(xs.toArray.toList.map (·.born)).Nodup:=by simp only[hR.2.2.1];exact List.nodup_range
 have hrun:=run_entry_at (P:=P) w (G.nm n) (G.nm m) since pre.toArray xs.toArray es.length y (by rw[hbn,r3];simp) hb (by simpa using List.mem_of_getElem? r1) qQ
 have ay1:(execOp a.eval o).run P w=.ok (.value (.tuple #[y.key,y.val])) w:=by simp[execOp,ho,hv.2,hrun]
 refine⟨λ_ _=>trivial,?_⟩
 rw[kf ay1 (λd e=>by cases e)]
 refine hk _ _ (cF.mk' (L':=s.L) (H':=s.H) g2 g1 hM uQ aK (VD ?_ ?_) aN)
 ·rw[r2];exact Jg (hkey _ (List.mem_of_getElem? he))
 ·exact bF (Nat.le_refl _) (Gh.le_refl _ _) (λ_ _ e=>by cases e) _ _ r4
theorem To{fo:Operand}{args:Array Operand}{tys:Array TypeId}{f:FuncId}{first cap:List LV}(ho:o.op=.defer ⟨.value fo,args,tys⟩)(hf:cE (s.arg fo)=some (f,first,cap))(hp:s.aI fo)(hq:jc (args.toList.map s.aI))
  (hnb:cD s.H.next (first++args.toList.map s.arg)) (ac2:cD s.H.next cap) (hs:cF E s a w) (aN:∀t,o.dst=some t->t<s.nt) (hrd:rd.r=none)
  (hk:∀a' w',cF E (({s with df:=.call f (first++args.toList.map s.arg) cap::s.df}:S).put o.dst .any) a' w'->next a' w'):o.wpIn (tI rd) 0 P a w next (AQ E Q):=by
 obtain⟨g2,G,lm,g1,hM,hx,aK,_⟩:=hs;have hfo:=aW aK fo hp;obtain⟨x,dc⟩:∃x,s.arg fo=x:=⟨_,rfl⟩;rw[dc]at hf hfo;unfold cE at hf
 split at hf
 ·rename_i f' first' cap'
  cases hf;unfold LR at hfo;obtain⟨fs,cs,e1,l1,l2⟩:=hfo;have hargs:=wC aK args.toList hq;have hall:=eF l1 hargs;have hrun:(execOp a.eval o).run P w=.ok (.defer ⟨.fn (.func f) cs.toArray,(fs++args.toList.map a.eval).toArray⟩) w:=by
   simp only[execOp,ho,resolve];simp only[e1,Deferred.ofValue];simp[Sem.run_bind]
  refine⟨λ_ _=>trivial,?_⟩
  rw[show(tI rd).round=none from hrd,Oper.semAt_none,hrun]
  have hd:GP G s.H.next (.call f (first++args.toList.map s.arg) cap::s.df) (⟨.fn (.func f) cs.toArray,(fs++args.toList.map a.eval).toArray⟩::a.defers):=
   ⟨_,_,rfl,⟨_,_,rfl,dm _ _ hall hnb,dm _ _ l2 ac2⟩,g1⟩
  exact hk _ _ (cF.mk' (s:={s with df:=.call f (first++args.toList.map s.arg) cap::s.df}) (a:={a with defers:=⟨.fn (.func f) cs.toArray,(fs++args.toList.map a.eval).toArray⟩::a.defers}) (L':=s.L) (H':=s.H) g2 hd hM hx aK (by simp[LR]) aN)
 ·cases hf
theorem qi{bO:Nat->Kd}:∀(l:List Operand) (s s':S),oe bO l s=some s'->cF E s a w->cF E s' a w/\s'.nt=s.nt
 |[],s,s',h,hs=>by simp only[oe,Option.some.injEq]at h;subst h;exact⟨hs,rfl⟩
 |o::l,s,s',h,hs=>by
  simp only[oe]at h
  split at h
  ·rename_i k hk
   split at h
   ·split at h
    ·rename_i cs hL
     split at h
     ·rename_i hn;obtain⟨h1,h2⟩:=qi l _ s' h (hs.frz hL hn);exact⟨h1,h2⟩
     ·cases h
    ·cases h
   ·exact qi l s s' h hs
  ·exact qi l s s' h hs
theorem rm(hc:c.ok P)(h:gy P c s o.dst o.op K Q)(hk:∀s' a' w',K s'->cF E s' a' w'->next a' w')(hs:cF E s a w)(aN:∀t,o.dst=some t->t<s.nt):o.wpIn (tI c.rd) 0 P a w next (AQ E Q):=by
 have gen:(match bV c.ty c.bR c.bO s o.dst o.op with|none=>False|some r=>r.pre/\K ((s.kD o.dst r.kD).put o.dst r.v))->o.wpIn (tI c.rd) 0 P a w next (AQ E Q):=by
  intro h;cases hX:bV c.ty c.bR c.bO s o.dst o.op with
  |none=>rw[hX]at h;exact h.elim
  |some r=>
   rw[hX]at h;exact kG (oP hc.ty hc.bR hc.key hX h.1 hs aN) λs' a' w' e hS=>hk _ _ _ (e▸h.2) hS
 cases hop:o.op with
 |call cl=>
  obtain⟨callee,args,tys⟩:=cl;cases callee with
  |value fo=>
   rw[hop]at h;simp only[gy]at h;cases hf:cE (s.arg fo)with
   |none=>
    rw[hf]at h;simp only at h
    split at h
    ·rename_i n hy;exact QW hop hy h.1 h.2.1 h.2.2.1 hs aN h.2.2.2 (λv H' a' w' hR _ hS=>hk _ _ _ hR hS) λx H' hR=>hR
    ·exact h.elim
   |some p=>
    obtain⟨f,first,cap⟩:=p
    rw[hf]at h;simp only at h;obtain⟨h1,h2,h3,h4⟩:=h;cases hsp:c.spec f (first++args.toList.map s.arg++cap)with
    |none=>
     rw[hsp]at h4;exact Gp hop hf h1 h2 h3 hs aN h4 (λv H' a' w' hR hS=>hk _ _ _ hR hS) λx H' hR=>hR
    |some p=>
     obtain⟨pre,v⟩:=p;rw[hsp]at h4;refine Gp (R:=λce H'=>ce=.ret v/\H'=s.H) hop hf h1 h2 h3 hs aN (hc.spec _ _ _ _ hsp h4.1 s.H) (λv' H' a' w' hR hS=>?_) λx H' hR=>(by cases hR.1)
     obtain⟨e1,rfl⟩:=hR;cases e1;exact hk _ _ _ h4.2 hS
  |builtin b=>rw[hop]at h gen;exact gen h
  |invoke f m=>rw[hop]at h gen;exact gen h
 |defer cl=>
  obtain⟨callee,args,tys⟩:=cl;cases callee with
  |value fo=>
   rw[hop]at h;simp only[gy]at h;cases hf:cE (s.arg fo)with
   |none=>rw[hf]at h;exact h.elim
   |some p=>
    obtain⟨f,first,cap⟩:=p
    rw[hf]at h;simp only at h;obtain⟨h0,h1,h2,h3,h3',h4⟩:=h;exact To hop hf h1 h2 h3 h3' hs aN h0 λa' w' hS=>hk _ _ _ h4 hS
  |builtin b=>rw[hop]at h gen;exact gen h
  |invoke f m=>rw[hop]at h gen;exact gen h
 |makeFunc fn first cap=>
  rw[hop]at h;simp only[gy]at h
  split at h
  ·exact h.elim
  ·rename_i s' hf;obtain⟨h1,h2⟩:=qi _ _ _ hf hs;exact kG (rM (s:=s') hop h1 (λt ht=>by rw[h2];exact aN t ht) True) λs2 a' w' e hS=>hk _ _ _ (by subst e;exact h) hS
 |range T x=>
  rw[hop]at h;simp only[gy]at h
  split at h
  ·rename_i kt et sz zero bt m hT hx
   split at h
   ·rename_i es hn;exact Rs (hc.ty _ _ hT) rfl hop hx hn h.1 hs aN λa' w' hS=>hk _ _ _ h.2 hS
   ·exact h.elim
  ·exact h.elim
 |next x str=>
  rw[hop]at h;cases str with
  |true=>simp only[gy,bV,cG]at h
  |false=>
   simp only[gy]at h
   split at h
   ·rename_i n hx
    split at h
    ·rename_i m since seen last hn
     split at h
     ·rename_i es hm;obtain⟨h1,h2,h3,h4,h5,h6⟩:=h;exact V1 hop hx hn hm h1 h2 h3 (λe he=>List.all_eq_true.1 h4 e he) hs aN (λi e hi hni a' w' hS=>hk _ _ _ (h5 i e hi hni) hS) λhall a' w' hS=>hk _ _ _ (h6 hall) hS
     ·exact h.elim
    ·exact h.elim
   ·exact h.elim
 |entry x=>
  rw[hop]at h;simp only[gy]at h
  split at h
  ·rename_i n hx
   split at h
   ·rename_i m since seen last hn
    split at h
    ·rename_i es hm;obtain⟨h1,h2,h3,i,e,h4,h5,h6⟩:=h;exact Ti hop hx hn hm h1 h2 (λe he=>List.all_eq_true.1 h3 e he) h4 h5 hs aN λa' w' hS=>hk _ _ _ h6 hS
    ·exact h.elim
   ·exact h.elim
  ·exact h.elim
 |panic x=>
  rw[hop]at h;simp only[gy]at h;obtain⟨h1,h2,h3⟩:=h;obtain⟨g2,G,lm,g1,hM,hx,aK,_⟩:=id hs;have kW:=aW aK x h1
  split at h3
  ·rename_i T v e;have Uc:=jO _ _ kW h2;rw[e]at kW Uc;have NR:a.eval x=.iface T v:=by unfold LR DR at kW;exact kW.1
   refine⟨λ_ _=>trivial,?_⟩
   have:(execOp a.eval o).run P w=.halt (.panic (.iface T v)) w:=by simp[execOp,hop,NR,Instr.panic,goPanic]
   rw[Oper.semAt_eq _ _ _ (λc e=>by rw[hop]at e;cases e),this]
   refine⟨_,s,h3,g2,G,lm,g1,hM,hx,aK,.iface T v,rfl,?_⟩;rw[e];rw[NR]at Uc;exact Uc
  ·exact h3.elim
 |buildSlice T len parts=>
  rw[hop]at h gen;simp only[gy]at h;cases hb:bsV c.ty c.bO s o.dst T len parts with
  |none=>rw[hb,Option.none_or]at h;exact gen h
  |some r=>
   rw[hb,Option.some_or]at h;exact kG (Qg hc.ty hop hb h.1 hs aN) λs' a' w' e hS=>hk _ _ _ (e▸h.2) hS
 |_=>rw[hop]at h gen;exact gen h
theorem FD(hc:c.ok P){pre:Prop}{v:LV}(h:cS c s o.dst o.op=some (pre,v))(hp:pre)(hk:∀a' w',cF E (s.put o.dst v) a' w'->next a' w')(hs:cF E s a w)(aN:∀t,o.dst=some t->t<s.nt):o.wpIn (tI c.rd) 0 P a w next (AQ E Q):=by
 by_cases hmf:∃fn first cap,o.op=.makeFunc fn first cap
 ·obtain⟨fn,first,cap,hop⟩:=hmf
  rw[hop]at h;simp only[cS,bV,cG,Option.some.injEq,Prod.mk.injEq]at h;obtain⟨rfl,rfl⟩:=h;exact kG (rM hop hs aN True) λs2 a' w' e hS=>hk _ _ (by subst e;exact hS)
 by_cases v8:∃T l q,o.op=.buildSlice T l q
 ·obtain⟨T,l,q,hop⟩:=v8;cases hX:bV c.ty c.bR c.bO s o.dst (.buildSlice T l q)with
  |none=>rw[hop]at h;simp only[cS,hX]at h;cases h
  |some r=>
   rw[hop]at h;simp only[cS,hX]at h;obtain⟨p',v',e'⟩:=r;cases e'<;>simp only[Option.some.injEq,Prod.mk.injEq,reduceCtorEq]at h;obtain⟨rfl,rfl⟩:=h;rw[<-hop]at hX;exact kG (oP hc.ty hc.bR hc.key hX hp hs aN) λs2 a' w' e hS=>hk _ _ (by subst e;exact hS)
 refine rm (K:=λs'=>s'=s.put o.dst v) hc ?_ (λs' a' w' e hS=>hk _ _ (e▸hS)) hs aN
 have gen:(∃r,bV c.ty c.bR c.bO s o.dst o.op=some r/\r=⟨pre,v,.no⟩)->(match bV c.ty c.bR c.bO s o.dst o.op with|none=>False|some r=>r.pre/\(s.kD o.dst r.kD).put o.dst r.v=s.put o.dst v):=by
  rintro⟨r,e,rfl⟩;rw[e];exact⟨hp,rfl⟩
 have ext:∀op',(match bV c.ty c.bR c.bO s o.dst op' with|some ⟨pre,v,.no⟩=>some (pre,v)|_=>none)=some (pre,v)->∃r,bV c.ty c.bR c.bO s o.dst op'=some r/\r=⟨pre,v,.no⟩:=by
  intro op' h;cases hX:bV c.ty c.bR c.bO s o.dst op' with
  |none=>rw[hX]at h;cases h
  |some r=>
   rw[hX]at h;obtain⟨p',v',e'⟩:=r;cases e'<;>simp only[Option.some.injEq,Prod.mk.injEq,reduceCtorEq]at h;obtain⟨rfl,rfl⟩:=h;exact⟨_,rfl,rfl⟩
 cases hop:o.op with
 |call cl=>
  obtain⟨callee,args,tys⟩:=cl;cases callee with
  |value fo=>
   rw[hop]at h;simp only[cS]at h;simp only[gy];cases hf:cE (s.arg fo)with
   |none=>rw[hf]at h;cases h
   |some p=>
    obtain⟨f,first,cap⟩:=p
    rw[hf]at h;simp only[Option.map_eq_some_iff]at h;obtain⟨r,h1,h2⟩:=h;simp only[Prod.mk.injEq]at h2;obtain⟨rfl,rfl⟩:=h2;obtain⟨p1,p2,p3,p4⟩:=hp;simp only;refine⟨p1,p2,p3,?_⟩;rw[h1];exact⟨p4,rfl⟩
  |builtin b=>rw[hop]at h gen;exact gen (ext _ h)
  |invoke f m=>rw[hop]at h gen;exact gen (ext _ h)
 |panic x=>rw[hop]at h;simp[cS,bV,cG]at h
 |makeFunc fn first cap=>exact absurd ⟨_,_,_,hop⟩ hmf
 |buildSlice T l q=>exact absurd ⟨_,_,_,hop⟩ v8
 |range T x=>rw[hop]at h;simp[cS,bV,cG]at h
 |next x b=>rw[hop]at h;simp[cS,bV,cG]at h
 |entry x=>rw[hop]at h;simp[cS,bV,cG]at h
 |defer x=>rw[hop]at h;simp[cS,bV,cG]at h
 |_=>rw[hop]at h gen;exact gen (ext _ h)
theorem uD{x y z:Operand}{g:Bool}(ho:o.op=.pick x y z)(hx:s.arg x=.d (.k (.bool g)))(hp:s.aI x)(h1:g=true->s.aI y)(h2:g=false->s.aI z)(hs:cF E s a w)(aN:∀t,o.dst=some t->t<s.nt)(pre:Prop):
  bT P E s o a w ⟨pre,mJ g (s.arg y) (s.arg z),.no⟩:=
 bT.pure hs aN λG lm hM aK=>by
  have hv:=aW aK x hp;rw[hx]at hv;unfold LR DR at hv;refine⟨if g then a.eval y else a.eval z,by simp[execOp,ho,hv.1,asBool],?_⟩
  cases g
  ·have:=aW aK z (h2 rfl);unfold mJ
   split
   ·rename_i e1 e2;rw[e2]at this;simpa using this
   ·simpa using this
  ·have:=aW aK y (h1 rfl);unfold mJ
   split
   ·rename_i e1 e2;rw[e1]at this;simpa using this
   ·simpa using this
theorem pN{v:LV}(hv:∀G nx lm,LR G nx lm v undef)(hs:cF E s a w)(aN:∀t,o.dst=some t->t<s.nt):cF E (s.put o.dst v) (a.put o.dst undef) w:=by
 obtain⟨g2,G,lm,g1,hM,hx,aK,_⟩:=hs;exact cF.mk' (L':=s.L) (H':=s.H) g2 g1 hM hx aK (hv _ _ _) aN
theorem NZ{v:LV}(dst:Option Nat)(h:cF E (s.put dst v) a w)(g:Bool)(hg:g=true)(hne:∀t,dst=some t->t<s.nt):cF E (s.put dst (.gd g v)) a w:=by
 obtain⟨g2,G,lm,g1,hM,hx,aK,_⟩:=h;cases dst with
 |none=>exact⟨g2,G,lm,g1,hM,hx,aK,rfl⟩
 |some t=>
  refine⟨g2,G,lm,g1,hM,hx,λu=>?_,rfl⟩
  have:=aK u;simp only[S.put]at this|-;by_cases e:u=t
  ·subst e;rw[eG]at this|-;unfold LR;exact⟨λ_=>this,λq=>by rw[hg]at q;cases q⟩
  ·rw[aX _ _ e]at this|-;exact this
theorem qe{ops:Array Oper}{j:Nat}{want g:Bool}(hs:cF E s a w)(hg:o.guard=some (j,want))(h:guardOf ops s j want=some g):Region.wanted o (yielded ops a.tmps)=g:=by
 obtain⟨g2,G,lm,g1,hM,hx,aK,_⟩:=hs;unfold guardOf at h;unfold Region.wanted yielded;rw[hg];simp only;cases ht:(ops[j]?).bind (·.dst)with
 |none=>rw[ht]at h;cases h
 |some t=>
  rw[ht]at h;simp only at h;have hv:=aK t;have dL:∀b:Bool,a.tmps.getD t undef=.bool b->a.tmps[t]?=some (.bool b):=λb hb=>by
   rcases Nat.lt_or_ge t a.tmps.size with q|q
   ·rw[Array.getElem?_eq_getElem q];simp[Array.getD,q]at hb;rw[hb]
   ·simp[Array.getD,Nat.not_lt.2 q,undef]at hb
  split at h
  ·rename_i b e;cases h;rw[e]at hv;unfold LR DR at hv;simp only[Option.bind_some,dL b hv.1];cases b<;>cases want<;>rfl
  ·rename_i g0 b e;cases h;rw[e]at hv;unfold LR at hv;cases g0
   ·have hu:=hv.2 rfl;have:∀b:Bool,a.tmps[t]? ≠some (.bool b):=λb hb=>by
     have:a.tmps.getD t undef=.bool b:=by simp[Array.getD_eq_getD_getElem?,hb]
     rw[hu]at this;cases this
    simp only[Option.bind_some,Bool.false_and];cases hq:a.tmps[t]? with
    |none=>rfl
    |some u=>
     cases u<;>first|rfl|exact absurd hq (this _)
   ·have hb:=hv.1 rfl;unfold LR DR at hb;simp only[Option.bind_some,dL b hb.1,Bool.true_and];cases b<;>cases want<;>rfl
  ·cases h
theorem iY(hc:c.ok P){ops:Array Oper}:∀(l:List Oper) (s:S) (a:Act) (w:World),qM P c ops l s Q->cF E s a w->wpListIn (tI c.rd) 0 P ops (AQ E Q) l a w
 |[],s,a,w,h,hs=>⟨.normal,s,h,hs⟩
 |o::rest,s,a,w,h,hs=>by
  simp only[qM]at h;obtain⟨hd,h⟩:=h;have aN:∀t,o.dst=some t->t<s.nt:=λt ht=>by rw[ht]at hd;exact hd
  cases hg:o.guard with
  |none=>
   have hw:Region.wanted o (yielded ops a.tmps)=true:=by simp[Region.wanted,hg]
   unfold wpListIn;rw[if_pos hw];rw[hg]at h;simp only at h;have gen:∀op',o.op=op'->gy P c s o.dst op' (λs'=>qM P c ops rest s' Q) Q->o.wpIn (tI c.rd) 0 P a w (wpListIn (tI c.rd) 0 P ops (AQ E Q) rest) (AQ E Q):=λop' e h'=>
    rm hc (e▸h') (λs' a' w' hK hS=>iY hc rest s' a' w' hK hS) hs aN
   cases hop:o.op with
   |pick x y z=>
    rw[hop]at h;simp only at h
    split at h
    ·rename_i g hx;exact kG (uD hop hx h.1 h.2.1 h.2.2.1 hs aN True) λs' a' w' e hS=>iY hc rest s' a' w' (by subst e;exact h.2.2.2) hS
    ·exact h.elim
   |_=>rw[hop]at h;exact gen _ hop h
  |some p=>
   obtain⟨j,want⟩:=p;rw[hg]at h;simp only at h;cases hgu:guardOf ops s j want with
   |none=>rw[hgu]at h;exact h.elim
   |some g=>
    rw[hgu]at h;simp only at h;have hw:=qe hs hg hgu;unfold wpListIn;rw[hw];have qgen:∀(pre:Prop) (v:LV),(∀(next:Act->World->Prop),(g=true->pre)->g=true->(∀a' w',cF E (s.put o.dst v) a' w'->next a' w')->o.wpIn (tI c.rd) 0 P a w next (AQ E Q))->(g=true->pre)->qM P c ops rest (s.put o.dst (.gd g v)) Q->
      (if g=true then o.wpIn (tI c.rd) 0 P a w (wpListIn (tI c.rd) 0 P ops (AQ E Q) rest) (AQ E Q)else(∀f,o.about P w a.eval=some f->(tI c.rd).fn f)/\wpListIn (tI c.rd) 0 P ops (AQ E Q) rest (a.put o.dst undef) w):=by
     intro pre v hwp hpre YJ;cases KU:g
     ·simp only[Bool.false_eq_true,if_false];subst KU;exact⟨λ_ _=>trivial,iY hc rest _ _ _ YJ (pN (λG nx lm=>by unfold LR;exact⟨(λq=>by cases q),λ_=>rfl⟩) hs aN)⟩
     ·simp only[if_true];exact hwp _ hpre KU λa' w' hS=>iY hc rest _ _ _ YJ (NZ o.dst hS g KU aN)
    have gen:∀op',o.op=op'->(match cS c s o.dst op' with
      |some (pre,v)=>(g=true->pre)/\qM P c ops rest (s.put o.dst (.gd g v)) Q
      |none=>(g=true->gy P c s o.dst op' (λs'=>qM P c ops rest s' Q) Q)/\(g=false->qM P c ops rest (s.put o.dst .any) Q))->
      (if g=true then o.wpIn (tI c.rd) 0 P a w (wpListIn (tI c.rd) 0 P ops (AQ E Q) rest) (AQ E Q)else(∀f,o.about P w a.eval=some f->(tI c.rd).fn f)/\wpListIn (tI c.rd) 0 P ops (AQ E Q) rest (a.put o.dst undef) w):=by
     intro op' e h';subst e;cases hq:cS c s o.dst o.op with
     |some p=>
      obtain⟨pre,v⟩:=p;rw[hq]at h';exact qgen pre v (λnext hpre hgt hn=>FD hc hq (hpre hgt) hn hs aN) h'.1 h'.2
     |none=>
      rw[hq]at h';cases KU:g
      ·simp only[Bool.false_eq_true,if_false];exact⟨λ_ _=>trivial,iY hc rest _ _ _ (h'.2 KU) (pN (λG nx lm=>by simp[LR]) hs aN)⟩
      ·simp only[if_true];exact rm hc (h'.1 KU) (λs' a' w' hK hS=>iY hc rest s' a' w' hK hS) hs aN
    cases hop:o.op with
    |pick x y z=>
     rw[hop]at h;simp only at h
     split at h
     ·rename_i b hx;refine qgen (s.aI x/\(b=true->s.aI y)/\(b=false->s.aI z)) _ (λnext hpre hgt hn=>?_) h.1 h.2
      have:=hpre hgt;exact kG (uD hop hx this.1 this.2.1 this.2.2 hs aN True) λs' a' w' e hS=>hn a' w' (by subst e;exact hS)
     ·exact h.elim
    |_=>rw[hop]at h;exact gen _ hop h
theorem fh.region(hc:c.ok P){id:Nat}{ops:Array Oper}(h:qM P c ops ops.toList s Q):fh P c.rd (.region id ops false) s Q:=
 λE a w hs=>eP<|wpIn_region_list (iY hc ops.toList s a w h hs)
def WT(P:Program)(c:Cx):Code->S->(AE->S->Prop)->Prop
 |.skip,s,Q=>Q .normal s
 |.label _,s,Q=>Q .normal s
 |.ret,s,Q=>Q .ret s
 |.exit id,s,Q=>Q (.exit id) s
 |.goto l,s,Q=>Q (.goto l) s
 |.seq x y,s,Q=>WT P c x s (Hs (λs'=>WT P c y s' Q) Q)
 |.block id x,s,Q=>WT P c x s (Ca id Q)
 |.cond o x y,s,Q=>match s.get o with
  |.d (.k (.bool g))=>(g=true->WT P c x s Q)/\(g=false->WT P c y s Q)
  |_=>False
 |.region id ops false,s,Q=>qM P c ops ops.toList s Q
 |x,s,Q=>fh P c.rd x s Q
theorem mm(hc:c.ok P):∀(x:Code) (s:S) (Q:AE->S->Prop),WT P c x s Q->fh P c.rd x s Q
 |.skip,s,Q,h=>fh.skip h
 |.label _,s,Q,h=>fh.label h
 |.ret,s,Q,h=>fh.ret h
 |.exit id,s,Q,h=>fh.exit h
 |.goto l,s,Q,h=>fh.goto h
 |.seq x y,s,Q,h=>fh.seq ((mm hc x s _ h).mono λe s' q=>by
   cases e<;>first|exact mm hc y s' Q q|exact q)
 |.block id x,s,Q,h=>fh.block (mm hc x s _ h)
 |.cond o x y,s,Q,h=>by
  simp only[WT]at h
  split at h
  ·rename_i g e;exact fh.cond e (λq=>mm hc x s Q (h.1 q)) (λq=>mm hc y s Q (h.2 q))
  ·exact h.elim
 |.region id ops false,s,Q,h=>fh.region hc h
 |.region id ops true,s,Q,h=>h
 |.loop _,s,Q,h=>h
 |.rangeFunc ..,s,Q,h=>h
 |.scope _,s,Q,h=>h
 |.refuse _,s,Q,h=>h
end
end Go.Aft
