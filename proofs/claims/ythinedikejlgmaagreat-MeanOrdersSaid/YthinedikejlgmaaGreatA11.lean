import Derived.Test.YthinedikejlgmaaGreatA10
import Derived.Maps.RangeRun
import Derived.RangeFuncRecord
set_option linter.all false
namespace Go.Aft
section
variable {P:Program} {rd:RD} {c:Cx} {E:Ent} {s:S} {a:Act} {w:World} {o:Oper} {K:S->Prop} {Q:AE->S->Prop} {next:Act->World->Prop}
theorem b7a {G:Gh} {lm:Nat->Option Nat} {nx:Nat} (h:∀ t,LR G nx lm (s.env t) (a.tmps.getD t undef)):∀ l:List Operand,allP (l.map s.argP)->LRs G nx lm (l.map s.arg) (l.map a.eval)
 | [],_=>by simp [LRs]
 | o :: l,hp=>by
  simp only [List.map_cons] at hp |-
  unfold LRs
  exact ⟨_,_,rfl,a0q h o hp.1,b7a h l hp.2⟩
theorem a5p {rd:Option Nat} {n:Next} {w':World} (h:(execOp a.eval o).run P w=.ok n w') (hn:∀ d,n ≠ .defer d):(o.semAt rd a.eval).run P w=.ok n w':=by
 by_cases hd:∃ c,o.op=.defer c
 ·obtain ⟨c,hc⟩:=hd
  exfalso
  simp only [execOp,hc,Sem.run_bind] at h
  cases hr:(resolve a.eval c o.type).run P w with
  | ok d w1=>rw [hr] at h;simp only [Result.andThen_ok,Sem.run_pure] at h;cases h;exact hn _ rfl
  | halt x w1=>rw [hr] at h;simp only [Result.andThen] at h;cases h
 ·rw [Oper.semAt_eq rd _ _ fun c hc=>hd ⟨c,hc⟩];exact h
theorem d3r {f:FuncId} {args:Array Value} {R:Ending->World->Prop} {n:Nat} (h:Calls P f args w R):CallsIn (fnc rd) n P f args w R:=callsIn_wide.2 h
theorem a6r {next:Act->World->Prop} {Q':Exit->Act->World->Prop} {r:Res} (h:OpOk P E s o a w r) (hk:∀ s' a' w',s'=(s.eff o.dst r.eff).put o.dst r.v->Sim E s' a' w'->next a' w'):o.wpIn (fnc rd) 0 P a w next Q':=by
 obtain ⟨n,v',w',h1,h2,h3⟩:=h
 refine ⟨fun _ _=>trivial,?_⟩
 rw [a5p h1 (by rcases h2 with rfl | ⟨rfl,rfl⟩ <;> (intro d e;cases e))]
 rcases h2 with rfl | ⟨rfl,rfl⟩
 ·exact hk _ _ _ rfl h3
 ·exact hk _ _ _ rfl h3
theorem d7m {fo:Operand} {args:Array Operand} {tys:Array TypeId} {f:FuncId} {first cap:List LV} (ho:o.op=.call ⟨.value fo,args,tys⟩) (hf:a1k (s.arg fo)=some (f,first,cap)) (hp:s.argP fo) (hq:allP (args.toList.map s.argP))
  (hnb:nbs s.H.next (first ++ args.toList.map s.arg ++ cap)) (hs:Sim E s a w) (hdst:∀ t,o.dst=some t->t < s.nt) {R:CE->GH->Prop} (hc:a0j P f (first ++ args.toList.map s.arg ++ cap) s.H R)
  (hR:∀ v H' a' w',R (.ret v) H'->s.H.next<=H'.next->Sim E (({ s with H:=H' }:S).put o.dst v) a' w'->next a' w') (hpan:∀ x H',R (.pan x) H'->Q (.pan x) { s with H:=H' }):o.wpIn (fnc rd) 0 P a w next (AQ E Q):=by
 obtain ⟨g2,G,lm,g1,hM,hx,henv,_⟩:=hs
 have hfo:=a0q henv fo hp
 obtain ⟨x,hxe⟩:∃ x,s.arg fo=x:=⟨_,rfl⟩
 rw [hxe] at hf hfo
 unfold a1k at hf
 split at hf
 ·rename_i f' first' cap'
  cases hf
  unfold LR at hfo
  obtain ⟨fs,cs,e1,l1,l2⟩:=hfo
  have hargs:=b7a henv args.toList hq
  have hall:=a2g (a2g l1 hargs) l2
  have hrun:(execOp a.eval o).run P w=.ok (.enter f (fs ++ args.toList.map a.eval ++ cs).toArray) w:=by
   simp only [execOp,ho,resolve]
   simp only [e1,Deferred.ofValue]
   have:=hc.1 ((fs.toArray ++ args.map a.eval) ++ cs.toArray) w
   simp only [bind,pure,Sem.bind,invoke]
   rw [this]
   congr 2
   apply Array.ext'
   simp
  obtain ⟨hM2,hNL⟩:=c6g hM
  have hall2:LRs (a6b G) s.H.next noL (first ++ args.toList.map s.arg ++ cap) (fs ++ args.toList.map a.eval ++ cs) :=
   a1d (Nat.le_refl _) (a8n _ G) (fun _ _ e=>e) _ _ (a2a _ _ hall hnb)
  have hcall:=hc.2 (a6b G) w _ hM2 hNL hall2
  refine ⟨fun _ _=>trivial,?_⟩
  rw [a5p hrun (fun d e=>by cases e)]
  refine ⟨fun e=>(by cases e),d3r (Calls.mono hcall fun e w2 hq2=>?_)⟩
  obtain ⟨ce,H2,G2,hRc,hEnd,hMc,hNLc,hxc⟩:=hq2
  obtain ⟨hMb,hxb,hle⟩:=c6h hM hx hMc hNLc hxc
  have henv2:=a4t (s:=s) (a:=a) hxc.nx hle (fun _ _ e=>e) henv
  cases ce with
  | ret v =>
   obtain ⟨v',rfl,hv⟩:=hEnd
   refine hR v H2 _ _ hRc hxc.nx ?_
   exact Sim.mk' (L':=s.L) (H':=H2) g2 (a1g hxc.nx hle _ _ g1) hMb hxb henv2 (a0v (Nat.le_refl _) (a6o _ G G2) (fun _ _ e=>by cases e) _ _ hv) hdst
  | pan x =>
   obtain ⟨v',rfl,hv⟩:=hEnd
   refine ⟨.pan x,{ s with H:=H2 },hpan x H2 hRc,g2,a8o G G2,lm,a1g hxc.nx hle _ _ g1,hMb,hxb,henv2,v',rfl,?_⟩
   exact a0v (Nat.le_refl _) (a6o _ G G2) (fun _ _ e=>e) _ _ hv
 ·cases hf
theorem d3s {fo:Operand} {args:Array Operand} {tys:Array TypeId} {f:FuncId} {first cap:List LV} (ho:o.op=.call ⟨.value fo,args,tys⟩) (hf:a1k (s.arg fo)=some (f,first,cap)) (hp:s.argP fo) (hq:allP (args.toList.map s.argP))
  (hnb:nbs s.H.next (first ++ args.toList.map s.arg ++ cap)) (hs:Sim E s a w) (hdst:∀ t,o.dst=some t->t < s.nt) {R:CE->GH->Prop} (hc:a0j P f (first ++ args.toList.map s.arg ++ cap) s.H R)
  (hR:∀ v H' a' w',R (.ret v) H'->Sim E (({ s with H:=H' }:S).put o.dst v) a' w'->next a' w') (hpan:∀ x H',R (.pan x) H'->Q (.pan x) { s with H:=H' }):o.wpIn (fnc rd) 0 P a w next (AQ E Q) :=
 d7m ho hf hp hq hnb hs hdst hc (fun v H' a' w' h _ hS=>hR v H' a' w' h hS) hpan
theorem e7j {fo:Operand} {args:Array Operand} {tys:Array TypeId} {n:Nat} (ho:o.op=.call ⟨.value fo,args,tys⟩) (hf:s.arg fo=.yl n) (hp:s.argP fo) (hq:allP (args.toList.map s.argP))
  (hnb:nbs s.H.next (args.toList.map s.arg)) (hs:Sim E s a w) (hdst:∀ t,o.dst=some t->t < s.nt) {R:CE->GH->Prop} (hc:a2v P n (args.toList.map s.arg) s.H R)
  (hR:∀ v H' a' w',R (.ret v) H'->s.H.next<=H'.next->Sim E (({ s with H:=H' }:S).put o.dst v) a' w'->next a' w') (hpan:∀ x H',R (.pan x) H'->Q (.pan x) { s with H:=H' }):o.wpIn (fnc rd) 0 P a w next (AQ E Q):=by
 obtain ⟨g2,G,lm,g1,hM,hx,henv,_⟩:=hs
 have hfo:=a0q henv fo hp
 rw [hf] at hfo;unfold LR at hfo
 have hargs:=b7a henv args.toList hq
 obtain ⟨hM2,hNL⟩:=c6g hM
 have hall2:LRs (a6b G) s.H.next noL (args.toList.map s.arg) (args.toList.map a.eval) :=
  a1d (Nat.le_refl _) (a8n _ G) (fun _ _ e=>e) _ _ (a2a _ _ hargs hnb)
 obtain ⟨fn,tmps,asn,body,hrun0,hround⟩:=hc (a6b G) w _ hM2 hNL hall2
 have hrun:(execOp a.eval o).run P w=.ok (.round (G.nm n) fn tmps asn body) w:=by
  simp only [execOp,ho,resolve]
  simp only [hfo.2,Deferred.ofValue]
  have e:#[] ++ args.map a.eval=(args.toList.map a.eval).toArray:=by apply Array.ext';simp
  simp only [bind,pure,Sem.bind,invoke]
  rw [e]
  exact hrun0
 refine ⟨fun _ _=>trivial,?_⟩
 rw [a5p hrun (fun d e=>by cases e)]
 refine ⟨fun e=>(by cases e),RoundIn.mono (F:=fnc rd) hround fun e w2 hq2=>?_⟩
 obtain ⟨ce,H2,G2,hRc,hEnd,hMc,hNLc,hxc⟩:=hq2
 obtain ⟨hMb,hxb,hle⟩:=c6h hM hx hMc hNLc hxc
 have henv2:=a4t (s:=s) (a:=a) hxc.nx hle (fun _ _ e=>e) henv
 cases ce with
 | ret v =>
  obtain ⟨v',rfl,hv⟩:=hEnd
  refine hR v H2 _ _ hRc hxc.nx ?_
  exact Sim.mk' (L':=s.L) (H':=H2) g2 (a1g hxc.nx hle _ _ g1) hMb hxb henv2 (a0v (Nat.le_refl _) (a6o _ G G2) (fun _ _ e=>by cases e) _ _ hv) hdst
 | pan x =>
  obtain ⟨v',rfl,hv⟩:=hEnd
  refine ⟨.pan x,{ s with H:=H2 },hpan x H2 hRc,g2,a8o G G2,lm,a1g hxc.nx hle _ _ g1,hMb,hxb,henv2,v',rfl,?_⟩
  exact a0v (Nat.le_refl _) (a6o _ G G2) (fun _ _ e=>e) _ _ hv
theorem d6i {G:Gh} {nx:Nat} {lm:Nat->Option Nat} {k:Value} (h:b4w k=true):LR G nx lm (b4x k) k:=by
 unfold b4x b4w at *
 split
 ·rename_i vs
  simp only [List.all_eq_true] at h
  unfold LR
  exact ⟨vs.toList,by simp,c2y h⟩
 ·rename_i hne
  split at h
  ·rename_i vs;exact absurd rfl (hne vs)
  ·unfold LR DR;exact ⟨rfl,h⟩
theorem f2e {G:Gh} {nx:Nat} {lm:Nat->Option Nat} {x y z:LV} {u v t:Value} (h1:LR G nx lm x u) (h2:LR G nx lm y v) (h3:LR G nx lm z t):LR G nx lm (.tup [x,y,z]) (.tuple #[u,v,t]):=by
 unfold LR LRs LRs LRs LRs
 exact ⟨[u,v,t],rfl,_,_,rfl,h1,_,_,rfl,h2,_,_,rfl,h3,rfl⟩
theorem f2f {G:Gh} {nx:Nat} {lm:Nat->Option Nat} {x y:LV} {u v:Value} (h1:LR G nx lm x u) (h2:LR G nx lm y v):LR G nx lm (.tup [x,y]) (.tuple #[u,v]):=by
 unfold LR LRs LRs LRs
 exact ⟨[u,v],rfl,_,_,rfl,h1,_,_,rfl,h2,rfl⟩
theorem d3v {G:Gh} {nx:Nat} {lm:Nat->Option Nat} {b:Bool}:LR G nx lm (.d (.k (.bool b))) (.bool b):=by unfold LR DR;exact ⟨rfl,rfl⟩
theorem Sim.drew (h:Sim E s a w):Sim E s a w.drew:=by
 obtain ⟨g2,G,lm,g1,hM,hx,henv,_⟩:=h
 exact ⟨g2,G,lm,g1,⟨hM.imm,hM.immOwn,hM.fresh,hM.lmL,hM.loc,hM.nmd⟩,⟨⟨hx.le,hx.nx,hx.os,hx.tape,hx.output,Nat.le_succ_of_le hx.drawn,hx.size,hx.frame,hx.own⟩,hx.nl⟩,henv,rfl⟩
theorem d7d {G:Gh} {nx:Nat} {es:List (Value × LV)} {xs:List MapEntry} {c:Nat} (h:MapR G nx es xs c) {i:Nat} {e:Value × LV} (he:es[i]?=some e):∃ x,xs[i]?=some x/\x.key=e.1/\x.born=i/\LR G nx noL e.2 x.val:=by
 obtain ⟨h1,h2,h3,h4⟩:=h
 have hl:xs.length=es.length:=by have:=congrArg List.length h1;simpa using this
 have hi:=(List.getElem?_eq_some_iff.1 he).1
 have hx:xs[i]?=some (xs[i]'(by omega)):=List.getElem?_eq_getElem (by omega)
 refine ⟨_,hx,?_,?_,?_⟩
 ·have:=congrArg (fun l=>l[i]?) h1
  simp only [List.getElem?_map,hx,he,Option.map_some] at this
  exact Option.some.inj this
 ·have:=congrArg (fun l=>l[i]?) h3
  simp only [List.getElem?_map,hx,Option.map_some,List.getElem?_range (show i < xs.length by omega)] at this
  exact Option.some.inj this
 ·obtain ⟨v,q1,q2⟩:=a6y h2 i e.2 (by simp [he])
  simp only [List.getElem?_map,hx,Option.map_some] at q1
  cases q1;exact q2
theorem e7x {T k' e':TypeId} {d:TyD} {x:Operand} {m:Nat} {es:List (Value × LV)} (hok:d.ok P T) (hk:d.k=.map k' e') (ho:o.op=.range T x) (hx:s.arg x=.gm m) (hn:s.H.obj m=some (.map es)) (hp:s.argP x) (hs:Sim E s a w) (hdst:∀ t,o.dst=some t->t < s.nt)
  (hk':∀ a' w',Sim E (({ s with H:=s.H.add (.iter m es.length [] es.length) }:S).put o.dst (.gp s.H.next 0)) a' w'->next a' w'):o.wpIn (fnc rd) 0 P a w next (AQ E Q):=by
 obtain ⟨g2,G,lm,g1,hM,hxt,henv,_⟩:=hs
 have hv:=a0q henv x hp
 rw [hx] at hv;unfold LR at hv
 obtain ⟨desc,u1,u2⟩:=hok.u
 rw [hk] at u2
 cases desc <;> simp only [TK.ok] at u2
 obtain ⟨hlt,hown,xs,c,hb,hR⟩:=a9w hM hn
 have hl:xs.length=es.length:=by have:=congrArg List.length hR.1;simpa using this
 have hc:c=es.length:=by rw [hR.2.2.2,hl]
 subst hc
 have hget:(getObj (G.nm m)).run P w=.ok (.map xs.toArray es.length) w:=MapKept.run_getObj_map hb
 have hle:=b8m (G:=G) s.H.next w.heap.size
 have hM':=hM.c0h (.iter m es.length [] es.length) (.mapIter (some (G.nm m)) es.length #[] es.length) (by simp) (by
  refine ⟨Nat.lt_succ_of_lt hlt,by simp [nmG],?_⟩
  simp only [nmG,upd_same]
  rw [a1t,if_pos rfl,upd_ne _ _ (by omega)])
 have hrun:(execOp a.eval o).run P w=.ok (.value (.pointer (some ⟨w.heap.size,0,none⟩))) (w.alloc (.mapIter (some (G.nm m)) es.length #[] es.length)):=by
  simp [execOp,ho,Instr.range,run_underlying u1,hv.2,hget,run_newObj_alloc]
 refine ⟨fun _ _=>trivial,?_⟩
 rw [a5p hrun (fun d e=>by cases e)]
 refine hk' _ _ (Sim.mk' (L':=s.L) (H':=s.H.add _) g2 (a1g (Nat.le_succ _) hle _ _ g1) hM' (hxt.c0h hM _ _) (a4t (Nat.le_succ _) hle (fun _ _ e=>e) henv) ?_ hdst)
 unfold LR;exact ⟨Nat.lt_succ_self _,by simp [nmG]⟩
theorem d6j {G:Gh} {lm:Nat->Option Nat} {L:Nat->Option (List LV)} {H:GH} (hM:MR G lm L H w) {n m since last:Nat} {seen:List Nat} (hn:H.obj n=some (.iter m since seen last)) :
  n < H.next/\m < H.next/\G.own (G.nm n)=.nm n/\w.heap[G.nm n]?=some (.mapIter (some (G.nm m)) since seen.toArray last):=by
 obtain ⟨h1,h2,h3,h4⟩:=hM.nmd n _ hn
 exact ⟨h1,h2,h3,h4⟩
theorem f2y {x:Operand} {n m since last:Nat} {seen:List Nat} {es:List (Value × LV)} (ho:o.op=.next x false) (hx:s.arg x=.gp n 0) (hn:s.H.obj n=some (.iter m since seen last)) (hm:s.H.obj m=some (.map es)) (hp:s.argP x) (h1:since=es.length) (h2:last=es.length)
  (hkey:∀ e ∈ es,b4w e.1=true) (hs:Sim E s a w) (hdst:∀ t,o.dst=some t->t < s.nt)
  (hmore:∀ i e,es[i]?=some e->i ∉ seen->∀ a' w',Sim E (({ s with H:=s.H.set n (.iter m since (seen ++ [i]) es.length) }:S).put o.dst (.tup [.d (.k (.bool true)),b4x e.1,e.2])) a' w'->next a' w')
  (hend:(∀ i,i < es.length->i ∈ seen)->∀ a' w',Sim E (s.put o.dst (.tup [.d (.k (.bool false))])) a' w'->next a' w'):o.wpIn (fnc rd) 0 P a w next (AQ E Q):=by
 subst h1;subst h2
 obtain ⟨g2,G,lm,g1,hM,hxt,henv,hex⟩:=hs
 have hv:=a0q henv x hp
 rw [hx] at hv;unfold LR at hv
 obtain ⟨hlt,hltm,hownn,hbn⟩:=d6j hM hn
 obtain ⟨_,hown,xs,c,hb,hR⟩:=a9w hM hm
 have hl:xs.length=es.length:=by have:=congrArg List.length hR.1;simpa using this
 have hc:c=es.length:=by rw [hR.2.2.2,hl]
 subst hc
 have hborn:∀ (i:Nat) (y:MapEntry),xs[i]?=some y->y.born=i:=fun i y hy=>by
  have:=congrArg (fun l=>l[i]?) hR.2.2.1
  have hi:=(List.getElem?_eq_some_iff.1 hy).1
  simp only [List.getElem?_map,hy,Option.map_some,List.getElem?_range hi] at this
  exact Option.some.inj this
 rcases run_next_at (P:=P) w o.type (G.nm n) (G.nm m) es.length es.length seen.toArray xs.toArray es.length hbn hb (fun y hy=>by
   obtain ⟨i,hi⟩:=List.getElem?_of_mem (show y ∈ xs from by simpa using hy)
   rw [hborn i y hi];have:=(List.getElem?_eq_some_iff.1 hi).1;omega) (Nat.le_refl _) with ⟨q1,q2⟩ | ⟨y,hy,w1,hw1,q2⟩
 ·have hrun:(execOp a.eval o).run P w=.ok (.value (.tuple #[.bool false])) w:=by simp [execOp,ho,hv.2,q2]
  refine ⟨fun _ _=>trivial,?_⟩
  rw [a5p hrun (fun d e=>by cases e)]
  refine hend (fun i hi=>?_) _ _ (Sim.mk' (L':=s.L) (H':=s.H) g2 g1 hM hxt henv (by unfold LR LRs LRs;exact ⟨[.bool false],rfl,_,_,rfl,d3v,rfl⟩) hdst)
  have hxi:xs[i]?=some (xs[i]'(by omega)):=List.getElem?_eq_getElem (by omega)
  by_cases hin:i ∈ seen
  ·exact hin
  ·have hmem:(xs[i]'(by omega)) ∈ (leftOf xs.toArray seen.toArray).toList:=by
    unfold leftOf
    simp only [Array.toList_filter,List.mem_filter]
    refine ⟨List.mem_of_getElem? hxi,?_⟩
    rw [hborn i _ hxi];simpa using hin
   have:(leftOf xs.toArray seen.toArray).toList.length=0:=by simpa using q1
   rw [List.length_eq_zero_iff] at this
   rw [this] at hmem;cases hmem
 ·have hyl:y ∈ xs/\y.born ∉ seen:=by
   unfold leftOf at hy
   simp only [Array.toList_filter,List.mem_filter] at hy
   exact ⟨hy.1,by simpa using hy.2⟩
  obtain ⟨i,hi⟩:=List.getElem?_of_mem hyl.1
  have hbi:=hborn i y hi
  have hil:=(List.getElem?_eq_some_iff.1 hi).1
  have hei:es[i]?=some (es[i]'(by omega)):=List.getElem?_eq_getElem (by omega)
  obtain ⟨y',r1,r2,r3,r4⟩:=d7d hR hei
  rw [hi] at r1;cases r1
  have hrun:(execOp a.eval o).run P w=.ok (.value (.tuple #[.bool true,y.key,y.val])) (ChangeMaps.setBlock w1 (G.nm n) (.mapIter (some (G.nm m)) es.length (seen.toArray.push y.born) es.length)):=by simp [execOp,ho,hv.2,q2]
  refine ⟨fun _ _=>trivial,?_⟩
  rw [a5p hrun (fun d e=>by cases e)]
  have hw1s:∃ G1:World,G1=w1/\MR G lm s.L s.H G1/\Ext E G s.H G1/\G1.heap=w.heap:=by
   rcases hw1 with rfl | rfl
   ·exact ⟨_,rfl,hM,hxt,rfl⟩
   ·exact ⟨_,rfl,⟨hM.imm,hM.immOwn,hM.fresh,hM.lmL,hM.loc,hM.nmd⟩,⟨⟨hxt.le,hxt.nx,hxt.os,hxt.tape,hxt.output,Nat.le_succ_of_le hxt.drawn,hxt.size,hxt.frame,hxt.own⟩,hxt.nl⟩,rfl⟩
  obtain ⟨G1,rfl,hM1,hx1,hheap⟩:=hw1s
  have hblt:G.nm n < G1.heap.size:=by rw [hheap];exact heap_lt hbn
  have hset:=hM1.a3b n hn (.iter m es.length (seen ++ [i]) es.length) (.mapIter (some (G.nm m)) es.length (seen.toArray.push y.born) es.length) hownn (by simp) (by simp)
   ⟨hltm,hownn,by rw [a2j,if_pos ⟨rfl,hblt⟩,hbi];simp⟩
  refine hmore i _ hei (by rw [<- hbi];exact hyl.2) _ _ (Sim.mk' (L':=s.L) (H':=s.H.set n _) g2 g1 hset (hx1.a3b hM1 n _ _ hownn) henv (f2e d3v ?_ ?_) hdst)
  ·rw [r2];exact d6i (hkey _ (List.mem_of_getElem? hei))
  ·exact a0v (Nat.le_refl _) (Gh.le_refl _ _) (fun _ _ e=>by cases e) _ _ r4
theorem e9r {x:Operand} {n m since last i:Nat} {seen:List Nat} {es:List (Value × LV)} {e:Value × LV} (ho:o.op=.entry x) (hx:s.arg x=.gp n 0) (hn:s.H.obj n=some (.iter m since seen last)) (hm:s.H.obj m=some (.map es)) (hp:s.argP x) (h2:last=es.length)
  (hkey:∀ e ∈ es,b4w e.1=true) (hi:seen.getLast?=some i) (he:es[i]?=some e) (hs:Sim E s a w) (hdst:∀ t,o.dst=some t->t < s.nt)
  (hk:∀ a' w',Sim E (s.put o.dst (.tup [b4x e.1,e.2])) a' w'->next a' w'):o.wpIn (fnc rd) 0 P a w next (AQ E Q):=by
 subst h2
 obtain ⟨g2,G,lm,g1,hM,hxt,henv,hex⟩:=hs
 have hv:=a0q henv x hp
 rw [hx] at hv;unfold LR at hv
 obtain ⟨hlt,hltm,hownn,hbn⟩:=d6j hM hn
 obtain ⟨_,hown,xs,c,hb,hR⟩:=a9w hM hm
 have hl:xs.length=es.length:=by have:=congrArg List.length hR.1;simpa using this
 have hc:c=es.length:=by rw [hR.2.2.2,hl]
 subst hc
 obtain ⟨y,r1,r2,r3,r4⟩:=d7d hR he
 obtain ⟨pre,rfl⟩:∃ pre,seen=pre ++ [i]:=⟨seen.dropLast,by
  have hne:seen ≠ []:=fun q=>by rw [q] at hi;cases hi
  rw [List.getLast?_eq_some_getLast hne] at hi
  conv=>lhs;rw [<- List.dropLast_concat_getLast hne]
  rw [Option.some.inj hi]⟩
 have hnd:(xs.toArray.toList.map (·.born)).Nodup:=by simp only [hR.2.2.1];exact List.nodup_range
 have hrun:=run_entry_at (P:=P) w (G.nm n) (G.nm m) since pre.toArray xs.toArray es.length y (by rw [hbn,r3];simp) hb (by simpa using List.mem_of_getElem? r1) hnd
 have hrun':(execOp a.eval o).run P w=.ok (.value (.tuple #[y.key,y.val])) w:=by simp [execOp,ho,hv.2,hrun]
 refine ⟨fun _ _=>trivial,?_⟩
 rw [a5p hrun' (fun d e=>by cases e)]
 refine hk _ _ (Sim.mk' (L':=s.L) (H':=s.H) g2 g1 hM hxt henv (f2f ?_ ?_) hdst)
 ·rw [r2];exact d6i (hkey _ (List.mem_of_getElem? he))
 ·exact a0v (Nat.le_refl _) (Gh.le_refl _ _) (fun _ _ e=>by cases e) _ _ r4
theorem e9w {fo:Operand} {args:Array Operand} {tys:Array TypeId} {f:FuncId} {first cap:List LV} (ho:o.op=.defer ⟨.value fo,args,tys⟩) (hf:a1k (s.arg fo)=some (f,first,cap)) (hp:s.argP fo) (hq:allP (args.toList.map s.argP))
  (hnb:nbs s.H.next (first ++ args.toList.map s.arg)) (hnb2:nbs s.H.next cap) (hs:Sim E s a w) (hdst:∀ t,o.dst=some t->t < s.nt) (hrd:rd.r=none)
  (hk:∀ a' w',Sim E (({ s with df:=.call f (first ++ args.toList.map s.arg) cap :: s.df }:S).put o.dst .any) a' w'->next a' w'):o.wpIn (fnc rd) 0 P a w next (AQ E Q):=by
 obtain ⟨g2,G,lm,g1,hM,hx,henv,_⟩:=hs
 have hfo:=a0q henv fo hp
 obtain ⟨x,hxe⟩:∃ x,s.arg fo=x:=⟨_,rfl⟩
 rw [hxe] at hf hfo
 unfold a1k at hf
 split at hf
 ·rename_i f' first' cap'
  cases hf
  unfold LR at hfo
  obtain ⟨fs,cs,e1,l1,l2⟩:=hfo
  have hargs:=b7a henv args.toList hq
  have hall:=a2g l1 hargs
  have hrun:(execOp a.eval o).run P w=.ok (.defer ⟨.fn (.func f) cs.toArray,(fs ++ args.toList.map a.eval).toArray⟩) w:=by
   simp only [execOp,ho,resolve]
   simp only [e1,Deferred.ofValue]
   simp [Sem.run_bind]
  refine ⟨fun _ _=>trivial,?_⟩
  rw [show (fnc rd).round=none from hrd,Oper.semAt_none,hrun]
  have hd:DFRs G s.H.next (.call f (first ++ args.toList.map s.arg) cap :: s.df) (⟨.fn (.func f) cs.toArray,(fs ++ args.toList.map a.eval).toArray⟩ :: a.defers) :=
   ⟨_,_,rfl,⟨_,_,rfl,a2a _ _ hall hnb,a2a _ _ l2 hnb2⟩,g1⟩
  exact hk _ _ (Sim.mk' (s:={ s with df:=.call f (first ++ args.toList.map s.arg) cap :: s.df }) (a:={ a with defers:=⟨.fn (.func f) cs.toArray,(fs ++ args.toList.map a.eval).toArray⟩ :: a.defers }) (L':=s.L) (H':=s.H) g2 hd hM hx henv (by simp [LR]) hdst)
 ·cases hf
theorem b0y {pub:Nat->Kd}:∀ (l:List Operand) (s s':S),b1t pub l s=some s'->Sim E s a w->Sim E s' a w/\s'.nt=s.nt
 | [],s,s',h,hs=>by simp only [b1t,Option.some.injEq] at h;subst h;exact ⟨hs,rfl⟩
 | o :: l,s,s',h,hs=>by
  simp only [b1t] at h
  split at h
  ·rename_i k hk
   split at h
   ·split at h
    ·rename_i cs hL
     split at h
     ·rename_i hn
      obtain ⟨h1,h2⟩:=b0y l _ s' h (hs.frz hL hn)
      exact ⟨h1,h2⟩
     ·cases h
    ·cases h
   ·exact b0y l s s' h hs
  ·exact b0y l s s' h hs
theorem b1z (hc:c.ok P) (h:a4p P c s o.dst o.op K Q) (hk:∀ s' a' w',K s'->Sim E s' a' w'->next a' w') (hs:Sim E s a w) (hdst:∀ t,o.dst=some t->t < s.nt):o.wpIn (fnc c.rd) 0 P a w next (AQ E Q):=by
 have gen:(match opX c.ty c.eqt c.pub s o.dst o.op with | none=>False | some r=>r.pre/\K ((s.eff o.dst r.eff).put o.dst r.v))->o.wpIn (fnc c.rd) 0 P a w next (AQ E Q):=by
  intro h
  cases hX:opX c.ty c.eqt c.pub s o.dst o.op with
  | none=>rw [hX] at h;exact h.elim
  | some r =>
   rw [hX] at h
   exact a6r (a9s hc.ty hc.eqt hc.key hX h.1 hs hdst) fun s' a' w' e hS=>hk _ _ _ (e ▸ h.2) hS
 cases hop:o.op with
 | call cl =>
  obtain ⟨callee,args,tys⟩:=cl
  cases callee with
  | value fo =>
   rw [hop] at h
   simp only [a4p] at h
   cases hf:a1k (s.arg fo) with
   | none =>
    rw [hf] at h
    simp only at h
    split at h
    ·rename_i n hy
     exact e7j hop hy h.1 h.2.1 h.2.2.1 hs hdst h.2.2.2 (fun v H' a' w' hR _ hS=>hk _ _ _ hR hS) fun x H' hR=>hR
    ·exact h.elim
   | some p =>
    obtain ⟨f,first,cap⟩:=p
    rw [hf] at h
    simp only at h
    obtain ⟨h1,h2,h3,h4⟩:=h
    cases hsp:c.spec f (first ++ args.toList.map s.arg ++ cap) with
    | none =>
     rw [hsp] at h4
     exact d3s hop hf h1 h2 h3 hs hdst h4 (fun v H' a' w' hR hS=>hk _ _ _ hR hS) fun x H' hR=>hR
    | some p =>
     obtain ⟨pre,v⟩:=p
     rw [hsp] at h4
     refine d3s (R:=fun ce H'=>ce=.ret v/\H'=s.H) hop hf h1 h2 h3 hs hdst (hc.spec _ _ _ _ hsp h4.1 s.H) (fun v' H' a' w' hR hS=>?_) fun x H' hR=>(by cases hR.1)
     obtain ⟨e1,rfl⟩:=hR
     cases e1
     exact hk _ _ _ h4.2 hS
  | builtin b=>rw [hop] at h gen;exact gen h
  | invoke f m=>rw [hop] at h gen;exact gen h
 | defer cl =>
  obtain ⟨callee,args,tys⟩:=cl
  cases callee with
  | value fo =>
   rw [hop] at h
   simp only [a4p] at h
   cases hf:a1k (s.arg fo) with
   | none=>rw [hf] at h;exact h.elim
   | some p =>
    obtain ⟨f,first,cap⟩:=p
    rw [hf] at h
    simp only at h
    obtain ⟨h0,h1,h2,h3,h3',h4⟩:=h
    exact e9w hop hf h1 h2 h3 h3' hs hdst h0 fun a' w' hS=>hk _ _ _ h4 hS
  | builtin b=>rw [hop] at h gen;exact gen h
  | invoke f m=>rw [hop] at h gen;exact gen h
 | makeFunc fn first cap =>
  rw [hop] at h
  simp only [a4p] at h
  split at h
  ·exact h.elim
  ·rename_i s' hf
   obtain ⟨h1,h2⟩:=b0y _ _ _ hf hs
   exact a6r (b2d (s:=s') hop h1 (fun t ht=>by rw [h2];exact hdst t ht) True) fun s2 a' w' e hS=>hk _ _ _ (by subst e;exact h) hS
 | range T x =>
  rw [hop] at h
  simp only [a4p] at h
  split at h
  ·rename_i kt et sz zero bt m hT hx
   split at h
   ·rename_i es hn
    exact e7x (hc.ty _ _ hT) rfl hop hx hn h.1 hs hdst fun a' w' hS=>hk _ _ _ h.2 hS
   ·exact h.elim
  ·exact h.elim
 | next x str =>
  rw [hop] at h
  cases str with
  | true=>simp only [a4p,opX,a1x] at h
  | false =>
   simp only [a4p] at h
   split at h
   ·rename_i n hx
    split at h
    ·rename_i m since seen last hn
     split at h
     ·rename_i es hm
      obtain ⟨h1,h2,h3,h4,h5,h6⟩:=h
      exact f2y hop hx hn hm h1 h2 h3 (fun e he=>List.all_eq_true.1 h4 e he) hs hdst (fun i e hi hni a' w' hS=>hk _ _ _ (h5 i e hi hni) hS) fun hall a' w' hS=>hk _ _ _ (h6 hall) hS
     ·exact h.elim
    ·exact h.elim
   ·exact h.elim
 | entry x =>
  rw [hop] at h
  simp only [a4p] at h
  split at h
  ·rename_i n hx
   split at h
   ·rename_i m since seen last hn
    split at h
    ·rename_i es hm
     obtain ⟨h1,h2,h3,i,e,h4,h5,h6⟩:=h
     exact e9r hop hx hn hm h1 h2 (fun e he=>List.all_eq_true.1 h3 e he) h4 h5 hs hdst fun a' w' hS=>hk _ _ _ h6 hS
    ·exact h.elim
   ·exact h.elim
  ·exact h.elim
 | panic x =>
  rw [hop] at h
  simp only [a4p] at h
  obtain ⟨h1,h2,h3⟩:=h
  obtain ⟨g2,G,lm,g1,hM,hx,henv,_⟩:=id hs
  have hxv:=a0q henv x h1
  split at h3
  ·rename_i T v e
   have hv2:=a6d _ _ hxv h2
   rw [e] at hxv hv2
   have hev:a.eval x=.iface T v:=by unfold LR DR at hxv;exact hxv.1
   refine ⟨fun _ _=>trivial,?_⟩
   have:(execOp a.eval o).run P w=.halt (.panic (.iface T v)) w:=by simp [execOp,hop,hev,Instr.panic,goPanic]
   rw [Oper.semAt_eq _ _ _ (fun c e=>by rw [hop] at e;cases e),this]
   refine ⟨_,s,h3,g2,G,lm,g1,hM,hx,henv,.iface T v,rfl,?_⟩
   rw [e];rw [hev] at hv2;exact hv2
  ·exact h3.elim
 | buildSlice T len parts =>
  rw [hop] at h gen
  simp only [a4p] at h
  cases hb:bsV c.ty c.pub s o.dst T len parts with
  | none=>rw [hb,Option.none_or] at h;exact gen h
  | some r =>
   rw [hb,Option.some_or] at h
   exact a6r (e5w hc.ty hop hb h.1 hs hdst) fun s' a' w' e hS=>hk _ _ _ (e ▸ h.2) hS
 | _=>rw [hop] at h gen;exact gen h
theorem c7m (hc:c.ok P) {pre:Prop} {v:LV} (h:a1f c s o.dst o.op=some (pre,v)) (hp:pre) (hk:∀ a' w',Sim E (s.put o.dst v) a' w'->next a' w') (hs:Sim E s a w) (hdst:∀ t,o.dst=some t->t < s.nt):o.wpIn (fnc c.rd) 0 P a w next (AQ E Q):=by
 by_cases hmf:∃ fn first cap,o.op=.makeFunc fn first cap
 ·obtain ⟨fn,first,cap,hop⟩:=hmf
  rw [hop] at h
  simp only [a1f,opX,a1x,Option.some.injEq,Prod.mk.injEq] at h
  obtain ⟨rfl,rfl⟩:=h
  exact a6r (b2d hop hs hdst True) fun s2 a' w' e hS=>hk _ _ (by subst e;exact hS)
 by_cases hbs:∃ T l q,o.op=.buildSlice T l q
 ·obtain ⟨T,l,q,hop⟩:=hbs
  cases hX:opX c.ty c.eqt c.pub s o.dst (.buildSlice T l q) with
  | none=>rw [hop] at h;simp only [a1f,hX] at h;cases h
  | some r =>
   rw [hop] at h
   simp only [a1f,hX] at h
   obtain ⟨p',v',e'⟩:=r
   cases e' <;> simp only [Option.some.injEq,Prod.mk.injEq,reduceCtorEq] at h
   obtain ⟨rfl,rfl⟩:=h
   rw [<- hop] at hX
   exact a6r (a9s hc.ty hc.eqt hc.key hX hp hs hdst) fun s2 a' w' e hS=>hk _ _ (by subst e;exact hS)
 refine b1z (K:=fun s'=>s'=s.put o.dst v) hc ?_ (fun s' a' w' e hS=>hk _ _ (e ▸ hS)) hs hdst
 have gen:(∃ r,opX c.ty c.eqt c.pub s o.dst o.op=some r/\r = ⟨pre,v,.no⟩)->(match opX c.ty c.eqt c.pub s o.dst o.op with | none=>False | some r=>r.pre/\(s.eff o.dst r.eff).put o.dst r.v=s.put o.dst v):=by
  rintro ⟨r,e,rfl⟩
  rw [e];exact ⟨hp,rfl⟩
 have ext:∀ op',(match opX c.ty c.eqt c.pub s o.dst op' with | some ⟨pre,v,.no⟩=>some (pre,v) | _=>none)=some (pre,v)->∃ r,opX c.ty c.eqt c.pub s o.dst op'=some r/\r = ⟨pre,v,.no⟩:=by
  intro op' h
  cases hX:opX c.ty c.eqt c.pub s o.dst op' with
  | none=>rw [hX] at h;cases h
  | some r =>
   rw [hX] at h
   obtain ⟨p',v',e'⟩:=r
   cases e' <;> simp only [Option.some.injEq,Prod.mk.injEq,reduceCtorEq] at h
   obtain ⟨rfl,rfl⟩:=h
   exact ⟨_,rfl,rfl⟩
 cases hop:o.op with
 | call cl =>
  obtain ⟨callee,args,tys⟩:=cl
  cases callee with
  | value fo =>
   rw [hop] at h
   simp only [a1f] at h
   simp only [a4p]
   cases hf:a1k (s.arg fo) with
   | none=>rw [hf] at h;cases h
   | some p =>
    obtain ⟨f,first,cap⟩:=p
    rw [hf] at h
    simp only [Option.map_eq_some_iff] at h
    obtain ⟨r,h1,h2⟩:=h
    simp only [Prod.mk.injEq] at h2
    obtain ⟨rfl,rfl⟩:=h2
    obtain ⟨p1,p2,p3,p4⟩:=hp
    simp only
    refine ⟨p1,p2,p3,?_⟩
    rw [h1]
    exact ⟨p4,rfl⟩
  | builtin b=>rw [hop] at h gen;exact gen (ext _ h)
  | invoke f m=>rw [hop] at h gen;exact gen (ext _ h)
 | panic x=>rw [hop] at h;simp [a1f,opX,a1x] at h
 | makeFunc fn first cap=>exact absurd ⟨_,_,_,hop⟩ hmf
 | buildSlice T l q=>exact absurd ⟨_,_,_,hop⟩ hbs
 | range T x=>rw [hop] at h;simp [a1f,opX,a1x] at h
 | next x b=>rw [hop] at h;simp [a1f,opX,a1x] at h
 | entry x=>rw [hop] at h;simp [a1f,opX,a1x] at h
 | defer x=>rw [hop] at h;simp [a1f,opX,a1x] at h
 | _=>rw [hop] at h gen;exact gen (ext _ h)
theorem b4n {x y z:Operand} {g:Bool} (ho:o.op=.pick x y z) (hx:s.arg x=.d (.k (.bool g))) (hp:s.argP x) (h1:g=true->s.argP y) (h2:g=false->s.argP z) (hs:Sim E s a w) (hdst:∀ t,o.dst=some t->t < s.nt) (pre:Prop) :
  OpOk P E s o a w ⟨pre,b2c g (s.arg y) (s.arg z),.no⟩ :=
 OpOk.pure hs hdst fun G lm hM henv=>by
  have hv:=a0q henv x hp
  rw [hx] at hv;unfold LR DR at hv
  refine ⟨if g then a.eval y else a.eval z,by simp [execOp,ho,hv.1,asBool],?_⟩
  cases g
  ·have:=a0q henv z (h2 rfl)
   unfold b2c
   split
   ·rename_i e1 e2;rw [e2] at this;simpa using this
   ·simpa using this
  ·have:=a0q henv y (h1 rfl)
   unfold b2c
   split
   ·rename_i e1 e2;rw [e1] at this;simpa using this
   ·simpa using this
theorem b0t {v:LV} (hv:∀ G nx lm,LR G nx lm v undef) (hs:Sim E s a w) (hdst:∀ t,o.dst=some t->t < s.nt):Sim E (s.put o.dst v) (a.put o.dst undef) w:=by
 obtain ⟨g2,G,lm,g1,hM,hx,henv,_⟩:=hs
 exact Sim.mk' (L':=s.L) (H':=s.H) g2 g1 hM hx henv (hv _ _ _) hdst
theorem e4l {v:LV} (dst:Option Nat) (h:Sim E (s.put dst v) a w) (g:Bool) (hg:g=true) (hne:∀ t,dst=some t->t < s.nt):Sim E (s.put dst (.gd g v)) a w:=by
 obtain ⟨g2,G,lm,g1,hM,hx,henv,_⟩:=h
 cases dst with
 | none=>exact ⟨g2,G,lm,g1,hM,hx,henv,rfl⟩
 | some t =>
  refine ⟨g2,G,lm,g1,hM,hx,fun u=>?_,rfl⟩
  have:=henv u
  simp only [S.put] at this |-
  by_cases e:u=t
  ·subst e
   rw [upd_same] at this |-
   unfold LR;exact ⟨fun _=>this,fun q=>by rw [hg] at q;cases q⟩
  ·rw [upd_ne _ _ e] at this |-;exact this
theorem b0b {ops:Array Oper} {j:Nat} {want g:Bool} (hs:Sim E s a w) (hg:o.guard=some (j,want)) (h:guardOf ops s j want=some g):Region.wanted o (yielded ops a.tmps)=g:=by
 obtain ⟨g2,G,lm,g1,hM,hx,henv,_⟩:=hs
 unfold guardOf at h
 unfold Region.wanted yielded
 rw [hg]
 simp only
 cases ht:(ops[j]?).bind (·.dst) with
 | none=>rw [ht] at h;cases h
 | some t =>
  rw [ht] at h
  simp only at h
  have hv:=henv t
  have hget:∀ b:Bool,a.tmps.getD t undef=.bool b->a.tmps[t]?=some (.bool b):=fun b hb=>by
   rcases Nat.lt_or_ge t a.tmps.size with q | q
   ·rw [Array.getElem?_eq_getElem q];simp [Array.getD,q] at hb;rw [hb]
   ·simp [Array.getD,Nat.not_lt.2 q,undef] at hb
  split at h
  ·rename_i b e
   cases h
   rw [e] at hv;unfold LR DR at hv
   simp only [Option.bind_some,hget b hv.1]
   cases b <;> cases want <;> rfl
  ·rename_i g0 b e
   cases h
   rw [e] at hv;unfold LR at hv
   cases g0
   ·have hu:=hv.2 rfl
    have:∀ b:Bool,a.tmps[t]? ≠ some (.bool b):=fun b hb=>by
     have:a.tmps.getD t undef=.bool b:=by simp [Array.getD_eq_getD_getElem?,hb]
     rw [hu] at this;cases this
    simp only [Option.bind_some,Bool.false_and]
    cases hq:a.tmps[t]? with
    | none=>rfl
    | some u =>
     cases u <;> first | rfl | exact absurd hq (this _)
   ·have hb:=hv.1 rfl
    unfold LR DR at hb
    simp only [Option.bind_some,hget b hb.1,Bool.true_and]
    cases b <;> cases want <;> rfl
  ·cases h
theorem a4k (hc:c.ok P) {ops:Array Oper}:∀ (l:List Oper) (s:S) (a:Act) (w:World),runC P c ops l s Q->Sim E s a w->wpListIn (fnc c.rd) 0 P ops (AQ E Q) l a w
 | [],s,a,w,h,hs=>⟨.normal,s,h,hs⟩
 | o :: rest,s,a,w,h,hs=>by
  simp only [runC] at h
  obtain ⟨hd,h⟩:=h
  have hdst:∀ t,o.dst=some t->t < s.nt:=fun t ht=>by rw [ht] at hd;exact hd
  cases hg:o.guard with
  | none =>
   have hw:Region.wanted o (yielded ops a.tmps)=true:=by simp [Region.wanted,hg]
   unfold wpListIn
   rw [if_pos hw]
   rw [hg] at h
   simp only at h
   have gen:∀ op',o.op=op'->a4p P c s o.dst op' (fun s'=>runC P c ops rest s' Q) Q->o.wpIn (fnc c.rd) 0 P a w (wpListIn (fnc c.rd) 0 P ops (AQ E Q) rest) (AQ E Q):=fun op' e h' =>
    b1z hc (e ▸ h') (fun s' a' w' hK hS=>a4k hc rest s' a' w' hK hS) hs hdst
   cases hop:o.op with
   | pick x y z =>
    rw [hop] at h
    simp only at h
    split at h
    ·rename_i g hx
     exact a6r (b4n hop hx h.1 h.2.1 h.2.2.1 hs hdst True) fun s' a' w' e hS=>a4k hc rest s' a' w' (by subst e;exact h.2.2.2) hS
    ·exact h.elim
   | _=>rw [hop] at h;exact gen _ hop h
  | some p =>
   obtain ⟨j,want⟩:=p
   rw [hg] at h
   simp only at h
   cases hgu:guardOf ops s j want with
   | none=>rw [hgu] at h;exact h.elim
   | some g =>
    rw [hgu] at h
    simp only at h
    have hw:=b0b hs hg hgu
    unfold wpListIn
    rw [hw]
    have qgen:∀ (pre:Prop) (v:LV),(∀ (next:Act->World->Prop),(g=true->pre)->g=true->(∀ a' w',Sim E (s.put o.dst v) a' w'->next a' w')->o.wpIn (fnc c.rd) 0 P a w next (AQ E Q))->(g=true->pre)->runC P c ops rest (s.put o.dst (.gd g v)) Q ->
      (if g=true then o.wpIn (fnc c.rd) 0 P a w (wpListIn (fnc c.rd) 0 P ops (AQ E Q) rest) (AQ E Q) else (∀ f,o.about P w a.eval=some f->(fnc c.rd).fn f)/\wpListIn (fnc c.rd) 0 P ops (AQ E Q) rest (a.put o.dst undef) w):=by
     intro pre v hwp hpre hrest
     cases hgb:g
     ·simp only [Bool.false_eq_true,if_false]
      subst hgb
      exact ⟨fun _ _=>trivial,a4k hc rest _ _ _ hrest (b0t (fun G nx lm=>by unfold LR;exact ⟨(fun q=>by cases q),fun _=>rfl⟩) hs hdst)⟩
     ·simp only [if_true]
      exact hwp _ hpre hgb fun a' w' hS=>a4k hc rest _ _ _ hrest (e4l o.dst hS g hgb hdst)
    have gen:∀ op',o.op=op'->(match a1f c s o.dst op' with
      | some (pre,v)=>(g=true->pre)/\runC P c ops rest (s.put o.dst (.gd g v)) Q
      | none=>(g=true->a4p P c s o.dst op' (fun s'=>runC P c ops rest s' Q) Q)/\(g=false->runC P c ops rest (s.put o.dst .any) Q)) ->
      (if g=true then o.wpIn (fnc c.rd) 0 P a w (wpListIn (fnc c.rd) 0 P ops (AQ E Q) rest) (AQ E Q) else (∀ f,o.about P w a.eval=some f->(fnc c.rd).fn f)/\wpListIn (fnc c.rd) 0 P ops (AQ E Q) rest (a.put o.dst undef) w):=by
     intro op' e h'
     subst e
     cases hq:a1f c s o.dst o.op with
     | some p =>
      obtain ⟨pre,v⟩:=p
      rw [hq] at h'
      exact qgen pre v (fun next hpre hgt hn=>c7m hc hq (hpre hgt) hn hs hdst) h'.1 h'.2
     | none =>
      rw [hq] at h'
      cases hgb:g
      ·simp only [Bool.false_eq_true,if_false]
       exact ⟨fun _ _=>trivial,a4k hc rest _ _ _ (h'.2 hgb) (b0t (fun G nx lm=>by simp [LR]) hs hdst)⟩
      ·simp only [if_true]
       exact b1z hc (h'.1 hgb) (fun s' a' w' hK hS=>a4k hc rest s' a' w' hK hS) hs hdst
    cases hop:o.op with
    | pick x y z =>
     rw [hop] at h
     simp only at h
     split at h
     ·rename_i b hx
      refine qgen (s.argP x/\(b=true->s.argP y)/\(b=false->s.argP z)) _ (fun next hpre hgt hn=>?_) h.1 h.2
      have:=hpre hgt
      exact a6r (b4n hop hx this.1 this.2.1 this.2.2 hs hdst True) fun s' a' w' e hS=>hn a' w' (by subst e;exact hS)
     ·exact h.elim
    | _=>rw [hop] at h;exact gen _ hop h
theorem AWp.region (hc:c.ok P) {id:Nat} {ops:Array Oper} (h:runC P c ops ops.toList s Q):AWp P c.rd (.region id ops false) s Q :=
 fun E a w hs=>a2m<|wpIn_region_list (a4k hc ops.toList s a w h hs)
def evC (P:Program) (c:Cx):Code->S->(AE->S->Prop)->Prop
 | .skip,s,Q=>Q .normal s
 | .label _,s,Q=>Q .normal s
 | .ret,s,Q=>Q .ret s
 | .exit id,s,Q=>Q (.exit id) s
 | .goto l,s,Q=>Q (.goto l) s
 | .seq x y,s,Q=>evC P c x s (e1v (fun s'=>evC P c y s' Q) Q)
 | .block id x,s,Q=>evC P c x s (c9z id Q)
 | .cond o x y,s,Q=>match s.get o with
  | .d (.k (.bool g))=>(g=true->evC P c x s Q)/\(g=false->evC P c y s Q)
  | _=>False
 | .region id ops false,s,Q=>runC P c ops ops.toList s Q
 | x,s,Q=>AWp P c.rd x s Q
theorem a7r (hc:c.ok P):∀ (x:Code) (s:S) (Q:AE->S->Prop),evC P c x s Q->AWp P c.rd x s Q
 | .skip,s,Q,h=>AWp.skip h
 | .label _,s,Q,h=>AWp.label h
 | .ret,s,Q,h=>AWp.ret h
 | .exit id,s,Q,h=>AWp.exit h
 | .goto l,s,Q,h=>AWp.goto h
 | .seq x y,s,Q,h=>AWp.seq ((a7r hc x s _ h).mono fun e s' q=>by
   cases e <;> first | exact a7r hc y s' Q q | exact q)
 | .block id x,s,Q,h=>AWp.block (a7r hc x s _ h)
 | .cond o x y,s,Q,h=>by
  simp only [evC] at h
  split at h
  ·rename_i g e
   exact AWp.cond e (fun q=>a7r hc x s Q (h.1 q)) (fun q=>a7r hc y s Q (h.2 q))
  ·exact h.elim
 | .region id ops false,s,Q,h=>AWp.region hc h
 | .region id ops true,s,Q,h=>h
 | .loop _,s,Q,h=>h
 | .rangeFunc ..,s,Q,h=>h
 | .scope _,s,Q,h=>h
 | .refuse _,s,Q,h=>h
end
end Go.Aft
