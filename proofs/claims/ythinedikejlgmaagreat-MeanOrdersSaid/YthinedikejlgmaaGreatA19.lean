import Derived.Test.YthinedikejlgmaaGreatA18
import Derived.RecoverIn
set_option linter.all false
section
namespace Go.Aft
section
variable {P:Program} {Q:Exit->Act->List Frame->World->Prop} {a:Act} {cs:List Frame} {w:World}
theorem c6n {c:Code} (h:wpA P RD.any c (fun e a' w'=>Q e a' cs w') a w):c.wpSIn Fence.wide 0 P Q a cs w :=
 fun b k _ hr _ _=>let ⟨e,a',w',q,r⟩:=h b k cs hr (fun _ h=>by cases h);⟨e,a',cs,w',rfl,q,r⟩
def recV:DM->LV
 | .pan x=>x
 | _=>.d (.k .nilIface)
def recM:DM->DM
 | .pan x=>.rec_ x
 | m=>m
def runX (c:Cx) (K:S->Prop):List Oper->S->Prop
 | [],s=>K s
 | o :: os,s=>o.guard=none/\c9p o.dst s.nt/\∃ r,opX c.ty c.eqt c.pub s o.dst o.op=some r/\r.pre/\runX c K os ((s.eff o.dst r.eff).put o.dst r.v)
def c9q (H0:GH) (m:DM) (R:DM->GH->Prop):AE->S->Prop
 | .normal,s | .ret,s=>s.df=[]/\∃ H',Drop H0 s.H H'/\R m H'
 | _,_=>False
theorem b7c {o:Oper} (h:o.guard=none) (y:Nat->Option Bool):Region.wanted o y=true:=by unfold Region.wanted;rw [h]
theorem c1t {c:Cx} (hc:c.ok P) {E:Ent} {K:S->Prop} {ops:Array Oper} (hk:∀ s a w,K s->Sim E s a w->Q .normal a cs w) :
  ∀ (l:List Oper) (k:Nat) (s:S) (a:Act) (w:World),(∀ i,ops[k+i]?=l[i]?)->runX c K l s->Sim E s a w->wpOpsSIn Fence.wide 0 P ops Q (List.range' k l.length) a cs w
 | [],k,s,a,w,_,h,hs=>hk s a w h hs
 | o :: os,k,s,a,w,hl,h,hs=>by
  obtain ⟨hg,hd,r,h1,h2,h3⟩:=h
  have h0:=hl 0
  simp only [Nat.add_zero,List.getElem?_cons_zero] at h0
  simp only [List.length_cons,List.range'_succ,wpOpsSIn,h0]
  refine ⟨fun _ _=>trivial,?_⟩
  rw [if_pos (b7c hg _)]
  have hdst:∀ t,o.dst=some t->t < s.nt:=fun t ht=>by rw [ht] at hd;exact hd
  obtain ⟨n,v',w',q1,q2,q3⟩:=a9s hc.ty hc.eqt hc.key h1 h2 hs hdst
  rw [q1]
  have rest:=c1t hc hk os (k+1) _ _ w' (fun i=>by rw [Nat.add_assoc,Nat.add_comm 1 i];simpa using hl (i+1)) h3 q3
  rcases q2 with rfl | ⟨rfl,rfl⟩ <;> exact rest
theorem e0t {G:Gh} {H:GH} {args:List LV} {vs:List Value} (hargs:LRs G H.next noL args vs) (nt:Nat) (t:Nat):LR G H.next noL (a3k 0 args t) ((vs.toArray ++ Array.replicate (nt - vs.toArray.size) undef).getD t undef):=by
 have hlen:=a0u hargs
 rw [b0w,if_pos (Nat.zero_le _),Nat.sub_zero]
 by_cases ht:t < args.length
 ·have hx:args[t]?=some (args.getD t .any):=by simp [List.getD,List.getElem?_eq_getElem ht]
  obtain ⟨v,h1,h2⟩:=a6y hargs t _ hx
  have:(vs.toArray ++ Array.replicate (nt - vs.toArray.size) undef).getD t undef=v:=by
   rw [Array.getD_eq_getD_getElem?,Array.getElem?_append_left (by simp;omega)]
   simp [h1]
  rw [this];exact h2
 ·have:args.getD t .any=.any:=by simp [List.getD,List.getElem?_eq_none (Nat.le_of_not_lt ht)]
  rw [this];simp [LR]
theorem b0p.a4l {c:Cx} (hc:c.ok P) {f:FuncId} {fn:Func} {id t:Nat} {o1:Oper} {os:List Oper} {rest:Code} {tys:Array TypeId} (hf:P.funcs[f]?=some fn) (hb:fn.body=some (.seq (.region id (o1 :: os).toArray false) rest)) (he:Enters P f)
  (ho1:o1.op=.call ⟨.builtin .recover,#[],tys⟩) (hd1:o1.dst=some t) (hg1:o1.guard=none) {args:List LV} (hn:args.length<=fn.ntmps) (ht:t < fn.ntmps) (hres:fn.results=#[]) {H:GH} {m:DM} {R:DM->GH->Prop}
  (h:(∀ n,H.next<=n->H.obj n=none)->runX c (fun s=>AWp P RD.any rest s (c9q H (recM m) R)) os ⟨upd (a3k 0 args) t (recV m),noS,H,fn.ntmps,[]⟩):b0p P f args H m R:=by
 refine ⟨he,fun G w vs u hM hNL hargs hu=>?_⟩
 have hnone:∀ n,H.next<=n->H.obj n=none:=fun n hn=>by
  cases ho:H.obj n with
  | none=>rfl
  | some o=>have:=(hM.nmd n o ho).1;omega
 have hE:∀ m o,H.obj m=some o->OR G H.next w m o:=fun m o ho=>(hM.nmd m o ho).2
 have hlen:=a0u hargs
 refine callsDIn_of_wpSIn hf hb trivial fun c0 cs hcu=>wpSIn_seq (wpSIn_region ?_)
 have hsize:(vs.toArray ++ Array.replicate (fn.ntmps - vs.toArray.size) undef).size=fn.ntmps:=by simp;omega
 -- the rest,from a state in which recover has been called
 have key:∀ (v:Value) (cs':List Frame),LR G H.next noL (recV m) v->(∀ (G':Gh) (H':GH),G.le H.next G'->H.next<=H'.next->∃ u',cs' = { c0 with mode:=u' } :: cs/\DMR G' H'.next (recM m) u') ->
   wpOpsSIn Fence.wide 0 P (o1 :: os).toArray (Exit.thenS (rest.wpSIn Fence.wide 0 P (bodyPostS P fn c0 cs fun e u' w'=>∃ v m' H' G',e=.returned v/\R m' H'/\DMR G' H'.next m' u'/\MR G' noL noS H' w'/\b0o G'/\Ext ⟨G,H,w⟩ G' H' w'))
    (bodyPostS P fn c0 cs fun e u' w'=>∃ v m' H' G',e=.returned v/\R m' H'/\DMR G' H'.next m' u'/\MR G' noL noS H' w'/\b0o G'/\Ext ⟨G,H,w⟩ G' H' w')) (List.range' 1 os.length)
    (Act.put { tmps:=vs.toArray ++ Array.replicate (fn.ntmps - vs.toArray.size) undef,defers:=[] } (some t) v) cs' w:=by
  intro v cs' hv hm
  refine c1t (E:=⟨G,H,w⟩) hc (fun s a w' hs hS=>?_) os 1 _ _ w (fun i=>by simp [Nat.add_comm 1 i]) (h hnone) ?_
  ·refine c6n (a4a (hs ⟨G,H,w⟩ a w' hS) ?_)
   rintro e a2 w2 ⟨ae,s2,q,r⟩
   obtain ⟨g2,G2,lm2,g1,hM2,hx2,henv2,hex⟩:=r
   have fin:s2.df=[]->(∃ H',Drop H s2.H H'/\R (recM m) H')->a2.defers=[]/\∃ u',cs' = { c0 with mode:=u' } :: cs/\∃ v,(results fn a2.tmps).run P w2=.ok v w2/\∃ v' m' H' G',Ending.returned v=.returned v'/\R m' H'/\DMR G' H'.next m' u'/\MR G' noL noS H' w2/\b0o G'/\Ext ⟨G,H,w⟩ G' H' w2:=by
    rintro hdf ⟨H',hd,hR⟩
    rw [hdf] at g1
    obtain ⟨e1,e2,e3⟩:=c0i hM2 (E:=⟨G,H,w⟩) hE hNL hx2 hd
    obtain ⟨u',k1,k2⟩:=hm _ H' e3.le e3.nx
    refine ⟨g1,u',k1,.tuple #[],?_,.tuple #[],recM m,H',_,rfl,hR,k2,e1,e2,e3⟩
    simp [results,hres]
   cases ae with
   | normal=>cases hex;exact fin q.1 q.2
   | ret=>cases hex;exact fin q.1 q.2
   | exit i=>exact q.elim
   | goto l=>exact q.elim
   | pan x=>exact q.elim
  ·refine ⟨?_,G,noL,rfl,hM,Ext.refl G H w hNL,fun x=>?_,rfl⟩
   ·simp only [Act.put,Array.size_setIfInBounds];exact hsize
   ·simp only [Act.put]
    by_cases e:x=t
    ·subst e
     rw [upd_same]
     have hlt:x < (vs.toArray ++ Array.replicate (fn.ntmps - vs.toArray.size) undef).size:=by rw [hsize];exact ht
     rw [Array.getD_eq_getD_getElem?,Array.getElem?_setIfInBounds_self_of_lt hlt]
     exact hv
    ·rw [upd_ne _ _ e]
     have:=e0t hargs fn.ntmps x
     rw [Array.getD_eq_getD_getElem?,Array.getElem?_setIfInBounds_ne (Ne.symm e),<- Array.getD_eq_getD_getElem?]
     exact this
 have hrange:List.range (o1 :: os).toArray.size=0 :: List.range' 1 os.length:=by
  simp [List.range_eq_range',List.range'_succ]
 rw [hrange]
 have h0:(o1 :: os).toArray[0]?=some o1:=by simp
 simp only [wpOpsSIn,h0]
 refine ⟨fun _ _=>trivial,?_⟩
 rw [if_pos (b7c hg1 _)]
 have hrun:∀ a:Act,(execOp a.eval o1).run P w=.ok .recover w:=fun a=>by
  simp [execOp,ho1,resolve,invoke,builtin]
 rw [hrun,hd1]
 cases m with
 | ret =>
  cases hu
  have hrec:recoverD (c0 :: cs)=none:=by simp [recoverD,hcu]
  simp only [hrec]
  exact key _ _ (by unfold recV LR DR;exact ⟨rfl,rfl⟩) fun G' H' _ _=>⟨.returning,by rw [<- hcu],rfl⟩
 | pan x =>
  obtain ⟨v,rfl,hv⟩:=hu
  have hrec:recoverD (c0 :: cs)=some (v,{ c0 with mode:=.panicking [{ v:=v,recovered:=true }] } :: cs):=by simp [recoverD,hcu]
  simp only [hrec]
  exact key _ _ hv fun G' H' hle hnx=>⟨_,rfl,v,rfl,a0v hnx hle (fun _ _ e=>e) _ _ hv⟩
 | rec_ x =>
  obtain ⟨v,rfl,hv⟩:=hu
  have hrec:recoverD (c0 :: cs)=none:=by simp [recoverD,hcu]
  simp only [hrec]
  exact key _ _ (by unfold recV LR DR;exact ⟨rfl,rfl⟩) fun G' H' hle hnx=>⟨_,by rw [<- hcu],v,rfl,a0v hnx hle (fun _ _ e=>e) _ _ hv⟩
end
end Go.Aft
end
section
namespace Go.Aft
mutual
def LV.thaw (n g sz:Nat) (rows:List (List DV)):LV->LV
 | .vs m g' sz' i len=>if m=n/\g'=g/\sz'=sz/\i+len<=rows.length then .d (.sl ((rows.drop i).take len)) else .vs m g' sz' i len
 | .fn f first cap=>.fn f (a7f n g sz rows first) (a7f n g sz rows cap)
 | .agg xs=>.agg (a7f n g sz rows xs)
 | .tup xs=>.tup (a7f n g sz rows xs)
 | x=>x
def a7f (n g sz:Nat) (rows:List (List DV)):List LV->List LV
 | []=>[]
 | x :: xs=>LV.thaw n g sz rows x :: a7f n g sz rows xs
end
theorem b5k (n g sz:Nat) (rows:List (List DV)):∀ xs:List LV,(a7f n g sz rows xs).length=xs.length
 | []=>by simp [a7f]
 | x :: xs=>by simp [a7f,b5k n g sz rows xs]
theorem c3u {G:Gh} {nx:Nat} {lm:Nat->Option Nat} {M:Mem} {b:Nat} (hM:G.M.le M):∀ (r:List DV) (o:Nat) (tl:List LV) (vs:List Value),LRs G nx lm (r.map .d ++ tl) vs->(∀ i v,vs[i]?=some v->M b (o+i)=some v) ->
  RC M b o r/\∃ us,LRs G nx lm tl us/\∀ i v,us[i]?=some v->M b (o+r.length+i)=some v
 | [],o,tl,vs,h,hv=>⟨by simp [RC],vs,by simpa using h,fun i v hi=>by simpa using hv i v hi⟩
 | d :: r,o,tl,vs,h,hv=>by
  simp only [List.map_cons,List.cons_append] at h
  unfold LRs at h
  obtain ⟨v,us,rfl,h1,h2⟩:=h
  obtain ⟨q1,ws,q2,q3⟩:=c3u hM r (o+1) tl us h2 (fun i u hu=>by
   have:=hv (i+1) u (by simpa using hu)
   rw [show o+1+i=o+(i+1) by omega];exact this)
  refine ⟨?_,ws,q2,fun i u hu=>?_⟩
  ·unfold RC
   refine ⟨⟨v,by have:=hv 0 v (by simp);simpa using this,?_⟩,q1⟩
   unfold LR at h1
   exact b2j hM _ _ h1
  ·have:=q3 i u hu
   rw [show o+(d :: r).length+i=o+1+r.length+i by simp;omega];exact this
theorem c3t {G:Gh} {nx:Nat} {lm:Nat->Option Nat} {M:Mem} {b:Nat} (hM:G.M.le M):∀ (rows:List (List DV)) (o:Nat) (vs:List Value),LRs G nx lm (a1e rows) vs->(∀ i v,vs[i]?=some v->M b (o+i)=some v)->RR M b o rows
 | [],o,vs,_,_=>by simp [RR]
 | r :: rs,o,vs,h,hv=>by
  have h':LRs G nx lm (r.map .d ++ a1e rs) vs:=by simpa [a1e] using h
  obtain ⟨q1,us,q2,q3⟩:=c3u hM r o _ vs h' hv
  unfold RR
  exact ⟨q1,c3t hM rs _ us q2 q3⟩
section
variable {G G':Gh} {nx n g sz b C:Nat} {rows:List (List DV)} {lm:Nat->Option Nat}
mutual
theorem e7a (hle:G.le nx G') (ht:G.tip n=g) (hav:G.av n=.slice (some ⟨b,sz,none⟩) 0 C) (hr:∀ r ∈ rows,r.length=sz) (hR:RR G'.M b 0 rows):∀ (x:LV) (v:Value),LR G nx lm x v->LR G' nx lm (x.thaw n g sz rows) v
 | .vs m g' sz' i len,v,h=>by
  unfold LV.thaw
  by_cases e:m=n/\g'=g/\sz'=sz/\i+len<=rows.length
  ·rw [if_pos e]
   obtain ⟨rfl,rfl,rfl,hl⟩:=e
   unfold LR at h
   obtain ⟨_,_,b',o,cap,rfl,h1,h2,h3⟩:=h
   obtain ⟨C',e1,e2,e3⟩:=h3 ht.symm
   rw [hav] at e1
   cases e1
   unfold LR DR
   have hlen:((rows.drop i).take len).length=len:=by simp;omega
   refine ⟨_,cap,sz',by rw [hlen],by omega,h2,fun r hr'=>hr r (List.mem_of_mem_drop (List.mem_of_mem_take hr')),?_⟩
   by_cases h0:len=0
   ·left;subst h0;simp
   ·right
    refine ⟨b,o,rfl,?_⟩
    rw [e3 (by omega)]
    have:=d4e (d4g hr hR i (by omega)) len
    simpa using this
  ·rw [if_neg e];exact a0v (Nat.le_refl _) hle (fun _ _ e=>e) _ _ h
 | .d x,v,h=>by have:=a0v (Nat.le_refl _) hle (fun _ _ e=>e) _ _ h;unfold LV.thaw;exact this
 | .lp j off,v,h=>by have:=a0v (Nat.le_refl _) hle (fun _ _ e=>e) _ _ h;unfold LV.thaw;exact this
 | .gp m off,v,h=>by have:=a0v (Nat.le_refl _) hle (fun _ _ e=>e) _ _ h;unfold LV.thaw;exact this
 | .ep xs es i off,v,h=>by have:=a0v (Nat.le_refl _) hle (fun _ _ e=>e) _ _ h;unfold LV.thaw;exact this
 | .osl m xs,v,h=>by have:=a0v (Nat.le_refl _) hle (fun _ _ e=>e) _ _ h;unfold LV.thaw;exact this
 | .gm m,v,h=>by have:=a0v (Nat.le_refl _) hle (fun _ _ e=>e) _ _ h;unfold LV.thaw;exact this
 | .vp _ _ _,v,h=>by have:=a0v (Nat.le_refl _) hle (fun _ _ e=>e) _ _ h;unfold LV.thaw;exact this
 | .yl _,v,h=>by have:=a0v (Nat.le_refl _) hle (fun _ _ e=>e) _ _ h;unfold LV.thaw;exact this
 | .ip xs off,v,h=>by have:=a0v (Nat.le_refl _) hle (fun _ _ e=>e) _ _ h;unfold LV.thaw;exact this
 | .fn f first cap,v,h=>by
  unfold LV.thaw;unfold LR at h |-
  obtain ⟨fs,us,h1,h2,h3⟩:=h
  exact ⟨fs,us,h1,a6p hle ht hav hr hR _ _ h2,a6p hle ht hav hr hR _ _ h3⟩
 | .agg xs,v,h=>by unfold LV.thaw;unfold LR at h |-;obtain ⟨vs,h1,h2⟩:=h;exact ⟨vs,h1,a6p hle ht hav hr hR _ _ h2⟩
 | .tup xs,v,h=>by unfold LV.thaw;unfold LR at h |-;obtain ⟨vs,h1,h2⟩:=h;exact ⟨vs,h1,a6p hle ht hav hr hR _ _ h2⟩
 | .gd g raw,v,h=>by have:=a0v (Nat.le_refl _) hle (fun _ _ e=>e) _ _ h;unfold LV.thaw;exact this
 | .any,v,h=>by unfold LV.thaw;simp [LR]
theorem a6p (hle:G.le nx G') (ht:G.tip n=g) (hav:G.av n=.slice (some ⟨b,sz,none⟩) 0 C) (hr:∀ r ∈ rows,r.length=sz) (hR:RR G'.M b 0 rows):∀ (xs:List LV) (vs:List Value),LRs G nx lm xs vs->LRs G' nx lm (a7f n g sz rows xs) vs
 | [],vs,h=>by unfold a7f;unfold LRs at h |-;exact h
 | x :: xs,vs,h=>by
  unfold a7f;unfold LRs at h |-
  obtain ⟨v,r,h1,h2,h3⟩:=h
  exact ⟨v,r,h1,e7a hle ht hav hr hR x v h2,a6p hle ht hav hr hR xs r h3⟩
end
end
def GO.thaw (n g sz:Nat) (rows:List (List DV)):GO->GO
 | .box cs=>.box (a7f n g sz rows cs)
 | .vec e g' sz' cells ex=>.vec e g' sz' (a7f n g sz rows cells) ex
 | o=>o
def GH.thaw (H:GH) (n g sz:Nat) (rows:List (List DV)):GH:={ H with obj:=fun m=>if m=n then none else (H.obj m).map (GO.thaw n g sz rows) }
def S.thaw (s:S) (n g sz:Nat) (rows:List (List DV)):S:={ s with env:=fun t=>(s.env t).thaw n g sz rows,L:=fun k=>(s.L k).map (a7f n g sz rows),H:=s.H.thaw n g sz rows }
theorem Sim.thaw {E:Ent} {s:S} {a:Act} {w:World} (h:Sim E s a w) {n g sz:Nat} {e:TypeId} {cells:List LV} {ex:Bool} {rows:List (List DV)} (hn:s.H.obj n=some (.vec e g sz cells ex)) (hc:cells=a1e rows) (hr:∀ r ∈ rows,r.length=sz) :
  Sim E (s.thaw n g sz rows) a w:=by
 obtain ⟨h2,G,lm,h1,hM,hx,henv,_⟩:=h
 obtain ⟨hlt,ht,hsz,b,C,vs,rest,hav,hC,hown,hheap,hone,hcells,hlen,hex,hdvd⟩:=hM.nmd n _ hn
 have hMb:∀ o v,G.M b o ≠ some v:=fun o v hv=>by
  rcases hM.immOwn b o v hv with q | ⟨n',e',sz',m,q,q2,_⟩
  ·rw [hown] at q;cases q
  ·rw [hown] at q;cases q;rw [hn] at q2;cases q2
 have hle:G.le s.H.next (frzG G b vs):=⟨fun b' o v hv=>by
   have:b' ≠ b:=fun e=>hMb o v (e ▸ hv)
   simp only [frzG,if_neg this];exact hv,fun _ _=>rfl,fun _ _=>⟨Nat.le_refl _,fun _=>rfl⟩⟩
 have hRR:RR (frzG G b vs).M b 0 rows:=c3t hle.M rows 0 vs (hc ▸ hcells) (fun i v hv=>by simp only [frzG,if_true,Nat.zero_add];exact hv)
 have hother:∀ x,x ≠ b->(frzG G b vs).own x=G.own x:=fun x hx=>by simp only [frzG,if_neg hx]
 have hobj:∀ m o,(s.H.thaw n g sz rows).obj m=some o->m ≠ n/\∃ o',s.H.obj m=some o'/\o=o'.thaw n g sz rows:=fun m o ho=>by
  simp only [GH.thaw] at ho
  by_cases e:m=n
  ·rw [if_pos e] at ho;cases ho
  ·rw [if_neg e] at ho
   obtain ⟨o',q1,q2⟩:=Option.map_eq_some_iff.1 ho
   exact ⟨e,o',q1,q2.symm⟩
 refine ⟨h2,frzG G b vs,lm,a1g (Nat.le_refl _) hle _ _ h1,⟨fun x o v hv=>?_,fun x o v hv=>?_,fun x hx'=>?_,fun j hj=>?_,fun j cs' hj=>?_,fun m o hm=>?_⟩,?_,fun t=>e7a hle ht hav hr hRR _ _ (henv t),rfl⟩
 ·by_cases e:x=b
  ·subst e
   simp only [frzG,if_true] at hv
   have hl:=(List.getElem?_eq_some_iff.1 hv).1
   rw [cell_of hheap]
   simpa [List.getElem?_append_left hl] using hv
  ·simp only [frzG,if_neg e] at hv;exact hM.imm x o v hv
 ·by_cases e:x=b
  ·subst e;left;simp [frzG]
  ·simp only [frzG,if_neg e] at hv |-
   rcases hM.immOwn x o v hv with q | ⟨n',e',sz',m,q1,q2,q3⟩
   ·exact .inl q
   ·refine .inr ⟨n',e',sz',m,q1,?_,q3⟩
    have:n' ≠ n:=fun z=>by rw [z,hn] at q2;cases q2
    simp only [S.thaw,GH.thaw,if_neg this,q2,Option.map_some,GO.thaw]
 ·have hltb:=heap_lt hheap
  have e:x ≠ b:=by omega
  have:=hM.fresh x hx'
  simp only [frzG,if_neg e];exact this
 ·refine hM.lmL j ?_
  simp only [S.thaw] at hj
  cases hL:s.L j with
  | none=>rfl
  | some x=>rw [hL] at hj;cases hj
 ·simp only [S.thaw] at hj
  obtain ⟨cs,q1,q2⟩:=Option.map_eq_some_iff.1 hj
  subst q2
  obtain ⟨c,us,r1,r2,r3,r4⟩:=hM.loc j cs q1
  have hcb:c ≠ b:=fun e'=>by rw [e',hown] at r2;cases r2
  exact ⟨c,us,r1,by rw [hother c hcb];exact r2,r3,a6p hle ht hav hr hRR _ _ r4⟩
 ·obtain ⟨hne,o',q1,rfl⟩:=hobj m o hm
  obtain ⟨r1,r2⟩:=hM.nmd m o' q1
  refine ⟨r1,?_⟩
  have hmono:=a3l (Nat.le_refl _) r1 hle r2 ⟨rfl,rfl⟩ (w':=w) fun x hx'=>by
   have hnb:x ≠ b:=fun e=>by rw [e,hown] at hx';cases hx';exact hne rfl
   exact ⟨by rw [hother x hnb];exact hx',rfl,fun o v hv=>by simpa only [frzG,if_neg hnb] using hv⟩
  cases o' with
  | box cs =>
   obtain ⟨g1,us,g2,g3⟩:=r2
   obtain ⟨k1,_⟩:=hmono
   exact ⟨k1,us,g2,a6p hle ht hav hr hRR _ _ g3⟩
  | vec e1 g1 sz1 cells1 ex1 =>
   obtain ⟨l1,l2,b2,C2,vs2,rest2,l3,l4,l5,l6,l7,l8,l9,l10,l11⟩:=r2
   have hb2:b2 ≠ b:=fun e'=>by rw [e',hown] at l5;cases l5;exact hne rfl
   exact ⟨l1,l2,b2,C2,vs2,rest2,l3,l4,by rw [hother b2 hb2];exact l5,l6,l7,a6p hle ht hav hr hRR _ _ l8,l9,l10,by rw [b5k];exact l11⟩
  | _=>exact hmono
 ·refine ⟨⟨Gh.le_trans hx.nx hx.le hle,hx.nx,hx.os,hx.tape,hx.output,hx.drawn,hx.size,hx.frame,fun x hx'=>?_⟩,hx.nl⟩
  by_cases e:x=b
  ·subst e
   rcases hx.own x hx' with q | ⟨_,q⟩
   ·rw [hown] at q;exact .inr ⟨⟨n,q.symm⟩,by simp [frzG]⟩
   ·rw [hown] at q;cases q
  ·rw [hother x e];exact hx.own x hx'
theorem AWp.thaw {P:Program} {rd:RD} {x:Code} {s:S} {Q:AE->S->Prop} {n g sz:Nat} {e:TypeId} {cells:List LV} {ex:Bool} (rows:List (List DV)) (hn:s.H.obj n=some (.vec e g sz cells ex)) (hc:cells=a1e rows) (hr:∀ r ∈ rows,r.length=sz)
  (h:AWp P rd x (s.thaw n g sz rows) Q):AWp P rd x s Q:=fun E a w hs=>h E a w (hs.thaw hn hc hr)
theorem AW.thaw {P:Program} {rd:RD} {x:Code} {s:S} {Q:QT} {n g sz:Nat} {e:TypeId} {cells:List LV} {ex:Bool} (rows:List (List DV)) (hn:s.H.obj n=some (.vec e g sz cells ex)) (hc:cells=a1e rows) (hr:∀ r ∈ rows,r.length=sz)
  (h:@AW P rd ⟨x⟩ (s.thaw n g sz rows) Q):@AW P rd ⟨x⟩ s Q:=AWp.thaw rows hn hc hr h
attribute [simp] LV.thaw a7f GO.thaw GH.thaw S.thaw
end Go.Aft
end
