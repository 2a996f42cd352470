import Derived.Test.YthinedikejlgmaaGreatA13
import Derived.RecoverIn
set_option linter.all false
section
namespace Go.Aft
section
variable {P:Program} {Q:Exit->Act->List Frame->World->Prop} {a:Act} {cs:List Frame} {w:World}
theorem E7{c:Code}(h:zP P RD.any c (λe a' w'=>Q e a' cs w') a w):c.wpSIn Fence.wide 0 P Q a cs w:=
 λb k _ hr _ _=>let⟨e,a',w',q,r⟩:=h b k cs hr (λ_ h=>by cases h);⟨e,a',cs,w',rfl,q,r⟩
def H9:DM->LV
 |.ej x=>x
 |_=>.d (.k .nilIface)
def Ia:DM->DM
 |.ej x=>.aa x
 |m=>m
def Lo(c:Cx)(K:S->Prop):List Oper->S->Prop
 |[],s=>K s
 |o::os,s=>o.guard=none/\yM o.dst s.nt/\∃r,bV c.ty c.bR c.bO s o.dst o.op=some r/\r.pre/\Lo c K os ((s.kD o.dst r.kD).put o.dst r.v)
def BZ(H0:GH)(m:DM)(R:DM->GH->Prop):AE->S->Prop
 |.normal,s|.ret,s=>s.df=[]/\∃H',Drop H0 s.H H'/\R m H'
 |_,_=>False
theorem xO{o:Oper}(h:o.guard=none)(y:Nat->Option Bool):Region.wanted o y=true:=by unfold Region.wanted;rw[h]
theorem Ac{c:Cx}(hc:c.ok P){E:tL}{K:S->Prop}{ops:Array Oper}(hk:∀s a w,K s->cF E s a w->Q .normal a cs w):
  ∀(l:List Oper) (k:Nat) (s:S) (a:Act) (w:World),(∀i,ops[k+i]?=l[i]?)->Lo c K l s->cF E s a w->wpOpsSIn Fence.wide 0 P ops Q (List.range' k l.length) a cs w
 |[],k,s,a,w,_,h,hs=>hk s a w h hs
 |o::os,k,s,a,w,hl,h,hs=>by
  obtain⟨hg,hd,r,h1,h2,h3⟩:=h;have h0:=hl 0;simp only[Nat.add_zero,List.getElem?_cons_zero]at h0;simp only[List.length_cons,List.range'_succ,wpOpsSIn,h0];refine⟨λ_ _=>trivial,?_⟩
  rw[if_pos (xO hg _)];have aN:∀t,o.dst=some t->t<s.nt:=λt ht=>by rw[ht]at hd;exact hd
  obtain⟨n,v',w',q1,q2,q3⟩:=oP hc.ty hc.bR hc.key h1 h2 hs aN;rw[q1];have rest:=Ac hc hk os (k+1) _ _ w' (λi=>by rw[Nat.add_assoc,Nat.add_comm 1 i];simpa using hl (i+1)) h3 q3
  rcases q2 with rfl|⟨rfl,rfl⟩<;>exact rest
theorem Mo{G:Gh}{H:GH}{args:List LV}{vs:List Value}(hargs:bH G H.next ix args vs)(nt:Nat)(t:Nat):LR G H.next ix (gj 0 args t) ((vs.toArray++Array.replicate (nt-vs.toArray.size) undef).getD t undef):=by
 have hlen:=bN hargs;rw[qa,if_pos (Nat.zero_le _),Nat.sub_zero];by_cases ht:t<args.length
 ·have hx:args[t]?=some (args.getD t .any):=by simp[List.getD,List.getElem?_eq_getElem ht]
  obtain⟨v,h1,h2⟩:=kM hargs t _ hx;have:(vs.toArray++Array.replicate (nt-vs.toArray.size) undef).getD t undef=v:=by
   rw[Array.getD_eq_getD_getElem?,Array.getElem?_append_left (by simp;omega)]
   simp[h1]
  rw[this];exact h2
 ·have:args.getD t .any=.any:=by simp[List.getD,List.getElem?_eq_none (Nat.le_of_not_lt ht)]
  rw[this];simp[LR]
theorem nq.iQ{c:Cx}(hc:c.ok P){f:FuncId}{fn:Func}{id t:Nat}{o1:Oper}{os:List Oper}{rest:Code}{tys:Array TypeId}(hf:P.funcs[f]?=some fn)(hb:fn.body=some (.seq (.region id (o1::os).toArray false) rest))(he:Enters P f)
  (ho1:o1.op=.call ⟨.builtin .recover,#[],tys⟩) (BE:o1.dst=some t) (hg1:o1.guard=none) {args:List LV} (hn:args.length<=fn.ntmps) (ht:t<fn.ntmps) (hres:fn.results=#[]) {H:GH} {m:DM} {R:DM->GH->Prop}
  (h:(∀n,H.next<=n->H.obj n=none)->Lo c (λs=>fh P RD.any rest s (BZ H (Ia m) R)) os ⟨eL (gj 0 args) t (H9 m),vi,H,fn.ntmps,[]⟩):nq P f args H m R:=by
 refine⟨he,λG w vs u hM qd hargs hu=>?_⟩
 have hnone:∀n,H.next<=n->H.obj n=none:=λn hn=>by
  cases ho:H.obj n with
  |none=>rfl
  |some o=>have:=(hM.iC n o ho).1;omega
 have hE:∀m o,H.obj m=some o->OR G H.next w m o:=λm o ho=>(hM.iC m o ho).2
 have hlen:=bN hargs;refine callsDIn_of_wpSIn hf hb trivial λc0 cs Ww=>wpSIn_seq (wpSIn_region ?_)
 have hsize:(vs.toArray++Array.replicate (fn.ntmps-vs.toArray.size) undef).size=fn.ntmps:=by simp;omega
 --the rest,from a state in which recover has been called
 have key:∀(v:Value) (cs':List Frame),LR G H.next ix (H9 m) v->(∀(G':Gh) (H':GH),G.le H.next G'->H.next<=H'.next->∃u',cs'={c0 with mode:=u'}::cs/\Zm G' H'.next (Ia m) u')->
   wpOpsSIn Fence.wide 0 P (o1::os).toArray (Exit.thenS (rest.wpSIn Fence.wide 0 P (bodyPostS P fn c0 cs λe u' w'=>∃v m' H' G',e=.returned v/\R m' H'/\Zm G' H'.next m' u'/\MR G' ix vi H' w'/\lD G'/\Ext ⟨G,H,w⟩ G' H' w'))
    (bodyPostS P fn c0 cs λe u' w'=>∃v m' H' G',e=.returned v/\R m' H'/\Zm G' H'.next m' u'/\MR G' ix vi H' w'/\lD G'/\Ext ⟨G,H,w⟩ G' H' w')) (List.range' 1 os.length)
    (Act.put {tmps:=vs.toArray++Array.replicate (fn.ntmps-vs.toArray.size) undef,defers:=[]} (some t) v) cs' w:=by
  intro v cs' hv hm;refine Ac (E:=⟨G,H,w⟩) hc (λs a w' hs hS=>?_) os 1 _ _ w (λi=>by simp[Nat.add_comm 1 i]) (h hnone) ?_
  ·refine E7 (gO (hs ⟨G,H,w⟩ a w' hS) ?_);rintro e a2 w2 ⟨ae,s2,q,r⟩;obtain⟨g2,G2,lm2,g1,hM2,hx2,BC,hex⟩:=r;have fin:s2.df=[]->(∃H',Drop H s2.H H'/\R (Ia m) H')->a2.defers=[]/\∃u',cs'={c0 with mode:=u'}::cs/\∃v,(results fn a2.tmps).run P w2=.ok v w2/\∃v' m' H' G',Ending.returned v=.returned v'/\R m' H'/\Zm G' H'.next m' u'/\MR G' ix vi H' w2/\lD G'/\Ext ⟨G,H,w⟩ G' H' w2:=by
    rintro hdf ⟨H',hd,hR⟩;rw[hdf]at g1;obtain⟨e1,e2,e3⟩:=wH hM2 (E:=⟨G,H,w⟩) hE qd hx2 hd;obtain⟨u',k1,k2⟩:=hm _ H' e3.le e3.nx;refine⟨g1,u',k1,.tuple #[],?_,.tuple #[],Ia m,H',_,rfl,hR,k2,e1,e2,e3⟩;simp[results,hres]
   cases ae with
   |normal=>cases hex;exact fin q.1 q.2
   |ret=>cases hex;exact fin q.1 q.2
   |exit i=>exact q.elim
   |goto l=>exact q.elim
   |ej x=>exact q.elim
  ·refine⟨?_,G,ix,rfl,hM,Ext.refl G H w qd,λx=>?_,rfl⟩
   ·simp only[Act.put,Array.size_setIfInBounds];exact hsize
   ·simp only[Act.put];by_cases e:x=t
    ·subst e;rw[eG];have hlt:x<(vs.toArray++Array.replicate (fn.ntmps-vs.toArray.size) undef).size:=by rw[hsize];exact ht
     rw[Array.getD_eq_getD_getElem?,Array.getElem?_setIfInBounds_self_of_lt hlt];exact hv
    ·rw[aX _ _ e];have:=Mo hargs fn.ntmps x;rw[Array.getD_eq_getD_getElem?,Array.getElem?_setIfInBounds_ne (Ne.symm e),<-Array.getD_eq_getD_getElem?];exact this
 have ab1:List.range (o1::os).toArray.size=0::List.range' 1 os.length:=by
  simp[List.range_eq_range',List.range'_succ]
 rw[ab1];have h0:(o1::os).toArray[0]?=some o1:=by simp
 simp only[wpOpsSIn,h0];refine⟨λ_ _=>trivial,?_⟩
 rw[if_pos (xO hg1 _)];have hrun:∀a:Act,(execOp a.eval o1).run P w=.ok .recover w:=λa=>by
  simp[execOp,ho1,resolve,invoke,builtin]
 rw[hrun,BE];cases m with
 |ret=>
  cases hu;have uS:recoverD (c0::cs)=none:=by simp[recoverD,Ww]
  simp only[uS];exact key _ _ (by unfold H9 LR DR;exact⟨rfl,rfl⟩) λG' H' _ _=>⟨.returning,by rw[<-Ww],rfl⟩
 |ej x=>
  obtain⟨v,rfl,hv⟩:=hu;have uS:recoverD (c0::cs)=some (v,{c0 with mode:=.panicking [{v:=v,recovered:=true}]}::cs):=by simp[recoverD,Ww]
  simp only[uS];exact key _ _ hv λG' H' hle tH=>⟨_,rfl,v,rfl,bF tH hle (λ_ _ e=>e) _ _ hv⟩
 |aa x=>
  obtain⟨v,rfl,hv⟩:=hu;have uS:recoverD (c0::cs)=none:=by simp[recoverD,Ww]
  simp only[uS];exact key _ _ (by unfold H9 LR DR;exact⟨rfl,rfl⟩) λG' H' hle tH=>⟨_,by rw[<-Ww],v,rfl,bF tH hle (λ_ _ e=>e) _ _ hv⟩
end
end Go.Aft
end
section
namespace Go.Aft
mutual
def LV.cM(n g sz:Nat)(rows:List (List DV)):LV->LV
 |.vs m g' sz' i len=>if m=n/\g'=g/\sz'=sz/\i+len<=rows.length then .d (.sl ((rows.drop i).take len))else .vs m g' sz' i len
 |.fn f first cap=>.fn f (jd n g sz rows first) (jd n g sz rows cap)
 |.agg xs=>.agg (jd n g sz rows xs)
 |.dh xs=>.dh (jd n g sz rows xs)
 |x=>x
def jd(n g sz:Nat)(rows:List (List DV)):List LV->List LV
 |[]=>[]
 |x::xs=>LV.cM n g sz rows x::jd n g sz rows xs
end
theorem vA(n g sz:Nat)(rows:List (List DV)):∀xs:List LV,(jd n g sz rows xs).length=xs.length
 |[]=>by simp[jd]
 |x::xs=>by simp[jd,vA n g sz rows xs]
theorem Cs{G:Gh}{nx:Nat}{lm:Nat->Option Nat}{M:Mem}{b:Nat}(hM:G.M.le M):∀(r:List DV) (o:Nat) (tl:List LV) (vs:List Value),bH G nx lm (r.map .d++tl) vs->(∀i v,vs[i]?=some v->M b (o+i)=some v)->
  RC M b o r/\∃us,bH G nx lm tl us/\∀i v,us[i]?=some v->M b (o+r.length+i)=some v
 |[],o,tl,vs,h,hv=>⟨by simp[RC],vs,by simpa using h,λi v hi=>by simpa using hv i v hi⟩
 |d::r,o,tl,vs,h,hv=>by
  simp only[List.map_cons,List.cons_append]at h;unfold bH at h;obtain⟨v,us,rfl,h1,h2⟩:=h;obtain⟨q1,ws,q2,q3⟩:=Cs hM r (o+1) tl us h2 (λi u hu=>by
   have:=hv (i+1) u (by simpa using hu)
   rw[show o+1+i=o+(i+1)by omega];exact this)
  refine⟨?_,ws,q2,λi u hu=>?_⟩
  ·unfold RC;refine⟨⟨v,by have:=hv 0 v (by simp);simpa using this,?_⟩,q1⟩
   unfold LR at h1;exact qx hM _ _ h1
  ·have:=q3 i u hu;rw[show o+(d::r).length+i=o+1+r.length+i by simp;omega];exact this
theorem Cr{G:Gh}{nx:Nat}{lm:Nat->Option Nat}{M:Mem}{b:Nat}(hM:G.M.le M):∀(rows:List (List DV)) (o:Nat) (vs:List Value),bH G nx lm (bM rows) vs->(∀i v,vs[i]?=some v->M b (o+i)=some v)->RR M b o rows
 |[],o,vs,_,_=>by simp[RR]
 |r::rs,o,vs,h,hv=>by
  have h':bH G nx lm (r.map .d++bM rs) vs:=by simpa[bM]using h
  obtain⟨q1,us,q2,q3⟩:=Cs hM r o _ vs h' hv;unfold RR;exact⟨q1,Cr hM rs _ us q2 q3⟩
section
variable {G G':Gh} {nx n g sz b C:Nat} {rows:List (List DV)} {lm:Nat->Option Nat}
mutual
theorem Ow(hle:G.le nx G')(ht:G.qY n=g)(tq:G.av n=.slice (some ⟨b,sz,none⟩) 0 C)(hr:∀r∈rows,r.length=sz)(hR:RR G'.M b 0 rows):∀(x:LV) (v:Value),LR G nx lm x v->LR G' nx lm (x.cM n g sz rows) v
 |.vs m g' sz' i len,v,h=>by
  unfold LV.cM;by_cases e:m=n/\g'=g/\sz'=sz/\i+len<=rows.length
  ·rw[if_pos e];obtain⟨rfl,rfl,rfl,hl⟩:=e;unfold LR at h;obtain⟨_,_,b',o,cap,rfl,h1,h2,h3⟩:=h;obtain⟨C',e1,e2,e3⟩:=h3 ht.symm;rw[tq]at e1;cases e1;unfold LR DR;have hlen:((rows.drop i).take len).length=len:=by simp;omega
   refine⟨_,cap,sz',by rw[hlen],by omega,h2,λr hr'=>hr r (List.mem_of_mem_drop (List.mem_of_mem_take hr')),?_⟩
   by_cases h0:len=0
   ·left;subst h0;simp
   ·right;refine⟨b,o,rfl,?_⟩;rw[e3 (by omega)]
    have:=Gx (Gz hr hR i (by omega)) len
    simpa using this
  ·rw[if_neg e];exact bF (Nat.le_refl _) hle (λ_ _ e=>e) _ _ h
 |.d x,v,h=>by have:=bF (Nat.le_refl _) hle (λ_ _ e=>e) _ _ h;unfold LV.cM;exact this
 |.lp j off,v,h=>by have:=bF (Nat.le_refl _) hle (λ_ _ e=>e) _ _ h;unfold LV.cM;exact this
 |.gp m off,v,h=>by have:=bF (Nat.le_refl _) hle (λ_ _ e=>e) _ _ h;unfold LV.cM;exact this
 |.ep xs es i off,v,h=>by have:=bF (Nat.le_refl _) hle (λ_ _ e=>e) _ _ h;unfold LV.cM;exact this
 |.lF m xs,v,h=>by have:=bF (Nat.le_refl _) hle (λ_ _ e=>e) _ _ h;unfold LV.cM;exact this
 |.gm m,v,h=>by have:=bF (Nat.le_refl _) hle (λ_ _ e=>e) _ _ h;unfold LV.cM;exact this
 |.vp _ _ _,v,h=>by have:=bF (Nat.le_refl _) hle (λ_ _ e=>e) _ _ h;unfold LV.cM;exact this
 |.yl _,v,h=>by have:=bF (Nat.le_refl _) hle (λ_ _ e=>e) _ _ h;unfold LV.cM;exact this
 |.ip xs off,v,h=>by have:=bF (Nat.le_refl _) hle (λ_ _ e=>e) _ _ h;unfold LV.cM;exact this
 |.fn f first cap,v,h=>by
  unfold LV.cM;unfold LR at h|-;obtain⟨fs,us,h1,h2,h3⟩:=h;exact⟨fs,us,h1,lE hle ht tq hr hR _ _ h2,lE hle ht tq hr hR _ _ h3⟩
 |.agg xs,v,h=>by unfold LV.cM;unfold LR at h|-;obtain⟨vs,h1,h2⟩:=h;exact⟨vs,h1,lE hle ht tq hr hR _ _ h2⟩
 |.dh xs,v,h=>by unfold LV.cM;unfold LR at h|-;obtain⟨vs,h1,h2⟩:=h;exact⟨vs,h1,lE hle ht tq hr hR _ _ h2⟩
 |.gd g raw,v,h=>by have:=bF (Nat.le_refl _) hle (λ_ _ e=>e) _ _ h;unfold LV.cM;exact this
 |.any,v,h=>by unfold LV.cM;simp[LR]
theorem lE(hle:G.le nx G')(ht:G.qY n=g)(tq:G.av n=.slice (some ⟨b,sz,none⟩) 0 C)(hr:∀r∈rows,r.length=sz)(hR:RR G'.M b 0 rows):∀(xs:List LV) (vs:List Value),bH G nx lm xs vs->bH G' nx lm (jd n g sz rows xs) vs
 |[],vs,h=>by unfold jd;unfold bH at h|-;exact h
 |x::xs,vs,h=>by
  unfold jd;unfold bH at h|-;obtain⟨v,r,h1,h2,h3⟩:=h;exact⟨v,r,h1,Ow hle ht tq hr hR x v h2,lE hle ht tq hr hR xs r h3⟩
end
end
def GO.cM(n g sz:Nat)(rows:List (List DV)):GO->GO
 |.box cs=>.box (jd n g sz rows cs)
 |.vec e g' sz' cells ex=>.vec e g' sz' (jd n g sz rows cells) ex
 |o=>o
def GH.cM(H:GH)(n g sz:Nat)(rows:List (List DV)):GH:={H with obj:=λm=>if m=n then none else(H.obj m).map (GO.cM n g sz rows)}
def S.cM(s:S)(n g sz:Nat)(rows:List (List DV)):S:={s with env:=λt=>(s.env t).cM n g sz rows,L:=λk=>(s.L k).map (jd n g sz rows),H:=s.H.cM n g sz rows}
theorem cF.cM{E:tL}{s:S}{a:Act}{w:World}(h:cF E s a w){n g sz:Nat}{e:TypeId}{cells:List LV}{ex:Bool}{rows:List (List DV)}(hn:s.H.obj n=some (.vec e g sz cells ex))(hc:cells=bM rows)(hr:∀r∈rows,r.length=sz):
  cF E (s.cM n g sz rows) a w:=by
 obtain⟨h2,G,lm,h1,hM,hx,aK,_⟩:=h;obtain⟨hlt,ht,hsz,b,C,vs,rest,tq,hC,hown,hheap,hone,hcells,hlen,hex,hdvd⟩:=hM.iC n _ hn;have zq:∀o v,G.M b o≠some v:=λo v hv=>by
  rcases hM.dF b o v hv with q|⟨n',e',sz',m,q,q2,_⟩
  ·rw[hown]at q;cases q
  ·rw[hown]at q;cases q;rw[hn]at q2;cases q2
 have hle:G.le s.H.next (fR G b vs):=⟨λb' o v hv=>by
   have:b'≠b:=λe=>zq o v (e▸hv)
   simp only[fR,if_neg this];exact hv,λ_ _=>rfl,λ_ _=>⟨Nat.le_refl _,λ_=>rfl⟩⟩
 have YT:RR (fR G b vs).M b 0 rows:=Cr hle.M rows 0 vs (hc▸hcells) (λi v hv=>by simp only[fR,if_true,Nat.zero_add];exact hv)
 have F5:∀x,x≠b->(fR G b vs).own x=G.own x:=λx hx=>by simp only[fR,if_neg hx]
 have ab5:∀m o,(s.H.cM n g sz rows).obj m=some o->m≠n/\∃o',s.H.obj m=some o'/\o=o'.cM n g sz rows:=λm o ho=>by
  simp only[GH.cM]at ho;by_cases e:m=n
  ·rw[if_pos e]at ho;cases ho
  ·rw[if_neg e]at ho;obtain⟨o',q1,q2⟩:=Option.map_eq_some_iff.1 ho;exact⟨e,o',q1,q2.symm⟩
 refine⟨h2,fR G b vs,lm,ct (Nat.le_refl _) hle _ _ h1,⟨λx o v hv=>?_,λx o v hv=>?_,λx hx'=>?_,λj hj=>?_,λj cs' hj=>?_,λm o hm=>?_⟩,?_,λt=>Ow hle ht tq hr YT _ _ (aK t),rfl⟩
 ·by_cases e:x=b
  ·subst e;simp only[fR,if_true]at hv;have hl:=(List.getElem?_eq_some_iff.1 hv).1;rw[cell_of hheap];simpa[List.getElem?_append_left hl]using hv
  ·simp only[fR,if_neg e]at hv;exact hM.qC x o v hv
 ·by_cases e:x=b
  ·subst e;left;simp[fR]
  ·simp only[fR,if_neg e]at hv|-;rcases hM.dF x o v hv with q|⟨n',e',sz',m,q1,q2,q3⟩
   ·exact .inl q
   ·refine .inr ⟨n',e',sz',m,q1,?_,q3⟩;have:n'≠n:=λz=>by rw[z,hn]at q2;cases q2
    simp only[S.cM,GH.cM,if_neg this,q2,Option.map_some,GO.cM]
 ·have bK9:=eN hheap;have e:x≠b:=by omega
  have:=hM.fresh x hx';simp only[fR,if_neg e];exact this
 ·refine hM.C3 j ?_;simp only[S.cM]at hj;cases hL:s.L j with
  |none=>rfl
  |some x=>rw[hL]at hj;cases hj
 ·simp only[S.cM]at hj;obtain⟨cs,q1,q2⟩:=Option.map_eq_some_iff.1 hj;subst q2;obtain⟨c,us,r1,r2,r3,r4⟩:=hM.loc j cs q1;have hcb:c≠b:=λe'=>by rw[e',hown]at r2;cases r2
  exact⟨c,us,r1,by rw[F5 c hcb];exact r2,r3,lE hle ht tq hr YT _ _ r4⟩
 ·obtain⟨hne,o',q1,rfl⟩:=ab5 m o hm;obtain⟨r1,r2⟩:=hM.iC m o' q1;refine⟨r1,?_⟩;have hmono:=fM (Nat.le_refl _) r1 hle r2 ⟨rfl,rfl⟩ (w':=w) λx hx'=>by
   have hnb:x≠b:=λe=>by rw[e,hown]at hx';cases hx';exact hne rfl
   exact⟨by rw[F5 x hnb];exact hx',rfl,λo v hv=>by simpa only[fR,if_neg hnb]using hv⟩
  cases o' with
  |box cs=>
   obtain⟨g1,us,g2,g3⟩:=r2;obtain⟨k1,_⟩:=hmono;exact⟨k1,us,g2,lE hle ht tq hr YT _ _ g3⟩
  |vec e1 g1 sz1 cells1 ex1=>
   obtain⟨l1,l2,b2,C2,vs2,rest2,l3,l4,l5,l6,l7,l8,l9,l10,l11⟩:=r2;have MC:b2≠b:=λe'=>by rw[e',hown]at l5;cases l5;exact hne rfl
   exact⟨l1,l2,b2,C2,vs2,rest2,l3,l4,by rw[F5 b2 MC];exact l5,l6,l7,lE hle ht tq hr YT _ _ l8,l9,l10,by rw[vA];exact l11⟩
  |_=>exact hmono
 ·refine⟨⟨Gh.le_trans hx.nx hx.le hle,hx.nx,hx.os,hx.tape,hx.output,hx.drawn,hx.size,hx.frame,λx hx'=>?_⟩,hx.nl⟩
  by_cases e:x=b
  ·subst e;rcases hx.own x hx' with q|⟨_,q⟩
   ·rw[hown]at q;exact .inr ⟨⟨n,q.symm⟩,by simp[fR]⟩
   ·rw[hown]at q;cases q
  ·rw[F5 x e];exact hx.own x hx'
theorem fh.cM{P:Program}{rd:RD}{x:Code}{s:S}{Q:AE->S->Prop}{n g sz:Nat}{e:TypeId}{cells:List LV}{ex:Bool}(rows:List (List DV))(hn:s.H.obj n=some (.vec e g sz cells ex))(hc:cells=bM rows)(hr:∀r∈rows,r.length=sz)
  (h:fh P rd x (s.cM n g sz rows) Q):fh P rd x s Q:=λE a w hs=>h E a w (hs.cM hn hc hr)
theorem AW.cM{P:Program}{rd:RD}{x:Code}{s:S}{Q:QT}{n g sz:Nat}{e:TypeId}{cells:List LV}{ex:Bool}(rows:List (List DV))(hn:s.H.obj n=some (.vec e g sz cells ex))(hc:cells=bM rows)(hr:∀r∈rows,r.length=sz)
  (h:@AW P rd ⟨x⟩ (s.cM n g sz rows) Q):@AW P rd ⟨x⟩ s Q:=fh.cM rows hn hc hr h
attribute [simp] LV.cM jd GO.cM GH.cM S.cM
end Go.Aft
end
