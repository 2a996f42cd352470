import Derived.Test.YthinedikejlgmaaGreatA10
import Derived.Still
set_option linter.all false
section
namespace Go.Aft
def Jj:Op->Bool
 |.call ⟨.value _,_,_⟩=>true
 |_=>false
def Wa:Op->Bool
 |.load ..=>true
 |_=>false
def LV.still:LV->Prop
 |.ip .. |.ep ..=>True
 |_=>False
def kI(cl:Cl)(op:Op)(s:S):Prop:=match cl,op with
 |.n,.load _ p=>(s.arg p).still
 |_,_=>True
def ek(k:Option Cl)(op:Op):Cl:=match k with
 |some .n=>if Jj op||Wa op then .n else .x
 |some .r=>if Jj op then .r else .x
 |some _=>.x
 |none=>if Jj op then .x else qN op
def dQ(pf:List (Nat×Cl))(i:Nat)(o:Oper):Cl:=ek (pf.lookup i) o.op
def TU(s:S):Prop:=∀n,s.H.next<=n->s.H.obj n=none
def FV(P:Program)(s:S)(cl:Cl)(f:FuncId)(args:List LV)(v:LV):Prop:=
 match cl with
 |.n=>aC P f args v
 |_=>∀s',Grow s s'->aG P f args s'.H λce H'=>ce=.ret v/\H'=s'.H
def Xb(P:Program)(c:Cx)(cl:Cl)(s:S)(dst:Option Nat)(op:Op)(v:LV):Prop:=
 match op with
 |.pick x a b=>∃g,s.arg x=.d (.k (.bool g))/\s.aI x/\(g=true->s.aI a)/\(g=false->s.aI b)/\v=mJ g (s.arg a) (s.arg b)
 |.call ⟨.value fo,args,_⟩=>∃f first cap,cE (s.arg fo)=some (f,first,cap)/\s.aI fo/\jc (args.toList.map s.aI)/\cD s.H.next (first++args.toList.map s.arg++cap)/\FV P s cl f (first++args.toList.map s.arg++cap) v
 |op=>∃pre,bV c.ty c.bR c.bO s dst op=some ⟨pre,v,.no⟩/\pre/\kI cl op s
def QV(P:Program)(c:Cx)(cl:Cl)(ops:Array Oper)(s:S)(o:Oper)(v:LV):Prop:=
 match o.guard with
 |none=>Xb P c cl s o.dst o.op v
 |some (j,want)=>∃g u,guardOf ops s j want=some g/\v=.gd g u/\(g=true->Xb P c cl s o.dst o.op u)
def RU(ops:Array Oper)(t:Nat):Bool:=ops.toList.all λo=>o.dst !=some t
def Zk(P:Program)(c:Cx)(ops:Array Oper)(s:S)(dst:Option Nat)(op:Op)(K:S->Prop)(Q:AE->S->Prop):Prop:=
 match op with
 |.call ⟨.value fo,args,_⟩=>∃f first cap,cE (s.arg fo)=some (f,first,cap)/\s.aI fo/\jc (args.toList.map s.aI)/\cD s.H.next (first++args.toList.map s.arg++cap)/\
   aG P f (first++args.toList.map s.arg++cap) s.H (λce H'=>match ce with
    |.ret v=>s.H.next<=H'.next->K (({s with H:=H'}:S).put dst v)
    |.ej x=>∀env,(∀t,RU ops t=true->env t=s.env t)->Q (.ej x) {s with H:=H',env:=env})
 |.panic _=>False
 |op=>∃r,bV c.ty c.bR c.bO s dst op=some r/\r.pre/\K ((s.kD dst r.kD).put dst r.v)
def EF(P:Program)(c:Cx)(ops:Array Oper)(s:S)(o:Oper)(K:S->Prop)(Q:AE->S->Prop):Prop:=
 match o.guard with
 |none=>Zk P c ops s o.dst o.op K Q
 |some (j,want)=>∃g,guardOf ops s j want=some g/\(g=true->Zk P c ops s o.dst o.op K Q)/\(g=false->K (s.put o.dst .any))
def KL(P:Program)(c:Cx)(ops:Array Oper)(pf:List (Nat×Cl))(i:Nat)(s:S)(K:S->Prop)(Q:AE->S->Prop):Prop:=
 match ops[i]? with
 |none=>K s
 |some o=>(∀t,o.dst=some t->t<s.nt)/\(if dQ pf i o=.n\/ dQ pf i o=.r then∃v,QV P c (dQ pf i o) ops s o v/\K (s.put o.dst v)else EF P c ops s o K Q)
def QB(P:Program)(c:Cx)(ops:Array Oper)(pf:List (Nat×Cl))(Q:AE->S->Prop):Nat->Array Bool->S->Prop
 |0,listed,s=>TU s->Region.ready .any ops listed=[]/\Q .normal s
 |n+1,listed,s=>TU s->(Region.ready .any ops listed=[]->Q .normal s)/\∀i∈Region.ready .any ops listed,KL P c ops pf i s (QB P c ops pf Q n (listed.setIfInBounds i true)) Q
section
variable {P:Program} {rd:RD} {c:Cx} {ops:Array Oper} {pf:List (Nat×Cl)} {E:tL} {s s':S} {a:Act} {w:World} {o:Oper} {Q:AE->S->Prop}
theorem cF.wf(h:cF E s a w):TU s:=by
 obtain⟨_,_,G,lm,hM,_⟩:=h;intro n hn;cases ho:s.H.obj n with
 |none=>rfl
 |some o=>have:=(hM.iC n o ho).1;omega
theorem Grow.refl(s:S):Grow s s:=⟨λ_ _ h=>h,λ_ _ h _=>h,Nat.le_refl _⟩
theorem FV.run{cl:Cl}{f:FuncId}{args:List LV}{v:LV}(h:FV P s cl f args v):aG P f args s.H λce H'=>ce=.ret v/\H'=s.H:=by
 cases cl with
 |n=>exact h s.H
 |_=>exact h s (Grow.refl s)
theorem E4(hc:c.ok P){cl:Cl}{v:LV}(h:Xb P c cl s o.dst o.op v)(hs:cF E s a w)(aN:∀t,o.dst=some t->t<s.nt){next:Act->World->Prop}(hk:∀a' w',cF E (s.put o.dst v) a' w'->next a' w'):o.wpIn (tI rd) 0 P a w next (AQ E Q):=by
 have gen:(∃pre,bV c.ty c.bR c.bO s o.dst o.op=some ⟨pre,v,.no⟩/\pre/\kI cl o.op s)->o.wpIn (tI rd) 0 P a w next (AQ E Q):=by
  rintro⟨pre,h1,h2,_⟩;exact kG (r:=⟨pre,v,.no⟩) (oP hc.ty hc.bR hc.key h1 h2 hs aN) λs' a' w' e hS=>hk _ _ (by subst e;exact hS)
 cases hop:o.op with
 |pick x y z=>
  rw[hop]at h;obtain⟨g,h1,h2,h3,h4,rfl⟩:=h;exact kG (uD hop h1 h2 h3 h4 hs aN True) λs' a' w' e hS=>hk _ _ (by subst e;exact hS)
 |call cl=>
  obtain⟨callee,args,tys⟩:=cl;cases callee with
  |value fo=>
   rw[hop]at h;obtain⟨f,first,cap,h1,h2,h3,h4,h5⟩:=h
   refine Gp (R:=λce H'=>ce=.ret v/\H'=s.H) hop h1 h2 h3 h4 hs aN h5.run (λv' H' a' w' hR hS=>?_) λx H' hR=>(by cases hR.1)
   obtain⟨e1,rfl⟩:=hR;cases e1;exact hk _ _ hS
  |builtin b=>rw[hop]at h gen;exact gen h
  |invoke f m=>rw[hop]at h gen;exact gen h
 |_=>rw[hop]at h gen;exact gen h
theorem E5(hc:c.ok P){K:S->Prop}(h:Zk P c ops s o.dst o.op K Q)(hs:cF E s a w)(aN:∀t,o.dst=some t->t<s.nt){next:Act->World->Prop}(hk:∀s' a' w',K s'->cF E s' a' w'->next a' w'):o.wpIn (tI rd) 0 P a w next (AQ E Q):=by
 have gen:(∃r,bV c.ty c.bR c.bO s o.dst o.op=some r/\r.pre/\K ((s.kD o.dst r.kD).put o.dst r.v))->o.wpIn (tI rd) 0 P a w next (AQ E Q):=by
  rintro⟨r,h1,h2,h3⟩;exact kG (oP hc.ty hc.bR hc.key h1 h2 hs aN) λs' a' w' e hS=>hk _ _ _ (e▸h3) hS
 cases hop:o.op with
 |call cl=>
  obtain⟨callee,args,tys⟩:=cl;cases callee with
  |value fo=>
   rw[hop]at h;obtain⟨f,first,cap,h1,h2,h3,h4,h5⟩:=h
   refine Kh hop h1 h2 h3 h4 hs aN h5 (λv H' a' w' hR hn hS=>hk _ _ _ (hR hn) hS) λx H' hR=>hR s.env λ_ _=>rfl
  |builtin b=>rw[hop]at h gen;exact gen h
  |invoke f m=>rw[hop]at h gen;exact gen h
 |panic x=>rw[hop]at h;exact h.elim
 |_=>rw[hop]at h gen;exact gen h
theorem Qx(hc:c.ok P){i:Nat}{K:S->Prop}(h:KL P c ops pf i s K Q)(hs:cF E s a w){next:Act->World->Prop}(hk:∀s' a' w',K s'->cF E s' a' w'->next a' w'):wpOpIn (tI rd) 0 P ops (AQ E Q) i next a w:=by
 unfold KL at h;unfold wpOpIn;cases ho:ops[i]? with
 |none=>rw[ho]at h;exact hk _ _ _ h hs
 |some o=>
  rw[ho]at h;simp only at h|-;obtain⟨aN,h⟩:=h
  split at h
  ·obtain⟨v,hq,hK⟩:=h;unfold QV at hq
   split at hq
   ·rename_i hg;have hw:Region.wanted o (yielded ops a.tmps)=true:=by unfold Region.wanted;rw[hg]
    rw[if_pos hw];exact(E4 hc hq hs aN λa' w' hS=>hk _ _ _ hK hS)
   ·rename_i j want hg;obtain⟨g,u,h1,rfl,h2⟩:=hq;have hw:=qe hs hg h1;cases g with
    |true=>
     rw[if_pos hw];exact(E4 hc (h2 rfl) hs aN λa' w' hS=>hk _ _ _ hK (NZ o.dst hS true rfl aN))
    |false=>
     rw[if_neg (by rw[hw];simp)]
     exact⟨λ_ _=>trivial,hk _ _ _ hK (pN (λG nx lm=>by rw[LR];exact⟨λe=>(by cases e),λ_=>rfl⟩) hs aN)⟩
  ·unfold EF at h
   split at h
   ·rename_i hg;have hw:Region.wanted o (yielded ops a.tmps)=true:=by unfold Region.wanted;rw[hg]
    rw[if_pos hw];exact(E5 hc h hs aN hk)
   ·rename_i j want hg;obtain⟨g,h1,h2,h3⟩:=h;have hw:=qe hs hg h1;cases g with
    |true=>rw[if_pos hw];exact(E5 hc (h2 rfl) hs aN hk)
    |false=>
     rw[if_neg (by rw[hw];simp)]
     exact⟨λ_ _=>trivial,hk _ _ _ (h3 rfl) (pN (λG nx lm=>by simp[LR]) hs aN)⟩
theorem CG(hc:c.ok P):∀(n:Nat) (listed:Array Bool) (s:S) (a:Act) (w:World),QB P c ops pf Q n listed s->cF E s a w->wpAnyIn (tI rd) 0 P .any ops (AQ E Q) n listed a w
 |0,listed,s,a,w,h,hs=>⟨(h hs.wf).1,.normal,s,(h hs.wf).2,hs⟩
 |n+1,listed,s,a,w,h,hs=>⟨λe=>⟨.normal,s,(h hs.wf).1 e,hs⟩,λi hi=>Qx hc ((h hs.wf).2 i hi) hs λs' a' w' hK hS=>CG hc n _ s' a' w' hK hS⟩
theorem cF.drawn(h:cF E s a w):cF E s a {w with drawn:=w.drawn+1}:=by
 obtain⟨g2,G,lm,g1,hM,hx,aK,_⟩:=h;exact⟨g2,G,lm,g1,⟨hM.qC,hM.dF,hM.fresh,hM.C3,hM.loc,hM.iC⟩,⟨⟨hx.le,hx.nx,hx.os,hx.tape,hx.output,Nat.le_succ_of_le hx.drawn,hx.size,hx.frame,hx.own⟩,hx.nl⟩,aK,rfl⟩
end
end Go.Aft
end
section
namespace Go.Aft
section
variable {P:Program} {c:Cx} {ops:Array Oper} {pf:List (Nat×Cl)} {s s':S} {o:Oper} {Q:AE->S->Prop}
def lC(ops:Array Oper)(o:Oper)(s s':S):Prop:=∀t∈o.looksAt ops,s.env t=s'.env t
theorem lC.get(h:lC ops o s s'):∀x∈o.op.operands,s.get x=s'.get x:=by
 intro x hx;cases x with
 |tmp t=>exact h t (List.mem_append_left _ (List.mem_filterMap.2 ⟨.tmp t,by simpa using hx,rfl⟩))
 |_=>rfl
theorem lC.guard(h:lC ops o s s'){j:Nat}{want:Bool}(hg:o.guard=some (j,want)):guardOf ops s j want=guardOf ops s' j want:=by
 unfold guardOf;cases ht:(ops[j]?).bind (·.dst)with
 |none=>rfl
 |some t=>
  have:s.env t=s'.env t:=h t (List.mem_append_right _ (by rw[hg];simp[ht]))
  simp only[this]
theorem lC.symm(h:lC ops o s s'):lC ops o s' s:=λt ht=>(h t ht).symm
theorem SX{fo:Operand}{args:Array Operand}{tys:Array TypeId}(hop:o.op=.call ⟨.value fo,args,tys⟩):fo∈o.op.operands/\∀x∈args.toList,x∈o.op.operands:=by
 rw[hop];simp only[Op.operands,Call.operands];exact⟨by simp,λx hx=>by simp only[Array.mem_append];exact .inr (Array.mem_toList_iff.1 hx)⟩
theorem FV.grow{f:FuncId}{args:List LV}{v:LV}{cl:Cl}(hc:cl=.n\/ cl=.r/\Grow s s')(h:FV P s cl f args v):FV P s' cl f args v:=by
 rcases hc with rfl|⟨rfl,hg⟩
 ·exact h
 ·exact λs2 h2=>h s2 (hg.trans h2)
theorem KG{v:LV}{i:Nat}(hs:lC ops o s s')(hc:dQ pf i o=.n/\s.H.next<=s'.H.next\/ dQ pf i o=.r/\Grow s s')(h:Xb P c (dQ pf i o) s o.dst o.op v):Xb P c (dQ pf i o) s' o.dst o.op v:=by
 have hg:=hs.get;have hn:s.H.next<=s'.H.next:=by
  rcases hc with q|q
  ·exact q.2
  ·exact q.2.nx
 have gen:Jj o.op=false->(∃pre,bV c.ty c.bR c.bO s o.dst o.op=some ⟨pre,v,.no⟩/\pre/\kI (dQ pf i o) o.op s)->∃pre,bV c.ty c.bR c.bO s' o.dst o.op=some ⟨pre,v,.no⟩/\pre/\kI (dQ pf i o) o.op s':=by
  rintro hf ⟨pre,h1,h2,h3⟩;have hst:kI (dQ pf i o) o.op s':=by
   generalize dQ pf i o=cl at h3|-;cases hop:o.op with
   |load T p=>
    have e:=hg p (by rw[hop];simp[Op.operands])
    rw[hop]at h3;cases cl<;>first|(simp only[kI]at h3|-;unfold S.arg at h3|-;rw[<-e];exact h3)|trivial
   |_=>cases cl<;>trivial
  suffices∃pre,bV c.ty c.bR c.bO s' o.dst o.op=some ⟨pre,v,.no⟩/\pre from let⟨p,a,b⟩:=this;⟨p,a,b,hst⟩
  by_cases hld:∃T p,o.op=.load T p/\(s.arg p).still
  ·obtain⟨T,p,hop,hs2⟩:=hld;have e:=hg p (by rw[hop];simp[Op.operands])
   have ea:s.arg p=s'.arg p:=by unfold S.arg;rw[e]
   have ep:s.aI p=s'.aI p:=by unfold S.aI;rw[e]
   rw[hop]at h1|-;simp only[bV,cG]at h1|-;rw[ea,ep]at h1;rw[ea]at hs2;generalize s'.arg p=x at h1 hs2|-;refine⟨pre,?_,h2⟩;rw[<-h1];cases x<;>first|rfl|exact hs2.elim
  have hop:dQ pf i o=.x\/ dQ pf i o=qN o.op:=by
   unfold dQ ek at h3|-;rw[hf]at h3|-;cases hl:pf.lookup i with
   |none=>simp
   |some k=>
    rw[hl]at h3;cases k<;>first|(left;rfl)|skip
    cases hb:Wa o.op with
    |false=>left;rfl
    |true=>
     exfalso;cases ho:o.op<;>simp[ho,Wa]at hb;rw[ho]at h3;exact hld ⟨_,_,ho,h3⟩
  have hc:qN o.op=.n/\s.H.next<=s'.H.next\/ qN o.op=.r/\Grow s s':=by
   rcases hop with q|q
   ·rw[q]at hc;rcases hc with⟨e,_⟩|⟨e,_⟩<;>cases e
   ·rw[q]at hc;exact hc
  rcases hc with q|q
  ·refine⟨pre,?_,h2⟩;have e1:=av1 (ty:=c.ty) (bR:=c.bR) (bO:=c.bO) (s:=s') (dst:=o.dst) (op:=o.op) q.1 s.L s.H;have e2:=DH (ty:=c.ty) (bR:=c.bR) (bO:=c.bO) (s:=s) (s':=s'.Dd s.L s.H) (dst:=o.dst) (op:=o.op) (λx hx=>(hg x hx).trans (by cases x<;>rfl)) rfl rfl
   rw[<-e1,<-e2,h1]
  ·exact av0 q.1 q.2 hg h1 h2
 have YR:dQ pf i o=.n\/ dQ pf i o=.r/\Grow s s':=hc.imp (·.1) id
 generalize dQ pf i o=cl at h YR gen|-;cases hop:o.op with
 |pick x y z=>
  rw[hop]at h hg;simp only[Op.operands,List.mem_toArray,List.mem_cons,List.not_mem_nil,or_false,forall_eq_or_imp,forall_eq]at hg;obtain⟨g,h1,h2,h3,h4,rfl⟩:=h;unfold S.arg at h1;unfold S.aI at h2 h3 h4;exact⟨g,by unfold S.arg;rw[<-hg.1];exact h1,by unfold S.aI;rw[<-hg.1];exact h2,by unfold S.aI;rw[<-hg.2.1];exact h3,by unfold S.aI;rw[<-hg.2.2];exact h4,by unfold S.arg;rw[hg.2.1,hg.2.2]⟩
 |call cl=>
  obtain⟨callee,args,tys⟩:=cl;cases callee with
  |value fo=>
   have hm:=SX hop;rw[hop]at h;obtain⟨f,first,cap,h1,h2,h3,h4,h5⟩:=h
   have e0:=hg fo hm.1;have e1:args.toList.map s.arg=args.toList.map s'.arg:=List.map_congr_left λx hx=>by unfold S.arg;rw[hg x (hm.2 x hx)]
   have e2:jc (args.toList.map s.aI)=jc (args.toList.map s'.aI):=u9 λx hx=>hg x (hm.2 x hx)
   rw[e1]at h4 h5;rw[e2]at h3;unfold S.arg at h1;unfold S.aI at h2;exact⟨f,first,cap,by unfold S.arg;rw[<-e0];exact h1,by unfold S.aI;rw[<-e0];exact h2,h3,eV hn _ h4,h5.grow YR⟩
  |builtin b=>rw[hop]at h gen;exact gen rfl h
  |invoke f m=>rw[hop]at h gen;exact gen rfl h
 |_=>rw[hop]at h gen;exact gen rfl h
theorem zL{v:LV}{i:Nat}(hs:lC ops o s s')(hc:dQ pf i o=.n/\s.H.next<=s'.H.next\/ dQ pf i o=.r/\Grow s s')(h:QV P c (dQ pf i o) ops s o v):QV P c (dQ pf i o) ops s' o v:=by
 unfold QV at h|-
 split at h
 ·exact KG hs hc h
 ·rename_i j want hg;obtain⟨g,u,h1,rfl,h2⟩:=h;exact⟨g,u,by rw[<-hs.guard hg];exact h1,rfl,λe=>KG hs hc (h2 e)⟩
theorem mH(s:S)(d:Option Nat)(v:LV):(s.put d v).H=s.H/\(s.put d v).L=s.L/\(s.put d v).nt=s.nt:=by cases d<;>exact⟨rfl,rfl,rfl⟩
theorem put_comm(s:S)(x y:Option Nat)(v u:LV)(h:∀d,x=some d->y≠some d):(s.put x v).put y u=(s.put y u).put x v:=by
 cases x with
 |none=>rfl
 |some d=>
  cases y with
  |none=>rfl
  |some e=>
   have hne:d≠e:=λhe=>h d rfl (he▸rfl)
   simp only[S.put,S.mk.injEq,and_true]
   funext t
   simp only[eL];by_cases h1:t=e
   ·by_cases h2:t=d
    ·exact absurd (h2.symm.trans h1) hne
    ·simp[h1,h2,Ne.symm hne]
   ·simp[h1]
theorem WU(s:S)(x dst:Option Nat)(v:LV)(e:Zj):(s.put x v).kD dst e=(s.kD dst e).put x v:=by
 cases x<;>cases e<;>first|rfl|(cases dst<;>rfl)
theorem lC.put{x:Option Nat}{v:LV}(h:∀d,x=some d->d∉o.looksAt ops)(s:S):lC ops o s (s.put x v):=by
 intro t ht;cases x with
 |none=>rfl
 |some d=>
  have:t≠d:=λe=>h d rfl (e▸ht)
  simp[S.put,eL,this]
theorem WV(s:S)(dst:Option Nat)(e:Zj):(s.kD dst e).env=s.env:=by cases e<;>first|rfl|(cases dst<;>rfl)
theorem Tj(s:S)(dst:Option Nat)(e:Zj):s.H.next<=(s.kD dst e).H.next:=by
 cases e with
 |no=>exact Nat.le_refl _
 |rO cs=>cases dst<;>exact Nat.le_refl _
 |wN k cs=>exact Nat.le_refl _
 |iD o=>exact Nat.le_succ _
 |dV n o=>exact Nat.le_refl _
theorem BH(hw:TU s)(dst:Option Nat)(o:GO):Grow s (s.kD dst (.iD o)):=by
 refine⟨λ_ _ h=>h,λn x hx _=>?_,Nat.le_succ _⟩
 have hn:n≠s.H.next:=λe=>by rw[e,hw _ (Nat.le_refl _)]at hx;cases hx
 simp[S.kD,GH.add,eL,hn,hx]
theorem JI(dst:Option Nat)(cs:List LV)(h:∀t,dst=some t->s.L t=none):Grow s (s.kD dst (.rO cs)):=by
 cases dst with
 |none=>exact Grow.refl s
 |some t=>
  refine⟨λk ds hk=>?_,λ_ _ h _=>h,Nat.le_refl _⟩
  have hn:k≠t:=λe=>by rw[e,h t rfl]at hk;cases hk
  simp[S.kD,eL,hn,hk]
theorem av2{dst:Option Nat}{op:Op}(h:qN op=.c)(hw:TU s){r:vo}(h1:bV c.ty c.bR c.bO s dst op=some r)(h2:r.pre):Grow s (s.kD dst r.kD):=by
 cases op with
 |alloc T=>
  simp only[bV,cG]at h1
  split at h1
  ·split at h1
   ·cases h1;exact BH hw _ _
   ·cases h1;exact JI _ _ λt e=>(by cases e;exact h2)
  ·cases h1
 |box T x=>
  simp only[bV,cG]at h1
  split at h1
  ·split at h1
   ·split at h1
    ·cases h1;exact BH hw _ _
    ·cases h1;exact Grow.refl s
    ·cases h1;exact JI _ _ λt e=>(by cases e;exact h2.2)
   ·cases h1
  ·cases h1
 |makeMap T r=>
  cases r with
  |none=>simp only[bV,cG]at h1;cases h1;exact BH hw _ _
  |some r=>simp only[bV,cG]at h1;cases h1
 |call cl=>
  obtain⟨callee,args,tys⟩:=cl;cases callee with
  |builtin b=>cases b<;>(simp[qN]at h;done)
  |_=>simp[qN]at h
 |_=>simp[qN]at h
end
end Go.Aft
end
section
namespace Go.Aft
section
variable {P:Program} {rd:RD} {c:Cx} {ops:Array Oper} {pf:List (Nat×Cl)} {s s':S} {Q:AE->S->Prop}
theorem Grow.put(h:Grow s s')(d:Option Nat)(v:LV):Grow s (s'.put d v):=by
 cases d<;>exact⟨h.L,h.obj,h.nx⟩
theorem lC.trans{o:Oper}{a b d:S}(h:lC ops o a b)(k:lC ops o b d):lC ops o a d:=λt ht=>(h t ht).trans (k t ht)
theorem lC.RQ{o:Oper}{a b:S}(h:b.env=a.env):lC ops o a b:=λt _=>by rw[h]
def Xn(pf:List (Nat×Cl))(i:Nat)(oi:Oper)(j:Nat)(oj:Oper):Prop:=dQ pf i oi=.n\/ dQ pf i oi=.r/\dQ pf j oj≠ .x
theorem keep{i j:Nat}{oi oj:Oper}{v:LV}{dst:Option Nat}{e:Zj}{u:LV}(hq:QV P c (dQ pf i oi) ops s oi v)(hap:∀d,oj.dst=some d->d∉oi.looksAt ops)
  (hi:dQ pf i oi=.n\/ dQ pf i oi=.r/\Grow s (s.kD oj.dst e)):QV P c (dQ pf i oi) ops ((s.kD oj.dst e).put oj.dst u) oi v:=by
 refine zL (i:=i) (pf:=pf) ((lC.RQ (WV s oj.dst e)).trans (lC.put hap _)) ?_ hq;rcases hi with q|q
 ·exact .inl ⟨q,by rw[(mH _ _ _).1];exact Tj s _ e⟩
 ·exact .inr ⟨q.1,q.2.put _ _⟩
theorem yQ{i j:Nat}{oi oj:Oper}{v:LV}{K:S->Prop}(hoi:ops[i]?=some oi)(hw:TU s)(hap:oi.apart ops oj=true)(hf:Xn pf i oi j oj)(hj:dQ pf j oj≠ .n/\dQ pf j oj≠ .r)(hq:QV P c (dQ pf i oi) ops s oi v)
  (h:Zk P c ops (s.put oi.dst v) oj.dst oj.op K Q):Zk P c ops s oj.dst oj.op (λs'=>QV P c (dQ pf i oi) ops s' oi v/\K (s'.put oi.dst v)) Q:=by
 obtain⟨a1,a2,a3⟩:=Oper.apart_spec hap;have hsame:lC ops oj s (s.put oi.dst v):=lC.put a1 s;have hg:=hsame.get;have gen:Jj oj.op=false->(∃r,bV c.ty c.bR c.bO (s.put oi.dst v) oj.dst oj.op=some r/\r.pre/\K (((s.put oi.dst v).kD oj.dst r.kD).put oj.dst r.v))->
   ∃r,bV c.ty c.bR c.bO s oj.dst oj.op=some r/\r.pre/\(QV P c (dQ pf i oi) ops ((s.kD oj.dst r.kD).put oj.dst r.v) oi v/\K (((s.kD oj.dst r.kD).put oj.dst r.v).put oi.dst v)):=by
  rintro hfn ⟨r,h1,h2,h3⟩;have e1:=DH (ty:=c.ty) (bR:=c.bR) (bO:=c.bO) (dst:=oj.dst) hg (mH s oi.dst v).2.1.symm (mH s oi.dst v).1.symm;rw[<-e1]at h1;refine⟨r,h1,h2,?_,?_⟩
  ·refine keep (i:=i) (j:=j) (pf:=pf) (dst:=none) hq a3 ?_;rcases hf with q|q
   ·exact .inl q
   ·refine .inr ⟨q.1,av2 ?_ hw h1 h2⟩;have e2:dQ pf j oj=.n\/ dQ pf j oj=.x\/ dQ pf j oj=qN oj.op:=by
     unfold dQ ek;rw[hfn];cases pf.lookup j with
     |none=>simp
     |some k=>cases k<;>first|(simp;done)|(cases Wa oj.op<;>simp)
    have q2:=q.2;have e2:=(e2.resolve_left hj.1).resolve_left q2;rw[e2]at hj;rw[e2]at q2;cases lX:qN oj.op with
    |n=>exact absurd lX hj.1
    |r=>exact absurd lX hj.2
    |c=>rfl
    |x=>exact absurd lX q2
  ·rw[WU,put_comm _ _ _ _ _ a2]at h3;exact h3
 cases hop:oj.op with
 |call cl=>
  obtain⟨callee,args,tys⟩:=cl;cases callee with
  |value fo=>
   have hm:=SX hop;rw[hop]at h;obtain⟨f,first,cap,h1,h2,h3,h4,h5⟩:=h
   have e0:=hg fo hm.1;have e1:args.toList.map (s.put oi.dst v).arg=args.toList.map s.arg:=List.map_congr_left λx hx=>by unfold S.arg;rw[hg x (hm.2 x hx)]
   have e2:jc (args.toList.map (s.put oi.dst v).aI)=jc (args.toList.map s.aI):=u9 λx hx=>(hg x (hm.2 x hx)).symm
   have eH:(s.put oi.dst v).H=s.H:=(mH s _ _).1;rw[e1,eH]at h4 h5;rw[e2]at h3;unfold S.arg at h1;unfold S.aI at h2;refine⟨f,first,cap,by unfold S.arg;rw[e0];exact h1,by unfold S.aI;rw[e0];exact h2,h3,h4,h5.mono λce H' hR=>?_⟩
   cases ce with
   |ret u=>
    intro hn;have hK:=hR hn;have hx:dQ pf i oi=.n:=by
     rcases hf with q|q
     ·exact q
     ·refine absurd ?_ q.2;have h6:=hj.1;have h7:=hj.2;unfold dQ ek at h6 h7|-;rw[hop]at h6 h7|-;simp only[Jj,if_true]at h6 h7|-;cases hl:pf.lookup j with
      |none=>rfl
      |some k=>rw[hl]at h6 h7;cases k<;>first|rfl|exact absurd rfl h6|exact absurd rfl h7
    refine⟨?_,?_⟩
    ·refine zL (i:=i) (pf:=pf) (s:=s) ?_ (.inl ⟨hx,by rw[(mH _ _ _).1];exact hn⟩) hq
     exact(lC.RQ (b:={s with H:=H'}) rfl).trans (lC.put a3 _)
    ·have e3:({s.put oi.dst v with H:=H'}:S)=({s with H:=H'}:S).put oi.dst v:=by cases oi.dst<;>rfl
     rw[e3,put_comm _ _ _ _ _ a2]at hK;exact hK
   |ej x=>
    intro env lY;have:=hR env λt ht=>by
     rw[lY t ht];have hne:oi.dst≠some t:=by
      have hmem:oi∈ops.toList:=by
       have:=Array.mem_of_getElem? hoi;exact this.val
      have:=List.all_eq_true.1 ht oi hmem;simpa using this
     cases hd:oi.dst with
     |none=>rfl
     |some u=>
      have:t≠u:=λe=>hne (by rw[hd,e])
      simp only[S.put,aX _ _ this]
    have e3:({s.put oi.dst v with H:=H',env:=env}:S)={s with H:=H',env:=env}:=by cases oi.dst<;>rfl
    rw[e3]at this;exact this
  |builtin b=>rw[hop]at h gen;exact gen rfl h
  |invoke f m=>rw[hop]at h gen;exact gen rfl h
 |panic x=>rw[hop]at h;exact h.elim
 |_=>rw[hop]at h gen;exact gen rfl h
theorem KJ{i j:Nat}{oi oj:Oper}{v:LV}{K:S->Prop}(hoi:ops[i]?=some oi)(KS:ops[j]?=some oj)(hw:TU s)(hap:oi.apart ops oj=true)(hf:Xn pf i oi j oj)(hq:QV P c (dQ pf i oi) ops s oi v)
  (h:KL P c ops pf j (s.put oi.dst v) K Q):KL P c ops pf j s (λs'=>QV P c (dQ pf i oi) ops s' oi v/\K (s'.put oi.dst v)) Q:=by
 obtain⟨a1,a2,a3⟩:=Oper.apart_spec hap;have hsame:lC ops oj s (s.put oi.dst v):=lC.put a1 s;have stay:∀u:LV,QV P c (dQ pf i oi) ops (s.put oj.dst u) oi v:=λu=>by
  refine zL (i:=i) (pf:=pf) (lC.put a3 s) ?_ hq;rcases hf with q|q
  ·exact .inl ⟨q,by rw[(mH _ _ _).1];exact Nat.le_refl _⟩
  ·exact .inr ⟨q.1,(Grow.refl s).put _ _⟩
 unfold KL at h|-;rw[KS]at h|-;simp only at h|-;rw[(mH s _ _).2.2]at h;refine⟨h.1,?_⟩;have h:=h.2
 split at h
 ·rename_i lX;rw[if_pos lX];obtain⟨u,h1,h2⟩:=h;refine⟨u,?_,stay u,?_⟩
  ·refine zL (i:=j) (pf:=pf) hsame.symm ?_ h1;rcases lX with q|q
   ·exact .inl ⟨q,by rw[(mH _ _ _).1];exact Nat.le_refl _⟩
   ·refine .inr ⟨q,?_⟩;have e:=mH s oi.dst v;exact⟨λk cs hk=>by rw[e.2.1]at hk;exact hk,λn cs hk _=>by rw[e.1]at hk;exact hk,by rw[e.1];exact Nat.le_refl _⟩
  ·rw[put_comm _ _ _ _ _ a2]at h2;exact h2
 ·rename_i lX;rw[if_neg lX];have hj:dQ pf j oj≠ .n/\dQ pf j oj≠ .r:=⟨λe=>lX (.inl e),λe=>lX (.inr e)⟩
  unfold EF at h|-
  split at h
  ·exact yQ hoi hw hap hf hj hq h
  ·rename_i jg want hg;obtain⟨g,h1,h2,h3⟩:=h;refine⟨g,by rw[hsame.guard hg];exact h1,λe=>yQ hoi hw hap hf hj hq (h2 e),λe=>⟨stay _,?_⟩⟩
   have:=h3 e;rw[put_comm _ _ _ _ _ a2]at this;exact this
theorem af5(s:S)(dst:Option Nat)(e:Zj)(d:Option Nat)(v:LV):((s.kD dst e).put d v).nt=s.nt:=by
 rw[(mH _ _ _).2.2];cases e<;>first|rfl|(cases dst<;>rfl)
theorem KP{K K':S->Prop}{dst:Option Nat}{op:Op}(h:∀s',s'.nt=s.nt->K s'->K' s')(hh:Zk P c ops s dst op K Q):Zk P c ops s dst op K' Q:=by
 have gen:(∃r,bV c.ty c.bR c.bO s dst op=some r/\r.pre/\K ((s.kD dst r.kD).put dst r.v))->∃r,bV c.ty c.bR c.bO s dst op=some r/\r.pre/\K' ((s.kD dst r.kD).put dst r.v):=
  λ⟨r,h1,h2,h3⟩=>⟨r,h1,h2,h _ (af5 s dst r.kD dst r.v) h3⟩
 cases op with
 |call cl=>
  obtain⟨callee,args,tys⟩:=cl;cases callee with
  |value fo=>
   obtain⟨f,first,cap,h1,h2,h3,h4,h5⟩:=hh
   refine⟨f,first,cap,h1,h2,h3,h4,h5.mono λce H' hR=>?_⟩
   cases ce with
   |ret v=>exact λhn=>h _ (mH _ _ _).2.2 (hR hn)
   |ej x=>exact hR
  |builtin b=>exact gen hh
  |invoke f m=>exact gen hh
 |panic x=>exact hh
 |_=>exact gen hh
theorem wG{i:Nat}{K K':S->Prop}(h:∀s',s'.nt=s.nt->K s'->K' s')(hh:KL P c ops pf i s K Q):KL P c ops pf i s K' Q:=by
 unfold KL at hh|-
 split
 ·rename_i e;rw[e]at hh;exact h _ rfl hh
 ·rename_i o e;rw[e]at hh;refine⟨hh.1,?_⟩;have hh:=hh.2
  split at hh
  ·rename_i lX;rw[if_pos lX];obtain⟨v,h1,h2⟩:=hh;exact⟨v,h1,h _ (mH _ _ _).2.2 h2⟩
  ·rename_i lX;rw[if_neg lX];unfold EF at hh|-
   split at hh
   ·exact KP h hh
   ·obtain⟨g,h1,h2,h3⟩:=hh;exact⟨g,h1,λe=>KP h (h2 e),λe=>h _ (mH _ _ _).2.2 (h3 e)⟩
theorem Nc{i:Nat}{oi:Oper}{v:LV}{B:List Nat}(hi:ops[i]?=some oi)(aN:∀t,oi.dst=some t->t<s.nt)(lX:dQ pf i oi=.n\/ dQ pf i oi=.r)
  (hBc:∀j∈B,j=i\/ ∃oj,ops[j]?=some oj/\∃e∈oj.after,Region.binds .any e=true/\e.on∈B):
  ∀(fuel:Nat) (listed:Array Bool) (s:S),(∀t,oi.dst=some t->t<s.nt)->(∀j∈B,listed.getD j true=false)->
   (∀j oj,ops[j]?=some oj->j≠i->listed.getD j true=false->(∀e∈oj.after,Region.binds .any e=true->e.on∉B)->oi.apart ops oj=true/\Xn pf i oi j oj)->
   i∈Region.ready .any ops listed->QV P c (dQ pf i oi) ops s oi v->
   QB P c ops pf Q fuel (listed.setIfInBounds i true) (s.put oi.dst v)->QB P c ops pf Q (fuel+1) listed s:=by
 intro fuel
 induction fuel with
 |zero=>
  intro listed s hd _ _ hr hy H hw;have eM:TU (s.put oi.dst v):=by unfold TU;rw[(mH _ _ _).1];exact hw
  refine⟨λh=>(by rw[h]at hr;cases hr),λj hj=>?_⟩
  by_cases hji:j=i
  ·subst hji;unfold KL;rw[hi];simp only;rw[if_pos lX];exact⟨hd,v,hy,H⟩
  ·have:=ready_mono hj hji;rw[(H eM).1]at this;cases this
 |succ fuel ih=>
  intro listed s hd hBu hfree hr hy H hw;have eM:TU (s.put oi.dst v):=by unfold TU;rw[(mH _ _ _).1];exact hw
  refine⟨λh=>(by rw[h]at hr;cases hr),λj hj=>?_⟩
  by_cases hji:j=i
  ·subst hji;unfold KL;rw[hi];simp only;rw[if_pos lX];exact⟨hd,v,hy,H⟩
  ·have h1:=(H eM).2 j (ready_mono hj hji);obtain⟨aA9,oj,KS,hall⟩:=mem_ready.1 hj;have hnot:∀e∈oj.after,Region.binds .any e=true->e.on∉B:=λe he hb hB=>by
    have h1:=hall e he hb;have h0:=hBu _ hB;rcases Nat.lt_or_ge e.on listed.size with h'|h'
    ·simp[h']at h0 h1;rw[h0]at h1;cases h1
    ·simp[Array.getElem?_eq_none h']at h1
   have hjB:j∉B:=λq=>by
    rcases hBc j q with q|⟨oj',q1,e,q2,q3,q4⟩
    ·exact hji q
    ·rw[KS]at q1;cases q1;exact hnot e q2 q3 q4
   have hfj:=hfree j oj KS hji aA9 hnot;have h2:=KJ hi KS hw hfj.1 hfj.2 hy h1;have br3:∀k∈B,(listed.setIfInBounds j true).getD k true=false:=λk hk=>by
    rw[getD_set_ne true (λe=>hjB (by rw[e];exact hk))];exact hBu k hk
   have ac9:∀k ok,ops[k]?=some ok->k≠i->(listed.setIfInBounds j true).getD k true=false->
     (∀e∈ok.after,Region.binds .any e=true->e.on∉B)->oi.apart ops ok=true/\Xn pf i oi k ok:=λk ok hk hki hun hno=>by
    refine hfree k ok hk hki ?_ hno;by_cases hjk:j=k
    ·subst hjk;exact aA9
    ·rw[getD_set_ne true hjk]at hun;exact hun
   refine wG (λs' hnt h3=>ih (listed.setIfInBounds j true) s' (λt ht=>by rw[hnt];exact hd t ht) br3 ac9 (ready_mono hr (Ne.symm hji)) h3.1 ?_) h2
   rw[Array.setIfInBounds_comm _ _ hji];exact h3.2
def Qj(ops:Array Oper)(b:List Nat)(j:Nat):List Nat:=match ops[j]? with
 |none=>b
 |some oj=>if oj.after.any (λe=>Region.binds .any e&&b.contains e.on)then j::b else b
def Qi(ops:Array Oper)(i:Nat):List Nat:=(List.range ops.size).foldl (Qj ops) [i]
theorem Kl{ops:Array Oper}{i:Nat}:i∈Qi ops i/\∀j∈Qi ops i,j=i\/ ∃oj,ops[j]?=some oj/\∃e∈oj.after,Region.binds .any e=true/\e.on∈Qi ops i:=by
 have key:∀(l b:List Nat),i∈b->(∀j∈b,j=i\/ ∃oj,ops[j]?=some oj/\∃e∈oj.after,Region.binds .any e=true/\e.on∈b)->
   i∈l.foldl (Qj ops) b/\∀j∈l.foldl (Qj ops) b,j=i\/ ∃oj,ops[j]?=some oj/\∃e∈oj.after,Region.binds .any e=true/\e.on∈l.foldl (Qj ops) b:=by
  intro l
  induction l with
  |nil=>exact λb h1 h2=>⟨h1,h2⟩
  |cons k l ih=>
   intro b h1 h2;rw[List.foldl_cons];refine ih _ ?_ ?_
   ·unfold Qj
    split
    ·exact h1
    ·split
     ·exact List.mem_cons_of_mem _ h1
     ·exact h1
   ·unfold Qj
    split
    ·exact h2
    ·rename_i ok hk
     split
     ·rename_i Gd;intro j hj;rcases List.mem_cons.1 hj with q|q
      ·right;subst q;obtain⟨e,he,hb⟩:=Array.any_eq_true'.1 Gd|>.imp λe h=>h
       simp only[Bool.and_eq_true,List.contains_iff_mem]at hb;exact⟨ok,hk,e,he,hb.1,List.mem_cons_of_mem _ hb.2⟩
      ·rcases h2 j q with q|⟨oj,q1,e,q2,q3,q4⟩
       ·exact .inl q
       ·exact .inr ⟨oj,q1,e,q2,q3,List.mem_cons_of_mem _ q4⟩
     ·exact h2
 exact key _ [i] (by simp) λj hj=>.inl (by simpa using hj)
def YX(pf:List (Nat×Cl))(ops:Array Oper)(listed:Array Bool)(i:Nat)(oi:Oper):Bool:=
 (Qi ops i).all (λk=>!(listed.getD k true))&&(List.range ops.size).all λj=>j==i||listed.getD j true||(match ops[j]? with
  |none=>true
  |some oj=>oj.after.any (λe=>Region.binds .any e&&(Qi ops i).contains e.on)||(oi.apart ops oj&&(dQ pf i oi==.n||(dQ pf i oi==.r&&dQ pf j oj !=.x))))
mutual
inductive Ol where
 |done
 |q (i:Nat) (k:Ol)
 |f (ks:sJ)
inductive sJ where
 |nil
 |cons (i:Nat) (k:Ol) (r:sJ)
end
def sJ.one(i:Nat)(k:Ol):sJ:=.cons i k .nil
def sJ.has:sJ->Nat->Bool
 |.nil,_=>false
 |.cons i _ r,j=>i==j||r.has j
mutual
def CO(pf:List (Nat×Cl))(ops:Array Oper):Ol->Nat->Array Bool->Bool
 |.done,_,listed=>(Region.ready .any ops listed).isEmpty
 |.q _ _,0,_=>false
 |.f _,0,_=>false
 |.q i k,n+1,listed=>(match ops[i]? with
  |none=>false
  |some oi=>(Region.ready .any ops listed).contains i&&((dQ pf i oi==.n||dQ pf i oi==.r)&&YX pf ops listed i oi))&&CO pf ops k n (listed.setIfInBounds i true)
 |.f ks,n+1,listed=>(!(Region.ready .any ops listed).isEmpty&&(Region.ready .any ops listed).all (λi=>ks.has i))&&Nk pf ops ks n listed
def Nk(pf:List (Nat×Cl))(ops:Array Oper):sJ->Nat->Array Bool->Bool
 |.nil,_,_=>true
 |.cons i k r,n,listed=>CO pf ops k n (listed.setIfInBounds i true)&&Nk pf ops r n listed
end
mutual
def HI(P:Program)(c:Cx)(ops:Array Oper)(pf:List (Nat×Cl))(Q:AE->S->Prop):Ol->S->Prop
 |.done,s=>Q .normal s
 |.q i k,s=>KL P c ops pf i s (HI P c ops pf Q k) Q
 |.f ks,s=>Ad P c ops pf Q ks s
def Ad(P:Program)(c:Cx)(ops:Array Oper)(pf:List (Nat×Cl))(Q:AE->S->Prop):sJ->S->Prop
 |.nil,_=>True
 |.cons i k r,s=>KL P c ops pf i s (HI P c ops pf Q k) Q/\Ad P c ops pf Q r s
end
mutual
theorem uy:∀(l:Ol) (n:Nat) (listed:Array Bool) (s:S),CO pf ops l n listed=true->HI P c ops pf Q l s->QB P c ops pf Q n listed s
 |.done,n,listed,s,hB,h=>by
  have e:Region.ready .any ops listed=[]:=by simpa[CO]using hB
  cases n with
  |zero=>exact λ_=>⟨e,h⟩
  |succ n=>exact λ_=>⟨λ_=>h,λi hi=>by rw[e]at hi;cases hi⟩
 |.q i k,0,listed,s,hB,h=>by simp[CO]at hB
 |.f ks,0,listed,s,hB,h=>by simp[CO]at hB
 |.q i k,n+1,listed,s,hB,h=>by
  simp only[CO,Bool.and_eq_true]at hB;obtain⟨hB1,hB2⟩:=hB;cases hi:ops[i]? with
  |none=>rw[hi]at hB1;cases hB1
  |some oi=>
   rw[hi]at hB1;simp only[Bool.and_eq_true,List.contains_iff_mem]at hB1;obtain⟨h1,h2,h3⟩:=hB1;have lX:dQ pf i oi=.n\/ dQ pf i oi=.r:=by simpa using h2
   simp only[HI]at h;unfold KL at h;rw[hi]at h;simp only at h;rw[if_pos lX]at h;obtain⟨hd,v,hv,hK⟩:=h;unfold YX at h3;rw[Bool.and_eq_true]at h3;obtain⟨h0,h3⟩:=h3;refine Nc (B:=Qi ops i) hi hd lX Kl.2 n listed s hd (λj hj=>by have:=List.all_eq_true.1 h0 j hj;simpa using this) (λj oj KS hji hun hno=>?_) h1 hv (uy k n _ _ hB2 hK)
   have hj:j<ops.size:=(Array.getElem?_eq_some_iff.1 KS).1;have:=List.all_eq_true.1 h3 j (List.mem_range.2 hj);rw[KS]at this;simp only[Bool.or_eq_true,beq_iff_eq,hji,hun,false_or,Bool.and_eq_true,bne_iff_ne,Bool.false_eq_true]at this;rcases this with q|q
   ·obtain⟨e,he,hb⟩:=Array.any_eq_true'.1 q|>.imp λe h=>h
    simp only[Bool.and_eq_true,List.contains_iff_mem]at hb;exact absurd hb.2 (hno e he hb.1)
   ·exact⟨q.1,q.2⟩
 |.f ks,n+1,listed,s,hB,h=>by
  simp only[CO,Bool.and_eq_true,List.all_eq_true,Bool.not_eq_true',List.isEmpty_eq_false_iff]at hB;exact λhw=>⟨λe=>absurd e hB.1.1,λj hj=>xS ks n listed s hB.2 h j (hB.1.2 j hj)⟩
theorem xS:∀(l:sJ) (n:Nat) (listed:Array Bool) (s:S),Nk pf ops l n listed=true->Ad P c ops pf Q l s->∀j,l.has j=true->KL P c ops pf j s (QB P c ops pf Q n (listed.setIfInBounds j true)) Q
 |.nil,n,listed,s,hB,h,j,hj=>by simp[sJ.has]at hj
 |.cons i k r,n,listed,s,hB,h,j,hj=>by
  simp only[Nk,Bool.and_eq_true]at hB;simp only[Ad]at h;simp only[sJ.has,Bool.or_eq_true,beq_iff_eq]at hj;by_cases e:i=j
  ·subst e;exact wG (λs' _ hK=>uy k n _ _ hB.1 hK) h.1
  ·exact xS r n listed s hB.2 h.2 j (hj.resolve_left e)
end
theorem fh.draw(hc:c.ok P){id:Nat}(pf:List (Nat×Cl))(sched:Ol)(hB:CO pf ops sched ops.size (Array.replicate ops.size false)=true)(h:HI P c ops pf Q sched s):fh P rd (.region id ops true) s Q:=by
 intro E a w hs;refine eP (wpIn_region_any hc.mixed ?_);exact CG hc _ _ s a _ (uy sched _ _ s hB h) hs.drawn
end
end Go.Aft
end
