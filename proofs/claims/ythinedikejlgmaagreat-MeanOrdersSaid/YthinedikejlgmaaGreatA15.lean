import Derived.Test.YthinedikejlgmaaGreatA14
import Derived.Still
set_option linter.all false
section
namespace Go.Aft
def isFn:Op->Bool
 | .call ⟨.value _,_,_⟩=>true
 | _=>false
def isLd:Op->Bool
 | .load ..=>true
 | _=>false
def LV.still:LV->Prop
 | .ip .. | .ep ..=>True
 | _=>False
def a6s (cl:Cl) (op:Op) (s:S):Prop:=match cl,op with
 | .n,.load _ p=>(s.arg p).still
 | _,_=>True
def clOp (k:Option Cl) (op:Op):Cl:=match k with
 | some .n=>if isFn op || isLd op then .n else .x
 | some .r=>if isFn op then .r else .x
 | some _=>.x
 | none=>if isFn op then .x else opCl op
def clOf (pf:List (Nat × Cl)) (i:Nat) (o:Oper):Cl:=clOp (pf.lookup i) o.op
def WFs (s:S):Prop:=∀ n,s.H.next<=n->s.H.obj n=none
def FV (P:Program) (s:S) (cl:Cl) (f:FuncId) (args:List LV) (v:LV):Prop :=
 match cl with
 | .n=>AFun P f args v
 | _=>∀ s',Grow s s'->a0j P f args s'.H fun ce H'=>ce=.ret v/\H'=s'.H
def QV0 (P:Program) (c:Cx) (cl:Cl) (s:S) (dst:Option Nat) (op:Op) (v:LV):Prop :=
 match op with
 | .pick x a b=>∃ g,s.arg x=.d (.k (.bool g))/\s.argP x/\(g=true->s.argP a)/\(g=false->s.argP b)/\v=b2c g (s.arg a) (s.arg b)
 | .call ⟨.value fo,args,_⟩=>∃ f first cap,a1k (s.arg fo)=some (f,first,cap)/\s.argP fo/\allP (args.toList.map s.argP)/\nbs s.H.next (first ++ args.toList.map s.arg ++ cap)/\FV P s cl f (first ++ args.toList.map s.arg ++ cap) v
 | op=>∃ pre,opX c.ty c.eqt c.pub s dst op=some ⟨pre,v,.no⟩/\pre/\a6s cl op s
def QV (P:Program) (c:Cx) (cl:Cl) (ops:Array Oper) (s:S) (o:Oper) (v:LV):Prop :=
 match o.guard with
 | none=>QV0 P c cl s o.dst o.op v
 | some (j,want)=>∃ g u,guardOf ops s j want=some g/\v=.gd g u/\(g=true->QV0 P c cl s o.dst o.op u)
def f2x (ops:Array Oper) (t:Nat):Bool:=ops.toList.all fun o=>o.dst != some t
def EF0 (P:Program) (c:Cx) (ops:Array Oper) (s:S) (dst:Option Nat) (op:Op) (K:S->Prop) (Q:AE->S->Prop):Prop :=
 match op with
 | .call ⟨.value fo,args,_⟩=>∃ f first cap,a1k (s.arg fo)=some (f,first,cap)/\s.argP fo/\allP (args.toList.map s.argP)/\nbs s.H.next (first ++ args.toList.map s.arg ++ cap) /\
   a0j P f (first ++ args.toList.map s.arg ++ cap) s.H (fun ce H'=>match ce with
    | .ret v=>s.H.next<=H'.next->K (({ s with H:=H' }:S).put dst v)
    | .pan x=>∀ env,(∀ t,f2x ops t=true->env t=s.env t)->Q (.pan x) { s with H:=H',env:=env })
 | .panic _=>False
 | op=>∃ r,opX c.ty c.eqt c.pub s dst op=some r/\r.pre/\K ((s.eff dst r.eff).put dst r.v)
def EF (P:Program) (c:Cx) (ops:Array Oper) (s:S) (o:Oper) (K:S->Prop) (Q:AE->S->Prop):Prop :=
 match o.guard with
 | none=>EF0 P c ops s o.dst o.op K Q
 | some (j,want)=>∃ g,guardOf ops s j want=some g/\(g=true->EF0 P c ops s o.dst o.op K Q)/\(g=false->K (s.put o.dst .any))
def OpC (P:Program) (c:Cx) (ops:Array Oper) (pf:List (Nat × Cl)) (i:Nat) (s:S) (K:S->Prop) (Q:AE->S->Prop):Prop :=
 match ops[i]? with
 | none=>K s
 | some o=>(∀ t,o.dst=some t->t < s.nt)/\(if clOf pf i o=.n \/ clOf pf i o=.r then ∃ v,QV P c (clOf pf i o) ops s o v/\K (s.put o.dst v) else EF P c ops s o K Q)
def AnyC (P:Program) (c:Cx) (ops:Array Oper) (pf:List (Nat × Cl)) (Q:AE->S->Prop):Nat->Array Bool->S->Prop
 | 0,listed,s=>WFs s->Region.ready .any ops listed=[]/\Q .normal s
 | n+1,listed,s=>WFs s->(Region.ready .any ops listed=[]->Q .normal s)/\∀ i ∈ Region.ready .any ops listed,OpC P c ops pf i s (AnyC P c ops pf Q n (listed.setIfInBounds i true)) Q
section
variable {P:Program} {rd:RD} {c:Cx} {ops:Array Oper} {pf:List (Nat × Cl)} {E:Ent} {s s':S} {a:Act} {w:World} {o:Oper} {Q:AE->S->Prop}
theorem Sim.wf (h:Sim E s a w):WFs s:=by
 obtain ⟨_,_,G,lm,hM,_⟩:=h
 intro n hn
 cases ho:s.H.obj n with
 | none=>rfl
 | some o=>have:=(hM.nmd n o ho).1;omega
theorem Grow.refl (s:S):Grow s s:=⟨fun _ _ h=>h,fun _ _ h _=>h,Nat.le_refl _⟩
theorem FV.run {cl:Cl} {f:FuncId} {args:List LV} {v:LV} (h:FV P s cl f args v):a0j P f args s.H fun ce H'=>ce=.ret v/\H'=s.H:=by
 cases cl with
 | n=>exact h s.H
 | _=>exact h s (Grow.refl s)
theorem d0n (hc:c.ok P) {cl:Cl} {v:LV} (h:QV0 P c cl s o.dst o.op v) (hs:Sim E s a w) (hdst:∀ t,o.dst=some t->t < s.nt) {next:Act->World->Prop} (hk:∀ a' w',Sim E (s.put o.dst v) a' w'->next a' w'):o.wpIn (fnc rd) 0 P a w next (AQ E Q):=by
 have gen:(∃ pre,opX c.ty c.eqt c.pub s o.dst o.op=some ⟨pre,v,.no⟩/\pre/\a6s cl o.op s)->o.wpIn (fnc rd) 0 P a w next (AQ E Q):=by
  rintro ⟨pre,h1,h2,_⟩
  exact a6r (r:=⟨pre,v,.no⟩) (a9s hc.ty hc.eqt hc.key h1 h2 hs hdst) fun s' a' w' e hS=>hk _ _ (by subst e;exact hS)
 cases hop:o.op with
 | pick x y z =>
  rw [hop] at h
  obtain ⟨g,h1,h2,h3,h4,rfl⟩:=h
  exact a6r (b4n hop h1 h2 h3 h4 hs hdst True) fun s' a' w' e hS=>hk _ _ (by subst e;exact hS)
 | call cl =>
  obtain ⟨callee,args,tys⟩:=cl
  cases callee with
  | value fo =>
   rw [hop] at h
   obtain ⟨f,first,cap,h1,h2,h3,h4,h5⟩:=h
   refine d3s (R:=fun ce H'=>ce=.ret v/\H'=s.H) hop h1 h2 h3 h4 hs hdst h5.run (fun v' H' a' w' hR hS=>?_) fun x H' hR=>(by cases hR.1)
   obtain ⟨e1,rfl⟩:=hR
   cases e1
   exact hk _ _ hS
  | builtin b=>rw [hop] at h gen;exact gen h
  | invoke f m=>rw [hop] at h gen;exact gen h
 | _=>rw [hop] at h gen;exact gen h
theorem d0o (hc:c.ok P) {K:S->Prop} (h:EF0 P c ops s o.dst o.op K Q) (hs:Sim E s a w) (hdst:∀ t,o.dst=some t->t < s.nt) {next:Act->World->Prop} (hk:∀ s' a' w',K s'->Sim E s' a' w'->next a' w'):o.wpIn (fnc rd) 0 P a w next (AQ E Q):=by
 have gen:(∃ r,opX c.ty c.eqt c.pub s o.dst o.op=some r/\r.pre/\K ((s.eff o.dst r.eff).put o.dst r.v))->o.wpIn (fnc rd) 0 P a w next (AQ E Q):=by
  rintro ⟨r,h1,h2,h3⟩
  exact a6r (a9s hc.ty hc.eqt hc.key h1 h2 hs hdst) fun s' a' w' e hS=>hk _ _ _ (e ▸ h3) hS
 cases hop:o.op with
 | call cl =>
  obtain ⟨callee,args,tys⟩:=cl
  cases callee with
  | value fo =>
   rw [hop] at h
   obtain ⟨f,first,cap,h1,h2,h3,h4,h5⟩:=h
   refine d7m hop h1 h2 h3 h4 hs hdst h5 (fun v H' a' w' hR hn hS=>hk _ _ _ (hR hn) hS) fun x H' hR=>hR s.env fun _ _=>rfl
  | builtin b=>rw [hop] at h gen;exact gen h
  | invoke f m=>rw [hop] at h gen;exact gen h
 | panic x=>rw [hop] at h;exact h.elim
 | _=>rw [hop] at h gen;exact gen h
theorem e6y (hc:c.ok P) {i:Nat} {K:S->Prop} (h:OpC P c ops pf i s K Q) (hs:Sim E s a w) {next:Act->World->Prop} (hk:∀ s' a' w',K s'->Sim E s' a' w'->next a' w'):wpOpIn (fnc rd) 0 P ops (AQ E Q) i next a w:=by
 unfold OpC at h
 unfold wpOpIn
 cases ho:ops[i]? with
 | none=>rw [ho] at h;exact hk _ _ _ h hs
 | some o =>
  rw [ho] at h
  simp only at h |-
  obtain ⟨hdst,h⟩:=h
  split at h
  ·obtain ⟨v,hq,hK⟩:=h
   unfold QV at hq
   split at hq
   ·rename_i hg
    have hw:Region.wanted o (yielded ops a.tmps)=true:=by unfold Region.wanted;rw [hg]
    rw [if_pos hw]
    exact (d0n hc hq hs hdst fun a' w' hS=>hk _ _ _ hK hS)
   ·rename_i j want hg
    obtain ⟨g,u,h1,rfl,h2⟩:=hq
    have hw:=b0b hs hg h1
    cases g with
    | true =>
     rw [if_pos hw]
     exact (d0n hc (h2 rfl) hs hdst fun a' w' hS=>hk _ _ _ hK (e4l o.dst hS true rfl hdst))
    | false =>
     rw [if_neg (by rw [hw];simp)]
     exact ⟨fun _ _=>trivial,hk _ _ _ hK (b0t (fun G nx lm=>by rw [LR];exact ⟨fun e=>(by cases e),fun _=>rfl⟩) hs hdst)⟩
  ·unfold EF at h
   split at h
   ·rename_i hg
    have hw:Region.wanted o (yielded ops a.tmps)=true:=by unfold Region.wanted;rw [hg]
    rw [if_pos hw]
    exact (d0o hc h hs hdst hk)
   ·rename_i j want hg
    obtain ⟨g,h1,h2,h3⟩:=h
    have hw:=b0b hs hg h1
    cases g with
    | true=>rw [if_pos hw];exact (d0o hc (h2 rfl) hs hdst hk)
    | false =>
     rw [if_neg (by rw [hw];simp)]
     exact ⟨fun _ _=>trivial,hk _ _ _ (h3 rfl) (b0t (fun G nx lm=>by simp [LR]) hs hdst)⟩
theorem c3z (hc:c.ok P):∀ (n:Nat) (listed:Array Bool) (s:S) (a:Act) (w:World),AnyC P c ops pf Q n listed s->Sim E s a w->wpAnyIn (fnc rd) 0 P .any ops (AQ E Q) n listed a w
 | 0,listed,s,a,w,h,hs=>⟨(h hs.wf).1,.normal,s,(h hs.wf).2,hs⟩
 | n+1,listed,s,a,w,h,hs=>⟨fun e=>⟨.normal,s,(h hs.wf).1 e,hs⟩,fun i hi=>e6y hc ((h hs.wf).2 i hi) hs fun s' a' w' hK hS=>c3z hc n _ s' a' w' hK hS⟩
theorem Sim.drawn (h:Sim E s a w):Sim E s a { w with drawn:=w.drawn+1 }:=by
 obtain ⟨g2,G,lm,g1,hM,hx,henv,_⟩:=h
 exact ⟨g2,G,lm,g1,⟨hM.imm,hM.immOwn,hM.fresh,hM.lmL,hM.loc,hM.nmd⟩,⟨⟨hx.le,hx.nx,hx.os,hx.tape,hx.output,Nat.le_succ_of_le hx.drawn,hx.size,hx.frame,hx.own⟩,hx.nl⟩,henv,rfl⟩
end
end Go.Aft
end
section
namespace Go.Aft
section
variable {P:Program} {c:Cx} {ops:Array Oper} {pf:List (Nat × Cl)} {s s':S} {o:Oper} {Q:AE->S->Prop}
def Same (ops:Array Oper) (o:Oper) (s s':S):Prop:=∀ t ∈ o.looksAt ops,s.env t=s'.env t
theorem Same.get (h:Same ops o s s'):∀ x ∈ o.op.operands,s.get x=s'.get x:=by
 intro x hx
 cases x with
 | tmp t=>exact h t (List.mem_append_left _ (List.mem_filterMap.2 ⟨.tmp t,by simpa using hx,rfl⟩))
 | _=>rfl
theorem Same.guard (h:Same ops o s s') {j:Nat} {want:Bool} (hg:o.guard=some (j,want)):guardOf ops s j want=guardOf ops s' j want:=by
 unfold guardOf
 cases ht:(ops[j]?).bind (·.dst) with
 | none=>rfl
 | some t =>
  have:s.env t=s'.env t:=h t (List.mem_append_right _ (by rw [hg];simp [ht]))
  simp only [this]
theorem Same.symm (h:Same ops o s s'):Same ops o s' s:=fun t ht=>(h t ht).symm
theorem f1q {fo:Operand} {args:Array Operand} {tys:Array TypeId} (hop:o.op=.call ⟨.value fo,args,tys⟩):fo ∈ o.op.operands/\∀ x ∈ args.toList,x ∈ o.op.operands:=by
 rw [hop]
 simp only [Op.operands,Call.operands]
 exact ⟨by simp,fun x hx=>by simp only [Array.mem_append];exact .inr (Array.mem_toList_iff.1 hx)⟩
theorem FV.grow {f:FuncId} {args:List LV} {v:LV} {cl:Cl} (hc:cl=.n \/ cl=.r/\Grow s s') (h:FV P s cl f args v):FV P s' cl f args v:=by
 rcases hc with rfl | ⟨rfl,hg⟩
 ·exact h
 ·exact fun s2 h2=>h s2 (hg.trans h2)
theorem d8b {v:LV} {i:Nat} (hs:Same ops o s s') (hc:clOf pf i o=.n/\s.H.next<=s'.H.next \/ clOf pf i o=.r/\Grow s s') (h:QV0 P c (clOf pf i o) s o.dst o.op v):QV0 P c (clOf pf i o) s' o.dst o.op v:=by
 have hg:=hs.get
 have hn:s.H.next<=s'.H.next:=by
  rcases hc with q | q
  ·exact q.2
  ·exact q.2.nx
 have gen:isFn o.op=false->(∃ pre,opX c.ty c.eqt c.pub s o.dst o.op=some ⟨pre,v,.no⟩/\pre/\a6s (clOf pf i o) o.op s)->∃ pre,opX c.ty c.eqt c.pub s' o.dst o.op=some ⟨pre,v,.no⟩/\pre/\a6s (clOf pf i o) o.op s':=by
  rintro hf ⟨pre,h1,h2,h3⟩
  have hst:a6s (clOf pf i o) o.op s':=by
   generalize clOf pf i o=cl at h3 |-
   cases hop:o.op with
   | load T p =>
    have e:=hg p (by rw [hop];simp [Op.operands])
    rw [hop] at h3
    cases cl <;> first | (simp only [a6s] at h3 |-;unfold S.arg at h3 |-;rw [<- e];exact h3) | trivial
   | _=>cases cl <;> trivial
  suffices ∃ pre,opX c.ty c.eqt c.pub s' o.dst o.op=some ⟨pre,v,.no⟩/\pre from let ⟨p,a,b⟩:=this;⟨p,a,b,hst⟩
  by_cases hld:∃ T p,o.op=.load T p/\(s.arg p).still
  ·obtain ⟨T,p,hop,hs2⟩:=hld
   have e:=hg p (by rw [hop];simp [Op.operands])
   have ea:s.arg p=s'.arg p:=by unfold S.arg;rw [e]
   have ep:s.argP p=s'.argP p:=by unfold S.argP;rw [e]
   rw [hop] at h1 |-
   simp only [opX,a1x] at h1 |-
   rw [ea,ep] at h1
   rw [ea] at hs2
   generalize s'.arg p=x at h1 hs2 |-
   refine ⟨pre,?_,h2⟩
   rw [<- h1]
   cases x <;> first | rfl | exact hs2.elim
  have hop:clOf pf i o=.x \/ clOf pf i o=opCl o.op:=by
   unfold clOf clOp at h3 |-
   rw [hf] at h3 |-
   cases hl:pf.lookup i with
   | none=>simp
   | some k =>
    rw [hl] at h3
    cases k <;> first | (left;rfl) | skip
    cases hb:isLd o.op with
    | false=>left;rfl
    | true =>
     exfalso
     cases ho:o.op <;> simp [ho,isLd] at hb
     rw [ho] at h3
     exact hld ⟨_,_,ho,h3⟩
  have hc:opCl o.op=.n/\s.H.next<=s'.H.next \/ opCl o.op=.r/\Grow s s':=by
   rcases hop with q | q
   ·rw [q] at hc;rcases hc with ⟨e,_⟩ | ⟨e,_⟩ <;> cases e
   ·rw [q] at hc;exact hc
  rcases hc with q | q
  ·refine ⟨pre,?_,h2⟩
   have e1:=f6c (ty:=c.ty) (eqt:=c.eqt) (pub:=c.pub) (s:=s') (dst:=o.dst) (op:=o.op) q.1 s.L s.H
   have e2:=c7p (ty:=c.ty) (eqt:=c.eqt) (pub:=c.pub) (s:=s) (s':=s'.env0 s.L s.H) (dst:=o.dst) (op:=o.op) (fun x hx=>(hg x hx).trans (by cases x <;> rfl)) rfl rfl
   rw [<- e1,<- e2,h1]
  ·exact f6b q.1 q.2 hg h1 h2
 have hc':clOf pf i o=.n \/ clOf pf i o=.r/\Grow s s':=hc.imp (·.1) id
 generalize clOf pf i o=cl at h hc' gen |-
 cases hop:o.op with
 | pick x y z =>
  rw [hop] at h hg
  simp only [Op.operands,List.mem_toArray,List.mem_cons,List.not_mem_nil,or_false,forall_eq_or_imp,forall_eq] at hg
  obtain ⟨g,h1,h2,h3,h4,rfl⟩:=h
  unfold S.arg at h1;unfold S.argP at h2 h3 h4
  exact ⟨g,by unfold S.arg;rw [<- hg.1];exact h1,by unfold S.argP;rw [<- hg.1];exact h2,by unfold S.argP;rw [<- hg.2.1];exact h3,by unfold S.argP;rw [<- hg.2.2];exact h4,by unfold S.arg;rw [hg.2.1,hg.2.2]⟩
 | call cl =>
  obtain ⟨callee,args,tys⟩:=cl
  cases callee with
  | value fo =>
   have hm:=f1q hop
   rw [hop] at h
   obtain ⟨f,first,cap,h1,h2,h3,h4,h5⟩:=h
   have e0:=hg fo hm.1
   have e1:args.toList.map s.arg=args.toList.map s'.arg:=List.map_congr_left fun x hx=>by unfold S.arg;rw [hg x (hm.2 x hx)]
   have e2:allP (args.toList.map s.argP)=allP (args.toList.map s'.argP):=b5f fun x hx=>hg x (hm.2 x hx)
   rw [e1] at h4 h5
   rw [e2] at h3
   unfold S.arg at h1;unfold S.argP at h2
   exact ⟨f,first,cap,by unfold S.arg;rw [<- e0];exact h1,by unfold S.argP;rw [<- e0];exact h2,h3,a2w hn _ h4,h5.grow hc'⟩
  | builtin b=>rw [hop] at h gen;exact gen rfl h
  | invoke f m=>rw [hop] at h gen;exact gen rfl h
 | _=>rw [hop] at h gen;exact gen rfl h
theorem c6f {v:LV} {i:Nat} (hs:Same ops o s s') (hc:clOf pf i o=.n/\s.H.next<=s'.H.next \/ clOf pf i o=.r/\Grow s s') (h:QV P c (clOf pf i o) ops s o v):QV P c (clOf pf i o) ops s' o v:=by
 unfold QV at h |-
 split at h
 ·exact d8b hs hc h
 ·rename_i j want hg
  obtain ⟨g,u,h1,rfl,h2⟩:=h
  exact ⟨g,u,by rw [<- hs.guard hg];exact h1,rfl,fun e=>d8b hs hc (h2 e)⟩
theorem b2b (s:S) (d:Option Nat) (v:LV):(s.put d v).H=s.H/\(s.put d v).L=s.L/\(s.put d v).nt=s.nt:=by cases d <;> exact ⟨rfl,rfl,rfl⟩
theorem put_comm (s:S) (x y:Option Nat) (v u:LV) (h:∀ d,x=some d->y ≠ some d):(s.put x v).put y u=(s.put y u).put x v:=by
 cases x with
 | none=>rfl
 | some d =>
  cases y with
  | none=>rfl
  | some e =>
   have hne:d ≠ e:=fun he=>h d rfl (he ▸ rfl)
   simp only [S.put,S.mk.injEq,and_true]
   funext t
   simp only [upd]
   by_cases h1:t=e
   ·by_cases h2:t=d
    ·exact absurd (h2.symm.trans h1) hne
    ·simp [h1,h2,Ne.symm hne]
   ·simp [h1]
theorem f3v (s:S) (x dst:Option Nat) (v:LV) (e:Eff):(s.put x v).eff dst e=(s.eff dst e).put x v:=by
 cases x <;> cases e <;> first | rfl | (cases dst <;> rfl)
theorem Same.put {x:Option Nat} {v:LV} (h:∀ d,x=some d->d ∉ o.looksAt ops) (s:S):Same ops o s (s.put x v):=by
 intro t ht
 cases x with
 | none=>rfl
 | some d =>
  have:t ≠ d:=fun e=>h d rfl (e ▸ ht)
  simp [S.put,upd,this]
theorem f3w (s:S) (dst:Option Nat) (e:Eff):(s.eff dst e).env=s.env:=by cases e <;> first | rfl | (cases dst <;> rfl)
theorem e9s (s:S) (dst:Option Nat) (e:Eff):s.H.next<=(s.eff dst e).H.next:=by
 cases e with
 | no=>exact Nat.le_refl _
 | newLoc cs=>cases dst <;> exact Nat.le_refl _
 | c1r k cs=>exact Nat.le_refl _
 | newNm o=>exact Nat.le_succ _
 | a3b n o=>exact Nat.le_refl _
theorem c5m (hw:WFs s) (dst:Option Nat) (o:GO):Grow s (s.eff dst (.newNm o)):=by
 refine ⟨fun _ _ h=>h,fun n x hx _=>?_,Nat.le_succ _⟩
 have hn:n ≠ s.H.next:=fun e=>by rw [e,hw _ (Nat.le_refl _)] at hx;cases hx
 simp [S.eff,GH.add,upd,hn,hx]
theorem d6s (dst:Option Nat) (cs:List LV) (h:∀ t,dst=some t->s.L t=none):Grow s (s.eff dst (.newLoc cs)):=by
 cases dst with
 | none=>exact Grow.refl s
 | some t =>
  refine ⟨fun k ds hk=>?_,fun _ _ h _=>h,Nat.le_refl _⟩
  have hn:k ≠ t:=fun e=>by rw [e,h t rfl] at hk;cases hk
  simp [S.eff,upd,hn,hk]
theorem f6d {dst:Option Nat} {op:Op} (h:opCl op=.c) (hw:WFs s) {r:Res} (h1:opX c.ty c.eqt c.pub s dst op=some r) (h2:r.pre):Grow s (s.eff dst r.eff):=by
 cases op with
 | alloc T =>
  simp only [opX,a1x] at h1
  split at h1
  ·split at h1
   ·cases h1;exact c5m hw _ _
   ·cases h1;exact d6s _ _ fun t e=>(by cases e;exact h2)
  ·cases h1
 | box T x =>
  simp only [opX,a1x] at h1
  split at h1
  ·split at h1
   ·split at h1
    ·cases h1;exact c5m hw _ _
    ·cases h1;exact Grow.refl s
    ·cases h1;exact d6s _ _ fun t e=>(by cases e;exact h2.2)
   ·cases h1
  ·cases h1
 | makeMap T r =>
  cases r with
  | none=>simp only [opX,a1x] at h1;cases h1;exact c5m hw _ _
  | some r=>simp only [opX,a1x] at h1;cases h1
 | call cl =>
  obtain ⟨callee,args,tys⟩:=cl
  cases callee with
  | builtin b=>cases b <;> (simp [opCl] at h;done)
  | _=>simp [opCl] at h
 | _=>simp [opCl] at h
end
end Go.Aft
end
section
namespace Go.Aft
section
variable {P:Program} {rd:RD} {c:Cx} {ops:Array Oper} {pf:List (Nat × Cl)} {s s':S} {Q:AE->S->Prop}
theorem Grow.put (h:Grow s s') (d:Option Nat) (v:LV):Grow s (s'.put d v):=by
 cases d <;> exact ⟨h.L,h.obj,h.nx⟩
theorem Same.trans {o:Oper} {a b d:S} (h:Same ops o a b) (k:Same ops o b d):Same ops o a d:=fun t ht=>(h t ht).trans (k t ht)
theorem Same.f1f {o:Oper} {a b:S} (h:b.env=a.env):Same ops o a b:=fun t _=>by rw [h]
def Free (pf:List (Nat × Cl)) (i:Nat) (oi:Oper) (j:Nat) (oj:Oper):Prop:=clOf pf i oi=.n \/ clOf pf i oi=.r/\clOf pf j oj ≠ .x
theorem keep {i j:Nat} {oi oj:Oper} {v:LV} {dst:Option Nat} {e:Eff} {u:LV} (hq:QV P c (clOf pf i oi) ops s oi v) (hap:∀ d,oj.dst=some d->d ∉ oi.looksAt ops)
  (hi:clOf pf i oi=.n \/ clOf pf i oi=.r/\Grow s (s.eff oj.dst e)):QV P c (clOf pf i oi) ops ((s.eff oj.dst e).put oj.dst u) oi v:=by
 refine c6f (i:=i) (pf:=pf) ((Same.f1f (f3w s oj.dst e)).trans (Same.put hap _)) ?_ hq
 rcases hi with q | q
 ·exact .inl ⟨q,by rw [(b2b _ _ _).1];exact e9s s _ e⟩
 ·exact .inr ⟨q.1,q.2.put _ _⟩
theorem c0k {i j:Nat} {oi oj:Oper} {v:LV} {K:S->Prop} (hoi:ops[i]?=some oi) (hw:WFs s) (hap:oi.apart ops oj=true) (hf:Free pf i oi j oj) (hj:clOf pf j oj ≠ .n/\clOf pf j oj ≠ .r) (hq:QV P c (clOf pf i oi) ops s oi v)
  (h:EF0 P c ops (s.put oi.dst v) oj.dst oj.op K Q):EF0 P c ops s oj.dst oj.op (fun s'=>QV P c (clOf pf i oi) ops s' oi v/\K (s'.put oi.dst v)) Q:=by
 obtain ⟨a1,a2,a3⟩:=Oper.apart_spec hap
 have hsame:Same ops oj s (s.put oi.dst v):=Same.put a1 s
 have hg:=hsame.get
 have gen:isFn oj.op=false->(∃ r,opX c.ty c.eqt c.pub (s.put oi.dst v) oj.dst oj.op=some r/\r.pre/\K (((s.put oi.dst v).eff oj.dst r.eff).put oj.dst r.v)) ->
   ∃ r,opX c.ty c.eqt c.pub s oj.dst oj.op=some r/\r.pre/\(QV P c (clOf pf i oi) ops ((s.eff oj.dst r.eff).put oj.dst r.v) oi v/\K (((s.eff oj.dst r.eff).put oj.dst r.v).put oi.dst v)):=by
  rintro hfn ⟨r,h1,h2,h3⟩
  have e1:=c7p (ty:=c.ty) (eqt:=c.eqt) (pub:=c.pub) (dst:=oj.dst) hg (b2b s oi.dst v).2.1.symm (b2b s oi.dst v).1.symm
  rw [<- e1] at h1
  refine ⟨r,h1,h2,?_,?_⟩
  ·refine keep (i:=i) (j:=j) (pf:=pf) (dst:=none) hq a3 ?_
   rcases hf with q | q
   ·exact .inl q
   ·refine .inr ⟨q.1,f6d ?_ hw h1 h2⟩
    have e2:clOf pf j oj=.n \/ clOf pf j oj=.x \/ clOf pf j oj=opCl oj.op:=by
     unfold clOf clOp;rw [hfn]
     cases pf.lookup j with
     | none=>simp
     | some k=>cases k <;> first | (simp;done) | (cases isLd oj.op <;> simp)
    have q2:=q.2
    have e2:=(e2.resolve_left hj.1).resolve_left q2
    rw [e2] at hj
    rw [e2] at q2
    cases hcl:opCl oj.op with
    | n=>exact absurd hcl hj.1
    | r=>exact absurd hcl hj.2
    | c=>rfl
    | x=>exact absurd hcl q2
  ·rw [f3v,put_comm _ _ _ _ _ a2] at h3;exact h3
 cases hop:oj.op with
 | call cl =>
  obtain ⟨callee,args,tys⟩:=cl
  cases callee with
  | value fo =>
   have hm:=f1q hop
   rw [hop] at h
   obtain ⟨f,first,cap,h1,h2,h3,h4,h5⟩:=h
   have e0:=hg fo hm.1
   have e1:args.toList.map (s.put oi.dst v).arg=args.toList.map s.arg:=List.map_congr_left fun x hx=>by unfold S.arg;rw [hg x (hm.2 x hx)]
   have e2:allP (args.toList.map (s.put oi.dst v).argP)=allP (args.toList.map s.argP):=b5f fun x hx=>(hg x (hm.2 x hx)).symm
   have eH:(s.put oi.dst v).H=s.H:=(b2b s _ _).1
   rw [e1,eH] at h4 h5
   rw [e2] at h3
   unfold S.arg at h1;unfold S.argP at h2
   refine ⟨f,first,cap,by unfold S.arg;rw [e0];exact h1,by unfold S.argP;rw [e0];exact h2,h3,h4,h5.mono fun ce H' hR=>?_⟩
   cases ce with
   | ret u =>
    intro hn
    have hK:=hR hn
    have hx:clOf pf i oi=.n:=by
     rcases hf with q | q
     ·exact q
     ·refine absurd ?_ q.2
      have h6:=hj.1
      have h7:=hj.2
      unfold clOf clOp at h6 h7 |-
      rw [hop] at h6 h7 |-
      simp only [isFn,if_true] at h6 h7 |-
      cases hl:pf.lookup j with
      | none=>rfl
      | some k=>rw [hl] at h6 h7;cases k <;> first | rfl | exact absurd rfl h6 | exact absurd rfl h7
    refine ⟨?_,?_⟩
    ·refine c6f (i:=i) (pf:=pf) (s:=s) ?_ (.inl ⟨hx,by rw [(b2b _ _ _).1];exact hn⟩) hq
     exact (Same.f1f (b:={ s with H:=H' }) rfl).trans (Same.put a3 _)
    ·have e3:({ s.put oi.dst v with H:=H' }:S)=({ s with H:=H' }:S).put oi.dst v:=by cases oi.dst <;> rfl
     rw [e3,put_comm _ _ _ _ _ a2] at hK
     exact hK
   | pan x =>
    intro env hag
    have:=hR env fun t ht=>by
     rw [hag t ht]
     have hne:oi.dst ≠ some t:=by
      have hmem:oi ∈ ops.toList:=by
       have:=Array.mem_of_getElem? hoi
       exact this.val
      have:=List.all_eq_true.1 ht oi hmem
      simpa using this
     cases hd:oi.dst with
     | none=>rfl
     | some u =>
      have:t ≠ u:=fun e=>hne (by rw [hd,e])
      simp only [S.put,upd_ne _ _ this]
    have e3:({ s.put oi.dst v with H:=H',env:=env }:S) = { s with H:=H',env:=env }:=by cases oi.dst <;> rfl
    rw [e3] at this;exact this
  | builtin b=>rw [hop] at h gen;exact gen rfl h
  | invoke f m=>rw [hop] at h gen;exact gen rfl h
 | panic x=>rw [hop] at h;exact h.elim
 | _=>rw [hop] at h gen;exact gen rfl h
theorem d4l {i j:Nat} {oi oj:Oper} {v:LV} {K:S->Prop} (hoi:ops[i]?=some oi) (hoj:ops[j]?=some oj) (hw:WFs s) (hap:oi.apart ops oj=true) (hf:Free pf i oi j oj) (hq:QV P c (clOf pf i oi) ops s oi v)
  (h:OpC P c ops pf j (s.put oi.dst v) K Q):OpC P c ops pf j s (fun s'=>QV P c (clOf pf i oi) ops s' oi v/\K (s'.put oi.dst v)) Q:=by
 obtain ⟨a1,a2,a3⟩:=Oper.apart_spec hap
 have hsame:Same ops oj s (s.put oi.dst v):=Same.put a1 s
 have stay:∀ u:LV,QV P c (clOf pf i oi) ops (s.put oj.dst u) oi v:=fun u=>by
  refine c6f (i:=i) (pf:=pf) (Same.put a3 s) ?_ hq
  rcases hf with q | q
  ·exact .inl ⟨q,by rw [(b2b _ _ _).1];exact Nat.le_refl _⟩
  ·exact .inr ⟨q.1,(Grow.refl s).put _ _⟩
 unfold OpC at h |-
 rw [hoj] at h |-
 simp only at h |-
 rw [(b2b s _ _).2.2] at h
 refine ⟨h.1,?_⟩
 have h:=h.2
 split at h
 ·rename_i hcl
  rw [if_pos hcl]
  obtain ⟨u,h1,h2⟩:=h
  refine ⟨u,?_,stay u,?_⟩
  ·refine c6f (i:=j) (pf:=pf) hsame.symm ?_ h1
   rcases hcl with q | q
   ·exact .inl ⟨q,by rw [(b2b _ _ _).1];exact Nat.le_refl _⟩
   ·refine .inr ⟨q,?_⟩
    have e:=b2b s oi.dst v
    exact ⟨fun k cs hk=>by rw [e.2.1] at hk;exact hk,fun n cs hk _=>by rw [e.1] at hk;exact hk,by rw [e.1];exact Nat.le_refl _⟩
  ·rw [put_comm _ _ _ _ _ a2] at h2;exact h2
 ·rename_i hcl
  rw [if_neg hcl]
  have hj:clOf pf j oj ≠ .n/\clOf pf j oj ≠ .r:=⟨fun e=>hcl (.inl e),fun e=>hcl (.inr e)⟩
  unfold EF at h |-
  split at h
  ·exact c0k hoi hw hap hf hj hq h
  ·rename_i jg want hg
   obtain ⟨g,h1,h2,h3⟩:=h
   refine ⟨g,by rw [hsame.guard hg];exact h1,fun e=>c0k hoi hw hap hf hj hq (h2 e),fun e=>⟨stay _,?_⟩⟩
   have:=h3 e
   rw [put_comm _ _ _ _ _ a2] at this;exact this
theorem f5n (s:S) (dst:Option Nat) (e:Eff) (d:Option Nat) (v:LV):((s.eff dst e).put d v).nt=s.nt:=by
 rw [(b2b _ _ _).2.2]
 cases e <;> first | rfl | (cases dst <;> rfl)
theorem d8g {K K':S->Prop} {dst:Option Nat} {op:Op} (h:∀ s',s'.nt=s.nt->K s'->K' s') (hh:EF0 P c ops s dst op K Q):EF0 P c ops s dst op K' Q:=by
 have gen:(∃ r,opX c.ty c.eqt c.pub s dst op=some r/\r.pre/\K ((s.eff dst r.eff).put dst r.v))->∃ r,opX c.ty c.eqt c.pub s dst op=some r/\r.pre/\K' ((s.eff dst r.eff).put dst r.v) :=
  fun ⟨r,h1,h2,h3⟩=>⟨r,h1,h2,h _ (f5n s dst r.eff dst r.v) h3⟩
 cases op with
 | call cl =>
  obtain ⟨callee,args,tys⟩:=cl
  cases callee with
  | value fo =>
   obtain ⟨f,first,cap,h1,h2,h3,h4,h5⟩:=hh
   refine ⟨f,first,cap,h1,h2,h3,h4,h5.mono fun ce H' hR=>?_⟩
   cases ce with
   | ret v=>exact fun hn=>h _ (b2b _ _ _).2.2 (hR hn)
   | pan x=>exact hR
  | builtin b=>exact gen hh
  | invoke f m=>exact gen hh
 | panic x=>exact hh
 | _=>exact gen hh
theorem OpC_mono {i:Nat} {K K':S->Prop} (h:∀ s',s'.nt=s.nt->K s'->K' s') (hh:OpC P c ops pf i s K Q):OpC P c ops pf i s K' Q:=by
 unfold OpC at hh |-
 split
 ·rename_i e;rw [e] at hh;exact h _ rfl hh
 ·rename_i o e
  rw [e] at hh
  refine ⟨hh.1,?_⟩
  have hh:=hh.2
  split at hh
  ·rename_i hcl;rw [if_pos hcl];obtain ⟨v,h1,h2⟩:=hh;exact ⟨v,h1,h _ (b2b _ _ _).2.2 h2⟩
  ·rename_i hcl
   rw [if_neg hcl]
   unfold EF at hh |-
   split at hh
   ·exact d8g h hh
   ·obtain ⟨g,h1,h2,h3⟩:=hh;exact ⟨g,h1,fun e=>d8g h (h2 e),fun e=>h _ (b2b _ _ _).2.2 (h3 e)⟩
theorem e1m {i:Nat} {oi:Oper} {v:LV} {B:List Nat} (hi:ops[i]?=some oi) (hdst:∀ t,oi.dst=some t->t < s.nt) (hcl:clOf pf i oi=.n \/ clOf pf i oi=.r)
  (hBc:∀ j ∈ B,j=i \/ ∃ oj,ops[j]?=some oj/\∃ e ∈ oj.after,Region.binds .any e=true/\e.on ∈ B) :
  ∀ (fuel:Nat) (listed:Array Bool) (s:S),(∀ t,oi.dst=some t->t < s.nt)->(∀ j ∈ B,listed.getD j true=false) ->
   (∀ j oj,ops[j]?=some oj->j ≠ i->listed.getD j true=false->(∀ e ∈ oj.after,Region.binds .any e=true->e.on ∉ B)->oi.apart ops oj=true/\Free pf i oi j oj) ->
   i ∈ Region.ready .any ops listed->QV P c (clOf pf i oi) ops s oi v ->
   AnyC P c ops pf Q fuel (listed.setIfInBounds i true) (s.put oi.dst v)->AnyC P c ops pf Q (fuel+1) listed s:=by
 intro fuel
 induction fuel with
 | zero =>
  intro listed s hd _ _ hr hy H hw
  have hw':WFs (s.put oi.dst v):=by unfold WFs;rw [(b2b _ _ _).1];exact hw
  refine ⟨fun h=>(by rw [h] at hr;cases hr),fun j hj=>?_⟩
  by_cases hji:j=i
  ·subst hji
   unfold OpC;rw [hi];simp only;rw [if_pos hcl];exact ⟨hd,v,hy,H⟩
  ·have:=ready_mono hj hji
   rw [(H hw').1] at this
   cases this
 | succ fuel ih =>
  intro listed s hd hBu hfree hr hy H hw
  have hw':WFs (s.put oi.dst v):=by unfold WFs;rw [(b2b _ _ _).1];exact hw
  refine ⟨fun h=>(by rw [h] at hr;cases hr),fun j hj=>?_⟩
  by_cases hji:j=i
  ·subst hji
   unfold OpC;rw [hi];simp only;rw [if_pos hcl];exact ⟨hd,v,hy,H⟩
  ·have h1:=(H hw').2 j (ready_mono hj hji)
   obtain ⟨hjun,oj,hoj,hall⟩:=mem_ready.1 hj
   have hnot:∀ e ∈ oj.after,Region.binds .any e=true->e.on ∉ B:=fun e he hb hB=>by
    have h1:=hall e he hb
    have h0:=hBu _ hB
    rcases Nat.lt_or_ge e.on listed.size with h' | h'
    ·simp [h'] at h0 h1;rw [h0] at h1;cases h1
    ·simp [Array.getElem?_eq_none h'] at h1
   have hjB:j ∉ B:=fun q=>by
    rcases hBc j q with q | ⟨oj',q1,e,q2,q3,q4⟩
    ·exact hji q
    ·rw [hoj] at q1;cases q1;exact hnot e q2 q3 q4
   have hfj:=hfree j oj hoj hji hjun hnot
   have h2:=d4l hi hoj hw hfj.1 hfj.2 hy h1
   have hBu':∀ k ∈ B,(listed.setIfInBounds j true).getD k true=false:=fun k hk=>by
    rw [getD_set_ne true (fun e=>hjB (by rw [e];exact hk))];exact hBu k hk
   have hfree':∀ k ok,ops[k]?=some ok->k ≠ i->(listed.setIfInBounds j true).getD k true=false ->
     (∀ e ∈ ok.after,Region.binds .any e=true->e.on ∉ B)->oi.apart ops ok=true/\Free pf i oi k ok:=fun k ok hk hki hun hno=>by
    refine hfree k ok hk hki ?_ hno
    by_cases hjk:j=k
    ·subst hjk;exact hjun
    ·rw [getD_set_ne true hjk] at hun;exact hun
   refine OpC_mono (fun s' hnt h3=>ih (listed.setIfInBounds j true) s' (fun t ht=>by rw [hnt];exact hd t ht) hBu' hfree' (ready_mono hr (Ne.symm hji)) h3.1 ?_) h2
   rw [Array.setIfInBounds_comm _ _ hji]
   exact h3.2
def blkF (ops:Array Oper) (b:List Nat) (j:Nat):List Nat:=match ops[j]? with
 | none=>b
 | some oj=>if oj.after.any (fun e=>Region.binds .any e && b.contains e.on) then j :: b else b
def blkL (ops:Array Oper) (i:Nat):List Nat:=(List.range ops.size).foldl (blkF ops) [i]
theorem d3x {ops:Array Oper} {i:Nat}:i ∈ blkL ops i/\∀ j ∈ blkL ops i,j=i \/ ∃ oj,ops[j]?=some oj/\∃ e ∈ oj.after,Region.binds .any e=true/\e.on ∈ blkL ops i:=by
 have key:∀ (l b:List Nat),i ∈ b->(∀ j ∈ b,j=i \/ ∃ oj,ops[j]?=some oj/\∃ e ∈ oj.after,Region.binds .any e=true/\e.on ∈ b) ->
   i ∈ l.foldl (blkF ops) b/\∀ j ∈ l.foldl (blkF ops) b,j=i \/ ∃ oj,ops[j]?=some oj/\∃ e ∈ oj.after,Region.binds .any e=true/\e.on ∈ l.foldl (blkF ops) b:=by
  intro l
  induction l with
  | nil=>exact fun b h1 h2=>⟨h1,h2⟩
  | cons k l ih =>
   intro b h1 h2
   rw [List.foldl_cons]
   refine ih _ ?_ ?_
   ·unfold blkF
    split
    ·exact h1
    ·split
     ·exact List.mem_cons_of_mem _ h1
     ·exact h1
   ·unfold blkF
    split
    ·exact h2
    ·rename_i ok hk
     split
     ·rename_i hany
      intro j hj
      rcases List.mem_cons.1 hj with q | q
      ·right
       subst q
       obtain ⟨e,he,hb⟩:=Array.any_eq_true'.1 hany |>.imp fun e h=>h
       simp only [Bool.and_eq_true,List.contains_iff_mem] at hb
       exact ⟨ok,hk,e,he,hb.1,List.mem_cons_of_mem _ hb.2⟩
      ·rcases h2 j q with q | ⟨oj,q1,e,q2,q3,q4⟩
       ·exact .inl q
       ·exact .inr ⟨oj,q1,e,q2,q3,List.mem_cons_of_mem _ q4⟩
     ·exact h2
 exact key _ [i] (by simp) fun j hj=>.inl (by simpa using hj)
def f5l (pf:List (Nat × Cl)) (ops:Array Oper) (listed:Array Bool) (i:Nat) (oi:Oper):Bool :=
 (blkL ops i).all (fun k=>!(listed.getD k true)) && (List.range ops.size).all fun j=>j == i || listed.getD j true || (match ops[j]? with
  | none=>true
  | some oj=>oj.after.any (fun e=>Region.binds .any e && (blkL ops i).contains e.on) || (oi.apart ops oj && (clOf pf i oi == .n || (clOf pf i oi == .r && clOf pf j oj != .x))))
mutual
inductive Sch where
 | done
 | q (i:Nat) (k:Sch)
 | f (ks:Schs)
inductive Schs where
 | nil
 | cons (i:Nat) (k:Sch) (r:Schs)
end
def Schs.one (i:Nat) (k:Sch):Schs:=.cons i k .nil
def Schs.has:Schs->Nat->Bool
 | .nil,_=>false
 | .cons i _ r,j=>i == j || r.has j
mutual
def schB (pf:List (Nat × Cl)) (ops:Array Oper):Sch->Nat->Array Bool->Bool
 | .done,_,listed=>(Region.ready .any ops listed).isEmpty
 | .q _ _,0,_=>false
 | .f _,0,_=>false
 | .q i k,n+1,listed=>(match ops[i]? with
  | none=>false
  | some oi=>(Region.ready .any ops listed).contains i && ((clOf pf i oi == .n || clOf pf i oi == .r) && f5l pf ops listed i oi)) && schB pf ops k n (listed.setIfInBounds i true)
 | .f ks,n+1,listed=>(!(Region.ready .any ops listed).isEmpty && (Region.ready .any ops listed).all (fun i=>ks.has i)) && e7r pf ops ks n listed
def e7r (pf:List (Nat × Cl)) (ops:Array Oper):Schs->Nat->Array Bool->Bool
 | .nil,_,_=>true
 | .cons i k r,n,listed=>schB pf ops k n (listed.setIfInBounds i true) && e7r pf ops r n listed
end
mutual
def runD (P:Program) (c:Cx) (ops:Array Oper) (pf:List (Nat × Cl)) (Q:AE->S->Prop):Sch->S->Prop
 | .done,s=>Q .normal s
 | .q i k,s=>OpC P c ops pf i s (runD P c ops pf Q k) Q
 | .f ks,s=>d1h P c ops pf Q ks s
def d1h (P:Program) (c:Cx) (ops:Array Oper) (pf:List (Nat × Cl)) (Q:AE->S->Prop):Schs->S->Prop
 | .nil,_=>True
 | .cons i k r,s=>OpC P c ops pf i s (runD P c ops pf Q k) Q/\d1h P c ops pf Q r s
end
mutual
theorem b4i:∀ (l:Sch) (n:Nat) (listed:Array Bool) (s:S),schB pf ops l n listed=true->runD P c ops pf Q l s->AnyC P c ops pf Q n listed s
 | .done,n,listed,s,hB,h=>by
  have e:Region.ready .any ops listed=[]:=by simpa [schB] using hB
  cases n with
  | zero=>exact fun _=>⟨e,h⟩
  | succ n=>exact fun _=>⟨fun _=>h,fun i hi=>by rw [e] at hi;cases hi⟩
 | .q i k,0,listed,s,hB,h=>by simp [schB] at hB
 | .f ks,0,listed,s,hB,h=>by simp [schB] at hB
 | .q i k,n+1,listed,s,hB,h=>by
  simp only [schB,Bool.and_eq_true] at hB
  obtain ⟨hB1,hB2⟩:=hB
  cases hi:ops[i]? with
  | none=>rw [hi] at hB1;cases hB1
  | some oi =>
   rw [hi] at hB1
   simp only [Bool.and_eq_true,List.contains_iff_mem] at hB1
   obtain ⟨h1,h2,h3⟩:=hB1
   have hcl:clOf pf i oi=.n \/ clOf pf i oi=.r:=by simpa using h2
   simp only [runD] at h
   unfold OpC at h
   rw [hi] at h
   simp only at h
   rw [if_pos hcl] at h
   obtain ⟨hd,v,hv,hK⟩:=h
   unfold f5l at h3
   rw [Bool.and_eq_true] at h3
   obtain ⟨h0,h3⟩:=h3
   refine e1m (B:=blkL ops i) hi hd hcl d3x.2 n listed s hd (fun j hj=>by have:=List.all_eq_true.1 h0 j hj;simpa using this) (fun j oj hoj hji hun hno=>?_) h1 hv (b4i k n _ _ hB2 hK)
   have hj:j < ops.size:=(Array.getElem?_eq_some_iff.1 hoj).1
   have:=List.all_eq_true.1 h3 j (List.mem_range.2 hj)
   rw [hoj] at this
   simp only [Bool.or_eq_true,beq_iff_eq,hji,hun,false_or,Bool.and_eq_true,bne_iff_ne,Bool.false_eq_true] at this
   rcases this with q | q
   ·obtain ⟨e,he,hb⟩:=Array.any_eq_true'.1 q |>.imp fun e h=>h
    simp only [Bool.and_eq_true,List.contains_iff_mem] at hb
    exact absurd hb.2 (hno e he hb.1)
   ·exact ⟨q.1,q.2⟩
 | .f ks,n+1,listed,s,hB,h=>by
  simp only [schB,Bool.and_eq_true,List.all_eq_true,Bool.not_eq_true',List.isEmpty_eq_false_iff] at hB
  exact fun hw=>⟨fun e=>absurd e hB.1.1,fun j hj=>b7n ks n listed s hB.2 h j (hB.1.2 j hj)⟩
theorem b7n:∀ (l:Schs) (n:Nat) (listed:Array Bool) (s:S),e7r pf ops l n listed=true->d1h P c ops pf Q l s->∀ j,l.has j=true->OpC P c ops pf j s (AnyC P c ops pf Q n (listed.setIfInBounds j true)) Q
 | .nil,n,listed,s,hB,h,j,hj=>by simp [Schs.has] at hj
 | .cons i k r,n,listed,s,hB,h,j,hj=>by
  simp only [e7r,Bool.and_eq_true] at hB
  simp only [d1h] at h
  simp only [Schs.has,Bool.or_eq_true,beq_iff_eq] at hj
  by_cases e:i=j
  ·subst e
   exact OpC_mono (fun s' _ hK=>b4i k n _ _ hB.1 hK) h.1
  ·exact b7n r n listed s hB.2 h.2 j (hj.resolve_left e)
end
theorem AWp.draw (hc:c.ok P) {id:Nat} (pf:List (Nat × Cl)) (sched:Sch) (hB:schB pf ops sched ops.size (Array.replicate ops.size false)=true) (h:runD P c ops pf Q sched s):AWp P rd (.region id ops true) s Q:=by
 intro E a w hs
 refine a2m (wpIn_region_any hc.mixed ?_)
 exact c3z hc _ _ s a _ (b4i sched _ _ s hB h) hs.drawn
end
end Go.Aft
end
