import Derived.Test.YthinedikejlgmaaGreatA15
set_option linter.all false
section
namespace Go.Aft
class DT where
 pf:List (Nat × Cl)
 sched:Sch
def AT (j:Nat) [o:OT]:Option Oper:=o.l[j]?
def QR (r:Option Res) (s:S) (dst:Option Nat) [K:KT]:Prop:=match r with
 | some ⟨pre,v,.no⟩=>pre/\AP (s.put dst v)
 | _=>False
def QRg (r:Option Res) (g:Bool) (s:S) (dst:Option Nat) [K:KT]:Prop:=match r with
 | some ⟨pre,v,.no⟩=>(g=true->pre)/\AP (s.put dst (.gd g v))
 | none=>g=false/\AP (s.put dst (.gd g .any))
 | _=>False
def FC (P:Program) (k:Cl) (f:FuncId) (args:List LV) (s:S) (dst:Option Nat) [K:KT]:Prop:=∃ v,FV P s k f args v/\AP (s.put dst v)
def FCg (P:Program) (k:Cl) (f:FuncId) (args:List LV) (g:Bool) (s:S) (dst:Option Nat) [K:KT]:Prop:=∃ v,(g=true->FV P s k f args v)/\AP (s.put dst (.gd g v))
def ECn (P:Program) (f:FuncId) (args:List LV) (H:GH) (s:S) (dst:Option Nat) [o:OT] [K:KT] [Q:QT]:Prop :=
 a0j P f args H (fun ce H'=>match ce with
    | .ret v=>s.H.next<=H'.next->AP (({ s with H:=H' }:S).put dst v)
    | .pan x=>∀ env,(∀ t,f2x o.l.toArray t=true->env t=s.env t)->Q.q (.pan x) { s with H:=H',env:=env })
def QO (P:Program) (c:Cx) (k:Cl) (dst:Option Nat) (op:Op) (g:Option (Nat × Bool)) (s:S) [o:OT] [K:KT]:Prop :=
 match g with
 | none =>
  match op with
  | .pick x a b=>@BK (s.arg x) ⟨fun g=>s.argP x/\(g=true->s.argP a)/\(g=false->s.argP b)/\AP (s.put dst (b2c g (s.arg a) (s.arg b)))⟩
  | .call ⟨.value fo,args,_⟩=>@OPK _ (a1k (s.arg fo)) ⟨fun p=>s.argP fo/\allP (args.toList.map s.argP)/\nbs s.H.next (p.2.1 ++ args.toList.map s.arg ++ p.2.2)/\FC P k p.1 (p.2.1 ++ args.toList.map s.arg ++ p.2.2) s dst⟩
  | .load T p=>match k with | .n=>(s.arg p).still/\QR (opX c.ty c.eqt c.pub s dst (.load T p)) s dst | _=>QR (opX c.ty c.eqt c.pub s dst (.load T p)) s dst
  | op=>QR (opX c.ty c.eqt c.pub s dst op) s dst
 | some (j,want)=>@OPK Bool (GD (DA j) s want) ⟨fun g =>
  match op with
  | .pick x a b=>@BK (s.arg x) ⟨fun h=>(g=true->s.argP x/\(h=true->s.argP a)/\(h=false->s.argP b))/\AP (s.put dst (.gd g (b2c h (s.arg a) (s.arg b))))⟩
  | .call ⟨.value fo,args,_⟩=>@OPK _ (a1k (s.arg fo)) ⟨fun p=>(g=true->s.argP fo/\allP (args.toList.map s.argP)/\nbs s.H.next (p.2.1 ++ args.toList.map s.arg ++ p.2.2))/\FCg P k p.1 (p.2.1 ++ args.toList.map s.arg ++ p.2.2) g s dst⟩
  | .load T p=>match k with | .n=>(g=true->(s.arg p).still)/\QRg (opX c.ty c.eqt c.pub s dst (.load T p)) g s dst | _=>QRg (opX c.ty c.eqt c.pub s dst (.load T p)) g s dst
  | op=>QRg (opX c.ty c.eqt c.pub s dst op) g s dst⟩
def XO0 (P:Program) (c:Cx) (dst:Option Nat) (op:Op) (s:S) [o:OT] [K:KT] [Q:QT]:Prop :=
 match op with
 | .call ⟨.value fo,args,_⟩=>@OPK _ (a1k (s.arg fo)) ⟨fun p=>s.argP fo/\allP (args.toList.map s.argP)/\nbs s.H.next (p.2.1 ++ args.toList.map s.arg ++ p.2.2)/\ECn P p.1 (p.2.1 ++ args.toList.map s.arg ++ p.2.2) s.H s dst⟩
 | .panic _=>False
 | op=>RK (opX c.ty c.eqt c.pub s dst op) s dst
def XO (P:Program) (c:Cx) (dst:Option Nat) (op:Op) (g:Option (Nat × Bool)) (s:S) [o:OT] [K:KT] [Q:QT]:Prop :=
 match g with
 | none=>XO0 P c dst op s
 | some (j,want)=>@OPK Bool (GD (DA j) s want) ⟨fun g=>(g=true->XO0 P c dst op s)/\(g=false->AP (s.put dst .any))⟩
def DY (P:Program) (c:Cx) (k:Cl) (dst:Option Nat) (op:Op) (g:Option (Nat × Bool)) (s:S) [o:OT] [K:KT] [Q:QT]:Prop :=
 match k with
 | .n=>QO P c .n dst op g s
 | .r=>QO P c .r dst op g s
 | _=>XO P c dst op g s
def DX (P:Program) (c:Cx) (x:Option Oper) (b:Option Cl) (s:S) [o:OT] [K:KT] [Q:QT]:Prop:=match x with
 | none=>False
 | some ⟨dst,op,_,_,_,g⟩=>c9p dst s.nt/\DY P c (clOp b op) dst op g s
mutual
def RW (P:Program) (c:Cx) (l:List Oper) (pf:List (Nat × Cl)) (Q:QT):Sch->S->Prop
 | .done,s=>Q.q .normal s
 | .q i k,s=>@DX P c (@AT i ⟨l,[]⟩) (pf.lookup i) s ⟨l,[]⟩ ⟨fun s'=>RW P c l pf Q k s'⟩ Q
 | .f ks,s=>RWs P c l pf Q ks s
def RWs (P:Program) (c:Cx) (l:List Oper) (pf:List (Nat × Cl)) (Q:QT):Schs->S->Prop
 | .nil,_=>True
 | .cons i k r,s=>@DX P c (@AT i ⟨l,[]⟩) (pf.lookup i) s ⟨l,[]⟩ ⟨fun s'=>RW P c l pf Q k s'⟩ Q/\RWs P c l pf Q r s
end
def RDi (P:Program) (c:Cx) [o:OT] [d:DT] (s:S) [Q:QT]:Prop:=RW P c o.l d.pf Q d.sched s
class DTs where
 pf:List (Nat × Cl)
 sched:Schs
def RDsi (P:Program) (c:Cx) [o:OT] [d:DTs] (s:S) [Q:QT]:Prop:=RWs P c o.l d.pf Q d.sched s
section
variable {P:Program} {c:Cx} {l rest:List Oper} {pf:List (Nat × Cl)} {k:Cl} {s:S} {Q:QT} {K:KT} {dst:Option Nat}
theorem b3y {op:Op} (hf:isFn op=false) (hp:∀ x a b,op ≠ .pick x a b) (h:a6s k op s/\@QR (opX c.ty c.eqt c.pub s dst op) s dst K):∃ v,QV0 P c k s dst op v/\K.k (s.put dst v):=by
 obtain ⟨hst,h⟩:=h
 unfold QR at h
 split at h
 ·rename_i pre v e
  refine ⟨v,?_,h.2⟩
  have:∃ pre,opX c.ty c.eqt c.pub s dst op=some ⟨pre,v,.no⟩/\pre/\a6s k op s:=⟨pre,e,h.1,hst⟩
  cases op with
  | pick x a b=>exact absurd rfl (hp x a b)
  | call cl=>obtain ⟨callee,args,tys⟩:=cl;cases callee <;> first | exact this | cases hf
  | _=>exact this
 ·exact h.elim
theorem b0n {op:Op} {g:Bool} (hf:isFn op=false) (hp:∀ x a b,op ≠ .pick x a b) (h:(g=true->a6s k op s)/\@QRg (opX c.ty c.eqt c.pub s dst op) g s dst K):∃ v,(g=true->QV0 P c k s dst op v)/\K.k (s.put dst (.gd g v)):=by
 obtain ⟨hst,h⟩:=h
 unfold QRg at h
 split at h
 ·rename_i pre v e
  refine ⟨v,fun q=>?_,h.2⟩
  have:∃ pre,opX c.ty c.eqt c.pub s dst op=some ⟨pre,v,.no⟩/\pre/\a6s k op s:=⟨pre,e,h.1 q,hst q⟩
  cases op with
  | pick x a b=>exact absurd rfl (hp x a b)
  | call cl=>obtain ⟨callee,args,tys⟩:=cl;cases callee <;> first | exact this | cases hf
  | _=>exact this
 ·exact ⟨.any,fun q=>(by rw [h.1] at q;cases q),h.2⟩
 ·exact h.elim
theorem e7h {x:LV} {F:FA Bool} (h:@BK x F):∃ g,x=.d (.k (.bool g))/\F.f g:=by
 unfold BK at h
 split at h
 ·exact ⟨_,rfl,h⟩
 ·exact h.elim
theorem b3z {α:Type} {x:Option α} {F:FA α} (h:@OPK α x F):∃ g,x=some g/\F.f g:=by
 unfold OPK at h
 split at h
 ·exact ⟨_,rfl,h⟩
 ·exact h.elim
theorem d8c {op:Op} {g:Option (Nat × Bool)} {T:TypeId} {pos:String} {af:Array Edge} (h:@QO P c k dst op g s ⟨l,[]⟩ K):∃ v,QV P c k l.toArray s ⟨dst,op,T,pos,af,g⟩ v/\K.k (s.put dst v):=by
 cases g with
 | none =>
  unfold QV
  simp only
  cases op with
  | pick x a b =>
   obtain ⟨g,e,h1,h2,h3,h4⟩:=e7h h
   exact ⟨_,⟨g,e,h1,h2,h3,rfl⟩,h4⟩
  | call cl =>
   obtain ⟨callee,args,tys⟩:=cl
   cases callee with
   | value fo =>
    obtain ⟨⟨f,first,cap⟩,e,h1,h2,h3,v,h4,h5⟩:=b3z h
    exact ⟨v,⟨f,first,cap,e,h1,h2,h3,h4⟩,h5⟩
   | builtin b=>exact b3y rfl (fun _ _ _ q=>by cases q) ⟨by cases k <;> trivial,h⟩
   | invoke f m=>exact b3y rfl (fun _ _ _ q=>by cases q) ⟨by cases k <;> trivial,h⟩
  | load T p=>cases k <;> first | exact b3y rfl (fun _ _ _ q=>by cases q) ⟨trivial,h⟩ | exact b3y rfl (fun _ _ _ q=>by cases q) h
  | _=>exact b3y rfl (fun _ _ _ q=>by cases q) ⟨by cases k <;> trivial,h⟩
 | some jw =>
  obtain ⟨j,want⟩:=jw
  unfold QV
  simp only
  obtain ⟨g,e,h⟩:=b3z h
  rw [f4j] at e
  have fin:(∃ v,(g=true->QV0 P c k s dst op v)/\K.k (s.put dst (.gd g v)))->∃ v,(∃ g u,guardOf l.toArray s j want=some g/\v=.gd g u/\(g=true->QV0 P c k s dst op u))/\K.k (s.put dst v) :=
   fun ⟨v,h1,h2⟩=>⟨.gd g v,⟨g,v,e,rfl,h1⟩,h2⟩
  apply fin
  cases op with
  | pick x a b =>
   obtain ⟨g',e',h1,h4⟩:=e7h h
   exact ⟨_,fun q=>⟨g',e',(h1 q).1,(h1 q).2.1,(h1 q).2.2,rfl⟩,h4⟩
  | call cl =>
   obtain ⟨callee,args,tys⟩:=cl
   cases callee with
   | value fo =>
    obtain ⟨⟨f,first,cap⟩,e',h1,v,h4,h5⟩:=b3z h
    exact ⟨v,fun q=>⟨f,first,cap,e',(h1 q).1,(h1 q).2.1,(h1 q).2.2,h4 q⟩,h5⟩
   | builtin b=>exact b0n rfl (fun _ _ _ q=>by cases q) ⟨fun _=>by cases k <;> trivial,h⟩
   | invoke f m=>exact b0n rfl (fun _ _ _ q=>by cases q) ⟨fun _=>by cases k <;> trivial,h⟩
  | load T p=>cases k <;> first | exact b0n rfl (fun _ _ _ q=>by cases q) ⟨fun _=>trivial,h⟩ | exact b0n rfl (fun _ _ _ q=>by cases q) h
  | _=>exact b0n rfl (fun _ _ _ q=>by cases q) ⟨fun _=>by cases k <;> trivial,h⟩
theorem d4j {r:Option Res} (h:@RK r s dst K):∃ x,r=some x/\x.pre/\K.k ((s.eff dst x.eff).put dst x.v):=by
 cases r with
 | none=>exact h.elim
 | some x=>exact ⟨x,rfl,h.1,h.2⟩
theorem d0h {op:Op} (h:@XO0 P c dst op s ⟨l,[]⟩ K Q):EF0 P c l.toArray s dst op K.k Q.q:=by
 cases op with
 | call cl =>
  obtain ⟨callee,args,tys⟩:=cl
  cases callee with
  | value fo =>
   obtain ⟨⟨f,first,cap⟩,e,h1,h2,h3,h4⟩:=b3z h
   exact ⟨f,first,cap,e,h1,h2,h3,h4⟩
  | builtin b=>exact d4j h
  | invoke f m=>exact d4j h
 | panic x=>exact h.elim
 | _=>exact d4j h
theorem d7y {op:Op} {g:Option (Nat × Bool)} {T:TypeId} {pos:String} {af:Array Edge} (h:@XO P c dst op g s ⟨l,[]⟩ K Q):EF P c l.toArray s ⟨dst,op,T,pos,af,g⟩ K.k Q.q:=by
 unfold EF
 cases g with
 | none=>exact d0h h
 | some jw =>
  obtain ⟨j,want⟩:=jw
  obtain ⟨g,e,h1,h2⟩:=b3z h
  rw [f4j] at e
  exact ⟨g,e,fun q=>d0h (h1 q),h2⟩
theorem d8h {i:Nat} {b:Option Cl} (hb:b=pf.lookup i) (h:@DX P c l[i]? b s ⟨l,[]⟩ K Q):OpC P c l.toArray pf i s K.k Q.q:=by
 subst hb
 unfold OpC
 simp only [List.getElem?_toArray]
 cases ho:l[i]? with
 | none=>rw [ho] at h;exact h.elim
 | some o =>
  rw [ho] at h
  obtain ⟨dst,op,T,pos,af,g⟩:=o
  obtain ⟨h1,h2⟩:=h
  have ecl:clOf pf i ⟨dst,op,T,pos,af,g⟩=clOp (pf.lookup i) op:=rfl
  simp only
  refine ⟨fun t ht=>by subst ht;exact h1,?_⟩
  rw [ecl]
  cases hq:clOp (pf.lookup i) op with
  | n =>
   rw [hq] at h2
   rw [if_pos (.inl rfl)]
   exact d8c (T:=T) (pos:=pos) (af:=af) (c:=c) h2
  | r =>
   rw [hq] at h2
   rw [if_pos (.inr rfl)]
   exact d8c (T:=T) (pos:=pos) (af:=af) (c:=c) h2
  | c =>
   rw [hq] at h2
   rw [if_neg (by simp)]
   exact d7y (T:=T) (pos:=pos) (af:=af) h2
  | x =>
   rw [hq] at h2
   rw [if_neg (by simp)]
   exact d7y (T:=T) (pos:=pos) (af:=af) h2
mutual
theorem c6d:∀ (sched:Sch) (s:S),RW P c l pf Q sched s->runD P c l.toArray pf Q.q sched s
 | .done,s,h=>h
 | .q i k,s,h=>by
  simp only [runD]
  unfold RW AT at h
  exact OpC_mono (fun s' _ hK=>c6d k s' hK) (d8h rfl h)
 | .f ks,s,h=>by
  simp only [runD]
  unfold RW at h
  exact d0j ks s h
theorem d0j:∀ (sched:Schs) (s:S),RWs P c l pf Q sched s->d1h P c l.toArray pf Q.q sched s
 | .nil,s,h=>by simp only [d1h]
 | .cons i k r,s,h=>by
  simp only [d1h]
  unfold RWs AT at h
  exact ⟨OpC_mono (fun s' _ hK=>c6d k s' hK) (d8h rfl h.1),d0j r s h.2⟩
end
theorem AW.draw {rd:RD} (hc:c.ok P) {id:Nat} (pf:List (Nat × Cl)) (sched:Sch) (hB:schB pf l.toArray sched l.toArray.size (Array.replicate l.toArray.size false)=true) (h:@RDi P c ⟨l,[]⟩ ⟨pf,sched⟩ s Q):@AW P rd ⟨.region id l.toArray true⟩ s Q :=
 AWp.draw hc pf sched hB (c6d sched s h)
@[simp] theorem RDi_nil:@RDi P c ⟨l,rest⟩ ⟨pf,.done⟩ s Q=Q.q .normal s:=by simp only [RDi,RW]
@[simp] theorem RDi_cons {i:Nat} {k:Sch}:@RDi P c ⟨l,rest⟩ ⟨pf,.q i k⟩ s Q = @DX P c (@AT i ⟨l,[]⟩) (pf.lookup i) s ⟨l,[]⟩ ⟨fun s'=>@RDi P c ⟨l,rest⟩ ⟨pf,k⟩ s' Q⟩ Q:=by simp only [RDi,RW];rfl
@[simp] theorem RDi_f {ks:Schs}:@RDi P c ⟨l,rest⟩ ⟨pf,.f ks⟩ s Q = @RDsi P c ⟨l,rest⟩ ⟨pf,ks⟩ s Q:=by simp only [RDi,RDsi,RW]
@[simp] theorem RDsi_one {i:Nat} {k:Sch}:@RDsi P c ⟨l,rest⟩ ⟨pf,.one i k⟩ s Q = @DX P c (@AT i ⟨l,[]⟩) (pf.lookup i) s ⟨l,[]⟩ ⟨fun s'=>@RDi P c ⟨l,rest⟩ ⟨pf,k⟩ s' Q⟩ Q:=by simp only [RDsi,RWs,Schs.one,and_true];rfl
@[simp] theorem RDsi_nil:@RDsi P c ⟨l,rest⟩ ⟨pf,.nil⟩ s Q=True:=by simp only [RDsi,RWs]
@[simp] theorem RDsi_cons {i:Nat} {k:Sch} {r:Schs}:@RDsi P c ⟨l,rest⟩ ⟨pf,.cons i k r⟩ s Q=(@DX P c (@AT i ⟨l,[]⟩) (pf.lookup i) s ⟨l,[]⟩ ⟨fun s'=>@RDi P c ⟨l,rest⟩ ⟨pf,k⟩ s' Q⟩ Q/\@RDsi P c ⟨l,rest⟩ ⟨pf,r⟩ s Q):=by simp only [RDsi,RWs];rfl
@[simp] theorem LK_nil {i:Nat}:List.lookup i ([]:List (Nat × Cl))=none:=rfl
@[simp] theorem LK_cons {i j:Nat} {k:Cl}:List.lookup i ((j,k) :: pf)=if i=j then some k else List.lookup i pf:=by
 simp only [List.lookup]
 by_cases h:i=j
 ·simp [h]
 ·rw [if_neg h,beq_false_of_ne h]
variable {T:TypeId} {pos:String} {af:Array Edge} {g:Option (Nat × Bool)} {j:Nat} {want:Bool} {o:OT}
@[simp] theorem AT_zero {x:Oper}:@AT 0 ⟨x :: l,rest⟩=some x:=rfl
@[simp] theorem AT_succ {x:Oper}:@AT (j+1) ⟨x :: l,rest⟩ = @AT j ⟨l,[]⟩:=by simp [AT]
@[simp] theorem DX_some {op:Op} {b:Option Cl}:@DX P c (some ⟨dst,op,T,pos,af,g⟩) b s o K Q=(c9p dst s.nt/\@DY P c (clOp b op) dst op g s o K Q):=rfl
@[simp] theorem DY_n {op:Op}:@DY P c .n dst op g s o K Q = @QO P c .n dst op g s o K:=rfl
@[simp] theorem DY_r {op:Op}:@DY P c .r dst op g s o K Q = @QO P c .r dst op g s o K:=rfl
@[simp] theorem DY_c {op:Op}:@DY P c .c dst op g s o K Q = @XO P c dst op g s o K Q:=rfl
@[simp] theorem DY_x {op:Op}:@DY P c .x dst op g s o K Q = @XO P c dst op g s o K Q:=rfl
@[simp] theorem QR_some {pre:Prop} {v:LV}:@QR (some ⟨pre,v,.no⟩) s dst K=(pre/\@AP K (s.put dst v)):=rfl
@[simp] theorem QRg_some {pre:Prop} {v:LV} {g:Bool}:@QRg (some ⟨pre,v,.no⟩) g s dst K=((g=true->pre)/\@AP K (s.put dst (.gd g v))):=rfl
@[simp] theorem QRg_none:@QRg none false s dst K = @AP K (s.put dst (.gd false .any)):=by simp [QRg]
@[simp] theorem XO_none {op:Op}:@XO P c dst op none s o K Q = @XO0 P c dst op s o K Q:=rfl
@[simp] theorem XO_some {op:Op}:@XO P c dst op (some (j,want)) s o K Q = @OPK Bool (GD (@DA j o) s want) ⟨fun g=>(g=true->@XO0 P c dst op s o K Q)/\(g=false->@AP K (s.put dst .any))⟩:=rfl
theorem FC.afun {f:FuncId} {args:List LV} {v:LV} (h:AFun P f args v) (hk:@AP K (s.put dst v)):@FC P .n f args s dst K:=⟨v,h,hk⟩
theorem FCg.afun {f:FuncId} {args:List LV} {g:Bool} {v:LV} (h:g=true->AFun P f args v) (hk:@AP K (s.put dst (.gd g v))):@FCg P .n f args g s dst K:=⟨v,h,hk⟩
@[simp] theorem clOp_fn {fo:Operand} {x:Array Operand} {y:Array TypeId}:clOp none (.call ⟨.value fo,x,y⟩)=.x:=rfl
@[simp] theorem clOp_fn_n {fo:Operand} {x:Array Operand} {y:Array TypeId}:clOp (some .n) (.call ⟨.value fo,x,y⟩)=.n:=rfl
@[simp] theorem clOp_fn_r {fo:Operand} {x:Array Operand} {y:Array TypeId}:clOp (some .r) (.call ⟨.value fo,x,y⟩)=.r:=rfl
@[simp] theorem QO_pick {x a b:Operand}:@QO P c k dst (.pick x a b) none s o K = @BK (s.arg x) ⟨fun g=>s.argP x/\(g=true->s.argP a)/\(g=false->s.argP b)/\@AP K (s.put dst (b2c g (s.arg a) (s.arg b)))⟩:=rfl
@[simp] theorem QOg_pick {x a b:Operand}:@QO P c k dst (.pick x a b) (some (j,want)) s o K = @OPK Bool (GD (@DA j o) s want) ⟨fun g=>@BK (s.arg x) ⟨fun h=>(g=true->s.argP x/\(h=true->s.argP a)/\(h=false->s.argP b))/\@AP K (s.put dst (.gd g (b2c h (s.arg a) (s.arg b))))⟩⟩:=rfl
@[simp] theorem clOp_pick {x y z:Operand}:clOp none (.pick x y z)=.n:=rfl
@[simp] theorem QO_fn {fo:Operand} {args:Array Operand} {tys:Array TypeId}:@QO P c k dst (.call ⟨.value fo,args,tys⟩) none s o K = @OPK _ (a1k (s.arg fo)) ⟨fun p=>s.argP fo/\allP (args.toList.map s.argP)/\nbs s.H.next (p.2.1 ++ args.toList.map s.arg ++ p.2.2)/\@FC P k p.1 (p.2.1 ++ args.toList.map s.arg ++ p.2.2) s dst K⟩:=rfl
@[simp] theorem QOg_fn {fo:Operand} {args:Array Operand} {tys:Array TypeId}:@QO P c k dst (.call ⟨.value fo,args,tys⟩) (some (j,want)) s o K = @OPK Bool (GD (@DA j o) s want) ⟨fun g=>@OPK _ (a1k (s.arg fo)) ⟨fun p=>(g=true->s.argP fo/\allP (args.toList.map s.argP)/\nbs s.H.next (p.2.1 ++ args.toList.map s.arg ++ p.2.2))/\@FCg P k p.1 (p.2.1 ++ args.toList.map s.arg ++ p.2.2) g s dst K⟩⟩:=rfl
@[simp] theorem XO0_fn {fo:Operand} {args:Array Operand} {tys:Array TypeId}:@XO0 P c dst (.call ⟨.value fo,args,tys⟩) s o K Q = @OPK _ (a1k (s.arg fo)) ⟨fun p=>s.argP fo/\allP (args.toList.map s.argP)/\nbs s.H.next (p.2.1 ++ args.toList.map s.arg ++ p.2.2)/\@ECn P p.1 (p.2.1 ++ args.toList.map s.arg ++ p.2.2) s.H s dst o K Q⟩:=rfl
theorem ECn.of {f:FuncId} {args:List LV} {H:GH} {R:CE->GH->Prop} (h:a0j P f args H R) (hk:∀ v H',R (.ret v) H'->s.H.next<=H'.next->@AP K (({ s with H:=H' }:S).put dst v))
  (hp:∀ x H' env,R (.pan x) H'->(∀ t,f2x o.l.toArray t=true->env t=s.env t)->Q.q (.pan x) { s with H:=H',env:=env }):@ECn P f args H s dst o K Q :=
 h.mono fun ce H' hR=>by
  cases ce with
  | ret v=>exact hk v H' hR
  | pan x=>exact fun env=>hp x H' env hR
@[simp] theorem clOp_move {x0:Operand}:clOp none (.move x0)=.n:=rfl
@[simp] theorem QO_move {x0:Operand}:@QO P c k dst (.move x0) none s o K = @QR (opX c.ty c.eqt c.pub s dst (.move x0)) s dst K:=rfl
@[simp] theorem QOg_move {x0:Operand}:@QO P c k dst (.move x0) (some (j,want)) s o K = @OPK Bool (GD (@DA j o) s want) ⟨fun g=>@QRg (opX c.ty c.eqt c.pub s dst (.move x0)) g s dst K⟩:=rfl
@[simp] theorem clOp_assign {x0:Operand}:clOp none (.assign x0)=.n:=rfl
@[simp] theorem QO_assign {x0:Operand}:@QO P c k dst (.assign x0) none s o K = @QR (opX c.ty c.eqt c.pub s dst (.assign x0)) s dst K:=rfl
@[simp] theorem QOg_assign {x0:Operand}:@QO P c k dst (.assign x0) (some (j,want)) s o K = @OPK Bool (GD (@DA j o) s want) ⟨fun g=>@QRg (opX c.ty c.eqt c.pub s dst (.assign x0)) g s dst K⟩:=rfl
@[simp] theorem clOp_alloc {x0:TypeId}:clOp none (.alloc x0)=.c:=rfl
@[simp] theorem XO0_alloc {x0:TypeId}:@XO0 P c dst (.alloc x0) s o K Q = @RK (opX c.ty c.eqt c.pub s dst (.alloc x0)) s dst K:=rfl
@[simp] theorem clOp_box {x0:TypeId} {x1:Operand}:clOp none (.box x0 x1)=.c:=rfl
@[simp] theorem XO0_box {x0:TypeId} {x1:Operand}:@XO0 P c dst (.box x0 x1) s o K Q = @RK (opX c.ty c.eqt c.pub s dst (.box x0 x1)) s dst K:=rfl
@[simp] theorem clOp_build {x0:TypeId} {x1:Array (Nat × Operand)}:clOp none (.build x0 x1)=.n:=rfl
@[simp] theorem QO_build {x0:TypeId} {x1:Array (Nat × Operand)}:@QO P c k dst (.build x0 x1) none s o K = @QR (opX c.ty c.eqt c.pub s dst (.build x0 x1)) s dst K:=rfl
@[simp] theorem QOg_build {x0:TypeId} {x1:Array (Nat × Operand)}:@QO P c k dst (.build x0 x1) (some (j,want)) s o K = @OPK Bool (GD (@DA j o) s want) ⟨fun g=>@QRg (opX c.ty c.eqt c.pub s dst (.build x0 x1)) g s dst K⟩:=rfl
@[simp] theorem clOp_buildSlice {x0:TypeId} {x1:Nat} {x2:Array (Nat × Operand)}:clOp none (.buildSlice x0 x1 x2)=.n:=rfl
@[simp] theorem QO_buildSlice {x0:TypeId} {x1:Nat} {x2:Array (Nat × Operand)}:@QO P c k dst (.buildSlice x0 x1 x2) none s o K = @QR (opX c.ty c.eqt c.pub s dst (.buildSlice x0 x1 x2)) s dst K:=rfl
@[simp] theorem QOg_buildSlice {x0:TypeId} {x1:Nat} {x2:Array (Nat × Operand)}:@QO P c k dst (.buildSlice x0 x1 x2) (some (j,want)) s o K = @OPK Bool (GD (@DA j o) s want) ⟨fun g=>@QRg (opX c.ty c.eqt c.pub s dst (.buildSlice x0 x1 x2)) g s dst K⟩:=rfl
@[simp] theorem clOp_insert {x0:TypeId} {x1:Operand} {x2:Operand} {x3:Operand}:clOp none (.insert x0 x1 x2 x3)=.x:=rfl
@[simp] theorem XO0_insert {x0:TypeId} {x1:Operand} {x2:Operand} {x3:Operand}:@XO0 P c dst (.insert x0 x1 x2 x3) s o K Q = @RK (opX c.ty c.eqt c.pub s dst (.insert x0 x1 x2 x3)) s dst K:=rfl
@[simp] theorem clOp_load {x0:TypeId} {x1:Operand}:clOp none (.load x0 x1)=.r:=rfl
@[simp] theorem clOp_loadn {x0:TypeId} {x1:Operand}:clOp (some .n) (.load x0 x1)=.n:=rfl
@[simp] theorem QO_load_n {x0:TypeId} {x1:Operand}:@QO P c .n dst (.load x0 x1) none s o K=((s.arg x1).still/\@QR (opX c.ty c.eqt c.pub s dst (.load x0 x1)) s dst K):=rfl
@[simp] theorem QOg_load_n {x0:TypeId} {x1:Operand}:@QO P c .n dst (.load x0 x1) (some (j,want)) s o K = @OPK Bool (GD (@DA j o) s want) ⟨fun g=>(g=true->(s.arg x1).still)/\@QRg (opX c.ty c.eqt c.pub s dst (.load x0 x1)) g s dst K⟩:=rfl
@[simp] theorem QO_load {x0:TypeId} {x1:Operand}:@QO P c .r dst (.load x0 x1) none s o K = @QR (opX c.ty c.eqt c.pub s dst (.load x0 x1)) s dst K:=rfl
@[simp] theorem QOg_load {x0:TypeId} {x1:Operand}:@QO P c .r dst (.load x0 x1) (some (j,want)) s o K = @OPK Bool (GD (@DA j o) s want) ⟨fun g=>@QRg (opX c.ty c.eqt c.pub s dst (.load x0 x1)) g s dst K⟩:=rfl
@[simp] theorem clOp_store {x0:TypeId} {x1:Operand} {x2:Operand}:clOp none (.store x0 x1 x2)=.x:=rfl
@[simp] theorem XO0_store {x0:TypeId} {x1:Operand} {x2:Operand}:@XO0 P c dst (.store x0 x1 x2) s o K Q = @RK (opX c.ty c.eqt c.pub s dst (.store x0 x1 x2)) s dst K:=rfl
@[simp] theorem clOp_nilCheck {x0:Operand}:clOp none (.nilCheck x0)=.n:=rfl
@[simp] theorem QO_nilCheck {x0:Operand}:@QO P c k dst (.nilCheck x0) none s o K = @QR (opX c.ty c.eqt c.pub s dst (.nilCheck x0)) s dst K:=rfl
@[simp] theorem QOg_nilCheck {x0:Operand}:@QO P c k dst (.nilCheck x0) (some (j,want)) s o K = @OPK Bool (GD (@DA j o) s want) ⟨fun g=>@QRg (opX c.ty c.eqt c.pub s dst (.nilCheck x0)) g s dst K⟩:=rfl
@[simp] theorem clOp_binOp {x0:BinOp} {x1:TypeId} {x2:Operand} {x3:Operand} {x4:TypeId}:clOp none (.binOp x0 x1 x2 x3 x4)=.n:=rfl
@[simp] theorem QO_binOp {x0:BinOp} {x1:TypeId} {x2:Operand} {x3:Operand} {x4:TypeId}:@QO P c k dst (.binOp x0 x1 x2 x3 x4) none s o K = @QR (opX c.ty c.eqt c.pub s dst (.binOp x0 x1 x2 x3 x4)) s dst K:=rfl
@[simp] theorem QOg_binOp {x0:BinOp} {x1:TypeId} {x2:Operand} {x3:Operand} {x4:TypeId}:@QO P c k dst (.binOp x0 x1 x2 x3 x4) (some (j,want)) s o K = @OPK Bool (GD (@DA j o) s want) ⟨fun g=>@QRg (opX c.ty c.eqt c.pub s dst (.binOp x0 x1 x2 x3 x4)) g s dst K⟩:=rfl
@[simp] theorem clOp_unOp {x0:UnOp} {x1:TypeId} {x2:Operand}:clOp none (.unOp x0 x1 x2)=.n:=rfl
@[simp] theorem QO_unOp {x0:UnOp} {x1:TypeId} {x2:Operand}:@QO P c k dst (.unOp x0 x1 x2) none s o K = @QR (opX c.ty c.eqt c.pub s dst (.unOp x0 x1 x2)) s dst K:=rfl
@[simp] theorem QOg_unOp {x0:UnOp} {x1:TypeId} {x2:Operand}:@QO P c k dst (.unOp x0 x1 x2) (some (j,want)) s o K = @OPK Bool (GD (@DA j o) s want) ⟨fun g=>@QRg (opX c.ty c.eqt c.pub s dst (.unOp x0 x1 x2)) g s dst K⟩:=rfl
@[simp] theorem clOp_convert {x0:TypeId} {x1:TypeId} {x2:Operand}:clOp none (.convert x0 x1 x2)=.n:=rfl
@[simp] theorem QO_convert {x0:TypeId} {x1:TypeId} {x2:Operand}:@QO P c k dst (.convert x0 x1 x2) none s o K = @QR (opX c.ty c.eqt c.pub s dst (.convert x0 x1 x2)) s dst K:=rfl
@[simp] theorem QOg_convert {x0:TypeId} {x1:TypeId} {x2:Operand}:@QO P c k dst (.convert x0 x1 x2) (some (j,want)) s o K = @OPK Bool (GD (@DA j o) s want) ⟨fun g=>@QRg (opX c.ty c.eqt c.pub s dst (.convert x0 x1 x2)) g s dst K⟩:=rfl
@[simp] theorem clOp_makeInterface {x0:TypeId} {x1:Operand}:clOp none (.makeInterface x0 x1)=.n:=rfl
@[simp] theorem QO_makeInterface {x0:TypeId} {x1:Operand}:@QO P c k dst (.makeInterface x0 x1) none s o K = @QR (opX c.ty c.eqt c.pub s dst (.makeInterface x0 x1)) s dst K:=rfl
@[simp] theorem QOg_makeInterface {x0:TypeId} {x1:Operand}:@QO P c k dst (.makeInterface x0 x1) (some (j,want)) s o K = @OPK Bool (GD (@DA j o) s want) ⟨fun g=>@QRg (opX c.ty c.eqt c.pub s dst (.makeInterface x0 x1)) g s dst K⟩:=rfl
@[simp] theorem clOp_makeFunc {x0:Fn} {x1:Array Operand} {x2:Array Operand}:clOp none (.makeFunc x0 x1 x2)=.n:=rfl
@[simp] theorem QO_makeFunc {x0:Fn} {x1:Array Operand} {x2:Array Operand}:@QO P c k dst (.makeFunc x0 x1 x2) none s o K = @QR (opX c.ty c.eqt c.pub s dst (.makeFunc x0 x1 x2)) s dst K:=rfl
@[simp] theorem QOg_makeFunc {x0:Fn} {x1:Array Operand} {x2:Array Operand}:@QO P c k dst (.makeFunc x0 x1 x2) (some (j,want)) s o K = @OPK Bool (GD (@DA j o) s want) ⟨fun g=>@QRg (opX c.ty c.eqt c.pub s dst (.makeFunc x0 x1 x2)) g s dst K⟩:=rfl
@[simp] theorem clOp_makeMap {x0:TypeId} {x1:Option Operand}:clOp none (.makeMap x0 x1)=.c:=rfl
@[simp] theorem XO0_makeMap {x0:TypeId} {x1:Option Operand}:@XO0 P c dst (.makeMap x0 x1) s o K Q = @RK (opX c.ty c.eqt c.pub s dst (.makeMap x0 x1)) s dst K:=rfl
@[simp] theorem clOp_makeSlice {x0:TypeId} {x1:Operand} {x2:Operand}:clOp none (.makeSlice x0 x1 x2)=.x:=rfl
@[simp] theorem XO0_makeSlice {x0:TypeId} {x1:Operand} {x2:Operand}:@XO0 P c dst (.makeSlice x0 x1 x2) s o K Q = @RK (opX c.ty c.eqt c.pub s dst (.makeSlice x0 x1 x2)) s dst K:=rfl
@[simp] theorem clOp_slice {x0:TypeId} {x1:Operand} {x2:Option Operand} {x3:Option Operand} {x4:Option Operand}:clOp none (.slice x0 x1 x2 x3 x4)=.r:=rfl
@[simp] theorem QO_slice {x0:TypeId} {x1:Operand} {x2:Option Operand} {x3:Option Operand} {x4:Option Operand}:@QO P c k dst (.slice x0 x1 x2 x3 x4) none s o K = @QR (opX c.ty c.eqt c.pub s dst (.slice x0 x1 x2 x3 x4)) s dst K:=rfl
@[simp] theorem QOg_slice {x0:TypeId} {x1:Operand} {x2:Option Operand} {x3:Option Operand} {x4:Option Operand}:@QO P c k dst (.slice x0 x1 x2 x3 x4) (some (j,want)) s o K = @OPK Bool (GD (@DA j o) s want) ⟨fun g=>@QRg (opX c.ty c.eqt c.pub s dst (.slice x0 x1 x2 x3 x4)) g s dst K⟩:=rfl
@[simp] theorem clOp_fieldAddr {x0:TypeId} {x1:Operand} {x2:Nat}:clOp none (.fieldAddr x0 x1 x2)=.n:=rfl
@[simp] theorem QO_fieldAddr {x0:TypeId} {x1:Operand} {x2:Nat}:@QO P c k dst (.fieldAddr x0 x1 x2) none s o K = @QR (opX c.ty c.eqt c.pub s dst (.fieldAddr x0 x1 x2)) s dst K:=rfl
@[simp] theorem QOg_fieldAddr {x0:TypeId} {x1:Operand} {x2:Nat}:@QO P c k dst (.fieldAddr x0 x1 x2) (some (j,want)) s o K = @OPK Bool (GD (@DA j o) s want) ⟨fun g=>@QRg (opX c.ty c.eqt c.pub s dst (.fieldAddr x0 x1 x2)) g s dst K⟩:=rfl
@[simp] theorem clOp_field {x0:TypeId} {x1:Operand} {x2:Nat}:clOp none (.field x0 x1 x2)=.n:=rfl
@[simp] theorem QO_field {x0:TypeId} {x1:Operand} {x2:Nat}:@QO P c k dst (.field x0 x1 x2) none s o K = @QR (opX c.ty c.eqt c.pub s dst (.field x0 x1 x2)) s dst K:=rfl
@[simp] theorem QOg_field {x0:TypeId} {x1:Operand} {x2:Nat}:@QO P c k dst (.field x0 x1 x2) (some (j,want)) s o K = @OPK Bool (GD (@DA j o) s want) ⟨fun g=>@QRg (opX c.ty c.eqt c.pub s dst (.field x0 x1 x2)) g s dst K⟩:=rfl
@[simp] theorem clOp_indexAddr {x0:TypeId} {x1:Operand} {x2:Operand}:clOp none (.indexAddr x0 x1 x2)=.n:=rfl
@[simp] theorem QO_indexAddr {x0:TypeId} {x1:Operand} {x2:Operand}:@QO P c k dst (.indexAddr x0 x1 x2) none s o K = @QR (opX c.ty c.eqt c.pub s dst (.indexAddr x0 x1 x2)) s dst K:=rfl
@[simp] theorem QOg_indexAddr {x0:TypeId} {x1:Operand} {x2:Operand}:@QO P c k dst (.indexAddr x0 x1 x2) (some (j,want)) s o K = @OPK Bool (GD (@DA j o) s want) ⟨fun g=>@QRg (opX c.ty c.eqt c.pub s dst (.indexAddr x0 x1 x2)) g s dst K⟩:=rfl
@[simp] theorem clOp_index {x0:TypeId} {x1:Operand} {x2:Operand}:clOp none (.index x0 x1 x2)=.n:=rfl
@[simp] theorem QO_index {x0:TypeId} {x1:Operand} {x2:Operand}:@QO P c k dst (.index x0 x1 x2) none s o K = @QR (opX c.ty c.eqt c.pub s dst (.index x0 x1 x2)) s dst K:=rfl
@[simp] theorem QOg_index {x0:TypeId} {x1:Operand} {x2:Operand}:@QO P c k dst (.index x0 x1 x2) (some (j,want)) s o K = @OPK Bool (GD (@DA j o) s want) ⟨fun g=>@QRg (opX c.ty c.eqt c.pub s dst (.index x0 x1 x2)) g s dst K⟩:=rfl
@[simp] theorem clOp_lookup {x0:TypeId} {x1:Operand} {x2:Operand} {x3:Bool}:clOp none (.lookup x0 x1 x2 x3)=.r:=rfl
@[simp] theorem QO_lookup {x0:TypeId} {x1:Operand} {x2:Operand} {x3:Bool}:@QO P c k dst (.lookup x0 x1 x2 x3) none s o K = @QR (opX c.ty c.eqt c.pub s dst (.lookup x0 x1 x2 x3)) s dst K:=rfl
@[simp] theorem QOg_lookup {x0:TypeId} {x1:Operand} {x2:Operand} {x3:Bool}:@QO P c k dst (.lookup x0 x1 x2 x3) (some (j,want)) s o K = @OPK Bool (GD (@DA j o) s want) ⟨fun g=>@QRg (opX c.ty c.eqt c.pub s dst (.lookup x0 x1 x2 x3)) g s dst K⟩:=rfl
@[simp] theorem clOp_mapUpdate {x0:TypeId} {x1:Operand} {x2:Operand} {x3:Operand}:clOp none (.mapUpdate x0 x1 x2 x3)=.x:=rfl
@[simp] theorem XO0_mapUpdate {x0:TypeId} {x1:Operand} {x2:Operand} {x3:Operand}:@XO0 P c dst (.mapUpdate x0 x1 x2 x3) s o K Q = @RK (opX c.ty c.eqt c.pub s dst (.mapUpdate x0 x1 x2 x3)) s dst K:=rfl
@[simp] theorem clOp_entryStore {x0:TypeId} {x1:Operand} {x2:Operand} {x3:Operand}:clOp none (.entryStore x0 x1 x2 x3)=.x:=rfl
@[simp] theorem clOp_mapEntry {x0:TypeId} {x1:Operand} {x2:Operand}:clOp none (.mapEntry x0 x1 x2)=.x:=rfl
@[simp] theorem XO0_entryStore {x0:TypeId} {x1:Operand} {x2:Operand} {x3:Operand}:@XO0 P c dst (.entryStore x0 x1 x2 x3) s o K Q = @RK (opX c.ty c.eqt c.pub s dst (.entryStore x0 x1 x2 x3)) s dst K:=rfl
@[simp] theorem XO0_mapEntry {x0:TypeId} {x1:Operand} {x2:Operand}:@XO0 P c dst (.mapEntry x0 x1 x2) s o K Q = @RK (opX c.ty c.eqt c.pub s dst (.mapEntry x0 x1 x2)) s dst K:=rfl
@[simp] theorem clOp_range {x0:TypeId} {x1:Operand}:clOp none (.range x0 x1)=.x:=rfl
@[simp] theorem XO0_range {x0:TypeId} {x1:Operand}:@XO0 P c dst (.range x0 x1) s o K Q = @RK (opX c.ty c.eqt c.pub s dst (.range x0 x1)) s dst K:=rfl
@[simp] theorem clOp_next {x0:Operand} {x1:Bool}:clOp none (.next x0 x1)=.x:=rfl
@[simp] theorem XO0_next {x0:Operand} {x1:Bool}:@XO0 P c dst (.next x0 x1) s o K Q = @RK (opX c.ty c.eqt c.pub s dst (.next x0 x1)) s dst K:=rfl
@[simp] theorem clOp_entry {x0:Operand}:clOp none (.entry x0)=.x:=rfl
@[simp] theorem XO0_entry {x0:Operand}:@XO0 P c dst (.entry x0) s o K Q = @RK (opX c.ty c.eqt c.pub s dst (.entry x0)) s dst K:=rfl
@[simp] theorem clOp_typeAssert {x0:Operand} {x1:TypeId} {x2:TypeId} {x3:Bool}:clOp none (.typeAssert x0 x1 x2 x3)=.n:=rfl
@[simp] theorem QO_typeAssert {x0:Operand} {x1:TypeId} {x2:TypeId} {x3:Bool}:@QO P c k dst (.typeAssert x0 x1 x2 x3) none s o K = @QR (opX c.ty c.eqt c.pub s dst (.typeAssert x0 x1 x2 x3)) s dst K:=rfl
@[simp] theorem QOg_typeAssert {x0:Operand} {x1:TypeId} {x2:TypeId} {x3:Bool}:@QO P c k dst (.typeAssert x0 x1 x2 x3) (some (j,want)) s o K = @OPK Bool (GD (@DA j o) s want) ⟨fun g=>@QRg (opX c.ty c.eqt c.pub s dst (.typeAssert x0 x1 x2 x3)) g s dst K⟩:=rfl
@[simp] theorem clOp_extract {x0:Operand} {x1:Nat}:clOp none (.extract x0 x1)=.n:=rfl
@[simp] theorem QO_extract {x0:Operand} {x1:Nat}:@QO P c k dst (.extract x0 x1) none s o K = @QR (opX c.ty c.eqt c.pub s dst (.extract x0 x1)) s dst K:=rfl
@[simp] theorem QOg_extract {x0:Operand} {x1:Nat}:@QO P c k dst (.extract x0 x1) (some (j,want)) s o K = @OPK Bool (GD (@DA j o) s want) ⟨fun g=>@QRg (opX c.ty c.eqt c.pub s dst (.extract x0 x1)) g s dst K⟩:=rfl
@[simp] theorem clOp_blen {x:Array Operand} {y:Array TypeId}:clOp none (.call ⟨.builtin .len,x,y⟩)=.r:=rfl
@[simp] theorem QO_blen {x:Array Operand} {y:Array TypeId}:@QO P c k dst (.call ⟨.builtin .len,x,y⟩) none s o K = @QR (opX c.ty c.eqt c.pub s dst (.call ⟨.builtin .len,x,y⟩)) s dst K:=rfl
@[simp] theorem QOg_blen {x:Array Operand} {y:Array TypeId}:@QO P c k dst (.call ⟨.builtin .len,x,y⟩) (some (j,want)) s o K = @OPK Bool (GD (@DA j o) s want) ⟨fun g=>@QRg (opX c.ty c.eqt c.pub s dst (.call ⟨.builtin .len,x,y⟩)) g s dst K⟩:=rfl
@[simp] theorem clOp_bmin {x:Array Operand} {y:Array TypeId}:clOp none (.call ⟨.builtin .min,x,y⟩)=.n:=rfl
@[simp] theorem QO_bmin {x:Array Operand} {y:Array TypeId}:@QO P c k dst (.call ⟨.builtin .min,x,y⟩) none s o K = @QR (opX c.ty c.eqt c.pub s dst (.call ⟨.builtin .min,x,y⟩)) s dst K:=rfl
@[simp] theorem QOg_bmin {x:Array Operand} {y:Array TypeId}:@QO P c k dst (.call ⟨.builtin .min,x,y⟩) (some (j,want)) s o K = @OPK Bool (GD (@DA j o) s want) ⟨fun g=>@QRg (opX c.ty c.eqt c.pub s dst (.call ⟨.builtin .min,x,y⟩)) g s dst K⟩:=rfl
@[simp] theorem clOp_bmax {x:Array Operand} {y:Array TypeId}:clOp none (.call ⟨.builtin .max,x,y⟩)=.n:=rfl
@[simp] theorem QO_bmax {x:Array Operand} {y:Array TypeId}:@QO P c k dst (.call ⟨.builtin .max,x,y⟩) none s o K = @QR (opX c.ty c.eqt c.pub s dst (.call ⟨.builtin .max,x,y⟩)) s dst K:=rfl
@[simp] theorem QOg_bmax {x:Array Operand} {y:Array TypeId}:@QO P c k dst (.call ⟨.builtin .max,x,y⟩) (some (j,want)) s o K = @OPK Bool (GD (@DA j o) s want) ⟨fun g=>@QRg (opX c.ty c.eqt c.pub s dst (.call ⟨.builtin .max,x,y⟩)) g s dst K⟩:=rfl
@[simp] theorem clOp_bappend {x:Array Operand} {y:Array TypeId}:clOp none (.call ⟨.builtin .append,x,y⟩)=.x:=rfl
@[simp] theorem XO0_bappend {x:Array Operand} {y:Array TypeId}:@XO0 P c dst (.call ⟨.builtin .append,x,y⟩) s o K Q = @APK c x y s dst K:=rfl
@[simp] theorem clOp_bcap {x:Array Operand} {y:Array TypeId}:clOp none (.call ⟨.builtin .cap,x,y⟩)=.x:=rfl
@[simp] theorem XO0_bcap {x:Array Operand} {y:Array TypeId}:@XO0 P c dst (.call ⟨.builtin .cap,x,y⟩) s o K Q = @RK (opX c.ty c.eqt c.pub s dst (.call ⟨.builtin .cap,x,y⟩)) s dst K:=rfl
@[simp] theorem clOp_bdelete {x:Array Operand} {y:Array TypeId}:clOp none (.call ⟨.builtin .delete,x,y⟩)=.x:=rfl
@[simp] theorem XO0_bdelete {x:Array Operand} {y:Array TypeId}:@XO0 P c dst (.call ⟨.builtin .delete,x,y⟩) s o K Q = @RK (opX c.ty c.eqt c.pub s dst (.call ⟨.builtin .delete,x,y⟩)) s dst K:=rfl
@[simp] theorem clOp_bcopy {x:Array Operand} {y:Array TypeId}:clOp none (.call ⟨.builtin .copy,x,y⟩)=.x:=rfl
@[simp] theorem XO0_bcopy {x:Array Operand} {y:Array TypeId}:@XO0 P c dst (.call ⟨.builtin .copy,x,y⟩) s o K Q = @RK (opX c.ty c.eqt c.pub s dst (.call ⟨.builtin .copy,x,y⟩)) s dst K:=rfl
attribute [simp] LV.still
end
end Go.Aft
end
section
namespace Go.Aft
mutual
def LV.only (keep:List Nat):LV->Prop
 | .lp k _=>k ∈ keep
 | .fn _ first cap=>a3c keep first/\a3c keep cap
 | .ip cs _=>a3c keep cs
 | .agg cs=>a3c keep cs
 | .tup cs=>a3c keep cs
 | .gd g raw=>g=true->LV.only keep raw
 | _=>True
def a3c (keep:List Nat):List LV->Prop
 | []=>True
 | c :: cs=>LV.only keep c/\a3c keep cs
end
def b1s (keep:List Nat) (lm:Nat->Option Nat):Nat->Option Nat:=fun k=>if k ∈ keep then lm k else none
mutual
theorem c0j {G:Gh} {nx:Nat} {lm:Nat->Option Nat} {keep:List Nat}:∀ (x:LV) (v:Value),LR G nx lm x v->x.only keep->LR G nx (b1s keep lm) x v
 | .d x,v,h,_=>by unfold LR at h |-;exact h
 | .lp k off,v,h,hb=>by
  unfold LV.only at hb
  unfold LR at h |-
  obtain ⟨b,h1,h2⟩:=h
  exact ⟨b,by unfold b1s;rw [if_pos hb];exact h1,h2⟩
 | .gp m off,v,h,hb=>by unfold LR at h |-;exact h
 | .ep xs es i off,v,h,_=>by unfold LR at h |-;exact h
 | .osl m xs,v,h,hb=>by unfold LR at h |-;exact h
 | .vs _ _ _ _ _,v,h,hb=>by unfold LR at h |-;exact h
 | .vp _ _ _,v,h,hb=>by unfold LR at h |-;exact h
 | .yl _,v,h,hb=>by unfold LR at h |-;exact h
 | .ip cs off,v,h,hb=>by unfold LV.only at hb;unfold LR at h |-;obtain ⟨b,h1,h2⟩:=h;exact ⟨b,h1,e7c b 0 cs h2 hb⟩
 | .gm m,v,h,hb=>by unfold LR at h |-;exact h
 | .fn f first cap,v,h,hb=>by
  unfold LR at h |-;unfold LV.only at hb
  obtain ⟨fs,cs,h1,h2,h3⟩:=h
  exact ⟨fs,cs,h1,a8s _ _ h2 hb.1,a8s _ _ h3 hb.2⟩
 | .agg cs,v,h,hb=>by unfold LR at h |-;unfold LV.only at hb;obtain ⟨vs,h1,h2⟩:=h;exact ⟨vs,h1,a8s _ _ h2 hb⟩
 | .tup cs,v,h,hb=>by unfold LR at h |-;unfold LV.only at hb;obtain ⟨vs,h1,h2⟩:=h;exact ⟨vs,h1,a8s _ _ h2 hb⟩
 | .gd g raw,v,h,hb=>by unfold LR at h |-;unfold LV.only at hb;exact ⟨fun e=>c0j raw v (h.1 e) (hb e),h.2⟩
 | .any,v,_,_=>by simp [LR]
theorem a8s {G:Gh} {nx:Nat} {lm:Nat->Option Nat} {keep:List Nat}:∀ (xs:List LV) (vs:List Value),LRs G nx lm xs vs->a3c keep xs->LRs G nx (b1s keep lm) xs vs
 | [],vs,h,_=>by unfold LRs at h |-;exact h
 | c :: cs,vs,h,hb=>by
  unfold LRs at h |-;unfold a3c at hb
  obtain ⟨v,r,h1,h2,h3⟩:=h
  exact ⟨v,r,h1,c0j c v h2 hb.1,a8s cs r h3 hb.2⟩
theorem e7c {G:Gh} {nx:Nat} {lm:Nat->Option Nat} {keep:List Nat}:∀ (b o:Nat) (xs:List LV),IR G nx lm b o xs->a3c keep xs->IR G nx (b1s keep lm) b o xs
 | b,o,[],h,_=>by simp [IR]
 | b,o,c :: cs,h,hb=>by
  unfold IR at h |-;unfold a3c at hb
  obtain ⟨⟨v,h1,h1',h2⟩,h3⟩:=h
  exact ⟨⟨v,h1,h1',c0j c v h2 hb.1⟩,e7c b (o+1) cs h3 hb.2⟩
end
def cutL (keep:List Nat) (L:Nat->Option (List LV)):Nat->Option (List LV):=fun k=>if k ∈ keep then L k else none
def cutE (live:List Nat) (env:Nat->LV):Nat->LV:=fun t=>if t ∈ live then env t else .any
theorem e1a {keep:List Nat} {L:Nat->Option (List LV)} {k:Nat}:cutL keep L k=if k ∈ keep then L k else none:=rfl
theorem e1b {live:List Nat} {env:Nat->LV} {k:Nat}:cutE live env k=if k ∈ live then env k else .any:=rfl
def S.cut (s:S) (live keep:List Nat):S:=⟨cutE live s.env,cutL keep s.L,s.H,s.nt,s.df⟩
def d4m (keep:List Nat) (L:Nat->Option (List LV)):Prop:=∀ k,k ∉ keep->L k=none
theorem d4m.get {keep:List Nat} {L:Nat->Option (List LV)} (h:d4m keep L) {k:Nat} (hk:k ∉ keep):L k=none:=h k hk
@[simp] theorem NoneBut_cut {keep:List Nat} {L:Nat->Option (List LV)}:d4m keep (cutL keep L):=fun k hk=>by unfold cutL;rw [if_neg hk]
def allL {α:Type} (p:α->Prop):List α->Prop
 | []=>True
 | x :: xs=>p x/\allL p xs
theorem c6c {α:Type} {p:α->Prop}:∀ {l:List α},allL p l->∀ x ∈ l,p x
 | _ :: _,h,x,hx=>by
  rcases List.mem_cons.1 hx with rfl | hx
  ·exact h.1
  ·exact c6c h.2 x hx
def c0c (keep:List Nat) (x:Option (List LV)):Prop:=match x with | some cs=>a3c keep cs | none=>True
def S.d3o (s:S) (live keep:List Nat):Prop:=allL (fun t=>(s.env t).only keep) live/\allL (fun k=>c0c keep (s.L k)) keep
theorem Sim.cut {E:Ent} {s:S} {a:Act} {w:World} (h:Sim E s a w) {live keep:List Nat} (hc:s.d3o live keep):Sim E (s.cut live keep) a w:=by
 obtain ⟨h2,G,lm,h1,hM,hx,henv,_⟩:=h
 have hl:=c6c hc.1
 have hk:=c6c hc.2
 refine ⟨h2,G,b1s keep lm,h1,⟨hM.imm,hM.immOwn,hM.fresh,fun k hn=>?_,fun k cs hs=>?_,hM.nmd⟩,hx,fun t=>?_,rfl⟩
 ·unfold b1s
  by_cases e:k ∈ keep
  ·rw [if_pos e];refine hM.lmL k ?_
   simp only [S.cut,cutL] at hn;rw [if_pos e] at hn;exact hn
  ·rw [if_neg e]
 ·simp only [S.cut,cutL] at hs
  by_cases e:k ∈ keep
  ·rw [if_pos e] at hs
   obtain ⟨b,vs,q1,q2,q3,q4⟩:=hM.loc k cs hs
   have ho:=hk k e
   simp only [c0c,hs] at ho
   exact ⟨b,vs,by unfold b1s;rw [if_pos e];exact q1,q2,q3,a8s _ _ q4 ho⟩
  ·rw [if_neg e] at hs;cases hs
 ·simp only [S.cut,cutE]
  by_cases e:t ∈ live
  ·rw [if_pos e];exact c0j _ _ (henv t) (hl t e)
  ·rw [if_neg e];simp [LR]
theorem AWp.cut {P:Program} {rd:RD} {x:Code} {s:S} {Q:AE->S->Prop} (live keep:List Nat) (hc:s.d3o live keep) (h:AWp P rd x (s.cut live keep) Q):AWp P rd x s Q:=fun E a w hs=>h E a w (hs.cut hc)
theorem AW.loop {P:Program} {c:Cx} (hc:c.ok P) {x:Code} {s:S} {Q:QT} (live keep:List Nat) (I:Nat->S->Prop) (h₀:s.d3o live keep/\∃ n,I n (s.cut live keep))
  (round:∀ n s,I n s->@EV P c ⟨x⟩ s ⟨@TH ⟨fun s'=>s'.d3o live keep/\∃ m,m < n/\I m (s'.cut live keep)⟩ Q⟩):@AW P c.rd ⟨.loop x⟩ s Q:=by
 refine AWp.loop (fun n s=>s.d3o live keep/\I n (s.cut live keep)) (by obtain ⟨h1,n,h2⟩:=h₀;exact ⟨n,h1,h2⟩) fun n s h=>?_
 refine AWp.cut live keep h.1 ?_
 refine (EV.sound (Q:=@TH ⟨fun s'=>s'.d3o live keep/\∃ m,m < n/\I m (s'.cut live keep)⟩ Q) hc (round n _ h.2)).mono fun e s' q=>?_
 cases e with
 | normal=>obtain ⟨h1,m,h2,h3⟩:=q;exact ⟨m,h2,h1,h3⟩
 | _=>exact q
attribute [simp] LV.only a3c S.cut e1a e1b allL c0c S.d3o
def App (e:TypeId) (sz:Nat) (H0:GH) (x:LV) (rows:List (List DV)) (H:GH):Prop :=
 (rows=[]/\x=.d (.k (.slice none 0 0))/\H=H0) \/
 (x=.osl H0.next rows/\H.next=H0.next+1/\H.obj H0.next=some (.arr e sz rows.length)/\∀ m,m < H0.next->H.obj m=H0.obj m)
theorem App.nil {e:TypeId} {sz:Nat} {H0:GH}:App e sz H0 (.d (.k (.slice none 0 0))) [] H0:=.inl ⟨rfl,rfl,rfl⟩
theorem App.first {e:TypeId} {sz:Nat} {H0:GH} {rows:List (List DV)} {n:Nat} (hn:rows.length=n):App e sz H0 (.osl H0.next rows) rows (H0.add (.arr e sz n)):=by
 subst hn
 exact .inr ⟨rfl,rfl,by simp [GH.add],fun m hm=>by simp [GH.add,upd,Nat.ne_of_lt hm]⟩
theorem App.more {e:TypeId} {sz:Nat} {H0 H:GH} {rows:List (List DV)} {n:Nat} (h1:H.next=H0.next+1) (h3:∀ m,m < H0.next->H.obj m=H0.obj m) (hn:rows.length=n):App e sz H0 (.osl H0.next rows) rows (H.set H0.next (.arr e sz n)):=by
 subst hn
 exact .inr ⟨rfl,h1,by simp [GH.set],fun m hm=>by simp [GH.set,upd,Nat.ne_of_lt hm,h3 m hm]⟩
end Go.Aft
end
