import Derived.Test.YthinedikejlgmaaGreatA11
set_option linter.all false
section
namespace Go.Aft
class DT where
 pf:List (Nat×Cl)
 sched:Nu
def AT(j:Nat)[o:OT]:Option Oper:=o.l[j]?
def QR(r:Option uL)(s:S)(dst:Option Nat)[K:KT]:Prop:=match r with
 |some ⟨pre,v,.no⟩=>pre/\AP (s.put dst v)
 |_=>False
def uC(r:Option uL)(g:Bool)(s:S)(dst:Option Nat)[K:KT]:Prop:=match r with
 |some ⟨pre,v,.no⟩=>(g=true->pre)/\AP (s.put dst (.gd g v))
 |none=>g=false/\AP (s.put dst (.gd g .any))
 |_=>False
def FC(P:Program)(k:Cl)(f:FuncId)(args:List LV)(s:S)(dst:Option Nat)[K:KT]:Prop:=∃v,FV P s k f args v/\AP (s.put dst v)
def sV(P:Program)(k:Cl)(f:FuncId)(args:List LV)(g:Bool)(s:S)(dst:Option Nat)[K:KT]:Prop:=∃v,(g=true->FV P s k f args v)/\AP (s.put dst (.gd g v))
def ya(P:Program)(f:FuncId)(args:List LV)(H:GH)(s:S)(dst:Option Nat)[o:OT][K:KT][Q:QT]:Prop:=
 aF P f args H (λce H'=>match ce with
    |.ret v=>s.H.next<=H'.next->AP (({s with H:=H'}:S).put dst v)
    |.dY x=>∀env,(∀t,QX o.l.toArray t=true->env t=s.env t)->Q.q (.dY x) {s with H:=H',env:=env})
def QO(P:Program)(c:Cx)(k:Cl)(dst:Option Nat)(op:Op)(g:Option (Nat×Bool))(s:S)[o:OT][K:KT]:Prop:=
 match g with
 |none=>
  match op with
  |.pick x a b=>@BK (s.arg x) ⟨λg=>s.aI x/\(g=true->s.aI a)/\(g=false->s.aI b)/\AP (s.put dst (mu g (s.arg a) (s.arg b)))⟩
  |.call ⟨.value fo,args,_⟩=>@iU _ (cu (s.arg fo)) ⟨λp=>s.aI fo/\iL (args.toList.map s.aI)/\ct s.H.next (p.2.1++args.toList.map s.arg++p.2.2)/\FC P k p.1 (p.2.1++args.toList.map s.arg++p.2.2) s dst⟩
  |.load T p=>match k with|.n=>(s.arg p).still/\QR (bS c.ty c.bP c.bJ s dst (.load T p)) s dst|_=>QR (bS c.ty c.bP c.bJ s dst (.load T p)) s dst
  |op=>QR (bS c.ty c.bP c.bJ s dst op) s dst
 |some (j,want)=>@iU Bool (GD (DA j) s want) ⟨λg=>
  match op with
  |.pick x a b=>@BK (s.arg x) ⟨λh=>(g=true->s.aI x/\(h=true->s.aI a)/\(h=false->s.aI b))/\AP (s.put dst (.gd g (mu h (s.arg a) (s.arg b))))⟩
  |.call ⟨.value fo,args,_⟩=>@iU _ (cu (s.arg fo)) ⟨λp=>(g=true->s.aI fo/\iL (args.toList.map s.aI)/\ct s.H.next (p.2.1++args.toList.map s.arg++p.2.2))/\sV P k p.1 (p.2.1++args.toList.map s.arg++p.2.2) g s dst⟩
  |.load T p=>match k with|.n=>(g=true->(s.arg p).still)/\uC (bS c.ty c.bP c.bJ s dst (.load T p)) g s dst|_=>uC (bS c.ty c.bP c.bJ s dst (.load T p)) g s dst
  |op=>uC (bS c.ty c.bP c.bJ s dst op) g s dst⟩
def BI(P:Program)(c:Cx)(dst:Option Nat)(op:Op)(s:S)[o:OT][K:KT][Q:QT]:Prop:=
 match op with
 |.call ⟨.value fo,args,_⟩=>@iU _ (cu (s.arg fo)) ⟨λp=>s.aI fo/\iL (args.toList.map s.aI)/\ct s.H.next (p.2.1++args.toList.map s.arg++p.2.2)/\ya P p.1 (p.2.1++args.toList.map s.arg++p.2.2) s.H s dst⟩
 |.panic _=>False
 |op=>RK (bS c.ty c.bP c.bJ s dst op) s dst
def XO(P:Program)(c:Cx)(dst:Option Nat)(op:Op)(g:Option (Nat×Bool))(s:S)[o:OT][K:KT][Q:QT]:Prop:=
 match g with
 |none=>BI P c dst op s
 |some (j,want)=>@iU Bool (GD (DA j) s want) ⟨λg=>(g=true->BI P c dst op s)/\(g=false->AP (s.put dst .any))⟩
def DY(P:Program)(c:Cx)(k:Cl)(dst:Option Nat)(op:Op)(g:Option (Nat×Bool))(s:S)[o:OT][K:KT][Q:QT]:Prop:=
 match k with
 |.n=>QO P c .n dst op g s
 |.r=>QO P c .r dst op g s
 |_=>XO P c dst op g s
def DX(P:Program)(c:Cx)(x:Option Oper)(b:Option Cl)(s:S)[o:OT][K:KT][Q:QT]:Prop:=match x with
 |none=>False
 |some ⟨dst,op,_,_,_,g⟩=>xZ dst s.nt/\DY P c (dZ b op) dst op g s
mutual
def RW(P:Program)(c:Cx)(l:List Oper)(pf:List (Nat×Cl))(Q:QT):Nu->S->Prop
 |.done,s=>Q.q .normal s
 |.q i k,s=>@DX P c (@AT i ⟨l,[]⟩) (pf.lookup i) s ⟨l,[]⟩ ⟨λs'=>RW P c l pf Q k s'⟩ Q
 |.f ks,s=>RWs P c l pf Q ks s
def RWs(P:Program)(c:Cx)(l:List Oper)(pf:List (Nat×Cl))(Q:QT):rY->S->Prop
 |.nil,_=>True
 |.cons i k r,s=>@DX P c (@AT i ⟨l,[]⟩) (pf.lookup i) s ⟨l,[]⟩ ⟨λs'=>RW P c l pf Q k s'⟩ Q/\RWs P c l pf Q r s
end
def Tz(P:Program)(c:Cx)[o:OT][d:DT](s:S)[Q:QT]:Prop:=RW P c o.l d.pf Q d.sched s
class DTs where
 pf:List (Nat×Cl)
 sched:rY
def FM(P:Program)(c:Cx)[o:OT][d:DTs](s:S)[Q:QT]:Prop:=RWs P c o.l d.pf Q d.sched s
section
variable {P:Program} {c:Cx} {l rest:List Oper} {pf:List (Nat×Cl)} {k:Cl} {s:S} {Q:QT} {K:KT} {dst:Option Nat}
theorem sd{op:Op}(hf:Iu op=false)(hp:∀x a b,op≠ .pick x a b)(h:jY k op s/\@QR (bS c.ty c.bP c.bJ s dst op) s dst K):∃v,Wb P c k s dst op v/\K.k (s.put dst v):=by
 obtain⟨hst,h⟩:=h;unfold QR at h
 split at h
 ·rename_i pre v e;refine⟨v,?_,h.2⟩;have:∃pre,bS c.ty c.bP c.bJ s dst op=some ⟨pre,v,.no⟩/\pre/\jY k op s:=⟨pre,e,h.1,hst⟩;cases op with
  |pick x a b=>exact absurd rfl (hp x a b)
  |call cl=>obtain⟨callee,args,tys⟩:=cl;cases callee<;>first|exact this|cases hf
  |_=>exact this
 ·exact h.elim
theorem oS{op:Op}{g:Bool}(hf:Iu op=false)(hp:∀x a b,op≠ .pick x a b)(h:(g=true->jY k op s)/\@uC (bS c.ty c.bP c.bJ s dst op) g s dst K):∃v,(g=true->Wb P c k s dst op v)/\K.k (s.put dst (.gd g v)):=by
 obtain⟨hst,h⟩:=h;unfold uC at h
 split at h
 ·rename_i pre v e;refine⟨v,λq=>?_,h.2⟩
  have:∃pre,bS c.ty c.bP c.bJ s dst op=some ⟨pre,v,.no⟩/\pre/\jY k op s:=⟨pre,e,h.1 q,hst q⟩;cases op with
  |pick x a b=>exact absurd rfl (hp x a b)
  |call cl=>obtain⟨callee,args,tys⟩:=cl;cases callee<;>first|exact this|cases hf
  |_=>exact this
 ·exact⟨.any,λq=>(by rw[h.1]at q;cases q),h.2⟩
 ·exact h.elim
theorem NL{x:LV}{F:FA Bool}(h:@BK x F):∃g,x=.d (.k (.bool g))/\F.f g:=by
 unfold BK at h
 split at h
 ·exact⟨_,rfl,h⟩
 ·exact h.elim
theorem se{α:Type}{x:Option α}{F:FA α}(h:@iU α x F):∃g,x=some g/\F.f g:=by
 unfold iU at h
 split at h
 ·exact⟨_,rfl,h⟩
 ·exact h.elim
theorem JU{op:Op}{g:Option (Nat×Bool)}{T:TypeId}{pos:String}{af:Array Edge}(h:@QO P c k dst op g s ⟨l,[]⟩ K):∃v,QV P c k l.toArray s ⟨dst,op,T,pos,af,g⟩ v/\K.k (s.put dst v):=by
 cases g with
 |none=>
  unfold QV;simp only;cases op with
  |pick x a b=>
   obtain⟨g,e,h1,h2,h3,h4⟩:=NL h;exact⟨_,⟨g,e,h1,h2,h3,rfl⟩,h4⟩
  |call cl=>
   obtain⟨callee,args,tys⟩:=cl;cases callee with
   |value fo=>
    obtain⟨⟨f,first,cap⟩,e,h1,h2,h3,v,h4,h5⟩:=se h
    exact⟨v,⟨f,first,cap,e,h1,h2,h3,h4⟩,h5⟩
   |builtin b=>exact sd rfl (λ_ _ _ q=>by cases q) ⟨by cases k<;>trivial,h⟩
   |invoke f m=>exact sd rfl (λ_ _ _ q=>by cases q) ⟨by cases k<;>trivial,h⟩
  |load T p=>cases k<;>first|exact sd rfl (λ_ _ _ q=>by cases q) ⟨trivial,h⟩|exact sd rfl (λ_ _ _ q=>by cases q) h
  |_=>exact sd rfl (λ_ _ _ q=>by cases q) ⟨by cases k<;>trivial,h⟩
 |some jw=>
  obtain⟨j,want⟩:=jw;unfold QV;simp only;obtain⟨g,e,h⟩:=se h;rw[Th]at e;have fin:(∃v,(g=true->Wb P c k s dst op v)/\K.k (s.put dst (.gd g v)))->∃v,(∃g u,guardOf l.toArray s j want=some g/\v=.gd g u/\(g=true->Wb P c k s dst op u))/\K.k (s.put dst v):=
   λ⟨v,h1,h2⟩=>⟨.gd g v,⟨g,v,e,rfl,h1⟩,h2⟩
  apply fin;cases op with
  |pick x a b=>
   obtain⟨g',e',h1,h4⟩:=NL h;exact⟨_,λq=>⟨g',e',(h1 q).1,(h1 q).2.1,(h1 q).2.2,rfl⟩,h4⟩
  |call cl=>
   obtain⟨callee,args,tys⟩:=cl;cases callee with
   |value fo=>
    obtain⟨⟨f,first,cap⟩,e',h1,v,h4,h5⟩:=se h
    exact⟨v,λq=>⟨f,first,cap,e',(h1 q).1,(h1 q).2.1,(h1 q).2.2,h4 q⟩,h5⟩
   |builtin b=>exact oS rfl (λ_ _ _ q=>by cases q) ⟨λ_=>by cases k<;>trivial,h⟩
   |invoke f m=>exact oS rfl (λ_ _ _ q=>by cases q) ⟨λ_=>by cases k<;>trivial,h⟩
  |load T p=>cases k<;>first|exact oS rfl (λ_ _ _ q=>by cases q) ⟨λ_=>trivial,h⟩|exact oS rfl (λ_ _ _ q=>by cases q) h
  |_=>exact oS rfl (λ_ _ _ q=>by cases q) ⟨λ_=>by cases k<;>trivial,h⟩
theorem FL{r:Option uL}(h:@RK r s dst K):∃x,r=some x/\x.pre/\K.k ((s.jU dst x.jU).put dst x.v):=by
 cases r with
 |none=>exact h.elim
 |some x=>exact⟨x,rfl,h.1,h.2⟩
theorem D9{op:Op}(h:@BI P c dst op s ⟨l,[]⟩ K Q):EF0 P c l.toArray s dst op K.k Q.q:=by
 cases op with
 |call cl=>
  obtain⟨callee,args,tys⟩:=cl;cases callee with
  |value fo=>
   obtain⟨⟨f,first,cap⟩,e,h1,h2,h3,h4⟩:=se h
   exact⟨f,first,cap,e,h1,h2,h3,h4⟩
  |builtin b=>exact FL h
  |invoke f m=>exact FL h
 |panic x=>exact h.elim
 |_=>exact FL h
theorem JO{op:Op}{g:Option (Nat×Bool)}{T:TypeId}{pos:String}{af:Array Edge}(h:@XO P c dst op g s ⟨l,[]⟩ K Q):EF P c l.toArray s ⟨dst,op,T,pos,af,g⟩ K.k Q.q:=by
 unfold EF;cases g with
 |none=>exact D9 h
 |some jw=>
  obtain⟨j,want⟩:=jw;obtain⟨g,e,h1,h2⟩:=se h;rw[Th]at e;exact⟨g,e,λq=>D9 (h1 q),h2⟩
theorem J3{i:Nat}{b:Option Cl}(hb:b=pf.lookup i)(h:@DX P c l[i]? b s ⟨l,[]⟩ K Q):JX P c l.toArray pf i s K.k Q.q:=by
 subst hb;unfold JX;simp only[List.getElem?_toArray];cases ho:l[i]? with
 |none=>rw[ho]at h;exact h.elim
 |some o=>
  rw[ho]at h;obtain⟨dst,op,T,pos,af,g⟩:=o;obtain⟨h1,h2⟩:=h;have ecl:dH pf i ⟨dst,op,T,pos,af,g⟩=dZ (pf.lookup i) op:=rfl;simp only;refine⟨λt ht=>by subst ht;exact h1,?_⟩
  rw[ecl];cases hq:dZ (pf.lookup i) op with
  |n=>
   rw[hq]at h2;rw[if_pos (.inl rfl)];exact JU (T:=T) (pos:=pos) (af:=af) (c:=c) h2
  |r=>
   rw[hq]at h2;rw[if_pos (.inr rfl)];exact JU (T:=T) (pos:=pos) (af:=af) (c:=c) h2
  |c=>
   rw[hq]at h2;rw[if_neg (by simp)]
   exact JO (T:=T) (pos:=pos) (af:=af) h2
  |x=>
   rw[hq]at h2;rw[if_neg (by simp)]
   exact JO (T:=T) (pos:=pos) (af:=af) h2
mutual
theorem BN:∀(sched:Nu) (s:S),RW P c l pf Q sched s->GA P c l.toArray pf Q.q sched s
 |.done,s,h=>h
 |.q i k,s,h=>by
  simp only[GA];unfold RW AT at h;exact vH (λs' _ hK=>BN k s' hK) (J3 rfl h)
 |.f ks,s,h=>by
  simp only[GA];unfold RW at h;exact Eb ks s h
theorem Eb:∀(sched:rY) (s:S),RWs P c l pf Q sched s->zy P c l.toArray pf Q.q sched s
 |.nil,s,h=>by simp only[zy]
 |.cons i k r,s,h=>by
  simp only[zy];unfold RWs AT at h;exact⟨vH (λs' _ hK=>BN k s' hK) (J3 rfl h.1),Eb r s h.2⟩
end
theorem AW.draw{rd:RD}(hc:c.ok P){id:Nat}(pf:List (Nat×Cl))(sched:Nu)(hB:Cc pf l.toArray sched l.toArray.size (Array.replicate l.toArray.size false)=true)(h:@Tz P c ⟨l,[]⟩ ⟨pf,sched⟩ s Q):@AW P rd ⟨.region id l.toArray true⟩ s Q:=
 eV.draw hc pf sched hB (BN sched s h)
@[simp] theorem RDi_nil:@Tz P c ⟨l,rest⟩ ⟨pf,.done⟩ s Q=Q.q .normal s:=by simp only [Tz,RW]
@[simp] theorem RDi_cons {i:Nat} {k:Nu}:@Tz P c ⟨l,rest⟩ ⟨pf,.q i k⟩ s Q = @DX P c (@AT i ⟨l,[]⟩) (pf.lookup i) s ⟨l,[]⟩ ⟨fun s'=>@Tz P c ⟨l,rest⟩ ⟨pf,k⟩ s' Q⟩ Q:=by simp only [Tz,RW];rfl
@[simp] theorem RDi_f {ks:rY}:@Tz P c ⟨l,rest⟩ ⟨pf,.f ks⟩ s Q = @FM P c ⟨l,rest⟩ ⟨pf,ks⟩ s Q:=by simp only [Tz,FM,RW]
@[simp] theorem RDsi_one {i:Nat} {k:Nu}:@FM P c ⟨l,rest⟩ ⟨pf,.one i k⟩ s Q = @DX P c (@AT i ⟨l,[]⟩) (pf.lookup i) s ⟨l,[]⟩ ⟨fun s'=>@Tz P c ⟨l,rest⟩ ⟨pf,k⟩ s' Q⟩ Q:=by simp only [FM,RWs,rY.one,and_true];rfl
@[simp] theorem RDsi_nil:@FM P c ⟨l,rest⟩ ⟨pf,.nil⟩ s Q=True:=by simp only [FM,RWs]
@[simp] theorem RDsi_cons {i:Nat} {k:Nu} {r:rY}:@FM P c ⟨l,rest⟩ ⟨pf,.cons i k r⟩ s Q=(@DX P c (@AT i ⟨l,[]⟩) (pf.lookup i) s ⟨l,[]⟩ ⟨fun s'=>@Tz P c ⟨l,rest⟩ ⟨pf,k⟩ s' Q⟩ Q/\@FM P c ⟨l,rest⟩ ⟨pf,r⟩ s Q):=by simp only [FM,RWs];rfl
@[simp] theorem LK_nil {i:Nat}:List.lookup i ([]:List (Nat × Cl))=none:=rfl
@[simp] theorem LK_cons {i j:Nat} {k:Cl}:List.lookup i ((j,k) :: pf)=if i=j then some k else List.lookup i pf:=by
 simp only[List.lookup];by_cases h:i=j
 ·simp[h]
 ·rw[if_neg h,beq_false_of_ne h]
variable {T:TypeId} {pos:String} {af:Array Edge} {g:Option (Nat×Bool)} {j:Nat} {want:Bool} {o:OT}
@[simp] theorem AT_zero {x:Oper}:@AT 0 ⟨x :: l,rest⟩=some x:=rfl
@[simp] theorem AT_succ {x:Oper}:@AT (j+1) ⟨x :: l,rest⟩ = @AT j ⟨l,[]⟩:=by simp [AT]
@[simp] theorem DX_some {op:Op} {b:Option Cl}:@DX P c (some ⟨dst,op,T,pos,af,g⟩) b s o K Q=(xZ dst s.nt/\@DY P c (dZ b op) dst op g s o K Q):=rfl
@[simp] theorem DY_n {op:Op}:@DY P c .n dst op g s o K Q = @QO P c .n dst op g s o K:=rfl
@[simp] theorem DY_r {op:Op}:@DY P c .r dst op g s o K Q = @QO P c .r dst op g s o K:=rfl
@[simp] theorem DY_c {op:Op}:@DY P c .c dst op g s o K Q = @XO P c dst op g s o K Q:=rfl
@[simp] theorem DY_x {op:Op}:@DY P c .x dst op g s o K Q = @XO P c dst op g s o K Q:=rfl
@[simp] theorem QR_some {pre:Prop} {v:LV}:@QR (some ⟨pre,v,.no⟩) s dst K=(pre/\@AP K (s.put dst v)):=rfl
@[simp] theorem QRg_some {pre:Prop} {v:LV} {g:Bool}:@uC (some ⟨pre,v,.no⟩) g s dst K=((g=true->pre)/\@AP K (s.put dst (.gd g v))):=rfl
@[simp] theorem QRg_none:@uC none false s dst K = @AP K (s.put dst (.gd false .any)):=by simp [uC]
@[simp] theorem XO_none {op:Op}:@XO P c dst op none s o K Q = @BI P c dst op s o K Q:=rfl
@[simp] theorem XO_some {op:Op}:@XO P c dst op (some (j,want)) s o K Q = @iU Bool (GD (@DA j o) s want) ⟨fun g=>(g=true->@BI P c dst op s o K Q)/\(g=false->@AP K (s.put dst .any))⟩:=rfl
theorem FC.aJ{f:FuncId}{args:List LV}{v:LV}(h:aC P f args v)(hk:@AP K (s.put dst v)):@FC P .n f args s dst K:=⟨v,h,hk⟩
theorem sV.aJ{f:FuncId}{args:List LV}{g:Bool}{v:LV}(h:g=true->aC P f args v)(hk:@AP K (s.put dst (.gd g v))):@sV P .n f args g s dst K:=⟨v,h,hk⟩
@[simp] theorem clOp_fn {fo:Operand} {x:Array Operand} {y:Array TypeId}:dZ none (.call ⟨.value fo,x,y⟩)=.x:=rfl
@[simp] theorem clOp_fn_n {fo:Operand} {x:Array Operand} {y:Array TypeId}:dZ (some .n) (.call ⟨.value fo,x,y⟩)=.n:=rfl
@[simp] theorem clOp_fn_r {fo:Operand} {x:Array Operand} {y:Array TypeId}:dZ (some .r) (.call ⟨.value fo,x,y⟩)=.r:=rfl
@[simp] theorem QO_pick {x a b:Operand}:@QO P c k dst (.pick x a b) none s o K = @BK (s.arg x) ⟨fun g=>s.aI x/\(g=true->s.aI a)/\(g=false->s.aI b)/\@AP K (s.put dst (mu g (s.arg a) (s.arg b)))⟩:=rfl
@[simp] theorem QOg_pick {x a b:Operand}:@QO P c k dst (.pick x a b) (some (j,want)) s o K = @iU Bool (GD (@DA j o) s want) ⟨fun g=>@BK (s.arg x) ⟨fun h=>(g=true->s.aI x/\(h=true->s.aI a)/\(h=false->s.aI b))/\@AP K (s.put dst (.gd g (mu h (s.arg a) (s.arg b))))⟩⟩:=rfl
@[simp] theorem clOp_pick {x y z:Operand}:dZ none (.pick x y z)=.n:=rfl
@[simp] theorem QO_fn {fo:Operand} {args:Array Operand} {tys:Array TypeId}:@QO P c k dst (.call ⟨.value fo,args,tys⟩) none s o K = @iU _ (cu (s.arg fo)) ⟨fun p=>s.aI fo/\iL (args.toList.map s.aI)/\ct s.H.next (p.2.1 ++ args.toList.map s.arg ++ p.2.2)/\@FC P k p.1 (p.2.1 ++ args.toList.map s.arg ++ p.2.2) s dst K⟩:=rfl
@[simp] theorem QOg_fn {fo:Operand} {args:Array Operand} {tys:Array TypeId}:@QO P c k dst (.call ⟨.value fo,args,tys⟩) (some (j,want)) s o K = @iU Bool (GD (@DA j o) s want) ⟨fun g=>@iU _ (cu (s.arg fo)) ⟨fun p=>(g=true->s.aI fo/\iL (args.toList.map s.aI)/\ct s.H.next (p.2.1 ++ args.toList.map s.arg ++ p.2.2))/\@sV P k p.1 (p.2.1 ++ args.toList.map s.arg ++ p.2.2) g s dst K⟩⟩:=rfl
@[simp] theorem XO0_fn {fo:Operand} {args:Array Operand} {tys:Array TypeId}:@BI P c dst (.call ⟨.value fo,args,tys⟩) s o K Q = @iU _ (cu (s.arg fo)) ⟨fun p=>s.aI fo/\iL (args.toList.map s.aI)/\ct s.H.next (p.2.1 ++ args.toList.map s.arg ++ p.2.2)/\@ya P p.1 (p.2.1 ++ args.toList.map s.arg ++ p.2.2) s.H s dst o K Q⟩:=rfl
theorem ya.of{f:FuncId}{args:List LV}{H:GH}{R:CE->GH->Prop}(h:aF P f args H R)(hk:∀v H',R (.ret v) H'->s.H.next<=H'.next->@AP K (({s with H:=H'}:S).put dst v))
  (hp:∀x H' env,R (.dY x) H'->(∀t,QX o.l.toArray t=true->env t=s.env t)->Q.q (.dY x) {s with H:=H',env:=env}):@ya P f args H s dst o K Q:=
 h.mono λce H' hR=>by
  cases ce with
  |ret v=>exact hk v H' hR
  |dY x=>exact λenv=>hp x H' env hR
@[simp] theorem clOp_move {x0:Operand}:dZ none (.move x0)=.n:=rfl
@[simp] theorem QO_move {x0:Operand}:@QO P c k dst (.move x0) none s o K = @QR (bS c.ty c.bP c.bJ s dst (.move x0)) s dst K:=rfl
@[simp] theorem QOg_move {x0:Operand}:@QO P c k dst (.move x0) (some (j,want)) s o K = @iU Bool (GD (@DA j o) s want) ⟨fun g=>@uC (bS c.ty c.bP c.bJ s dst (.move x0)) g s dst K⟩:=rfl
@[simp] theorem clOp_assign {x0:Operand}:dZ none (.assign x0)=.n:=rfl
@[simp] theorem QO_assign {x0:Operand}:@QO P c k dst (.assign x0) none s o K = @QR (bS c.ty c.bP c.bJ s dst (.assign x0)) s dst K:=rfl
@[simp] theorem QOg_assign {x0:Operand}:@QO P c k dst (.assign x0) (some (j,want)) s o K = @iU Bool (GD (@DA j o) s want) ⟨fun g=>@uC (bS c.ty c.bP c.bJ s dst (.assign x0)) g s dst K⟩:=rfl
@[simp] theorem clOp_alloc {x0:TypeId}:dZ none (.alloc x0)=.c:=rfl
@[simp] theorem XO0_alloc {x0:TypeId}:@BI P c dst (.alloc x0) s o K Q = @RK (bS c.ty c.bP c.bJ s dst (.alloc x0)) s dst K:=rfl
@[simp] theorem clOp_box {x0:TypeId} {x1:Operand}:dZ none (.box x0 x1)=.c:=rfl
@[simp] theorem XO0_box {x0:TypeId} {x1:Operand}:@BI P c dst (.box x0 x1) s o K Q = @RK (bS c.ty c.bP c.bJ s dst (.box x0 x1)) s dst K:=rfl
@[simp] theorem clOp_build {x0:TypeId} {x1:Array (Nat × Operand)}:dZ none (.build x0 x1)=.n:=rfl
@[simp] theorem QO_build {x0:TypeId} {x1:Array (Nat × Operand)}:@QO P c k dst (.build x0 x1) none s o K = @QR (bS c.ty c.bP c.bJ s dst (.build x0 x1)) s dst K:=rfl
@[simp] theorem QOg_build {x0:TypeId} {x1:Array (Nat × Operand)}:@QO P c k dst (.build x0 x1) (some (j,want)) s o K = @iU Bool (GD (@DA j o) s want) ⟨fun g=>@uC (bS c.ty c.bP c.bJ s dst (.build x0 x1)) g s dst K⟩:=rfl
@[simp] theorem PT {x0:TypeId} {x1:Nat} {x2:Array (Nat × Operand)}:dZ none (.buildSlice x0 x1 x2)=.n:=rfl
@[simp] theorem TD {x0:TypeId} {x1:Nat} {x2:Array (Nat × Operand)}:@QO P c k dst (.buildSlice x0 x1 x2) none s o K = @QR (bS c.ty c.bP c.bJ s dst (.buildSlice x0 x1 x2)) s dst K:=rfl
@[simp] theorem Ta {x0:TypeId} {x1:Nat} {x2:Array (Nat × Operand)}:@QO P c k dst (.buildSlice x0 x1 x2) (some (j,want)) s o K = @iU Bool (GD (@DA j o) s want) ⟨fun g=>@uC (bS c.ty c.bP c.bJ s dst (.buildSlice x0 x1 x2)) g s dst K⟩:=rfl
@[simp] theorem clOp_insert {x0:TypeId} {x1:Operand} {x2:Operand} {x3:Operand}:dZ none (.insert x0 x1 x2 x3)=.x:=rfl
@[simp] theorem XO0_insert {x0:TypeId} {x1:Operand} {x2:Operand} {x3:Operand}:@BI P c dst (.insert x0 x1 x2 x3) s o K Q = @RK (bS c.ty c.bP c.bJ s dst (.insert x0 x1 x2 x3)) s dst K:=rfl
@[simp] theorem clOp_load {x0:TypeId} {x1:Operand}:dZ none (.load x0 x1)=.r:=rfl
@[simp] theorem clOp_loadn {x0:TypeId} {x1:Operand}:dZ (some .n) (.load x0 x1)=.n:=rfl
@[simp] theorem QO_load_n {x0:TypeId} {x1:Operand}:@QO P c .n dst (.load x0 x1) none s o K=((s.arg x1).still/\@QR (bS c.ty c.bP c.bJ s dst (.load x0 x1)) s dst K):=rfl
@[simp] theorem QOg_load_n {x0:TypeId} {x1:Operand}:@QO P c .n dst (.load x0 x1) (some (j,want)) s o K = @iU Bool (GD (@DA j o) s want) ⟨fun g=>(g=true->(s.arg x1).still)/\@uC (bS c.ty c.bP c.bJ s dst (.load x0 x1)) g s dst K⟩:=rfl
@[simp] theorem QO_load {x0:TypeId} {x1:Operand}:@QO P c .r dst (.load x0 x1) none s o K = @QR (bS c.ty c.bP c.bJ s dst (.load x0 x1)) s dst K:=rfl
@[simp] theorem QOg_load {x0:TypeId} {x1:Operand}:@QO P c .r dst (.load x0 x1) (some (j,want)) s o K = @iU Bool (GD (@DA j o) s want) ⟨fun g=>@uC (bS c.ty c.bP c.bJ s dst (.load x0 x1)) g s dst K⟩:=rfl
@[simp] theorem clOp_store {x0:TypeId} {x1:Operand} {x2:Operand}:dZ none (.store x0 x1 x2)=.x:=rfl
@[simp] theorem XO0_store {x0:TypeId} {x1:Operand} {x2:Operand}:@BI P c dst (.store x0 x1 x2) s o K Q = @RK (bS c.ty c.bP c.bJ s dst (.store x0 x1 x2)) s dst K:=rfl
@[simp] theorem Tu {x0:Operand}:dZ none (.nilCheck x0)=.n:=rfl
@[simp] theorem QO_nilCheck {x0:Operand}:@QO P c k dst (.nilCheck x0) none s o K = @QR (bS c.ty c.bP c.bJ s dst (.nilCheck x0)) s dst K:=rfl
@[simp] theorem Wc {x0:Operand}:@QO P c k dst (.nilCheck x0) (some (j,want)) s o K = @iU Bool (GD (@DA j o) s want) ⟨fun g=>@uC (bS c.ty c.bP c.bJ s dst (.nilCheck x0)) g s dst K⟩:=rfl
@[simp] theorem clOp_binOp {x0:BinOp} {x1:TypeId} {x2:Operand} {x3:Operand} {x4:TypeId}:dZ none (.binOp x0 x1 x2 x3 x4)=.n:=rfl
@[simp] theorem QO_binOp {x0:BinOp} {x1:TypeId} {x2:Operand} {x3:Operand} {x4:TypeId}:@QO P c k dst (.binOp x0 x1 x2 x3 x4) none s o K = @QR (bS c.ty c.bP c.bJ s dst (.binOp x0 x1 x2 x3 x4)) s dst K:=rfl
@[simp] theorem QOg_binOp {x0:BinOp} {x1:TypeId} {x2:Operand} {x3:Operand} {x4:TypeId}:@QO P c k dst (.binOp x0 x1 x2 x3 x4) (some (j,want)) s o K = @iU Bool (GD (@DA j o) s want) ⟨fun g=>@uC (bS c.ty c.bP c.bJ s dst (.binOp x0 x1 x2 x3 x4)) g s dst K⟩:=rfl
@[simp] theorem clOp_unOp {x0:UnOp} {x1:TypeId} {x2:Operand}:dZ none (.unOp x0 x1 x2)=.n:=rfl
@[simp] theorem QO_unOp {x0:UnOp} {x1:TypeId} {x2:Operand}:@QO P c k dst (.unOp x0 x1 x2) none s o K = @QR (bS c.ty c.bP c.bJ s dst (.unOp x0 x1 x2)) s dst K:=rfl
@[simp] theorem QOg_unOp {x0:UnOp} {x1:TypeId} {x2:Operand}:@QO P c k dst (.unOp x0 x1 x2) (some (j,want)) s o K = @iU Bool (GD (@DA j o) s want) ⟨fun g=>@uC (bS c.ty c.bP c.bJ s dst (.unOp x0 x1 x2)) g s dst K⟩:=rfl
@[simp] theorem V1 {x0:TypeId} {x1:TypeId} {x2:Operand}:dZ none (.convert x0 x1 x2)=.n:=rfl
@[simp] theorem QO_convert {x0:TypeId} {x1:TypeId} {x2:Operand}:@QO P c k dst (.convert x0 x1 x2) none s o K = @QR (bS c.ty c.bP c.bJ s dst (.convert x0 x1 x2)) s dst K:=rfl
@[simp] theorem QOg_convert {x0:TypeId} {x1:TypeId} {x2:Operand}:@QO P c k dst (.convert x0 x1 x2) (some (j,want)) s o K = @iU Bool (GD (@DA j o) s want) ⟨fun g=>@uC (bS c.ty c.bP c.bJ s dst (.convert x0 x1 x2)) g s dst K⟩:=rfl
@[simp] theorem Mb {x0:TypeId} {x1:Operand}:dZ none (.makeInterface x0 x1)=.n:=rfl
@[simp] theorem PB {x0:TypeId} {x1:Operand}:@QO P c k dst (.makeInterface x0 x1) none s o K = @QR (bS c.ty c.bP c.bJ s dst (.makeInterface x0 x1)) s dst K:=rfl
@[simp] theorem NB {x0:TypeId} {x1:Operand}:@QO P c k dst (.makeInterface x0 x1) (some (j,want)) s o K = @iU Bool (GD (@DA j o) s want) ⟨fun g=>@uC (bS c.ty c.bP c.bJ s dst (.makeInterface x0 x1)) g s dst K⟩:=rfl
@[simp] theorem Tw {x0:Fn} {x1:Array Operand} {x2:Array Operand}:dZ none (.makeFunc x0 x1 x2)=.n:=rfl
@[simp] theorem QO_makeFunc {x0:Fn} {x1:Array Operand} {x2:Array Operand}:@QO P c k dst (.makeFunc x0 x1 x2) none s o K = @QR (bS c.ty c.bP c.bJ s dst (.makeFunc x0 x1 x2)) s dst K:=rfl
@[simp] theorem Wd {x0:Fn} {x1:Array Operand} {x2:Array Operand}:@QO P c k dst (.makeFunc x0 x1 x2) (some (j,want)) s o K = @iU Bool (GD (@DA j o) s want) ⟨fun g=>@uC (bS c.ty c.bP c.bJ s dst (.makeFunc x0 x1 x2)) g s dst K⟩:=rfl
@[simp] theorem VZ {x0:TypeId} {x1:Option Operand}:dZ none (.makeMap x0 x1)=.c:=rfl
@[simp] theorem XO0_makeMap {x0:TypeId} {x1:Option Operand}:@BI P c dst (.makeMap x0 x1) s o K Q = @RK (bS c.ty c.bP c.bJ s dst (.makeMap x0 x1)) s dst K:=rfl
@[simp] theorem SJ {x0:TypeId} {x1:Operand} {x2:Operand}:dZ none (.makeSlice x0 x1 x2)=.x:=rfl
@[simp] theorem Ty {x0:TypeId} {x1:Operand} {x2:Operand}:@BI P c dst (.makeSlice x0 x1 x2) s o K Q = @RK (bS c.ty c.bP c.bJ s dst (.makeSlice x0 x1 x2)) s dst K:=rfl
@[simp] theorem clOp_slice {x0:TypeId} {x1:Operand} {x2:Option Operand} {x3:Option Operand} {x4:Option Operand}:dZ none (.slice x0 x1 x2 x3 x4)=.r:=rfl
@[simp] theorem QO_slice {x0:TypeId} {x1:Operand} {x2:Option Operand} {x3:Option Operand} {x4:Option Operand}:@QO P c k dst (.slice x0 x1 x2 x3 x4) none s o K = @QR (bS c.ty c.bP c.bJ s dst (.slice x0 x1 x2 x3 x4)) s dst K:=rfl
@[simp] theorem QOg_slice {x0:TypeId} {x1:Operand} {x2:Option Operand} {x3:Option Operand} {x4:Option Operand}:@QO P c k dst (.slice x0 x1 x2 x3 x4) (some (j,want)) s o K = @iU Bool (GD (@DA j o) s want) ⟨fun g=>@uC (bS c.ty c.bP c.bJ s dst (.slice x0 x1 x2 x3 x4)) g s dst K⟩:=rfl
@[simp] theorem SL {x0:TypeId} {x1:Operand} {x2:Nat}:dZ none (.fieldAddr x0 x1 x2)=.n:=rfl
@[simp] theorem Wf {x0:TypeId} {x1:Operand} {x2:Nat}:@QO P c k dst (.fieldAddr x0 x1 x2) none s o K = @QR (bS c.ty c.bP c.bJ s dst (.fieldAddr x0 x1 x2)) s dst K:=rfl
@[simp] theorem TB {x0:TypeId} {x1:Operand} {x2:Nat}:@QO P c k dst (.fieldAddr x0 x1 x2) (some (j,want)) s o K = @iU Bool (GD (@DA j o) s want) ⟨fun g=>@uC (bS c.ty c.bP c.bJ s dst (.fieldAddr x0 x1 x2)) g s dst K⟩:=rfl
@[simp] theorem clOp_field {x0:TypeId} {x1:Operand} {x2:Nat}:dZ none (.field x0 x1 x2)=.n:=rfl
@[simp] theorem QO_field {x0:TypeId} {x1:Operand} {x2:Nat}:@QO P c k dst (.field x0 x1 x2) none s o K = @QR (bS c.ty c.bP c.bJ s dst (.field x0 x1 x2)) s dst K:=rfl
@[simp] theorem QOg_field {x0:TypeId} {x1:Operand} {x2:Nat}:@QO P c k dst (.field x0 x1 x2) (some (j,want)) s o K = @iU Bool (GD (@DA j o) s want) ⟨fun g=>@uC (bS c.ty c.bP c.bJ s dst (.field x0 x1 x2)) g s dst K⟩:=rfl
@[simp] theorem SK {x0:TypeId} {x1:Operand} {x2:Operand}:dZ none (.indexAddr x0 x1 x2)=.n:=rfl
@[simp] theorem We {x0:TypeId} {x1:Operand} {x2:Operand}:@QO P c k dst (.indexAddr x0 x1 x2) none s o K = @QR (bS c.ty c.bP c.bJ s dst (.indexAddr x0 x1 x2)) s dst K:=rfl
@[simp] theorem TA {x0:TypeId} {x1:Operand} {x2:Operand}:@QO P c k dst (.indexAddr x0 x1 x2) (some (j,want)) s o K = @iU Bool (GD (@DA j o) s want) ⟨fun g=>@uC (bS c.ty c.bP c.bJ s dst (.indexAddr x0 x1 x2)) g s dst K⟩:=rfl
@[simp] theorem clOp_index {x0:TypeId} {x1:Operand} {x2:Operand}:dZ none (.index x0 x1 x2)=.n:=rfl
@[simp] theorem QO_index {x0:TypeId} {x1:Operand} {x2:Operand}:@QO P c k dst (.index x0 x1 x2) none s o K = @QR (bS c.ty c.bP c.bJ s dst (.index x0 x1 x2)) s dst K:=rfl
@[simp] theorem QOg_index {x0:TypeId} {x1:Operand} {x2:Operand}:@QO P c k dst (.index x0 x1 x2) (some (j,want)) s o K = @iU Bool (GD (@DA j o) s want) ⟨fun g=>@uC (bS c.ty c.bP c.bJ s dst (.index x0 x1 x2)) g s dst K⟩:=rfl
@[simp] theorem clOp_lookup {x0:TypeId} {x1:Operand} {x2:Operand} {x3:Bool}:dZ none (.lookup x0 x1 x2 x3)=.r:=rfl
@[simp] theorem QO_lookup {x0:TypeId} {x1:Operand} {x2:Operand} {x3:Bool}:@QO P c k dst (.lookup x0 x1 x2 x3) none s o K = @QR (bS c.ty c.bP c.bJ s dst (.lookup x0 x1 x2 x3)) s dst K:=rfl
@[simp] theorem QOg_lookup {x0:TypeId} {x1:Operand} {x2:Operand} {x3:Bool}:@QO P c k dst (.lookup x0 x1 x2 x3) (some (j,want)) s o K = @iU Bool (GD (@DA j o) s want) ⟨fun g=>@uC (bS c.ty c.bP c.bJ s dst (.lookup x0 x1 x2 x3)) g s dst K⟩:=rfl
@[simp] theorem SI {x0:TypeId} {x1:Operand} {x2:Operand} {x3:Operand}:dZ none (.mapUpdate x0 x1 x2 x3)=.x:=rfl
@[simp] theorem Tx {x0:TypeId} {x1:Operand} {x2:Operand} {x3:Operand}:@BI P c dst (.mapUpdate x0 x1 x2 x3) s o K Q = @RK (bS c.ty c.bP c.bJ s dst (.mapUpdate x0 x1 x2 x3)) s dst K:=rfl
@[simp] theorem PS {x0:TypeId} {x1:Operand} {x2:Operand} {x3:Operand}:dZ none (.entryStore x0 x1 x2 x3)=.x:=rfl
@[simp] theorem Tv {x0:TypeId} {x1:Operand} {x2:Operand}:dZ none (.mapEntry x0 x1 x2)=.x:=rfl
@[simp] theorem S5 {x0:TypeId} {x1:Operand} {x2:Operand} {x3:Operand}:@BI P c dst (.entryStore x0 x1 x2 x3) s o K Q = @RK (bS c.ty c.bP c.bJ s dst (.entryStore x0 x1 x2 x3)) s dst K:=rfl
@[simp] theorem V9 {x0:TypeId} {x1:Operand} {x2:Operand}:@BI P c dst (.mapEntry x0 x1 x2) s o K Q = @RK (bS c.ty c.bP c.bJ s dst (.mapEntry x0 x1 x2)) s dst K:=rfl
@[simp] theorem clOp_range {x0:TypeId} {x1:Operand}:dZ none (.range x0 x1)=.x:=rfl
@[simp] theorem XO0_range {x0:TypeId} {x1:Operand}:@BI P c dst (.range x0 x1) s o K Q = @RK (bS c.ty c.bP c.bJ s dst (.range x0 x1)) s dst K:=rfl
@[simp] theorem clOp_next {x0:Operand} {x1:Bool}:dZ none (.next x0 x1)=.x:=rfl
@[simp] theorem XO0_next {x0:Operand} {x1:Bool}:@BI P c dst (.next x0 x1) s o K Q = @RK (bS c.ty c.bP c.bJ s dst (.next x0 x1)) s dst K:=rfl
@[simp] theorem clOp_entry {x0:Operand}:dZ none (.entry x0)=.x:=rfl
@[simp] theorem XO0_entry {x0:Operand}:@BI P c dst (.entry x0) s o K Q = @RK (bS c.ty c.bP c.bJ s dst (.entry x0)) s dst K:=rfl
@[simp] theorem PR {x0:Operand} {x1:TypeId} {x2:TypeId} {x3:Bool}:dZ none (.typeAssert x0 x1 x2 x3)=.n:=rfl
@[simp] theorem TC {x0:Operand} {x1:TypeId} {x2:TypeId} {x3:Bool}:@QO P c k dst (.typeAssert x0 x1 x2 x3) none s o K = @QR (bS c.ty c.bP c.bJ s dst (.typeAssert x0 x1 x2 x3)) s dst K:=rfl
@[simp] theorem S9 {x0:Operand} {x1:TypeId} {x2:TypeId} {x3:Bool}:@QO P c k dst (.typeAssert x0 x1 x2 x3) (some (j,want)) s o K = @iU Bool (GD (@DA j o) s want) ⟨fun g=>@uC (bS c.ty c.bP c.bJ s dst (.typeAssert x0 x1 x2 x3)) g s dst K⟩:=rfl
@[simp] theorem V0 {x0:Operand} {x1:Nat}:dZ none (.extract x0 x1)=.n:=rfl
@[simp] theorem QO_extract {x0:Operand} {x1:Nat}:@QO P c k dst (.extract x0 x1) none s o K = @QR (bS c.ty c.bP c.bJ s dst (.extract x0 x1)) s dst K:=rfl
@[simp] theorem QOg_extract {x0:Operand} {x1:Nat}:@QO P c k dst (.extract x0 x1) (some (j,want)) s o K = @iU Bool (GD (@DA j o) s want) ⟨fun g=>@uC (bS c.ty c.bP c.bJ s dst (.extract x0 x1)) g s dst K⟩:=rfl
@[simp] theorem clOp_blen {x:Array Operand} {y:Array TypeId}:dZ none (.call ⟨.builtin .len,x,y⟩)=.r:=rfl
@[simp] theorem QO_blen {x:Array Operand} {y:Array TypeId}:@QO P c k dst (.call ⟨.builtin .len,x,y⟩) none s o K = @QR (bS c.ty c.bP c.bJ s dst (.call ⟨.builtin .len,x,y⟩)) s dst K:=rfl
@[simp] theorem QOg_blen {x:Array Operand} {y:Array TypeId}:@QO P c k dst (.call ⟨.builtin .len,x,y⟩) (some (j,want)) s o K = @iU Bool (GD (@DA j o) s want) ⟨fun g=>@uC (bS c.ty c.bP c.bJ s dst (.call ⟨.builtin .len,x,y⟩)) g s dst K⟩:=rfl
@[simp] theorem clOp_bmin {x:Array Operand} {y:Array TypeId}:dZ none (.call ⟨.builtin .min,x,y⟩)=.n:=rfl
@[simp] theorem QO_bmin {x:Array Operand} {y:Array TypeId}:@QO P c k dst (.call ⟨.builtin .min,x,y⟩) none s o K = @QR (bS c.ty c.bP c.bJ s dst (.call ⟨.builtin .min,x,y⟩)) s dst K:=rfl
@[simp] theorem QOg_bmin {x:Array Operand} {y:Array TypeId}:@QO P c k dst (.call ⟨.builtin .min,x,y⟩) (some (j,want)) s o K = @iU Bool (GD (@DA j o) s want) ⟨fun g=>@uC (bS c.ty c.bP c.bJ s dst (.call ⟨.builtin .min,x,y⟩)) g s dst K⟩:=rfl
@[simp] theorem clOp_bmax {x:Array Operand} {y:Array TypeId}:dZ none (.call ⟨.builtin .max,x,y⟩)=.n:=rfl
@[simp] theorem QO_bmax {x:Array Operand} {y:Array TypeId}:@QO P c k dst (.call ⟨.builtin .max,x,y⟩) none s o K = @QR (bS c.ty c.bP c.bJ s dst (.call ⟨.builtin .max,x,y⟩)) s dst K:=rfl
@[simp] theorem QOg_bmax {x:Array Operand} {y:Array TypeId}:@QO P c k dst (.call ⟨.builtin .max,x,y⟩) (some (j,want)) s o K = @iU Bool (GD (@DA j o) s want) ⟨fun g=>@uC (bS c.ty c.bP c.bJ s dst (.call ⟨.builtin .max,x,y⟩)) g s dst K⟩:=rfl
@[simp] theorem V3 {x:Array Operand} {y:Array TypeId}:dZ none (.call ⟨.builtin .append,x,y⟩)=.x:=rfl
@[simp] theorem XO0_bappend {x:Array Operand} {y:Array TypeId}:@BI P c dst (.call ⟨.builtin .append,x,y⟩) s o K Q = @eE c x y s dst K:=rfl
@[simp] theorem clOp_bcap {x:Array Operand} {y:Array TypeId}:dZ none (.call ⟨.builtin .cap,x,y⟩)=.x:=rfl
@[simp] theorem XO0_bcap {x:Array Operand} {y:Array TypeId}:@BI P c dst (.call ⟨.builtin .cap,x,y⟩) s o K Q = @RK (bS c.ty c.bP c.bJ s dst (.call ⟨.builtin .cap,x,y⟩)) s dst K:=rfl
@[simp] theorem V2 {x:Array Operand} {y:Array TypeId}:dZ none (.call ⟨.builtin .delete,x,y⟩)=.x:=rfl
@[simp] theorem XO0_bdelete {x:Array Operand} {y:Array TypeId}:@BI P c dst (.call ⟨.builtin .delete,x,y⟩) s o K Q = @RK (bS c.ty c.bP c.bJ s dst (.call ⟨.builtin .delete,x,y⟩)) s dst K:=rfl
@[simp] theorem clOp_bcopy {x:Array Operand} {y:Array TypeId}:dZ none (.call ⟨.builtin .copy,x,y⟩)=.x:=rfl
@[simp] theorem XO0_bcopy {x:Array Operand} {y:Array TypeId}:@BI P c dst (.call ⟨.builtin .copy,x,y⟩) s o K Q = @RK (bS c.ty c.bP c.bJ s dst (.call ⟨.builtin .copy,x,y⟩)) s dst K:=rfl
attribute [simp] LV.still
end
end Go.Aft
end
section
namespace Go.Aft
mutual
def LV.only(keep:List Nat):LV->Prop
 |.lp k _=>k∈keep
 |.fn _ first cap=>dQ keep first/\dQ keep cap
 |.ip cs _=>dQ keep cs
 |.agg cs=>dQ keep cs
 |.dx cs=>dQ keep cs
 |.gd g raw=>g=true->LV.only keep raw
 |_=>True
def dQ(keep:List Nat):List LV->Prop
 |[]=>True
 |c::cs=>LV.only keep c/\dQ keep cs
end
def uf(keep:List Nat)(lm:Nat->Option Nat):Nat->Option Nat:=λk=>if k∈keep then lm k else none
mutual
theorem zd{G:Gh}{nx:Nat}{lm:Nat->Option Nat}{keep:List Nat}:∀(x:LV) (v:Value),LR G nx lm x v->x.only keep->LR G nx (uf keep lm) x v
 |.d x,v,h,_=>by unfold LR at h|-;exact h
 |.lp k off,v,h,hb=>by
  unfold LV.only at hb;unfold LR at h|-;obtain⟨b,h1,h2⟩:=h;exact⟨b,by unfold uf;rw[if_pos hb];exact h1,h2⟩
 |.gp m off,v,h,hb=>by unfold LR at h|-;exact h
 |.ep xs es i off,v,h,_=>by unfold LR at h|-;exact h
 |.kQ m xs,v,h,hb=>by unfold LR at h|-;exact h
 |.vs _ _ _ _ _,v,h,hb=>by unfold LR at h|-;exact h
 |.vp _ _ _,v,h,hb=>by unfold LR at h|-;exact h
 |.yl _,v,h,hb=>by unfold LR at h|-;exact h
 |.ip cs off,v,h,hb=>by unfold LV.only at hb;unfold LR at h|-;obtain⟨b,h1,h2⟩:=h;exact⟨b,h1,NF b 0 cs h2 hb⟩
 |.gm m,v,h,hb=>by unfold LR at h|-;exact h
 |.fn f first cap,v,h,hb=>by
  unfold LR at h|-;unfold LV.only at hb;obtain⟨fs,cs,h1,h2,h3⟩:=h;exact⟨fs,cs,h1,oU _ _ h2 hb.1,oU _ _ h3 hb.2⟩
 |.agg cs,v,h,hb=>by unfold LR at h|-;unfold LV.only at hb;obtain⟨vs,h1,h2⟩:=h;exact⟨vs,h1,oU _ _ h2 hb⟩
 |.dx cs,v,h,hb=>by unfold LR at h|-;unfold LV.only at hb;obtain⟨vs,h1,h2⟩:=h;exact⟨vs,h1,oU _ _ h2 hb⟩
 |.gd g raw,v,h,hb=>by unfold LR at h|-;unfold LV.only at hb;exact⟨λe=>zd raw v (h.1 e) (hb e),h.2⟩
 |.any,v,_,_=>by simp[LR]
theorem oU{G:Gh}{nx:Nat}{lm:Nat->Option Nat}{keep:List Nat}:∀(xs:List LV) (vs:List Value),bE G nx lm xs vs->dQ keep xs->bE G nx (uf keep lm) xs vs
 |[],vs,h,_=>by unfold bE at h|-;exact h
 |c::cs,vs,h,hb=>by
  unfold bE at h|-;unfold dQ at hb;obtain⟨v,r,h1,h2,h3⟩:=h;exact⟨v,r,h1,zd c v h2 hb.1,oU cs r h3 hb.2⟩
theorem NF{G:Gh}{nx:Nat}{lm:Nat->Option Nat}{keep:List Nat}:∀(b o:Nat) (xs:List LV),IR G nx lm b o xs->dQ keep xs->IR G nx (uf keep lm) b o xs
 |b,o,[],h,_=>by simp[IR]
 |b,o,c::cs,h,hb=>by
  unfold IR at h|-;unfold dQ at hb;obtain⟨⟨v,h1,yR,h2⟩,h3⟩:=h;exact⟨⟨v,h1,yR,zd c v h2 hb.1⟩,NF b (o+1) cs h3 hb.2⟩
end
def cutL(keep:List Nat)(L:Nat->Option (List LV)):Nat->Option (List LV):=λk=>if k∈keep then L k else none
def cutE(live:List Nat)(env:Nat->LV):Nat->LV:=λt=>if t∈live then env t else .any
theorem L6{keep:List Nat}{L:Nat->Option (List LV)}{k:Nat}:cutL keep L k=if k∈keep then L k else none:=rfl
theorem L7{live:List Nat}{env:Nat->LV}{k:Nat}:cutE live env k=if k∈live then env k else .any:=rfl
def S.cut(s:S)(live keep:List Nat):S:=⟨cutE live s.env,cutL keep s.L,s.H,s.nt,s.df⟩
def mS{α:Type}(p:α->Prop):List α->Prop
 |[]=>True
 |x::xs=>p x/\mS p xs
def D0(keep:List Nat)(x:Option (List LV)):Prop:=match x with|some cs=>dQ keep cs|none=>True
def S.cutOk(s:S)(live keep:List Nat):Prop:=mS (λt=>(s.env t).only keep) live/\mS (λk=>D0 keep (s.L k)) keep
attribute [simp] LV.only dQ S.cut L6 L7 mS D0 S.cutOk
def B3(e:TypeId)(sz:Nat)(H0:GH)(x:LV)(rows:List (List DV))(H:GH):Prop:=
 (rows=[]/\x=.d (.k (.slice none 0 0))/\H=H0)\/
 (x=.kQ H0.next rows/\H.next=H0.next+1/\H.obj H0.next=some (.arr e sz rows.length)/\∀m,m<H0.next->H.obj m=H0.obj m)
theorem B3.nil{e:TypeId}{sz:Nat}{H0:GH}:B3 e sz H0 (.d (.k (.slice none 0 0))) [] H0:=.inl ⟨rfl,rfl,rfl⟩
theorem B3.first{e:TypeId}{sz:Nat}{H0:GH}{rows:List (List DV)}{n:Nat}(hn:rows.length=n):B3 e sz H0 (.kQ H0.next rows) rows (H0.add (.arr e sz n)):=by
 subst hn;exact .inr ⟨rfl,rfl,by simp[GH.add],λm hm=>by simp[GH.add,ew,Nat.ne_of_lt hm]⟩
theorem B3.more{e:TypeId}{sz:Nat}{H0 H:GH}{rows:List (List DV)}{n:Nat}(h1:H.next=H0.next+1)(h3:∀m,m<H0.next->H.obj m=H0.obj m)(hn:rows.length=n):B3 e sz H0 (.kQ H0.next rows) rows (H.set H0.next (.arr e sz n)):=by
 subst hn;exact .inr ⟨rfl,h1,by simp[GH.set],λm hm=>by simp[GH.set,ew,Nat.ne_of_lt hm,h3 m hm]⟩
mutual
theorem Gu{k:Nat}{cs:List LV}:∀(x:LV),x.pF=true->x.sub k cs=x
 |.fn f first cap,h=>by
  simp only[LV.pF,Bool.and_eq_true]at h;simp only[LV.sub,gz _ h.1,gz _ h.2]
 |.ip xs off,h=>by simp only[LV.pF]at h;simp only[LV.sub,gz _ h]
 |.agg xs,h=>by simp only[LV.pF]at h;simp only[LV.sub,gz _ h]
 |.dx xs,h=>by simp only[LV.pF]at h;simp only[LV.sub,gz _ h]
 |.gd g x,h=>by simp only[LV.pF]at h;simp only[LV.sub,Gu x h]
 |.lp _ _,h=>by simp[LV.pF]at h
 |.d _,h|.gp _ _,h|.ep _ _ _ _,h|.kQ _ _,h|.gm _,h|.vs _ _ _ _ _,h|.vp _ _ _,h|.yl _,h|.any,h=>by simp[LV.sub]
theorem gz{k:Nat}{cs:List LV}:∀(xs:List LV),gC xs=true->qp k cs xs=xs
 |[],_=>by simp[qp]
 |x::xs,h=>by
  simp only[gC,Bool.and_eq_true]at h;simp only[qp,Gu x h.1,gz xs h.2]
end
mutual
theorem MH{n:Nat}{keep:List Nat}:∀(x:LV),x.nb n->x.only keep
 |.fn f first cap,h=>by unfold LV.nb at h;unfold LV.only;exact⟨cQ _ h.1,cQ _ h.2⟩
 |.ip xs off,h=>by unfold LV.nb at h;unfold LV.only;exact cQ _ h
 |.agg xs,h=>by unfold LV.nb at h;unfold LV.only;exact cQ _ h
 |.dx xs,h=>by unfold LV.nb at h;unfold LV.only;exact cQ _ h
 |.gd g x,h=>by unfold LV.nb at h;unfold LV.only;exact λe=>MH x (h e)
 |.lp _ _,h=>by simp[LV.nb]at h
 |.d _,h|.gp _ _,h|.ep _ _ _ _,h|.kQ _ _,h|.gm _,h|.vs _ _ _ _ _,h|.vp _ _ _,h|.yl _,h|.any,h=>by simp[LV.only]
theorem cQ{n:Nat}{keep:List Nat}:∀(xs:List LV),ct n xs->dQ keep xs
 |[],_=>by simp[dQ]
 |x::xs,h=>by unfold ct at h;unfold dQ;exact⟨MH x h.1,cQ xs h.2⟩
end
mutual
def DV.fits:DV->Prop
 |.k _=>True
 |.sl xs=>xs.length<=maxLen/\su xs
def sv:List DV->Prop
 |[]=>True
 |c::cs=>c.fits/\sv cs
def su:List (List DV)->Prop
 |[]=>True
 |r::rs=>sv r/\su rs
end
mutual
theorem FR{M:Mem}:∀(d:DV) (x:Value),DR M d x->d.fits
 |.k v,x,h=>by unfold DV.fits;trivial
 |.sl xs,x,h=>by
  unfold DR at h;unfold DV.fits;obtain⟨a,cap,sz,_,h1,h2,_,h3⟩:=h;refine⟨Nat.le_trans h1 h2,?_⟩;rcases h3 with rfl|⟨b,o,_,h3⟩
  ·unfold su;trivial
  ·exact Nw b o xs h3
theorem Nz{M:Mem}:∀(b o:Nat) (r:List DV),RC M b o r->sv r
 |b,o,[],h=>by unfold sv;trivial
 |b,o,c::cs,h=>by
  unfold RC at h;unfold sv;obtain⟨⟨v,_,h1⟩,h2⟩:=h;exact⟨FR c v h1,Nz b (o+1) cs h2⟩
theorem Nw{M:Mem}:∀(b o:Nat) (xs:List (List DV)),RR M b o xs->su xs
 |b,o,[],h=>by unfold su;trivial
 |b,o,r::rs,h=>by
  unfold RR at h;unfold su;exact⟨Nz b o r h.1,Nw b _ rs h.2⟩
end
mutual
def LV.fits:LV->Prop
 |.d x=>x.fits
 |.fn _ first cap=>iR first/\iR cap
 |.ip cs _=>iR cs
 |.agg cs=>iR cs
 |.dx cs=>iR cs
 |.kQ _ xs=>(DV.sl xs).fits
 |_=>True
def iR:List LV->Prop
 |[]=>True
 |c::cs=>LV.fits c/\iR cs
end
mutual
theorem NE{G:Gh}{nx:Nat}{lm:Nat->Option Nat}:∀(x:LV) (v:Value),LR G nx lm x v->x.fits
 |.d x,v,h=>by unfold LR at h;unfold LV.fits;exact FR x v h
 |.lp k off,v,h=>by unfold LV.fits;trivial
 |.gp m off,v,h=>by unfold LV.fits;trivial
 |.ep xs es i off,v,h=>by unfold LV.fits;trivial
 |.kQ m xs,v,h=>by unfold LR at h;unfold LV.fits;exact FR _ v h.2.1
 |.vs _ _ _ _ _,v,h=>by unfold LV.fits;trivial
 |.vp _ _ _,v,h=>by unfold LV.fits;trivial
 |.yl _,v,h=>by unfold LV.fits;trivial
 |.ip cs off,v,h=>by unfold LR at h;unfold LV.fits;obtain⟨b,_,h2⟩:=h;exact NI b 0 cs h2
 |.gm m,v,h=>by unfold LV.fits;trivial
 |.fn f first cap,v,h=>by
  unfold LR at h;unfold LV.fits;obtain⟨fs,cs,h1,h2,h3⟩:=h;exact⟨oW _ _ h2,oW _ _ h3⟩
 |.agg cs,v,h=>by unfold LR at h;unfold LV.fits;obtain⟨vs,h1,h2⟩:=h;exact oW _ _ h2
 |.dx cs,v,h=>by unfold LR at h;unfold LV.fits;obtain⟨vs,h1,h2⟩:=h;exact oW _ _ h2
 |.gd g raw,v,h=>by unfold LV.fits;trivial
 |.any,v,_=>by unfold LV.fits;trivial
theorem oW{G:Gh}{nx:Nat}{lm:Nat->Option Nat}:∀(xs:List LV) (vs:List Value),bE G nx lm xs vs->iR xs
 |[],vs,h=>by unfold iR;trivial
 |c::cs,vs,h=>by
  unfold bE at h;unfold iR;obtain⟨v,r,h1,h2,h3⟩:=h;exact⟨NE c v h2,oW cs r h3⟩
theorem NI{G:Gh}{nx:Nat}{lm:Nat->Option Nat}:∀(b o:Nat) (xs:List LV),IR G nx lm b o xs->iR xs
 |b,o,[],h=>by unfold iR;trivial
 |b,o,c::cs,h=>by
  unfold IR at h;unfold iR;obtain⟨⟨v,h1,yR,h2⟩,h3⟩:=h;exact⟨NE c v h2,NI b (o+1) cs h3⟩
end
theorem jv.fits{P:Program}{f:FuncId}{args:List LV}{H:GH}{R:CE->GH->Prop}(h:iR args->jv P f args H R):jv P f args H R:=
 λG w vs h1 h2 h3=>h (oW _ _ h3) G w vs h1 h2 h3
theorem aF.body{P:Program}{c:Cx}(hc:c.ok P){f:FuncId}{fn:Func}{code:Code}(hf:P.funcs[f]?=some fn)(hb:fn.body=some code)(he:Enters P f){args:List LV}(hn:args.length<=fn.ntmps)(hrd:c.rd.tu f=true){H:GH}{R:CE->GH->Prop}
  (h:iR args->(∀n,H.next<=n->H.obj n=none)->@EV P c ⟨code⟩ ⟨fK 0 args,uF,H,fn.ntmps,[]⟩ ⟨Np P c fn.results.toList H R⟩):aF P f args H R:=
 ⟨he,jv.fits λhfit=>jv.iA hc hf hb hn hrd λhw=>EV.sound hc (h hfit hw)⟩
theorem aC.body{P:Program}{c:Cx}(hc:c.ok P){f:FuncId}{fn:Func}{code:Code}(hf:P.funcs[f]?=some fn)(hb:fn.body=some code)(he:Enters P f){args:List LV}(hn:args.length<=fn.ntmps)(hrd:c.rd.tu f=true){v:LV}
  (h:iR args->∀H:GH,@EV P c ⟨code⟩ ⟨fK 0 args,uF,H,fn.ntmps,[]⟩ ⟨Jx c fn.results.toList H v⟩):aC P f args v:=
 λH=>⟨he,jv.fits λhfit=>(aC.iA hc hf hb he hn hrd (λH=>EV.sound hc (h hfit H)) H).2⟩
theorem aC.vz{P:Program}{c:Cx}(hc:c.ok P){f:FuncId}{fn:Func}{code:Code}(hf:P.funcs[f]?=some fn)(hb:fn.body=some code)(he:Enters P f){args:List LV}(hn:args.length<=fn.ntmps)(hrd:c.rd.tu f=true){v:LV}
  (h:iR args->∀H:GH,@AW P c.rd ⟨code⟩ ⟨fK 0 args,uF,H,fn.ntmps,[]⟩ ⟨Jx c fn.results.toList H v⟩):aC P f args v:=
 λH=>⟨he,jv.fits λhfit=>(aC.iA hc hf hb he hn hrd (λH=>h hfit H) H).2⟩
@[simp] theorem noS_apply {k:Nat}:uF k=none:=rfl
def qu(l:List (Nat×LV)):Nat->LV:=λt=>match l with
 |[]=>.any
 |(j,v)::r=>if t=j then v else qu r t
def Bx(l:List (Nat×List LV)):Nat->Option (List LV):=λt=>match l with
 |[]=>none
 |(j,v)::r=>if t=j then some v else Bx r t
@[simp] theorem envL_nil {t:Nat}:qu [] t=.any:=by simp [qu]
@[simp] theorem wP {t j:Nat} {v:LV} {r:List (Nat × LV)}:qu ((j,v) :: r) t=if t=j then v else qu r t:=by rw [qu]
@[simp] theorem boxL_nil {t:Nat}:Bx [] t=none:=by simp [Bx]
@[simp] theorem D2 {t j:Nat} {v:List LV} {r:List (Nat × List LV)}:Bx ((j,v) :: r) t=if t=j then some v else Bx r t:=by rw [Bx]
theorem Jf{l:List (Nat×LV)}{t:Nat}:qu l t=.any\/ (t,qu l t)∈l:=by
 induction l with
 |nil=>simp
 |cons p r ih=>
  obtain⟨j,v⟩:=p;rw[wP];by_cases h:t=j
  ·subst h;simp
  ·rw[if_neg h];exact ih.imp id (List.mem_cons_of_mem _)
theorem Jv{l:List (Nat×List LV)}{t:Nat}:Bx l t=none\/ ∃cs,Bx l t=some cs/\(t,cs)∈l:=by
 induction l with
 |nil=>simp
 |cons p r ih=>
  obtain⟨j,v⟩:=p;rw[D2];by_cases h:t=j
  ·subst h;exact .inr ⟨v,by simp,List.mem_cons_self ..⟩
  ·rw[if_neg h];exact ih.imp id λ⟨cs,a,b⟩=>⟨cs,a,List.mem_cons_of_mem _ b⟩
theorem Pj{l:List (Nat×List LV)}{t:Nat}(h:Bx l t=none):∀cs,(t,cs)∉l:=by
 induction l with
 |nil=>simp
 |cons p r ih=>
  obtain⟨j,v⟩:=p;rw[D2]at h
  split at h
  ·cases h
  ·rename_i hne;intro cs hcs;rcases List.mem_cons.1 hcs with q|q
   ·cases q;exact hne rfl
   ·exact ih h cs q
structure LS where
 e:List (Nat×LV)
 b:List (Nat×List LV)
 H:GH
def LS.s(x:LS)(nt:Nat)(df:List AD):S:=⟨qu x.e,Bx x.b,x.H,nt,df⟩
@[simp] theorem LS.Cd {e:List (Nat × LV)} {b:List (Nat × List LV)} {H:GH} {nt:Nat} {df:List AD}:(⟨e,b,H⟩:LS).s nt df = ⟨qu e,Bx b,H,nt,df⟩:=rfl
def eqL(keep:List Nat)(env:Nat->LV):List (Nat×LV)->Prop
 |[]=>True
 |(t,v)::r=>env t=v/\v.only keep/\eqL keep env r
def eqB(keep:List Nat)(L:Nat->Option (List LV)):List (Nat×List LV)->Prop
 |[]=>True
 |(t,v)::r=>L t=some v/\dQ keep v/\eqB keep L r
def LS.at(x:LS)(nt:Nat)(df:List AD)(s:S):Prop:=eqL (x.b.map (·.1)) s.env x.e/\eqB (x.b.map (·.1)) s.L x.b/\s.H=x.H/\s.nt=nt/\s.df=df
theorem Ni{keep:List Nat}{env:Nat->LV}:∀{l:List (Nat×LV)},eqL keep env l->∀p∈l,env p.1=p.2/\p.2.only keep
 |(t,v)::r,h,p,hp=>by
  rcases List.mem_cons.1 hp with rfl|hp
  ·exact⟨h.1,h.2.1⟩
  ·exact Ni h.2.2 p hp
theorem Nj{keep:List Nat}{env:Nat->Option (List LV)}:∀{l:List (Nat×List LV)},eqB keep env l->∀p∈l,env p.1=some p.2/\dQ keep p.2
 |(t,v)::r,h,p,hp=>by
  rcases List.mem_cons.1 hp with rfl|hp
  ·exact⟨h.1,h.2.1⟩
  ·exact Nj h.2.2 p hp
theorem cz.at{E:sW}{s:S}{a:Act}{w:World}{x:LS}(h:cz E s a w)(hx:x.at s.nt s.df s):cz E (x.s s.nt s.df) a w:=by
 obtain⟨h2,G,lm,h1,hM,hxx,aK,_⟩:=h;obtain⟨he,hb,hH,_,_⟩:=hx;obtain⟨e,b,H⟩:=x;subst hH;have he:=Ni he;have hb:=Nj hb;refine⟨h2,G,uf (b.map (·.1)) lm,h1,⟨hM.qg,hM.dm,hM.fresh,λk hn=>?_,λk cs hs=>?_,hM.gX⟩,hxx,λt=>?_,rfl⟩
 ·unfold uf;by_cases e:k∈b.map (·.1)
  ·exfalso;obtain⟨⟨k',cs⟩,hp,rfl⟩:=List.mem_map.1 e;exact Pj hn cs hp
  ·rw[if_neg e]
 ·simp only[LS.s]at hs;rcases Jv (l:=b) (t:=k)with q|⟨cs',q,hp⟩
  ·rw[q]at hs;cases hs
  ·rw[q]at hs;cases hs;obtain⟨q1,q2⟩:=hb _ hp;obtain⟨b',vs,r1,r2,r3,r4⟩:=hM.loc k cs q1;exact⟨b',vs,by unfold uf;rw[if_pos (List.mem_map.2 ⟨_,hp,rfl⟩)];exact r1,r2,r3,oU _ _ r4 q2⟩
 ·simp only[LS.s];rcases Jf (l:=e) (t:=t)with q|q
  ·rw[q];simp[LR]
  ·obtain⟨q1,q2⟩:=he _ q;simp only at q1 q2;rw[<-q1]at q2|-;exact zd _ _ (aK t) q2
theorem eV.at{P:Program}{rd:RD}{x:Code}{s:S}{Q:AE->S->Prop}(y:LS)(hy:y.at s.nt s.df s)(h:eV P rd x (y.s s.nt s.df) Q):eV P rd x s Q:=λE a w hs=>h E a w (hs.at hy)
structure Plain(x:LV):Prop where
 un:x.un=x
 tL:x.tL
 cells:x.cells=[x]
 one:x.one=true
theorem Plain.all{x:LV}(h:Plain x):x.un=x/\x.tL/\x.cells=[x]/\x.one=true:=⟨h.un,h.tL,h.cells,h.one⟩
theorem B3.plain{e:TypeId}{sz:Nat}{H0 H:GH}{x:LV}{rows:List (List DV)}(h:B3 e sz H0 x rows H):Plain x:=by
 rcases h with⟨_,rfl,_⟩|⟨rfl,_⟩<;>exact⟨rfl,trivial,rfl,rfl⟩
theorem B3.only{e:TypeId}{sz:Nat}{H0 H:GH}{x:LV}{rows:List (List DV)}(h:B3 e sz H0 x rows H){k:List Nat}:x.only k:=by
 rcases h with⟨_,rfl,_⟩|⟨rfl,_⟩<;>simp[LV.only]
theorem B3.fz{e:TypeId}{sz:Nat}{H0 H:GH}{x:LV}{rows:List (List DV)}(h:B3 e sz H0 x rows H):Go.Aft.fz x=.d (.sl rows)/\H0.next<=H.next/\∀m,m<H0.next->H.obj m=H0.obj m:=by
 rcases h with⟨rfl,rfl,rfl⟩|⟨rfl,h1,h2,h3⟩
 ·exact⟨by simp[Go.Aft.fz],Nat.le_refl _,λ_ _=>rfl⟩
 ·exact⟨by simp[Go.Aft.fz],by omega,h3⟩
section
variable {c:Cx} {s:S} {K:KT} {dst:Option Nat}
theorem eE.ev{x:Array Operand}{y:Array TypeId}(h:@RK (bS c.ty c.bP c.bJ s dst (.call ⟨.builtin .append,x,y⟩)) s dst K):@eE c x y s dst K:=h
theorem eE.app{T e:TypeId}{d ed:aS}{a b:Operand}{H0:GH}{rows ys:List (List DV)}(hT:c.ty T=some d)(hd:d.k=.sl e)(he:c.ty e=some ed)(hsz:ed.sz≠0)
  {x:LV} (ha:s.get a=x) (aA:B3 e ed.sz H0 x rows s.H) (hb:rowsOf (s.arg b)=some ys) (M7:s.aI b) (hr:∀r∈rows,r.length=ed.sz) (hy:∀r∈ys,r.length=ed.sz)
  (hl:(rows.length+ys.length)*ed.bt<=140737488355328/\rows.length+ys.length<=140737488355328) (hv:∀t,dst=some t->c.bJ t≠ .vec)
  (hk:∀x' H',B3 e ed.sz H0 x' (rows++ys) H'->@AP K (({s with H:=H'}:S).put dst x')):@eE c #[a,b] #[T,T] s dst K:=by
 obtain⟨k,sz,z,bt⟩:=d;simp only at hd;subst hd;obtain⟨hap,aA⟩:s.aI a/\B3 e ed.sz H0 (s.arg a) rows s.H:=by
  unfold S.aI S.arg;rw[ha];refine⟨?_,?_⟩
  ·rcases aA with⟨_,rfl,_⟩|⟨rfl,_⟩<;>trivial
  ·rcases id aA with⟨_,rfl,_⟩|⟨rfl,_⟩<;>exact aA
 rcases aA with⟨rfl,e1,e2⟩|⟨e1,e2,e3,e4⟩
 ·have uj:eD c.ty c.bJ s dst .append [T,T] [a,b]=none:=by
   simp only[eD,hT,he,e1,if_true,Option.bind_some,if_neg hsz];cases dst with
   |none=>rfl
   |some t=>simp[hv t rfl]
  refine eE.ev ?_;simp only[bS,uj,Option.none_or,rQ,hT,he,e1,hb,if_true,Option.bind_some,if_neg hsz,nH];simp only[List.length_nil,Nat.zero_add]at hl;refine⟨⟨hap,M7,hy,hl⟩,?_⟩;rw[<-e2]at hk;exact hk _ _ (.first (by simp))
 ·have uj:eD c.ty c.bJ s dst .append [T,T] [a,b]=none:=by
   simp only[eD,hT,he,e1,if_true,Option.bind_some,if_neg hsz]
  refine eE.ev ?_;simp only[bS,uj,Option.none_or,rQ,hT,he,e1,e3,hb,if_true,Option.bind_some,if_neg hsz,and_self,nH];refine⟨⟨hap,M7,trivial,hr,hy,hl⟩,?_⟩;exact hk _ _ (.more e2 e4 (by simp))
theorem eE.BE{α:Type}(f:α->List DV)(l new:List α){T e:TypeId}{d ed:aS}{a b:Operand}{H0:GH}(hT:c.ty T=some d)(hd:d.k=.sl e)(he:c.ty e=some ed)(hsz:ed.sz≠0)(hf:∀a,(f a).length=ed.sz)
  {x:LV} (ha:s.get a=x) (aA:B3 e ed.sz H0 x (l.map f) s.H) (hb:rowsOf (s.arg b)=some (new.map f)) (M7:s.aI b)
  (hl:(l.length+new.length)*ed.bt<=140737488355328/\l.length+new.length<=140737488355328) (hv:∀t,dst=some t->c.bJ t≠ .vec)
  (hk:∀x' H',B3 e ed.sz H0 x' ((l++new).map f) H'->@AP K (({s with H:=H'}:S).put dst x')):@eE c #[a,b] #[T,T] s dst K:=
 eE.app hT hd he hsz ha aA hb M7 (λr hr=>by obtain⟨x,_,rfl⟩:=List.mem_map.1 hr;exact hf x) (λr hr=>by obtain⟨x,_,rfl⟩:=List.mem_map.1 hr;exact hf x) (by simpa using hl) hv λx' H' h=>hk x' H' (by rw[List.map_append];exact h)
end
section
variable {P:Program} {c:Cx} {x y:Code} {s:S} {Q:QT} {α:Type}
class LB where
 n:Nat
class LSp(α:Type) where
 st:α->LS
 m:α->Nat
 I:α->Prop
inductive NX{α:Type}[X:LSp α][b:LB](nt:Nat)(df:List AD)(s:S):Prop
 |mk (a:α) (h1:X.m a<b.n) (h2:X.I a) (h3:(X.st a).at nt df s)
inductive JN{α:Type}[X:LSp α](nt:Nat)(df:List AD)(s:S):Prop
 |mk (a:α) (h2:X.I a) (h3:(X.st a).at nt df s)
theorem NX.go{α:Type}{st:α->LS}{m:α->Nat}{I:α->Prop}{n nt:Nat}{df:List AD}{s:S}(a:α)(h1:m a<n)(h2:I a)(h3:(st a).at nt df s):@NX α ⟨st,m,I⟩ ⟨n⟩ nt df s:=@NX.mk α ⟨st,m,I⟩ ⟨n⟩ nt df s a h1 h2 h3
theorem JN.go{α:Type}{st:α->LS}{m:α->Nat}{I:α->Prop}{nt:Nat}{df:List AD}{s:S}(a:α)(h2:I a)(h3:(st a).at nt df s):@JN α ⟨st,m,I⟩ nt df s:=@JN.mk α ⟨st,m,I⟩ nt df s a h2 h3
theorem AW.aU(hc:c.ok P)(st:α->LS)(m:α->Nat)(I:α->Prop)(a₀:α)(h₀:I a₀/\(st a₀).at s.nt s.df s)
  (round:∀a,I a->@EV P c ⟨x⟩ ((st a).s s.nt s.df) ⟨@TH ⟨λs'=>@NX α ⟨st,m,I⟩ ⟨m a⟩ s.nt s.df s'⟩ Q⟩):@AW P c.rd ⟨.loop x⟩ s Q:=by
 refine eV.loop (λn s'=>∃a,m a=n/\I a/\(st a).at s.nt s.df s') ⟨m a₀,a₀,rfl,h₀.1,h₀.2⟩ λn s' ⟨a,hm,hI,sH⟩=>?_
 obtain⟨_,_,_,q1,q2⟩:=id sH;refine eV.at (st a) (by rw[q1,q2];exact sH) ?_
 rw[q1,q2];refine(EV.sound hc (round a hI)).mono λe s2 q=>?_
 cases e with
 |normal=>obtain⟨a',h1,h2,h3⟩:=q;exact⟨m a',hm▸h1,a',rfl,h2,h3⟩
 |_=>exact q
theorem AW.ev(hc:c.ok P)(h:@EV P c ⟨x⟩ s Q):@AW P c.rd ⟨x⟩ s Q:=EV.sound hc h
theorem AW.seq(hc:c.ok P)(h:@EV P c ⟨x⟩ s ⟨@TH ⟨λs'=>@AW P c.rd ⟨y⟩ s' Q⟩ Q⟩):@AW P c.rd ⟨.seq x y⟩ s Q:=eV.seq (EV.sound hc h)
theorem AW.seqW(h:@AW P c.rd ⟨x⟩ s ⟨@TH ⟨λs'=>@AW P c.rd ⟨y⟩ s' Q⟩ Q⟩):@AW P c.rd ⟨.seq x y⟩ s Q:=eV.seq h
theorem AW.block{i:Nat}(h:@AW P c.rd ⟨x⟩ s ⟨@BL i Q⟩):@AW P c.rd ⟨.block i x⟩ s Q:=eV.block h
theorem AW.at(z:LS)(hz:z.at s.nt s.df s)(h:@AW P c.rd ⟨x⟩ (z.s s.nt s.df) Q):@AW P c.rd ⟨x⟩ s Q:=eV.at z hz h
theorem AW.join(st:α->LS)(I:α->Prop)
  (h:@AW P c.rd ⟨x⟩ s ⟨@TH ⟨λs'=>@JN α ⟨st,λ_=>0,I⟩ s.nt s.df s'⟩ Q⟩) (k:∀a,I a->@AW P c.rd ⟨y⟩ ((st a).s s.nt s.df) Q):@AW P c.rd ⟨.seq x y⟩ s Q:=by
 refine eV.seq (eV.mono h λe s' q=>?_)
 cases e with
 |normal=>
  obtain⟨a,hI,sH⟩:=q;obtain⟨_,_,_,q1,q2⟩:=id sH;refine eV.at (st a) (by rw[q1,q2];exact sH) ?_
  rw[q1,q2];exact k a hI
 |_=>exact q
theorem AW.Dg(hc:c.ok P)(st:α->LS)(m:α->Nat)(I:α->Prop)(a₀:α)(h₀:I a₀/\(st a₀).at s.nt s.df s)
  (round:∀a,I a->@AW P c.rd ⟨x⟩ ((st a).s s.nt s.df) ⟨@TH ⟨λs'=>@NX α ⟨st,m,I⟩ ⟨m a⟩ s.nt s.df s'⟩ Q⟩):@AW P c.rd ⟨.loop x⟩ s Q:=by
 refine eV.loop (λn s'=>∃a,m a=n/\I a/\(st a).at s.nt s.df s') ⟨m a₀,a₀,rfl,h₀.1,h₀.2⟩ λn s' ⟨a,hm,hI,sH⟩=>?_
 obtain⟨_,_,_,q1,q2⟩:=id sH;refine eV.at (st a) (by rw[q1,q2];exact sH) ?_
 rw[q1,q2];refine eV.mono (round a hI) λe s2 q=>?_
 cases e with
 |normal=>obtain⟨a',h1,h2,h3⟩:=q;exact⟨m a',hm▸h1,a',rfl,h2,h3⟩
 |_=>exact q
end
attribute [simp] LS.at eqL eqB iR LV.fits DV.fits sv maxLen
end Go.Aft
end
