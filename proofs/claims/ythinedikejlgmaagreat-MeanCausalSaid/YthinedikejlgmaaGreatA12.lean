import Derived.Test.YthinedikejlgmaaGreatA11
set_option linter.all false
section
namespace Go.Aft
class DT where
 pf:List (Nat×Cl)
 sched:Ol
def AT(j:Nat)[o:OT]:Option Oper:=o.l[j]?
def QR(r:Option vo)(s:S)(dst:Option Nat)[K:KT]:Prop:=match r with
 |some ⟨pre,v,.no⟩=>pre/\AP (s.put dst v)
 |_=>False
def vf(r:Option vo)(g:Bool)(s:S)(dst:Option Nat)[K:KT]:Prop:=match r with
 |some ⟨pre,v,.no⟩=>(g=true->pre)/\AP (s.put dst (.gd g v))
 |none=>g=false/\AP (s.put dst (.gd g .any))
 |_=>False
def FC(P:Program)(k:Cl)(f:FuncId)(args:List LV)(s:S)(dst:Option Nat)[K:KT]:Prop:=∃v,FV P s k f args v/\AP (s.put dst v)
def kN(P:Program)(k:Cl)(f:FuncId)(args:List LV)(g:Bool)(s:S)(dst:Option Nat)[K:KT]:Prop:=∃v,(g=true->FV P s k f args v)/\AP (s.put dst (.gd g v))
def yR(P:Program)(f:FuncId)(args:List LV)(H:GH)(s:S)(dst:Option Nat)[o:OT][K:KT][Q:QT]:Prop:=
 aG P f args H (λce H'=>match ce with
    |.ret v=>s.H.next<=H'.next->AP (({s with H:=H'}:S).put dst v)
    |.ej x=>∀env,(∀t,RU o.l.toArray t=true->env t=s.env t)->Q.q (.ej x) {s with H:=H',env:=env})
def QO(P:Program)(c:Cx)(k:Cl)(dst:Option Nat)(op:Op)(g:Option (Nat×Bool))(s:S)[o:OT][K:KT]:Prop:=
 match g with
 |none=>
  match op with
  |.pick x a b=>@BK (s.arg x) ⟨λg=>s.aI x/\(g=true->s.aI a)/\(g=false->s.aI b)/\AP (s.put dst (mJ g (s.arg a) (s.arg b)))⟩
  |.call ⟨.value fo,args,_⟩=>@jq _ (cE (s.arg fo)) ⟨λp=>s.aI fo/\jc (args.toList.map s.aI)/\cD s.H.next (p.2.1++args.toList.map s.arg++p.2.2)/\FC P k p.1 (p.2.1++args.toList.map s.arg++p.2.2) s dst⟩
  |.load T p=>match k with|.n=>(s.arg p).still/\QR (bV c.ty c.bR c.bO s dst (.load T p)) s dst|_=>QR (bV c.ty c.bR c.bO s dst (.load T p)) s dst
  |op=>QR (bV c.ty c.bR c.bO s dst op) s dst
 |some (j,want)=>@jq Bool (GD (DA j) s want) ⟨λg=>
  match op with
  |.pick x a b=>@BK (s.arg x) ⟨λh=>(g=true->s.aI x/\(h=true->s.aI a)/\(h=false->s.aI b))/\AP (s.put dst (.gd g (mJ h (s.arg a) (s.arg b))))⟩
  |.call ⟨.value fo,args,_⟩=>@jq _ (cE (s.arg fo)) ⟨λp=>(g=true->s.aI fo/\jc (args.toList.map s.aI)/\cD s.H.next (p.2.1++args.toList.map s.arg++p.2.2))/\kN P k p.1 (p.2.1++args.toList.map s.arg++p.2.2) g s dst⟩
  |.load T p=>match k with|.n=>(g=true->(s.arg p).still)/\vf (bV c.ty c.bR c.bO s dst (.load T p)) g s dst|_=>vf (bV c.ty c.bR c.bO s dst (.load T p)) g s dst
  |op=>vf (bV c.ty c.bR c.bO s dst op) g s dst⟩
def Cm(P:Program)(c:Cx)(dst:Option Nat)(op:Op)(s:S)[o:OT][K:KT][Q:QT]:Prop:=
 match op with
 |.call ⟨.value fo,args,_⟩=>@jq _ (cE (s.arg fo)) ⟨λp=>s.aI fo/\jc (args.toList.map s.aI)/\cD s.H.next (p.2.1++args.toList.map s.arg++p.2.2)/\yR P p.1 (p.2.1++args.toList.map s.arg++p.2.2) s.H s dst⟩
 |.panic _=>False
 |op=>RK (bV c.ty c.bR c.bO s dst op) s dst
def XO(P:Program)(c:Cx)(dst:Option Nat)(op:Op)(g:Option (Nat×Bool))(s:S)[o:OT][K:KT][Q:QT]:Prop:=
 match g with
 |none=>Cm P c dst op s
 |some (j,want)=>@jq Bool (GD (DA j) s want) ⟨λg=>(g=true->Cm P c dst op s)/\(g=false->AP (s.put dst .any))⟩
def DY(P:Program)(c:Cx)(k:Cl)(dst:Option Nat)(op:Op)(g:Option (Nat×Bool))(s:S)[o:OT][K:KT][Q:QT]:Prop:=
 match k with
 |.n=>QO P c .n dst op g s
 |.r=>QO P c .r dst op g s
 |_=>XO P c dst op g s
def DX(P:Program)(c:Cx)(x:Option Oper)(b:Option Cl)(s:S)[o:OT][K:KT][Q:QT]:Prop:=match x with
 |none=>False
 |some ⟨dst,op,_,_,_,g⟩=>yM dst s.nt/\DY P c (ek b op) dst op g s
mutual
def RW(P:Program)(c:Cx)(l:List Oper)(pf:List (Nat×Cl))(Q:QT):Ol->S->Prop
 |.done,s=>Q.q .normal s
 |.q i k,s=>@DX P c (@AT i ⟨l,[]⟩) (pf.lookup i) s ⟨l,[]⟩ ⟨λs'=>RW P c l pf Q k s'⟩ Q
 |.f ks,s=>Y6 P c l pf Q ks s
def Y6(P:Program)(c:Cx)(l:List Oper)(pf:List (Nat×Cl))(Q:QT):sJ->S->Prop
 |.nil,_=>True
 |.cons i k r,s=>@DX P c (@AT i ⟨l,[]⟩) (pf.lookup i) s ⟨l,[]⟩ ⟨λs'=>RW P c l pf Q k s'⟩ Q/\Y6 P c l pf Q r s
end
def Uo(P:Program)(c:Cx)[o:OT][d:DT](s:S)[Q:QT]:Prop:=RW P c o.l d.pf Q d.sched s
class DTs where
 pf:List (Nat×Cl)
 sched:sJ
def GF(P:Program)(c:Cx)[o:OT][d:DTs](s:S)[Q:QT]:Prop:=Y6 P c o.l d.pf Q d.sched s
section
variable {P:Program} {c:Cx} {l rest:List Oper} {pf:List (Nat×Cl)} {k:Cl} {s:S} {Q:QT} {K:KT} {dst:Option Nat}
theorem sL{op:Op}(hf:Jj op=false)(hp:∀x a b,op≠ .pick x a b)(h:kI k op s/\@QR (bV c.ty c.bR c.bO s dst op) s dst K):∃v,Xb P c k s dst op v/\K.k (s.put dst v):=by
 obtain⟨hst,h⟩:=h;unfold QR at h
 split at h
 ·rename_i pre v e;refine⟨v,?_,h.2⟩;have:∃pre,bV c.ty c.bR c.bO s dst op=some ⟨pre,v,.no⟩/\pre/\kI k op s:=⟨pre,e,h.1,hst⟩;cases op with
  |pick x a b=>exact absurd rfl (hp x a b)
  |call cl=>obtain⟨callee,args,tys⟩:=cl;cases callee<;>first|exact this|cases hf
  |_=>exact this
 ·exact h.elim
theorem px{op:Op}{g:Bool}(hf:Jj op=false)(hp:∀x a b,op≠ .pick x a b)(h:(g=true->kI k op s)/\@vf (bV c.ty c.bR c.bO s dst op) g s dst K):∃v,(g=true->Xb P c k s dst op v)/\K.k (s.put dst (.gd g v)):=by
 obtain⟨hst,h⟩:=h;unfold vf at h
 split at h
 ·rename_i pre v e;refine⟨v,λq=>?_,h.2⟩
  have:∃pre,bV c.ty c.bR c.bO s dst op=some ⟨pre,v,.no⟩/\pre/\kI k op s:=⟨pre,e,h.1 q,hst q⟩;cases op with
  |pick x a b=>exact absurd rfl (hp x a b)
  |call cl=>obtain⟨callee,args,tys⟩:=cl;cases callee<;>first|exact this|cases hf
  |_=>exact this
 ·exact⟨.any,λq=>(by rw[h.1]at q;cases q),h.2⟩
 ·exact h.elim
theorem OF{x:LV}{F:FA Bool}(h:@BK x F):∃g,x=.d (.k (.bool g))/\F.f g:=by
 unfold BK at h
 split at h
 ·exact⟨_,rfl,h⟩
 ·exact h.elim
theorem sM{α:Type}{x:Option α}{F:FA α}(h:@jq α x F):∃g,x=some g/\F.f g:=by
 unfold jq at h
 split at h
 ·exact⟨_,rfl,h⟩
 ·exact h.elim
theorem KH{op:Op}{g:Option (Nat×Bool)}{T:TypeId}{pos:String}{af:Array Edge}(h:@QO P c k dst op g s ⟨l,[]⟩ K):∃v,QV P c k l.toArray s ⟨dst,op,T,pos,af,g⟩ v/\K.k (s.put dst v):=by
 cases g with
 |none=>
  unfold QV;simp only;cases op with
  |pick x a b=>
   obtain⟨g,e,h1,h2,h3,h4⟩:=OF h;exact⟨_,⟨g,e,h1,h2,h3,rfl⟩,h4⟩
  |call cl=>
   obtain⟨callee,args,tys⟩:=cl;cases callee with
   |value fo=>
    obtain⟨⟨f,first,cap⟩,e,h1,h2,h3,v,h4,h5⟩:=sM h
    exact⟨v,⟨f,first,cap,e,h1,h2,h3,h4⟩,h5⟩
   |builtin b=>exact sL rfl (λ_ _ _ q=>by cases q) ⟨by cases k<;>trivial,h⟩
   |invoke f m=>exact sL rfl (λ_ _ _ q=>by cases q) ⟨by cases k<;>trivial,h⟩
  |load T p=>cases k<;>first|exact sL rfl (λ_ _ _ q=>by cases q) ⟨trivial,h⟩|exact sL rfl (λ_ _ _ q=>by cases q) h
  |_=>exact sL rfl (λ_ _ _ q=>by cases q) ⟨by cases k<;>trivial,h⟩
 |some jw=>
  obtain⟨j,want⟩:=jw;unfold QV;simp only;obtain⟨g,e,h⟩:=sM h;rw[T5]at e;have fin:(∃v,(g=true->Xb P c k s dst op v)/\K.k (s.put dst (.gd g v)))->∃v,(∃g u,guardOf l.toArray s j want=some g/\v=.gd g u/\(g=true->Xb P c k s dst op u))/\K.k (s.put dst v):=
   λ⟨v,h1,h2⟩=>⟨.gd g v,⟨g,v,e,rfl,h1⟩,h2⟩
  apply fin;cases op with
  |pick x a b=>
   obtain⟨g',e',h1,h4⟩:=OF h;exact⟨_,λq=>⟨g',e',(h1 q).1,(h1 q).2.1,(h1 q).2.2,rfl⟩,h4⟩
  |call cl=>
   obtain⟨callee,args,tys⟩:=cl;cases callee with
   |value fo=>
    obtain⟨⟨f,first,cap⟩,e',h1,v,h4,h5⟩:=sM h
    exact⟨v,λq=>⟨f,first,cap,e',(h1 q).1,(h1 q).2.1,(h1 q).2.2,h4 q⟩,h5⟩
   |builtin b=>exact px rfl (λ_ _ _ q=>by cases q) ⟨λ_=>by cases k<;>trivial,h⟩
   |invoke f m=>exact px rfl (λ_ _ _ q=>by cases q) ⟨λ_=>by cases k<;>trivial,h⟩
  |load T p=>cases k<;>first|exact px rfl (λ_ _ _ q=>by cases q) ⟨λ_=>trivial,h⟩|exact px rfl (λ_ _ _ q=>by cases q) h
  |_=>exact px rfl (λ_ _ _ q=>by cases q) ⟨λ_=>by cases k<;>trivial,h⟩
theorem GC{r:Option vo}(h:@RK r s dst K):∃x,r=some x/\x.pre/\K.k ((s.kD dst x.kD).put dst x.v):=by
 cases r with
 |none=>exact h.elim
 |some x=>exact⟨x,rfl,h.1,h.2⟩
theorem EX{op:Op}(h:@Cm P c dst op s ⟨l,[]⟩ K Q):Zk P c l.toArray s dst op K.k Q.q:=by
 cases op with
 |call cl=>
  obtain⟨callee,args,tys⟩:=cl;cases callee with
  |value fo=>
   obtain⟨⟨f,first,cap⟩,e,h1,h2,h3,h4⟩:=sM h
   exact⟨f,first,cap,e,h1,h2,h3,h4⟩
  |builtin b=>exact GC h
  |invoke f m=>exact GC h
 |panic x=>exact h.elim
 |_=>exact GC h
theorem KB{op:Op}{g:Option (Nat×Bool)}{T:TypeId}{pos:String}{af:Array Edge}(h:@XO P c dst op g s ⟨l,[]⟩ K Q):EF P c l.toArray s ⟨dst,op,T,pos,af,g⟩ K.k Q.q:=by
 unfold EF;cases g with
 |none=>exact EX h
 |some jw=>
  obtain⟨j,want⟩:=jw;obtain⟨g,e,h1,h2⟩:=sM h;rw[T5]at e;exact⟨g,e,λq=>EX (h1 q),h2⟩
theorem KQ{i:Nat}{b:Option Cl}(hb:b=pf.lookup i)(h:@DX P c l[i]? b s ⟨l,[]⟩ K Q):KL P c l.toArray pf i s K.k Q.q:=by
 subst hb;unfold KL;simp only[List.getElem?_toArray];cases ho:l[i]? with
 |none=>rw[ho]at h;exact h.elim
 |some o=>
  rw[ho]at h;obtain⟨dst,op,T,pos,af,g⟩:=o;obtain⟨h1,h2⟩:=h;have ecl:dQ pf i ⟨dst,op,T,pos,af,g⟩=ek (pf.lookup i) op:=rfl;simp only;refine⟨λt ht=>by subst ht;exact h1,?_⟩
  rw[ecl];cases hq:ek (pf.lookup i) op with
  |n=>
   rw[hq]at h2;rw[if_pos (.inl rfl)];exact KH (T:=T) (pos:=pos) (af:=af) (c:=c) h2
  |r=>
   rw[hq]at h2;rw[if_pos (.inr rfl)];exact KH (T:=T) (pos:=pos) (af:=af) (c:=c) h2
  |c=>
   rw[hq]at h2;rw[if_neg (by simp)]
   exact KB (T:=T) (pos:=pos) (af:=af) h2
  |x=>
   rw[hq]at h2;rw[if_neg (by simp)]
   exact KB (T:=T) (pos:=pos) (af:=af) h2
mutual
theorem Cq:∀(sched:Ol) (s:S),RW P c l pf Q sched s->HI P c l.toArray pf Q.q sched s
 |.done,s,h=>h
 |.q i k,s,h=>by
  simp only[HI];unfold RW AT at h;exact wG (λs' _ hK=>Cq k s' hK) (KQ rfl h)
 |.f ks,s,h=>by
  simp only[HI];unfold RW at h;exact EZ ks s h
theorem EZ:∀(sched:sJ) (s:S),Y6 P c l pf Q sched s->Ad P c l.toArray pf Q.q sched s
 |.nil,s,h=>by simp only[Ad]
 |.cons i k r,s,h=>by
  simp only[Ad];unfold Y6 AT at h;exact⟨wG (λs' _ hK=>Cq k s' hK) (KQ rfl h.1),EZ r s h.2⟩
end
theorem AW.draw{rd:RD}(hc:c.ok P){id:Nat}(pf:List (Nat×Cl))(sched:Ol)(hB:CO pf l.toArray sched l.toArray.size (Array.replicate l.toArray.size false)=true)(h:@Uo P c ⟨l,[]⟩ ⟨pf,sched⟩ s Q):@AW P rd ⟨.region id l.toArray true⟩ s Q:=
 fh.draw hc pf sched hB (Cq sched s h)
@[simp] theorem aU7:@Uo P c ⟨l,rest⟩ ⟨pf,.done⟩ s Q=Q.q .normal s:=by simp only [Uo,RW]
@[simp] theorem aJ4 {i:Nat} {k:Ol}:@Uo P c ⟨l,rest⟩ ⟨pf,.q i k⟩ s Q = @DX P c (@AT i ⟨l,[]⟩) (pf.lookup i) s ⟨l,[]⟩ ⟨fun s'=>@Uo P c ⟨l,rest⟩ ⟨pf,k⟩ s' Q⟩ Q:=by simp only [Uo,RW];rfl
@[simp] theorem bE8 {ks:sJ}:@Uo P c ⟨l,rest⟩ ⟨pf,.f ks⟩ s Q = @GF P c ⟨l,rest⟩ ⟨pf,ks⟩ s Q:=by simp only [Uo,GF,RW]
@[simp] theorem aJ2 {i:Nat} {k:Ol}:@GF P c ⟨l,rest⟩ ⟨pf,.one i k⟩ s Q = @DX P c (@AT i ⟨l,[]⟩) (pf.lookup i) s ⟨l,[]⟩ ⟨fun s'=>@Uo P c ⟨l,rest⟩ ⟨pf,k⟩ s' Q⟩ Q:=by simp only [GF,Y6,sJ.one,and_true];rfl
@[simp] theorem aJ3:@GF P c ⟨l,rest⟩ ⟨pf,.nil⟩ s Q=True:=by simp only [GF,Y6]
@[simp] theorem ao1 {i:Nat} {k:Ol} {r:sJ}:@GF P c ⟨l,rest⟩ ⟨pf,.cons i k r⟩ s Q=(@DX P c (@AT i ⟨l,[]⟩) (pf.lookup i) s ⟨l,[]⟩ ⟨fun s'=>@Uo P c ⟨l,rest⟩ ⟨pf,k⟩ s' Q⟩ Q/\@GF P c ⟨l,rest⟩ ⟨pf,r⟩ s Q):=by simp only [GF,Y6];rfl
@[simp] theorem bu5 {i:Nat}:List.lookup i ([]:List (Nat × Cl))=none:=rfl
@[simp] theorem aW6 {i j:Nat} {k:Cl}:List.lookup i ((j,k) :: pf)=if i=j then some k else List.lookup i pf:=by
 simp only[List.lookup];by_cases h:i=j
 ·simp[h]
 ·rw[if_neg h,beq_false_of_ne h]
variable {T:TypeId} {pos:String} {af:Array Edge} {g:Option (Nat×Bool)} {j:Nat} {want:Bool} {o:OT}
@[simp] theorem aY3 {x:Oper}:@AT 0 ⟨x :: l,rest⟩=some x:=rfl
@[simp] theorem aY4 {x:Oper}:@AT (j+1) ⟨x :: l,rest⟩ = @AT j ⟨l,[]⟩:=by simp [AT]
@[simp] theorem aX6 {op:Op} {b:Option Cl}:@DX P c (some ⟨dst,op,T,pos,af,g⟩) b s o K Q=(yM dst s.nt/\@DY P c (ek b op) dst op g s o K Q):=rfl
@[simp] theorem bQ1 {op:Op}:@DY P c .n dst op g s o K Q = @QO P c .n dst op g s o K:=rfl
@[simp] theorem bQ0 {op:Op}:@DY P c .r dst op g s o K Q = @QO P c .r dst op g s o K:=rfl
@[simp] theorem bQ2 {op:Op}:@DY P c .c dst op g s o K Q = @XO P c dst op g s o K Q:=rfl
@[simp] theorem bP9 {op:Op}:@DY P c .x dst op g s o K Q = @XO P c dst op g s o K Q:=rfl
@[simp] theorem aU8 {pre:Prop} {v:LV}:@QR (some ⟨pre,v,.no⟩) s dst K=(pre/\@AP K (s.put dst v)):=rfl
@[simp] theorem aJ5 {pre:Prop} {v:LV} {g:Bool}:@vf (some ⟨pre,v,.no⟩) g s dst K=((g=true->pre)/\@AP K (s.put dst (.gd g v))):=rfl
@[simp] theorem aJ6:@vf none false s dst K = @AP K (s.put dst (.gd false .any)):=by simp [vf]
@[simp] theorem aT8 {op:Op}:@XO P c dst op none s o K Q = @Cm P c dst op s o K Q:=rfl
@[simp] theorem aT7 {op:Op}:@XO P c dst op (some (j,want)) s o K Q = @jq Bool (GD (@DA j o) s want) ⟨fun g=>(g=true->@Cm P c dst op s o K Q)/\(g=false->@AP K (s.put dst .any))⟩:=rfl
theorem FC.aJ{f:FuncId}{args:List LV}{v:LV}(h:aC P f args v)(hk:@AP K (s.put dst v)):@FC P .n f args s dst K:=⟨v,h,hk⟩
theorem kN.aJ{f:FuncId}{args:List LV}{g:Bool}{v:LV}(h:g=true->aC P f args v)(hk:@AP K (s.put dst (.gd g v))):@kN P .n f args g s dst K:=⟨v,h,hk⟩
@[simp] theorem aT5 {fo:Operand} {x:Array Operand} {y:Array TypeId}:ek none (.call ⟨.value fo,x,y⟩)=.x:=rfl
@[simp] theorem am2 {fo:Operand} {x:Array Operand} {y:Array TypeId}:ek (some .n) (.call ⟨.value fo,x,y⟩)=.n:=rfl
@[simp] theorem am1 {fo:Operand} {x:Array Operand} {y:Array TypeId}:ek (some .r) (.call ⟨.value fo,x,y⟩)=.r:=rfl
@[simp] theorem aV0 {x a b:Operand}:@QO P c k dst (.pick x a b) none s o K = @BK (s.arg x) ⟨fun g=>s.aI x/\(g=true->s.aI a)/\(g=false->s.aI b)/\@AP K (s.put dst (mJ g (s.arg a) (s.arg b)))⟩:=rfl
@[simp] theorem aJ8 {x a b:Operand}:@QO P c k dst (.pick x a b) (some (j,want)) s o K = @jq Bool (GD (@DA j o) s want) ⟨fun g=>@BK (s.arg x) ⟨fun h=>(g=true->s.aI x/\(h=true->s.aI a)/\(h=false->s.aI b))/\@AP K (s.put dst (.gd g (mJ h (s.arg a) (s.arg b))))⟩⟩:=rfl
@[simp] theorem al7 {x y z:Operand}:ek none (.pick x y z)=.n:=rfl
@[simp] theorem bE9 {fo:Operand} {args:Array Operand} {tys:Array TypeId}:@QO P c k dst (.call ⟨.value fo,args,tys⟩) none s o K = @jq _ (cE (s.arg fo)) ⟨fun p=>s.aI fo/\jc (args.toList.map s.aI)/\cD s.H.next (p.2.1 ++ args.toList.map s.arg ++ p.2.2)/\@FC P k p.1 (p.2.1 ++ args.toList.map s.arg ++ p.2.2) s dst K⟩:=rfl
@[simp] theorem bu0 {fo:Operand} {args:Array Operand} {tys:Array TypeId}:@QO P c k dst (.call ⟨.value fo,args,tys⟩) (some (j,want)) s o K = @jq Bool (GD (@DA j o) s want) ⟨fun g=>@jq _ (cE (s.arg fo)) ⟨fun p=>(g=true->s.aI fo/\jc (args.toList.map s.aI)/\cD s.H.next (p.2.1 ++ args.toList.map s.arg ++ p.2.2))/\@kN P k p.1 (p.2.1 ++ args.toList.map s.arg ++ p.2.2) g s dst K⟩⟩:=rfl
@[simp] theorem bt3 {fo:Operand} {args:Array Operand} {tys:Array TypeId}:@Cm P c dst (.call ⟨.value fo,args,tys⟩) s o K Q = @jq _ (cE (s.arg fo)) ⟨fun p=>s.aI fo/\jc (args.toList.map s.aI)/\cD s.H.next (p.2.1 ++ args.toList.map s.arg ++ p.2.2)/\@yR P p.1 (p.2.1 ++ args.toList.map s.arg ++ p.2.2) s.H s dst o K Q⟩:=rfl
theorem yR.of{f:FuncId}{args:List LV}{H:GH}{R:CE->GH->Prop}(h:aG P f args H R)(hk:∀v H',R (.ret v) H'->s.H.next<=H'.next->@AP K (({s with H:=H'}:S).put dst v))
  (hp:∀x H' env,R (.ej x) H'->(∀t,RU o.l.toArray t=true->env t=s.env t)->Q.q (.ej x) {s with H:=H',env:=env}):@yR P f args H s dst o K Q:=
 h.mono λce H' hR=>by
  cases ce with
  |ret v=>exact hk v H' hR
  |ej x=>exact λenv=>hp x H' env hR
@[simp] theorem al9 {x0:Operand}:ek none (.move x0)=.n:=rfl
@[simp] theorem aV1 {x0:Operand}:@QO P c k dst (.move x0) none s o K = @QR (bV c.ty c.bR c.bO s dst (.move x0)) s dst K:=rfl
@[simp] theorem aJ9 {x0:Operand}:@QO P c k dst (.move x0) (some (j,want)) s o K = @jq Bool (GD (@DA j o) s want) ⟨fun g=>@vf (bV c.ty c.bR c.bO s dst (.move x0)) g s dst K⟩:=rfl
@[simp] theorem Y0 {x0:Operand}:ek none (.assign x0)=.n:=rfl
@[simp] theorem ao9 {x0:Operand}:@QO P c k dst (.assign x0) none s o K = @QR (bV c.ty c.bR c.bO s dst (.assign x0)) s dst K:=rfl
@[simp] theorem ah9 {x0:Operand}:@QO P c k dst (.assign x0) (some (j,want)) s o K = @jq Bool (GD (@DA j o) s want) ⟨fun g=>@vf (bV c.ty c.bR c.bO s dst (.assign x0)) g s dst K⟩:=rfl
@[simp] theorem ag9 {x0:TypeId}:ek none (.alloc x0)=.c:=rfl
@[simp] theorem an8 {x0:TypeId}:@Cm P c dst (.alloc x0) s o K Q = @RK (bV c.ty c.bR c.bO s dst (.alloc x0)) s dst K:=rfl
@[simp] theorem aH0 {x0:TypeId} {x1:Operand}:ek none (.box x0 x1)=.c:=rfl
@[simp] theorem aT9 {x0:TypeId} {x1:Operand}:@Cm P c dst (.box x0 x1) s o K Q = @RK (bV c.ty c.bR c.bO s dst (.box x0 x1)) s dst K:=rfl
@[simp] theorem ag6 {x0:TypeId} {x1:Array (Nat × Operand)}:ek none (.build x0 x1)=.n:=rfl
@[simp] theorem aK7 {x0:TypeId} {x1:Array (Nat × Operand)}:@QO P c k dst (.build x0 x1) none s o K = @QR (bV c.ty c.bR c.bO s dst (.build x0 x1)) s dst K:=rfl
@[simp] theorem ao5 {x0:TypeId} {x1:Array (Nat × Operand)}:@QO P c k dst (.build x0 x1) (some (j,want)) s o K = @jq Bool (GD (@DA j o) s want) ⟨fun g=>@vf (bV c.ty c.bR c.bO s dst (.build x0 x1)) g s dst K⟩:=rfl
@[simp] theorem QM {x0:TypeId} {x1:Nat} {x2:Array (Nat × Operand)}:ek none (.buildSlice x0 x1 x2)=.n:=rfl
@[simp] theorem Us {x0:TypeId} {x1:Nat} {x2:Array (Nat × Operand)}:@QO P c k dst (.buildSlice x0 x1 x2) none s o K = @QR (bV c.ty c.bR c.bO s dst (.buildSlice x0 x1 x2)) s dst K:=rfl
@[simp] theorem TY {x0:TypeId} {x1:Nat} {x2:Array (Nat × Operand)}:@QO P c k dst (.buildSlice x0 x1 x2) (some (j,want)) s o K = @jq Bool (GD (@DA j o) s want) ⟨fun g=>@vf (bV c.ty c.bR c.bO s dst (.buildSlice x0 x1 x2)) g s dst K⟩:=rfl
@[simp] theorem YZ {x0:TypeId} {x1:Operand} {x2:Operand} {x3:Operand}:ek none (.insert x0 x1 x2 x3)=.x:=rfl
@[simp] theorem ah5 {x0:TypeId} {x1:Operand} {x2:Operand} {x3:Operand}:@Cm P c dst (.insert x0 x1 x2 x3) s o K Q = @RK (bV c.ty c.bR c.bO s dst (.insert x0 x1 x2 x3)) s dst K:=rfl
@[simp] theorem am0 {x0:TypeId} {x1:Operand}:ek none (.load x0 x1)=.r:=rfl
@[simp] theorem ag2 {x0:TypeId} {x1:Operand}:ek (some .n) (.load x0 x1)=.n:=rfl
@[simp] theorem ao8 {x0:TypeId} {x1:Operand}:@QO P c .n dst (.load x0 x1) none s o K=((s.arg x1).still/\@QR (bV c.ty c.bR c.bO s dst (.load x0 x1)) s dst K):=rfl
@[simp] theorem ah8 {x0:TypeId} {x1:Operand}:@QO P c .n dst (.load x0 x1) (some (j,want)) s o K = @jq Bool (GD (@DA j o) s want) ⟨fun g=>(g=true->(s.arg x1).still)/\@vf (bV c.ty c.bR c.bO s dst (.load x0 x1)) g s dst K⟩:=rfl
@[simp] theorem aV2 {x0:TypeId} {x1:Operand}:@QO P c .r dst (.load x0 x1) none s o K = @QR (bV c.ty c.bR c.bO s dst (.load x0 x1)) s dst K:=rfl
@[simp] theorem aK0 {x0:TypeId} {x1:Operand}:@QO P c .r dst (.load x0 x1) (some (j,want)) s o K = @jq Bool (GD (@DA j o) s want) ⟨fun g=>@vf (bV c.ty c.bR c.bO s dst (.load x0 x1)) g s dst K⟩:=rfl
@[simp] theorem af9 {x0:TypeId} {x1:Operand} {x2:Operand}:ek none (.store x0 x1 x2)=.x:=rfl
@[simp] theorem an3 {x0:TypeId} {x1:Operand} {x2:Operand}:@Cm P c dst (.store x0 x1 x2) s o K Q = @RK (bV c.ty c.bR c.bO s dst (.store x0 x1 x2)) s dst K:=rfl
@[simp] theorem Uj {x0:Operand}:ek none (.nilCheck x0)=.n:=rfl
@[simp] theorem Zc {x0:Operand}:@QO P c k dst (.nilCheck x0) none s o K = @QR (bV c.ty c.bR c.bO s dst (.nilCheck x0)) s dst K:=rfl
@[simp] theorem Xc {x0:Operand}:@QO P c k dst (.nilCheck x0) (some (j,want)) s o K = @jq Bool (GD (@DA j o) s want) ⟨fun g=>@vf (bV c.ty c.bR c.bO s dst (.nilCheck x0)) g s dst K⟩:=rfl
@[simp] theorem ag7 {x0:BinOp} {x1:TypeId} {x2:Operand} {x3:Operand} {x4:TypeId}:ek none (.binOp x0 x1 x2 x3 x4)=.n:=rfl
@[simp] theorem aK8 {x0:BinOp} {x1:TypeId} {x2:Operand} {x3:Operand} {x4:TypeId}:@QO P c k dst (.binOp x0 x1 x2 x3 x4) none s o K = @QR (bV c.ty c.bR c.bO s dst (.binOp x0 x1 x2 x3 x4)) s dst K:=rfl
@[simp] theorem ao6 {x0:BinOp} {x1:TypeId} {x2:Operand} {x3:Operand} {x4:TypeId}:@QO P c k dst (.binOp x0 x1 x2 x3 x4) (some (j,want)) s o K = @jq Bool (GD (@DA j o) s want) ⟨fun g=>@vf (bV c.ty c.bR c.bO s dst (.binOp x0 x1 x2 x3 x4)) g s dst K⟩:=rfl
@[simp] theorem al6 {x0:UnOp} {x1:TypeId} {x2:Operand}:ek none (.unOp x0 x1 x2)=.n:=rfl
@[simp] theorem aU9 {x0:UnOp} {x1:TypeId} {x2:Operand}:@QO P c k dst (.unOp x0 x1 x2) none s o K = @QR (bV c.ty c.bR c.bO s dst (.unOp x0 x1 x2)) s dst K:=rfl
@[simp] theorem aJ7 {x0:UnOp} {x1:TypeId} {x2:Operand}:@QO P c k dst (.unOp x0 x1 x2) (some (j,want)) s o K = @jq Bool (GD (@DA j o) s want) ⟨fun g=>@vf (bV c.ty c.bR c.bO s dst (.unOp x0 x1 x2)) g s dst K⟩:=rfl
@[simp] theorem W0 {x0:TypeId} {x1:TypeId} {x2:Operand}:ek none (.convert x0 x1 x2)=.n:=rfl
@[simp] theorem ai1 {x0:TypeId} {x1:TypeId} {x2:Operand}:@QO P c k dst (.convert x0 x1 x2) none s o K = @QR (bV c.ty c.bR c.bO s dst (.convert x0 x1 x2)) s dst K:=rfl
@[simp] theorem Zb {x0:TypeId} {x1:TypeId} {x2:Operand}:@QO P c k dst (.convert x0 x1 x2) (some (j,want)) s o K = @jq Bool (GD (@DA j o) s want) ⟨fun g=>@vf (bV c.ty c.bR c.bO s dst (.convert x0 x1 x2)) g s dst K⟩:=rfl
@[simp] theorem MU {x0:TypeId} {x1:Operand}:ek none (.makeInterface x0 x1)=.n:=rfl
@[simp] theorem Qw {x0:TypeId} {x1:Operand}:@QO P c k dst (.makeInterface x0 x1) none s o K = @QR (bV c.ty c.bR c.bO s dst (.makeInterface x0 x1)) s dst K:=rfl
@[simp] theorem Ov {x0:TypeId} {x1:Operand}:@QO P c k dst (.makeInterface x0 x1) (some (j,want)) s o K = @jq Bool (GD (@DA j o) s want) ⟨fun g=>@vf (bV c.ty c.bR c.bO s dst (.makeInterface x0 x1)) g s dst K⟩:=rfl
@[simp] theorem Ul {x0:Fn} {x1:Array Operand} {x2:Array Operand}:ek none (.makeFunc x0 x1 x2)=.n:=rfl
@[simp] theorem Zd {x0:Fn} {x1:Array Operand} {x2:Array Operand}:@QO P c k dst (.makeFunc x0 x1 x2) none s o K = @QR (bV c.ty c.bR c.bO s dst (.makeFunc x0 x1 x2)) s dst K:=rfl
@[simp] theorem Xd {x0:Fn} {x1:Array Operand} {x2:Array Operand}:@QO P c k dst (.makeFunc x0 x1 x2) (some (j,want)) s o K = @jq Bool (GD (@DA j o) s want) ⟨fun g=>@vf (bV c.ty c.bR c.bO s dst (.makeFunc x0 x1 x2)) g s dst K⟩:=rfl
@[simp] theorem WY {x0:TypeId} {x1:Option Operand}:ek none (.makeMap x0 x1)=.c:=rfl
@[simp] theorem Y2 {x0:TypeId} {x1:Option Operand}:@Cm P c dst (.makeMap x0 x1) s o K Q = @RK (bV c.ty c.bR c.bO s dst (.makeMap x0 x1)) s dst K:=rfl
@[simp] theorem Tx {x0:TypeId} {x1:Operand} {x2:Operand}:ek none (.makeSlice x0 x1 x2)=.x:=rfl
@[simp] theorem Un {x0:TypeId} {x1:Operand} {x2:Operand}:@Cm P c dst (.makeSlice x0 x1 x2) s o K Q = @RK (bV c.ty c.bR c.bO s dst (.makeSlice x0 x1 x2)) s dst K:=rfl
@[simp] theorem ag0 {x0:TypeId} {x1:Operand} {x2:Option Operand} {x3:Option Operand} {x4:Option Operand}:ek none (.slice x0 x1 x2 x3 x4)=.r:=rfl
@[simp] theorem aK4 {x0:TypeId} {x1:Operand} {x2:Option Operand} {x3:Option Operand} {x4:Option Operand}:@QO P c k dst (.slice x0 x1 x2 x3 x4) none s o K = @QR (bV c.ty c.bR c.bO s dst (.slice x0 x1 x2 x3 x4)) s dst K:=rfl
@[simp] theorem ao2 {x0:TypeId} {x1:Operand} {x2:Option Operand} {x3:Option Operand} {x4:Option Operand}:@QO P c k dst (.slice x0 x1 x2 x3 x4) (some (j,want)) s o K = @jq Bool (GD (@DA j o) s want) ⟨fun g=>@vf (bV c.ty c.bR c.bO s dst (.slice x0 x1 x2 x3 x4)) g s dst K⟩:=rfl
@[simp] theorem Tz {x0:TypeId} {x1:Operand} {x2:Nat}:ek none (.fieldAddr x0 x1 x2)=.n:=rfl
@[simp] theorem Xf {x0:TypeId} {x1:Operand} {x2:Nat}:@QO P c k dst (.fieldAddr x0 x1 x2) none s o K = @QR (bV c.ty c.bR c.bO s dst (.fieldAddr x0 x1 x2)) s dst K:=rfl
@[simp] theorem Uq {x0:TypeId} {x1:Operand} {x2:Nat}:@QO P c k dst (.fieldAddr x0 x1 x2) (some (j,want)) s o K = @jq Bool (GD (@DA j o) s want) ⟨fun g=>@vf (bV c.ty c.bR c.bO s dst (.fieldAddr x0 x1 x2)) g s dst K⟩:=rfl
@[simp] theorem ag4 {x0:TypeId} {x1:Operand} {x2:Nat}:ek none (.field x0 x1 x2)=.n:=rfl
@[simp] theorem aK6 {x0:TypeId} {x1:Operand} {x2:Nat}:@QO P c k dst (.field x0 x1 x2) none s o K = @QR (bV c.ty c.bR c.bO s dst (.field x0 x1 x2)) s dst K:=rfl
@[simp] theorem ao4 {x0:TypeId} {x1:Operand} {x2:Nat}:@QO P c k dst (.field x0 x1 x2) (some (j,want)) s o K = @jq Bool (GD (@DA j o) s want) ⟨fun g=>@vf (bV c.ty c.bR c.bO s dst (.field x0 x1 x2)) g s dst K⟩:=rfl
@[simp] theorem Ty {x0:TypeId} {x1:Operand} {x2:Operand}:ek none (.indexAddr x0 x1 x2)=.n:=rfl
@[simp] theorem Xe {x0:TypeId} {x1:Operand} {x2:Operand}:@QO P c k dst (.indexAddr x0 x1 x2) none s o K = @QR (bV c.ty c.bR c.bO s dst (.indexAddr x0 x1 x2)) s dst K:=rfl
@[simp] theorem Up {x0:TypeId} {x1:Operand} {x2:Operand}:@QO P c k dst (.indexAddr x0 x1 x2) (some (j,want)) s o K = @jq Bool (GD (@DA j o) s want) ⟨fun g=>@vf (bV c.ty c.bR c.bO s dst (.indexAddr x0 x1 x2)) g s dst K⟩:=rfl
@[simp] theorem ag3 {x0:TypeId} {x1:Operand} {x2:Operand}:ek none (.index x0 x1 x2)=.n:=rfl
@[simp] theorem aK5 {x0:TypeId} {x1:Operand} {x2:Operand}:@QO P c k dst (.index x0 x1 x2) none s o K = @QR (bV c.ty c.bR c.bO s dst (.index x0 x1 x2)) s dst K:=rfl
@[simp] theorem ao3 {x0:TypeId} {x1:Operand} {x2:Operand}:@QO P c k dst (.index x0 x1 x2) (some (j,want)) s o K = @jq Bool (GD (@DA j o) s want) ⟨fun g=>@vf (bV c.ty c.bR c.bO s dst (.index x0 x1 x2)) g s dst K⟩:=rfl
@[simp] theorem YY {x0:TypeId} {x1:Operand} {x2:Operand} {x3:Bool}:ek none (.lookup x0 x1 x2 x3)=.r:=rfl
@[simp] theorem ao7 {x0:TypeId} {x1:Operand} {x2:Operand} {x3:Bool}:@QO P c k dst (.lookup x0 x1 x2 x3) none s o K = @QR (bV c.ty c.bR c.bO s dst (.lookup x0 x1 x2 x3)) s dst K:=rfl
@[simp] theorem ah7 {x0:TypeId} {x1:Operand} {x2:Operand} {x3:Bool}:@QO P c k dst (.lookup x0 x1 x2 x3) (some (j,want)) s o K = @jq Bool (GD (@DA j o) s want) ⟨fun g=>@vf (bV c.ty c.bR c.bO s dst (.lookup x0 x1 x2 x3)) g s dst K⟩:=rfl
@[simp] theorem Tw {x0:TypeId} {x1:Operand} {x2:Operand} {x3:Operand}:ek none (.mapUpdate x0 x1 x2 x3)=.x:=rfl
@[simp] theorem Um {x0:TypeId} {x1:Operand} {x2:Operand} {x3:Operand}:@Cm P c dst (.mapUpdate x0 x1 x2 x3) s o K Q = @RK (bV c.ty c.bR c.bO s dst (.mapUpdate x0 x1 x2 x3)) s dst K:=rfl
@[simp] theorem QL {x0:TypeId} {x1:Operand} {x2:Operand} {x3:Operand}:ek none (.entryStore x0 x1 x2 x3)=.x:=rfl
@[simp] theorem Uk {x0:TypeId} {x1:Operand} {x2:Operand}:ek none (.mapEntry x0 x1 x2)=.x:=rfl
@[simp] theorem TT {x0:TypeId} {x1:Operand} {x2:Operand} {x3:Operand}:@Cm P c dst (.entryStore x0 x1 x2 x3) s o K Q = @RK (bV c.ty c.bR c.bO s dst (.entryStore x0 x1 x2 x3)) s dst K:=rfl
@[simp] theorem W9 {x0:TypeId} {x1:Operand} {x2:Operand}:@Cm P c dst (.mapEntry x0 x1 x2) s o K Q = @RK (bV c.ty c.bR c.bO s dst (.mapEntry x0 x1 x2)) s dst K:=rfl
@[simp] theorem ag1 {x0:TypeId} {x1:Operand}:ek none (.range x0 x1)=.x:=rfl
@[simp] theorem an5 {x0:TypeId} {x1:Operand}:@Cm P c dst (.range x0 x1) s o K Q = @RK (bV c.ty c.bR c.bO s dst (.range x0 x1)) s dst K:=rfl
@[simp] theorem al8 {x0:Operand} {x1:Bool}:ek none (.next x0 x1)=.x:=rfl
@[simp] theorem aI4 {x0:Operand} {x1:Bool}:@Cm P c dst (.next x0 x1) s o K Q = @RK (bV c.ty c.bR c.bO s dst (.next x0 x1)) s dst K:=rfl
@[simp] theorem ag5 {x0:Operand}:ek none (.entry x0)=.x:=rfl
@[simp] theorem an6 {x0:Operand}:@Cm P c dst (.entry x0) s o K Q = @RK (bV c.ty c.bR c.bO s dst (.entry x0)) s dst K:=rfl
@[simp] theorem QK {x0:Operand} {x1:TypeId} {x2:TypeId} {x3:Bool}:ek none (.typeAssert x0 x1 x2 x3)=.n:=rfl
@[simp] theorem Ur {x0:Operand} {x1:TypeId} {x2:TypeId} {x3:Bool}:@QO P c k dst (.typeAssert x0 x1 x2 x3) none s o K = @QR (bV c.ty c.bR c.bO s dst (.typeAssert x0 x1 x2 x3)) s dst K:=rfl
@[simp] theorem TX {x0:Operand} {x1:TypeId} {x2:TypeId} {x3:Bool}:@QO P c k dst (.typeAssert x0 x1 x2 x3) (some (j,want)) s o K = @jq Bool (GD (@DA j o) s want) ⟨fun g=>@vf (bV c.ty c.bR c.bO s dst (.typeAssert x0 x1 x2 x3)) g s dst K⟩:=rfl
@[simp] theorem WZ {x0:Operand} {x1:Nat}:ek none (.extract x0 x1)=.n:=rfl
@[simp] theorem ai0 {x0:Operand} {x1:Nat}:@QO P c k dst (.extract x0 x1) none s o K = @QR (bV c.ty c.bR c.bO s dst (.extract x0 x1)) s dst K:=rfl
@[simp] theorem Za {x0:Operand} {x1:Nat}:@QO P c k dst (.extract x0 x1) (some (j,want)) s o K = @jq Bool (GD (@DA j o) s want) ⟨fun g=>@vf (bV c.ty c.bR c.bO s dst (.extract x0 x1)) g s dst K⟩:=rfl
@[simp] theorem am5 {x:Array Operand} {y:Array TypeId}:ek none (.call ⟨.builtin .len,x,y⟩)=.r:=rfl
@[simp] theorem aV5 {x:Array Operand} {y:Array TypeId}:@QO P c k dst (.call ⟨.builtin .len,x,y⟩) none s o K = @QR (bV c.ty c.bR c.bO s dst (.call ⟨.builtin .len,x,y⟩)) s dst K:=rfl
@[simp] theorem aK3 {x:Array Operand} {y:Array TypeId}:@QO P c k dst (.call ⟨.builtin .len,x,y⟩) (some (j,want)) s o K = @jq Bool (GD (@DA j o) s want) ⟨fun g=>@vf (bV c.ty c.bR c.bO s dst (.call ⟨.builtin .len,x,y⟩)) g s dst K⟩:=rfl
@[simp] theorem am3 {x:Array Operand} {y:Array TypeId}:ek none (.call ⟨.builtin .min,x,y⟩)=.n:=rfl
@[simp] theorem aV3 {x:Array Operand} {y:Array TypeId}:@QO P c k dst (.call ⟨.builtin .min,x,y⟩) none s o K = @QR (bV c.ty c.bR c.bO s dst (.call ⟨.builtin .min,x,y⟩)) s dst K:=rfl
@[simp] theorem aK1 {x:Array Operand} {y:Array TypeId}:@QO P c k dst (.call ⟨.builtin .min,x,y⟩) (some (j,want)) s o K = @jq Bool (GD (@DA j o) s want) ⟨fun g=>@vf (bV c.ty c.bR c.bO s dst (.call ⟨.builtin .min,x,y⟩)) g s dst K⟩:=rfl
@[simp] theorem am4 {x:Array Operand} {y:Array TypeId}:ek none (.call ⟨.builtin .max,x,y⟩)=.n:=rfl
@[simp] theorem aV4 {x:Array Operand} {y:Array TypeId}:@QO P c k dst (.call ⟨.builtin .max,x,y⟩) none s o K = @QR (bV c.ty c.bR c.bO s dst (.call ⟨.builtin .max,x,y⟩)) s dst K:=rfl
@[simp] theorem aK2 {x:Array Operand} {y:Array TypeId}:@QO P c k dst (.call ⟨.builtin .max,x,y⟩) (some (j,want)) s o K = @jq Bool (GD (@DA j o) s want) ⟨fun g=>@vf (bV c.ty c.bR c.bO s dst (.call ⟨.builtin .max,x,y⟩)) g s dst K⟩:=rfl
@[simp] theorem W2 {x:Array Operand} {y:Array TypeId}:ek none (.call ⟨.builtin .append,x,y⟩)=.x:=rfl
@[simp] theorem Y4 {x:Array Operand} {y:Array TypeId}:@Cm P c dst (.call ⟨.builtin .append,x,y⟩) s o K Q = @eO c x y s dst K:=rfl
@[simp] theorem am6 {x:Array Operand} {y:Array TypeId}:ek none (.call ⟨.builtin .cap,x,y⟩)=.x:=rfl
@[simp] theorem aI5 {x:Array Operand} {y:Array TypeId}:@Cm P c dst (.call ⟨.builtin .cap,x,y⟩) s o K Q = @RK (bV c.ty c.bR c.bO s dst (.call ⟨.builtin .cap,x,y⟩)) s dst K:=rfl
@[simp] theorem W1 {x:Array Operand} {y:Array TypeId}:ek none (.call ⟨.builtin .delete,x,y⟩)=.x:=rfl
@[simp] theorem Y3 {x:Array Operand} {y:Array TypeId}:@Cm P c dst (.call ⟨.builtin .delete,x,y⟩) s o K Q = @RK (bV c.ty c.bR c.bO s dst (.call ⟨.builtin .delete,x,y⟩)) s dst K:=rfl
@[simp] theorem ag8 {x:Array Operand} {y:Array TypeId}:ek none (.call ⟨.builtin .copy,x,y⟩)=.x:=rfl
@[simp] theorem an7 {x:Array Operand} {y:Array TypeId}:@Cm P c dst (.call ⟨.builtin .copy,x,y⟩) s o K Q = @RK (bV c.ty c.bR c.bO s dst (.call ⟨.builtin .copy,x,y⟩)) s dst K:=rfl
attribute [simp] LV.still
end
end Go.Aft
end
section
namespace Go.Aft
mutual
def LV.only(keep:List Nat):LV->Prop
 |.lp k _=>k∈keep
 |.fn _ first cap=>ec keep first/\ec keep cap
 |.ip cs _=>ec keep cs
 |.agg cs=>ec keep cs
 |.dh cs=>ec keep cs
 |.gd g raw=>g=true->LV.only keep raw
 |_=>True
def ec(keep:List Nat):List LV->Prop
 |[]=>True
 |c::cs=>LV.only keep c/\ec keep cs
end
def uO(keep:List Nat)(lm:Nat->Option Nat):Nat->Option Nat:=λk=>if k∈keep then lm k else none
mutual
theorem zO{G:Gh}{nx:Nat}{lm:Nat->Option Nat}{keep:List Nat}:∀(x:LV) (v:Value),LR G nx lm x v->x.only keep->LR G nx (uO keep lm) x v
 |.d x,v,h,_=>by unfold LR at h|-;exact h
 |.lp k off,v,h,hb=>by
  unfold LV.only at hb;unfold LR at h|-;obtain⟨b,h1,h2⟩:=h;exact⟨b,by unfold uO;rw[if_pos hb];exact h1,h2⟩
 |.gp m off,v,h,hb=>by unfold LR at h|-;exact h
 |.ep xs es i off,v,h,_=>by unfold LR at h|-;exact h
 |.lF m xs,v,h,hb=>by unfold LR at h|-;exact h
 |.vs _ _ _ _ _,v,h,hb=>by unfold LR at h|-;exact h
 |.vp _ _ _,v,h,hb=>by unfold LR at h|-;exact h
 |.yl _,v,h,hb=>by unfold LR at h|-;exact h
 |.ip cs off,v,h,hb=>by unfold LV.only at hb;unfold LR at h|-;obtain⟨b,h1,h2⟩:=h;exact⟨b,h1,Oz b 0 cs h2 hb⟩
 |.gm m,v,h,hb=>by unfold LR at h|-;exact h
 |.fn f first cap,v,h,hb=>by
  unfold LR at h|-;unfold LV.only at hb;obtain⟨fs,cs,h1,h2,h3⟩:=h;exact⟨fs,cs,h1,pz _ _ h2 hb.1,pz _ _ h3 hb.2⟩
 |.agg cs,v,h,hb=>by unfold LR at h|-;unfold LV.only at hb;obtain⟨vs,h1,h2⟩:=h;exact⟨vs,h1,pz _ _ h2 hb⟩
 |.dh cs,v,h,hb=>by unfold LR at h|-;unfold LV.only at hb;obtain⟨vs,h1,h2⟩:=h;exact⟨vs,h1,pz _ _ h2 hb⟩
 |.gd g raw,v,h,hb=>by unfold LR at h|-;unfold LV.only at hb;exact⟨λe=>zO raw v (h.1 e) (hb e),h.2⟩
 |.any,v,_,_=>by simp[LR]
theorem pz{G:Gh}{nx:Nat}{lm:Nat->Option Nat}{keep:List Nat}:∀(xs:List LV) (vs:List Value),bH G nx lm xs vs->ec keep xs->bH G nx (uO keep lm) xs vs
 |[],vs,h,_=>by unfold bH at h|-;exact h
 |c::cs,vs,h,hb=>by
  unfold bH at h|-;unfold ec at hb;obtain⟨v,r,h1,h2,h3⟩:=h;exact⟨v,r,h1,zO c v h2 hb.1,pz cs r h3 hb.2⟩
theorem Oz{G:Gh}{nx:Nat}{lm:Nat->Option Nat}{keep:List Nat}:∀(b o:Nat) (xs:List LV),IR G nx lm b o xs->ec keep xs->IR G nx (uO keep lm) b o xs
 |b,o,[],h,_=>by simp[IR]
 |b,o,c::cs,h,hb=>by
  unfold IR at h|-;unfold ec at hb;obtain⟨⟨v,h1,zw,h2⟩,h3⟩:=h;exact⟨⟨v,h1,zw,zO c v h2 hb.1⟩,Oz b (o+1) cs h3 hb.2⟩
end
def aG7(keep:List Nat)(L:Nat->Option (List LV)):Nat->Option (List LV):=λk=>if k∈keep then L k else none
def aG8(live:List Nat)(env:Nat->LV):Nat->LV:=λt=>if t∈live then env t else .any
theorem MO{keep:List Nat}{L:Nat->Option (List LV)}{k:Nat}:aG7 keep L k=if k∈keep then L k else none:=rfl
theorem MP{live:List Nat}{env:Nat->LV}{k:Nat}:aG8 live env k=if k∈live then env k else .any:=rfl
def S.cut(s:S)(live keep:List Nat):S:=⟨aG8 live s.env,aG7 keep s.L,s.H,s.nt,s.df⟩
def ny{α:Type}(p:α->Prop):List α->Prop
 |[]=>True
 |x::xs=>p x/\ny p xs
def EK(keep:List Nat)(x:Option (List LV)):Prop:=match x with|some cs=>ec keep cs|none=>True
def S.aG6(s:S)(live keep:List Nat):Prop:=ny (λt=>(s.env t).only keep) live/\ny (λk=>EK keep (s.L k)) keep
attribute [simp] LV.only ec S.cut MO MP ny EK S.aG6
def CF(e:TypeId)(sz:Nat)(H0:GH)(x:LV)(rows:List (List DV))(H:GH):Prop:=
 (rows=[]/\x=.d (.k (.slice none 0 0))/\H=H0)\/
 (x=.lF H0.next rows/\H.next=H0.next+1/\H.obj H0.next=some (.arr e sz rows.length)/\∀m,m<H0.next->H.obj m=H0.obj m)
theorem CF.nil{e:TypeId}{sz:Nat}{H0:GH}:CF e sz H0 (.d (.k (.slice none 0 0))) [] H0:=.inl ⟨rfl,rfl,rfl⟩
theorem CF.first{e:TypeId}{sz:Nat}{H0:GH}{rows:List (List DV)}{n:Nat}(hn:rows.length=n):CF e sz H0 (.lF H0.next rows) rows (H0.add (.arr e sz n)):=by
 subst hn;exact .inr ⟨rfl,rfl,by simp[GH.add],λm hm=>by simp[GH.add,eL,Nat.ne_of_lt hm]⟩
theorem CF.more{e:TypeId}{sz:Nat}{H0 H:GH}{rows:List (List DV)}{n:Nat}(h1:H.next=H0.next+1)(h3:∀m,m<H0.next->H.obj m=H0.obj m)(hn:rows.length=n):CF e sz H0 (.lF H0.next rows) rows (H.set H0.next (.arr e sz n)):=by
 subst hn;exact .inr ⟨rfl,h1,by simp[GH.set],λm hm=>by simp[GH.set,eL,Nat.ne_of_lt hm,h3 m hm]⟩
mutual
theorem HB{k:Nat}{cs:List LV}:∀(x:LV),x.pW=true->x.sub k cs=x
 |.fn f first cap,h=>by
  simp only[LV.pW,Bool.and_eq_true]at h;simp only[LV.sub,gQ _ h.1,gQ _ h.2]
 |.ip xs off,h=>by simp only[LV.pW]at h;simp only[LV.sub,gQ _ h]
 |.agg xs,h=>by simp only[LV.pW]at h;simp only[LV.sub,gQ _ h]
 |.dh xs,h=>by simp only[LV.pW]at h;simp only[LV.sub,gQ _ h]
 |.gd g x,h=>by simp only[LV.pW]at h;simp only[LV.sub,HB x h]
 |.lp _ _,h=>by simp[LV.pW]at h
 |.d _,h|.gp _ _,h|.ep _ _ _ _,h|.lF _ _,h|.gm _,h|.vs _ _ _ _ _,h|.vp _ _ _,h|.yl _,h|.any,h=>by simp[LV.sub]
theorem gQ{k:Nat}{cs:List LV}:∀(xs:List LV),gT xs=true->qL k cs xs=xs
 |[],_=>by simp[qL]
 |x::xs,h=>by
  simp only[gT,Bool.and_eq_true]at h;simp only[qL,HB x h.1,gQ xs h.2]
end
mutual
theorem Nx{n:Nat}{keep:List Nat}:∀(x:LV),x.nb n->x.only keep
 |.fn f first cap,h=>by unfold LV.nb at h;unfold LV.only;exact⟨cT _ h.1,cT _ h.2⟩
 |.ip xs off,h=>by unfold LV.nb at h;unfold LV.only;exact cT _ h
 |.agg xs,h=>by unfold LV.nb at h;unfold LV.only;exact cT _ h
 |.dh xs,h=>by unfold LV.nb at h;unfold LV.only;exact cT _ h
 |.gd g x,h=>by unfold LV.nb at h;unfold LV.only;exact λe=>Nx x (h e)
 |.lp _ _,h=>by simp[LV.nb]at h
 |.d _,h|.gp _ _,h|.ep _ _ _ _,h|.lF _ _,h|.gm _,h|.vs _ _ _ _ _,h|.vp _ _ _,h|.yl _,h|.any,h=>by simp[LV.only]
theorem cT{n:Nat}{keep:List Nat}:∀(xs:List LV),cD n xs->ec keep xs
 |[],_=>by simp[ec]
 |x::xs,h=>by unfold cD at h;unfold ec;exact⟨Nx x h.1,cT xs h.2⟩
end
mutual
def DV.fits:DV->Prop
 |.k _=>True
 |.sl xs=>xs.length<=maxLen/\sZ xs
def s6:List DV->Prop
 |[]=>True
 |c::cs=>c.fits/\s6 cs
def sZ:List (List DV)->Prop
 |[]=>True
 |r::rs=>s6 r/\sZ rs
end
mutual
theorem GN{M:Mem}:∀(d:DV) (x:Value),DR M d x->d.fits
 |.k v,x,h=>by unfold DV.fits;trivial
 |.sl xs,x,h=>by
  unfold DR at h;unfold DV.fits;obtain⟨a,cap,sz,_,h1,h2,_,h3⟩:=h;refine⟨Nat.le_trans h1 h2,?_⟩;rcases h3 with rfl|⟨b,o,_,h3⟩
  ·unfold sZ;trivial
  ·exact On b o xs h3
theorem Ot{M:Mem}:∀(b o:Nat) (r:List DV),RC M b o r->s6 r
 |b,o,[],h=>by unfold s6;trivial
 |b,o,c::cs,h=>by
  unfold RC at h;unfold s6;obtain⟨⟨v,_,h1⟩,h2⟩:=h;exact⟨GN c v h1,Ot b (o+1) cs h2⟩
theorem On{M:Mem}:∀(b o:Nat) (xs:List (List DV)),RR M b o xs->sZ xs
 |b,o,[],h=>by unfold sZ;trivial
 |b,o,r::rs,h=>by
  unfold RR at h;unfold sZ;exact⟨Ot b o r h.1,On b _ rs h.2⟩
end
mutual
def LV.fits:LV->Prop
 |.d x=>x.fits
 |.fn _ first cap=>jk first/\jk cap
 |.ip cs _=>jk cs
 |.agg cs=>jk cs
 |.dh cs=>jk cs
 |.lF _ xs=>(DV.sl xs).fits
 |_=>True
def jk:List LV->Prop
 |[]=>True
 |c::cs=>LV.fits c/\jk cs
end
mutual
theorem Oy{G:Gh}{nx:Nat}{lm:Nat->Option Nat}:∀(x:LV) (v:Value),LR G nx lm x v->x.fits
 |.d x,v,h=>by unfold LR at h;unfold LV.fits;exact GN x v h
 |.lp k off,v,h=>by unfold LV.fits;trivial
 |.gp m off,v,h=>by unfold LV.fits;trivial
 |.ep xs es i off,v,h=>by unfold LV.fits;trivial
 |.lF m xs,v,h=>by unfold LR at h;unfold LV.fits;exact GN _ v h.2.1
 |.vs _ _ _ _ _,v,h=>by unfold LV.fits;trivial
 |.vp _ _ _,v,h=>by unfold LV.fits;trivial
 |.yl _,v,h=>by unfold LV.fits;trivial
 |.ip cs off,v,h=>by unfold LR at h;unfold LV.fits;obtain⟨b,_,h2⟩:=h;exact OC b 0 cs h2
 |.gm m,v,h=>by unfold LV.fits;trivial
 |.fn f first cap,v,h=>by
  unfold LR at h;unfold LV.fits;obtain⟨fs,cs,h1,h2,h3⟩:=h;exact⟨pF _ _ h2,pF _ _ h3⟩
 |.agg cs,v,h=>by unfold LR at h;unfold LV.fits;obtain⟨vs,h1,h2⟩:=h;exact pF _ _ h2
 |.dh cs,v,h=>by unfold LR at h;unfold LV.fits;obtain⟨vs,h1,h2⟩:=h;exact pF _ _ h2
 |.gd g raw,v,h=>by unfold LV.fits;trivial
 |.any,v,_=>by unfold LV.fits;trivial
theorem pF{G:Gh}{nx:Nat}{lm:Nat->Option Nat}:∀(xs:List LV) (vs:List Value),bH G nx lm xs vs->jk xs
 |[],vs,h=>by unfold jk;trivial
 |c::cs,vs,h=>by
  unfold bH at h;unfold jk;obtain⟨v,r,h1,h2,h3⟩:=h;exact⟨Oy c v h2,pF cs r h3⟩
theorem OC{G:Gh}{nx:Nat}{lm:Nat->Option Nat}:∀(b o:Nat) (xs:List LV),IR G nx lm b o xs->jk xs
 |b,o,[],h=>by unfold jk;trivial
 |b,o,c::cs,h=>by
  unfold IR at h;unfold jk;obtain⟨⟨v,h1,zw,h2⟩,h3⟩:=h;exact⟨Oy c v h2,OC b (o+1) cs h3⟩
end
theorem jR.fits{P:Program}{f:FuncId}{args:List LV}{H:GH}{R:CE->GH->Prop}(h:jk args->jR P f args H R):jR P f args H R:=
 λG w vs h1 h2 h3=>h (pF _ _ h3) G w vs h1 h2 h3
theorem aG.body{P:Program}{c:Cx}(hc:c.ok P){f:FuncId}{fn:Func}{code:Code}(hf:P.funcs[f]?=some fn)(hb:fn.body=some code)(he:Enters P f){args:List LV}(hn:args.length<=fn.ntmps)(hrd:c.rd.uc f=true){H:GH}{R:CE->GH->Prop}
  (h:jk args->(∀n,H.next<=n->H.obj n=none)->@EV P c ⟨code⟩ ⟨gj 0 args,vi,H,fn.ntmps,[]⟩ ⟨Oe P c fn.results.toList H R⟩):aG P f args H R:=
 ⟨he,jR.fits λhfit=>jR.iQ hc hf hb hn hrd λhw=>EV.sound hc (h hfit hw)⟩
theorem aC.body{P:Program}{c:Cx}(hc:c.ok P){f:FuncId}{fn:Func}{code:Code}(hf:P.funcs[f]?=some fn)(hb:fn.body=some code)(he:Enters P f){args:List LV}(hn:args.length<=fn.ntmps)(hrd:c.rd.uc f=true){v:LV}
  (h:jk args->∀H:GH,@EV P c ⟨code⟩ ⟨gj 0 args,vi,H,fn.ntmps,[]⟩ ⟨Kk c fn.results.toList H v⟩):aC P f args v:=
 λH=>⟨he,jR.fits λhfit=>(aC.iQ hc hf hb he hn hrd (λH=>EV.sound hc (h hfit H)) H).2⟩
theorem aC.EO{P:Program}{c:Cx}(hc:c.ok P){f:FuncId}{fn:Func}{code:Code}(hf:P.funcs[f]?=some fn)(hb:fn.body=some code)(he:Enters P f){args:List LV}(hn:args.length<=fn.ntmps)(hrd:c.rd.uc f=true){v:LV}
  (h:jk args->∀H:GH,@AW P c.rd ⟨code⟩ ⟨gj 0 args,vi,H,fn.ntmps,[]⟩ ⟨Kk c fn.results.toList H v⟩):aC P f args v:=
 λH=>⟨he,jR.fits λhfit=>(aC.iQ hc hf hb he hn hrd (λH=>h hfit H) H).2⟩
@[simp] theorem aj3 {k:Nat}:vi k=none:=rfl
def qO(l:List (Nat×LV)):Nat->LV:=λt=>match l with
 |[]=>.any
 |(j,v)::r=>if t=j then v else qO r t
def B8(l:List (Nat×List LV)):Nat->Option (List LV):=λt=>match l with
 |[]=>none
 |(j,v)::r=>if t=j then some v else B8 r t
@[simp] theorem aF8 {t:Nat}:qO [] t=.any:=by simp [qO]
@[simp] theorem xA {t j:Nat} {v:LV} {r:List (Nat × LV)}:qO ((j,v) :: r) t=if t=j then v else qO r t:=by rw [qO]
@[simp] theorem aI2 {t:Nat}:B8 [] t=none:=by simp [B8]
@[simp] theorem EM {t j:Nat} {v:List LV} {r:List (Nat × List LV)}:B8 ((j,v) :: r) t=if t=j then some v else B8 r t:=by rw [B8]
theorem J1{l:List (Nat×LV)}{t:Nat}:qO l t=.any\/ (t,qO l t)∈l:=by
 induction l with
 |nil=>simp
 |cons p r ih=>
  obtain⟨j,v⟩:=p;rw[xA];by_cases h:t=j
  ·subst h;simp
  ·rw[if_neg h];exact ih.imp id (List.mem_cons_of_mem _)
theorem Ki{l:List (Nat×List LV)}{t:Nat}:B8 l t=none\/ ∃cs,B8 l t=some cs/\(t,cs)∈l:=by
 induction l with
 |nil=>simp
 |cons p r ih=>
  obtain⟨j,v⟩:=p;rw[EM];by_cases h:t=j
  ·subst h;exact .inr ⟨v,by simp,List.mem_cons_self ..⟩
  ·rw[if_neg h];exact ih.imp id λ⟨cs,a,b⟩=>⟨cs,a,List.mem_cons_of_mem _ b⟩
theorem Qh{l:List (Nat×List LV)}{t:Nat}(h:B8 l t=none):∀cs,(t,cs)∉l:=by
 induction l with
 |nil=>simp
 |cons p r ih=>
  obtain⟨j,v⟩:=p;rw[EM]at h
  split at h
  ·cases h
  ·rename_i hne;intro cs hcs;rcases List.mem_cons.1 hcs with q|q
   ·cases q;exact hne rfl
   ·exact ih h cs q
structure LS where
 e:List (Nat×LV)
 b:List (Nat×List LV)
 H:GH
def LS.s(x:LS)(nt:Nat)(df:List AD):S:=⟨qO x.e,B8 x.b,x.H,nt,df⟩
@[simp] theorem LS.CP {e:List (Nat × LV)} {b:List (Nat × List LV)} {H:GH} {nt:Nat} {df:List AD}:(⟨e,b,H⟩:LS).s nt df = ⟨qO e,B8 b,H,nt,df⟩:=rfl
def eqL(keep:List Nat)(env:Nat->LV):List (Nat×LV)->Prop
 |[]=>True
 |(t,v)::r=>env t=v/\v.only keep/\eqL keep env r
def eqB(keep:List Nat)(L:Nat->Option (List LV)):List (Nat×List LV)->Prop
 |[]=>True
 |(t,v)::r=>L t=some v/\ec keep v/\eqB keep L r
def LS.at(x:LS)(nt:Nat)(df:List AD)(s:S):Prop:=eqL (x.b.map (·.1)) s.env x.e/\eqB (x.b.map (·.1)) s.L x.b/\s.H=x.H/\s.nt=nt/\s.df=df
theorem N7{keep:List Nat}{env:Nat->LV}:∀{l:List (Nat×LV)},eqL keep env l->∀p∈l,env p.1=p.2/\p.2.only keep
 |(t,v)::r,h,p,hp=>by
  rcases List.mem_cons.1 hp with rfl|hp
  ·exact⟨h.1,h.2.1⟩
  ·exact N7 h.2.2 p hp
theorem N8{keep:List Nat}{env:Nat->Option (List LV)}:∀{l:List (Nat×List LV)},eqB keep env l->∀p∈l,env p.1=some p.2/\ec keep p.2
 |(t,v)::r,h,p,hp=>by
  rcases List.mem_cons.1 hp with rfl|hp
  ·exact⟨h.1,h.2.1⟩
  ·exact N8 h.2.2 p hp
theorem cF.at{E:tL}{s:S}{a:Act}{w:World}{x:LS}(h:cF E s a w)(hx:x.at s.nt s.df s):cF E (x.s s.nt s.df) a w:=by
 obtain⟨h2,G,lm,h1,hM,hxx,aK,_⟩:=h;obtain⟨he,hb,hH,_,_⟩:=hx;obtain⟨e,b,H⟩:=x;subst hH;have he:=N7 he;have hb:=N8 hb;refine⟨h2,G,uO (b.map (·.1)) lm,h1,⟨hM.qC,hM.dF,hM.fresh,λk hn=>?_,λk cs hs=>?_,hM.iC⟩,hxx,λt=>?_,rfl⟩
 ·unfold uO;by_cases e:k∈b.map (·.1)
  ·exfalso;obtain⟨⟨k',cs⟩,hp,rfl⟩:=List.mem_map.1 e;exact Qh hn cs hp
  ·rw[if_neg e]
 ·simp only[LS.s]at hs;rcases Ki (l:=b) (t:=k)with q|⟨cs',q,hp⟩
  ·rw[q]at hs;cases hs
  ·rw[q]at hs;cases hs;obtain⟨q1,q2⟩:=hb _ hp;obtain⟨b',vs,r1,r2,r3,r4⟩:=hM.loc k cs q1;exact⟨b',vs,by unfold uO;rw[if_pos (List.mem_map.2 ⟨_,hp,rfl⟩)];exact r1,r2,r3,pz _ _ r4 q2⟩
 ·simp only[LS.s];rcases J1 (l:=e) (t:=t)with q|q
  ·rw[q];simp[LR]
  ·obtain⟨q1,q2⟩:=he _ q;simp only at q1 q2;rw[<-q1]at q2|-;exact zO _ _ (aK t) q2
theorem fh.at{P:Program}{rd:RD}{x:Code}{s:S}{Q:AE->S->Prop}(y:LS)(hy:y.at s.nt s.df s)(h:fh P rd x (y.s s.nt s.df) Q):fh P rd x s Q:=λE a w hs=>h E a w (hs.at hy)
structure Plain(x:LV):Prop where
 un:x.un=x
 tO:x.tO
 cells:x.cells=[x]
 one:x.one=true
theorem Plain.all{x:LV}(h:Plain x):x.un=x/\x.tO/\x.cells=[x]/\x.one=true:=⟨h.un,h.tO,h.cells,h.one⟩
theorem CF.plain{e:TypeId}{sz:Nat}{H0 H:GH}{x:LV}{rows:List (List DV)}(h:CF e sz H0 x rows H):Plain x:=by
 rcases h with⟨_,rfl,_⟩|⟨rfl,_⟩<;>exact⟨rfl,trivial,rfl,rfl⟩
theorem CF.only{e:TypeId}{sz:Nat}{H0 H:GH}{x:LV}{rows:List (List DV)}(h:CF e sz H0 x rows H){k:List Nat}:x.only k:=by
 rcases h with⟨_,rfl,_⟩|⟨rfl,_⟩<;>simp[LV.only]
theorem CF.fz{e:TypeId}{sz:Nat}{H0 H:GH}{x:LV}{rows:List (List DV)}(h:CF e sz H0 x rows H):Go.Aft.fz x=.d (.sl rows)/\H0.next<=H.next/\∀m,m<H0.next->H.obj m=H0.obj m:=by
 rcases h with⟨rfl,rfl,rfl⟩|⟨rfl,h1,h2,h3⟩
 ·exact⟨by simp[Go.Aft.fz],Nat.le_refl _,λ_ _=>rfl⟩
 ·exact⟨by simp[Go.Aft.fz],by omega,h3⟩
section
variable {c:Cx} {s:S} {K:KT} {dst:Option Nat}
theorem eO.ev{x:Array Operand}{y:Array TypeId}(h:@RK (bV c.ty c.bR c.bO s dst (.call ⟨.builtin .append,x,y⟩)) s dst K):@eO c x y s dst K:=h
theorem eO.app{T e:TypeId}{d ed:aU}{a b:Operand}{H0:GH}{rows ys:List (List DV)}(hT:c.ty T=some d)(hd:d.k=.sl e)(he:c.ty e=some ed)(hsz:ed.sz≠0)
  {x:LV} (ha:s.get a=x) (aA:CF e ed.sz H0 x rows s.H) (hb:rowsOf (s.arg b)=some ys) (NV:s.aI b) (hr:∀r∈rows,r.length=ed.sz) (hy:∀r∈ys,r.length=ed.sz)
  (hl:(rows.length+ys.length)*ed.bt<=140737488355328/\rows.length+ys.length<=140737488355328) (hv:∀t,dst=some t->c.bO t≠ .vec)
  (hk:∀x' H',CF e ed.sz H0 x' (rows++ys) H'->@AP K (({s with H:=H'}:S).put dst x')):@eO c #[a,b] #[T,T] s dst K:=by
 obtain⟨k,sz,z,bt⟩:=d;simp only at hd;subst hd;obtain⟨hap,aA⟩:s.aI a/\CF e ed.sz H0 (s.arg a) rows s.H:=by
  unfold S.aI S.arg;rw[ha];refine⟨?_,?_⟩
  ·rcases aA with⟨_,rfl,_⟩|⟨rfl,_⟩<;>trivial
  ·rcases id aA with⟨_,rfl,_⟩|⟨rfl,_⟩<;>exact aA
 rcases aA with⟨rfl,e1,e2⟩|⟨e1,e2,e3,e4⟩
 ·have uR:eR c.ty c.bO s dst .append [T,T] [a,b]=none:=by
   simp only[eR,hT,he,e1,if_true,Option.bind_some,if_neg hsz];cases dst with
   |none=>rfl
   |some t=>simp[hv t rfl]
  refine eO.ev ?_;simp only[bV,uR,Option.none_or,sG,hT,he,e1,hb,if_true,Option.bind_some,if_neg hsz,nW];simp only[List.length_nil,Nat.zero_add]at hl;refine⟨⟨hap,NV,hy,hl⟩,?_⟩;rw[<-e2]at hk;exact hk _ _ (.first (by simp))
 ·have uR:eR c.ty c.bO s dst .append [T,T] [a,b]=none:=by
   simp only[eR,hT,he,e1,if_true,Option.bind_some,if_neg hsz]
  refine eO.ev ?_;simp only[bV,uR,Option.none_or,sG,hT,he,e1,e3,hb,if_true,Option.bind_some,if_neg hsz,and_self,nW];refine⟨⟨hap,NV,trivial,hr,hy,hl⟩,?_⟩;exact hk _ _ (.more e2 e4 (by simp))
theorem eO.Cg{α:Type}(f:α->List DV)(l new:List α){T e:TypeId}{d ed:aU}{a b:Operand}{H0:GH}(hT:c.ty T=some d)(hd:d.k=.sl e)(he:c.ty e=some ed)(hsz:ed.sz≠0)(hf:∀a,(f a).length=ed.sz)
  {x:LV} (ha:s.get a=x) (aA:CF e ed.sz H0 x (l.map f) s.H) (hb:rowsOf (s.arg b)=some (new.map f)) (NV:s.aI b)
  (hl:(l.length+new.length)*ed.bt<=140737488355328/\l.length+new.length<=140737488355328) (hv:∀t,dst=some t->c.bO t≠ .vec)
  (hk:∀x' H',CF e ed.sz H0 x' ((l++new).map f) H'->@AP K (({s with H:=H'}:S).put dst x')):@eO c #[a,b] #[T,T] s dst K:=
 eO.app hT hd he hsz ha aA hb NV (λr hr=>by obtain⟨x,_,rfl⟩:=List.mem_map.1 hr;exact hf x) (λr hr=>by obtain⟨x,_,rfl⟩:=List.mem_map.1 hr;exact hf x) (by simpa using hl) hv λx' H' h=>hk x' H' (by rw[List.map_append];exact h)
end
section
variable {P:Program} {c:Cx} {x y:Code} {s:S} {Q:QT} {α:Type}
class LB where
 n:Nat
class LSp(α:Type) where
 st:α->LS
 m:α->Nat
 I:α->Prop
inductive NX{α:Type}[X:LSp α][b:LB](nt:Nat)(df:List AD)(s:S):Prop
 |mk (a:α) (h1:X.m a<b.n) (h2:X.I a) (h3:(X.st a).at nt df s)
inductive JN{α:Type}[X:LSp α](nt:Nat)(df:List AD)(s:S):Prop
 |mk (a:α) (h2:X.I a) (h3:(X.st a).at nt df s)
theorem NX.go{α:Type}{st:α->LS}{m:α->Nat}{I:α->Prop}{n nt:Nat}{df:List AD}{s:S}(a:α)(h1:m a<n)(h2:I a)(h3:(st a).at nt df s):@NX α ⟨st,m,I⟩ ⟨n⟩ nt df s:=@NX.mk α ⟨st,m,I⟩ ⟨n⟩ nt df s a h1 h2 h3
theorem JN.go{α:Type}{st:α->LS}{m:α->Nat}{I:α->Prop}{nt:Nat}{df:List AD}{s:S}(a:α)(h2:I a)(h3:(st a).at nt df s):@JN α ⟨st,m,I⟩ nt df s:=@JN.mk α ⟨st,m,I⟩ nt df s a h2 h3
theorem AW.aV(hc:c.ok P)(st:α->LS)(m:α->Nat)(I:α->Prop)(a₀:α)(h₀:I a₀/\(st a₀).at s.nt s.df s)
  (round:∀a,I a->@EV P c ⟨x⟩ ((st a).s s.nt s.df) ⟨@TH ⟨λs'=>@NX α ⟨st,m,I⟩ ⟨m a⟩ s.nt s.df s'⟩ Q⟩):@AW P c.rd ⟨.loop x⟩ s Q:=by
 refine fh.loop (λn s'=>∃a,m a=n/\I a/\(st a).at s.nt s.df s') ⟨m a₀,a₀,rfl,h₀.1,h₀.2⟩ λn s' ⟨a,hm,hI,qE⟩=>?_
 obtain⟨_,_,_,q1,q2⟩:=id qE;refine fh.at (st a) (by rw[q1,q2];exact qE) ?_
 rw[q1,q2];refine(EV.sound hc (round a hI)).mono λe s2 q=>?_
 cases e with
 |normal=>obtain⟨a',h1,h2,h3⟩:=q;exact⟨m a',hm▸h1,a',rfl,h2,h3⟩
 |_=>exact q
theorem AW.ev(hc:c.ok P)(h:@EV P c ⟨x⟩ s Q):@AW P c.rd ⟨x⟩ s Q:=EV.sound hc h
theorem AW.seq(hc:c.ok P)(h:@EV P c ⟨x⟩ s ⟨@TH ⟨λs'=>@AW P c.rd ⟨y⟩ s' Q⟩ Q⟩):@AW P c.rd ⟨.seq x y⟩ s Q:=fh.seq (EV.sound hc h)
theorem AW.ZU(h:@AW P c.rd ⟨x⟩ s ⟨@TH ⟨λs'=>@AW P c.rd ⟨y⟩ s' Q⟩ Q⟩):@AW P c.rd ⟨.seq x y⟩ s Q:=fh.seq h
theorem AW.block{i:Nat}(h:@AW P c.rd ⟨x⟩ s ⟨@BL i Q⟩):@AW P c.rd ⟨.block i x⟩ s Q:=fh.block h
theorem AW.at(z:LS)(hz:z.at s.nt s.df s)(h:@AW P c.rd ⟨x⟩ (z.s s.nt s.df) Q):@AW P c.rd ⟨x⟩ s Q:=fh.at z hz h
theorem AW.join(st:α->LS)(I:α->Prop)
  (h:@AW P c.rd ⟨x⟩ s ⟨@TH ⟨λs'=>@JN α ⟨st,λ_=>0,I⟩ s.nt s.df s'⟩ Q⟩) (k:∀a,I a->@AW P c.rd ⟨y⟩ ((st a).s s.nt s.df) Q):@AW P c.rd ⟨.seq x y⟩ s Q:=by
 refine fh.seq (fh.mono h λe s' q=>?_)
 cases e with
 |normal=>
  obtain⟨a,hI,qE⟩:=q;obtain⟨_,_,_,q1,q2⟩:=id qE;refine fh.at (st a) (by rw[q1,q2];exact qE) ?_
  rw[q1,q2];exact k a hI
 |_=>exact q
theorem AW.D4(hc:c.ok P)(st:α->LS)(m:α->Nat)(I:α->Prop)(a₀:α)(h₀:I a₀/\(st a₀).at s.nt s.df s)
  (round:∀a,I a->@AW P c.rd ⟨x⟩ ((st a).s s.nt s.df) ⟨@TH ⟨λs'=>@NX α ⟨st,m,I⟩ ⟨m a⟩ s.nt s.df s'⟩ Q⟩):@AW P c.rd ⟨.loop x⟩ s Q:=by
 refine fh.loop (λn s'=>∃a,m a=n/\I a/\(st a).at s.nt s.df s') ⟨m a₀,a₀,rfl,h₀.1,h₀.2⟩ λn s' ⟨a,hm,hI,qE⟩=>?_
 obtain⟨_,_,_,q1,q2⟩:=id qE;refine fh.at (st a) (by rw[q1,q2];exact qE) ?_
 rw[q1,q2];refine fh.mono (round a hI) λe s2 q=>?_
 cases e with
 |normal=>obtain⟨a',h1,h2,h3⟩:=q;exact⟨m a',hm▸h1,a',rfl,h2,h3⟩
 |_=>exact q
end
attribute [simp] LS.at eqL eqB jk LV.fits DV.fits s6 maxLen
end Go.Aft
end
