import Derived.Test.YthinedikejlgmaaGreatA19
import Derived.Scope
set_option linter.all false
section
namespace Go.Aft
theorem c6z {P:Program} {b:Frame} {a:Act} {k:List Item} {cs:List Frame} {w:World} {c:Code}:step P (lone (b.atR a (.code (.scope c) :: k)) cs w)=.next (lone (b.atR a (.code c :: .inScope c :: k)) cs w) :=
 step_lone_go (by simp [stepG,stepG.exec,Frame.atR])
theorem c0o {P:Program} {b:Frame} {a:Act} {k:List Item} {cs:List Frame} {w:World} {c:Code}:step P (lone (b.atR a (.inScope c :: k)) cs w)=.next (lone (b.atR a k) cs w) :=
 step_lone_go (by simp [stepG,stepG.exec,Frame.atR])
theorem e1n {P:Program} {rd:RD} {c:Code} {Q:Exit->Act->World->Prop} {a:Act} {w:World} (h:wpA P rd c (Exit.noGoto Q) a w):wpA P rd (.scope c) Q a w:=by
 intro b k cs hro hb
 have one:=StepsIn.one (P:=P) (fenced_wide P (lone (b.atR a (.code (.scope c) :: k)) cs w)) c6z
 obtain ⟨e,a1,w1,hq,harr⟩:=h b (.inScope c :: k) cs hro hb
 cases e with
 | normal=>exact ⟨.normal,a1,w1,hq,one.trans (StepsIn.trans harr (.one (fenced_wide P _) c0o))⟩
 | exit j =>
  have hx:exitTo j (.inScope c :: k)=exitTo j k:=by simp [exitTo]
  exact ⟨.exit j,a1,w1,hq,.of_steps one ⟨fun k' hk=>harr.1 k' (hx.trans hk),fun hr' hk=>harr.2 hr' (hx.trans hk)⟩⟩
 | goto l=>exact hq.elim
 | ret=>exact ⟨_,a1,w1,hq,.of_steps one harr⟩
 | panic ch=>exact ⟨_,a1,w1,hq,.of_steps one harr⟩
 | outgrown=>exact ⟨_,a1,w1,hq,.of_steps one harr⟩
def f0v (Q:AE->S->Prop):AE->S->Prop
 | .goto _,_=>False
 | e,s=>Q e s
theorem AWp.scope {P:Program} {rd:RD} {c:Code} {s:S} {Q:AE->S->Prop} (h:AWp P rd c s (f0v Q)):AWp P rd (.scope c) s Q:=by
 intro E a w hs
 refine e1n (a4a (h E a w hs) ?_)
 rintro e a' w' ⟨ae,s',q,r⟩
 cases ae with
 | normal=>obtain ⟨rfl,r'⟩:=r.normal;exact ⟨.normal,s',q,r'⟩
 | exit i=>obtain ⟨_,G,lm,_,_,_,_,he⟩:=id r;cases he;exact ⟨.exit i,s',q,r⟩
 | goto l=>exact q.elim
 | ret=>obtain ⟨_,G,lm,_,_,_,_,he⟩:=id r;cases he;exact ⟨.ret,s',q,r⟩
 | pan x=>obtain ⟨_,G,lm,_,_,_,_,v,rfl,_⟩:=id r;exact ⟨.pan x,s',q,r⟩
def SC [Q:QT]:AE->S->Prop:=f0v Q.q
@[simp] theorem SC_normal {Q:QT} {s:S}:@SC Q .normal s=Q.q .normal s:=rfl
@[simp] theorem SC_exit {Q:QT} {s:S} {i:Nat}:@SC Q (.exit i) s=Q.q (.exit i) s:=rfl
@[simp] theorem SC_ret {Q:QT} {s:S}:@SC Q .ret s=Q.q .ret s:=rfl
@[simp] theorem SC_pan {Q:QT} {s:S} {x:LV}:@SC Q (.pan x) s=Q.q (.pan x) s:=rfl
theorem AW.scope {P:Program} {c:Cx} (hc:c.ok P) {x:Code} {s:S} {Q:QT} (h:@EV P c ⟨x⟩ s ⟨@SC Q⟩):@AW P c.rd ⟨.scope x⟩ s Q:=AWp.scope (EV.sound hc h)
end Go.Aft
end
section
namespace Go.Aft
structure nbH (H:GH):Prop where
 none:∀ n,H.next<=n->H.obj n=none
 nb:∀ n o,H.obj n=some o->o.nb H.next
theorem SimX.nbH {E:Ent} {ae:AE} {s:S} {e:Exit} {a:Act} {w:World} (h:SimX E ae s e a w):Go.Aft.nbH s.H:=by
 obtain ⟨_,G,lm,_,hM,_⟩:=h
 refine ⟨fun n hn=>?_,fun n o ho=>d4o (hM.nmd n o ho).2⟩
 cases ho:s.H.obj n with
 | none=>rfl
 | some o=>have:=(hM.nmd n o ho).1;omega
theorem nbH.lt {H:GH} (h:nbH H) {n:Nat} {o:GO} (ho:H.obj n=some o):n < H.next:=by
 rcases Nat.lt_or_ge n H.next with q | q
 ·exact q
 ·rw [h.none n q] at ho;cases ho
theorem nbH.drop {H0 H:GH} (h:nbH H) (hn:H0.next<=H.next):Drop H0 H H:=⟨Nat.le_refl _,hn,fun _ _=>rfl,h.none,fun n o ho=>.inr (h.nb n o ho)⟩
def a1j (P:Program) (c:Cx) (rs:List ResultVar) (H0:GH) (R:CE->GH->Prop):AE->S->Prop
 | .normal,s | .ret,s=>nbH s.H->a3h P c rs s H0 R s.df .ret s.H
 | .pan x,s=>nbH s.H->a3h P c rs s H0 R s.df (.pan x) s.H
 | _,_=>False
theorem c3o {P:Program} {c:Cx} {rs:List ResultVar} {H0:GH} {R:CE->GH->Prop} {ae:AE} {s:S} (h:a1j P c rs H0 R ae s) (hn:nbH s.H):e5y P c rs H0 R ae s:=by
 cases ae <;> first | exact h hn | exact h
theorem AWp.f3a {P:Program} {rd:RD} {x:Code} {s:S} {Q Q':AE->S->Prop} (h:AWp P rd x s Q) (hq:∀ ae s',nbH s'.H->Q ae s'->Q' ae s'):AWp P rd x s Q' :=
 fun E a w hs=>a4a (h E a w hs) fun e a w ⟨ae,s',q,r⟩=>⟨ae,s',hq _ _ r.nbH q,r⟩
theorem a0j.a1j {P:Program} {c:Cx} (hc:c.ok P) {f:FuncId} {fn:Func} {code:Code} (hf:P.funcs[f]?=some fn) (hb:fn.body=some code) (he:Enters P f) {args:List LV} (hn:args.length<=fn.ntmps) (hrd:c.rd.b8j f=true) {H:GH} {R:CE->GH->Prop}
  (h:a6w args->nbH H->@EV P c ⟨code⟩ ⟨a3k 0 args,noS,H,fn.ntmps,[]⟩ ⟨Go.Aft.a1j P c fn.results.toList H R⟩):a0j P f args H R :=
 ⟨he,a7a.fits fun hfit G w vs hM hNL hargs=>by
  have hw:nbH H:=⟨fun n hn=>by
   cases ho:H.obj n with
   | none=>rfl
   | some o=>have:=(hM.nmd n o ho).1;omega,fun n o ho=>d4o (hM.nmd n o ho).2⟩
  exact (a7a.a4l hc hf hb hn hrd fun _=>AWp.f3a (EV.sound hc (h hfit hw)) fun ae s' q1 q2=>c3o q2 q1) G w vs hM hNL hargs⟩
theorem a0j.a3a {P:Program} {c:Cx} (hc:c.ok P) {f:FuncId} {fn:Func} {code:Code} (hf:P.funcs[f]?=some fn) (hb:fn.body=some code) (he:Enters P f) {args:List LV} (hn:args.length<=fn.ntmps) (hrd:c.rd.b8j f=true) {H:GH} {R:CE->GH->Prop}
  (h:a6w args->nbH H->@AW P c.rd ⟨code⟩ ⟨a3k 0 args,noS,H,fn.ntmps,[]⟩ ⟨Go.Aft.a1j P c fn.results.toList H R⟩):a0j P f args H R :=
 ⟨he,a7a.fits fun hfit G w vs hM hNL hargs=>by
  have hw:nbH H:=⟨fun n hn=>by
   cases ho:H.obj n with
   | none=>rfl
   | some o=>have:=(hM.nmd n o ho).1;omega,fun n o ho=>d4o (hM.nmd n o ho).2⟩
  exact (a7a.a4l hc hf hb hn hrd fun _=>AWp.f3a (h hfit hw) fun ae s' q1 q2=>c3o q2 q1) G w vs hM hNL hargs⟩
attribute [simp] Go.Aft.a1j
structure GH.same (N:Nat) (H H':GH):Prop where
 next:H'.next=H.next
 obj:∀ m,N<=m->H'.obj m=H.obj m
theorem GH.same.refl {N:Nat} {H:GH}:GH.same N H H:=⟨rfl,fun _ _=>rfl⟩
theorem GH.same.trans {N:Nat} {H H1 H2:GH} (h:GH.same N H H1) (k:GH.same N H1 H2):GH.same N H H2:=⟨k.next.trans h.next,fun m hm=>(k.obj m hm).trans (h.obj m hm)⟩
theorem GH.same.mono {N M:Nat} {H H1:GH} (h:GH.same N H H1) (hm:N<=M):GH.same M H H1:=⟨h.next,fun m hm'=>h.obj m (by omega)⟩
def GH.cut (N:Nat) (H:GH):GH:=⟨fun m=>if m < N then H.obj m else none,N⟩
@[simp] theorem GH.cut_next {N:Nat} {H:GH}:(H.cut N).next=N:=rfl
theorem GH.c3g {N m:Nat} {H:GH} (h:m < N):(H.cut N).obj m=H.obj m:=if_pos h
theorem GH.e5s {N m:Nat} {H:GH} (h:N<=m):(H.cut N).obj m=none:=if_neg (by omega)
theorem nbH.f3x {H0 H:GH} (h:nbH H) {N:Nat} (hN:N<=H.next) (h0:H0.next<=N) (hnb:∀ m o,m < N->H.obj m=some o->H0.obj m=some o \/ o.nb N):Drop H0 H (H.cut N) :=
 ⟨hN,h0,fun n hn=>GH.c3g hn,fun n hn=>GH.e5s hn,fun n o ho=>by
  by_cases e:n < N
  ·rw [GH.c3g e] at ho;exact hnb n o e ho
  ·rw [GH.e5s (by omega)] at ho;cases ho⟩
structure Iter (P:Program) (n N:Nat) (rows:List LV) (J:Nat->GH->Prop) (St:GH->Prop) (Pn:LV->GH->Prop):Prop where
 stJ:∀ {i:Nat} {H H':GH},J i H->(∀ m,m < N->H'.obj m=H.obj m)->N<=H'.next->J i H'
 stS:∀ {H H':GH},St H->(∀ m,m < N->H'.obj m=H.obj m)->N<=H'.next->St H'
 stP:∀ {x:LV} {H H':GH},Pn x H->(∀ m,m < N->H'.obj m=H.obj m)->N<=H'.next->x.nb N/\Pn x H'
 nbJ:∀ {i:Nat} {H:GH},J i H->∀ m o,m < N->H.obj m=some o->o.nb N
 nbS:∀ {H:GH},St H->∀ m o,m < N->H.obj m=some o->o.nb N
 nbP:∀ {x:LV} {H:GH},Pn x H->∀ m o,m < N->H.obj m=some o->o.nb N
 step:∀ {i:Nat} {H:GH} {r:LV},rows[i]?=some r->N<=H.next->nbH H->J i H->a2v P n [r] H fun ce H'=>GH.same N H H'/\(match ce with
  | .ret v=>v=bool true/\J (i+1) H' \/ v=bool false/\St H'
  | .pan x=>Pn x H')
def f6h (N:Nat) (J:Nat->GH->Prop) (St:GH->Prop) (Pn:LV->GH->Prop) (neg:Bool) (j:Nat) (H:GH):CE->GH->Prop:=fun ce H'=>GH.same N H H'/\(match ce with
  | .ret v=>v=bool (!neg)/\J j H' \/ v=bool neg/\St H'
  | .pan x=>Pn x H')
end Go.Aft
end
section
namespace Go.Aft
abbrev Str:=ByteArray
inductive Calc where
 | mk (op n:Int) (kids:List Calc)
inductive Exp where
 | mk (op:Int) (name:Str) (n fold:Int) (a0k:List Calc) (kids:List Exp)
structure Def where
 name:Str
 exp:Exp
structure Prog where
 srcs:List Str
 defs:List Def
structure Rec where
 at_:Int
 key:Int
 val:Int
 deriving DecidableEq
structure News where
 do_:Int
 src:Int
 id:Int
 ver:Int
 rec_:Rec
 deriving DecidableEq
structure Event where
 src:Int
 id:Int
 rec_:Rec
 deriving DecidableEq
structure Room where
 most:Int
 low:Int
 high:Int
 deriving DecidableEq
instance:Inhabited Calc:=⟨.mk 0 0 []⟩
instance:Inhabited Exp:=⟨.mk 0 ⟨#[]⟩ 0 0 [] []⟩
instance:Inhabited Def:=⟨⟨⟨#[]⟩,default⟩⟩
instance:Inhabited Rec:=⟨⟨0,0,0⟩⟩
instance:Inhabited News:=⟨⟨0,0,0,0,default⟩⟩
instance:Inhabited Event:=⟨⟨0,0,default⟩⟩
def Calc.op:Calc->Int | .mk op _ _=>op
def Calc.n:Calc->Int | .mk _ n _=>n
def Calc.kids:Calc->List Calc | .mk _ _ k=>k
@[simp] theorem Calc.op_mk {op n:Int} {k:List Calc}:(Calc.mk op n k).op=op:=rfl
@[simp] theorem Calc.n_mk {op n:Int} {k:List Calc}:(Calc.mk op n k).n=n:=rfl
@[simp] theorem Calc.kids_mk {op n:Int} {k:List Calc}:(Calc.mk op n k).kids=k:=rfl
def Exp.op:Exp->Int | .mk op _ _ _ _ _=>op
def Exp.name:Exp->Str | .mk _ x _ _ _ _=>x
def Exp.n:Exp->Int | .mk _ _ x _ _ _=>x
def Exp.fold:Exp->Int | .mk _ _ _ x _ _=>x
def Exp.a0k:Exp->List Calc | .mk _ _ _ _ x _=>x
def Exp.kids:Exp->List Exp | .mk _ _ _ _ _ x=>x
section
variable {op n fold:Int} {name:Str} {a0k:List Calc} {kids:List Exp}
@[simp] theorem Exp.op_mk:(Exp.mk op name n fold a0k kids).op=op:=rfl
@[simp] theorem Exp.name_mk:(Exp.mk op name n fold a0k kids).name=name:=rfl
@[simp] theorem Exp.n_mk:(Exp.mk op name n fold a0k kids).n=n:=rfl
@[simp] theorem Exp.fold_mk:(Exp.mk op name n fold a0k kids).fold=fold:=rfl
@[simp] theorem Exp.calcs_mk:(Exp.mk op name n fold a0k kids).a0k=a0k:=rfl
@[simp] theorem Exp.kids_mk:(Exp.mk op name n fold a0k kids).kids=kids:=rfl
end
def dI (n:Int):DV:=.k (.int .i64 n)
def dS (s:Str):DV:=.k (.string s)
def dB (b:Bool):DV:=.k (.bool b)
@[simp] theorem dI_eq (n:Int):dI n=.k (.int .i64 n):=rfl
@[simp] theorem dS_eq (n:Str):dS n=.k (.string n):=rfl
@[simp] theorem dB_eq (n:Bool):dB n=.k (.bool n):=rfl
def rI (n:Int):List DV:=[.k (.int .i64 n)]
def rS (s:Str):List DV:=[.k (.string s)]
mutual
def a1h:Calc->List DV
 | .mk op n kids=>[.k (.int .i64 op),.k (.int .i64 n),.sl (b2y kids)]
def b2y:List Calc->List (List DV)
 | []=>[]
 | c :: cs=>a1h c :: b2y cs
end
theorem a5j:∀ l:List Calc,b2y l=l.map a1h
 | []=>rfl
 | c :: cs=>by simp [b2y,a5j cs]
theorem a0o (c:Calc):a1h c=[.k (.int .i64 c.op),.k (.int .i64 c.n),.sl (c.kids.map a1h)]:=by
 obtain ⟨op,n,kids⟩:=c
 simp [a1h,a5j,Calc.op,Calc.n,Calc.kids]
mutual
def rExp:Exp->List DV
 | .mk op name n fold a0k kids=>[.k (.int .i64 op),.k (.string name),.k (.int .i64 n),.k (.int .i64 fold),.sl (b2y a0k),.sl (e2u kids)]
def e2u:List Exp->List (List DV)
 | []=>[]
 | c :: cs=>rExp c :: e2u cs
end
theorem b8f:∀ l:List Exp,e2u l=l.map rExp
 | []=>rfl
 | c :: cs=>by simp [e2u,b8f cs]
theorem a0c (e:Exp):rExp e=[.k (.int .i64 e.op),.k (.string e.name),.k (.int .i64 e.n),.k (.int .i64 e.fold),.sl (e.a0k.map a1h),.sl (e.kids.map rExp)]:=by
 obtain ⟨op,name,n,fold,a0k,kids⟩:=e
 simp [rExp,a5j,b8f,Exp.op,Exp.name,Exp.n,Exp.fold,Exp.a0k,Exp.kids]
def rDef (d:Def):List DV:=.k (.string d.name) :: rExp d.exp
def a0h (p:Prog):List DV:=[.sl (p.srcs.map rS),.sl (p.defs.map rDef)]
def rRec (r:Rec):List DV:=[.k (.int .i64 r.at_),.k (.int .i64 r.key),.k (.int .i64 r.val)]
def a1w (n:News):List DV:=.k (.int .i64 n.do_) :: .k (.int .i64 n.src) :: .k (.int .i64 n.id) :: .k (.int .i64 n.ver) :: rRec n.rec_
def a0t (e:Event):List DV:=.k (.int .i64 e.src) :: .k (.int .i64 e.id) :: rRec e.rec_
def lv (r:List DV):LV:=.agg (r.map .d)
def sl (xs:List (List DV)):LV:=.d (.sl xs)
@[simp] theorem lv_eq (r:List DV):lv r=.agg (r.map .d):=rfl
@[simp] theorem sl_eq (xs:List (List DV)):sl xs=.d (.sl xs):=rfl
@[simp] theorem nbs_map (n:Nat):∀ r:List DV,nbs n (r.map .d)=True
 | []=>by simp
 | d :: r=>by simp [nbs_map n r]
@[simp] theorem rS_len (s:Str):(rS s).length=1:=rfl
@[simp] theorem rI_len (s:Int):(rI s).length=1:=rfl
@[simp] theorem rCalc_len (c:Calc):(a1h c).length=3:=by rw [a0o];rfl
@[simp] theorem rExp_len (c:Exp):(rExp c).length=6:=by rw [a0c];rfl
@[simp] theorem rDef_len (c:Def):(rDef c).length=7:=by simp [rDef]
end Go.Aft
end
