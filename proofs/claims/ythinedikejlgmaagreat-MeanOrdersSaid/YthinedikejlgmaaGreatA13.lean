import Derived.Test.YthinedikejlgmaaGreatA12
set_option linter.all false
namespace Go.Aft
class KT where
 k:S->Prop
class QT where
 q:AE->S->Prop
class CT where
 c:Code
class OT where
 l:List Oper
 rest:List Oper
class FA (α:Type) where
 f:α->Prop
class NT where
 n:Prop
def AP [K:KT] (s:S):Prop:=K.k s
def c9p (dst:Option Nat) (nt:Nat):Prop:=match dst with | some t=>t < nt | none=>True
def RK (r:Option Res) (s:S) (dst:Option Nat) [K:KT]:Prop:=match r with | none=>False | some r=>r.pre/\AP ((s.eff dst r.eff).put dst r.v)
def BK (x:LV) [F:FA Bool]:Prop:=match x with | .d (.k (.bool g))=>F.f g | _=>False
def OPK {α:Type} (x:Option α) [F:FA α]:Prop:=match x with | some g=>F.f g | _=>False
def GK (r:Option (Prop × LV)) (g:Bool) (s:S) (dst:Option Nat) [K:KT] [N:NT]:Prop:=match r with | some (pre,v)=>(g=true->pre)/\AP (s.put dst (.gd g v)) | none=>N.n
def SPK (r:Option (Prop × LV)) (s:S) (dst:Option Nat) [K:KT] [N:NT]:Prop:=match r with | some (pre,v)=>pre/\AP (s.put dst v) | none=>N.n
def IK (x:LV) [N:NT]:Prop:=match x with | .d (.k (.iface _ _))=>N.n | _=>False
def TH [K:KT] [Q:QT]:AE->S->Prop:=e1v K.k Q.q
def BL (i:Nat) [Q:QT]:AE->S->Prop:=c9z i Q.q
def EV (P:Program) (c:Cx) [x:CT] (s:S) [Q:QT]:Prop:=evC P c x.c s Q.q
def AW (P:Program) (rd:RD) [x:CT] (s:S) [Q:QT]:Prop:=AWp P rd x.c s Q.q
def RN (P:Program) (c:Cx) [o:OT] (s:S) [Q:QT]:Prop:=runC P c o.l.toArray o.rest s Q.q
def ST (P:Program) (c:Cx) (s:S) (dst:Option Nat) (op:Op) [K:KT] [Q:QT]:Prop:=a4p P c s dst op K.k Q.q
class FB where
 f:FuncId × List LV × List LV->Prop
 y:Nat->Prop
def CLK (x:LV) [F:FB]:Prop:=match a1k x with
 | some p=>F.f p
 | none=>match x with
  | .yl n=>F.y n
  | _=>False
def EY (P:Program) (n:Nat) (args:List LV) (H:GH) (s:S) (dst:Option Nat) [K:KT] [Q:QT]:Prop:=a2v P n args H (retK K.k Q.q s dst)
def EC (P:Program) (f:FuncId) (args:List LV) (H:GH) (s:S) (dst:Option Nat) [K:KT] [Q:QT]:Prop:=a0j P f args H (retK K.k Q.q s dst)
def grdV (x:LV) (want:Bool):Option Bool:=match x with
 | .d (.k (.bool g))=>some (g == want)
 | .gd g0 (.d (.k (.bool g)))=>some (g0 && (g == want))
 | _=>none
def DA (j:Nat) [o:OT]:Option Nat:=(o.l[j]?).bind (·.dst)
def GD (d:Option Nat) (s:S) (want:Bool):Option Bool:=match d with | none=>none | some t=>grdV (s.env t) want
def OS (P:Program) (c:Cx) (dst:Option Nat) (op:Op) (g:Option (Nat × Bool)) (s:S) [o:OT] [K:KT] [Q:QT]:Prop :=
 match g with
 | none =>
  match op with
  | .pick x a b=>@BK (s.arg x) ⟨fun g=>s.argP x/\(g=true->s.argP a)/\(g=false->s.argP b)/\AP (s.put dst (b2c g (s.arg a) (s.arg b)))⟩
  | op=>ST P c s dst op
 | some (j,want)=>@OPK Bool (GD (DA j) s want) ⟨fun g =>
   match op with
   | .pick x a b=>@BK (s.arg x) ⟨fun h=>(g=true->s.argP x/\(h=true->s.argP a)/\(h=false->s.argP b))/\AP (s.put dst (.gd g (b2c h (s.arg a) (s.arg b))))⟩
   | op=>@GK (a1f c s dst op) g s dst K ⟨(g=true->ST P c s dst op)/\(g=false->AP (s.put dst .any))⟩⟩
section
variable {P:Program} {c:Cx} {s:S} {Q:QT} {K:KT} {N:NT} {dst:Option Nat}
@[simp] theorem AP_mk {env:Nat->LV} {L:Nat->Option (List LV)} {H:GH} {nt:Nat} {df:List AD}:@AP K ⟨env,L,H,nt,df⟩=K.k ⟨env,L,H,nt,df⟩:=rfl
@[simp] theorem dstOk_some {t nt:Nat}:c9p (some t) nt=(t < nt):=rfl
@[simp] theorem dstOk_none {nt:Nat}:c9p none nt=True:=rfl
@[simp] theorem RK_some {pre:Prop} {v:LV} {eff:Eff}:@RK (some ⟨pre,v,eff⟩) s dst K=(pre/\@AP K ((s.eff dst eff).put dst v)):=rfl
@[simp] theorem BK_mk {g:Bool} {F:FA Bool}:@BK (.d (.k (.bool g))) F=F.f g:=rfl
@[simp] theorem OPK_mk {α:Type} {g:α} {F:FA α}:@OPK α (some g) F=F.f g:=rfl
@[simp] theorem GK_some {pre:Prop} {v:LV} {g:Bool}:@GK (some (pre,v)) g s dst K N=((g=true->pre)/\@AP K (s.put dst (.gd g v))):=rfl
@[simp] theorem GK_none {g:Bool}:@GK none g s dst K N=N.n:=rfl
@[simp] theorem SPK_some {pre:Prop} {v:LV}:@SPK (some (pre,v)) s dst K N=(pre/\@AP K (s.put dst v)):=rfl
@[simp] theorem SPK_none:@SPK none s dst K N=N.n:=rfl
@[simp] theorem IK_mk {T:TypeId} {v:Value}:@IK (.d (.k (.iface T v))) N=N.n:=rfl
@[simp] theorem TH_normal:@TH K Q .normal s=K.k s:=rfl
@[simp] theorem TH_exit {i:Nat}:@TH K Q (.exit i) s=Q.q (.exit i) s:=rfl
@[simp] theorem TH_goto {i:Nat}:@TH K Q (.goto i) s=Q.q (.goto i) s:=rfl
@[simp] theorem TH_ret:@TH K Q .ret s=Q.q .ret s:=rfl
@[simp] theorem TH_pan {x:LV}:@TH K Q (.pan x) s=Q.q (.pan x) s:=rfl
@[simp] theorem BL_normal {i:Nat}:@BL i Q .normal s=Q.q .normal s:=rfl
@[simp] theorem BL_same {i:Nat}:@BL i Q (.exit i) s=Q.q .normal s:=by simp [BL,c9z]
@[simp] theorem BL_exit {i j:Nat}:@BL i Q (.exit j) s=if j=i then Q.q .normal s else Q.q (.exit j) s:=rfl
@[simp] theorem BL_goto {i j:Nat}:@BL i Q (.goto j) s=Q.q (.goto j) s:=rfl
@[simp] theorem BL_ret {i:Nat}:@BL i Q .ret s=Q.q .ret s:=rfl
@[simp] theorem BL_pan {i:Nat} {x:LV}:@BL i Q (.pan x) s=Q.q (.pan x) s:=rfl
@[simp] theorem EV_skip:@EV P c ⟨.skip⟩ s Q=Q.q .normal s:=rfl
@[simp] theorem EV_label {l:Nat}:@EV P c ⟨.label l⟩ s Q=Q.q .normal s:=rfl
@[simp] theorem EV_ret:@EV P c ⟨.ret⟩ s Q=Q.q .ret s:=rfl
@[simp] theorem EV_exit {i:Nat}:@EV P c ⟨.exit i⟩ s Q=Q.q (.exit i) s:=rfl
@[simp] theorem EV_goto {i:Nat}:@EV P c ⟨.goto i⟩ s Q=Q.q (.goto i) s:=rfl
@[simp] theorem EV_seq {x y:Code}:@EV P c ⟨.seq x y⟩ s Q = @EV P c ⟨x⟩ s ⟨@TH ⟨fun s'=>@EV P c ⟨y⟩ s' Q⟩ Q⟩:=rfl
@[simp] theorem EV_block {i:Nat} {x:Code}:@EV P c ⟨.block i x⟩ s Q = @EV P c ⟨x⟩ s ⟨@BL i Q⟩:=rfl
@[simp] theorem EV_cond {o:Operand} {x y:Code}:@EV P c ⟨.cond o x y⟩ s Q = @BK (s.get o) ⟨fun g=>(g=true->@EV P c ⟨x⟩ s Q)/\(g=false->@EV P c ⟨y⟩ s Q)⟩:=by
 simp only [EV,evC,BK]
 split <;> simp_all
@[simp] theorem EV_region {i:Nat} {l:List Oper}:@EV P c ⟨.region i l.toArray false⟩ s Q = @RN P c ⟨l,l⟩ s Q:=rfl
@[simp] theorem EV_draw {i:Nat} {ops:Array Oper}:@EV P c ⟨.region i ops true⟩ s Q = @AW P c.rd ⟨.region i ops true⟩ s Q:=rfl
@[simp] theorem EV_loop {x:Code}:@EV P c ⟨.loop x⟩ s Q = @AW P c.rd ⟨.loop x⟩ s Q:=rfl
@[simp] theorem EV_rangeFunc {f:Operand} {ps:Array Tmp} {x y:Code}:@EV P c ⟨.rangeFunc f ps x y⟩ s Q = @AW P c.rd ⟨.rangeFunc f ps x y⟩ s Q:=rfl
@[simp] theorem EV_scope {x:Code}:@EV P c ⟨.scope x⟩ s Q = @AW P c.rd ⟨.scope x⟩ s Q:=rfl
variable {l rest:List Oper} {T:TypeId} {pos:String} {af:Array Edge} {g:Option (Nat × Bool)} {j:Nat} {want:Bool} {o:OT}
@[simp] theorem RN_nil:@RN P c ⟨l,[]⟩ s Q=Q.q .normal s:=rfl
theorem f4j:GD (@DA j ⟨l,rest⟩) s want=guardOf l.toArray s j want:=by
 simp only [GD,DA,guardOf]
 simp only [List.getElem?_toArray]
 cases (l[j]?).bind (·.dst) <;> first | rfl | (simp only [grdV];rfl)
@[simp] theorem RN_cons {op:Op}:@RN P c ⟨l,⟨dst,op,T,pos,af,g⟩ :: rest⟩ s Q=(c9p dst s.nt/\@OS P c dst op g s ⟨l,[]⟩ ⟨fun s'=>@RN P c ⟨l,rest⟩ s' Q⟩ Q):=by
 cases g with
 | none=>cases op <;> first | rfl | (simp only [RN,runC,OS,BK,c9p,AP];congr 1)
 | some g =>
  obtain ⟨j,want⟩:=g
  simp only [RN,runC,OS,c9p,OPK,f4j]
  congr 1
  cases guardOf l.toArray s j want with
  | none=>rfl
  | some g=>cases op <;> first | rfl | (simp only [BK,GK,AP];congr 1) | (simp only [GK,AP,ST];generalize a1f _ _ _ _=r;cases r <;> rfl)
@[simp] theorem DA_zero {op:Op}:@DA 0 ⟨⟨dst,op,T,pos,af,g⟩ :: l,rest⟩=dst:=rfl
@[simp] theorem DA_succ {o:Oper}:@DA (j+1) ⟨o :: l,rest⟩ = @DA j ⟨l,[]⟩:=by simp [DA]
@[simp] theorem OS_pick {x a b:Operand}:@OS P c dst (.pick x a b) none s o K Q = @BK (s.arg x) ⟨fun g=>s.argP x/\(g=true->s.argP a)/\(g=false->s.argP b)/\@AP K (s.put dst (b2c g (s.arg a) (s.arg b)))⟩:=rfl
@[simp] theorem OS_gpick {x a b:Operand}:@OS P c dst (.pick x a b) (some (j,want)) s o K Q = @OPK Bool (GD (@DA j o) s want) ⟨fun g=>@BK (s.arg x) ⟨fun h=>(g=true->s.argP x/\(h=true->s.argP a)/\(h=false->s.argP b))/\@AP K (s.put dst (.gd g (b2c h (s.arg a) (s.arg b))))⟩⟩:=rfl
@[simp] theorem CLK_fn {f:FuncId} {first cap:List LV} {F:FB}:@CLK (.fn (.func f) first cap) F=F.f (f,first,cap):=rfl
@[simp] theorem CLK_yl {n:Nat} {F:FB}:@CLK (.yl n) F=F.y n:=rfl
@[simp] theorem ST_call {fo:Operand} {args:Array Operand} {tys:Array TypeId}:@ST P c s dst (.call ⟨.value fo,args,tys⟩) K Q =
  @CLK (s.arg fo) ⟨fun p=>s.argP fo/\allP (args.toList.map s.argP)/\nbs s.H.next (p.2.1 ++ args.toList.map s.arg ++ p.2.2) /\
   @SPK (c.spec p.1 (p.2.1 ++ args.toList.map s.arg ++ p.2.2)) s dst K ⟨@EC P p.1 (p.2.1 ++ args.toList.map s.arg ++ p.2.2) s.H s dst K Q⟩,
   fun n=>s.argP fo/\allP (args.toList.map s.argP)/\nbs s.H.next (args.toList.map s.arg)/\@EY P n (args.toList.map s.arg) s.H s dst K Q⟩:=by
 simp only [ST,a4p,CLK,SPK,AP,EC,EY]
 cases a1k (s.arg fo) with
 | none=>rfl
 | some p =>
  obtain ⟨f,first,cap⟩:=p
  simp only
  cases c.spec f (first ++ args.toList.map s.arg ++ cap) <;> rfl
@[simp] theorem ST_defer {fo:Operand} {args:Array Operand} {tys:Array TypeId}:@ST P c s dst (.defer ⟨.value fo,args,tys⟩) K Q =
  @OPK _ (a1k (s.arg fo)) ⟨fun p=>c.rd.r=none/\s.argP fo/\allP (args.toList.map s.argP)/\nbs s.H.next (p.2.1 ++ args.toList.map s.arg)/\nbs s.H.next p.2.2/\@AP K (({ s with df:=.call p.1 (p.2.1 ++ args.toList.map s.arg) p.2.2 :: s.df }:S).put dst .any)⟩:=by
 simp only [ST,a4p,OPK,AP]
 cases a1k (s.arg fo) with
 | none=>rfl
 | some p=>rfl
class FS where
 f:S->Prop
def FSK (x:Option S) [F:FS]:Prop:=match x with | some s=>F.f s | none=>False
@[simp] theorem FSK_some {F:FS}:@FSK (some s) F=F.f s:=rfl
@[simp] theorem ST_makeFunc {fn:Fn} {first cap:Array Operand}:@ST P c s dst (.makeFunc fn first cap) K Q = @FSK (b1t c.pub cap.toList s) ⟨fun s'=>@AP K (s'.put dst (.fn fn (first.toList.map s'.get) (cap.toList.map s'.get)))⟩:=by
 simp only [ST,a4p,FSK]
 cases b1t c.pub cap.toList s <;> rfl
@[simp] theorem ST_range {T:TypeId} {x:Operand}:@ST P c s dst (.range T x) K Q =
  match c.ty T,s.arg x with
  | some ⟨.map _ _,_,_,_⟩,.gm m=>match s.H.obj m with
   | some (.map es)=>s.argP x/\@AP K (({ s with H:=s.H.add (.iter m es.length [] es.length) }:S).put dst (.gp s.H.next 0))
   | _=>False
  | _,_=>False:=rfl
theorem ST.next {x:Operand} {n m since last:Nat} {seen:List Nat} {es:List (Value × LV)} (hx:s.arg x=.gp n 0) (hn:s.H.obj n=some (.iter m since seen last)) (hm:s.H.obj m=some (.map es)) (hp:s.argP x) (h1:since=es.length) (h2:last=es.length) (h3:es.all (fun e=>b4w e.1)=true)
  (hmore:∀ i e,es[i]?=some e->i ∉ seen->@AP K (({ s with H:=s.H.set n (.iter m since (seen ++ [i]) es.length) }:S).put dst (.tup [.d (.k (.bool true)),b4x e.1,e.2])))
  (hend:(∀ i,i < es.length->i ∈ seen)->@AP K (s.put dst (.tup [.d (.k (.bool false))]))):@ST P c s dst (.next x false) K Q:=by
 simp only [ST,a4p,hx,hn,hm]
 exact ⟨hp,h1,h2,h3,hmore,hend⟩
theorem ST.entry {x:Operand} {n m since last i:Nat} {seen:List Nat} {es:List (Value × LV)} {e:Value × LV} (hx:s.arg x=.gp n 0) (hn:s.H.obj n=some (.iter m since seen last)) (hm:s.H.obj m=some (.map es)) (hp:s.argP x) (h2:last=es.length) (h3:es.all (fun e=>b4w e.1)=true) (hi:seen.getLast?=some i) (he:es[i]?=some e)
  (hk:@AP K (s.put dst (.tup [b4x e.1,e.2]))):@ST P c s dst (.entry x) K Q:=by
 simp only [ST,a4p,hx,hn,hm]
 exact ⟨hp,h2,h3,i,e,hi,he,hk⟩
@[simp] theorem ST_panic {x:Operand}:@ST P c s dst (.panic x) K Q=(s.argP x/\(s.arg x).nb s.H.next/\@IK (s.arg x) ⟨Q.q (.pan (s.arg x)) s⟩):=by
 simp only [ST,a4p,IK]
 split <;> simp_all
def c5g:Op->Bool
 | .call ⟨.value _,_,_⟩ | .panic _ | .range .. | .next .. | .entry .. | .defer .. | .makeFunc .. | .buildSlice ..=>false
 | _=>true
theorem a1p {op:Op} (h:c5g op=true):@ST P c s dst op K Q = @RK (opX c.ty c.eqt c.pub s dst op) s dst K:=by
 cases op with
 | call cl =>
  obtain ⟨callee,args,tys⟩:=cl
  cases callee <;> first | (simp [c5g] at h;done) | (simp only [ST,a4p];generalize opX _ _ _ _ _ _=r;cases r <;> rfl)
 | panic x=>simp [c5g] at h
 | range T x=>simp [c5g] at h
 | makeFunc f a b=>simp [c5g] at h
 | next x b=>simp [c5g] at h
 | entry x=>simp [c5g] at h
 | defer x=>simp [c5g] at h
 | buildSlice T l q=>simp [c5g] at h
 | _=>simp only [ST,a4p];generalize opX _ _ _ _ _ _=r;cases r <;> rfl
theorem EC.afun {f:FuncId} {args:List LV} {v:LV} {H:GH} (h:AFun P f args v) (hk:@AP K (({ s with H:=H }:S).put dst v)):@EC P f args H s dst K Q :=
 (h H).mono fun ce H' ⟨e,eH⟩=>by subst e;subst eH;exact hk
theorem EV.sound {x:Code} {Q:AE->S->Prop} (hc:c.ok P) (h:@EV P c ⟨x⟩ s ⟨Q⟩):AWp P c.rd x s Q:=a7r hc x s Q h
@[simp] theorem OS_move {x0:Operand}:@OS P c dst (.move x0) none s o K Q = @RK (opX c.ty c.eqt c.pub s dst (.move x0)) s dst K:=a1p rfl
@[simp] theorem OSg_move {x0:Operand}:@OS P c dst (.move x0) (some (j,want)) s o K Q = @OPK Bool (GD (@DA j o) s want) ⟨fun g=>@GK (a1f c s dst (.move x0)) g s dst K ⟨(g=true->@RK (opX c.ty c.eqt c.pub s dst (.move x0)) s dst K)/\(g=false->@AP K (s.put dst .any))⟩⟩:=by
 rw [<- a1p (P:=P) (Q:=Q) rfl];rfl
@[simp] theorem OS_assign {x0:Operand}:@OS P c dst (.assign x0) none s o K Q = @RK (opX c.ty c.eqt c.pub s dst (.assign x0)) s dst K:=a1p rfl
@[simp] theorem OSg_assign {x0:Operand}:@OS P c dst (.assign x0) (some (j,want)) s o K Q = @OPK Bool (GD (@DA j o) s want) ⟨fun g=>@GK (a1f c s dst (.assign x0)) g s dst K ⟨(g=true->@RK (opX c.ty c.eqt c.pub s dst (.assign x0)) s dst K)/\(g=false->@AP K (s.put dst .any))⟩⟩:=by
 rw [<- a1p (P:=P) (Q:=Q) rfl];rfl
@[simp] theorem OS_alloc {x0:TypeId}:@OS P c dst (.alloc x0) none s o K Q = @RK (opX c.ty c.eqt c.pub s dst (.alloc x0)) s dst K:=a1p rfl
@[simp] theorem OSg_alloc {x0:TypeId}:@OS P c dst (.alloc x0) (some (j,want)) s o K Q = @OPK Bool (GD (@DA j o) s want) ⟨fun g=>@GK (a1f c s dst (.alloc x0)) g s dst K ⟨(g=true->@RK (opX c.ty c.eqt c.pub s dst (.alloc x0)) s dst K)/\(g=false->@AP K (s.put dst .any))⟩⟩:=by
 rw [<- a1p (P:=P) (Q:=Q) rfl];rfl
@[simp] theorem OS_box {x0:TypeId} {x1:Operand}:@OS P c dst (.box x0 x1) none s o K Q = @RK (opX c.ty c.eqt c.pub s dst (.box x0 x1)) s dst K:=a1p rfl
@[simp] theorem OSg_box {x0:TypeId} {x1:Operand}:@OS P c dst (.box x0 x1) (some (j,want)) s o K Q = @OPK Bool (GD (@DA j o) s want) ⟨fun g=>@GK (a1f c s dst (.box x0 x1)) g s dst K ⟨(g=true->@RK (opX c.ty c.eqt c.pub s dst (.box x0 x1)) s dst K)/\(g=false->@AP K (s.put dst .any))⟩⟩:=by
 rw [<- a1p (P:=P) (Q:=Q) rfl];rfl
@[simp] theorem OS_build {x0:TypeId} {x1:Array (Nat × Operand)}:@OS P c dst (.build x0 x1) none s o K Q = @RK (opX c.ty c.eqt c.pub s dst (.build x0 x1)) s dst K:=a1p rfl
@[simp] theorem OSg_build {x0:TypeId} {x1:Array (Nat × Operand)}:@OS P c dst (.build x0 x1) (some (j,want)) s o K Q = @OPK Bool (GD (@DA j o) s want) ⟨fun g=>@GK (a1f c s dst (.build x0 x1)) g s dst K ⟨(g=true->@RK (opX c.ty c.eqt c.pub s dst (.build x0 x1)) s dst K)/\(g=false->@AP K (s.put dst .any))⟩⟩:=by
 rw [<- a1p (P:=P) (Q:=Q) rfl];rfl
@[simp] theorem OS_buildSlice {x0:TypeId} {x1:Nat} {x2:Array (Nat × Operand)}:@OS P c dst (.buildSlice x0 x1 x2) none s o K Q = @RK ((bsV c.ty c.pub s dst x0 x1 x2).or (opX c.ty c.eqt c.pub s dst (.buildSlice x0 x1 x2))) s dst K:=by
 simp only [OS,ST,a4p,RK,AP]
 cases (bsV c.ty c.pub s dst x0 x1 x2).or (opX c.ty c.eqt c.pub s dst (.buildSlice x0 x1 x2)) <;> rfl
@[simp] theorem OSg_buildSlice {x0:TypeId} {x1:Nat} {x2:Array (Nat × Operand)}:@OS P c dst (.buildSlice x0 x1 x2) (some (j,want)) s o K Q = @OPK Bool (GD (@DA j o) s want) ⟨fun g=>@GK (a1f c s dst (.buildSlice x0 x1 x2)) g s dst K ⟨(g=true->@RK ((bsV c.ty c.pub s dst x0 x1 x2).or (opX c.ty c.eqt c.pub s dst (.buildSlice x0 x1 x2))) s dst K)/\(g=false->@AP K (s.put dst .any))⟩⟩:=by
 have h:@ST P c s dst (.buildSlice x0 x1 x2) K Q = @RK ((bsV c.ty c.pub s dst x0 x1 x2).or (opX c.ty c.eqt c.pub s dst (.buildSlice x0 x1 x2))) s dst K:=by
  simp only [ST,a4p,RK,AP]
  cases (bsV c.ty c.pub s dst x0 x1 x2).or (opX c.ty c.eqt c.pub s dst (.buildSlice x0 x1 x2)) <;> rfl
 rw [<- h];rfl
@[simp] theorem OS_insert {x0:TypeId} {x1:Operand} {x2:Operand} {x3:Operand}:@OS P c dst (.insert x0 x1 x2 x3) none s o K Q = @RK (opX c.ty c.eqt c.pub s dst (.insert x0 x1 x2 x3)) s dst K:=a1p rfl
@[simp] theorem OSg_insert {x0:TypeId} {x1:Operand} {x2:Operand} {x3:Operand}:@OS P c dst (.insert x0 x1 x2 x3) (some (j,want)) s o K Q = @OPK Bool (GD (@DA j o) s want) ⟨fun g=>@GK (a1f c s dst (.insert x0 x1 x2 x3)) g s dst K ⟨(g=true->@RK (opX c.ty c.eqt c.pub s dst (.insert x0 x1 x2 x3)) s dst K)/\(g=false->@AP K (s.put dst .any))⟩⟩:=by
 rw [<- a1p (P:=P) (Q:=Q) rfl];rfl
@[simp] theorem OS_load {x0:TypeId} {x1:Operand}:@OS P c dst (.load x0 x1) none s o K Q = @RK (opX c.ty c.eqt c.pub s dst (.load x0 x1)) s dst K:=a1p rfl
@[simp] theorem OSg_load {x0:TypeId} {x1:Operand}:@OS P c dst (.load x0 x1) (some (j,want)) s o K Q = @OPK Bool (GD (@DA j o) s want) ⟨fun g=>@GK (a1f c s dst (.load x0 x1)) g s dst K ⟨(g=true->@RK (opX c.ty c.eqt c.pub s dst (.load x0 x1)) s dst K)/\(g=false->@AP K (s.put dst .any))⟩⟩:=by
 rw [<- a1p (P:=P) (Q:=Q) rfl];rfl
@[simp] theorem OS_store {x0:TypeId} {x1:Operand} {x2:Operand}:@OS P c dst (.store x0 x1 x2) none s o K Q = @RK (opX c.ty c.eqt c.pub s dst (.store x0 x1 x2)) s dst K:=a1p rfl
@[simp] theorem OSg_store {x0:TypeId} {x1:Operand} {x2:Operand}:@OS P c dst (.store x0 x1 x2) (some (j,want)) s o K Q = @OPK Bool (GD (@DA j o) s want) ⟨fun g=>@GK (a1f c s dst (.store x0 x1 x2)) g s dst K ⟨(g=true->@RK (opX c.ty c.eqt c.pub s dst (.store x0 x1 x2)) s dst K)/\(g=false->@AP K (s.put dst .any))⟩⟩:=by
 rw [<- a1p (P:=P) (Q:=Q) rfl];rfl
@[simp] theorem OS_nilCheck {x0:Operand}:@OS P c dst (.nilCheck x0) none s o K Q = @RK (opX c.ty c.eqt c.pub s dst (.nilCheck x0)) s dst K:=a1p rfl
@[simp] theorem OSg_nilCheck {x0:Operand}:@OS P c dst (.nilCheck x0) (some (j,want)) s o K Q = @OPK Bool (GD (@DA j o) s want) ⟨fun g=>@GK (a1f c s dst (.nilCheck x0)) g s dst K ⟨(g=true->@RK (opX c.ty c.eqt c.pub s dst (.nilCheck x0)) s dst K)/\(g=false->@AP K (s.put dst .any))⟩⟩:=by
 rw [<- a1p (P:=P) (Q:=Q) rfl];rfl
@[simp] theorem OS_binOp {x0:BinOp} {x1:TypeId} {x2:Operand} {x3:Operand} {x4:TypeId}:@OS P c dst (.binOp x0 x1 x2 x3 x4) none s o K Q = @RK (opX c.ty c.eqt c.pub s dst (.binOp x0 x1 x2 x3 x4)) s dst K:=a1p rfl
@[simp] theorem OSg_binOp {x0:BinOp} {x1:TypeId} {x2:Operand} {x3:Operand} {x4:TypeId}:@OS P c dst (.binOp x0 x1 x2 x3 x4) (some (j,want)) s o K Q = @OPK Bool (GD (@DA j o) s want) ⟨fun g=>@GK (a1f c s dst (.binOp x0 x1 x2 x3 x4)) g s dst K ⟨(g=true->@RK (opX c.ty c.eqt c.pub s dst (.binOp x0 x1 x2 x3 x4)) s dst K)/\(g=false->@AP K (s.put dst .any))⟩⟩:=by
 rw [<- a1p (P:=P) (Q:=Q) rfl];rfl
@[simp] theorem OS_unOp {x0:UnOp} {x1:TypeId} {x2:Operand}:@OS P c dst (.unOp x0 x1 x2) none s o K Q = @RK (opX c.ty c.eqt c.pub s dst (.unOp x0 x1 x2)) s dst K:=a1p rfl
@[simp] theorem OSg_unOp {x0:UnOp} {x1:TypeId} {x2:Operand}:@OS P c dst (.unOp x0 x1 x2) (some (j,want)) s o K Q = @OPK Bool (GD (@DA j o) s want) ⟨fun g=>@GK (a1f c s dst (.unOp x0 x1 x2)) g s dst K ⟨(g=true->@RK (opX c.ty c.eqt c.pub s dst (.unOp x0 x1 x2)) s dst K)/\(g=false->@AP K (s.put dst .any))⟩⟩:=by
 rw [<- a1p (P:=P) (Q:=Q) rfl];rfl
@[simp] theorem OS_convert {x0:TypeId} {x1:TypeId} {x2:Operand}:@OS P c dst (.convert x0 x1 x2) none s o K Q = @RK (opX c.ty c.eqt c.pub s dst (.convert x0 x1 x2)) s dst K:=a1p rfl
@[simp] theorem OSg_convert {x0:TypeId} {x1:TypeId} {x2:Operand}:@OS P c dst (.convert x0 x1 x2) (some (j,want)) s o K Q = @OPK Bool (GD (@DA j o) s want) ⟨fun g=>@GK (a1f c s dst (.convert x0 x1 x2)) g s dst K ⟨(g=true->@RK (opX c.ty c.eqt c.pub s dst (.convert x0 x1 x2)) s dst K)/\(g=false->@AP K (s.put dst .any))⟩⟩:=by
 rw [<- a1p (P:=P) (Q:=Q) rfl];rfl
@[simp] theorem OS_makeInterface {x0:TypeId} {x1:Operand}:@OS P c dst (.makeInterface x0 x1) none s o K Q = @RK (opX c.ty c.eqt c.pub s dst (.makeInterface x0 x1)) s dst K:=a1p rfl
@[simp] theorem OSg_makeInterface {x0:TypeId} {x1:Operand}:@OS P c dst (.makeInterface x0 x1) (some (j,want)) s o K Q = @OPK Bool (GD (@DA j o) s want) ⟨fun g=>@GK (a1f c s dst (.makeInterface x0 x1)) g s dst K ⟨(g=true->@RK (opX c.ty c.eqt c.pub s dst (.makeInterface x0 x1)) s dst K)/\(g=false->@AP K (s.put dst .any))⟩⟩:=by
 rw [<- a1p (P:=P) (Q:=Q) rfl];rfl
@[simp] theorem OS_makeMap {x0:TypeId} {x1:Option Operand}:@OS P c dst (.makeMap x0 x1) none s o K Q = @RK (opX c.ty c.eqt c.pub s dst (.makeMap x0 x1)) s dst K:=a1p rfl
@[simp] theorem OSg_makeMap {x0:TypeId} {x1:Option Operand}:@OS P c dst (.makeMap x0 x1) (some (j,want)) s o K Q = @OPK Bool (GD (@DA j o) s want) ⟨fun g=>@GK (a1f c s dst (.makeMap x0 x1)) g s dst K ⟨(g=true->@RK (opX c.ty c.eqt c.pub s dst (.makeMap x0 x1)) s dst K)/\(g=false->@AP K (s.put dst .any))⟩⟩:=by
 rw [<- a1p (P:=P) (Q:=Q) rfl];rfl
@[simp] theorem OS_makeSlice {x0:TypeId} {x1:Operand} {x2:Operand}:@OS P c dst (.makeSlice x0 x1 x2) none s o K Q = @RK (opX c.ty c.eqt c.pub s dst (.makeSlice x0 x1 x2)) s dst K:=a1p rfl
@[simp] theorem OSg_makeSlice {x0:TypeId} {x1:Operand} {x2:Operand}:@OS P c dst (.makeSlice x0 x1 x2) (some (j,want)) s o K Q = @OPK Bool (GD (@DA j o) s want) ⟨fun g=>@GK (a1f c s dst (.makeSlice x0 x1 x2)) g s dst K ⟨(g=true->@RK (opX c.ty c.eqt c.pub s dst (.makeSlice x0 x1 x2)) s dst K)/\(g=false->@AP K (s.put dst .any))⟩⟩:=by
 rw [<- a1p (P:=P) (Q:=Q) rfl];rfl
@[simp] theorem OS_slice {x0:TypeId} {x1:Operand} {x2:Option Operand} {x3:Option Operand} {x4:Option Operand}:@OS P c dst (.slice x0 x1 x2 x3 x4) none s o K Q = @RK (opX c.ty c.eqt c.pub s dst (.slice x0 x1 x2 x3 x4)) s dst K:=a1p rfl
@[simp] theorem OSg_slice {x0:TypeId} {x1:Operand} {x2:Option Operand} {x3:Option Operand} {x4:Option Operand}:@OS P c dst (.slice x0 x1 x2 x3 x4) (some (j,want)) s o K Q = @OPK Bool (GD (@DA j o) s want) ⟨fun g=>@GK (a1f c s dst (.slice x0 x1 x2 x3 x4)) g s dst K ⟨(g=true->@RK (opX c.ty c.eqt c.pub s dst (.slice x0 x1 x2 x3 x4)) s dst K)/\(g=false->@AP K (s.put dst .any))⟩⟩:=by
 rw [<- a1p (P:=P) (Q:=Q) rfl];rfl
@[simp] theorem OS_fieldAddr {x0:TypeId} {x1:Operand} {x2:Nat}:@OS P c dst (.fieldAddr x0 x1 x2) none s o K Q = @RK (opX c.ty c.eqt c.pub s dst (.fieldAddr x0 x1 x2)) s dst K:=a1p rfl
@[simp] theorem OSg_fieldAddr {x0:TypeId} {x1:Operand} {x2:Nat}:@OS P c dst (.fieldAddr x0 x1 x2) (some (j,want)) s o K Q = @OPK Bool (GD (@DA j o) s want) ⟨fun g=>@GK (a1f c s dst (.fieldAddr x0 x1 x2)) g s dst K ⟨(g=true->@RK (opX c.ty c.eqt c.pub s dst (.fieldAddr x0 x1 x2)) s dst K)/\(g=false->@AP K (s.put dst .any))⟩⟩:=by
 rw [<- a1p (P:=P) (Q:=Q) rfl];rfl
@[simp] theorem OS_field {x0:TypeId} {x1:Operand} {x2:Nat}:@OS P c dst (.field x0 x1 x2) none s o K Q = @RK (opX c.ty c.eqt c.pub s dst (.field x0 x1 x2)) s dst K:=a1p rfl
@[simp] theorem OSg_field {x0:TypeId} {x1:Operand} {x2:Nat}:@OS P c dst (.field x0 x1 x2) (some (j,want)) s o K Q = @OPK Bool (GD (@DA j o) s want) ⟨fun g=>@GK (a1f c s dst (.field x0 x1 x2)) g s dst K ⟨(g=true->@RK (opX c.ty c.eqt c.pub s dst (.field x0 x1 x2)) s dst K)/\(g=false->@AP K (s.put dst .any))⟩⟩:=by
 rw [<- a1p (P:=P) (Q:=Q) rfl];rfl
@[simp] theorem OS_indexAddr {x0:TypeId} {x1:Operand} {x2:Operand}:@OS P c dst (.indexAddr x0 x1 x2) none s o K Q = @RK (opX c.ty c.eqt c.pub s dst (.indexAddr x0 x1 x2)) s dst K:=a1p rfl
@[simp] theorem OSg_indexAddr {x0:TypeId} {x1:Operand} {x2:Operand}:@OS P c dst (.indexAddr x0 x1 x2) (some (j,want)) s o K Q = @OPK Bool (GD (@DA j o) s want) ⟨fun g=>@GK (a1f c s dst (.indexAddr x0 x1 x2)) g s dst K ⟨(g=true->@RK (opX c.ty c.eqt c.pub s dst (.indexAddr x0 x1 x2)) s dst K)/\(g=false->@AP K (s.put dst .any))⟩⟩:=by
 rw [<- a1p (P:=P) (Q:=Q) rfl];rfl
@[simp] theorem OS_index {x0:TypeId} {x1:Operand} {x2:Operand}:@OS P c dst (.index x0 x1 x2) none s o K Q = @RK (opX c.ty c.eqt c.pub s dst (.index x0 x1 x2)) s dst K:=a1p rfl
@[simp] theorem OSg_index {x0:TypeId} {x1:Operand} {x2:Operand}:@OS P c dst (.index x0 x1 x2) (some (j,want)) s o K Q = @OPK Bool (GD (@DA j o) s want) ⟨fun g=>@GK (a1f c s dst (.index x0 x1 x2)) g s dst K ⟨(g=true->@RK (opX c.ty c.eqt c.pub s dst (.index x0 x1 x2)) s dst K)/\(g=false->@AP K (s.put dst .any))⟩⟩:=by
 rw [<- a1p (P:=P) (Q:=Q) rfl];rfl
@[simp] theorem OS_lookup {x0:TypeId} {x1:Operand} {x2:Operand} {x3:Bool}:@OS P c dst (.lookup x0 x1 x2 x3) none s o K Q = @RK (opX c.ty c.eqt c.pub s dst (.lookup x0 x1 x2 x3)) s dst K:=a1p rfl
@[simp] theorem OSg_lookup {x0:TypeId} {x1:Operand} {x2:Operand} {x3:Bool}:@OS P c dst (.lookup x0 x1 x2 x3) (some (j,want)) s o K Q = @OPK Bool (GD (@DA j o) s want) ⟨fun g=>@GK (a1f c s dst (.lookup x0 x1 x2 x3)) g s dst K ⟨(g=true->@RK (opX c.ty c.eqt c.pub s dst (.lookup x0 x1 x2 x3)) s dst K)/\(g=false->@AP K (s.put dst .any))⟩⟩:=by
 rw [<- a1p (P:=P) (Q:=Q) rfl];rfl
@[simp] theorem OS_mapUpdate {x0:TypeId} {x1:Operand} {x2:Operand} {x3:Operand}:@OS P c dst (.mapUpdate x0 x1 x2 x3) none s o K Q = @RK (opX c.ty c.eqt c.pub s dst (.mapUpdate x0 x1 x2 x3)) s dst K:=a1p rfl
@[simp] theorem OSg_mapUpdate {x0:TypeId} {x1:Operand} {x2:Operand} {x3:Operand}:@OS P c dst (.mapUpdate x0 x1 x2 x3) (some (j,want)) s o K Q = @OPK Bool (GD (@DA j o) s want) ⟨fun g=>@GK (a1f c s dst (.mapUpdate x0 x1 x2 x3)) g s dst K ⟨(g=true->@RK (opX c.ty c.eqt c.pub s dst (.mapUpdate x0 x1 x2 x3)) s dst K)/\(g=false->@AP K (s.put dst .any))⟩⟩:=by
 rw [<- a1p (P:=P) (Q:=Q) rfl];rfl
@[simp] theorem OS_entryStore {x0:TypeId} {x1:Operand} {x2:Operand} {x3:Operand}:@OS P c dst (.entryStore x0 x1 x2 x3) none s o K Q = @RK (opX c.ty c.eqt c.pub s dst (.entryStore x0 x1 x2 x3)) s dst K:=a1p rfl
@[simp] theorem OSg_entryStore {x0:TypeId} {x1:Operand} {x2:Operand} {x3:Operand}:@OS P c dst (.entryStore x0 x1 x2 x3) (some (j,want)) s o K Q = @OPK Bool (GD (@DA j o) s want) ⟨fun g=>@GK (a1f c s dst (.entryStore x0 x1 x2 x3)) g s dst K ⟨(g=true->@RK (opX c.ty c.eqt c.pub s dst (.entryStore x0 x1 x2 x3)) s dst K)/\(g=false->@AP K (s.put dst .any))⟩⟩:=by
 rw [<- a1p (P:=P) (Q:=Q) rfl];rfl
@[simp] theorem OS_mapEntry {x0:TypeId} {x1:Operand} {x2:Operand}:@OS P c dst (.mapEntry x0 x1 x2) none s o K Q = @RK (opX c.ty c.eqt c.pub s dst (.mapEntry x0 x1 x2)) s dst K:=a1p rfl
@[simp] theorem OSg_mapEntry {x0:TypeId} {x1:Operand} {x2:Operand}:@OS P c dst (.mapEntry x0 x1 x2) (some (j,want)) s o K Q = @OPK Bool (GD (@DA j o) s want) ⟨fun g=>@GK (a1f c s dst (.mapEntry x0 x1 x2)) g s dst K ⟨(g=true->@RK (opX c.ty c.eqt c.pub s dst (.mapEntry x0 x1 x2)) s dst K)/\(g=false->@AP K (s.put dst .any))⟩⟩:=by
 rw [<- a1p (P:=P) (Q:=Q) rfl];rfl
@[simp] theorem OS_typeAssert {x0:Operand} {x1:TypeId} {x2:TypeId} {x3:Bool}:@OS P c dst (.typeAssert x0 x1 x2 x3) none s o K Q = @RK (opX c.ty c.eqt c.pub s dst (.typeAssert x0 x1 x2 x3)) s dst K:=a1p rfl
@[simp] theorem OSg_typeAssert {x0:Operand} {x1:TypeId} {x2:TypeId} {x3:Bool}:@OS P c dst (.typeAssert x0 x1 x2 x3) (some (j,want)) s o K Q = @OPK Bool (GD (@DA j o) s want) ⟨fun g=>@GK (a1f c s dst (.typeAssert x0 x1 x2 x3)) g s dst K ⟨(g=true->@RK (opX c.ty c.eqt c.pub s dst (.typeAssert x0 x1 x2 x3)) s dst K)/\(g=false->@AP K (s.put dst .any))⟩⟩:=by
 rw [<- a1p (P:=P) (Q:=Q) rfl];rfl
@[simp] theorem OS_extract {x0:Operand} {x1:Nat}:@OS P c dst (.extract x0 x1) none s o K Q = @RK (opX c.ty c.eqt c.pub s dst (.extract x0 x1)) s dst K:=a1p rfl
@[simp] theorem OSg_extract {x0:Operand} {x1:Nat}:@OS P c dst (.extract x0 x1) (some (j,want)) s o K Q = @OPK Bool (GD (@DA j o) s want) ⟨fun g=>@GK (a1f c s dst (.extract x0 x1)) g s dst K ⟨(g=true->@RK (opX c.ty c.eqt c.pub s dst (.extract x0 x1)) s dst K)/\(g=false->@AP K (s.put dst .any))⟩⟩:=by
 rw [<- a1p (P:=P) (Q:=Q) rfl];rfl
def APK (c:Cx) (x:Array Operand) (y:Array TypeId) (s:S) (dst:Option Nat) [K:KT]:Prop:=RK (opX c.ty c.eqt c.pub s dst (.call ⟨.builtin .append,x,y⟩)) s dst
@[simp] theorem OS_append {x:Array Operand} {y:Array TypeId}:@OS P c dst (.call ⟨.builtin .append,x,y⟩) none s o K Q = @APK c x y s dst K:=a1p rfl
@[simp] theorem OS_blen {x:Array Operand} {y:Array TypeId}:@OS P c dst (.call ⟨.builtin .len,x,y⟩) none s o K Q = @RK (opX c.ty c.eqt c.pub s dst (.call ⟨.builtin .len,x,y⟩)) s dst K:=a1p rfl
@[simp] theorem OS_bcap {x:Array Operand} {y:Array TypeId}:@OS P c dst (.call ⟨.builtin .cap,x,y⟩) none s o K Q = @RK (opX c.ty c.eqt c.pub s dst (.call ⟨.builtin .cap,x,y⟩)) s dst K:=a1p rfl
@[simp] theorem OS_bmin {x:Array Operand} {y:Array TypeId}:@OS P c dst (.call ⟨.builtin .min,x,y⟩) none s o K Q = @RK (opX c.ty c.eqt c.pub s dst (.call ⟨.builtin .min,x,y⟩)) s dst K:=a1p rfl
@[simp] theorem OS_bmax {x:Array Operand} {y:Array TypeId}:@OS P c dst (.call ⟨.builtin .max,x,y⟩) none s o K Q = @RK (opX c.ty c.eqt c.pub s dst (.call ⟨.builtin .max,x,y⟩)) s dst K:=a1p rfl
@[simp] theorem OS_bdelete {x:Array Operand} {y:Array TypeId}:@OS P c dst (.call ⟨.builtin .delete,x,y⟩) none s o K Q = @RK (opX c.ty c.eqt c.pub s dst (.call ⟨.builtin .delete,x,y⟩)) s dst K:=a1p rfl
@[simp] theorem OS_bcopy {x:Array Operand} {y:Array TypeId}:@OS P c dst (.call ⟨.builtin .copy,x,y⟩) none s o K Q = @RK (opX c.ty c.eqt c.pub s dst (.call ⟨.builtin .copy,x,y⟩)) s dst K:=a1p rfl
@[simp] theorem OS_bclear {x:Array Operand} {y:Array TypeId}:@OS P c dst (.call ⟨.builtin .clear,x,y⟩) none s o K Q = @RK (opX c.ty c.eqt c.pub s dst (.call ⟨.builtin .clear,x,y⟩)) s dst K:=a1p rfl
@[simp] theorem OSg_builtin {b:Builtin} {x:Array Operand} {y:Array TypeId}:@OS P c dst (.call ⟨.builtin b,x,y⟩) (some (j,want)) s o K Q = @OPK Bool (GD (@DA j o) s want) ⟨fun g=>@GK (a1f c s dst (.call ⟨.builtin b,x,y⟩)) g s dst K ⟨(g=true->@RK (opX c.ty c.eqt c.pub s dst (.call ⟨.builtin b,x,y⟩)) s dst K)/\(g=false->@AP K (s.put dst .any))⟩⟩:=by
 rw [<- a1p (P:=P) (Q:=Q) rfl];rfl
@[simp] theorem OS_call {fo:Operand} {x:Array Operand} {y:Array TypeId}:@OS P c dst (.call ⟨.value fo,x,y⟩) none s o K Q = @ST P c s dst (.call ⟨.value fo,x,y⟩) K Q:=rfl
@[simp] theorem OSg_call {fo:Operand} {x:Array Operand} {y:Array TypeId}:@OS P c dst (.call ⟨.value fo,x,y⟩) (some (j,want)) s o K Q = @OPK Bool (GD (@DA j o) s want) ⟨fun g=>@GK (a1f c s dst (.call ⟨.value fo,x,y⟩)) g s dst K ⟨(g=true->@ST P c s dst (.call ⟨.value fo,x,y⟩) K Q)/\(g=false->@AP K (s.put dst .any))⟩⟩:=rfl
@[simp] theorem OS_panic {x:Operand}:@OS P c dst (.panic x) none s o K Q = @ST P c s dst (.panic x) K Q:=rfl
@[simp] theorem OSg_panic {x:Operand}:@OS P c dst (.panic x) (some (j,want)) s o K Q = @OPK Bool (GD (@DA j o) s want) ⟨fun g=>@GK (a1f c s dst (.panic x)) g s dst K ⟨(g=true->@ST P c s dst (.panic x) K Q)/\(g=false->@AP K (s.put dst .any))⟩⟩:=rfl
@[simp] theorem OS_range {T:TypeId} {x:Operand}:@OS P c dst (.range T x) none s o K Q = @ST P c s dst (.range T x) K Q:=rfl
@[simp] theorem OSg_range {T:TypeId} {x:Operand}:@OS P c dst (.range T x) (some (j,want)) s o K Q = @OPK Bool (GD (@DA j o) s want) ⟨fun g=>@GK (a1f c s dst (.range T x)) g s dst K ⟨(g=true->@ST P c s dst (.range T x) K Q)/\(g=false->@AP K (s.put dst .any))⟩⟩:=rfl
@[simp] theorem OS_next {x:Operand} {b:Bool}:@OS P c dst (.next x b) none s o K Q = @ST P c s dst (.next x b) K Q:=rfl
@[simp] theorem OSg_next {x:Operand} {b:Bool}:@OS P c dst (.next x b) (some (j,want)) s o K Q = @OPK Bool (GD (@DA j o) s want) ⟨fun g=>@GK (a1f c s dst (.next x b)) g s dst K ⟨(g=true->@ST P c s dst (.next x b) K Q)/\(g=false->@AP K (s.put dst .any))⟩⟩:=rfl
@[simp] theorem OS_entry {x:Operand}:@OS P c dst (.entry x) none s o K Q = @ST P c s dst (.entry x) K Q:=rfl
@[simp] theorem OSg_entry {x:Operand}:@OS P c dst (.entry x) (some (j,want)) s o K Q = @OPK Bool (GD (@DA j o) s want) ⟨fun g=>@GK (a1f c s dst (.entry x)) g s dst K ⟨(g=true->@ST P c s dst (.entry x) K Q)/\(g=false->@AP K (s.put dst .any))⟩⟩:=rfl
@[simp] theorem OS_defer {x:Call}:@OS P c dst (.defer x) none s o K Q = @ST P c s dst (.defer x) K Q:=rfl
@[simp] theorem OSg_defer {x:Call}:@OS P c dst (.defer x) (some (j,want)) s o K Q = @OPK Bool (GD (@DA j o) s want) ⟨fun g=>@GK (a1f c s dst (.defer x)) g s dst K ⟨(g=true->@ST P c s dst (.defer x) K Q)/\(g=false->@AP K (s.put dst .any))⟩⟩:=rfl
@[simp] theorem OS_makeFunc {fn:Fn} {x y:Array Operand}:@OS P c dst (.makeFunc fn x y) none s o K Q = @ST P c s dst (.makeFunc fn x y) K Q:=rfl
@[simp] theorem OSg_makeFunc {fn:Fn} {x y:Array Operand}:@OS P c dst (.makeFunc fn x y) (some (j,want)) s o K Q = @OPK Bool (GD (@DA j o) s want) ⟨fun g=>@GK (a1f c s dst (.makeFunc fn x y)) g s dst K ⟨(g=true->@ST P c s dst (.makeFunc fn x y) K Q)/\(g=false->@AP K (s.put dst .any))⟩⟩:=rfl
@[simp] theorem un_d {x:DV}:LV.un (LV.d x)=(LV.d x):=rfl
@[simp] theorem unP_d {x:DV}:LV.unP (LV.d x)=True:=rfl
@[simp] theorem cells_d {x:DV}:LV.cells (LV.d x)=[(LV.d x)]:=rfl
@[simp] theorem one_d {x:DV}:LV.one (LV.d x)=true:=rfl
@[simp] theorem un_lp {k off:Nat}:LV.un (LV.lp k off)=(LV.lp k off):=rfl
@[simp] theorem unP_lp {k off:Nat}:LV.unP (LV.lp k off)=True:=rfl
@[simp] theorem cells_lp {k off:Nat}:LV.cells (LV.lp k off)=[(LV.lp k off)]:=rfl
@[simp] theorem one_lp {k off:Nat}:LV.one (LV.lp k off)=true:=rfl
@[simp] theorem un_gp {n off:Nat}:LV.un (LV.gp n off)=(LV.gp n off):=rfl
@[simp] theorem unP_gp {n off:Nat}:LV.unP (LV.gp n off)=True:=rfl
@[simp] theorem cells_gp {n off:Nat}:LV.cells (LV.gp n off)=[(LV.gp n off)]:=rfl
@[simp] theorem one_gp {n off:Nat}:LV.one (LV.gp n off)=true:=rfl
@[simp] theorem un_ep {xs:List (List DV)} {es i off:Nat}:LV.un (LV.ep xs es i off)=(LV.ep xs es i off):=rfl
@[simp] theorem unP_ep {xs:List (List DV)} {es i off:Nat}:LV.unP (LV.ep xs es i off)=True:=rfl
@[simp] theorem cells_ep {xs:List (List DV)} {es i off:Nat}:LV.cells (LV.ep xs es i off)=[(LV.ep xs es i off)]:=rfl
@[simp] theorem one_ep {xs:List (List DV)} {es i off:Nat}:LV.one (LV.ep xs es i off)=true:=rfl
@[simp] theorem un_osl {n:Nat} {xs:List (List DV)}:LV.un (LV.osl n xs)=(LV.osl n xs):=rfl
@[simp] theorem unP_osl {n:Nat} {xs:List (List DV)}:LV.unP (LV.osl n xs)=True:=rfl
@[simp] theorem cells_osl {n:Nat} {xs:List (List DV)}:LV.cells (LV.osl n xs)=[(LV.osl n xs)]:=rfl
@[simp] theorem one_osl {n:Nat} {xs:List (List DV)}:LV.one (LV.osl n xs)=true:=rfl
@[simp] theorem un_gm {n:Nat}:LV.un (LV.gm n)=(LV.gm n):=rfl
@[simp] theorem unP_gm {n:Nat}:LV.unP (LV.gm n)=True:=rfl
@[simp] theorem cells_gm {n:Nat}:LV.cells (LV.gm n)=[(LV.gm n)]:=rfl
@[simp] theorem one_gm {n:Nat}:LV.one (LV.gm n)=true:=rfl
@[simp] theorem un_vs {n g sz i len:Nat}:LV.un (LV.vs n g sz i len)=(LV.vs n g sz i len):=rfl
@[simp] theorem unP_vs {n g sz i len:Nat}:LV.unP (LV.vs n g sz i len)=True:=rfl
@[simp] theorem cells_vs {n g sz i len:Nat}:LV.cells (LV.vs n g sz i len)=[(LV.vs n g sz i len)]:=rfl
@[simp] theorem one_vs {n g sz i len:Nat}:LV.one (LV.vs n g sz i len)=true:=rfl
@[simp] theorem un_vp {n g o:Nat}:LV.un (LV.vp n g o)=(LV.vp n g o):=rfl
@[simp] theorem unP_vp {n g o:Nat}:LV.unP (LV.vp n g o)=True:=rfl
@[simp] theorem cells_vp {n g o:Nat}:LV.cells (LV.vp n g o)=[(LV.vp n g o)]:=rfl
@[simp] theorem one_vp {n g o:Nat}:LV.one (LV.vp n g o)=true:=rfl
@[simp] theorem un_yl {n:Nat}:LV.un (LV.yl n)=(LV.yl n):=rfl
@[simp] theorem unP_yl {n:Nat}:LV.unP (LV.yl n)=True:=rfl
@[simp] theorem cells_yl {n:Nat}:LV.cells (LV.yl n)=[(LV.yl n)]:=rfl
@[simp] theorem one_yl {n:Nat}:LV.one (LV.yl n)=true:=rfl
@[simp] theorem un_ip {cs:List LV} {off:Nat}:LV.un (LV.ip cs off)=(LV.ip cs off):=rfl
@[simp] theorem unP_ip {cs:List LV} {off:Nat}:LV.unP (LV.ip cs off)=True:=rfl
@[simp] theorem cells_ip {cs:List LV} {off:Nat}:LV.cells (LV.ip cs off)=[(LV.ip cs off)]:=rfl
@[simp] theorem one_ip {cs:List LV} {off:Nat}:LV.one (LV.ip cs off)=true:=rfl
@[simp] theorem un_fn {f:Fn} {first cap:List LV}:LV.un (LV.fn f first cap)=(LV.fn f first cap):=rfl
@[simp] theorem unP_fn {f:Fn} {first cap:List LV}:LV.unP (LV.fn f first cap)=True:=rfl
@[simp] theorem cells_fn {f:Fn} {first cap:List LV}:LV.cells (LV.fn f first cap)=[(LV.fn f first cap)]:=rfl
@[simp] theorem one_fn {f:Fn} {first cap:List LV}:LV.one (LV.fn f first cap)=true:=rfl
@[simp] theorem un_agg {cs:List LV}:LV.un (LV.agg cs)=(LV.agg cs):=rfl
@[simp] theorem unP_agg {cs:List LV}:LV.unP (LV.agg cs)=True:=rfl
@[simp] theorem cells_agg {cs:List LV}:LV.cells (LV.agg cs)=cs:=rfl
@[simp] theorem one_agg {cs:List LV}:LV.one (LV.agg cs)=false:=rfl
@[simp] theorem un_tup {vs:List LV}:LV.un (LV.tup vs)=(LV.tup vs):=rfl
@[simp] theorem unP_tup {vs:List LV}:LV.unP (LV.tup vs)=True:=rfl
@[simp] theorem cells_tup {vs:List LV}:LV.cells (LV.tup vs)=[(LV.tup vs)]:=rfl
@[simp] theorem one_tup {vs:List LV}:LV.one (LV.tup vs)=false:=rfl
@[simp] theorem un_gd {g:Bool} {raw:LV}:LV.un (LV.gd g raw)=raw:=rfl
@[simp] theorem unP_gd {g:Bool} {raw:LV}:LV.unP (LV.gd g raw)=(g=true):=rfl
@[simp] theorem cells_gd {g:Bool} {raw:LV}:LV.cells (LV.gd g raw)=[(LV.gd g raw)]:=rfl
@[simp] theorem one_gd {g:Bool} {raw:LV}:LV.one (LV.gd g raw)=false:=rfl
@[simp] theorem un_any :LV.un (LV.any)=(LV.any):=rfl
@[simp] theorem unP_any :LV.unP (LV.any)=True:=rfl
@[simp] theorem cells_any :LV.cells (LV.any)=[(LV.any)]:=rfl
@[simp] theorem one_any :LV.one (LV.any)=false:=rfl
end
attribute [simp] b1t S.frz c5e b4o a3h d1f GH.del LV.sub subs LV.noLp a5u a3z a9g mkSl bsV slV b4x b4w GD grdV opX opZ d8x a9t b5s c4y Option.or a6c a5h optP a1x c0e a1f S.get c3i c5y S.arg S.argP S.eff S.put a7e a1k allP a9d nbs LV.nb binV d7p d7o unV bool intV kz a2d LV.shift e3e places d3l putAt c0r rowsOf toD toDs b3n TK.isAgg TK.isBool b2c a3k Value.oneCell' a8t a4e keyOf e6a e5y b7p b5m a9k fz fzs
end Go.Aft
