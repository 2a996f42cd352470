import Derived.Test.YthinedikejlgmaaGreatA09
set_option linter.all false
namespace Go.Aft
def a6b (G:Gh):Gh:={ G with own:=fun b=>match G.own b with | .loc _=>.foreign | o=>o }
theorem a8n (nx:Nat) (G:Gh):G.le nx (a6b G):=⟨Mem.le_refl _,fun _ _=>rfl,fun _ _=>⟨Nat.le_refl _,fun _=>rfl⟩⟩
def a8o (G G2:Gh):Gh:={ G2 with own:=fun b=>match G.own b with | .loc k=>.loc k | _=>G2.own b }
theorem a6o (nx:Nat) (G G2:Gh):G2.le nx (a8o G G2):=⟨Mem.le_refl _,fun _ _=>rfl,fun _ _=>⟨Nat.le_refl _,fun _=>rfl⟩⟩
section
variable {E:Ent} {G:Gh} {lm:Nat->Option Nat} {L:Nat->Option (List LV)} {H:GH} {w:World}
theorem c6g (h:MR G lm L H w):MR (a6b G) noL noS H w/\b0o (a6b G):=by
 have hn:∀ b n,G.own b=.nm n->(a6b G).own b=.nm n:=fun b n hb=>by simp [a6b,hb]
 refine ⟨⟨h.imm,fun b o v hv=>?_,fun b hb=>?_,fun _ _=>rfl,fun k cs hk=>by simp [noS] at hk,fun n o ho=>?_⟩,fun b k=>?_⟩
 ·rcases h.immOwn b o v hv with q | ⟨n,e,sz,m,q1,q2,q3⟩
  ·left;simp [a6b,q]
  ·exact .inr (⟨n,e,sz,m,hn b n q1,q2,q3⟩)
 ·exact ⟨by simp [a6b,(h.fresh b hb).1],(h.fresh b hb).2⟩
 ·obtain ⟨h1,h2⟩:=h.nmd n o ho
  exact ⟨h1,a3l (Nat.le_refl _) h1 (a8n _ G) h2 ⟨rfl,rfl⟩ fun b hb=>⟨hn b n hb,rfl,fun _ _ q=>q⟩⟩
 ·simp only [a6b];cases G.own b <;> simp
theorem c6h (h:MR G lm L H w) (hx:Ext E G H w) {G2:Gh} {H2:GH} {w2:World} (h2:MR G2 noL noS H2 w2) (hn2:b0o G2) (hx2:Ext ⟨a6b G,H,w⟩ G2 H2 w2) :
  MR (a8o G G2) lm L H2 w2/\Ext E (a8o G G2) H2 w2/\G.le H.next (a8o G G2):=by
 have hf:∀ b k,G.own b=.loc k->G2.own b=.foreign/\w2.heap[b]?=w.heap[b]?:=fun b k hb=>by
  have hlt:=own_lt h (b:=b) (by rw [hb];simp)
  have hc:(a6b G).own b=.foreign:=by simp [a6b,hb]
  refine ⟨?_,hx2.frame b hlt (.inr hc)⟩
  rcases hx2.own b hlt with q | ⟨⟨n,q⟩,_⟩
  ·exact q.trans hc
  ·rw [hc] at q;cases q
 have hback:∀ b n,G2.own b=.nm n->(a8o G G2).own b=.nm n:=fun b n hb=>by
  simp only [a8o]
  cases ho:G.own b with
  | loc k=>rw [(hf b k ho).1] at hb;cases hb
  | _=>exact hb
 have hnone:∀ b,G2.own b=.none->(a8o G G2).own b=.none:=fun b hb=>by
  simp only [a8o]
  cases ho:G.own b with
  | loc k=>rw [(hf b k ho).1] at hb;cases hb
  | _=>exact hb
 have hle:G.le H.next (a8o G G2):=Gh.le_trans (Nat.le_refl _) (a8n _ G) (Gh.le_trans hx2.nx hx2.le (a6o _ G G2))
 refine ⟨⟨h2.imm,fun b o v hv=>?_,fun b hb=>?_,h.lmL,fun k cs hk=>?_,fun n o ho=>?_⟩,?_,hle⟩
 ·rcases h2.immOwn b o v hv with q | ⟨n,e,sz,m,q1,q2,q3⟩
  ·exact .inl (hnone b q)
  ·exact .inr ⟨n,e,sz,m,hback b n q1,q2,q3⟩
 ·have hb':w.heap.size<=b:=Nat.le_trans hx2.size hb
  exact ⟨hnone b (h2.fresh b hb).1,(h2.fresh b hb).2⟩
 ·obtain ⟨b,vs,q1,q2,q3,q4⟩:=h.loc k cs hk
  exact ⟨b,vs,q1,by simp [a8o,q2],a3j (hf b k q2).2 q3,a1d hx2.nx hle (fun _ _ e=>e) _ _ q4⟩
 ·obtain ⟨q1,q2⟩:=h2.nmd n o ho
  exact ⟨q1,a3l (Nat.le_refl _) q1 (a6o _ G G2) q2 ⟨rfl,rfl⟩ fun b hb=>⟨hback b n hb,rfl,fun _ _ q=>q⟩⟩
 ·refine Ext.trans hx ⟨hle,hx2.nx,hx2.os,hx2.tape,hx2.output,hx2.drawn,hx2.size,fun b hb ho=>?_,fun b hb=>?_⟩
  ·refine hx2.frame b hb ?_
   rcases ho with q | q <;> simp only [a6b] <;> simp only at q <;> rw [q] <;> simp
  ·simp only [a8o]
   cases ho:G.own b with
   | loc k=>exact .inl rfl
   | none=>have:=hx2.own b hb;simp [a6b,ho] at this;exact .inl this
   | foreign=>have:=hx2.own b hb;simp [a6b,ho] at this;exact .inl this
   | nm n =>
    have:=hx2.own b hb;simp [a6b,ho] at this
    rcases this with q | q
    ·exact .inl q
    ·exact .inr ⟨⟨n,rfl⟩,q⟩
end
structure Cx where
 ty:TypeId->Option TyD
 eqt:TypeId->Option (List Sc)
 pub:Nat->Kd
 spec:FuncId->List LV->Option (Prop × LV)
 rd:RD
def Enters (P:Program) (f:FuncId):Prop:=∀ args w,(callFunc f args).run P w=.ok (.enter f args) w
def a0j (P:Program) (f:FuncId) (args:List LV) (H:GH) (R:CE->GH->Prop):Prop:=Enters P f/\a7a P f args H R
def AFun (P:Program) (f:FuncId) (args:List LV) (v:LV):Prop:=∀ H,a0j P f args H fun ce H'=>ce=.ret v/\H'=H
structure Cx.ok (P:Program) (c:Cx):Prop where
 ty:TyOk P c.ty
 eqt:EqOk P c.eqt
 key:c6j P c.eqt
 spec:∀ f args pre v,c.spec f args=some (pre,v)->pre->AFun P f args v
 mixed:P.follows .mixedOrders=true
theorem a0j.mono {P:Program} {f:FuncId} {args:List LV} {H:GH} {R R':CE->GH->Prop} (h:a0j P f args H R) (hr:∀ e H',R e H'->R' e H'):a0j P f args H R':=⟨h.1,h.2.mono hr⟩
def a2v (P:Program) (n:Nat) (args:List LV) (H:GH) (R:CE->GH->Prop):Prop :=
 ∀ G w vs,MR G noL noS H w->b0o G->LRs G H.next noL args vs->∃ fn tmps asn body,
  (Instr.yield (G.nm n) vs.toArray).run P w=.ok (.round (G.nm n) fn tmps asn body) w/\RoundIn Fence.wide 0 P (G.nm n) fn tmps asn body w (e1l G H w R)
def b4x:Value->LV
 | .agg vs=>.agg (vs.toList.map kz)
 | v=>.d (.k v)
def b4w:Value->Bool
 | .agg vs=>vs.toList.all Value.oneCell'
 | v=>v.oneCell'
def a1k:LV->Option (FuncId × List LV × List LV)
 | .fn (.func f) first cap=>some (f,first,cap)
 | _=>none
def allP:List Prop->Prop
 | []=>True
 | p :: ps=>p/\allP ps
def retK (K:S->Prop) (Q:AE->S->Prop) (s:S) (dst:Option Nat):CE->GH->Prop
 | .ret v,H'=>K (({ s with H:=H' }:S).put dst v)
 | .pan x,H'=>Q (.pan x) { s with H:=H' }
def b1t (pub:Nat->Kd):List Operand->S->Option S
 | [],s=>some s
 | o :: l,s=>match s.get o with
  | .lp k 0=>if pub k=.imm then (match s.L k with
   | some cs=>if a5u cs=true then b1t pub l (s.frz k cs) else none
   | none=>none) else b1t pub l s
  | _=>b1t pub l s
def a4p (P:Program) (c:Cx) (s:S) (dst:Option Nat) (op:Op) (K:S->Prop) (Q:AE->S->Prop):Prop :=
 match op with
 | .call ⟨.value fo,args,_⟩ =>
  match a1k (s.arg fo) with
  | none=>match s.arg fo with
   | .yl n=>s.argP fo/\allP (args.toList.map s.argP)/\nbs s.H.next (args.toList.map s.arg)/\a2v P n (args.toList.map s.arg) s.H (retK K Q s dst)
   | _=>False
  | some (f,first,cap) =>
   s.argP fo/\allP (args.toList.map s.argP)/\nbs s.H.next (first ++ args.toList.map s.arg ++ cap) /\
   match c.spec f (first ++ args.toList.map s.arg ++ cap) with
   | some (pre,v)=>pre/\K (s.put dst v)
   | none=>a0j P f (first ++ args.toList.map s.arg ++ cap) s.H (retK K Q s dst)
 | .defer ⟨.value fo,args,_⟩ =>
  match a1k (s.arg fo) with
  | none=>False
  | some (f,first,cap)=>c.rd.r=none/\s.argP fo/\allP (args.toList.map s.argP)/\nbs s.H.next (first ++ args.toList.map s.arg)/\nbs s.H.next cap/\K (({ s with df:=.call f (first ++ args.toList.map s.arg) cap :: s.df }:S).put dst .any)
 | .makeFunc fn first cap =>
  match b1t c.pub cap.toList s with
  | none=>False
  | some s'=>K (s'.put dst (.fn fn (first.toList.map s'.get) (cap.toList.map s'.get)))
 | .range T x =>
  match c.ty T,s.arg x with
  | some ⟨.map _ _,_,_,_⟩,.gm m=>match s.H.obj m with
   | some (.map es)=>s.argP x/\K (({ s with H:=s.H.add (.iter m es.length [] es.length) }:S).put dst (.gp s.H.next 0))
   | _=>False
  | _,_=>False
 | .next x false =>
  match s.arg x with
  | .gp n 0=>match s.H.obj n with
   | some (.iter m since seen last)=>match s.H.obj m with
    | some (.map es)=>s.argP x/\since=es.length/\last=es.length/\es.all (fun e=>b4w e.1)=true /\
     (∀ i e,es[i]?=some e->i ∉ seen->K (({ s with H:=s.H.set n (.iter m since (seen ++ [i]) es.length) }:S).put dst (.tup [.d (.k (.bool true)),b4x e.1,e.2]))) /\
     ((∀ i,i < es.length->i ∈ seen)->K (s.put dst (.tup [.d (.k (.bool false))])))
    | _=>False
   | _=>False
  | _=>False
 | .entry x =>
  match s.arg x with
  | .gp n 0=>match s.H.obj n with
   | some (.iter m since seen last)=>match s.H.obj m with
    | some (.map es)=>s.argP x/\last=es.length/\es.all (fun e=>b4w e.1)=true/\∃ i e,seen.getLast?=some i/\es[i]?=some e/\K (s.put dst (.tup [b4x e.1,e.2]))
    | _=>False
   | _=>False
  | _=>False
 | .panic x=>s.argP x/\(s.arg x).nb s.H.next/\(match s.arg x with | .d (.k (.iface _ _))=>Q (.pan (s.arg x)) s | _=>False)
 | .buildSlice T len parts=>match (bsV c.ty c.pub s dst T len parts).or (opX c.ty c.eqt c.pub s dst (.buildSlice T len parts)) with
  | none=>False
  | some r=>r.pre/\K ((s.eff dst r.eff).put dst r.v)
 | op=>match opX c.ty c.eqt c.pub s dst op with
  | none=>False
  | some r=>r.pre/\K ((s.eff dst r.eff).put dst r.v)
def a1f (c:Cx) (s:S) (dst:Option Nat) (op:Op):Option (Prop × LV) :=
 match op with
 | .call ⟨.value fo,args,_⟩ =>
  match a1k (s.arg fo) with
  | none=>none
  | some (f,first,cap)=>(c.spec f (first ++ args.toList.map s.arg ++ cap)).map fun r=>(s.argP fo/\allP (args.toList.map s.argP)/\nbs s.H.next (first ++ args.toList.map s.arg ++ cap)/\r.1,r.2)
 | op=>match opX c.ty c.eqt c.pub s dst op with
  | some ⟨pre,v,.no⟩=>some (pre,v)
  | _=>none
def b2c (g:Bool) (x y:LV):LV :=
 match x,y with
 | .d (.k (.bool a)),.d (.k (.bool b))=>.d (.k (.bool (bif g then a else b)))
 | x,y=>bif g then x else y
def guardOf (ops:Array Oper) (s:S) (j:Nat) (want:Bool):Option Bool :=
 match (ops[j]?).bind (·.dst) with
 | none=>none
 | some t=>match s.env t with
  | .d (.k (.bool g))=>some (g == want)
  | .gd g0 (.d (.k (.bool g)))=>some (g0 && (g == want))
  | _=>none
def runC (P:Program) (c:Cx) (ops:Array Oper):List Oper->S->(AE->S->Prop)->Prop
 | [],s,Q=>Q .normal s
 | o :: rest,s,Q =>
  (match o.dst with | some t=>t < s.nt | none=>True) /\
  match o.guard with
  | none =>
   match o.op with
   | .pick x a b =>
    match s.arg x with
    | .d (.k (.bool g))=>s.argP x/\(g=true->s.argP a)/\(g=false->s.argP b)/\runC P c ops rest (s.put o.dst (b2c g (s.arg a) (s.arg b))) Q
    | _=>False
   | op=>a4p P c s o.dst op (fun s'=>runC P c ops rest s' Q) Q
  | some (j,want) =>
   match guardOf ops s j want with
   | none=>False
   | some g =>
    match o.op with
    | .pick x a b =>
     match s.arg x with
     | .d (.k (.bool h))=>(g=true->s.argP x/\(h=true->s.argP a)/\(h=false->s.argP b))/\runC P c ops rest (s.put o.dst (.gd g (b2c h (s.arg a) (s.arg b)))) Q
     | _=>False
    | op =>
     match a1f c s o.dst op with
     | some (pre,v)=>(g=true->pre)/\runC P c ops rest (s.put o.dst (.gd g v)) Q
     | none=>(g=true->a4p P c s o.dst op (fun s'=>runC P c ops rest s' Q) Q)/\(g=false->runC P c ops rest (s.put o.dst .any) Q)
end Go.Aft
