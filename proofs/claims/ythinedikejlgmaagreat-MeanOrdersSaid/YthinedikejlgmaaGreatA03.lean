import Derived.Test.YthinedikejlgmaaGreatA02
import Derived.RangeFuncIn
import Derived.OrdersIn
import Derived.TacticsIn
set_option linter.all false
section
namespace Go.Aft
inductive AE where
 | normal | exit (id:Nat) | goto (l:Nat) | ret | pan (v:LV)
inductive CE where
 | ret (v:LV) | pan (v:LV)
def noS:Nat->Option (List LV):=fun _=>none
def ExR (G:Gh) (nx:Nat):AE->Exit->Prop
 | .normal,e=>e=.normal
 | .exit i,e=>e=.exit i
 | .goto l,e=>e=.goto l
 | .ret,e=>e=.ret
 | .pan x,e=>∃ v,e=.panic [{ v:=v,recovered:=false }]/\LR G nx noL x v
def SimX (E:Ent) (ae:AE) (s:S) (e:Exit) (a:Act) (w:World):Prop :=
 a.tmps.size=s.nt/\∃ G lm,DFRs G s.H.next s.df a.defers/\MR G lm s.L s.H w/\Ext E G s.H w/\(∀ t,LR G s.H.next lm (s.env t) (a.tmps.getD t undef))/\ExR G s.H.next ae e
def Sim (E:Ent) (s:S) (a:Act) (w:World):Prop:=SimX E .normal s .normal a w
def AQ (E:Ent) (Q:AE->S->Prop):Exit->Act->World->Prop:=fun e a w=>∃ ae s,Q ae s/\SimX E ae s e a w
structure RD where
 r:Option Nat
 f:Option FuncId
def RD.any:RD:=⟨none,none⟩
def RD.b8j (rd:RD) (f:FuncId):Bool:=rd.r.isNone && rd.f.all (· == f)
def fnc (rd:RD):Fence:={ Fence.wide with round:=rd.r }
def wpA (P:Program) (rd:RD) (c:Code) (Q:Exit->Act->World->Prop) (a:Act) (w:World):Prop :=
 ∀ (b:Frame) (k:List Item) (cs:List Frame),b.roundOf=rd.r->(∀ f,rd.f=some f->b.fn=f) ->
  ∃ e a' w',Q e a' w'/\ArrivesIn (Machine.fenced P Fence.wide) P (lone (b.atR a (.code c :: k)) cs w) b k cs e a' w'
section
variable {P:Program} {rd:RD} {Q:Exit->Act->World->Prop} {a:Act} {w:World}
theorem a2m {c:Code} (h:c.wpIn (fnc rd) 0 P Q a w):wpA P rd c Q a w:=fun b k cs hro _=>h b k cs hro trivial (room_wide _)
theorem a4a {c:Code} {Q':Exit->Act->World->Prop} (h:wpA P rd c Q a w) (hq:∀ e a w,Q e a w->Q' e a w):wpA P rd c Q' a w :=
 fun b k cs hro hb=>let ⟨e,a',w',q,r⟩:=h b k cs hro hb;⟨e,a',w',hq _ _ _ q,r⟩
theorem f2d {x y:Code} (h:wpA P rd x (Exit.then (wpA P rd y Q) Q) a w):wpA P rd (.seq x y) Q a w:=by
 intro b k cs hro hb
 have one:=StepsIn.one (P:=P) (fenced_wide P (lone (b.atR a (.code (.seq x y) :: k)) cs w)) stepR_seq
 obtain ⟨e,a₁,w₁,hq,harr⟩:=h b (.code y :: k) cs hro hb
 cases e with
 | normal =>
  obtain ⟨e₂,a₂,w₂,hq₂,harr₂⟩:=hq b k cs hro hb
  exact ⟨e₂,a₂,w₂,hq₂,.of_steps (one.trans harr) harr₂⟩
 | _=>exact ⟨_,a₁,w₁,hq,.of_steps one (.pass (x:=.code y) rfl (fun _ _=>.inl (by simp)) harr)⟩
theorem e7l {c:Operand} {x y:Code} {t:Bool} (hc:a.eval c=.bool t) (ht:t=true->wpA P rd x Q a w) (hf:t=false->wpA P rd y Q a w):wpA P rd (.cond c x y) Q a w:=by
 intro b k cs hro hb
 have h:wpA P rd (if t then x else y) Q a w:=by cases t <;> simp_all
 obtain ⟨e,a',w',q,r⟩:=h b k cs hro hb
 exact ⟨e,a',w',q,.of_steps (.one (fenced_wide P _) (stepR_cond hc)) r⟩
theorem e1o {id:Nat} {c:Code} (h:wpA P rd c (Exit.inBlock id Q) a w):wpA P rd (.block id c) Q a w:=by
 intro b k cs hro hb
 have one:=StepsIn.one (P:=P) (fenced_wide P (lone (b.atR a (.code (.block id c) :: k)) cs w)) stepR_block
 obtain ⟨e,a₁,w₁,hq,harr⟩:=h b (.inBlock id :: k) cs hro hb
 cases e with
 | normal=>exact ⟨.normal,a₁,w₁,hq,one.trans (StepsIn.trans harr (.one (fenced_wide P _) stepR_inBlock))⟩
 | exit j =>
  by_cases hj:j=id
  ·simp only [Exit.inBlock,hj,if_true] at hq
   exact ⟨.normal,a₁,w₁,hq,one.trans (harr.1 k (by simp [exitTo,hj]))⟩
  ·simp only [Exit.inBlock,hj,if_false] at hq
   have hx:exitTo j (.inBlock id :: k)=exitTo j k:=by simp [exitTo,beq_false_of_ne (Ne.symm hj)]
   refine ⟨.exit j,a₁,w₁,hq,.of_steps one ⟨fun k' hk=>harr.1 k' (hx.trans hk),fun hr' hk=>harr.2 hr' (hx.trans hk)⟩⟩
 | goto l =>
  have hx:gotoIn l (.inBlock id :: k)=gotoIn l k:=by simp [gotoIn]
  exact ⟨_,a₁,w₁,hq,.of_steps one ⟨fun k' hk=>harr.1 k' (hx.trans hk),fun hr' hk=>harr.2 hr' (hx.trans hk)⟩⟩
 | ret=>exact ⟨_,a₁,w₁,hq,.of_steps one harr⟩
 | panic ch=>exact ⟨_,a₁,w₁,hq,.of_steps one harr⟩
 | outgrown=>exact ⟨_,a₁,w₁,hq,.of_steps one harr⟩
theorem e7k {c:Code} (I:Act->World->Prop) (μ:Act->World->Nat) (h₀:I a w) (round:∀ a w,I a w->wpA P rd c (Exit.then (fun a' w'=>I a' w'/\μ a' w' < μ a w) Q) a w):wpA P rd (.loop c) Q a w:=by
 intro b k cs hro hb
 have key:∀ j a w,μ a w=j->I a w->∃ e a' w',Q e a' w'/\ArrivesIn (Machine.fenced P Fence.wide) P (lone (b.atR a (.code c :: .inLoop c :: k)) cs w) b k cs e a' w':=by
  intro j
  induction j using Nat.strongRecOn with
  | _ j ih =>
   intro a w hn hI
   obtain ⟨e,a₁,w₁,hq,harr⟩:=round a w hI b (.inLoop c :: k) cs hro hb
   cases e with
   | normal =>
    obtain ⟨e₂,a₂,w₂,hq₂,harr₂⟩:=ih _ (hn ▸ hq.2) a₁ w₁ rfl hq.1
    exact ⟨e₂,a₂,w₂,hq₂,.of_steps (StepsIn.trans harr (.one (fenced_wide P _) stepR_inLoop)) harr₂⟩
   | _=>exact ⟨_,a₁,w₁,hq,.pass (x:=.inLoop c) rfl (fun _ _=>.inl (by simp)) harr⟩
 obtain ⟨e,a',w',hq,harr⟩:=key _ a w rfl h₀
 exact ⟨e,a',w',hq,.of_steps (.one (fenced_wide P _) stepR_loop) harr⟩
end
def AWp (P:Program) (rd:RD) (c:Code) (s:S) (Q:AE->S->Prop):Prop:=∀ E a w,Sim E s a w->wpA P rd c (AQ E Q) a w
section
variable {P:Program} {rd:RD} {s:S} {Q:AE->S->Prop}
theorem AWp.mono {c:Code} {Q':AE->S->Prop} (h:AWp P rd c s Q) (hq:∀ e s,Q e s->Q' e s):AWp P rd c s Q' :=
 fun E a w hs=>a4a (h E a w hs) fun e a w ⟨ae,s,q,r⟩=>⟨ae,s,hq _ _ q,r⟩
theorem SimX.normal {E:Ent} {e:Exit} {a:Act} {w:World} (h:SimX E .normal s e a w):e=.normal/\Sim E s a w:=by
 obtain ⟨h2,G,lm,h1,h3,h4,h5,h6⟩:=h
 exact ⟨h6,h2,G,lm,h1,h3,h4,h5,rfl⟩
theorem Sim.toX {E:Ent} {a:Act} {w:World} (h:Sim E s a w) (ae:AE) (e:Exit) (he:∀ G nx,ExR G nx ae e):SimX E ae s e a w:=by
 obtain ⟨h2,G,lm,h1,h3,h4,h5,h6⟩:=h
 exact ⟨h2,G,lm,h1,h3,h4,h5,he _ _⟩
theorem AWp.skip (h:Q .normal s):AWp P rd .skip s Q:=fun E a w hs=>a2m<|wpIn_skip ⟨.normal,s,h,hs⟩
theorem AWp.label {l:Nat} (h:Q .normal s):AWp P rd (.label l) s Q:=fun E a w hs=>a2m<|wpIn_label ⟨.normal,s,h,hs⟩
theorem AWp.exit {id:Nat} (h:Q (.exit id) s):AWp P rd (.exit id) s Q:=fun E a w hs=>a2m<|wpIn_exit ⟨.exit id,s,h,hs.toX _ _ fun _ _=>rfl⟩
theorem AWp.goto {l:Nat} (h:Q (.goto l) s):AWp P rd (.goto l) s Q:=fun E a w hs=>a2m<|wpIn_goto ⟨.goto l,s,h,hs.toX _ _ fun _ _=>rfl⟩
theorem AWp.ret (h:Q .ret s):AWp P rd .ret s Q:=fun E a w hs=>a2m<|wpIn_ret ⟨.ret,s,h,hs.toX _ _ fun _ _=>rfl⟩
def e1v (K:S->Prop) (Q:AE->S->Prop):AE->S->Prop
 | .normal,s=>K s
 | e,s=>Q e s
theorem AWp.seq {x y:Code} (h:AWp P rd x s (e1v (fun s'=>AWp P rd y s' Q) Q)):AWp P rd (.seq x y) s Q:=by
 intro E a w hs
 refine f2d (a4a (h E a w hs) ?_)
 rintro e a' w' ⟨ae,s',q,r⟩
 cases ae with
 | normal =>
  obtain ⟨rfl,r'⟩:=r.normal
  exact q E a' w' r'
 | exit i=>obtain ⟨_,G,lm,_,_,_,_,he⟩:=id r;cases he;exact ⟨.exit i,s',q,r⟩
 | goto l=>obtain ⟨_,G,lm,_,_,_,_,he⟩:=id r;cases he;exact ⟨.goto l,s',q,r⟩
 | ret=>obtain ⟨_,G,lm,_,_,_,_,he⟩:=id r;cases he;exact ⟨.ret,s',q,r⟩
 | pan x=>obtain ⟨_,G,lm,_,_,_,_,v,rfl,_⟩:=id r;exact ⟨.pan x,s',q,r⟩
def c9z (id:Nat) (Q:AE->S->Prop):AE->S->Prop
 | .exit i,s=>if i=id then Q .normal s else Q (.exit i) s
 | e,s=>Q e s
theorem AWp.block {id:Nat} {c:Code} (h:AWp P rd c s (c9z id Q)):AWp P rd (.block id c) s Q:=by
 intro E a w hs
 refine e1o (a4a (h E a w hs) ?_)
 rintro e a' w' ⟨ae,s',q,r⟩
 cases ae with
 | normal=>obtain ⟨rfl,r'⟩:=r.normal;exact ⟨.normal,s',q,r'⟩
 | exit i =>
  obtain ⟨g2,G,lm,g1,g3,g4,g5,he⟩:=_root_.id r;cases he
  simp only [c9z] at q
  simp only [Exit.inBlock]
  by_cases e:i=id
  ·rw [if_pos e] at q |-;exact ⟨.normal,s',q,g2,G,lm,g1,g3,g4,g5,rfl⟩
  ·rw [if_neg e] at q |-;exact ⟨.exit i,s',q,r⟩
 | goto l=>obtain ⟨_,G,lm,_,_,_,_,he⟩:=_root_.id r;cases he;exact ⟨.goto l,s',q,r⟩
 | ret=>obtain ⟨_,G,lm,_,_,_,_,he⟩:=_root_.id r;cases he;exact ⟨.ret,s',q,r⟩
 | pan x=>obtain ⟨_,G,lm,_,_,_,_,v,rfl,_⟩:=_root_.id r;exact ⟨.pan x,s',q,r⟩
def bool (b:Bool):LV:=.d (.k (.bool b))
def kv:LV->Option Value
 | .d (.k v)=>some v
 | _=>none
def c3i:List Value->Option (List LV)
 | []=>some []
 | v :: vs=>if v.oneCell'=true then (c3i vs).map (.d (.k v) :: ·) else none
def c5y:Value->LV
 | .agg vs=>match c3i vs.toList with | some l=>.agg l | none=>.any
 | v=>if v.oneCell' then .d (.k v) else .any
theorem c9r {G:Gh} {nx:Nat} {lm:Nat->Option Nat}:∀ (vs:List Value) (l:List LV),c3i vs=some l->LRs G nx lm l vs
 | [],l,h=>by simp [c3i] at h;subst h;simp [LRs]
 | v :: vs,l,h=>by
  rw [c3i] at h
  split at h
  ·rename_i h1
   obtain ⟨m,h2,rfl⟩:=Option.map_eq_some_iff.1 h
   unfold LRs
   exact ⟨v,vs,rfl,by unfold LR DR;exact ⟨rfl,h1⟩,c9r vs m h2⟩
  ·cases h
theorem c3h {G:Gh} {nx:Nat} {lm:Nat->Option Nat} (v:Value):LR G nx lm (c5y v) v:=by
 unfold c5y
 split
 ·rename_i vs
  split
  ·rename_i l h;unfold LR;exact ⟨vs.toList,by simp,c9r _ _ h⟩
  ·simp [LR]
 ·split <;> simp_all [LR,DR]
def S.get (s:S):Operand->LV
 | .tmp t=>s.env t
 | .const v=>c5y v
 | .func f=>.fn (.func f) [] []
 | .global _=>.any
theorem Sim.get {E:Ent} {a:Act} {w:World} (h:∃ G lm,(∀ t,LR G s.H.next lm (s.env t) (a.tmps.getD t undef))/\True) (o:Operand):∃ G lm,LR G s.H.next lm (s.get o) (a.eval o):=by
 obtain ⟨G,lm,h,_⟩:=h
 refine ⟨G,lm,?_⟩
 cases o with
 | tmp t=>exact h t
 | const v=>exact c3h v
 | func f=>simp only [S.get,Act.eval];unfold LR;exact ⟨[],[],rfl,by simp [LRs],by simp [LRs]⟩
 | global g=>simp [S.get,LR]
theorem e4k {G:Gh} {lm:Nat->Option Nat} {nx:Nat} {a:Act} (h:∀ t,LR G nx lm (s.env t) (a.tmps.getD t undef)) (o:Operand):LR G nx lm (s.get o) (a.eval o):=by
 cases o with
 | tmp t=>exact h t
 | const v=>exact c3h v
 | func f=>simp only [S.get,Act.eval];unfold LR;exact ⟨[],[],rfl,by simp [LRs],by simp [LRs]⟩
 | global g=>simp [S.get,LR]
theorem AWp.cond {c:Operand} {x y:Code} {g:Bool} (hc:s.get c=bool g) (ht:g=true->AWp P rd x s Q) (hf:g=false->AWp P rd y s Q):AWp P rd (.cond c x y) s Q:=by
 intro E a w hs
 obtain ⟨h2,G,lm,h1,h3,h4,h5,h6⟩:=id hs
 have hv:=e4k h5 c
 rw [hc] at hv
 unfold bool LR DR at hv
 exact e7l hv.1 (fun e=>ht e E a w hs) (fun e=>hf e E a w hs)
theorem exists_least (p:Nat->Prop) (h:∃ n,p n):∃ n,p n/\∀ m,p m->n<=m:=by
 obtain ⟨n,hn⟩:=h
 induction n using Nat.strongRecOn with
 | _ n ih =>
  by_cases hm:∃ m,m < n/\p m
  ·obtain ⟨m,h1,h2⟩:=hm;exact ih m h1 h2
  ·exact ⟨n,hn,fun m hp=>by
    rcases Nat.lt_or_ge m n with q | q
    ·exact absurd ⟨m,q,hp⟩ hm
    ·exact q⟩
theorem AWp.loop {c:Code} (I:Nat->S->Prop) (h₀:∃ n,I n s) (round:∀ n s,I n s->AWp P rd c s (e1v (fun s'=>∃ m,m < n/\I m s') Q)):AWp P rd (.loop c) s Q:=by
 intro E a w hs
 have hex:∀ a w,(∃ n s,I n s/\Sim E s a w)->∃ n,(∃ s,I n s/\Sim E s a w)/\∀ m,(∃ s,I m s/\Sim E s a w)->n<=m:=fun a w ⟨n,h⟩=>exists_least _ ⟨n,h⟩
 classical
 let μ:Act->World->Nat:=fun a w=>if h:∃ n s,I n s/\Sim E s a w then Classical.choose (hex a w h) else 0
 have hμ:∀ a w (h:∃ n s,I n s/\Sim E s a w),(∃ s,I (μ a w) s/\Sim E s a w)/\∀ m,(∃ s,I m s/\Sim E s a w)->μ a w<=m:=fun a w h=>by
  have:=Classical.choose_spec (hex a w h)
  simp only [μ,dif_pos h];exact this
 obtain ⟨n₀,hn₀⟩:=h₀
 refine e7k (fun a w=>∃ n s,I n s/\Sim E s a w) μ ⟨n₀,s,hn₀,hs⟩ fun a w hI=>?_
 obtain ⟨⟨s1,h1,h2⟩,_⟩:=hμ a w hI
 refine a4a (round _ s1 h1 E a w h2) ?_
 rintro e a' w' ⟨ae,s',q,r⟩
 cases ae with
 | normal =>
  obtain ⟨rfl,r'⟩:=r.normal
  obtain ⟨m,hm,hI'⟩:=q
  have:=(hμ a' w' ⟨m,s',hI',r'⟩).2 m ⟨s',hI',r'⟩
  exact ⟨⟨m,s',hI',r'⟩,by omega⟩
 | exit i=>obtain ⟨_,G,lm,_,_,_,_,he⟩:=id r;cases he;exact ⟨.exit i,s',q,r⟩
 | goto l=>obtain ⟨_,G,lm,_,_,_,_,he⟩:=id r;cases he;exact ⟨.goto l,s',q,r⟩
 | ret=>obtain ⟨_,G,lm,_,_,_,_,he⟩:=id r;cases he;exact ⟨.ret,s',q,r⟩
 | pan x=>obtain ⟨_,G,lm,_,_,_,_,v,rfl,_⟩:=id r;exact ⟨.pan x,s',q,r⟩
end
def EndR (G:Gh) (nx:Nat):CE->Ending->Prop
 | .ret x,e=>∃ v,e=.returned v/\LR G nx noL x v
 | .pan x,e=>∃ v,e=.panicked [{ v:=v,recovered:=false }]/\LR G nx noL x v
def e1l (G:Gh) (H:GH) (w:World) (R:CE->GH->Prop):Ending->World->Prop:=fun e w' =>
 ∃ ce H' G',R ce H'/\EndR G' H'.next ce e/\MR G' noL noS H' w'/\b0o G'/\Ext ⟨G,H,w⟩ G' H' w'
def a7a (P:Program) (f:FuncId) (args:List LV) (H:GH) (R:CE->GH->Prop):Prop :=
 ∀ G w vs,MR G noL noS H w->b0o G->LRs G H.next noL args vs->Calls P f vs.toArray w (e1l G H w R)
theorem a7a.mono {P:Program} {f:FuncId} {args:List LV} {H:GH} {R R':CE->GH->Prop} (h:a7a P f args H R) (hr:∀ e H',R e H'->R' e H'):a7a P f args H R' :=
 fun G w vs h1 h2 h3=>Calls.mono (h G w vs h1 h2 h3) fun e w' ⟨ce,H',G',q,r⟩=>⟨ce,H',G',hr _ _ q,r⟩
def GO.nb (n:Nat):GO->Prop
 | .box cs=>nbs n cs
 | .arr ..=>True
 | .map es=>nbs n (es.map (·.2))
 | .vec _ _ _ cells _=>nbs n cells
 | .fz cs=>nbs n cs
 | .iter m _ _ _=>m < n
 | .loop _ _ _ env _ _ _ _ d=>d < n/\∀ t,(env t).nb n
 | .dfr=>True
structure Drop (H0 H H':GH):Prop where
 nx:H'.next<=H.next
 nx0:H0.next<=H'.next
 obj:∀ n,n < H'.next->H'.obj n=H.obj n
 none:∀ n,H'.next<=n->H'.obj n=none
 nb:∀ n o,H'.obj n=some o->H0.obj n=some o \/ o.nb H'.next
def a5g (N:Nat) (G:Gh):Gh:={ G with own:=fun b=>match G.own b with | .loc _=>.none | .nm n=>if n < N then .nm n else .none | o=>o }
theorem b1c (N nx:Nat) (G:Gh):G.le nx (a5g N G):=⟨Mem.le_refl _,fun _ _=>rfl,fun _ _=>⟨Nat.le_refl _,fun _=>rfl⟩⟩
theorem c6i {N nx:Nat} {G:Gh} {lm:Nat->Option Nat} {x:LV} {v:Value} (h:LR G nx lm x v):LR (a5g N G) nx lm x v :=
 a0v (Nat.le_refl _) (b1c N nx G) (fun _ _ e=>e) x v h
theorem d4o {G:Gh} {nx n:Nat} {w:World} {o:GO} (h:OR G nx w n o):o.nb nx:=by
 cases o with
 | box cs=>obtain ⟨_,vs,_,h3⟩:=h;exact b4a _ _ h3
 | arr e sz m=>trivial
 | map es=>obtain ⟨_,xs,c,_,h3⟩:=h;exact b4a _ _ h3.2.1
 | vec e g sz cells ex=>obtain ⟨_,_,b,C,vs,rest,_,_,_,_,_,h7,_⟩:=h;exact b4a _ _ h7
 | fz cs=>obtain ⟨vs,_,h2⟩:=h;exact b4a _ _ h2
 | iter m since seen last=>exact h.1
 | loop f st pend env nt ps asn body d=>obtain ⟨h1,_,tmps,_,_,h5⟩:=h;exact ⟨h1,fun t=>f0p _ _ (h5 t)⟩
 | dfr=>trivial
theorem a2w {n m:Nat} (h:n<=m):∀ cs:List LV,nbs n cs->nbs m cs:=by
 have key:∀ x:LV,x.nb n->x.nb m:=by
  intro x
  refine LV.rec (motive_1:=fun x=>x.nb n->x.nb m) (motive_2:=fun xs=>nbs n xs->nbs m xs) ?_ ?_ ?_ ?_ ?_ ?_ ?_ ?_ ?_ ?_ ?_ ?_ ?_ ?_ ?_ ?_ ?_ x
  ·intro x _;simp [LV.nb]
  ·intro k off h1;simp [LV.nb] at h1
  ·intro k off h1;simp [LV.nb] at h1 |-;omega
  ·intro xs es i off _;simp [LV.nb]
  ·intro k xs h1;simp [LV.nb] at h1 |-;omega
  ·intro k h1;simp [LV.nb] at h1 |-;omega
  ·intro k _ _ _ _ h1;simp [LV.nb] at h1 |-;omega
  ·intro k _ _ h1;simp [LV.nb] at h1 |-;omega
  ·intro k h1;simp [LV.nb] at h1 |-;omega
  ·intro cs off i1 h1;unfold LV.nb at h1 |-;exact i1 h1
  ·intro f first cap i1 i2 h1;unfold LV.nb at h1 |-;exact ⟨i1 h1.1,i2 h1.2⟩
  ·intro cs i1 h1;unfold LV.nb at h1 |-;exact i1 h1
  ·intro cs i1 h1;unfold LV.nb at h1 |-;exact i1 h1
  ·intro g raw i1 h1;unfold LV.nb at h1 |-;exact fun e=>i1 (h1 e)
  ·intro _;simp [LV.nb]
  ·intro _;simp [nbs]
  ·intro c cs i1 i2 h1;unfold nbs at h1 |-;exact ⟨i1 h1.1,i2 h1.2⟩
 intro cs
 induction cs with
 | nil=>intro _;simp [nbs]
 | cons c cs ih=>intro h1;unfold nbs at h1 |-;exact ⟨key c h1.1,ih h1.2⟩
theorem c0i {E:Ent} {G:Gh} {lm:Nat->Option Nat} {L:Nat->Option (List LV)} {H H':GH} {w:World} (h:MR G lm L H w) (hE:∀ n o,E.H.obj n=some o->OR E.G E.H.next E.w n o) (hNL:b0o E.G) (hx:Ext E G H w) (hd:Drop E.H H H') :
  MR (a5g H'.next G) noL noS H' w/\b0o (a5g H'.next G)/\Ext E (a5g H'.next G) H' w:=by
 have hobj:∀ n o,H'.obj n=some o->n < H'.next/\H.obj n=some o:=fun n o hn=>by
  rcases Nat.lt_or_ge n H'.next with q | q
  ·exact ⟨q,(hd.obj n q) ▸ hn⟩
  ·rw [hd.none n q] at hn;cases hn
 have hnb:∀ n o,H'.obj n=some o->o.nb H'.next:=fun n o hn=>by
  rcases hd.nb n o hn with q | q
  ·have:=d4o (hE n o q)
   cases o with
   | box cs=>exact a2w hd.nx0 _ this
   | arr=>trivial
   | map es=>exact a2w hd.nx0 _ this
   | vec e g sz cells ex=>exact a2w hd.nx0 _ this
   | fz cs=>exact a2w hd.nx0 _ this
   | iter m since seen last=>exact Nat.lt_of_lt_of_le this hd.nx0
   | loop f st pend env nt ps asn body d=>exact ⟨Nat.lt_of_lt_of_le this.1 hd.nx0,fun t=>(a2w hd.nx0 [env t] (by unfold nbs;exact ⟨this.2 t,by simp [nbs]⟩)).1⟩
   | dfr=>trivial
  ·exact q
 have hown:∀ n b,n < H'.next->G.own b=.nm n->(a5g H'.next G).own b=.nm n:=fun n b hn hb=>by simp [a5g,hb,hn]
 refine ⟨⟨h.imm,fun b o v hv=>?_,fun b hb=>?_,fun _ _=>rfl,fun k cs hk=>by simp [noS] at hk,fun n o hn=>?_⟩,fun b k=>?_,?_⟩
 ·rcases h.immOwn b o v hv with q | ⟨n,e,sz,m,q1,q2,q3⟩
  ·left;simp [a5g,q]
  ·by_cases hl:n < H'.next
   ·exact .inr (⟨n,e,sz,m,hown n b hl q1,(hd.obj n hl).trans q2,q3⟩)
   ·left;simp [a5g,q1,hl]
 ·exact ⟨by simp [a5g,(h.fresh b hb).1],(h.fresh b hb).2⟩
 ·obtain ⟨hl,ho⟩:=hobj n o hn
  refine ⟨hl,?_⟩
  have h2:=(h.nmd n o ho).2
  have hb:=hnb n o hn
  cases o with
  | box cs =>
   obtain ⟨g1,vs,g2,g3⟩:=h2
   exact ⟨hown n _ hl g1,vs,g2,a1d (Nat.le_refl _) (b1c _ _ G) (fun _ _ e=>e) _ _ (a2a _ _ g3 hb)⟩
  | arr e sz m =>
   obtain ⟨g1,g0,cells,g2,g3,g4⟩:=h2
   exact ⟨g1,g0,cells,g2,g3,fun b hb=>⟨hown n b hl (g4 b hb).1,(g4 b hb).2⟩⟩
  | map es =>
   obtain ⟨g1,xs,c,g2,g3⟩:=h2
   exact ⟨hown n _ hl g1,xs,c,g2,g3.1,a1d (Nat.le_refl _) (b1c _ _ G) (fun _ _ e=>e) _ _ (a2a _ _ g3.2.1 hb),g3.2.2⟩
  | vec e g sz cells ex =>
   obtain ⟨h1,h0,b,C,vs,rest,q2,q3,q4,q5,q6,q7,q8⟩:=h2
   exact ⟨h1,h0,b,C,vs,rest,q2,q3,hown n _ hl q4,q5,q6,a1d (Nat.le_refl _) (b1c _ _ G) (fun _ _ e=>e) _ _ (a2a _ _ q7 hb),q8⟩
  | fz cs =>
   obtain ⟨vs,q1,q2⟩:=h2
   exact ⟨vs,q1,a1d (Nat.le_refl _) (b1c _ _ G) (fun _ _ e=>e) _ _ (a2a _ _ q2 hb)⟩
  | iter m since seen last=>exact ⟨hb,hown n _ hl h2.2.1,h2.2.2⟩
  | loop f st pend env nt ps asn body d =>
   obtain ⟨q1,q2,tmps,q3,q4,q5⟩:=h2
   exact ⟨hb.1,hown n _ hl q2,tmps,q3,q4,fun t=>a0v (Nat.le_refl _) (b1c _ _ G) (fun _ _ e=>e) _ _ (a6d _ _ (q5 t) (hb.2 t))⟩
  | dfr=>exact ⟨hown n _ hl h2.1,h2.2⟩
 ·simp only [a5g]
  cases h:G.own b <;> simp
  split <;> simp
 ·refine ⟨⟨⟨hx.le.M,hx.le.nm,hx.le.tip⟩,hd.nx0,hx.os,hx.tape,hx.output,hx.drawn,hx.size,hx.frame,fun b hb=>?_⟩,hNL⟩
  have:=hx.own b hb
  rcases this with q | ⟨⟨n,q1⟩,q2⟩
  ·cases ho:E.G.own b with
   | none=>left;simp [a5g,q,ho]
   | foreign=>left;simp [a5g,q,ho]
   | nm n =>
    by_cases hl:n < H'.next
    ·left;simp [a5g,q,ho,hl]
    ·right;exact ⟨⟨n,rfl⟩,by simp [a5g,q,ho,hl]⟩
   | loc k=>exact absurd ho (hNL b k)
  ·right;exact ⟨⟨n,q1⟩,by simp [a5g,q2]⟩
inductive TK where
 | agg (fs:List (Nat × TypeId)) | arr (n:Nat) (e:TypeId) | sl (e:TypeId) | map (k e:TypeId) | str | int (k:IntKind) | bool | ptr (e:TypeId) | iface (plain:Bool) | func | tup
structure TyD where
 k:TK
 sz:Nat
 zero:List Value
 bt:Nat
def TK.ok:TK->TypeDesc->Prop
 | .agg fs,.struct f=>f.toList.map (fun f=>(f.offset,f.type))=fs
 | .arr n e,.array m e'=>m=n/\e'=e
 | .sl e,.slice e'=>e'=e
 | .map k e,.map k' e'=>k'=k/\e'=e
 | .str,.string=>True
 | .int k,.int k'=>k'=k
 | .bool,.bool=>True
 | .ptr e,.pointer e'=>e'=e
 | .iface p,.interface ms=>p=ms.isEmpty
 | .func,.func ..=>True
 | .tup,.tuple _=>True
 | _,_=>False
def TK.isAgg:TK->Bool
 | .agg _ | .arr ..=>true
 | _=>false
structure TyD.ok (P:Program) (t:TypeId) (d:TyD):Prop where
 u:∃ desc,P.underlying t=some desc/\d.k.ok desc
 i:∃ i z,P.info? t=some i/\i.size=d.sz/\i.zero=some z/\z.cells.toList=d.zero/\i.bytes<=4096/\i.bytes=d.bt
 one:∀ v ∈ d.zero,v.oneCell'=true
 len:d.zero.length=d.sz
 ag:∀ z,(P.info? t).map (·.zero)=some (some z)->if d.k.isAgg then ∃ cs,z=.agg cs else z.oneCell'=true
def TyOk (P:Program) (ty:TypeId->Option TyD):Prop:=∀ t d,ty t=some d->d.ok P t
theorem b3h {P:Program} {t:TypeId} {d:TyD} (h:d.ok P t) (w:World):(isAgg t).run P w=.ok d.k.isAgg w:=by
 obtain ⟨desc,h1,h2⟩:=h.u
 cases hk:d.k <;> rw [hk] at h2 <;> cases desc <;> simp only [TK.ok] at h2 <;> simp [isAgg,run_underlying h1,TK.isAgg]
end Go.Aft
end
section
namespace Go.Aft
inductive Eff where
 | no
 | newLoc (cs:List LV)
 | c1r (k:Nat) (cs:List LV)
 | newNm (o:GO)
 | a3b (n:Nat) (o:GO)
structure Res where
 pre:Prop
 v:LV
 eff:Eff
def LV.un:LV->LV
 | .gd _ raw=>raw
 | x=>x
def LV.unP:LV->Prop
 | .gd g _=>g=true
 | _=>True
def S.arg (s:S) (o:Operand):LV:=(s.get o).un
def S.argP (s:S) (o:Operand):Prop:=(s.get o).unP
def LV.one:LV->Bool
 | .agg _ | .tup _ | .gd .. | .any=>false
 | _=>true
def LV.cells:LV->List LV
 | .agg cs=>cs
 | x=>[x]
def kz (v:Value):LV:=.d (.k v)
def a2d (d:TyD) (cs:List LV):Option LV :=
 if d.k.isAgg then (if d.sz<=cs.length then some (.agg (cs.take d.sz)) else none) else cs.head?
def putAt (cs:List LV) (off:Nat) (c:List LV):List LV:=cs.take off ++ c ++ cs.drop (off+c.length)
def LV.shift (x:LV) (o:Nat):Option LV :=
 match x with
 | .lp k off=>some (.lp k (off+o))
 | .gp n off=>some (.gp n (off+o))
 | .ep xs es i off=>some (.ep xs es i (off+o))
 | .ip cs off=>some (.ip cs (off+o))
 | .vp n g off=>some (.vp n g (off+o))
 | _=>none
def e3e:LV->Bool
 | .lp .. | .gp .. | .ep .. | .ip .. | .vp .. | .fn (.func _) ..=>true
 | _=>false
def places (ty:TypeId->Option TyD) (d:TyD) (i:Nat):Option (Nat × Nat) :=
 match d.k with
 | .agg fs=>(fs[i]?).bind fun (o,t)=>(ty t).map fun fd=>(o,fd.sz)
 | .arr n e=>(ty e).map fun ed=>(i * ed.sz,ed.sz)
 | _=>none
def d3l (place:Nat->Option (Nat × Nat)) (cells:List LV):List (Nat × LV)->Option (List LV)
 | []=>some cells
 | (i,v) :: rest =>
  match place i with
  | none=>none
  | some (off,size)=>if v.cells.length ≠ size \/ cells.length < off+v.cells.length \/ v.cells.all LV.one=false then none else d3l place (putAt cells off v.cells) rest
def intV (k:IntKind) (n:Int):LV:=.d (.k (.int k n))
def shrI (k:IntKind) (x y:Int):Int:=x.fdiv (2 ^ (min y.toNat k.bits))
@[simp] theorem shrI_one (x:Int):shrI .u64 x 1=x / 2:=by simp [shrI,IntKind.bits,Int.fdiv_eq_ediv_of_nonneg]
def d7p (op:BinOp) (k:IntKind) (x y:Int):Option (Prop × Value) :=
 match op with
 | .add=>some (True,.int k (k.wrap (x+y)))
 | .sub=>some (True,.int k (k.wrap (x - y)))
 | .mul=>some (True,.int k (k.wrap (x * y)))
 | .quo=>some (y ≠ 0,.int k (k.wrap (x.tdiv y)))
 | .rem=>some (y ≠ 0,.int k (x.tmod y))
 | .eql=>some (True,.bool (x == y))
 | .neq=>some (True,.bool (x != y))
 | .lss=>some (True,.bool (decide (x < y)))
 | .leq=>some (True,.bool (decide (x<=y)))
 | .gtr=>some (True,.bool (decide (x > y)))
 | .geq=>some (True,.bool (decide (x ≥ y)))
 | .shr=>some (0<=y,.int k (shrI k x y))
 | _=>none
def d7o (op:BinOp) (x y:ByteArray):Option (Prop × Value) :=
 match op with
 | .eql=>some (True,.bool (decide (x=y)))
 | .neq=>some (True,.bool (!decide (x=y)))
 | .add=>some (x.size+y.size<=9223372036854775807,.string (x ++ y))
 | _=>none
def TK.isBool:TK->Bool
 | .bool=>true
 | _=>false
def scEq:Value->Value->Bool
 | .int _ a,.int _ b=>a == b
 | .string a,.string b=>decide (a=b)
 | .bool a,.bool b=>a == b
 | _,_=>false
inductive Sc where
 | int (k:IntKind) | str | bool
 deriving DecidableEq
def Sc.has:Sc->Value->Bool
 | .int k,.int j _=>j=k
 | .str,.string _=>true
 | .bool,.bool _=>true
 | _,_=>false
def hasAll:List Sc->List Value->Bool
 | [],[]=>true
 | k :: ks,v :: vs=>k.has v && hasAll ks vs
 | _,_=>false
def allEq:List Value->List Value->Bool
 | v :: vs,u :: us=>scEq v u && allEq vs us
 | _,_=>true
def a4g:List LV->Option (List Value)
 | []=>some []
 | .d (.k v) :: cs=>(a4g cs).map fun vs=>v :: vs
 | _=>none
def e5j (ks:List Sc) (cs ds:List LV):Option Bool :=
 match a4g cs,a4g ds with
 | some vs,some us=>if hasAll ks vs && hasAll ks us then some (allEq vs us) else none
 | _,_=>none
def binV (tb:Bool) (ks:Option (List Sc)) (op:BinOp) (a b:LV):Option (Prop × Value) :=
 match a,b with
 | .agg cs,.agg ds =>
  match op with
  | .eql=>ks.bind fun ks=>(e5j ks cs ds).map fun r=>(True,.bool r)
  | .neq=>ks.bind fun ks=>(e5j ks cs ds).map fun r=>(True,.bool (!r))
  | _=>none
 | .d (.k (.int j x)),.d (.k (.int k y))=>if j=k then d7p op j x y else none
 | .d (.k (.string x)),.d (.k (.string y))=>d7o op x y
 | .d (.k (.bool x)),.d (.k (.bool y))=>if tb then (match op with | .eql=>some (True,.bool (x == y)) | .neq=>some (True,.bool (!(x == y))) | _=>none) else none
 | _,_=>none
def unV (op:UnOp) (a:LV):Option Value :=
 match op,a with
 | .not,.d (.k (.bool x))=>some (.bool (!x))
 | .neg,.d (.k (.int k x))=>some (.int k (k.wrap (0 - x)))
 | _,_=>none
def rowsOf:LV->Option (List (List DV))
 | .d (.sl xs)=>some xs
 | .osl _ xs=>some xs
 | .d (.k (.slice none 0 0))=>some []
 | _=>none
def toD:LV->Option DV
 | .d x=>some x
 | .osl _ xs=>some (.sl xs)
 | _=>none
def toDs:List LV->Option (List DV)
 | []=>some []
 | x :: xs=>(toD x).bind fun y=>(toDs xs).map fun ys=>y :: ys
def c0r:List (Nat × LV)->Option (List (List DV))
 | []=>some []
 | p :: ps=>(toDs p.2.cells).bind fun r=>(c0r ps).map fun rs=>r :: rs
def b3n (ty:TypeId->Option TyD):TK->Bool
 | .agg fs=>fs.all fun p=>(ty p.2).isSome
 | .arr _ e=>(ty e).isSome
 | _=>false
def a9d (s:S):List (Nat × Operand)->Prop
 | []=>True
 | p :: ps=>s.argP p.2/\a9d s ps
mutual
def LV.noLp:LV->Bool
 | .lp _ _=>false
 | .fn _ first cap=>a5u first && a5u cap
 | .agg xs=>a5u xs
 | .tup xs=>a5u xs
 | .gd _ raw=>LV.noLp raw
 | .ip xs _=>a5u xs
 | _=>true
def a5u:List LV->Bool
 | []=>true
 | x :: xs=>LV.noLp x && a5u xs
end
inductive Kd where
 | loc | pub | imm | vec
 deriving DecidableEq
def a1x (ty:TypeId->Option TyD) (eqt:TypeId->Option (List Sc)) (pub:Nat->Kd) (s:S) (dst:Option Nat) (op:Op):Option Res :=
 match op with
 | .move x | .assign x=>some ⟨s.argP x,s.arg x,.no⟩
 | .alloc T =>
  match ty T,dst with
  | some d,some t=>match pub t with
   | .pub=>some ⟨True,.gp s.H.next 0,.newNm (.box (d.zero.map kz))⟩
   | _=>some ⟨s.L t=none,.lp t 0,.newLoc (d.zero.map kz)⟩
  | _,_=>none
 | .box T x =>
  match ty T,dst with
  | some d,some t =>
   if (s.arg x).cells.all LV.one && (s.arg x).cells.length=d.sz then (match pub t with
    | .pub=>some ⟨s.argP x/\nbs s.H.next (s.arg x).cells,.gp s.H.next 0,.newNm (.box (s.arg x).cells)⟩
    | .imm=>some ⟨s.argP x,.ip (s.arg x).cells 0,.no⟩
    | _=>some ⟨s.argP x/\s.L t=none,.lp t 0,.newLoc (s.arg x).cells⟩) else none
  | _,_=>none
 | .build T parts =>
  match ty T with
  | some d=>if b3n ty d.k then (d3l (places ty d) (d.zero.map kz) (parts.toList.map fun p=>(p.1,s.arg p.2))).map fun cs=>⟨a9d s parts.toList,.agg cs,.no⟩ else none
  | none=>none
 | .buildSlice T len parts =>
  match ty T with
  | some ⟨.sl e,_,_,_⟩=>(ty e).bind fun ed =>
   if parts.toList.map (·.1)=List.range' 0 len/\parts.toList.length=len/\len * ed.sz<=16777216/\len<=16777216 then
    (c0r (parts.toList.map fun p=>(p.1,s.arg p.2))).map fun rows=>⟨a9d s parts.toList/\(∀ r ∈ rows,r.length=ed.sz),.d (.sl rows),.no⟩
   else none
  | _=>none
 | .load T p =>
  match ty T with
  | none=>none
  | some d =>
   match s.arg p with
   | .lp k off=>(s.L k).bind fun cs=>(a2d d (cs.drop off)).map fun v=>⟨s.argP p,v,.no⟩
   | .gp n off=>match s.H.obj n with
    | some (.box cs)=>(a2d d (cs.drop off)).map fun v=>⟨s.argP p,v,.no⟩
    | some (.fz cs)=>(a2d d (cs.drop off)).map fun v=>⟨s.argP p,v,.no⟩
    | _=>none
   | .ip cs off=>(a2d d (cs.drop off)).map fun v=>⟨s.argP p,v,.no⟩
   | .vp n g off=>match s.H.obj n with
    | some (.vec _ g' _ cs _)=>if g'=g then (a2d d (cs.drop off)).map fun v=>⟨s.argP p,v,.no⟩ else none
    | _=>none
   | .ep xs es i off =>
    if d.k.isAgg then some ⟨s.argP p/\off+d.sz<=es,.agg ((((xs.getD i []).drop off).take d.sz).map .d),.no⟩
    else some ⟨s.argP p/\off < es,.d ((xs.getD i []).getD off default),.no⟩
   | _=>none
 | .store T p x =>
  match ty T with
  | none=>none
  | some d =>
   if (s.arg x).cells.length=d.sz/\(s.arg x).cells.all LV.one=true then
    match s.arg p with
    | .lp k off=>(s.L k).bind fun cs=>if off+d.sz<=cs.length then some ⟨s.argP p/\s.argP x,.any,.c1r k (putAt cs off (s.arg x).cells)⟩ else none
    | .vp n g off=>match s.H.obj n with
     | some (.vec e g' sz cs ex)=>if g'=g/\off+d.sz<=cs.length then some ⟨s.argP p/\s.argP x/\nbs s.H.next (s.arg x).cells,.any,.a3b n (.vec e g sz (putAt cs off (s.arg x).cells) ex)⟩ else none
     | _=>none
    | .gp n off=>match s.H.obj n with
     | some (.box cs)=>if off+d.sz<=cs.length then some ⟨s.argP p/\s.argP x/\nbs s.H.next (s.arg x).cells,.any,.a3b n (.box (putAt cs off (s.arg x).cells))⟩ else none
     | _=>none
    | _=>none
   else none
 | .nilCheck x=>if e3e (s.arg x) then some ⟨s.argP x,s.arg x,.no⟩ else none
 | .binOp op T x y _=>(binV (((ty T).map (·.k.isBool)).getD false) (eqt T) op (s.arg x) (s.arg y)).map fun r=>⟨s.argP x/\s.argP y/\r.1,kz r.2,.no⟩
 | .unOp op _ x=>(unV op (s.arg x)).map fun r=>⟨s.argP x,kz r,.no⟩
 | .fieldAddr T x f =>
  match ty T with
  | some ⟨.agg fs,_,_,_⟩=>(fs[f]?).bind fun (o,t)=>(ty t).bind fun fd=>if fd.sz=0 then none else ((s.arg x).shift o).map fun v=>⟨s.argP x,v,.no⟩
  | _=>none
 | .field T x f =>
  match ty T,s.arg x with
  | some ⟨.agg fs,_,_,_⟩,.agg cs=>(fs[f]?).bind fun (o,t)=>(ty t).bind fun fd=>(a2d fd (cs.drop o)).map fun v=>⟨s.argP x,v,.no⟩
  | _,_=>none
 | .indexAddr T x i =>
  match ty T,s.arg i with
  | some ⟨.sl e,_,_,_⟩,.d (.k (.int _ n))=>match s.arg x with
   | .vs m g sz j len=>(ty e).bind fun ed=>if ed.sz=sz then some ⟨s.argP x/\s.argP i/\0<=n/\n < len,.vp m g ((j+n.toNat) * sz),.no⟩ else none
   | x'=>(rowsOf x').bind fun xs=>(ty e).map fun ed=>⟨s.argP x/\s.argP i/\0<=n/\n < xs.length/\(xs.getD n.toNat []).length=ed.sz,.ep xs ed.sz n.toNat 0,.no⟩
  | some ⟨.arr len e,_,_,_⟩,.d (.k (.int _ n))=>(ty e).bind fun ed=>((s.arg x).shift (n.toNat * ed.sz)).map fun v=>⟨s.argP x/\s.argP i/\0<=n/\n < len,v,.no⟩
  | _,_=>none
 | .extract x i =>
  match s.arg x with
  | .tup vs=>(vs[i]?).map fun v=>⟨s.argP x,v,.no⟩
  | _=>none
 | .makeFunc fn first cap=>some ⟨True,.fn fn (first.toList.map s.get) (cap.toList.map s.get),.no⟩
 | .makeMap T none=>some ⟨True,.gm s.H.next,.newNm (.map [])⟩
 | _=>none
mutual
def LV.sub (k:Nat) (cs:List LV):LV->LV
 | .lp j off=>if j=k then .ip cs off else .lp j off
 | .fn f first cap=>.fn f (subs k cs first) (subs k cs cap)
 | .agg xs=>.agg (subs k cs xs)
 | .tup xs=>.tup (subs k cs xs)
 | .gd g raw=>.gd g (LV.sub k cs raw)
 | .ip xs off=>.ip (subs k cs xs) off
 | x=>x
def subs (k:Nat) (cs:List LV):List LV->List LV
 | []=>[]
 | x :: xs=>LV.sub k cs x :: subs k cs xs
end
def S.eff (s:S) (dst:Option Nat):Eff->S
 | .no=>s
 | .newLoc cs=>match dst with | some t=>{ s with L:=upd s.L t (some cs) } | none=>s
 | .c1r k cs=>{ s with L:=upd s.L k (some cs) }
 | .newNm o=>{ s with H:=s.H.add o }
 | .a3b n o=>{ s with H:=s.H.set n o }
def S.put (s:S) (dst:Option Nat) (v:LV):S :=
 match dst with
 | some t=>{ s with env:=upd s.env t v }
 | none=>s
end Go.Aft
end
section
namespace Go.Aft
section
variable {P:Program} {ty:TypeId->Option TyD} {pub:Nat->Kd} {E:Ent} {s:S} {a:Act} {w:World} {G:Gh} {lm:Nat->Option Nat} {nx:Nat}
theorem f5z {x:LV} {v:Value} (h:LR G nx lm x v) (hp:x.unP):LR G nx lm x.un v:=by
 cases x <;> first | exact h | (unfold LR at h;exact h.1 hp)
theorem a0q (h:∀ t,LR G nx lm (s.env t) (a.tmps.getD t undef)) (o:Operand) (hp:s.argP o):LR G nx lm (s.arg o) (a.eval o) :=
 f5z (e4k h o) hp
theorem Sim.mk' (hz:a.tmps.size=s.nt) {G':Gh} {lm':Nat->Option Nat} {L':Nat->Option (List LV)} {H':GH} {w':World} (hd:DFRs G' H'.next s.df a.defers) (hM:MR G' lm' L' H' w') (hx:Ext E G' H' w')
  (henv:∀ t,LR G' H'.next lm' (s.env t) (a.tmps.getD t undef)) {dst:Option Nat} {v:LV} {v':Value} (hv:LR G' H'.next lm' v v') (hdst:∀ t,dst=some t->t < s.nt) :
  Sim E (({ s with L:=L',H:=H' }:S).put dst v) (a.put dst v') w':=by
 cases dst with
 | none=>exact ⟨hz,G',lm',hd,hM,hx,henv,rfl⟩
 | some t =>
  have ht:=hdst t rfl
  refine ⟨by simp [Act.put,S.put,hz],G',lm',hd,hM,hx,fun u=>?_,rfl⟩
  simp only [S.put,Act.put]
  by_cases e:u=t
  ·subst e
   rw [upd_same]
   have:(a.tmps.setIfInBounds u v').getD u undef=v':=by
    simp [Array.getD_eq_getD_getElem?,Array.getElem?_setIfInBounds,hz,ht]
   rw [this];exact hv
  ·rw [upd_ne _ _ e]
   have:(a.tmps.setIfInBounds t v').getD u undef=a.tmps.getD u undef:=by
    have ht':¬ t=u:=fun h=>e h.symm
    simp [Array.getD_eq_getD_getElem?,Array.getElem?_setIfInBounds,ht']
   rw [this];exact henv u
def OpOk (P:Program) (E:Ent) (s:S) (o:Oper) (a:Act) (w:World) (r:Res):Prop :=
 ∃ n v' w',(execOp a.eval o).run P w=.ok n w'/\(n=.value v' \/ (n=.skip/\v'=undef))/\Sim E ((s.eff o.dst r.eff).put o.dst r.v) (a.put o.dst v') w'
theorem OpOk.pure {o:Oper} {pre:Prop} {v:LV} (hs:Sim E s a w) (hdst:∀ t,o.dst=some t->t < s.nt)
  (h:∀ G lm,MR G lm s.L s.H w->(∀ t,LR G s.H.next lm (s.env t) (a.tmps.getD t undef))->∃ v',(execOp a.eval o).run P w=.ok (.value v') w/\LR G s.H.next lm v v'):OpOk P E s o a w ⟨pre,v,.no⟩:=by
 obtain ⟨h2,G,lm,h1,h3,h4,h5,_⟩:=hs
 obtain ⟨v',hr,hv⟩:=h G lm h3 h5
 exact ⟨_,v',w,hr,.inl rfl,Sim.mk' h2 h1 h3 h4 h5 hv hdst⟩
theorem addr_add (b o n:Nat):(⟨b,o,none⟩:Addr).add n = ⟨b,o+n,none⟩:=by
 unfold Addr.add
 split
 ·rename_i h;subst h;rfl
 ·rfl
theorem a1n {t:TypeId} {d:TyD} (h:d.ok P t) (w:World):(Go.sizeOf t).run P w=.ok d.sz w:=by
 obtain ⟨i,z,h1,h2,_⟩:=h.i
 simp [Go.sizeOf,typeInfo,h1,h2]
theorem b6o {t:TypeId} {d:TyD} (h:d.ok P t) (w:World):∃ z,(zeroValue t).run P w=.ok z w/\z.cells.toList=d.zero:=by
 obtain ⟨i,z,h1,h2,h3,h4,_⟩:=h.i
 exact ⟨z,by simp [zeroValue,typeInfo,h1,h3],h4⟩
theorem c8p {v:Value} (h:v.oneCell'=true):LR G nx lm (kz v) v:=by unfold kz LR DR;exact ⟨rfl,h⟩
theorem c2y {vs:List Value} (h:∀ v ∈ vs,v.oneCell'=true):LRs G nx lm (vs.map kz) vs:=by
 induction vs with
 | nil=>simp [LRs]
 | cons v vs ih=>simp only [List.map_cons];unfold LRs;exact ⟨v,vs,rfl,c8p (h v (List.mem_cons_self ..)),ih fun v hv=>h v (List.mem_cons_of_mem _ hv)⟩
theorem c7q {v:Value} (h:v.oneCell'=true):v.cells.toList=[v]:=by
 cases v <;> simp_all [Value.oneCell',Value.cells]
theorem f1e {x:LV} {v:Value} (h:LR G nx lm x v) (h1:x.one=true):v.oneCell'=true:=by
 cases x with
 | d x =>
  cases x with
  | k u=>unfold LR DR at h;rw [h.1];exact h.2
  | sl xs=>unfold LR DR at h;obtain ⟨a,cap,sz,rfl,_⟩:=h;rfl
 | lp k off=>unfold LR at h;obtain ⟨b,_,rfl⟩:=h;rfl
 | gp k off=>unfold LR at h;obtain ⟨_,rfl⟩:=h;rfl
 | ep xs es i off=>unfold LR at h;obtain ⟨b,o,rfl,_⟩:=h;rfl
 | osl n xs=>unfold LR at h;have h':=h.2.1;unfold DR at h';obtain ⟨a,cap,sz,rfl,_⟩:=h';rfl
 | gm n=>unfold LR at h;obtain ⟨_,rfl⟩:=h;rfl
 | vs n g sz i len=>unfold LR at h;obtain ⟨_,_,b,o,cap,rfl,_⟩:=h;rfl
 | vp n g o=>unfold LR at h;obtain ⟨_,_,b,o',rfl,_⟩:=h;rfl
 | yl n=>unfold LR at h;obtain ⟨_,rfl⟩:=h;rfl
 | ip cs off=>unfold LR at h;obtain ⟨b,rfl,_⟩:=h;rfl
 | fn f fs cs=>unfold LR at h;obtain ⟨_,_,rfl,_⟩:=h;rfl
 | agg cs=>simp [LV.one] at h1
 | tup cs=>simp [LV.one] at h1
 | gd g r=>simp [LV.one] at h1
 | any=>simp [LV.one] at h1
theorem a5c:∀ {cs:List LV} {vs:List Value},LRs G nx lm cs vs->cs.all LV.one=true->∀ v ∈ vs,v.oneCell'=true
 | [],vs,h,_=>by unfold LRs at h;subst h;simp
 | c :: cs,vs,h,h1=>by
  unfold LRs at h
  obtain ⟨v,r,rfl,h2,h3⟩:=h
  simp at h1
  intro u hu
  rcases List.mem_cons.1 hu with rfl | hu
  ·exact f1e h2 h1.1
  ·exact a5c h3 (by simpa using h1.2) u hu
theorem a6l {x:LV} {v:Value} (h:LR G nx lm x v) (h1:x.cells.all LV.one=true):LRs G nx lm x.cells v.cells.toList:=by
 by_cases hx:∃ cs,x=.agg cs
 ·obtain ⟨cs,rfl⟩:=hx
  unfold LR at h;obtain ⟨vs,rfl,h2⟩:=h;simpa [LV.cells,Value.cells] using h2
 ·have hc:x.cells=[x]:=by cases x <;> first | rfl | exact absurd ⟨_,rfl⟩ hx
  rw [hc] at h1 |-
  have:=f1e h (by simpa using h1)
  rw [c7q this];unfold LRs;exact ⟨v,[],rfl,h,by simp [LRs]⟩
end
end Go.Aft
end
