import Derived.Test.YthinedikejlgmaaGreatA01
import Derived.RangeFuncIn
import Derived.OrdersIn
import Derived.TacticsIn
set_option linter.all false
section
namespace Go.Aft
inductive AE where
 |normal|exit (id:Nat)|goto (l:Nat)|ret|ej (v:LV)
inductive CE where
 |ret (v:LV)|ej (v:LV)
def vi:Nat->Option (List LV):=λ_=>none
def ExR(G:Gh)(nx:Nat):AE->Exit->Prop
 |.normal,e=>e=.normal
 |.exit i,e=>e=.exit i
 |.goto l,e=>e=.goto l
 |.ret,e=>e=.ret
 |.ej x,e=>∃v,e=.panic [{v:=v,recovered:=false}]/\LR G nx ix x v
def KD(E:tL)(ae:AE)(s:S)(e:Exit)(a:Act)(w:World):Prop:=
 a.tmps.size=s.nt/\∃G lm,GP G s.H.next s.df a.defers/\MR G lm s.L s.H w/\Ext E G s.H w/\(∀t,LR G s.H.next lm (s.env t) (a.tmps.getD t undef))/\ExR G s.H.next ae e
def cF(E:tL)(s:S)(a:Act)(w:World):Prop:=KD E .normal s .normal a w
def AQ(E:tL)(Q:AE->S->Prop):Exit->Act->World->Prop:=λe a w=>∃ae s,Q ae s/\KD E ae s e a w
structure RD where
 r:Option Nat
 f:Option FuncId
def RD.any:RD:=⟨none,none⟩
def RD.uc(rd:RD)(f:FuncId):Bool:=rd.r.isNone&&rd.f.all (·==f)
def tI(rd:RD):Fence:={Fence.wide with round:=rd.r}
def zP(P:Program)(rd:RD)(c:Code)(Q:Exit->Act->World->Prop)(a:Act)(w:World):Prop:=
 ∀(b:Frame) (k:List Item) (cs:List Frame),b.roundOf=rd.r->(∀f,rd.f=some f->b.fn=f)->
  ∃e a' w',Q e a' w'/\ArrivesIn (Machine.fenced P Fence.wide) P (lone (b.atR a (.code c::k)) cs w) b k cs e a' w'
section
variable {P:Program} {rd:RD} {Q:Exit->Act->World->Prop} {a:Act} {w:World}
theorem eP{c:Code}(h:c.wpIn (tI rd) 0 P Q a w):zP P rd c Q a w:=λb k cs hro _=>h b k cs hro trivial (room_wide _)
theorem gO{c:Code}{Q':Exit->Act->World->Prop}(h:zP P rd c Q a w)(hq:∀e a w,Q e a w->Q' e a w):zP P rd c Q' a w:=
 λb k cs hro hb=>let⟨e,a',w',q,r⟩:=h b k cs hro hb;⟨e,a',w',hq _ _ _ q,r⟩
theorem Uy{x y:Code}(h:zP P rd x (Exit.then (zP P rd y Q) Q) a w):zP P rd (.seq x y) Q a w:=by
 intro b k cs hro hb;have one:=StepsIn.one (P:=P) (fenced_wide P (lone (b.atR a (.code (.seq x y)::k)) cs w)) stepR_seq;obtain⟨e,a₁,w₁,hq,gE⟩:=h b (.code y::k) cs hro hb;cases e with
 |normal=>
  obtain⟨e₂,a₂,w₂,Sq,Gc⟩:=hq b k cs hro hb;exact⟨e₂,a₂,w₂,Sq,.of_steps (one.trans gE) Gc⟩
 |_=>exact⟨_,a₁,w₁,hq,.of_steps one (.pass (x:=.code y) rfl (λ_ _=>.inl (by simp)) gE)⟩
theorem QY{c:Operand}{x y:Code}{t:Bool}(hc:a.eval c=.bool t)(ht:t=true->zP P rd x Q a w)(hf:t=false->zP P rd y Q a w):zP P rd (.cond c x y) Q a w:=by
 intro b k cs hro hb;have h:zP P rd (if t then x else y) Q a w:=by cases t<;>simp_all
 obtain⟨e,a',w',q,r⟩:=h b k cs hro hb;exact⟨e,a',w',q,.of_steps (.one (fenced_wide P _) (stepR_cond hc)) r⟩
theorem OH{id:Nat}{c:Code}(h:zP P rd c (Exit.inBlock id Q) a w):zP P rd (.block id c) Q a w:=by
 intro b k cs hro hb;have one:=StepsIn.one (P:=P) (fenced_wide P (lone (b.atR a (.code (.block id c)::k)) cs w)) stepR_block;obtain⟨e,a₁,w₁,hq,gE⟩:=h b (.inBlock id::k) cs hro hb;cases e with
 |normal=>exact⟨.normal,a₁,w₁,hq,one.trans (StepsIn.trans gE (.one (fenced_wide P _) stepR_inBlock))⟩
 |exit j=>
  by_cases hj:j=id
  ·simp only[Exit.inBlock,hj,if_true]at hq;exact⟨.normal,a₁,w₁,hq,one.trans (gE.1 k (by simp[exitTo,hj]))⟩
  ·simp only[Exit.inBlock,hj,if_false]at hq;have hx:exitTo j (.inBlock id::k)=exitTo j k:=by simp[exitTo,beq_false_of_ne (Ne.symm hj)]
   refine⟨.exit j,a₁,w₁,hq,.of_steps one ⟨λk' hk=>gE.1 k' (hx.trans hk),λhr' hk=>gE.2 hr' (hx.trans hk)⟩⟩
 |goto l=>
  have hx:gotoIn l (.inBlock id::k)=gotoIn l k:=by simp[gotoIn]
  exact⟨_,a₁,w₁,hq,.of_steps one ⟨λk' hk=>gE.1 k' (hx.trans hk),λhr' hk=>gE.2 hr' (hx.trans hk)⟩⟩
 |ret=>exact⟨_,a₁,w₁,hq,.of_steps one gE⟩
 |panic ch=>exact⟨_,a₁,w₁,hq,.of_steps one gE⟩
 |outgrown=>exact⟨_,a₁,w₁,hq,.of_steps one gE⟩
theorem QX{c:Code}(I:Act->World->Prop)(μ:Act->World->Nat)(h₀:I a w)(round:∀a w,I a w->zP P rd c (Exit.then (λa' w'=>I a' w'/\μ a' w'<μ a w) Q) a w):zP P rd (.loop c) Q a w:=by
 intro b k cs hro hb;have key:∀j a w,μ a w=j->I a w->∃e a' w',Q e a' w'/\ArrivesIn (Machine.fenced P Fence.wide) P (lone (b.atR a (.code c:: .inLoop c::k)) cs w) b k cs e a' w':=by
  intro j
  induction j using Nat.strongRecOn with
  |_ j ih=>
   intro a w hn hI;obtain⟨e,a₁,w₁,hq,gE⟩:=round a w hI b (.inLoop c::k) cs hro hb;cases e with
   |normal=>
    obtain⟨e₂,a₂,w₂,Sq,Gc⟩:=ih _ (hn▸hq.2) a₁ w₁ rfl hq.1;exact⟨e₂,a₂,w₂,Sq,.of_steps (StepsIn.trans gE (.one (fenced_wide P _) stepR_inLoop)) Gc⟩
   |_=>exact⟨_,a₁,w₁,hq,.pass (x:=.inLoop c) rfl (λ_ _=>.inl (by simp)) gE⟩
 obtain⟨e,a',w',hq,gE⟩:=key _ a w rfl h₀;exact⟨e,a',w',hq,.of_steps (.one (fenced_wide P _) stepR_loop) gE⟩
end
def fh(P:Program)(rd:RD)(c:Code)(s:S)(Q:AE->S->Prop):Prop:=∀E a w,cF E s a w->zP P rd c (AQ E Q) a w
section
variable {P:Program} {rd:RD} {s:S} {Q:AE->S->Prop}
theorem fh.mono{c:Code}{Q':AE->S->Prop}(h:fh P rd c s Q)(hq:∀e s,Q e s->Q' e s):fh P rd c s Q':=
 λE a w hs=>gO (h E a w hs) λe a w ⟨ae,s,q,r⟩=>⟨ae,s,hq _ _ q,r⟩
theorem KD.normal{E:tL}{e:Exit}{a:Act}{w:World}(h:KD E .normal s e a w):e=.normal/\cF E s a w:=by
 obtain⟨h2,G,lm,h1,h3,h4,h5,h6⟩:=h;exact⟨h6,h2,G,lm,h1,h3,h4,h5,rfl⟩
theorem cF.toX{E:tL}{a:Act}{w:World}(h:cF E s a w)(ae:AE)(e:Exit)(he:∀G nx,ExR G nx ae e):KD E ae s e a w:=by
 obtain⟨h2,G,lm,h1,h3,h4,h5,h6⟩:=h;exact⟨h2,G,lm,h1,h3,h4,h5,he _ _⟩
theorem fh.skip(h:Q .normal s):fh P rd .skip s Q:=λE a w hs=>eP<|wpIn_skip ⟨.normal,s,h,hs⟩
theorem fh.label{l:Nat}(h:Q .normal s):fh P rd (.label l) s Q:=λE a w hs=>eP<|wpIn_label ⟨.normal,s,h,hs⟩
theorem fh.exit{id:Nat}(h:Q (.exit id) s):fh P rd (.exit id) s Q:=λE a w hs=>eP<|wpIn_exit ⟨.exit id,s,h,hs.toX _ _ λ_ _=>rfl⟩
theorem fh.goto{l:Nat}(h:Q (.goto l) s):fh P rd (.goto l) s Q:=λE a w hs=>eP<|wpIn_goto ⟨.goto l,s,h,hs.toX _ _ λ_ _=>rfl⟩
theorem fh.ret(h:Q .ret s):fh P rd .ret s Q:=λE a w hs=>eP<|wpIn_ret ⟨.ret,s,h,hs.toX _ _ λ_ _=>rfl⟩
def Hs(K:S->Prop)(Q:AE->S->Prop):AE->S->Prop
 |.normal,s=>K s
 |e,s=>Q e s
theorem fh.seq{x y:Code}(h:fh P rd x s (Hs (λs'=>fh P rd y s' Q) Q)):fh P rd (.seq x y) s Q:=by
 intro E a w hs;refine Uy (gO (h E a w hs) ?_);rintro e a' w' ⟨ae,s',q,r⟩;cases ae with
 |normal=>
  obtain⟨rfl,r'⟩:=r.normal;exact q E a' w' r'
 |exit i=>obtain⟨_,G,lm,_,_,_,_,he⟩:=id r;cases he;exact⟨.exit i,s',q,r⟩
 |goto l=>obtain⟨_,G,lm,_,_,_,_,he⟩:=id r;cases he;exact⟨.goto l,s',q,r⟩
 |ret=>obtain⟨_,G,lm,_,_,_,_,he⟩:=id r;cases he;exact⟨.ret,s',q,r⟩
 |ej x=>obtain⟨_,G,lm,_,_,_,_,v,rfl,_⟩:=id r;exact⟨.ej x,s',q,r⟩
def Ca(id:Nat)(Q:AE->S->Prop):AE->S->Prop
 |.exit i,s=>if i=id then Q .normal s else Q (.exit i) s
 |e,s=>Q e s
theorem fh.block{id:Nat}{c:Code}(h:fh P rd c s (Ca id Q)):fh P rd (.block id c) s Q:=by
 intro E a w hs;refine OH (gO (h E a w hs) ?_);rintro e a' w' ⟨ae,s',q,r⟩;cases ae with
 |normal=>obtain⟨rfl,r'⟩:=r.normal;exact⟨.normal,s',q,r'⟩
 |exit i=>
  obtain⟨g2,G,lm,g1,g3,g4,g5,he⟩:=_root_.id r;cases he;simp only[Ca]at q;simp only[Exit.inBlock];by_cases e:i=id
  ·rw[if_pos e]at q|-;exact⟨.normal,s',q,g2,G,lm,g1,g3,g4,g5,rfl⟩
  ·rw[if_neg e]at q|-;exact⟨.exit i,s',q,r⟩
 |goto l=>obtain⟨_,G,lm,_,_,_,_,he⟩:=_root_.id r;cases he;exact⟨.goto l,s',q,r⟩
 |ret=>obtain⟨_,G,lm,_,_,_,_,he⟩:=_root_.id r;cases he;exact⟨.ret,s',q,r⟩
 |ej x=>obtain⟨_,G,lm,_,_,_,_,v,rfl,_⟩:=_root_.id r;exact⟨.ej x,s',q,r⟩
def bool(b:Bool):LV:=.d (.k (.bool b))
def kv:LV->Option Value
 |.d (.k v)=>some v
 |_=>none
def xF:List Value->Option (List LV)
 |[]=>some []
 |v::vs=>if v.oneCell'=true then(xF vs).map (.d (.k v)::·)else none
def zJ:Value->LV
 |.agg vs=>match xF vs.toList with|some l=>.agg l|none=>.any
 |v=>if v.oneCell' then .d (.k v)else .any
theorem ED{G:Gh}{nx:Nat}{lm:Nat->Option Nat}:∀(vs:List Value) (l:List LV),xF vs=some l->bH G nx lm l vs
 |[],l,h=>by simp[xF]at h;subst h;simp[bH]
 |v::vs,l,h=>by
  rw[xF]at h
  split at h
  ·rename_i h1;obtain⟨m,h2,rfl⟩:=Option.map_eq_some_iff.1 h;unfold bH;exact⟨v,vs,rfl,by unfold LR DR;exact⟨rfl,h1⟩,ED vs m h2⟩
  ·cases h
theorem MQ{G:Gh}{nx:Nat}{lm:Nat->Option Nat}(v:Value):LR G nx lm (zJ v) v:=by
 unfold zJ
 split
 ·rename_i vs
  split
  ·rename_i l h;unfold LR;exact⟨vs.toList,by simp,ED _ _ h⟩
  ·simp[LR]
 ·split<;>simp_all[LR,DR]
def S.get(s:S):Operand->LV
 |.tmp t=>s.env t
 |.const v=>zJ v
 |.func f=>.fn (.func f) [] []
 |.global _=>.any
theorem MI{G:Gh}{lm:Nat->Option Nat}{nx:Nat}{a:Act}(h:∀t,LR G nx lm (s.env t) (a.tmps.getD t undef))(o:Operand):LR G nx lm (s.get o) (a.eval o):=by
 cases o with
 |tmp t=>exact h t
 |const v=>exact MQ v
 |func f=>simp only[S.get,Act.eval];unfold LR;exact⟨[],[],rfl,by simp[bH],by simp[bH]⟩
 |global g=>simp[S.get,LR]
theorem fh.cond{c:Operand}{x y:Code}{g:Bool}(hc:s.get c=bool g)(ht:g=true->fh P rd x s Q)(hf:g=false->fh P rd y s Q):fh P rd (.cond c x y) s Q:=by
 intro E a w hs;obtain⟨h2,G,lm,h1,h3,h4,h5,h6⟩:=id hs;have hv:=MI h5 c;rw[hc]at hv;unfold bool LR DR at hv;exact QY hv.1 (λe=>ht e E a w hs) (λe=>hf e E a w hs)
theorem exists_least(p:Nat->Prop)(h:∃n,p n):∃n,p n/\∀m,p m->n<=m:=by
 obtain⟨n,hn⟩:=h
 induction n using Nat.strongRecOn with
 |_ n ih=>
  by_cases hm:∃m,m<n/\p m
  ·obtain⟨m,h1,h2⟩:=hm;exact ih m h1 h2
  ·exact⟨n,hn,λm hp=>by
    rcases Nat.lt_or_ge m n with q|q
    ·exact absurd ⟨m,q,hp⟩ hm
    ·exact q⟩
theorem fh.loop{c:Code}(I:Nat->S->Prop)(h₀:∃n,I n s)(round:∀n s,I n s->fh P rd c s (Hs (λs'=>∃m,m<n/\I m s') Q)):fh P rd (.loop c) s Q:=by
 intro E a w hs;have hex:∀a w,(∃n s,I n s/\cF E s a w)->∃n,(∃s,I n s/\cF E s a w)/\∀m,(∃s,I m s/\cF E s a w)->n<=m:=λa w ⟨n,h⟩=>exists_least _ ⟨n,h⟩
 classical
 let μ:Act->World->Nat:=λa w=>if h:∃n s,I n s/\cF E s a w then Classical.choose (hex a w h)else 0
 have hμ:∀a w (h:∃n s,I n s/\cF E s a w),(∃s,I (μ a w) s/\cF E s a w)/\∀m,(∃s,I m s/\cF E s a w)->μ a w<=m:=λa w h=>by
  have:=Classical.choose_spec (hex a w h);simp only[μ,dif_pos h];exact this
 obtain⟨n₀,az4⟩:=h₀;refine QX (λa w=>∃n s,I n s/\cF E s a w) μ ⟨n₀,s,az4,hs⟩ λa w hI=>?_
 obtain⟨⟨s1,h1,h2⟩,_⟩:=hμ a w hI;refine gO (round _ s1 h1 E a w h2) ?_;rintro e a' w' ⟨ae,s',q,r⟩;cases ae with
 |normal=>
  obtain⟨rfl,r'⟩:=r.normal;obtain⟨m,hm,hI'⟩:=q;have:=(hμ a' w' ⟨m,s',hI',r'⟩).2 m ⟨s',hI',r'⟩;exact⟨⟨m,s',hI',r'⟩,by omega⟩
 |exit i=>obtain⟨_,G,lm,_,_,_,_,he⟩:=id r;cases he;exact⟨.exit i,s',q,r⟩
 |goto l=>obtain⟨_,G,lm,_,_,_,_,he⟩:=id r;cases he;exact⟨.goto l,s',q,r⟩
 |ret=>obtain⟨_,G,lm,_,_,_,_,he⟩:=id r;cases he;exact⟨.ret,s',q,r⟩
 |ej x=>obtain⟨_,G,lm,_,_,_,_,v,rfl,_⟩:=id r;exact⟨.ej x,s',q,r⟩
end
def bu9(G:Gh)(nx:Nat):CE->Ending->Prop
 |.ret x,e=>∃v,e=.returned v/\LR G nx ix x v
 |.ej x,e=>∃v,e=.panicked [{v:=v,recovered:=false}]/\LR G nx ix x v
def E6(G:Gh)(H:GH)(w:World)(R:CE->GH->Prop):Ending->World->Prop:=λe w'=>
 ∃ce H' G',R ce H'/\bu9 G' H'.next ce e/\MR G' ix vi H' w'/\lD G'/\Ext ⟨G,H,w⟩ G' H' w'
def jR(P:Program)(f:FuncId)(args:List LV)(H:GH)(R:CE->GH->Prop):Prop:=
 ∀G w vs,MR G ix vi H w->lD G->bH G H.next ix args vs->Calls P f vs.toArray w (E6 G H w R)
theorem jR.mono{P:Program}{f:FuncId}{args:List LV}{H:GH}{R R':CE->GH->Prop}(h:jR P f args H R)(hr:∀e H',R e H'->R' e H'):jR P f args H R':=
 λG w vs h1 h2 h3=>Calls.mono (h G w vs h1 h2 h3) λe w' ⟨ce,H',G',q,r⟩=>⟨ce,H',G',hr _ _ q,r⟩
def GO.nb(n:Nat):GO->Prop
 |.box cs=>cD n cs
 |.arr ..=>True
 |.map es=>cD n (es.map (·.2))
 |.vec _ _ _ cells _=>cD n cells
 |.fz cs=>cD n cs
 |.iter m _ _ _=>m<n
 |.loop _ _ _ env _ _ _ _ d=>d<n/\∀t,(env t).nb n
 |.qI=>True
structure Drop(H0 H H':GH):Prop where
 nx:H'.next<=H.next
 V0:H0.next<=H'.next
 obj:∀n,n<H'.next->H'.obj n=H.obj n
 none:∀n,H'.next<=n->H'.obj n=none
 nb:∀n o,H'.obj n=some o->H0.obj n=some o\/ o.nb H'.next
def gL(N:Nat)(G:Gh):Gh:={G with own:=λb=>match G.own b with|.loc _=>.none|.nm n=>if n<N then .nm n else .none|o=>o}
theorem o6(N nx:Nat)(G:Gh):G.le nx (gL N G):=⟨Mem.le_refl _,λ_ _=>rfl,λ_ _=>⟨Nat.le_refl _,λ_=>rfl⟩⟩
theorem Cy{N nx:Nat}{G:Gh}{lm:Nat->Option Nat}{x:LV}{v:Value}(h:LR G nx lm x v):LR (gL N G) nx lm x v:=
 bF (Nat.le_refl _) (o6 N nx G) (λ_ _ e=>e) x v h
theorem CA{G:Gh}{nx n:Nat}{w:World}{o:GO}(h:OR G nx w n o):o.nb nx:=by
 cases o with
 |box cs=>obtain⟨_,vs,_,h3⟩:=h;exact qw _ _ h3
 |arr e sz m=>trivial
 |map es=>obtain⟨_,xs,c,_,h3⟩:=h;exact qw _ _ h3.2.1
 |vec e g sz cells ex=>obtain⟨_,_,b,C,vs,rest,_,_,_,_,_,h7,_⟩:=h;exact qw _ _ h7
 |fz cs=>obtain⟨vs,_,h2⟩:=h;exact qw _ _ h2
 |iter m since seen last=>exact h.1
 |loop f st pend env nt ps lR body d=>obtain⟨h1,_,tmps,_,_,h5⟩:=h;exact⟨h1,λt=>Ox _ _ (h5 t)⟩
 |qI=>trivial
theorem eV{n m:Nat}(h:n<=m):∀cs:List LV,cD n cs->cD m cs:=by
 have key:∀x:LV,x.nb n->x.nb m:=by
  intro x;refine LV.rec (motive_1:=λx=>x.nb n->x.nb m) (motive_2:=λxs=>cD n xs->cD m xs) ?_ ?_ ?_ ?_ ?_ ?_ ?_ ?_ ?_ ?_ ?_ ?_ ?_ ?_ ?_ ?_ ?_ x
  ·intro x _;simp[LV.nb]
  ·intro k off h1;simp[LV.nb]at h1
  ·intro k off h1;simp[LV.nb]at h1|-;omega
  ·intro xs es i off _;simp[LV.nb]
  ·intro k xs h1;simp[LV.nb]at h1|-;omega
  ·intro k h1;simp[LV.nb]at h1|-;omega
  ·intro k _ _ _ _ h1;simp[LV.nb]at h1|-;omega
  ·intro k _ _ h1;simp[LV.nb]at h1|-;omega
  ·intro k h1;simp[LV.nb]at h1|-;omega
  ·intro cs off i1 h1;unfold LV.nb at h1|-;exact i1 h1
  ·intro f first cap i1 i2 h1;unfold LV.nb at h1|-;exact⟨i1 h1.1,i2 h1.2⟩
  ·intro cs i1 h1;unfold LV.nb at h1|-;exact i1 h1
  ·intro cs i1 h1;unfold LV.nb at h1|-;exact i1 h1
  ·intro g raw i1 h1;unfold LV.nb at h1|-;exact λe=>i1 (h1 e)
  ·intro _;simp[LV.nb]
  ·intro _;simp[cD]
  ·intro c cs i1 i2 h1;unfold cD at h1|-;exact⟨i1 h1.1,i2 h1.2⟩
 intro cs
 induction cs with
 |nil=>intro _;simp[cD]
 |cons c cs ih=>intro h1;unfold cD at h1|-;exact⟨key c h1.1,ih h1.2⟩
theorem wH{E:tL}{G:Gh}{lm:Nat->Option Nat}{L:Nat->Option (List LV)}{H H':GH}{w:World}(h:MR G lm L H w)(hE:∀n o,E.H.obj n=some o->OR E.G E.H.next E.w n o)(qd:lD E.G)(hx:Ext E G H w)(hd:Drop E.H H H'):
  MR (gL H'.next G) ix vi H' w/\lD (gL H'.next G)/\Ext E (gL H'.next G) H' w:=by
 have ab5:∀n o,H'.obj n=some o->n<H'.next/\H.obj n=some o:=λn o hn=>by
  rcases Nat.lt_or_ge n H'.next with q|q
  ·exact⟨q,(hd.obj n q)▸hn⟩
  ·rw[hd.none n q]at hn;cases hn
 have hnb:∀n o,H'.obj n=some o->o.nb H'.next:=λn o hn=>by
  rcases hd.nb n o hn with q|q
  ·have:=CA (hE n o q);cases o with
   |box cs=>exact eV hd.V0 _ this
   |arr=>trivial
   |map es=>exact eV hd.V0 _ this
   |vec e g sz cells ex=>exact eV hd.V0 _ this
   |fz cs=>exact eV hd.V0 _ this
   |iter m since seen last=>exact Nat.lt_of_lt_of_le this hd.V0
   |loop f st pend env nt ps lR body d=>exact⟨Nat.lt_of_lt_of_le this.1 hd.V0,λt=>(eV hd.V0 [env t] (by unfold cD;exact⟨this.2 t,by simp[cD]⟩)).1⟩
   |qI=>trivial
  ·exact q
 have hown:∀n b,n<H'.next->G.own b=.nm n->(gL H'.next G).own b=.nm n:=λn b hn hb=>by simp[gL,hb,hn]
 refine⟨⟨h.qC,λb o v hv=>?_,λb hb=>?_,λ_ _=>rfl,λk cs hk=>by simp[vi]at hk,λn o hn=>?_⟩,λb k=>?_,?_⟩
 ·rcases h.dF b o v hv with q|⟨n,e,sz,m,q1,q2,q3⟩
  ·left;simp[gL,q]
  ·by_cases hl:n<H'.next
   ·exact .inr (⟨n,e,sz,m,hown n b hl q1,(hd.obj n hl).trans q2,q3⟩)
   ·left;simp[gL,q1,hl]
 ·exact⟨by simp[gL,(h.fresh b hb).1],(h.fresh b hb).2⟩
 ·obtain⟨hl,ho⟩:=ab5 n o hn;refine⟨hl,?_⟩;have h2:=(h.iC n o ho).2;have hb:=hnb n o hn;cases o with
  |box cs=>
   obtain⟨g1,vs,g2,g3⟩:=h2;exact⟨hown n _ hl g1,vs,g2,ca (Nat.le_refl _) (o6 _ _ G) (λ_ _ e=>e) _ _ (dm _ _ g3 hb)⟩
  |arr e sz m=>
   obtain⟨g1,g0,cells,g2,g3,g4⟩:=h2;exact⟨g1,g0,cells,g2,g3,λb hb=>⟨hown n b hl (g4 b hb).1,(g4 b hb).2⟩⟩
  |map es=>
   obtain⟨g1,xs,c,g2,g3⟩:=h2;exact⟨hown n _ hl g1,xs,c,g2,g3.1,ca (Nat.le_refl _) (o6 _ _ G) (λ_ _ e=>e) _ _ (dm _ _ g3.2.1 hb),g3.2.2⟩
  |vec e g sz cells ex=>
   obtain⟨h1,h0,b,C,vs,rest,q2,q3,q4,q5,q6,q7,q8⟩:=h2;exact⟨h1,h0,b,C,vs,rest,q2,q3,hown n _ hl q4,q5,q6,ca (Nat.le_refl _) (o6 _ _ G) (λ_ _ e=>e) _ _ (dm _ _ q7 hb),q8⟩
  |fz cs=>
   obtain⟨vs,q1,q2⟩:=h2;exact⟨vs,q1,ca (Nat.le_refl _) (o6 _ _ G) (λ_ _ e=>e) _ _ (dm _ _ q2 hb)⟩
  |iter m since seen last=>exact⟨hb,hown n _ hl h2.2.1,h2.2.2⟩
  |loop f st pend env nt ps lR body d=>
   obtain⟨q1,q2,tmps,q3,q4,q5⟩:=h2;exact⟨hb.1,hown n _ hl q2,tmps,q3,q4,λt=>bF (Nat.le_refl _) (o6 _ _ G) (λ_ _ e=>e) _ _ (jO _ _ (q5 t) (hb.2 t))⟩
  |qI=>exact⟨hown n _ hl h2.1,h2.2⟩
 ·simp only[gL];cases h:G.own b<;>simp
  split<;>simp
 ·refine⟨⟨⟨hx.le.M,hx.le.nm,hx.le.qY⟩,hd.V0,hx.os,hx.tape,hx.output,hx.drawn,hx.size,hx.frame,λb hb=>?_⟩,qd⟩
  have:=hx.own b hb;rcases this with q|⟨⟨n,q1⟩,q2⟩
  ·cases ho:E.G.own b with
   |none=>left;simp[gL,q,ho]
   |qk=>left;simp[gL,q,ho]
   |nm n=>
    by_cases hl:n<H'.next
    ·left;simp[gL,q,ho,hl]
    ·right;exact⟨⟨n,rfl⟩,by simp[gL,q,ho,hl]⟩
   |loc k=>exact absurd ho (qd b k)
  ·right;exact⟨⟨n,q1⟩,by simp[gL,q2]⟩
inductive TK where
 |agg (fs:List (Nat×TypeId))|arr (n:Nat) (e:TypeId)|sl (e:TypeId)|map (k e:TypeId)|str|int (k:IntKind)|bool|ptr (e:TypeId)|iface (plain:Bool)|func|dh
structure aU where
 k:TK
 sz:Nat
 zero:List Value
 bt:Nat
def TK.ok:TK->TypeDesc->Prop
 |.agg fs,.struct f=>f.toList.map (λf=>(f.offset,f.type))=fs
 |.arr n e,.array m e'=>m=n/\e'=e
 |.sl e,.slice e'=>e'=e
 |.map k e,.map k' e'=>k'=k/\e'=e
 |.str,.string=>True
 |.int k,.int k'=>k'=k
 |.bool,.bool=>True
 |.ptr e,.pointer e'=>e'=e
 |.iface p,.interface ms=>p=ms.isEmpty
 |.func,.func ..=>True
 |.dh,.tuple _=>True
 |_,_=>False
def TK.isAgg:TK->Bool
 |.agg _|.arr ..=>true
 |_=>false
structure aU.ok(P:Program)(t:TypeId)(d:aU):Prop where
 u:∃desc,P.underlying t=some desc/\d.k.ok desc
 i:∃i z,P.info? t=some i/\i.size=d.sz/\i.zero=some z/\z.cells.toList=d.zero/\i.bytes<=4096/\i.bytes=d.bt
 one:∀v∈d.zero,v.oneCell'=true
 len:d.zero.length=d.sz
 ag:∀z,(P.info? t).map (·.zero)=some (some z)->if d.k.isAgg then∃cs,z=.agg cs else z.oneCell'=true
def nA(P:Program)(ty:TypeId->Option aU):Prop:=∀t d,ty t=some d->d.ok P t
theorem tg{P:Program}{t:TypeId}{d:aU}(h:d.ok P t)(w:World):(isAgg t).run P w=.ok d.k.isAgg w:=by
 obtain⟨desc,h1,h2⟩:=h.u;cases hk:d.k<;>rw[hk]at h2<;>cases desc<;>simp only[TK.ok]at h2<;>simp[isAgg,run_underlying h1,TK.isAgg]
end Go.Aft
end
section
namespace Go.Aft
inductive Zj where
 |no
 |rO (cs:List LV)
 |wN (k:Nat) (cs:List LV)
 |iD (o:GO)
 |dV (n:Nat) (o:GO)
structure vo where
 pre:Prop
 v:LV
 kD:Zj
def LV.un:LV->LV
 |.gd _ raw=>raw
 |x=>x
def LV.tO:LV->Prop
 |.gd g _=>g=true
 |_=>True
def S.arg(s:S)(o:Operand):LV:=(s.get o).un
def S.aI(s:S)(o:Operand):Prop:=(s.get o).tO
def LV.one:LV->Bool
 |.agg _|.dh _|.gd .. |.any=>false
 |_=>true
def LV.cells:LV->List LV
 |.agg cs=>cs
 |x=>[x]
def kz(v:Value):LV:=.d (.k v)
def dz(d:aU)(cs:List LV):Option LV:=
 if d.k.isAgg then(if d.sz<=cs.length then some (.agg (cs.take d.sz))else none)else cs.head?
def putAt(cs:List LV)(off:Nat)(c:List LV):List LV:=cs.take off++c++cs.drop (off+c.length)
def LV.shift(x:LV)(o:Nat):Option LV:=
 match x with
 |.lp k off=>some (.lp k (off+o))
 |.gp n off=>some (.gp n (off+o))
 |.ep xs es i off=>some (.ep xs es i (off+o))
 |.ip cs off=>some (.ip cs (off+o))
 |.vp n g off=>some (.vp n g (off+o))
 |_=>none
def Iw:LV->Bool
 |.lp .. |.gp .. |.ep .. |.ip .. |.vp .. |.fn (.func _) ..=>true
 |_=>false
def places(ty:TypeId->Option aU)(d:aU)(i:Nat):Option (Nat×Nat):=
 match d.k with
 |.agg fs=>(fs[i]?).bind λ(o,t)=>(ty t).map λfd=>(o,fd.sz)
 |.arr n e=>(ty e).map λed=>(i*ed.sz,ed.sz)
 |_=>none
def BR(place:Nat->Option (Nat×Nat))(cells:List LV):List (Nat×LV)->Option (List LV)
 |[]=>some cells
 |(i,v)::rest=>
  match place i with
  |none=>none
  |some (off,size)=>if v.cells.length≠size\/ cells.length<off+v.cells.length\/ v.cells.all LV.one=false then none else BR place (putAt cells off v.cells) rest
def oV(k:IntKind)(n:Int):LV:=.d (.k (.int k n))
def VG(k:IntKind)(x y:Int):Int:=x.fdiv (2^(min y.toNat k.bits))
def aI3(k:IntKind)(x y:Int):Int:=k.wrap ((BitVec.ofInt k.bits x&&&BitVec.ofInt k.bits y).toNat:Int)
def Gt(op:BinOp)(k:IntKind)(x y:Int):Option (Prop×Value):=
 match op with
 |.add=>some (True,.int k (k.wrap (x+y)))
 |.sub=>some (True,.int k (k.wrap (x-y)))
 |.mul=>some (True,.int k (k.wrap (x*y)))
 |.quo=>some (y≠0,.int k (k.wrap (x.tdiv y)))
 |.rem=>some (y≠0,.int k (x.tmod y))
 |.eql=>some (True,.bool (x==y))
 |.neq=>some (True,.bool (x !=y))
 |.lss=>some (True,.bool (decide (x<y)))
 |.leq=>some (True,.bool (decide (x<=y)))
 |.gtr=>some (True,.bool (decide (x>y)))
 |.geq=>some (True,.bool (decide (x≥y)))
 |.shr=>some (0<=y,.int k (VG k x y))
 |.and=>some (True,.int k (aI3 k x y))
 |_=>none
def Gr(op:BinOp)(x y:ByteArray):Option (Prop×Value):=
 match op with
 |.eql=>some (True,.bool (decide (x=y)))
 |.neq=>some (True,.bool (!decide (x=y)))
 |.add=>some (x.size+y.size<=9223372036854775807,.string (x++y))
 |_=>none
def TK.isBool:TK->Bool
 |.bool=>true
 |_=>false
def vC:Value->Value->Bool
 |.int _ a,.int _ b=>a==b
 |.string a,.string b=>decide (a=b)
 |.bool a,.bool b=>a==b
 |_,_=>false
inductive Sc where
 |int (k:IntKind)|str|bool
 deriving DecidableEq
def Sc.has:Sc->Value->Bool
 |.int k,.int j _=>j=k
 |.str,.string _=>true
 |.bool,.bool _=>true
 |_,_=>false
def cp:List Sc->List Value->Bool
 |[],[]=>true
 |k::ks,v::vs=>k.has v&&cp ks vs
 |_,_=>false
def allEq:List Value->List Value->Bool
 |v::vs,u::us=>vC v u&&allEq vs us
 |_,_=>true
def ig:List LV->Option (List Value)
 |[]=>some []
 |.d (.k v)::cs=>(ig cs).map λvs=>v::vs
 |_=>none
def JZ(ks:List Sc)(cs ds:List LV):Option Bool:=
 match ig cs,ig ds with
 |some vs,some us=>if cp ks vs&&cp ks us then some (allEq vs us)else none
 |_,_=>none
def W5(tb:Bool)(ks:Option (List Sc))(op:BinOp)(a b:LV):Option (Prop×Value):=
 match a,b with
 |.agg cs,.agg ds=>
  match op with
  |.eql=>ks.bind λks=>(JZ ks cs ds).map λr=>(True,.bool r)
  |.neq=>ks.bind λks=>(JZ ks cs ds).map λr=>(True,.bool (!r))
  |_=>none
 |.d (.k (.int j x)),.d (.k (.int k y))=>if j=k then Gt op j x y else(match op with|.shr=>some (0<=y,.int j (VG j x y))|_=>none)
 |.d (.k (.string x)),.d (.k (.string y))=>Gr op x y
 |.d (.k (.bool x)),.d (.k (.bool y))=>if tb then(match op with|.eql=>some (True,.bool (x==y))|.neq=>some (True,.bool (!(x==y)))|_=>none)else none
 |_,_=>none
def unV(op:UnOp)(a:LV):Option Value:=
 match op,a with
 |.not,.d (.k (.bool x))=>some (.bool (!x))
 |.neg,.d (.k (.int k x))=>some (.int k (k.wrap (0-x)))
 |_,_=>none
def rowsOf:LV->Option (List (List DV))
 |.d (.sl xs)=>some xs
 |.lF _ xs=>some xs
 |.d (.k (.slice none 0 0))=>some []
 |_=>none
def Ys:LV->Option DV
 |.d x=>some x
 |.lF _ xs=>some (.sl xs)
 |_=>none
def tF:List LV->Option (List DV)
 |[]=>some []
 |x::xs=>(Ys x).bind λy=>(tF xs).map λys=>y::ys
def tW:List (Nat×LV)->Option (List (List DV))
 |[]=>some []
 |p::ps=>(tF p.2.cells).bind λr=>(tW ps).map λrs=>r::rs
def sx(ty:TypeId->Option aU):TK->Bool
 |.agg fs=>fs.all λp=>(ty p.2).isSome
 |.arr _ e=>(ty e).isSome
 |_=>false
def j7(s:S):List (Nat×Operand)->Prop
 |[]=>True
 |p::ps=>s.aI p.2/\j7 s ps
mutual
def LV.pW:LV->Bool
 |.lp _ _=>false
 |.fn _ first cap=>gT first&&gT cap
 |.agg xs=>gT xs
 |.dh xs=>gT xs
 |.gd _ raw=>LV.pW raw
 |.ip xs _=>gT xs
 |_=>true
def gT:List LV->Bool
 |[]=>true
 |x::xs=>LV.pW x&&gT xs
end
inductive Kd where
 |loc|bO|qC|vec
 deriving DecidableEq
def cG(ty:TypeId->Option aU)(bR:TypeId->Option (List Sc))(bO:Nat->Kd)(s:S)(dst:Option Nat)(op:Op):Option vo:=
 match op with
 |.move x|.assign x=>some ⟨s.aI x,s.arg x,.no⟩
 |.alloc T=>
  match ty T,dst with
  |some d,some t=>match bO t with
   |.bO=>some ⟨True,.gp s.H.next 0,.iD (.box (d.zero.map kz))⟩
   |_=>some ⟨s.L t=none,.lp t 0,.rO (d.zero.map kz)⟩
  |_,_=>none
 |.box T x=>
  match ty T,dst with
  |some d,some t=>
   if(s.arg x).cells.all LV.one&&(s.arg x).cells.length=d.sz then(match bO t with
    |.bO=>some ⟨s.aI x/\cD s.H.next (s.arg x).cells,.gp s.H.next 0,.iD (.box (s.arg x).cells)⟩
    |.qC=>some ⟨s.aI x,.ip (s.arg x).cells 0,.no⟩
    |_=>some ⟨s.aI x/\s.L t=none,.lp t 0,.rO (s.arg x).cells⟩)else none
  |_,_=>none
 |.build T parts=>
  match ty T with
  |some d=>if sx ty d.k then(BR (places ty d) (d.zero.map kz) (parts.toList.map λp=>(p.1,s.arg p.2))).map λcs=>⟨j7 s parts.toList,.agg cs,.no⟩else none
  |none=>none
 |.buildSlice T len parts=>
  match ty T with
  |some ⟨.sl e,_,_,_⟩=>(ty e).bind λed=>
   if parts.toList.map (·.1)=List.range' 0 len/\parts.toList.length=len/\len*ed.sz<=16777216/\len<=16777216 then
    (tW (parts.toList.map λp=>(p.1,s.arg p.2))).map λrows=>⟨j7 s parts.toList/\(∀r∈rows,r.length=ed.sz),.d (.sl rows),.no⟩
   else none
  |_=>none
 |.load T p=>
  match ty T with
  |none=>none
  |some d=>
   match s.arg p with
   |.lp k off=>(s.L k).bind λcs=>(dz d (cs.drop off)).map λv=>⟨s.aI p,v,.no⟩
   |.gp n off=>match s.H.obj n with
    |some (.box cs)=>(dz d (cs.drop off)).map λv=>⟨s.aI p,v,.no⟩
    |some (.fz cs)=>(dz d (cs.drop off)).map λv=>⟨s.aI p,v,.no⟩
    |_=>none
   |.ip cs off=>(dz d (cs.drop off)).map λv=>⟨s.aI p,v,.no⟩
   |.vp n g off=>match s.H.obj n with
    |some (.vec _ g' _ cs _)=>if g'=g then(dz d (cs.drop off)).map λv=>⟨s.aI p,v,.no⟩else none
    |_=>none
   |.ep xs es i off=>
    if d.k.isAgg then some ⟨s.aI p/\off+d.sz<=es,.agg ((((xs.getD i []).drop off).take d.sz).map .d),.no⟩
    else some ⟨s.aI p/\off<es,.d ((xs.getD i []).getD off default),.no⟩
   |_=>none
 |.store T p x=>
  match ty T with
  |none=>none
  |some d=>
   if(s.arg x).cells.length=d.sz/\(s.arg x).cells.all LV.one=true then
    match s.arg p with
    |.lp k off=>(s.L k).bind λcs=>if off+d.sz<=cs.length then some ⟨s.aI p/\s.aI x,.any,.wN k (putAt cs off (s.arg x).cells)⟩else none
    |.vp n g off=>match s.H.obj n with
     |some (.vec e g' sz cs ex)=>if g'=g/\off+d.sz<=cs.length then some ⟨s.aI p/\s.aI x/\cD s.H.next (s.arg x).cells,.any,.dV n (.vec e g sz (putAt cs off (s.arg x).cells) ex)⟩else none
     |_=>none
    |.gp n off=>match s.H.obj n with
     |some (.box cs)=>if off+d.sz<=cs.length then some ⟨s.aI p/\s.aI x/\cD s.H.next (s.arg x).cells,.any,.dV n (.box (putAt cs off (s.arg x).cells))⟩else none
     |_=>none
    |_=>none
   else none
 |.nilCheck x=>if Iw (s.arg x)then some ⟨s.aI x,s.arg x,.no⟩else none
 |.binOp op T x y _=>(W5 (((ty T).map (·.k.isBool)).getD false) (bR T) op (s.arg x) (s.arg y)).map λr=>⟨s.aI x/\s.aI y/\r.1,kz r.2,.no⟩
 |.unOp op _ x=>(unV op (s.arg x)).map λr=>⟨s.aI x,kz r,.no⟩
 |.fieldAddr T x f=>
  match ty T with
  |some ⟨.agg fs,_,_,_⟩=>(fs[f]?).bind λ(o,t)=>(ty t).bind λfd=>if fd.sz=0 then none else((s.arg x).shift o).map λv=>⟨s.aI x,v,.no⟩
  |_=>none
 |.field T x f=>
  match ty T,s.arg x with
  |some ⟨.agg fs,_,_,_⟩,.agg cs=>(fs[f]?).bind λ(o,t)=>(ty t).bind λfd=>(dz fd (cs.drop o)).map λv=>⟨s.aI x,v,.no⟩
  |_,_=>none
 |.indexAddr T x i=>
  match ty T,s.arg i with
  |some ⟨.sl e,_,_,_⟩,.d (.k (.int _ n))=>match s.arg x with
   |.vs m g sz j len=>(ty e).bind λed=>if ed.sz=sz then some ⟨s.aI x/\s.aI i/\0<=n/\n<len,.vp m g ((j+n.toNat)*sz),.no⟩else none
   |x'=>(rowsOf x').bind λxs=>(ty e).map λed=>⟨s.aI x/\s.aI i/\0<=n/\n<xs.length/\(xs.getD n.toNat []).length=ed.sz,.ep xs ed.sz n.toNat 0,.no⟩
  |some ⟨.arr len e,_,_,_⟩,.d (.k (.int _ n))=>(ty e).bind λed=>((s.arg x).shift (n.toNat*ed.sz)).map λv=>⟨s.aI x/\s.aI i/\0<=n/\n<len,v,.no⟩
  |_,_=>none
 |.extract x i=>
  match s.arg x with
  |.dh vs=>(vs[i]?).map λv=>⟨s.aI x,v,.no⟩
  |_=>none
 |.makeFunc fn first cap=>some ⟨True,.fn fn (first.toList.map s.get) (cap.toList.map s.get),.no⟩
 |.makeMap T none=>some ⟨True,.gm s.H.next,.iD (.map [])⟩
 |_=>none
mutual
def LV.sub(k:Nat)(cs:List LV):LV->LV
 |.lp j off=>if j=k then .ip cs off else .lp j off
 |.fn f first cap=>.fn f (qL k cs first) (qL k cs cap)
 |.agg xs=>.agg (qL k cs xs)
 |.dh xs=>.dh (qL k cs xs)
 |.gd g raw=>.gd g (LV.sub k cs raw)
 |.ip xs off=>.ip (qL k cs xs) off
 |x=>x
def qL(k:Nat)(cs:List LV):List LV->List LV
 |[]=>[]
 |x::xs=>LV.sub k cs x::qL k cs xs
end
def S.kD(s:S)(dst:Option Nat):Zj->S
 |.no=>s
 |.rO cs=>match dst with|some t=>{s with L:=eL s.L t (some cs)}|none=>s
 |.wN k cs=>{s with L:=eL s.L k (some cs)}
 |.iD o=>{s with H:=s.H.add o}
 |.dV n o=>{s with H:=s.H.set n o}
def S.put(s:S)(dst:Option Nat)(v:LV):S:=
 match dst with
 |some t=>{s with env:=eL s.env t v}
 |none=>s
section
variable {P:Program} {ty:TypeId->Option aU} {bO:Nat->Kd} {E:tL} {s:S} {a:Act} {w:World} {G:Gh} {lm:Nat->Option Nat} {nx:Nat}
theorem aq5{x:LV}{v:Value}(h:LR G nx lm x v)(hp:x.tO):LR G nx lm x.un v:=by
 cases x<;>first|exact h|(unfold LR at h;exact h.1 hp)
theorem aW(h:∀t,LR G nx lm (s.env t) (a.tmps.getD t undef))(o:Operand)(hp:s.aI o):LR G nx lm (s.arg o) (a.eval o):=
 aq5 (MI h o) hp
theorem cF.mk'(hz:a.tmps.size=s.nt){G':Gh}{lm':Nat->Option Nat}{L':Nat->Option (List LV)}{H':GH}{w':World}(hd:GP G' H'.next s.df a.defers)(hM:MR G' lm' L' H' w')(hx:Ext E G' H' w')
  (aK:∀t,LR G' H'.next lm' (s.env t) (a.tmps.getD t undef)) {dst:Option Nat} {v:LV} {v':Value} (hv:LR G' H'.next lm' v v') (aN:∀t,dst=some t->t<s.nt):
  cF E (({s with L:=L',H:=H'}:S).put dst v) (a.put dst v') w':=by
 cases dst with
 |none=>exact⟨hz,G',lm',hd,hM,hx,aK,rfl⟩
 |some t=>
  have ht:=aN t rfl;refine⟨by simp[Act.put,S.put,hz],G',lm',hd,hM,hx,λu=>?_,rfl⟩
  simp only[S.put,Act.put];by_cases e:u=t
  ·subst e;rw[eG];have:(a.tmps.setIfInBounds u v').getD u undef=v':=by
    simp[Array.getD_eq_getD_getElem?,Array.getElem?_setIfInBounds,hz,ht]
   rw[this];exact hv
  ·rw[aX _ _ e];have:(a.tmps.setIfInBounds t v').getD u undef=a.tmps.getD u undef:=by
    have ht':¬t=u:=λh=>e h.symm
    simp[Array.getD_eq_getD_getElem?,Array.getElem?_setIfInBounds,ht']
   rw[this];exact aK u
def bT(P:Program)(E:tL)(s:S)(o:Oper)(a:Act)(w:World)(r:vo):Prop:=
 ∃n v' w',(execOp a.eval o).run P w=.ok n w'/\(n=.value v'\/ (n=.skip/\v'=undef))/\cF E ((s.kD o.dst r.kD).put o.dst r.v) (a.put o.dst v') w'
theorem bT.pure{o:Oper}{pre:Prop}{v:LV}(hs:cF E s a w)(aN:∀t,o.dst=some t->t<s.nt)
  (h:∀G lm,MR G lm s.L s.H w->(∀t,LR G s.H.next lm (s.env t) (a.tmps.getD t undef))->∃v',(execOp a.eval o).run P w=.ok (.value v') w/\LR G s.H.next lm v v'):bT P E s o a w ⟨pre,v,.no⟩:=by
 obtain⟨h2,G,lm,h1,h3,h4,h5,_⟩:=hs;obtain⟨v',hr,hv⟩:=h G lm h3 h5;exact⟨_,v',w,hr,.inl rfl,cF.mk' h2 h1 h3 h4 h5 hv aN⟩
theorem ef(b o n:Nat):(⟨b,o,none⟩:Addr).add n=⟨b,o+n,none⟩:=by
 unfold Addr.add
 split
 ·rename_i h;subst h;rfl
 ·rfl
theorem cL{t:TypeId}{d:aU}(h:d.ok P t)(w:World):(Go.sizeOf t).run P w=.ok d.sz w:=by
 obtain⟨i,z,h1,h2,_⟩:=h.i;simp[Go.sizeOf,typeInfo,h1,h2]
theorem vq{t:TypeId}{d:aU}(h:d.ok P t)(w:World):∃z,(zeroValue t).run P w=.ok z w/\z.cells.toList=d.zero:=by
 obtain⟨i,z,h1,h2,h3,h4,_⟩:=h.i;exact⟨z,by simp[zeroValue,typeInfo,h1,h3],h4⟩
theorem yw{v:Value}(h:v.oneCell'=true):LR G nx lm (kz v) v:=by unfold kz LR DR;exact⟨rfl,h⟩
theorem w9{vs:List Value}(h:∀v∈vs,v.oneCell'=true):bH G nx lm (vs.map kz) vs:=by
 induction vs with
 |nil=>simp[bH]
 |cons v vs ih=>simp only[List.map_cons];unfold bH;exact⟨v,vs,rfl,yw (h v (List.mem_cons_self ..)),ih λv hv=>h v (List.mem_cons_of_mem _ hv)⟩
theorem DI{v:Value}(h:v.oneCell'=true):v.cells.toList=[v]:=by
 cases v<;>simp_all[Value.oneCell',Value.cells]
theorem RB{x:LV}{v:Value}(h:LR G nx lm x v)(h1:x.one=true):v.oneCell'=true:=by
 cases x with
 |d x=>
  cases x with
  |k u=>unfold LR DR at h;rw[h.1];exact h.2
  |sl xs=>unfold LR DR at h;obtain⟨a,cap,sz,rfl,_⟩:=h;rfl
 |lp k off=>unfold LR at h;obtain⟨b,_,rfl⟩:=h;rfl
 |gp k off=>unfold LR at h;obtain⟨_,rfl⟩:=h;rfl
 |ep xs es i off=>unfold LR at h;obtain⟨b,o,rfl,_⟩:=h;rfl
 |lF n xs=>unfold LR at h;have h':=h.2.1;unfold DR at h';obtain⟨a,cap,sz,rfl,_⟩:=h';rfl
 |gm n=>unfold LR at h;obtain⟨_,rfl⟩:=h;rfl
 |vs n g sz i len=>unfold LR at h;obtain⟨_,_,b,o,cap,rfl,_⟩:=h;rfl
 |vp n g o=>unfold LR at h;obtain⟨_,_,b,o',rfl,_⟩:=h;rfl
 |yl n=>unfold LR at h;obtain⟨_,rfl⟩:=h;rfl
 |ip cs off=>unfold LR at h;obtain⟨b,rfl,_⟩:=h;rfl
 |fn f fs cs=>unfold LR at h;obtain⟨_,_,rfl,_⟩:=h;rfl
 |agg cs=>simp[LV.one]at h1
 |dh cs=>simp[LV.one]at h1
 |gd g r=>simp[LV.one]at h1
 |any=>simp[LV.one]at h1
theorem jC:∀{cs:List LV} {vs:List Value},bH G nx lm cs vs->cs.all LV.one=true->∀v∈vs,v.oneCell'=true
 |[],vs,h,_=>by unfold bH at h;subst h;simp
 |c::cs,vs,h,h1=>by
  unfold bH at h;obtain⟨v,r,rfl,h2,h3⟩:=h;simp at h1;intro u hu;rcases List.mem_cons.1 hu with rfl|hu
  ·exact RB h2 h1.1
  ·exact jC h3 (by simpa using h1.2) u hu
theorem lu{x:LV}{v:Value}(h:LR G nx lm x v)(h1:x.cells.all LV.one=true):bH G nx lm x.cells v.cells.toList:=by
 by_cases hx:∃cs,x=.agg cs
 ·obtain⟨cs,rfl⟩:=hx;unfold LR at h;obtain⟨vs,rfl,h2⟩:=h;simpa[LV.cells,Value.cells]using h2
 ·have hc:x.cells=[x]:=by cases x<;>first|rfl|exact absurd ⟨_,rfl⟩ hx
  rw[hc]at h1|-;have:=RB h (by simpa using h1)
  rw[DI this];unfold bH;exact⟨v,[],rfl,h,by simp[bH]⟩
end
end Go.Aft
end
section
namespace Go.Aft
section
variable {P:Program} {ty:TypeId->Option aU} {bO:Nat->Kd} {E:tL} {s:S} {a:Act} {w:World} {o:Oper} {r:vo}
theorem ic{G G':Gh}{nx nx':Nat}{lm lm':Nat->Option Nat}(hn:nx<=nx')(hle:G.le nx G')(hl:∀k b,lm k=some b->lm' k=some b)(h:∀t,LR G nx lm (s.env t) (a.tmps.getD t undef)):
  ∀t,LR G' nx' lm' (s.env t) (a.tmps.getD t undef):=λt=>bF hn hle hl _ _ (h t)
theorem Nt{x:Operand}(ho:o.op=.move x\/ o.op=.assign x)(hs:cF E s a w)(aN:∀t,o.dst=some t->t<s.nt)(hp:s.aI x):bT P E s o a w ⟨s.aI x,s.arg x,.no⟩:=
 bT.pure hs aN λG lm _ aK=>⟨a.eval x,by rcases ho with h|h<;>simp[execOp,h],aW aK x hp⟩
theorem DJ{x:LV}{T:TypeId}{t:Nat}{cs:List LV}(hd:o.dst=some t)(ht:t<s.nt)(hs:cF E s a w)(pre:Prop)
  (h:∀G lm,MR G lm s.L s.H w->(∀t,LR G s.H.next lm (s.env t) (a.tmps.getD t undef))->∃vs:List Value,(execOp a.eval o).run P w=.ok (.value (.pointer (some ⟨w.heap.size,0,none⟩))) (w.alloc (.cells vs.toArray T (0,0)))/\
   bH G s.H.next lm cs vs/\∀v∈vs,v.oneCell'=true):
  (s.L t=none->bT P E s o a w ⟨pre,.lp t 0,.rO cs⟩)/\(cD s.H.next cs->bT P E s o a w ⟨pre,.gp s.H.next 0,.iD (.box cs)⟩):=by
 obtain⟨h2,G,lm,h1,h3,h4,h5,_⟩:=hs;obtain⟨vs,hr,hR,h1c⟩:=h G lm h3 h5;constructor
 ·intro hL;have hM:=h3.TG t hL cs vs T h1c hR;have hlm:∀j b,lm j=some b->eL lm t (some w.heap.size) j=some b:=λj b hj=>by
   have:j≠t:=λe=>by rw[e,h3.C3 t hL]at hj;cases hj
   rw[aX _ _ this];exact hj
  have hle:=NC (G:=G) s.H.next w.heap.size (.loc t);refine⟨_,_,_,hr,.inl rfl,?_⟩;simp only[S.kD,hd];have hown:∀b,b<w.heap.size->(FT G w.heap.size (.loc t)).own b=G.own b:=λb hb=>by
   have:b≠w.heap.size:=by omega
   simp[FT,this]
  refine cF.mk' (L':=eL s.L t (some cs)) (H':=s.H) h2 (ct (Nat.le_refl _) hle _ _ h1) hM (h4.alloc hle (Nat.le_refl _) hown _) (ic (Nat.le_refl _) hle hlm h5) ?_ (λu hu=>by cases hu;exact ht)
  unfold LR;exact⟨w.heap.size,by simp,rfl⟩
 ·intro hnb;have hle:=uH (G:=G) s.H.next w.heap.size;have hM:=h3.sI (.box cs) (.cells vs.toArray T (0,0)) (by simp) (by
   refine⟨by simp[tc],vs,⟨T,by simp only[tc,eG];rw[dg,if_pos rfl],h1c⟩,?_⟩
   exact ca (Nat.le_succ _) hle (λ_ _ e=>e) _ _ (dm _ _ hR hnb))
  refine⟨_,_,_,hr,.inl rfl,?_⟩;simp only[S.kD,hd];refine cF.mk' (L':=s.L) (H':=s.H.add (.box cs)) h2 (ct (Nat.le_succ _) hle _ _ h1) hM (h4.sI h3 _ _) (ic (Nat.le_succ _) hle (λ_ _ e=>e) h5) ?_ (λu hu=>by cases hu;exact ht)
  unfold LR;exact⟨Nat.lt_succ_self _,by simp[tc]⟩
theorem Z7(n:Nat)(vs:List Value):cD n (vs.map kz):=by
 induction vs with
 |nil=>simp[cD]
 |cons v vs ih=>simp only[List.map_cons];unfold cD;exact⟨by simp[kz,LV.nb],ih⟩
theorem RO{T:TypeId}{d:aU}{t:Nat}(ho:o.op=.alloc T)(hok:d.ok P T)(hd:o.dst=some t)(ht:t<s.nt)(hs:cF E s a w)(pre:Prop):
  (s.L t=none->bT P E s o a w ⟨pre,.lp t 0,.rO (d.zero.map kz)⟩)/\bT P E s o a w ⟨pre,.gp s.H.next 0,.iD (.box (d.zero.map kz))⟩:=by
 have:=DJ (P:=P) (x:=.any) (T:=T) (cs:=d.zero.map kz) hd ht hs pre λG lm _ _=>⟨d.zero,by
  obtain⟨z,h1,h2⟩:=vq hok w;have h3:z.cells=d.zero.toArray:=by rw[<-h2]
  simp[execOp,ho,Instr.alloc,h1,newVar,newRow,h3],w9 hok.one,hok.one⟩
 exact⟨this.1,this.2 (Z7 _ _)⟩
theorem LX{T:TypeId}{t:Nat}{x:Operand}(ho:o.op=.box T x)(hp:s.aI x)(h1:(s.arg x).cells.all LV.one=true)(hd:o.dst=some t)(ht:t<s.nt)(hs:cF E s a w)(pre:Prop):
  (s.L t=none->bT P E s o a w ⟨pre,.lp t 0,.rO (s.arg x).cells⟩)/\(cD s.H.next (s.arg x).cells->bT P E s o a w ⟨pre,.gp s.H.next 0,.iD (.box (s.arg x).cells)⟩):=
 DJ (P:=P) (x:=.any) (T:=T) (cs:=(s.arg x).cells) hd ht hs pre λG lm _ aK=>⟨(a.eval x).cells.toList,by
  simp[execOp,ho,Instr.box,newVar,newRow],lu (aW aK x hp) h1,jC (lu (aW aK x hp) h1) h1⟩
theorem Pc{T:TypeId}{x:Operand}(ho:o.op=.box T x)(hp:s.aI x)(h1:(s.arg x).cells.all LV.one=true)(aN:∀t,o.dst=some t->t<s.nt)(hs:cF E s a w)(pre:Prop):
  bT P E s o a w ⟨pre,.ip (s.arg x).cells 0,.no⟩:=by
 obtain⟨h2,G,lm,zw,h3,h4,h5,_⟩:=hs;have hc:=lu (aW h5 x hp) h1;have hone:=jC hc h1;have hle:=zn h3 s.H.next (a.eval x).cells.toList;have hM:=h3.Ks (a.eval x).cells.toList T (0,0);refine⟨.value (.pointer (some ⟨w.heap.size,0,none⟩)),_,w.alloc (.cells (a.eval x).cells.toList.toArray T (0,0)),by simp[execOp,ho,Instr.box,newVar,newRow],.inl rfl,?_⟩
 refine cF.mk' (L':=s.L) (H':=s.H) h2 (ct (Nat.le_refl _) hle _ _ zw) hM (h4.alloc hle (Nat.le_refl _) (λ_ _=>rfl) _) (ic (Nat.le_refl _) hle (λ_ _ e=>e) h5) ?_ aN
 unfold LR;exact⟨w.heap.size,rfl,T4 (ca (Nat.le_refl _) hle (λ_ _ e=>e) _ _ hc) (λi v hv=>by simp only[xh,if_true,Nat.zero_add];exact hv) hone⟩
theorem fW{d:aU}{T:TypeId}(hok:d.ok P T){b off:Nat}{vs:List Value}{cs:List LV}{v:LV}{G:Gh}{nx:Nat}{lm:Nat->Option Nat}
  (hc:∀(i:Nat) (u:Value),vs[i]?=some u->w.cell? ⟨b,off+i,none⟩=some u) (hR:bH G nx lm cs vs) (h:dz d cs=some v):
  ∃v',(loadVar T ⟨b,off,none⟩).run P w=.ok v' w/\LR G nx lm v v':=by
 unfold dz at h;by_cases ha:d.k.isAgg=true
 ·rw[if_pos ha]at h
  split at h
  ·rename_i hl;cases h;have QG:(vs.take d.sz).length=d.sz:=by
    have:=bN hR;simp only[List.length_take];omega
   have hrun:=run_loadCells_list (P:=P) w ⟨b,off,none⟩ (vs.take d.sz) (λj u hu=>by
    rw[ef];rw[List.getElem?_take]at hu
    split at hu
    ·exact hc j u hu
    ·cases hu)
   rw[QG]at hrun;refine⟨.agg (vs.take d.sz).toArray,?_,?_⟩
   ·simp[loadVar,tg hok w,ha,cL hok w,hrun]
   ·unfold LR;exact⟨_,rfl,py hR d.sz⟩
  ·cases h
 ·rw[if_neg ha]at h;have h0:cs[0]?=some v:=by rw[<-List.head?_eq_getElem?];exact h
  obtain⟨u,h1,h2⟩:=kM hR 0 v h0;have hcell:=hc 0 u h1;simp at hcell;refine⟨u,?_,h2⟩;have hf:d.k.isAgg=false:=by simpa using ha
  simp[loadVar,tg hok w,hf,run_load,hcell]
theorem mb{b off:Nat}{vs:List Value}(h:nR w b vs)(i:Nat)(u:Value)(hu:(vs.drop off)[i]?=some u):w.cell? ⟨b,off+i,none⟩=some u:=by
 obtain⟨T,h1,_⟩:=h;rw[cell_of h1];simpa using hu
theorem LK{T:TypeId}{d:aU}{p:Operand}{k off:Nat}{cs:List LV}{v:LV}(ho:o.op=.load T p)(hok:d.ok P T)(hp:s.aI p)(ha:s.arg p=.lp k off)(hL:s.L k=some cs)(hv:dz d (cs.drop off)=some v)
  (hs:cF E s a w) (aN:∀t,o.dst=some t->t<s.nt) (pre:Prop):bT P E s o a w ⟨pre,v,.no⟩:=
 bT.pure hs aN λG lm hM aK=>by
  have h1:=aW aK p hp;rw[ha]at h1;unfold LR at h1;obtain⟨b,hb,he⟩:=h1;obtain⟨b',vs,g1,g2,g3,g4⟩:=hM.loc k cs hL;have:b'=b:=by rw[g1]at hb;exact Option.some.inj hb
  subst this;obtain⟨v',q1,q2⟩:=fW hok (mb g3 (off:=off)) (eS g4 off) hv;exact⟨v',by simp[execOp,ho,Instr.loadAt,Instr.sureAddr,he,q1],q2⟩
theorem LM{T:TypeId}{d:aU}{p:Operand}{n off:Nat}{cs:List LV}{v:LV}(ho:o.op=.load T p)(hok:d.ok P T)(hp:s.aI p)(ha:s.arg p=.gp n off)(hL:s.H.obj n=some (.box cs))(hv:dz d (cs.drop off)=some v)
  (hs:cF E s a w) (aN:∀t,o.dst=some t->t<s.nt) (pre:Prop):bT P E s o a w ⟨pre,v,.no⟩:=
 bT.pure hs aN λG lm hM aK=>by
  have h1:=aW aK p hp;rw[ha]at h1;unfold LR at h1;obtain⟨_,he⟩:=h1;obtain⟨_,g2,vs,g3,g4⟩:=hM.iC n _ hL;obtain⟨v',q1,q2⟩:=fW hok (mb g3 (off:=off)) (eS g4 off) hv;exact⟨v',by simp[execOp,ho,Instr.loadAt,Instr.sureAddr,he,q1],bF (Nat.le_refl _) (Gh.le_refl _ _) (λ_ _ e=>by cases e) _ _ q2⟩
theorem LN{T:TypeId}{d:aU}{p:Operand}{n off:Nat}{cs:List LV}{v:LV}(ho:o.op=.load T p)(hok:d.ok P T)(hp:s.aI p)(ha:s.arg p=.gp n off)(hL:s.H.obj n=some (.fz cs))(hv:dz d (cs.drop off)=some v)
  (hs:cF E s a w) (aN:∀t,o.dst=some t->t<s.nt) (pre:Prop):bT P E s o a w ⟨pre,v,.no⟩:=
 bT.pure hs aN λG lm hM aK=>by
  have h1:=aW aK p hp;rw[ha]at h1;unfold LR at h1;obtain⟨_,he⟩:=h1;obtain⟨_,vs,g3,g4⟩:=hM.iC n _ hL;obtain⟨v',q1,q2⟩:=fW (w:=w) (b:=G.nm n) (off:=off) hok (λi u hu=>hM.qC _ _ _ (g3 (off+i) u (by simpa using hu))) (eS g4 off) hv
  exact⟨v',by simp[execOp,ho,Instr.loadAt,Instr.sureAddr,he,q1],bF (Nat.le_refl _) (Gh.le_refl _ _) (λ_ _ e=>by cases e) _ _ q2⟩
theorem LL{T:TypeId}{d:aU}{p:Operand}{off:Nat}{cs:List LV}{v:LV}(ho:o.op=.load T p)(hok:d.ok P T)(hp:s.aI p)(ha:s.arg p=.ip cs off)(hv:dz d (cs.drop off)=some v)
  (hs:cF E s a w) (aN:∀t,o.dst=some t->t<s.nt) (pre:Prop):bT P E s o a w ⟨pre,v,.no⟩:=
 bT.pure hs aN λG lm hM aK=>by
  have h1:=aW aK p hp;rw[ha]at h1;unfold LR at h1;obtain⟨b,he,hI⟩:=h1;obtain⟨vs,_,g3,g4,_⟩:=KO _ _ hI;obtain⟨v',q1,q2⟩:=fW (w:=w) (b:=b) (off:=off) hok (λi u hu=>hM.qC _ _ _ (by have:=g3 (off+i) u (by simpa using hu);simpa using this)) (eS g4 off) hv
  exact⟨v',by simp[execOp,ho,Instr.loadAt,Instr.sureAddr,he,q1],q2⟩
theorem zh{G:Gh}{lm:Nat->Option Nat}{L:Nat->Option (List LV)}{H:GH}(hM:MR G lm L H w){n g sz:Nat}{e:TypeId}{cs:List LV}{ex:Bool}(hn:H.obj n=some (.vec e g sz cs ex)):
  n<H.next/\G.qY n=g/\0<sz/\∃b C vs rest,G.av n=.slice (some ⟨b,sz,none⟩) 0 C/\C<=maxLen/\G.own b=.nm n/\w.heap[b]?=some (.cells (vs++rest).toArray e (0,0))/\(∀v∈vs++rest,v.oneCell'=true)/\
   bH G H.next ix cs vs/\(vs++rest).length=C*sz/\(ex=true->rest=[])/\sz∣cs.length:=by
 obtain⟨h1,h2,h3,h4⟩:=hM.iC n _ hn;exact⟨h1,h2,h3,h4⟩
theorem LJ{T:TypeId}{d:aU}{p:Operand}{n g off sz:Nat}{e:TypeId}{cs:List LV}{ex:Bool}{v:LV}(ho:o.op=.load T p)(hok:d.ok P T)(hp:s.aI p)(ha:s.arg p=.vp n g off)(hL:s.H.obj n=some (.vec e g sz cs ex))(hv:dz d (cs.drop off)=some v)
  (hs:cF E s a w) (aN:∀t,o.dst=some t->t<s.nt) (pre:Prop):bT P E s o a w ⟨pre,v,.no⟩:=
 bT.pure hs aN λG lm hM aK=>by
  have h1:=aW aK p hp;rw[ha]at h1;unfold LR at h1;obtain⟨_,_,b,o',he,h2⟩:=h1;obtain⟨_,htip,_,b',C,vs,rest,q1,_,_,q2,_,q3,_⟩:=zh hM hL;obtain⟨rfl,sz',C',h3⟩:=h2 htip.symm;rw[q1]at h3;cases h3;obtain⟨v',r1,r2⟩:=fW (w:=w) (b:=b) (off:=o') hok (λi u hu=>by
   rw[cell_of q2];have We:vs[o'+i]?=some u:=by simpa using hu
   have hlt:=(List.getElem?_eq_some_iff.1 We).1;simp only[List.getElem?_toArray,List.getElem?_append_left hlt];exact We) (eS q3 o') hv
  exact⟨v',by simp[execOp,ho,Instr.loadAt,Instr.sureAddr,he,r1],bF (Nat.le_refl _) (Gh.le_refl _ _) (λ_ _ e=>by cases e) _ _ r2⟩
theorem Th{M:Mem}{b o0 es i:Nat}{xs:List (List DV)}(hi:i<xs.length)(uj:∀r∈xs,r.length=es)(h:RR M b o0 xs):(xs.getD i []).length=es/\RC M b (o0+i*es) (xs.getD i []):=by
 have hx:xs[i]?=some (xs.getD i []):=by simp[List.getD,List.getElem?_eq_getElem hi]
 exact⟨uj _ (List.mem_of_getElem? hx),TW uj h i _ hx⟩
theorem AO{T:TypeId}{d:aU}{p:Operand}{xs:List (List DV)}{es i off:Nat}{v:LV}(ho:o.op=.load T p)(hok:d.ok P T)(hp:s.aI p)(ha:s.arg p=.ep xs es i off)
  (hv:(d.k.isAgg=true/\off+d.sz<=es/\v=.agg ((((xs.getD i []).drop off).take d.sz).map .d))\/ (d.k.isAgg=false/\off<es/\v=.d ((xs.getD i []).getD off default)))
  (hs:cF E s a w) (aN:∀t,o.dst=some t->t<s.nt) (pre:Prop):bT P E s o a w ⟨pre,v,.no⟩:=
 bT.pure hs aN λG lm hM aK=>by
  have h1:=aW aK p hp;rw[ha]at h1;unfold LR at h1;obtain⟨b,o0,he,hi,uj,hR⟩:=h1;obtain⟨hl,hC⟩:=Th hi uj hR;generalize xs.getD i []=row at hl hC hv;obtain⟨vs,g1,g2,g3⟩:=Ct (G:=G) (nx:=s.H.next) (lm:=lm) _ _ hC;have Ua:dz d ((row.map LV.d).drop off)=some v:=by
   unfold dz;rcases hv with⟨q1,q2,rfl⟩|⟨q1,q2,rfl⟩
   ·rw[if_pos q1,if_pos (by simp only[List.length_drop,List.length_map];omega)]
    simp[List.map_drop,List.map_take]
   ·rw[if_neg (by simp[q1])]
    rw[List.head?_drop,List.getElem?_map,List.getElem?_eq_getElem (show off<row.length by omega)]
    simp[List.getD,List.getElem?_eq_getElem (show off<row.length by omega)]
  have hcell:∀j u,(vs.drop off)[j]?=some u->w.cell? ⟨b,o0+i*es+off+j,none⟩=some u:=λj u hu=>by
   have:=hM.qC _ _ _ (g2 (off+j) u (by simpa using hu))
   rw[show o0+i*es+off+j=o0+i*es+(off+j)from by omega];exact this
  obtain⟨v',q1,q2⟩:=fW hok hcell (eS g3 off) Ua;exact⟨v',by simp[execOp,ho,Instr.loadAt,Instr.sureAddr,he,q1],q2⟩
end
end Go.Aft
end
section
namespace Go.Aft
def nP(k:Nat)(lm:Nat->Option Nat):Nat->Option Nat:=λj=>if j=k then none else lm j
def fR(G:Gh)(b:Nat)(vs:List Value):Gh:={G with M:=λx o=>if x=b then vs[o]? else G.M x o,own:=λx=>if x=b then .none else G.own x}
mutual
theorem GL{G:Gh}{nx:Nat}{lm lm':Nat->Option Nat}:∀(x:LV) (v:Value),LR G nx lm x v->x.pW=true->LR G nx lm' x v
 |.d x,v,h,_=>by unfold LR at h|-;exact h
 |.lp k off,v,h,hb=>by simp[LV.pW]at hb
 |.gp m off,v,h,hb=>by unfold LR at h|-;exact h
 |.ep xs es i off,v,h,_=>by unfold LR at h|-;exact h
 |.lF m xs,v,h,hb=>by unfold LR at h|-;exact h
 |.gm m,v,h,hb=>by unfold LR at h|-;exact h
 |.vs _ _ _ _ _,v,h,hb=>by unfold LR at h|-;exact h
 |.vp _ _ _,v,h,hb=>by unfold LR at h|-;exact h
 |.yl _,v,h,hb=>by unfold LR at h|-;exact h
 |.ip cs off,v,h,hb=>by unfold LV.pW at hb;unfold LR at h|-;obtain⟨b,h1,h2⟩:=h;exact⟨b,h1,OA b 0 cs h2 hb⟩
 |.fn f first cap,v,h,hb=>by
  unfold LR at h|-;unfold LV.pW at hb;simp only[Bool.and_eq_true]at hb;obtain⟨fs,cs,h1,h2,h3⟩:=h;exact⟨fs,cs,h1,pE _ _ h2 hb.1,pE _ _ h3 hb.2⟩
 |.agg cs,v,h,hb=>by unfold LR at h|-;unfold LV.pW at hb;obtain⟨vs,h1,h2⟩:=h;exact⟨vs,h1,pE _ _ h2 hb⟩
 |.dh cs,v,h,hb=>by unfold LR at h|-;unfold LV.pW at hb;obtain⟨vs,h1,h2⟩:=h;exact⟨vs,h1,pE _ _ h2 hb⟩
 |.gd g raw,v,h,hb=>by unfold LR at h|-;unfold LV.pW at hb;exact⟨λe=>GL raw v (h.1 e) hb,h.2⟩
 |.any,v,_,_=>by simp[LR]
theorem pE{G:Gh}{nx:Nat}{lm lm':Nat->Option Nat}:∀(xs:List LV) (vs:List Value),bH G nx lm xs vs->gT xs=true->bH G nx lm' xs vs
 |[],vs,h,_=>by unfold bH at h|-;exact h
 |c::cs,vs,h,hb=>by
  unfold bH at h|-;unfold gT at hb;simp only[Bool.and_eq_true]at hb;obtain⟨v,r,h1,h2,h3⟩:=h;exact⟨v,r,h1,GL c v h2 hb.1,pE cs r h3 hb.2⟩
theorem OA{G:Gh}{nx:Nat}{lm lm':Nat->Option Nat}:∀(b o:Nat) (xs:List LV),IR G nx lm b o xs->gT xs=true->IR G nx lm' b o xs
 |b,o,[],h,_=>by simp[IR]
 |b,o,c::cs,h,hb=>by
  unfold IR at h|-;unfold gT at hb;simp only[Bool.and_eq_true]at hb;obtain⟨⟨v,h1,zw,h2⟩,h3⟩:=h;exact⟨⟨v,h1,zw,GL c v h2 hb.1⟩,OA b (o+1) cs h3 hb.2⟩
end
mutual
theorem GJ{G G':Gh}{nx k b0:Nat}{lm:Nat->Option Nat}{cs:List LV}(hl:lm k=some b0)(hle:G.le nx G')(hI:IR G' nx (nP k lm) b0 0 cs):∀(x:LV) (v:Value),LR G nx lm x v->LR G' nx (nP k lm) (x.sub k cs) v
 |.d x,v,h=>by unfold LV.sub;unfold LR at h|-;exact qx hle.M _ _ h
 |.lp j off,v,h=>by
  unfold LV.sub;unfold LR at h;obtain⟨b,h1,h2⟩:=h;by_cases e:j=k
  ·subst e;rw[if_pos rfl];unfold LR;rw[hl]at h1;cases h1;exact⟨b0,h2,hI⟩
  ·rw[if_neg e];unfold LR;exact⟨b,by simp only[nP,if_neg e];exact h1,h2⟩
 |.gp m off,v,h=>by have:=bF (Nat.le_refl _) hle (λ_ _ e=>e) _ _ h;unfold LV.sub;unfold LR at this|-;exact this
 |.ep xs es i off,v,h=>by have:=bF (Nat.le_refl _) hle (λ_ _ e=>e) _ _ h;unfold LV.sub;unfold LR at this|-;exact this
 |.lF m xs,v,h=>by have:=bF (Nat.le_refl _) hle (λ_ _ e=>e) _ _ h;unfold LV.sub;unfold LR at this|-;exact this
 |.gm m,v,h=>by have:=bF (Nat.le_refl _) hle (λ_ _ e=>e) _ _ h;unfold LV.sub;unfold LR at this|-;exact this
 |.vs _ _ _ _ _,v,h=>by have:=bF (Nat.le_refl _) hle (λ_ _ e=>e) _ _ h;unfold LV.sub;unfold LR at this|-;exact this
 |.vp _ _ _,v,h=>by have:=bF (Nat.le_refl _) hle (λ_ _ e=>e) _ _ h;unfold LV.sub;unfold LR at this|-;exact this
 |.yl _,v,h=>by have:=bF (Nat.le_refl _) hle (λ_ _ e=>e) _ _ h;unfold LV.sub;unfold LR at this|-;exact this
 |.ip xs off,v,h=>by unfold LV.sub;unfold LR at h|-;obtain⟨b,h1,h2⟩:=h;exact⟨b,h1,T3 hl hle hI b 0 xs h2⟩
 |.fn f first cap,v,h=>by
  unfold LV.sub;unfold LR at h|-;obtain⟨fs,us,h1,h2,h3⟩:=h;exact⟨fs,us,h1,tE hl hle hI _ _ h2,tE hl hle hI _ _ h3⟩
 |.agg xs,v,h=>by unfold LV.sub;unfold LR at h|-;obtain⟨vs,h1,h2⟩:=h;exact⟨vs,h1,tE hl hle hI _ _ h2⟩
 |.dh xs,v,h=>by unfold LV.sub;unfold LR at h|-;obtain⟨vs,h1,h2⟩:=h;exact⟨vs,h1,tE hl hle hI _ _ h2⟩
 |.gd g raw,v,h=>by unfold LV.sub;unfold LR at h|-;exact⟨λe=>GJ hl hle hI raw v (h.1 e),h.2⟩
 |.any,v,h=>by unfold LV.sub;simp[LR]
theorem tE{G G':Gh}{nx k b0:Nat}{lm:Nat->Option Nat}{cs:List LV}(hl:lm k=some b0)(hle:G.le nx G')(hI:IR G' nx (nP k lm) b0 0 cs):∀(xs:List LV) (vs:List Value),bH G nx lm xs vs->bH G' nx (nP k lm) (qL k cs xs) vs
 |[],vs,h=>by unfold qL;unfold bH at h|-;exact h
 |x::xs,vs,h=>by
  unfold qL;unfold bH at h|-;obtain⟨v,r,h1,h2,h3⟩:=h;exact⟨v,r,h1,GJ hl hle hI x v h2,tE hl hle hI xs r h3⟩
theorem T3{G G':Gh}{nx k b0:Nat}{lm:Nat->Option Nat}{cs:List LV}(hl:lm k=some b0)(hle:G.le nx G')(hI:IR G' nx (nP k lm) b0 0 cs):∀(b o:Nat) (xs:List LV),IR G nx lm b o xs->IR G' nx (nP k lm) b o (qL k cs xs)
 |b,o,[],h=>by unfold qL;simp[IR]
 |b,o,x::xs,h=>by
  unfold qL;unfold IR at h|-;obtain⟨⟨v,h1,zw,h2⟩,h3⟩:=h;exact⟨⟨v,hle.M _ _ _ h1,zw,GJ hl hle hI x v h2⟩,T3 hl hle hI b (o+1) xs h3⟩
end
section
variable {E:tL} {G:Gh} {lm:Nat->Option Nat} {L:Nat->Option (List LV)} {H:GH} {w:World}
theorem MR.af3(h:MR G lm L H w)(hx:Ext E G H w)(k b:Nat)(hb:lm k=some b){cs:List LV}(hk:L k=some cs)(hn:gT cs=true):
  ∃G',MR G' (nP k lm) (λj=>if j=k then none else(L j).map (qL k cs)) H w/\Ext E G' H w/\G.le H.next G'/\IR G' H.next (nP k lm) b 0 cs:=by
 obtain⟨b',vs,g1,g2,g3,g4⟩:=h.loc k cs hk;have:b'=b:=by rw[g1]at hb;exact Option.some.inj hb
 subst this;obtain⟨T,g3a,g3b⟩:=g3;have zq:∀o v,G.M b' o≠some v:=λo v hv=>by
  rcases h.dF b' o v hv with q|⟨n,e,sz,m,q,_⟩<;>rw[g2]at q<;>cases q
 have hle:G.le H.next (fR G b' vs):=⟨λb o v hv=>by
   have:b≠b':=λe=>zq o v (e▸hv)
   simp only[fR,if_neg this];exact hv,λ_ _=>rfl,λ_ _=>⟨Nat.le_refl _,λ_=>rfl⟩⟩
 have hI:IR (fR G b' vs) H.next (nP k lm) b' 0 cs:=T4 (pE _ _ (ca (Nat.le_refl _) hle (λ_ _ e=>e) _ _ g4) hn) (λi v hv=>by simp only[fR,if_true,Nat.zero_add];exact hv) g3b
 have hown:∀x,x≠b'->(fR G b' vs).own x=G.own x:=λx hx=>by simp only[fR,if_neg hx]
 refine⟨fR G b' vs,⟨λx o v hv=>?_,λx o v hv=>?_,λx hx=>?_,λj hj=>?_,λj cs' hj=>?_,λn o hn'=>?_⟩,?_,hle,hI⟩
 ·by_cases e:x=b'
  ·subst e;simp only[fR,if_true]at hv;rw[cell_of g3a];simpa using hv
  ·simp only[fR,if_neg e]at hv;exact h.qC x o v hv
 ·by_cases e:x=b'
  ·subst e;left;simp[fR]
  ·simp only[fR,if_neg e]at hv|-;exact h.dF x o v hv
 ·have hlt:=eN g3a;have e:x≠b':=by omega
  have:=h.fresh x hx;simp only[fR,if_neg e];exact this
 ·by_cases e:j=k
  ·simp[nP,e]
  ·simp only[nP,if_neg e];refine h.C3 j ?_;simp only[if_neg e]at hj;cases hL:L j with
   |none=>rfl
   |some x=>rw[hL]at hj;cases hj
 ·by_cases e:j=k
  ·simp[e]at hj
  ·simp only[if_neg e]at hj;cases hL:L j with
   |none=>rw[hL]at hj;cases hj
   |some x=>
    rw[hL]at hj;cases hj;obtain⟨c,us,q1,q2,q3,q4⟩:=h.loc j x hL;have hc:c≠b':=λe'=>by rw[e',g2]at q2;cases q2;exact e rfl
    exact⟨c,us,by simp only[nP,if_neg e];exact q1,by rw[hown c hc];exact q2,q3,tE hb hle hI _ _ q4⟩
 ·obtain⟨q1,q2⟩:=h.iC n o hn';refine⟨q1,fM (Nat.le_refl _) q1 hle q2 ⟨rfl,rfl⟩ λx hx=>?_⟩
  have hne:x≠b':=λe=>by rw[e,g2]at hx;cases hx
  exact⟨by rw[hown x hne];exact hx,rfl,λo v hv=>by simpa only[fR,if_neg hne]using hv⟩
 ·refine⟨⟨Gh.le_trans hx.nx hx.le hle,hx.nx,hx.os,hx.tape,hx.output,hx.drawn,hx.size,hx.frame,λx hx'=>?_⟩,hx.nl⟩
  by_cases e:x=b'
  ·subst e;rcases hx.own x hx' with q|⟨_,q⟩
   ·rw[g2]at q;exact absurd q.symm (hx.nl _ _)
   ·rw[g2]at q;cases q
  ·rw[hown x e];exact hx.own x hx'
end
def S.frz(s:S)(k:Nat)(cs:List LV):S:={s with L:=λj=>if j=k then none else(s.L j).map (qL k cs),env:=λt=>(s.env t).sub k cs}
theorem cF.frz{E:tL}{s:S}{a:Act}{w:World}(h:cF E s a w){k:Nat}{cs:List LV}(hk:s.L k=some cs)(hn:gT cs=true):cF E (s.frz k cs) a w:=by
 obtain⟨h2,G,lm,h1,hM,hx,aK,_⟩:=h;obtain⟨b,vs,g1,_⟩:=hM.loc k cs hk;obtain⟨G',q1,q2,q3,q4⟩:=hM.af3 hx k b g1 hk hn;exact⟨h2,G',nP k lm,ct (Nat.le_refl _) q3 _ _ h1,q1,q2,λt=>GJ g1 q3 q4 _ _ (aK t),rfl⟩
end Go.Aft
end
