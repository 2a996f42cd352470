import Derived.WalkKit
import Derived.KernelRfl
set_option linter.all false
section
namespace Go.Aft
inductive DV where
 |k (v:Value)
 |sl (xs:List (List DV))
instance:Inhabited DV:=⟨.k undef⟩
inductive LV where
 |d (x:DV)
 |lp (k off:Nat)
 |gp (n off:Nat)
 |ep (xs:List (List DV)) (es i off:Nat)
 |lF (n:Nat) (xs:List (List DV))
 |gm (n:Nat)
 |vs (n g sz i len:Nat)
 |vp (n g o:Nat)
 |yl (n:Nat)
 |ip (cs:List LV) (off:Nat)
 |fn (f:Fn) (first cap:List LV)
 |agg (cs:List LV)
 |dh (vs:List LV)
 |gd (g:Bool) (raw:LV)
 |any
instance:Inhabited LV:=⟨.any⟩
inductive AD where
 |mark (n:Nat)
 |call (f:FuncId) (args cap:List LV)
abbrev Mem:=Nat->Nat->Option Value
mutual
def DR(M:Mem):DV->Value->Prop
 |.k v,x=>x=v/\v.oneCell'=true
 |.sl xs,x=>∃a cap sz,x=.slice a xs.length cap/\xs.length<=cap/\cap<=maxLen/\(∀r∈xs,r.length=sz)/\(xs=[]\/ ∃b o,a=some ⟨b,o,none⟩/\RR M b o xs)
def RC(M:Mem)(b o:Nat):List DV->Prop
 |[]=>True
 |c::cs=>(∃v,M b o=some v/\DR M c v)/\RC M b (o+1) cs
def RR(M:Mem)(b o:Nat):List (List DV)->Prop
 |[]=>True
 |r::rs=>RC M b o r/\RR M b (o+r.length) rs
end
def Mem.le(M M':Mem):Prop:=∀b o v,M b o=some v->M' b o=some v
theorem Mem.le_refl(M:Mem):M.le M:=λ_ _ _ h=>h
theorem Mem.le_trans{A B C:Mem}(h:A.le B)(k:B.le C):A.le C:=λb o v x=>k b o v (h b o v x)
mutual
theorem qx{M M':Mem}(h:M.le M'):∀(d:DV) (x:Value),DR M d x->DR M' d x
 |.k v,x,hx=>by simpa[DR]using hx
 |.sl xs,x,hx=>by
  unfold DR at hx|-;obtain⟨a,cap,sz,e,h1,h2,h3,h4⟩:=hx;refine⟨a,cap,sz,e,h1,h2,h3,?_⟩;rcases h4 with h4|⟨b,o,e2,h4⟩
  ·exact .inl h4
  ·exact .inr ⟨b,o,e2,Gy h b o xs h4⟩
theorem Oq{M M':Mem}(h:M.le M'):∀(b o:Nat) (r:List DV),RC M b o r->RC M' b o r
 |b,o,[],hx=>by simp[RC]
 |b,o,c::cs,hx=>by
  unfold RC at hx|-;obtain⟨⟨v,h1,h2⟩,h3⟩:=hx;exact⟨⟨v,h _ _ _ h1,qx h c v h2⟩,Oq h b (o+1) cs h3⟩
theorem Gy{M M':Mem}(h:M.le M'):∀(b o:Nat) (xs:List (List DV)),RR M b o xs->RR M' b o xs
 |b,o,[],hx=>by simp[RR]
 |b,o,r::rs,hx=>by
  unfold RR at hx|-;exact⟨Oq h b o r hx.1,Gy h b (o+r.length) rs hx.2⟩
end
inductive Own where
 |none|loc (k:Nat)|nm (n:Nat)|qk
 deriving DecidableEq
structure Gh where
 M:Mem
 own:Nat->Own
 nm:Nat->Nat
 av:Nat->Value
 qY:Nat->Nat
mutual
def LR(G:Gh)(nx:Nat)(lm:Nat->Option Nat):LV->Value->Prop
 |.d x,v=>DR G.M x v
 |.lp k off,v=>∃b,lm k=some b/\v=.pointer (some ⟨b,off,none⟩)
 |.gp n off,v=>n<nx/\v=.pointer (some ⟨G.nm n,off,none⟩)
 |.ep xs es i off,v=>∃b o,v=.pointer (some ⟨b,o+i*es+off,none⟩)/\i<xs.length/\(∀r∈xs,r.length=es)/\RR G.M b o xs
 |.lF n xs,v=>n<nx/\DR G.M (.sl xs) v/\xs.length<=G.qY n/\(xs.length=G.qY n->v=G.av n)
 |.gm n,v=>n<nx/\v=.map (some (G.nm n))
 |.vs n g sz i len,v=>n<nx/\g<=G.qY n/\∃b o cap,v=.slice (some ⟨b,o,none⟩) len cap/\len<=cap/\cap<=maxLen/\(g=G.qY n->∃C,G.av n=.slice (some ⟨b,sz,none⟩) 0 C/\i+cap=C/\(i<C->o=i*sz))
 |.vp n g o,v=>n<nx/\g<=G.qY n/\∃b o',v=.pointer (some ⟨b,o',none⟩)/\(g=G.qY n->o'=o/\∃sz C,G.av n=.slice (some ⟨b,sz,none⟩) 0 C)
 |.yl n,v=>n<nx/\v=.func (.yield (G.nm n)) #[] #[]
 |.ip cs off,v=>∃b,v=.pointer (some ⟨b,off,none⟩)/\IR G nx lm b 0 cs
 |.fn f first cap,v=>∃fs cs,v=.func f fs.toArray cs.toArray/\bH G nx lm first fs/\bH G nx lm cap cs
 |.agg cs,v=>∃vs,v=.agg vs.toArray/\bH G nx lm cs vs
 |.dh cs,v=>∃vs,v=.tuple vs.toArray/\bH G nx lm cs vs
 |.gd g raw,v=>(g=true->LR G nx lm raw v)/\(g=false->v=undef)
 |.any,_=>True
def bH(G:Gh)(nx:Nat)(lm:Nat->Option Nat):List LV->List Value->Prop
 |[],vs=>vs=[]
 |c::cs,vs=>∃v r,vs=v::r/\LR G nx lm c v/\bH G nx lm cs r
def IR(G:Gh)(nx:Nat)(lm:Nat->Option Nat)(b o:Nat):List LV->Prop
 |[]=>True
 |c::cs=>(∃v,G.M b o=some v/\v.oneCell'=true/\LR G nx lm c v)/\IR G nx lm b (o+1) cs
end
def DFR(G:Gh)(nx:Nat):AD->Deferred->Prop
 |.mark n,d=>n<nx/\d=⟨.collected (G.nm n),#[]⟩
 |.call f args cap,d=>∃xs cs:List Value,d=⟨.fn (.func f) cs.toArray,xs.toArray⟩/\bH G nx (λ_=>none) args xs/\bH G nx (λ_=>none) cap cs
def GP(G:Gh)(nx:Nat):List AD->List Deferred->Prop
 |[],ds=>ds=[]
 |x::xs,ds=>∃d r,ds=d::r/\DFR G nx x d/\GP G nx xs r
structure Gh.le(nx:Nat)(G G':Gh):Prop where
 M:G.M.le G'.M
 nm:∀n,n<nx->G'.nm n=G.nm n
 qY:∀n,n<nx->G.qY n<=G'.qY n/\(G'.qY n=G.qY n->G'.av n=G.av n)
theorem Gh.le_refl(nx:Nat)(G:Gh):G.le nx G:=⟨Mem.le_refl _,λ_ _=>rfl,λ_ _=>⟨Nat.le_refl _,λ_=>rfl⟩⟩
theorem Gh.le_trans{nx nx':Nat}(hn:nx<=nx'){A B C:Gh}(h:A.le nx B)(k:B.le nx' C):A.le nx C where
 M:=Mem.le_trans h.M k.M
 nm n hl:=(k.nm n (by omega)).trans (h.nm n hl)
 qY n hl:=by
  have a:=h.qY n hl;have b:=k.qY n (by omega)
  exact⟨by omega,λe=>(b.2 (by omega)).trans (a.2 (by omega))⟩
mutual
theorem bF{nx nx':Nat}{G G':Gh}{lm lm':Nat->Option Nat}(hn:nx<=nx')(h:G.le nx G')(hl:∀k b,lm k=some b->lm' k=some b):
  ∀(x:LV) (v:Value),LR G nx lm x v->LR G' nx' lm' x v
 |.d x,v,hx=>by unfold LR at hx|-;exact qx h.M _ _ hx
 |.lp k off,v,hx=>by unfold LR at hx|-;obtain⟨b,h1,h2⟩:=hx;exact⟨b,hl _ _ h1,h2⟩
 |.gp n off,v,hx=>by unfold LR at hx|-;obtain⟨h1,h2⟩:=hx;exact⟨by omega,by rw[h.nm n h1];exact h2⟩
 |.ep xs es i off,v,hx=>by unfold LR at hx|-;obtain⟨b,o,h1,h0,h2,h3⟩:=hx;exact⟨b,o,h1,h0,h2,Gy h.M _ _ _ h3⟩
 |.lF n xs,v,hx=>by
  unfold LR at hx|-;obtain⟨h1,h2,h3,h4⟩:=hx;have t:=h.qY n h1;exact⟨by omega,qx h.M _ _ h2,by omega,λe=>by rw[t.2 (by omega)];exact h4 (by omega)⟩
 |.gm n,v,hx=>by unfold LR at hx|-;obtain⟨h1,h2⟩:=hx;exact⟨by omega,by rw[h.nm n h1];exact h2⟩
 |.vs n g sz i len,v,hx=>by
  unfold LR at hx|-;obtain⟨h1,h2,b,o,cap,h3,h4,h5,h6⟩:=hx;have t:=h.qY n h1;exact⟨by omega,by omega,b,o,cap,h3,h4,h5,λe=>by rw[t.2 (by omega)];exact h6 (by omega)⟩
 |.vp n g o,v,hx=>by
  unfold LR at hx|-;obtain⟨h1,h2,b,o',h3,h4⟩:=hx;have t:=h.qY n h1;exact⟨by omega,by omega,b,o',h3,λe=>by rw[t.2 (by omega)];exact h4 (by omega)⟩
 |.yl n,v,hx=>by unfold LR at hx|-;obtain⟨h1,h2⟩:=hx;exact⟨by omega,by rw[h.nm n h1];exact h2⟩
 |.ip cs off,v,hx=>by unfold LR at hx|-;obtain⟨b,h1,h2⟩:=hx;exact⟨b,h1,OB hn h hl b 0 cs h2⟩
 |.fn f first cap,v,hx=>by
  unfold LR at hx|-;obtain⟨fs,cs,h1,h2,h3⟩:=hx;exact⟨fs,cs,h1,ca hn h hl _ _ h2,ca hn h hl _ _ h3⟩
 |.agg cs,v,hx=>by unfold LR at hx|-;obtain⟨vs,h1,h2⟩:=hx;exact⟨vs,h1,ca hn h hl _ _ h2⟩
 |.dh cs,v,hx=>by unfold LR at hx|-;obtain⟨vs,h1,h2⟩:=hx;exact⟨vs,h1,ca hn h hl _ _ h2⟩
 |.gd g raw,v,hx=>by unfold LR at hx|-;exact⟨λe=>bF hn h hl raw v (hx.1 e),hx.2⟩
 |.any,v,hx=>by simp[LR]
theorem ca{nx nx':Nat}{G G':Gh}{lm lm':Nat->Option Nat}(hn:nx<=nx')(h:G.le nx G')(hl:∀k b,lm k=some b->lm' k=some b):
  ∀(xs:List LV) (vs:List Value),bH G nx lm xs vs->bH G' nx' lm' xs vs
 |[],vs,hx=>by unfold bH at hx|-;exact hx
 |c::cs,vs,hx=>by
  unfold bH at hx|-;obtain⟨v,r,h1,h2,h3⟩:=hx;exact⟨v,r,h1,bF hn h hl c v h2,ca hn h hl cs r h3⟩
theorem OB{nx nx':Nat}{G G':Gh}{lm lm':Nat->Option Nat}(hn:nx<=nx')(h:G.le nx G')(hl:∀k b,lm k=some b->lm' k=some b):
  ∀(b o:Nat) (xs:List LV),IR G nx lm b o xs->IR G' nx' lm' b o xs
 |b,o,[],hx=>by simp[IR]
 |b,o,c::cs,hx=>by
  unfold IR at hx|-;obtain⟨⟨v,h1,zw,h2⟩,h3⟩:=hx;exact⟨⟨v,h.M _ _ _ h1,zw,bF hn h hl c v h2⟩,OB hn h hl b (o+1) cs h3⟩
end
theorem T6{nx nx':Nat}{G G':Gh}(hn:nx<=nx')(h:G.le nx G'):∀(x:AD) (d:Deferred),DFR G nx x d->DFR G' nx' x d
 |.mark n,d,⟨h1,h2⟩=>⟨by omega,by rw[h.nm n h1];exact h2⟩
 |.call f args cap,d,⟨xs,cs,h1,h2,h3⟩=>⟨xs,cs,h1,ca hn h (λ_ _ e=>e) _ _ h2,ca hn h (λ_ _ e=>e) _ _ h3⟩
theorem ct{nx nx':Nat}{G G':Gh}(hn:nx<=nx')(h:G.le nx G'):∀(xs:List AD) (ds:List Deferred),GP G nx xs ds->GP G' nx' xs ds
 |[],ds,hx=>hx
 |x::xs,ds,⟨d,r,h1,h2,h3⟩=>⟨d,r,h1,T6 hn h x d h2,ct hn h xs r h3⟩
mutual
def LV.nb(n:Nat):LV->Prop
 |.d _=>True
 |.lp _ _=>False
 |.gp m _=>m<n
 |.ep _ _ _ _=>True
 |.lF m _=>m<n
 |.gm m=>m<n
 |.vs m _ _ _ _=>m<n
 |.vp m _ _=>m<n
 |.yl m=>m<n
 |.ip cs _=>cD n cs
 |.fn _ first cap=>cD n first/\cD n cap
 |.agg cs=>cD n cs
 |.dh cs=>cD n cs
 |.gd g raw=>g=true->LV.nb n raw
 |.any=>True
def cD(n:Nat):List LV->Prop
 |[]=>True
 |c::cs=>LV.nb n c/\cD n cs
end
mutual
theorem jO{G:Gh}{nx n:Nat}{lm:Nat->Option Nat}:∀(x:LV) (v:Value),LR G nx lm x v->x.nb n->LR G n (λ_=>none) x v
 |.d x,v,h,_=>by unfold LR at h|-;exact h
 |.lp k off,v,h,hb=>by simp[LV.nb]at hb
 |.gp m off,v,h,hb=>by unfold LR at h|-;exact⟨by simpa[LV.nb]using hb,h.2⟩
 |.ep xs es i off,v,h,_=>by unfold LR at h|-;exact h
 |.lF m xs,v,h,hb=>by unfold LR at h|-;exact⟨by simpa[LV.nb]using hb,h.2⟩
 |.gm m,v,h,hb=>by unfold LR at h|-;exact⟨by simpa[LV.nb]using hb,h.2⟩
 |.vs m _ _ _ _,v,h,hb=>by unfold LR at h|-;exact⟨by simpa[LV.nb]using hb,h.2⟩
 |.vp m _ _,v,h,hb=>by unfold LR at h|-;exact⟨by simpa[LV.nb]using hb,h.2⟩
 |.yl m,v,h,hb=>by unfold LR at h|-;exact⟨by simpa[LV.nb]using hb,h.2⟩
 |.ip cs off,v,h,hb=>by unfold LR at h|-;unfold LV.nb at hb;obtain⟨b,h1,h2⟩:=h;exact⟨b,h1,OD b 0 cs h2 hb⟩
 |.fn f first cap,v,h,hb=>by
  unfold LR at h|-;unfold LV.nb at hb;obtain⟨fs,cs,h1,h2,h3⟩:=h;exact⟨fs,cs,h1,dm _ _ h2 hb.1,dm _ _ h3 hb.2⟩
 |.agg cs,v,h,hb=>by unfold LR at h|-;unfold LV.nb at hb;obtain⟨vs,h1,h2⟩:=h;exact⟨vs,h1,dm _ _ h2 hb⟩
 |.dh cs,v,h,hb=>by unfold LR at h|-;unfold LV.nb at hb;obtain⟨vs,h1,h2⟩:=h;exact⟨vs,h1,dm _ _ h2 hb⟩
 |.gd g raw,v,h,hb=>by unfold LR at h|-;unfold LV.nb at hb;exact⟨λe=>jO raw v (h.1 e) (hb e),h.2⟩
 |.any,v,_,_=>by simp[LR]
theorem dm{G:Gh}{nx n:Nat}{lm:Nat->Option Nat}:∀(xs:List LV) (vs:List Value),bH G nx lm xs vs->cD n xs->bH G n (λ_=>none) xs vs
 |[],vs,h,_=>by unfold bH at h|-;exact h
 |c::cs,vs,h,hb=>by
  unfold bH at h|-;unfold cD at hb;obtain⟨v,r,h1,h2,h3⟩:=h;exact⟨v,r,h1,jO c v h2 hb.1,dm cs r h3 hb.2⟩
theorem OD{G:Gh}{nx n:Nat}{lm:Nat->Option Nat}:∀(b o:Nat) (xs:List LV),IR G nx lm b o xs->cD n xs->IR G n (λ_=>none) b o xs
 |b,o,[],h,_=>by simp[IR]
 |b,o,c::cs,h,hb=>by
  unfold IR at h|-;unfold cD at hb;obtain⟨⟨v,h1,zw,h2⟩,h3⟩:=h;exact⟨⟨v,h1,zw,jO c v h2 hb.1⟩,OD b (o+1) cs h3 hb.2⟩
end
mutual
theorem Ox{G:Gh}{nx:Nat}:∀(x:LV) (v:Value),LR G nx (λ_=>none) x v->x.nb nx
 |.d x,v,h=>by simp[LV.nb]
 |.lp k off,v,h=>by unfold LR at h;obtain⟨b,h,_⟩:=h;cases h
 |.gp m off,v,h=>by unfold LR at h;simpa[LV.nb]using h.1
 |.ep xs es i off,v,h=>by simp[LV.nb]
 |.lF m xs,v,h=>by unfold LR at h;simpa[LV.nb]using h.1
 |.gm m,v,h=>by unfold LR at h;simpa[LV.nb]using h.1
 |.vs m _ _ _ _,v,h=>by unfold LR at h;simpa[LV.nb]using h.1
 |.vp m _ _,v,h=>by unfold LR at h;simpa[LV.nb]using h.1
 |.yl m,v,h=>by unfold LR at h;simpa[LV.nb]using h.1
 |.ip cs off,v,h=>by unfold LR at h;unfold LV.nb;obtain⟨b,h1,h2⟩:=h;exact Zi b 0 cs h2
 |.fn f first cap,v,h=>by unfold LR at h;obtain⟨fs,cs,_,h2,h3⟩:=h;unfold LV.nb;exact⟨qw _ _ h2,qw _ _ h3⟩
 |.agg cs,v,h=>by unfold LR at h;obtain⟨vs,_,h2⟩:=h;unfold LV.nb;exact qw _ _ h2
 |.dh cs,v,h=>by unfold LR at h;obtain⟨vs,_,h2⟩:=h;unfold LV.nb;exact qw _ _ h2
 |.gd g raw,v,h=>by unfold LR at h;unfold LV.nb;exact λe=>Ox raw v (h.1 e)
 |.any,v,_=>by simp[LV.nb]
theorem qw{G:Gh}{nx:Nat}:∀(xs:List LV) (vs:List Value),bH G nx (λ_=>none) xs vs->cD nx xs
 |[],vs,h=>by simp[cD]
 |c::cs,vs,h=>by
  unfold bH at h;unfold cD;obtain⟨v,r,_,h2,h3⟩:=h;exact⟨Ox c v h2,qw cs r h3⟩
theorem Zi{G:Gh}{nx:Nat}:∀(b o:Nat) (xs:List LV),IR G nx (λ_=>none) b o xs->cD nx xs
 |b,o,[],h=>by simp[cD]
 |b,o,c::cs,h=>by
  unfold IR at h;unfold cD;obtain⟨⟨v,h1,zw,h2⟩,h3⟩:=h;exact⟨Ox c v h2,Zi b (o+1) cs h3⟩
end
theorem bN{G:Gh}{nx:Nat}{lm:Nat->Option Nat}:∀{xs:List LV} {vs:List Value},bH G nx lm xs vs->vs.length=xs.length
 |[],vs,h=>by unfold bH at h;simp[h]
 |c::cs,vs,h=>by
  unfold bH at h;obtain⟨v,r,rfl,_,h3⟩:=h;simp[bN h3]
theorem kM{G:Gh}{nx:Nat}{lm:Nat->Option Nat}:∀{xs:List LV} {vs:List Value},bH G nx lm xs vs->∀(i:Nat) (x:LV),xs[i]?=some x->∃v,vs[i]?=some v/\LR G nx lm x v
 |[],vs,h,i,x,hx=>by simp at hx
 |c::cs,vs,h,i,x,hx=>by
  unfold bH at h;obtain⟨v,r,rfl,h2,h3⟩:=h;cases i with
  |zero=>simp at hx;subst hx;exact⟨v,by simp,h2⟩
  |succ i=>simp at hx;simpa using kM h3 i x hx
theorem vg{G:Gh}{nx:Nat}{lm:Nat->Option Nat}:∀{xs:List LV} {vs:List Value},vs.length=xs.length->(∀(i:Nat) (x:LV) (v:Value),xs[i]?=some x->vs[i]?=some v->LR G nx lm x v)->bH G nx lm xs vs
 |[],vs,h,_=>by unfold bH;exact List.eq_nil_of_length_eq_zero (by simpa using h)
 |c::cs,vs,h,hx=>by
  cases vs with
  |nil=>simp at h
  |cons v r=>
   unfold bH;exact⟨v,r,rfl,hx 0 c v rfl rfl,vg (by simpa using h) λi x v h1 h2=>hx (i+1) x v (by simpa using h1) (by simpa using h2)⟩
theorem py{G:Gh}{nx:Nat}{lm:Nat->Option Nat}{xs:List LV}{vs:List Value}(h:bH G nx lm xs vs)(n:Nat):bH G nx lm (xs.take n) (vs.take n):=
 vg (by simp[bN h]) λi x v h1 h2=>by
  rw[List.getElem?_take]at h1 h2
  split at h1
  ·rename_i hi;rw[if_pos hi]at h2;obtain⟨v',h3,h4⟩:=kM h i x h1;rw[h3]at h2;cases h2;exact h4
  ·cases h1
theorem eS{G:Gh}{nx:Nat}{lm:Nat->Option Nat}{xs:List LV}{vs:List Value}(h:bH G nx lm xs vs)(n:Nat):bH G nx lm (xs.drop n) (vs.drop n):=
 vg (by simp[bN h]) λi x v h1 h2=>by
  rw[List.getElem?_drop]at h1 h2;obtain⟨v',h3,h4⟩:=kM h _ x h1;rw[h3]at h2;cases h2;exact h4
theorem eF{G:Gh}{nx:Nat}{lm:Nat->Option Nat}:∀{xs ys:List LV} {vs us:List Value},bH G nx lm xs vs->bH G nx lm ys us->bH G nx lm (xs++ys) (vs++us)
 |[],ys,vs,us,h,k=>by unfold bH at h;subst h;simpa using k
 |c::cs,ys,vs,us,h,k=>by
  unfold bH at h;obtain⟨v,r,rfl,h2,h3⟩:=h;simp only[List.cons_append];unfold bH;exact⟨v,r++us,rfl,h2,eF h3 k⟩
theorem KO{G:Gh}{nx:Nat}{lm:Nat->Option Nat}{b:Nat}:∀(cs:List LV) (o:Nat),IR G nx lm b o cs->∃vs:List Value,vs.length=cs.length/\(∀i v,vs[i]?=some v->G.M b (o+i)=some v)/\bH G nx lm cs vs/\∀v∈vs,v.oneCell'=true
 |[],o,h=>⟨[],rfl,by simp,by simp[bH],by simp⟩
 |c::cs,o,h=>by
  unfold IR at h;obtain⟨⟨v,h1,zw,h2⟩,h3⟩:=h;obtain⟨vs,g1,g2,g3,g4⟩:=KO (G:=G) (nx:=nx) (lm:=lm) cs (o+1) h3;refine⟨v::vs,by simp[g1],λi u hu=>?_,by unfold bH;exact⟨v,vs,rfl,h2,g3⟩,?_⟩
  ·cases i with
   |zero=>simp at hu;subst hu;exact h1
   |succ i=>simp at hu;have:=g2 i u hu;rw[show o+(i+1)=o+1+i from by omega];exact this
  ·intro u hu;rcases List.mem_cons.1 hu with rfl|hu
   ·exact zw
   ·exact g4 u hu
theorem T4{G:Gh}{nx:Nat}{lm:Nat->Option Nat}{b:Nat}:∀{cs:List LV} {vs:List Value} {o:Nat},bH G nx lm cs vs->(∀(i:Nat) (v:Value),vs[i]?=some v->G.M b (o+i)=some v)->(∀v∈vs,v.oneCell'=true)->IR G nx lm b o cs
 |[],vs,o,h,_,_=>by simp[IR]
 |c::cs,vs,o,h,hm,h1=>by
  unfold bH at h;obtain⟨v,r,rfl,h2,h3⟩:=h;unfold IR;exact⟨⟨v,by simpa using hm 0 v rfl,h1 v (by simp),h2⟩,T4 h3 (λi u hu=>by have:=hm (i+1) u (by simpa using hu);rw[show o+(i+1)=o+1+i from by omega]at this;exact this) λu hu=>h1 u (by simp[hu])⟩
theorem Ct{G:Gh}{nx:Nat}{lm:Nat->Option Nat}{b:Nat}:∀(r:List DV) (o:Nat),RC G.M b o r->∃vs:List Value,vs.length=r.length/\(∀i v,vs[i]?=some v->G.M b (o+i)=some v)/\bH G nx lm (r.map .d) vs
 |[],o,h=>⟨[],rfl,by simp,by simp[bH]⟩
 |c::cs,o,h=>by
  unfold RC at h;obtain⟨⟨v,h1,h2⟩,h3⟩:=h;obtain⟨vs,g1,g2,g3⟩:=Ct (G:=G) (nx:=nx) (lm:=lm) cs (o+1) h3;refine⟨v::vs,by simp[g1],λi u hu=>?_,?_⟩
  ·cases i with
   |zero=>simp at hu;subst hu;exact h1
   |succ i=>simp at hu;have:=g2 i u hu;rw[show o+(i+1)=o+1+i from by omega];exact this
  ·simp only[List.map_cons];unfold bH;exact⟨v,vs,rfl,by unfold LR;exact h2,g3⟩
theorem TW{M:Mem}{b sz:Nat}:∀{xs:List (List DV)} {o:Nat},(∀r∈xs,r.length=sz)->RR M b o xs->∀(i:Nat) (r:List DV),xs[i]?=some r->RC M b (o+i*sz) r
 |[],o,_,_,i,r,h=>by simp at h
 |x::xs,o,hs,h,i,r,hr=>by
  unfold RR at h;cases i with
  |zero=>simp at hr;subst hr;simpa using h.1
  |succ i=>
   simp at hr;have:=TW (λr hr=>hs r (List.mem_cons_of_mem _ hr)) h.2 i r hr
   have hx:=hs x (List.mem_cons_self ..);rw[show o+(i+1)*sz=o+x.length+i*sz from by rw[hx,Nat.succ_mul];omega];exact this
theorem Gx{M:Mem}{b:Nat}:∀{xs:List (List DV)} {o:Nat},RR M b o xs->∀n,RR M b o (xs.take n)
 |[],o,h,n=>by simp[RR]
 |x::xs,o,h,n=>by
  unfold RR at h;cases n with
  |zero=>simp[RR]
  |succ n=>simp only[List.take_succ_cons];unfold RR;exact⟨h.1,Gx h.2 n⟩
theorem Gz{M:Mem}{b sz:Nat}:∀{xs:List (List DV)} {o:Nat},(∀r∈xs,r.length=sz)->RR M b o xs->∀n,n<=xs.length->RR M b (o+n*sz) (xs.drop n)
 |[],o,_,h,n,hn=>by simp[RR]
 |x::xs,o,hs,h,n,hn=>by
  cases n with
  |zero=>simpa using h
  |succ n=>
   unfold RR at h;have hx:=hs x (List.mem_cons_self ..);have:=Gz (λr hr=>hs r (List.mem_cons_of_mem _ hr)) h.2 n (by simpa using hn)
   simp only[List.drop_succ_cons];rw[show o+(n+1)*sz=o+x.length+n*sz from by rw[hx,Nat.succ_mul];omega];exact this
theorem E0{M:Mem}{b:Nat}:∀{xs ys:List (List DV)} {o:Nat},RR M b o xs->RR M b (o+(xs.map (·.length)).sum) ys->RR M b o (xs++ys)
 |[],ys,o,h,k=>by simpa using k
 |x::xs,ys,o,h,k=>by
  unfold RR at h;simp only[List.cons_append];unfold RR;exact⟨h.1,E0 h.2 (by simpa[Nat.add_assoc]using k)⟩
def eL{α:Type}(f:Nat->α)(k:Nat)(v:α):Nat->α:=λx=>if x=k then v else f x
theorem mg{α:Type}(f:Nat->α)(k:Nat)(v:α)(x:Nat):eL f k v x=if x=k then v else f x:=rfl
@[simp] theorem eG {α:Type} (f:Nat->α) (k:Nat) (v:α):eL f k v k=v:=by simp [eL]
theorem aX{α:Type}(f:Nat->α){k x:Nat}(v:α)(h:x≠k):eL f k v x=f x:=by simp[eL,h]
inductive GO where
 |box (cs:List LV)
 |arr (e:TypeId) (sz m:Nat)
 |map (es:List (Value×LV))
 |vec (e:TypeId) (g sz:Nat) (cells:List LV) (ex:Bool)
 |fz (cs:List LV)
 |iter (m since:Nat) (seen:List Nat) (last:Nat)
 |loop (f:FuncId) (st:LoopState) (pend:Option Code) (env:Nat->LV) (nt:Nat) (ps:Array Nat) (lR body:Code) (d:Nat)
 |qI
structure GH where
 obj:Nat->Option GO
 next:Nat
structure S where
 env:Nat->LV
 L:Nat->Option (List LV)
 H:GH
 nt:Nat
 df:List AD:=[]
def ix:Nat->Option Nat:=λ_=>none
def nR(w:World)(b:Nat)(vs:List Value):Prop:=∃T,w.heap[b]?=some (.cells vs.toArray T (0,0))/\∀v∈vs,v.oneCell'=true
def KM(G:Gh)(nx:Nat)(es:List (Value×LV))(xs:List MapEntry)(clock:Nat):Prop:=
 xs.map (·.key)=es.map (·.1)/\bH G nx ix (es.map (·.2)) (xs.map (·.val))/\xs.map (·.born)=List.range xs.length/\clock=xs.length
def OR(G:Gh)(nx:Nat)(w:World)(n:Nat):GO->Prop
 |.box cs=>G.own (G.nm n)=.nm n/\∃vs,nR w (G.nm n) vs/\bH G nx ix cs vs
 |.arr e sz m=>G.qY n=m/\0<sz/\∃cells,w.ownsRow 0 e sz (G.av n) m cells/\(∀v∈cells,v.oneCell'=true)/\∀b,(G.av n).ownBlock=some b->G.own b=.nm n/\∀o v,G.M b o=some v->cells[o]?=some v
 |.map es=>G.own (G.nm n)=.nm n/\∃xs clock,w.heap[G.nm n]?=some (.map xs.toArray clock)/\KM G nx es xs clock
 |.vec e g sz cells ex=>G.qY n=g/\0<sz/\∃b C vs rest,G.av n=.slice (some ⟨b,sz,none⟩) 0 C/\C<=maxLen/\G.own b=.nm n/\w.heap[b]?=some (.cells (vs++rest).toArray e (0,0))/\(∀v∈vs++rest,v.oneCell'=true)/\
  bH G nx ix cells vs/\(vs++rest).length=C*sz/\(ex=true->rest=[])/\sz∣cells.length
 |.fz cs=>∃vs,(∀i v,vs[i]?=some v->G.M (G.nm n) i=some v)/\bH G nx ix cs vs
 |.iter m since seen last=>m<nx/\G.own (G.nm n)=.nm n/\w.heap[G.nm n]?=some (.mapIter (some (G.nm m)) since seen.toArray last)
 |.loop f st pend env nt ps lR body d=>d<nx/\G.own (G.nm n)=.nm n/\∃tmps,w.heap[G.nm n]?=some (.loop ⟨st,pend,f,tmps,ps,lR,body,G.nm d⟩)/\tmps.size=nt/\∀t,LR G nx ix (env t) (tmps.getD t undef)
 |.qI=>G.own (G.nm n)=.nm n/\w.heap[G.nm n]?=some (.deferred (some []))
structure MR(G:Gh)(lm:Nat->Option Nat)(L:Nat->Option (List LV))(H:GH)(w:World):Prop where
 qC:∀b o v,G.M b o=some v->w.cell? ⟨b,o,none⟩=some v
 dF:∀b o v,G.M b o=some v->G.own b=.none\/ ∃n e sz m,G.own b=.nm n/\H.obj n=some (.arr e sz m)/\(G.av n).ownBlock=some b
 fresh:∀b,w.heap.size<=b->G.own b=.none/\∀o,G.M b o=none
 C3:∀k,L k=none->lm k=none
 loc:∀k cs,L k=some cs->∃b vs,lm k=some b/\G.own b=.loc k/\nR w b vs/\bH G H.next lm cs vs
 iC:∀n o,H.obj n=some o->n<H.next/\OR G H.next w n o
structure tL where
 G:Gh
 H:GH
 w:World
def lD(G:Gh):Prop:=∀b k,G.own b≠ .loc k
structure jQ(w w':World)(row:Option Nat):Prop extends w.grownBy w' row where
 drawn:w.drawn<=w'.drawn
structure aM8(E:tL)(G:Gh)(H:GH)(w:World):Prop where
 le:E.G.le E.H.next G
 nx:E.H.next<=H.next
 os:w.os=E.w.os
 tape:w.tape=E.w.tape
 output:w.output=E.w.output
 drawn:E.w.drawn<=w.drawn
 size:E.w.heap.size<=w.heap.size
 frame:∀b,b<E.w.heap.size->(E.G.own b=.none\/ E.G.own b=.qk)->w.heap[b]?=E.w.heap[b]?
 own:∀b,b<E.w.heap.size->G.own b=E.G.own b\/ ((∃n,E.G.own b=.nm n)/\G.own b=.none)
structure Ext(E:tL)(G:Gh)(H:GH)(w:World):Prop extends aM8 E G H w where
 nl:lD E.G
theorem Ext.refl(G:Gh)(H:GH)(w:World)(nl:lD G):Ext ⟨G,H,w⟩ G H w:=⟨⟨Gh.le_refl _ _,Nat.le_refl _,rfl,rfl,rfl,Nat.le_refl _,Nat.le_refl _,λ_ _ _=>rfl,λ_ _=>.inl rfl⟩,nl⟩
theorem Ext.trans{E:tL}{G G':Gh}{H H':GH}{w w':World}(h:Ext E G H w)(k:aM8 ⟨G,H,w⟩ G' H' w'):Ext E G' H' w' where
 nl:=h.nl
 le:=Gh.le_trans h.nx h.le k.le
 nx:=Nat.le_trans h.nx k.nx
 os:=k.os.trans h.os
 tape:=k.tape.trans h.tape
 output:=k.output.trans h.output
 drawn:=Nat.le_trans h.drawn k.drawn
 size:=Nat.le_trans h.size k.size
 frame b hb ho:=by
  have o1:=h.own b hb;refine(k.frame b (Nat.lt_of_lt_of_le hb h.size) ?_).trans (h.frame b hb ho);rcases o1 with o1|⟨⟨n,hn⟩,o1⟩
  ·rw[o1];exact ho
  ·rw[hn]at ho;simp at ho
 own b hb:=by
  have o1:=h.own b hb;have o2:=k.own b (Nat.lt_of_lt_of_le hb h.size);rcases o1 with o1|⟨⟨n,hn⟩,o1⟩<;>rcases o2 with o2|⟨⟨m,hm⟩,o2⟩
  ·exact .inl (o2.trans o1)
  ·exact .inr ⟨⟨m,o1.symm.trans hm⟩,o2⟩
  ·exact .inr ⟨⟨n,hn⟩,o2.trans o1⟩
  ·exact .inr ⟨⟨n,hn⟩,o2⟩
theorem cell_of{w:World}{b o:Nat}{cs:Array Value}{T:TypeId}{fr:Nat×Nat}(h:w.heap[b]?=some (.cells cs T fr)):w.cell? ⟨b,o,none⟩=cs[o]?:=by
 simp[World.cell?,h]
theorem eZ{w w':World}{b o:Nat}(h:w'.heap[b]?=w.heap[b]?):w'.cell? ⟨b,o,none⟩=w.cell? ⟨b,o,none⟩:=World.cell?_of_block h
theorem iA{w:World}{b o:Nat}{v:Value}(h:w.cell? ⟨b,o,none⟩=some v):b<w.heap.size:=World.block_lt_of_cell? w _ h
def eU(w:World)(b:Nat)(o:Obj):World:={w with heap:=w.heap.setIfInBounds b o}
theorem ew(w:World)(b:Nat)(o:Obj)(x:Nat):(eU w b o).heap[x]?=if x=b/\b<w.heap.size then some o else w.heap[x]?:=by
 unfold eU;simp only[Array.getElem?_setIfInBounds];by_cases h:b=x
 ·subst h;by_cases h2:b<w.heap.size<;>simp[h2]
 ·have:¬x=b:=λe=>h e.symm
  simp[h,this]
theorem sX(w:World)(b:Nat)(o:Obj):(eU w b o).heap.size=w.heap.size:=by simp[eU]
theorem dg(w:World)(o:Obj)(x:Nat):(w.alloc o).heap[x]?=if x=w.heap.size then some o else w.heap[x]?:=by
 simp only[World.alloc,Array.getElem?_push]
theorem eN{w:World}{b:Nat}{o:Obj}(h:w.heap[b]?=some o):b<w.heap.size:=(Array.getElem?_eq_some_iff.1 h).1
theorem gC{w w':World}{b:Nat}{vs:List Value}(h:w'.heap[b]?=w.heap[b]?)(hc:nR w b vs):nR w' b vs:=by
 obtain⟨T,h1,h2⟩:=hc;exact⟨T,h.trans h1,h2⟩
theorem qq{w:World}{b:Nat}{vs:List Value}(hc:nR w b vs):b<w.heap.size:=by
 obtain⟨T,h1,_⟩:=hc;exact eN h1
theorem CV{w w':World}{base:Nat}{e:TypeId}{sz n:Nat}{v:Value}{xs:List Value}(h:w.ownsRow base e sz v n xs)(hb:∀b,v.ownBlock=some b->w'.heap[b]?=w.heap[b]?):w'.ownsRow base e sz v n xs:=by
 refine⟨h.1,?_⟩;rcases h.2 with h2|⟨g,cap,cur,e1,h3,h4,h5⟩
 ·exact .inl h2
 ·exact .inr ⟨g,cap,cur,e1,h3,(hb g (by rw[e1];rfl)).trans h4,h5⟩
theorem AM{w:World}{base:Nat}{e:TypeId}{sz n b:Nat}{v:Value}{xs:List Value}(h:w.ownsRow base e sz v n xs)(hv:v.ownBlock=some b):b<w.heap.size:=by
 rcases h.2 with⟨rfl,_⟩|⟨g,cap,cur,rfl,h3,h4,h5⟩
 ·simp[Value.ownBlock]at hv
 ·have:g=b:=by simpa[Value.ownBlock]using hv
  subst this;exact eN h4
theorem Qz{G G':Gh}{nx nx':Nat}{es:List (Value×LV)}{xs:List MapEntry}{c:Nat}(hn:nx<=nx')(h:G.le nx G')(hm:KM G nx es xs c):KM G' nx' es xs c:=
 ⟨hm.1,ca hn h (λ_ _ e=>e) _ _ hm.2.1,hm.2.2⟩
theorem fM{G G':Gh}{nx nx' n:Nat}{w w':World}{o:GO}(hn:nx<=nx')(hlt:n<nx)(h:G.le nx G')(ho:OR G nx w n o)
  (tq:G'.qY n=G.qY n/\G'.av n=G.av n) (kp:∀b,G.own b=.nm n->G'.own b=.nm n/\w'.heap[b]?=w.heap[b]?/\∀o v,G'.M b o=some v->G.M b o=some v):OR G' nx' w' n o:=by
 cases o with
 |box cs=>
  obtain⟨h1,vs,h2,h3⟩:=ho;have hn':=h.nm n hlt;have hb:=kp _ h1;unfold OR;rw[hn'];exact⟨hb.1,vs,gC hb.2.1 h2,ca hn h (λ_ _ e=>e) _ _ h3⟩
 |arr e sz m=>
  obtain⟨h1,h0,cells,h2,h3,h4⟩:=ho;unfold OR;rw[tq.1,tq.2];refine⟨h1,h0,cells,CV h2 (λb hb=>(kp b (h4 b hb).1).2.1),h3,λb hb=>?_⟩
  have q:=kp b (h4 b hb).1;exact⟨q.1,λo v hv=>(h4 b hb).2 o v (q.2.2 o v hv)⟩
 |map es=>
  obtain⟨h1,xs,c,h2,h3⟩:=ho;have hn':=h.nm n hlt;have hb:=kp _ h1;unfold OR;rw[hn'];exact⟨hb.1,xs,c,hb.2.1.trans h2,Qz hn h h3⟩
 |vec e g sz cells ex=>
  obtain⟨h1,h0,b,C,vs,rest,h2,h3,h4,h5,h6,h7,h8⟩:=ho;simp only[OR];rw[tq.1,tq.2];have q:=kp b h4;exact⟨h1,h0,b,C,vs,rest,h2,h3,q.1,q.2.1.trans h5,h6,ca hn h (λ_ _ e=>e) _ _ h7,h8⟩
 |fz cs=>
  obtain⟨vs,h1,h2⟩:=ho;simp only[OR];rw[h.nm n hlt];exact⟨vs,λi v hv=>h.M _ _ _ (h1 i v hv),ca hn h (λ_ _ e=>e) _ _ h2⟩
 |iter m since seen last=>
  obtain⟨h1,h2,h3⟩:=ho;have hb:=kp _ h2;simp only[OR];rw[h.nm n hlt,h.nm m h1];exact⟨by omega,hb.1,hb.2.1.trans h3⟩
 |loop f st pend env nt ps lR body d=>
  obtain⟨h1,h2,tmps,h3,h4,h5⟩:=ho;have hb:=kp _ h2;simp only[OR];rw[h.nm n hlt,h.nm d h1];exact⟨by omega,hb.1,tmps,hb.2.1.trans h3,h4,λt=>bF hn h (λ_ _ e=>e) _ _ (h5 t)⟩
 |qI=>
  obtain⟨h2,h3⟩:=ho;have hb:=kp _ h2;simp only[OR];rw[h.nm n hlt];exact⟨hb.1,hb.2.1.trans h3⟩
section effects
variable {E:tL} {G:Gh} {lm:Nat->Option Nat} {L:Nat->Option (List LV)} {H:GH} {w:World}
def xh(G:Gh)(b:Nat)(vs:List Value):Gh:={G with M:=λx o=>if x=b then vs[o]? else G.M x o}
theorem zn(h:MR G lm L H w)(nx:Nat)(vs:List Value):G.le nx (xh G w.heap.size vs) where
 M b o v hv:=by
  have:b≠w.heap.size:=λe=>by rw[e,(h.fresh _ (Nat.le_refl _)).2 o]at hv;cases hv
  simp[xh,this,hv]
 nm _ _:=rfl
 qY _ _:=⟨Nat.le_refl _,λ_=>rfl⟩
theorem MR.Ks(h:MR G lm L H w)(vs:List Value)(T:TypeId)(fr:Nat×Nat):MR (xh G w.heap.size vs) lm L H (w.alloc (.cells vs.toArray T fr)):=by
 have hle:=zn h H.next vs;have hold:∀b,b<w.heap.size->(w.alloc (.cells vs.toArray T fr)).heap[b]?=w.heap[b]?:=λb hb=>by rw[dg,if_neg (by omega)]
 refine⟨λb o v hv=>?_,λb o v hv=>?_,λb hb=>?_,h.C3,λk cs hk=>?_,λn o hn=>?_⟩
 ·by_cases e:b=w.heap.size
  ·subst e;simp only[xh,if_true]at hv;rw[cell_of (cs:=vs.toArray) (T:=T) (fr:=fr) (by rw[dg,if_pos rfl])]
   simpa using hv
  ·simp only[xh,e,if_false]at hv;have hc:=h.qC b o v hv;rw[eZ (hold b (iA hc))];exact hc
 ·by_cases e:b=w.heap.size
  ·subst e;exact .inl (h.fresh _ (Nat.le_refl _)).1
  ·simp only[xh,e,if_false]at hv;exact h.dF b o v hv
 ·simp at hb;refine⟨(h.fresh b (by omega)).1,λo=>?_⟩
  have e:b≠w.heap.size:=by omega
  simp only[xh,e,if_false];exact(h.fresh b (by omega)).2 o
 ·obtain⟨b,vs',h1,h2,h3,h4⟩:=h.loc k cs hk;exact⟨b,vs',h1,h2,gC (hold b (qq h3)) h3,ca (Nat.le_refl _) hle (λ_ _ e=>e) _ _ h4⟩
 ·obtain⟨h1,h2⟩:=h.iC n o hn;refine⟨h1,fM (Nat.le_refl _) h1 hle h2 ⟨rfl,rfl⟩ λb hb=>?_⟩
  have hb':b<w.heap.size:=by
   rcases Nat.lt_or_ge b w.heap.size with q|q
   ·exact q
   ·rw[(h.fresh b q).1]at hb;cases hb
  have e:b≠w.heap.size:=by omega
  exact⟨hb,hold b hb',λo v hv=>by simpa only[xh,e,if_false]using hv⟩
theorem Ext.alloc(h:Ext E G H w){G':Gh}{H':GH}(hle:G.le H.next G')(hn:H.next<=H'.next)(hown:∀b,b<w.heap.size->G'.own b=G.own b)(o:Obj):Ext E G' H' (w.alloc o) where
 nl:=h.nl
 le:=Gh.le_trans h.nx h.le hle
 nx:=Nat.le_trans h.nx hn
 os:=h.os
 tape:=h.tape
 output:=h.output
 drawn:=h.drawn
 size:=by simp;have:=h.size;omega
 frame b hb ho:=by rw[dg,if_neg (by have:=h.size;omega)];exact h.frame b hb ho
 own b hb:=by rw[hown b (by have:=h.size;omega)];exact h.own b hb
def FT(G:Gh)(b:Nat)(o:Own):Gh:={G with own:=λx=>if x=b then o else G.own x}
theorem NC(nx b:Nat)(o:Own):G.le nx (FT G b o):=⟨Mem.le_refl _,λ_ _=>rfl,λ_ _=>⟨Nat.le_refl _,λ_=>rfl⟩⟩
theorem jB(h:MR G lm L H w){b:Nat}(hb:G.own b≠ .none):b<w.heap.size:=by
 rcases Nat.lt_or_ge b w.heap.size with q|q
 ·exact q
 ·exact absurd (h.fresh b q).1 hb
theorem MR.TG(h:MR G lm L H w)(k:Nat)(hk:L k=none)(cs:List LV)(vs:List Value)(T:TypeId)(h1:∀v∈vs,v.oneCell'=true)(hR:bH G H.next lm cs vs):
  MR (FT G w.heap.size (.loc k)) (eL lm k (some w.heap.size)) (eL L k (some cs)) H (w.alloc (.cells vs.toArray T (0,0))):=by
 have hle:=NC (G:=G) H.next w.heap.size (.loc k);have hlm:∀j b,lm j=some b->eL lm k (some w.heap.size) j=some b:=λj b hj=>by
  have:j≠k:=λe=>by rw[e,h.C3 k hk]at hj;cases hj
  rw[aX _ _ this];exact hj
 have hold:∀b,b<w.heap.size->(w.alloc (.cells vs.toArray T (0,0))).heap[b]?=w.heap[b]?:=λb hb=>by rw[dg,if_neg (by omega)]
 refine⟨λb o v hv=>?_,λb o v hv=>?_,λb hb=>?_,λj hj=>?_,λj cs' hj=>?_,λn o hn=>?_⟩
 ·have hc:=h.qC b o v hv;rw[eZ (hold b (iA hc))];exact hc
 ·have hlt:=iA (h.qC b o v hv);have e:b≠w.heap.size:=by omega
  simp only[FT,e,if_false];exact h.dF b o v hv
 ·simp at hb;have e:b≠w.heap.size:=by omega
  refine⟨?_,(h.fresh b (by omega)).2⟩
  simp only[FT,e,if_false];exact(h.fresh b (by omega)).1
 ·have:j≠k:=λe=>by rw[e]at hj;simp at hj
  rw[aX _ _ this]at hj|-;exact h.C3 j hj
 ·by_cases e:j=k
  ·subst e;simp at hj;subst hj;exact⟨w.heap.size,vs,by simp,by simp[FT],⟨T,by rw[dg,if_pos rfl],h1⟩,ca (Nat.le_refl _) hle hlm _ _ hR⟩
  ·rw[aX _ _ e]at hj;obtain⟨b,vs',g1,g2,g3,g4⟩:=h.loc j cs' hj;have hlt:=qq g3;have e2:b≠w.heap.size:=by omega
   exact⟨b,vs',by rw[aX _ _ e];exact g1,by simp only[FT,e2,if_false];exact g2,gC (hold b hlt) g3,ca (Nat.le_refl _) hle hlm _ _ g4⟩
 ·obtain⟨g1,g2⟩:=h.iC n o hn;refine⟨g1,fM (Nat.le_refl _) g1 hle g2 ⟨rfl,rfl⟩ λb hb=>?_⟩
  have hlt:=jB h (b:=b) (by rw[hb];simp)
  have e:b≠w.heap.size:=by omega
  exact⟨by simp only[FT,e,if_false];exact hb,hold b hlt,λo v hv=>hv⟩
theorem MR.wN(h:MR G lm L H w)(k b:Nat)(hb:lm k=some b){old:List LV}(hk:L k=some old)(cs:List LV)(vs:List Value)(T:TypeId)(h1:∀v∈vs,v.oneCell'=true)(hR:bH G H.next lm cs vs):
  MR G lm (eL L k (some cs)) H (eU w b (.cells vs.toArray T (0,0))):=by
 obtain⟨b',vs0,g1,g2,g3,g4⟩:=h.loc k old hk;have:b'=b:=by rw[g1]at hb;exact Option.some.inj hb
 subst this;have hlt:=qq g3;have hold:∀x,G.own x≠ .loc k->(eU w b' (.cells vs.toArray T (0,0))).heap[x]?=w.heap[x]?:=λx hx=>by
  have:x≠b':=λe=>hx (by rw[e];exact g2)
  rw[ew,if_neg (by simp[this])]
 refine⟨λx o v hv=>?_,h.dF,λx hx=>h.fresh x (by rw[sX]at hx;exact hx),λj hj=>?_,λj cs' hj=>?_,λn o hn=>?_⟩
 ·have hc:=h.qC x o v hv;rw[eZ (hold x ?_)];·exact hc
  rcases h.dF x o v hv with q|⟨n,e,sz,m,q,_⟩<;>rw[q]<;>simp
 ·have:j≠k:=λe=>by rw[e]at hj;simp at hj
  rw[aX _ _ this]at hj;exact h.C3 j hj
 ·by_cases e:j=k
  ·subst e;simp at hj;subst hj;exact⟨b',vs,g1,g2,⟨T,by rw[ew,if_pos ⟨rfl,hlt⟩],h1⟩,hR⟩
  ·rw[aX _ _ e]at hj;obtain⟨c,vs',q1,q2,q3,q4⟩:=h.loc j cs' hj;exact⟨c,vs',q1,q2,gC (hold c (by rw[q2];simp[e])) q3,q4⟩
 ·obtain⟨q1,q2⟩:=h.iC n o hn;exact⟨q1,fM (Nat.le_refl _) q1 (Gh.le_refl _ _) q2 ⟨rfl,rfl⟩ λx hx=>⟨hx,hold x (by rw[hx];simp),λ_ _ q=>q⟩⟩
theorem Ext.eU(h:Ext E G H w){G':Gh}{H':GH}(hle:G.le H.next G')(hn:H.next<=H'.next)(hown:∀b,G'.own b=G.own b){b:Nat}(hb:∀(hx:b<E.w.heap.size),E.G.own b≠ .none/\E.G.own b≠ .qk)(o:Obj):Ext E G' H' (Aft.eU w b o) where
 nl:=h.nl
 le:=Gh.le_trans h.nx h.le hle
 nx:=Nat.le_trans h.nx hn
 os:=h.os
 tape:=h.tape
 output:=h.output
 drawn:=h.drawn
 size:=by rw[sX];exact h.size
 frame x hx ho:=by
  have:x≠b:=λe=>by subst e;have:=hb hx;rcases ho with ho|ho<;>simp_all
  rw[ew,if_neg (by simp[this])];exact h.frame x hx ho
 own x hx:=by rw[hown x];exact h.own x hx
end effects
end Go.Aft
end
section
namespace Go.Aft
section
variable {E:tL} {G:Gh} {lm:Nat->Option Nat} {L:Nat->Option (List LV)} {H:GH} {w:World}
theorem MR.jD{G':Gh}{nx':Nat}{w':World}(h:MR G lm L H w)(hn:H.next<=nx')(hle:G.le H.next G')(kp:∀b k,G.own b=.loc k->G'.own b=.loc k/\w'.heap[b]?=w.heap[b]?):
  ∀k cs,L k=some cs->∃b vs,lm k=some b/\G'.own b=.loc k/\nR w' b vs/\bH G' nx' lm cs vs:=by
 intro k cs hk;obtain⟨b,vs,h1,h2,h3,h4⟩:=h.loc k cs hk;have q:=kp b k h2;exact⟨b,vs,h1,q.1,gC q.2 h3,ca hn hle (λ_ _ e=>e) _ _ h4⟩
def GH.add(H:GH)(o:GO):GH:={obj:=eL H.obj H.next (some o),next:=H.next+1}
def GH.set(H:GH)(n:Nat)(o:GO):GH:={H with obj:=eL H.obj n (some o)}
theorem GH.aq(H:GH)(o:GO):(H.add o).next=H.next+1:=rfl
theorem GH.aM(H:GH)(n:Nat)(o:GO):(H.set n o).next=H.next:=rfl
theorem GH.ax(H:GH)(o:GO)(x:Nat):(H.add o).obj x=if x=H.next then some o else H.obj x:=rfl
theorem GH.ay(H:GH)(n:Nat)(o:GO)(x:Nat):(H.set n o).obj x=if x=n then some o else H.obj x:=rfl
def tc(G:Gh)(n b:Nat):Gh:={G with own:=λx=>if x=b then .nm n else G.own x,nm:=eL G.nm n b}
theorem uH(n b:Nat):G.le n (tc G n b):=⟨Mem.le_refl _,λx hx=>aX _ _ (by omega),λ_ _=>⟨Nat.le_refl _,λ_=>rfl⟩⟩
theorem MR.sI(h:MR G lm L H w)(o:GO)(ob:Obj)(hna:∀e sz m,o≠ .arr e sz m)
  (ho:OR (tc G H.next w.heap.size) (H.next+1) (w.alloc ob) H.next o):MR (tc G H.next w.heap.size) lm L (H.add o) (w.alloc ob):=by
 have hle:=uH (G:=G) H.next w.heap.size;have hold:∀b,b<w.heap.size->(w.alloc ob).heap[b]?=w.heap[b]?:=λb hb=>by rw[dg,if_neg (by omega)]
 have hown:∀b,b<w.heap.size->(tc G H.next w.heap.size).own b=G.own b:=λb hb=>by
  have:b≠w.heap.size:=by omega
  simp[tc,this]
 refine⟨λb o v hv=>?_,λb o v hv=>?_,λb hb=>?_,h.C3,?_,λn o' hn=>?_⟩
 ·have hc:=h.qC b o v hv;rw[eZ (hold b (iA hc))];exact hc
 ·have hlt:=iA (h.qC b o v hv);rw[hown b hlt];rcases h.dF b o v hv with q|⟨n,e,sz,m,q1,q2,q3⟩
  ·exact .inl q
  ·refine .inr (⟨n,e,sz,m,q1,?_,q3⟩);have:=(h.iC n _ q2).1;rw[GH.ax,if_neg (by omega)];exact q2
 ·simp at hb;refine⟨?_,(h.fresh b (by omega)).2⟩
  have:b≠w.heap.size:=by omega
  simp only[tc,this,if_false];exact(h.fresh b (by omega)).1
 ·exact h.jD (Nat.le_succ _) hle λb k hb=>by
   have hlt:=jB h (b:=b) (by rw[hb];simp)
   exact⟨(hown b hlt).trans hb,hold b hlt⟩
 ·rw[GH.ax]at hn;by_cases e:n=H.next
  ·subst e;simp at hn;subst hn;exact⟨Nat.lt_succ_self _,ho⟩
  ·rw[if_neg e]at hn;obtain⟨h1,h2⟩:=h.iC n o' hn;refine⟨Nat.lt_succ_of_lt h1,fM (Nat.le_succ _) h1 hle h2 ⟨rfl,rfl⟩ λb hb=>?_⟩
   have hlt:=jB h (b:=b) (by rw[hb];simp)
   exact⟨(hown b hlt).trans hb,hold b hlt,λ_ _ q=>q⟩
theorem Ext.sI(h:Ext E G H w)(hM:MR G lm L H w)(o:GO)(ob:Obj):Ext E (tc G H.next w.heap.size) (H.add o) (w.alloc ob):=
 h.alloc (uH _ _) (Nat.le_succ _) (λb hb=>by
  have:b≠w.heap.size:=by omega
  simp[tc,this]) ob
theorem MR.sW(h:MR G lm L H w)(n b0:Nat){old:GO}(hn:H.obj n=some old)(o:GO)(ob:Obj)(hown:G.own (b0)=.nm n)(hna:∀e sz m,old≠ .arr e sz m)(aA0:∀e sz m,o≠ .arr e sz m)
  (ho:OR G H.next (eU w (b0) ob) n o):MR G lm L (H.set n o) (eU w (b0) ob):=by
 have hlt:=jB h (b:=b0) (by rw[hown];simp)
 have hold:∀x,G.own x≠ .nm n->(eU w (b0) ob).heap[x]?=w.heap[x]?:=λx hx=>by
  have:x≠b0:=λe=>hx (by rw[e];exact hown)
  rw[ew,if_neg (by simp[this])]
 have PJ:∀b o v,G.M b o=some v->G.own b≠ .nm n:=λb o v hv q=>by
  rcases h.dF b o v hv with q'|⟨n',e,sz,m,q1,q2,q3⟩
  ·rw[q]at q';cases q'
  ·rw[q]at q1;cases q1;rw[hn]at q2;exact hna _ _ _ (Option.some.inj q2)
 refine⟨λb o v hv=>?_,λb o v hv=>?_,λb hb=>h.fresh b (by rw[sX]at hb;exact hb),h.C3,?_,λj o' hj=>?_⟩
 ·rw[eZ (hold b (PJ b o v hv))];exact h.qC b o v hv
 ·rcases h.dF b o v hv with q|⟨n',e,sz,m,q1,q2,q3⟩
  ·exact .inl q
  ·refine .inr (⟨n',e,sz,m,q1,?_,q3⟩);have:n'≠n:=λe'=>by subst e';rw[hn]at q2;exact hna _ _ _ (Option.some.inj q2)
   rw[GH.ay,if_neg this];exact q2
 ·exact h.jD (Nat.le_refl _) (Gh.le_refl _ _) λb k hb=>⟨hb,hold b (by rw[hb];simp)⟩
 ·rw[GH.ay]at hj;by_cases e:j=n
  ·subst e;simp at hj;subst hj;exact⟨(h.iC _ _ hn).1,ho⟩
  ·rw[if_neg e]at hj;obtain⟨h1,h2⟩:=h.iC j o' hj;exact⟨h1,fM (Nat.le_refl _) h1 (Gh.le_refl _ _) h2 ⟨rfl,rfl⟩ λx hx=>⟨hx,hold x (by rw[hx];simp[e]),λ_ _ q=>q⟩⟩
theorem MR.dV(h:MR G lm L H w)(n:Nat){old:GO}(hn:H.obj n=some old)(o:GO)(ob:Obj)(hown:G.own (G.nm n)=.nm n)(hna:∀e sz m,old≠ .arr e sz m)(aA0:∀e sz m,o≠ .arr e sz m)
  (ho:OR G H.next (eU w (G.nm n) ob) n o):MR G lm L (H.set n o) (eU w (G.nm n) ob):=h.sW n (G.nm n) hn o ob hown hna aA0 ho
theorem Ext.sW(h:Ext E G H w)(n b0:Nat)(o:GO)(ob:Obj)(hown:G.own b0=.nm n):Ext E G (H.set n o) (Aft.eU w b0 ob):=
 Ext.eU h (H':=H.set n o) (b:=b0) (Gh.le_refl _ _) (Nat.le_refl _) (λ_=>rfl) (λhx=>by
  have:=h.own _ hx;rw[hown]at this;rcases this with q|⟨⟨m,q⟩,q'⟩
  ·rw[<-q];simp
  ·cases q') ob
theorem Ext.dV(h:Ext E G H w)(hM:MR G lm L H w)(n:Nat)(o:GO)(ob:Obj)(hown:G.own (G.nm n)=.nm n):Ext E G (H.set n o) (Aft.eU w (G.nm n) ob):=
 Ext.eU h (H':=H.set n o) (b:=G.nm n) (Gh.le_refl _ _) (Nat.le_refl _) (λ_=>rfl) (λhx=>by
  have:=h.own _ hx;rw[hown]at this;rcases this with q|⟨⟨m,q⟩,q'⟩
  ·rw[<-q];simp
  ·cases q') ob
def GH.del(H:GH)(n:Nat):GH:={H with obj:=eL H.obj n none}
theorem GH.Tm(H:GH)(n:Nat):(H.del n).next=H.next:=rfl
theorem GH.nO(H:GH)(n x:Nat):(H.del n).obj x=if x=n then none else H.obj x:=rfl
theorem MR.Tn(h:MR G lm L H w)(n:Nat){old:GO}(hn:H.obj n=some old)(ob:Obj)(hown:G.own (G.nm n)=.nm n)(hna:∀e sz m,old≠ .arr e sz m):MR G lm L (H.del n) (eU w (G.nm n) ob):=by
 have hlt:=jB h (b:=G.nm n) (by rw[hown];simp)
 have hold:∀x,G.own x≠ .nm n->(eU w (G.nm n) ob).heap[x]?=w.heap[x]?:=λx hx=>by
  have:x≠G.nm n:=λe=>hx (by rw[e];exact hown)
  rw[ew,if_neg (by simp[this])]
 have PJ:∀b o v,G.M b o=some v->G.own b≠ .nm n:=λb o v hv q=>by
  rcases h.dF b o v hv with q'|⟨n',e,sz,m,q1,q2,q3⟩
  ·rw[q]at q';cases q'
  ·rw[q]at q1;cases q1;rw[hn]at q2;exact hna _ _ _ (Option.some.inj q2)
 refine⟨λb o v hv=>?_,λb o v hv=>?_,λb hb=>h.fresh b (by rw[sX]at hb;exact hb),h.C3,?_,λj o' hj=>?_⟩
 ·rw[eZ (hold b (PJ b o v hv))];exact h.qC b o v hv
 ·rcases h.dF b o v hv with q|⟨n',e,sz,m,q1,q2,q3⟩
  ·exact .inl q
  ·refine .inr (⟨n',e,sz,m,q1,?_,q3⟩);have:n'≠n:=λe'=>by subst e';rw[hn]at q2;exact hna _ _ _ (Option.some.inj q2)
   rw[GH.nO,if_neg this];exact q2
 ·exact h.jD (Nat.le_refl _) (Gh.le_refl _ _) λb k hb=>⟨hb,hold b (by rw[hb];simp)⟩
 ·rw[GH.nO]at hj;by_cases e:j=n
  ·rw[if_pos e]at hj;cases hj
  ·rw[if_neg e]at hj;obtain⟨h1,h2⟩:=h.iC j o' hj;exact⟨h1,fM (Nat.le_refl _) h1 (Gh.le_refl _ _) h2 ⟨rfl,rfl⟩ λx hx=>⟨hx,hold x (by rw[hx];simp[e]),λ_ _ q=>q⟩⟩
theorem Ext.Tn(h:Ext E G H w)(n:Nat)(ob:Obj)(hown:G.own (G.nm n)=.nm n):Ext E G (H.del n) (Aft.eU w (G.nm n) ob):=
 Ext.eU h (H':=H.del n) (b:=G.nm n) (Gh.le_refl _ _) (Nat.le_refl _) (λ_=>rfl) (λhx=>by
  have:=h.own _ hx;rw[hown]at this;rcases this with q|⟨⟨m,q⟩,q'⟩
  ·rw[<-q];simp
  ·cases q') ob
def u7(G:Gh)(n:Nat)(v:Value)(m:Nat):Gh:={G with av:=eL G.av n v,qY:=eL G.qY n m}
theorem Gu(n:Nat)(v:Value)(m:Nat):G.le n (u7 G n v m):=⟨Mem.le_refl _,λ_ _=>rfl,λx hx=>by
 have:x≠n:=by omega
 simp[u7,aX _ _ this]⟩
theorem MR.TQ(h:MR G lm L H w)(e:TypeId)(sz:Nat)(hsz:0<sz):MR (u7 G H.next (.slice none 0 0) 0) lm L (H.add (.arr e sz 0)) w:=by
 have hle:=Gu (G:=G) H.next (.slice none 0 0) 0;refine⟨h.qC,λb o v hv=>?_,h.fresh,h.C3,h.jD (Nat.le_succ _) hle λb k hb=>⟨hb,rfl⟩,λn o hn=>?_⟩
 ·rcases h.dF b o v hv with q|⟨n,e',sz',m,q1,q2,q3⟩
  ·exact .inl q
  ·have hlt:=(h.iC n _ q2).1;refine .inr (⟨n,e',sz',m,q1,?_,?_⟩)
   ·rw[GH.ax,if_neg (by omega)];exact q2
   ·simp only[u7];rw[aX _ _ (by omega)];exact q3
 ·rw[GH.ax]at hn;by_cases e1:n=H.next
  ·subst e1;simp at hn;subst hn;refine⟨Nat.lt_succ_self _,by simp[u7],hsz,[],?_,by simp,?_⟩
   ·simp only[u7,eG];exact⟨by simp,.inl ⟨rfl,rfl⟩⟩
   ·intro b hb;simp[u7,Value.ownBlock]at hb
  ·rw[if_neg e1]at hn;obtain⟨h1,h2⟩:=h.iC n o hn;refine⟨Nat.lt_succ_of_lt h1,fM (Nat.le_succ _) h1 hle h2 ?_ λb hb=>⟨hb,rfl,λ_ _ q=>q⟩⟩
   simp only[u7];rw[aX _ _ e1,aX _ _ e1];exact⟨rfl,rfl⟩
def iv(G:Gh)(n:Nat)(v':Value)(m':Nat)(cells:List Value):Gh where
 M:=λb o=>if v'.ownBlock=some b then(match cells[o]? with|some u=>some u|none=>G.M b o)else G.M b o
 own:=λb=>if v'.ownBlock=some b then .nm n else if(G.av n).ownBlock=some b then .none else G.own b
 nm:=G.nm
 av:=eL G.av n v'
 qY:=eL G.qY n m'
theorem MR.append(h:MR G lm L H w)(n:Nat){e:TypeId}{sz m m':Nat}(hn:H.obj n=some (.arr e sz m))(hm:m<m'){w':World}{v':Value}{cells news:List Value}
  (hrow:w.ownsRow 0 e sz (G.av n) m cells) (Jr:w'.ownsRow 0 e sz v' m' (cells++news)) (h1:∀v∈cells++news,v.oneCell'=true)
  (qE:(v'.ownBlock=(G.av n).ownBlock/\jQ w w' (G.av n).ownBlock)\/ (v'.ownBlock=some w.heap.size/\jQ w w' none)):
  MR (iv G n v' m' (cells++news)) lm L (H.set n (.arr e sz m')) w'/\G.le H.next (iv G n v' m' (cells++news))/\
  (∀b,b<w.heap.size->(iv G n v' m' (cells++news)).own b=G.own b\/ (∃j,G.own b=.nm j)/\(iv G n v' m' (cells++news)).own b=.none)/\
  (∀b,b<w.heap.size->G.own b≠ .nm n->w'.heap[b]?=w.heap[b]?)/\w.heap.size<=w'.heap.size/\
  ∃b',v'.ownBlock=some b'/\∀o,o<(cells++news).length->(iv G n v' m' (cells++news)).M b' o=(cells++news)[o]?:=by
 obtain⟨hlt,htip,hsz,cells0,NI,bA9,hblk⟩:=h.iC n _ hn;obtain⟨b',hb',ae0⟩:∃b',v'.ownBlock=some b'/\∀o,o<(cells++news).length->w'.cell? ⟨b',o,none⟩=(cells++news)[o]?:=by
  rcases Jr.2 with⟨rfl,q⟩|⟨g,cap,cur,rfl,_⟩
  ·omega
  ·exact⟨g,rfl,λo ho=>Jr.cellAt o (by have:=Jr.1;omega)⟩
 have hlt':b'<w'.heap.size:=AM Jr hb';have hsize:w.heap.size<=w'.heap.size:=by rcases qE with⟨_,q⟩|⟨_,q⟩<;>exact q.size
 have hold:∀x,x<w.heap.size->v'.ownBlock≠some x->w'.heap[x]?=w.heap[x]?:=λx hx hne=>by
  rcases qE with⟨q1,q2⟩|⟨q1,q2⟩
  ·exact q2.block x hx (λe=>hne (by rw[q1];exact e.symm))
  ·exact q2.block x hx (by simp)
 have hcells:cells=cells0:=by
  rcases hrow.2 with⟨q1,q2⟩|⟨g,cap,cur,q1,_,q3,_,_,_,q4⟩
  ·have a1:=hrow.1;have a2:=NI.1;rw[q2]at a1 a2;simp at a1 a2;rw[a1,a2]
  ·rcases NI.2 with⟨p1,p2⟩|⟨g',cap',cur',p1,_,p3,_,_,_,p4⟩
   ·rw[q1]at p1;cases p1
   ·rw[q1]at p1;cases p1;rw[q3]at p3;cases p3;rw[<-q4,<-p4]
 subst hcells;have hM:∀o u,G.M b' o=some u->(cells++news)[o]?=some u:=by
  intro o u hu;rcases qE with⟨q,_⟩|⟨q,_⟩
  ·rw[q]at hb';have:=(hblk b' hb').2 o u hu;rw[List.getElem?_append_left (List.getElem?_eq_some_iff.1 this).1];exact this
  ·rw[q]at hb';cases hb';rw[(h.fresh _ (Nat.le_refl _)).2 o]at hu;cases hu
 have WD:∀o,(iv G n v' m' (cells++news)).M b' o=(cells++news)[o]?:=λo=>by
  simp only[iv,hb',if_true];cases hc:(cells++news)[o]? with
  |some u=>rfl
  |none=>
   cases hu:G.M b' o with
   |none=>rfl
   |some u=>rw[hM o u hu]at hc;cases hc
 have SM:∀b o,b≠b'->(iv G n v' m' (cells++news)).M b o=G.M b o:=λb o hb=>by
  have:v'.ownBlock≠some b:=λe=>by rw[hb']at e;exact hb (Option.some.inj e).symm
  simp only[iv,if_neg this]
 have PN:G.M.le (iv G n v' m' (cells++news)).M:=by
  intro b o u hu;by_cases e:b=b'
  ·subst e;rw[WD];exact hM o u hu
  ·rw[SM b o e];exact hu
 have hle:G.le H.next (iv G n v' m' (cells++news)):=⟨PN,λ_ _=>rfl,λj hj=>by
  simp only[iv];by_cases e:j=n
  ·subst e;simp;omega
  ·rw[aX _ _ e,aX _ _ e];exact⟨Nat.le_refl _,λ_=>rfl⟩⟩
 have Su:∀b,b<w.heap.size->G.own b≠ .nm n->v'.ownBlock≠some b:=λb hb hne e=>by
  rcases qE with⟨q,_⟩|⟨q,_⟩
  ·rw[q]at e;exact hne (hblk b e).1
  ·rw[q]at e;cases e;omega
 have az6:∀b,G.own b≠ .nm n->(G.av n).ownBlock≠some b:=λb hne e=>hne (hblk b e).1
 have Bx:∀b,b<w.heap.size->G.own b≠ .nm n->(iv G n v' m' (cells++news)).own b=G.own b:=λb hb hne=>by
  simp only[iv];rw[if_neg (Su b hb hne),if_neg (az6 b hne)]
 have hkeep:∀b,b<w.heap.size->G.own b≠ .nm n->w'.heap[b]?=w.heap[b]?:=λb hb hne=>hold b hb (Su b hb hne)
 refine⟨⟨λb o u hu=>?_,λb o u hu=>?_,λb hb=>?_,h.C3,?_,λj o hj=>?_⟩,hle,λb hb=>?_,hkeep,hsize,b',hb',λo _=>WD o⟩
 ·by_cases e:b=b'
  ·subst e;rw[WD]at hu;rw[ae0 o (List.getElem?_eq_some_iff.1 hu).1];exact hu
  ·rw[SM b o e]at hu;have hc:=h.qC b o u hu;rw[eZ (hold b (iA hc) (λq=>by rw[hb']at q;exact e (Option.some.inj q).symm))];exact hc
 ·by_cases e:b=b'
  ·subst e;refine .inr (⟨n,e,sz,m',?_,?_,?_⟩)
   ·simp only[iv,if_pos hb']
   ·rw[GH.ay,if_pos rfl]
   ·simp only[iv,eG];exact hb'
  ·rw[SM b o e]at hu;have CI:=iA (h.qC b o u hu);have Ub:v'.ownBlock≠some b:=λq=>by rw[hb']at q;exact e (Option.some.inj q).symm
   by_cases e2:(G.av n).ownBlock=some b
   ·refine .inl ?_;simp only[iv];rw[if_neg Ub,if_pos e2]
   ·have ho:(iv G n v' m' (cells++news)).own b=G.own b:=by simp only[iv];rw[if_neg Ub,if_neg e2]
    rw[ho];rcases h.dF b o u hu with q|⟨j,e',sz',k,q1,q2,q3⟩
    ·exact .inl q
    ·have hj:j≠n:=λe3=>by subst e3;exact e2 q3
     refine .inr (⟨j,e',sz',k,q1,?_,?_⟩)
     ·rw[GH.ay,if_neg hj];exact q2
     ·simp only[iv];rw[aX _ _ hj];exact q3
 ·have MC:w.heap.size<=b:=by omega
  have Ub:v'.ownBlock≠some b:=λq=>by rw[hb']at q;have:=Option.some.inj q;omega
  have hne:b≠b':=λe=>by omega
  have hna:(G.av n).ownBlock≠some b:=λq=>by have:=AM hrow q;omega
  refine⟨?_,λo=>?_⟩
  ·simp only[iv];rw[if_neg Ub,if_neg hna];exact(h.fresh b MC).1
  ·rw[SM b o hne];exact(h.fresh b MC).2 o
 ·refine MR.jD h (Nat.le_refl _) hle λb k hb=>?_
  have jm:=jB h (b:=b) (by rw[hb];simp)
  have hne:G.own b≠ .nm n:=by rw[hb];simp
  exact⟨(Bx b jm hne).trans hb,hkeep b jm hne⟩
 ·rw[GH.ay]at hj;by_cases e1:j=n
  ·subst e1;simp at hj;subst hj;refine⟨hlt,by simp[iv],hsz,cells++news,?_,h1,λb hb=>?_⟩
   ·simp only[iv,eG];exact Jr
   ·simp only[iv,eG]at hb;refine⟨by simp only[iv,if_pos hb],λo u hu=>?_⟩
    rw[hb']at hb;cases hb;rw[<-WD];exact hu
  ·rw[if_neg e1]at hj;obtain⟨g1,g2⟩:=h.iC j o hj;refine⟨g1,fM (Nat.le_refl _) g1 hle g2 ?_ λb hb=>?_⟩
   ·simp only[iv];rw[aX _ _ e1,aX _ _ e1];exact⟨rfl,rfl⟩
   ·have jm:=jB h (b:=b) (by rw[hb];simp)
    have hne:G.own b≠ .nm n:=by rw[hb];simp[e1]
    refine⟨(Bx b jm hne).trans hb,hkeep b jm hne,λo u hu=>?_⟩
    have:b≠b':=λe=>by subst e;exact Su b jm hne hb'
    rw[SM b o this]at hu;exact hu
 ·simp only[iv];by_cases e:v'.ownBlock=some b
  ·rw[if_pos e];rcases qE with⟨q,_⟩|⟨q,_⟩
   ·rw[q]at e;exact .inl (hblk b e).1.symm
   ·rw[q]at e;cases e;omega
  ·rw[if_neg e];by_cases e2:(G.av n).ownBlock=some b
   ·rw[if_pos e2];exact .inr ⟨⟨n,(hblk b e2).1⟩,rfl⟩
   ·rw[if_neg e2];exact .inl rfl
theorem vD{P:Program}(t ty e:TypeId)(i:TypeInfo)(z:Value)(ht:P.underlying t=some (.slice e))(hi:P.info? e=some i)(hz:i.zero=some z)
  (hzs:z.cells.size=i.size) (hsz:0<i.size) (v:Value) (n:Nat) (xs:List Value) (hown:w.ownsRow 0 e i.size v n xs)
  (a:Addr) (m c:Nat) (news:List Value) (hl:news.length=m*i.size) (hnews:∀j u,news[j]?=some u->w.cell? (a.add j)=some u) (h1:∀u∈news,u.oneCell'=true)
  (h63:n+m<=maxLen) (hbytes:(n+m)*i.bytes<=140737488355328) (hm:0<m):
  ∃v' w',(Builtin.append_ #[t,t] ty #[v,.slice (some a) m c]).run P w=.ok v' w'/\w'.ownsRow 0 e i.size v' (n+m) (xs++news)/\
   ((v'.ownBlock=v.ownBlock/\jQ w w' v.ownBlock)\/ (v'.ownBlock=some w.heap.size/\jQ w w' none)):=by
 have hsmall:n+m<=9223372036854775807:=by simp only[maxLen]at h63;omega
 have hlen:(xs++news).length=(n+m)*i.size:=by rw[List.length_append,hown.1,hl,Nat.add_mul]
 have grown:∀(old:Nat),old<n+m->
   (w.drew.alloc (.cells (xs.toArray++news.toArray++Builtin.zeroCells z.cells (grownCap w (n+m) old e-(n+m))) e)).ownsRow 0 e i.size
    (.slice (some ⟨w.heap.size,0,none⟩) (n+m) (grownCap w (n+m) old e)) (n+m) (xs++news)/\
   jQ w (w.drew.alloc (.cells (xs.toArray++news.toArray++Builtin.zeroCells z.cells (grownCap w (n+m) old e-(n+m))) e)) none:=by
  intro old ho;have hge:=grownCap_ge w (n+m) old e;have GW:grownCap w (n+m) old e<=maxLen:=grownCap_le_maxLen w (n+m) old e h63;refine⟨⟨hlen,.inr ⟨w.heap.size,_,_,rfl,Nat.zero_le _,heap_alloc_new w.drew _,hge,GW,?_,?_⟩⟩,⟨rfl,rfl,rfl,by simp,λk hk _=>heap_alloc_old w.drew _ hk⟩,Nat.le_succ _⟩
  ·simp only[Array.size_append,List.size_toArray,size_zeroCells,hzs,hown.1,hl,<-Nat.add_mul]
   congr 1
   omega
  ·simp only[Array.toList_append,List.append_assoc];rw[<-List.append_assoc,<-hlen];exact List.take_left
 rcases hown.2 with⟨rfl,rfl⟩|⟨g,cap,cur,rfl,hbg,hg,hnc,GW,hcs,Ed⟩
 ·have hx:xs=[]:=List.eq_nil_of_length_eq_zero (by simpa using hown.1)
  subst hx;have hr:=run_append_nil (P:=P) w t ty e i z ht hi hz a m c news hl hnews (by omega) (by omega) (by have hb:=hbytes;simp only[Nat.zero_add]at hb;omega)
  have Db:=grown 0 (by omega)
  simp only[Nat.zero_add,List.nil_append,Array.empty_append]at Db|-;exact⟨_,_,hr,Db.1,.inr ⟨rfl,Db.2⟩⟩
 ·by_cases hroom:n+m<=cap
  ·have hfit:n*i.size+news.length<=cur.size:=by rw[hl,hcs,<-Nat.add_mul];exact Nat.mul_le_mul_right _ hroom
   have hr:=run_append_room (P:=P) w t ty e i ht hi g n cap cur hg a m c news hl hnews h1 hroom hfit;refine⟨_,_,hr,⟨hlen,.inr ⟨g,cap,_,rfl,hbg,setRow_heap w g cur _ e _ hg,hroom,GW,?_,?_⟩⟩,.inl ⟨rfl,⟨rfl,rfl,rfl,by simp,λk _ hk=>setRow_other w g k _ (λe=>hk (by simp[Value.ownBlock,e]))⟩,Nat.le_refl _⟩⟩
   ·simp only[List.size_toArray,List.length_append,List.length_take,List.length_drop,Array.length_toList];omega
   ·rw[Ed,<-hlen];exact List.take_left
  ·have holds:∀j u,xs[j]?=some u->w.cell? ((⟨g,0,none⟩:Addr).add j)=some u:=hown.cells (g:=g) rfl;have hr:=run_append_grow (P:=P) w t ty e i z ht hi hz ⟨g,0,none⟩ n cap xs hown.1 holds a m c news hl hnews (by omega) (by omega) (growslice_fits (by omega) hbytes)
   have Db:=grown cap (by omega)
   exact⟨_,_,hr,Db.1,.inr ⟨rfl,Db.2⟩⟩
end
end Go.Aft
end
