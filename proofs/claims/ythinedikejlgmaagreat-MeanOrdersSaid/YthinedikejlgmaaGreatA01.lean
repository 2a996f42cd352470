import Derived.WalkKit
import Derived.KernelRfl
set_option linter.all false
section
namespace Go.Aft
inductive DV where
 | k (v:Value)
 | sl (xs:List (List DV))
instance:Inhabited DV:=⟨.k undef⟩
inductive LV where
 | d (x:DV)
 | lp (k off:Nat)
 | gp (n off:Nat)
 | ep (xs:List (List DV)) (es i off:Nat)
 | osl (n:Nat) (xs:List (List DV))
 | gm (n:Nat)
 | vs (n g sz i len:Nat)
 | vp (n g o:Nat)
 | yl (n:Nat)
 | ip (cs:List LV) (off:Nat)
 | fn (f:Fn) (first cap:List LV)
 | agg (cs:List LV)
 | tup (vs:List LV)
 | gd (g:Bool) (raw:LV)
 | any
instance:Inhabited LV:=⟨.any⟩
inductive AD where
 | mark (n:Nat)
 | call (f:FuncId) (args cap:List LV)
abbrev Mem:=Nat->Nat->Option Value
mutual
def DR (M:Mem):DV->Value->Prop
 | .k v,x=>x=v/\v.oneCell'=true
 | .sl xs,x=>∃ a cap sz,x=.slice a xs.length cap/\xs.length<=cap/\cap<=maxLen/\(∀ r ∈ xs,r.length=sz)/\(xs=[] \/ ∃ b o,a=some ⟨b,o,none⟩/\RR M b o xs)
def RC (M:Mem) (b o:Nat):List DV->Prop
 | []=>True
 | c :: cs=>(∃ v,M b o=some v/\DR M c v)/\RC M b (o+1) cs
def RR (M:Mem) (b o:Nat):List (List DV)->Prop
 | []=>True
 | r :: rs=>RC M b o r/\RR M b (o+r.length) rs
end
def Mem.le (M M':Mem):Prop:=∀ b o v,M b o=some v->M' b o=some v
theorem Mem.le_refl (M:Mem):M.le M:=fun _ _ _ h=>h
theorem Mem.le_trans {A B C:Mem} (h:A.le B) (k:B.le C):A.le C:=fun b o v x=>k b o v (h b o v x)
mutual
theorem b2j {M M':Mem} (h:M.le M'):∀ (d:DV) (x:Value),DR M d x->DR M' d x
 | .k v,x,hx=>by simpa [DR] using hx
 | .sl xs,x,hx=>by
  unfold DR at hx |-
  obtain ⟨a,cap,sz,e,h1,h2,h3,h4⟩:=hx
  refine ⟨a,cap,sz,e,h1,h2,h3,?_⟩
  rcases h4 with h4 | ⟨b,o,e2,h4⟩
  ·exact .inl h4
  ·exact .inr ⟨b,o,e2,d4f h b o xs h4⟩
theorem e6v {M M':Mem} (h:M.le M'):∀ (b o:Nat) (r:List DV),RC M b o r->RC M' b o r
 | b,o,[],hx=>by simp [RC]
 | b,o,c :: cs,hx=>by
  unfold RC at hx |-
  obtain ⟨⟨v,h1,h2⟩,h3⟩:=hx
  exact ⟨⟨v,h _ _ _ h1,b2j h c v h2⟩,e6v h b (o+1) cs h3⟩
theorem d4f {M M':Mem} (h:M.le M'):∀ (b o:Nat) (xs:List (List DV)),RR M b o xs->RR M' b o xs
 | b,o,[],hx=>by simp [RR]
 | b,o,r :: rs,hx=>by
  unfold RR at hx |-
  exact ⟨e6v h b o r hx.1,d4f h b (o+r.length) rs hx.2⟩
end
inductive Own where
 | none | loc (k:Nat) | nm (n:Nat) | foreign
 deriving DecidableEq
structure Gh where
 M:Mem
 own:Nat->Own
 nm:Nat->Nat
 av:Nat->Value
 tip:Nat->Nat
mutual
def LR (G:Gh) (nx:Nat) (lm:Nat->Option Nat):LV->Value->Prop
 | .d x,v=>DR G.M x v
 | .lp k off,v=>∃ b,lm k=some b/\v=.pointer (some ⟨b,off,none⟩)
 | .gp n off,v=>n < nx/\v=.pointer (some ⟨G.nm n,off,none⟩)
 | .ep xs es i off,v=>∃ b o,v=.pointer (some ⟨b,o+i * es+off,none⟩)/\i < xs.length/\(∀ r ∈ xs,r.length=es)/\RR G.M b o xs
 | .osl n xs,v=>n < nx/\DR G.M (.sl xs) v/\xs.length<=G.tip n/\(xs.length=G.tip n->v=G.av n)
 | .gm n,v=>n < nx/\v=.map (some (G.nm n))
 | .vs n g sz i len,v=>n < nx/\g<=G.tip n/\∃ b o cap,v=.slice (some ⟨b,o,none⟩) len cap/\len<=cap/\cap<=maxLen/\(g=G.tip n->∃ C,G.av n=.slice (some ⟨b,sz,none⟩) 0 C/\i+cap=C/\(i < C->o=i * sz))
 | .vp n g o,v=>n < nx/\g<=G.tip n/\∃ b o',v=.pointer (some ⟨b,o',none⟩)/\(g=G.tip n->o'=o/\∃ sz C,G.av n=.slice (some ⟨b,sz,none⟩) 0 C)
 | .yl n,v=>n < nx/\v=.func (.yield (G.nm n)) #[] #[]
 | .ip cs off,v=>∃ b,v=.pointer (some ⟨b,off,none⟩)/\IR G nx lm b 0 cs
 | .fn f first cap,v=>∃ fs cs,v=.func f fs.toArray cs.toArray/\LRs G nx lm first fs/\LRs G nx lm cap cs
 | .agg cs,v=>∃ vs,v=.agg vs.toArray/\LRs G nx lm cs vs
 | .tup cs,v=>∃ vs,v=.tuple vs.toArray/\LRs G nx lm cs vs
 | .gd g raw,v=>(g=true->LR G nx lm raw v)/\(g=false->v=undef)
 | .any,_=>True
def LRs (G:Gh) (nx:Nat) (lm:Nat->Option Nat):List LV->List Value->Prop
 | [],vs=>vs=[]
 | c :: cs,vs=>∃ v r,vs=v :: r/\LR G nx lm c v/\LRs G nx lm cs r
def IR (G:Gh) (nx:Nat) (lm:Nat->Option Nat) (b o:Nat):List LV->Prop
 | []=>True
 | c :: cs=>(∃ v,G.M b o=some v/\v.oneCell'=true/\LR G nx lm c v)/\IR G nx lm b (o+1) cs
end
def DFR (G:Gh) (nx:Nat):AD->Deferred->Prop
 | .mark n,d=>n < nx/\d = ⟨.collected (G.nm n),#[]⟩
 | .call f args cap,d=>∃ xs cs:List Value,d = ⟨.fn (.func f) cs.toArray,xs.toArray⟩/\LRs G nx (fun _=>none) args xs/\LRs G nx (fun _=>none) cap cs
def DFRs (G:Gh) (nx:Nat):List AD->List Deferred->Prop
 | [],ds=>ds=[]
 | x :: xs,ds=>∃ d r,ds=d :: r/\DFR G nx x d/\DFRs G nx xs r
structure Gh.le (nx:Nat) (G G':Gh):Prop where
 M:G.M.le G'.M
 nm:∀ n,n < nx->G'.nm n=G.nm n
 tip:∀ n,n < nx->G.tip n<=G'.tip n/\(G'.tip n=G.tip n->G'.av n=G.av n)
theorem Gh.le_refl (nx:Nat) (G:Gh):G.le nx G:=⟨Mem.le_refl _,fun _ _=>rfl,fun _ _=>⟨Nat.le_refl _,fun _=>rfl⟩⟩
theorem Gh.le_trans {nx nx':Nat} (hn:nx<=nx') {A B C:Gh} (h:A.le nx B) (k:B.le nx' C):A.le nx C where
 M:=Mem.le_trans h.M k.M
 nm n hl:=(k.nm n (by omega)).trans (h.nm n hl)
 tip n hl:=by
  have a:=h.tip n hl;have b:=k.tip n (by omega)
  exact ⟨by omega,fun e=>(b.2 (by omega)).trans (a.2 (by omega))⟩
mutual
theorem a0v {nx nx':Nat} {G G':Gh} {lm lm':Nat->Option Nat} (hn:nx<=nx') (h:G.le nx G') (hl:∀ k b,lm k=some b->lm' k=some b) :
  ∀ (x:LV) (v:Value),LR G nx lm x v->LR G' nx' lm' x v
 | .d x,v,hx=>by unfold LR at hx |-;exact b2j h.M _ _ hx
 | .lp k off,v,hx=>by unfold LR at hx |-;obtain ⟨b,h1,h2⟩:=hx;exact ⟨b,hl _ _ h1,h2⟩
 | .gp n off,v,hx=>by unfold LR at hx |-;obtain ⟨h1,h2⟩:=hx;exact ⟨by omega,by rw [h.nm n h1];exact h2⟩
 | .ep xs es i off,v,hx=>by unfold LR at hx |-;obtain ⟨b,o,h1,h0,h2,h3⟩:=hx;exact ⟨b,o,h1,h0,h2,d4f h.M _ _ _ h3⟩
 | .osl n xs,v,hx=>by
  unfold LR at hx |-
  obtain ⟨h1,h2,h3,h4⟩:=hx
  have t:=h.tip n h1
  exact ⟨by omega,b2j h.M _ _ h2,by omega,fun e=>by rw [t.2 (by omega)];exact h4 (by omega)⟩
 | .gm n,v,hx=>by unfold LR at hx |-;obtain ⟨h1,h2⟩:=hx;exact ⟨by omega,by rw [h.nm n h1];exact h2⟩
 | .vs n g sz i len,v,hx=>by
  unfold LR at hx |-
  obtain ⟨h1,h2,b,o,cap,h3,h4,h5,h6⟩:=hx
  have t:=h.tip n h1
  exact ⟨by omega,by omega,b,o,cap,h3,h4,h5,fun e=>by rw [t.2 (by omega)];exact h6 (by omega)⟩
 | .vp n g o,v,hx=>by
  unfold LR at hx |-
  obtain ⟨h1,h2,b,o',h3,h4⟩:=hx
  have t:=h.tip n h1
  exact ⟨by omega,by omega,b,o',h3,fun e=>by rw [t.2 (by omega)];exact h4 (by omega)⟩
 | .yl n,v,hx=>by unfold LR at hx |-;obtain ⟨h1,h2⟩:=hx;exact ⟨by omega,by rw [h.nm n h1];exact h2⟩
 | .ip cs off,v,hx=>by unfold LR at hx |-;obtain ⟨b,h1,h2⟩:=hx;exact ⟨b,h1,e7e hn h hl b 0 cs h2⟩
 | .fn f first cap,v,hx=>by
  unfold LR at hx |-
  obtain ⟨fs,cs,h1,h2,h3⟩:=hx
  exact ⟨fs,cs,h1,a1d hn h hl _ _ h2,a1d hn h hl _ _ h3⟩
 | .agg cs,v,hx=>by unfold LR at hx |-;obtain ⟨vs,h1,h2⟩:=hx;exact ⟨vs,h1,a1d hn h hl _ _ h2⟩
 | .tup cs,v,hx=>by unfold LR at hx |-;obtain ⟨vs,h1,h2⟩:=hx;exact ⟨vs,h1,a1d hn h hl _ _ h2⟩
 | .gd g raw,v,hx=>by unfold LR at hx |-;exact ⟨fun e=>a0v hn h hl raw v (hx.1 e),hx.2⟩
 | .any,v,hx=>by simp [LR]
theorem a1d {nx nx':Nat} {G G':Gh} {lm lm':Nat->Option Nat} (hn:nx<=nx') (h:G.le nx G') (hl:∀ k b,lm k=some b->lm' k=some b) :
  ∀ (xs:List LV) (vs:List Value),LRs G nx lm xs vs->LRs G' nx' lm' xs vs
 | [],vs,hx=>by unfold LRs at hx |-;exact hx
 | c :: cs,vs,hx=>by
  unfold LRs at hx |-
  obtain ⟨v,r,h1,h2,h3⟩:=hx
  exact ⟨v,r,h1,a0v hn h hl c v h2,a1d hn h hl cs r h3⟩
theorem e7e {nx nx':Nat} {G G':Gh} {lm lm':Nat->Option Nat} (hn:nx<=nx') (h:G.le nx G') (hl:∀ k b,lm k=some b->lm' k=some b) :
  ∀ (b o:Nat) (xs:List LV),IR G nx lm b o xs->IR G' nx' lm' b o xs
 | b,o,[],hx=>by simp [IR]
 | b,o,c :: cs,hx=>by
  unfold IR at hx |-
  obtain ⟨⟨v,h1,h1',h2⟩,h3⟩:=hx
  exact ⟨⟨v,h.M _ _ _ h1,h1',a0v hn h hl c v h2⟩,e7e hn h hl b (o+1) cs h3⟩
end
theorem f0q {nx nx':Nat} {G G':Gh} (hn:nx<=nx') (h:G.le nx G'):∀ (x:AD) (d:Deferred),DFR G nx x d->DFR G' nx' x d
 | .mark n,d,⟨h1,h2⟩=>⟨by omega,by rw [h.nm n h1];exact h2⟩
 | .call f args cap,d,⟨xs,cs,h1,h2,h3⟩=>⟨xs,cs,h1,a1d hn h (fun _ _ e=>e) _ _ h2,a1d hn h (fun _ _ e=>e) _ _ h3⟩
theorem a1g {nx nx':Nat} {G G':Gh} (hn:nx<=nx') (h:G.le nx G'):∀ (xs:List AD) (ds:List Deferred),DFRs G nx xs ds->DFRs G' nx' xs ds
 | [],ds,hx=>hx
 | x :: xs,ds,⟨d,r,h1,h2,h3⟩=>⟨d,r,h1,f0q hn h x d h2,a1g hn h xs r h3⟩
mutual
def LV.nb (n:Nat):LV->Prop
 | .d _=>True
 | .lp _ _=>False
 | .gp m _=>m < n
 | .ep _ _ _ _=>True
 | .osl m _=>m < n
 | .gm m=>m < n
 | .vs m _ _ _ _=>m < n
 | .vp m _ _=>m < n
 | .yl m=>m < n
 | .ip cs _=>nbs n cs
 | .fn _ first cap=>nbs n first/\nbs n cap
 | .agg cs=>nbs n cs
 | .tup cs=>nbs n cs
 | .gd g raw=>g=true->LV.nb n raw
 | .any=>True
def nbs (n:Nat):List LV->Prop
 | []=>True
 | c :: cs=>LV.nb n c/\nbs n cs
end
mutual
theorem a6d {G:Gh} {nx n:Nat} {lm:Nat->Option Nat}:∀ (x:LV) (v:Value),LR G nx lm x v->x.nb n->LR G n (fun _=>none) x v
 | .d x,v,h,_=>by unfold LR at h |-;exact h
 | .lp k off,v,h,hb=>by simp [LV.nb] at hb
 | .gp m off,v,h,hb=>by unfold LR at h |-;exact ⟨by simpa [LV.nb] using hb,h.2⟩
 | .ep xs es i off,v,h,_=>by unfold LR at h |-;exact h
 | .osl m xs,v,h,hb=>by unfold LR at h |-;exact ⟨by simpa [LV.nb] using hb,h.2⟩
 | .gm m,v,h,hb=>by unfold LR at h |-;exact ⟨by simpa [LV.nb] using hb,h.2⟩
 | .vs m _ _ _ _,v,h,hb=>by unfold LR at h |-;exact ⟨by simpa [LV.nb] using hb,h.2⟩
 | .vp m _ _,v,h,hb=>by unfold LR at h |-;exact ⟨by simpa [LV.nb] using hb,h.2⟩
 | .yl m,v,h,hb=>by unfold LR at h |-;exact ⟨by simpa [LV.nb] using hb,h.2⟩
 | .ip cs off,v,h,hb=>by unfold LR at h |-;unfold LV.nb at hb;obtain ⟨b,h1,h2⟩:=h;exact ⟨b,h1,e7g b 0 cs h2 hb⟩
 | .fn f first cap,v,h,hb=>by
  unfold LR at h |-;unfold LV.nb at hb
  obtain ⟨fs,cs,h1,h2,h3⟩:=h
  exact ⟨fs,cs,h1,a2a _ _ h2 hb.1,a2a _ _ h3 hb.2⟩
 | .agg cs,v,h,hb=>by unfold LR at h |-;unfold LV.nb at hb;obtain ⟨vs,h1,h2⟩:=h;exact ⟨vs,h1,a2a _ _ h2 hb⟩
 | .tup cs,v,h,hb=>by unfold LR at h |-;unfold LV.nb at hb;obtain ⟨vs,h1,h2⟩:=h;exact ⟨vs,h1,a2a _ _ h2 hb⟩
 | .gd g raw,v,h,hb=>by unfold LR at h |-;unfold LV.nb at hb;exact ⟨fun e=>a6d raw v (h.1 e) (hb e),h.2⟩
 | .any,v,_,_=>by simp [LR]
theorem a2a {G:Gh} {nx n:Nat} {lm:Nat->Option Nat}:∀ (xs:List LV) (vs:List Value),LRs G nx lm xs vs->nbs n xs->LRs G n (fun _=>none) xs vs
 | [],vs,h,_=>by unfold LRs at h |-;exact h
 | c :: cs,vs,h,hb=>by
  unfold LRs at h |-;unfold nbs at hb
  obtain ⟨v,r,h1,h2,h3⟩:=h
  exact ⟨v,r,h1,a6d c v h2 hb.1,a2a cs r h3 hb.2⟩
theorem e7g {G:Gh} {nx n:Nat} {lm:Nat->Option Nat}:∀ (b o:Nat) (xs:List LV),IR G nx lm b o xs->nbs n xs->IR G n (fun _=>none) b o xs
 | b,o,[],h,_=>by simp [IR]
 | b,o,c :: cs,h,hb=>by
  unfold IR at h |-;unfold nbs at hb
  obtain ⟨⟨v,h1,h1',h2⟩,h3⟩:=h
  exact ⟨⟨v,h1,h1',a6d c v h2 hb.1⟩,e7g b (o+1) cs h3 hb.2⟩
end
mutual
theorem f0p {G:Gh} {nx:Nat}:∀ (x:LV) (v:Value),LR G nx (fun _=>none) x v->x.nb nx
 | .d x,v,h=>by simp [LV.nb]
 | .lp k off,v,h=>by unfold LR at h;obtain ⟨b,h,_⟩:=h;cases h
 | .gp m off,v,h=>by unfold LR at h;simpa [LV.nb] using h.1
 | .ep xs es i off,v,h=>by simp [LV.nb]
 | .osl m xs,v,h=>by unfold LR at h;simpa [LV.nb] using h.1
 | .gm m,v,h=>by unfold LR at h;simpa [LV.nb] using h.1
 | .vs m _ _ _ _,v,h=>by unfold LR at h;simpa [LV.nb] using h.1
 | .vp m _ _,v,h=>by unfold LR at h;simpa [LV.nb] using h.1
 | .yl m,v,h=>by unfold LR at h;simpa [LV.nb] using h.1
 | .ip cs off,v,h=>by unfold LR at h;unfold LV.nb;obtain ⟨b,h1,h2⟩:=h;exact f5v b 0 cs h2
 | .fn f first cap,v,h=>by unfold LR at h;obtain ⟨fs,cs,_,h2,h3⟩:=h;unfold LV.nb;exact ⟨b4a _ _ h2,b4a _ _ h3⟩
 | .agg cs,v,h=>by unfold LR at h;obtain ⟨vs,_,h2⟩:=h;unfold LV.nb;exact b4a _ _ h2
 | .tup cs,v,h=>by unfold LR at h;obtain ⟨vs,_,h2⟩:=h;unfold LV.nb;exact b4a _ _ h2
 | .gd g raw,v,h=>by unfold LR at h;unfold LV.nb;exact fun e=>f0p raw v (h.1 e)
 | .any,v,_=>by simp [LV.nb]
theorem b4a {G:Gh} {nx:Nat}:∀ (xs:List LV) (vs:List Value),LRs G nx (fun _=>none) xs vs->nbs nx xs
 | [],vs,h=>by simp [nbs]
 | c :: cs,vs,h=>by
  unfold LRs at h;unfold nbs
  obtain ⟨v,r,_,h2,h3⟩:=h
  exact ⟨f0p c v h2,b4a cs r h3⟩
theorem f5v {G:Gh} {nx:Nat}:∀ (b o:Nat) (xs:List LV),IR G nx (fun _=>none) b o xs->nbs nx xs
 | b,o,[],h=>by simp [nbs]
 | b,o,c :: cs,h=>by
  unfold IR at h;unfold nbs
  obtain ⟨⟨v,h1,h1',h2⟩,h3⟩:=h
  exact ⟨f0p c v h2,f5v b (o+1) cs h3⟩
end
theorem a0u {G:Gh} {nx:Nat} {lm:Nat->Option Nat}:∀ {xs:List LV} {vs:List Value},LRs G nx lm xs vs->vs.length=xs.length
 | [],vs,h=>by unfold LRs at h;simp [h]
 | c :: cs,vs,h=>by
  unfold LRs at h
  obtain ⟨v,r,rfl,_,h3⟩:=h
  simp [a0u h3]
theorem a6y {G:Gh} {nx:Nat} {lm:Nat->Option Nat}:∀ {xs:List LV} {vs:List Value},LRs G nx lm xs vs->∀ (i:Nat) (x:LV),xs[i]?=some x->∃ v,vs[i]?=some v/\LR G nx lm x v
 | [],vs,h,i,x,hx=>by simp at hx
 | c :: cs,vs,h,i,x,hx=>by
  unfold LRs at h
  obtain ⟨v,r,rfl,h2,h3⟩:=h
  cases i with
  | zero=>simp at hx;subst hx;exact ⟨v,by simp,h2⟩
  | succ i=>simp at hx;simpa using a6y h3 i x hx
theorem b5i {G:Gh} {nx:Nat} {lm:Nat->Option Nat}:∀ {xs:List LV} {vs:List Value},vs.length=xs.length->(∀ (i:Nat) (x:LV) (v:Value),xs[i]?=some x->vs[i]?=some v->LR G nx lm x v)->LRs G nx lm xs vs
 | [],vs,h,_=>by unfold LRs;exact List.eq_nil_of_length_eq_zero (by simpa using h)
 | c :: cs,vs,h,hx=>by
  cases vs with
  | nil=>simp at h
  | cons v r =>
   unfold LRs
   exact ⟨v,r,rfl,hx 0 c v rfl rfl,b5i (by simpa using h) fun i x v h1 h2=>hx (i+1) x v (by simpa using h1) (by simpa using h2)⟩
theorem b1g {G:Gh} {nx:Nat} {lm:Nat->Option Nat} {xs:List LV} {vs:List Value} (h:LRs G nx lm xs vs) (n:Nat):LRs G nx lm (xs.take n) (vs.take n) :=
 b5i (by simp [a0u h]) fun i x v h1 h2=>by
  rw [List.getElem?_take] at h1 h2
  split at h1
  ·rename_i hi
   rw [if_pos hi] at h2
   obtain ⟨v',h3,h4⟩:=a6y h i x h1
   rw [h3] at h2;cases h2;exact h4
  ·cases h1
theorem a2u {G:Gh} {nx:Nat} {lm:Nat->Option Nat} {xs:List LV} {vs:List Value} (h:LRs G nx lm xs vs) (n:Nat):LRs G nx lm (xs.drop n) (vs.drop n) :=
 b5i (by simp [a0u h]) fun i x v h1 h2=>by
  rw [List.getElem?_drop] at h1 h2
  obtain ⟨v',h3,h4⟩:=a6y h _ x h1
  rw [h3] at h2;cases h2;exact h4
theorem a2g {G:Gh} {nx:Nat} {lm:Nat->Option Nat}:∀ {xs ys:List LV} {vs us:List Value},LRs G nx lm xs vs->LRs G nx lm ys us->LRs G nx lm (xs ++ ys) (vs ++ us)
 | [],ys,vs,us,h,k=>by unfold LRs at h;subst h;simpa using k
 | c :: cs,ys,vs,us,h,k=>by
  unfold LRs at h
  obtain ⟨v,r,rfl,h2,h3⟩:=h
  simp only [List.cons_append]
  unfold LRs
  exact ⟨v,r ++ us,rfl,h2,a2g h3 k⟩
theorem d8f {G:Gh} {nx:Nat} {lm:Nat->Option Nat} {b:Nat}:∀ (cs:List LV) (o:Nat),IR G nx lm b o cs->∃ vs:List Value,vs.length=cs.length/\(∀ i v,vs[i]?=some v->G.M b (o+i)=some v)/\LRs G nx lm cs vs/\∀ v ∈ vs,v.oneCell'=true
 | [],o,h=>⟨[],rfl,by simp,by simp [LRs],by simp⟩
 | c :: cs,o,h=>by
  unfold IR at h
  obtain ⟨⟨v,h1,h1',h2⟩,h3⟩:=h
  obtain ⟨vs,g1,g2,g3,g4⟩:=d8f (G:=G) (nx:=nx) (lm:=lm) cs (o+1) h3
  refine ⟨v :: vs,by simp [g1],fun i u hu=>?_,by unfold LRs;exact ⟨v,vs,rfl,h2,g3⟩,?_⟩
  ·cases i with
   | zero=>simp at hu;subst hu;exact h1
   | succ i=>simp at hu;have:=g2 i u hu;rw [show o+(i+1)=o+1+i from by omega];exact this
  ·intro u hu
   rcases List.mem_cons.1 hu with rfl | hu
   ·exact h1'
   ·exact g4 u hu
theorem f4i {G:Gh} {nx:Nat} {lm:Nat->Option Nat} {b:Nat}:∀ {cs:List LV} {vs:List Value} {o:Nat},LRs G nx lm cs vs->(∀ (i:Nat) (v:Value),vs[i]?=some v->G.M b (o+i)=some v)->(∀ v ∈ vs,v.oneCell'=true)->IR G nx lm b o cs
 | [],vs,o,h,_,_=>by simp [IR]
 | c :: cs,vs,o,h,hm,h1=>by
  unfold LRs at h
  obtain ⟨v,r,rfl,h2,h3⟩:=h
  unfold IR
  exact ⟨⟨v,by simpa using hm 0 v rfl,h1 v (by simp),h2⟩,f4i h3 (fun i u hu=>by have:=hm (i+1) u (by simpa using hu);rw [show o+(i+1)=o+1+i from by omega] at this;exact this) fun u hu=>h1 u (by simp [hu])⟩
theorem c6e {G:Gh} {nx:Nat} {lm:Nat->Option Nat} {b:Nat}:∀ (r:List DV) (o:Nat),RC G.M b o r->∃ vs:List Value,vs.length=r.length/\(∀ i v,vs[i]?=some v->G.M b (o+i)=some v)/\LRs G nx lm (r.map .d) vs
 | [],o,h=>⟨[],rfl,by simp,by simp [LRs]⟩
 | c :: cs,o,h=>by
  unfold RC at h
  obtain ⟨⟨v,h1,h2⟩,h3⟩:=h
  obtain ⟨vs,g1,g2,g3⟩:=c6e (G:=G) (nx:=nx) (lm:=lm) cs (o+1) h3
  refine ⟨v :: vs,by simp [g1],fun i u hu=>?_,?_⟩
  ·cases i with
   | zero=>simp at hu;subst hu;exact h1
   | succ i=>simp at hu;have:=g2 i u hu;rw [show o+(i+1)=o+1+i from by omega];exact this
  ·simp only [List.map_cons];unfold LRs;exact ⟨v,vs,rfl,by unfold LR;exact h2,g3⟩
theorem f2b {M:Mem} {b sz:Nat}:∀ {xs:List (List DV)} {o:Nat},(∀ r ∈ xs,r.length=sz)->RR M b o xs->∀ (i:Nat) (r:List DV),xs[i]?=some r->RC M b (o+i * sz) r
 | [],o,_,_,i,r,h=>by simp at h
 | x :: xs,o,hs,h,i,r,hr=>by
  unfold RR at h
  cases i with
  | zero=>simp at hr;subst hr;simpa using h.1
  | succ i =>
   simp at hr
   have:=f2b (fun r hr=>hs r (List.mem_cons_of_mem _ hr)) h.2 i r hr
   have hx:=hs x (List.mem_cons_self ..)
   rw [show o+(i+1) * sz=o+x.length+i * sz from by rw [hx,Nat.succ_mul];omega];exact this
theorem d4e {M:Mem} {b:Nat}:∀ {xs:List (List DV)} {o:Nat},RR M b o xs->∀ n,RR M b o (xs.take n)
 | [],o,h,n=>by simp [RR]
 | x :: xs,o,h,n=>by
  unfold RR at h
  cases n with
  | zero=>simp [RR]
  | succ n=>simp only [List.take_succ_cons];unfold RR;exact ⟨h.1,d4e h.2 n⟩
theorem d4g {M:Mem} {b sz:Nat}:∀ {xs:List (List DV)} {o:Nat},(∀ r ∈ xs,r.length=sz)->RR M b o xs->∀ n,n<=xs.length->RR M b (o+n * sz) (xs.drop n)
 | [],o,_,h,n,hn=>by simp [RR]
 | x :: xs,o,hs,h,n,hn=>by
  cases n with
  | zero=>simpa using h
  | succ n =>
   unfold RR at h
   have hx:=hs x (List.mem_cons_self ..)
   have:=d4g (fun r hr=>hs r (List.mem_cons_of_mem _ hr)) h.2 n (by simpa using hn)
   simp only [List.drop_succ_cons]
   rw [show o+(n+1) * sz=o+x.length+n * sz from by rw [hx,Nat.succ_mul];omega];exact this
theorem d0k {M:Mem} {b:Nat}:∀ {xs ys:List (List DV)} {o:Nat},RR M b o xs->RR M b (o+(xs.map (·.length)).sum) ys->RR M b o (xs ++ ys)
 | [],ys,o,h,k=>by simpa using k
 | x :: xs,ys,o,h,k=>by
  unfold RR at h
  simp only [List.cons_append];unfold RR
  exact ⟨h.1,d0k h.2 (by simpa [Nat.add_assoc] using k)⟩
end Go.Aft
end
section
namespace Go.Aft
def upd {α:Type} (f:Nat->α) (k:Nat) (v:α):Nat->α:=fun x=>if x=k then v else f x
theorem a7e {α:Type} (f:Nat->α) (k:Nat) (v:α) (x:Nat):upd f k v x=if x=k then v else f x:=rfl
@[simp] theorem upd_same {α:Type} (f:Nat->α) (k:Nat) (v:α):upd f k v k=v:=by simp [upd]
theorem upd_ne {α:Type} (f:Nat->α) {k x:Nat} (v:α) (h:x ≠ k):upd f k v x=f x:=by simp [upd,h]
inductive GO where
 | box (cs:List LV)
 | arr (e:TypeId) (sz m:Nat)
 | map (es:List (Value × LV))
 | vec (e:TypeId) (g sz:Nat) (cells:List LV) (ex:Bool)
 | fz (cs:List LV)
 | iter (m since:Nat) (seen:List Nat) (last:Nat)
 | loop (f:FuncId) (st:LoopState) (pend:Option Code) (env:Nat->LV) (nt:Nat) (ps:Array Nat) (asn body:Code) (d:Nat)
 | dfr
structure GH where
 obj:Nat->Option GO
 next:Nat
structure S where
 env:Nat->LV
 L:Nat->Option (List LV)
 H:GH
 nt:Nat
 df:List AD:=[]
def noL:Nat->Option Nat:=fun _=>none
def b0j (w:World) (b:Nat) (vs:List Value):Prop:=∃ T,w.heap[b]?=some (.cells vs.toArray T (0,0))/\∀ v ∈ vs,v.oneCell'=true
def MapR (G:Gh) (nx:Nat) (es:List (Value × LV)) (xs:List MapEntry) (clock:Nat):Prop :=
 xs.map (·.key)=es.map (·.1)/\LRs G nx noL (es.map (·.2)) (xs.map (·.val))/\xs.map (·.born)=List.range xs.length/\clock=xs.length
def OR (G:Gh) (nx:Nat) (w:World) (n:Nat):GO->Prop
 | .box cs=>G.own (G.nm n)=.nm n/\∃ vs,b0j w (G.nm n) vs/\LRs G nx noL cs vs
 | .arr e sz m=>G.tip n=m/\0 < sz/\∃ cells,w.ownsRow 0 e sz (G.av n) m cells/\(∀ v ∈ cells,v.oneCell'=true)/\∀ b,(G.av n).ownBlock=some b->G.own b=.nm n/\∀ o v,G.M b o=some v->cells[o]?=some v
 | .map es=>G.own (G.nm n)=.nm n/\∃ xs clock,w.heap[G.nm n]?=some (.map xs.toArray clock)/\MapR G nx es xs clock
 | .vec e g sz cells ex=>G.tip n=g/\0 < sz/\∃ b C vs rest,G.av n=.slice (some ⟨b,sz,none⟩) 0 C/\C<=maxLen/\G.own b=.nm n/\w.heap[b]?=some (.cells (vs ++ rest).toArray e (0,0))/\(∀ v ∈ vs ++ rest,v.oneCell'=true) /\
  LRs G nx noL cells vs/\(vs ++ rest).length=C * sz/\(ex=true->rest=[])/\sz ∣ cells.length
 | .fz cs=>∃ vs,(∀ i v,vs[i]?=some v->G.M (G.nm n) i=some v)/\LRs G nx noL cs vs
 | .iter m since seen last=>m < nx/\G.own (G.nm n)=.nm n/\w.heap[G.nm n]?=some (.mapIter (some (G.nm m)) since seen.toArray last)
 | .loop f st pend env nt ps asn body d=>d < nx/\G.own (G.nm n)=.nm n/\∃ tmps,w.heap[G.nm n]?=some (.loop ⟨st,pend,f,tmps,ps,asn,body,G.nm d⟩)/\tmps.size=nt/\∀ t,LR G nx noL (env t) (tmps.getD t undef)
 | .dfr=>G.own (G.nm n)=.nm n/\w.heap[G.nm n]?=some (.deferred (some []))
structure MR (G:Gh) (lm:Nat->Option Nat) (L:Nat->Option (List LV)) (H:GH) (w:World):Prop where
 imm:∀ b o v,G.M b o=some v->w.cell? ⟨b,o,none⟩=some v
 immOwn:∀ b o v,G.M b o=some v->G.own b=.none \/ ∃ n e sz m,G.own b=.nm n/\H.obj n=some (.arr e sz m)/\(G.av n).ownBlock=some b
 fresh:∀ b,w.heap.size<=b->G.own b=.none/\∀ o,G.M b o=none
 lmL:∀ k,L k=none->lm k=none
 loc:∀ k cs,L k=some cs->∃ b vs,lm k=some b/\G.own b=.loc k/\b0j w b vs/\LRs G H.next lm cs vs
 nmd:∀ n o,H.obj n=some o->n < H.next/\OR G H.next w n o
structure Ent where
 G:Gh
 H:GH
 w:World
def b0o (G:Gh):Prop:=∀ b k,G.own b ≠ .loc k
structure GrownD (w w':World) (row:Option Nat):Prop extends w.grownBy w' row where
 drawn:w.drawn<=w'.drawn
structure Ext0 (E:Ent) (G:Gh) (H:GH) (w:World):Prop where
 le:E.G.le E.H.next G
 nx:E.H.next<=H.next
 os:w.os=E.w.os
 tape:w.tape=E.w.tape
 output:w.output=E.w.output
 drawn:E.w.drawn<=w.drawn
 size:E.w.heap.size<=w.heap.size
 frame:∀ b,b < E.w.heap.size->(E.G.own b=.none \/ E.G.own b=.foreign)->w.heap[b]?=E.w.heap[b]?
 own:∀ b,b < E.w.heap.size->G.own b=E.G.own b \/ ((∃ n,E.G.own b=.nm n)/\G.own b=.none)
structure Ext (E:Ent) (G:Gh) (H:GH) (w:World):Prop extends Ext0 E G H w where
 nl:b0o E.G
theorem Ext.refl (G:Gh) (H:GH) (w:World) (nl:b0o G):Ext ⟨G,H,w⟩ G H w:=⟨⟨Gh.le_refl _ _,Nat.le_refl _,rfl,rfl,rfl,Nat.le_refl _,Nat.le_refl _,fun _ _ _=>rfl,fun _ _=>.inl rfl⟩,nl⟩
theorem Ext.trans {E:Ent} {G G':Gh} {H H':GH} {w w':World} (h:Ext E G H w) (k:Ext0 ⟨G,H,w⟩ G' H' w'):Ext E G' H' w' where
 nl:=h.nl
 le:=Gh.le_trans h.nx h.le k.le
 nx:=Nat.le_trans h.nx k.nx
 os:=k.os.trans h.os
 tape:=k.tape.trans h.tape
 output:=k.output.trans h.output
 drawn:=Nat.le_trans h.drawn k.drawn
 size:=Nat.le_trans h.size k.size
 frame b hb ho:=by
  have o1:=h.own b hb
  refine (k.frame b (Nat.lt_of_lt_of_le hb h.size) ?_).trans (h.frame b hb ho)
  rcases o1 with o1 | ⟨⟨n,hn⟩,o1⟩
  ·rw [o1];exact ho
  ·rw [hn] at ho;simp at ho
 own b hb:=by
  have o1:=h.own b hb
  have o2:=k.own b (Nat.lt_of_lt_of_le hb h.size)
  rcases o1 with o1 | ⟨⟨n,hn⟩,o1⟩ <;> rcases o2 with o2 | ⟨⟨m,hm⟩,o2⟩
  ·exact .inl (o2.trans o1)
  ·exact .inr ⟨⟨m,o1.symm.trans hm⟩,o2⟩
  ·exact .inr ⟨⟨n,hn⟩,o2.trans o1⟩
  ·exact .inr ⟨⟨n,hn⟩,o2⟩
theorem cell_of {w:World} {b o:Nat} {cs:Array Value} {T:TypeId} {fr:Nat × Nat} (h:w.heap[b]?=some (.cells cs T fr)):w.cell? ⟨b,o,none⟩=cs[o]?:=by
 simp [World.cell?,h]
theorem a2t {w w':World} {b o:Nat} (h:w'.heap[b]?=w.heap[b]?):w'.cell? ⟨b,o,none⟩=w.cell? ⟨b,o,none⟩:=World.cell?_of_block h
theorem cell_lt {w:World} {b o:Nat} {v:Value} (h:w.cell? ⟨b,o,none⟩=some v):b < w.heap.size:=World.block_lt_of_cell? w _ h
def setB (w:World) (b:Nat) (o:Obj):World:={ w with heap:=w.heap.setIfInBounds b o }
theorem a2j (w:World) (b:Nat) (o:Obj) (x:Nat):(setB w b o).heap[x]?=if x=b/\b < w.heap.size then some o else w.heap[x]?:=by
 unfold setB
 simp only [Array.getElem?_setIfInBounds]
 by_cases h:b=x
 ·subst h;by_cases h2:b < w.heap.size <;> simp [h2]
 ·have:¬ x=b:=fun e=>h e.symm
  simp [h,this]
theorem b2u (w:World) (b:Nat) (o:Obj):(setB w b o).heap.size=w.heap.size:=by simp [setB]
theorem a1t (w:World) (o:Obj) (x:Nat):(w.alloc o).heap[x]?=if x=w.heap.size then some o else w.heap[x]?:=by
 simp only [World.alloc,Array.getElem?_push]
theorem heap_lt {w:World} {b:Nat} {o:Obj} (h:w.heap[b]?=some o):b < w.heap.size:=(Array.getElem?_eq_some_iff.1 h).1
theorem a3j {w w':World} {b:Nat} {vs:List Value} (h:w'.heap[b]?=w.heap[b]?) (hc:b0j w b vs):b0j w' b vs:=by
 obtain ⟨T,h1,h2⟩:=hc;exact ⟨T,h.trans h1,h2⟩
theorem b1e {w:World} {b:Nat} {vs:List Value} (hc:b0j w b vs):b < w.heap.size:=by
 obtain ⟨T,h1,_⟩:=hc;exact heap_lt h1
theorem c4v {w w':World} {base:Nat} {e:TypeId} {sz n:Nat} {v:Value} {xs:List Value} (h:w.ownsRow base e sz v n xs) (hb:∀ b,v.ownBlock=some b->w'.heap[b]?=w.heap[b]?):w'.ownsRow base e sz v n xs:=by
 refine ⟨h.1,?_⟩
 rcases h.2 with h2 | ⟨g,cap,cur,e1,h3,h4,h5⟩
 ·exact .inl h2
 ·exact .inr ⟨g,cap,cur,e1,h3,(hb g (by rw [e1];rfl)).trans h4,h5⟩
theorem c2c {w:World} {base:Nat} {e:TypeId} {sz n b:Nat} {v:Value} {xs:List Value} (h:w.ownsRow base e sz v n xs) (hv:v.ownBlock=some b):b < w.heap.size:=by
 rcases h.2 with ⟨rfl,_⟩ | ⟨g,cap,cur,rfl,h3,h4,h5⟩
 ·simp [Value.ownBlock] at hv
 ·have:g=b:=by simpa [Value.ownBlock] using hv
  subst this;exact heap_lt h4
theorem e6z {G G':Gh} {nx nx':Nat} {es:List (Value × LV)} {xs:List MapEntry} {c:Nat} (hn:nx<=nx') (h:G.le nx G') (hm:MapR G nx es xs c):MapR G' nx' es xs c :=
 ⟨hm.1,a1d hn h (fun _ _ e=>e) _ _ hm.2.1,hm.2.2⟩
theorem a3l {G G':Gh} {nx nx' n:Nat} {w w':World} {o:GO} (hn:nx<=nx') (hlt:n < nx) (h:G.le nx G') (ho:OR G nx w n o)
  (hav:G'.tip n=G.tip n/\G'.av n=G.av n) (hob:∀ b,G.own b=.nm n->G'.own b=.nm n/\w'.heap[b]?=w.heap[b]?/\∀ o v,G'.M b o=some v->G.M b o=some v):OR G' nx' w' n o:=by
 cases o with
 | box cs =>
  obtain ⟨h1,vs,h2,h3⟩:=ho
  have hn':=h.nm n hlt
  have hb:=hob _ h1
  unfold OR
  rw [hn']
  exact ⟨hb.1,vs,a3j hb.2.1 h2,a1d hn h (fun _ _ e=>e) _ _ h3⟩
 | arr e sz m =>
  obtain ⟨h1,h0,cells,h2,h3,h4⟩:=ho
  unfold OR
  rw [hav.1,hav.2]
  refine ⟨h1,h0,cells,c4v h2 (fun b hb=>(hob b (h4 b hb).1).2.1),h3,fun b hb=>?_⟩
  have q:=hob b (h4 b hb).1
  exact ⟨q.1,fun o v hv=>(h4 b hb).2 o v (q.2.2 o v hv)⟩
 | map es =>
  obtain ⟨h1,xs,c,h2,h3⟩:=ho
  have hn':=h.nm n hlt
  have hb:=hob _ h1
  unfold OR
  rw [hn']
  exact ⟨hb.1,xs,c,hb.2.1.trans h2,e6z hn h h3⟩
 | vec e g sz cells ex =>
  obtain ⟨h1,h0,b,C,vs,rest,h2,h3,h4,h5,h6,h7,h8⟩:=ho
  simp only [OR]
  rw [hav.1,hav.2]
  have q:=hob b h4
  exact ⟨h1,h0,b,C,vs,rest,h2,h3,q.1,q.2.1.trans h5,h6,a1d hn h (fun _ _ e=>e) _ _ h7,h8⟩
 | fz cs =>
  obtain ⟨vs,h1,h2⟩:=ho
  simp only [OR]
  rw [h.nm n hlt]
  exact ⟨vs,fun i v hv=>h.M _ _ _ (h1 i v hv),a1d hn h (fun _ _ e=>e) _ _ h2⟩
 | iter m since seen last =>
  obtain ⟨h1,h2,h3⟩:=ho
  have hb:=hob _ h2
  simp only [OR]
  rw [h.nm n hlt,h.nm m h1]
  exact ⟨by omega,hb.1,hb.2.1.trans h3⟩
 | loop f st pend env nt ps asn body d =>
  obtain ⟨h1,h2,tmps,h3,h4,h5⟩:=ho
  have hb:=hob _ h2
  simp only [OR]
  rw [h.nm n hlt,h.nm d h1]
  exact ⟨by omega,hb.1,tmps,hb.2.1.trans h3,h4,fun t=>a0v hn h (fun _ _ e=>e) _ _ (h5 t)⟩
 | dfr =>
  obtain ⟨h2,h3⟩:=ho
  have hb:=hob _ h2
  simp only [OR]
  rw [h.nm n hlt]
  exact ⟨hb.1,hb.2.1.trans h3⟩
section effects
variable {E:Ent} {G:Gh} {lm:Nat->Option Nat} {L:Nat->Option (List LV)} {H:GH} {w:World}
def immG (G:Gh) (b:Nat) (vs:List Value):Gh:={ G with M:=fun x o=>if x=b then vs[o]? else G.M x o }
theorem c5k (h:MR G lm L H w) (nx:Nat) (vs:List Value):G.le nx (immG G w.heap.size vs) where
 M b o v hv:=by
  have:b ≠ w.heap.size:=fun e=>by rw [e,(h.fresh _ (Nat.le_refl _)).2 o] at hv;cases hv
  simp [immG,this,hv]
 nm _ _:=rfl
 tip _ _:=⟨Nat.le_refl _,fun _=>rfl⟩
theorem MR.d7r (h:MR G lm L H w) (vs:List Value) (T:TypeId) (fr:Nat × Nat):MR (immG G w.heap.size vs) lm L H (w.alloc (.cells vs.toArray T fr)):=by
 have hle:=c5k h H.next vs
 have hold:∀ b,b < w.heap.size->(w.alloc (.cells vs.toArray T fr)).heap[b]?=w.heap[b]?:=fun b hb=>by rw [a1t,if_neg (by omega)]
 refine ⟨fun b o v hv=>?_,fun b o v hv=>?_,fun b hb=>?_,h.lmL,fun k cs hk=>?_,fun n o hn=>?_⟩
 ·by_cases e:b=w.heap.size
  ·subst e
   simp only [immG,if_true] at hv
   rw [cell_of (cs:=vs.toArray) (T:=T) (fr:=fr) (by rw [a1t,if_pos rfl])]
   simpa using hv
  ·simp only [immG,e,if_false] at hv
   have hc:=h.imm b o v hv
   rw [a2t (hold b (cell_lt hc))];exact hc
 ·by_cases e:b=w.heap.size
  ·subst e;exact .inl (h.fresh _ (Nat.le_refl _)).1
  ·simp only [immG,e,if_false] at hv
   exact h.immOwn b o v hv
 ·simp at hb
  refine ⟨(h.fresh b (by omega)).1,fun o=>?_⟩
  have e:b ≠ w.heap.size:=by omega
  simp only [immG,e,if_false]
  exact (h.fresh b (by omega)).2 o
 ·obtain ⟨b,vs',h1,h2,h3,h4⟩:=h.loc k cs hk
  exact ⟨b,vs',h1,h2,a3j (hold b (b1e h3)) h3,a1d (Nat.le_refl _) hle (fun _ _ e=>e) _ _ h4⟩
 ·obtain ⟨h1,h2⟩:=h.nmd n o hn
  refine ⟨h1,a3l (Nat.le_refl _) h1 hle h2 ⟨rfl,rfl⟩ fun b hb=>?_⟩
  have hb':b < w.heap.size:=by
   rcases Nat.lt_or_ge b w.heap.size with q | q
   ·exact q
   ·rw [(h.fresh b q).1] at hb;cases hb
  have e:b ≠ w.heap.size:=by omega
  exact ⟨hb,hold b hb',fun o v hv=>by simpa only [immG,e,if_false] using hv⟩
theorem Ext.alloc (h:Ext E G H w) {G':Gh} {H':GH} (hle:G.le H.next G') (hn:H.next<=H'.next) (hown:∀ b,b < w.heap.size->G'.own b=G.own b) (o:Obj):Ext E G' H' (w.alloc o) where
 nl:=h.nl
 le:=Gh.le_trans h.nx h.le hle
 nx:=Nat.le_trans h.nx hn
 os:=h.os
 tape:=h.tape
 output:=h.output
 drawn:=h.drawn
 size:=by simp;have:=h.size;omega
 frame b hb ho:=by rw [a1t,if_neg (by have:=h.size;omega)];exact h.frame b hb ho
 own b hb:=by rw [hown b (by have:=h.size;omega)];exact h.own b hb
def locG (G:Gh) (b:Nat) (o:Own):Gh:={ G with own:=fun x=>if x=b then o else G.own x }
theorem e3u (nx b:Nat) (o:Own):G.le nx (locG G b o):=⟨Mem.le_refl _,fun _ _=>rfl,fun _ _=>⟨Nat.le_refl _,fun _=>rfl⟩⟩
theorem own_lt (h:MR G lm L H w) {b:Nat} (hb:G.own b ≠ .none):b < w.heap.size:=by
 rcases Nat.lt_or_ge b w.heap.size with q | q
 ·exact q
 ·exact absurd (h.fresh b q).1 hb
theorem MR.f0h (h:MR G lm L H w) (k:Nat) (hk:L k=none) (cs:List LV) (vs:List Value) (T:TypeId) (h1:∀ v ∈ vs,v.oneCell'=true) (hR:LRs G H.next lm cs vs) :
  MR (locG G w.heap.size (.loc k)) (upd lm k (some w.heap.size)) (upd L k (some cs)) H (w.alloc (.cells vs.toArray T (0,0))):=by
 have hle:=e3u (G:=G) H.next w.heap.size (.loc k)
 have hlm:∀ j b,lm j=some b->upd lm k (some w.heap.size) j=some b:=fun j b hj=>by
  have:j ≠ k:=fun e=>by rw [e,h.lmL k hk] at hj;cases hj
  rw [upd_ne _ _ this];exact hj
 have hold:∀ b,b < w.heap.size->(w.alloc (.cells vs.toArray T (0,0))).heap[b]?=w.heap[b]?:=fun b hb=>by rw [a1t,if_neg (by omega)]
 refine ⟨fun b o v hv=>?_,fun b o v hv=>?_,fun b hb=>?_,fun j hj=>?_,fun j cs' hj=>?_,fun n o hn=>?_⟩
 ·have hc:=h.imm b o v hv
  rw [a2t (hold b (cell_lt hc))];exact hc
 ·have hlt:=cell_lt (h.imm b o v hv)
  have e:b ≠ w.heap.size:=by omega
  simp only [locG,e,if_false]
  exact h.immOwn b o v hv
 ·simp at hb
  have e:b ≠ w.heap.size:=by omega
  refine ⟨?_,(h.fresh b (by omega)).2⟩
  simp only [locG,e,if_false]
  exact (h.fresh b (by omega)).1
 ·have:j ≠ k:=fun e=>by rw [e] at hj;simp at hj
  rw [upd_ne _ _ this] at hj |-
  exact h.lmL j hj
 ·by_cases e:j=k
  ·subst e
   simp at hj;subst hj
   exact ⟨w.heap.size,vs,by simp,by simp [locG],⟨T,by rw [a1t,if_pos rfl],h1⟩,a1d (Nat.le_refl _) hle hlm _ _ hR⟩
  ·rw [upd_ne _ _ e] at hj
   obtain ⟨b,vs',g1,g2,g3,g4⟩:=h.loc j cs' hj
   have hlt:=b1e g3
   have e2:b ≠ w.heap.size:=by omega
   exact ⟨b,vs',by rw [upd_ne _ _ e];exact g1,by simp only [locG,e2,if_false];exact g2,a3j (hold b hlt) g3,a1d (Nat.le_refl _) hle hlm _ _ g4⟩
 ·obtain ⟨g1,g2⟩:=h.nmd n o hn
  refine ⟨g1,a3l (Nat.le_refl _) g1 hle g2 ⟨rfl,rfl⟩ fun b hb=>?_⟩
  have hlt:=own_lt h (b:=b) (by rw [hb];simp)
  have e:b ≠ w.heap.size:=by omega
  exact ⟨by simp only [locG,e,if_false];exact hb,hold b hlt,fun o v hv=>hv⟩
theorem MR.c1r (h:MR G lm L H w) (k b:Nat) (hb:lm k=some b) {old:List LV} (hk:L k=some old) (cs:List LV) (vs:List Value) (T:TypeId) (h1:∀ v ∈ vs,v.oneCell'=true) (hR:LRs G H.next lm cs vs) :
  MR G lm (upd L k (some cs)) H (setB w b (.cells vs.toArray T (0,0))):=by
 obtain ⟨b',vs0,g1,g2,g3,g4⟩:=h.loc k old hk
 have:b'=b:=by rw [g1] at hb;exact Option.some.inj hb
 subst this
 have hlt:=b1e g3
 have hold:∀ x,G.own x ≠ .loc k->(setB w b' (.cells vs.toArray T (0,0))).heap[x]?=w.heap[x]?:=fun x hx=>by
  have:x ≠ b':=fun e=>hx (by rw [e];exact g2)
  rw [a2j,if_neg (by simp [this])]
 refine ⟨fun x o v hv=>?_,h.immOwn,fun x hx=>h.fresh x (by rw [b2u] at hx;exact hx),fun j hj=>?_,fun j cs' hj=>?_,fun n o hn=>?_⟩
 ·have hc:=h.imm x o v hv
  rw [a2t (hold x ?_)];· exact hc
  rcases h.immOwn x o v hv with q | ⟨n,e,sz,m,q,_⟩ <;> rw [q] <;> simp
 ·have:j ≠ k:=fun e=>by rw [e] at hj;simp at hj
  rw [upd_ne _ _ this] at hj
  exact h.lmL j hj
 ·by_cases e:j=k
  ·subst e
   simp at hj;subst hj
   exact ⟨b',vs,g1,g2,⟨T,by rw [a2j,if_pos ⟨rfl,hlt⟩],h1⟩,hR⟩
  ·rw [upd_ne _ _ e] at hj
   obtain ⟨c,vs',q1,q2,q3,q4⟩:=h.loc j cs' hj
   exact ⟨c,vs',q1,q2,a3j (hold c (by rw [q2];simp [e])) q3,q4⟩
 ·obtain ⟨q1,q2⟩:=h.nmd n o hn
  exact ⟨q1,a3l (Nat.le_refl _) q1 (Gh.le_refl _ _) q2 ⟨rfl,rfl⟩ fun x hx=>⟨hx,hold x (by rw [hx];simp),fun _ _ q=>q⟩⟩
theorem Ext.setB (h:Ext E G H w) {G':Gh} {H':GH} (hle:G.le H.next G') (hn:H.next<=H'.next) (hown:∀ b,G'.own b=G.own b) {b:Nat} (hb:∀ (hx:b < E.w.heap.size),E.G.own b ≠ .none/\E.G.own b ≠ .foreign) (o:Obj):Ext E G' H' (Aft.setB w b o) where
 nl:=h.nl
 le:=Gh.le_trans h.nx h.le hle
 nx:=Nat.le_trans h.nx hn
 os:=h.os
 tape:=h.tape
 output:=h.output
 drawn:=h.drawn
 size:=by rw [b2u];exact h.size
 frame x hx ho:=by
  have:x ≠ b:=fun e=>by subst e;have:=hb hx;rcases ho with ho | ho <;> simp_all
  rw [a2j,if_neg (by simp [this])];exact h.frame x hx ho
 own x hx:=by rw [hown x];exact h.own x hx
end effects
end Go.Aft
end
