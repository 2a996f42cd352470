import Derived.Test.YthinedikejlgmaaGreatA43
set_option linter.all false
section
set_option maxRecDepth 20000
namespace Go.Aft
abbrev c5t (p:Prog) (d:Nat):Exp:=(p.defs.getD d default).exp
abbrev e1i (l:List Bag) (d:Nat):Bag:=l.getD d []
theorem e4x {p:Prog} {W:World'} {T:Int} {e:Exp} (he:∀ x ∈ allE e,1<=x.op/\c3y x.op x.n) {b:Bag} (h:expM p W T e=some b):cutI T b=b/\a7x b:=by
 obtain ⟨q1,q2⟩:=d7a (W':=W) (Int.le_refl T) e (fun x hx=>⟨(he x hx).1,(he x hx).2,⟨fun _=>rfl,fun _=>rfl,fun _=>rfl⟩⟩) b h
 rw [h] at q1
 exact ⟨(Option.some.inj q1).symm,q2⟩
structure GrpOk (p:Prog) (g:List Nat) (far:Int):Prop where
 inc:g.Pairwise (· < ·)
 back:∀ d ∈ g,∀ x ∈ allE (c5t p d),1<=x.op/\c3y x.op x.n
 ref:∀ d ∈ g,∀ x ∈ allE (c5t p d),x.op=2->(idx (a0d p) x.name).toNat ∈ g->(idx (a0d p) x.name).toNat < d
 prev:∀ d ∈ g,∀ x ∈ allE (c5t p d),x.op=3->(idx (a0d p) x.name).toNat ∈ g->far<=x.n
 pos:1<=far
theorem GrpOk.one {p:Prog} {g:List Nat} {far:Int} (h:GrpOk p g far):GrpOk p g 1:=⟨h.inc,h.back,h.ref,fun d hd x hx h3 hi=>by have:=h.prev d hd x hx h3 hi;have:=h.pos;omega,Int.le_refl _⟩
theorem GrpOk.nodup {p:Prog} {g:List Nat} {far:Int} (h:GrpOk p g far):g.Nodup:=h.inc.imp fun q=>Nat.ne_of_lt q
def Sol (p:Prog) (srcs:List Bag) (g:List Nat) (T:Int) (u:List Bag):Prop:=∀ d ∈ g,expM p ⟨srcs,u⟩ T (c5t p d)=some (e1i u d)
def Out (g:List Nat) (u v:List Bag):Prop:=u.length=v.length/\∀ k,k ∉ g->e1i u k=e1i v k
theorem Out.symm {g:List Nat} {u v:List Bag} (h:Out g u v):Out g v u:=⟨h.1.symm,fun k hk=>(h.2 k hk).symm⟩
theorem Out.trans {g:List Nat} {u v w:List Bag} (h:Out g u v) (k:Out g v w):Out g u w:=⟨h.1.trans k.1,fun i hi=>(h.2 i hi).trans (k.2 i hi)⟩
section
variable {p:Prog} {srcs:List Bag} {g:List Nat} {far:Int} (hg:GrpOk p g far)
include hg
theorem Sol.self {T:Int} {u:List Bag} (h:Sol p srcs g T u) {d:Nat} (hd:d ∈ g):cutI T (e1i u d)=e1i u d/\a7x (e1i u d):=e4x (hg.back d hd) (h d hd)
omit hg in
theorem d1a (l:List Item):a1i l (-1)=[]:=by
 have:l.filter (fun x=>decide (0<=x.rec_.at_/\x.rec_.at_ <= -1))=[]:=List.filter_eq_nil_iff.2 fun x _=>by simp;omega
 rw [a1i,this];rfl
omit hg in
mutual
theorem e9i (W:World'):∀ e:Exp,expM p W (-1) e=some []
 | .mk op name n f cs kids=>by
  obtain ⟨ks,h⟩:=c9l W kids
  rw [expM,h]
  simp only [d1a]
  rfl
theorem c9l (W:World'):∀ es:List Exp,∃ ks,a6e p W (-1) es=some ks
 | []=>⟨[],by rw [a6e]⟩
 | e :: es=>by
  obtain ⟨ks,h⟩:=c9l W es
  exact ⟨[] :: ks,by rw [a6e,e9i W e,h]⟩
end
end
end Go.Aft
end
section
set_option maxRecDepth 20000
namespace Go.Aft
mutual
theorem f4l {other:Bool}:∀ (c:Calc) (depth left l:Int),a2y other c depth left=some l->VOk c
 | .mk op n kids,depth,left,l,h=>by
  rw [a2y] at h
  split at h
  ·rename_i hc
   obtain ⟨_,_,hk⟩:=hc
   unfold a3o at hk
   split at hk
   ·have:=of_decide_eq_true hk
    exact .leaf op n kids (by omega) (by omega)
   ·split at hk
    ·have:=of_decide_eq_true hk
     exact .leaf op n kids (by omega) (by omega)
    ·split at hk
     ·have:=of_decide_eq_true hk
      exact .leaf op n kids (by omega) (by omega)
     ·have:=of_decide_eq_true hk
      have hv:=d0u kids _ _ _ h
      match kids,this.2.2.2,hv with
      | [a,b],_,hv=>exact .node op n a b this.1 (hv a (by simp)) (hv b (by simp))
  ·cases h
theorem d0u {other:Bool}:∀ (cs:List Calc) (depth left l:Int),a1m other cs depth left=some l->∀ c ∈ cs,VOk c
 | [],_,_,_,_,c,hc=>absurd hc List.not_mem_nil
 | k :: ks,depth,left,l,h,c,hc=>by
  rw [a1m] at h
  split at h
  ·rename_i l' hl
   rcases List.mem_cons.1 hc with q | q
   ·rw [q];exact f4l k _ _ _ hl
   ·exact d0u ks _ _ _ h c q
  ·cases h
end
structure NodeF (p:Prog) (a:Int) (x:Exp):Prop where
 ok:a6x x.op x.name x.n x.fold x.a0k.length x.kids.length=true
 nm:a2l p.srcs (a0d p) a x.op x.name=true
 cs:∀ c ∈ x.a0k,VOk c
mutual
theorem c2x {p:Prog} {a:Int}:∀ (e:Exp) (d l l':Int),lExp p.srcs (a0d p) a e d l=some l'->∀ x ∈ allE e,NodeF p a x
 | .mk op name n fold a0k kids,d,l,l',h,x,hx=>by
  rw [lExp] at h
  split at h
  ·rename_i hc
   split at h
   ·rename_i l1 hl1
    rw [allE] at hx
    rcases List.mem_cons.1 hx with q | hx
    ·rw [q];exact ⟨hc.2.2.1,hc.2.2.2,d0u _ _ _ _ hl1⟩
    ·exact b9d kids _ _ _ h x hx
   ·cases h
  ·cases h
theorem b9d {p:Prog} {a:Int}:∀ (es:List Exp) (d l l':Int),a3q p.srcs (a0d p) a es d l=some l'->∀ x ∈ a0y es,NodeF p a x
 | [],d,l,l',h,x,hx=>by rw [a0y] at hx;cases hx
 | e :: es,d,l,l',h,x,hx=>by
  rw [a3q] at h
  split at h
  ·rename_i l1 hl1
   rw [a0y] at hx
   rcases List.mem_append.1 hx with hx | hx
   ·exact c2x e _ _ _ hl1 x hx
   ·exact b9d es _ _ _ h x hx
  ·cases h
end
theorem b5z {p:Prog} (hp:formed p) {i:Nat} (h:i < p.defs.length):∀ x ∈ allE p.defs[i].exp,NodeF p i x:=by
 obtain ⟨⟨l,hl⟩,_⟩:=hp
 unfold countM at hl
 split at hl
 ·obtain ⟨l1,l2,q,_⟩:=b6u _ _ _ _ hl (by omega) i h
  rw [Int.zero_add] at q
  exact c2x _ _ _ _ q
 ·cases hl
structure FormedB (p:Prog):Prop where
 s1:1<=p.srcs.length
 s4:p.srcs.length<=4
 d6:p.defs.length<=6
 dif:b5a (p.srcs ++ a0d p)
theorem b6x {p:Prog} (hp:formed p):FormedB p:=by
 obtain ⟨⟨l,hl⟩,_⟩:=hp
 unfold countM at hl
 split at hl
 ·rename_i h
  exact ⟨h.1,h.2.1,h.2.2.1,h.2.2.2⟩
 ·cases hl
theorem NodeF.node {p:Prog} {a:Int} {x:Exp} (h:NodeF p a x):NodeOk p x:=by
 have hn:=h.nm
 unfold a2l at hn
 refine ⟨h.ok,fun q=>?_,fun q=>?_,h.cs⟩
 ·rw [if_pos q] at hn
  exact of_decide_eq_true hn
 ·rcases q with q | q
  ·rw [if_neg (by omega),if_pos q] at hn
   exact (of_decide_eq_true hn).1
  ·rw [if_neg (by omega),if_neg (by omega),if_pos q] at hn
   exact of_decide_eq_true hn
theorem NodeF.lt {p:Prog} {a:Int} {x:Exp} (h:NodeF p a x) (q:x.op=2):idx (a0d p) x.name < a:=by
 have hn:=h.nm
 unfold a2l at hn
 rw [if_neg (by omega),if_pos q] at hn
 exact (of_decide_eq_true hn).2
theorem NodeF.bnd {p:Prog} {a:Int} {x:Exp} (h:NodeF p a x):1<=x.op/\x.op<=15/\(x.op=3->1<=x.n/\x.n<=50)/\(x.op=8->1<=x.n)/\(x.op=11->1<=x.n)/\(x.op=9->0<=x.n)/\(x.op=12->0<=x.n)/\(x.op=14->0<=x.n):=by
 obtain ⟨s,q1,q2,q3,q4,q5⟩:=c7d h.ok
 unfold a1l at q1
 by_cases e0:x.op=1 \/ x.op=2
 ·rw [if_pos e0] at q1;obtain rfl:=Option.some.inj q1;dsimp only at q4 q5;omega
 rw [if_neg e0] at q1
 by_cases e1:x.op=3
 ·rw [if_pos e1] at q1;obtain rfl:=Option.some.inj q1;dsimp only at q4 q5;omega
 rw [if_neg e1] at q1
 by_cases e2:x.op=4
 ·rw [if_pos e2] at q1;obtain rfl:=Option.some.inj q1;dsimp only at q4 q5;omega
 rw [if_neg e2] at q1
 by_cases e3:x.op=5
 ·rw [if_pos e3] at q1;obtain rfl:=Option.some.inj q1;dsimp only at q4 q5;omega
 rw [if_neg e3] at q1
 by_cases e4:x.op=6
 ·rw [if_pos e4] at q1;obtain rfl:=Option.some.inj q1;dsimp only at q4 q5;omega
 rw [if_neg e4] at q1
 by_cases e5:x.op=7
 ·rw [if_pos e5] at q1;obtain rfl:=Option.some.inj q1;dsimp only at q4 q5;omega
 rw [if_neg e5] at q1
 by_cases e6:x.op=8 \/ x.op=11
 ·rw [if_pos e6] at q1;obtain rfl:=Option.some.inj q1;dsimp only at q4 q5;omega
 rw [if_neg e6] at q1
 by_cases e7:x.op=9
 ·rw [if_pos e7] at q1;obtain rfl:=Option.some.inj q1;dsimp only at q4 q5;omega
 rw [if_neg e7] at q1
 by_cases e8:x.op=10
 ·rw [if_pos e8] at q1;obtain rfl:=Option.some.inj q1;dsimp only at q4 q5;omega
 rw [if_neg e8] at q1
 by_cases e9:x.op=12
 ·rw [if_pos e9] at q1;obtain rfl:=Option.some.inj q1;dsimp only at q4 q5;omega
 rw [if_neg e9] at q1
 by_cases e10:x.op=13
 ·rw [if_pos e10] at q1;obtain rfl:=Option.some.inj q1;dsimp only at q4 q5;omega
 rw [if_neg e10] at q1
 by_cases e11:x.op=14
 ·rw [if_pos e11] at q1;obtain rfl:=Option.some.inj q1;dsimp only at q4 q5;omega
 rw [if_neg e11] at q1
 by_cases e12:x.op=15
 ·rw [if_pos e12] at q1;obtain rfl:=Option.some.inj q1;dsimp only at q4 q5;omega
 rw [if_neg e12] at q1
 cases q1
theorem b0z {p:Prog} (hp:formed p):∀ (d:Nat) (h:d < p.defs.length),b5j p p.defs[d].exp:=fun d h x hx=>(b5z hp h x hx).node
theorem a8j {p:Prog} (hp:formed p):∀ s ∈ p.srcs ++ a0d p,a2b s:=fun s hs=>by
 obtain ⟨i,hi,rfl⟩:=List.mem_iff_getElem.1 hs
 have:=((b6x hp).dif i hi).1
 unfold a5v at this
 simp only [Bool.and_eq_true,decide_eq_true_eq] at this
 unfold a2b
 omega
theorem a5z {p:Prog} (hp:formed p):Good p:=by
 obtain ⟨⟨l,hl⟩,_⟩:=hp
 exact Good.of hl
end Go.Aft
end
section
set_option maxRecDepth 20000
namespace Go.Aft
theorem c5s {p:Prog} {d:Nat} (h:d < p.defs.length):c5t p d=p.defs[d].exp:=by
 unfold c5t;rw [List.getD_eq_getElem?_getD,List.getElem?_eq_getElem h];rfl
theorem a7j {p:Prog} {i k:Nat}:pathB p i k=true ↔ Path (a3p p) i k:=by simp [pathB]
theorem a5t {p:Prog} {i j k:Nat} (h1:pathB p i j=true) (h2:pathB p j k=true):pathB p i k=true:=a7j.2 ((a7j.1 h1).trans (a7j.1 h2))
theorem e4s {p:Prog} {g:List Nat}:∀ (l:List Exp) (v:Int),farL p g l v<=v
 | [],v=>Int.le_refl _
 | e :: l,v=>by
  have h1:=e4s (p:=p) (g:=g) l (farS p g v e)
  have h2:farS p g v e<=v:=by
   unfold farS
   split
   ·unfold minI;split <;> omega
   ·exact Int.le_refl _
  exact Int.le_trans h1 h2
theorem e4t {p:Prog} {g:List Nat} {m:Int}:∀ (l:List Exp) (v:Int),m<=v->(∀ x ∈ l,x.op=3->idx (a0d p) x.name ∈ natI g->m<=x.n)->m<=farL p g l v
 | [],v,h,_=>h
 | e :: l,v,h,hx=>by
  have e1:farL p g (e :: l) v=farL p g l (farS p g v e):=rfl
  rw [e1]
  refine e4t l _ ?_ fun x hx'=>hx x (List.mem_cons_of_mem _ hx')
  unfold farS
  split
  ·rename_i q
   have:=hx e (List.mem_cons_self ..) q.1 q.2
   unfold minI;split <;> omega
  ·exact h
theorem e4u {p:Prog} {g:List Nat} (ex:Nat->List Exp):∀ (l:List Nat) (v:Int),l.foldl (fun v d=>farL p g (ex d) v) v<=v
 | [],v=>Int.le_refl _
 | d :: l,v=>by rw [List.foldl_cons];exact Int.le_trans (e4u ex l _) (e4s _ _)
theorem e4v {p:Prog} {g:List Nat} (ex:Nat->List Exp) {m:Int}:∀ (l:List Nat) (v:Int),m<=v->(∀ d ∈ l,∀ x ∈ ex d,x.op=3->idx (a0d p) x.name ∈ natI g->m<=x.n)->m<=l.foldl (fun v d=>farL p g (ex d) v) v
 | [],v,h,_=>h
 | d :: l,v,h,hx=>by
  rw [List.foldl_cons]
  exact e4v ex l _ (e4t _ _ h (hx d (List.mem_cons_self ..))) fun e he=>hx e (List.mem_cons_of_mem _ he)
def e1j (p:Prog) (g:List Nat):Prop:=∃ d,d < p.defs.length/\g=inM p.defs.length (pathB p) d
theorem e1j.lt {p:Prog} {g:List Nat} (h:e1j p g) {k:Nat} (hk:k ∈ g):k < p.defs.length:=by
 obtain ⟨d,hd,rfl⟩:=h
 exact c2z hd hk
theorem e1j.nodup {p:Prog} {g:List Nat} (h:e1j p g):g.Nodup:=by
 obtain ⟨d,hd,rfl⟩:=h
 unfold inM
 split
 ·exact List.Pairwise.filter _ List.nodup_range
 ·simp
theorem f3b {p:Prog} {d k:Nat} (hd:d < p.defs.length) (h:k ∈ inM p.defs.length (pathB p) d):d ∈ inM p.defs.length (pathB p) k:=by
 unfold inM at h
 split at h
 ·rename_i hr
  obtain ⟨hk,q⟩:=a0z.1 h
  rcases q with q | ⟨q1,q2⟩
  ·subst q;exact a4n hd
  ·unfold inM
   rw [if_pos (a5t q2 q1)]
   exact a0z.2 ⟨hd,.inr ⟨q2,q1⟩⟩
 ·rw [List.mem_singleton.1 h];exact a4n hd
theorem b2h {p:Prog}:∀ (f:Nat) (D:List Nat),(∀ x ∈ D,x < p.defs.length/\∀ k ∈ inM p.defs.length (pathB p) x,k ∈ D) ->
  (∀ g ∈ a2z p.defs.length (pathB p) f D,e1j p g/\∀ d ∈ g,d ∉ D)/\(a2z p.defs.length (pathB p) f D).Pairwise fun g h=>∀ d ∈ h,d ∉ g
 | 0,D,_=>⟨fun g hg=>absurd hg List.not_mem_nil,.nil⟩
 | f+1,D,hD=>by
  rw [a2z]
  split
  ·split
   ·exact ⟨fun g hg=>absurd hg List.not_mem_nil,.nil⟩
   ·rename_i d hf
    have hd:d < p.defs.length:=List.mem_range.1 (List.mem_of_find?_eq_some hf)
    have hrd:=List.find?_some hf
    have hdD:d ∉ D:=by
     unfold a3v at hrd
     rw [Bool.and_eq_true] at hrd
     simpa using hrd.1
    have hdis:∀ k ∈ inM p.defs.length (pathB p) d,k ∉ D:=fun k hk hkD=>hdD ((hD k hkD).2 d (f3b hd hk))
    have hD':∀ x ∈ a2c D (inM p.defs.length (pathB p) d),x < p.defs.length/\∀ k ∈ inM p.defs.length (pathB p) x,k ∈ a2c D (inM p.defs.length (pathB p) d):=fun x hx=>by
     rcases a2f.1 hx with q | q
     ·exact ⟨(hD x q).1,fun k hk=>a2f.2 (.inl ((hD x q).2 k hk))⟩
     ·refine ⟨c2z hd q,fun k hk=>a2f.2 (.inr ?_)⟩
      unfold inM at q
      split at q
      ·rename_i hr
       rcases (a0z.1 q).2 with e | ⟨q1,q2⟩
       ·rw [e] at hk;exact hk
       ·have hxx:=a5t q2 q1
        unfold inM at hk |-
        rw [if_pos hxx] at hk
        rw [if_pos hr]
        refine a0z.2 ⟨(a0z.1 hk).1,?_⟩
        rcases (a0z.1 hk).2 with e | ⟨r1,r2⟩
        ·rw [e];exact .inr ⟨q1,q2⟩
        ·exact .inr ⟨a5t q1 r1,a5t r2 q2⟩
      ·rw [List.mem_singleton.1 q] at hk;exact hk
    obtain ⟨i1,i2⟩:=b2h f _ hD'
    refine ⟨fun g hg=>?_,List.pairwise_cons.2 ⟨fun g hg k hk hkd=>?_,i2⟩⟩
    ·rcases List.mem_cons.1 hg with q | q
     ·rw [q];exact ⟨⟨d,hd,rfl⟩,hdis⟩
     ·exact ⟨(i1 g q).1,fun k hk hkD=>(i1 g q).2 k hk (a2f.2 (.inl hkD))⟩
    ·exact (i1 g hg).2 k hk (a2f.2 (.inr hkd))
  ·exact ⟨fun g hg=>absurd hg List.not_mem_nil,.nil⟩
end Go.Aft
end
