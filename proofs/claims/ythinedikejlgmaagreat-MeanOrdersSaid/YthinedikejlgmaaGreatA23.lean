import Derived.Test.YthinedikejlgmaaGreatA22
set_option linter.all false
section
namespace Go.Aft
theorem c9w {n:Int} (h:-1000000000<=n/\n<=1000000000):a3y n=n:=by
 unfold a3y minI maxI;split <;> split <;> omega
mutual
theorem d2z {o:Bool} {d:Int} (hd:0<=d):∀ (c:Calc) (depth left l:Int),a2y o c depth left=some l->a2y o c depth (left+d)=some (l+d)
 | .mk op n kids,depth,left,l,h=>by
  rw [a2y] at h |-
  split at h
  ·rename_i hc
   rw [if_pos ⟨hc.1,by omega,hc.2.2⟩]
   have:=b5u hd kids _ _ _ h
   rw [show left+d - 1=left - 1+d by omega];exact this
  ·cases h
theorem b5u {o:Bool} {d:Int} (hd:0<=d):∀ (cs:List Calc) (depth left l:Int),a1m o cs depth left=some l->a1m o cs depth (left+d)=some (l+d)
 | [],depth,left,l,h=>by rw [a1m] at h |-;cases h;rfl
 | k :: ks,depth,left,l,h=>by
  rw [a1m] at h |-
  split at h
  ·rename_i l' hl
   rw [d2z hd k _ _ _ hl]
   exact b5u hd ks _ _ _ h
  ·cases h
end
mutual
theorem e0o {o:Bool}:∀ (c:Calc) (depth left l:Int),a2y o c depth left=some l->a2o c depth left=l
 | .mk op n kids,depth,left,l,h=>by
  have hle:=a8i _ _ _ _ h
  rw [a2y] at h
  split at h
  ·rename_i hc
   obtain ⟨h1,h2,h3⟩:=hc
   have ih:=b9g kids _ _ _ h hle.1
   unfold a3o at h3
   have key:(1<=op/\op<=10)/\((kids.length:Int)=(if 6<=op then 2 else 0))/\(op=1 \/ n=0)/\n=a3y n:=by
    have h0:a3y 0=0:=c9w (by omega)
    split at h3
    ·have:=of_decide_eq_true h3
     exact ⟨by omega,by rw [if_neg (by omega)];omega,by omega,(c9w (by omega)).symm⟩
    ·split at h3
     ·have:=of_decide_eq_true h3
      obtain ⟨rfl,q⟩:=this
      exact ⟨by omega,by rw [if_neg (by omega)];omega,by omega,h0.symm⟩
     ·split at h3
      ·have:=of_decide_eq_true h3
       obtain ⟨_,rfl,q⟩:=this
       exact ⟨by omega,by rw [if_neg (by omega)];omega,by omega,h0.symm⟩
      ·have:=of_decide_eq_true h3
       obtain ⟨_,_,rfl,q⟩:=this
       exact ⟨by omega,by rw [if_pos (by omega)];omega,by omega,h0.symm⟩
   obtain ⟨k1,k2,k3,k4⟩:=key
   rw [a2o,if_neg (by omega),if_neg (by rintro (q | q | q) <;> first | exact q k2 | omega | exact q k4)]
   exact ih
  ·cases h
theorem b9g {o:Bool}:∀ (cs:List Calc) (depth left l:Int),a1m o cs (depth+1) left=some l->0<=l->a1y cs depth left=l
 | [],depth,left,l,h,h0=>by rw [a1m] at h;cases h;rw [a1y]
 | k :: ks,depth,left,l,h,h0=>by
  rw [a1m] at h
  split at h
  ·rename_i l' hl
   have h1:=e0o k _ _ _ hl
   have h2:=a8i k _ _ _ hl
   rw [a1y,h1,if_neg (by omega)]
   exact b9g ks _ _ _ h h0
  ·cases h
end
theorem WOk.mono {d d':Nat} {e:Exp} (h:WOk d e) (hd:d<=d'):WOk d' e:=by
 induction h generalizing d' with
 | other d e h=>exact .other _ _ h
 | where_ d name n fold c cs k ks h ih =>
  obtain ⟨m,rfl⟩:∃ m,d'=m+1:=⟨d' - 1,by omega⟩
  exact .where_ m name n fold c cs k ks (ih (by omega))
theorem c9n {op n fold:Int} {name:Str} {nc nk:Nat} (h:a6x op name n fold nc nk=true):∃ x,a1l op=some x/\(nk:Int)=x.kids/\(nc:Int)=x.a0k:=by
 unfold a6x at h
 split at h
 ·cases h
 ·rename_i x hx
  simp only [Bool.and_eq_true,decide_eq_true_eq] at h
  exact ⟨x,hx,h.1.1.1.1,h.1.1.1.2⟩
theorem b6u {srcs names:List Str}:∀ (ds:List Def) (a left l:Int),a7l srcs names ds a left=some l->0<=left->∀ (i:Nat) (h:i < ds.length),∃ l1 l2,lExp srcs names (a+i) ds[i].exp 1 l1=some l2/\0<=l1/\l1<=left
 | d :: ds,a,left,l,h,h0,i,hi=>by
  rw [a7l] at h
  split at h
  ·rename_i l' hl
   have:=a8h _ _ _ _ hl
   cases i with
   | zero=>exact ⟨left,l',by simpa using hl,h0,Int.le_refl _⟩
   | succ i =>
    obtain ⟨l1,l2,q1,q2,q3⟩:=b6u ds _ _ _ h (by omega) i (by simpa using hi)
    refine ⟨l1,l2,?_,q2,by omega⟩
    rw [show a+((i+1:Nat):Int)=a+1+(i:Int) by omega];simpa using q1
  ·cases h
end Go.Aft
end
section
namespace Go.Aft
def a4q (M:Nat->Bool) (k:Nat):Nat->Bool:=fun x=>if x=k then true else M x
def unm (n:Nat) (M:Nat->Bool):Nat:=(List.range n).countP fun k=>!M k
theorem d4t {n:Nat} {M M':Nat->Bool} (h:∀ k,M k=true->M' k=true):unm n M'<=unm n M:=by
 refine List.countP_mono_left fun k _ hk=>?_
 cases hm:M k with
 | false=>rfl
 | true=>rw [h k hm] at hk;cases hk
theorem b2n {n:Nat} {M:Nat->Bool} {k:Nat} (hk:k < n) (hm:M k=false):unm n (a4q M k) < unm n M:=by
 unfold unm
 induction n with
 | zero=>omega
 | succ n ih =>
  rw [List.range_succ,List.countP_append,List.countP_append]
  by_cases e:k=n
  ·subst e
   have h1:(List.range k).countP (fun x=>!a4q M k x)<=(List.range k).countP (fun x=>!M x):=d4t (n:=k) fun x hx=>by unfold a4q;split <;> simp [hx]
   simp [a4q,hm];simp [a4q] at h1;omega
  ·have:=ih (by omega)
   have hn:a4q M k n=M n:=by unfold a4q;rw [if_neg (by omega)]
   simp only [List.countP_cons,List.countP_nil,hn]
   omega
structure LookPost (S:Nat->Nat->Prop) (M M':Nat->Bool) (d:Nat):Prop where
 sub:∀ k,M k=true->M' k=true
 succ:∀ k,S d k->M' k=true
 clos:∀ j,M' j=true->M j=false->∀ k,S j k->M' k=true
 sound:∀ k,M' k=true->M k=true \/ Path S d k
structure LookInv (S:Nat->Nat->Prop) (M M':Nat->Bool) (d:Nat) (done:Nat->Prop):Prop where
 sub:∀ k,M k=true->M' k=true
 succ:∀ k,done k->M' k=true
 clos:∀ j,M' j=true->M j=false->∀ k,S j k->M' k=true
 sound:∀ k,M' k=true->M k=true \/ Path S d k
theorem LookInv.start {S:Nat->Nat->Prop} {M:Nat->Bool} {d:Nat} {done:Nat->Prop} (h:∀ k,¬ done k):LookInv S M M d done :=
 ⟨fun _ h=>h,fun k hk=>absurd hk (h k),fun j h1 h2=>absurd (h1.symm.trans h2) (by simp),fun k h=>.inl h⟩
theorem LookInv.same {S:Nat->Nat->Prop} {M M':Nat->Bool} {d:Nat} {done done':Nat->Prop} (h:LookInv S M M' d done) (hd:∀ k,done' k->done k \/ M' k=true):LookInv S M M' d done' :=
 ⟨h.sub,fun k hk=>(hd k hk).elim (h.succ k) id,h.clos,h.sound⟩
theorem LookInv.step {S:Nat->Nat->Prop} {M M1 M2:Nat->Bool} {d x:Nat} {done done':Nat->Prop} (h:LookInv S M M1 d done) (hs:S d x) (hp:LookPost S (a4q M1 x) M2 x) (hd:∀ k,done' k->done k \/ k=x):LookInv S M M2 d done':=by
 have hx:M2 x=true:=hp.sub x (by simp [a4q])
 have hsub:∀ k,M1 k=true->M2 k=true:=fun k hk=>hp.sub k (by unfold a4q;split <;> simp [hk])
 refine ⟨fun k hk=>hsub k (h.sub k hk),fun k hk=>?_,fun j h1 h2 k hk=>?_,fun k hk=>?_⟩
 ·rcases hd k hk with q | rfl
  ·exact hsub k (h.succ k q)
  ·exact hx
 ·by_cases e:j=x
  ·subst e;exact hp.succ k hk
  ·cases hm:M1 j with
   | true=>exact hsub k (h.clos j hm h2 k hk)
   | false=>exact hp.clos j h1 (by unfold a4q;rw [if_neg e];exact hm) k hk
 ·rcases hp.sound k hk with q | q
  ·unfold a4q at q
   split at q
   ·rename_i e;subst e;exact .inr (.one hs)
   ·exact h.sound k q
  ·exact .inr (.cons hs q)
theorem LookInv.end {S:Nat->Nat->Prop} {M M':Nat->Bool} {d:Nat} {done:Nat->Prop} (h:LookInv S M M' d done) (hd:∀ k,S d k->done k):LookPost S M M' d:=⟨h.sub,fun k hk=>h.succ k (hd k hk),h.clos,h.sound⟩
theorem LookPost.all {S:Nat->Nat->Prop} {M:Nat->Bool} {d:Nat} (h:LookPost S (fun _=>false) M d) (k:Nat):M k=true ↔ Path S d k:=by
 constructor
 ·intro hk
  rcases h.sound k hk with q | q
  ·cases q
  ·exact q
 ·intro hp
  have key:∀ a b,Path S a b->(a=d \/ M a=true)->M b=true:=by
   intro a b hab
   have hs:∀ a b,S a b->(a=d \/ M a=true)->M b=true:=fun a b hb ha=>by
    rcases ha with rfl | ha
    ·exact h.succ b hb
    ·exact h.clos a ha rfl b hb
   induction hab with
   | one hb=>exact hs _ _ hb
   | cons hb _ ih=>exact fun ha=>ih (.inr (hs _ _ hb ha))
  exact key d k hp (.inl rfl)
end Go.Aft
end
section
namespace Go.Aft
def c4a:Rec:=⟨0,0,0⟩
def f2m (r:Rec):Prop:=0<=r.at_/\r.at_<=200/\a1z r.key/\a1z r.val
def e7s (n:News):Prop:=0<=n.id/\n.id<=999/\1<=n.ver/\n.ver<=99/\f2m n.rec_
def d2u (n:News):Prop:=n.id=0/\n.ver=0/\n.rec_.key=0/\n.rec_.val=0/\0<=n.rec_.at_/\n.rec_.at_<=201
def f3l (n:News) (srcs:Int):Prop:=0<=n.src/\n.src<=srcs - 1/\(n.do_=1/\e7s n \/ n.do_=2/\e7s n/\n.rec_=c4a \/ n.do_=3/\d2u n)
instance (r:Rec):Decidable (f2m r):=by unfold f2m a1z;infer_instance
instance (n:News):Decidable (e7s n):=by unfold e7s;infer_instance
instance (n:News):Decidable (d2u n):=by unfold d2u;infer_instance
instance (n:News) (s:Int):Decidable (f3l n s):=by unfold f3l;infer_instance
def e2w (l:List News) (srcs:Int):Prop:=1<=srcs/\srcs<=4/\l.length<=60/\∀ n ∈ l,f3l n srcs
instance (l:List News) (s:Int):Decidable (e2w l s):=by unfold e2w;infer_instance
def b0i (a b:News):Bool:=decide (a.do_ ≠ 3/\b.do_ ≠ 3/\a.src=b.src/\a.id=b.id/\a.ver=b.ver/\a ≠ b)
def a4m (l:List News) (k:Nat):Option Nat:=match l[k]? with
 | none=>none
 | some b=>(l.take k).findIdx? fun a=>b0i a b
def a7u (l:List News):Nat->Nat->Option (Nat × Nat)
 | 0,_=>none
 | m+1,k=>match a4m l k with
  | some i=>some (i,k)
  | none=>a7u l m (k+1)
def b3s (l:List News):Option (Nat × Nat):=a7u l l.length 0
def e4n (l:List News) (srcs:Int):Prop:=e2w l srcs/\b3s l=none
instance (l:List News) (s:Int):Decidable (e4n l s):=by unfold e4n;infer_instance
theorem b1v {l:List News}:∀ (m k:Nat),(∀ j,k<=j->j < k+m->a4m l j=none)->a7u l m k=none
 | 0,k,_=>rfl
 | m+1,k,h=>by
  rw [a7u,h k (by omega) (by omega)]
  exact b1v m (k+1) fun j h1 h2=>h j (by omega) (by omega)
theorem b1u {l:List News}:∀ (m k j i:Nat),k<=j->j < k+m->(∀ j',k<=j'->j' < j->a4m l j'=none)->a4m l j=some i->a7u l m k=some (i,j)
 | 0,k,j,i,h1,h2,_,_=>by omega
 | m+1,k,j,i,h1,h2,h3,h4=>by
  rw [a7u]
  by_cases e:j=k
  ·subst e;rw [h4]
  ·rw [h3 k (by omega) (by omega)]
   exact b1u m (k+1) j i (by omega) (by omega) (fun j' a b=>h3 j' (by omega) b) h4
theorem b9z {l:List News} (h:∀ j,j < l.length->a4m l j=none):b3s l=none:=b1v _ _ fun j _ hj=>h j (by omega)
theorem d3p {l:List News} {i j:Nat} (hj:j < l.length) (h:∀ j',j' < j->a4m l j'=none) (hi:a4m l j=some i):b3s l=some (i,j):=b1u _ _ j i (by omega) (by omega) (fun j' _ h'=>h j' h') hi
def e8x (src id:Int) (acc:Option News) (n:News):Option News :=
 if n.do_ ≠ 3/\n.src=src/\n.id=id/\(∀ w,acc=some w->w.ver < n.ver) then some n else acc
def d2y (l:List News) (src id:Int):Option News:=l.foldl (e8x src id) none
def f6i (src:Int) (acc:Int) (n:News):Int:=if n.do_=3/\n.src=src then maxI acc n.rec_.at_ else acc
def f6f (l:List News) (src:Int):Int:=l.foldl (f6i src) 0
def oneM (l:List News) (src id:Int):List Event:=match d2y l src id with
 | some n=>if n.do_=1 then [⟨src,id,n.rec_⟩] else []
 | none=>[]
def stepM (l:List News) (n:News):List Event × List Event :=
 if n.do_=3 then ([],[]) else if oneM l n.src n.id=oneM (l ++ [n]) n.src n.id then ([],[]) else (oneM l n.src n.id,oneM (l ++ [n]) n.src n.id)
def f5h (l:List News) (n:News):Bool:=((stepM l n).1 ++ (stepM l n).2).any fun e=>decide (e.rec_.at_ < f6f l n.src)
def d6c (l:List News):List News->Nat->List Nat
 | [],_=>[]
 | n :: ns,i=>(if f5h l n=true then [i] else []) ++ d6c (l ++ [n]) ns (i+1)
def f6g (l:List News):List Nat:=d6c [] l 0
theorem c2u (l:List News) (n:News) (src id:Int):d2y (l ++ [n]) src id=e8x src id (d2y l src id) n:=by simp [d2y]
def evLt (a b:Event):Prop:=a.rec_.at_ < b.rec_.at_ \/ a.rec_.at_=b.rec_.at_/\(a.src < b.src \/ a.src=b.src/\a.id < b.id)
theorem a4b {α:Type} {lt:α->α->Prop} (irr:∀ a,¬ lt a a) (tr:∀ a b c,lt a b->lt b c->lt a c):∀ {l m:List α},l.Pairwise lt->m.Pairwise lt->(∀ x,x ∈ l ↔ x ∈ m)->l=m
 | [],[],_,_,_=>rfl
 | [],b :: m,_,_,h=>absurd ((h b).2 (by simp)) (by simp)
 | a :: l,[],_,_,h=>absurd ((h a).1 (by simp)) (by simp)
 | a :: l,b :: m,hl,hm,h=>by
  rw [List.pairwise_cons] at hl hm
  have e:a=b:=by
   rcases List.mem_cons.1 ((h a).1 (by simp)) with q | q
   ·exact q
   ·rcases List.mem_cons.1 ((h b).2 (by simp)) with r | r
    ·exact r.symm
    ·exact absurd (tr _ _ _ (hm.1 a q) (hl.1 b r)) (irr b)
  subst e
  congr 1
  refine a4b irr tr hl.2 hm.2 fun x=>?_
  have hx:=h x
  simp only [List.mem_cons] at hx
  constructor
  ·intro hxl
   rcases hx.1 (.inr hxl) with rfl | q
   ·exact absurd (hl.1 x hxl) (irr x)
   ·exact q
  ·intro hxm
   rcases hx.2 (.inr hxm) with rfl | q
   ·exact absurd (hm.1 x hxm) (irr x)
   ·exact q
end Go.Aft
end
section
set_option maxRecDepth 20000
namespace Go.Aft
structure Item where
 rec_:Rec
 n:Int
 deriving DecidableEq
instance:Inhabited Item:=⟨⟨default,0⟩⟩
abbrev Bag:=List Item
def a0i (x:Item):List DV:=[.k (.int .i64 x.rec_.at_),.k (.int .i64 x.rec_.key),.k (.int .i64 x.rec_.val),.k (.int .i64 x.n)]
@[simp] theorem rItem_len (x:Item):(a0i x).length=4:=rfl
def rBag (b:Bag):List DV:=[.sl (b.map a0i)]
@[simp] theorem rBag_len (b:Bag):(rBag b).length=1:=rfl
def a2e (a b:Rec):Bool:=decide (a.at_ < b.at_ \/ a.at_=b.at_/\(a.key < b.key \/ a.key=b.key/\a.val < b.val))
theorem a9o (a:Rec):a2e a a=false:=by simp [a2e]
theorem a5s {a b c:Rec} (h:a2e a b=true) (k:a2e b c=true):a2e a c=true:=by
 simp only [a2e,decide_eq_true_eq] at *;omega
theorem b8e {a b:Rec} (h:a2e a b=false) (k:a2e b a=false):a=b:=by
 simp only [a2e,decide_eq_false_iff_not] at *
 obtain ⟨a1,a2,a3⟩:=a
 obtain ⟨b1,b2,b3⟩:=b
 simp only at *
 have:a1=b1/\a2=b2/\a3=b3:=by omega
 simp [this]
def cntM (l:List Item) (r:Rec):Int:=match l with
 | []=>0
 | x :: l=>(if x.rec_=r then x.n else 0)+cntM l r
def IncB (l:List Item):Prop:=l.Pairwise fun a b=>a2e a.rec_ b.rec_=true
def putI (x:Item):List Item->List Item
 | []=>[x]
 | y :: l=>if x.rec_=y.rec_ then ⟨y.rec_,y.n+x.n⟩ :: l else if a2e x.rec_ y.rec_ then x :: y :: l else y :: putI x l
def c0n:List Item->List Item
 | []=>[]
 | x :: l=>putI x (c0n l)
def bagM (l:List Item):Bag:=(c0n l).filter fun x=>decide (x.n ≠ 0)
def a1i (l:List Item) (top:Int):Bag:=bagM (l.filter fun x=>decide (0<=x.rec_.at_/\x.rec_.at_<=top))
theorem d5l {x:Item}:∀ {l:List Item} {y:Item},y ∈ putI x l->y=x \/ y ∈ l \/ ∃ z ∈ l,z.rec_=x.rec_/\y = ⟨z.rec_,z.n+x.n⟩
 | [],y,h=>by simp [putI] at h;exact .inl h
 | z :: l,y,h=>by
  rw [putI] at h
  split at h
  ·rename_i e
   rcases List.mem_cons.1 h with q | q
   ·exact .inr (.inr ⟨z,by simp,e.symm,q⟩)
   ·exact .inr (.inl (by simp [q]))
  ·split at h
   ·rcases List.mem_cons.1 h with q | q
    ·exact .inl q
    ·exact .inr (.inl q)
   ·rcases List.mem_cons.1 h with q | q
    ·exact .inr (.inl (by simp [q]))
    ·rcases d5l q with q | q | ⟨w,q1,q2⟩
     ·exact .inl q
     ·exact .inr (.inl (by simp [q]))
     ·exact .inr (.inr ⟨w,by simp [q1],q2⟩)
theorem d5n {x:Item}:∀ {l:List Item},IncB l->IncB (putI x l)
 | [],h=>by simp [putI,IncB]
 | y :: l,h=>by
  have h':=List.pairwise_cons.1 h
  rw [putI]
  split
  ·exact List.pairwise_cons.2 ⟨fun z hz=>h'.1 z hz,h'.2⟩
  ·rename_i hne
   split
   ·rename_i hlt
    refine List.pairwise_cons.2 ⟨fun z hz=>?_,h⟩
    rcases List.mem_cons.1 hz with q | q
    ·rw [q];exact hlt
    ·exact a5s hlt (h'.1 z q)
   ·rename_i hlt
    have hyx:a2e y.rec_ x.rec_=true:=by
     cases q:a2e y.rec_ x.rec_ with
     | true=>rfl
     | false=>exact absurd (b8e (by simpa using hlt) q) hne
    refine List.pairwise_cons.2 ⟨fun z hz=>?_,d5n h'.2⟩
    rcases d5l hz with q | q | ⟨w,q1,q2,q3⟩
    ·rw [q];exact hyx
    ·exact h'.1 z q
    ·rw [q3];exact h'.1 w q1
theorem b2r:∀ l:List Item,IncB (c0n l)
 | []=>.nil
 | x :: l=>d5n (b2r l)
theorem b3v (l:List Item):IncB (bagM l):=(b2r l).filter _
theorem c9s (x:Item) (r:Rec):∀ l:List Item,cntM (putI x l) r=(if x.rec_=r then x.n else 0)+cntM l r
 | []=>rfl
 | y :: l=>by
  rw [putI]
  split
  ·rename_i e
   rw [cntM,cntM,e];simp only
   split <;> omega
  ·split
   ·rw [cntM]
   ·rw [cntM,cntM,c9s x r l];omega
theorem b9v (r:Rec):∀ l:List Item,cntM (c0n l) r=cntM l r
 | []=>rfl
 | x :: l=>by rw [c0n,c9s,b9v r l,cntM]
theorem b0h {r:Rec}:∀ {l:List Item},(∀ x ∈ l,x.rec_ ≠ r)->cntM l r=0
 | [],_=>rfl
 | x :: l,h=>by rw [cntM,if_neg (h x (by simp)),b0h fun y hy=>h y (by simp [hy])];rfl
theorem b1d {x:Item}:∀ {l:List Item},IncB l->x ∈ l->cntM l x.rec_=x.n
 | y :: l,h,hx=>by
  have h':=List.pairwise_cons.1 h
  rw [cntM]
  rcases List.mem_cons.1 hx with q | q
  ·subst q
   rw [if_pos rfl,b0h fun z hz e=>by have:=h'.1 z hz;rw [e,a9o] at this;cases this];omega
  ·rw [if_neg,b1d h'.2 q];· omega
   intro e
   have:=h'.1 x q
   rw [e,a9o] at this;cases this
theorem b3r {r:Rec}:∀ {l:List Item},cntM l r ≠ 0->∃ x ∈ l,x.rec_=r
 | [],h=>absurd rfl h
 | y :: l,h=>by
  by_cases e:y.rec_=r
  ·exact ⟨y,by simp,e⟩
  ·rw [cntM,if_neg e] at h
   obtain ⟨x,h1,h2⟩:=b3r (r:=r) (l:=l) (by omega)
   exact ⟨x,by simp [h1],h2⟩
theorem a6n {l:List Item} {x:Item}:x ∈ bagM l ↔ x.n ≠ 0/\x.n=cntM l x.rec_:=by
 simp only [bagM,List.mem_filter,decide_eq_true_eq]
 constructor
 ·rintro ⟨h1,h2⟩
  exact ⟨h2,by rw [<- b9v,b1d (b2r l) h1]⟩
 ·rintro ⟨h1,h2⟩
  refine ⟨?_,h1⟩
  rw [<- b9v] at h2
  obtain ⟨y,hy,e⟩:=b3r (r:=x.rec_) (l:=c0n l) (by rw [<- h2];exact h1)
  have:=b1d (b2r l) hy
  rw [e,<- h2] at this
  have e2:x=y:=by
   obtain ⟨xr,xn⟩:=x
   obtain ⟨yr,yn⟩:=y
   simp only at e this
   rw [e,this]
  rw [e2];exact hy
theorem IncB.unique {a b:List Item} (ha:IncB a) (hb:IncB b) (h:∀ x,x ∈ a ↔ x ∈ b):a=b :=
 a4b (lt:=fun a b:Item=>a2e a.rec_ b.rec_=true) (fun a=>by simp [a9o]) (fun _ _ _=>a5s) ha hb h
theorem c6b {l:List Item} {b:Bag} (hb:IncB b) (h0:∀ x ∈ b,x.n ≠ 0) (h:∀ r,cntM b r=cntM l r):b=bagM l:=by
 refine hb.unique (b3v l) fun x=>?_
 rw [a6n]
 constructor
 ·intro hx;exact ⟨h0 x hx,by rw [<- h,b1d hb hx]⟩
 ·rintro ⟨h1,h2⟩
  rw [<- h] at h2
  obtain ⟨y,hy,e⟩:=b3r (r:=x.rec_) (l:=b) (by rw [<- h2];exact h1)
  have:=b1d hb hy
  rw [e,<- h2] at this
  have e2:x=y:=by
   obtain ⟨xr,xn⟩:=x
   obtain ⟨yr,yn⟩:=y
   simp only at e this
   rw [e,this]
  rw [e2];exact hy
theorem b9w {a b:List Item} (h:a.Perm b) (r:Rec):cntM a r=cntM b r:=by
 induction h with
 | nil=>rfl
 | cons x _ ih=>rw [cntM,cntM,ih]
 | swap x y l=>rw [cntM,cntM,cntM,cntM];omega
 | trans _ _ i j=>exact i.trans j
theorem d7q (l:List Item) (r:Rec):cntM (bagM l) r=cntM l r:=by
 by_cases h:cntM l r=0
 ·rw [h]
  refine b0h fun x hx e=>?_
  have:=a6n.1 hx
  rw [e,h] at this;omega
 ·exact (b1d (b3v l) (a6n (x:=⟨r,cntM l r⟩).2 ⟨h,rfl⟩):_)
theorem c3r {a b:List Item} (h:∀ r,cntM a r=cntM b r):bagM a=bagM b :=
 c6b (b3v a) (fun x hx=>(a6n.1 hx).1) fun r=>by rw [d7q,h]
theorem e6i {a b:List Item} (h:a.Perm b):bagM a=bagM b:=c3r fun r=>b9w h r
theorem c6y {a b:List Item} (h:a.Perm b) (top:Int):a1i a top=a1i b top:=e6i (h.filter _)
def a2p (f:Int) (st:Nat × Int) (x:Item):Nat × Int :=
 (st.1+1,if f=1 then st.2+x.n else if f=2 then st.2+x.n * x.rec_.val else if f=3 then (if st.1=0 \/ x.rec_.val < st.2 then x.rec_.val else st.2) else if f=4 then (if st.1=0 \/ st.2 < x.rec_.val then x.rec_.val else st.2) else st.2)
def b3l (f:Int) (l:List Item):Int:=a3y (l.foldl (a2p f) (0,0)).2
def a4r (n:Int) (l:List Item):List Item:=l.map fun x=>⟨⟨x.rec_.at_+n,x.rec_.key,x.rec_.val⟩,x.n⟩
def b2i (low:Int) (l:List Item):List Item:=l.dropWhile fun x=>decide (x.rec_.at_ < low)
def a1a (low high:Int) (l:List Item):List Item:=(b2i low l).takeWhile fun x=>decide (x.rec_.at_<=high)
def keysOf:List Item->List Int
 | []=>[]
 | x :: l=>x.rec_.key :: (keysOf l).filter fun k=>decide (k ≠ x.rec_.key)
def rowOf (k:Int) (b:List Item):List Item:=b.filter fun x=>decide (x.rec_.key=k)
def b5y (n:Int) (_:List Item) (t:Int):Option (Int × Int):=some (t.tdiv n * n,t.tdiv n * n+n - 1)
def b2t (n:Int) (_:List Item) (t:Int):Option (Int × Int):=some (t - n,t)
def b7e (_:List Item) (t:Int):Option (Int × Int):=some (0,t)
def lowS (n:Int) (l:List Item):Nat->Int->Int
 | 0,low=>low
 | k+1,low=>match a1a (low - n) (low - 1) l with
  | []=>low
  | x :: _=>lowS n l k x.rec_.at_
def b6i (n:Int) (l:List Item) (t:Int):Option (Int × Int):=match a1a (t+1) (t+n) l with
 | []=>some (lowS n l 201 t,t)
 | _=>none
def a2q (f more key:Int) (sp:Int->Option (Int × Int)) (row:List Item):List Item->Int->List Item
 | [],_=>[]
 | x :: l,last=>match sp x.rec_.at_ with
  | none=>a2q f more key sp row l last
  | some (low,high)=>if high=last then a2q f more key sp row l last else ⟨⟨high+more,key,b3l f (a1a low high row)⟩,1⟩ :: a2q f more key sp row l high
def b4e (f more:Int) (sp:List Item->Int->Option (Int × Int)) (b:List Item) (k:Int):List Item:=a2q f more k (sp (rowOf k b)) (rowOf k b) (rowOf k b) (-1)
def a4h (f more:Int) (sp:List Item->Int->Option (Int × Int)) (b:List Item):List Item:=(keysOf b).flatMap (b4e f more sp b)
def a7c (c:Calc) (b:List Item):List Item:=b.filter fun x=>decide (cVal x.rec_ 0 c ≠ 0)
def d3n (k v:Calc) (b:List Item):List Item:=b.map fun x=>⟨⟨x.rec_.at_,cVal x.rec_ 0 k,cVal x.rec_ 0 v⟩,x.n⟩
def c7r (b:List Item):List Item:=b.map fun x=>⟨x.rec_,1⟩
def a6t (c:Calc) (x y:Item):Item:=⟨⟨maxI x.rec_.at_ y.rec_.at_,x.rec_.key,cVal ⟨maxI x.rec_.at_ y.rec_.at_,x.rec_.key,x.rec_.val⟩ y.rec_.val c⟩,x.n * y.n⟩
def b1j (n:Int) (c:Calc) (a b:List Item):List Item:=a.flatMap fun x=>(a1a (x.rec_.at_ - n) (x.rec_.at_+n) (rowOf x.rec_.key b)).map (a6t c x)
def a9c (c:Calc) (a b:List Item):List Item:=a.flatMap fun x=>match (a1a 0 x.rec_.at_ (rowOf x.rec_.key b)).getLast? with
 | none=>[]
 | some y=>[⟨⟨x.rec_.at_,x.rec_.key,cVal x.rec_ y.rec_.val c⟩,x.n⟩]
def c1l (n:Int) (a b:List Item):List Item:=a.filter fun x=>(a1a (x.rec_.at_ - n) (x.rec_.at_+n) (rowOf x.rec_.key b)).isEmpty
structure World' where
 srcs:List Bag
 defs:List Bag
def actM (p:Prog) (W:World') (op:Int) (name:Str) (n f:Int) (cs:List Calc) (ks:List Bag):List Item :=
 let a:=ks.getD 0 []
 let b:=ks.getD 1 []
 let c:=cs.getD 0 default
 if op=1 then W.srcs.getD (idx p.srcs name).toNat []
 else if op=2 then W.defs.getD (idx (a0d p) name).toNat []
 else if op=3 then a4r n (W.defs.getD (idx (a0d p) name).toNat [])
 else if op=4 then a ++ b
 else if op=5 then a7c c a
 else if op=6 then d3n c (cs.getD 1 default) a
 else if op=7 then a4r n a
 else if op=8 then a4h f 0 (b5y n) a
 else if op=9 then a4h f 0 (b2t n) a
 else if op=10 then a4h f 0 b7e a
 else if op=11 then a4h f n (b6i n) a
 else if op=12 then b1j n c a b
 else if op=13 then a9c c a b
 else if op=14 then c1l n a b
 else c7r a
def b0f (b:Bag):Bool:=decide (b.length<=300) && b.all fun x=>decide (x.n<=1000000)
mutual
def expM (p:Prog) (W:World') (top:Int):Exp->Option Bag
 | .mk op name n f cs kids=>match a6e p W top kids with
  | none=>none
  | some ks=>if b0f (a1i (actM p W op name n f cs ks) top) then some (a1i (actM p W op name n f cs ks) top) else none
def a6e (p:Prog) (W:World') (top:Int):List Exp->Option (List Bag)
 | []=>some []
 | e :: es=>match expM p W top e with
  | none=>none
  | some b=>match a6e p W top es with
   | none=>none
   | some bs=>some (b :: bs)
end
end Go.Aft
end
