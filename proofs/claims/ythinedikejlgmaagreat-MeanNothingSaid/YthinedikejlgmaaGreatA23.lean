import Derived.Test.YthinedikejlgmaaGreatA22
set_option linter.all false
section
namespace Go.Aft
theorem clampM_id {n:Int} (h:-1000000000<=n/\n<=1000000000):clampM n=n:=by
 unfold clampM minI maxI;split <;> split <;> omega
mutual
theorem lCalc_shift {o:Bool} {d:Int} (hd:0<=d):∀ (c:Calc) (depth left l:Int),lCalc o c depth left=some l->lCalc o c depth (left+d)=some (l+d)
 | .mk op n kids,depth,left,l,h=>by
  rw [lCalc] at h |-
  split at h
  ·rename_i hc
   rw [if_pos ⟨hc.1,by omega,hc.2.2⟩]
   have:=lCalcs_shift hd kids _ _ _ h
   rw [show left+d - 1=left - 1+d by omega];exact this
  ·cases h
theorem lCalcs_shift {o:Bool} {d:Int} (hd:0<=d):∀ (cs:List Calc) (depth left l:Int),lCalcs o cs depth left=some l->lCalcs o cs depth (left+d)=some (l+d)
 | [],depth,left,l,h=>by rw [lCalcs] at h |-;cases h;rfl
 | k :: ks,depth,left,l,h=>by
  rw [lCalcs] at h |-
  split at h
  ·rename_i l' hl
   rw [lCalc_shift hd k _ _ _ hl]
   exact lCalcs_shift hd ks _ _ _ h
  ·cases h
end
mutual
theorem lCalc_mean {o:Bool}:∀ (c:Calc) (depth left l:Int),lCalc o c depth left=some l->mFormed c depth left=l
 | .mk op n kids,depth,left,l,h=>by
  have hle:=lCalc_le _ _ _ _ h
  rw [lCalc] at h
  split at h
  ·rename_i hc
   obtain ⟨h1,h2,h3⟩:=hc
   have ih:=lCalcs_mean kids _ _ _ h hle.1
   unfold calcOk at h3
   have key:(1<=op/\op<=10)/\((kids.length:Int)=(if 6<=op then 2 else 0))/\(op=1 \/ n=0)/\n=clampM n:=by
    have h0:clampM 0=0:=clampM_id (by omega)
    split at h3
    ·have:=of_decide_eq_true h3
     exact ⟨by omega,by rw [if_neg (by omega)];omega,by omega,(clampM_id (by omega)).symm⟩
    ·split at h3
     ·have:=of_decide_eq_true h3
      obtain ⟨rfl,q⟩:=this
      exact ⟨by omega,by rw [if_neg (by omega)];omega,by omega,h0.symm⟩
     ·split at h3
      ·have:=of_decide_eq_true h3
       obtain ⟨_,rfl,q⟩:=this
       exact ⟨by omega,by rw [if_neg (by omega)];omega,by omega,h0.symm⟩
      ·have:=of_decide_eq_true h3
       obtain ⟨_,_,rfl,q⟩:=this
       exact ⟨by omega,by rw [if_pos (by omega)];omega,by omega,h0.symm⟩
   obtain ⟨k1,k2,k3,k4⟩:=key
   rw [mFormed,if_neg (by omega),if_neg (by rintro (q | q | q) <;> first | exact q k2 | omega | exact q k4)]
   exact ih
  ·cases h
theorem lCalcs_mean {o:Bool}:∀ (cs:List Calc) (depth left l:Int),lCalcs o cs (depth+1) left=some l->0<=l->mFormedL cs depth left=l
 | [],depth,left,l,h,h0=>by rw [lCalcs] at h;cases h;rw [mFormedL]
 | k :: ks,depth,left,l,h,h0=>by
  rw [lCalcs] at h
  split at h
  ·rename_i l' hl
   have h1:=lCalc_mean k _ _ _ hl
   have h2:=lCalc_le k _ _ _ hl
   rw [mFormedL,h1,if_neg (by omega)]
   exact lCalcs_mean ks _ _ _ h h0
  ·cases h
end
theorem WOk.mono {d d':Nat} {e:Exp} (h:WOk d e) (hd:d<=d'):WOk d' e:=by
 induction h generalizing d' with
 | other d e h=>exact .other _ _ h
 | where_ d name n fold c cs k ks h ih =>
  obtain ⟨m,rfl⟩:∃ m,d'=m+1:=⟨d' - 1,by omega⟩
  exact .where_ m name n fold c cs k ks (ih (by omega))
theorem expOk_len {op n fold:Int} {name:Str} {nc nk:Nat} (h:expOk op name n fold nc nk=true):∃ x,shpOf op=some x/\(nk:Int)=x.kids/\(nc:Int)=x.calcs:=by
 unfold expOk at h
 split at h
 ·cases h
 ·rename_i x hx
  simp only [Bool.and_eq_true,decide_eq_true_eq] at h
  exact ⟨x,hx,h.1.1.1.1,h.1.1.1.2⟩
theorem lDefs_at {srcs names:List Str}:∀ (ds:List Def) (a left l:Int),lDefs srcs names ds a left=some l->0<=left->∀ (i:Nat) (h:i < ds.length),∃ l1 l2,lExp srcs names (a+i) ds[i].exp 1 l1=some l2/\0<=l1/\l1<=left
 | d :: ds,a,left,l,h,h0,i,hi=>by
  rw [lDefs] at h
  split at h
  ·rename_i l' hl
   have:=lExp_le _ _ _ _ hl
   cases i with
   | zero=>exact ⟨left,l',by simpa using hl,h0,Int.le_refl _⟩
   | succ i =>
    obtain ⟨l1,l2,q1,q2,q3⟩:=lDefs_at ds _ _ _ h (by omega) i (by simpa using hi)
    refine ⟨l1,l2,?_,q2,by omega⟩
    rw [show a+((i+1:Nat):Int)=a+1+(i:Int) by omega];simpa using q1
  ·cases h
end Go.Aft
end
section
namespace Go.Aft
def markK (M:Nat->Bool) (k:Nat):Nat->Bool:=fun x=>if x=k then true else M x
def unm (n:Nat) (M:Nat->Bool):Nat:=(List.range n).countP fun k=>!M k
theorem unm_mono {n:Nat} {M M':Nat->Bool} (h:∀ k,M k=true->M' k=true):unm n M'<=unm n M:=by
 refine List.countP_mono_left fun k _ hk=>?_
 cases hm:M k with
 | false=>rfl
 | true=>rw [h k hm] at hk;cases hk
theorem unm_mark {n:Nat} {M:Nat->Bool} {k:Nat} (hk:k < n) (hm:M k=false):unm n (markK M k) < unm n M:=by
 unfold unm
 induction n with
 | zero=>omega
 | succ n ih =>
  rw [List.range_succ,List.countP_append,List.countP_append]
  by_cases e:k=n
  ·subst e
   have h1:(List.range k).countP (fun x=>!markK M k x)<=(List.range k).countP (fun x=>!M x):=unm_mono (n:=k) fun x hx=>by unfold markK;split <;> simp [hx]
   simp [markK,hm];simp [markK] at h1;omega
  ·have:=ih (by omega)
   have hn:markK M k n=M n:=by unfold markK;rw [if_neg (by omega)]
   simp only [List.countP_cons,List.countP_nil,hn]
   omega
structure LookPost (S:Nat->Nat->Prop) (M M':Nat->Bool) (d:Nat):Prop where
 sub:∀ k,M k=true->M' k=true
 succ:∀ k,S d k->M' k=true
 clos:∀ j,M' j=true->M j=false->∀ k,S j k->M' k=true
 sound:∀ k,M' k=true->M k=true \/ Path S d k
structure LookInv (S:Nat->Nat->Prop) (M M':Nat->Bool) (d:Nat) (done:Nat->Prop):Prop where
 sub:∀ k,M k=true->M' k=true
 succ:∀ k,done k->M' k=true
 clos:∀ j,M' j=true->M j=false->∀ k,S j k->M' k=true
 sound:∀ k,M' k=true->M k=true \/ Path S d k
theorem LookInv.start {S:Nat->Nat->Prop} {M:Nat->Bool} {d:Nat} {done:Nat->Prop} (h:∀ k,¬ done k):LookInv S M M d done :=
 ⟨fun _ h=>h,fun k hk=>absurd hk (h k),fun j h1 h2=>absurd (h1.symm.trans h2) (by simp),fun k h=>.inl h⟩
theorem LookInv.same {S:Nat->Nat->Prop} {M M':Nat->Bool} {d:Nat} {done done':Nat->Prop} (h:LookInv S M M' d done) (hd:∀ k,done' k->done k \/ M' k=true):LookInv S M M' d done' :=
 ⟨h.sub,fun k hk=>(hd k hk).elim (h.succ k) id,h.clos,h.sound⟩
theorem LookInv.step {S:Nat->Nat->Prop} {M M1 M2:Nat->Bool} {d x:Nat} {done done':Nat->Prop} (h:LookInv S M M1 d done) (hs:S d x) (hp:LookPost S (markK M1 x) M2 x) (hd:∀ k,done' k->done k \/ k=x):LookInv S M M2 d done':=by
 have hx:M2 x=true:=hp.sub x (by simp [markK])
 have hsub:∀ k,M1 k=true->M2 k=true:=fun k hk=>hp.sub k (by unfold markK;split <;> simp [hk])
 refine ⟨fun k hk=>hsub k (h.sub k hk),fun k hk=>?_,fun j h1 h2 k hk=>?_,fun k hk=>?_⟩
 ·rcases hd k hk with q | rfl
  ·exact hsub k (h.succ k q)
  ·exact hx
 ·by_cases e:j=x
  ·subst e;exact hp.succ k hk
  ·cases hm:M1 j with
   | true=>exact hsub k (h.clos j hm h2 k hk)
   | false=>exact hp.clos j h1 (by unfold markK;rw [if_neg e];exact hm) k hk
 ·rcases hp.sound k hk with q | q
  ·unfold markK at q
   split at q
   ·rename_i e;subst e;exact .inr (.one hs)
   ·exact h.sound k q
  ·exact .inr (.cons hs q)
theorem LookInv.end {S:Nat->Nat->Prop} {M M':Nat->Bool} {d:Nat} {done:Nat->Prop} (h:LookInv S M M' d done) (hd:∀ k,S d k->done k):LookPost S M M' d:=⟨h.sub,fun k hk=>h.succ k (hd k hk),h.clos,h.sound⟩
theorem LookPost.all {S:Nat->Nat->Prop} {M:Nat->Bool} {d:Nat} (h:LookPost S (fun _=>false) M d) (k:Nat):M k=true ↔ Path S d k:=by
 constructor
 ·intro hk
  rcases h.sound k hk with q | q
  ·cases q
  ·exact q
 ·intro hp
  have key:∀ a b,Path S a b->(a=d \/ M a=true)->M b=true:=by
   intro a b hab
   have hs:∀ a b,S a b->(a=d \/ M a=true)->M b=true:=fun a b hb ha=>by
    rcases ha with rfl | ha
    ·exact h.succ b hb
    ·exact h.clos a ha rfl b hb
   induction hab with
   | one hb=>exact hs _ _ hb
   | cons hb _ ih=>exact fun ha=>ih (.inr (hs _ _ hb ha))
  exact key d k hp (.inl rfl)
end Go.Aft
end
section
namespace Go.Aft
def zeroRec:Rec:=⟨0,0,0⟩
def recOk (r:Rec):Prop:=0<=r.at_/\r.at_<=200/\inMost r.key/\inMost r.val
def saidM (n:News):Prop:=0<=n.id/\n.id<=999/\1<=n.ver/\n.ver<=99/\recOk n.rec_
def markedM (n:News):Prop:=n.id=0/\n.ver=0/\n.rec_.key=0/\n.rec_.val=0/\0<=n.rec_.at_/\n.rec_.at_<=201
def goodM (n:News) (srcs:Int):Prop:=0<=n.src/\n.src<=srcs - 1/\(n.do_=1/\saidM n \/ n.do_=2/\saidM n/\n.rec_=zeroRec \/ n.do_=3/\markedM n)
instance (r:Rec):Decidable (recOk r):=by unfold recOk inMost;infer_instance
instance (n:News):Decidable (saidM n):=by unfold saidM;infer_instance
instance (n:News):Decidable (markedM n):=by unfold markedM;infer_instance
instance (n:News) (s:Int):Decidable (goodM n s):=by unfold goodM;infer_instance
def plainM (l:List News) (srcs:Int):Prop:=1<=srcs/\srcs<=4/\l.length<=60/\∀ n ∈ l,goodM n srcs
instance (l:List News) (s:Int):Decidable (plainM l s):=by unfold plainM;infer_instance
def clashB (a b:News):Bool:=decide (a.do_ ≠ 3/\b.do_ ≠ 3/\a.src=b.src/\a.id=b.id/\a.ver=b.ver/\a ≠ b)
def clashAt (l:List News) (k:Nat):Option Nat:=match l[k]? with
 | none=>none
 | some b=>(l.take k).findIdx? fun a=>clashB a b
def clashFrom (l:List News):Nat->Nat->Option (Nat × Nat)
 | 0,_=>none
 | m+1,k=>match clashAt l k with
  | some i=>some (i,k)
  | none=>clashFrom l m (k+1)
def clashM (l:List News):Option (Nat × Nat):=clashFrom l l.length 0
def formedN (l:List News) (srcs:Int):Prop:=plainM l srcs/\clashM l=none
instance (l:List News) (s:Int):Decidable (formedN l s):=by unfold formedN;infer_instance
theorem clashFrom_none {l:List News}:∀ (m k:Nat),(∀ j,k<=j->j < k+m->clashAt l j=none)->clashFrom l m k=none
 | 0,k,_=>rfl
 | m+1,k,h=>by
  rw [clashFrom,h k (by omega) (by omega)]
  exact clashFrom_none m (k+1) fun j h1 h2=>h j (by omega) (by omega)
theorem clashFrom_some {l:List News}:∀ (m k j i:Nat),k<=j->j < k+m->(∀ j',k<=j'->j' < j->clashAt l j'=none)->clashAt l j=some i->clashFrom l m k=some (i,j)
 | 0,k,j,i,h1,h2,_,_=>by omega
 | m+1,k,j,i,h1,h2,h3,h4=>by
  rw [clashFrom]
  by_cases e:j=k
  ·subst e;rw [h4]
  ·rw [h3 k (by omega) (by omega)]
   exact clashFrom_some m (k+1) j i (by omega) (by omega) (fun j' a b=>h3 j' (by omega) b) h4
theorem clashM_none {l:List News} (h:∀ j,j < l.length->clashAt l j=none):clashM l=none:=clashFrom_none _ _ fun j _ hj=>h j (by omega)
theorem clashM_some {l:List News} {i j:Nat} (hj:j < l.length) (h:∀ j',j' < j->clashAt l j'=none) (hi:clashAt l j=some i):clashM l=some (i,j):=clashFrom_some _ _ j i (by omega) (by omega) (fun j' _ h'=>h j' h') hi
def hearL (src id:Int) (acc:Option News) (n:News):Option News :=
 if n.do_ ≠ 3/\n.src=src/\n.id=id/\(∀ w,acc=some w->w.ver < n.ver) then some n else acc
def lastM (l:List News) (src id:Int):Option News:=l.foldl (hearL src id) none
def hearM (src:Int) (acc:Int) (n:News):Int:=if n.do_=3/\n.src=src then maxI acc n.rec_.at_ else acc
def markM (l:List News) (src:Int):Int:=l.foldl (hearM src) 0
def oneM (l:List News) (src id:Int):List Event:=match lastM l src id with
 | some n=>if n.do_=1 then [⟨src,id,n.rec_⟩] else []
 | none=>[]
def stepM (l:List News) (n:News):List Event × List Event :=
 if n.do_=3 then ([],[]) else if oneM l n.src n.id=oneM (l ++ [n]) n.src n.id then ([],[]) else (oneM l n.src n.id,oneM (l ++ [n]) n.src n.id)
def lateAt (l:List News) (n:News):Bool:=((stepM l n).1 ++ (stepM l n).2).any fun e=>decide (e.rec_.at_ < markM l n.src)
def lateFrom (l:List News):List News->Nat->List Nat
 | [],_=>[]
 | n :: ns,i=>(if lateAt l n=true then [i] else []) ++ lateFrom (l ++ [n]) ns (i+1)
def lateM (l:List News):List Nat:=lateFrom [] l 0
theorem lastM_snoc (l:List News) (n:News) (src id:Int):lastM (l ++ [n]) src id=hearL src id (lastM l src id) n:=by simp [lastM]
def evLt (a b:Event):Prop:=a.rec_.at_ < b.rec_.at_ \/ a.rec_.at_=b.rec_.at_/\(a.src < b.src \/ a.src=b.src/\a.id < b.id)
theorem sorted_unique {α:Type} {lt:α->α->Prop} (irr:∀ a,¬ lt a a) (tr:∀ a b c,lt a b->lt b c->lt a c):∀ {l m:List α},l.Pairwise lt->m.Pairwise lt->(∀ x,x ∈ l ↔ x ∈ m)->l=m
 | [],[],_,_,_=>rfl
 | [],b :: m,_,_,h=>absurd ((h b).2 (by simp)) (by simp)
 | a :: l,[],_,_,h=>absurd ((h a).1 (by simp)) (by simp)
 | a :: l,b :: m,hl,hm,h=>by
  rw [List.pairwise_cons] at hl hm
  have e:a=b:=by
   rcases List.mem_cons.1 ((h a).1 (by simp)) with q | q
   ·exact q
   ·rcases List.mem_cons.1 ((h b).2 (by simp)) with r | r
    ·exact r.symm
    ·exact absurd (tr _ _ _ (hm.1 a q) (hl.1 b r)) (irr b)
  subst e
  congr 1
  refine sorted_unique irr tr hl.2 hm.2 fun x=>?_
  have hx:=h x
  simp only [List.mem_cons] at hx
  constructor
  ·intro hxl
   rcases hx.1 (.inr hxl) with rfl | q
   ·exact absurd (hl.1 x hxl) (irr x)
   ·exact q
  ·intro hxm
   rcases hx.2 (.inr hxm) with rfl | q
   ·exact absurd (hm.1 x hxm) (irr x)
   ·exact q
end Go.Aft
end
section
set_option maxRecDepth 20000
namespace Go.Aft
structure Item where
 rec_:Rec
 n:Int
 deriving DecidableEq
instance:Inhabited Item:=⟨⟨default,0⟩⟩
abbrev Bag:=List Item
def rItem (x:Item):List DV:=[.k (.int .i64 x.rec_.at_),.k (.int .i64 x.rec_.key),.k (.int .i64 x.rec_.val),.k (.int .i64 x.n)]
@[simp] theorem rItem_len (x:Item):(rItem x).length=4:=rfl
def rBag (b:Bag):List DV:=[.sl (b.map rItem)]
@[simp] theorem rBag_len (b:Bag):(rBag b).length=1:=rfl
def recLt (a b:Rec):Bool:=decide (a.at_ < b.at_ \/ a.at_=b.at_/\(a.key < b.key \/ a.key=b.key/\a.val < b.val))
theorem recLt_irr (a:Rec):recLt a a=false:=by simp [recLt]
theorem recLt_trans {a b c:Rec} (h:recLt a b=true) (k:recLt b c=true):recLt a c=true:=by
 simp only [recLt,decide_eq_true_eq] at *;omega
theorem recLt_tri {a b:Rec} (h:recLt a b=false) (k:recLt b a=false):a=b:=by
 simp only [recLt,decide_eq_false_iff_not] at *
 obtain ⟨a1,a2,a3⟩:=a
 obtain ⟨b1,b2,b3⟩:=b
 simp only at *
 have:a1=b1/\a2=b2/\a3=b3:=by omega
 simp [this]
def cntM (l:List Item) (r:Rec):Int:=match l with
 | []=>0
 | x :: l=>(if x.rec_=r then x.n else 0)+cntM l r
def IncB (l:List Item):Prop:=l.Pairwise fun a b=>recLt a.rec_ b.rec_=true
def putI (x:Item):List Item->List Item
 | []=>[x]
 | y :: l=>if x.rec_=y.rec_ then ⟨y.rec_,y.n+x.n⟩ :: l else if recLt x.rec_ y.rec_ then x :: y :: l else y :: putI x l
def sumsM:List Item->List Item
 | []=>[]
 | x :: l=>putI x (sumsM l)
def bagM (l:List Item):Bag:=(sumsM l).filter fun x=>decide (x.n ≠ 0)
def summedM (l:List Item) (top:Int):Bag:=bagM (l.filter fun x=>decide (0<=x.rec_.at_/\x.rec_.at_<=top))
theorem putI_mem {x:Item}:∀ {l:List Item} {y:Item},y ∈ putI x l->y=x \/ y ∈ l \/ ∃ z ∈ l,z.rec_=x.rec_/\y = ⟨z.rec_,z.n+x.n⟩
 | [],y,h=>by simp [putI] at h;exact .inl h
 | z :: l,y,h=>by
  rw [putI] at h
  split at h
  ·rename_i e
   rcases List.mem_cons.1 h with q | q
   ·exact .inr (.inr ⟨z,by simp,e.symm,q⟩)
   ·exact .inr (.inl (by simp [q]))
  ·split at h
   ·rcases List.mem_cons.1 h with q | q
    ·exact .inl q
    ·exact .inr (.inl q)
   ·rcases List.mem_cons.1 h with q | q
    ·exact .inr (.inl (by simp [q]))
    ·rcases putI_mem q with q | q | ⟨w,q1,q2⟩
     ·exact .inl q
     ·exact .inr (.inl (by simp [q]))
     ·exact .inr (.inr ⟨w,by simp [q1],q2⟩)
theorem putI_inc {x:Item}:∀ {l:List Item},IncB l->IncB (putI x l)
 | [],h=>by simp [putI,IncB]
 | y :: l,h=>by
  have h':=List.pairwise_cons.1 h
  rw [putI]
  split
  ·exact List.pairwise_cons.2 ⟨fun z hz=>h'.1 z hz,h'.2⟩
  ·rename_i hne
   split
   ·rename_i hlt
    refine List.pairwise_cons.2 ⟨fun z hz=>?_,h⟩
    rcases List.mem_cons.1 hz with q | q
    ·rw [q];exact hlt
    ·exact recLt_trans hlt (h'.1 z q)
   ·rename_i hlt
    have hyx:recLt y.rec_ x.rec_=true:=by
     cases q:recLt y.rec_ x.rec_ with
     | true=>rfl
     | false=>exact absurd (recLt_tri (by simpa using hlt) q) hne
    refine List.pairwise_cons.2 ⟨fun z hz=>?_,putI_inc h'.2⟩
    rcases putI_mem hz with q | q | ⟨w,q1,q2,q3⟩
    ·rw [q];exact hyx
    ·exact h'.1 z q
    ·rw [q3];exact h'.1 w q1
theorem sumsM_inc:∀ l:List Item,IncB (sumsM l)
 | []=>.nil
 | x :: l=>putI_inc (sumsM_inc l)
theorem bagM_inc (l:List Item):IncB (bagM l):=(sumsM_inc l).filter _
theorem cntM_putI (x:Item) (r:Rec):∀ l:List Item,cntM (putI x l) r=(if x.rec_=r then x.n else 0)+cntM l r
 | []=>rfl
 | y :: l=>by
  rw [putI]
  split
  ·rename_i e
   rw [cntM,cntM,e];simp only
   split <;> omega
  ·split
   ·rw [cntM]
   ·rw [cntM,cntM,cntM_putI x r l];omega
theorem cntM_sums (r:Rec):∀ l:List Item,cntM (sumsM l) r=cntM l r
 | []=>rfl
 | x :: l=>by rw [sumsM,cntM_putI,cntM_sums r l,cntM]
theorem cntM_zero {r:Rec}:∀ {l:List Item},(∀ x ∈ l,x.rec_ ≠ r)->cntM l r=0
 | [],_=>rfl
 | x :: l,h=>by rw [cntM,if_neg (h x (by simp)),cntM_zero fun y hy=>h y (by simp [hy])];rfl
theorem cntM_inc {x:Item}:∀ {l:List Item},IncB l->x ∈ l->cntM l x.rec_=x.n
 | y :: l,h,hx=>by
  have h':=List.pairwise_cons.1 h
  rw [cntM]
  rcases List.mem_cons.1 hx with q | q
  ·subst q
   rw [if_pos rfl,cntM_zero fun z hz e=>by have:=h'.1 z hz;rw [e,recLt_irr] at this;cases this];omega
  ·rw [if_neg,cntM_inc h'.2 q];· omega
   intro e
   have:=h'.1 x q
   rw [e,recLt_irr] at this;cases this
theorem cntM_mem {r:Rec}:∀ {l:List Item},cntM l r ≠ 0->∃ x ∈ l,x.rec_=r
 | [],h=>absurd rfl h
 | y :: l,h=>by
  by_cases e:y.rec_=r
  ·exact ⟨y,by simp,e⟩
  ·rw [cntM,if_neg e] at h
   obtain ⟨x,h1,h2⟩:=cntM_mem (r:=r) (l:=l) (by omega)
   exact ⟨x,by simp [h1],h2⟩
theorem bagM_mem {l:List Item} {x:Item}:x ∈ bagM l ↔ x.n ≠ 0/\x.n=cntM l x.rec_:=by
 simp only [bagM,List.mem_filter,decide_eq_true_eq]
 constructor
 ·rintro ⟨h1,h2⟩
  exact ⟨h2,by rw [<- cntM_sums,cntM_inc (sumsM_inc l) h1]⟩
 ·rintro ⟨h1,h2⟩
  refine ⟨?_,h1⟩
  rw [<- cntM_sums] at h2
  obtain ⟨y,hy,e⟩:=cntM_mem (r:=x.rec_) (l:=sumsM l) (by rw [<- h2];exact h1)
  have:=cntM_inc (sumsM_inc l) hy
  rw [e,<- h2] at this
  have e2:x=y:=by
   obtain ⟨xr,xn⟩:=x
   obtain ⟨yr,yn⟩:=y
   simp only at e this
   rw [e,this]
  rw [e2];exact hy
theorem IncB.unique {a b:List Item} (ha:IncB a) (hb:IncB b) (h:∀ x,x ∈ a ↔ x ∈ b):a=b :=
 sorted_unique (lt:=fun a b:Item=>recLt a.rec_ b.rec_=true) (fun a=>by simp [recLt_irr]) (fun _ _ _=>recLt_trans) ha hb h
theorem bagM_of {l:List Item} {b:Bag} (hb:IncB b) (h0:∀ x ∈ b,x.n ≠ 0) (h:∀ r,cntM b r=cntM l r):b=bagM l:=by
 refine hb.unique (bagM_inc l) fun x=>?_
 rw [bagM_mem]
 constructor
 ·intro hx;exact ⟨h0 x hx,by rw [<- h,cntM_inc hb hx]⟩
 ·rintro ⟨h1,h2⟩
  rw [<- h] at h2
  obtain ⟨y,hy,e⟩:=cntM_mem (r:=x.rec_) (l:=b) (by rw [<- h2];exact h1)
  have:=cntM_inc hb hy
  rw [e,<- h2] at this
  have e2:x=y:=by
   obtain ⟨xr,xn⟩:=x
   obtain ⟨yr,yn⟩:=y
   simp only at e this
   rw [e,this]
  rw [e2];exact hy
theorem cntM_perm {a b:List Item} (h:a.Perm b) (r:Rec):cntM a r=cntM b r:=by
 induction h with
 | nil=>rfl
 | cons x _ ih=>rw [cntM,cntM,ih]
 | swap x y l=>rw [cntM,cntM,cntM,cntM];omega
 | trans _ _ i j=>exact i.trans j
theorem bagM_cnt (l:List Item) (r:Rec):cntM (bagM l) r=cntM l r:=by
 by_cases h:cntM l r=0
 ·rw [h]
  refine cntM_zero fun x hx e=>?_
  have:=bagM_mem.1 hx
  rw [e,h] at this;omega
 ·exact (cntM_inc (bagM_inc l) (bagM_mem (x:=⟨r,cntM l r⟩).2 ⟨h,rfl⟩):_)
theorem bagM_congr {a b:List Item} (h:∀ r,cntM a r=cntM b r):bagM a=bagM b :=
 bagM_of (bagM_inc a) (fun x hx=>(bagM_mem.1 hx).1) fun r=>by rw [bagM_cnt,h]
theorem bagM_perm {a b:List Item} (h:a.Perm b):bagM a=bagM b:=bagM_congr fun r=>cntM_perm h r
theorem summedM_perm {a b:List Item} (h:a.Perm b) (top:Int):summedM a top=summedM b top:=bagM_perm (h.filter _)
def fStepM (f:Int) (st:Nat × Int) (x:Item):Nat × Int :=
 (st.1+1,if f=1 then st.2+x.n else if f=2 then st.2+x.n * x.rec_.val else if f=3 then (if st.1=0 \/ x.rec_.val < st.2 then x.rec_.val else st.2) else if f=4 then (if st.1=0 \/ st.2 < x.rec_.val then x.rec_.val else st.2) else st.2)
def foldI (f:Int) (l:List Item):Int:=clampM (l.foldl (fStepM f) (0,0)).2
def laterM (n:Int) (l:List Item):List Item:=l.map fun x=>⟨⟨x.rec_.at_+n,x.rec_.key,x.rec_.val⟩,x.n⟩
def fromM (low:Int) (l:List Item):List Item:=l.dropWhile fun x=>decide (x.rec_.at_ < low)
def withinM (low high:Int) (l:List Item):List Item:=(fromM low l).takeWhile fun x=>decide (x.rec_.at_<=high)
def keysOf:List Item->List Int
 | []=>[]
 | x :: l=>x.rec_.key :: (keysOf l).filter fun k=>decide (k ≠ x.rec_.key)
def rowOf (k:Int) (b:List Item):List Item:=b.filter fun x=>decide (x.rec_.key=k)
def groupS (n:Int) (_:List Item) (t:Int):Option (Int × Int):=some (t.tdiv n * n,t.tdiv n * n+n - 1)
def slideS (n:Int) (_:List Item) (t:Int):Option (Int × Int):=some (t - n,t)
def totalS (_:List Item) (t:Int):Option (Int × Int):=some (0,t)
def lowS (n:Int) (l:List Item):Nat->Int->Int
 | 0,low=>low
 | k+1,low=>match withinM (low - n) (low - 1) l with
  | []=>low
  | x :: _=>lowS n l k x.rec_.at_
def restS (n:Int) (l:List Item) (t:Int):Option (Int × Int):=match withinM (t+1) (t+n) l with
 | []=>some (lowS n l 201 t,t)
 | _=>none
def spanRow (f more key:Int) (sp:Int->Option (Int × Int)) (row:List Item):List Item->Int->List Item
 | [],_=>[]
 | x :: l,last=>match sp x.rec_.at_ with
  | none=>spanRow f more key sp row l last
  | some (low,high)=>if high=last then spanRow f more key sp row l last else ⟨⟨high+more,key,foldI f (withinM low high row)⟩,1⟩ :: spanRow f more key sp row l high
def spanKey (f more:Int) (sp:List Item->Int->Option (Int × Int)) (b:List Item) (k:Int):List Item:=spanRow f more k (sp (rowOf k b)) (rowOf k b) (rowOf k b) (-1)
def spansM (f more:Int) (sp:List Item->Int->Option (Int × Int)) (b:List Item):List Item:=(keysOf b).flatMap (spanKey f more sp b)
def whereM (c:Calc) (b:List Item):List Item:=b.filter fun x=>decide (cVal x.rec_ 0 c ≠ 0)
def eachM (k v:Calc) (b:List Item):List Item:=b.map fun x=>⟨⟨x.rec_.at_,cVal x.rec_ 0 k,cVal x.rec_ 0 v⟩,x.n⟩
def onceM (b:List Item):List Item:=b.map fun x=>⟨x.rec_,1⟩
def pairOne (c:Calc) (x y:Item):Item:=⟨⟨maxI x.rec_.at_ y.rec_.at_,x.rec_.key,cVal ⟨maxI x.rec_.at_ y.rec_.at_,x.rec_.key,x.rec_.val⟩ y.rec_.val c⟩,x.n * y.n⟩
def pairM (n:Int) (c:Calc) (a b:List Item):List Item:=a.flatMap fun x=>(withinM (x.rec_.at_ - n) (x.rec_.at_+n) (rowOf x.rec_.key b)).map (pairOne c x)
def asofM (c:Calc) (a b:List Item):List Item:=a.flatMap fun x=>match (withinM 0 x.rec_.at_ (rowOf x.rec_.key b)).getLast? with
 | none=>[]
 | some y=>[⟨⟨x.rec_.at_,x.rec_.key,cVal x.rec_ y.rec_.val c⟩,x.n⟩]
def lackM (n:Int) (a b:List Item):List Item:=a.filter fun x=>(withinM (x.rec_.at_ - n) (x.rec_.at_+n) (rowOf x.rec_.key b)).isEmpty
structure World' where
 srcs:List Bag
 defs:List Bag
def actM (p:Prog) (W:World') (op:Int) (name:Str) (n f:Int) (cs:List Calc) (ks:List Bag):List Item :=
 let a:=ks.getD 0 []
 let b:=ks.getD 1 []
 let c:=cs.getD 0 default
 if op=1 then W.srcs.getD (idx p.srcs name).toNat []
 else if op=2 then W.defs.getD (idx (defNames p) name).toNat []
 else if op=3 then laterM n (W.defs.getD (idx (defNames p) name).toNat [])
 else if op=4 then a ++ b
 else if op=5 then whereM c a
 else if op=6 then eachM c (cs.getD 1 default) a
 else if op=7 then laterM n a
 else if op=8 then spansM f 0 (groupS n) a
 else if op=9 then spansM f 0 (slideS n) a
 else if op=10 then spansM f 0 totalS a
 else if op=11 then spansM f n (restS n) a
 else if op=12 then pairM n c a b
 else if op=13 then asofM c a b
 else if op=14 then lackM n a b
 else onceM a
def fitsB (b:Bag):Bool:=decide (b.length<=300) && b.all fun x=>decide (x.n<=1000000)
mutual
def expM (p:Prog) (W:World') (top:Int):Exp->Option Bag
 | .mk op name n f cs kids=>match expsM p W top kids with
  | none=>none
  | some ks=>if fitsB (summedM (actM p W op name n f cs ks) top) then some (summedM (actM p W op name n f cs ks) top) else none
def expsM (p:Prog) (W:World') (top:Int):List Exp->Option (List Bag)
 | []=>some []
 | e :: es=>match expM p W top e with
  | none=>none
  | some b=>match expsM p W top es with
   | none=>none
   | some bs=>some (b :: bs)
end
end Go.Aft
end
