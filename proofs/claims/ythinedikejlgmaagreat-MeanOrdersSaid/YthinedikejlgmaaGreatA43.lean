import Derived.Test.YthinedikejlgmaaGreatA42
set_option linter.all false
set_option maxRecDepth 20000
namespace Go.Aft
def cutI (t:Int) (l:List Item):List Item:=l.filter fun x=>decide (x.rec_.at_<=t)
def EqTo (t:Int) (a b:List Item):Prop:=∀ r:Rec,r.at_<=t->cntM a r=cntM b r
theorem a3t (f:Item->Bool) (g:Rec->Bool) (hf:∀ x,f x=g x.rec_) (r:Rec):∀ l:List Item,cntM (l.filter f) r=if g r=true then cntM l r else 0
 | []=>by simp [cntM]
 | x :: l=>by
  have ih:=a3t f g hf r l
  by_cases h:g x.rec_=true
  ·rw [List.filter_cons_of_pos (by rw [hf];exact h),cntM,cntM,ih]
   by_cases hr:x.rec_=r
   ·subst hr;simp [h]
   ·rw [if_neg hr];split <;> omega
  ·rw [List.filter_cons_of_neg (by rw [hf];exact h),ih,cntM]
   by_cases hr:x.rec_=r
   ·subst hr;rw [if_neg h,if_neg h]
   ·rw [if_neg hr];split <;> omega
theorem a6k (r:Rec):∀ a b:List Item,cntM (a ++ b) r=cntM a r+cntM b r
 | [],b=>by simp [cntM]
 | x :: a,b=>by rw [List.cons_append,cntM,cntM,a6k r a b];omega
theorem c5z {t:Int} {r:Rec} (h:r.at_<=t) (l:List Item):cntM (cutI t l) r=cntM l r:=by
 rw [cutI,a3t _ (fun r=>decide (r.at_<=t)) (fun _=>rfl)];simp [h]
theorem e5t {t:Int} {r:Rec} (h:¬ r.at_<=t) (l:List Item):cntM (cutI t l) r=0:=by
 rw [cutI,a3t _ (fun r=>decide (r.at_<=t)) (fun _=>rfl)];simp [h]
theorem EqTo.b1r {t:Int} {a b:List Item} (h:cutI t a=cutI t b):EqTo t a b:=fun r hr=>by rw [<- c5z hr,h,c5z hr]
theorem EqTo.symm {t:Int} {a b:List Item} (h:EqTo t a b):EqTo t b a:=fun r hr=>(h r hr).symm
theorem EqTo.trans {t:Int} {a b c:List Item} (h:EqTo t a b) (k:EqTo t b c):EqTo t a c:=fun r hr=>(h r hr).trans (k r hr)
theorem EqTo.summed {t:Int} {a b:List Item} (h:EqTo t a b):a1i a t=a1i b t:=c3r fun r=>by
 rw [a3t _ (fun r=>decide (0<=r.at_/\r.at_<=t)) (fun _=>rfl),a3t _ (fun r=>decide (0<=r.at_/\r.at_<=t)) (fun _=>rfl)]
 split
 ·rename_i q
  exact h r (of_decide_eq_true q).2
 ·rfl
theorem IncB.cut {l:List Item} (h:IncB l) (t:Int):IncB (cutI t l):=h.filter _
theorem IncT.cut {l:List Item} (h:IncT l) (t:Int):IncT (cutI t l):=h.filter _
theorem b7g (l:List Item) (t:Int):IncB (a1i l t):=b3v _
theorem d1c (l:List Item) {t T:Int} (h:t<=T):cutI t (a1i l T)=a1i l t:=by
 refine c6b ((b7g l T).cut t) (fun x hx=>(a6n.1 (List.mem_filter.1 hx).1).1) fun r=>?_
 rw [a3t _ (fun r=>decide (0<=r.at_/\r.at_<=t)) (fun _=>rfl)]
 by_cases hr:r.at_<=t
 ·rw [c5z hr,a1i,d7q,a3t _ (fun r=>decide (0<=r.at_/\r.at_<=T)) (fun _=>rfl)]
  have h2:r.at_<=T:=by omega
  simp [hr,h2]
 ·rw [e5t hr];simp [hr]
theorem d8y {l:List Item} {t:Int} {x:Item} (h:x ∈ a1i l t):0<=x.rec_.at_/\x.rec_.at_<=t:=by
 have h1:=a6n.1 h
 obtain ⟨y,hy,e⟩:=b3r (r:=x.rec_) (l:=l.filter fun x=>decide (0<=x.rec_.at_/\x.rec_.at_<=t)) (by rw [<- h1.2];exact h1.1)
 have:=of_decide_eq_true (List.mem_filter.1 hy).2
 rw [e] at this;exact this
theorem e4q {b:Bag} (h:b0f b=true) (t:Int):b0f (cutI t b)=true:=by
 simp only [b0f,Bool.and_eq_true,decide_eq_true_eq,List.all_eq_true] at h |-
 exact ⟨Nat.le_trans (List.length_filter_le _ _) h.1,fun x hx=>h.2 x (List.mem_filter.1 hx).1⟩
theorem b9u {l:List Item} {t T:Int} (h:t<=T):cutI t (cutI T l)=cutI t l:=by
 rw [cutI,cutI,cutI,List.filter_filter]
 refine List.filter_congr fun x _=>?_
 by_cases q:x.rec_.at_<=t
 ·have:x.rec_.at_<=T:=by omega
  simp [q,this]
 ·simp [q]
theorem c5x (t:Int) (a b:List Item):cutI t (a ++ b)=cutI t a ++ cutI t b:=List.filter_append _ _
def winB (b:List Item) (k low high:Int):List Item:=b.filter fun x=>decide (x.rec_.key=k/\low<=x.rec_.at_/\x.rec_.at_<=high)
theorem b2k {low high:Int}:∀ {l:List Item},IncT l->a1a low high l=l.filter fun x=>decide (low<=x.rec_.at_/\x.rec_.at_<=high)
 | [],_=>rfl
 | x :: l,h=>by
  have h':=List.pairwise_cons.1 h
  have ih:=b2k (low:=low) (high:=high) h'.2
  by_cases h1:x.rec_.at_ < low
  ·have e1:a1a low high (x :: l)=a1a low high l:=by
    unfold a1a b2i
    rw [List.dropWhile_cons_of_pos (by simpa using h1)]
   rw [e1,ih,List.filter_cons_of_neg (by simp;omega)]
  ·have e1:b2i low (x :: l)=x :: l:=by
    unfold b2i
    rw [List.dropWhile_cons_of_neg (by simpa using h1)]
   have e2:b2i low l=l:=by
    cases l with
    | nil=>rfl
    | cons y l =>
     unfold b2i
     have:=h'.1 y (by simp)
     rw [List.dropWhile_cons_of_neg (by simp;omega)]
   have e3:a1a low high l=l.takeWhile fun x=>decide (x.rec_.at_<=high):=by unfold a1a;rw [e2]
   unfold a1a
   rw [e1]
   by_cases h2:x.rec_.at_<=high
   ·rw [List.takeWhile_cons_of_pos (by simpa using h2),<- e3,ih,List.filter_cons_of_pos (by simp;omega)]
   ·rw [List.takeWhile_cons_of_neg (by simpa using h2),List.filter_eq_nil_iff.2]
    intro y hy
    rcases List.mem_cons.1 hy with q | q
    ·subst q;simp;omega
    ·have:=h'.1 y q
     simp;omega
theorem a4j {b:List Item} (hb:IncT b) (k low high:Int):a1a low high (rowOf k b)=winB b k low high:=by
 have hr:IncT (rowOf k b):=hb.filter _
 rw [b2k hr,rowOf,List.filter_filter,winB]
 refine List.filter_congr fun x _=>?_
 by_cases q:x.rec_.key=k <;> simp [q]
theorem b2l {b:List Item} {k low high t:Int} (h:high<=t):winB (cutI t b) k low high=winB b k low high:=by
 rw [winB,cutI,List.filter_filter,winB]
 refine List.filter_congr fun x _=>?_
 by_cases q:x.rec_.at_<=high
 ·have:x.rec_.at_<=t:=by omega
  simp [q,this]
 ·simp [q]
theorem e9x (b:List Item) (k low high t:Int):cutI t (winB (cutI t b) k low high)=cutI t (winB b k low high):=by
 rw [winB,cutI,cutI,winB,List.filter_filter,List.filter_filter,cutI,List.filter_filter]
 refine List.filter_congr fun x _=>?_
 by_cases q:x.rec_.at_<=t <;> simp [q]
theorem d4r {b:List Item} {k low high:Int} {x:Item}:x ∈ winB b k low high ↔ x ∈ b/\x.rec_.key=k/\low<=x.rec_.at_/\x.rec_.at_<=high:=by simp [winB]
theorem e5p (c:Calc) (b:List Item) (t:Int):cutI t (a7c c b)=cutI t (a7c c (cutI t b)):=by
 rw [cutI,cutI,cutI,a7c,a7c,List.filter_filter,List.filter_filter,List.filter_filter]
 refine List.filter_congr fun x _=>?_
 by_cases q:x.rec_.at_<=t <;> simp [q]
theorem e5r {f:Item->Item} (hf:∀ x,(f x).rec_.at_=x.rec_.at_) (b:List Item) (t:Int):cutI t (b.map f)=(cutI t b).map f:=by
 rw [cutI,cutI,List.filter_map]
 congr 1
 refine List.filter_congr fun x _=>?_
 simp [hf]
theorem d7h (k v:Calc) (b:List Item) (t:Int):cutI t (d3n k v b)=d3n k v (cutI t b):=e5r (f:=fun x=>⟨⟨x.rec_.at_,cVal x.rec_ 0 k,cVal x.rec_ 0 v⟩,x.n⟩) (fun _=>rfl) b t
theorem d7g (b:List Item) (t:Int):cutI t (c7r b)=c7r (cutI t b):=e5r (f:=fun x=>⟨x.rec_,1⟩) (fun _=>rfl) b t
theorem b3p (n:Int) (b:List Item) (t:Int):cutI t (a4r n b)=a4r n (cutI (t - n) b):=by
 rw [cutI,cutI,a4r,a4r,List.filter_map]
 congr 1
 refine List.filter_congr fun x _=>?_
 simp only [Function.comp]
 congr 1
 exact propext ⟨fun h=>by omega,fun h=>by omega⟩
theorem c5o {F G:Item->List Item} {t:Int} (h1:∀ x,∀ y ∈ F x,x.rec_.at_<=y.rec_.at_) (h2:∀ x,x.rec_.at_<=t->cutI t (F x)=cutI t (G x)):∀ a:List Item,cutI t (a.flatMap F)=cutI t ((cutI t a).flatMap G)
 | []=>rfl
 | x :: a=>by
  have ih:=c5o h1 h2 a
  rw [List.flatMap_cons,c5x,ih]
  by_cases q:x.rec_.at_<=t
  ·have e:cutI t (x :: a)=x :: cutI t a:=List.filter_cons_of_pos (by simpa using q)
   rw [e,List.flatMap_cons,c5x,h2 x q]
  ·have e:cutI t (x :: a)=cutI t a:=List.filter_cons_of_neg (by simpa using q)
   have e2:cutI t (F x)=[]:=List.filter_eq_nil_iff.2 fun y hy=>by
    have:=h1 x y hy
    simp;omega
   rw [e,e2,List.nil_append]
def d1t (n:Int) (c:Calc) (b:List Item) (x:Item):List Item:=(winB b x.rec_.key (x.rec_.at_ - n) (x.rec_.at_+n)).map (a6t c x)
def d4b (c:Calc) (b:List Item) (x:Item):List Item:=match (winB b x.rec_.key 0 x.rec_.at_).getLast? with
 | none=>[]
 | some y=>[⟨⟨x.rec_.at_,x.rec_.key,cVal x.rec_ y.rec_.val c⟩,x.n⟩]
theorem d1s {b:List Item} (hb:IncT b) (n:Int) (c:Calc) (a:List Item):b1j n c a b=a.flatMap (d1t n c b):=by
 unfold b1j
 congr 1
 funext x
 rw [a4j hb,d1t]
theorem d4a {b:List Item} (hb:IncT b) (c:Calc) (a:List Item):a9c c a b=a.flatMap (d4b c b):=by
 unfold a9c
 congr 1
 funext x
 rw [a4j hb]
 unfold d4b
 cases (winB b x.rec_.key 0 x.rec_.at_).getLast? <;> rfl
theorem f3d {x y t:Int} (h:x<=t):maxI x y<=t ↔ y<=t:=by unfold maxI;split <;> constructor <;> intro h2 <;> omega
theorem f3e (x y:Int):x<=maxI x y:=by unfold maxI;split <;> omega
theorem e5q (n:Int) (c:Calc) (b:List Item) {x:Item} {t:Int} (h:x.rec_.at_<=t):cutI t (d1t n c b x)=cutI t (d1t n c (cutI t b) x):=by
 have e:∀ l:List Item,cutI t (l.map (a6t c x))=(cutI t l).map (a6t c x):=fun l=>by
  rw [cutI,cutI,List.filter_map]
  congr 1
  refine List.filter_congr fun y _=>?_
  simp only [Function.comp,a6t]
  congr 1
  exact propext (f3d h)
 rw [d1t,d1t,e,e,e9x]
theorem e9y {b:List Item} (hb:IncT b) (n:Int) (c:Calc) (a:List Item) (t:Int):cutI t (b1j n c a b)=cutI t (b1j n c (cutI t a) (cutI t b)):=by
 rw [d1s hb,d1s (hb.cut t)]
 refine c5o (fun x y hy=>?_) (fun x q=>e5q n c b q) a
 obtain ⟨z,_,rfl⟩:=List.mem_map.1 hy
 exact f3e _ _
theorem e9z {b:List Item} (hb:IncT b) (c:Calc) (a:List Item) (t:Int):cutI t (a9c c a b)=cutI t (a9c c (cutI t a) (cutI t b)):=by
 rw [d4a hb,d4a (hb.cut t)]
 refine c5o (fun x y hy=>?_) (fun x q=>by rw [d4b,d4b,b2l q]) a
 unfold d4b at hy
 split at hy
 ·cases hy
 ·rw [List.mem_singleton.1 hy];exact Int.le_refl _
def Ind (n:Int) (P:Prop):Prop:=(P->n=1)/\(¬ P->n=0)
theorem Ind.congr {n:Int} {P Q:Prop} (h:Ind n P) (e:P ↔ Q):Ind n Q:=⟨fun q=>h.1 (e.2 q),fun q=>h.2 fun p=>q (e.1 p)⟩
theorem Ind.eq {n m:Int} {P Q:Prop} (h:Ind n P) (k:Ind m Q) (e:P ↔ Q):n=m:=by
 by_cases p:P
 ·rw [h.1 p,k.1 (e.1 p)]
 ·rw [h.2 p,k.2 fun q=>p (e.2 q)]
theorem a8c {f more k:Int} {sp:Int->Option (Int × Int)} {row:List Item} (r:Rec):∀ (l:List Item) (last:Int),(∀ x ∈ l,∀ lo hi,sp x.rec_.at_=some (lo,hi)->last<=hi) ->
  (l.Pairwise fun x y=>∀ l1 h1 l2 h2,sp x.rec_.at_=some (l1,h1)->sp y.rec_.at_=some (l2,h2)->h1<=h2/\(h1=h2->l1=l2)) ->
  Ind (cntM (a2q f more k sp row l last) r) (∃ x ∈ l,∃ lo hi,sp x.rec_.at_=some (lo,hi)/\hi ≠ last/\r = ⟨hi+more,k,b3l f (a1a lo hi row)⟩)
 | [],last,_,_=>⟨fun ⟨x,h,_⟩=>absurd h List.not_mem_nil,fun _=>rfl⟩
 | x :: l,last,h1,h2=>by
  have hp:=List.pairwise_cons.1 h2
  rw [a2q]
  cases hs:sp x.rec_.at_ with
  | none =>
   simp only
   refine (a8c r l last (fun y hy=>h1 y (List.mem_cons_of_mem _ hy)) hp.2).congr ⟨?_,?_⟩
   ·rintro ⟨y,hy,q⟩;exact ⟨y,List.mem_cons_of_mem _ hy,q⟩
   ·rintro ⟨y,hy,lo,hi,q,q2⟩
    rcases List.mem_cons.1 hy with e | e
    ·subst e;rw [hs] at q;cases q
    ·exact ⟨y,e,lo,hi,q,q2⟩
  | some v =>
   obtain ⟨lo,hi⟩:=v
   simp only
   split
   ·rename_i e
    refine (a8c r l last (fun y hy=>h1 y (List.mem_cons_of_mem _ hy)) hp.2).congr ⟨?_,?_⟩
    ·rintro ⟨y,hy,q⟩;exact ⟨y,List.mem_cons_of_mem _ hy,q⟩
    ·rintro ⟨y,hy,lo',hi',q,q2,q3⟩
     rcases List.mem_cons.1 hy with e' | e'
     ·subst e';rw [hs] at q;cases q;exact absurd e q2
     ·exact ⟨y,e',lo',hi',q,q2,q3⟩
   ·rename_i e
    have hlt:last<=hi:=h1 x (by simp) lo hi hs
    have ih:=a8c (f:=f) (more:=more) (k:=k) (row:=row) r l hi (fun y hy lo' hi' q=>(hp.1 y hy _ _ _ _ hs q).1) hp.2
    have hc:∀ (z:Rec) (L:List Item),cntM (⟨z,1⟩ :: L) r=(if z=r then 1 else 0)+cntM L r:=fun _ _=>rfl
    rw [hc]
    by_cases hr:(⟨hi+more,k,b3l f (a1a lo hi row)⟩:Rec)=r
    ·have hno:¬ ∃ y ∈ l,∃ lo' hi',sp y.rec_.at_=some (lo',hi')/\hi' ≠ hi/\r = ⟨hi' + more,k,b3l f (a1a lo' hi' row)⟩:=by
      rintro ⟨y,hy,lo',hi',q1,q2,q3⟩
      rw [q3] at hr
      have:=congrArg Rec.at_ hr
      simp only at this
      exact q2 (by omega)
     refine ⟨fun _=>by rw [if_pos hr,ih.2 hno];rfl,fun hn=>absurd ⟨x,by simp,lo,hi,hs,e,hr.symm⟩ hn⟩
    ·rw [if_neg hr,Int.zero_add]
     refine ih.congr ⟨?_,?_⟩
     ·rintro ⟨y,hy,lo',hi',q1,q2,q3⟩
      refine ⟨y,List.mem_cons_of_mem _ hy,lo',hi',q1,?_,q3⟩
      have:=(hp.1 y hy _ _ _ _ hs q1).1
      omega
     ·rintro ⟨y,hy,lo',hi',q1,q2,q3⟩
      rcases List.mem_cons.1 hy with e' | e'
      ·subst e';rw [hs] at q1;cases q1;exact absurd q3.symm hr
      ·refine ⟨y,e',lo',hi',q1,fun e2=>?_,q3⟩
       have:=(hp.1 y e' _ _ _ _ hs q1).2 e2.symm
       subst e2;subst this
       exact hr q3.symm
theorem a8b {f more k:Int} {sp:Int->Option (Int × Int)} {row:List Item}:∀ (l:List Item) (last:Int),∀ x ∈ a2q f more k sp row l last,x.rec_.key=k
 | [],_,x,h=>absurd h List.not_mem_nil
 | y :: l,last,x,h=>by
  rw [a2q] at h
  split at h
  ·exact a8b l last x h
  ·split at h
   ·exact a8b l last x h
   ·rcases List.mem_cons.1 h with q | q
    ·rw [q]
    ·exact a8b l _ x q
theorem b9n {F:Int->List Item} (hF:∀ k,∀ x ∈ F k,x.rec_.key=k) (r:Rec):∀ ks:List Int,ks.Nodup->cntM (ks.flatMap F) r=if r.key ∈ ks then cntM (F r.key) r else 0
 | [],_=>rfl
 | k :: ks,h=>by
  have h':=List.nodup_cons.1 h
  rw [List.flatMap_cons,a6k,b9n hF r ks h'.2]
  by_cases e:k=r.key
  ·subst e
   rw [if_neg h'.1,if_pos (List.mem_cons_self ..)];omega
  ·rw [b0h (l:=F k) fun x hx q=>e (by rw [<- hF k x hx,q])]
   have:r.key ∈ k :: ks ↔ r.key ∈ ks:=by
    rw [List.mem_cons]
    exact ⟨fun q=>q.resolve_left fun q=>e q.symm,.inr⟩
   by_cases q:r.key ∈ ks
   ·rw [if_pos q,if_pos (this.2 q)];omega
   ·rw [if_neg q,if_neg fun w=>q (this.1 w)];rfl
def genB (f more:Int) (spb:List Item->Int->Int->Option (Int × Int)) (b:List Item) (x:Item):Option Rec:=match spb b x.rec_.key x.rec_.at_ with
 | none=>none
 | some (lo,hi)=>some ⟨hi+more,x.rec_.key,b3l f (winB b x.rec_.key lo hi)⟩
theorem a5y {f more:Int} {spb:List Item->Int->Int->Option (Int × Int)} {b:List Item} {x:Item} {r:Rec}:genB f more spb b x=some r ↔ ∃ lo hi,spb b x.rec_.key x.rec_.at_=some (lo,hi)/\r = ⟨hi+more,x.rec_.key,b3l f (winB b x.rec_.key lo hi)⟩:=by
 unfold genB
 cases spb b x.rec_.key x.rec_.at_ with
 | none=>simp
 | some v =>
  obtain ⟨lo,hi⟩:=v
  simp only [Option.some.injEq,Prod.mk.injEq]
  constructor
  ·intro h;exact ⟨lo,hi,⟨rfl,rfl⟩,h.symm⟩
  ·rintro ⟨lo',hi',⟨rfl,rfl⟩,h⟩;exact h.symm
structure SpOk (sp:List Item->Int->Option (Int × Int)) (spb:List Item->Int->Int->Option (Int × Int)) (more:Int):Prop where
 row:∀ {b:List Item},IncT b->∀ k t,sp (rowOf k b) t=spb b k t
 mono:∀ {b:List Item} {k t1 t2 l1 h1 l2 h2:Int},0<=t1->t1<=t2->spb b k t1=some (l1,h1)->spb b k t2=some (l2,h2)->h1<=h2/\(h1=h2->l1=l2)
 ge:∀ {b:List Item} {k t lo hi:Int},0<=t->spb b k t=some (lo,hi)->t<=hi
 cut:∀ {b:List Item} {T k t lo hi:Int},hi+more<=T->(spb b k t=some (lo,hi) ↔ spb (cutI T b) k t=some (lo,hi))
 more:0<=more
theorem a7h {f more:Int} {sp:List Item->Int->Option (Int × Int)} {spb:List Item->Int->Int->Option (Int × Int)} (hs:SpOk sp spb more) {b:List Item} (hb:IncT b) (h0:∀ x ∈ b,0<=x.rec_.at_) (r:Rec) :
  Ind (cntM (a4h f more sp b) r) (∃ x ∈ b,genB f more spb b x=some r):=by
 rw [a4h,b9n (F:=b4e f more sp b) (fun k x hx=>a8b _ _ x hx) r _ (a4s b)]
 have hrow:∀ {k:Int} {x:Item},x ∈ rowOf k b->x ∈ b/\x.rec_.key=k:=fun h=>row_mem h
 by_cases hk:r.key ∈ keysOf b
 ·rw [if_pos hk]
  have hinc:IncT (rowOf r.key b):=hb.filter _
  refine (a8c r (rowOf r.key b) (-1) (fun x hx lo hi q=>?_) ?_).congr ⟨?_,?_⟩
  ·rw [hs.row hb] at q
   have h1:=h0 x (hrow hx).1
   have:=hs.ge h1 q
   omega
  ·refine hinc.imp_of_mem fun {x y} hx hy hxy l1 h1 l2 h2 q1 q2=>?_
   rw [hs.row hb] at q1 q2
   exact hs.mono (h0 x (hrow hx).1) hxy q1 q2
  ·rintro ⟨x,hx,lo,hi,q1,q2,q3⟩
   obtain ⟨hxb,hxk⟩:=hrow hx
   rw [hs.row hb] at q1
   rw [a4j hb] at q3
   exact ⟨x,hxb,a5y.2 ⟨lo,hi,by rw [hxk];exact q1,by rw [hxk];exact q3⟩⟩
  ·rintro ⟨x,hx,q⟩
   obtain ⟨lo,hi,q1,q3⟩:=a5y.1 q
   have hxk:x.rec_.key=r.key:=by rw [q3]
   have hge:=hs.ge (h0 x hx) q1
   have:=h0 x hx
   refine ⟨x,by simp [rowOf,hx,hxk],lo,hi,by rw [hs.row hb,<- hxk];exact q1,by omega,?_⟩
   rw [a4j hb,<- hxk];exact q3
 ·rw [if_neg hk]
  refine ⟨?_,fun _=>rfl⟩
  rintro ⟨x,hx,q⟩
  obtain ⟨lo,hi,q1,q3⟩:=a5y.1 q
  exact absurd (a7m.2 ⟨x,hx,by rw [q3]⟩) hk
theorem e9c {f more:Int} {sp:List Item->Int->Option (Int × Int)} {spb:List Item->Int->Int->Option (Int × Int)} (hs:SpOk sp spb more) {b:List Item} (h0:∀ x ∈ b,0<=x.rec_.at_) {r:Rec} {t:Int} (hr:r.at_<=t) :
  (∃ x ∈ b,genB f more spb b x=some r) ↔ ∃ x ∈ cutI t b,genB f more spb (cutI t b) x=some r:=by
 have hm:=hs.more
 constructor
 ·rintro ⟨x,hx,q⟩
  obtain ⟨lo,hi,q1,q3⟩:=a5y.1 q
  have hhi:hi+more<=t:=by rw [q3] at hr;exact hr
  have hge:=hs.ge (h0 x hx) q1
  refine ⟨x,List.mem_filter.2 ⟨hx,by simp;omega⟩,a5y.2 ⟨lo,hi,(hs.cut hhi).1 q1,?_⟩⟩
  rw [b2l (by omega)];exact q3
 ·rintro ⟨x,hx,q⟩
  obtain ⟨lo,hi,q1,q3⟩:=a5y.1 q
  have hhi:hi+more<=t:=by rw [q3] at hr;exact hr
  refine ⟨x,(List.mem_filter.1 hx).1,a5y.2 ⟨lo,hi,(hs.cut hhi).2 q1,?_⟩⟩
  rw [b2l (by omega)] at q3;exact q3
theorem b0s {f more:Int} {sp:List Item->Int->Option (Int × Int)} {spb:List Item->Int->Int->Option (Int × Int)} (hs:SpOk sp spb more) {b:List Item} (hb:IncT b) (h0:∀ x ∈ b,0<=x.rec_.at_) (t:Int) :
  EqTo t (a4h f more sp b) (a4h f more sp (cutI t b)):=fun r hr =>
 (a7h hs hb h0 r).eq (a7h hs (hb.cut t) (fun x hx=>h0 x (List.mem_filter.1 hx).1) r) (e9c hs h0 hr)
def d6u (n:Int) (_:List Item) (_ t:Int):Option (Int × Int):=some (t.tdiv n * n,t.tdiv n * n+n - 1)
def d5f (n:Int) (_:List Item) (_ t:Int):Option (Int × Int):=some (t - n,t)
def d4v (_:List Item) (_ t:Int):Option (Int × Int):=some (0,t)
def lowB (n:Int) (b:List Item) (k:Int):Nat->Int->Int
 | 0,low=>low
 | j+1,low=>match winB b k (low - n) (low - 1) with
  | []=>low
  | x :: _=>lowB n b k j x.rec_.at_
def c4m (n:Int) (b:List Item) (k t:Int):Option (Int × Int):=match winB b k (t+1) (t+n) with
 | []=>some (lowB n b k 201 t,t)
 | _=>none
theorem d5z {n:Int} {b:List Item} (hb:IncT b) (k:Int):∀ (j:Nat) (low:Int),lowS n (rowOf k b) j low=lowB n b k j low
 | 0,low=>rfl
 | j+1,low=>by
  rw [lowS,lowB,a4j hb]
  cases winB b k (low - n) (low - 1) with
  | nil=>rfl
  | cons x l=>exact d5z hb k j _
theorem d6a {n:Int} {b:List Item} {k t:Int}:∀ (j:Nat) (low:Int),low<=t->lowB n (cutI t b) k j low=lowB n b k j low
 | 0,low,_=>rfl
 | j+1,low,h=>by
  rw [lowB,lowB,b2l (by omega)]
  split
  ·rfl
  ·rename_i x l e
   have hx:x ∈ winB b k (low - n) (low - 1):=by rw [e];exact List.mem_cons_self ..
   have:=(d4r.1 hx).2.2.2
   exact d6a j _ (by omega)
theorem d6t {n:Int} (hn:1<=n):SpOk (b5y n) (d6u n) 0 where
 row:=fun _ _ _=>rfl
 mono:=fun {b k t1 t2 l1 h1 l2 h2} h0 h12 q1 q2=>by
  simp only [d6u,Option.some.injEq,Prod.mk.injEq] at q1 q2
  rw [Int.tdiv_eq_ediv_of_nonneg h0] at q1
  rw [Int.tdiv_eq_ediv_of_nonneg (Int.le_trans h0 h12)] at q2
  have h3:=Int.mul_le_mul_of_nonneg_right (Int.ediv_le_ediv (show 0 < n by omega) h12) (show 0<=n by omega)
  constructor <;> omega
 ge:=fun {b k t lo hi} h0 q=>by
  simp only [d6u,Option.some.injEq,Prod.mk.injEq] at q
  rw [Int.tdiv_eq_ediv_of_nonneg h0] at q
  have:=Int.lt_ediv_add_one_mul_self t (show 0 < n by omega)
  rw [Int.add_mul,Int.one_mul] at this
  omega
 cut:=fun _=>Iff.rfl
 more:=Int.le_refl _
theorem d5e {n:Int}:SpOk (b2t n) (d5f n) 0 where
 row:=fun _ _ _=>rfl
 mono:=fun {b k t1 t2 l1 h1 l2 h2} h0 h12 q1 q2=>by
  simp only [d5f,Option.some.injEq,Prod.mk.injEq] at q1 q2
  constructor <;> omega
 ge:=fun {b k t lo hi} h0 q=>by
  simp only [d5f,Option.some.injEq,Prod.mk.injEq] at q
  omega
 cut:=fun _=>Iff.rfl
 more:=Int.le_refl _
theorem d4u:SpOk b7e d4v 0 where
 row:=fun _ _ _=>rfl
 mono:=fun {b k t1 t2 l1 h1 l2 h2} h0 h12 q1 q2=>by
  simp only [d4v,Option.some.injEq,Prod.mk.injEq] at q1 q2
  constructor <;> omega
 ge:=fun {b k t lo hi} h0 q=>by
  simp only [d4v,Option.some.injEq,Prod.mk.injEq] at q
  omega
 cut:=fun _=>Iff.rfl
 more:=Int.le_refl _
theorem b2v {n:Int} {b:List Item} {k t lo hi:Int} (h:c4m n b k t=some (lo,hi)):hi=t/\lo=lowB n b k 201 t:=by
 unfold c4m at h
 split at h
 ·cases h;exact ⟨rfl,rfl⟩
 ·cases h
theorem e2l {n:Int} (hn:0<=n):SpOk (b6i n) (c4m n) n where
 row:=fun {b} hb k t=>by
  rw [b6i,c4m,a4j hb,d5z hb]
  cases winB b k (t+1) (t+n) <;> rfl
 mono:=fun {b k t1 t2 l1 h1 l2 h2} h0 h12 q1 q2=>by
  have e1:=b2v q1
  have e2:=b2v q2
  refine ⟨by omega,fun e=>?_⟩
  have:t1=t2:=by omega
  subst this
  rw [e1.2,e2.2]
 ge:=fun {b k t lo hi} h0 q=>by have:=b2v q;omega
 cut:=fun {b T k t lo hi} h=>by
  have key:t+n<=T->c4m n (cutI T b) k t=c4m n b k t:=fun q=>by
   rw [c4m,c4m,b2l q,d6a _ _ (by omega)]
  constructor
  ·intro q
   have:=b2v q
   rw [key (by omega)];exact q
  ·intro q
   have:=b2v q
   rw [<- key (by omega)];exact q
 more:=hn
def a7x (b:List Item):Prop:=IncB b/\∀ x ∈ b,0<=x.rec_.at_
theorem a7x.nil:a7x []:=⟨.nil,fun _ h=>absurd h List.not_mem_nil⟩
theorem a7x.cut {b:List Item} (h:a7x b) (t:Int):a7x (cutI t b):=⟨h.1.cut t,fun x hx=>h.2 x (List.mem_filter.1 hx).1⟩
theorem a7x.summed (l:List Item) (t:Int):a7x (a1i l t):=⟨b7g l t,fun x hx=>(d8y hx).1⟩
def c3y (op n:Int):Prop:=(op ≠ 14)/\(op=7->0<=n)/\(op=8->1<=n)/\(op=11->0<=n)
theorem f0n {p:Prog} {W:World'} {op:Int} {name:Str} {n f:Int} {cs:List Calc} {ks:List Bag} {t:Int} (hop:4<=op) (hb:c3y op n) (hk:∀ i,a7x (ks.getD i [])) (ks':List Bag) (hk':∀ i,ks'.getD i []=cutI t (ks.getD i [])) (W':World') :
  EqTo t (actM p W op name n f cs ks) (actM p W' op name n f cs ks'):=by
 obtain ⟨b1,b2,b3,b4⟩:=hb
 have k0:=hk 0
 have k1:=hk 1
 have t0:=b9k k0.1
 have t1:=b9k k1.1
 unfold actM
 simp only [hk']
 have n1:¬ op=1:=by omega
 have n2:¬ op=2:=by omega
 have n3:¬ op=3:=by omega
 rw [if_neg n1,if_neg n1,if_neg n2,if_neg n2,if_neg n3,if_neg n3]
 by_cases h4:op=4
 ·rw [if_pos h4,if_pos h4]
  exact .b1r (by rw [c5x,c5x,b9u (Int.le_refl _),b9u (Int.le_refl _)])
 rw [if_neg h4,if_neg h4]
 by_cases h5:op=5
 ·rw [if_pos h5,if_pos h5];exact .b1r (e5p _ _ _)
 rw [if_neg h5,if_neg h5]
 by_cases h6:op=6
 ·rw [if_pos h6,if_pos h6]
  exact .b1r (by rw [d7h,d7h,b9u (Int.le_refl _)])
 rw [if_neg h6,if_neg h6]
 by_cases h7:op=7
 ·rw [if_pos h7,if_pos h7]
  have:=b2 h7
  exact .b1r (by rw [b3p,b3p,b9u (by omega)])
 rw [if_neg h7,if_neg h7]
 by_cases h8:op=8
 ·rw [if_pos h8,if_pos h8];exact b0s (d6t (b3 h8)) t0 k0.2 t
 rw [if_neg h8,if_neg h8]
 by_cases h9:op=9
 ·rw [if_pos h9,if_pos h9];exact b0s d5e t0 k0.2 t
 rw [if_neg h9,if_neg h9]
 by_cases h10:op=10
 ·rw [if_pos h10,if_pos h10];exact b0s d4u t0 k0.2 t
 rw [if_neg h10,if_neg h10]
 by_cases h11:op=11
 ·rw [if_pos h11,if_pos h11];exact b0s (e2l (b4 h11)) t0 k0.2 t
 rw [if_neg h11,if_neg h11]
 by_cases h12:op=12
 ·rw [if_pos h12,if_pos h12];exact .b1r (e9y t1 _ _ _ _)
 rw [if_neg h12,if_neg h12]
 by_cases h13:op=13
 ·rw [if_pos h13,if_pos h13];exact .b1r (e9z t1 _ _ _)
 rw [if_neg h13,if_neg h13,if_neg b1,if_neg b1]
 exact .b1r (by rw [d7g,d7g,b9u (Int.le_refl _)])
structure SeesTo (p:Prog) (t:Int) (W W':World') (e:Exp):Prop where
 src:e.op=1->cutI t (W.srcs.getD (idx p.srcs e.name).toNat [])=cutI t (W'.srcs.getD (idx p.srcs e.name).toNat [])
 ref:e.op=2->cutI t (W.defs.getD (idx (a0d p) e.name).toNat [])=cutI t (W'.defs.getD (idx (a0d p) e.name).toNat [])
 prev:e.op=3->cutI (t - e.n) (W.defs.getD (idx (a0d p) e.name).toNat [])=cutI (t - e.n) (W'.defs.getD (idx (a0d p) e.name).toNat [])
theorem c9f (t:Int) (ks:List Bag) (i:Nat):(ks.map (cutI t)).getD i []=cutI t (ks.getD i []):=by
 rw [List.getD_eq_getElem?_getD,List.getD_eq_getElem?_getD,List.getElem?_map]
 cases ks[i]? <;> rfl
theorem d3i {ks:List Bag} (h:∀ b ∈ ks,a7x b) (i:Nat):a7x (ks.getD i []):=by
 rw [List.getD_eq_getElem?_getD]
 cases q:ks[i]? with
 | none=>exact .nil
 | some b=>exact h b (List.mem_of_getElem? q)
theorem e8k {p:Prog} {W W':World'} {op:Int} {name:Str} {n f:Int} {cs:List Calc} {kids:List Exp} {t:Int} (hop:1<=op) (hb:c3y op n) (hs:SeesTo p t W W' (.mk op name n f cs kids)) {ks:List Bag} (hk:∀ b ∈ ks,a7x b) :
  EqTo t (actM p W op name n f cs ks) (actM p W' op name n f cs (ks.map (cutI t))):=by
 by_cases h4:4<=op
 ·exact f0n h4 hb (d3i hk) _ (c9f t ks) W'
 ·by_cases h1:op=1
  ·subst h1;exact .b1r (hs.src rfl)
  ·by_cases h2:op=2
   ·subst h2;exact .b1r (hs.ref rfl)
   ·have h3:op=3:=by omega
    subst h3
    refine .b1r ?_
    show cutI t (a4r n _)=cutI t (a4r n _)
    rw [b3p,b3p]
    exact congrArg _ (hs.prev rfl)
mutual
theorem d7a {p:Prog} {W W':World'} {t T:Int} (ht:t<=T):∀ (e:Exp),(∀ x ∈ allE e,1<=x.op/\c3y x.op x.n/\SeesTo p t W W' x)->∀ b,expM p W T e=some b->expM p W' t e=some (cutI t b)/\a7x b
 | .mk op name n f cs kids,hx,b,h=>by
  obtain ⟨h1,h2,h3⟩:=hx (.mk op name n f cs kids) (by rw [allE];exact List.mem_cons_self ..)
  rw [expM] at h
  split at h
  ·cases h
  ·rename_i ks hks
   obtain ⟨q1,q2⟩:=c9m ht kids (fun x hx'=>hx x (by rw [allE];exact List.mem_cons_of_mem _ hx')) ks hks
   split at h
   ·rename_i hf
    cases h
    refine ⟨?_,a7x.summed _ _⟩
    rw [expM,q1]
    simp only
    have e:a1i (actM p W' op name n f cs (ks.map (cutI t))) t=cutI t (a1i (actM p W op name n f cs ks) T):=by
     rw [d1c _ ht]
     exact (e8k h1 h2 h3 q2).symm.summed
    rw [e,if_pos (e4q hf t)]
   ·cases h
theorem c9m {p:Prog} {W W':World'} {t T:Int} (ht:t<=T):∀ (es:List Exp),(∀ x ∈ a0y es,1<=x.op/\c3y x.op x.n/\SeesTo p t W W' x)->∀ ks,a6e p W T es=some ks->a6e p W' t es=some (ks.map (cutI t))/\∀ b ∈ ks,a7x b
 | [],_,ks,h=>by
  rw [a6e] at h
  cases h
  exact ⟨by rw [a6e];rfl,fun _ h=>absurd h List.not_mem_nil⟩
 | e :: es,hx,ks,h=>by
  rw [a6e] at h
  split at h
  ·cases h
  ·rename_i b hb
   split at h
   ·cases h
   ·rename_i bs hbs
    cases h
    obtain ⟨q1,q2⟩:=d7a ht e (fun x hx'=>hx x (by rw [a0y];exact List.mem_append_left _ hx')) b hb
    obtain ⟨q3,q4⟩:=c9m ht es (fun x hx'=>hx x (by rw [a0y];exact List.mem_append_right _ hx')) bs hbs
    refine ⟨by rw [a6e,q1];simp only;rw [q3];rfl,fun b' hb'=>?_⟩
    rcases List.mem_cons.1 hb' with e | e
    ·rw [e];exact q2
    ·exact q4 b' e
end
end Go.Aft
