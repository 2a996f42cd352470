import Derived.Test.YthinedikejlgmaaGreatA29
set_option linter.all false
section
set_option maxRecDepth 20000
namespace Go.Aft
def bA(t:Int)(l:List Item):List Item:=l.filter λx=>decide (x.aa.at_<=t)
def sO(t:Int)(a b:List Item):Prop:=∀r:Rec,r.at_<=t->bS a r=bS b r
theorem fB(f:Item->Bool)(g:Rec->Bool)(hf:∀x,f x=g x.aa)(r:Rec):∀l:List Item,bS (l.filter f) r=if g r=true then bS l r else 0
 |[]=>by simp[bS]
 |x::l=>by
  have ih:=fB f g hf r l;by_cases h:g x.aa=true
  ·rw[List.filter_cons_of_pos (by rw[hf];exact h),bS,bS,ih]
   by_cases hr:x.aa=r
   ·subst hr;simp[h]
   ·rw[if_neg hr];split<;>omega
  ·rw[List.filter_cons_of_neg (by rw[hf];exact h),ih,bS]
   by_cases hr:x.aa=r
   ·subst hr;rw[if_neg h,if_neg h]
   ·rw[if_neg hr];split<;>omega
theorem lq(r:Rec):∀a b:List Item,bS (a++b) r=bS a r+bS b r
 |[],b=>by simp[bS]
 |x::a,b=>by rw[List.cons_append,bS,bS,lq r a b];omega
theorem B2{t:Int}{r:Rec}(h:r.at_<=t)(l:List Item):bS (bA t l) r=bS l r:=by
 rw[bA,fB _ (λr=>decide (r.at_<=t)) (λ_=>rfl)];simp[h]
theorem Qc{t:Int}{r:Rec}(h:¬r.at_<=t)(l:List Item):bS (bA t l) r=0:=by
 rw[bA,fB _ (λr=>decide (r.at_<=t)) (λ_=>rfl)];simp[h]
theorem sO.mK{t:Int}{a b:List Item}(h:bA t a=bA t b):sO t a b:=λr hr=>by rw[<-B2 hr,h,B2 hr]
theorem sO.symm{t:Int}{a b:List Item}(h:sO t a b):sO t b a:=λr hr=>(h r hr).symm
theorem sO.summed{t:Int}{a b:List Item}(h:sO t a b):b6 a t=b6 b t:=Ce λr=>by
 rw[fB _ (λr=>decide (0<=r.at_/\r.at_<=t)) (λ_=>rfl),fB _ (λr=>decide (0<=r.at_/\r.at_<=t)) (λ_=>rfl)]
 split
 ·rename_i q;exact h r (of_decide_eq_true q).2
 ·rfl
theorem pG.cut{l:List Item}(h:pG l)(t:Int):pG (bA t l):=h.filter _
theorem ow.cut{l:List Item}(h:ow l)(t:Int):ow (bA t l):=h.filter _
theorem xP(l:List Item)(t:Int):pG (b6 l t):=pn _
theorem rj(l:List Item){t T:Int}(h:t<=T):bA t (b6 l T)=b6 l t:=by
 refine wA ((xP l T).cut t) (λx hx=>(jJ.1 (List.mem_filter.1 hx).1).1) λr=>?_
 rw[fB _ (λr=>decide (0<=r.at_/\r.at_<=t)) (λ_=>rfl)]
 by_cases hr:r.at_<=t
 ·rw[B2 hr,b6,Cf,fB _ (λr=>decide (0<=r.at_/\r.at_<=T)) (λ_=>rfl)]
  have h2:r.at_<=T:=by omega
  simp[hr,h2]
 ·rw[Qc hr];simp[hr]
theorem Li{l:List Item}{t:Int}{x:Item}(h:x∈b6 l t):0<=x.aa.at_/\x.aa.at_<=t:=by
 have h1:=jJ.1 h;obtain⟨y,hy,e⟩:=sD (r:=x.aa) (l:=l.filter λx=>decide (0<=x.aa.at_/\x.aa.at_<=t)) (by rw[<-h1.2];exact h1.1)
 have:=of_decide_eq_true (List.mem_filter.1 hy).2;rw[e]at this;exact this
theorem PV{b:cg}(h:gZ b=true)(t:Int):gZ (bA t b)=true:=by
 simp only[gZ,Bool.and_eq_true,decide_eq_true_eq,List.all_eq_true]at h|-;exact⟨Nat.le_trans (List.length_filter_le _ _) h.1,λx hx=>h.2 x (List.mem_filter.1 hx).1⟩
theorem iT{l:List Item}{t T:Int}(h:t<=T):bA t (bA T l)=bA t l:=by
 rw[bA,bA,bA,List.filter_filter];refine List.filter_congr λx _=>?_
 by_cases q:x.aa.at_<=t
 ·have:x.aa.at_<=T:=by omega
  simp[q,this]
 ·simp[q]
theorem zI(t:Int)(a b:List Item):bA t (a++b)=bA t a++bA t b:=List.filter_append _ _
def dN(b:List Item)(k low high:Int):List Item:=b.filter λx=>decide (x.aa.key=k/\low<=x.aa.at_/\x.aa.at_<=high)
theorem tN{low high:Int}:∀{l:List Item},ow l->bP low high l=l.filter λx=>decide (low<=x.aa.at_/\x.aa.at_<=high)
 |[],_=>rfl
 |x::l,h=>by
  have h':=List.pairwise_cons.1 h;have ih:=tN (low:=low) (high:=high) h'.2;by_cases h1:x.aa.at_<low
  ·have e1:bP low high (x::l)=bP low high l:=by
    unfold bP mT;rw[List.dropWhile_cons_of_pos (by simpa using h1)]
   rw[e1,ih,List.filter_cons_of_neg (by simp;omega)]
  ·have e1:mT low (x::l)=x::l:=by
    unfold mT;rw[List.dropWhile_cons_of_neg (by simpa using h1)]
   have e2:mT low l=l:=by
    cases l with
    |nil=>rfl
    |cons y l=>
     unfold mT;have:=h'.1 y (by simp)
     rw[List.dropWhile_cons_of_neg (by simp;omega)]
   have e3:bP low high l=l.takeWhile λx=>decide (x.aa.at_<=high):=by unfold bP;rw[e2]
   unfold bP;rw[e1];by_cases h2:x.aa.at_<=high
   ·rw[List.takeWhile_cons_of_pos (by simpa using h2),<-e3,ih,List.filter_cons_of_pos (by simp;omega)]
   ·rw[List.takeWhile_cons_of_neg (by simpa using h2),List.filter_eq_nil_iff.2]
    intro y hy;rcases List.mem_cons.1 hy with q|q
    ·subst q;simp;omega
    ·have:=h'.1 y q;simp;omega
theorem iW{b:List Item}(hb:ow b)(k low high:Int):bP low high (rowOf k b)=dN b k low high:=by
 have hr:ow (rowOf k b):=hb.filter _;rw[tN hr,rowOf,List.filter_filter,dN];refine List.filter_congr λx _=>?_
 by_cases q:x.aa.key=k<;>simp[q]
theorem qU{b:List Item}{k low high t:Int}(h:high<=t):dN (bA t b) k low high=dN b k low high:=by
 rw[dN,bA,List.filter_filter,dN];refine List.filter_congr λx _=>?_
 by_cases q:x.aa.at_<=high
 ·have:x.aa.at_<=t:=by omega
  simp[q,this]
 ·simp[q]
theorem Tq(b:List Item)(k low high t:Int):bA t (dN (bA t b) k low high)=bA t (dN b k low high):=by
 rw[dN,bA,bA,dN,List.filter_filter,List.filter_filter,bA,List.filter_filter];refine List.filter_congr λx _=>?_
 by_cases q:x.aa.at_<=t<;>simp[q]
theorem mA{b:List Item}{k low high:Int}{x:Item}:x∈dN b k low high↔x∈b/\x.aa.key=k/\low<=x.aa.at_/\x.aa.at_<=high:=by simp[dN]
theorem Qa(c:bh)(b:List Item)(t:Int):bA t (jr c b)=bA t (jr c (bA t b)):=by
 rw[bA,bA,bA,jr,jr,List.filter_filter,List.filter_filter,List.filter_filter];refine List.filter_congr λx _=>?_
 by_cases q:x.aa.at_<=t<;>simp[q]
theorem Ob{f:Item->Item}(hf:∀x,(f x).aa.at_=x.aa.at_)(b:List Item)(t:Int):bA t (b.map f)=(bA t b).map f:=by
 rw[bA,bA,List.filter_map]
 congr 1
 refine List.filter_congr λx _=>?_
 simp[hf]
theorem J6(k v:bh)(b:List Item)(t:Int):bA t (yL k v b)=yL k v (bA t b):=Ob (f:=λx=>⟨⟨x.aa.at_,eE x.aa 0 k,eE x.aa 0 v⟩,x.n⟩) (λ_=>rfl) b t
theorem J5(b:List Item)(t:Int):bA t (vJ b)=vJ (bA t b):=Ob (f:=λx=>⟨x.aa,1⟩) (λ_=>rfl) b t
theorem tA(n:Int)(b:List Item)(t:Int):bA t (dP n b)=dP n (bA (t-n) b):=by
 rw[bA,bA,dP,dP,List.filter_map]
 congr 1
 refine List.filter_congr λx _=>?_
 simp only[Function.comp]
 congr 1
 exact propext ⟨λh=>by omega,λh=>by omega⟩
theorem BN{F G:Item->List Item}{t:Int}(h1:∀x,∀y∈F x,x.aa.at_<=y.aa.at_)(h2:∀x,x.aa.at_<=t->bA t (F x)=bA t (G x)):∀a:List Item,bA t (a.flatMap F)=bA t ((bA t a).flatMap G)
 |[]=>rfl
 |x::a=>by
  have ih:=BN h1 h2 a;rw[List.flatMap_cons,zI,ih];by_cases q:x.aa.at_<=t
  ·have e:bA t (x::a)=x::bA t a:=List.filter_cons_of_pos (by simpa using q)
   rw[e,List.flatMap_cons,zI,h2 x q]
  ·have e:bA t (x::a)=bA t a:=List.filter_cons_of_neg (by simpa using q)
   have e2:bA t (F x)=[]:=List.filter_eq_nil_iff.2 λy hy=>by
    have:=h1 x y hy;simp;omega
   rw[e,e2,List.nil_append]
def jA(n:Int)(c:bh)(b:List Item)(x:Item):List Item:=(dN b x.aa.key (x.aa.at_-n) (x.aa.at_+n)).map (fL c x)
def wB(c:bh)(b:List Item)(x:Item):List Item:=match(dN b x.aa.key 0 x.aa.at_).getLast? with
 |none=>[]
 |some y=>[⟨⟨x.aa.at_,x.aa.key,eE x.aa y.aa.val c⟩,x.n⟩]
theorem zk{b:List Item}(hb:ow b)(n:Int)(c:bh)(a:List Item):kU n c a b=a.flatMap (jA n c b):=by
 unfold kU
 congr 1
 funext x
 rw[iW hb,jA]
theorem zK{b:List Item}(hb:ow b)(c:bh)(a:List Item):jL c a b=a.flatMap (wB c b):=by
 unfold jL
 congr 1
 funext x
 rw[iW hb];unfold wB;cases(dN b x.aa.key 0 x.aa.at_).getLast? <;>rfl
theorem V4{x y t:Int}(h:x<=t):kj x y<=t↔y<=t:=by unfold kj;split<;>constructor<;>intro h2<;>omega
theorem V5(x y:Int):x<=kj x y:=by unfold kj;split<;>omega
theorem Qb(n:Int)(c:bh)(b:List Item){x:Item}{t:Int}(h:x.aa.at_<=t):bA t (jA n c b x)=bA t (jA n c (bA t b) x):=by
 have e:∀l:List Item,bA t (l.map (fL c x))=(bA t l).map (fL c x):=λl=>by
  rw[bA,bA,List.filter_map]
  congr 1
  refine List.filter_congr λy _=>?_
  simp only[Function.comp,fL]
  congr 1
  exact propext (V4 h)
 rw[jA,jA,e,e,Tq]
theorem Tr{b:List Item}(hb:ow b)(n:Int)(c:bh)(a:List Item)(t:Int):bA t (kU n c a b)=bA t (kU n c (bA t a) (bA t b)):=by
 rw[zk hb,zk (hb.cut t)];refine BN (λx y hy=>?_) (λx q=>Qb n c b q) a
 obtain⟨z,_,rfl⟩:=List.mem_map.1 hy;exact V5 _ _
theorem Ts{b:List Item}(hb:ow b)(c:bh)(a:List Item)(t:Int):bA t (jL c a b)=bA t (jL c (bA t a) (bA t b)):=by
 rw[zK hb,zK (hb.cut t)];refine BN (λx y hy=>?_) (λx q=>by rw[wB,wB,qU q]) a
 unfold wB at hy
 split at hy
 ·cases hy
 ·rw[List.mem_singleton.1 hy];exact Int.le_refl _
def Xm(n:Int)(P:Prop):Prop:=(P->n=1)/\(¬P->n=0)
theorem Xm.congr{n:Int}{P Q:Prop}(h:Xm n P)(e:P↔Q):Xm n Q:=⟨λq=>h.1 (e.2 q),λq=>h.2 λp=>q (e.1 p)⟩
theorem Xm.eq{n m:Int}{P Q:Prop}(h:Xm n P)(k:Xm m Q)(e:P↔Q):n=m:=by
 by_cases p:P
 ·rw[h.1 p,k.1 (e.1 p)]
 ·rw[h.2 p,k.2 λq=>p (e.2 q)]
theorem nF{f more k:Int}{sp:Int->Option (Int×Int)}{row:List Item}(r:Rec):∀(l:List Item) (last:Int),(∀x∈l,∀lo hi,sp x.aa.at_=some (lo,hi)->last<=hi)->
  (l.Pairwise λx y=>∀l1 h1 l2 h2,sp x.aa.at_=some (l1,h1)->sp y.aa.at_=some (l2,h2)->h1<=h2/\(h1=h2->l1=l2))->
  Xm (bS (eu f more k sp row l last) r) (∃x∈l,∃lo hi,sp x.aa.at_=some (lo,hi)/\hi≠last/\r=⟨hi+more,k,foldI f (bP lo hi row)⟩)
 |[],last,_,_=>⟨λ⟨x,h,_⟩=>absurd h List.not_mem_nil,λ_=>rfl⟩
 |x::l,last,h1,h2=>by
  have hp:=List.pairwise_cons.1 h2;rw[eu];cases hs:sp x.aa.at_ with
  |none=>
   simp only;refine(nF r l last (λy hy=>h1 y (List.mem_cons_of_mem _ hy)) hp.2).congr ⟨?_,?_⟩
   ·rintro⟨y,hy,q⟩;exact⟨y,List.mem_cons_of_mem _ hy,q⟩
   ·rintro⟨y,hy,lo,hi,q,q2⟩;rcases List.mem_cons.1 hy with e|e
    ·subst e;rw[hs]at q;cases q
    ·exact⟨y,e,lo,hi,q,q2⟩
  |some v=>
   obtain⟨lo,hi⟩:=v;simp only
   split
   ·rename_i e;refine(nF r l last (λy hy=>h1 y (List.mem_cons_of_mem _ hy)) hp.2).congr ⟨?_,?_⟩
    ·rintro⟨y,hy,q⟩;exact⟨y,List.mem_cons_of_mem _ hy,q⟩
    ·rintro⟨y,hy,lo',hi',q,q2,q3⟩;rcases List.mem_cons.1 hy with e'|e'
     ·subst e';rw[hs]at q;cases q;exact absurd e q2
     ·exact⟨y,e',lo',hi',q,q2,q3⟩
   ·rename_i e;have hlt:last<=hi:=h1 x (by simp) lo hi hs
    have ih:=nF (f:=f) (more:=more) (k:=k) (row:=row) r l hi (λy hy lo' hi' q=>(hp.1 y hy _ _ _ _ hs q).1) hp.2
    have hc:∀(z:Rec) (L:List Item),bS (⟨z,1⟩::L) r=(if z=r then 1 else 0)+bS L r:=λ_ _=>rfl
    rw[hc];by_cases hr:(⟨hi+more,k,foldI f (bP lo hi row)⟩:Rec)=r
    ·have hno:¬∃y∈l,∃lo' hi',sp y.aa.at_=some (lo',hi')/\hi'≠hi/\r=⟨hi'+more,k,foldI f (bP lo' hi' row)⟩:=by
      rintro⟨y,hy,lo',hi',q1,q2,q3⟩;rw[q3]at hr;have:=congrArg Rec.at_ hr;simp only at this;exact q2 (by omega)
     refine⟨λ_=>by rw[if_pos hr,ih.2 hno];rfl,λhn=>absurd ⟨x,by simp,lo,hi,hs,e,hr.symm⟩ hn⟩
    ·rw[if_neg hr,Int.zero_add];refine ih.congr ⟨?_,?_⟩
     ·rintro⟨y,hy,lo',hi',q1,q2,q3⟩;refine⟨y,List.mem_cons_of_mem _ hy,lo',hi',q1,?_,q3⟩;have:=(hp.1 y hy _ _ _ _ hs q1).1;omega
     ·rintro⟨y,hy,lo',hi',q1,q2,q3⟩;rcases List.mem_cons.1 hy with e'|e'
      ·subst e';rw[hs]at q1;cases q1;exact absurd q3.symm hr
      ·refine⟨y,e',lo',hi',q1,λe2=>?_,q3⟩
       have:=(hp.1 y e' _ _ _ _ hs q1).2 e2.symm;subst e2;subst this;exact hr q3.symm
theorem nE{f more k:Int}{sp:Int->Option (Int×Int)}{row:List Item}:∀(l:List Item) (last:Int),∀x∈eu f more k sp row l last,x.aa.key=k
 |[],_,x,h=>absurd h List.not_mem_nil
 |y::l,last,x,h=>by
  rw[eu]at h
  split at h
  ·exact nE l last x h
  ·split at h
   ·exact nE l last x h
   ·rcases List.mem_cons.1 h with q|q
    ·rw[q]
    ·exact nE l _ x q
theorem yH{F:Int->List Item}(hF:∀k,∀x∈F k,x.aa.key=k)(r:Rec):∀ks:List Int,ks.Nodup->bS (ks.flatMap F) r=if r.key∈ks then bS (F r.key) r else 0
 |[],_=>rfl
 |k::ks,h=>by
  have h':=List.nodup_cons.1 h;rw[List.flatMap_cons,lq,yH hF r ks h'.2];by_cases e:k=r.key
  ·subst e;rw[if_neg h'.1,if_pos (List.mem_cons_self ..)];omega
  ·rw[o9 (l:=F k) λx hx q=>e (by rw[<-hF k x hx,q])]
   have:r.key∈k::ks↔r.key∈ks:=by
    rw[List.mem_cons];exact⟨λq=>q.resolve_left λq=>e q.symm,.inr⟩
   by_cases q:r.key∈ks
   ·rw[if_pos q,if_pos (this.2 q)];omega
   ·rw[if_neg q,if_neg λw=>q (this.1 w)];rfl
def ja(f more:Int)(spb:List Item->Int->Int->Option (Int×Int))(b:List Item)(x:Item):Option Rec:=match spb b x.aa.key x.aa.at_ with
 |none=>none
 |some (lo,hi)=>some ⟨hi+more,x.aa.key,foldI f (dN b x.aa.key lo hi)⟩
theorem ku{f more:Int}{spb:List Item->Int->Int->Option (Int×Int)}{b:List Item}{x:Item}{r:Rec}:ja f more spb b x=some r↔∃lo hi,spb b x.aa.key x.aa.at_=some (lo,hi)/\r=⟨hi+more,x.aa.key,foldI f (dN b x.aa.key lo hi)⟩:=by
 unfold ja;cases spb b x.aa.key x.aa.at_ with
 |none=>simp
 |some v=>
  obtain⟨lo,hi⟩:=v;simp only[Option.some.injEq,Prod.mk.injEq];constructor
  ·intro h;exact⟨lo,hi,⟨rfl,rfl⟩,h.symm⟩
  ·rintro⟨lo',hi',⟨rfl,rfl⟩,h⟩;exact h.symm
structure M6(sp:List Item->Int->Option (Int×Int))(spb:List Item->Int->Int->Option (Int×Int))(more:Int):Prop where
 row:∀{b:List Item},ow b->∀k t,sp (rowOf k b) t=spb b k t
 mono:∀{b:List Item} {k t1 t2 l1 h1 l2 h2:Int},0<=t1->t1<=t2->spb b k t1=some (l1,h1)->spb b k t2=some (l2,h2)->h1<=h2/\(h1=h2->l1=l2)
 ge:∀{b:List Item} {k t lo hi:Int},0<=t->spb b k t=some (lo,hi)->t<=hi
 cut:∀{b:List Item} {T k t lo hi:Int},hi+more<=T->(spb b k t=some (lo,hi)↔spb (bA T b) k t=some (lo,hi))
 more:0<=more
theorem mh{f more:Int}{sp:List Item->Int->Option (Int×Int)}{spb:List Item->Int->Int->Option (Int×Int)}(hs:M6 sp spb more){b:List Item}(hb:ow b)(h0:∀x∈b,0<=x.aa.at_)(r:Rec):
  Xm (bS (gf f more sp b) r) (∃x∈b,ja f more spb b x=some r):=by
 rw[gf,yH (F:=sU f more sp b) (λk x hx=>nE _ _ x hx) r _ (jE b)]
 have hrow:∀{k:Int} {x:Item},x∈rowOf k b->x∈b/\x.aa.key=k:=λh=>pP h
 by_cases hk:r.key∈bg b
 ·rw[if_pos hk];have PI:ow (rowOf r.key b):=hb.filter _;refine(nF r (rowOf r.key b) (-1) (λx hx lo hi q=>?_) ?_).congr ⟨?_,?_⟩
  ·rw[hs.row hb]at q;have h1:=h0 x (hrow hx).1;have:=hs.ge h1 q;omega
  ·refine PI.imp_of_mem λ{x y} hx hy hxy l1 h1 l2 h2 q1 q2=>?_
   rw[hs.row hb]at q1 q2;exact hs.mono (h0 x (hrow hx).1) hxy q1 q2
  ·rintro⟨x,hx,lo,hi,q1,q2,q3⟩;obtain⟨NG,hxk⟩:=hrow hx;rw[hs.row hb]at q1;rw[iW hb]at q3;exact⟨x,NG,ku.2 ⟨lo,hi,by rw[hxk];exact q1,by rw[hxk];exact q3⟩⟩
  ·rintro⟨x,hx,q⟩;obtain⟨lo,hi,q1,q3⟩:=ku.1 q;have hxk:x.aa.key=r.key:=by rw[q3]
   have hge:=hs.ge (h0 x hx) q1;have:=h0 x hx;refine⟨x,by simp[rowOf,hx,hxk],lo,hi,by rw[hs.row hb,<-hxk];exact q1,by omega,?_⟩
   rw[iW hb,<-hxk];exact q3
 ·rw[if_neg hk];refine⟨?_,λ_=>rfl⟩
  rintro⟨x,hx,q⟩;obtain⟨lo,hi,q1,q3⟩:=ku.1 q;exact absurd (mP.2 ⟨x,hx,by rw[q3]⟩) hk
theorem SU{f more:Int}{sp:List Item->Int->Option (Int×Int)}{spb:List Item->Int->Int->Option (Int×Int)}(hs:M6 sp spb more){b:List Item}(h0:∀x∈b,0<=x.aa.at_){r:Rec}{t:Int}(hr:r.at_<=t):
  (∃x∈b,ja f more spb b x=some r)↔∃x∈bA t b,ja f more spb (bA t b) x=some r:=by
 have hm:=hs.more;constructor
 ·rintro⟨x,hx,q⟩;obtain⟨lo,hi,q1,q3⟩:=ku.1 q;have hhi:hi+more<=t:=by rw[q3]at hr;exact hr
  have hge:=hs.ge (h0 x hx) q1;refine⟨x,List.mem_filter.2 ⟨hx,by simp;omega⟩,ku.2 ⟨lo,hi,(hs.cut hhi).1 q1,?_⟩⟩
  rw[qU (by omega)];exact q3
 ·rintro⟨x,hx,q⟩;obtain⟨lo,hi,q1,q3⟩:=ku.1 q;have hhi:hi+more<=t:=by rw[q3]at hr;exact hr
  refine⟨x,(List.mem_filter.1 hx).1,ku.2 ⟨lo,hi,(hs.cut hhi).2 q1,?_⟩⟩;rw[qU (by omega)]at q3;exact q3
theorem pL{f more:Int}{sp:List Item->Int->Option (Int×Int)}{spb:List Item->Int->Int->Option (Int×Int)}(hs:M6 sp spb more){b:List Item}(hb:ow b)(h0:∀x∈b,0<=x.aa.at_)(t:Int):
  sO t (gf f more sp b) (gf f more sp (bA t b)):=λr hr=>
 (mh hs hb h0 r).eq (mh hs (hb.cut t) (λx hx=>h0 x (List.mem_filter.1 hx).1) r) (SU hs h0 hr)
def xw(n:Int)(_:List Item)(_ t:Int):Option (Int×Int):=some (t.tdiv n*n,t.tdiv n*n+n-1)
def wM(n:Int)(_:List Item)(_ t:Int):Option (Int×Int):=some (t-n,t)
def wK(_:List Item)(_ t:Int):Option (Int×Int):=some (0,t)
def wY(n:Int)(b:List Item)(k:Int):Nat->Int->Int
 |0,low=>low
 |j+1,low=>match dN b k (low-n) (low-1)with
  |[]=>low
  |x::_=>wY n b k j x.aa.at_
def iK(n:Int)(b:List Item)(k t:Int):Option (Int×Int):=match dN b k (t+1) (t+n)with
 |[]=>some (wY n b k 201 t,t)
 |_=>none
theorem I3{n:Int}{b:List Item}(hb:ow b)(k:Int):∀(j:Nat) (low:Int),y8 n (rowOf k b) j low=wY n b k j low
 |0,low=>rfl
 |j+1,low=>by
  rw[y8,wY,iW hb];cases dN b k (low-n) (low-1)with
  |nil=>rfl
  |cons x l=>exact I3 hb k j _
theorem I4{n:Int}{b:List Item}{k t:Int}:∀(j:Nat) (low:Int),low<=t->wY n (bA t b) k j low=wY n b k j low
 |0,low,_=>rfl
 |j+1,low,h=>by
  rw[wY,wY,qU (by omega)]
  split
  ·rfl
  ·rename_i x l e;have hx:x∈dN b k (low-n) (low-1):=by rw[e];exact List.mem_cons_self ..
   have:=(mA.1 hx).2.2.2;exact I4 j _ (by omega)
theorem JJ{n:Int}(hn:1<=n):M6 (sr n) (xw n) 0 where
 row:=λ_ _ _=>rfl
 mono:=λ{b k t1 t2 l1 h1 l2 h2} h0 h12 q1 q2=>by
  simp only[xw,Option.some.injEq,Prod.mk.injEq]at q1 q2;rw[Int.tdiv_eq_ediv_of_nonneg h0]at q1;rw[Int.tdiv_eq_ediv_of_nonneg (Int.le_trans h0 h12)]at q2;have h3:=Int.mul_le_mul_of_nonneg_right (Int.ediv_le_ediv (show 0<n by omega) h12) (show 0<=n by omega)
  constructor<;>omega
 ge:=λ{b k t lo hi} h0 q=>by
  simp only[xw,Option.some.injEq,Prod.mk.injEq]at q;rw[Int.tdiv_eq_ediv_of_nonneg h0]at q;have:=Int.lt_ediv_add_one_mul_self t (show 0<n by omega)
  rw[Int.add_mul,Int.one_mul]at this;omega
 cut:=λ_=>Iff.rfl
 more:=Int.le_refl _
theorem HD{n:Int}:M6 (pM n) (wM n) 0 where
 row:=λ_ _ _=>rfl
 mono:=λ{b k t1 t2 l1 h1 l2 h2} h0 h12 q1 q2=>by
  simp only[wM,Option.some.injEq,Prod.mk.injEq]at q1 q2;constructor<;>omega
 ge:=λ{b k t lo hi} h0 q=>by
  simp only[wM,Option.some.injEq,Prod.mk.injEq]at q;omega
 cut:=λ_=>Iff.rfl
 more:=Int.le_refl _
theorem Hj:M6 uv wK 0 where
 row:=λ_ _ _=>rfl
 mono:=λ{b k t1 t2 l1 h1 l2 h2} h0 h12 q1 q2=>by
  simp only[wK,Option.some.injEq,Prod.mk.injEq]at q1 q2;constructor<;>omega
 ge:=λ{b k t lo hi} h0 q=>by
  simp only[wK,Option.some.injEq,Prod.mk.injEq]at q;omega
 cut:=λ_=>Iff.rfl
 more:=Int.le_refl _
theorem rC{n:Int}{b:List Item}{k t lo hi:Int}(h:iK n b k t=some (lo,hi)):hi=t/\lo=wY n b k 201 t:=by
 unfold iK at h
 split at h
 ·cases h;exact⟨rfl,rfl⟩
 ·cases h
theorem Np{n:Int}(hn:0<=n):M6 (qz n) (iK n) n where
 row:=λ{b} hb k t=>by
  rw[qz,iK,iW hb,I3 hb];cases dN b k (t+1) (t+n)<;>rfl
 mono:=λ{b k t1 t2 l1 h1 l2 h2} h0 h12 q1 q2=>by
  have e1:=rC q1;have e2:=rC q2;refine⟨by omega,λe=>?_⟩
  have:t1=t2:=by omega
  subst this;rw[e1.2,e2.2]
 ge:=λ{b k t lo hi} h0 q=>by have:=rC q;omega
 cut:=λ{b T k t lo hi} h=>by
  have key:t+n<=T->iK n (bA T b) k t=iK n b k t:=λq=>by
   rw[iK,iK,qU q,I4 _ _ (by omega)]
  constructor
  ·intro q;have:=rC q;rw[key (by omega)];exact q
  ·intro q;have:=rC q;rw[<-key (by omega)];exact q
 more:=hn
def jP(b:List Item):Prop:=pG b/\∀x∈b,0<=x.aa.at_
theorem jP.nil:jP []:=⟨.nil,λ_ h=>absurd h List.not_mem_nil⟩
theorem jP.summed(l:List Item)(t:Int):jP (b6 l t):=⟨xP l t,λx hx=>(Li hx).1⟩
def sP(op n:Int):Prop:=(op≠14)/\(op=7->0<=n)/\(op=8->1<=n)/\(op=11->0<=n)
theorem TR{p:Prog}{W:bZ}{op:Int}{name:cq}{n f:Int}{cs:List bh}{ks:List cg}{t:Int}(hop:4<=op)(hb:sP op n)(hk:∀i,jP (ks.getD i []))(ks':List cg)(hk':∀i,ks'.getD i []=bA t (ks.getD i []))(W':bZ):
  sO t (gu p W op name n f cs ks) (gu p W' op name n f cs ks'):=by
 obtain⟨b1,b2,b3,b4⟩:=hb;have k0:=hk 0;have k1:=hk 1;have t0:=th k0.1;have t1:=th k1.1;unfold gu;simp only[hk'];have n1:¬op=1:=by omega
 have n2:¬op=2:=by omega
 have n3:¬op=3:=by omega
 rw[if_neg n1,if_neg n1,if_neg n2,if_neg n2,if_neg n3,if_neg n3];by_cases h4:op=4
 ·rw[if_pos h4,if_pos h4];exact .mK (by rw[zI,zI,iT (Int.le_refl _),iT (Int.le_refl _)])
 rw[if_neg h4,if_neg h4];by_cases h5:op=5
 ·rw[if_pos h5,if_pos h5];exact .mK (Qa _ _ _)
 rw[if_neg h5,if_neg h5];by_cases h6:op=6
 ·rw[if_pos h6,if_pos h6];exact .mK (by rw[J6,J6,iT (Int.le_refl _)])
 rw[if_neg h6,if_neg h6];by_cases h7:op=7
 ·rw[if_pos h7,if_pos h7];have:=b2 h7;exact .mK (by rw[tA,tA,iT (by omega)])
 rw[if_neg h7,if_neg h7];by_cases h8:op=8
 ·rw[if_pos h8,if_pos h8];exact pL (JJ (b3 h8)) t0 k0.2 t
 rw[if_neg h8,if_neg h8];by_cases h9:op=9
 ·rw[if_pos h9,if_pos h9];exact pL HD t0 k0.2 t
 rw[if_neg h9,if_neg h9];by_cases h10:op=10
 ·rw[if_pos h10,if_pos h10];exact pL Hj t0 k0.2 t
 rw[if_neg h10,if_neg h10];by_cases h11:op=11
 ·rw[if_pos h11,if_pos h11];exact pL (Np (b4 h11)) t0 k0.2 t
 rw[if_neg h11,if_neg h11];by_cases h12:op=12
 ·rw[if_pos h12,if_pos h12];exact .mK (Tr t1 _ _ _ _)
 rw[if_neg h12,if_neg h12];by_cases h13:op=13
 ·rw[if_pos h13,if_pos h13];exact .mK (Ts t1 _ _ _)
 rw[if_neg h13,if_neg h13,if_neg b1,if_neg b1];exact .mK (by rw[J5,J5,iT (Int.le_refl _)])
structure vc(p:Prog)(t:Int)(W W':bZ)(e:bz):Prop where
 src:e.op=1->bA t (W.az.getD (idx p.az e.name).toNat [])=bA t (W'.az.getD (idx p.az e.name).toNat [])
 ref:e.op=2->bA t (W.ai.getD (idx (an p) e.name).toNat [])=bA t (W'.ai.getD (idx (an p) e.name).toNat [])
 prev:e.op=3->bA (t-e.n) (W.ai.getD (idx (an p) e.name).toNat [])=bA (t-e.n) (W'.ai.getD (idx (an p) e.name).toNat [])
theorem Gi(t:Int)(ks:List cg)(i:Nat):(ks.map (bA t)).getD i []=bA t (ks.getD i []):=by
 rw[List.getD_eq_getElem?_getD,List.getD_eq_getElem?_getD,List.getElem?_map];cases ks[i]? <;>rfl
theorem zx{ks:List cg}(h:∀b∈ks,jP b)(i:Nat):jP (ks.getD i []):=by
 rw[List.getD_eq_getElem?_getD];cases q:ks[i]? with
 |none=>exact .nil
 |some b=>exact h b (List.mem_of_getElem? q)
theorem RT{p:Prog}{W W':bZ}{op:Int}{name:cq}{n f:Int}{cs:List bh}{kids:List bz}{t:Int}(hop:1<=op)(hb:sP op n)(hs:vc p t W W' (.mk op name n f cs kids)){ks:List cg}(hk:∀b∈ks,jP b):
  sO t (gu p W op name n f cs ks) (gu p W' op name n f cs (ks.map (bA t))):=by
 by_cases h4:4<=op
 ·exact TR h4 hb (zx hk) _ (Gi t ks) W'
 ·by_cases h1:op=1
  ·subst h1;exact .mK (hs.src rfl)
  ·by_cases h2:op=2
   ·subst h2;exact .mK (hs.ref rfl)
   ·have h3:op=3:=by omega
    subst h3;refine .mK ?_
    show bA t (dP n _)=bA t (dP n _)
    rw[tA,tA];exact congrArg _ (hs.prev rfl)
mutual
theorem iM{p:Prog}{W W':bZ}{t T:Int}(ht:t<=T):∀(e:bz),(∀x∈bc e,1<=x.op/\sP x.op x.n/\vc p t W W' x)->∀b,cZ p W T e=some b->cZ p W' t e=some (bA t b)/\jP b
 |.mk op name n f cs kids,hx,b,h=>by
  obtain⟨h1,h2,h3⟩:=hx (.mk op name n f cs kids) (by rw[bc];exact List.mem_cons_self ..)
  rw[cZ]at h
  split at h
  ·cases h
  ·rename_i ks hks;obtain⟨q1,q2⟩:=Ey ht kids (λx hx'=>hx x (by rw[bc];exact List.mem_cons_of_mem _ hx')) ks hks
   split at h
   ·rename_i hf;cases h;refine⟨?_,jP.summed _ _⟩;rw[cZ,q1];simp only;have e:b6 (gu p W' op name n f cs (ks.map (bA t))) t=bA t (b6 (gu p W op name n f cs ks) T):=by
     rw[rj _ ht];exact(RT h1 h2 h3 q2).symm.summed
    rw[e,if_pos (PV hf t)]
   ·cases h
theorem Ey{p:Prog}{W W':bZ}{t T:Int}(ht:t<=T):∀(es:List bz),(∀x∈bn es,1<=x.op/\sP x.op x.n/\vc p t W W' x)->∀ks,eC p W T es=some ks->eC p W' t es=some (ks.map (bA t))/\∀b∈ks,jP b
 |[],_,ks,h=>by
  rw[eC]at h;cases h;exact⟨by rw[eC];rfl,λ_ h=>absurd h List.not_mem_nil⟩
 |e::es,hx,ks,h=>by
  rw[eC]at h
  split at h
  ·cases h
  ·rename_i b hb
   split at h
   ·cases h
   ·rename_i bs v8;cases h;obtain⟨q1,q2⟩:=iM ht e (λx hx'=>hx x (by rw[bn];exact List.mem_append_left _ hx')) b hb
    obtain⟨q3,q4⟩:=Ey ht es (λx hx'=>hx x (by rw[bn];exact List.mem_append_right _ hx')) bs v8
    refine⟨by rw[eC,q1];simp only;rw[q3];rfl,λb' hb'=>?_⟩
    rcases List.mem_cons.1 hb' with e|e
    ·rw[e];exact q2
    ·exact q4 b' e
end
abbrev cQ(p:Prog)(d:Nat):bz:=(p.ai.getD d default).exp
abbrev bq(l:List cg)(d:Nat):cg:=l.getD d []
theorem tv{p:Prog}{W:bZ}{T:Int}{e:bz}(he:∀x∈bc e,1<=x.op/\sP x.op x.n){b:cg}(h:cZ p W T e=some b):bA T b=b/\jP b:=by
 obtain⟨q1,q2⟩:=iM (W':=W) (Int.le_refl T) e (λx hx=>⟨(he x hx).1,(he x hx).2,⟨λ_=>rfl,λ_=>rfl,λ_=>rfl⟩⟩) b h
 rw[h]at q1;exact⟨(Option.some.inj q1).symm,q2⟩
structure Cz(p:Prog)(g:List Nat)(far:Int):Prop where
 inc:g.Pairwise (·<·)
 back:∀d∈g,∀x∈bc (cQ p d),1<=x.op/\sP x.op x.n
 ref:∀d∈g,∀x∈bc (cQ p d),x.op=2->(idx (an p) x.name).toNat∈g->(idx (an p) x.name).toNat<d
 prev:∀d∈g,∀x∈bc (cQ p d),x.op=3->(idx (an p) x.name).toNat∈g->far<=x.n
 pos:1<=far
theorem Cz.one{p:Prog}{g:List Nat}{far:Int}(h:Cz p g far):Cz p g 1:=⟨h.inc,h.back,h.ref,λd hd x hx h3 hi=>by have:=h.prev d hd x hx h3 hi;have:=h.pos;omega,Int.le_refl _⟩
theorem Cz.nodup{p:Prog}{g:List Nat}{far:Int}(h:Cz p g far):g.Nodup:=h.inc.imp λq=>Nat.ne_of_lt q
def Co(p:Prog)(az:List cg)(g:List Nat)(T:Int)(u:List cg):Prop:=∀d∈g,cZ p ⟨az,u⟩ T (cQ p d)=some (bq u d)
def Out(g:List Nat)(u v:List cg):Prop:=u.length=v.length/\∀k,k∉g->bq u k=bq v k
theorem Out.symm{g:List Nat}{u v:List cg}(h:Out g u v):Out g v u:=⟨h.1.symm,λk hk=>(h.2 k hk).symm⟩
theorem Out.trans{g:List Nat}{u v w:List cg}(h:Out g u v)(k:Out g v w):Out g u w:=⟨h.1.trans k.1,λi hi=>(h.2 i hi).trans (k.2 i hi)⟩
theorem J7{b:List Item}(h:∀x∈b,0<=x.aa.at_){t:Int}(ht:t<0):bA t b=[]:=List.filter_eq_nil_iff.2 λx hx=>by
 have:=h x hx;simp;omega
section
variable {p:Prog} {az:List cg} {g:List Nat} {far:Int} (hg:Cz p g far)
include hg
theorem Co.self{T:Int}{u:List cg}(h:Co p az g T u){d:Nat}(hd:d∈g):bA T (bq u d)=bq u d/\jP (bq u d):=tv (hg.back d hd) (h d hd)
theorem Ll{T:Int}{u v:List cg}(hu:Co p az g T u)(hv:Co p az g T v)(ho:Out g u v):∀d∈g,bq u d=bq v d:=by
 have key:∀(N:Nat) (D:Nat),∀t:Int,t<N->t<=T->∀d∈g,d<D->bA t (bq u d)=bA t (bq v d):=by
  intro N
  induction N with
  |zero=>
   intro D t ht _ d hd _;rw[J7 (Co.self hg hu hd).2.2 (by omega),J7 (Co.self hg hv hd).2.2 (by omega)]
  |succ N ihN=>
   intro D
   induction D with
   |zero=>intro t _ _ d _ hd;omega
   |succ D ihD=>
    intro t ht hT d hd CH;have Ms:∀x∈bc (cQ p d),vc p t ⟨az,u⟩ ⟨az,v⟩ x:=λx hx=>by
     refine⟨λ_=>rfl,λh2=>?_,λh3=>?_⟩
     ·by_cases hk:(idx (an p) x.name).toNat∈g
      ·have:=hg.ref d hd x hx h2 hk;exact ihD t ht hT _ hk (by omega)
      ·exact congrArg _ (ho.2 _ hk)
     ·by_cases hk:(idx (an p) x.name).toNat∈g
      ·have:=hg.prev d hd x hx h3 hk;have:=hg.pos;exact ihN ((idx (an p) x.name).toNat+1) (t-x.n) (by omega) (by omega) _ hk (by omega)
      ·exact congrArg _ (ho.2 _ hk)
    have q1:=(iM (p:=p) (W:=⟨az,u⟩) (W':=⟨az,v⟩) hT (cQ p d) (λx hx=>⟨(hg.back d hd x hx).1,(hg.back d hd x hx).2,Ms x hx⟩) _ (hu d hd)).1
    have q2:=(iM (p:=p) (W:=⟨az,v⟩) (W':=⟨az,v⟩) hT (cQ p d) (λx hx=>⟨(hg.back d hd x hx).1,(hg.back d hd x hx).2,⟨λ_=>rfl,λ_=>rfl,λ_=>rfl⟩⟩) _ (hv d hd)).1
    rw[q1]at q2;exact Option.some.inj q2
 intro d hd;have:=key (T+1).toNat (d+1) T (by omega) (Int.le_refl _) d hd (by omega)
 rwa[(Co.self hg hu hd).1,(Co.self hg hv hd).1]at this
def J8(g:List Nat)(t:Int)(u:List cg):List cg:=(List.range u.length).map λk=>if k∈g then bA t (bq u k)else bq u k
omit hg in
theorem wo(t:Int)(u:List cg)(k:Nat):bq (J8 g t u) k=if k∈g then bA t (bq u k)else bq u k:=by
 unfold bq J8;rw[List.getD_eq_getElem?_getD,List.getElem?_map];by_cases h:k<u.length
 ·rw[List.getElem?_range h];rfl
 ·rw[List.getElem?_eq_none (by simpa using h)]
  have:u.getD k []=[]:=by rw[List.getD_eq_getElem?_getD,List.getElem?_eq_none (by omega)];rfl
  rw[this]
  split<;>rfl
omit hg in
theorem B1(t:Int)(u:List cg):Out g (J8 g t u) u:=⟨by simp[J8],λk hk=>by rw[wo,if_neg hk]⟩
theorem Fk{T T':Int}{u:List cg}(h:T<=T')(hu:Co p az g T' u):Co p az g T (J8 g T u):=λd hd=>by
 rw[wo,if_pos hd];refine(iM (p:=p) (W:=⟨az,u⟩) (W':=⟨az,J8 g T u⟩) h (cQ p d) (λx hx=>⟨(hg.back d hd x hx).1,(hg.back d hd x hx).2,λ_=>rfl,λh2=>?_,λh3=>?_⟩) _ (hu d hd)).1
 ·show bA T (bq u _)=bA T (bq (J8 g T u) _)
  rw[wo]
  split
  ·rw[iT (Int.le_refl _)]
  ·rfl
 ·show bA (T-x.n) (bq u _)=bA (T-x.n) (bq (J8 g T u) _)
  rw[wo]
  split
  ·rename_i hk;have:=hg.prev d hd x hx h3 hk;have:=hg.pos;rw[iT (by omega)]
  ·rfl
theorem Lm{T T':Int}{u v:List cg}(h:T<=T')(hu:Co p az g T' u)(hv:Co p az g T v)(ho:Out g u v){d:Nat}(hd:d∈g):bA T (bq u d)=bq v d:=by
 have:=Ll hg (Fk hg h hu) hv ((B1 T u).trans ho) d hd
 rwa[wo,if_pos hd]at this
omit hg in
theorem ff{l:List cg}{d:Nat}(hd:d<l.length)(b:cg)(k:Nat):bq (l.set d b) k=if k=d then b else bq l k:=by
 unfold bq;rw[List.getD_eq_getElem?_getD,List.getElem?_set,List.getD_eq_getElem?_getD];by_cases h:d=k
 ·subst h;rw[if_pos rfl,if_pos hd,if_pos rfl];rfl
 ·rw[if_neg h,if_neg λq=>h q.symm]
omit hg in
theorem wU{T:Int}:∀(g:List Nat) (ai D:List cg),fq p az T g ai=some D->g.Nodup->(∀d∈g,d<ai.length)->Out g D ai/\
  ∀pre d post,g=pre++d::post->∃E,(∀k∈pre,bq E k=bq D k)/\(∀k,k∉pre->bq E k=bq ai k)/\cZ p ⟨az,E⟩ T (cQ p d)=some (bq D d)
 |[],ai,D,h,_,_=>by
  rw[fq]at h;cases h;exact⟨⟨rfl,λ_ _=>rfl⟩,λpre d post q=>by cases pre<;>cases q⟩
 |d::g,ai,D,h,hn,hl=>by
  have hn':=List.nodup_cons.1 hn;rw[fq]at h
  split at h
  ·cases h
  ·rename_i defs1 h1;rw[tT]at h1
   split at h1
   ·cases h1
   ·rename_i b hb;have nr:=hl d (List.mem_cons_self ..);have e1:defs1=ai.set d b:=(Option.some.inj h1).symm;subst e1;obtain⟨⟨q0,q1⟩,q2⟩:=wU g _ D h hn'.2 (λk hk=>by rw[List.length_set];exact hl k (List.mem_cons_of_mem _ hk))
    have hDd:bq D d=b:=by rw[q1 d hn'.1,ff nr,if_pos rfl]
    refine⟨⟨by rw[q0,List.length_set],λk hk=>?_⟩,λpre d' post e=>?_⟩
    ·rw[q1 k λq=>hk (List.mem_cons_of_mem _ q),ff nr,if_neg λq=>hk (by rw[q];exact List.mem_cons_self ..)]
    ·cases pre with
     |nil=>
      simp only[List.nil_append,List.cons.injEq]at e;obtain⟨e1,e2⟩:=e;subst e1;exact⟨ai,λk hk=>absurd hk List.not_mem_nil,λ_ _=>rfl,by rw[hDd];exact hb⟩
     |cons c pre=>
      simp only[List.cons_append,List.cons.injEq]at e;obtain⟨e1,e2⟩:=e;subst e1;obtain⟨E,r1,r2,r3⟩:=q2 pre d' post e2;have hdp:d∉pre:=λq=>hn'.1 (by rw[e2];exact List.mem_append_left _ q)
      refine⟨E,λk hk=>?_,λk hk=>?_,r3⟩
      ·rcases List.mem_cons.1 hk with q|q
       ·subst q;rw[r2 k hdp,ff nr,if_pos rfl,hDd]
       ·exact r1 k q
      ·rw[r2 k λq=>hk (List.mem_cons_of_mem _ q),ff nr,if_neg λq=>hk (by rw[q];exact List.mem_cons_self ..)]
omit hg in
theorem NA{g pre post:List Nat}{d k:Nat}(hi:g.Pairwise (·<·))(e:g=pre++d::post)(hk:k∈g)(h:k<d):k∈pre:=by
 rw[e]at hk hi;rcases List.mem_append.1 hk with q|q
 ·exact q
 ·rcases List.mem_cons.1 q with q|q
  ·omega
  ·have:=(List.pairwise_cons.1 (List.pairwise_append.1 hi).2.1).1 k q;omega
theorem LH{T T':Int}{ai D:List cg}(hl:∀d∈g,d<ai.length)(hT:T<=T')(hf:T'<=T+far)(hs:Co p az g T ai)(h:fq p az T' g ai=some D):Co p az g T' D/\Out g D ai:=by
 obtain⟨ho,hsp⟩:=wU g ai D h hg.nodup hl
 --what was known stays
 have BF:∀(pre:List Nat) (post:List Nat),g=pre++post->∀k∈pre,bA T (bq D k)=bq ai k:=by
  refine iI ?_ λpre d ih=>?_
  ·intro _ _ k hk;exact absurd hk List.not_mem_nil
  ·intro post e k hk;have e':g=pre++d::post:=by rw[e];simp
   have ih':=ih (d::post) e';rcases List.mem_append.1 hk with q|q
   ·exact ih' k q
   ·have:=List.mem_singleton.1 q;subst this;have hkg:k∈g:=by rw[e'];simp
    obtain⟨E,r1,r2,r3⟩:=hsp pre k post e';have Ms:∀x∈bc (cQ p k),vc p T ⟨az,E⟩ ⟨az,ai⟩ x:=λx hx=>by
     have hall:∀t,t<=T->∀j,bA t (bq E j)=bA t (bq ai j):=λt ht j=>by
      by_cases hj:j∈pre
      ·rw[r1 j hj,<-ih' j hj,iT ht]
      ·rw[r2 j hj]
     refine⟨λ_=>rfl,λh2=>hall T (Int.le_refl _) _,λh3=>?_⟩
     by_cases hj:(idx (an p) x.name).toNat∈pre
     ·have:=hg.prev k hkg x hx h3 (by rw[e'];exact List.mem_append_left _ hj)
      have:=hg.pos;exact hall (T-x.n) (by omega) _
     ·exact congrArg _ (r2 _ hj)
    have q1:=(iM (p:=p) (W:=⟨az,E⟩) (W':=⟨az,ai⟩) hT (cQ p k) (λx hx=>⟨(hg.back k hkg x hx).1,(hg.back k hkg x hx).2,Ms x hx⟩) _ r3).1
    rw[hs k hkg]at q1;exact(Option.some.inj q1).symm
 refine⟨λd hd=>?_,ho⟩
 obtain⟨pre,post,e⟩:=List.append_of_mem hd;obtain⟨E,r1,r2,r3⟩:=hsp pre d post e;have Ms:∀x∈bc (cQ p d),vc p T' ⟨az,E⟩ ⟨az,D⟩ x:=λx hx=>by
  refine⟨λ_=>rfl,λh2=>?_,λh3=>?_⟩
  ·by_cases hk:(idx (an p) x.name).toNat∈g
   ·exact congrArg _ (r1 _ (NA hg.inc e hk (hg.ref d hd x hx h2 hk)))
   ·refine congrArg _ ((r2 _ λq=>hk ?_).trans (ho.2 _ hk).symm)
    rw[e];exact List.mem_append_left _ q
  ·by_cases hk:(idx (an p) x.name).toNat∈g
   ·by_cases hj:(idx (an p) x.name).toNat∈pre
    ·exact congrArg _ (r1 _ hj)
    ·have:=hg.prev d hd x hx h3 hk
     show bA (T'-x.n) (bq E _)=bA (T'-x.n) (bq D _)
     rw[r2 _ hj,<-BF g [] (by simp) _ hk,iT (by omega)]
   ·refine congrArg _ ((r2 _ λq=>hk ?_).trans (ho.2 _ hk).symm)
    rw[e];exact List.mem_append_left _ q
 have q1:=(iM (p:=p) (W:=⟨az,E⟩) (W':=⟨az,D⟩) (Int.le_refl T') (cQ p d) (λx hx=>⟨(hg.back d hd x hx).1,(hg.back d hd x hx).2,Ms x hx⟩) _ r3).1
 rw[q1,(tv (hg.back d hd) r3).1]
theorem tY{T T':Int}{ai u:List cg}(hl:∀d∈g,d<ai.length)(hT:T<=T')(hf:T'<=T+far)(hs:Co p az g T ai)(hu:Co p az g T' u)(ho:Out g u ai):fq p az T' g ai=some u:=by
 have BF:∀k∈g,bA T (bq u k)=bq ai k:=λk hk=>Lm hg hT hu hs ho hk
 have key:∀(post pre:List Nat) (Di:List cg),g=pre++post->Di.length=u.length->(∀k,k∉post->bq Di k=bq u k)->(∀k∈post,bq Di k=bq ai k)->fq p az T' post Di=some u:=by
  intro post
  induction post with
  |nil=>
   intro pre Di _ hlen h1 _;rw[fq]
   congr 1
   refine List.ext_getElem hlen λi q1 q2=>?_
   have:=h1 i List.not_mem_nil;unfold bq at this
   rwa[List.getD_eq_getElem?_getD,List.getD_eq_getElem?_getD,List.getElem?_eq_getElem q1,List.getElem?_eq_getElem q2]at this
  |cons d post ih=>
   intro pre Di e hlen h1 h2;have Wu:d∈g:=by rw[e];simp
   have qQ:=hg.nodup;rw[e]at qQ;have hdp:d∉post:=(List.nodup_cons.1 (List.nodup_append.1 qQ).2.1).1;have Ms:∀x∈bc (cQ p d),vc p T' ⟨az,u⟩ ⟨az,Di⟩ x:=λx hx=>by
    refine⟨λ_=>rfl,λze=>?_,λh3=>?_⟩
    ·refine congrArg _ (h1 _ λq=>?_).symm
     have hk:(idx (an p) x.name).toNat∈g:=by rw[e];exact List.mem_append_right _ q
     have hlt:=hg.ref d Wu x hx ze hk;have hpre:=NA hg.inc e hk hlt;exact(List.nodup_append.1 qQ).2.2 _ hpre _ q rfl
    ·by_cases hk:(idx (an p) x.name).toNat∈d::post
     ·have hkg:(idx (an p) x.name).toNat∈g:=by rw[e];exact List.mem_append_right _ hk
      have:=hg.prev d Wu x hx h3 hkg
      show bA (T'-x.n) (bq u _)=bA (T'-x.n) (bq Di _)
      rw[h2 _ hk,<-BF _ hkg,iT (by omega)]
     ·exact congrArg _ (h1 _ hk).symm
   have q1:=(iM (p:=p) (W:=⟨az,u⟩) (W':=⟨az,Di⟩) (Int.le_refl T') (cQ p d) (λx hx=>⟨(hg.back d Wu x hx).1,(hg.back d Wu x hx).2,Ms x hx⟩) _ (hu d Wu)).1
   rw[(Co.self hg hu Wu).1]at q1;have nr:d<Di.length:=by rw[hlen,ho.1];exact hl d Wu
   rw[fq,tT,q1];simp only;refine ih (pre++[d]) _ (by rw[e];simp) (by rw[List.length_set];exact hlen) (λk hk=>?_) (λk hk=>?_)
   ·rw[ff nr]
    split
    ·rename_i q;rw[q]
    ·rename_i q;exact h1 k λw=>(List.mem_cons.1 w).elim q hk
   ·have hne:k≠d:=λq=>hdp (q▸hk)
    rw[ff nr,if_neg hne];exact h2 k (List.mem_cons_of_mem _ hk)
 exact key g [] ai (by simp) ho.1.symm (λk hk=>(ho.2 k hk).symm) λ_ _=>rfl
theorem qX:∀(f:Nat) (T top:Int) (ai D:List cg),(∀d∈g,d<ai.length)->T<=top->top<=T+far->top<=200->200-top<f->Co p az g T ai->
  (fV p az far g f top ai=some D↔Co p az g 200 D/\Out g D ai)
 |0,T,top,ai,D,hl,h1,h2,h3,h4,hs=>by omega
 |f+1,T,top,ai,D,hl,h1,h2,h3,h4,hs=>by
  have hpos:=hg.pos;rw[fV];constructor
  ·intro h
   split at h
   ·cases h
   ·rename_i defs1 hp;obtain⟨q1,q2⟩:=LH hg hl h1 h2 hs hp
    split at h
    ·rename_i e;cases h;rw[e]at q1;exact⟨q1,q2⟩
    ·rename_i e;have hm:gW (top+far) 200=if 200<top+far then 200 else top+far:=rfl
     have:=(qX f top (gW (top+far) 200) defs1 D (λd hd=>by rw[q2.1];exact hl d hd) (by rw[hm];split<;>omega) (by rw[hm];split<;>omega) (by rw[hm];split<;>omega) (by rw[hm];split<;>omega) q1).1 h
     exact⟨this.1,this.2.trans q2⟩
  ·rintro⟨hD,hO⟩;have hp:=tY hg hl h1 h2 hs (Fk hg h3 hD) ((B1 top D).trans hO);rw[hp];simp only;by_cases e:top=200
   ·rw[if_pos e];have hp2:=tY hg hl h1 h2 hs (by rw[e];exact hD) hO
    rw[hp]at hp2;exact hp2
   ·rw[if_neg e];have hm:gW (top+far) 200=if 200<top+far then 200 else top+far:=rfl
    have ho:=(B1 (g:=g) top D);exact(qX f top (gW (top+far) 200) _ D (λd hd=>by rw[ho.1,hO.1];exact hl d hd) (by rw[hm];split<;>omega) (by rw[hm];split<;>omega) (by rw[hm];split<;>omega) (by rw[hm];split<;>omega) (Fk hg h3 hD)).2 ⟨hD,ho.symm⟩
omit hg in
theorem Hy(l:List Item):b6 l (-1)=[]:=by
 have:l.filter (λx=>decide (0<=x.aa.at_/\x.aa.at_<= -1))=[]:=List.filter_eq_nil_iff.2 λx _=>by simp;omega
 rw[b6,this];rfl
omit hg in
mutual
theorem JV(W:bZ):∀e:bz,cZ p W (-1) e=some []
 |.mk op name n f cs kids=>by
  obtain⟨ks,h⟩:=Ex W kids;rw[cZ,h];simp only[Hy];rfl
theorem Ex(W:bZ):∀es:List bz,∃ks,eC p W (-1) es=some ks
 |[]=>⟨[],by rw[eC]⟩
 |e::es=>by
  obtain⟨ks,h⟩:=Ex W es;exact⟨[]::ks,by rw[eC,JV W e,h]⟩
end
omit hg in
theorem Fj{ai:List cg}(h:∀d∈g,bq ai d=[]):Co p az g (-1) ai:=λd hd=>by rw[h d hd,JV]
theorem OM{ai:List cg}(hl:∀d∈g,d<ai.length)(h0:∀d∈g,bq ai d=[]):fV p az far g 202 (gW (far-1) 200) ai=fV p az 1 g 202 0 ai:=by
 have hpos:=hg.pos;have hm:gW (far-1) 200=if 200<far-1 then 200 else far-1:=rfl
 refine Option.ext λD=>?_
 rw[qX hg 202 (-1) (gW (far-1) 200) ai D hl (by rw[hm];split<;>omega) (by rw[hm];split<;>omega) (by rw[hm];split<;>omega) (by rw[hm];split<;>omega) (Fj h0),
  qX hg.one 202 (-1) 0 ai D hl (by omega) (by omega) (by omega) (by omega) (Fj h0)]
end
end Go.Aft
end
section
set_option maxRecDepth 20000
namespace Go.Aft
mutual
theorem Zn{other:Bool}:∀(c:bh) (depth left l:Int),dJ other c depth left=some l->vn c
 |.mk op n kids,depth,left,l,h=>by
  rw[dJ]at h
  split at h
  ·rename_i hc;obtain⟨_,_,hk⟩:=hc;unfold fG at hk
   split at hk
   ·have:=of_decide_eq_true hk;exact .leaf op n kids (by omega) (by omega)
   ·split at hk
    ·have:=of_decide_eq_true hk;exact .leaf op n kids (by omega) (by omega)
    ·split at hk
     ·have:=of_decide_eq_true hk;exact .leaf op n kids (by omega) (by omega)
     ·have:=of_decide_eq_true hk;have hv:=E9 kids _ _ _ h
      match kids,this.2.2.2,hv with
      |[a,b],_,hv=>exact .node op n a b this.1 (hv a (by simp)) (hv b (by simp))
  ·cases h
theorem E9{other:Bool}:∀(cs:List bh) (depth left l:Int),cz other cs depth left=some l->∀c∈cs,vn c
 |[],_,_,_,_,c,hc=>absurd hc List.not_mem_nil
 |k::ks,depth,left,l,h,c,hc=>by
  rw[cz]at h
  split at h
  ·rename_i l' hl;rcases List.mem_cons.1 hc with q|q
   ·rw[q];exact Zn k _ _ _ hl
   ·exact E9 ks _ _ _ h c q
  ·cases h
end
structure ur(p:Prog)(a:Int)(x:bz):Prop where
 ok:hU x.op x.name x.n x.fold x.aD.length x.kids.length=true
 nm:dD p.az (an p) a x.op x.name=true
 cs:∀c∈x.aD,vn c
mutual
theorem Bn{p:Prog}{a:Int}:∀(e:bz) (d l l':Int),fU p.az (an p) a e d l=some l'->∀x∈bc e,ur p a x
 |.mk op name n fold aD kids,d,l,l',h,x,hx=>by
  rw[fU]at h
  split at h
  ·rename_i hc
   split at h
   ·rename_i l1 BA;rw[bc]at hx;rcases List.mem_cons.1 hx with q|hx
    ·rw[q];exact⟨hc.2.2.1,hc.2.2.2,E9 _ _ _ _ BA⟩
    ·exact yq kids _ _ _ h x hx
   ·cases h
  ·cases h
theorem yq{p:Prog}{a:Int}:∀(es:List bz) (d l l':Int),eW p.az (an p) a es d l=some l'->∀x∈bn es,ur p a x
 |[],d,l,l',h,x,hx=>by rw[bn]at hx;cases hx
 |e::es,d,l,l',h,x,hx=>by
  rw[eW]at h
  split at h
  ·rename_i l1 BA;rw[bn]at hx;rcases List.mem_append.1 hx with hx|hx
   ·exact Bn e _ _ _ BA x hx
   ·exact yq es _ _ _ h x hx
  ·cases h
end
theorem gq{p:Prog}(hp:formed p){i:Nat}(h:i<p.ai.length):∀x∈bc p.ai[i].exp,ur p i x:=by
 obtain⟨⟨l,hl⟩,_⟩:=hp;unfold fF at hl
 split at hl
 ·obtain⟨l1,l2,q,_⟩:=vT _ _ _ _ hl (by omega) i h
  rw[Int.zero_add]at q;exact Bn _ _ _ _ q
 ·cases hl
structure Xo(p:Prog):Prop where
 s1:1<=p.az.length
 s4:p.az.length<=4
 d6:p.ai.length<=6
 dif:o7 (p.az++an p)
theorem mU{p:Prog}(hp:formed p):Xo p:=by
 obtain⟨⟨l,hl⟩,_⟩:=hp;unfold fF at hl
 split at hl
 ·rename_i h;exact⟨h.1,h.2.1,h.2.2.1,h.2.2.2⟩
 ·cases hl
theorem ur.node{p:Prog}{a:Int}{x:bz}(h:ur p a x):qv p x:=by
 have hn:=h.nm;unfold dD at hn;refine⟨h.ok,λq=>?_,λq=>?_,h.cs⟩
 ·rw[if_pos q]at hn;exact of_decide_eq_true hn
 ·rcases q with q|q
  ·rw[if_neg (by omega),if_pos q]at hn
   exact(of_decide_eq_true hn).1
  ·rw[if_neg (by omega),if_neg (by omega),if_pos q]at hn
   exact of_decide_eq_true hn
theorem ur.lt{p:Prog}{a:Int}{x:bz}(h:ur p a x)(q:x.op=2):idx (an p) x.name<a:=by
 have hn:=h.nm;unfold dD at hn;rw[if_neg (by omega),if_pos q]at hn
 exact(of_decide_eq_true hn).2
theorem ur.W4{p:Prog}{a:Int}{x:bz}(h:ur p a x):1<=x.op/\x.op<=15/\(x.op=3->1<=x.n/\x.n<=50)/\(x.op=8->1<=x.n)/\(x.op=11->1<=x.n)/\(x.op=9->0<=x.n)/\(x.op=12->0<=x.n)/\(x.op=14->0<=x.n):=by
 obtain⟨s,q1,q2,q3,q4,q5⟩:=ru h.ok;unfold bK at q1;by_cases e0:x.op=1\/ x.op=2
 ·rw[if_pos e0]at q1;obtain rfl:=Option.some.inj q1;dsimp only at q4 q5;omega
 rw[if_neg e0]at q1;by_cases e1:x.op=3
 ·rw[if_pos e1]at q1;obtain rfl:=Option.some.inj q1;dsimp only at q4 q5;omega
 rw[if_neg e1]at q1;by_cases e2:x.op=4
 ·rw[if_pos e2]at q1;obtain rfl:=Option.some.inj q1;dsimp only at q4 q5;omega
 rw[if_neg e2]at q1;by_cases e3:x.op=5
 ·rw[if_pos e3]at q1;obtain rfl:=Option.some.inj q1;dsimp only at q4 q5;omega
 rw[if_neg e3]at q1;by_cases e4:x.op=6
 ·rw[if_pos e4]at q1;obtain rfl:=Option.some.inj q1;dsimp only at q4 q5;omega
 rw[if_neg e4]at q1;by_cases e5:x.op=7
 ·rw[if_pos e5]at q1;obtain rfl:=Option.some.inj q1;dsimp only at q4 q5;omega
 rw[if_neg e5]at q1;by_cases e6:x.op=8\/ x.op=11
 ·rw[if_pos e6]at q1;obtain rfl:=Option.some.inj q1;dsimp only at q4 q5;omega
 rw[if_neg e6]at q1;by_cases e7:x.op=9
 ·rw[if_pos e7]at q1;obtain rfl:=Option.some.inj q1;dsimp only at q4 q5;omega
 rw[if_neg e7]at q1;by_cases e8:x.op=10
 ·rw[if_pos e8]at q1;obtain rfl:=Option.some.inj q1;dsimp only at q4 q5;omega
 rw[if_neg e8]at q1;by_cases e9:x.op=12
 ·rw[if_pos e9]at q1;obtain rfl:=Option.some.inj q1;dsimp only at q4 q5;omega
 rw[if_neg e9]at q1;by_cases WW:x.op=13
 ·rw[if_pos WW]at q1;obtain rfl:=Option.some.inj q1;dsimp only at q4 q5;omega
 rw[if_neg WW]at q1;by_cases e11:x.op=14
 ·rw[if_pos e11]at q1;obtain rfl:=Option.some.inj q1;dsimp only at q4 q5;omega
 rw[if_neg e11]at q1;by_cases e12:x.op=15
 ·rw[if_pos e12]at q1;obtain rfl:=Option.some.inj q1;dsimp only at q4 q5;omega
 rw[if_neg e12]at q1;cases q1
theorem jb{p:Prog}(hp:formed p):∀(d:Nat) (h:d<p.ai.length),iP p p.ai[d].exp:=λd h x hx=>(gq hp h x hx).node
theorem oh{p:Prog}(hp:formed p):∀s∈p.az++an p,cN s:=λs hs=>by
 obtain⟨i,hi,rfl⟩:=List.mem_iff_getElem.1 hs;have:=((mU hp).dif i hi).1;unfold gV at this;simp only[Bool.and_eq_true,decide_eq_true_eq]at this;unfold cN;omega
theorem fA{p:Prog}(hp:formed p):Good p:=by
 obtain⟨⟨l,hl⟩,_⟩:=hp;exact Good.of hl
end Go.Aft
end
