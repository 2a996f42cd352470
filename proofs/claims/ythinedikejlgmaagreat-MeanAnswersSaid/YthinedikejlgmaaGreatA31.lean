import Derived.Test.YthinedikejlgmaaGreatA30
import Derived.Test.YthinedikejlgmaaGreatA28
set_option linter.all false
section
set_option maxRecDepth 20000
namespace Go.Aft
def bL(t:Int)(l:List Item):List Item:=l.filter λx=>decide (x.aa.at_<=t)
def BZ(t:Int)(a b:List Item):Prop:=∀r:Rec,r.at_<=t->bQ a r=bQ b r
theorem fc(f:Item->Bool)(g:Rec->Bool)(hf:∀x,f x=g x.aa)(r:Rec):∀l:List Item,bQ (l.filter f) r=if g r=true then bQ l r else 0
 |[]=>by simp[bQ]
 |x::l=>by
  have ih:=fc f g hf r l;by_cases h:g x.aa=true
  ·rw[List.filter_cons_of_pos (by rw[hf];exact h),bQ,bQ,ih]
   by_cases hr:x.aa=r
   ·subst hr;simp[h]
   ·rw[if_neg hr];split<;>omega
  ·rw[List.filter_cons_of_neg (by rw[hf];exact h),ih,bQ]
   by_cases hr:x.aa=r
   ·subst hr;rw[if_neg h,if_neg h]
   ·rw[if_neg hr];split<;>omega
theorem kI(r:Rec):∀a b:List Item,bQ (a++b) r=bQ a r+bQ b r
 |[],b=>by simp[bQ]
 |x::a,b=>by rw[List.cons_append,bQ,bQ,kI r a b];omega
theorem Br{t:Int}{r:Rec}(h:r.at_<=t)(l:List Item):bQ (bL t l) r=bQ l r:=by
 rw[bL,fc _ (λr=>decide (r.at_<=t)) (λ_=>rfl)];simp[h]
theorem Pd{t:Int}{r:Rec}(h:¬r.at_<=t)(l:List Item):bQ (bL t l) r=0:=by
 rw[bL,fc _ (λr=>decide (r.at_<=t)) (λ_=>rfl)];simp[h]
theorem BZ.nL{t:Int}{a b:List Item}(h:bL t a=bL t b):BZ t a b:=λr hr=>by rw[<-Br hr,h,Br hr]
theorem BZ.symm{t:Int}{a b:List Item}(h:BZ t a b):BZ t b a:=λr hr=>(h r hr).symm
theorem BZ.summed{t:Int}{a b:List Item}(h:BZ t a b):bV a t=bV b t:=BC λr=>by
 rw[fc _ (λr=>decide (0<=r.at_/\r.at_<=t)) (λ_=>rfl),fc _ (λr=>decide (0<=r.at_/\r.at_<=t)) (λ_=>rfl)]
 split
 ·rename_i q;exact h r (of_decide_eq_true q).2
 ·rfl
theorem oZ.cut{l:List Item}(h:oZ l)(t:Int):oZ (bL t l):=h.filter _
theorem nS.cut{l:List Item}(h:nS l)(t:Int):nS (bL t l):=h.filter _
theorem xd(l:List Item)(t:Int):oZ (bV l t):=oP _
theorem Gr(l:List Item){t T:Int}(h:t<=T):bL t (bV l T)=bV l t:=by
 refine vB ((xd l T).cut t) (λx hx=>(jj.1 (List.mem_filter.1 hx).1).1) λr=>?_
 rw[fc _ (λr=>decide (0<=r.at_/\r.at_<=t)) (λ_=>rfl)]
 by_cases hr:r.at_<=t
 ·rw[Br hr,bV,BD,fc _ (λr=>decide (0<=r.at_/\r.at_<=T)) (λ_=>rfl)]
  have h2:r.at_<=T:=by omega
  simp[hr,h2]
 ·rw[Pd hr];simp[hr]
theorem Ku{l:List Item}{t:Int}{x:Item}(h:x∈bV l t):0<=x.aa.at_/\x.aa.at_<=t:=by
 have h1:=jj.1 h;obtain⟨y,hy,e⟩:=rN (r:=x.aa) (l:=l.filter λx=>decide (0<=x.aa.at_/\x.aa.at_<=t)) (by rw[<-h1.2];exact h1.1)
 have:=of_decide_eq_true (List.mem_filter.1 hy).2;rw[e]at this;exact this
theorem OZ{b:cr}(h:gH b=true)(t:Int):gH (bL t b)=true:=by
 simp only[gH,Bool.and_eq_true,decide_eq_true_eq,List.all_eq_true]at h|-;exact⟨Nat.le_trans (List.length_filter_le _ _) h.1,λx hx=>h.2 x (List.mem_filter.1 hx).1⟩
theorem j8{l:List Item}{t T:Int}(h:t<=T):bL t (bL T l)=bL t l:=by
 rw[bL,bL,bL,List.filter_filter];refine List.filter_congr λx _=>?_
 by_cases q:x.aa.at_<=t
 ·have:x.aa.at_<=T:=by omega
  simp[q,this]
 ·simp[q]
theorem y7(t:Int)(a b:List Item):bL t (a++b)=bL t a++bL t b:=List.filter_append _ _
def dF(b:List Item)(k low high:Int):List Item:=b.filter λx=>decide (x.aa.key=k/\low<=x.aa.at_/\x.aa.at_<=high)
theorem sY{low high:Int}:∀{l:List Item},nS l->bM low high l=l.filter λx=>decide (low<=x.aa.at_/\x.aa.at_<=high)
 |[],_=>rfl
 |x::l,h=>by
  have h':=List.pairwise_cons.1 h;have ih:=sY (low:=low) (high:=high) h'.2;by_cases h1:x.aa.at_<low
  ·have e1:bM low high (x::l)=bM low high l:=by
    unfold bM mG;rw[List.dropWhile_cons_of_pos (by simpa using h1)]
   rw[e1,ih,List.filter_cons_of_neg (by simp;omega)]
  ·have e1:mG low (x::l)=x::l:=by
    unfold mG;rw[List.dropWhile_cons_of_neg (by simpa using h1)]
   have e2:mG low l=l:=by
    cases l with
    |nil=>rfl
    |cons y l=>
     unfold mG;have:=h'.1 y (by simp)
     rw[List.dropWhile_cons_of_neg (by simp;omega)]
   have e3:bM low high l=l.takeWhile λx=>decide (x.aa.at_<=high):=by unfold bM;rw[e2]
   unfold bM;rw[e1];by_cases h2:x.aa.at_<=high
   ·rw[List.takeWhile_cons_of_pos (by simpa using h2),<-e3,ih,List.filter_cons_of_pos (by simp;omega)]
   ·rw[List.takeWhile_cons_of_neg (by simpa using h2),List.filter_eq_nil_iff.2]
    intro y hy;rcases List.mem_cons.1 hy with q|q
    ·subst q;simp;omega
    ·have:=h'.1 y q;simp;omega
theorem iG{b:List Item}(hb:nS b)(k low high:Int):bM low high (rowOf k b)=dF b k low high:=by
 have hr:nS (rowOf k b):=hb.filter _;rw[sY hr,rowOf,List.filter_filter,dF];refine List.filter_congr λx _=>?_
 by_cases q:x.aa.key=k<;>simp[q]
theorem qy{b:List Item}{k low high t:Int}(h:high<=t):dF (bL t b) k low high=dF b k low high:=by
 rw[dF,bL,List.filter_filter,dF];refine List.filter_congr λx _=>?_
 by_cases q:x.aa.at_<=high
 ·have:x.aa.at_<=t:=by omega
  simp[q,this]
 ·simp[q]
theorem SB(b:List Item)(k low high t:Int):bL t (dF (bL t b) k low high)=bL t (dF b k low high):=by
 rw[dF,bL,bL,dF,List.filter_filter,List.filter_filter,bL,List.filter_filter];refine List.filter_congr λx _=>?_
 by_cases q:x.aa.at_<=t<;>simp[q]
theorem lX{b:List Item}{k low high:Int}{x:Item}:x∈dF b k low high↔x∈b/\x.aa.key=k/\low<=x.aa.at_/\x.aa.at_<=high:=by simp[dF]
theorem Pb(c:bc)(b:List Item)(t:Int):bL t (jJ c b)=bL t (jJ c (bL t b)):=by
 rw[bL,bL,bL,jJ,jJ,List.filter_filter,List.filter_filter,List.filter_filter];refine List.filter_congr λx _=>?_
 by_cases q:x.aa.at_<=t<;>simp[q]
theorem Nn{f:Item->Item}(hf:∀x,(f x).aa.at_=x.aa.at_)(b:List Item)(t:Int):bL t (b.map f)=(bL t b).map f:=by
 rw[bL,bL,List.filter_map]
 congr 1
 refine List.filter_congr λx _=>?_
 simp[hf]
theorem Jk(k v:bc)(b:List Item)(t:Int):bL t (Bo k v b)=Bo k v (bL t b):=Nn (f:=λx=>⟨⟨x.aa.at_,ek x.aa 0 k,ek x.aa 0 v⟩,x.n⟩) (λ_=>rfl) b t
theorem Jj(b:List Item)(t:Int):bL t (xw b)=xw (bL t b):=Nn (f:=λx=>⟨x.aa,1⟩) (λ_=>rfl) b t
theorem sK(n:Int)(b:List Item)(t:Int):bL t (dU n b)=dU n (bL (t-n) b):=by
 rw[bL,bL,dU,dU,List.filter_map]
 congr 1
 refine List.filter_congr λx _=>?_
 simp only[Function.comp]
 congr 1
 exact propext ⟨λh=>by omega,λh=>by omega⟩
theorem Bc{F G:Item->List Item}{t:Int}(h1:∀x,∀y∈F x,x.aa.at_<=y.aa.at_)(h2:∀x,x.aa.at_<=t->bL t (F x)=bL t (G x)):∀a:List Item,bL t (a.flatMap F)=bL t ((bL t a).flatMap G)
 |[]=>rfl
 |x::a=>by
  have ih:=Bc h1 h2 a;rw[List.flatMap_cons,y7,ih];by_cases q:x.aa.at_<=t
  ·have e:bL t (x::a)=x::bL t a:=List.filter_cons_of_pos (by simpa using q)
   rw[e,List.flatMap_cons,y7,h2 x q]
  ·have e:bL t (x::a)=bL t a:=List.filter_cons_of_neg (by simpa using q)
   have e2:bL t (F x)=[]:=List.filter_eq_nil_iff.2 λy hy=>by
    have:=h1 x y hy;simp;omega
   rw[e,e2,List.nil_append]
def iZ(n:Int)(c:bc)(b:List Item)(x:Item):List Item:=(dF b x.aa.key (x.aa.at_-n) (x.aa.at_+n)).map (fq c x)
def vC(c:bc)(b:List Item)(x:Item):List Item:=match(dF b x.aa.key 0 x.aa.at_).getLast? with
 |none=>[]
 |some y=>[⟨⟨x.aa.at_,x.aa.key,ek x.aa y.aa.val c⟩,x.n⟩]
theorem yJ{b:List Item}(hb:nS b)(n:Int)(c:bc)(a:List Item):kZ n c a b=a.flatMap (iZ n c b):=by
 unfold kZ
 congr 1
 funext x
 rw[iG hb,iZ]
theorem y9{b:List Item}(hb:nS b)(c:bc)(a:List Item):jG c a b=a.flatMap (vC c b):=by
 unfold jG
 congr 1
 funext x
 rw[iG hb];unfold vC;cases(dF b x.aa.key 0 x.aa.at_).getLast? <;>rfl
theorem Vg{x y t:Int}(h:x<=t):jN x y<=t↔y<=t:=by unfold jN;split<;>constructor<;>intro h2<;>omega
theorem Vh(x y:Int):x<=jN x y:=by unfold jN;split<;>omega
theorem Pc(n:Int)(c:bc)(b:List Item){x:Item}{t:Int}(h:x.aa.at_<=t):bL t (iZ n c b x)=bL t (iZ n c (bL t b) x):=by
 have e:∀l:List Item,bL t (l.map (fq c x))=(bL t l).map (fq c x):=λl=>by
  rw[bL,bL,List.filter_map]
  congr 1
  refine List.filter_congr λy _=>?_
  simp only[Function.comp,fq]
  congr 1
  exact propext (Vg h)
 rw[iZ,iZ,e,e,SB]
theorem SD{b:List Item}(hb:nS b)(n:Int)(c:bc)(a:List Item)(t:Int):bL t (kZ n c a b)=bL t (kZ n c (bL t a) (bL t b)):=by
 rw[yJ hb,yJ (hb.cut t)];refine Bc (λx y hy=>?_) (λx q=>Pc n c b q) a
 obtain⟨z,_,rfl⟩:=List.mem_map.1 hy;exact Vh _ _
theorem SE{b:List Item}(hb:nS b)(c:bc)(a:List Item)(t:Int):bL t (jG c a b)=bL t (jG c (bL t a) (bL t b)):=by
 rw[y9 hb,y9 (hb.cut t)];refine Bc (λx y hy=>?_) (λx q=>by rw[vC,vC,qy q]) a
 unfold vC at hy
 split at hy
 ·cases hy
 ·rw[List.mem_singleton.1 hy];exact Int.le_refl _
def Wm(n:Int)(P:Prop):Prop:=(P->n=1)/\(¬P->n=0)
theorem Wm.congr{n:Int}{P Q:Prop}(h:Wm n P)(e:P↔Q):Wm n Q:=⟨λq=>h.1 (e.2 q),λq=>h.2 λp=>q (e.1 p)⟩
theorem Wm.eq{n m:Int}{P Q:Prop}(h:Wm n P)(k:Wm m Q)(e:P↔Q):n=m:=by
 by_cases p:P
 ·rw[h.1 p,k.1 (e.1 p)]
 ·rw[h.2 p,k.2 λq=>p (e.2 q)]
theorem mY{f more k:Int}{sp:Int->Option (Int×Int)}{row:List Item}(r:Rec):∀(l:List Item) (last:Int),(∀x∈l,∀lo hi,sp x.aa.at_=some (lo,hi)->last<=hi)->
  (l.Pairwise λx y=>∀l1 h1 l2 h2,sp x.aa.at_=some (l1,h1)->sp y.aa.at_=some (l2,h2)->h1<=h2/\(h1=h2->l1=l2))->
  Wm (bQ (ec f more k sp row l last) r) (∃x∈l,∃lo hi,sp x.aa.at_=some (lo,hi)/\hi≠last/\r=⟨hi+more,k,foldI f (bM lo hi row)⟩)
 |[],last,_,_=>⟨λ⟨x,h,_⟩=>absurd h List.not_mem_nil,λ_=>rfl⟩
 |x::l,last,h1,h2=>by
  have hp:=List.pairwise_cons.1 h2;rw[ec];cases hs:sp x.aa.at_ with
  |none=>
   simp only;refine(mY r l last (λy hy=>h1 y (List.mem_cons_of_mem _ hy)) hp.2).congr ⟨?_,?_⟩
   ·rintro⟨y,hy,q⟩;exact⟨y,List.mem_cons_of_mem _ hy,q⟩
   ·rintro⟨y,hy,lo,hi,q,q2⟩;rcases List.mem_cons.1 hy with e|e
    ·subst e;rw[hs]at q;cases q
    ·exact⟨y,e,lo,hi,q,q2⟩
  |some v=>
   obtain⟨lo,hi⟩:=v;simp only
   split
   ·rename_i e;refine(mY r l last (λy hy=>h1 y (List.mem_cons_of_mem _ hy)) hp.2).congr ⟨?_,?_⟩
    ·rintro⟨y,hy,q⟩;exact⟨y,List.mem_cons_of_mem _ hy,q⟩
    ·rintro⟨y,hy,lo',hi',q,q2,q3⟩;rcases List.mem_cons.1 hy with e'|e'
     ·subst e';rw[hs]at q;cases q;exact absurd e q2
     ·exact⟨y,e',lo',hi',q,q2,q3⟩
   ·rename_i e;have hlt:last<=hi:=h1 x (by simp) lo hi hs
    have ih:=mY (f:=f) (more:=more) (k:=k) (row:=row) r l hi (λy hy lo' hi' q=>(hp.1 y hy _ _ _ _ hs q).1) hp.2
    have hc:∀(z:Rec) (L:List Item),bQ (⟨z,1⟩::L) r=(if z=r then 1 else 0)+bQ L r:=λ_ _=>rfl
    rw[hc];by_cases hr:(⟨hi+more,k,foldI f (bM lo hi row)⟩:Rec)=r
    ·have hno:¬∃y∈l,∃lo' hi',sp y.aa.at_=some (lo',hi')/\hi'≠hi/\r=⟨hi'+more,k,foldI f (bM lo' hi' row)⟩:=by
      rintro⟨y,hy,lo',hi',q1,q2,q3⟩;rw[q3]at hr;have:=congrArg Rec.at_ hr;simp only at this;exact q2 (by omega)
     refine⟨λ_=>by rw[if_pos hr,ih.2 hno];rfl,λhn=>absurd ⟨x,by simp,lo,hi,hs,e,hr.symm⟩ hn⟩
    ·rw[if_neg hr,Int.zero_add];refine ih.congr ⟨?_,?_⟩
     ·rintro⟨y,hy,lo',hi',q1,q2,q3⟩;refine⟨y,List.mem_cons_of_mem _ hy,lo',hi',q1,?_,q3⟩;have:=(hp.1 y hy _ _ _ _ hs q1).1;omega
     ·rintro⟨y,hy,lo',hi',q1,q2,q3⟩;rcases List.mem_cons.1 hy with e'|e'
      ·subst e';rw[hs]at q1;cases q1;exact absurd q3.symm hr
      ·refine⟨y,e',lo',hi',q1,λe2=>?_,q3⟩
       have:=(hp.1 y e' _ _ _ _ hs q1).2 e2.symm;subst e2;subst this;exact hr q3.symm
theorem mX{f more k:Int}{sp:Int->Option (Int×Int)}{row:List Item}:∀(l:List Item) (last:Int),∀x∈ec f more k sp row l last,x.aa.key=k
 |[],_,x,h=>absurd h List.not_mem_nil
 |y::l,last,x,h=>by
  rw[ec]at h
  split at h
  ·exact mX l last x h
  ·split at h
   ·exact mX l last x h
   ·rcases List.mem_cons.1 h with q|q
    ·rw[q]
    ·exact mX l _ x q
theorem xW{F:Int->List Item}(hF:∀k,∀x∈F k,x.aa.key=k)(r:Rec):∀ks:List Int,ks.Nodup->bQ (ks.flatMap F) r=if r.key∈ks then bQ (F r.key) r else 0
 |[],_=>rfl
 |k::ks,h=>by
  have h':=List.nodup_cons.1 h;rw[List.flatMap_cons,kI,xW hF r ks h'.2];by_cases e:k=r.key
  ·subst e;rw[if_neg h'.1,if_pos (List.mem_cons_self ..)];omega
  ·rw[oK (l:=F k) λx hx q=>e (by rw[<-hF k x hx,q])]
   have:r.key∈k::ks↔r.key∈ks:=by
    rw[List.mem_cons];exact⟨λq=>q.resolve_left λq=>e q.symm,.inr⟩
   by_cases q:r.key∈ks
   ·rw[if_pos q,if_pos (this.2 q)];omega
   ·rw[if_neg q,if_neg λw=>q (this.1 w)];rfl
def iK(f more:Int)(spb:List Item->Int->Int->Option (Int×Int))(b:List Item)(x:Item):Option Rec:=match spb b x.aa.key x.aa.at_ with
 |none=>none
 |some (lo,hi)=>some ⟨hi+more,x.aa.key,foldI f (dF b x.aa.key lo hi)⟩
theorem jS{f more:Int}{spb:List Item->Int->Int->Option (Int×Int)}{b:List Item}{x:Item}{r:Rec}:iK f more spb b x=some r↔∃lo hi,spb b x.aa.key x.aa.at_=some (lo,hi)/\r=⟨hi+more,x.aa.key,foldI f (dF b x.aa.key lo hi)⟩:=by
 unfold iK;cases spb b x.aa.key x.aa.at_ with
 |none=>simp
 |some v=>
  obtain⟨lo,hi⟩:=v;simp only[Option.some.injEq,Prod.mk.injEq];constructor
  ·intro h;exact⟨lo,hi,⟨rfl,rfl⟩,h.symm⟩
  ·rintro⟨lo',hi',⟨rfl,rfl⟩,h⟩;exact h.symm
structure Mh(sp:List Item->Int->Option (Int×Int))(spb:List Item->Int->Int->Option (Int×Int))(more:Int):Prop where
 row:∀{b:List Item},nS b->∀k t,sp (rowOf k b) t=spb b k t
 mono:∀{b:List Item} {k t1 t2 l1 h1 l2 h2:Int},0<=t1->t1<=t2->spb b k t1=some (l1,h1)->spb b k t2=some (l2,h2)->h1<=h2/\(h1=h2->l1=l2)
 ge:∀{b:List Item} {k t lo hi:Int},0<=t->spb b k t=some (lo,hi)->t<=hi
 cut:∀{b:List Item} {T k t lo hi:Int},hi+more<=T->(spb b k t=some (lo,hi)↔spb (bL T b) k t=some (lo,hi))
 more:0<=more
theorem lN{f more:Int}{sp:List Item->Int->Option (Int×Int)}{spb:List Item->Int->Int->Option (Int×Int)}(hs:Mh sp spb more){b:List Item}(hb:nS b)(h0:∀x∈b,0<=x.aa.at_)(r:Rec):
  Wm (bQ (fS f more sp b) r) (∃x∈b,iK f more spb b x=some r):=by
 rw[fS,xW (F:=sk f more sp b) (λk x hx=>mX _ _ x hx) r _ (jd b)]
 have hrow:∀{k:Int} {x:Item},x∈rowOf k b->x∈b/\x.aa.key=k:=λh=>pp h
 by_cases hk:r.key∈aZ b
 ·rw[if_pos hk];have OJ:nS (rowOf r.key b):=hb.filter _;refine(mY r (rowOf r.key b) (-1) (λx hx lo hi q=>?_) ?_).congr ⟨?_,?_⟩
  ·rw[hs.row hb]at q;have h1:=h0 x (hrow hx).1;have:=hs.ge h1 q;omega
  ·refine OJ.imp_of_mem λ{x y} hx hy hxy l1 h1 l2 h2 q1 q2=>?_
   rw[hs.row hb]at q1 q2;exact hs.mono (h0 x (hrow hx).1) hxy q1 q2
  ·rintro⟨x,hx,lo,hi,q1,q2,q3⟩;obtain⟨PK,hxk⟩:=hrow hx;rw[hs.row hb]at q1;rw[iG hb]at q3;exact⟨x,PK,jS.2 ⟨lo,hi,by rw[hxk];exact q1,by rw[hxk];exact q3⟩⟩
  ·rintro⟨x,hx,q⟩;obtain⟨lo,hi,q1,q3⟩:=jS.1 q;have hxk:x.aa.key=r.key:=by rw[q3]
   have hge:=hs.ge (h0 x hx) q1;have:=h0 x hx;refine⟨x,by simp[rowOf,hx,hxk],lo,hi,by rw[hs.row hb,<-hxk];exact q1,by omega,?_⟩
   rw[iG hb,<-hxk];exact q3
 ·rw[if_neg hk];refine⟨?_,λ_=>rfl⟩
  rintro⟨x,hx,q⟩;obtain⟨lo,hi,q1,q3⟩:=jS.1 q;exact absurd (mC.2 ⟨x,hx,by rw[q3]⟩) hk
theorem R3{f more:Int}{sp:List Item->Int->Option (Int×Int)}{spb:List Item->Int->Int->Option (Int×Int)}(hs:Mh sp spb more){b:List Item}(h0:∀x∈b,0<=x.aa.at_){r:Rec}{t:Int}(hr:r.at_<=t):
  (∃x∈b,iK f more spb b x=some r)↔∃x∈bL t b,iK f more spb (bL t b) x=some r:=by
 have hm:=hs.more;constructor
 ·rintro⟨x,hx,q⟩;obtain⟨lo,hi,q1,q3⟩:=jS.1 q;have hhi:hi+more<=t:=by rw[q3]at hr;exact hr
  have hge:=hs.ge (h0 x hx) q1;refine⟨x,List.mem_filter.2 ⟨hx,by simp;omega⟩,jS.2 ⟨lo,hi,(hs.cut hhi).1 q1,?_⟩⟩
  rw[qy (by omega)];exact q3
 ·rintro⟨x,hx,q⟩;obtain⟨lo,hi,q1,q3⟩:=jS.1 q;have hhi:hi+more<=t:=by rw[q3]at hr;exact hr
  refine⟨x,(List.mem_filter.1 hx).1,jS.2 ⟨lo,hi,(hs.cut hhi).2 q1,?_⟩⟩;rw[qy (by omega)]at q3;exact q3
theorem o9{f more:Int}{sp:List Item->Int->Option (Int×Int)}{spb:List Item->Int->Int->Option (Int×Int)}(hs:Mh sp spb more){b:List Item}(hb:nS b)(h0:∀x∈b,0<=x.aa.at_)(t:Int):
  BZ t (fS f more sp b) (fS f more sp (bL t b)):=λr hr=>
 (lN hs hb h0 r).eq (lN hs (hb.cut t) (λx hx=>h0 x (List.mem_filter.1 hx).1) r) (R3 hs h0 hr)
def wL(n:Int)(_:List Item)(_ t:Int):Option (Int×Int):=some (t.tdiv n*n,t.tdiv n*n+n-1)
def vN(n:Int)(_:List Item)(_ t:Int):Option (Int×Int):=some (t-n,t)
def vL(_:List Item)(_ t:Int):Option (Int×Int):=some (0,t)
def wk(n:Int)(b:List Item)(k:Int):Nat->Int->Int
 |0,low=>low
 |j+1,low=>match dF b k (low-n) (low-1)with
  |[]=>low
  |x::_=>wk n b k j x.aa.at_
def ix(n:Int)(b:List Item)(k t:Int):Option (Int×Int):=match dF b k (t+1) (t+n)with
 |[]=>some (wk n b k 201 t,t)
 |_=>none
theorem Ic{n:Int}{b:List Item}(hb:nS b)(k:Int):∀(j:Nat) (low:Int),yw n (rowOf k b) j low=wk n b k j low
 |0,low=>rfl
 |j+1,low=>by
  rw[yw,wk,iG hb];cases dF b k (low-n) (low-1)with
  |nil=>rfl
  |cons x l=>exact Ic hb k j _
theorem Ie{n:Int}{b:List Item}{k t:Int}:∀(j:Nat) (low:Int),low<=t->wk n (bL t b) k j low=wk n b k j low
 |0,low,_=>rfl
 |j+1,low,h=>by
  rw[wk,wk,qy (by omega)]
  split
  ·rfl
  ·rename_i x l e;have hx:x∈dF b k (low-n) (low-1):=by rw[e];exact List.mem_cons_self ..
   have:=(lX.1 hx).2.2.2;exact Ie j _ (by omega)
theorem I1{n:Int}(hn:1<=n):Mh (rC n) (wL n) 0 where
 row:=λ_ _ _=>rfl
 mono:=λ{b k t1 t2 l1 h1 l2 h2} h0 h12 q1 q2=>by
  simp only[wL,Option.some.injEq,Prod.mk.injEq]at q1 q2;rw[Int.tdiv_eq_ediv_of_nonneg h0]at q1;rw[Int.tdiv_eq_ediv_of_nonneg (Int.le_trans h0 h12)]at q2;have h3:=Int.mul_le_mul_of_nonneg_right (Int.ediv_le_ediv (show 0<n by omega) h12) (show 0<=n by omega)
  constructor<;>omega
 ge:=λ{b k t lo hi} h0 q=>by
  simp only[wL,Option.some.injEq,Prod.mk.injEq]at q;rw[Int.tdiv_eq_ediv_of_nonneg h0]at q;have:=Int.lt_ediv_add_one_mul_self t (show 0<n by omega)
  rw[Int.add_mul,Int.one_mul]at this;omega
 cut:=λ_=>Iff.rfl
 more:=Int.le_refl _
theorem Gw{n:Int}:Mh (pg n) (vN n) 0 where
 row:=λ_ _ _=>rfl
 mono:=λ{b k t1 t2 l1 h1 l2 h2} h0 h12 q1 q2=>by
  simp only[vN,Option.some.injEq,Prod.mk.injEq]at q1 q2;constructor<;>omega
 ge:=λ{b k t lo hi} h0 q=>by
  simp only[vN,Option.some.injEq,Prod.mk.injEq]at q;omega
 cut:=λ_=>Iff.rfl
 more:=Int.le_refl _
theorem Gd:Mh tM vL 0 where
 row:=λ_ _ _=>rfl
 mono:=λ{b k t1 t2 l1 h1 l2 h2} h0 h12 q1 q2=>by
  simp only[vL,Option.some.injEq,Prod.mk.injEq]at q1 q2;constructor<;>omega
 ge:=λ{b k t lo hi} h0 q=>by
  simp only[vL,Option.some.injEq,Prod.mk.injEq]at q;omega
 cut:=λ_=>Iff.rfl
 more:=Int.le_refl _
theorem qM{n:Int}{b:List Item}{k t lo hi:Int}(h:ix n b k t=some (lo,hi)):hi=t/\lo=wk n b k 201 t:=by
 unfold ix at h
 split at h
 ·cases h;exact⟨rfl,rfl⟩
 ·cases h
theorem My{n:Int}(hn:0<=n):Mh (qd n) (ix n) n where
 row:=λ{b} hb k t=>by
  rw[qd,ix,iG hb,Ic hb];cases dF b k (t+1) (t+n)<;>rfl
 mono:=λ{b k t1 t2 l1 h1 l2 h2} h0 h12 q1 q2=>by
  have e1:=qM q1;have e2:=qM q2;refine⟨by omega,λe=>?_⟩
  have:t1=t2:=by omega
  subst this;rw[e1.2,e2.2]
 ge:=λ{b k t lo hi} h0 q=>by have:=qM q;omega
 cut:=λ{b T k t lo hi} h=>by
  have key:t+n<=T->ix n (bL T b) k t=ix n b k t:=λq=>by
   rw[ix,ix,qy q,Ie _ _ (by omega)]
  constructor
  ·intro q;have:=qM q;rw[key (by omega)];exact q
  ·intro q;have:=qM q;rw[<-key (by omega)];exact q
 more:=hn
def jr(b:List Item):Prop:=oZ b/\∀x∈b,0<=x.aa.at_
theorem jr.nil:jr []:=⟨.nil,λ_ h=>absurd h List.not_mem_nil⟩
theorem jr.summed(l:List Item)(t:Int):jr (bV l t):=⟨xd l t,λx hx=>(Ku hx).1⟩
def uE(op n:Int):Prop:=(op≠14)/\(op=7->0<=n)/\(op=8->1<=n)/\(op=11->0<=n)
theorem S3{p:Prog}{W:b9}{op:Int}{name:ca}{n f:Int}{cs:List bc}{ks:List cr}{t:Int}(hop:4<=op)(hb:uE op n)(hk:∀i,jr (ks.getD i []))(ks':List cr)(hk':∀i,ks'.getD i []=bL t (ks.getD i []))(W':b9):
  BZ t (gV p W op name n f cs ks) (gV p W' op name n f cs ks'):=by
 obtain⟨b1,b2,b3,b4⟩:=hb;have k0:=hk 0;have k1:=hk 1;have t0:=sE k0.1;have t1:=sE k1.1;unfold gV;simp only[hk'];have n1:¬op=1:=by omega
 have n2:¬op=2:=by omega
 have n3:¬op=3:=by omega
 rw[if_neg n1,if_neg n1,if_neg n2,if_neg n2,if_neg n3,if_neg n3];by_cases h4:op=4
 ·rw[if_pos h4,if_pos h4];exact .nL (by rw[y7,y7,j8 (Int.le_refl _),j8 (Int.le_refl _)])
 rw[if_neg h4,if_neg h4];by_cases h5:op=5
 ·rw[if_pos h5,if_pos h5];exact .nL (Pb _ _ _)
 rw[if_neg h5,if_neg h5];by_cases h6:op=6
 ·rw[if_pos h6,if_pos h6];exact .nL (by rw[Jk,Jk,j8 (Int.le_refl _)])
 rw[if_neg h6,if_neg h6];by_cases h7:op=7
 ·rw[if_pos h7,if_pos h7];have:=b2 h7;exact .nL (by rw[sK,sK,j8 (by omega)])
 rw[if_neg h7,if_neg h7];by_cases h8:op=8
 ·rw[if_pos h8,if_pos h8];exact o9 (I1 (b3 h8)) t0 k0.2 t
 rw[if_neg h8,if_neg h8];by_cases h9:op=9
 ·rw[if_pos h9,if_pos h9];exact o9 Gw t0 k0.2 t
 rw[if_neg h9,if_neg h9];by_cases h10:op=10
 ·rw[if_pos h10,if_pos h10];exact o9 Gd t0 k0.2 t
 rw[if_neg h10,if_neg h10];by_cases h11:op=11
 ·rw[if_pos h11,if_pos h11];exact o9 (My (b4 h11)) t0 k0.2 t
 rw[if_neg h11,if_neg h11];by_cases h12:op=12
 ·rw[if_pos h12,if_pos h12];exact .nL (SD t1 _ _ _ _)
 rw[if_neg h12,if_neg h12];by_cases h13:op=13
 ·rw[if_pos h13,if_pos h13];exact .nL (SE t1 _ _ _)
 rw[if_neg h13,if_neg h13,if_neg b1,if_neg b1];exact .nL (by rw[Jj,Jj,j8 (Int.le_refl _)])
structure uB(p:Prog)(t:Int)(W W':b9)(e:bw):Prop where
 src:e.op=1->bL t (W.az.getD (idx p.az e.name).toNat [])=bL t (W'.az.getD (idx p.az e.name).toNat [])
 ref:e.op=2->bL t (W.aj.getD (idx (an p) e.name).toNat [])=bL t (W'.aj.getD (idx (an p) e.name).toNat [])
 prev:e.op=3->bL (t-e.n) (W.aj.getD (idx (an p) e.name).toNat [])=bL (t-e.n) (W'.aj.getD (idx (an p) e.name).toNat [])
theorem Fq(t:Int)(ks:List cr)(i:Nat):(ks.map (bL t)).getD i []=bL t (ks.getD i []):=by
 rw[List.getD_eq_getElem?_getD,List.getD_eq_getElem?_getD,List.getElem?_map];cases ks[i]? <;>rfl
theorem yS{ks:List cr}(h:∀b∈ks,jr b)(i:Nat):jr (ks.getD i []):=by
 rw[List.getD_eq_getElem?_getD];cases q:ks[i]? with
 |none=>exact .nil
 |some b=>exact h b (List.mem_of_getElem? q)
theorem QW{p:Prog}{W W':b9}{op:Int}{name:ca}{n f:Int}{cs:List bc}{kids:List bw}{t:Int}(hop:1<=op)(hb:uE op n)(hs:uB p t W W' (.mk op name n f cs kids)){ks:List cr}(hk:∀b∈ks,jr b):
  BZ t (gV p W op name n f cs ks) (gV p W' op name n f cs (ks.map (bL t))):=by
 by_cases h4:4<=op
 ·exact S3 h4 hb (yS hk) _ (Fq t ks) W'
 ·by_cases h1:op=1
  ·subst h1;exact .nL (hs.src rfl)
  ·by_cases h2:op=2
   ·subst h2;exact .nL (hs.ref rfl)
   ·have h3:op=3:=by omega
    subst h3;refine .nL ?_
    show bL t (dU n _)=bL t (dU n _)
    rw[sK,sK];exact congrArg _ (hs.prev rfl)
mutual
theorem kH{p:Prog}{W W':b9}{t T:Int}(ht:t<=T):∀(e:bw),(∀x∈bn e,1<=x.op/\uE x.op x.n/\uB p t W W' x)->∀b,fW p W T e=some b->fW p W' t e=some (bL t b)/\jr b
 |.mk op name n f cs kids,hx,b,h=>by
  obtain⟨h1,h2,h3⟩:=hx (.mk op name n f cs kids) (by rw[bn];exact List.mem_cons_self ..)
  rw[fW]at h
  split at h
  ·cases h
  ·rename_i ks hks;obtain⟨q1,q2⟩:=DK ht kids (λx hx'=>hx x (by rw[bn];exact List.mem_cons_of_mem _ hx')) ks hks
   split at h
   ·rename_i hf;cases h;refine⟨?_,jr.summed _ _⟩;rw[fW,q1];simp only;have e:bV (gV p W' op name n f cs (ks.map (bL t))) t=bL t (bV (gV p W op name n f cs ks) T):=by
     rw[Gr _ ht];exact(QW h1 h2 h3 q2).symm.summed
    rw[e,if_pos (OZ hf t)]
   ·cases h
theorem DK{p:Prog}{W W':b9}{t T:Int}(ht:t<=T):∀(es:List bw),(∀x∈bu es,1<=x.op/\uE x.op x.n/\uB p t W W' x)->∀ks,gZ p W T es=some ks->gZ p W' t es=some (ks.map (bL t))/\∀b∈ks,jr b
 |[],_,ks,h=>by
  rw[gZ]at h;cases h;exact⟨by rw[gZ];rfl,λ_ h=>absurd h List.not_mem_nil⟩
 |e::es,hx,ks,h=>by
  rw[gZ]at h
  split at h
  ·cases h
  ·rename_i b hb
   split at h
   ·cases h
   ·rename_i bs wF;cases h;obtain⟨q1,q2⟩:=kH ht e (λx hx'=>hx x (by rw[bu];exact List.mem_append_left _ hx')) b hb
    obtain⟨q3,q4⟩:=DK ht es (λx hx'=>hx x (by rw[bu];exact List.mem_append_right _ hx')) bs wF
    refine⟨by rw[gZ,q1];simp only;rw[q3];rfl,λb' hb'=>?_⟩
    rcases List.mem_cons.1 hb' with e|e
    ·rw[e];exact q2
    ·exact q4 b' e
end
end Go.Aft
end
section
set_option maxRecDepth 20000
namespace Go.Aft
open Go.Proofs.Tryz
theorem ef(x:Item):∀r∈[ak x],r.length=4:=λr hr=>by simp only[List.mem_singleton]at hr;subst hr;rfl
theorem cS(l:List Item)(x:Item):l.map ak++[ak x]=(l++[x]).map ak:=by simp
theorem mI(f:Item->Bool)(l:List Item)(i:Nat):((l.take i).filter f).length<=i:=Nat.le_trans (List.length_filter_le _ _) (by simp;omega)
theorem rF(f:Item->Bool)(l:List Item)(x:Item):(l++[x]).filter f=l.filter f++(if f x=true then[x]else[]):=by
 rw[List.filter_append];cases h:f x<;>simp[h]
theorem xl(l:List Item)(n:Int)(hl:l.length<=1000)(hb:∀x∈l,0<=x.aa.at_/\x.aa.at_<=200)(hn:-50<=n/\n<=50):aC prog 201 [sl (l.map ak),aH n] (sl ((dU n l).map ak)):=by
 intro H;have cc:=ar (p:=aY [] [] []);refine aF.bD (ar (p:=aY [] [] [])) func201 rfl call201 (by rw[ntmps201];simp) rfl λhf hw=>?_
 simp[ntmps201,results201]at hf|-;refine AW.aU cc (λs:Nat×LV×GH=>⟨[(0,sl (l.map ak)),(1,aH n),(5,s.2.1),(6,aH s.1)],[],s.2.2⟩) (λs=>l.length-s.1)
  (λs=>s.1<=l.length/\cm 86 4 H s.2.1 ((dU n (l.take s.1)).map ak) s.2.2) (0,.d (.k (.slice none 0 0)),H) ⟨⟨Nat.zero_le _,cm.nil⟩,by simp⟩ ?_
 rintro⟨i,y,H2⟩ ⟨hi,aA⟩;simp only at hi aA;simp;refine⟨λh=>?_,λh=>?_⟩
 ·obtain⟨x,dc⟩:∃x,l[i]=x:=⟨_,rfl⟩;have hxm:=hb x (dc▸List.getElem_mem h);have fU:l.take (i+1)=l.take i++[x]:=by rw[<-aR h,dc]
  have eU:=aB (n:=9223372036854775807) (show i<9223372036854775807 by omega)
  have hwa:IntKind.i64.wrap (x.aa.at_+n)=x.aa.at_+n:=by rw[wrap64]<;>omega
  have dz:dU n (l.take i++[x])=dU n (l.take i)++[⟨⟨x.aa.at_+n,x.aa.key,x.aa.val⟩,x.n⟩]:=by simp[dU]
  rw[<-fU]at dz;have FY:(dU n (l.take i)).length<=i:=by simp[dU];omega
  simp[h,List.getElem?_eq_getElem h,dc,ak,aA.plain.all,hwa];refine eE.dJ (ys:=[ak ⟨⟨x.aa.at_+n,x.aa.key,x.aa.val⟩,x.n⟩]) eW rfl dO (by simp) (x:=y) (by simp) aA (by simp[ak,rowsOf]) (by simp) (bl _) (ef _) (by simp only[List.length_map,List.length_singleton];omega) (by simp) λx' H3 aG _ _=>?_
  simp[aG.plain.all,aG.only,eU];rw[cS,<-dz]at aG;exact NX.go (i+1,x',H3) (by simp only;omega) ⟨h,aG⟩ (by simp[aG.only])
 ·have:i=l.length:=by omega
  subst this;rw[List.take_length]at aA;simp[aA.plain.all];exact λhz=>⟨H,aO aA.nx aA.ob hw.none,by rw[aA.fz];trivial,aA.fz,rfl⟩
theorem ng(l:List Item)(k lo hi:Int)(hl:l.length<=1000):aC prog 236 [sl (l.map ak),aH k,aH lo,aH hi] (sl ((dF l k lo hi).map ak)):=by
 intro H;have cc:=ar (p:=aY [] [] []);refine aF.bD (ar (p:=aY [] [] [])) func236 rfl call236 (by rw[ntmps236];simp) rfl λhf hw=>?_
 simp[ntmps236,results236]at hf|-;refine AW.aU cc (λs:Nat×LV×GH=>⟨[(0,sl (l.map ak)),(1,aH k),(2,aH lo),(3,aH hi),(9,s.2.1),(10,aH s.1)],[],s.2.2⟩) (λs=>l.length-s.1)
  (λs=>s.1<=l.length/\cm 86 4 H s.2.1 ((dF (l.take s.1) k lo hi).map ak) s.2.2) (0,.d (.k (.slice none 0 0)),H) ⟨⟨Nat.zero_le _,cm.nil⟩,by simp⟩ ?_
 rintro⟨i,y,H2⟩ ⟨hi',aA⟩;simp only at hi' aA;simp;refine⟨λh=>?_,λh=>?_⟩
 ·obtain⟨x,dc⟩:∃x,l[i]=x:=⟨_,rfl⟩;have fU:l.take (i+1)=l.take i++[x]:=by rw[<-aR h,dc]
  have eU:=aB (n:=9223372036854775807) (show i<9223372036854775807 by omega)
  have dz:=rF (λx=>decide (x.aa.key=k/\lo<=x.aa.at_/\x.aa.at_<=hi)) (l.take i) x
  rw[<-fU]at dz;have FY:=mI (λx=>decide (x.aa.key=k/\lo<=x.aa.at_/\x.aa.at_<=hi)) l i
  simp[h,List.getElem?_eq_getElem h,dc,ak,aA.plain.all];refine⟨λq1 q2 q3=>?_,λq=>?_⟩
  ·refine eE.dJ (ys:=[ak x]) uP rfl dO (by simp) (x:=y) (by simp) aA (by simp[ak,rowsOf]) (by simp) (bl _) (ef _) (by simp only[List.length_map,List.length_singleton,dF];omega) (by simp) λx' H3 aG _ _=>?_
   simp[aG.plain.all,aG.only,eU];rw[if_pos (decide_eq_true ⟨q1,q2,q3⟩)]at dz;rw[cS,dF,<-dz]at aG;exact NX.go (i+1,x',H3) (by simp only;omega) ⟨h,aG⟩ (by simp[aG.only])
  ·rw[if_neg (by simp;omega),List.append_nil]at dz
   refine NX.go (i+1,y,H2) (by simp only;omega) ⟨h,?_⟩ (by simp[aA.only,eU])
   simp only[dF]at aA|-;rw[dz];exact aA
 ·have:i=l.length:=by omega
  subst this;rw[List.take_length]at aA;simp[aA.plain.all];exact λhz=>⟨H,aO aA.nx aA.ob hw.none,by rw[aA.fz];trivial,aA.fz,rfl⟩
def L5(lo hi:Int)(l:List Item):List Item:=l.filter λx=>decide (lo<=x.aa.at_/\x.aa.at_<=hi)
theorem Oa(l:List Item)(lo hi:Int)(hl:l.length<=1000000):aC prog 36 [sl (l.map ak),aH lo,aH hi] (sl ((L5 lo hi l).map ak)):=by
 intro H;have cc:=ar (p:=aY [] [] []);refine aF.bD (ar (p:=aY [] [] [])) func36 rfl call36 (by rw[ntmps36];simp) rfl λhf hw=>?_
 simp[ntmps36,results36]at hf|-;refine AW.aU cc (λs:Nat×LV×GH=>⟨[(1,aH lo),(2,aH hi),(7,s.2.1),(10,sl (l.map ak)),(11,aH l.length),(12,aH s.1)],[],s.2.2⟩) (λs=>l.length-s.1)
  (λs=>s.1<=l.length/\cm 86 4 H s.2.1 ((L5 lo hi (l.take s.1)).map ak) s.2.2) (0,.d (.k (.slice none 0 0)),H) ⟨⟨Nat.zero_le _,cm.nil⟩,by simp⟩ ?_
 rintro⟨i,y,H2⟩ ⟨hi',aA⟩;simp only at hi' aA;simp;refine⟨λh=>?_,λh=>?_⟩
 ·obtain⟨x,dc⟩:∃x,l[i]=x:=⟨_,rfl⟩;have fU:l.take (i+1)=l.take i++[x]:=by rw[<-aR h,dc]
  have eU:=aB (n:=9223372036854775807) (show i<9223372036854775807 by omega)
  have dz:=rF (λx=>decide (lo<=x.aa.at_/\x.aa.at_<=hi)) (l.take i) x
  rw[<-fU]at dz;have FY:=mI (λx=>decide (lo<=x.aa.at_/\x.aa.at_<=hi)) l i
  simp[h,List.getElem?_eq_getElem h,dc,ak,aA.plain.all];refine⟨λq1 q2=>?_,λq=>?_⟩
  ·refine eE.dJ (ys:=[ak x]) uP rfl dO (by simp) (x:=y) (by simp) aA (by simp[ak,rowsOf]) (by simp) (bl _) (ef _) (by simp only[List.length_map,List.length_singleton,L5];omega) (by simp) λx' H3 aG _ _=>?_
   simp[aG.plain.all,aG.only,eU];rw[if_pos (decide_eq_true ⟨q1,q2⟩)]at dz;rw[cS,L5,<-dz]at aG;exact NX.go (i+1,x',H3) (by simp only;omega) ⟨h,aG⟩ (by simp[aG.only])
  ·rw[if_neg (by simp;omega),List.append_nil]at dz
   exact NX.go (i+1,y,H2) (by simp only;omega) ⟨h,by simp only[L5]at aA|-;rw[dz];exact aA⟩ (by simp[aA.only,eU])
 ·have:i=l.length:=by omega
  subst this;rw[List.take_length]at aA;simp[aA.plain.all];exact λhz=>⟨H,aO aA.nx aA.ob hw.none,by rw[aA.fz];trivial,aA.fz,rfl⟩
theorem zH(l:List Item)(r:Rec)(n:Int)(hl:l.length<=1000)(hr:0<=r.at_/\r.at_<=200)(hn:-50<=n/\n<=50):aC prog 206 [sl (l.map ak),lv (bN r),aH n] (sl ((dF l r.key (r.at_-n) (r.at_+n)).map ak)):=by
 intro H;have cc:=ar (p:=aY [4] [] []);refine aF.bD (ar (p:=aY [4] [] [])) func206 rfl call206 (by rw[ntmps206];simp) rfl λhf hw=>?_
 have hwa:IntKind.i64.wrap (r.at_+n)=r.at_+n:=by rw[wrap64]<;>omega
 have Rm:IntKind.i64.wrap (r.at_-n)=r.at_-n:=by rw[wrap64]<;>omega
 simp[ntmps206,results206,bN]at hf|-;refine AW.aU cc (λs:Nat×LV×GH=>⟨[(0,sl (l.map ak)),(2,aH n),(4,.ip [aH r.at_,aH r.key,aH r.val] 0),(7,s.2.1),(8,aH s.1)],[],s.2.2⟩) (λs=>l.length-s.1)
  (λs=>s.1<=l.length/\cm 86 4 H s.2.1 ((dF (l.take s.1) r.key (r.at_-n) (r.at_+n)).map ak) s.2.2) (0,.d (.k (.slice none 0 0)),H) ⟨⟨Nat.zero_le _,cm.nil⟩,by simp⟩ ?_
 rintro⟨i,y,H2⟩ ⟨hi',aA⟩;simp only at hi' aA;simp;refine⟨λh=>?_,λh=>?_⟩
 ·obtain⟨x,dc⟩:∃x,l[i]=x:=⟨_,rfl⟩;have fU:l.take (i+1)=l.take i++[x]:=by rw[<-aR h,dc]
  have eU:=aB (n:=9223372036854775807) (show i<9223372036854775807 by omega)
  have dz:=rF (λx=>decide (x.aa.key=r.key/\r.at_-n<=x.aa.at_/\x.aa.at_<=r.at_+n)) (l.take i) x
  rw[<-fU]at dz;have FY:=mI (λx=>decide (x.aa.key=r.key/\r.at_-n<=x.aa.at_/\x.aa.at_<=r.at_+n)) l i
  refine AW.draw cc [] (.q 0<|.q 1<|.q 2<|.q 3<|.q 4<|.q 6<|.q 5<|.q 7<|.q 8<|.q 9<|.q 10<|.q 11<|.q 12<|.q 13<|.q 14<|.q 16<|.q 18<|.q 15<|.q 17<|.q 19<|.q 20<|.q 21<|.q 22<|.q 23<|.q 24<|.q 25<|.q 26<|.q 27<|.q 29<|.q 31<|.q 28<|.q 30<|.q 32<|.q 33<|.q 34<|.done) (by kernel_rfl) ?_
  simp[h,List.getElem?_eq_getElem h,dc,ak,aA.plain.all,hwa,Rm];refine⟨λq1 q2 q3=>?_,λq=>?_⟩
  ·refine eE.dJ (ys:=[ak x]) eW rfl dO (by simp) (x:=y) (by simp) aA (by simp[ak,rowsOf]) (by simp) (bl _) (ef _) (by simp only[List.length_map,List.length_singleton,dF];omega) (by simp) λx' H3 aG _ _=>?_
   simp[aG.plain.all,aG.only,eU];rw[if_pos (decide_eq_true ⟨q1,by omega,by omega⟩)]at dz
   rw[cS,dF,<-dz]at aG;exact NX.go (i+1,x',H3) (by simp only;omega) ⟨h,aG⟩ (by simp[aG.only])
  ·rw[if_neg (by simp;omega),List.append_nil]at dz
   refine NX.go (i+1,y,H2) (by simp only;omega) ⟨h,?_⟩ (by simp[aA.only,eU])
   simp only[dF]at aA|-;rw[dz];exact aA
 ·have:i=l.length:=by omega
  subst this;rw[List.take_length]at aA;simp[aA.plain.all];exact λhz=>⟨H,aO aA.nx aA.ob hw.none,by rw[aA.fz];trivial,aA.fz,rfl⟩
theorem KE(l:List Item):aC prog 145 [sl (l.map ak)] (.d (.k (.bool (gH l)))):=by
 have cc:=ar (p:=aY [] [] []);refine aC.body (ar (p:=aY [] [] [])) func145 rfl call145 (by rw[ntmps145];simp) rfl λhf H=>?_
 simp[ntmps145,results145]at hf|-;refine⟨λq=>?_,λq=>?_⟩
 ·have h2:¬l.length<=300:=by omega
  simp[gH,h2]
 have h3:l.length<=300:=by omega
 refine AW.aU cc (λi:Nat=>⟨[(0,sl (l.map ak)),(3,aH i)],[],H⟩) (λi=>l.length-i) (λi=>i<=l.length/\∀x∈l.take i,x.n<=1000000) 0 ⟨⟨Nat.zero_le _,by simp⟩,by simp⟩ ?_
 rintro i ⟨hi,hall⟩;simp;refine⟨λh=>?_,λh=>?_⟩
 ·obtain⟨x,dc⟩:∃x,l[i]=x:=⟨_,rfl⟩;have fU:l.take (i+1)=l.take i++[x]:=by rw[<-aR h,dc]
  have eU:=aB (n:=9223372036854775807) (show i<9223372036854775807 by omega)
  simp[h,List.getElem?_eq_getElem h,dc,ak];refine⟨λq=>?_,λq=>?_⟩
  ·simp only[gH,Bool.eq_false_iff,ne_eq,Bool.and_eq_true,List.all_eq_true,decide_eq_true_eq,not_and];intro _ w;have:=w x (dc▸List.getElem_mem h);omega
  ·refine NX.go (i+1) (by omega) ⟨h,λz hz=>?_⟩ (by simp[eU])
   rw[fU]at hz;rcases List.mem_append.1 hz with w|w
   ·exact hall z w
   ·rw[List.mem_singleton.1 w];omega
 ·have:i=l.length:=by omega
  subst this;rw[List.take_length]at hall;simp only[gH,Bool.and_eq_true,List.all_eq_true,decide_eq_true_eq];simp[h3];exact λx hx=>hall x hx
theorem CS(l:List Item)(y:Item)(hl:l.length<=1000000):aC prog 237 [sl (l.map ak),lv (ak y)] (.d (.k (.bool (decide (y∈l))))):=by
 have cc:=ig (p:=aY [3] [] []);refine aC.body (ig (p:=aY [3] [] [])) func237 rfl call237 (by rw[ntmps237];simp) rfl λhf H=>?_
 simp[ntmps237,results237]at hf|-;refine AW.aU cc (λi:Nat=>⟨[(0,sl (l.map ak)),(3,.ip ((ak y).map .d) 0),(5,aH i)],[],H⟩) (λi=>l.length-i) (λi=>i<=l.length/\y∉l.take i) 0 ⟨⟨Nat.zero_le _,by simp⟩,by simp[ak]⟩ ?_
 rintro i ⟨hi,hall⟩;simp;refine⟨λh=>?_,λh=>?_⟩
 ·obtain⟨x,dc⟩:∃x,l[i]=x:=⟨_,rfl⟩;have hxm:x∈l:=dc▸List.getElem_mem h;have fU:l.take (i+1)=l.take i++[x]:=by rw[<-aR h,dc]
  have eU:=aB (n:=9223372036854775807) (show i<9223372036854775807 by omega)
  have hxy:x=y↔x.aa.at_=y.aa.at_/\x.aa.key=y.aa.key/\x.aa.val=y.aa.val/\x.n=y.n:=by
   obtain⟨⟨a,b,c⟩,d⟩:=x;obtain⟨⟨a',b',c'⟩,d'⟩:=y;simp;simp[and_assoc]
  refine AW.draw cc [] (.q 0<|.q 1<|.q 2<|.q 3<|.q 4<|.q 5<|.done) (by kernel_rfl) ?_
  simp[h,List.getElem?_eq_getElem h,dc,ak];refine⟨λq1 q2 q3 q4=>(hxy.2 ⟨q1,q2,q3,q4⟩)▸hxm,λq=>?_⟩
  refine NX.go (i+1) (by omega) ⟨h,λw=>?_⟩ (by simp[eU,ak])
  rw[fU]at w;rcases List.mem_append.1 w with w|w
  ·exact hall w
  ·have e:=hxy.1 (List.mem_singleton.1 w).symm;exact q e.1 e.2.1 e.2.2.1 e.2.2.2
 ·have:i=l.length:=by omega
  subst this;rw[List.take_length]at hall;simp[hall]
end Go.Aft
end
section
set_option maxRecDepth 20000
namespace Go.Aft
abbrev fC(p:Prog)(d:Nat):bw:=(p.aj.getD d default).exp
abbrev cH(l:List cr)(d:Nat):cr:=l.getD d []
theorem DN{p:Prog}{W:b9}{T:Int}{e:bw}(he:∀x∈bn e,1<=x.op/\uE x.op x.n){b:cr}(h:fW p W T e=some b):bL T b=b/\jr b:=by
 obtain⟨q1,q2⟩:=kH (W':=W) (Int.le_refl T) e (λx hx=>⟨(he x hx).1,(he x hx).2,⟨λ_=>rfl,λ_=>rfl,λ_=>rfl⟩⟩) b h
 rw[h]at q1;exact⟨(Option.some.inj q1).symm,q2⟩
structure BW(p:Prog)(g:List Nat)(far:Int):Prop where
 inc:g.Pairwise (·<·)
 back:∀d∈g,∀x∈bn (fC p d),1<=x.op/\uE x.op x.n
 ref:∀d∈g,∀x∈bn (fC p d),x.op=2->(idx (an p) x.name).toNat∈g->(idx (an p) x.name).toNat<d
 prev:∀d∈g,∀x∈bn (fC p d),x.op=3->(idx (an p) x.name).toNat∈g->far<=x.n
 pos:1<=far
theorem BW.one{p:Prog}{g:List Nat}{far:Int}(h:BW p g far):BW p g 1:=⟨h.inc,h.back,h.ref,λd hd x hx h3 hi=>by have:=h.prev d hd x hx h3 hi;have:=h.pos;omega,Int.le_refl _⟩
theorem BW.nodup{p:Prog}{g:List Nat}{far:Int}(h:BW p g far):g.Nodup:=h.inc.imp λq=>Nat.ne_of_lt q
def Ea(p:Prog)(az:List cr)(g:List Nat)(T:Int)(u:List cr):Prop:=∀d∈g,fW p ⟨az,u⟩ T (fC p d)=some (cH u d)
def Out(g:List Nat)(u v:List cr):Prop:=u.length=v.length/\∀k,k∉g->cH u k=cH v k
theorem Out.symm{g:List Nat}{u v:List cr}(h:Out g u v):Out g v u:=⟨h.1.symm,λk hk=>(h.2 k hk).symm⟩
theorem Out.trans{g:List Nat}{u v w:List cr}(h:Out g u v)(k:Out g v w):Out g u w:=⟨h.1.trans k.1,λi hi=>(h.2 i hi).trans (k.2 i hi)⟩
theorem Jl{b:List Item}(h:∀x∈b,0<=x.aa.at_){t:Int}(ht:t<0):bL t b=[]:=List.filter_eq_nil_iff.2 λx hx=>by
 have:=h x hx;simp;omega
section
variable {p:Prog} {az:List cr} {g:List Nat} {far:Int} (hg:BW p g far)
include hg
theorem Ea.self{T:Int}{u:List cr}(h:Ea p az g T u){d:Nat}(hd:d∈g):bL T (cH u d)=cH u d/\jr (cH u d):=DN (hg.back d hd) (h d hd)
theorem Kx{T:Int}{u v:List cr}(hu:Ea p az g T u)(hv:Ea p az g T v)(ho:Out g u v):∀d∈g,cH u d=cH v d:=by
 have key:∀(N:Nat) (D:Nat),∀t:Int,t<N->t<=T->∀d∈g,d<D->bL t (cH u d)=bL t (cH v d):=by
  intro N
  induction N with
  |zero=>
   intro D t ht _ d hd _;rw[Jl (Ea.self hg hu hd).2.2 (by omega),Jl (Ea.self hg hv hd).2.2 (by omega)]
  |succ N ihN=>
   intro D
   induction D with
   |zero=>intro t _ _ d _ hd;omega
   |succ D ihD=>
    intro t ht hT d hd IV;have LD:∀x∈bn (fC p d),uB p t ⟨az,u⟩ ⟨az,v⟩ x:=λx hx=>by
     refine⟨λ_=>rfl,λh2=>?_,λh3=>?_⟩
     ·by_cases hk:(idx (an p) x.name).toNat∈g
      ·have:=hg.ref d hd x hx h2 hk;exact ihD t ht hT _ hk (by omega)
      ·exact congrArg _ (ho.2 _ hk)
     ·by_cases hk:(idx (an p) x.name).toNat∈g
      ·have:=hg.prev d hd x hx h3 hk;have:=hg.pos;exact ihN ((idx (an p) x.name).toNat+1) (t-x.n) (by omega) (by omega) _ hk (by omega)
      ·exact congrArg _ (ho.2 _ hk)
    have q1:=(kH (p:=p) (W:=⟨az,u⟩) (W':=⟨az,v⟩) hT (fC p d) (λx hx=>⟨(hg.back d hd x hx).1,(hg.back d hd x hx).2,LD x hx⟩) _ (hu d hd)).1
    have q2:=(kH (p:=p) (W:=⟨az,v⟩) (W':=⟨az,v⟩) hT (fC p d) (λx hx=>⟨(hg.back d hd x hx).1,(hg.back d hd x hx).2,⟨λ_=>rfl,λ_=>rfl,λ_=>rfl⟩⟩) _ (hv d hd)).1
    rw[q1]at q2;exact Option.some.inj q2
 intro d hd;have:=key (T+1).toNat (d+1) T (by omega) (Int.le_refl _) d hd (by omega)
 rwa[(Ea.self hg hu hd).1,(Ea.self hg hv hd).1]at this
def Jm(g:List Nat)(t:Int)(u:List cr):List cr:=(List.range u.length).map λk=>if k∈g then bL t (cH u k)else cH u k
omit hg in
theorem vt(t:Int)(u:List cr)(k:Nat):cH (Jm g t u) k=if k∈g then bL t (cH u k)else cH u k:=by
 unfold cH Jm;rw[List.getD_eq_getElem?_getD,List.getElem?_map];by_cases h:k<u.length
 ·rw[List.getElem?_range h];rfl
 ·rw[List.getElem?_eq_none (by simpa using h)]
  have:u.getD k []=[]:=by rw[List.getD_eq_getElem?_getD,List.getElem?_eq_none (by omega)];rfl
  rw[this]
  split<;>rfl
omit hg in
theorem Bq(t:Int)(u:List cr):Out g (Jm g t u) u:=⟨by simp[Jm],λk hk=>by rw[vt,if_neg hk]⟩
theorem Eu{T T':Int}{u:List cr}(h:T<=T')(hu:Ea p az g T' u):Ea p az g T (Jm g T u):=λd hd=>by
 rw[vt,if_pos hd];refine(kH (p:=p) (W:=⟨az,u⟩) (W':=⟨az,Jm g T u⟩) h (fC p d) (λx hx=>⟨(hg.back d hd x hx).1,(hg.back d hd x hx).2,λ_=>rfl,λh2=>?_,λh3=>?_⟩) _ (hu d hd)).1
 ·show bL T (cH u _)=bL T (cH (Jm g T u) _)
  rw[vt]
  split
  ·rw[j8 (Int.le_refl _)]
  ·rfl
 ·show bL (T-x.n) (cH u _)=bL (T-x.n) (cH (Jm g T u) _)
  rw[vt]
  split
  ·rename_i hk;have:=hg.prev d hd x hx h3 hk;have:=hg.pos;rw[j8 (by omega)]
  ·rfl
theorem Ky{T T':Int}{u v:List cr}(h:T<=T')(hu:Ea p az g T' u)(hv:Ea p az g T v)(ho:Out g u v){d:Nat}(hd:d∈g):bL T (cH u d)=cH v d:=by
 have:=Kx hg (Eu hg h hu) hv ((Bq T u).trans ho) d hd
 rwa[vt,if_pos hd]at this
omit hg in
theorem lU{l:List cr}{d:Nat}(hd:d<l.length)(b:cr)(k:Nat):cH (l.set d b) k=if k=d then b else cH l k:=by
 unfold cH;rw[List.getD_eq_getElem?_getD,List.getElem?_set,List.getD_eq_getElem?_getD];by_cases h:d=k
 ·subst h;rw[if_pos rfl,if_pos hd,if_pos rfl];rfl
 ·rw[if_neg h,if_neg λq=>h q.symm]
omit hg in
theorem vY{T:Int}:∀(g:List Nat) (aj D:List cr),gb p az T g aj=some D->g.Nodup->(∀d∈g,d<aj.length)->Out g D aj/\
  ∀pre d post,g=pre++d::post->∃E,(∀k∈pre,cH E k=cH D k)/\(∀k,k∉pre->cH E k=cH aj k)/\fW p ⟨az,E⟩ T (fC p d)=some (cH D d)
 |[],aj,D,h,_,_=>by
  rw[gb]at h;cases h;exact⟨⟨rfl,λ_ _=>rfl⟩,λpre d post q=>by cases pre<;>cases q⟩
 |d::g,aj,D,h,hn,hl=>by
  have hn':=List.nodup_cons.1 hn;rw[gb]at h
  split at h
  ·cases h
  ·rename_i defs1 h1;rw[CL]at h1
   split at h1
   ·cases h1
   ·rename_i b hb;have pL:=hl d (List.mem_cons_self ..);have e1:defs1=aj.set d b:=(Option.some.inj h1).symm;subst e1;obtain⟨⟨q0,q1⟩,q2⟩:=vY g _ D h hn'.2 (λk hk=>by rw[List.length_set];exact hl k (List.mem_cons_of_mem _ hk))
    have hDd:cH D d=b:=by rw[q1 d hn'.1,lU pL,if_pos rfl]
    refine⟨⟨by rw[q0,List.length_set],λk hk=>?_⟩,λpre d' post e=>?_⟩
    ·rw[q1 k λq=>hk (List.mem_cons_of_mem _ q),lU pL,if_neg λq=>hk (by rw[q];exact List.mem_cons_self ..)]
    ·cases pre with
     |nil=>
      simp only[List.nil_append,List.cons.injEq]at e;obtain⟨e1,e2⟩:=e;subst e1;exact⟨aj,λk hk=>absurd hk List.not_mem_nil,λ_ _=>rfl,by rw[hDd];exact hb⟩
     |cons c pre=>
      simp only[List.cons_append,List.cons.injEq]at e;obtain⟨e1,e2⟩:=e;subst e1;obtain⟨E,r1,r2,r3⟩:=q2 pre d' post e2;have hdp:d∉pre:=λq=>hn'.1 (by rw[e2];exact List.mem_append_left _ q)
      refine⟨E,λk hk=>?_,λk hk=>?_,r3⟩
      ·rcases List.mem_cons.1 hk with q|q
       ·subst q;rw[r2 k hdp,lU pL,if_pos rfl,hDd]
       ·exact r1 k q
      ·rw[r2 k λq=>hk (List.mem_cons_of_mem _ q),lU pL,if_neg λq=>hk (by rw[q];exact List.mem_cons_self ..)]
omit hg in
theorem MK{g pre post:List Nat}{d k:Nat}(hi:g.Pairwise (·<·))(e:g=pre++d::post)(hk:k∈g)(h:k<d):k∈pre:=by
 rw[e]at hk hi;rcases List.mem_append.1 hk with q|q
 ·exact q
 ·rcases List.mem_cons.1 q with q|q
  ·omega
  ·have:=(List.pairwise_cons.1 (List.pairwise_append.1 hi).2.1).1 k q;omega
theorem KV{T T':Int}{aj D:List cr}(hl:∀d∈g,d<aj.length)(hT:T<=T')(hf:T'<=T+far)(hs:Ea p az g T aj)(h:gb p az T' g aj=some D):Ea p az g T' D/\Out g D aj:=by
 obtain⟨ho,hsp⟩:=vY g aj D h hg.nodup hl
 --what was known stays
 have LO:∀(pre:List Nat) (post:List Nat),g=pre++post->∀k∈pre,bL T (cH D k)=cH aj k:=by
  refine iv ?_ λpre d ih=>?_
  ·intro _ _ k hk;exact absurd hk List.not_mem_nil
  ·intro post e k hk;have e':g=pre++d::post:=by rw[e];simp
   have ih':=ih (d::post) e';rcases List.mem_append.1 hk with q|q
   ·exact ih' k q
   ·have:=List.mem_singleton.1 q;subst this;have hkg:k∈g:=by rw[e'];simp
    obtain⟨E,r1,r2,r3⟩:=hsp pre k post e';have LD:∀x∈bn (fC p k),uB p T ⟨az,E⟩ ⟨az,aj⟩ x:=λx hx=>by
     have hall:∀t,t<=T->∀j,bL t (cH E j)=bL t (cH aj j):=λt ht j=>by
      by_cases hj:j∈pre
      ·rw[r1 j hj,<-ih' j hj,j8 ht]
      ·rw[r2 j hj]
     refine⟨λ_=>rfl,λh2=>hall T (Int.le_refl _) _,λh3=>?_⟩
     by_cases hj:(idx (an p) x.name).toNat∈pre
     ·have:=hg.prev k hkg x hx h3 (by rw[e'];exact List.mem_append_left _ hj)
      have:=hg.pos;exact hall (T-x.n) (by omega) _
     ·exact congrArg _ (r2 _ hj)
    have q1:=(kH (p:=p) (W:=⟨az,E⟩) (W':=⟨az,aj⟩) hT (fC p k) (λx hx=>⟨(hg.back k hkg x hx).1,(hg.back k hkg x hx).2,LD x hx⟩) _ r3).1
    rw[hs k hkg]at q1;exact(Option.some.inj q1).symm
 refine⟨λd hd=>?_,ho⟩
 obtain⟨pre,post,e⟩:=List.append_of_mem hd;obtain⟨E,r1,r2,r3⟩:=hsp pre d post e;have LD:∀x∈bn (fC p d),uB p T' ⟨az,E⟩ ⟨az,D⟩ x:=λx hx=>by
  refine⟨λ_=>rfl,λh2=>?_,λh3=>?_⟩
  ·by_cases hk:(idx (an p) x.name).toNat∈g
   ·exact congrArg _ (r1 _ (MK hg.inc e hk (hg.ref d hd x hx h2 hk)))
   ·refine congrArg _ ((r2 _ λq=>hk ?_).trans (ho.2 _ hk).symm)
    rw[e];exact List.mem_append_left _ q
  ·by_cases hk:(idx (an p) x.name).toNat∈g
   ·by_cases hj:(idx (an p) x.name).toNat∈pre
    ·exact congrArg _ (r1 _ hj)
    ·have:=hg.prev d hd x hx h3 hk
     show bL (T'-x.n) (cH E _)=bL (T'-x.n) (cH D _)
     rw[r2 _ hj,<-LO g [] (by simp) _ hk,j8 (by omega)]
   ·refine congrArg _ ((r2 _ λq=>hk ?_).trans (ho.2 _ hk).symm)
    rw[e];exact List.mem_append_left _ q
 have q1:=(kH (p:=p) (W:=⟨az,E⟩) (W':=⟨az,D⟩) (Int.le_refl T') (fC p d) (λx hx=>⟨(hg.back d hd x hx).1,(hg.back d hd x hx).2,LD x hx⟩) _ r3).1
 rw[q1,(DN (hg.back d hd) r3).1]
theorem th{T T':Int}{aj u:List cr}(hl:∀d∈g,d<aj.length)(hT:T<=T')(hf:T'<=T+far)(hs:Ea p az g T aj)(hu:Ea p az g T' u)(ho:Out g u aj):gb p az T' g aj=some u:=by
 have LO:∀k∈g,bL T (cH u k)=cH aj k:=λk hk=>Ky hg hT hu hs ho hk
 have key:∀(post pre:List Nat) (Di:List cr),g=pre++post->Di.length=u.length->(∀k,k∉post->cH Di k=cH u k)->(∀k∈post,cH Di k=cH aj k)->gb p az T' post Di=some u:=by
  intro post
  induction post with
  |nil=>
   intro pre Di _ hlen h1 _;rw[gb]
   congr 1
   refine List.ext_getElem hlen λi q1 q2=>?_
   have:=h1 i List.not_mem_nil;unfold cH at this
   rwa[List.getD_eq_getElem?_getD,List.getD_eq_getElem?_getD,List.getElem?_eq_getElem q1,List.getElem?_eq_getElem q2]at this
  |cons d post ih=>
   intro pre Di e hlen h1 h2;have hdg:d∈g:=by rw[e];simp
   have uk:=hg.nodup;rw[e]at uk;have hdp:d∉post:=(List.nodup_cons.1 (List.nodup_append.1 uk).2.1).1;have LD:∀x∈bn (fC p d),uB p T' ⟨az,u⟩ ⟨az,Di⟩ x:=λx hx=>by
    refine⟨λ_=>rfl,λA7=>?_,λh3=>?_⟩
    ·refine congrArg _ (h1 _ λq=>?_).symm
     have hk:(idx (an p) x.name).toNat∈g:=by rw[e];exact List.mem_append_right _ q
     have hlt:=hg.ref d hdg x hx A7 hk;have hpre:=MK hg.inc e hk hlt;exact(List.nodup_append.1 uk).2.2 _ hpre _ q rfl
    ·by_cases hk:(idx (an p) x.name).toNat∈d::post
     ·have hkg:(idx (an p) x.name).toNat∈g:=by rw[e];exact List.mem_append_right _ hk
      have:=hg.prev d hdg x hx h3 hkg
      show bL (T'-x.n) (cH u _)=bL (T'-x.n) (cH Di _)
      rw[h2 _ hk,<-LO _ hkg,j8 (by omega)]
     ·exact congrArg _ (h1 _ hk).symm
   have q1:=(kH (p:=p) (W:=⟨az,u⟩) (W':=⟨az,Di⟩) (Int.le_refl T') (fC p d) (λx hx=>⟨(hg.back d hdg x hx).1,(hg.back d hdg x hx).2,LD x hx⟩) _ (hu d hdg)).1
   rw[(Ea.self hg hu hdg).1]at q1;have pL:d<Di.length:=by rw[hlen,ho.1];exact hl d hdg
   rw[gb,CL,q1];simp only;refine ih (pre++[d]) _ (by rw[e];simp) (by rw[List.length_set];exact hlen) (λk hk=>?_) (λk hk=>?_)
   ·rw[lU pL]
    split
    ·rename_i q;rw[q]
    ·rename_i q;exact h1 k λw=>(List.mem_cons.1 w).elim q hk
   ·have hne:k≠d:=λq=>hdp (q▸hk)
    rw[lU pL,if_neg hne];exact h2 k (List.mem_cons_of_mem _ hk)
 exact key g [] aj (by simp) ho.1.symm (λk hk=>(ho.2 k hk).symm) λ_ _=>rfl
theorem uQ:∀(f:Nat) (T top:Int) (aj D:List cr),(∀d∈g,d<aj.length)->T<=top->top<=T+far->top<=200->200-top<f->Ea p az g T aj->
  (ir p az far g f top aj=some D↔Ea p az g 200 D/\Out g D aj)
 |0,T,top,aj,D,hl,h1,h2,h3,h4,hs=>by omega
 |f+1,T,top,aj,D,hl,h1,h2,h3,h4,hs=>by
  have hpos:=hg.pos;rw[ir];constructor
  ·intro h
   split at h
   ·cases h
   ·rename_i defs1 hp;obtain⟨q1,q2⟩:=KV hg hl h1 h2 hs hp
    split at h
    ·rename_i e;cases h;rw[e]at q1;exact⟨q1,q2⟩
    ·rename_i e;have hm:ic (top+far) 200=if 200<top+far then 200 else top+far:=rfl
     have:=(uQ f top (ic (top+far) 200) defs1 D (λd hd=>by rw[q2.1];exact hl d hd) (by rw[hm];split<;>omega) (by rw[hm];split<;>omega) (by rw[hm];split<;>omega) (by rw[hm];split<;>omega) q1).1 h
     exact⟨this.1,this.2.trans q2⟩
  ·rintro⟨hD,hO⟩;have hp:=th hg hl h1 h2 hs (Eu hg h3 hD) ((Bq top D).trans hO);rw[hp];simp only;by_cases e:top=200
   ·rw[if_pos e];have hp2:=th hg hl h1 h2 hs (by rw[e];exact hD) hO
    rw[hp]at hp2;exact hp2
   ·rw[if_neg e];have hm:ic (top+far) 200=if 200<top+far then 200 else top+far:=rfl
    have ho:=(Bq (g:=g) top D);exact(uQ f top (ic (top+far) 200) _ D (λd hd=>by rw[ho.1,hO.1];exact hl d hd) (by rw[hm];split<;>omega) (by rw[hm];split<;>omega) (by rw[hm];split<;>omega) (by rw[hm];split<;>omega) (Eu hg h3 hD)).2 ⟨hD,ho.symm⟩
omit hg in
theorem Gp(l:List Item):bV l (-1)=[]:=by
 have:l.filter (λx=>decide (0<=x.aa.at_/\x.aa.at_<= -1))=[]:=List.filter_eq_nil_iff.2 λx _=>by simp;omega
 rw[bV,this];rfl
omit hg in
mutual
theorem Jb(W:b9):∀e:bw,fW p W (-1) e=some []
 |.mk op name n f cs kids=>by
  obtain⟨ks,h⟩:=DJ W kids;rw[fW,h];simp only[Gp];rfl
theorem DJ(W:b9):∀es:List bw,∃ks,gZ p W (-1) es=some ks
 |[]=>⟨[],by rw[gZ]⟩
 |e::es=>by
  obtain⟨ks,h⟩:=DJ W es;exact⟨[]::ks,by rw[gZ,Jb W e,h]⟩
end
omit hg in
theorem Mt{aj:List cr}(h:∀d∈g,cH aj d=[]):Ea p az g (-1) aj:=λd hd=>by rw[h d hd,Jb]
theorem NS{aj:List cr}(hl:∀d∈g,d<aj.length)(h0:∀d∈g,cH aj d=[]):ir p az far g 202 (ic (far-1) 200) aj=ir p az 1 g 202 0 aj:=by
 have hpos:=hg.pos;have hm:ic (far-1) 200=if 200<far-1 then 200 else far-1:=rfl
 refine Option.ext λD=>?_
 rw[uQ hg 202 (-1) (ic (far-1) 200) aj D hl (by rw[hm];split<;>omega) (by rw[hm];split<;>omega) (by rw[hm];split<;>omega) (by rw[hm];split<;>omega) (Mt h0),
  uQ hg.one 202 (-1) 0 aj D hl (by omega) (by omega) (by omega) (by omega) (Mt h0)]
end
end Go.Aft
end
