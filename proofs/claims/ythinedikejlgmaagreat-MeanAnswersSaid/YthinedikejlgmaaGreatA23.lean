import Derived.Test.YthinedikejlgmaaGreatA12
import Derived.ProofKit
import Derived.OpenShut
import Derived.ShutString
import Derived.ChangeOld
import Derived.Below
import Derived.Carry
import Derived.SizedLaws
import Derived.Test.YthinedikejlgmaaGreatA22
set_option linter.all false
section
namespace Go.Aft
open Go.RowKit
def allM(w:World):Mem:=λb o=>w.cell? ⟨b,o,none⟩
def BF(w:World):Gh:=⟨allM w,λ_=>.none,λ_=>0,λ_=>undef,λ_=>0⟩
def H0:GH:=⟨λ_=>none,0⟩
theorem Nr(w:World):MR (BF w) gP uF H0 w:=
 ⟨λb o v h=>h,λb o v h=>.inl rfl,λb hb=>⟨rfl,λo=>by
  simp only[BF,allM,World.cell?];rw[Array.getElem?_eq_none hb]⟩,λ_ _=>rfl,λk cs h=>(by cases h),λn o h=>(by cases h)⟩
theorem aC.calls{P:Program}{f:FuncId}{args:List LV}{v:LV}(h:aC P f args v)(w:World)(vs:List Value)(ha:bE (BF w) 0 gP args vs):
  Calls P f vs.toArray w λe w'=>(∃G x,e=.returned x/\LR G 0 gP v x)/\Below w.heap.size w w':=by
 refine Calls.mono ((h H0).2 (BF w) w vs (Nr w) (λb k q=>by cases q) ha) ?_
 rintro e w' ⟨ce,H',G',⟨rfl,rfl⟩,hE,hM,hN,hx⟩;obtain⟨x,rfl,hr⟩:=hE;exact⟨⟨G',x,rfl,hr⟩,hx.os,hx.tape,hx.output,hx.size,λk hk=>hx.frame k hk (.inl rfl)⟩
theorem aC.callsT{P:Program}{f:FuncId}{args:List LV}(h:aC P f args (.d (.k (.bool true))))(w:World)(vs:List Value)(ha:bE (BF w) 0 gP args vs):
  Calls P f vs.toArray w λe w'=>e=.returned (.bool true)/\Below w.heap.size w w':=by
 refine Calls.mono (h.calls w vs ha) ?_;rintro e w' ⟨⟨G,x,rfl,hr⟩,hb⟩;unfold LR DR at hr;rw[hr.1];exact⟨rfl,hb⟩
def RL(M:Mem):List DV->List Value->Prop
 |[],[]=>True
 |d::ds,v::vs=>DR M d v/\RL M ds vs
 |_,_=>False
theorem Ed{M:Mem}:∀{a b:List DV} {x y:List Value},RL M a x->RL M b y->RL M (a++b) (x++y)
 |[],b,[],y,_,k=>k
 |[],b,_::_,y,h,_=>h.elim
 |_::_,b,[],y,h,_=>h.elim
 |d::a,b,v::x,y,h,k=>⟨h.1,Ed h.2 k⟩
theorem rZ{G:Gh}{nx:Nat}{lm:Nat->Option Nat}:∀{a:List DV} {x:List Value},RL G.M a x->bE G nx lm (a.map .d) x
 |[],[],_=>by simp[bE]
 |[],_::_,h=>h.elim
 |_::_,[],h=>h.elim
 |d::a,v::x,h=>by simp only[List.map_cons];unfold bE;exact⟨v,x,rfl,by unfold LR;exact h.1,rZ h.2⟩
theorem JS{M:Mem}{b:Nat}:∀{r:List DV} {cs:List Value} {o:Nat},RL M r cs->(∀i v,cs[i]?=some v->M b (o+i)=some v)->RC M b o r
 |[],[],o,_,_=>by simp[RC]
 |[],_::_,_,h,_=>h.elim
 |_::_,[],_,h,_=>h.elim
 |d::r,c::cs,o,h,hm=>by
  unfold RC;exact⟨⟨c,by simpa using hm 0 c rfl,h.1⟩,JS h.2 λi v hv=>by have:=hm (i+1) v hv;rw[show o+1+i=o+(i+1)by omega];exact this⟩
theorem RR_of{M:Mem}{b k:Nat}:∀{rs:List (List DV)} {o:Nat},(∀(i:Nat) r,rs[i]?=some r->RC M b (o+i*k) r/\r.length=k)->RR M b o rs
 |[],o,_=>by simp[RR]
 |r::rs,o,h=>by
  unfold RR;have h0:=h 0 r rfl;refine⟨by simpa using h0.1,RR_of (k:=k) λi r' hr=>?_⟩
  have:=h (i+1) r' hr;rw[h0.2,show o+k+i*k=o+(i+1)*k by rw[Nat.succ_mul];omega];exact this
theorem Ax{α β:Type}{f:α->Option β}:∀{l:List α} {ys:List β},l.mapM f=some ys->ys.length=l.length/\∀(i:Nat) (y:β),ys[i]?=some y->∃x,l[i]?=some x/\f x=some y
 |[],ys,h=>by simp at h;subst h;simp
 |a::l,ys,h=>by
  rw[List.mapM_cons]at h;simp only[Option.pure_def,Option.bind_eq_bind,Option.bind_eq_some_iff,Option.some.injEq]at h;obtain⟨y,hy,zs,hz,rfl⟩:=h;obtain⟨h1,h2⟩:=Ax hz;refine⟨by simp[h1],λi z hi=>?_⟩
  cases i with
  |zero=>simp at hi;subst hi;exact⟨a,rfl,hy⟩
  |succ i=>exact h2 i z (by simpa using hi)
section
variable {H:Type} {enc:TypeId×Value->H} {P:Program} {w:World}
def Wt(P:Program)(t:TypeId)(d:DataW H):Prop:=∀n∈d.weights P t,n<=reachBytes
def Rd(enc:TypeId×Value->H)(P:Program)(w:World){α:Type}(t:TypeId)(r:α->List DV)(fit:α->Prop)(fuel:Nat):Prop:=
 ∀cs d ps,DataW.trod enc P w 0 (λ_=>true) true fuel t cs=some (d,ps)->∃x,RL (allM w) (r x) cs/\(Wt P t d->fit x)
theorem Rd.map{α β:Type}{t:TypeId}{r:α->List DV}{fit:α->Prop}{r':β->List DV}{fit':β->Prop}{fuel:Nat}(h:Rd enc P w t r fit fuel)(g:α->β)(hr:∀x,r' (g x)=r x)(hf:∀x,fit x->fit' (g x)):Rd enc P w t r' fit' fuel:=
 λcs d ps q=>by
  obtain⟨x,h1,h2⟩:=h cs d ps q;exact⟨g x,by rw[hr];exact h1,λq=>hf x (h2 q)⟩
theorem Rd.int{t:TypeId}{k:IntKind}(hu:P.underlying t=some (.int k))(fuel:Nat):Rd enc P w t (λn:Int=>[.k (.int k n)]) (λn=>(Lit.int k n).wf=true) fuel:=by
 intro cs d ps h;cases fuel with
 |zero=>simp[DataW.trod]at h
 |succ fuel=>
  unfold DataW.trod at h;simp only[hu]at h
  split at h<;>simp_all
  obtain⟨⟨rfl,h1⟩,_⟩:=h;exact⟨_,by simp[RL,DR,Value.oneCell'],λ_=>h1⟩
theorem Rd.str{t:TypeId}(hu:P.underlying t=some .string)(fuel:Nat):Rd enc P w t (λs:ByteArray=>[.k (.string s)]) (λs=>s.size<=reachBytes) fuel:=by
 intro cs d ps h;cases fuel with
 |zero=>simp[DataW.trod]at h
 |succ fuel=>
  unfold DataW.trod at h;simp only[hu]at h
  split at h<;>simp_all only[Option.some.injEq,reduceCtorEq]
  rename_i s
  split at h
  ·rename_i h1;simp only[Option.some.injEq,Prod.mk.injEq]at h;obtain⟨h2,_⟩:=h;refine⟨s,by simp[RL,DR,Value.oneCell'],λhw=>?_⟩
   have:=hw s.data.toList.length (by rw[<-h2];simp[DataW.weights])
   simpa using this
  ·cases h
theorem Pg{base n:Nat}{a:Addr}{cs:List Value}(h:w.cells? base a n=some cs):cs.length=n/\∀i v,cs[i]?=some v->w.cell? (a.add i)=some v:=by
 unfold World.cells? at h
 split at h
 ·obtain⟨h1,h2⟩:=Ax h;refine⟨by simpa using h1,λi v hv=>?_⟩
  obtain⟨x,hx,hf⟩:=h2 i v hv;have:x=i:=by
   have hl:=(List.getElem?_eq_some_iff.1 hx).1;simp at hl;rw[List.getElem?_range hl]at hx;cases hx;rfl
  rw[<-this];exact hf
 ·cases h
theorem D1{a:Addr}{n:Nat}{v:Value}(h:w.cell? (a.add n)=some v):(a.add n)=⟨a.block,a.off+n,none⟩:=by
 have hs:(a.add n).spot=none:=by
  unfold World.cell? at h
  split at h
  ·split at h
   ·cases h
   ·rename_i q;simpa using q
  ·cases h
 unfold Addr.add at hs|-
 split
 ·rename_i e;rw[if_pos e]at hs;subst e;cases a;simp_all
 ·rfl
theorem Rd.vO{α:Type}{t e:TypeId}{r:α->List DV}{fit:α->Prop}(hu:P.underlying t=some (.slice e))(hk:0<P.cellsOf e)(hr:∀x,(r x).length=P.cellsOf e)(fuel:Nat)(h:∀f,f<fuel->Rd enc P w e r fit f):
  Rd enc P w t (λxs:List α=>[.sl (xs.map r)]) (λxs=>xs.length*P.bytesOf e<=reachBytes/\∀x∈xs,fit x) fuel:=by
 intro cs d ps hd;cases fuel with
 |zero=>simp[DataW.trod]at hd
 |succ fuel=>
  have he:=h fuel (Nat.lt_succ_self _)
  clear h
  cases cs with
  |nil=>simp[DataW.trod,hu]at hd
  |cons c tl=>
   cases tl with
   |cons c2 tl=>cases c<;>simp[DataW.trod,hu]at hd
   |nil=>
    cases c with
    |slice a len cap=>
     cases a with
     |none=>
      cases len<;>cases cap<;>simp[DataW.trod,hu]at hd;exact⟨[],⟨by unfold DR;exact⟨none,0,0,rfl,Nat.le_refl _,by simp[maxLen],by simp,.inl rfl⟩,trivial⟩,λ_=>by simp⟩
     |some a=>
      simp only[DataW.trod,hu]at hd
      split at hd
      ·rename_i hb;simp only[Option.bind_eq_some_iff,Option.map_eq_some_iff]at hd;obtain⟨elems,h1,rest,h2,h3⟩:=hd;obtain⟨l1,g1⟩:=Ax h1;simp only[List.length_range]at l1;have key:∀i (y:DataW H×List MemPlace),elems[i]?=some y->∃x cs,RL (allM w) (r x) cs/\(Wt P e y.1->fit x)/\cs.length=P.cellsOf e/\∀k v,cs[k]?=some v->w.cell? ((a.add (i*P.cellsOf e)).add k)=some v:=by
        intro i y hy;obtain⟨x,hx,hf⟩:=g1 i y hy;have FW:x=i:=by
         have hl:=(List.getElem?_eq_some_iff.1 hx).1;simp at hl;rw[List.getElem?_range hl]at hx;cases hx;rfl
        subst FW;simp only[Option.bind_eq_some_iff]at hf;obtain⟨cs,hc,ht⟩:=hf;obtain⟨c1,c2⟩:=Pg hc;obtain⟨z,hz,qh⟩:=he cs y.1 y.2 ht;exact⟨z,cs,hz,qh,c1,c2⟩
       have hlist:∀(es:List (DataW H×List MemPlace)) (o:Nat),(∀i y,es[i]?=some y->elems[o+i]?=some y)->∃xs:List α,xs.length=es.length/\∀i x,xs[i]?=some x->∃y cs,es[i]?=some y/\RL (allM w) (r x) cs/\(Wt P e y.1->fit x)/\cs.length=P.cellsOf e/\∀k v,cs[k]?=some v->w.cell? ((a.add ((o+i)*P.cellsOf e)).add k)=some v:=by
        intro es
        induction es with
        |nil=>intro o _;exact⟨[],rfl,λi x h=>by simp at h⟩
        |cons y es ih=>
         intro o ho;obtain⟨x,cs,q1,q2,q3,q4⟩:=key o y (by simpa using ho 0 y rfl)
         obtain⟨xs,p1,p2⟩:=ih (o+1) λi y' hy=>by rw[show o+1+i=o+(i+1)by omega];exact ho (i+1) y' (by simpa using hy)
         refine⟨x::xs,by simp[p1],λi z hz=>?_⟩
         cases i with
         |zero=>simp at hz;subst hz;exact⟨y,cs,rfl,q1,q2,q3,q4⟩
         |succ i=>
          obtain⟨y',cs',s1,s2,s3,s4,s5⟩:=p2 i z (by simpa using hz)
          exact⟨y',cs',by simpa using s1,s2,s3,s4,by rw[show o+(i+1)=o+1+i by omega];exact s5⟩
       obtain⟨xs,p1,p2⟩:=hlist elems 0 λi y h=>by simpa using h
       simp only[Nat.zero_add]at p2;refine⟨xs,?_,λhw=>⟨?_,λx hx=>?_⟩⟩
       ·refine⟨?_,trivial⟩;unfold DR;refine⟨some a,cap,P.cellsOf e,by simp[p1,l1],by simp[p1,l1];omega,hb.2.2,λr' hr'=>?_,?_⟩
        ·obtain⟨x,_,rfl⟩:=List.mem_map.1 hr';exact hr x
        ·cases hxs:xs with
         |nil=>exact .inl rfl
         |cons x0 xs0=>
          right;obtain⟨y,cs,s1,s2,s3,s4,s5⟩:=p2 0 x0 (by rw[hxs];rfl)
          have hspot:a=⟨a.block,a.off,none⟩:=by
           have hc:∃v,cs[0]?=some v:=⟨cs[0]'(by omega),List.getElem?_eq_getElem (by omega)⟩
           obtain⟨v,hv⟩:=hc;have:=s5 0 v hv;simp only[Nat.zero_mul]at this;have e0:(a.add 0).add 0=a:=by simp[Addr.add]
           rw[e0]at this;have:=D1 (a:=a) (n:=0) (by simpa[Addr.add]using this)
           simpa[Addr.add]using this
          refine⟨a.block,a.off,by rw[<-hspot],?_⟩
          rw[<-hxs];refine RR_of (k:=P.cellsOf e) λi r' hr'=>?_
          rw[List.getElem?_map,Option.map_eq_some_iff]at hr';obtain⟨x,hx,rfl⟩:=hr';obtain⟨y,cs,s1,s2,s3,s4,s5⟩:=p2 i x hx;refine⟨JS s2 λk v hv=>?_,hr x⟩
          have:=s5 k v hv;have e1:=D1 this;rw[e1]at this;have e2:a.add (i*P.cellsOf e)=⟨a.block,a.off+i*P.cellsOf e,none⟩:=by
           rw[hspot];exact dW _ _ _
          rw[e2]at this;exact this
       ·cases h3;have h5:=hw ((elems.length+rest.length)*P.bytesOf e) (by simp only[DataW.weights,hu,List.length_map];exact List.mem_cons_self ..)
        rw[p1];exact Nat.le_trans (Nat.mul_le_mul_right _ (Nat.le_add_right _ _)) h5
       ·obtain⟨i,hi,rfl⟩:=List.mem_iff_getElem.1 hx;obtain⟨y,cs,s1,s2,s3,s4,s5⟩:=p2 i _ (List.getElem?_eq_getElem hi);refine s3 λn hn=>hw n ?_
        cases h3;simp only[DataW.weights,hu,List.mem_cons,List.mem_append];right;left;have:∀(es:List (DataW H×List MemPlace)) (i:Nat),es[i]?=some y->n∈DataW.weightsAll P e (es.map (·.1)):=by
         intro es
         induction es with
         |nil=>intro i h;simp at h
         |cons z es ih=>
          intro i h;simp only[List.map_cons,DataW.weightsAll,List.mem_append];cases i with
          |zero=>simp at h;subst h;exact .inl hn
          |succ i=>exact .inr (ih i (by simpa using h))
        exact this elems i s1
      ·cases hd
    |_=>simp[DataW.trod,hu]at hd
def gW(enc:TypeId×Value->H)(P:Program)(w:World){α:Type}(n:Nat)(fs:List Field)(off:Nat)(r:α->List DV)(fit:α->Prop)(fuel:Nat):Prop:=
 ∀(cs:List Value) (xs:List (DataW H×List MemPlace)),cs.length=n->fs.mapM (λf=>DataW.trod enc P w 0 (λ_=>true) true fuel f.type ((cs.drop f.offset).take (P.cellsOf f.type)))=some xs->
  ∃x,RL (allM w) (r x) (cs.drop off)/\((∀m∈DataW.weightsEach P (fs.map (·.type)) (xs.map (·.1)),m<=reachBytes)->fit x)
theorem gW.nil{n fuel:Nat}:gW enc P w n [] n (λ_:Unit=>[]) (λ_=>True) fuel:=λcs xs hn h=>⟨(),by rw[List.drop_of_length_le (by omega)];trivial,λ_=>trivial⟩
theorem gW.cons{α β:Type}{n off fuel:Nat}{f:Field}{fs:List Field}{r:α->List DV}{fit:α->Prop}{r':β->List DV}{fit':β->Prop}(ho:f.offset=off)(h:Rd enc P w f.type r fit fuel)(k:gW enc P w n fs (off+P.cellsOf f.type) r' fit' fuel):
  gW enc P w n (f::fs) off (λx:α×β=>r x.1++r' x.2) (λx=>fit x.1/\fit' x.2) fuel:=by
 intro cs xs hn hm;rw[List.mapM_cons]at hm;simp only[Option.pure_def,Option.bind_eq_bind,Option.bind_eq_some_iff,Option.some.injEq]at hm;obtain⟨y,hy,zs,hz,rfl⟩:=hm;obtain⟨x,h1,h2⟩:=h _ _ _ hy;obtain⟨x',k1,k2⟩:=k cs zs hn hz;rw[ho]at h1;refine⟨(x,x'),?_,λhw=>⟨h2 λm hm=>hw m ?_,k2 λm hm=>hw m ?_⟩⟩
 ·have:=Ed h1 k1;rw[<-List.drop_drop,List.take_append_drop]at this;exact this
 ·simp only[List.map_cons,DataW.weightsEach,List.mem_append];exact .inl hm
 ·simp only[List.map_cons,DataW.weightsEach,List.mem_append];exact .inr hm
theorem Rd.struct{α:Type}{t:TypeId}{fs:Array Field}{r:α->List DV}{fit:α->Prop}(hu:P.underlying t=some (.struct fs))(fuel:Nat)(h:∀f,f<fuel->gW enc P w (P.cellsOf t) fs.toList 0 r fit f):Rd enc P w t r fit fuel:=by
 intro cs d ps hd;cases fuel with
 |zero=>simp[DataW.trod]at hd
 |succ fuel=>
  have he:=h fuel (Nat.lt_succ_self _);unfold DataW.trod at hd;simp only[hu]at hd
  split at hd
  ·rename_i hl;simp only[Option.map_eq_some_iff,Prod.mk.injEq]at hd;obtain⟨xs,h1,h2,h3⟩:=hd;obtain⟨x,q1,q2⟩:=he cs xs hl h1;rw[List.drop_zero]at q1;refine⟨x,q1,λhw=>q2 λm hm=>hw m ?_⟩
   rw[<-h2];simp only[DataW.weights,hu];exact hm
  ·cases hd
end
theorem Hf{H:Type}{enc:TypeId×Value->H}{P:Program}{W:World}{α:Type}{t:TypeId}{fs:Array Field}{r:α->List DV}{fit:α->Prop}{base:Nat}{v:Value}{d:DataW H}{p:List MemPlace}(hr:∀fuel,Rd enc P W t r fit fuel)(hu:P.underlying t=some (.struct fs))
  (hval:Value.okWide P W .any base t v) (hd:DataW.Trod enc P W 0 (λ_=>true) true t v d p) (hw:Wt P t d):∃x,fit x/\LR (BF W) 0 gP (.agg ((r x).map .d)) v:=by
 obtain⟨cs,rfl,_⟩:=Go.WideShapes.okWide_struct hu hval;obtain⟨fuel,hf⟩:=hd;obtain⟨x,h1,h2⟩:=hr fuel _ _ _ hf;refine⟨x,h2 hw,?_⟩;unfold LR;exact⟨cs.toList,by simp,rZ h1⟩
theorem Wq{H:Type}{P:Program}{ts:List TypeId}{ds:List (DataW H)}(h:(DataW.weightsEach P ts ds).all (·<=reachBytes)=true){j:Nat}{t:TypeId}{d:DataW H}(ht:ts[j]?=some t)(hd:ds[j]?=some d):Wt P t d:=λn hn=>by
 have:=List.all_eq_true.1 h _ (DataW.weights_mem_each ht hd n hn);simpa using this
end Go.Aft
end
section
set_option maxRecDepth 20000
namespace Go.Aft
open Go.Proofs.Tryz
structure Loose where
 ev:Event
 Mp:Int
structure Scene where
 sh:Shape
 room:Room
 vals:LV
 loose:LV
 has:Bool
 low:Rec
 high:Rec
 vers:LV
@[simp] theorem clOp_x {op:Op}:dZ (some .x) op=.x:=rfl
@[simp] theorem XO0_slice {P:Program} {c:Cx} {dst:Option Nat} {s:S} {o:OT} {K:KT} {Q:QT} {x0:TypeId} {x1:Operand} {x2 x3 x4:Option Operand}:@BI P c dst (.slice x0 x1 x2 x3 x4) s o K Q = @RK (bS c.ty c.bP c.bJ s dst (.slice x0 x1 x2 x3 x4)) s dst K:=rfl
end Go.Aft
end
