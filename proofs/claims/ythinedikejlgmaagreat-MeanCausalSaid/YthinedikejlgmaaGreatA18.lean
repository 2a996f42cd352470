import Derived.Test.YthinedikejlgmaaGreatA12
import Derived.ProofKit
import Derived.OpenShut
import Derived.ShutString
import Derived.ChangeOld
import Derived.Below
import Derived.Carry
import Derived.SizedLaws
import Derived.Test.YthinedikejlgmaaGreatA16
import Derived.Test.YthinedikejlgmaaGreatA17
set_option linter.all false
section
namespace Go.Aft
open Go.RowKit
def allM(w:World):Mem:=λb o=>w.cell? ⟨b,o,none⟩
def Ch(w:World):Gh:=⟨allM w,λ_=>.none,λ_=>0,λ_=>undef,λ_=>0⟩
def H0:GH:=⟨λ_=>none,0⟩
theorem Oh(w:World):MR (Ch w) ix vi H0 w:=
 ⟨λb o v h=>h,λb o v h=>.inl rfl,λb hb=>⟨rfl,λo=>by
  simp only[Ch,allM,World.cell?];rw[Array.getElem?_eq_none hb]⟩,λ_ _=>rfl,λk cs h=>(by cases h),λn o h=>(by cases h)⟩
theorem aC.calls{P:Program}{f:FuncId}{args:List LV}{v:LV}(h:aC P f args v)(w:World)(vs:List Value)(ha:bH (Ch w) 0 ix args vs):
  Calls P f vs.toArray w λe w'=>(∃G x,e=.returned x/\LR G 0 ix v x)/\Below w.heap.size w w':=by
 refine Calls.mono ((h H0).2 (Ch w) w vs (Oh w) (λb k q=>by cases q) ha) ?_
 rintro e w' ⟨ce,H',G',⟨rfl,rfl⟩,hE,hM,hN,hx⟩;obtain⟨x,rfl,hr⟩:=hE;exact⟨⟨G',x,rfl,hr⟩,hx.os,hx.tape,hx.output,hx.size,λk hk=>hx.frame k hk (.inl rfl)⟩
theorem aC.MW{P:Program}{f:FuncId}{args:List LV}(h:aC P f args (.d (.k (.bool true))))(w:World)(vs:List Value)(ha:bH (Ch w) 0 ix args vs):
  Calls P f vs.toArray w λe w'=>e=.returned (.bool true)/\Below w.heap.size w w':=by
 refine Calls.mono (h.calls w vs ha) ?_;rintro e w' ⟨⟨G,x,rfl,hr⟩,hb⟩;unfold LR DR at hr;rw[hr.1];exact⟨rfl,hb⟩
def RL(M:Mem):List DV->List Value->Prop
 |[],[]=>True
 |d::ds,v::vs=>DR M d v/\RL M ds vs
 |_,_=>False
theorem E2{M:Mem}:∀{a b:List DV} {x y:List Value},RL M a x->RL M b y->RL M (a++b) (x++y)
 |[],b,[],y,_,k=>k
 |[],b,_::_,y,h,_=>h.elim
 |_::_,b,[],y,h,_=>h.elim
 |d::a,b,v::x,y,h,k=>⟨h.1,E2 h.2 k⟩
theorem sK{G:Gh}{nx:Nat}{lm:Nat->Option Nat}:∀{a:List DV} {x:List Value},RL G.M a x->bH G nx lm (a.map .d) x
 |[],[],_=>by simp[bH]
 |[],_::_,h=>h.elim
 |_::_,[],h=>h.elim
 |d::a,v::x,h=>by simp only[List.map_cons];unfold bH;exact⟨v,x,rfl,by unfold LR;exact h.1,sK h.2⟩
theorem KF{M:Mem}{b:Nat}:∀{r:List DV} {cs:List Value} {o:Nat},RL M r cs->(∀i v,cs[i]?=some v->M b (o+i)=some v)->RC M b o r
 |[],[],o,_,_=>by simp[RC]
 |[],_::_,_,h,_=>h.elim
 |_::_,[],_,h,_=>h.elim
 |d::r,c::cs,o,h,hm=>by
  unfold RC;exact⟨⟨c,by simpa using hm 0 c rfl,h.1⟩,KF h.2 λi v hv=>by have:=hm (i+1) v hv;rw[show o+1+i=o+(i+1)by omega];exact this⟩
theorem Y7{M:Mem}{b k:Nat}:∀{rs:List (List DV)} {o:Nat},(∀(i:Nat) r,rs[i]?=some r->RC M b (o+i*k) r/\r.length=k)->RR M b o rs
 |[],o,_=>by simp[RR]
 |r::rs,o,h=>by
  unfold RR;have h0:=h 0 r rfl;refine⟨by simpa using h0.1,Y7 (k:=k) λi r' hr=>?_⟩
  have:=h (i+1) r' hr;rw[h0.2,show o+k+i*k=o+(i+1)*k by rw[Nat.succ_mul];omega];exact this
theorem A9{α β:Type}{f:α->Option β}:∀{l:List α} {ys:List β},l.mapM f=some ys->ys.length=l.length/\∀(i:Nat) (y:β),ys[i]?=some y->∃x,l[i]?=some x/\f x=some y
 |[],ys,h=>by simp at h;subst h;simp
 |a::l,ys,h=>by
  rw[List.mapM_cons]at h;simp only[Option.pure_def,Option.bind_eq_bind,Option.bind_eq_some_iff,Option.some.injEq]at h;obtain⟨y,hy,zs,hz,rfl⟩:=h;obtain⟨h1,h2⟩:=A9 hz;refine⟨by simp[h1],λi z hi=>?_⟩
  cases i with
  |zero=>simp at hi;subst hi;exact⟨a,rfl,hy⟩
  |succ i=>exact h2 i z (by simpa using hi)
section
variable {H:Type} {enc:TypeId×Value->H} {P:Program} {w:World}
def Wt(P:Program)(t:TypeId)(d:DataW H):Prop:=∀n∈d.weights P t,n<=reachBytes
def Rd(enc:TypeId×Value->H)(P:Program)(w:World){α:Type}(t:TypeId)(r:α->List DV)(fit:α->Prop)(fuel:Nat):Prop:=
 ∀cs d ps,DataW.trod enc P w 0 (λ_=>true) true fuel t cs=some (d,ps)->∃x,RL (allM w) (r x) cs/\(Wt P t d->fit x)
theorem Rd.map{α β:Type}{t:TypeId}{r:α->List DV}{fit:α->Prop}{r':β->List DV}{fit':β->Prop}{fuel:Nat}(h:Rd enc P w t r fit fuel)(g:α->β)(hr:∀x,r' (g x)=r x)(hf:∀x,fit x->fit' (g x)):Rd enc P w t r' fit' fuel:=
 λcs d ps q=>by
  obtain⟨x,h1,h2⟩:=h cs d ps q;exact⟨g x,by rw[hr];exact h1,λq=>hf x (h2 q)⟩
theorem Rd.int{t:TypeId}{k:IntKind}(hu:P.underlying t=some (.int k))(fuel:Nat):Rd enc P w t (λn:Int=>[.k (.int k n)]) (λn=>(Lit.int k n).wf=true) fuel:=by
 intro cs d ps h;cases fuel with
 |zero=>simp[DataW.trod]at h
 |succ fuel=>
  unfold DataW.trod at h;simp only[hu]at h
  split at h<;>simp_all
  obtain⟨⟨rfl,h1⟩,_⟩:=h;exact⟨_,by simp[RL,DR,Value.oneCell'],λ_=>h1⟩
theorem Rd.str{t:TypeId}(hu:P.underlying t=some .string)(fuel:Nat):Rd enc P w t (λs:ByteArray=>[.k (.string s)]) (λs=>s.size<=reachBytes) fuel:=by
 intro cs d ps h;cases fuel with
 |zero=>simp[DataW.trod]at h
 |succ fuel=>
  unfold DataW.trod at h;simp only[hu]at h
  split at h<;>simp_all only[Option.some.injEq,reduceCtorEq]
  rename_i s
  split at h
  ·rename_i h1;simp only[Option.some.injEq,Prod.mk.injEq]at h;obtain⟨h2,_⟩:=h;refine⟨s,by simp[RL,DR,Value.oneCell'],λhw=>?_⟩
   have:=hw s.data.toList.length (by rw[<-h2];simp[DataW.weights])
   simpa using this
  ·cases h
theorem Qf{base n:Nat}{a:Addr}{cs:List Value}(h:w.cells? base a n=some cs):cs.length=n/\∀i v,cs[i]?=some v->w.cell? (a.add i)=some v:=by
 unfold World.cells? at h
 split at h
 ·obtain⟨h1,h2⟩:=A9 h;refine⟨by simpa using h1,λi v hv=>?_⟩
  obtain⟨x,hx,hf⟩:=h2 i v hv;have:x=i:=by
   have hl:=(List.getElem?_eq_some_iff.1 hx).1;simp at hl;rw[List.getElem?_range hl]at hx;cases hx;rfl
  rw[<-this];exact hf
 ·cases h
theorem EL{a:Addr}{n:Nat}{v:Value}(h:w.cell? (a.add n)=some v):(a.add n)=⟨a.block,a.off+n,none⟩:=by
 have hs:(a.add n).spot=none:=by
  unfold World.cell? at h
  split at h
  ·split at h
   ·cases h
   ·rename_i q;simpa using q
  ·cases h
 unfold Addr.add at hs|-
 split
 ·rename_i e;rw[if_pos e]at hs;subst e;cases a;simp_all
 ·rfl
theorem Rd.Re{α:Type}{t e:TypeId}{r:α->List DV}{fit:α->Prop}(hu:P.underlying t=some (.slice e))(hk:0<P.cellsOf e)(hr:∀x,(r x).length=P.cellsOf e)(fuel:Nat)(h:∀f,f<fuel->Rd enc P w e r fit f):
  Rd enc P w t (λxs:List α=>[.sl (xs.map r)]) (λxs=>xs.length*P.bytesOf e<=reachBytes/\∀x∈xs,fit x) fuel:=by
 intro cs d ps hd;cases fuel with
 |zero=>simp[DataW.trod]at hd
 |succ fuel=>
  have he:=h fuel (Nat.lt_succ_self _)
  clear h
  cases cs with
  |nil=>simp[DataW.trod,hu]at hd
  |cons c tl=>
   cases tl with
   |cons c2 tl=>cases c<;>simp[DataW.trod,hu]at hd
   |nil=>
    cases c with
    |slice a len cap=>
     cases a with
     |none=>
      cases len<;>cases cap<;>simp[DataW.trod,hu]at hd;exact⟨[],⟨by unfold DR;exact⟨none,0,0,rfl,Nat.le_refl _,by simp[maxLen],by simp,.inl rfl⟩,trivial⟩,λ_=>by simp⟩
     |some a=>
      simp only[DataW.trod,hu]at hd
      split at hd
      ·rename_i hb;simp only[Option.bind_eq_some_iff,Option.map_eq_some_iff]at hd;obtain⟨elems,h1,rest,h2,h3⟩:=hd;obtain⟨l1,g1⟩:=A9 h1;simp only[List.length_range]at l1;have key:∀i (y:DataW H×List MemPlace),elems[i]?=some y->∃x cs,RL (allM w) (r x) cs/\(Wt P e y.1->fit x)/\cs.length=P.cellsOf e/\∀k v,cs[k]?=some v->w.cell? ((a.add (i*P.cellsOf e)).add k)=some v:=by
        intro i y hy;obtain⟨x,hx,hf⟩:=g1 i y hy;have GR:x=i:=by
         have hl:=(List.getElem?_eq_some_iff.1 hx).1;simp at hl;rw[List.getElem?_range hl]at hx;cases hx;rfl
        subst GR;simp only[Option.bind_eq_some_iff]at hf;obtain⟨cs,hc,ht⟩:=hf;obtain⟨c1,c2⟩:=Qf hc;obtain⟨z,hz,qD⟩:=he cs y.1 y.2 ht;exact⟨z,cs,hz,qD,c1,c2⟩
       have aA5:∀(es:List (DataW H×List MemPlace)) (o:Nat),(∀i y,es[i]?=some y->elems[o+i]?=some y)->∃xs:List α,xs.length=es.length/\∀i x,xs[i]?=some x->∃y cs,es[i]?=some y/\RL (allM w) (r x) cs/\(Wt P e y.1->fit x)/\cs.length=P.cellsOf e/\∀k v,cs[k]?=some v->w.cell? ((a.add ((o+i)*P.cellsOf e)).add k)=some v:=by
        intro es
        induction es with
        |nil=>intro o _;exact⟨[],rfl,λi x h=>by simp at h⟩
        |cons y es ih=>
         intro o ho;obtain⟨x,cs,q1,q2,q3,q4⟩:=key o y (by simpa using ho 0 y rfl)
         obtain⟨xs,p1,p2⟩:=ih (o+1) λi y' hy=>by rw[show o+1+i=o+(i+1)by omega];exact ho (i+1) y' (by simpa using hy)
         refine⟨x::xs,by simp[p1],λi z hz=>?_⟩
         cases i with
         |zero=>simp at hz;subst hz;exact⟨y,cs,rfl,q1,q2,q3,q4⟩
         |succ i=>
          obtain⟨y',cs',s1,s2,s3,s4,s5⟩:=p2 i z (by simpa using hz)
          exact⟨y',cs',by simpa using s1,s2,s3,s4,by rw[show o+(i+1)=o+1+i by omega];exact s5⟩
       obtain⟨xs,p1,p2⟩:=aA5 elems 0 λi y h=>by simpa using h
       simp only[Nat.zero_add]at p2;refine⟨xs,?_,λhw=>⟨?_,λx hx=>?_⟩⟩
       ·refine⟨?_,trivial⟩;unfold DR;refine⟨some a,cap,P.cellsOf e,by simp[p1,l1],by simp[p1,l1];omega,hb.2.2,λr' hr'=>?_,?_⟩
        ·obtain⟨x,_,rfl⟩:=List.mem_map.1 hr';exact hr x
        ·cases hxs:xs with
         |nil=>exact .inl rfl
         |cons x0 xs0=>
          right;obtain⟨y,cs,s1,s2,s3,s4,s5⟩:=p2 0 x0 (by rw[hxs];rfl)
          have YH:a=⟨a.block,a.off,none⟩:=by
           have hc:∃v,cs[0]?=some v:=⟨cs[0]'(by omega),List.getElem?_eq_getElem (by omega)⟩
           obtain⟨v,hv⟩:=hc;have:=s5 0 v hv;simp only[Nat.zero_mul]at this;have e0:(a.add 0).add 0=a:=by simp[Addr.add]
           rw[e0]at this;have:=EL (a:=a) (n:=0) (by simpa[Addr.add]using this)
           simpa[Addr.add]using this
          refine⟨a.block,a.off,by rw[<-YH],?_⟩
          rw[<-hxs];refine Y7 (k:=P.cellsOf e) λi r' hr'=>?_
          rw[List.getElem?_map,Option.map_eq_some_iff]at hr';obtain⟨x,hx,rfl⟩:=hr';obtain⟨y,cs,s1,s2,s3,s4,s5⟩:=p2 i x hx;refine⟨KF s2 λk v hv=>?_,hr x⟩
          have:=s5 k v hv;have e1:=EL this;rw[e1]at this;have e2:a.add (i*P.cellsOf e)=⟨a.block,a.off+i*P.cellsOf e,none⟩:=by
           rw[YH];exact ef _ _ _
          rw[e2]at this;exact this
       ·cases h3;have h5:=hw ((elems.length+rest.length)*P.bytesOf e) (by simp only[DataW.weights,hu,List.length_map];exact List.mem_cons_self ..)
        rw[p1];exact Nat.le_trans (Nat.mul_le_mul_right _ (Nat.le_add_right _ _)) h5
       ·obtain⟨i,hi,rfl⟩:=List.mem_iff_getElem.1 hx;obtain⟨y,cs,s1,s2,s3,s4,s5⟩:=p2 i _ (List.getElem?_eq_getElem hi);refine s3 λn hn=>hw n ?_
        cases h3;simp only[DataW.weights,hu,List.mem_cons,List.mem_append];right;left;have:∀(es:List (DataW H×List MemPlace)) (i:Nat),es[i]?=some y->n∈DataW.weightsAll P e (es.map (·.1)):=by
         intro es
         induction es with
         |nil=>intro i h;simp at h
         |cons z es ih=>
          intro i h;simp only[List.map_cons,DataW.weightsAll,List.mem_append];cases i with
          |zero=>simp at h;subst h;exact .inl hn
          |succ i=>exact .inr (ih i (by simpa using h))
        exact this elems i s1
      ·cases hd
    |_=>simp[DataW.trod,hu]at hd
theorem Rd.slice{α:Type}{t e:TypeId}{r:α->List DV}{fit:α->Prop}(hu:P.underlying t=some (.slice e))(hk:0<P.cellsOf e)(hr:∀x,(r x).length=P.cellsOf e)(fuel:Nat)(h:∀f,f<fuel->Rd enc P w e r fit f):
  Rd enc P w t (λxs:List α=>[.sl (xs.map r)]) (λxs=>∀x∈xs,fit x) fuel:=(Rd.Re hu hk hr fuel h).map id (λ_=>rfl) (λ_ q=>q.2)
def gG(enc:TypeId×Value->H)(P:Program)(w:World){α:Type}(n:Nat)(fs:List Field)(off:Nat)(r:α->List DV)(fit:α->Prop)(fuel:Nat):Prop:=
 ∀(cs:List Value) (xs:List (DataW H×List MemPlace)),cs.length=n->fs.mapM (λf=>DataW.trod enc P w 0 (λ_=>true) true fuel f.type ((cs.drop f.offset).take (P.cellsOf f.type)))=some xs->
  ∃x,RL (allM w) (r x) (cs.drop off)/\((∀m∈DataW.weightsEach P (fs.map (·.type)) (xs.map (·.1)),m<=reachBytes)->fit x)
theorem gG.nil{n fuel:Nat}:gG enc P w n [] n (λ_:Unit=>[]) (λ_=>True) fuel:=λcs xs hn h=>⟨(),by rw[List.drop_of_length_le (by omega)];trivial,λ_=>trivial⟩
theorem gG.cons{α β:Type}{n off fuel:Nat}{f:Field}{fs:List Field}{r:α->List DV}{fit:α->Prop}{r':β->List DV}{fit':β->Prop}(ho:f.offset=off)(h:Rd enc P w f.type r fit fuel)(k:gG enc P w n fs (off+P.cellsOf f.type) r' fit' fuel):
  gG enc P w n (f::fs) off (λx:α×β=>r x.1++r' x.2) (λx=>fit x.1/\fit' x.2) fuel:=by
 intro cs xs hn hm;rw[List.mapM_cons]at hm;simp only[Option.pure_def,Option.bind_eq_bind,Option.bind_eq_some_iff,Option.some.injEq]at hm;obtain⟨y,hy,zs,hz,rfl⟩:=hm;obtain⟨x,h1,h2⟩:=h _ _ _ hy;obtain⟨x',k1,k2⟩:=k cs zs hn hz;rw[ho]at h1;refine⟨(x,x'),?_,λhw=>⟨h2 λm hm=>hw m ?_,k2 λm hm=>hw m ?_⟩⟩
 ·have:=E2 h1 k1;rw[<-List.drop_drop,List.take_append_drop]at this;exact this
 ·simp only[List.map_cons,DataW.weightsEach,List.mem_append];exact .inl hm
 ·simp only[List.map_cons,DataW.weightsEach,List.mem_append];exact .inr hm
theorem Rd.struct{α:Type}{t:TypeId}{fs:Array Field}{r:α->List DV}{fit:α->Prop}(hu:P.underlying t=some (.struct fs))(fuel:Nat)(h:∀f,f<fuel->gG enc P w (P.cellsOf t) fs.toList 0 r fit f):Rd enc P w t r fit fuel:=by
 intro cs d ps hd;cases fuel with
 |zero=>simp[DataW.trod]at hd
 |succ fuel=>
  have he:=h fuel (Nat.lt_succ_self _);unfold DataW.trod at hd;simp only[hu]at hd
  split at hd
  ·rename_i hl;simp only[Option.map_eq_some_iff,Prod.mk.injEq]at hd;obtain⟨xs,h1,h2,h3⟩:=hd;obtain⟨x,q1,q2⟩:=he cs xs hl h1;rw[List.drop_zero]at q1;refine⟨x,q1,λhw=>q2 λm hm=>hw m ?_⟩
   rw[<-h2];simp only[DataW.weights,hu];exact hm
  ·cases hd
end
theorem kT{H:Type}{enc:TypeId×Value->H}{P:Program}{W:World}{α:Type}{t:TypeId}{fs:Array Field}{r:α->List DV}{fit:α->Prop}{base:Nat}{v:Value}{d:DataW H}{p:List MemPlace}(hr:∀fuel,Rd enc P W t r fit fuel)(hu:P.underlying t=some (.struct fs))
  (hval:Value.okWide P W .any base t v) (hd:DataW.Trod enc P W 0 (λ_=>true) true t v d p) (hw:Wt P t d):∃x,fit x/\LR (Ch W) 0 ix (.agg ((r x).map .d)) v:=by
 obtain⟨cs,rfl,_⟩:=Go.WideShapes.okWide_struct hu hval;obtain⟨fuel,hf⟩:=hd;obtain⟨x,h1,h2⟩:=hr fuel _ _ _ hf;refine⟨x,h2 hw,?_⟩;unfold LR;exact⟨cs.toList,by simp,sK h1⟩
theorem xN{H:Type}{P:Program}{ts:List TypeId}{ds:List (DataW H)}(h:(DataW.weightsEach P ts ds).all (·<=reachBytes)=true){j:Nat}{t:TypeId}{d:DataW H}(ht:ts[j]?=some t)(hd:ds[j]?=some d):Wt P t d:=λn hn=>by
 have:=List.all_eq_true.1 h _ (DataW.weights_mem_each ht hd n hn);simpa using this
end Go.Aft
end
section
set_option maxRecDepth 20000
namespace Go.Aft
open Go.Proofs.Tryz
theorem kq{ks:List Sc}{vs:List Value}(h:cp (.int .i64::ks) vs=true):∃a us,vs=.int .i64 a::us/\cp ks us=true:=by
 cases vs with
 |nil=>simp[cp]at h
 |cons v us=>
  simp only[cp,Bool.and_eq_true]at h;cases v<;>simp[Sc.has]at h;obtain⟨rfl,h⟩:=h;exact⟨_,us,rfl,h⟩
theorem mR{vs:List Value}(h:cp [] vs=true):vs=[]:=by
 cases vs with
 |nil=>rfl
 |cons v us=>simp[cp]at h
def CmpAt(m:Nat)(t:TypeId)(ks:List Sc):Prop:=∀(d:Nat) (xs ys:List Value) (off:Nat) (w:World),cp ks ((xs.drop off).take ks.length)=true->cp ks ((ys.drop off).take ks.length)=true->
 ∃a b,(∀w,(part t xs.toArray off).run prog w=.ok a w)/\(∀w,(part t ys.toArray off).run prog w=.ok b w)/\(Op.equalIn (d+m+1) t a b).run prog w=.ok (allEq ((xs.drop off).take ks.length) ((ys.drop off).take ks.length)) w/\∀em w,(Instr.checkKey em (d+m+1) t a).run prog w=.ok () w
theorem Yu{xs:List Value}{off:Nat}{v:Value}(h:(xs.drop off).take 1=[v]):xs[off]?=some v:=by
 have:=congrArg (λl=>l[0]?) h
 simpa using this
theorem tB{m:Nat}{t:TypeId}(hu:prog.underlying t=some (.int .i64)):CmpAt m t [.int .i64]:=by
 intro d xs ys off w h1 h2;obtain⟨a,us,e1,e2⟩:=kq h1;obtain⟨b,us',e3,e4⟩:=kq h2;have:=mR e2;subst this;have:=mR e4;subst this;have x1:=Yu e1;have x2:=Yu e3;have ha:∀w,(isAgg t).run prog w=.ok false w:=λw=>by simp[isAgg,run_underlying hu]
 refine⟨.int .i64 a,.int .i64 b,λw=>by simp[part,ha,x1],λw=>by simp[part,ha,x2],?_⟩
 have r:=run_equalIn_int w (d+m) t .i64 .i64 a b hu;rw[show([Sc.int IntKind.i64]:List Sc).length=1 from rfl]at*
 rw[e1,e3,r];refine⟨by simp[allEq,vC],λem w=>?_⟩
 simp[Instr.checkKey,run_underlying hu]
theorem qc:∀{ks:List Sc} {vs:List Value},cp ks vs=true->vs.length=ks.length
 |[],vs,h=>by rw[mR h];rfl
 |k::ks,[],h=>by simp[cp]at h
 |k::ks,v::vs,h=>by simp only[cp,Bool.and_eq_true]at h;simp[qc h.2]
theorem kK:∀{ks js:List Sc} {vs us:List Value},vs.length=ks.length->(cp (ks++js) (vs++us)=true↔cp ks vs=true/\cp js us=true)
 |[],js,[],us,_=>by simp[cp]
 |k::ks,js,v::vs,us,h=>by simp only[List.cons_append,cp,Bool.and_eq_true,kK (Nat.succ.inj h),and_assoc]
theorem wE:∀{a b c d:List Value},a.length=c.length->allEq (a++b) (c++d)=(allEq a c&&allEq b d)
 |[],b,[],d,_=>by simp[allEq]
 |x::a,b,y::c,d,h=>by simp only[List.cons_append,allEq,wE (Nat.succ.inj h),Bool.and_assoc]
inductive Row(m:Nat):Nat->List Field->List Sc->Prop
 |nil (off:Nat):Row m off [] []
 | cons (off : Nat) (f : Field) (ks : List Sc) (fs : List Field) (js : List Sc) (h1 : f.name ≠ "_") (h2 : f.offset = off) (h3 : CmpAt m f.type ks) (h : Row m (off + ks.length) fs js) : Row m off (f :: fs) (ks ++ js)
theorem Row.run{m off:Nat}{fs:List Field}{ks:List Sc}(h:Row m off fs ks):∀(d:Nat) (xs ys:List Value) (w:World),cp ks ((xs.drop off).take ks.length)=true->cp ks ((ys.drop off).take ks.length)=true->
  (Op.eqFields (d+m+1) xs.toArray ys.toArray fs).run prog w=.ok (allEq ((xs.drop off).take ks.length) ((ys.drop off).take ks.length)) w:=by
 induction h with
 |nil off=>intro d xs ys w _ _;simp[Op.eqFields,allEq]
 |cons off f ks fs js h1 h2 h3 h ih=>
  intro d xs ys w g1 g2;have spl:∀zs:List Value,(zs.drop off).take (ks++js).length=(zs.drop off).take ks.length++(zs.drop (off+ks.length)).take js.length:=λzs=>by
   rw[List.length_append,List.take_add,List.drop_drop]
  have len:∀zs:List Value,cp (ks++js) ((zs.drop off).take (ks++js).length)=true->((zs.drop off).take ks.length).length=ks.length:=λzs g=>by
   have:=qc g;simp only[List.length_take,List.length_append]at this|-;omega
  have l1:=len xs g1;have l2:=len ys g2;rw[spl]at g1 g2|-;rw[spl];rw[kK l1]at g1;rw[kK l2]at g2;obtain⟨a,b,p1,p2,p3,p4⟩:=h3 d xs ys off w g1.1 g2.1;rw[wE (by rw[l1,l2])]
  simp only[Op.eqFields,h1,ne_eq,not_false_eq_true,if_true,h2,Sem.run_bind,p1,p2,p3,Result.andThen_ok];have:=ih d xs ys w g1.2 g2.2;cases allEq ((xs.drop off).take ks.length) ((ys.drop off).take ks.length)with
  |false=>simp
  |true=>simp[this]
theorem Row.keys{m off:Nat}{fs:List Field}{ks:List Sc}(h:Row m off fs ks):∀(d:Nat) (em:Bool) (xs:List Value) (w:World),cp ks ((xs.drop off).take ks.length)=true->
  (forIn (m:=Sem) fs PUnit.unit λf r=>do
   if f.name ≠ "_" then do
    let v<-part f.type xs.toArray f.offset
    Instr.checkKey em (d+m+1) f.type v
    pure (ForInStep.yield PUnit.unit)
   else pure (ForInStep.yield PUnit.unit)).run prog w=.ok PUnit.unit w:=by
 induction h with
 |nil off=>intro d em xs w _;simp
 |cons off f ks fs js h1 h2 h3 h ih=>
  intro d em xs w g1;have spl:∀zs:List Value,(zs.drop off).take (ks++js).length=(zs.drop off).take ks.length++(zs.drop (off+ks.length)).take js.length:=λzs=>by
   rw[List.length_append,List.take_add,List.drop_drop]
  have l1:((xs.drop off).take ks.length).length=ks.length:=by
   have:=qc g1;simp only[List.length_take,List.length_append]at this|-;omega
  rw[spl,kK l1]at g1;obtain⟨a,b,p1,p2,p3,p4⟩:=h3 d xs xs off w g1.1 g1.1;have:=ih d em xs w g1.2;simp only[List.forIn_cons,h1,ne_eq,not_false_eq_true,if_true,h2,Sem.run_bind,p1,p4,Result.andThen_ok,Sem.run_pure];exact this
theorem ri{ks:List Sc}{xs:List Value}(h:cp ks xs=true):(xs.drop 0).take ks.length=xs:=by
 rw[<-qc h];simp
theorem kF{m:Nat}{t:TypeId}{ks:List Sc}(ht:prog.underlying t=some (.struct (prog.fieldsOf t)))(hp:prog.stoodInHeld t=false)(hr:Row m 0 (prog.fieldsOf t).toList ks)(d:Nat){xs ys:List Value}(w:World)(h1:cp ks xs=true)(h2:cp ks ys=true):
  (Op.equalIn (d+m+2) t (.agg xs.toArray) (.agg ys.toArray)).run prog w=.ok (allEq xs ys) w:=by
 rw[run_equalIn_agg w (d+m+1) t _ _ ht hp];have:=hr.run d xs ys w (by rw[ri h1];exact h1) (by rw[ri h2];exact h2)
 rw[ri h1,ri h2]at this;exact this
theorem ko{m:Nat}{t:TypeId}{ks:List Sc}(ht:prog.underlying t=some (.struct (prog.fieldsOf t)))(hr:Row m 0 (prog.fieldsOf t).toList ks)(d:Nat){xs:List Value}(em:Bool)(w:World)(h1:cp ks xs=true):
  (Instr.checkKey em (d+m+2) t (.agg xs.toArray)).run prog w=.ok () w:=by
 have:=hr.keys d em xs w (by rw[ri h1];exact h1)
 rw[Instr.checkKey];simp only[Sem.run_bind,run_underlying ht,Result.andThen_ok];rw[<-Array.forIn_toList,this];rfl
theorem uZ{m:Nat}{t:TypeId}{ks:List Sc}(ht:prog.underlying t=some (.struct (prog.fieldsOf t)))(hp:prog.stoodInHeld t=false)(hr:Row m 0 (prog.fieldsOf t).toList ks)(hz:∀w,(sizeOf t).run prog w=.ok ks.length w):CmpAt (m+1) t ks:=by
 intro d xs ys off w h1 h2;have ha:∀w,(isAgg t).run prog w=.ok true w:=λw=>by simp[isAgg,run_underlying ht]
 have hx:∀zs:List Value,zs.toArray.extract off (off+ks.length)=((zs.drop off).take ks.length).toArray:=λzs=>by
  simp[List.extract_eq_take_drop]
 refine⟨.agg ((xs.drop off).take ks.length).toArray,.agg ((ys.drop off).take ks.length).toArray,λw=>by simp[part,ha,hz,hx],λw=>by simp[part,ha,hz,hx],?_⟩
 exact⟨kF ht hp hr d w h1 h2,λem w=>ko ht hr d em w h1⟩
def offs:List (TypeId×List Sc)->Nat->List (Bool×Nat×TypeId)
 |[],_=>[]
 |(t,ks)::l,off=>(false,off,t)::offs l (off+ks.length)
theorem Row.of {m : Nat} : ∀ (l : List (TypeId × List Sc)) (off : Nat) (fs : List Field), fs.map (fun f => (f.name == "_", f.offset, f.type)) = offs l off -> (∀ p ∈ l, CmpAt m p.1 p.2) -> Row m off fs (l.map (·.2)).flatten
 |[],off,fs,h,_=>by
  simp only[offs,List.map_eq_nil_iff]at h;subst h;exact .nil off
 |(t,ks)::l,off,[],h,_=>by simp[offs]at h
 |(t,ks)::l,off,f::fs,h,hc=>by
  simp only[List.map_cons,offs,List.cons.injEq,Prod.mk.injEq]at h;obtain⟨⟨h1,h2,h3⟩,h4⟩:=h;rw[List.map_cons,List.flatten_cons];exact .cons off f ks fs _ (by simpa using h1) h2 (by rw[h3];exact hc (t,ks) (by simp)) (Row.of l _ fs h4 λp hp=>hc p (List.mem_cons_of_mem _ hp))
theorem Rn:Row 0 0 (prog.fieldsOf 291).toList [.int .i64,.int .i64]:=Row.of [(3,[.int .i64]),(3,[.int .i64])] 0 _ (by kernel_rfl) (by simp;exact tB underlying3)
theorem HJ{m:Nat}:Row m 0 (prog.fieldsOf 27).toList [.int .i64,.int .i64,.int .i64]:=Row.of [(3,[.int .i64]),(3,[.int .i64]),(3,[.int .i64])] 0 _ (by kernel_rfl) (by simp;exact tB underlying3)
theorem Hh:prog.underlying 27=some (.struct (prog.fieldsOf 27)):=by kernel_rfl
theorem Xq:prog.underlying 86=some (.struct (prog.fieldsOf 86)):=by kernel_rfl
theorem Q2:prog.underlying 184=some (.struct (prog.fieldsOf 184)):=by kernel_rfl
theorem Q0:prog.underlying 291=some (.struct (prog.fieldsOf 291)):=by kernel_rfl
theorem VF:prog.stoodInHeld 27=false:=by kernel_rfl
theorem bg4:prog.stoodInHeld 86=false:=by kernel_rfl
theorem au5:prog.stoodInHeld 184=false:=by kernel_rfl
theorem au4:prog.stoodInHeld 291=false:=by kernel_rfl
theorem pO(w:World):(sizeOf 27).run prog w=.ok 3 w:=by
 have h:(prog.info? 27).map (·.size)=some 3:=by kernel_rfl
 obtain⟨i,h1,h2⟩:=Option.map_eq_some_iff.1 h;simp[sizeOf,typeInfo,h1,h2]
theorem Ro:Row 1 0 (prog.fieldsOf 184).toList [.int .i64,.int .i64,.int .i64,.int .i64,.int .i64,.int .i64,.int .i64]:=Row.of [(182,[.int .i64]),(3,[.int .i64]),(3,[.int .i64]),(3,[.int .i64]),(27,[.int .i64,.int .i64,.int .i64])] 0 _ (by kernel_rfl) (by
 simp;exact⟨tB underlying182,tB underlying3,uZ (m:=0) Hh VF HJ λw=>pO w⟩)
theorem Xr:prog.underlying 82=some (.struct (prog.fieldsOf 82)):=by kernel_rfl
theorem bg5:prog.stoodInHeld 82=false:=by kernel_rfl
theorem Yy:Row 1 0 (prog.fieldsOf 82).toList [.int .i64,.int .i64,.int .i64,.int .i64,.int .i64]:=Row.of [(3,[.int .i64]),(3,[.int .i64]),(27,[.int .i64,.int .i64,.int .i64])] 0 _ (by kernel_rfl) (by
 simp;exact⟨tB underlying3,uZ (m:=0) Hh VF HJ λw=>pO w⟩)
theorem Yx:Row 1 0 (prog.fieldsOf 86).toList [.int .i64,.int .i64,.int .i64,.int .i64]:=Row.of [(27,[.int .i64,.int .i64,.int .i64]),(3,[.int .i64])] 0 _ (by kernel_rfl) (by
 simp;exact⟨uZ (m:=0) Hh VF HJ λw=>pO w,tB underlying3⟩)
def sC(t:TypeId):Option (List Sc):=
 if t=27 then some [.int .i64,.int .i64,.int .i64]
 else if t=86 then some [.int .i64,.int .i64,.int .i64,.int .i64]
 else if t=184 then some [.int .i64,.int .i64,.int .i64,.int .i64,.int .i64,.int .i64,.int .i64]
 else if t=291 then some [.int .i64,.int .i64]
 else if t=82 then some [.int .i64,.int .i64,.int .i64,.int .i64,.int .i64]
 else none
theorem yJ{T:TypeId}{ks:List Sc}(h:sC T=some ks):T=27/\ks=[.int .i64,.int .i64,.int .i64]\/ T=86/\ks=[.int .i64,.int .i64,.int .i64,.int .i64]\/ T=184/\ks=[.int .i64,.int .i64,.int .i64,.int .i64,.int .i64,.int .i64,.int .i64]\/ T=291/\ks=[.int .i64,.int .i64]\/ T=82/\ks=[.int .i64,.int .i64,.int .i64,.int .i64,.int .i64]:=by
 unfold sC at h
 split at h
 ·rename_i q;exact .inl ⟨q,(Option.some.inj h).symm⟩
 ·split at h
  ·rename_i q;exact .inr (.inl ⟨q,(Option.some.inj h).symm⟩)
  ·split at h
   ·rename_i q;exact .inr (.inr (.inl ⟨q,(Option.some.inj h).symm⟩))
   ·split at h
    ·rename_i q;exact .inr (.inr (.inr (.inl ⟨q,(Option.some.inj h).symm⟩)))
    ·split at h
     ·rename_i q;exact .inr (.inr (.inr (.inr ⟨q,(Option.some.inj h).symm⟩)))
     ·cases h
theorem Tf:zf prog sC:=by
 intro T ks h xs ys w h1 h2;have gd:∀{T:TypeId},prog.eqGuardType prog.depth T=false->∀x y,(eqGuard .eql T x y (.agg xs.toArray) (.agg ys.toArray)).run prog w=.ok () w/\(eqGuard .neq T x y (.agg xs.toArray) (.agg ys.toArray)).run prog w=.ok () w:=λhg x y=>⟨run_eqGuard_agg w _ _ x y _ _ hg,run_eqGuard_agg w _ _ x y _ _ hg⟩
 rcases yJ h with⟨rfl,rfl⟩|⟨rfl,rfl⟩|⟨rfl,rfl⟩|⟨rfl,rfl⟩|⟨rfl,rfl⟩
 ·exact⟨kF (m:=0) Hh VF HJ 9998 w h1 h2,gd (by kernel_rfl)⟩
 ·exact⟨kF (m:=1) Xq bg4 Yx 9997 w h1 h2,gd (by kernel_rfl)⟩
 ·exact⟨kF (m:=1) Q2 au5 Ro 9997 w h1 h2,gd (by kernel_rfl)⟩
 ·exact⟨kF (m:=0) Q0 au4 Rn 9998 w h1 h2,gd (by kernel_rfl)⟩
 ·exact⟨kF (m:=1) Xr bg5 Yy 9997 w h1 h2,gd (by kernel_rfl)⟩
theorem P4:wI prog sC:=by
 intro T ks h xs w b h1;rcases yJ h with⟨rfl,rfl⟩|⟨rfl,rfl⟩|⟨rfl,rfl⟩|⟨rfl,rfl⟩|⟨rfl,rfl⟩
 ·exact ko (m:=0) Hh HJ 9998 b w h1
 ·exact ko (m:=1) Xq Yx 9997 b w h1
 ·exact ko (m:=1) Q2 Ro 9997 b w h1
 ·exact ko (m:=0) Q0 Rn 9998 b w h1
 ·exact ko (m:=1) Xr Yy 9997 b w h1
@[simp] theorem aS1:sC 27=some [.int .i64,.int .i64,.int .i64]:=rfl
@[simp] theorem aR9:sC 86=some [.int .i64,.int .i64,.int .i64,.int .i64]:=rfl
@[simp] theorem aF7:sC 184=some [.int .i64,.int .i64,.int .i64,.int .i64,.int .i64,.int .i64,.int .i64]:=rfl
@[simp] theorem aS0:sC 82=some [.int .i64,.int .i64,.int .i64,.int .i64,.int .i64]:=rfl
@[simp] theorem aF6:sC 291=some [.int .i64,.int .i64]:=rfl
attribute [simp] JZ ig cp Sc.has allEq vC
def cxS(bO:Nat->Kd):Cx:=⟨bW bl,sC,bO,λ_ _=>none,RD.any⟩
@[simp] theorem bs0 {p:Nat->Kd}:(cxS p).ty=bW bl:=rfl
@[simp] theorem aS6 {p:Nat->Kd} (t:TypeId):(cxS p).bR t=sC t:=rfl
@[simp] theorem aS5 {p:Nat->Kd} (t:Nat):(cxS p).bO t=p t:=rfl
@[simp] theorem aG1 {p:Nat->Kd} (f:FuncId) (a:List LV):(cxS p).spec f a=none:=rfl
@[simp] theorem bs1 {p:Nat->Kd}:(cxS p).rd=RD.any:=rfl
theorem jG{p:Nat->Kd}:(cxS p).ok prog:=⟨vt,Tf,P4,λf args pre v h=>(by cases h),(by kernel_rfl)⟩
theorem Az(n lo hi:Int):aC prog 171 [aH n,aH lo,aH hi] (.d (.k (.bool (decide (lo<=n)&&decide (n<=hi))))):=by
 refine aC.body aP func171 rfl call171 (by rw[ntmps171];simp) rfl λ_ H=>?_
 simp[ntmps171,results171]
def kE(o:Option Int)(left:Int):Int:=match o with
 |some l=>left-l
 |none=>-1
theorem H7(op cn:Int)(kids:List bh)(other:Bool)
  (ih:∀k∈kids,∀depth left:Int,0<=depth->left<=1000->aC prog 110 [lv (bU k),.d (.k (.bool other)),aH depth,aH left] (aH (kE (dJ other k depth left) left)))
  (depth left:Int) (hd:0<=depth) (hl:left<=1000):aC prog 110 [lv (bU (.mk op cn kids)),.d (.k (.bool other)),aH depth,aH left] (aH (kE (dJ other (.mk op cn kids) depth left) left)):=by
 have cc:=au (p:=bf [4] [] []);refine aC.EO (au (p:=bf [4] [] [])) func110 rfl call110 (by rw[ntmps110];simp) rfl λhf H=>?_
 simp[ntmps110,results110,aO,bh.op,bh.n,bh.kids]at hf|-;refine AW.seq cc ?_;simp;refine AW.seq cc ?_;simp;refine⟨λh=>by rw[dJ,if_neg (by omega)];rfl,λh1 h2=>?_⟩
 have hno:fG other op cn kids.length≠true->kE (dJ other (.mk op cn kids) depth left) left= -1:=λhq=>by rw[dJ,if_neg (by rintro⟨_,_,q⟩;exact hq q)];rfl
 refine AW.seq cc ?_;simp;refine AW.join (c:=xC (bf [4] [] [])) (λk:Int=>⟨[(1,.d (.k (.bool other))),(2,aH depth),(3,aH left),(4,.ip [.d (.k (.int .i64 op)),.d (.k (.int .i64 cn)),.d (.sl (kids.map bU))] 0),(9,aH 1),(10,aH k)],[],H⟩)
  (λk=>(op=1/\-1000000000<=cn/\cn<=1000000000\/ op=2\/ op=3\/ op=4\/ op=5/\other=true)/\k=0\/ 6<=op/\op<=10/\k=2) (AW.ev cc ?_) λk hk=>?_
 ·have hop:(op=2\/ op=3\/ op=4)\/ (op=6\/ op=7\/ op=8\/ op=9\/ op=10)\/ op=1\/ op=5\/ (op<1\/ 10<op):=by omega
  rcases hop with h|h|rfl|rfl|h
  ·rcases h with rfl|rfl|rfl
   all_goals simp;exact JN.go 0 (by simp) (by simp)
  ·rcases h with rfl|rfl|rfl|rfl|rfl
   all_goals simp;exact JN.go 2 (by simp) (by simp)
  ·simp;refine EC.aJ (Az _ _ _) ?_;simp;refine⟨λq=>?_,λq1 q2=>JN.go 0 (by simp;omega) (by simp)⟩
   rw[hno (by simp[fG];omega)]
  ·simp;refine⟨λq=>?_,λq=>JN.go 0 (by simp[q]) (by simp)⟩
   rw[hno (by simp[fG,q])]
  ·have e1:op≠1:=by omega
   have e2:op≠2:=by omega
   have e3:op≠3:=by omega
   have e4:op≠4:=by omega
   have e5:op≠5:=by omega
   have e6:op≠6:=by omega
   have e7:op≠7:=by omega
   have e8:op≠8:=by omega
   have e9:op≠9:=by omega
   have WW:op≠10:=by omega
   simp[e1,e2,e3,e4,e5,e6,e7,e8,e9,WW];rw[hno (by unfold fG;rw[if_neg e1,if_neg (by omega),if_neg e5];simp;omega)]
 ·refine AW.seq cc ?_;simp;have hok:∀q:(kids.length:Int)=k,(op=1\/ cn=0)->fG other op cn kids.length=true:=λq q2=>by
   unfold fG
   split
   ·exact decide_eq_true (by omega)
   ·split
    ·exact decide_eq_true (by omega)
    ·split
     ·refine decide_eq_true ⟨?_,by omega,by omega⟩
      rcases hk with⟨h|h|h|h|h,_⟩|h<;>first|exact h.2|omega
     ·exact decide_eq_true (by omega)
  refine⟨λq=>⟨q,λq2=>⟨q,q2⟩⟩,λq=>?_,λq1 q2=>?_⟩
  ·rw[hno];intro hq;unfold fG at hq;have hn:op≠1->cn≠0->False:=λq1 q2=>by
    rw[if_neg q1]at hq
    split at hq
    ·exact q2 (of_decide_eq_true hq).1
    ·split at hq
     ·exact q2 (of_decide_eq_true hq).2.1
     ·exact q2 (of_decide_eq_true hq).2.2.1
   have hl:(kids.length:Int)=k:=by
    split at hq
    ·have:=of_decide_eq_true hq;omega
    ·split at hq
     ·have:=of_decide_eq_true hq;omega
     ·split at hq
      ·have:=of_decide_eq_true hq;omega
      ·have:=of_decide_eq_true hq;omega
   rcases q with q|q
   ·exact q hl
   ·exact hn q.1 q.2
  have hsp:dJ other (.mk op cn kids) depth left=cz other kids (depth+1) (left-1):=by
   rw[dJ,if_pos ⟨by omega,by omega,hok q1 (by omega)⟩]
  rw[hsp];have w1:IntKind.wrap .i64 (depth+1)=depth+1:=by rw[wrap64]<;>omega
  refine AW.ev cc ?_;simp;refine AW.aV cc (λa:Nat×Int=>⟨[(1,.d (.k (.bool other))),(2,aH depth),(3,aH left),(4,.ip [.d (.k (.int .i64 op)),.d (.k (.int .i64 cn)),.d (.sl (kids.map bU))] 0),(9,aH (left-a.2)),(10,aH k),(11,aH a.1)],[],H⟩) (λa=>kids.length-a.1)
   (λa=>a.1<=kids.length/\0<=a.2/\a.2<=left-1/\cz other kids (depth+1) (left-1)=cz other (kids.drop a.1) (depth+1) a.2) (0,left-1) ⟨⟨by simp,by simp;omega,by simp,by simp⟩,by simp[show left-(left-1)=1 by omega]⟩ ?_
  rintro⟨i,lf⟩ ⟨hi,hl0,BA,hI⟩;simp only at hi hl0 BA hI;simp;refine⟨λh=>?_,λh=>?_⟩
  ·have h:i<kids.length:=by omega
   have hd:=List.drop_eq_getElem_cons h;rw[hd,cz]at hI;have w2:IntKind.wrap .i64 (left-(left-lf))=lf:=by rw[wrap64]<;>omega
   simp[h,List.getElem?_eq_getElem h,aO,w1,w2];refine EC.aJ (by simpa[aO]using ih kids[i] (List.getElem_mem h) (depth+1) lf (by omega) (by omega)) ?_
   cases hl:dJ other kids[i] (depth+1) lf with
   |none=>
    rw[hl]at hI;simp[kE];rw[hI]
   |some l=>
    rw[hl]at hI;have hle:=mO _ _ _ _ hl;have w3:IntKind.wrap .i64 (left-lf+(lf-l))=left-l:=by rw[wrap64]<;>omega
    simp[kE,w3];refine⟨λq=>by omega,λq=>NX.go (i+1,l) (by simp;omega) ⟨h,hle.1,by simp only;omega,hI⟩ (by simp[aB h hf.1])⟩
  ·have:kids.drop i=[]:=List.drop_eq_nil_of_le (by omega)
   rw[this,cz]at hI;rw[hI];simp[kE]
theorem AA(other:Bool):∀(c:bh) (depth left:Int),0<=depth->left<=1000->aC prog 110 [lv (bU c),.d (.k (.bool other)),aH depth,aH left] (aH (kE (dJ other c depth left) left))
 |.mk op cn kids,depth,left,hd,hl=>H7 op cn kids other (λk hk depth left hd hl=>AA other k depth left hd hl) depth left hd hl
mutual
theorem vB{n g sz N:Nat}{rows:List (List DV)}(h:N<=n):∀x:LV,x.nb N->x.cM n g sz rows=x
 |.vs m g' sz' i len,hx=>by
  simp only[LV.nb]at hx;simp only[LV.cM];rw[if_neg (by rintro⟨rfl,_⟩;omega)]
 |.fn f first cap,hx=>by simp only[LV.nb]at hx;simp only[LV.cM,mC h _ hx.1,mC h _ hx.2]
 |.agg xs,hx=>by simp only[LV.nb]at hx;simp only[LV.cM,mC h _ hx]
 |.dh xs,hx=>by simp only[LV.nb]at hx;simp only[LV.cM,mC h _ hx]
 |.gd _ _,_|.d _,_|.lp _ _,_|.gp _ _,_|.ep _ _ _ _,_|.lF _ _,_|.gm _,_|.vp _ _ _,_|.yl _,_|.ip _ _,_|.any,_=>by simp only[LV.cM]
theorem mC{n g sz N:Nat}{rows:List (List DV)}(h:N<=n):∀xs:List LV,cD N xs->jd n g sz rows xs=xs
 |[],_=>by simp only[jd]
 |x::xs,hx=>by simp only[cD]at hx;simp only[jd,vB h x hx.1,mC h xs hx.2]
end
theorem GO.vB{n g sz N:Nat}{rows:List (List DV)}(h:N<=n){o:GO}(ho:o.nb N):o.cM n g sz rows=o:=by
 cases o with
 |box cs=>simp only[GO.nb]at ho;simp only[GO.cM,mC h _ ho]
 |vec e g' sz' cells ex=>simp only[GO.nb]at ho;simp only[GO.cM,mC h _ ho]
 |_=>rfl
def two(H:GH)(a b:List LV):GH:=⟨λm=>if m=H.next+1 then some (.box b)else if m=H.next then some (.box a)else H.obj m,H.next+2⟩
@[simp] theorem at9 {H:GH} {a b:List LV}:(two H a b).next=H.next+2:=rfl
theorem EC.need{P:Program}{f:FuncId}{args:List LV}{H H1:GH}{s:S}{dst:Option Nat}{K:KT}{Q:QT}{b:Prop}[Decidable b]{x:LV}(h:aG P f args H λce H'=>H'=H1/\(if b then∃v,ce=.ret v else ce=.ej x))
  (hk:b->∀v,@AP K (({s with H:=H1}:S).put dst v)) (hp:¬b->Q.q (.ej x) {s with H:=H1}):@EC P f args H s dst K Q:=by
 refine EC.of h (λv H' hR=>?_) (λv H' hR=>?_)
 ·obtain⟨rfl,hR⟩:=hR;by_cases hb:b
  ·exact hk hb v
  ·rw[if_neg hb]at hR;cases hR
 ·obtain⟨rfl,hR⟩:=hR;by_cases hb:b
  ·rw[if_pos hb]at hR;obtain⟨_,e⟩:=hR;cases e
  ·rw[if_neg hb]at hR;cases hR;exact hp hb
@[simp] theorem aj0 {H:GH} {a b:List LV} {o:GO}:((two H a b).add o).next=H.next+3:=rfl
theorem wh(a b:List (List DV)):bM (a++b)=bM a++bM b:=by simp[bM]
theorem GH.set_set{H:GH}{n:Nat}{a b:GO}:(H.set n a).set n b=H.set n b:=by
 simp only[GH.set];congr 1;funext m;simp only[eL];split<;>rfl
theorem GH.aY{H:GH}{n:Nat}{a:GO}:(H.set n a).obj n=some a:=by simp[GH.set]
theorem Lf(op cn:Int)(kids:List bh)(other:Bool)
  (ih:∀k∈kids,∀(n:Nat) (H:GH) (x y z:LV) (ahead nodes depth:Int),H.obj n=some (scp [x,y,z] ahead nodes)->0<=nodes->nodes<=60->0<=depth->depth<=100->
   aG prog 210 [.gp n 0,lv (bU k),.d (.k (.bool other)),aH depth] H λce H'=>match dJ other k depth (60-nodes)with
    |some l=>(∃v,ce=.ret v)/\H'=H.set n (scp [x,y,z] ahead (60-l))
    |none=>ce=.ej ck/\∃m,H'=H.set n (scp [x,y,z] ahead m))
  (n:Nat) (H:GH) (x y z:LV) (ahead nodes depth:Int) (hn:H.obj n=some (scp [x,y,z] ahead nodes)) (h0:0<=nodes) (h1:nodes<=60) (Wv:0<=depth) (BE:depth<=100):
   aG prog 210 [.gp n 0,lv (bU (.mk op cn kids)),.d (.k (.bool other)),aH depth] H λce H'=>match dJ other (.mk op cn kids) depth (60-nodes)with
    |some l=>(∃v,ce=.ret v)/\H'=H.set n (scp [x,y,z] ahead (60-l))
    |none=>ce=.ej ck/\∃m,H'=H.set n (scp [x,y,z] ahead m):=by
 have cc:=au (p:=bf [5] [] []);refine aG.dG (au (p:=bf [5] [] [])) func210 rfl call210 (by rw[ntmps210];simp) rfl λhf hw=>?_
 simp[ntmps210,results210,aO,bh.op,bh.n,bh.kids]at hf|-;have hc:cD H.next [x,y,z]:=by
  have:=hw.nb n _ hn;simp[scp,GO.nb,cD,LV.nb]at this|-;exact this
 have hlt:=hw.lt hn;have vj:∀m,gU (H.set n (scp [x,y,z] ahead m))->Drop H (H.set n (scp [x,y,z] ahead m)) (H.set n (scp [x,y,z] ahead m)):=λm hz=>hz.drop (by rw[GH.aM];exact Nat.le_refl _)
 refine AW.seq cc ?_;simp;refine AW.seq cc ?_;simp[hlt];refine EC.need (Hu n H x y z ahead nodes depth hn hc h0 (by omega)) (λhb v=>?_) (λhb=>?_)
 rotate_left
 ·simp;refine λhz=>⟨_,vj _ hz,by simp[ck,LV.nb],?_⟩
  rw[dJ,if_neg (by omega)]
  exact⟨_,rfl⟩
 have hno:fG other op cn kids.length≠true->dJ other (.mk op cn kids) depth (60-nodes)=none:=λhq=>by rw[dJ,if_neg (by rintro⟨_,_,q⟩;exact hq q)]
 simp;refine AW.seq cc ?_;simp;have uh:gU (H.set n (scp [x,y,z] ahead (nodes+1)))->fG other op cn kids.length≠true->∃H',Drop H (H.set n (scp [x,y,z] ahead (nodes+1))) H'/\(ck:LV).nb H'.next/\match dJ other (.mk op cn kids) depth (60-nodes)with
    |some l=>False
    |none=>∃m,H'=H.set n (scp [x,y,z] ahead m):=λhz hq=>by
  refine⟨_,vj _ hz,by simp[ck,LV.nb],?_⟩
  rw[hno hq];exact⟨_,rfl⟩
 refine AW.join (c:=xC (bf [5] [] [])) (λk:Int=>⟨[(0,.gp n 0),(2,.d (.k (.bool other))),(3,aH depth),(5,.ip [.d (.k (.int .i64 op)),.d (.k (.int .i64 cn)),.d (.sl (kids.map bU))] 0),(8,aH k)],[],H.set n (scp [x,y,z] ahead (nodes+1))⟩)
  (λk=>(op=1/\-1000000000<=cn/\cn<=1000000000\/ op=2\/ op=3\/ op=4\/ op=5/\other=true)/\k=0\/ 6<=op/\op<=10/\k=2) (AW.ev cc ?_) λk hk=>?_
 ·have hop:(op=2\/ op=3\/ op=4)\/ (op=6\/ op=7\/ op=8\/ op=9\/ op=10)\/ op=1\/ op=5\/ (op<1\/ 10<op):=by omega
  rcases hop with h|h|rfl|rfl|h
  ·rcases h with rfl|rfl|rfl
   all_goals simp;exact JN.go 0 (by simp) (by simp)
  ·rcases h with rfl|rfl|rfl|rfl|rfl
   all_goals simp;exact JN.go 2 (by simp) (by simp)
  ·simp;refine EC.need (eo _ _) (λhb v=>?_) (λhb=>?_)
   ·simp at hb;simp;exact JN.go 0 (by simp;omega) (by simp)
   ·simp at hb;simp;refine λhz=>uh hz ?_
    simp[fG];omega
  ·simp;refine EC.need (eo _ _) (λhb v=>?_) (λhb=>?_)
   ·simp;exact JN.go 0 (by simp[hb]) (by simp)
   ·simp;refine λhz=>uh hz ?_
    simp[fG,hb]
  ·have e1:op≠1:=by omega
   have e2:op≠2:=by omega
   have e3:op≠3:=by omega
   have e4:op≠4:=by omega
   have e5:op≠5:=by omega
   have e6:op≠6:=by omega
   have e7:op≠7:=by omega
   have e8:op≠8:=by omega
   have e9:op≠9:=by omega
   have WW:op≠10:=by omega
   simp[e1,e2,e3,e4,e5,e6,e7,e8,e9,WW];refine EC.need (eo _ _) (λhb v=>?_) (λhb=>?_)
   ·simp at hb
   ·simp;refine λhz=>uh hz ?_
    unfold fG;rw[if_neg e1,if_neg (by omega),if_neg e5]
    simp;omega
 ·refine AW.seq cc ?_;simp;refine⟨λq=>⟨q,λq2=>⟨q,q2⟩⟩,EC.need (eo _ _) (λhb v=>?_) (λhb=>?_)⟩
  rotate_left
  ·simp at hb;simp;refine λhz=>uh hz ?_
   intro hq;unfold fG at hq;have hn:op≠1->cn≠0->False:=λq1 q2=>by
    rw[if_neg q1]at hq
    split at hq
    ·exact q2 (of_decide_eq_true hq).1
    ·split at hq
     ·exact q2 (of_decide_eq_true hq).2.1
     ·exact q2 (of_decide_eq_true hq).2.2.1
   have hl:(kids.length:Int)=k:=by
    split at hq
    ·have:=of_decide_eq_true hq;omega
    ·split at hq
     ·have:=of_decide_eq_true hq;omega
     ·split at hq
      ·have:=of_decide_eq_true hq;omega
      ·have:=of_decide_eq_true hq;omega
   have:=hb hl;exact hn this.1 this.2
  simp at hb;have hok:fG other op cn kids.length=true:=by
   unfold fG
   split
   ·exact decide_eq_true (by omega)
   ·split
    ·exact decide_eq_true (by omega)
    ·split
     ·refine decide_eq_true ⟨?_,by omega,by omega⟩
      rcases hk with⟨h|h|h|h|h,_⟩|h<;>first|exact h.2|omega
     ·exact decide_eq_true (by omega)
  have hsp:dJ other (.mk op cn kids) depth (60-nodes)=cz other kids (depth+1) (59-nodes):=by
   rw[dJ,if_pos ⟨by omega,by omega,hok⟩,show 60-nodes-1=59-nodes by omega]
  rw[hsp];simp;have w1:IntKind.wrap .i64 (depth+1)=depth+1:=by rw[wrap64]<;>omega
  refine AW.ev cc ?_;simp;refine AW.aV cc (λa:Nat×Int=>⟨[(0,.gp n 0),(2,.d (.k (.bool other))),(3,aH depth),(59,.d (.sl (kids.map bU))),(60,aH kids.length),(61,aH a.1)],[],H.set n (scp [x,y,z] ahead (60-a.2))⟩) (λa=>kids.length-a.1)
   (λa=>a.1<=kids.length/\0<=a.2/\a.2<=59-nodes/\cz other kids (depth+1) (59-nodes)=cz other (kids.drop a.1) (depth+1) a.2) (0,59-nodes) ⟨⟨by simp,by simp;omega,by simp,by simp⟩,by simp[show 60-(59-nodes)=nodes+1 by omega]⟩ ?_
  rintro⟨i,left⟩ ⟨hi,hl0,BA,hI⟩;simp only at hi hl0 BA hI;simp;refine⟨λh=>?_,λh=>?_⟩
  ·have hd:=List.drop_eq_getElem_cons h;rw[hd,cz]at hI;simp[h,List.getElem?_eq_getElem h,aO,hlt,w1,GH.aM];have ih':=ih kids[i] (List.getElem_mem h) n (H.set n (scp [x,y,z] ahead (60-left))) x y z ahead (60-left) (depth+1) GH.aY (by omega) (by omega) (by omega) (by omega)
   rw[show 60-(60-left)=left by omega]at ih'
   simp only[GH.set_set,R1,aO,List.map_cons,List.map_nil,Bc]at ih';refine EC.of ih' (λv' H' hR=>?_) (λv' H' hR=>?_)
   ·cases hl:dJ other kids[i] (depth+1) left with
    |none=>rw[hl]at hR;cases hR.1
    |some l=>
     rw[hl]at hR hI;have hle:=mO _ _ _ _ hl;obtain⟨_,rfl⟩:=hR;simp[aB h hf.1];exact NX.go (i+1,l) (by simp;omega) ⟨h,hle.1,by simp only;omega,hI⟩ (by simp)
   ·cases hl:dJ other kids[i] (depth+1) left with
    |some l=>rw[hl]at hR;obtain⟨⟨_,q⟩,_⟩:=hR;cases q
    |none=>
     rw[hl]at hR hI;obtain⟨q,m,rfl⟩:=hR;cases q;simp;refine λhz=>⟨_,vj _ hz,by simp[ck,LV.nb],?_⟩
     rw[hI];exact⟨_,rfl⟩
  ·have:kids.drop i=[]:=List.drop_eq_nil_of_le h;rw[this,cz]at hI;rw[hI];exact λhz=>⟨_,vj _ hz,rfl⟩
theorem Dp(other:Bool):∀(c:bh) (n:Nat) (H:GH) (x y z:LV) (ahead nodes depth:Int),H.obj n=some (scp [x,y,z] ahead nodes)->0<=nodes->nodes<=60->0<=depth->depth<=100->
   aG prog 210 [.gp n 0,lv (bU c),.d (.k (.bool other)),aH depth] H λce H'=>match dJ other c depth (60-nodes)with
    |some l=>(∃v,ce=.ret v)/\H'=H.set n (scp [x,y,z] ahead (60-l))
    |none=>ce=.ej ck/\∃m,H'=H.set n (scp [x,y,z] ahead m)
 |.mk op cn kids,n,H,x,y,z,ahead,nodes,depth,hn,h0,h1,Wv,BE=>Lf op cn kids other (λk hk n H x y z ahead nodes depth hn h0 h1 Wv BE=>Dp other k n H x y z ahead nodes depth hn h0 h1 Wv BE) n H x y z ahead nodes depth hn h0 h1 Wv BE
def uL(l:List cq):List (Value×LV):=l.map λs=>(.string s,.d (.k (.bool true)))
theorem nL{a b:cq}:xd (.string a) (.string b)=decide (a=b):=by simp[xd,vC]
theorem Ny:∀(l:List cq) (s:cq),s∉l->cr (.string s) (.d (.k (.bool true))) (uL l)=uL (l++[s])
 |[],s,_=>by simp[cr,uL]
 |x::l,s,h=>by
  have h1:s≠x:=λe=>h (by simp[e])
  have:=Ny l s (λe=>h (by simp[e]))
  simp only[uL,List.map_cons,List.cons_append,cr,nL,h1,decide_false,Bool.false_eq_true,if_false]at this|-;rw[this]
theorem IG:∀(l:List cq) (s:cq),bD (.string s) (uL l)=if l.all (λk=>decide (s≠k))=true then none else some (.d (.k (.bool true)))
 |[],s=>by simp[bD,uL]
 |x::l,s=>by
  have:=IG l s;simp only[uL,List.map_cons,bD,nL]at this|-;by_cases e:s=x
  ·subst e;simp
  ·simp[e];simpa using this
theorem GH.cV{H:GH}{a b:GO}:(H.add a).set H.next b=H.add b:=by
 simp only[GH.add,GH.set];congr 1;funext m;simp only[eL];split<;>rfl
theorem Ph(l:List cq)(s:cq):(bD (.string s) (uL l)).getD (.d (.k (.bool false)))=.d (.k (.bool (!l.all λk=>decide (s≠k)))):=by
 rw[IG]
 split
 ·rename_i h;rw[h];rfl
 ·rename_i h;cases hb:l.all (λk=>decide (s≠k))with
  |true=>exact absurd hb h
  |false=>rfl
theorem V8(l:List cq)(a:Value)(b:LV)(hab:(a,b)∈uL l):(KK.sc Sc.str).has a=true:=by
 simp only[uL,List.mem_map]at hab;obtain⟨s,_,q⟩:=hab;cases q;rfl
theorem Mg(i:Nat)(h:i<eX.length):eX[i]∉eX.take i:=by
 have:∀i:Fin 34,(eX.take i.1).all (λk=>decide (eX.getD i.1 ⟨#[]⟩≠k))=true:=by decide
 intro hm;have h1:=this ⟨i,h⟩;rw[List.all_eq_true]at h1;have h2:=h1 _ hm;simp[List.getD,List.getElem?_eq_getElem h]at h2
theorem CL(H:GH):aG prog 211 [] H λce H'=>ce=.ret (.gm H.next)/\H'=H.add (.map (uL eX)):=by
 have cc:=aP;refine aG.bG aP func211 rfl call211 (by rw[ntmps211];simp) rfl λhf hw=>?_
 have hr:List.range' 0 34=[0,1,2,3,4,5,6,7,8,9,10,11,12,13,14,15,16,17,18,19,20,21,22,23,24,25,26,27,28,29,30,31,32,33]:=rfl;simp[ntmps211,results211,hr];have hk:(DV.sl (eX.map rS))=DV.sl (eX.map rS):=rfl;refine AW.aV cc (λi:Nat=>⟨[(1,.gm H.next),(5,.d (.sl (eX.map rS))),(6,aH 34),(7,aH i)],[],H.add (.map (uL (eX.take i)))⟩) (λi=>34-i) (λi=>i<=34) 0 ⟨by simp,by simp[uL,eX,rS]⟩ ?_
 intro i hi;simp;refine⟨λh=>?_,λh=>?_⟩
 ·have hi':i<eX.length:=by simp[eX];omega
  have hk:∀(a:Value) (b:LV),(a,b)∈uL (eX.take i)->(KK.sc Sc.str).has a=true:=λa b hab=>by
   simp only[uL,List.mem_map]at hab;obtain⟨s,_,q⟩:=hab;cases q;rfl
  have hm:=Ny (eX.take i) eX[i] (Mg i hi');rw[aR hi']at hm;simp[hi',List.getElem?_eq_getElem hi',rS,GH.ax,GH.aq,KK.has,Sc.has,hm,aB (n:=34) (show i<34 by omega)]
  refine⟨λa b hab=>hk a b hab,NX.go (i+1) (by omega) (by omega) (by simp[GH.cV])⟩
 ·have:i=34:=by omega
  subst this;have hl:eX.take 34=eX:=rfl;rw[hl];exact λhz=>⟨hz.drop (by simp[GH.aq]),by simp[GH.aq]⟩
theorem Bf{s:cq}(h:∀j,j<s.size->97<=jH s (j:Nat)/\jH s (j:Nat)<=122):nK s=true:=by
 simp only[nK,List.all_eq_true,List.mem_range];exact λj hj=>decide_eq_true (h j hj)
theorem yp{s:cq}{j:Nat}(hj:j<s.size)(h:jH s (j:Nat)<97\/ 122<jH s (j:Nat)):nK s=false:=by
 cases hl:nK s with
 |false=>rfl
 |true=>
  simp only[nK,List.all_eq_true,List.mem_range]at hl;have:=of_decide_eq_true (hl j hj);omega
theorem OQ(s:cq)(hs:cN s):aC prog 158 [.d (.k (.string s))] (.d (.k (.bool (gV s)))):=by
 have cc:=aP;unfold cN at hs;refine aC.body aP func158 rfl call158 (by rw[ntmps158];simp) rfl λhf H=>?_
 simp[ntmps158,results158];refine AW.aV cc (λi:Nat=>⟨[(0,.d (.k (.string s))),(5,aH s.size),(6,aH i)],[],H⟩) (λi=>s.size-i) (λi=>i<=s.size/\∀j,j<i->97<=jH s (j:Nat)/\jH s (j:Nat)<=122) 0 (by simp) λi hi=>?_
 simp;refine⟨λh=>⟨h,λq=>⟨q,h⟩,λq=>by simp[gV,yp h q],λq1 q2=>?_⟩,λh=>?_⟩
 ·refine NX.go (i+1) (by omega) ⟨h,λj hj=>?_⟩ (by simp[aB h (show s.size<=9223372036854775807 by omega)])
  by_cases e:j=i
  ·subst e;exact⟨q1,q2⟩
  ·exact hi.2 j (by omega)
 ·have hl:nK s=true:=Bf λj hj=>hi.2 j (by omega)
  by_cases hc:0<s.size/\s.size<=8
  ·have h8:(s.size:Int)<=8:=by omega
   have h9:¬8<(s.size:Int):=by omega
   simp[hc.1,h8,h9];refine EC.of (CL H) (λv H' hR=>?_) (λv H' hR=>?_)
   ·obtain⟨q,rfl⟩:=hR;cases q;simp[hc.1,h8,h9,GH.ax,GH.aq,Ph];refine⟨⟨rfl,λa b hab=>V8 _ a b hab⟩,?_⟩
    refine⟨?_,λn hn e=>by omega⟩
    have h1:1<=s.size:=hc.1;simp[gV,h1,hc.2,hl]
   ·cases hR.1
  ·by_cases h0:0<s.size
   ·have h8:¬(s.size:Int)<=8:=by omega
    simp[h0,h8,gV]
    intros;omega
   ·simp[h0,gV]
    intros;omega
end Go.Aft
end
