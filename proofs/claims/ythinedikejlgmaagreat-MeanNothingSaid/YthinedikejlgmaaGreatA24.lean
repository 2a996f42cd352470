import Derived.Test.YthinedikejlgmaaGreatA17
import Derived.ProofKit
import Derived.OpenShut
import Derived.ShutString
import Derived.ChangeOld
import Derived.Below
import Derived.Carry
import Derived.SizedLaws
import Derived.Test.YthinedikejlgmaaGreatA21
import Derived.Test.YthinedikejlgmaaGreatA23
set_option linter.all false
section
namespace Go.Aft
open Go.RowKit
def allM (w:World):Mem:=fun b o=>w.cell? ⟨b,o,none⟩
def allG (w:World):Gh:=⟨allM w,fun _=>.none,fun _=>0,fun _=>undef,fun _=>0⟩
def H0:GH:=⟨fun _=>none,0⟩
theorem allG_MR (w:World):MR (allG w) noL noS H0 w :=
 ⟨fun b o v h=>h,fun b o v h=>.inl rfl,fun b hb=>⟨rfl,fun o=>by
  simp only [allG,allM,World.cell?]
  rw [Array.getElem?_eq_none hb]⟩,fun _ _=>rfl,fun k cs h=>(by cases h),fun n o h=>(by cases h)⟩
theorem AFun.calls {P:Program} {f:FuncId} {args:List LV} {v:LV} (h:AFun P f args v) (w:World) (vs:List Value) (ha:LRs (allG w) 0 noL args vs) :
  Calls P f vs.toArray w fun e w'=>(∃ G x,e=.returned x/\LR G 0 noL v x)/\Below w.heap.size w w':=by
 refine Calls.mono ((h H0).2 (allG w) w vs (allG_MR w) (fun b k q=>by cases q) ha) ?_
 rintro e w' ⟨ce,H',G',⟨rfl,rfl⟩,hE,hM,hN,hx⟩
 obtain ⟨x,rfl,hr⟩:=hE
 exact ⟨⟨G',x,rfl,hr⟩,hx.os,hx.tape,hx.output,hx.size,fun k hk=>hx.frame k hk (.inl rfl)⟩
theorem AFun.callsT {P:Program} {f:FuncId} {args:List LV} (h:AFun P f args (.d (.k (.bool true)))) (w:World) (vs:List Value) (ha:LRs (allG w) 0 noL args vs) :
  Calls P f vs.toArray w fun e w'=>e=.returned (.bool true)/\Below w.heap.size w w':=by
 refine Calls.mono (h.calls w vs ha) ?_
 rintro e w' ⟨⟨G,x,rfl,hr⟩,hb⟩
 unfold LR DR at hr
 rw [hr.1];exact ⟨rfl,hb⟩
def RL (M:Mem):List DV->List Value->Prop
 | [],[]=>True
 | d :: ds,v :: vs=>DR M d v/\RL M ds vs
 | _,_=>False
theorem RL_append {M:Mem}:∀ {a b:List DV} {x y:List Value},RL M a x->RL M b y->RL M (a ++ b) (x ++ y)
 | [],b,[],y,_,k=>k
 | [],b,_ :: _,y,h,_=>h.elim
 | _ :: _,b,[],y,h,_=>h.elim
 | d :: a,b,v :: x,y,h,k=>⟨h.1,RL_append h.2 k⟩
theorem RL_LRs {G:Gh} {nx:Nat} {lm:Nat->Option Nat}:∀ {a:List DV} {x:List Value},RL G.M a x->LRs G nx lm (a.map .d) x
 | [],[],_=>by simp [LRs]
 | [],_ :: _,h=>h.elim
 | _ :: _,[],h=>h.elim
 | d :: a,v :: x,h=>by simp only [List.map_cons];unfold LRs;exact ⟨v,x,rfl,by unfold LR;exact h.1,RL_LRs h.2⟩
theorem RC_of_RL {M:Mem} {b:Nat}:∀ {r:List DV} {cs:List Value} {o:Nat},RL M r cs->(∀ i v,cs[i]?=some v->M b (o+i)=some v)->RC M b o r
 | [],[],o,_,_=>by simp [RC]
 | [],_ :: _,_,h,_=>h.elim
 | _ :: _,[],_,h,_=>h.elim
 | d :: r,c :: cs,o,h,hm=>by
  unfold RC
  exact ⟨⟨c,by simpa using hm 0 c rfl,h.1⟩,RC_of_RL h.2 fun i v hv=>by have:=hm (i+1) v hv;rw [show o+1+i=o+(i+1) by omega];exact this⟩
theorem RR_of {M:Mem} {b k:Nat}:∀ {rs:List (List DV)} {o:Nat},(∀ (i:Nat) r,rs[i]?=some r->RC M b (o+i * k) r/\r.length=k)->RR M b o rs
 | [],o,_=>by simp [RR]
 | r :: rs,o,h=>by
  unfold RR
  have h0:=h 0 r rfl
  refine ⟨by simpa using h0.1,RR_of (k:=k) fun i r' hr=>?_⟩
  have:=h (i+1) r' hr
  rw [h0.2,show o+k+i * k=o+(i+1) * k by rw [Nat.succ_mul];omega];exact this
theorem mapM_get {α β:Type} {f:α->Option β}:∀ {l:List α} {ys:List β},l.mapM f=some ys->ys.length=l.length/\∀ (i:Nat) (y:β),ys[i]?=some y->∃ x,l[i]?=some x/\f x=some y
 | [],ys,h=>by simp at h;subst h;simp
 | a :: l,ys,h=>by
  rw [List.mapM_cons] at h
  simp only [Option.pure_def,Option.bind_eq_bind,Option.bind_eq_some_iff,Option.some.injEq] at h
  obtain ⟨y,hy,zs,hz,rfl⟩:=h
  obtain ⟨h1,h2⟩:=mapM_get hz
  refine ⟨by simp [h1],fun i z hi=>?_⟩
  cases i with
  | zero=>simp at hi;subst hi;exact ⟨a,rfl,hy⟩
  | succ i=>exact h2 i z (by simpa using hi)
section
variable {H:Type} {enc:TypeId × Value->H} {P:Program} {w:World}
def Wt (P:Program) (t:TypeId) (d:DataW H):Prop:=∀ n ∈ d.weights P t,n<=reachBytes
def Rd (enc:TypeId × Value->H) (P:Program) (w:World) {α:Type} (t:TypeId) (r:α->List DV) (fit:α->Prop) (fuel:Nat):Prop :=
 ∀ cs d ps,DataW.trod enc P w 0 (fun _=>true) true fuel t cs=some (d,ps)->∃ x,RL (allM w) (r x) cs/\(Wt P t d->fit x)
theorem Rd.zero {α:Type} {t:TypeId} {r:α->List DV} {fit:α->Prop}:Rd enc P w t r fit 0:=fun cs d ps h=>by simp [DataW.trod] at h
theorem Rd.map {α β:Type} {t:TypeId} {r:α->List DV} {fit:α->Prop} {r':β->List DV} {fit':β->Prop} {fuel:Nat} (h:Rd enc P w t r fit fuel) (g:α->β) (hr:∀ x,r' (g x)=r x) (hf:∀ x,fit x->fit' (g x)):Rd enc P w t r' fit' fuel :=
 fun cs d ps q=>by
  obtain ⟨x,h1,h2⟩:=h cs d ps q
  exact ⟨g x,by rw [hr];exact h1,fun q=>hf x (h2 q)⟩
theorem Rd.int {t:TypeId} {k:IntKind} (hu:P.underlying t=some (.int k)) (fuel:Nat):Rd enc P w t (fun n:Int=>[.k (.int k n)]) (fun n=>(Lit.int k n).wf=true) fuel:=by
 intro cs d ps h
 cases fuel with
 | zero=>simp [DataW.trod] at h
 | succ fuel =>
  unfold DataW.trod at h
  simp only [hu] at h
  split at h <;> simp_all
  obtain ⟨⟨rfl,h1⟩,_⟩:=h
  exact ⟨_,by simp [RL,DR,Value.oneCell'],fun _=>h1⟩
theorem Rd.str {t:TypeId} (hu:P.underlying t=some .string) (fuel:Nat):Rd enc P w t (fun s:ByteArray=>[.k (.string s)]) (fun s=>s.size<=reachBytes) fuel:=by
 intro cs d ps h
 cases fuel with
 | zero=>simp [DataW.trod] at h
 | succ fuel =>
  unfold DataW.trod at h
  simp only [hu] at h
  split at h <;> simp_all only [Option.some.injEq,reduceCtorEq]
  rename_i s
  split at h
  ·rename_i h1
   simp only [Option.some.injEq,Prod.mk.injEq] at h
   obtain ⟨h2,_⟩:=h
   refine ⟨s,by simp [RL,DR,Value.oneCell'],fun hw=>?_⟩
   have:=hw s.data.toList.length (by rw [<- h2];simp [DataW.weights])
   simpa using this
  ·cases h
theorem cells_get {base n:Nat} {a:Addr} {cs:List Value} (h:w.cells? base a n=some cs):cs.length=n/\∀ i v,cs[i]?=some v->w.cell? (a.add i)=some v:=by
 unfold World.cells? at h
 split at h
 ·obtain ⟨h1,h2⟩:=mapM_get h
  refine ⟨by simpa using h1,fun i v hv=>?_⟩
  obtain ⟨x,hx,hf⟩:=h2 i v hv
  have:x=i:=by
   have hl:=(List.getElem?_eq_some_iff.1 hx).1
   simp at hl
   rw [List.getElem?_range hl] at hx
   cases hx;rfl
  rw [<- this];exact hf
 ·cases h
theorem cell_spot {a:Addr} {n:Nat} {v:Value} (h:w.cell? (a.add n)=some v):(a.add n) = ⟨a.block,a.off+n,none⟩:=by
 have hs:(a.add n).spot=none:=by
  unfold World.cell? at h
  split at h
  ·split at h
   ·cases h
   ·rename_i q;simpa using q
  ·cases h
 unfold Addr.add at hs |-
 split
 ·rename_i e
  rw [if_pos e] at hs
  subst e
  cases a;simp_all
 ·rfl
theorem Rd.sliceL {α:Type} {t e:TypeId} {r:α->List DV} {fit:α->Prop} (hu:P.underlying t=some (.slice e)) (hk:0 < P.cellsOf e) (hr:∀ x,(r x).length=P.cellsOf e) (fuel:Nat) (h:∀ f,f < fuel->Rd enc P w e r fit f) :
  Rd enc P w t (fun xs:List α=>[.sl (xs.map r)]) (fun xs=>xs.length * P.bytesOf e<=reachBytes/\∀ x ∈ xs,fit x) fuel:=by
 intro cs d ps hd
 cases fuel with
 | zero=>simp [DataW.trod] at hd
 | succ fuel =>
  have he:=h fuel (Nat.lt_succ_self _)
  clear h
  cases cs with
  | nil=>simp [DataW.trod,hu] at hd
  | cons c tl =>
   cases tl with
   | cons c2 tl=>cases c <;> simp [DataW.trod,hu] at hd
   | nil =>
    cases c with
    | slice a len cap =>
     cases a with
     | none =>
      cases len <;> cases cap <;> simp [DataW.trod,hu] at hd
      exact ⟨[],⟨by unfold DR;exact ⟨none,0,0,rfl,Nat.le_refl _,by simp [maxLen],by simp,.inl rfl⟩,trivial⟩,fun _=>by simp⟩
     | some a =>
      simp only [DataW.trod,hu] at hd
      split at hd
      ·rename_i hb
       simp only [Option.bind_eq_some_iff,Option.map_eq_some_iff] at hd
       obtain ⟨elems,h1,rest,h2,h3⟩:=hd
       obtain ⟨l1,g1⟩:=mapM_get h1
       simp only [List.length_range] at l1
       have key:∀ i (y:DataW H × List MemPlace),elems[i]?=some y->∃ x cs,RL (allM w) (r x) cs/\(Wt P e y.1->fit x)/\cs.length=P.cellsOf e/\∀ k v,cs[k]?=some v->w.cell? ((a.add (i * P.cellsOf e)).add k)=some v:=by
        intro i y hy
        obtain ⟨x,hx,hf⟩:=g1 i y hy
        have hxi:x=i:=by
         have hl:=(List.getElem?_eq_some_iff.1 hx).1
         simp at hl
         rw [List.getElem?_range hl] at hx
         cases hx;rfl
        subst hxi
        simp only [Option.bind_eq_some_iff] at hf
        obtain ⟨cs,hc,ht⟩:=hf
        obtain ⟨c1,c2⟩:=cells_get hc
        obtain ⟨z,hz,hz2⟩:=he cs y.1 y.2 ht
        exact ⟨z,cs,hz,hz2,c1,c2⟩
       have hlist:∀ (es:List (DataW H × List MemPlace)) (o:Nat),(∀ i y,es[i]?=some y->elems[o+i]?=some y)->∃ xs:List α,xs.length=es.length/\∀ i x,xs[i]?=some x->∃ y cs,es[i]?=some y/\RL (allM w) (r x) cs/\(Wt P e y.1->fit x)/\cs.length=P.cellsOf e/\∀ k v,cs[k]?=some v->w.cell? ((a.add ((o+i) * P.cellsOf e)).add k)=some v:=by
        intro es
        induction es with
        | nil=>intro o _;exact ⟨[],rfl,fun i x h=>by simp at h⟩
        | cons y es ih =>
         intro o ho
         obtain ⟨x,cs,q1,q2,q3,q4⟩:=key o y (by simpa using ho 0 y rfl)
         obtain ⟨xs,p1,p2⟩:=ih (o+1) fun i y' hy=>by rw [show o+1+i=o+(i+1) by omega];exact ho (i+1) y' (by simpa using hy)
         refine ⟨x :: xs,by simp [p1],fun i z hz=>?_⟩
         cases i with
         | zero=>simp at hz;subst hz;exact ⟨y,cs,rfl,q1,q2,q3,q4⟩
         | succ i =>
          obtain ⟨y',cs',s1,s2,s3,s4,s5⟩:=p2 i z (by simpa using hz)
          exact ⟨y',cs',by simpa using s1,s2,s3,s4,by rw [show o+(i+1)=o+1+i by omega];exact s5⟩
       obtain ⟨xs,p1,p2⟩:=hlist elems 0 fun i y h=>by simpa using h
       simp only [Nat.zero_add] at p2
       refine ⟨xs,?_,fun hw=>⟨?_,fun x hx=>?_⟩⟩
       ·refine ⟨?_,trivial⟩
        unfold DR
        refine ⟨some a,cap,P.cellsOf e,by simp [p1,l1],by simp [p1,l1];omega,hb.2.2,fun r' hr'=>?_,?_⟩
        ·obtain ⟨x,_,rfl⟩:=List.mem_map.1 hr';exact hr x
        ·cases hxs:xs with
         | nil=>exact .inl rfl
         | cons x0 xs0 =>
          right
          obtain ⟨y,cs,s1,s2,s3,s4,s5⟩:=p2 0 x0 (by rw [hxs];rfl)
          have hspot:a = ⟨a.block,a.off,none⟩:=by
           have hc:∃ v,cs[0]?=some v:=⟨cs[0]'(by omega),List.getElem?_eq_getElem (by omega)⟩
           obtain ⟨v,hv⟩:=hc
           have:=s5 0 v hv
           simp only [Nat.zero_mul] at this
           have e0:(a.add 0).add 0=a:=by simp [Addr.add]
           rw [e0] at this
           have:=cell_spot (a:=a) (n:=0) (by simpa [Addr.add] using this)
           simpa [Addr.add] using this
          refine ⟨a.block,a.off,by rw [<- hspot],?_⟩
          rw [<- hxs]
          refine RR_of (k:=P.cellsOf e) fun i r' hr'=>?_
          rw [List.getElem?_map,Option.map_eq_some_iff] at hr'
          obtain ⟨x,hx,rfl⟩:=hr'
          obtain ⟨y,cs,s1,s2,s3,s4,s5⟩:=p2 i x hx
          refine ⟨RC_of_RL s2 fun k v hv=>?_,hr x⟩
          have:=s5 k v hv
          have e1:=cell_spot this
          rw [e1] at this
          have e2:a.add (i * P.cellsOf e) = ⟨a.block,a.off+i * P.cellsOf e,none⟩:=by
           rw [hspot];exact addr_add _ _ _
          rw [e2] at this
          exact this
       ·cases h3
        have h5:=hw ((elems.length+rest.length) * P.bytesOf e) (by simp only [DataW.weights,hu,List.length_map];exact List.mem_cons_self ..)
        rw [p1]
        exact Nat.le_trans (Nat.mul_le_mul_right _ (Nat.le_add_right _ _)) h5
       ·obtain ⟨i,hi,rfl⟩:=List.mem_iff_getElem.1 hx
        obtain ⟨y,cs,s1,s2,s3,s4,s5⟩:=p2 i _ (List.getElem?_eq_getElem hi)
        refine s3 fun n hn=>hw n ?_
        cases h3
        simp only [DataW.weights,hu,List.mem_cons,List.mem_append]
        right;left
        have:∀ (es:List (DataW H × List MemPlace)) (i:Nat),es[i]?=some y->n ∈ DataW.weightsAll P e (es.map (·.1)):=by
         intro es
         induction es with
         | nil=>intro i h;simp at h
         | cons z es ih =>
          intro i h
          simp only [List.map_cons,DataW.weightsAll,List.mem_append]
          cases i with
          | zero=>simp at h;subst h;exact .inl hn
          | succ i=>exact .inr (ih i (by simpa using h))
        exact this elems i s1
      ·cases hd
    | _=>simp [DataW.trod,hu] at hd
theorem Rd.slice {α:Type} {t e:TypeId} {r:α->List DV} {fit:α->Prop} (hu:P.underlying t=some (.slice e)) (hk:0 < P.cellsOf e) (hr:∀ x,(r x).length=P.cellsOf e) (fuel:Nat) (h:∀ f,f < fuel->Rd enc P w e r fit f) :
  Rd enc P w t (fun xs:List α=>[.sl (xs.map r)]) (fun xs=>∀ x ∈ xs,fit x) fuel:=(Rd.sliceL hu hk hr fuel h).map id (fun _=>rfl) (fun _ q=>q.2)
def RdFs (enc:TypeId × Value->H) (P:Program) (w:World) {α:Type} (n:Nat) (fs:List Field) (off:Nat) (r:α->List DV) (fit:α->Prop) (fuel:Nat):Prop :=
 ∀ (cs:List Value) (xs:List (DataW H × List MemPlace)),cs.length=n->fs.mapM (fun f=>DataW.trod enc P w 0 (fun _=>true) true fuel f.type ((cs.drop f.offset).take (P.cellsOf f.type)))=some xs ->
  ∃ x,RL (allM w) (r x) (cs.drop off)/\((∀ m ∈ DataW.weightsEach P (fs.map (·.type)) (xs.map (·.1)),m<=reachBytes)->fit x)
theorem RdFs.nil {n fuel:Nat}:RdFs enc P w n [] n (fun _:Unit=>[]) (fun _=>True) fuel:=fun cs xs hn h=>⟨(),by rw [List.drop_of_length_le (by omega)];trivial,fun _=>trivial⟩
theorem RdFs.cons {α β:Type} {n off fuel:Nat} {f:Field} {fs:List Field} {r:α->List DV} {fit:α->Prop} {r':β->List DV} {fit':β->Prop} (ho:f.offset=off) (h:Rd enc P w f.type r fit fuel) (k:RdFs enc P w n fs (off+P.cellsOf f.type) r' fit' fuel) :
  RdFs enc P w n (f :: fs) off (fun x:α × β=>r x.1 ++ r' x.2) (fun x=>fit x.1/\fit' x.2) fuel:=by
 intro cs xs hn hm
 rw [List.mapM_cons] at hm
 simp only [Option.pure_def,Option.bind_eq_bind,Option.bind_eq_some_iff,Option.some.injEq] at hm
 obtain ⟨y,hy,zs,hz,rfl⟩:=hm
 obtain ⟨x,h1,h2⟩:=h _ _ _ hy
 obtain ⟨x',k1,k2⟩:=k cs zs hn hz
 rw [ho] at h1
 refine ⟨(x,x'),?_,fun hw=>⟨h2 fun m hm=>hw m ?_,k2 fun m hm=>hw m ?_⟩⟩
 ·have:=RL_append h1 k1
  rw [<- List.drop_drop,List.take_append_drop] at this
  exact this
 ·simp only [List.map_cons,DataW.weightsEach,List.mem_append];exact .inl hm
 ·simp only [List.map_cons,DataW.weightsEach,List.mem_append];exact .inr hm
theorem Rd.struct {α:Type} {t:TypeId} {fs:Array Field} {r:α->List DV} {fit:α->Prop} (hu:P.underlying t=some (.struct fs)) (fuel:Nat) (h:∀ f,f < fuel->RdFs enc P w (P.cellsOf t) fs.toList 0 r fit f):Rd enc P w t r fit fuel:=by
 intro cs d ps hd
 cases fuel with
 | zero=>simp [DataW.trod] at hd
 | succ fuel =>
  have he:=h fuel (Nat.lt_succ_self _)
  unfold DataW.trod at hd
  simp only [hu] at hd
  split at hd
  ·rename_i hl
   simp only [Option.map_eq_some_iff,Prod.mk.injEq] at hd
   obtain ⟨xs,h1,h2,h3⟩:=hd
   obtain ⟨x,q1,q2⟩:=he cs xs hl h1
   rw [List.drop_zero] at q1
   refine ⟨x,q1,fun hw=>q2 fun m hm=>hw m ?_⟩
   rw [<- h2]
   simp only [DataW.weights,hu];exact hm
  ·cases hd
end
theorem read_struct {H:Type} {enc:TypeId × Value->H} {P:Program} {W:World} {α:Type} {t:TypeId} {fs:Array Field} {r:α->List DV} {fit:α->Prop} {base:Nat} {v:Value} {d:DataW H} {p:List MemPlace} (hr:∀ fuel,Rd enc P W t r fit fuel) (hu:P.underlying t=some (.struct fs))
  (hval:Value.okWide P W .any base t v) (hd:DataW.Trod enc P W 0 (fun _=>true) true t v d p) (hw:Wt P t d):∃ x,fit x/\LR (allG W) 0 noL (.agg ((r x).map .d)) v:=by
 obtain ⟨cs,rfl,_⟩:=Go.WideShapes.okWide_struct hu hval
 obtain ⟨fuel,hf⟩:=hd
 obtain ⟨x,h1,h2⟩:=hr fuel _ _ _ hf
 refine ⟨x,h2 hw,?_⟩
 unfold LR
 exact ⟨cs.toList,by simp,RL_LRs h1⟩
theorem wt_of {H:Type} {P:Program} {ts:List TypeId} {ds:List (DataW H)} (h:(DataW.weightsEach P ts ds).all (·<=reachBytes)=true) {j:Nat} {t:TypeId} {d:DataW H} (ht:ts[j]?=some t) (hd:ds[j]?=some d):Wt P t d:=fun n hn=>by
 have:=List.all_eq_true.1 h _ (DataW.weights_mem_each ht hd n hn)
 simpa using this
end Go.Aft
end
section
set_option maxRecDepth 20000
namespace Go.Aft
open Go.Proofs.Tryz
theorem hasAll_int {ks:List Sc} {vs:List Value} (h:hasAll (.int .i64 :: ks) vs=true):∃ a us,vs=.int .i64 a :: us/\hasAll ks us=true:=by
 cases vs with
 | nil=>simp [hasAll] at h
 | cons v us =>
  simp only [hasAll,Bool.and_eq_true] at h
  cases v <;> simp [Sc.has] at h
  obtain ⟨rfl,h⟩:=h
  exact ⟨_,us,rfl,h⟩
theorem hasAll_nil {vs:List Value} (h:hasAll [] vs=true):vs=[]:=by
 cases vs with
 | nil=>rfl
 | cons v us=>simp [hasAll] at h
def CmpAt (m:Nat) (t:TypeId) (ks:List Sc):Prop:=∀ (d:Nat) (xs ys:List Value) (off:Nat) (w:World),hasAll ks ((xs.drop off).take ks.length)=true->hasAll ks ((ys.drop off).take ks.length)=true ->
 ∃ a b,(∀ w,(part t xs.toArray off).run prog w=.ok a w)/\(∀ w,(part t ys.toArray off).run prog w=.ok b w)/\(Op.equalIn (d+m+1) t a b).run prog w=.ok (allEq ((xs.drop off).take ks.length) ((ys.drop off).take ks.length)) w/\∀ em w,(Instr.checkKey em (d+m+1) t a).run prog w=.ok () w
theorem take1 {xs:List Value} {off:Nat} {v:Value} (h:(xs.drop off).take 1=[v]):xs[off]?=some v:=by
 have:=congrArg (fun l=>l[0]?) h
 simpa using this
theorem cmp_int {m:Nat} {t:TypeId} (hu:prog.underlying t=some (.int .i64)):CmpAt m t [.int .i64]:=by
 intro d xs ys off w h1 h2
 obtain ⟨a,us,e1,e2⟩:=hasAll_int h1
 obtain ⟨b,us',e3,e4⟩:=hasAll_int h2
 have:=hasAll_nil e2;subst this
 have:=hasAll_nil e4;subst this
 have x1:=take1 e1
 have x2:=take1 e3
 have ha:∀ w,(isAgg t).run prog w=.ok false w:=fun w=>by simp [isAgg,run_underlying hu]
 refine ⟨.int .i64 a,.int .i64 b,fun w=>by simp [part,ha,x1],fun w=>by simp [part,ha,x2],?_⟩
 have r:=run_equalIn_int w (d+m) t .i64 .i64 a b hu
 rw [show ([Sc.int IntKind.i64]:List Sc).length=1 from rfl] at *
 rw [e1,e3,r]
 refine ⟨by simp [allEq,scEq],fun em w=>?_⟩
 simp [Instr.checkKey,run_underlying hu]
theorem hasAll_len:∀ {ks:List Sc} {vs:List Value},hasAll ks vs=true->vs.length=ks.length
 | [],vs,h=>by rw [hasAll_nil h];rfl
 | k :: ks,[],h=>by simp [hasAll] at h
 | k :: ks,v :: vs,h=>by simp only [hasAll,Bool.and_eq_true] at h;simp [hasAll_len h.2]
theorem hasAll_append:∀ {ks js:List Sc} {vs us:List Value},vs.length=ks.length->(hasAll (ks ++ js) (vs ++ us)=true ↔ hasAll ks vs=true/\hasAll js us=true)
 | [],js,[],us,_=>by simp [hasAll]
 | k :: ks,js,v :: vs,us,h=>by simp only [List.cons_append,hasAll,Bool.and_eq_true,hasAll_append (Nat.succ.inj h),and_assoc]
theorem allEq_append:∀ {a b c d:List Value},a.length=c.length->allEq (a ++ b) (c ++ d)=(allEq a c && allEq b d)
 | [],b,[],d,_=>by simp [allEq]
 | x :: a,b,y :: c,d,h=>by simp only [List.cons_append,allEq,allEq_append (Nat.succ.inj h),Bool.and_assoc]
inductive Row (m:Nat):Nat->List Field->List Sc->Prop
 | nil (off:Nat):Row m off [] []
 | cons (off : Nat) (f : Field) (ks : List Sc) (fs : List Field) (js : List Sc) (h1 : f.name ≠ "_") (h2 : f.offset = off) (h3 : CmpAt m f.type ks) (h : Row m (off + ks.length) fs js) : Row m off (f :: fs) (ks ++ js)
theorem Row.run {m off:Nat} {fs:List Field} {ks:List Sc} (h:Row m off fs ks):∀ (d:Nat) (xs ys:List Value) (w:World),hasAll ks ((xs.drop off).take ks.length)=true->hasAll ks ((ys.drop off).take ks.length)=true ->
  (Op.eqFields (d+m+1) xs.toArray ys.toArray fs).run prog w=.ok (allEq ((xs.drop off).take ks.length) ((ys.drop off).take ks.length)) w:=by
 induction h with
 | nil off=>intro d xs ys w _ _;simp [Op.eqFields,allEq]
 | cons off f ks fs js h1 h2 h3 h ih =>
  intro d xs ys w g1 g2
  have spl:∀ zs:List Value,(zs.drop off).take (ks ++ js).length=(zs.drop off).take ks.length ++ (zs.drop (off+ks.length)).take js.length:=fun zs=>by
   rw [List.length_append,List.take_add,List.drop_drop]
  have len:∀ zs:List Value,hasAll (ks ++ js) ((zs.drop off).take (ks ++ js).length)=true->((zs.drop off).take ks.length).length=ks.length:=fun zs g=>by
   have:=hasAll_len g
   simp only [List.length_take,List.length_append] at this |-;omega
  have l1:=len xs g1
  have l2:=len ys g2
  rw [spl] at g1 g2 |-
  rw [spl]
  rw [hasAll_append l1] at g1
  rw [hasAll_append l2] at g2
  obtain ⟨a,b,p1,p2,p3,p4⟩:=h3 d xs ys off w g1.1 g2.1
  rw [allEq_append (by rw [l1,l2])]
  simp only [Op.eqFields,h1,ne_eq,not_false_eq_true,if_true,h2,Sem.run_bind,p1,p2,p3,Result.andThen_ok]
  have:=ih d xs ys w g1.2 g2.2
  cases allEq ((xs.drop off).take ks.length) ((ys.drop off).take ks.length) with
  | false=>simp
  | true=>simp [this]
theorem Row.keys {m off:Nat} {fs:List Field} {ks:List Sc} (h:Row m off fs ks):∀ (d:Nat) (em:Bool) (xs:List Value) (w:World),hasAll ks ((xs.drop off).take ks.length)=true ->
  (forIn (m:=Sem) fs PUnit.unit fun f r=>do
   if f.name ≠ "_" then do
    let v <- part f.type xs.toArray f.offset
    Instr.checkKey em (d+m+1) f.type v
    pure (ForInStep.yield PUnit.unit)
   else pure (ForInStep.yield PUnit.unit)).run prog w=.ok PUnit.unit w:=by
 induction h with
 | nil off=>intro d em xs w _;simp
 | cons off f ks fs js h1 h2 h3 h ih =>
  intro d em xs w g1
  have spl:∀ zs:List Value,(zs.drop off).take (ks ++ js).length=(zs.drop off).take ks.length ++ (zs.drop (off+ks.length)).take js.length:=fun zs=>by
   rw [List.length_append,List.take_add,List.drop_drop]
  have l1:((xs.drop off).take ks.length).length=ks.length:=by
   have:=hasAll_len g1
   simp only [List.length_take,List.length_append] at this |-;omega
  rw [spl,hasAll_append l1] at g1
  obtain ⟨a,b,p1,p2,p3,p4⟩:=h3 d xs xs off w g1.1 g1.1
  have:=ih d em xs w g1.2
  simp only [List.forIn_cons,h1,ne_eq,not_false_eq_true,if_true,h2,Sem.run_bind,p1,p4,Result.andThen_ok,Sem.run_pure]
  exact this
theorem take_all {ks:List Sc} {xs:List Value} (h:hasAll ks xs=true):(xs.drop 0).take ks.length=xs:=by
 rw [<- hasAll_len h];simp
theorem cmp_struct {m:Nat} {t:TypeId} {ks:List Sc} (ht:prog.underlying t=some (.struct (prog.fieldsOf t))) (hp:prog.stoodInHeld t=false) (hr:Row m 0 (prog.fieldsOf t).toList ks) (d:Nat) {xs ys:List Value} (w:World) (h1:hasAll ks xs=true) (h2:hasAll ks ys=true) :
  (Op.equalIn (d+m+2) t (.agg xs.toArray) (.agg ys.toArray)).run prog w=.ok (allEq xs ys) w:=by
 rw [run_equalIn_agg w (d+m+1) t _ _ ht hp]
 have:=hr.run d xs ys w (by rw [take_all h1];exact h1) (by rw [take_all h2];exact h2)
 rw [take_all h1,take_all h2] at this
 exact this
theorem key_struct {m:Nat} {t:TypeId} {ks:List Sc} (ht:prog.underlying t=some (.struct (prog.fieldsOf t))) (hr:Row m 0 (prog.fieldsOf t).toList ks) (d:Nat) {xs:List Value} (em:Bool) (w:World) (h1:hasAll ks xs=true) :
  (Instr.checkKey em (d+m+2) t (.agg xs.toArray)).run prog w=.ok () w:=by
 have:=hr.keys d em xs w (by rw [take_all h1];exact h1)
 rw [Instr.checkKey]
 simp only [Sem.run_bind,run_underlying ht,Result.andThen_ok]
 rw [<- Array.forIn_toList,this]
 rfl
theorem cmp_nested {m:Nat} {t:TypeId} {ks:List Sc} (ht:prog.underlying t=some (.struct (prog.fieldsOf t))) (hp:prog.stoodInHeld t=false) (hr:Row m 0 (prog.fieldsOf t).toList ks) (hz:∀ w,(sizeOf t).run prog w=.ok ks.length w):CmpAt (m+1) t ks:=by
 intro d xs ys off w h1 h2
 have ha:∀ w,(isAgg t).run prog w=.ok true w:=fun w=>by simp [isAgg,run_underlying ht]
 have hx:∀ zs:List Value,zs.toArray.extract off (off+ks.length)=((zs.drop off).take ks.length).toArray:=fun zs=>by
  simp [List.extract_eq_take_drop]
 refine ⟨.agg ((xs.drop off).take ks.length).toArray,.agg ((ys.drop off).take ks.length).toArray,fun w=>by simp [part,ha,hz,hx],fun w=>by simp [part,ha,hz,hx],?_⟩
 exact ⟨cmp_struct ht hp hr d w h1 h2,fun em w=>key_struct ht hr d em w h1⟩
def offs:List (TypeId × List Sc)->Nat->List (Bool × Nat × TypeId)
 | [],_=>[]
 | (t,ks) :: l,off=>(false,off,t) :: offs l (off+ks.length)
theorem Row.of {m : Nat} : ∀ (l : List (TypeId × List Sc)) (off : Nat) (fs : List Field), fs.map (fun f => (f.name == "_", f.offset, f.type)) = offs l off -> (∀ p ∈ l, CmpAt m p.1 p.2) -> Row m off fs (l.map (·.2)).flatten
 | [],off,fs,h,_=>by
  simp only [offs,List.map_eq_nil_iff] at h;subst h;exact .nil off
 | (t,ks) :: l,off,[],h,_=>by simp [offs] at h
 | (t,ks) :: l,off,f :: fs,h,hc=>by
  simp only [List.map_cons,offs,List.cons.injEq,Prod.mk.injEq] at h
  obtain ⟨⟨h1,h2,h3⟩,h4⟩:=h
  rw [List.map_cons,List.flatten_cons]
  exact .cons off f ks fs _ (by simpa using h1) h2 (by rw [h3];exact hc (t,ks) (by simp)) (Row.of l _ fs h4 fun p hp=>hc p (List.mem_cons_of_mem _ hp))
theorem row291:Row 0 0 (prog.fieldsOf 291).toList [.int .i64,.int .i64]:=Row.of [(3,[.int .i64]),(3,[.int .i64])] 0 _ (by kernel_rfl) (by simp;exact cmp_int underlying3)
theorem row27 {m:Nat}:Row m 0 (prog.fieldsOf 27).toList [.int .i64,.int .i64,.int .i64]:=Row.of [(3,[.int .i64]),(3,[.int .i64]),(3,[.int .i64])] 0 _ (by kernel_rfl) (by simp;exact cmp_int underlying3)
theorem und27:prog.underlying 27=some (.struct (prog.fieldsOf 27)):=by kernel_rfl
theorem und86:prog.underlying 86=some (.struct (prog.fieldsOf 86)):=by kernel_rfl
theorem und184:prog.underlying 184=some (.struct (prog.fieldsOf 184)):=by kernel_rfl
theorem und291:prog.underlying 291=some (.struct (prog.fieldsOf 291)):=by kernel_rfl
theorem si27:prog.stoodInHeld 27=false:=by kernel_rfl
theorem si86:prog.stoodInHeld 86=false:=by kernel_rfl
theorem si184:prog.stoodInHeld 184=false:=by kernel_rfl
theorem si291:prog.stoodInHeld 291=false:=by kernel_rfl
theorem run_sizeOf27 (w:World):(sizeOf 27).run prog w=.ok 3 w:=by
 have h:(prog.info? 27).map (·.size)=some 3:=by kernel_rfl
 obtain ⟨i,h1,h2⟩:=Option.map_eq_some_iff.1 h
 simp [sizeOf,typeInfo,h1,h2]
theorem row184:Row 1 0 (prog.fieldsOf 184).toList [.int .i64,.int .i64,.int .i64,.int .i64,.int .i64,.int .i64,.int .i64]:=Row.of [(182,[.int .i64]),(3,[.int .i64]),(3,[.int .i64]),(3,[.int .i64]),(27,[.int .i64,.int .i64,.int .i64])] 0 _ (by kernel_rfl) (by
 simp
 exact ⟨cmp_int underlying182,cmp_int underlying3,cmp_nested (m:=0) und27 si27 row27 fun w=>run_sizeOf27 w⟩)
theorem und82:prog.underlying 82=some (.struct (prog.fieldsOf 82)):=by kernel_rfl
theorem si82:prog.stoodInHeld 82=false:=by kernel_rfl
theorem row82:Row 1 0 (prog.fieldsOf 82).toList [.int .i64,.int .i64,.int .i64,.int .i64,.int .i64]:=Row.of [(3,[.int .i64]),(3,[.int .i64]),(27,[.int .i64,.int .i64,.int .i64])] 0 _ (by kernel_rfl) (by
 simp
 exact ⟨cmp_int underlying3,cmp_nested (m:=0) und27 si27 row27 fun w=>run_sizeOf27 w⟩)
theorem row86:Row 1 0 (prog.fieldsOf 86).toList [.int .i64,.int .i64,.int .i64,.int .i64]:=Row.of [(27,[.int .i64,.int .i64,.int .i64]),(3,[.int .i64])] 0 _ (by kernel_rfl) (by
 simp
 exact ⟨cmp_nested (m:=0) und27 si27 row27 fun w=>run_sizeOf27 w,cmp_int underlying3⟩)
def eqTab (t:TypeId):Option (List Sc) :=
 if t=27 then some [.int .i64,.int .i64,.int .i64]
 else if t=86 then some [.int .i64,.int .i64,.int .i64,.int .i64]
 else if t=184 then some [.int .i64,.int .i64,.int .i64,.int .i64,.int .i64,.int .i64,.int .i64]
 else if t=291 then some [.int .i64,.int .i64]
 else if t=82 then some [.int .i64,.int .i64,.int .i64,.int .i64,.int .i64]
 else none
theorem eqTab_cases {T:TypeId} {ks:List Sc} (h:eqTab T=some ks):T=27/\ks=[.int .i64,.int .i64,.int .i64] \/ T=86/\ks=[.int .i64,.int .i64,.int .i64,.int .i64] \/ T=184/\ks=[.int .i64,.int .i64,.int .i64,.int .i64,.int .i64,.int .i64,.int .i64] \/ T=291/\ks=[.int .i64,.int .i64] \/ T=82/\ks=[.int .i64,.int .i64,.int .i64,.int .i64,.int .i64]:=by
 unfold eqTab at h
 split at h
 ·rename_i q;exact .inl ⟨q,(Option.some.inj h).symm⟩
 ·split at h
  ·rename_i q;exact .inr (.inl ⟨q,(Option.some.inj h).symm⟩)
  ·split at h
   ·rename_i q;exact .inr (.inr (.inl ⟨q,(Option.some.inj h).symm⟩))
   ·split at h
    ·rename_i q;exact .inr (.inr (.inr (.inl ⟨q,(Option.some.inj h).symm⟩)))
    ·split at h
     ·rename_i q;exact .inr (.inr (.inr (.inr ⟨q,(Option.some.inj h).symm⟩)))
     ·cases h
theorem eqTab_ok:EqOk prog eqTab:=by
 intro T ks h xs ys w h1 h2
 have gd:∀ {T:TypeId},prog.eqGuardType prog.depth T=false->∀ x y,(eqGuard .eql T x y (.agg xs.toArray) (.agg ys.toArray)).run prog w=.ok () w/\(eqGuard .neq T x y (.agg xs.toArray) (.agg ys.toArray)).run prog w=.ok () w:=fun hg x y=>⟨run_eqGuard_agg w _ _ x y _ _ hg,run_eqGuard_agg w _ _ x y _ _ hg⟩
 rcases eqTab_cases h with ⟨rfl,rfl⟩ | ⟨rfl,rfl⟩ | ⟨rfl,rfl⟩ | ⟨rfl,rfl⟩ | ⟨rfl,rfl⟩
 ·exact ⟨cmp_struct (m:=0) und27 si27 row27 9998 w h1 h2,gd (by kernel_rfl)⟩
 ·exact ⟨cmp_struct (m:=1) und86 si86 row86 9997 w h1 h2,gd (by kernel_rfl)⟩
 ·exact ⟨cmp_struct (m:=1) und184 si184 row184 9997 w h1 h2,gd (by kernel_rfl)⟩
 ·exact ⟨cmp_struct (m:=0) und291 si291 row291 9998 w h1 h2,gd (by kernel_rfl)⟩
 ·exact ⟨cmp_struct (m:=1) und82 si82 row82 9997 w h1 h2,gd (by kernel_rfl)⟩
theorem eqTab_key:KeyOk prog eqTab:=by
 intro T ks h xs w b h1
 rcases eqTab_cases h with ⟨rfl,rfl⟩ | ⟨rfl,rfl⟩ | ⟨rfl,rfl⟩ | ⟨rfl,rfl⟩ | ⟨rfl,rfl⟩
 ·exact key_struct (m:=0) und27 row27 9998 b w h1
 ·exact key_struct (m:=1) und86 row86 9997 b w h1
 ·exact key_struct (m:=1) und184 row184 9997 b w h1
 ·exact key_struct (m:=0) und291 row291 9998 b w h1
 ·exact key_struct (m:=1) und82 row82 9997 b w h1
@[simp] theorem eqTab27:eqTab 27=some [.int .i64,.int .i64,.int .i64]:=rfl
@[simp] theorem eqTab86:eqTab 86=some [.int .i64,.int .i64,.int .i64,.int .i64]:=rfl
@[simp] theorem eqTab184:eqTab 184=some [.int .i64,.int .i64,.int .i64,.int .i64,.int .i64,.int .i64,.int .i64]:=rfl
@[simp] theorem eqTab82:eqTab 82=some [.int .i64,.int .i64,.int .i64,.int .i64,.int .i64]:=rfl
@[simp] theorem eqTab291:eqTab 291=some [.int .i64,.int .i64]:=rfl
attribute [simp] eqAgg constsOf hasAll Sc.has allEq scEq
def cxS (pub:Nat->Kd):Cx:=⟨tyOf tyTab,eqTab,pub,fun _ _=>none,RD.any⟩
@[simp] theorem cxS_ty {p:Nat->Kd}:(cxS p).ty=tyOf tyTab:=rfl
@[simp] theorem cxS_eqt {p:Nat->Kd} (t:TypeId):(cxS p).eqt t=eqTab t:=rfl
@[simp] theorem cxS_pub {p:Nat->Kd} (t:Nat):(cxS p).pub t=p t:=rfl
@[simp] theorem cxS_spec {p:Nat->Kd} (f:FuncId) (a:List LV):(cxS p).spec f a=none:=rfl
@[simp] theorem cxS_rd {p:Nat->Kd}:(cxS p).rd=RD.any:=rfl
theorem cxS_ok {p:Nat->Kd}:(cxS p).ok prog:=⟨tyTab_ok,eqTab_ok,eqTab_key,fun f args pre v h=>(by cases h),(by kernel_rfl)⟩
end Go.Aft
end
section
set_option maxRecDepth 20000
namespace Go.Aft
open Go.Proofs.Tryz
theorem ref02_in (n lo hi:Int):AFun prog 171 [lvI n,lvI lo,lvI hi] (.d (.k (.bool (decide (lo<=n) && decide (n<=hi))))):=by
 refine AFun.body cx0_ok func171 rfl call171 (by rw [ntmps171];simp) rfl fun _ H=>?_
 simp [ntmps171,results171]
def cntV (o:Option Int) (left:Int):Int:=match o with
 | some l=>left - l
 | none=>-1
theorem ref02_calc1 (op cn:Int) (kids:List Calc) (other:Bool)
  (ih:∀ k ∈ kids,∀ depth left:Int,0<=depth->left<=1000->AFun prog 110 [lv (rCalc k),.d (.k (.bool other)),lvI depth,lvI left] (lvI (cntV (lCalc other k depth left) left)))
  (depth left:Int) (hd:0<=depth) (hl:left<=1000):AFun prog 110 [lv (rCalc (.mk op cn kids)),.d (.k (.bool other)),lvI depth,lvI left] (lvI (cntV (lCalc other (.mk op cn kids) depth left) left)):=by
 have cc:=cxK_ok (p:=kds [4] [] [])
 refine AFun.bodyW (cxK_ok (p:=kds [4] [] [])) func110 rfl call110 (by rw [ntmps110];simp) rfl fun hf H=>?_
 simp [ntmps110,results110,rCalc_eq,Calc.op,Calc.n,Calc.kids] at hf |-
 refine AW.seq cc ?_
 simp
 refine AW.seq cc ?_
 simp
 refine ⟨fun h=>by rw [lCalc,if_neg (by omega)];rfl,fun h1 h2=>?_⟩
 have hno:calcOk other op cn kids.length ≠ true->cntV (lCalc other (.mk op cn kids) depth left) left = -1:=fun hq=>by rw [lCalc,if_neg (by rintro ⟨_,_,q⟩;exact hq q)];rfl
 refine AW.seq cc ?_
 simp
 refine AW.join (c:=cxK (kds [4] [] [])) (fun k:Int=>⟨[(1,.d (.k (.bool other))),(2,lvI depth),(3,lvI left),(4,.ip [.d (.k (.int .i64 op)),.d (.k (.int .i64 cn)),.d (.sl (kids.map rCalc))] 0),(9,lvI 1),(10,lvI k)],[],H⟩)
  (fun k=>(op=1/\-1000000000<=cn/\cn<=1000000000 \/ op=2 \/ op=3 \/ op=4 \/ op=5/\other=true)/\k=0 \/ 6<=op/\op<=10/\k=2) (AW.ev cc ?_) fun k hk=>?_
 ·have hop:(op=2 \/ op=3 \/ op=4) \/ (op=6 \/ op=7 \/ op=8 \/ op=9 \/ op=10) \/ op=1 \/ op=5 \/ (op < 1 \/ 10 < op):=by omega
  rcases hop with h | h | rfl | rfl | h
  ·rcases h with rfl | rfl | rfl
   all_goals simp;exact JN.go 0 (by simp) (by simp)
  ·rcases h with rfl | rfl | rfl | rfl | rfl
   all_goals simp;exact JN.go 2 (by simp) (by simp)
  ·simp
   refine EC.afun (ref02_in _ _ _) ?_
   simp
   refine ⟨fun q=>?_,fun q1 q2=>JN.go 0 (by simp;omega) (by simp)⟩
   rw [hno (by simp [calcOk];omega)]
  ·simp
   refine ⟨fun q=>?_,fun q=>JN.go 0 (by simp [q]) (by simp)⟩
   rw [hno (by simp [calcOk,q])]
  ·have e1:op ≠ 1:=by omega
   have e2:op ≠ 2:=by omega
   have e3:op ≠ 3:=by omega
   have e4:op ≠ 4:=by omega
   have e5:op ≠ 5:=by omega
   have e6:op ≠ 6:=by omega
   have e7:op ≠ 7:=by omega
   have e8:op ≠ 8:=by omega
   have e9:op ≠ 9:=by omega
   have e10:op ≠ 10:=by omega
   simp [e1,e2,e3,e4,e5,e6,e7,e8,e9,e10]
   rw [hno (by unfold calcOk;rw [if_neg e1,if_neg (by omega),if_neg e5];simp;omega)]
 ·refine AW.seq cc ?_
  simp
  have hok:∀ q:(kids.length:Int)=k,(op=1 \/ cn=0)->calcOk other op cn kids.length=true:=fun q q2=>by
   unfold calcOk
   split
   ·exact decide_eq_true (by omega)
   ·split
    ·exact decide_eq_true (by omega)
    ·split
     ·refine decide_eq_true ⟨?_,by omega,by omega⟩
      rcases hk with ⟨h | h | h | h | h,_⟩ | h <;> first | exact h.2 | omega
     ·exact decide_eq_true (by omega)
  refine ⟨fun q=>⟨q,fun q2=>⟨q,q2⟩⟩,fun q=>?_,fun q1 q2=>?_⟩
  ·rw [hno]
   intro hq
   unfold calcOk at hq
   have hn:op ≠ 1->cn ≠ 0->False:=fun q1 q2=>by
    rw [if_neg q1] at hq
    split at hq
    ·exact q2 (of_decide_eq_true hq).1
    ·split at hq
     ·exact q2 (of_decide_eq_true hq).2.1
     ·exact q2 (of_decide_eq_true hq).2.2.1
   have hl:(kids.length:Int)=k:=by
    split at hq
    ·have:=of_decide_eq_true hq;omega
    ·split at hq
     ·have:=of_decide_eq_true hq;omega
     ·split at hq
      ·have:=of_decide_eq_true hq;omega
      ·have:=of_decide_eq_true hq;omega
   rcases q with q | q
   ·exact q hl
   ·exact hn q.1 q.2
  have hsp:lCalc other (.mk op cn kids) depth left=lCalcs other kids (depth+1) (left - 1):=by
   rw [lCalc,if_pos ⟨by omega,by omega,hok q1 (by omega)⟩]
  rw [hsp]
  have w1:IntKind.wrap .i64 (depth+1)=depth+1:=by rw [wrap64] <;> omega
  refine AW.ev cc ?_
  simp
  refine AW.loopS cc (fun a:Nat × Int=>⟨[(1,.d (.k (.bool other))),(2,lvI depth),(3,lvI left),(4,.ip [.d (.k (.int .i64 op)),.d (.k (.int .i64 cn)),.d (.sl (kids.map rCalc))] 0),(9,lvI (left - a.2)),(10,lvI k),(11,lvI a.1)],[],H⟩) (fun a=>kids.length - a.1)
   (fun a=>a.1<=kids.length/\0<=a.2/\a.2<=left - 1/\lCalcs other kids (depth+1) (left - 1)=lCalcs other (kids.drop a.1) (depth+1) a.2) (0,left - 1) ⟨⟨by simp,by simp;omega,by simp,by simp⟩,by simp [show left - (left - 1)=1 by omega]⟩ ?_
  rintro ⟨i,lf⟩ ⟨hi,hl0,hl1,hI⟩
  simp only at hi hl0 hl1 hI
  simp
  refine ⟨fun h=>?_,fun h=>?_⟩
  ·have h:i < kids.length:=by omega
   have hd:=List.drop_eq_getElem_cons h
   rw [hd,lCalcs] at hI
   have w2:IntKind.wrap .i64 (left - (left - lf))=lf:=by rw [wrap64] <;> omega
   simp [h,List.getElem?_eq_getElem h,rCalc_eq,w1,w2]
   refine EC.afun (by simpa [rCalc_eq] using ih kids[i] (List.getElem_mem h) (depth+1) lf (by omega) (by omega)) ?_
   cases hl:lCalc other kids[i] (depth+1) lf with
   | none =>
    rw [hl] at hI
    simp [cntV]
    rw [hI]
   | some l =>
    rw [hl] at hI
    have hle:=lCalc_le _ _ _ _ hl
    have w3:IntKind.wrap .i64 (left - lf+(lf - l))=left - l:=by rw [wrap64] <;> omega
    simp [cntV,w3]
    refine ⟨fun q=>by omega,fun q=>NX.go (i+1,l) (by simp;omega) ⟨h,hle.1,by simp only;omega,hI⟩ (by simp [wrap_succ h hf.1])⟩
  ·have:kids.drop i=[]:=List.drop_eq_nil_of_le (by omega)
   rw [this,lCalcs] at hI
   rw [hI];simp [cntV]
theorem ref02_calc (other:Bool):∀ (c:Calc) (depth left:Int),0<=depth->left<=1000->AFun prog 110 [lv (rCalc c),.d (.k (.bool other)),lvI depth,lvI left] (lvI (cntV (lCalc other c depth left) left))
 | .mk op cn kids,depth,left,hd,hl=>ref02_calc1 op cn kids other (fun k hk depth left hd hl=>ref02_calc other k depth left hd hl) depth left hd hl
end Go.Aft
end
