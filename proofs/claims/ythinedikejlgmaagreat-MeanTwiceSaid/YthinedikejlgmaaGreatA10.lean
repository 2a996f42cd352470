import Derived.Test.YthinedikejlgmaaGreatA09
set_option linter.all false
namespace Go.Aft
section
variable {ty:TypeId->Option aU} {bR:TypeId->Option (List Sc)} {bO:Nat->Kd} {s s':S}
theorem nU:∀{l:List (Nat×Operand)},(∀p∈l,s.get p.2=s'.get p.2)->(j7 s l↔j7 s' l)
 |[],_=>Iff.rfl
 |p::ps,h=>by
  simp only[j7,S.aI];rw[h p (by simp),nU λq hq=>h q (by simp[hq])]
theorem wD{l:List (Nat×Operand)}(h:∀p∈l,s.get p.2=s'.get p.2):(l.map λp=>(p.1,s.arg p.2))=l.map λp=>(p.1,s'.arg p.2):=
 List.map_congr_left λp hp=>by simp only[S.arg,h p hp]
theorem u9:∀{l:List Operand},(∀p∈l,s.get p=s'.get p)->jc (l.map s.aI)=jc (l.map s'.aI)
 |[],_=>rfl
 |p::ps,h=>by
  have ih:jc (ps.map s.aI)=jc (ps.map s'.aI):=u9 λq hq=>h q (by simp[hq])
  simp only[List.map_cons,jc,ih];simp only[S.aI,h p (by simp)]
theorem HC(hH:s.H=s'.H)(sz:Nat)(x:LV):kO s sz x=kO s' sz x:=by unfold kO;rw[hH]
theorem Hf{dst:Option Nat}{b:Builtin}{tys:List TypeId}{args:List Operand}(h:∀x∈args,s.get x=s'.get x)(hH:s.H=s'.H):eR ty bO s dst b tys args=eR ty bO s' dst b tys args:=by
 unfold eR
 split
 ·have e:=h _ (List.mem_cons_self ..);simp only[S.arg,S.aI,e]
 ·have e1:=h _ (List.mem_cons_self ..);have e2:=h _ (List.mem_cons_of_mem _ (List.mem_cons_self ..));simp only[S.arg,S.aI,e1,e2,hH,HC hH]
 ·have e:=h _ (List.mem_cons_self ..);simp only[S.arg,S.aI,e]
 ·rfl
theorem zR{dst:Option Nat}{b:Builtin}{tys:List TypeId}{args:List Operand}(h1:b≠ .len)(h2:b≠ .append)(h3:b≠ .cap):eR ty bO s dst b tys args=none:=by
 unfold eR
 split
 ·exact absurd rfl h1
 ·exact absurd rfl h2
 ·exact absurd rfl h3
 ·rfl
theorem L5{T:TypeId}{l c:Operand}(h1:s.get l=s'.get l)(h2:s.get c=s'.get c)(hH:s.H=s'.H):L6 ty s T l c=L6 ty s' T l c:=by
 unfold L6;simp only[S.arg,S.aI,h1,h2,hH]
theorem DH{dst:Option Nat}{op:Op}(h:∀x∈op.operands,s.get x=s'.get x)(hL:s.L=s'.L)(hH:s.H=s'.H):bV ty bR bO s dst op=bV ty bR bO s' dst op:=by
 cases op with
 |build T parts=>
  have h':∀p∈parts.toList,s.get p.2=s'.get p.2:=λp hp=>h p.2 (by simp only[Op.operands];simp only[List.mem_toArray,List.mem_map];exact⟨p,hp,rfl⟩)
  simp only[bV,cG,wD h',show j7 s parts.toList=j7 s' parts.toList from propext (nU h')]
 |buildSlice T n parts=>
  have h':∀p∈parts.toList,s.get p.2=s'.get p.2:=λp hp=>h p.2 (by simp only[Op.operands];simp only[List.mem_toArray,List.mem_map];exact⟨p,hp,rfl⟩)
  simp only[bV,cG,wD h',show j7 s parts.toList=j7 s' parts.toList from propext (nU h')]
 |makeFunc fn a b=>
  have h1:a.toList.map s.get=a.toList.map s'.get:=List.map_congr_left λx hx=>h x (by simp only[Op.operands];simp only[Array.mem_append];first|exact .inl (Array.mem_toList_iff.1 hx)|exact .inr (Array.mem_toList_iff.1 hx))
  have h2:b.toList.map s.get=b.toList.map s'.get:=List.map_congr_left λx hx=>h x (by simp only[Op.operands];simp only[Array.mem_append];first|exact .inl (Array.mem_toList_iff.1 hx)|exact .inr (Array.mem_toList_iff.1 hx))
  simp only[bV,cG,h1,h2]
 |box T x=>
  simp only[Op.operands,List.mem_toArray,List.mem_cons,List.not_mem_nil,or_false,forall_eq]at h;simp only[bV,cG];unfold S.arg S.aI;rw[h,hL,hH]
 |store T x y=>
  simp only[Op.operands,List.mem_toArray,List.mem_cons,List.not_mem_nil,or_false,forall_eq_or_imp,forall_eq]at h;simp only[bV,cG];unfold S.arg S.aI;rw[h.1,h.2,hL,hH]
 |nilCheck x=>
  simp only[Op.operands,List.mem_toArray,List.mem_cons,List.not_mem_nil,or_false,forall_eq]at h;simp only[bV,cG];unfold S.arg S.aI;rw[h]
 |slice T x lo hi mx=>
  have e1:=h x (by simp[Op.operands])
  have e2:∀y,lo=some y->s.get y=s'.get y:=λy e=>h y (by subst e;simp[Op.operands])
  have e3:∀y,hi=some y->s.get y=s'.get y:=λy e=>h y (by subst e;simp[Op.operands])
  have b1:ir s lo=ir s' lo:=by cases lo with|none=>rfl|some y=>simp only[ir,S.arg,e2 y rfl]
  have b2:∀n,gM s n hi=gM s' n hi:=λn=>by cases hi with|none=>rfl|some y=>simp only[gM,S.arg,e3 y rfl]
  have b3:gz s lo=gz s' lo:=by cases lo with|none=>rfl|some y=>simp only[gz,S.aI,e2 y rfl]
  have b4:gz s hi=gz s' hi:=by cases hi with|none=>rfl|some y=>simp only[gz,S.aI,e3 y rfl]
  cases mx with
  |some m=>rfl
  |none=>simp only[bV,Rf,DG,b1,b2,b3,b4,S.arg,S.aI,e1,hH]
 |makeSlice T l c=>
  simp only[Op.operands,List.mem_toArray,List.mem_cons,List.not_mem_nil,or_false,forall_eq_or_imp,forall_eq]at h;simp only[bV];exact L5 h.1 h.2 hH
 |index T x y=>
  simp only[Op.operands,List.mem_toArray,List.mem_cons,List.not_mem_nil,or_false,forall_eq_or_imp,forall_eq]at h;simp only[bV,DG,S.arg,S.aI,h.1,h.2]
 |binOp bo T x y yT=>
  simp only[Op.operands,List.mem_toArray,List.mem_cons,List.not_mem_nil,or_false,forall_eq_or_imp,forall_eq]at h;have e:mM ty s bo T x y=mM ty s' bo T x y:=by cases y<;>simp only[mM,S.arg,S.aI,h.1]
  simp only[bV,cG,e,S.arg,S.aI,h.1,h.2]
 |typeAssert x xT aT ok=>
  simp only[Op.operands,List.mem_toArray,List.mem_cons,List.not_mem_nil,or_false,forall_eq]at h;cases ok with
  |false=>rfl
  |true=>simp only[bV];unfold Dq S.arg S.aI;rw[h]
 |makeInterface T x=>
  simp only[Op.operands,List.mem_toArray,List.mem_cons,List.not_mem_nil,or_false,forall_eq]at h;simp only[bV,DG,S.arg,S.aI,h]
 |convert T U x=>
  simp only[Op.operands,List.mem_toArray,List.mem_cons,List.not_mem_nil,or_false,forall_eq]at h;simp only[bV,DG,S.arg,S.aI,h]
 |makeMap T r=>cases r<;>simp only[bV,cG,hH]
 |call cl=>
  obtain⟨callee,args,tys⟩:=cl;cases callee with
  |builtin b=>
   have h':∀x∈args.toList,s.get x=s'.get x:=λx hx=>h x (by simp only[Op.operands,Call.operands];simp only[Array.mem_append];exact .inr (Array.mem_toList_iff.1 hx))
   simp only[bV];generalize args.toList=l at h';generalize tys.toList=ts;rw[Hf h' hH]
   congr 1
   unfold sG
   split
   ·have e:=h' _ (List.mem_cons_self ..);simp only[S.arg,S.aI,e,hH]
   ·have e1:=h' _ (List.mem_cons_self ..);have e2:=h' _ (List.mem_cons_of_mem _ (List.mem_cons_self ..));simp only[S.arg,S.aI,e1,e2]
   ·have e1:=h' _ (List.mem_cons_self ..);have e2:=h' _ (List.mem_cons_of_mem _ (List.mem_cons_self ..));simp only[S.arg,S.aI,e1,e2]
   ·have e1:=h' _ (List.mem_cons_self ..);have e2:=h' _ (List.mem_cons_of_mem _ (List.mem_cons_self ..));simp only[S.arg,S.aI,e1,e2,hH]
   ·rfl
  |_=>rfl
 |_=>
  simp only[Op.operands,List.mem_toArray,List.mem_cons,List.not_mem_nil,or_false,forall_eq_or_imp,forall_eq]at h
  first
   |rfl
   |(simp only[bV,cG,S.arg,S.aI,h,hL,hH];done)
inductive Cl where
 |n|r|c|x
 deriving DecidableEq
def qN:Op->Cl
 |.move _|.assign _|.pick .. |.build .. |.buildSlice .. |.nilCheck _|.binOp .. |.unOp .. |.fieldAddr .. |.field .. |.indexAddr .. |.extract .. |.makeFunc .. |.index .. |.makeInterface .. |.convert .. |.typeAssert ..=>.n
 |.load .. |.lookup .. |.slice ..=>.r
 |.call ⟨.builtin .len,_,_⟩=>.r
 |.call ⟨.builtin .min,_,_⟩|.call ⟨.builtin .max,_,_⟩=>.n
 |.alloc _|.box .. |.makeMap ..=>.c
 |_=>.x
def S.Dd(s:S)(L:Nat->Option (List LV))(H:GH):S:={s with L:=L,H:=H}
theorem av1{dst:Option Nat}{op:Op}(h:qN op=.n)(L:Nat->Option (List LV))(H:GH):bV ty bR bO (s.Dd L H) dst op=bV ty bR bO s dst op:=by
 have hg:∀o,(s.Dd L H).get o=s.get o:=λo=>by cases o<;>rfl
 have ha:∀o,(s.Dd L H).arg o=s.arg o:=λo=>by unfold S.arg;rw[hg]
 have hp:∀o,(s.Dd L H).aI o=s.aI o:=λo=>by unfold S.aI;rw[hg]
 have hlo:∀o,ir (s.Dd L H) o=ir s o:=λo=>by cases o<;>simp only[ir,ha]
 have hhi:∀n o,gM (s.Dd L H) n o=gM s n o:=λn o=>by cases o<;>simp only[gM,ha]
 have hop:∀o,gz (s.Dd L H) o=gz s o:=λo=>by cases o<;>simp only[gz,hp]
 have hps:∀l,j7 (s.Dd L H) l=j7 s l:=λl=>propext (nU λp _=>hg p.2)
 cases op with
 |call cl=>
  obtain⟨callee,args,tys⟩:=cl;cases callee with
  |builtin b=>
   cases b<;>first|(simp[qN]at h;done)|skip
   all_goals
    simp only[bV];generalize args.toList=l;generalize tys.toList=ts;rw[zR (by simp) (by simp) (by simp),zR (by simp) (by simp) (by simp)]
    unfold sG
    split<;>first|rfl|(simp only[ha,hp];done)|(rename_i e;cases e)
  |_=>simp[qN]at h
 |typeAssert x xT aT ok=>
  cases ok with
  |false=>rfl
  |true=>simp only[bV];unfold Dq;rw[ha,hp]
 |binOp bo T x y yT=>
  have e:mM ty (s.Dd L H) bo T x y=mM ty s bo T x y:=by cases y<;>simp only[mM,ha,hp]
  simp only[bV,cG,e,ha,hp]
 |_=>first|(simp[qN]at h;done)|(simp only[bV,DG,ha,hp];done)|(simp only[bV,cG,ha,hp,hps,hg,List.map_congr_left (λx (_:x∈_)=>hg x)];done)|(simp only[bV,cG];rw[List.map_congr_left (λx _=>hg x),List.map_congr_left (λx _=>hg x)])
structure Grow(s s':S):Prop where
 L:∀k cs,s.L k=some cs->s'.L k=some cs
 obj:∀n o,s.H.obj n=some o->(∀e sz m,o≠ .arr e sz m)->s'.H.obj n=some o
 nx:s.H.next<=s'.H.next
theorem Grow.box{s s':S}(h:Grow s s')(n:Nat)(cs:List LV)(hn:s.H.obj n=some (.box cs)):s'.H.obj n=some (.box cs):=h.obj n _ hn (λ_ _ _ q=>by cases q)
theorem Grow.map{s s':S}(h:Grow s s')(n:Nat)(cs:List (Value×LV))(hn:s.H.obj n=some (.map cs)):s'.H.obj n=some (.map cs):=h.obj n _ hn (λ_ _ _ q=>by cases q)
theorem Grow.trans{a b d:S}(h:Grow a b)(k:Grow b d):Grow a d:=⟨λn cs q=>k.L n cs (h.L n cs q),λn o q e=>k.obj n o (h.obj n o q e) e,Nat.le_trans h.nx k.nx⟩
theorem av0{dst:Option Nat}{op:Op}(h:qN op=.r)(hg:Grow s s')(he:∀x∈op.operands,s.get x=s'.get x){pre:Prop}{v:LV}(h1:bV ty bR bO s dst op=some ⟨pre,v,.no⟩)(h2:pre):
  ∃pre',bV ty bR bO s' dst op=some ⟨pre',v,.no⟩/\pre':=by
 cases op with
 |load T p=>
  simp only[Op.operands,List.mem_toArray,List.mem_cons,List.not_mem_nil,or_false,forall_eq]at he;simp only[bV,cG,S.arg,S.aI,he]at h1|-
  split at h1
  ·cases h1
  ·rename_i d hd
   split at h1
   ·rename_i k off e;cases hL:s.L k with
    |none=>rw[hL]at h1;cases h1
    |some cs=>rw[hL]at h1;(try simp only[hd,e]);rw[hg.L _ _ hL];exact⟨_,h1,h2⟩
   ·rename_i n off e
    split at h1
    ·rename_i cs hb
     (try simp only[hd,e]);rw[hg.box _ _ hb];exact⟨_,h1,h2⟩
    ·rename_i cs hb
     (try simp only[hd,e]);rw[hg.obj _ _ hb (λ_ _ _ q=>by cases q)];exact⟨_,h1,h2⟩
    ·cases h1
   ·rename_i e;(try simp only[hd,e]);exact⟨_,h1,h2⟩
   ·rename_i n g off e
    split at h1
    ·rename_i e' g' sz cs ex hb
     (try simp only[hd,e]);rw[hg.obj _ _ hb (λ_ _ _ q=>by cases q)];exact⟨_,h1,h2⟩
    ·cases h1
   ·rename_i e;(try simp only[hd,e]);exact⟨_,h1,h2⟩
   ·cases h1
 |slice T x lo hi mx=>
  cases mx with
  |some m=>simp only[bV,DG]at h1;cases h1
  |none=>
   have e1:=he x (by simp[Op.operands])
   have e2:∀y,lo=some y->s.get y=s'.get y:=λy e=>he y (by subst e;simp[Op.operands])
   have e3:∀y,hi=some y->s.get y=s'.get y:=λy e=>he y (by subst e;simp[Op.operands])
   have b1:ir s lo=ir s' lo:=by cases lo with|none=>rfl|some y=>simp only[ir,S.arg,e2 y rfl]
   have b2:∀n,gM s n hi=gM s' n hi:=λn=>by cases hi with|none=>rfl|some y=>simp only[gM,S.arg,e3 y rfl]
   have b3:gz s lo=gz s' lo:=by cases lo with|none=>rfl|some y=>simp only[gz,S.aI,e2 y rfl]
   have b4:gz s hi=gz s' hi:=by cases hi with|none=>rfl|some y=>simp only[gz,S.aI,e3 y rfl]
   simp only[bV]at h1|-;have hz:DG ty s (.slice T x lo hi none)=DG ty s' (.slice T x lo hi none):=by simp only[DG,b1,b2,b3,b4,S.arg,S.aI,e1]
   rw[hz]at h1;cases hv:Rf ty s T x lo hi with
   |none=>
    rw[hv,Option.none_or]at h1;have hv':Rf ty s' T x lo hi=none\/ ∃n off,s'.arg x=.gp n off:=by
     by_cases hg:∃n off,s'.arg x=.gp n off
     ·exact .inr hg
     ·left;rw[<-hv];unfold Rf;simp only[S.arg,S.aI,b1,b2,b3,b4,e1];cases hT:ty T with
      |none=>rfl
      |some d=>
       obtain⟨k,sz,z,bt⟩:=d;generalize hx:(s'.get x).un=X at*;cases X with
       |gp n off=>exact absurd ⟨n,off,hx⟩ hg
       |d y=>
        cases y with
        |sl xs=>cases k<;>rfl
        |k v=>
         cases v with
         |slice p l c=>cases k<;>first|rfl|(cases p<;>cases l<;>cases c<;>rfl)
         |_=>cases k<;>rfl
       |_=>cases k<;>rfl
    rcases hv' with q|⟨n,off,q⟩
    ·rw[q,Option.none_or];exact⟨_,h1,h2⟩
    ·exfalso;simp only[DG,q,rowsOf]at h1
     split at h1<;>first|(cases h1;done)|(simp at h1;done)
   |some r=>
    rw[hv,Option.some_or]at h1;cases h1;have:Rf ty s' T x lo hi=some ⟨pre,v,.no⟩:=by
     unfold Rf at hv|-;simp only[S.arg,S.aI,b1,b2,b3,b4,e1]at hv|-
     split at hv
     ·rename_i q1 q2;(try simp only[q1,q2]);exact hv
     ·rename_i q1 q2;(try simp only[q1,q2]);exact hv
     ·rename_i n off q1 q2
      (try simp only[q1,q2])
      simp only[Option.bind_eq_some_iff]at hv|-;obtain⟨ed,r1,l,r2,h,r3,hv⟩:=hv;refine⟨ed,r1,l,r2,h,r3,?_⟩
      split at hv
      ·simp at hv
      ·rename_i cs q4;rw[hg.obj n _ q4 (λ_ _ _ q=>by cases q)]
       exact hv
      ·cases hv
     ·cases hv
    exact⟨pre,by rw[this,Option.some_or],h2⟩
 |lookup T m k ok=>
  simp only[Op.operands,List.mem_toArray,List.mem_cons,List.not_mem_nil,or_false,forall_eq_or_imp,forall_eq]at he;simp only[bV,S.arg,S.aI,he.1,he.2]at h1|-
  split at h1
  ·rename_i hd
   (try simp only[hd])
   simp only[Option.bind_eq_some_iff]at h1;obtain⟨kk,e1,ed,e2,z,e3,key,e4,h1⟩:=h1;simp only[e1,e2,e3,e4,Option.bind_some]
   split at h1
   ·rename_i n e
    split at h1
    ·rename_i es hb
     (try simp only[e]);rw[hg.map _ _ hb];exact⟨_,h1,h2⟩
    ·cases h1
   ·rename_i e;(try simp only[e]);exact⟨_,h1,h2⟩
   ·cases h1
  ·cases h1
 |call cl=>
  obtain⟨callee,args,tys⟩:=cl;cases callee with
  |builtin b=>
   cases b<;>first|(simp[qN]at h;done)|skip
   have h':∀x∈args.toList,s.get x=s'.get x:=λx hx=>he x (by simp only[Op.operands,Call.operands];simp only[Array.mem_append];exact .inr (Array.mem_toList_iff.1 hx))
   simp only[bV]at h1|-;generalize args.toList=l at h' h1|-;generalize tys.toList=ts at h1|-;have Ub:eR ty bO s dst .len ts l=eR ty bO s' dst .len ts l:=by
    unfold eR
    split<;>first|(rename_i e;cases e;done)|skip
    ·have e:=h' _ (List.mem_cons_self ..);simp only[S.arg,S.aI,e]
    ·rfl
   rw[Ub]at h1;cases aw6:eR ty bO s' dst .len ts l with
   |some r=>simp only[aw6,Option.some_or]at h1|-;exact⟨_,h1,h2⟩
   |none=>
   simp only[aw6,Option.none_or]at h1|-;unfold sG at h1
   split at h1<;>first|(rename_i e;cases e;done)|skip
   ·rename_i t x e;have e1:=h' _ (List.mem_cons_self ..);unfold sG;simp only[S.arg,S.aI,e1]at h1|-
    split at h1
    ·rename_i hd;(try simp only[hd]);exact⟨_,h1,h2⟩
    ·rename_i hd;(try simp only[hd]);exact⟨_,h1,h2⟩
    ·rename_i hd
     (try simp only[hd])
     split at h1
     ·rename_i n e
      split at h1
      ·rename_i es hb
       (try simp only[e]);rw[hg.map _ _ hb];exact⟨_,h1,h2⟩
      ·cases h1
     ·rename_i e;(try simp only[e]);exact⟨_,h1,h2⟩
     ·cases h1
    ·cases h1
   ·cases h1
  |_=>simp[qN]at h
 |_=>simp[qN]at h
end
end Go.Aft
