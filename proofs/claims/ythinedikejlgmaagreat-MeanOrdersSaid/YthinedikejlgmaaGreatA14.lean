import Derived.Test.YthinedikejlgmaaGreatA13
set_option linter.all false
namespace Go.Aft
section
variable {ty:TypeId->Option TyD} {eqt:TypeId->Option (List Sc)} {pub:Nat->Kd} {s s':S}
theorem a8p:∀ {l:List (Nat × Operand)},(∀ p ∈ l,s.get p.2=s'.get p.2)->(a9d s l ↔ a9d s' l)
 | [],_=>Iff.rfl
 | p :: ps,h=>by
  simp only [a9d,S.argP]
  rw [h p (by simp),a8p fun q hq=>h q (by simp [hq])]
theorem b6d {l:List (Nat × Operand)} (h:∀ p ∈ l,s.get p.2=s'.get p.2):(l.map fun p=>(p.1,s.arg p.2))=l.map fun p=>(p.1,s'.arg p.2) :=
 List.map_congr_left fun p hp=>by simp only [S.arg,h p hp]
theorem b5f:∀ {l:List Operand},(∀ p ∈ l,s.get p=s'.get p)->allP (l.map s.argP)=allP (l.map s'.argP)
 | [],_=>rfl
 | p :: ps,h=>by
  have ih:allP (ps.map s.argP)=allP (ps.map s'.argP):=b5f fun q hq=>h q (by simp [hq])
  simp only [List.map_cons,allP,ih]
  simp only [S.argP,h p (by simp)]
theorem d1d (hH:s.H=s'.H) (sz:Nat) (x:LV):a9g s sz x=a9g s' sz x:=by unfold a9g;rw [hH]
theorem d0w {dst:Option Nat} {b:Builtin} {tys:List TypeId} {args:List Operand} (h:∀ x ∈ args,s.get x=s'.get x) (hH:s.H=s'.H):a3z ty pub s dst b tys args=a3z ty pub s' dst b tys args:=by
 unfold a3z
 split
 ·have e:=h _ (List.mem_cons_self ..);simp only [S.arg,S.argP,e]
 ·have e1:=h _ (List.mem_cons_self ..);have e2:=h _ (List.mem_cons_of_mem _ (List.mem_cons_self ..))
  simp only [S.arg,S.argP,e1,e2,hH,d1d hH]
 ·have e:=h _ (List.mem_cons_self ..);simp only [S.arg,S.argP,e]
 ·rfl
theorem c1n {dst:Option Nat} {b:Builtin} {tys:List TypeId} {args:List Operand} (h1:b ≠ .len) (h2:b ≠ .append) (h3:b ≠ .cap):a3z ty pub s dst b tys args=none:=by
 unfold a3z
 split
 ·exact absurd rfl h1
 ·exact absurd rfl h2
 ·exact absurd rfl h3
 ·rfl
theorem e0c {T:TypeId} {l c:Operand} (h1:s.get l=s'.get l) (h2:s.get c=s'.get c) (hH:s.H=s'.H):mkSl ty s T l c=mkSl ty s' T l c:=by
 unfold mkSl;simp only [S.arg,S.argP,h1,h2,hH]
theorem c7p {dst:Option Nat} {op:Op} (h:∀ x ∈ op.operands,s.get x=s'.get x) (hL:s.L=s'.L) (hH:s.H=s'.H):opX ty eqt pub s dst op=opX ty eqt pub s' dst op:=by
 cases op with
 | build T parts =>
  have h':∀ p ∈ parts.toList,s.get p.2=s'.get p.2:=fun p hp=>h p.2 (by simp only [Op.operands];simp only [List.mem_toArray,List.mem_map];exact ⟨p,hp,rfl⟩)
  simp only [opX,a1x,b6d h',show a9d s parts.toList=a9d s' parts.toList from propext (a8p h')]
 | buildSlice T n parts =>
  have h':∀ p ∈ parts.toList,s.get p.2=s'.get p.2:=fun p hp=>h p.2 (by simp only [Op.operands];simp only [List.mem_toArray,List.mem_map];exact ⟨p,hp,rfl⟩)
  simp only [opX,a1x,b6d h',show a9d s parts.toList=a9d s' parts.toList from propext (a8p h')]
 | makeFunc fn a b =>
  have h1:a.toList.map s.get=a.toList.map s'.get:=List.map_congr_left fun x hx=>h x (by simp only [Op.operands];simp only [Array.mem_append];first | exact .inl (Array.mem_toList_iff.1 hx) | exact .inr (Array.mem_toList_iff.1 hx))
  have h2:b.toList.map s.get=b.toList.map s'.get:=List.map_congr_left fun x hx=>h x (by simp only [Op.operands];simp only [Array.mem_append];first | exact .inl (Array.mem_toList_iff.1 hx) | exact .inr (Array.mem_toList_iff.1 hx))
  simp only [opX,a1x,h1,h2]
 | box T x =>
  simp only [Op.operands,List.mem_toArray,List.mem_cons,List.not_mem_nil,or_false,forall_eq] at h
  simp only [opX,a1x];unfold S.arg S.argP;rw [h,hL,hH]
 | store T x y =>
  simp only [Op.operands,List.mem_toArray,List.mem_cons,List.not_mem_nil,or_false,forall_eq_or_imp,forall_eq] at h
  simp only [opX,a1x];unfold S.arg S.argP;rw [h.1,h.2,hL,hH]
 | nilCheck x =>
  simp only [Op.operands,List.mem_toArray,List.mem_cons,List.not_mem_nil,or_false,forall_eq] at h
  simp only [opX,a1x];unfold S.arg S.argP;rw [h]
 | slice T x lo hi mx =>
  have e1:=h x (by simp [Op.operands])
  have e2:∀ y,lo=some y->s.get y=s'.get y:=fun y e=>h y (by subst e;simp [Op.operands])
  have e3:∀ y,hi=some y->s.get y=s'.get y:=fun y e=>h y (by subst e;simp [Op.operands])
  have b1:a6c s lo=a6c s' lo:=by cases lo with | none=>rfl | some y=>simp only [a6c,S.arg,e2 y rfl]
  have b2:∀ n,a5h s n hi=a5h s' n hi:=fun n=>by cases hi with | none=>rfl | some y=>simp only [a5h,S.arg,e3 y rfl]
  have b3:optP s lo=optP s' lo:=by cases lo with | none=>rfl | some y=>simp only [optP,S.argP,e2 y rfl]
  have b4:optP s hi=optP s' hi:=by cases hi with | none=>rfl | some y=>simp only [optP,S.argP,e3 y rfl]
  cases mx with
  | some m=>rfl
  | none=>simp only [opX,slV,opZ,b1,b2,b3,b4,S.arg,S.argP,e1,hH]
 | makeSlice T l c =>
  simp only [Op.operands,List.mem_toArray,List.mem_cons,List.not_mem_nil,or_false,forall_eq_or_imp,forall_eq] at h
  simp only [opX]
  exact e0c h.1 h.2 hH
 | index T x y =>
  simp only [Op.operands,List.mem_toArray,List.mem_cons,List.not_mem_nil,or_false,forall_eq_or_imp,forall_eq] at h
  simp only [opX,opZ,S.arg,S.argP,h.1,h.2]
 | binOp bo T x y yT =>
  simp only [Op.operands,List.mem_toArray,List.mem_cons,List.not_mem_nil,or_false,forall_eq_or_imp,forall_eq] at h
  have e:a9t ty s bo T x y=a9t ty s' bo T x y:=by cases y <;> simp only [a9t,S.arg,S.argP,h.1]
  simp only [opX,a1x,e,S.arg,S.argP,h.1,h.2]
 | typeAssert x xT aT ok =>
  simp only [Op.operands,List.mem_toArray,List.mem_cons,List.not_mem_nil,or_false,forall_eq] at h
  cases ok with
  | false=>rfl
  | true=>simp only [opX];unfold d8x S.arg S.argP;rw [h]
 | makeInterface T x =>
  simp only [Op.operands,List.mem_toArray,List.mem_cons,List.not_mem_nil,or_false,forall_eq] at h
  simp only [opX,opZ,S.arg,S.argP,h]
 | convert T U x =>
  simp only [Op.operands,List.mem_toArray,List.mem_cons,List.not_mem_nil,or_false,forall_eq] at h
  simp only [opX,opZ,S.arg,S.argP,h]
 | makeMap T r=>cases r <;> simp only [opX,a1x,hH]
 | call cl =>
  obtain ⟨callee,args,tys⟩:=cl
  cases callee with
  | builtin b =>
   have h':∀ x ∈ args.toList,s.get x=s'.get x:=fun x hx=>h x (by simp only [Op.operands,Call.operands];simp only [Array.mem_append];exact .inr (Array.mem_toList_iff.1 hx))
   simp only [opX]
   generalize args.toList=l at h'
   generalize tys.toList=ts
   rw [d0w h' hH]
   congr 1
   unfold c0e
   split
   ·have e:=h' _ (List.mem_cons_self ..);simp only [S.arg,S.argP,e,hH]
   ·have e1:=h' _ (List.mem_cons_self ..);have e2:=h' _ (List.mem_cons_of_mem _ (List.mem_cons_self ..));simp only [S.arg,S.argP,e1,e2]
   ·have e1:=h' _ (List.mem_cons_self ..);have e2:=h' _ (List.mem_cons_of_mem _ (List.mem_cons_self ..));simp only [S.arg,S.argP,e1,e2]
   ·have e1:=h' _ (List.mem_cons_self ..);have e2:=h' _ (List.mem_cons_of_mem _ (List.mem_cons_self ..));simp only [S.arg,S.argP,e1,e2,hH]
   ·rfl
  | _=>rfl
 | _ =>
  simp only [Op.operands,List.mem_toArray,List.mem_cons,List.not_mem_nil,or_false,forall_eq_or_imp,forall_eq] at h
  first
   | rfl
   | (simp only [opX,a1x,S.arg,S.argP,h,hL,hH];done)
inductive Cl where
 | n | r | c | x
 deriving DecidableEq
def opCl:Op->Cl
 | .move _ | .assign _ | .pick .. | .build .. | .buildSlice .. | .nilCheck _ | .binOp .. | .unOp .. | .fieldAddr .. | .field .. | .indexAddr .. | .extract .. | .makeFunc .. | .index .. | .makeInterface .. | .convert .. | .typeAssert ..=>.n
 | .load .. | .lookup .. | .slice ..=>.r
 | .call ⟨.builtin .len,_,_⟩=>.r
 | .call ⟨.builtin .min,_,_⟩ | .call ⟨.builtin .max,_,_⟩=>.n
 | .alloc _ | .box .. | .makeMap ..=>.c
 | _=>.x
def S.env0 (s:S) (L:Nat->Option (List LV)) (H:GH):S:={ s with L:=L,H:=H }
theorem f6c {dst:Option Nat} {op:Op} (h:opCl op=.n) (L:Nat->Option (List LV)) (H:GH):opX ty eqt pub (s.env0 L H) dst op=opX ty eqt pub s dst op:=by
 have hg:∀ o,(s.env0 L H).get o=s.get o:=fun o=>by cases o <;> rfl
 have ha:∀ o,(s.env0 L H).arg o=s.arg o:=fun o=>by unfold S.arg;rw [hg]
 have hp:∀ o,(s.env0 L H).argP o=s.argP o:=fun o=>by unfold S.argP;rw [hg]
 have hlo:∀ o,a6c (s.env0 L H) o=a6c s o:=fun o=>by cases o <;> simp only [a6c,ha]
 have hhi:∀ n o,a5h (s.env0 L H) n o=a5h s n o:=fun n o=>by cases o <;> simp only [a5h,ha]
 have hop:∀ o,optP (s.env0 L H) o=optP s o:=fun o=>by cases o <;> simp only [optP,hp]
 have hps:∀ l,a9d (s.env0 L H) l=a9d s l:=fun l=>propext (a8p fun p _=>hg p.2)
 cases op with
 | call cl =>
  obtain ⟨callee,args,tys⟩:=cl
  cases callee with
  | builtin b =>
   cases b <;> first | (simp [opCl] at h;done) | skip
   all_goals
    simp only [opX]
    generalize args.toList=l
    generalize tys.toList=ts
    rw [c1n (by simp) (by simp) (by simp),c1n (by simp) (by simp) (by simp)]
    unfold c0e
    split <;> first | rfl | (simp only [ha,hp];done) | (rename_i e;cases e)
  | _=>simp [opCl] at h
 | typeAssert x xT aT ok =>
  cases ok with
  | false=>rfl
  | true=>simp only [opX];unfold d8x;rw [ha,hp]
 | binOp bo T x y yT =>
  have e:a9t ty (s.env0 L H) bo T x y=a9t ty s bo T x y:=by cases y <;> simp only [a9t,ha,hp]
  simp only [opX,a1x,e,ha,hp]
 | _=>first | (simp [opCl] at h;done) | (simp only [opX,opZ,ha,hp];done) | (simp only [opX,a1x,ha,hp,hps,hg,List.map_congr_left (fun x (_:x ∈ _)=>hg x)];done) | (simp only [opX,a1x];rw [List.map_congr_left (fun x _=>hg x),List.map_congr_left (fun x _=>hg x)])
structure Grow (s s':S):Prop where
 L:∀ k cs,s.L k=some cs->s'.L k=some cs
 obj:∀ n o,s.H.obj n=some o->(∀ e sz m,o ≠ .arr e sz m)->s'.H.obj n=some o
 nx:s.H.next<=s'.H.next
theorem Grow.box {s s':S} (h:Grow s s') (n:Nat) (cs:List LV) (hn:s.H.obj n=some (.box cs)):s'.H.obj n=some (.box cs):=h.obj n _ hn (fun _ _ _ q=>by cases q)
theorem Grow.map {s s':S} (h:Grow s s') (n:Nat) (cs:List (Value × LV)) (hn:s.H.obj n=some (.map cs)):s'.H.obj n=some (.map cs):=h.obj n _ hn (fun _ _ _ q=>by cases q)
theorem Grow.trans {a b d:S} (h:Grow a b) (k:Grow b d):Grow a d:=⟨fun n cs q=>k.L n cs (h.L n cs q),fun n o q e=>k.obj n o (h.obj n o q e) e,Nat.le_trans h.nx k.nx⟩
theorem f6b {dst:Option Nat} {op:Op} (h:opCl op=.r) (hg:Grow s s') (he:∀ x ∈ op.operands,s.get x=s'.get x) {pre:Prop} {v:LV} (h1:opX ty eqt pub s dst op=some ⟨pre,v,.no⟩) (h2:pre) :
  ∃ pre',opX ty eqt pub s' dst op=some ⟨pre',v,.no⟩/\pre':=by
 cases op with
 | load T p =>
  simp only [Op.operands,List.mem_toArray,List.mem_cons,List.not_mem_nil,or_false,forall_eq] at he
  simp only [opX,a1x,S.arg,S.argP,he] at h1 |-
  split at h1
  ·cases h1
  ·rename_i d hd
   split at h1
   ·rename_i k off e
    cases hL:s.L k with
    | none=>rw [hL] at h1;cases h1
    | some cs=>rw [hL] at h1;(try simp only [hd,e]);rw [hg.L _ _ hL];exact ⟨_,h1,h2⟩
   ·rename_i n off e
    split at h1
    ·rename_i cs hb
     (try simp only [hd,e]);rw [hg.box _ _ hb];exact ⟨_,h1,h2⟩
    ·rename_i cs hb
     (try simp only [hd,e]);rw [hg.obj _ _ hb (fun _ _ _ q=>by cases q)];exact ⟨_,h1,h2⟩
    ·cases h1
   ·rename_i e;(try simp only [hd,e]);exact ⟨_,h1,h2⟩
   ·rename_i n g off e
    split at h1
    ·rename_i e' g' sz cs ex hb
     (try simp only [hd,e]);rw [hg.obj _ _ hb (fun _ _ _ q=>by cases q)];exact ⟨_,h1,h2⟩
    ·cases h1
   ·rename_i e;(try simp only [hd,e]);exact ⟨_,h1,h2⟩
   ·cases h1
 | slice T x lo hi mx =>
  cases mx with
  | some m=>simp only [opX,opZ] at h1;cases h1
  | none =>
   have e1:=he x (by simp [Op.operands])
   have e2:∀ y,lo=some y->s.get y=s'.get y:=fun y e=>he y (by subst e;simp [Op.operands])
   have e3:∀ y,hi=some y->s.get y=s'.get y:=fun y e=>he y (by subst e;simp [Op.operands])
   have b1:a6c s lo=a6c s' lo:=by cases lo with | none=>rfl | some y=>simp only [a6c,S.arg,e2 y rfl]
   have b2:∀ n,a5h s n hi=a5h s' n hi:=fun n=>by cases hi with | none=>rfl | some y=>simp only [a5h,S.arg,e3 y rfl]
   have b3:optP s lo=optP s' lo:=by cases lo with | none=>rfl | some y=>simp only [optP,S.argP,e2 y rfl]
   have b4:optP s hi=optP s' hi:=by cases hi with | none=>rfl | some y=>simp only [optP,S.argP,e3 y rfl]
   simp only [opX] at h1 |-
   have hz:opZ ty s (.slice T x lo hi none)=opZ ty s' (.slice T x lo hi none):=by simp only [opZ,b1,b2,b3,b4,S.arg,S.argP,e1]
   rw [hz] at h1
   cases hv:slV ty s T x lo hi with
   | none =>
    rw [hv,Option.none_or] at h1
    have hv':slV ty s' T x lo hi=none \/ ∃ n off,s'.arg x=.gp n off:=by
     by_cases hg:∃ n off,s'.arg x=.gp n off
     ·exact .inr hg
     ·left
      rw [<- hv]
      unfold slV
      simp only [S.arg,S.argP,b1,b2,b3,b4,e1]
      cases hT:ty T with
      | none=>rfl
      | some d =>
       obtain ⟨k,sz,z,bt⟩:=d
       generalize hx:(s'.get x).un=X at *
       cases X with
       | gp n off=>exact absurd ⟨n,off,hx⟩ hg
       | d y =>
        cases y with
        | sl xs=>cases k <;> rfl
        | k v =>
         cases v with
         | slice p l c=>cases k <;> first | rfl | (cases p <;> cases l <;> cases c <;> rfl)
         | _=>cases k <;> rfl
       | _=>cases k <;> rfl
    rcases hv' with q | ⟨n,off,q⟩
    ·rw [q,Option.none_or];exact ⟨_,h1,h2⟩
    ·exfalso
     simp only [opZ,q,rowsOf] at h1
     split at h1 <;> first | (cases h1;done) | (simp at h1;done)
   | some r =>
    rw [hv,Option.some_or] at h1
    cases h1
    have:slV ty s' T x lo hi=some ⟨pre,v,.no⟩:=by
     unfold slV at hv |-
     simp only [S.arg,S.argP,b1,b2,b3,b4,e1] at hv |-
     split at hv
     ·rename_i q1 q2;(try simp only [q1,q2]);exact hv
     ·rename_i q1 q2;(try simp only [q1,q2]);exact hv
     ·rename_i n off q1 q2
      (try simp only [q1,q2])
      simp only [Option.bind_eq_some_iff] at hv |-
      obtain ⟨ed,r1,l,r2,h,r3,hv⟩:=hv
      refine ⟨ed,r1,l,r2,h,r3,?_⟩
      split at hv
      ·simp at hv
      ·rename_i cs q4
       rw [hg.obj n _ q4 (fun _ _ _ q=>by cases q)]
       exact hv
      ·cases hv
     ·cases hv
    exact ⟨pre,by rw [this,Option.some_or],h2⟩
 | lookup T m k ok =>
  simp only [Op.operands,List.mem_toArray,List.mem_cons,List.not_mem_nil,or_false,forall_eq_or_imp,forall_eq] at he
  simp only [opX,S.arg,S.argP,he.1,he.2] at h1 |-
  split at h1
  ·rename_i hd
   (try simp only [hd])
   simp only [Option.bind_eq_some_iff] at h1
   obtain ⟨kk,e1,ed,e2,z,e3,key,e4,h1⟩:=h1
   simp only [e1,e2,e3,e4,Option.bind_some]
   split at h1
   ·rename_i n e
    split at h1
    ·rename_i es hb
     (try simp only [e]);rw [hg.map _ _ hb];exact ⟨_,h1,h2⟩
    ·cases h1
   ·rename_i e;(try simp only [e]);exact ⟨_,h1,h2⟩
   ·cases h1
  ·cases h1
 | call cl =>
  obtain ⟨callee,args,tys⟩:=cl
  cases callee with
  | builtin b =>
   cases b <;> first | (simp [opCl] at h;done) | skip
   have h':∀ x ∈ args.toList,s.get x=s'.get x:=fun x hx=>he x (by simp only [Op.operands,Call.operands];simp only [Array.mem_append];exact .inr (Array.mem_toList_iff.1 hx))
   simp only [opX] at h1 |-
   generalize args.toList=l at h' h1 |-
   generalize tys.toList=ts at h1 |-
   have hvb:a3z ty pub s dst .len ts l=a3z ty pub s' dst .len ts l:=by
    unfold a3z
    split <;> first | (rename_i e;cases e;done) | skip
    ·have e:=h' _ (List.mem_cons_self ..);simp only [S.arg,S.argP,e]
    ·rfl
   rw [hvb] at h1
   cases hvb':a3z ty pub s' dst .len ts l with
   | some r=>simp only [hvb',Option.some_or] at h1 |-;exact ⟨_,h1,h2⟩
   | none =>
   simp only [hvb',Option.none_or] at h1 |-
   unfold c0e at h1
   split at h1 <;> first | (rename_i e;cases e;done) | skip
   ·rename_i t x e
    have e1:=h' _ (List.mem_cons_self ..)
    unfold c0e
    simp only [S.arg,S.argP,e1] at h1 |-
    split at h1
    ·rename_i hd;(try simp only [hd]);exact ⟨_,h1,h2⟩
    ·rename_i hd;(try simp only [hd]);exact ⟨_,h1,h2⟩
    ·rename_i hd
     (try simp only [hd])
     split at h1
     ·rename_i n e
      split at h1
      ·rename_i es hb
       (try simp only [e]);rw [hg.map _ _ hb];exact ⟨_,h1,h2⟩
      ·cases h1
     ·rename_i e;(try simp only [e]);exact ⟨_,h1,h2⟩
     ·cases h1
    ·cases h1
   ·cases h1
  | _=>simp [opCl] at h
 | _=>simp [opCl] at h
end
end Go.Aft
