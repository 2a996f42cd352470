import Derived.Test.YthinedikejlgmaaGreatA21
set_option linter.all false
section
set_option maxRecDepth 20000
namespace Go.Aft
open Go.Proofs.Tryz
def lvI (n:Int):LV:=.d (.k (.int .i64 n))
@[simp] theorem lvI_eq (n:Int):lvI n=.d (.k (.int .i64 n)):=rfl
def truth (b:Bool):Int:=if b then 1 else 0
theorem c2k (b:Bool):AFun prog 109 [.d (.k (.bool b))] (lvI (truth b)):=by
 refine AFun.body cx0_ok func109 rfl call109 (by rw [ntmps109];simp) rfl fun hf H=>?_
 cases b <;> simp [ntmps109,results109,truth]
theorem d2n (r:Rec) (o op n:Int) (k:DV):AFun prog 103 [lv (rRec r),lvI o,.ip [.d (dI op),.d (dI n),.d k] 0] (lvI n):=by
 refine AFun.body (a0g (p:=kds [3] [] [])) func103 rfl call103 (by rw [ntmps103];simp) rfl fun hf H=>?_
 simp [ntmps103,results103,rRec]
theorem d2m (r:Rec) (o:Int):AFun prog 104 [lv (rRec r),lvI o] (lvI r.at_):=by
 refine AFun.body (a0g (p:=kds [2] [] [])) func104 rfl call104 (by rw [ntmps104];simp) rfl fun hf H=>?_
 simp [ntmps104,results104,rRec]
theorem d2l (r:Rec) (o:Int):AFun prog 105 [lv (rRec r),lvI o] (lvI r.key):=by
 refine AFun.body (a0g (p:=kds [2] [] [])) func105 rfl call105 (by rw [ntmps105];simp) rfl fun hf H=>?_
 simp [ntmps105,results105,rRec]
theorem d2k (r:Rec) (o:Int):AFun prog 106 [lv (rRec r),lvI o] (lvI r.val):=by
 refine AFun.body (a0g (p:=kds [2] [] [])) func106 rfl call106 (by rw [ntmps106];simp) rfl fun hf H=>?_
 simp [ntmps106,results106,rRec]
theorem d2j (r:Rec) (o:Int):AFun prog 107 [lv (rRec r),lvI o] (lvI o):=by
 refine AFun.body (a0g (p:=kds [2] [] [])) func107 rfl call107 (by rw [ntmps107];simp) rfl fun hf H=>?_
 simp [ntmps107,results107,rRec]
def opM (op a b:Int):Int:=if op=6 then a3y (a+b) else if op=7 then a3y (a - b) else if op=8 then a3y (a * b) else if op=9 then truth (decide (a < b)) else truth (a == b)
theorem e3k {a b:Int} (h1:-1000000000<=a/\a<=1000000000) (h2:-1000000000<=b/\b<=1000000000):-1000000000000000000<=a * b/\a * b<=1000000000000000000:=by
 have h3:(a * b).natAbs<=1000000000 * 1000000000:=by
  rw [Int.natAbs_mul];exact Nat.mul_le_mul (by omega) (by omega)
 omega
theorem d2i (r:Rec) (o op n a b:Int) (k:DV) (f1 f2:FuncId) (c1 c2:List LV) (ha:-1000000000<=a/\a<=1000000000) (hb:-1000000000<=b/\b<=1000000000)
  (h1:AFun prog f1 ([lv (rRec r),lvI o] ++ c1) (lvI a)) (h2:AFun prog f2 ([lv (rRec r),lvI o] ++ c2) (lvI b)) (hc1:∀ n,nbs n c1) (hc2:∀ n,nbs n c2) :
  AFun prog 108 [lv (rRec r),lvI o,.ip [.fn (.func f1) [] c1] 0,.ip [.fn (.func f2) [] c2] 0,.ip [.d (dI op),.d (dI n),.d k] 0] (lvI (opM op a b)):=by
 refine AFun.body (a0g (p:=kds [5] [] [])) func108 rfl call108 (by rw [ntmps108];simp) rfl fun hf H=>?_
 have hm:=e3k ha hb
 have w1:IntKind.wrap .i64 (a+b)=a+b:=by rw [wrap64] <;> omega
 have w2:IntKind.wrap .i64 (a - b)=a - b:=by rw [wrap64] <;> omega
 have w3:IntKind.wrap .i64 (a * b)=a * b:=by rw [wrap64] <;> omega
 simp [ntmps108,results108,rRec] at h1 h2 |-
 refine AW.draw (a0g (p:=kds [5] [] [])) [(3,.n),(7,.n)] (.q 2<|.q 6<|.q 0<|.q 1<|.q 3<|.q 4<|.q 5<|.q 7<|.q 8<|.q 9<|.done) (by kernel_rfl) ?_
 simp
 refine ⟨hc1 _,FC.afun h1 ?_⟩
 simp
 refine ⟨hc2 _,FC.afun h2 ?_⟩
 simp [w1,w2,w3]
 refine ⟨fun e=>?_,fun e6=>⟨fun e=>?_,fun e7=>⟨fun e=>?_,fun e8=>⟨fun e=>?_,fun e9=>?_⟩⟩⟩⟩
 ·refine EC.afun (a3x _) ?_
  simp [opM,e]
 ·refine EC.afun (a3x _) ?_
  simp [opM,e]
 ·refine EC.afun (a3x _) ?_
  simp [opM,e]
 ·refine EC.afun (c2k _) ?_
  simp [opM,e]
 ·refine EC.afun (c2k _) ?_
  simp [opM,e6,e7,e8,e9]
inductive VOk:Calc->Prop
 | leaf (op n:Int) (kids:List Calc) (h:1<=op/\op<=5) (hn:-1000000000<=n/\n<=1000000000):VOk (.mk op n kids)
 | node (op n:Int) (a b:Calc) (h:6<=op) (ha:VOk a) (hb:VOk b):VOk (.mk op n [a,b])
mutual
def a5n:Calc->FuncId × List LV
 | .mk op n kids =>
  let me:LV:=.ip [.d (dI op),.d (dI n),.d (.sl (b2y kids))] 0
  if op=1 then (103,[me]) else if op=2 then (104,[]) else if op=3 then (105,[]) else if op=4 then (106,[]) else if op=5 then (107,[])
  else (108,c6p kids ++ [me])
def c6p:List Calc->List LV
 | []=>[]
 | c :: cs=>.ip [.fn (.func (a5n c).1) [] (a5n c).2] 0 :: c6p cs
end
mutual
def cVal (r:Rec) (o:Int):Calc->Int
 | .mk op n kids=>if op=1 then n else if op=2 then r.at_ else if op=3 then r.key else if op=4 then r.val else if op=5 then o else opM op ((f4a r o kids).getD 0 0) ((f4a r o kids).getD 1 0)
def f4a (r:Rec) (o:Int):List Calc->List Int
 | []=>[]
 | c :: cs=>cVal r o c :: f4a r o cs
end
def a1z (n:Int):Prop:=-1000000000<=n/\n<=1000000000
def d9j (r:Rec):Prop:=a1z r.at_/\a1z r.key/\a1z r.val
theorem a7v (n:Int):a1z (a3y n):=by
 unfold a1z a3y minI maxI;split <;> split <;> omega
theorem e7m (b:Bool):a1z (truth b):=by cases b <;> simp [truth,a1z]
theorem f5a (op a b:Int):a1z (opM op a b):=by
 unfold opM
 split
 ·exact a7v _
 ·split
  ·exact a7v _
  ·split
   ·exact a7v _
   ·split <;> exact e7m _
theorem b5d {r:Rec} {o:Int} (hr:d9j r) (ho:a1z o) {c:Calc} (h:VOk c):a1z (cVal r o c):=by
 cases h with
 | leaf op n kids h hn =>
  rw [cVal]
  by_cases e1:op=1
  ·rw [if_pos e1];exact hn
  rw [if_neg e1]
  by_cases e2:op=2
  ·rw [if_pos e2];exact hr.1
  rw [if_neg e2]
  by_cases e3:op=3
  ·rw [if_pos e3];exact hr.2.1
  rw [if_neg e3]
  by_cases e4:op=4
  ·rw [if_pos e4];exact hr.2.2
  rw [if_neg e4,if_pos (by omega)]
  exact ho
 | node op n a b h ha hb =>
  rw [cVal,if_neg (by omega),if_neg (by omega),if_neg (by omega),if_neg (by omega),if_neg (by omega)]
  exact f5a _ _ _
theorem a2h {c:Calc} (h:VOk c):∀ m,nbs m (a5n c).2:=by
 induction h with
 | leaf op n kids h hn =>
  intro m
  rw [a5n]
  split
  ·simp [nbs,LV.nb]
  ·split
   ·simp [nbs]
   ·split
    ·simp [nbs]
    ·split
     ·simp [nbs]
     ·rw [if_pos (by omega)];simp [nbs]
 | node op n a b h ha hb iha ihb =>
  intro m
  rw [a5n]
  rw [if_neg (by omega),if_neg (by omega),if_neg (by omega),if_neg (by omega),if_neg (by omega)]
  simp [c6p,nbs,LV.nb,iha m,ihb m]
theorem b0q {c:Calc} (h:VOk c):a5u (a5n c).2=true:=by
 induction h with
 | leaf op n kids h hn =>
  rw [a5n]
  split
  ·simp [a5u,LV.noLp]
  ·split
   ·simp [a5u]
   ·split
    ·simp [a5u]
    ·split
     ·simp [a5u]
     ·rw [if_pos (by omega)];simp [a5u]
 | node op n a b h ha hb iha ihb =>
  rw [a5n]
  rw [if_neg (by omega),if_neg (by omega),if_neg (by omega),if_neg (by omega),if_neg (by omega)]
  simp [c6p,a5u,LV.noLp,iha,ihb]
theorem a7d {r:Rec} {o:Int} (hr:d9j r) (ho:a1z o) {c:Calc} (h:VOk c):AFun prog (a5n c).1 ([lv (rRec r),lvI o] ++ (a5n c).2) (lvI (cVal r o c)):=by
 induction h with
 | leaf op n kids h hn =>
  rw [a5n,cVal]
  by_cases e1:op=1
  ·rw [if_pos e1,if_pos e1];exact d2n r o op n _
  rw [if_neg e1,if_neg e1]
  by_cases e2:op=2
  ·rw [if_pos e2,if_pos e2];exact d2m r o
  rw [if_neg e2,if_neg e2]
  by_cases e3:op=3
  ·rw [if_pos e3,if_pos e3];exact d2l r o
  rw [if_neg e3,if_neg e3]
  by_cases e4:op=4
  ·rw [if_pos e4,if_pos e4];exact d2k r o
  rw [if_neg e4,if_neg e4,if_pos (by omega),if_pos (by omega)]
  exact d2j r o
 | node op n a b h ha hb iha ihb =>
  rw [a5n,cVal]
  rw [if_neg (by omega),if_neg (by omega),if_neg (by omega),if_neg (by omega),if_neg (by omega),if_neg (by omega),if_neg (by omega),if_neg (by omega),if_neg (by omega),if_neg (by omega)]
  exact d2i r o op n _ _ _ _ _ _ _ (b5d hr ho ha) (b5d hr ho hb) iha ihb (a2h ha) (a2h hb)
def vFn (c:Calc):LV:=.fn (.func (a5n c).1) [] (a5n c).2
theorem f0s {c:Calc} (h:VOk c) (m:Nat):(vFn c).nb m:=by
 simp [vFn,LV.nb,nbs,a2h h m]
theorem a3w {c:Calc} (h:VOk c):AFun prog 53 [lv (a1h c)] (vFn c):=by
 induction h with
 | leaf op n kids h hn =>
  refine AFun.body (a0g (p:=kds [1,3,4] [] [])) func53 rfl call53 (by rw [ntmps53];simp) rfl fun hf H=>?_
  have hnb:=f0s (VOk.leaf op n kids h hn) H.next
  simp [ntmps53,results53,a0o,Calc.op,Calc.n,Calc.kids,hnb]
  refine ⟨fun e=>by simp [vFn,a5n,e,a5j],fun e1=>⟨fun e=>by simp [vFn,a5n,e],fun e2=>⟨fun e=>by simp [vFn,a5n,e],fun e3=>⟨fun e=>by simp [vFn,a5n,e],fun e4=>⟨fun e=>by simp [vFn,a5n,e],fun e5=>by omega⟩⟩⟩⟩⟩
 | node op n a b h ha hb iha ihb =>
  refine AFun.body (a0g (p:=kds [1,3,4] [] [])) func53 rfl call53 (by rw [ntmps53];simp) rfl fun hf H=>?_
  have hnb:=f0s (VOk.node op n a b h ha hb) H.next
  have n1:op ≠ 1:=by omega
  have n2:op ≠ 2:=by omega
  have n3:op ≠ 3:=by omega
  have n4:op ≠ 4:=by omega
  have n5:op ≠ 5:=by omega
  simp [ntmps53,results53,a0o,n1,n2,n3,n4,n5]
  rw [a0o] at iha ihb
  refine AW.draw (a0g (p:=kds [1,3,4] [] [])) [(1,.n),(3,.n),(4,.n),(6,.n),(8,.n),(9,.n)] (.q 0<|.q 1<|.q 2<|.q 3<|.q 4<|.q 5<|.q 6<|.q 7<|.q 8<|.q 9<|.f (.cons 10 (.f<|.one 11<|.f<|.one 12<|.f<|.one 13<|.done) (.cons 11 (.f<|.one 10<|.f<|.one 12<|.f<|.one 13<|.done) (.nil)))) (by kernel_rfl) ?_
  simp [a0o]
  refine FC.afun (by simpa using iha) ?_
  simp [a0o]
  refine FC.afun (by simpa using ihb) ?_
  simp [a0o,vFn,b0q ha,b0q hb,a3u _ (b0q ha),a3u _ (b0q hb)]
  have hv:a5n (.mk op n [a,b])=(108,[.ip [vFn a] 0,.ip [vFn b] 0,.ip [.d (dI op),.d (dI n),.d (.sl [a1h a,a1h b])] 0]):=by
   rw [a5n,if_neg n1,if_neg n2,if_neg n3,if_neg n4,if_neg n5];simp [c6p,vFn,b2y]
  refine ⟨?_,a2h (VOk.node op n a b h ha hb) _⟩
  rw [hv]
  simp [vFn,a0o]
end Go.Aft
end
section
set_option maxRecDepth 20000
namespace Go.Aft
open Go.Proofs.Tryz
theorem b3t {n:Int} (h:n=a3y n):a1z n:=h ▸ a7v n
mutual
theorem c2r:∀ (c:Calc) (depth left:Int),0<=a2o c depth left->VOk c
 | .mk op n kids,depth,left,h=>by
  have ih:=b8y kids depth (left - 1)
  rw [a2o] at h
  split at h
  ·omega
  ·rename_i h1
   by_cases h6:6<=op
   ·rw [if_pos h6] at h
    split at h
    ·omega
    ·rename_i h2
     have hl:kids.length=2:=by omega
     match kids,hl with
     | [a,b],_=>exact .node op n a b h6 (ih h a (by simp)) (ih h b (by simp))
   ·rw [if_neg h6] at h
    split at h
    ·omega
    ·rename_i h2
     exact .leaf op n kids (by omega) (b3t (by omega))
theorem b8y:∀ (l:List Calc) (depth left:Int),0<=a1y l depth left->∀ c ∈ l,VOk c
 | [],_,_,_,c,hc=>by cases hc
 | k :: ks,depth,left,h,c,hc=>by
  rw [a1y] at h
  split at h
  ·omega
  ·rcases List.mem_cons.1 hc with e | hc
   ·rw [e];exact c2r k (depth+1) left (by omega)
   ·exact b8y ks _ _ h c hc
end
def mAsk (c:Calc) (r:Rec) (o:Int):Prop:=0<=a2o c 1 60/\0<=r.at_/\r.at_<=200/\r.key=a3y r.key/\r.val=a3y r.val/\o=a3y o
instance (c:Calc) (r:Rec) (o:Int):Decidable (mAsk c r o):=by unfold mAsk;infer_instance
theorem e3r (c:Calc) (r:Rec) (o:Int):AFun prog 13 [lv (a1h c),lv (rRec r),lvI o] (if mAsk c r o then .tup [lvI (cVal r o c),lvI 0] else .tup [lvI 0,lvI 2]):=by
 refine AFun.body (a0g (p:=kds [3,4] [] [])) func13 rfl call13 (by rw [ntmps13];simp) rfl fun hf H=>?_
 simp [ntmps13,results13,rRec,a0o]
 refine AW.draw (a0g (p:=kds [3,4] [] [])) [(1,.n),(18,.n),(26,.n),(32,.n)] (.q 0<|.q 1<|.q 2<|.q 3<|.q 4<|.q 5<|.q 6<|.q 7<|.q 8<|.q 9<|.q 10<|.q 11<|.q 12<|.q 13<|.q 14<|.q 16<|.q 15<|.q 17<|.q 18<|.q 19<|.q 20<|.q 21<|.q 22<|.q 24<|.q 23<|.q 25<|.q 26<|.q 27<|.q 28<|.q 29<|.q 30<|.q 31<|.q 32<|.q 33<|.q 34<|.done) (by kernel_rfl) ?_
 simp
 refine FC.afun (by simpa [a0o] using b8w c 1 60 (by omega) (by omega)) ?_
 simp
 refine FCg.afun (fun _=>a3x _) ?_
 simp
 refine FCg.afun (fun _=>a3x _) ?_
 simp
 refine FCg.afun (fun _=>a3x _) ?_
 simp
 refine ⟨fun h=>?_,fun h1 h2 h3 h4 h5 h6=>?_⟩
 ·have hn:¬ mAsk c r o:=by unfold mAsk;omega
  rw [if_neg hn]
  simp [hn]
 ·have ha:mAsk c r o:=⟨h1,h2,h3,h4,h5,h6⟩
  rw [if_pos ha]
  have hok:=c2r c 1 60 h1
  have hr:d9j r:=⟨⟨by omega,by omega⟩,b3t h4,b3t h5⟩
  have hv:=a7d hr (b3t h6) hok
  have hm:=a3w hok
  simp [a0o,rRec] at hv hm
  refine AW.draw (a0g (p:=kds [3,4] [] [])) [(1,.n),(4,.n)] (.q 3<|.q 0<|.q 1<|.q 2<|.q 4<|.q 5<|.q 6<|.done) (by kernel_rfl) ?_
  simp
  refine FC.afun hm ?_
  simp [vFn,a2h hok]
  refine FC.afun hv ?_
  simp
end Go.Aft
end
section
set_option maxRecDepth 20000
namespace Go.Aft
open Go.Proofs.Tryz
structure Shape where
 src:Int
 n:Int
 fold:Int
 terms:List Calc
def f4x (s:Shape):List DV:=[dI s.src,dI s.n,dI s.fold,.sl (s.terms.map a1h)]
@[simp] theorem rShape_len (s:Shape):(f4x s).length=4:=rfl
def idxF {α:Type} (p:α->Bool) (l:List α):Int:=match l.findIdx? p with | some i=>i | none=>-1
theorem c5l {α:Type} {p:α->Bool} {l:List α} {i:Nat} (h:i < l.length) (e:p l[i]=true) (hlt:∀ (j:Nat) (h:j < l.length),j < i->p l[j]=false):idxF p l=i:=by
 unfold idxF
 have:l.findIdx? p=some i:=by
  rw [List.findIdx?_eq_some_iff_getElem]
  exact ⟨h,e,fun j hj=>by simpa using hlt j (by omega) hj⟩
 rw [this]
theorem b3j {α:Type} {p:α->Bool} {l:List α} (hlt:∀ (j:Nat) (h:j < l.length),p l[j]=false):idxF p l = -1:=by
 unfold idxF
 have:l.findIdx? p=none:=by
  rw [List.findIdx?_eq_none_iff]
  intro x hx
  obtain ⟨j,hj,rfl⟩:=List.mem_iff_getElem.1 hx
  exact hlt j hj
 rw [this]
theorem b6w {α:Type} (p:α->Bool) (l:List α):decide (0<=idxF p l)=l.any p:=by
 unfold idxF
 cases h:l.findIdx? p with
 | none =>
  rw [List.findIdx?_eq_none_iff] at h
  simp only [Int.reduceNeg,Int.reduceLE,decide_false]
  symm;rw [List.any_eq_false];intro x hx;rw [h x hx];simp
 | some i =>
  rw [List.findIdx?_eq_some_iff_getElem] at h
  obtain ⟨h1,h2,_⟩:=h
  have:l.any p=true:=List.any_eq_true.2 ⟨_,List.getElem_mem h1,h2⟩
  rw [this];simp
end Go.Aft
end
section
set_option maxRecDepth 20000
namespace Go.Aft
open Go.Proofs.Tryz
end Go.Aft
end
section
set_option maxRecDepth 20000
namespace Go.Aft
open Go.Proofs.Tryz
mutual
def strip:Exp->List Calc × Exp
 | .mk op name n fold a0k kids=>if op=5 then (a0k.headD default :: (stripL kids).1,(stripL kids).2) else ([],.mk op name n fold a0k kids)
def stripL:List Exp->List Calc × Exp
 | []=>([],default)
 | e :: _=>strip e
end
inductive WOk:Nat->Exp->Prop
 | other (d:Nat) (e:Exp) (h:e.op ≠ 5):WOk d e
 | where_ (d:Nat) (name:Str) (n fold:Int) (c:Calc) (cs:List Calc) (k:Exp) (ks:List Exp) (h:WOk d k):WOk (d+1) (.mk 5 name n fold (c :: cs) (k :: ks))
def f0t:Shape:=⟨0,0,0,[]⟩
def e2v (p:Prog) (e:Exp):Shape × Bool :=
 if e.op ≠ 8 then (f0t,false)
 else if (stripL e.kids).2.op ≠ 1 then (f0t,false)
 else (⟨idx p.srcs (stripL e.kids).2.name,e.n,e.fold,(stripL e.kids).1⟩,true)
end Go.Aft
end
section
set_option maxRecDepth 20000
namespace Go.Aft
open Go.Proofs.Tryz
theorem d4p {H0 H:GH} (h1:H0.next<=H.next) (h2:∀ n,H.next<=n->H.obj n=none) (h3:∀ n o,H.obj n=some o->H0.obj n=some o \/ o.nb H.next):Drop H0 H H :=
 ⟨Nat.le_refl _,h1,fun _ _=>rfl,h2,h3⟩
theorem c6l {H0 H:GH} (h:Drop H0 H H) {n:Nat} (hn:n < H.next) {cs:List LV} (hc:nbs H.next cs):Drop H0 (H.set n (.box cs)) (H.set n (.box cs)):=by
 refine ⟨Nat.le_refl _,h.nx0,fun _ _=>rfl,fun m hm=>?_,fun m o ho=>?_⟩
 ·rw [GH.a0f,if_neg (by have:H.next<=m:=hm;omega)];exact h.none m hm
 ·rw [GH.a0f] at ho
  split at ho
  ·cases ho;exact .inr hc
  ·exact h.nb m o ho
end Go.Aft
end
section
set_option maxRecDepth 20000
namespace Go.Aft
open Go.Proofs.Tryz
end Go.Aft
end
section
set_option maxRecDepth 20000
namespace Go.Aft
open Go.Proofs.Tryz
def unformed:LV:=.d (.k (.iface 207 (.agg #[])))
theorem a2i (b:Bool) (H:GH):a0j prog 153 [.d (.k (.bool b))] H fun ce H'=>H'=H/\(if b then ∃ v,ce=.ret v else ce=.pan unformed):=by
 refine a0j.body cx0_ok func153 rfl call153 (by rw [ntmps153];simp) rfl fun hf hw=>?_
 simp [ntmps153,results153,a4g,unformed]
 have hd:Drop H H H:=a0m (Nat.le_refl _) (fun _ _=>rfl) hw
 exact ⟨fun e=>⟨H,hd,rfl,by simp [e]⟩,fun e=>⟨H,hd,rfl,e⟩⟩
theorem EC.of {P:Program} {f:FuncId} {args:List LV} {H:GH} {s:S} {dst:Option Nat} {K:KT} {Q:QT} {R:CE->GH->Prop} (h:a0j P f args H R) (hk:∀ v H',R (.ret v) H'->@AP K (({ s with H:=H' }:S).put dst v))
  (hp:∀ x H',R (.pan x) H'->Q.q (.pan x) { s with H:=H' }):@EC P f args H s dst K Q :=
 h.mono fun ce H' hR=>by
  cases ce with
  | ret v=>exact hk v H' hR
  | pan x=>exact hp x H' hR
def scp (c:List LV) (ahead nodes:Int):GO:=.box (c ++ [lvI ahead,lvI nodes])
theorem d4z (n:Nat) (H:GH) (x y z:LV) (ahead nodes depth:Int) (hn:H.obj n=some (scp [x,y,z] ahead nodes)) (hc:nbs H.next [x,y,z]) (h0:0<=nodes) (h1:nodes<=1000000) :
  a0j prog 209 [.gp n 0,lvI depth] H fun ce H'=>H'=H.set n (scp [x,y,z] ahead (nodes+1))/\(if nodes+1<=60/\depth<=10 then ∃ v,ce=.ret v else ce=.pan unformed):=by
 refine a0j.body cx0_ok func209 rfl call209 (by rw [ntmps209];simp) rfl fun hf hw=>?_
 have w1:IntKind.wrap .i64 (nodes+1)=nodes+1:=by rw [wrap64] <;> omega
 have lt:n < H.next:=by
  rcases Nat.lt_or_ge n H.next with q | q
  ·exact q
  ·rw [hw n q] at hn;cases hn
 simp [scp] at hn
 simp [ntmps209,results209,hn,w1,GH.set,a7e]
 have hd:=c6l (d4p (Nat.le_refl _) hw fun _ _ q=>.inl q) lt (cs:=[x,y,z,lvI ahead,lvI (nodes+1)]) (by simp [nbs] at hc |-;simp [hc,LV.nb])
 refine EC.of (a2i _ _) (fun v H' hR=>?_) (fun v H' hR=>?_)
 ·obtain ⟨rfl,hR⟩:=hR
  by_cases hb:nodes+1<=60/\depth<=10
  ·simp
   exact ⟨_,hd,rfl,by simp [hb]⟩
  ·rw [if_neg (by simpa using hb)] at hR;cases hR
 ·obtain ⟨rfl,hR⟩:=hR
  by_cases hb:nodes+1<=60/\depth<=10
  ·rw [if_pos (by simpa using hb)] at hR;obtain ⟨_,e⟩:=hR;cases e
  ·rw [if_neg (by simpa using hb)] at hR;cases hR
   simp [unformed]
   exact ⟨_,hd,rfl,by omega⟩
end Go.Aft
end
section
namespace Go.Aft
def a3o (other:Bool) (op n:Int) (kids:Nat):Bool :=
 if op=1 then decide (-1000000000<=n/\n<=1000000000/\kids=0)
 else if op=2 \/ op=3 \/ op=4 then decide (n=0/\kids=0)
 else if op=5 then decide (other=true/\n=0/\kids=0)
 else decide (6<=op/\op<=10/\n=0/\kids=2)
mutual
def a2y (other:Bool):Calc->Int->Int->Option Int
 | .mk op n kids,depth,left=>if depth<=10/\1<=left/\a3o other op n kids.length=true then a1m other kids (depth+1) (left - 1) else none
def a1m (other:Bool):List Calc->Int->Int->Option Int
 | [],_,left=>some left
 | k :: ks,depth,left=>match a2y other k depth left with
  | some l=>a1m other ks depth l
  | none=>none
end
mutual
theorem a8i {other:Bool}:∀ (c:Calc) (depth left l:Int),a2y other c depth left=some l->0<=l/\l < left
 | .mk op n kids,depth,left,l,h=>by
  rw [a2y] at h
  split at h
  ·rename_i hc
   have:=a9x kids _ _ _ h (by omega)
   omega
  ·cases h
theorem a9x {other:Bool}:∀ (cs:List Calc) (depth left l:Int),a1m other cs depth left=some l->0<=left->0<=l/\l<=left
 | [],depth,left,l,h,h0=>by rw [a1m] at h;cases h;omega
 | k :: ks,depth,left,l,h,h0=>by
  rw [a1m] at h
  split at h
  ·rename_i l' hl
   have h1:=a8i k _ _ _ hl
   have h2:=a9x ks _ _ _ h (by omega)
   omega
  ·cases h
end
structure Shp where
 kids:Int
 a0k:Int
 name:Bool
 fold:Bool
 low:Int
 high:Int
def a1l (op:Int):Option Shp :=
 if op=1 \/ op=2 then some ⟨0,0,true,false,0,0⟩
 else if op=3 then some ⟨0,0,true,false,1,50⟩
 else if op=4 then some ⟨2,0,false,false,0,0⟩
 else if op=5 then some ⟨1,1,false,false,0,0⟩
 else if op=6 then some ⟨1,2,false,false,0,0⟩
 else if op=7 then some ⟨1,0,false,false,-50,50⟩
 else if op=8 \/ op=11 then some ⟨1,0,false,true,1,50⟩
 else if op=9 then some ⟨1,0,false,true,0,50⟩
 else if op=10 then some ⟨1,0,false,true,0,0⟩
 else if op=12 then some ⟨2,1,false,false,0,50⟩
 else if op=13 then some ⟨2,1,false,false,0,0⟩
 else if op=14 then some ⟨2,0,false,false,0,50⟩
 else if op=15 then some ⟨1,0,false,false,0,0⟩
 else none
def a1q:Str:=⟨#[]⟩
def a6x (op:Int) (name:Str) (n fold:Int) (nc nk:Nat):Bool :=
 match a1l op with
 | none=>false
 | some x=>decide ((nk:Int)=x.kids/\(nc:Int)=x.a0k) && (x.name == decide (name ≠ a1q)) && decide (x.low<=n/\n<=x.high) && (if x.fold=true then decide (1<=fold/\fold<=4) else decide (fold=0))
def a2l (srcs defs:List Str) (ahead op:Int) (name:Str):Bool :=
 if op=1 then decide (0<=idx srcs name) else if op=2 then decide (0<=idx defs name/\idx defs name < ahead) else if op=3 then decide (0<=idx defs name) else true
mutual
def lExp (srcs defs:List Str) (ahead:Int):Exp->Int->Int->Option Int
 | .mk op name n fold a0k kids,depth,left =>
  if depth<=10/\1<=left/\a6x op name n fold a0k.length kids.length=true/\a2l srcs defs ahead op name=true then
   match a1m (decide (op=12 \/ op=13)) a0k 1 (left - 1) with
   | some l=>a3q srcs defs ahead kids (depth+1) l
   | none=>none
  else none
def a3q (srcs defs:List Str) (ahead:Int):List Exp->Int->Int->Option Int
 | [],_,left=>some left
 | k :: ks,depth,left=>match lExp srcs defs ahead k depth left with
  | some l=>a3q srcs defs ahead ks depth l
  | none=>none
end
mutual
theorem a8h {srcs defs:List Str} {a:Int}:∀ (c:Exp) (depth left l:Int),lExp srcs defs a c depth left=some l->0<=l/\l < left
 | .mk op name n fold a0k kids,depth,left,l,h=>by
  rw [lExp] at h
  split at h
  ·split at h
   ·rename_i hc _ l1 h1
    have h1:=a9x _ _ _ _ h1 (by omega)
    have:=d6d kids _ _ _ h (by omega)
    omega
   ·cases h
  ·cases h
theorem d6d {srcs defs:List Str} {a:Int}:∀ (cs:List Exp) (depth left l:Int),a3q srcs defs a cs depth left=some l->0<=left->0<=l/\l<=left
 | [],depth,left,l,h,h0=>by rw [a3q] at h;cases h;omega
 | k :: ks,depth,left,l,h,h0=>by
  rw [a3q] at h
  split at h
  ·rename_i l' hl
   have h1:=a8h k _ _ _ hl
   have h2:=d6d ks _ _ _ h (by omega)
   omega
  ·cases h
end
def a0d (p:Prog):List Str:=p.defs.map (·.name)
def a7l (srcs names:List Str):List Def->Int->Int->Option Int
 | [],_,left=>some left
 | d :: ds,a,left=>match lExp srcs names a d.exp 1 left with
  | some l=>a7l srcs names ds (a+1) l
  | none=>none
theorem d6g {srcs names:List Str}:∀ (ds:List Def) (a left l:Int),a7l srcs names ds a left=some l->0<=left->0<=l/\l<=left
 | [],a,left,l,h,h0=>by rw [a7l] at h;cases h;omega
 | d :: ds,a,left,l,h,h0=>by
  rw [a7l] at h
  split at h
  ·rename_i l' hl
   have h1:=a8h _ _ _ _ hl
   have h2:=d6g ds _ _ _ h (by omega)
   omega
  ·cases h
def a3i:List Str:=[⟨#[97,102,116,101,114]⟩,⟨#[97,110,100]⟩,⟨#[97,115]⟩,⟨#[97,116]⟩,⟨#[98,111,116,104]⟩,⟨#[98,121]⟩,⟨#[99,111,117,110,116]⟩,⟨#[101,97,99,104]⟩,⟨#[101,108,115,101]⟩,⟨#[103,114,101,97,116]⟩,⟨#[103,114,111,117,112]⟩,⟨#[105,110]⟩,⟨#[105,115]⟩,⟨#[107,101,121]⟩,⟨#[108,97,99,107]⟩,⟨#[108,101,97,115,116]⟩,⟨#[108,101,115,115]⟩,⟨#[108,101,116]⟩,⟨#[111,102]⟩,⟨#[111,110,99,101]⟩,⟨#[111,114]⟩,⟨#[111,116,104,101,114]⟩,⟨#[112,97,105,114]⟩,⟨#[112,114,101,118]⟩,⟨#[114,101,115,116]⟩,⟨#[115,97,109,101]⟩,⟨#[115,104,105,102,116]⟩,⟨#[115,108,105,100,101]⟩,⟨#[115,111,117,114,99,101]⟩,⟨#[115,117,109]⟩,⟨#[116,111,116,97,108]⟩,⟨#[118,97,108]⟩,⟨#[119,104,101,114,101]⟩,⟨#[119,105,116,104,105,110]⟩]
def letters (s:Str):Bool:=(List.range s.size).all fun j=>decide (97<=byteAt s (j:Nat)/\byteAt s (j:Nat)<=122)
def a5v (s:Str):Bool:=decide (1<=s.size/\s.size<=8) && letters s && a3i.all (fun k=>decide (s ≠ k))
def a2b (s:Str):Prop:=s.size<=140737488351232
def b5a (l:List Str):Prop:=∀ i (h:i < l.length),a5v l[i]=true/\l[i] ∉ l.take i
mutual
def allE:Exp->List Exp
 | .mk op name n fold a0k kids=>.mk op name n fold a0k kids :: a0y kids
def a0y:List Exp->List Exp
 | []=>[]
 | e :: es=>allE e ++ a0y es
end
def a3p (p:Prog) (i:Nat) (k:Nat):Prop:=∃ h:i < p.defs.length,∃ e ∈ allE p.defs[i].exp,(e.op=2 \/ e.op=3)/\idx (a0d p) e.name=(k:Int)
inductive Path (S:Nat->Nat->Prop):Nat->Nat->Prop
 | one {i k:Nat} (h:S i k):Path S i k
 | cons {i j k:Nat} (h:S i j) (t:Path S j k):Path S i k
theorem Path.trans {S:Nat->Nat->Prop} {i j k:Nat} (h:Path S i j) (t:Path S j k):Path S i k:=by
 induction h with
 | one h=>exact .cons h t
 | cons h _ ih=>exact .cons h (ih t)
def a1o (e:Exp):Bool:=decide (e.op=14 \/ e.op=7/\e.n < 0)
noncomputable def countM (p:Prog):Option Int :=
 open Classical in if 1<=p.srcs.length/\p.srcs.length<=4/\p.defs.length<=6/\b5a (p.srcs ++ a0d p) then a7l p.srcs (a0d p) p.defs 0 60 else none
def d1k (p:Prog):Prop:=∀ (i:Nat) (h:i < p.defs.length),Path (a3p p) i i->∀ e ∈ allE p.defs[i].exp,a1o e=false
def formed (p:Prog):Prop:=(∃ l,countM p=some l)/\d1k p
end Go.Aft
end
section
namespace Go.Aft
def ringAt (n:Nat) (R:Nat->Nat->Bool) (i:Nat):List Nat:=(List.range n).filter fun k=>k == i || R i k && R k i
def a2s (n:Nat) (R:Nat->Nat->Bool):List (List Nat):=((List.range n).filter fun i=>R i i && (ringAt n R i).head? == some i).map (ringAt n R)
theorem a0z {n:Nat} {R:Nat->Nat->Bool} {i k:Nat}:k ∈ ringAt n R i ↔ k < n/\(k=i \/ R i k=true/\R k i=true):=by
 simp [ringAt]
theorem b7o {n:Nat} {R:Nat->Nat->Bool} (ht:∀ i j k,R i j=true->R j k=true->R i k=true) {k:Nat} (hk:k < n):(∃ ring ∈ a2s n R,k ∈ ring) ↔ R k k=true:=by
 constructor
 ·rintro ⟨ring,h,hkr⟩
  simp only [a2s,List.mem_map,List.mem_filter,Bool.and_eq_true] at h
  obtain ⟨i,⟨_,hi,_⟩,rfl⟩:=h
  rcases (a0z.1 hkr).2 with rfl | ⟨h1,h2⟩
  ·exact hi
  ·exact ht _ _ _ h2 h1
 ·intro hkk
  have hmem:k ∈ ringAt n R k:=a0z.2 ⟨hk,.inl rfl⟩
  obtain ⟨i,hi⟩:∃ i,(ringAt n R k).head?=some i:=by
   cases h:ringAt n R k with
   | nil=>rw [h] at hmem;cases hmem
   | cons a l=>exact ⟨a,rfl⟩
  have him:i ∈ ringAt n R k:=List.mem_of_mem_head? (by rw [hi];exact rfl)
  obtain ⟨hin,hik⟩:=a0z.1 him
  have h12:R k i=true/\R i k=true:=by
   rcases hik with rfl | h
   ·exact ⟨hkk,hkk⟩
   ·exact h
  have hii:R i i=true:=ht _ _ _ h12.2 h12.1
  have hsame:ringAt n R i=ringAt n R k:=by
   unfold ringAt
   refine List.filter_congr fun j _=>?_
   rw [Bool.eq_iff_iff]
   simp only [Bool.or_eq_true,beq_iff_eq,Bool.and_eq_true]
   constructor
   ·rintro (rfl | ⟨h1,h2⟩)
    ·exact .inr h12
    ·exact .inr ⟨ht _ _ _ h12.1 h1,ht _ _ _ h2 h12.2⟩
   ·rintro (rfl | ⟨h1,h2⟩)
    ·exact .inr ⟨h12.2,h12.1⟩
    ·exact .inr ⟨ht _ _ _ h12.2 h1,ht _ _ _ h2 h12.1⟩
  refine ⟨ringAt n R i,?_,by rw [hsame];exact hmem⟩
  simp only [a2s,List.mem_map,List.mem_filter,Bool.and_eq_true]
  exact ⟨i,⟨List.mem_range.2 hin,hii,by rw [hsame,hi];simp⟩,rfl⟩
end Go.Aft
end
section
namespace Go.Aft
def sumU:List (List Nat)->List Bool->Nat
 | t :: ts,b :: bs=>(if b=true then 0 else t.length)+sumU ts bs
 | _,_=>0
theorem d5c:∀ (to:List (List Nat)) (row:List Bool) (d:Nat) (hd:d < to.length) (hr:d < row.length),row[d]=false->sumU to (row.set d true)+to[d].length=sumU to row
 | t :: ts,b :: bs,0,hd,hr,h=>by
  simp only [List.getElem_cons_zero] at h;subst h;simp [sumU];omega
 | t :: ts,b :: bs,d+1,hd,hr,h=>by
  simp only [List.length_cons,Nat.add_lt_add_iff_right] at hd hr
  have:=d5c ts bs d hd hr (by simpa using h)
  simp [sumU];omega
theorem e2a:∀ (to:List (List Nat)) (row:List Bool),sumU to row<=(to.map List.length).sum
 | t :: ts,b :: bs=>by have:=e2a ts bs;simp [sumU];split <;> omega
 | [],_=>by simp [sumU]
 | t :: ts,[]=>by simp [sumU]
structure Bfs (to:List (List Nat)) (i k:Nat) (row:List Bool) (todo:List Nat):Prop where
 hk:k<=todo.length
 len:row.length=to.length
 bnd:∀ x ∈ todo,x < to.length
 sound:∀ x ∈ todo,Path (fun a b=>b ∈ to.getD a []) i x
 mark:∀ x,row.getD x false=true->x ∈ todo.take k
 done:∀ x ∈ todo.take k,row.getD x false=true/\∀ y ∈ to.getD x [],y ∈ todo
 init:∀ y ∈ to.getD i [],y ∈ todo
theorem Bfs.start {to:List (List Nat)} (hb:∀ l ∈ to,∀ x ∈ l,x < to.length) {i:Nat} (hi:i < to.length):Bfs to i 0 (List.replicate to.length false) (to.getD i []):=by
 have hm:to.getD i [] ∈ to:=by simp [List.getD,List.getElem?_eq_getElem hi]
 refine ⟨Nat.zero_le _,by simp,fun x hx=>hb _ hm x hx,fun x hx=>.one hx,fun x hx=>?_,fun x hx=>by simp at hx,fun y hy=>hy⟩
 exfalso
 simp only [List.getD] at hx
 rcases Nat.lt_or_ge x to.length with q | q
 ·rw [List.getElem?_replicate,if_pos q] at hx;cases hx
 ·rw [List.getElem?_eq_none (by simpa using q)] at hx;cases hx
theorem Bfs.skip {to:List (List Nat)} {i k:Nat} {row:List Bool} {todo:List Nat} (h:Bfs to i k row todo) (hk:k < todo.length) (hr:row.getD todo[k] false=true):Bfs to i (k+1) row todo:=by
 have ht:todo.take (k+1)=todo.take k ++ [todo[k]]:=by rw [List.take_add_one,List.getElem?_eq_getElem hk];rfl
 refine ⟨hk,h.len,h.bnd,h.sound,fun x hx=>?_,fun x hx=>?_,h.init⟩
 ·rw [ht];exact List.mem_append_left _ (h.mark x hx)
 ·rw [ht,List.mem_append] at hx
  rcases hx with hx | hx
  ·exact h.done x hx
  ·have:=h.mark _ hr
   simp only [List.mem_singleton] at hx;subst hx
   exact h.done _ this
theorem Bfs.turn {to:List (List Nat)} (hb:∀ l ∈ to,∀ x ∈ l,x < to.length) {i k:Nat} {row:List Bool} {todo:List Nat} (h:Bfs to i k row todo) (hk:k < todo.length) (hr:row.getD todo[k] false=false) :
  Bfs to i (k+1) (row.set todo[k] true) (todo ++ to.getD todo[k] []):=by
 have hlt:=h.bnd _ (List.getElem_mem hk)
 have hm:to.getD todo[k] [] ∈ to:=by simp [List.getD,List.getElem?_eq_getElem hlt]
 have ht:(todo ++ to.getD todo[k] []).take (k+1)=todo.take k ++ [todo[k]]:=by
  rw [List.take_append_of_le_length hk,List.take_add_one,List.getElem?_eq_getElem hk];rfl
 have hset:∀ x,(row.set todo[k] true).getD x false=if x=todo[k] then true else row.getD x false:=fun x=>by
  simp only [List.getD,List.getElem?_set]
  by_cases e:x=todo[k]
  ·subst e;simp [h.len,hlt]
  ·rw [if_neg (Ne.symm e),if_neg e]
 refine ⟨by simp;omega,by simp [h.len],fun x hx=>?_,fun x hx=>?_,fun x hx=>?_,fun x hx=>?_,fun y hy=>List.mem_append_left _ (h.init y hy)⟩
 ·rcases List.mem_append.1 hx with hx | hx
  ·exact h.bnd x hx
  ·exact hb _ hm x hx
 ·rcases List.mem_append.1 hx with hx | hx
  ·exact h.sound x hx
  ·exact (h.sound _ (List.getElem_mem hk)).trans (.one hx)
 ·rw [hset] at hx
  rw [ht,List.mem_append]
  by_cases e:x=todo[k]
  ·exact .inr (by simp [e])
  ·rw [if_neg e] at hx;exact .inl (h.mark x hx)
 ·rw [ht,List.mem_append] at hx
  rw [hset]
  by_cases e:x=todo[k]
  ·rw [if_pos e];exact ⟨rfl,fun y hy=>List.mem_append_right _ (e ▸ hy)⟩
  ·rw [if_neg e]
   rcases hx with hx | hx
   ·exact ⟨(h.done x hx).1,fun y hy=>List.mem_append_left _ ((h.done x hx).2 y hy)⟩
   ·exact absurd (by simpa using hx) e
theorem Bfs.end {to:List (List Nat)} {i:Nat} {row:List Bool} {todo:List Nat} (h:Bfs to i todo.length row todo) (x:Nat):row.getD x false=true ↔ Path (fun a b=>b ∈ to.getD a []) i x:=by
 have ht:todo.take todo.length=todo:=List.take_length
 constructor
 ·intro hx;have:=h.mark x hx;rw [ht] at this;exact h.sound x this
 ·intro hp
  have key:∀ a b,Path (fun a b=>b ∈ to.getD a []) a b->(a=i \/ a ∈ todo)->b ∈ todo:=by
   intro a b hab
   have hs:∀ a b,b ∈ to.getD a []->(a=i \/ a ∈ todo)->b ∈ todo:=fun a b hb ha=>by
    rcases ha with rfl | ha
    ·exact h.init b hb
    ·exact (h.done a (by rw [ht];exact ha)).2 b hb
   induction hab with
   | one hb=>exact hs _ _ hb
   | cons hb _ ih=>exact fun ha=>ih (.inr (hs _ _ hb ha))
  have:=key i x hp (.inl rfl)
  exact (h.done x (by rw [ht];exact this)).1
theorem Path.congr {S T:Nat->Nat->Prop} (h:∀ i k,S i k->T i k) {i k:Nat} (p:Path S i k):Path T i k:=by
 induction p with
 | one q=>exact .one (h _ _ q)
 | cons q _ ih=>exact .cons (h _ _ q) ih
end Go.Aft
end
