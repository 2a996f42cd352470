import Derived.Test.YtdhphbedajhmnaaGreatA21
set_option linter.all false
section
set_option maxRecDepth 20000
namespace Go.Aft
open Go.Proofs.Tryz
theorem foldl_take {α β:Type} (f:β->α->β) (b:β) (l:List α) (i:Nat) (h:i < l.length):(l.take (i+1)).foldl f b=f ((l.take i).foldl f b) l[i]:=by
 rw [List.take_add_one,List.foldl_append]
 simp [List.getElem?_eq_getElem h]
end Go.Aft
end
section
set_option maxRecDepth 20000
namespace Go.Aft
open Go.Proofs.Tryz
def clampM (n:Int):Int:=minI (maxI n (-1000000000)) 1000000000
theorem mean_clamp (n:Int):AFun prog 143 [.d (.k (.int .i64 n))] (.d (.k (.int .i64 (clampM n)))):=by
 refine AFun.body cx0_ok func143 rfl call143 (by rw [ntmps143];simp) rfl fun hf H=>?_
 simp [ntmps143,results143,clampM]
mutual
def mFormed:Calc->Int->Int->Int
 | .mk op n kids,depth,left =>
  if 10 < depth \/ left < 1 \/ op < 1 \/ 10 < op then -1
  else if (kids.length:Int) ≠ (if 6<=op then 2 else 0) \/ (op ≠ 1/\n ≠ 0) \/ n ≠ clampM n then -1
  else mFormedL kids depth (left - 1)
def mFormedL:List Calc->Int->Int->Int
 | [],_,left=>left
 | k :: ks,depth,left=>if mFormed k (depth+1) left < 0 then -1 else mFormedL ks depth (mFormed k (depth+1) left)
end
mutual
theorem mFormed_le:∀ (c:Calc) (depth left:Int),mFormed c depth left<=left \/ mFormed c depth left = -1
 | .mk op n kids,depth,left=>by
  have h:=mFormedL_le kids depth (left - 1)
  rw [mFormed]
  generalize (if (6:Int)<=op then (2:Int) else 0)=k2
  split
  ·exact .inr rfl
  ·split
   ·exact .inr rfl
   ·omega
theorem mFormedL_le:∀ (l:List Calc) (depth left:Int),mFormedL l depth left<=left \/ mFormedL l depth left = -1
 | [],depth,left=>by rw [mFormedL];exact .inl (Int.le_refl _)
 | k :: ks,depth,left=>by
  rw [mFormedL]
  split
  ·exact .inr rfl
  ·rename_i h
   have h1:=mFormed_le k (depth+1) left
   have h2:=mFormedL_le ks depth (mFormed k (depth+1) left)
   omega
end
theorem mean_formed1 (op n:Int) (kids:List Calc) (depth left:Int) (hd:0<=depth) (hl:left<=1000000)
  (ih:∀ k ∈ kids,∀ depth left:Int,0<=depth->left<=1000000->AFun prog 142 [lv (rCalc k),.d (.k (.int .i64 depth)),.d (.k (.int .i64 left))] (.d (.k (.int .i64 (mFormed k depth left))))) :
  AFun prog 142 [lv (rCalc (.mk op n kids)),.d (.k (.int .i64 depth)),.d (.k (.int .i64 left))] (.d (.k (.int .i64 (mFormed (.mk op n kids) depth left)))):=by
 refine AFun.body (cxK_ok (p:=kds [3] [] [])) func142 rfl call142 (by rw [ntmps142];simp) rfl fun hf H=>?_
 simp [ntmps142,results142,rCalc_eq,Calc.op,Calc.n,Calc.kids] at hf |-
 refine ⟨fun h=>?_,fun h1 h2 h3 h4=>?_⟩
 ·rw [mFormed,if_pos (by omega)]
 ·have hsp:mFormed (.mk op n kids) depth left=if (kids.length:Int) ≠ (if 6<=op then 2 else 0) \/ (op ≠ 1/\n ≠ 0) \/ n ≠ clampM n then -1 else mFormedL kids depth (left - 1):=by rw [mFormed,if_neg (by omega)]
  rw [hsp]
  have hw1:IntKind.wrap .i64 (left - 1)=left - 1:=by rw [wrap64] <;> omega
  have hw2:IntKind.wrap .i64 (depth+1)=depth+1:=by rw [wrap64] <;> omega
  refine ⟨fun h6=>?_,fun h6=>?_⟩
  all_goals
   first | rw [if_pos h6] | rw [if_neg (show ¬ (6<=op) by omega)]
   refine AW.draw (cxK_ok (p:=kds [3] [] [])) [(20,.n)] (.q 0<|.q 3<|.q 1<|.q 2<|.q 4<|.q 5<|.q 6<|.q 7<|.q 8<|.q 9<|.q 10<|.q 11<|.q 12<|.q 13<|.q 14<|.q 15<|.q 16<|.q 18<|.q 17<|.q 19<|.q 20<|.q 21<|.q 22<|.done) (by kernel_rfl) ?_
   simp [Calc.op,Calc.n,Calc.kids]
   refine ⟨by simp +contextual,FCg.afun (fun _=>mean_clamp n) ?_⟩
   simp [hw1]
   refine ⟨by grind,by grind,fun e1 e2 e3=>?_⟩
   rw [if_neg (by grind)]
   refine AW.loopS (cxK_ok (p:=kds [3] [] [])) (fun a:Nat × Int=>⟨[(1,.d (.k (.int .i64 depth))),(2,.d (.k (.int .i64 a.2))),(55,.d (.sl (kids.map rCalc))),(56,.d (.k (.int .i64 kids.length))),(57,.d (.k (.int .i64 a.1)))],[],H⟩)
    (fun a=>kids.length - a.1) (fun a=>a.1<=kids.length/\a.2<=1000000/\mFormedL kids depth (left - 1)=mFormedL (kids.drop a.1) depth a.2) (0,left - 1) ⟨⟨by simp,by simp;omega,by simp⟩,by simp⟩ ?_
   rintro ⟨i,left'⟩ ⟨hi,hle,hI⟩
   simp only at hi hle hI
   simp
   refine ⟨fun h=>?_,fun h=>?_⟩
   ·simp [h,List.getElem?_eq_getElem h,rCalc_eq,hw2]
    refine EC.afun (by simpa [rCalc_eq] using ih kids[i] (List.getElem_mem h) (depth+1) left' (by omega) hle) ?_
    have hd:=List.drop_eq_getElem_cons h
    simp [wrap_succ h hf.1]
    rw [hI,hd,mFormedL]
    refine ⟨fun q=>by rw [if_pos q],fun q=>NX.go (i+1,mFormed kids[i] (depth+1) left') (by simp;omega) ⟨h,?_,?_⟩ (by simp)⟩
    ·have:=mFormed_le kids[i] (depth+1) left';simp;omega
    ·rw [if_neg (by omega)]
   ·have:kids.drop i=[]:=List.drop_eq_nil_of_le h
    rw [hI,this,mFormedL]
theorem mean_formed:∀ (c:Calc) (depth left:Int),0<=depth->left<=1000000->AFun prog 142 [lv (rCalc c),.d (.k (.int .i64 depth)),.d (.k (.int .i64 left))] (.d (.k (.int .i64 (mFormed c depth left))))
 | .mk op n kids,depth,left,hd,hl=>mean_formed1 op n kids depth left hd hl fun k hk depth left hd hl=>mean_formed k depth left hd hl
end Go.Aft
end
section
set_option maxRecDepth 20000
namespace Go.Aft
open Go.Proofs.Tryz
def lvI (n:Int):LV:=.d (.k (.int .i64 n))
@[simp] theorem lvI_eq (n:Int):lvI n=.d (.k (.int .i64 n)):=rfl
def truth (b:Bool):Int:=if b then 1 else 0
theorem mean_truth (b:Bool):AFun prog 198 [.d (.k (.bool b))] (lvI (truth b)):=by
 refine AFun.body cx0_ok func198 rfl call198 (by rw [ntmps198];simp) rfl fun hf H=>?_
 cases b <;> simp [ntmps198,results198,truth]
theorem mean_value1 (r:Rec) (o op n:Int) (k:DV):AFun prog 192 [lv (rRec r),lvI o,.ip [.d (dI op),.d (dI n),.d k] 0] (lvI n):=by
 refine AFun.body (cxK_ok (p:=kds [3] [] [])) func192 rfl call192 (by rw [ntmps192];simp) rfl fun hf H=>?_
 simp [ntmps192,results192,rRec]
theorem mean_value2 (r:Rec) (o:Int):AFun prog 193 [lv (rRec r),lvI o] (lvI r.at_):=by
 refine AFun.body (cxK_ok (p:=kds [2] [] [])) func193 rfl call193 (by rw [ntmps193];simp) rfl fun hf H=>?_
 simp [ntmps193,results193,rRec]
theorem mean_value3 (r:Rec) (o:Int):AFun prog 194 [lv (rRec r),lvI o] (lvI r.key):=by
 refine AFun.body (cxK_ok (p:=kds [2] [] [])) func194 rfl call194 (by rw [ntmps194];simp) rfl fun hf H=>?_
 simp [ntmps194,results194,rRec]
theorem mean_value4 (r:Rec) (o:Int):AFun prog 195 [lv (rRec r),lvI o] (lvI r.val):=by
 refine AFun.body (cxK_ok (p:=kds [2] [] [])) func195 rfl call195 (by rw [ntmps195];simp) rfl fun hf H=>?_
 simp [ntmps195,results195,rRec]
theorem mean_value5 (r:Rec) (o:Int):AFun prog 196 [lv (rRec r),lvI o] (lvI o):=by
 refine AFun.body (cxK_ok (p:=kds [2] [] [])) func196 rfl call196 (by rw [ntmps196];simp) rfl fun hf H=>?_
 simp [ntmps196,results196,rRec]
def opM (op a b:Int):Int:=if op=6 then clampM (a+b) else if op=7 then clampM (a - b) else if op=8 then clampM (a * b) else if op=9 then truth (decide (a < b)) else truth (a == b)
theorem mul_small {a b:Int} (h1:-1000000000<=a/\a<=1000000000) (h2:-1000000000<=b/\b<=1000000000):-1000000000000000000<=a * b/\a * b<=1000000000000000000:=by
 have h3:(a * b).natAbs<=1000000000 * 1000000000:=by
  rw [Int.natAbs_mul];exact Nat.mul_le_mul (by omega) (by omega)
 omega
theorem mean_value6 (r:Rec) (o op n a b:Int) (k:DV) (f1 f2:FuncId) (c1 c2:List LV) (ha:-1000000000<=a/\a<=1000000000) (hb:-1000000000<=b/\b<=1000000000)
  (h1:AFun prog f1 ([lv (rRec r),lvI o] ++ c1) (lvI a)) (h2:AFun prog f2 ([lv (rRec r),lvI o] ++ c2) (lvI b)) (hc1:∀ n,nbs n c1) (hc2:∀ n,nbs n c2) :
  AFun prog 197 [lv (rRec r),lvI o,.ip [.fn (.func f1) [] c1] 0,.ip [.fn (.func f2) [] c2] 0,.ip [.d (dI op),.d (dI n),.d k] 0] (lvI (opM op a b)):=by
 refine AFun.body (cxK_ok (p:=kds [5] [] [])) func197 rfl call197 (by rw [ntmps197];simp) rfl fun hf H=>?_
 have hm:=mul_small ha hb
 have w1:IntKind.wrap .i64 (a+b)=a+b:=by rw [wrap64] <;> omega
 have w2:IntKind.wrap .i64 (a - b)=a - b:=by rw [wrap64] <;> omega
 have w3:IntKind.wrap .i64 (a * b)=a * b:=by rw [wrap64] <;> omega
 simp [ntmps197,results197,rRec] at h1 h2 |-
 refine AW.draw (cxK_ok (p:=kds [5] [] [])) [(3,.n),(7,.n)] (.q 2<|.q 6<|.q 0<|.q 1<|.q 3<|.q 4<|.q 5<|.q 7<|.q 8<|.q 9<|.done) (by kernel_rfl) ?_
 simp
 refine ⟨hc1 _,FC.afun h1 ?_⟩
 simp
 refine ⟨hc2 _,FC.afun h2 ?_⟩
 simp [w1,w2,w3]
 refine ⟨fun e=>?_,fun e6=>⟨fun e=>?_,fun e7=>⟨fun e=>?_,fun e8=>⟨fun e=>?_,fun e9=>?_⟩⟩⟩⟩
 ·refine EC.afun (mean_clamp _) ?_
  simp [opM,e]
 ·refine EC.afun (mean_clamp _) ?_
  simp [opM,e]
 ·refine EC.afun (mean_clamp _) ?_
  simp [opM,e]
 ·refine EC.afun (mean_truth _) ?_
  simp [opM,e]
 ·refine EC.afun (mean_truth _) ?_
  simp [opM,e6,e7,e8,e9]
inductive VOk:Calc->Prop
 | leaf (op n:Int) (kids:List Calc) (h:1<=op/\op<=5) (hn:-1000000000<=n/\n<=1000000000):VOk (.mk op n kids)
 | node (op n:Int) (a b:Calc) (h:6<=op) (ha:VOk a) (hb:VOk b):VOk (.mk op n [a,b])
mutual
def vClos:Calc->FuncId × List LV
 | .mk op n kids =>
  let me:LV:=.ip [.d (dI op),.d (dI n),.d (.sl (rCalcs kids))] 0
  if op=1 then (192,[me]) else if op=2 then (193,[]) else if op=3 then (194,[]) else if op=4 then (195,[]) else if op=5 then (196,[])
  else (197,vCloss kids ++ [me])
def vCloss:List Calc->List LV
 | []=>[]
 | c :: cs=>.ip [.fn (.func (vClos c).1) [] (vClos c).2] 0 :: vCloss cs
end
mutual
def cVal (r:Rec) (o:Int):Calc->Int
 | .mk op n kids=>if op=1 then n else if op=2 then r.at_ else if op=3 then r.key else if op=4 then r.val else if op=5 then o else opM op ((cVals r o kids).getD 0 0) ((cVals r o kids).getD 1 0)
def cVals (r:Rec) (o:Int):List Calc->List Int
 | []=>[]
 | c :: cs=>cVal r o c :: cVals r o cs
end
def inMost (n:Int):Prop:=-1000000000<=n/\n<=1000000000
def recIn (r:Rec):Prop:=inMost r.at_/\inMost r.key/\inMost r.val
theorem clampM_in (n:Int):inMost (clampM n):=by
 unfold inMost clampM minI maxI;split <;> split <;> omega
theorem truth_in (b:Bool):inMost (truth b):=by cases b <;> simp [truth,inMost]
theorem opM_in (op a b:Int):inMost (opM op a b):=by
 unfold opM
 split
 ·exact clampM_in _
 ·split
  ·exact clampM_in _
  ·split
   ·exact clampM_in _
   ·split <;> exact truth_in _
theorem cVal_in {r:Rec} {o:Int} (hr:recIn r) (ho:inMost o) {c:Calc} (h:VOk c):inMost (cVal r o c):=by
 cases h with
 | leaf op n kids h hn =>
  rw [cVal]
  by_cases e1:op=1
  ·rw [if_pos e1];exact hn
  rw [if_neg e1]
  by_cases e2:op=2
  ·rw [if_pos e2];exact hr.1
  rw [if_neg e2]
  by_cases e3:op=3
  ·rw [if_pos e3];exact hr.2.1
  rw [if_neg e3]
  by_cases e4:op=4
  ·rw [if_pos e4];exact hr.2.2
  rw [if_neg e4,if_pos (by omega)]
  exact ho
 | node op n a b h ha hb =>
  rw [cVal,if_neg (by omega),if_neg (by omega),if_neg (by omega),if_neg (by omega),if_neg (by omega)]
  exact opM_in _ _ _
theorem vClos_nb {c:Calc} (h:VOk c):∀ m,nbs m (vClos c).2:=by
 induction h with
 | leaf op n kids h hn =>
  intro m
  rw [vClos]
  split
  ·simp [nbs,LV.nb]
  ·split
   ·simp [nbs]
   ·split
    ·simp [nbs]
    ·split
     ·simp [nbs]
     ·rw [if_pos (by omega)];simp [nbs]
 | node op n a b h ha hb iha ihb =>
  intro m
  rw [vClos]
  rw [if_neg (by omega),if_neg (by omega),if_neg (by omega),if_neg (by omega),if_neg (by omega)]
  simp [vCloss,nbs,LV.nb,iha m,ihb m]
theorem vClos_noLp {c:Calc} (h:VOk c):noLps (vClos c).2=true:=by
 induction h with
 | leaf op n kids h hn =>
  rw [vClos]
  split
  ·simp [noLps,LV.noLp]
  ·split
   ·simp [noLps]
   ·split
    ·simp [noLps]
    ·split
     ·simp [noLps]
     ·rw [if_pos (by omega)];simp [noLps]
 | node op n a b h ha hb iha ihb =>
  rw [vClos]
  rw [if_neg (by omega),if_neg (by omega),if_neg (by omega),if_neg (by omega),if_neg (by omega)]
  simp [vCloss,noLps,LV.noLp,iha,ihb]
theorem vClos_val {r:Rec} {o:Int} (hr:recIn r) (ho:inMost o) {c:Calc} (h:VOk c):AFun prog (vClos c).1 ([lv (rRec r),lvI o] ++ (vClos c).2) (lvI (cVal r o c)):=by
 induction h with
 | leaf op n kids h hn =>
  rw [vClos,cVal]
  by_cases e1:op=1
  ·rw [if_pos e1,if_pos e1];exact mean_value1 r o op n _
  rw [if_neg e1,if_neg e1]
  by_cases e2:op=2
  ·rw [if_pos e2,if_pos e2];exact mean_value2 r o
  rw [if_neg e2,if_neg e2]
  by_cases e3:op=3
  ·rw [if_pos e3,if_pos e3];exact mean_value3 r o
  rw [if_neg e3,if_neg e3]
  by_cases e4:op=4
  ·rw [if_pos e4,if_pos e4];exact mean_value4 r o
  rw [if_neg e4,if_neg e4,if_pos (by omega),if_pos (by omega)]
  exact mean_value5 r o
 | node op n a b h ha hb iha ihb =>
  rw [vClos,cVal]
  rw [if_neg (by omega),if_neg (by omega),if_neg (by omega),if_neg (by omega),if_neg (by omega),if_neg (by omega),if_neg (by omega),if_neg (by omega),if_neg (by omega),if_neg (by omega)]
  exact mean_value6 r o op n _ _ _ _ _ _ _ (cVal_in hr ho ha) (cVal_in hr ho hb) iha ihb (vClos_nb ha) (vClos_nb hb)
def vFn (c:Calc):LV:=.fn (.func (vClos c).1) [] (vClos c).2
theorem vFn_nb {c:Calc} (h:VOk c) (m:Nat):(vFn c).nb m:=by
 simp [vFn,LV.nb,nbs,vClos_nb h m]
theorem mean_valueOf {c:Calc} (h:VOk c):AFun prog 144 [lv (rCalc c)] (vFn c):=by
 induction h with
 | leaf op n kids h hn =>
  refine AFun.body (cxK_ok (p:=kds [1,3,4] [] [])) func144 rfl call144 (by rw [ntmps144];simp) rfl fun hf H=>?_
  have hnb:=vFn_nb (VOk.leaf op n kids h hn) H.next
  simp [ntmps144,results144,rCalc_eq,Calc.op,Calc.n,Calc.kids,hnb]
  refine ⟨fun e=>by simp [vFn,vClos,e,rCalcs_map],fun e1=>⟨fun e=>by simp [vFn,vClos,e],fun e2=>⟨fun e=>by simp [vFn,vClos,e],fun e3=>⟨fun e=>by simp [vFn,vClos,e],fun e4=>⟨fun e=>by simp [vFn,vClos,e],fun e5=>by omega⟩⟩⟩⟩⟩
 | node op n a b h ha hb iha ihb =>
  refine AFun.body (cxK_ok (p:=kds [1,3,4] [] [])) func144 rfl call144 (by rw [ntmps144];simp) rfl fun hf H=>?_
  have hnb:=vFn_nb (VOk.node op n a b h ha hb) H.next
  have n1:op ≠ 1:=by omega
  have n2:op ≠ 2:=by omega
  have n3:op ≠ 3:=by omega
  have n4:op ≠ 4:=by omega
  have n5:op ≠ 5:=by omega
  simp [ntmps144,results144,rCalc_eq,n1,n2,n3,n4,n5]
  rw [rCalc_eq] at iha ihb
  refine AW.draw (cxK_ok (p:=kds [1,3,4] [] [])) [(1,.n),(3,.n),(4,.n),(6,.n),(8,.n),(9,.n)] (.q 0<|.q 1<|.q 2<|.q 3<|.q 4<|.q 5<|.q 6<|.q 7<|.q 8<|.q 9<|.f (.cons 10 (.f<|.one 11<|.f<|.one 12<|.f<|.one 13<|.done) (.cons 11 (.f<|.one 10<|.f<|.one 12<|.f<|.one 13<|.done) (.nil)))) (by kernel_rfl) ?_
  simp [rCalc_eq]
  refine FC.afun (by simpa using iha) ?_
  simp [rCalc_eq]
  refine FC.afun (by simpa using ihb) ?_
  simp [rCalc_eq,vFn,vClos_noLp ha,vClos_noLp hb,subs_noLps _ (vClos_noLp ha),subs_noLps _ (vClos_noLp hb)]
  have hv:vClos (.mk op n [a,b])=(197,[.ip [vFn a] 0,.ip [vFn b] 0,.ip [.d (dI op),.d (dI n),.d (.sl [rCalc a,rCalc b])] 0]):=by
   rw [vClos,if_neg n1,if_neg n2,if_neg n3,if_neg n4,if_neg n5];simp [vCloss,vFn,rCalcs]
  refine ⟨?_,vClos_nb (VOk.node op n a b h ha hb) _⟩
  rw [hv]
  simp [vFn,rCalc_eq]
end Go.Aft
end
section
set_option maxRecDepth 20000
namespace Go.Aft
open Go.Proofs.Tryz
theorem clampM_eq {n:Int} (h:n=clampM n):inMost n:=h ▸ clampM_in n
mutual
theorem mFormed_ok:∀ (c:Calc) (depth left:Int),0<=mFormed c depth left->VOk c
 | .mk op n kids,depth,left,h=>by
  have ih:=mFormedL_ok kids depth (left - 1)
  rw [mFormed] at h
  split at h
  ·omega
  ·rename_i h1
   by_cases h6:6<=op
   ·rw [if_pos h6] at h
    split at h
    ·omega
    ·rename_i h2
     have hl:kids.length=2:=by omega
     match kids,hl with
     | [a,b],_=>exact .node op n a b h6 (ih h a (by simp)) (ih h b (by simp))
   ·rw [if_neg h6] at h
    split at h
    ·omega
    ·rename_i h2
     exact .leaf op n kids (by omega) (clampM_eq (by omega))
theorem mFormedL_ok:∀ (l:List Calc) (depth left:Int),0<=mFormedL l depth left->∀ c ∈ l,VOk c
 | [],_,_,_,c,hc=>by cases hc
 | k :: ks,depth,left,h,c,hc=>by
  rw [mFormedL] at h
  split at h
  ·omega
  ·rcases List.mem_cons.1 hc with e | hc
   ·rw [e];exact mFormed_ok k (depth+1) left (by omega)
   ·exact mFormedL_ok ks _ _ h c hc
end
def mAsk (c:Calc) (r:Rec) (o:Int):Prop:=0<=mFormed c 1 60/\0<=r.at_/\r.at_<=200/\r.key=clampM r.key/\r.val=clampM r.val/\o=clampM o
instance (c:Calc) (r:Rec) (o:Int):Decidable (mAsk c r o):=by unfold mAsk;infer_instance
theorem mean_Calc (c:Calc) (r:Rec) (o:Int):AFun prog 91 [lv (rCalc c),lv (rRec r),lvI o] (if mAsk c r o then .tup [lvI (cVal r o c),lvI 0] else .tup [lvI 0,lvI 2]):=by
 refine AFun.body (cxK_ok (p:=kds [3,4] [] [])) func91 rfl call91 (by rw [ntmps91];simp) rfl fun hf H=>?_
 simp [ntmps91,results91,rRec,rCalc_eq]
 refine AW.draw (cxK_ok (p:=kds [3,4] [] [])) [(1,.n),(18,.n),(26,.n),(32,.n)] (.q 0<|.q 1<|.q 2<|.q 3<|.q 4<|.q 5<|.q 6<|.q 7<|.q 8<|.q 9<|.q 10<|.q 11<|.q 12<|.q 13<|.q 14<|.q 16<|.q 15<|.q 17<|.q 18<|.q 19<|.q 20<|.q 21<|.q 22<|.q 24<|.q 23<|.q 25<|.q 26<|.q 27<|.q 28<|.q 29<|.q 30<|.q 31<|.q 32<|.q 33<|.q 34<|.done) (by kernel_rfl) ?_
 simp
 refine FC.afun (by simpa [rCalc_eq] using mean_formed c 1 60 (by omega) (by omega)) ?_
 simp
 refine FCg.afun (fun _=>mean_clamp _) ?_
 simp
 refine FCg.afun (fun _=>mean_clamp _) ?_
 simp
 refine FCg.afun (fun _=>mean_clamp _) ?_
 simp
 refine ⟨fun h=>?_,fun h1 h2 h3 h4 h5 h6=>?_⟩
 ·have hn:¬ mAsk c r o:=by unfold mAsk;omega
  rw [if_neg hn]
  simp [hn]
 ·have ha:mAsk c r o:=⟨h1,h2,h3,h4,h5,h6⟩
  rw [if_pos ha]
  have hok:=mFormed_ok c 1 60 h1
  have hr:recIn r:=⟨⟨by omega,by omega⟩,clampM_eq h4,clampM_eq h5⟩
  have hv:=vClos_val hr (clampM_eq h6) hok
  have hm:=mean_valueOf hok
  simp [rCalc_eq,rRec] at hv hm
  refine AW.draw (cxK_ok (p:=kds [3,4] [] [])) [(1,.n),(4,.n)] (.q 3<|.q 0<|.q 1<|.q 2<|.q 4<|.q 5<|.q 6<|.done) (by kernel_rfl) ?_
  simp
  refine FC.afun hm ?_
  simp [vFn,vClos_nb hok]
  refine FC.afun hv ?_
  simp
end Go.Aft
end
section
set_option maxRecDepth 20000
namespace Go.Aft
open Go.Proofs.Tryz
theorem clamp_same (n:Int):maxI (-1000000000) (minI n 1000000000)=clampM n:=by
 unfold clampM maxI minI;split <;> split <;> (try split) <;> (try split) <;> omega
structure Shape where
 src:Int
 n:Int
 fold:Int
 terms:List Calc
def rShape (s:Shape):List DV:=[dI s.src,dI s.n,dI s.fold,.sl (s.terms.map rCalc)]
@[simp] theorem rShape_len (s:Shape):(rShape s).length=4:=rfl
def failM (r:Rec) (c:Calc):Bool:=!decide (mAsk c r 0) || cVal r 0 c == 0
theorem near_fails (r:Rec) (c:Calc):AFun prog 90 [lv (rCalc c),.ip ((rRec r).map .d) 0] (.d (.k (.bool (failM r c)))):=by
 refine AFun.body (cxK_ok (p:=kds [2] [] [])) func90 rfl call90 (by rw [ntmps90];simp) rfl fun hf H=>?_
 have h:=mean_Calc c r 0
 simp [rCalc_eq,rRec] at h
 simp [ntmps90,results90,rCalc_eq,rRec]
 refine EC.afun h ?_
 by_cases ha:mAsk c r 0
 ·simp [ha,failM]
 ·simp [ha,failM]
def idxF {α:Type} (p:α->Bool) (l:List α):Int:=match l.findIdx? p with | some i=>i | none=>-1
theorem idxF_at {α:Type} {p:α->Bool} {l:List α} {i:Nat} (h:i < l.length) (e:p l[i]=true) (hlt:∀ (j:Nat) (h:j < l.length),j < i->p l[j]=false):idxF p l=i:=by
 unfold idxF
 have:l.findIdx? p=some i:=by
  rw [List.findIdx?_eq_some_iff_getElem]
  exact ⟨h,e,fun j hj=>by simpa using hlt j (by omega) hj⟩
 rw [this]
theorem idxF_none {α:Type} {p:α->Bool} {l:List α} (hlt:∀ (j:Nat) (h:j < l.length),p l[j]=false):idxF p l = -1:=by
 unfold idxF
 have:l.findIdx? p=none:=by
  rw [List.findIdx?_eq_none_iff]
  intro x hx
  obtain ⟨j,hj,rfl⟩:=List.mem_iff_getElem.1 hx
  exact hlt j hj
 rw [this]
theorem idxF_any {α:Type} (p:α->Bool) (l:List α):decide (0<=idxF p l)=l.any p:=by
 unfold idxF
 cases h:l.findIdx? p with
 | none =>
  rw [List.findIdx?_eq_none_iff] at h
  simp only [Int.reduceNeg,Int.reduceLE,decide_false]
  symm;rw [List.any_eq_false];intro x hx;rw [h x hx];simp
 | some i =>
  rw [List.findIdx?_eq_some_iff_getElem] at h
  obtain ⟨h1,h2,_⟩:=h
  have:l.any p=true:=List.any_eq_true.2 ⟨_,List.getElem_mem h1,h2⟩
  rw [this];simp
theorem slices_IndexFunc (l:List Calc) (p:Calc->Bool) (f:FuncId) (cap:List LV) (hc:∀ n,nbs n cap) (h:∀ c ∈ l,AFun prog f ([lv (rCalc c)] ++ cap) (.d (.k (.bool (p c))))):AFun prog 141 [sl (l.map rCalc),.fn (.func f) [] cap] (lvI (idxF p l)):=by
 refine AFun.body cx0_ok func141 rfl call141 (by rw [ntmps141];simp) rfl fun hf H=>?_
 simp [ntmps141,results141] at hf |-
 refine AW.loopS cx0_ok (fun i:Nat=>⟨[(0,.d (.sl (l.map rCalc))),(1,.fn (.func f) [] cap),(7,lvI l.length),(8,lvI i)],[],H⟩) (fun i=>l.length - i) (fun i=>i<=l.length/\∀ j (h:j < l.length),j < i->p l[j]=false) 0 (by simp [nbs_only _ (hc 0)]) fun i hi=>?_
 simp
 refine ⟨fun q=>?_,fun q=>?_⟩
 ·have hh:=h l[i] (List.getElem_mem q)
  simp [q,wrap_succ q hf.1.1,hc,rCalc_eq] at hh |-
  refine EC.afun hh ?_
  simp [wrap_succ q hf.1.1]
  refine ⟨fun e=>(idxF_at q e hi.2).symm,fun e=>NX.go (i+1) (by omega) ⟨q,fun j hj hji=>?_⟩ (by simp [nbs_only _ (hc 0)])⟩
  by_cases z:j=i
  ·subst z;exact e
  ·exact hi.2 j hj (by omega)
 ·exact (idxF_none fun j hj=>hi.2 j hj (by omega)).symm
end Go.Aft
end
section
set_option maxRecDepth 20000
namespace Go.Aft
open Go.Proofs.Tryz
theorem slices_ContainsFunc (l:List Calc) (p:Calc->Bool) (f:FuncId) (cap:List LV) (hc:∀ n,nbs n cap) (h:∀ c ∈ l,AFun prog f ([lv (rCalc c)] ++ cap) (.d (.k (.bool (p c))))):AFun prog 89 [sl (l.map rCalc),.fn (.func f) [] cap] (.d (.k (.bool (l.any p)))):=by
 refine AFun.body cx0_ok func89 rfl call89 (by rw [ntmps89];simp) rfl fun hf H=>?_
 have hi:=slices_IndexFunc l p f cap hc h
 simp at hi
 simp [ntmps89,results89,LV.nb,hc]
 refine EC.afun hi ?_
 rw [<- idxF_any p l]
 simp
def passM (s:Shape) (r:Rec):Bool:=!s.terms.any (failM r)
theorem near_passes (s:Shape) (r:Rec):AFun prog 53 [lv (rShape s),lv (rRec r)] (.d (.k (.bool (passM s r)))):=by
 refine AFun.body (cxK_ok (p:=kds [2,3] [] [])) func53 rfl call53 (by rw [ntmps53];simp) rfl fun hf H=>?_
 have hi:=slices_ContainsFunc s.terms (failM r) 90 [.ip ((rRec r).map .d) 0] (by simp [nbs,LV.nb]) fun c _=>near_fails r c
 simp [rRec] at hi
 simp [ntmps53,results53,rShape,rRec]
 refine EC.afun hi ?_
 simp [passM]
end Go.Aft
end
section
set_option maxRecDepth 20000
namespace Go.Aft
open Go.Proofs.Tryz
mutual
def strip:Exp->List Calc × Exp
 | .mk op name n fold calcs kids=>if op=5 then (calcs.headD default :: (stripL kids).1,(stripL kids).2) else ([],.mk op name n fold calcs kids)
def stripL:List Exp->List Calc × Exp
 | []=>([],default)
 | e :: _=>strip e
end
inductive WOk:Nat->Exp->Prop
 | other (d:Nat) (e:Exp) (h:e.op ≠ 5):WOk d e
 | where_ (d:Nat) (name:Str) (n fold:Int) (c:Calc) (cs:List Calc) (k:Exp) (ks:List Exp) (h:WOk d k):WOk (d+1) (.mk 5 name n fold (c :: cs) (k :: ks))
def shape0:Shape:=⟨0,0,0,[]⟩
def plainOf (p:Prog) (e:Exp):Shape × Bool :=
 if e.op ≠ 8 then (shape0,false)
 else if (stripL e.kids).2.op ≠ 1 then (shape0,false)
 else (⟨idx p.srcs (stripL e.kids).2.name,e.n,e.fold,(stripL e.kids).1⟩,true)
theorem ref17_plainOf (p:Prog) (d:Nat) (hd:d < p.defs.length) (h8:p.defs[d].exp.op=8->∃ k ks,p.defs[d].exp.kids=k :: ks/\WOk 1000 k) :
  AFun prog 50 [lv (rProg p),lvI d] (.tup [lv (rShape (plainOf p p.defs[d].exp).1),.d (.k (.bool (plainOf p p.defs[d].exp).2))]):=by
 refine AFun.body (cxK_ok (p:=kds [2] [] [])) func50 rfl call50 (by rw [ntmps50];simp) rfl fun hf H=>?_
 have hI:=fun s=>ref02_Index p.srcs s
 simp [ntmps50,results50,rProg,rDef,rExp_eq,hd,List.getElem?_eq_getElem hd] at hf hI |-
 generalize p.defs[d].exp=e at h8 |-
 refine ⟨fun h=>?_,fun h=>?_⟩
 ·simp [plainOf,h,shape0,rShape]
 ·obtain ⟨k,ks,hk,hw⟩:=h8 h
  simp [hk,rExp_eq]
  refine AW.loopS (cxK_ok (p:=kds [2] [] [])) (fun a:Nat × Exp × List Calc × LV × GH=>⟨[(2,.ip [.d (.sl (p.srcs.map rS)),.d (.sl (p.defs.map rDef))] 0),(4,.lp 4 0),(6,.lp 6 0),(7,.lp 7 0)],
   [(4,[.d (dI 0),.d (dI 0),.d (dI 0),.d (.k (.slice none 0 0))]),(6,(rExp a.2.1).map .d),(7,[.d (dI 0),.d (dI e.n),.d (dI e.fold),a.2.2.2.1])],a.2.2.2.2⟩) (fun a=>a.1)
   (fun a=>WOk a.1 a.2.1/\a.2.2.1.length+a.1<=1000/\App 135 3 H a.2.2.2.1 (a.2.2.1.map rCalc) a.2.2.2.2/\strip k=(a.2.2.1 ++ (strip a.2.1).1,(strip a.2.1).2)) (1000,k,[],.d (.k (.slice none 0 0)),H) ⟨⟨hw,by simp,.nil,by simp⟩,by simp [rExp_eq]⟩ ?_
  rintro ⟨dd,e',l1,x,H'⟩ ⟨hw',hlen,happ,hst⟩
  simp only at hw' hlen happ hst
  simp [rExp_eq]
  refine ⟨fun h5=>?_,fun h5=>?_⟩
  ·cases hw' with
   | other _ _ hne=>exact absurd h5 hne
   | where_ d' name n fold c cs k' ks' hk' =>
    refine AW.draw (cxK_ok (p:=kds [2] [] [])) [] (.q 0<|.q 2<|.q 1<|.f<|.one 3<|.q 4<|.f<|.one 5<|.q 6<|.f<|.one 7<|.q 8<|.f<|.one 9<|.done) (by kernel_rfl) ?_
    simp [rCalc_eq]
    refine APK.appMap rCalc l1 [c] tyE68 rfl tyE135 (by simp) rCalc_len (x:=x) (by simp) happ (by simp [rCalc_eq,rowsOf]) (by simp) (by simp;omega) (by simp) fun x' H2 happ'=>?_
    simp [happ'.plain.all,happ'.only,rExp_eq]
    refine NX.go (d',k',l1 ++ [c],x',H2) (by simp) ⟨hk',by simp;omega,happ',?_⟩ (by simp [happ'.only,rExp_eq])
    rw [hst];simp [strip,stripL]
  ·have hs':strip e'=([],e'):=by
    obtain ⟨op,name,n,fold,calcs,kids⟩:=e'
    rw [strip,if_neg (by simpa using h5)]
   have hsk:stripL e.kids=(l1,e'):=by rw [hk,stripL,hst,hs'];simp
   have hz:=happ.fz
   refine ⟨fun h1=>?_,fun h1=>?_⟩
   ·simp [plainOf,h,hsk,h1,shape0,rShape]
    exact hz.2
   ·refine EC.afun (hI _) ?_
    simp [plainOf,h,hsk,h1,rShape,happ.plain.all,hz.1]
    exact hz.2
end Go.Aft
end
section
set_option maxRecDepth 20000
namespace Go.Aft
open Go.Proofs.Tryz
theorem Drop_id {H0 H:GH} (h1:H0.next<=H.next) (h2:∀ n,H.next<=n->H.obj n=none) (h3:∀ n o,H.obj n=some o->H0.obj n=some o \/ o.nb H.next):Drop H0 H H :=
 ⟨Nat.le_refl _,h1,fun _ _=>rfl,h2,h3⟩
theorem Drop_set {H0 H:GH} (h:Drop H0 H H) {n:Nat} (hn:n < H.next) {cs:List LV} (hc:nbs H.next cs):Drop H0 (H.set n (.box cs)) (H.set n (.box cs)):=by
 refine ⟨Nat.le_refl _,h.nx0,fun _ _=>rfl,fun m hm=>?_,fun m o ho=>?_⟩
 ·rw [GH.set_obj,if_neg (by have:H.next<=m:=hm;omega)];exact h.none m hm
 ·rw [GH.set_obj] at ho
  split at ho
  ·cases ho;exact .inr hc
  ·exact h.nb m o ho
def notPlain:LV:=.d (.k (.iface 159 (.agg #[])))
theorem near_need (b:Bool) (H:GH):ECall prog 85 [.d (.k (.bool b))] H fun ce H'=>H'=H/\(if b then ∃ v,ce=.ret v else ce=.pan notPlain):=by
 refine ECall.body cx0_ok func85 rfl call85 (by rw [ntmps85];simp) rfl fun hf hw=>?_
 simp [ntmps85,results85,constsOf,notPlain]
 have hd:Drop H H H:=Drop_same (Nat.le_refl _) (fun _ _=>rfl) hw
 exact ⟨fun e=>⟨H,hd,rfl,by simp [e]⟩,fun e=>⟨H,hd,rfl,e⟩⟩
theorem slices_Index (l:List Str) (s:Str):AFun prog 86 [sl (l.map rS),.d (dS s)] (intV .i64 (idx l s)):=by
 refine AFun.body cx0_ok func86 rfl call86 (by rw [ntmps86];simp) rfl fun hf H=>?_
 simp [ntmps86] at hf |-
 refine AW.loopS cx0_ok (fun i:Nat=>⟨[(0,.d (.sl (l.map rS))),(1,.d (.k (.string s))),(7,lvI l.length),(8,lvI i)],[],H⟩) (fun i=>l.length - i) (fun i=>i<=l.length/\∀ j (h:j < l.length),j < i->l[j] ≠ s) 0 (by simp) fun i hi=>?_
 simp
 refine ⟨fun h=>?_,fun h=>?_⟩
 ·simp [h,rS,wrap_succ h hf.1]
  refine ⟨fun e=>(idx_at h e.symm hi.2).symm,fun e=>NX.go (i+1) (by omega) ⟨h,fun j hj hji=>?_⟩ (by simp)⟩
  by_cases q:j=i
  ·subst q;exact fun z=>e z.symm
  ·exact hi.2 j hj (by omega)
 ·exact (idx_none fun j hj=>hi.2 j hj (by omega)).symm
theorem shaped1_ret (n1 n2:Nat) (H:GH) (R:DM->GH->Prop) (h:R .ret H):ADCall prog 84 [.gp n1 0,.gp n2 0] H .ret R:=by
 refine ADCall.of_body cx0_ok func84 rfl call84 rfl rfl rfl (by rw [ntmps84];simp) (by rw [ntmps84];omega) rfl fun hw=>?_
 simp [runX,recV,ntmps84]
 refine EV.sound cx0_ok ?_
 simp [dcallQ,recM]
 exact ⟨H,Drop_same (Nat.le_refl _) (fun _ _=>rfl) hw,h⟩
theorem shaped1_pan (n1 n2:Nat) (c1 c2:List LV) (H:GH) (hne:n1 ≠ n2) (h1:H.obj n1=some (.box c1)) (h2:H.obj n2=some (.box c2)) (hl1:c1.length=4) (hl2:c2.length=1) (R:DM->GH->Prop)
  (h:R (.rec_ notPlain) ((H.set n1 (.box [lvI 0,lvI 0,lvI 0,.d (.k (.slice none 0 0))])).set n2 (.box [lvI 7]))):ADCall prog 84 [.gp n1 0,.gp n2 0] H (.pan notPlain) R:=by
 refine ADCall.of_body cx0_ok func84 rfl call84 rfl rfl rfl (by rw [ntmps84];simp) (by rw [ntmps84];omega) rfl fun hw=>?_
 simp [runX,recV,ntmps84,notPlain]
 refine EV.sound cx0_ok ?_
 obtain ⟨x,rfl⟩:∃ x,c2=[x]:=by
  match c2,hl2 with
  | [x],_=>exact ⟨x,rfl⟩
 have hd:c1.drop 4=[]:=List.drop_eq_nil_of_le (by omega)
 simp [dcallQ,recM,h1,h2,hl1,hd,GH.set,upd_apply,Ne.symm hne]
 have lt:∀ n o,H.obj n=some o->n < H.next:=fun n o ho=>by
  rcases Nat.lt_or_ge n H.next with q | q
  ·exact q
  ·rw [hw n q] at ho;cases ho
 exact ⟨_,Drop_set (Drop_set (Drop_id (Nat.le_refl _) hw fun _ _ q=>.inl q) (lt _ _ h1) (by simp [nbs,LV.nb])) (lt _ _ h2) (by simp [nbs,LV.nb]),h⟩
end Go.Aft
end
section
set_option maxRecDepth 20000
namespace Go.Aft
open Go.Proofs.Tryz
def farI (a b:Int) (great:Bool):Int:=if great=decide (b < a) then a else b
theorem near_far (a b:Int) (great:Bool):AFun prog 156 [lvI a,lvI b,.d (.k (.bool great))] (lvI (farI a b great)):=by
 refine AFun.body cx0_ok func156 rfl call156 (by rw [ntmps156];simp) rfl fun hf H=>?_
 simp [ntmps156,results156,farI]
 exact ⟨fun h h'=>absurd h h',fun h h'=>absurd h' h⟩
theorem near_folds1 (l:List Int):AFun prog 149 [sl (l.map rI)] (lvI l.length):=by
 refine AFun.body cx0_ok func149 rfl call149 (by rw [ntmps149];simp) rfl fun hf H=>?_
 simp [ntmps149,results149]
def sumI (l:List Int):Int:=l.foldl (· + ·) 0
theorem sumI_in {l:List Int} (h:∀ n ∈ l,inMost n):∀ i,i<=l.length->-(1000000000 * (i:Int))<=sumI (l.take i)/\sumI (l.take i)<=1000000000 * (i:Int)
 | 0,_=>by simp [sumI]
 | i+1,hi=>by
  have ih:=sumI_in h i (by omega)
  have:=foldl_take (fun (a b:Int)=>a+b) 0 l i (by omega)
  unfold sumI at ih |-
  rw [this]
  have hm:=h _ (List.getElem_mem (show i < l.length by omega))
  unfold inMost at hm
  omega
theorem near_folds2 (l:List Int) (hl:l.length<=1000000000) (hm:∀ n ∈ l,inMost n):AFun prog 150 [sl (l.map rI)] (lvI (clampM (sumI l))):=by
 refine AFun.body cx0_ok func150 rfl call150 (by rw [ntmps150];simp) rfl fun hf H=>?_
 simp [ntmps150,results150] at hf |-
 refine AW.loopS cx0_ok (fun i:Nat=>⟨[(3,lvI (sumI (l.take i))),(6,.d (.sl (l.map rI))),(7,lvI l.length),(8,lvI i)],[],H⟩) (fun i=>l.length - i) (fun i=>i<=l.length) 0 (by simp [sumI]) fun i hi=>?_
 simp
 refine ⟨fun h=>?_,fun h=>?_⟩
 ·have h1:=sumI_in hm (i+1) (by omega)
  have hg:sumI (l.take (i+1))=sumI (l.take i)+l[i]:=foldl_take (fun (a b:Int)=>a+b) 0 l i h
  rw [hg] at h1
  have hw:IntKind.wrap .i64 (sumI (l.take i)+l[i])=sumI (l.take i)+l[i]:=by rw [wrap64] <;> omega
  simp [h,rI,hw,wrap_succ h hf.1]
  exact NX.go (i+1) (by omega) h (by simp [hg])
 ·have:i=l.length:=by omega
  subst this
  simp [clamp_same]
def MinL (l:List Int):Int:=l.foldl minI (l.headD 0)
theorem slices_Min (l:List Int) (hl:0 < l.length):AFun prog 151 [sl (l.map rI)] (lvI (MinL l)):=by
 refine AFun.body cx0_ok func151 rfl call151 (by rw [ntmps151];simp) rfl fun hf H=>?_
 simp [ntmps151,results151] at hf |-
 have h0:l.headD 0=l[0]:=by cases l with | nil=>simp at hl | cons x xs=>rfl
 refine ⟨by omega,?_⟩
 simp [hl,List.getElem?_eq_getElem hl,rI]
 intro _
 refine AW.loopS cx0_ok (fun i:Nat=>⟨[(0,.d (.sl (l.map rI))),(3,lvI ((l.take i).foldl minI l[0])),(4,lvI i)],[],H⟩) (fun i=>l.length - i) (fun i=>1<=i/\i<=l.length) 1 ⟨⟨by omega,by omega⟩,?_⟩ fun i hi=>?_
 ·have:l.take 1=[l[0]]:=by cases l with | nil=>simp at hl | cons x xs=>rfl
  simp [this,minI]
 ·simp
  refine ⟨fun h=>?_,fun h=>?_⟩
  ·have hg:=foldl_take (fun (a b:Int)=>minI a b) l[0] l i h
   simp [h,rI,wrap_succ h hf.1]
   exact NX.go (i+1) (by omega) ⟨by omega,h⟩ (by simp;exact hg.symm)
  ·have:i=l.length:=by omega
   subst this
   simp
   rw [MinL,h0]
def MaxL (l:List Int):Int:=l.foldl maxI (l.headD 0)
theorem slices_Max (l:List Int) (hl:0 < l.length):AFun prog 152 [sl (l.map rI)] (lvI (MaxL l)):=by
 refine AFun.body cx0_ok func152 rfl call152 (by rw [ntmps152];simp) rfl fun hf H=>?_
 simp [ntmps152,results152] at hf |-
 have h0:l.headD 0=l[0]:=by cases l with | nil=>simp at hl | cons x xs=>rfl
 refine ⟨by omega,?_⟩
 simp [hl,List.getElem?_eq_getElem hl,rI]
 intro _
 refine AW.loopS cx0_ok (fun i:Nat=>⟨[(0,.d (.sl (l.map rI))),(3,lvI ((l.take i).foldl maxI l[0])),(4,lvI i)],[],H⟩) (fun i=>l.length - i) (fun i=>1<=i/\i<=l.length) 1 ⟨⟨by omega,by omega⟩,?_⟩ fun i hi=>?_
 ·have:l.take 1=[l[0]]:=by cases l with | nil=>simp at hl | cons x xs=>rfl
  simp [this,maxI]
 ·simp
  refine ⟨fun h=>?_,fun h=>?_⟩
  ·have hg:=foldl_take (fun (a b:Int)=>maxI a b) l[0] l i h
   simp [h,rI,wrap_succ h hf.1]
   exact NX.go (i+1) (by omega) ⟨by omega,h⟩ (by simp;exact hg.symm)
  ·have:i=l.length:=by omega
   subst this
   simp
   rw [MaxL,h0]
end Go.Aft
end
section
set_option maxRecDepth 20000
namespace Go.Aft
open Go.Proofs.Tryz
def unformed:LV:=.d (.k (.iface 199 (.agg #[])))
theorem term_must (b:Bool) (H:GH):ECall prog 116 [.d (.k (.bool b))] H fun ce H'=>H'=H/\(if b then ∃ v,ce=.ret v else ce=.pan unformed):=by
 refine ECall.body cx0_ok func116 rfl call116 (by rw [ntmps116];simp) rfl fun hf hw=>?_
 simp [ntmps116,results116,constsOf,unformed]
 have hd:Drop H H H:=Drop_same (Nat.le_refl _) (fun _ _=>rfl) hw
 exact ⟨fun e=>⟨H,hd,rfl,by simp [e]⟩,fun e=>⟨H,hd,rfl,e⟩⟩
theorem EC.of {P:Program} {f:FuncId} {args:List LV} {H:GH} {s:S} {dst:Option Nat} {K:KT} {Q:QT} {R:CE->GH->Prop} (h:ECall P f args H R) (hk:∀ v H',R (.ret v) H'->@AP K (({ s with H:=H' }:S).put dst v))
  (hp:∀ x H',R (.pan x) H'->Q.q (.pan x) { s with H:=H' }):@EC P f args H s dst K Q :=
 h.mono fun ce H' hR=>by
  cases ce with
  | ret v=>exact hk v H' hR
  | pan x=>exact hp x H' hR
def scp (c:List LV) (ahead nodes:Int):GO:=.box (c ++ [lvI ahead,lvI nodes])
theorem term_one (n:Nat) (H:GH) (x y z:LV) (ahead nodes depth:Int) (hn:H.obj n=some (scp [x,y,z] ahead nodes)) (hc:nbs H.next [x,y,z]) (h0:0<=nodes) (h1:nodes<=1000000) :
  ECall prog 160 [.gp n 0,lvI depth] H fun ce H'=>H'=H.set n (scp [x,y,z] ahead (nodes+1))/\(if nodes+1<=60/\depth<=10 then ∃ v,ce=.ret v else ce=.pan unformed):=by
 refine ECall.body cx0_ok func160 rfl call160 (by rw [ntmps160];simp) rfl fun hf hw=>?_
 have w1:IntKind.wrap .i64 (nodes+1)=nodes+1:=by rw [wrap64] <;> omega
 have lt:n < H.next:=by
  rcases Nat.lt_or_ge n H.next with q | q
  ·exact q
  ·rw [hw n q] at hn;cases hn
 simp [scp] at hn
 simp [ntmps160,results160,hn,w1,GH.set,upd_apply]
 have hd:=Drop_set (Drop_id (Nat.le_refl _) hw fun _ _ q=>.inl q) lt (cs:=[x,y,z,lvI ahead,lvI (nodes+1)]) (by simp [nbs] at hc |-;simp [hc,LV.nb])
 refine EC.of (term_must _ _) (fun v H' hR=>?_) (fun v H' hR=>?_)
 ·obtain ⟨rfl,hR⟩:=hR
  by_cases hb:nodes+1<=60/\depth<=10
  ·simp
   exact ⟨_,hd,rfl,by simp [hb]⟩
  ·rw [if_neg (by simpa using hb)] at hR;cases hR
 ·obtain ⟨rfl,hR⟩:=hR
  by_cases hb:nodes+1<=60/\depth<=10
  ·rw [if_pos (by simpa using hb)] at hR;obtain ⟨_,e⟩:=hR;cases e
  ·rw [if_neg (by simpa using hb)] at hR;cases hR
   simp [unformed]
   exact ⟨_,hd,rfl,by omega⟩
end Go.Aft
end
