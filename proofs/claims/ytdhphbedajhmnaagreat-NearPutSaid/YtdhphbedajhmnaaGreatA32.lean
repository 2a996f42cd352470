import Derived.Test.YtdhphbedajhmnaaGreatA31
set_option linter.all false
section
set_option maxRecDepth 20000
namespace Go.Aft
open Go.Proofs.Tryz
def firstP (sh:Shape) (key val:Int) (from_:Int):Nat->Option Rec
 | 0=>none
 | m+1=>if passM sh ⟨from_,key,val⟩=true then some ⟨from_,key,val⟩ else firstP sh key val (from_+1) m
def comeS (s:Scene) (r:Rec):Scene:={ s with has:=true,low:=if s.has=true then s.low else r,high:=r }
def comeO (s:Scene):Option Rec->Scene
 | some r=>comeS s r
 | none=>s
def comeM (from_ key:Int) (m:Nat):Scene->Int->Nat->Scene
 | s,_,0=>s
 | s,v,k+1=>comeM from_ key m (comeO s (firstP s.sh key v from_ m)) (v+1) k
theorem scene_come (s:Scene) (n:Nat) (from_ to key:Int) (H:GH) (ho:H.obj n=some (sceneO s)) (h1:-1000<=from_/\from_<=1000) (h2:-1000<=to/\to<=1000) (h3:valB s.room.low=true) (h4:valB s.room.high=true) :
  ECall prog 102 [.gp n 0,lvI from_,lvI to,lvI key] H fun ce H'=>(∃ v,ce=.ret v)/\H'=H.set n (sceneO (comeM from_ key (to - from_+1).toNat s s.room.low (s.room.high - s.room.low+1).toNat)):=by
 have cc:=cxK_ok (p:=kds [] [] [])
 refine ECall.bodyNW (cxK_ok (p:=kds [] [] [])) func102 rfl call102 (by rw [ntmps102];simp) rfl fun hf hw=>?_
 have ln:=hw.lt ho
 simp [ntmps102,results102]
 refine AW.ev cc ?_
 simp [ho,sceneO,rShape,rRoom,rRec,dI]
 simp only [valB,inB,Bool.and_eq_true,decide_eq_true_eq] at h3 h4
 obtain ⟨R,hR⟩:∃ R,comeM from_ key (to - from_+1).toNat s s.room.low (s.room.high - s.room.low+1).toNat=R:=⟨_,rfl⟩
 refine AW.loopS cc (fun a:Int × Scene=>⟨[(0,.gp n 0),(1,lvI from_),(2,lvI to),(3,lvI key),(8,lvI a.1)],[],H.set n (sceneO a.2)⟩) (fun a=>(s.room.high - a.1+1).toNat)
  (fun a=>a.2.sh=s.sh/\a.2.room=s.room/\s.room.low<=a.1/\R=comeM from_ key (to - from_+1).toNat a.2 a.1 (s.room.high - a.1+1).toNat) (s.room.low,s) ⟨⟨rfl,rfl,Int.le_refl _,hR.symm⟩,by simp [GH.set_id ho]⟩ ?_
 rintro ⟨v,sc⟩ ⟨e1,e2,e3,hI⟩
 simp only at e1 e2 e3 hI
 have os:∀ o,(H.set n o).obj n=some o:=fun o=>by rw [GH.set_obj,if_pos rfl]
 simp [os,sceneO,rShape,rRoom,rRec,dI,e2]
 refine ⟨fun h=>?_,fun h=>?_⟩
 ·have hv:(s.room.high - v+1).toNat=(s.room.high - (v+1)+1).toNat+1:=by omega
  have wv:IntKind.wrap .i64 (v+1)=v+1:=by rw [wrap64] <;> omega
  rw [hv,comeM] at hI
  refine AW.loopS cc (fun t:Int=>⟨[(0,.gp n 0),(1,lvI from_),(2,lvI to),(3,lvI key),(8,lvI v),(9,lvI t)],[],H.set n (sceneO sc)⟩) (fun t=>(to - t+1).toNat)
   (fun t=>from_<=t/\t<=1001/\firstP sc.sh key v from_ (to - from_+1).toNat=firstP sc.sh key v t (to - t+1).toNat) from_ ⟨⟨Int.le_refl _,by omega,rfl⟩,by simp [sceneO,rShape,rRoom,rRec,dI,e2]⟩ ?_
  rintro t ⟨t1,t2,t3⟩
  simp
  refine ⟨fun ht=>?_,fun ht=>?_⟩
  ·have hm:(to - t+1).toNat=(to - (t+1)+1).toNat+1:=by omega
   have wt:IntKind.wrap .i64 (t+1)=t+1:=by rw [wrap64] <;> omega
   rw [hm,firstP] at t3
   refine AW.draw cc [(5,.n)] (.q 0<|.q 1<|.q 2<|.q 3<|.q 4<|.q 5<|.q 6<|.done) (by kernel_rfl) ?_
   have hp:=near_passes sc.sh ⟨t,key,v⟩
   simp [rShape,rRec,dI] at hp
   simp [os,sceneO,rShape,rRoom,rRec,dI,e2]
   refine FC.afun hp ?_
   cases hq:passM sc.sh ⟨t,key,v⟩ with
   | false =>
    rw [hq] at t3
    simp
    exact NX.go (t+1) (by simp;omega) ⟨by omega,by omega,by rw [t3];simp⟩ (by simp [wt,sceneO,rShape,rRoom,rRec,dI,e2])
   | true =>
    rw [hq] at t3
    rw [if_pos rfl] at t3
    rw [t3,comeO] at hI
    simp [os]
    refine ⟨fun hh=>?_,fun hh=>?_⟩
    ·refine AW.draw cc [] (.q 0<|.q 1<|.q 3<|.q 4<|.f (.cons 2 (.f<|.one 5<|.q 6<|.q 7<|.f<|.one 8<|.done) (.cons 5 (.q 2<|.q 6<|.q 7<|.f<|.one 8<|.done) (.nil)))) (by kernel_rfl) ?_
     simp [os,GH.set_set]
     exact NX.go (v+1,comeS sc ⟨t,key,v⟩) (by simp;omega) ⟨e1,e2,by simp only;omega,hI⟩ (by simp [wv,comeS,hh,sceneO,rShape,rRoom,rRec,dI,e2])
    ·simp [GH.set_set]
     exact NX.go (v+1,comeS sc ⟨t,key,v⟩) (by simp;omega) ⟨e1,e2,by simp only;omega,hI⟩ (by simp [wv,comeS,hh,sceneO,rShape,rRoom,rRec,dI,e2])
  ·have hz:(to - t+1).toNat=0:=by omega
   rw [hz,firstP] at t3
   rw [t3] at hI
   refine NX.go (v+1,sc) (by simp;omega) ⟨e1,e2,by simp only;omega,hI⟩ (by simp [wv])
 ·have hz:(s.room.high - v+1).toNat=0:=by omega
  rw [hz,comeM] at hI
  intro hz2
  have hd:=hz2.drop (H0:=H) (by rw [GH.set_next];exact Nat.le_refl _)
  rw [hR,hI]
  simpa [sceneO,rShape,rRoom,rRec,dI,e2] using hd
end Go.Aft
end
section
set_option maxRecDepth 20000
namespace Go.Aft
open Go.Proofs.Tryz
def valsC (l:List Int):List LV:=(l ++ List.replicate (66 - l.length) 0).map fun n=>lvI n
def valsO (l:List Int):GO:=.box (lvI l.length :: valsC l)
theorem valsC_len {l:List Int} (h:l.length<=66):(valsC l).length=66:=by simp [valsC];omega
theorem valsC_set {l:List Int} (h:l.length < 66) (n:Int):(valsC l).take l.length ++ lvI n :: (valsC l).drop (l.length+1)=valsC (l ++ [n]):=by
 have e:66 - l.length=(66 - (l ++ [n]).length)+1:=by simp;omega
 simp only [valsC,e,List.replicate_succ,List.map_append,List.map_cons,List.map_nil]
 rw [List.take_append_of_le_length (by simp),List.take_of_length_le (by simp),List.drop_append,List.drop_eq_nil_of_le (by simp)]
 simp
theorem values_put (l news:List Int) (b:Nat) (H:GH) (ho:H.obj b=some (valsO l)) (hl:l.length+news.length<=66) :
  ECall prog 154 [.gp b 0,sl (news.map rI)] H fun ce H'=>(∃ v,ce=.ret v)/\H'=H.set b (valsO (l ++ news)):=by
 have cc:=cxK_ok (p:=kds [] [] [])
 refine ECall.bodyN (cxK_ok (p:=kds [] [] [])) func154 rfl call154 (by rw [ntmps154];simp) rfl fun hf hw=>?_
 have lb:=hw.lt ho
 simp [ntmps154,results154] at hf |-
 refine AW.loopS cc (fun i:Nat=>⟨[(0,.gp b 0),(6,.d (.sl (news.map rI))),(7,lvI news.length),(8,lvI i)],[],H.set b (valsO (l ++ news.take i))⟩) (fun i=>news.length - i) (fun i=>i<=news.length) 0 ⟨by simp,by simp [GH.set_id ho]⟩ ?_
 intro i hi
 have os:∀ o,(H.set b o).obj b=some o:=fun o=>by rw [GH.set_obj,if_pos rfl]
 simp
 refine ⟨fun h=>?_,fun h=>?_⟩
 ·simp [h,List.getElem?_eq_getElem h,rI]
  refine AW.draw cc [] (.q 0<|.q 1<|.q 2<|.q 3<|.q 5<|.q 6<|.q 7<|.q 4<|.q 8<|.f<|.one 9<|.done) (by kernel_rfl) ?_
  have hlen:(l ++ news.take i).length < 66:=by simp;omega
  generalize hL:l ++ news.take i=L at hlen
  have hvl:=valsC_len (l:=L) (by omega)
  have hle:1+L.length<=(valsC L).length:=by omega
  have hst:List.take (1+L.length) (LV.d (DV.k (Value.int IntKind.i64 L.length)) :: valsC L) ++ LV.d (DV.k (Value.int IntKind.i64 news[i])) :: List.drop (1+L.length) (valsC L)=lvI L.length :: valsC (L ++ [news[i]]):=by
   have:=valsC_set hlen news[i]
   rw [show 1+L.length=L.length+1 by omega,List.take_succ_cons,List.cons_append,<- this]
   simp
  simp [os,valsO,hle,hst]
  refine ⟨by omega,?_⟩
  have hw1:=wrap_succ (n:=1000) (show L.length < 1000 by omega)
  have ht:l ++ news.take (i+1)=L ++ [news[i]]:=by
   rw [<- hL,List.append_assoc];congr 1
   rw [List.take_add_one,List.getElem?_eq_getElem h];rfl
  simp [GH.set_set,os,hw1]
  refine NX.go (i+1) (Nat.sub_lt_sub_left h (Nat.lt_succ_self i)) h (by simp [wrap_succ h hf.1,ht,valsO,rI])
 ·have e:i=news.length:=by omega
  subst e
  rw [List.take_length]
  exact fun hz=>hz.drop (by rw [GH.set_next];exact Nat.le_refl _)
theorem chunk_ints:∀ (l:List Int) (tl:List LV),chunk 1 l.length (l.map (fun n=>lvI n) ++ tl)=some (l.map rI)
 | [],tl=>rfl
 | n :: l,tl=>by
  have ih:=chunk_ints l tl
  rw [List.length_cons,List.map_cons,List.cons_append,chunk]
  simp only [List.take_succ_cons,List.take_zero,List.drop_succ_cons,List.drop_zero,ih]
  rfl
@[simp] theorem clOp_x {op:Op}:clOp (some .x) op=.x:=rfl
@[simp] theorem XO0_slice {P:Program} {c:Cx} {dst:Option Nat} {s:S} {o:OT} {K:KT} {Q:QT} {x0:TypeId} {x1:Operand} {x2 x3 x4:Option Operand}:@XO0 P c dst (.slice x0 x1 x2 x3 x4) s o K Q = @RK (opX c.ty c.eqt c.pub s dst (.slice x0 x1 x2 x3 x4)) s dst K:=rfl
end Go.Aft
end
