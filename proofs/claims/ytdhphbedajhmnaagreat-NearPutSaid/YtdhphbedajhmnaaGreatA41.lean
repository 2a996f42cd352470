import Derived.Test.YtdhphbedajhmnaaGreatA40
set_option linter.all false
section
set_option maxRecDepth 20000
namespace Go.Aft
open Go.Proofs.Tryz
theorem ref05_Good (n:News) (srcs:Int) (hs:0<=srcs/\srcs<=4):AFun prog 204 [lv (rNews n),lvI srcs] (.d (.k (.bool (goodB n srcs)))):=by
 have cc:=cxS_ok (p:=kds [2] [] [])
 refine AFun.bodyW (cxS_ok (p:=kds [2] [] [])) func204 rfl call204 (by rw [ntmps204];simp) rfl fun hf H=>?_
 have hr:=ref05_Rec n.rec_
 simp [rRec] at hr
 have w:IntKind.wrap .i64 (srcs - 1)=srcs - 1:=by rw [wrap64] <;> omega
 simp [ntmps204,results204,rNews,rRec] at hf |-
 refine AW.seq cc ?_
 simp
 refine AW.seq cc ?_
 simp [w]
 refine EC.afun (ref05_in _ _ _) ?_
 cases h1:inB n.src 0 (srcs - 1) with
 | false=>simp [goodB,h1]
 | true =>
  simp
  refine AW.seq cc ?_
  simp
  refine ⟨fun e1=>?_,fun e1=>?_⟩
  ·refine EC.afun (ref05_in _ _ _) ?_
   cases h2:inB n.id 0 999 with
   | false=>simp [goodB,h1,e1,saidB,h2]
   | true =>
    simp
    refine EC.afun (ref05_in _ _ _) ?_
    cases h3:inB n.ver 1 99 with
    | false=>simp [goodB,h1,e1,saidB,h2,h3]
    | true =>
     simp
     refine EC.afun hr ?_
     simp [goodB,h1,e1,saidB,h2,h3]
  ·refine ⟨fun e2=>?_,fun e2=>?_⟩
   ·have hz:(n.rec_=zeroRec) ↔ (n.rec_.at_=0/\n.rec_.key=0/\n.rec_.val=0):=by
     obtain ⟨d0,s0,i0,v0,⟨x,y,z⟩⟩:=n
     simp [zeroRec]
    refine EC.afun (ref05_in _ _ _) ?_
    cases h2:inB n.id 0 999 with
    | false=>simp [goodB,h1,e1,e2,saidB,h2]
    | true =>
     simp
     refine EC.afun (ref05_in _ _ _) ?_
     cases h3:inB n.ver 1 99 with
     | false=>simp [goodB,h1,e1,e2,saidB,h2,h3]
     | true =>
      simp [goodB,h1,e1,e2,saidB,h2,h3]
      by_cases q:n.rec_=zeroRec
      ·rw [q];rfl
      ·have q':¬ (n.rec_.at_=0/\n.rec_.key=0/\n.rec_.val=0):=fun h=>q (hz.2 h)
       rw [Bool.eq_iff_iff]
       simp [q]
       exact fun a b c=>q' ⟨a,b,c⟩
   ·refine ⟨fun e3=>⟨fun q1 q2 q3 q4=>⟨⟨⟨q1,q2⟩,q3,q4⟩,EC.afun (ref05_in _ _ _) ?_⟩,fun q=>?_⟩,fun e3=>?_⟩
    ·simp [goodB,h1,e1,e2,e3,markedB,q1,q2,q3,q4]
    ·have hb:(n.id == 0 && n.ver == 0 && (n.rec_.key == 0 && n.rec_.val == 0))=false:=by
      rw [Bool.eq_false_iff];intro h;simp at h;exact q h.1.1 h.1.2 h.2.1 h.2.2
     rw [hb]
     have hm:markedB n=false:=by
      rw [Bool.eq_false_iff];intro h;simp [markedB] at h;exact q h.1.1.1 h.1.1.2 h.1.2.1 h.1.2.2
     simp [goodB,h1,e1,e2,e3,hm]
    ·refine AW.ev cc ?_
     simp [goodB,h1,e1,e2,e3]
theorem ref05_Clashes (a b:News):AFun prog 205 [lv (rNews a),lv (rNews b)] (.d (.k (.bool (clashB a b)))):=by
 have cc:=cxS_ok (p:=kds [2,3] [] [])
 refine AFun.bodyW (cxS_ok (p:=kds [2,3] [] [])) func205 rfl call205 (by rw [ntmps205];simp) rfl fun hf H=>?_
 simp [ntmps205,results205,rNews,rRec] at hf |-
 refine AW.seq cc ?_
 simp
 refine AW.ev cc ?_
 obtain ⟨d0,s0,i0,v0,⟨x,y,z⟩⟩:=a
 obtain ⟨d1,s1,i1,v1,⟨x1,y1,z1⟩⟩:=b
 simp [clashB]
 simp only [bne,Bool.and_assoc]
 rfl
theorem ref05_plain (l:List News) (srcs:Int):AFun prog 157 [sl (l.map rNews),lvI srcs] (.d (.k (.bool (plainB l srcs)))):=by
 have cc:=cxK_ok (p:=kds [] [] [])
 refine AFun.bodyW (cxK_ok (p:=kds [] [] [])) func157 rfl call157 (by rw [ntmps157];simp) rfl fun hf H=>?_
 simp [ntmps157,results157] at hf |-
 refine AW.seq cc ?_
 simp
 refine AW.seq cc ?_
 simp
 refine EC.afun (ref05_in _ _ _) ?_
 cases h1:inB srcs 1 4 with
 | false=>simp [plainB,h1]
 | true =>
  by_cases h2:l.length<=60
  rotate_left
  ·have h2':¬ ((l.length:Int)<=60):=by omega
   simp [h2',plainB,h1,h2]
  ·have h2':((l.length:Int)<=60):=by omega
   simp [h2']
   have hs:0<=srcs/\srcs<=4:=by simp [inB] at h1;omega
   refine ⟨fun q=>absurd h2' (by omega),AW.ev cc ?_⟩
   simp
   refine AW.loopS cc (fun k:Nat=>⟨[(0,.d (.sl (l.map rNews))),(1,lvI srcs),(5,lvI k)],[],H⟩) (fun k=>l.length - k) (fun k=>k<=l.length/\∀ j (h:j < l.length),j < k->goodB l[j] srcs=true) 0 ⟨by simp,by simp⟩ ?_
   rintro k ⟨hk,hI⟩
   simp
   refine ⟨fun h=>?_,fun h=>?_⟩
   ·have hg:=ref05_Good l[k] srcs hs
    simp [rNews,rRec] at hg
    simp [h,List.getElem?_eq_getElem h,rNews,rRec]
    refine EC.afun hg ?_
    simp
    refine ⟨fun e=>?_,fun e=>?_⟩
    ·have:plainB l srcs=false:=by
      rw [plainB]
      have:(l.any fun n=>!goodB n srcs)=true:=List.any_eq_true.2 ⟨l[k],List.getElem_mem h,by simp [e]⟩
      simp [this]
     rw [this]
    ·refine NX.go (k+1) (Nat.sub_lt_sub_left h (Nat.lt_succ_self k)) ⟨h,fun j hj hjk=>?_⟩ (by simp [wrap_succ h hf.1])
     by_cases z:j=k
     ·subst z;exact e
     ·exact hI j hj (by omega)
   ·have:plainB l srcs=true:=by
     have ha:(l.any fun n=>!goodB n srcs)=false:=by
      rw [List.any_eq_false]
      intro n hn
      obtain ⟨j,hj,rfl⟩:=List.mem_iff_getElem.1 hn
      simp [hI j hj (by omega)]
     simp [plainB,h1,h2,ha]
    rw [this]
theorem ref05_clash (l:List News):AFun prog 158 [sl (l.map rNews)] (clashV (clashM l)):=by
 have cc:=cxK_ok (p:=kds [] [] [])
 refine AFun.bodyW (cxK_ok (p:=kds [] [] [])) func158 rfl call158 (by rw [ntmps158];simp) rfl fun hf H=>?_
 simp [ntmps158,results158] at hf |-
 refine AW.seq cc ?_
 simp
 refine AW.ev cc ?_
 simp
 refine AW.loopS cc (fun k:Nat=>⟨[(0,.d (.sl (l.map rNews))),(5,lvI k)],[],H⟩) (fun k=>l.length - k)
  (fun k=>k<=l.length/\∀ j,j < k->clashAt l j=none) 0 ⟨by simp,by simp⟩ ?_
 rintro k ⟨hk,hI⟩
 simp
 refine ⟨fun h=>?_,fun h=>?_⟩
 ·refine AW.loopS cc (fun i:Nat=>⟨[(0,.d (.sl (l.map rNews))),(5,lvI k),(6,lvI i)],[],H⟩) (fun i=>k - i)
    (fun i=>i<=k/\∀ j (hj:j < i) (hjk:j < k),clashB l[j] l[k]=false) 0 ⟨⟨by simp,by simp⟩,by simp⟩ ?_
  rintro i ⟨hi,hJ⟩
  simp
  refine ⟨fun hik=>?_,fun hik=>?_⟩
  ·have hil:i < l.length:=by omega
   have hc:=ref05_Clashes l[i] l[k]
   simp [rNews,rRec] at hc
   refine AW.draw cc [(8,.n)] (.q 0<|.q 1<|.q 2<|.q 4<|.q 5<|.q 6<|.q 3<|.q 7<|.q 8<|.done) (by kernel_rfl) ?_
   simp [h,hil,List.getElem?_eq_getElem h,List.getElem?_eq_getElem hil,rNews,rRec]
   refine FC.afun hc ?_
   simp
   refine ⟨fun e=>?_,fun e=>?_⟩
   ·rw [clashM_some h (fun j hj=>hI j hj) (clashAt_yes h hik e fun j hj=>hJ j hj (by omega))]
    simp [clashV,LV.nb,nbs]
   ·refine NX.go (i+1) (Nat.sub_lt_sub_left hik (Nat.lt_succ_self i)) ⟨hik,fun j hj hjk=>?_⟩ (by simp [wrap_succ hil hf.1])
    by_cases z:j=i
    ·subst z;exact e
    ·exact hJ j (by omega) hjk
  ·have:i=k:=by omega
   subst this
   refine NX.go (i+1) (Nat.sub_lt_sub_left h (Nat.lt_succ_self i)) ⟨h,fun j hj=>?_⟩ (by simp [wrap_succ h hf.1])
   by_cases z:j=i
   ·subst z;exact clashAt_no h fun i hi=>hJ i hi hi
   ·exact hI j (by omega)
 ·have:clashM l=none:=clashM_none fun j hj=>hI j (by omega)
  rw [this];simp [clashV,LV.nb,nbs]
theorem ref05_Formed (l:List News) (srcs:Int):AFun prog 109 [sl (l.map rNews),lvI srcs] (.d (.k (.bool (formedB l srcs)))):=by
 refine AFun.body cx0_ok func109 rfl call109 (by rw [ntmps109];simp) rfl fun hf H=>?_
 have h1:=ref05_plain l srcs
 have h2:=ref05_clash l
 simp at h1 h2
 simp [ntmps109,results109]
 refine EC.afun h1 ?_
 cases hp:plainB l srcs with
 | false=>simp [formedB,hp]
 | true =>
  simp
  refine EC.afun h2 ?_
  cases hc:clashM l with
  | none=>simp [clashV,formedB,hp,hc]
  | some ij=>simp [clashV,formedB,hp,hc]
end Go.Aft
end
section
set_option maxRecDepth 20000
namespace Go.Aft
open Go.Proofs.Tryz
def BestP (l:List News) (src id:Int) (k:Nat) (b:Int):Prop:=b = -1/\lastM (l.take k) src id=none \/ ∃ (j:Nat) (h:j < l.length),b=j/\j < k/\lastM (l.take k) src id=some l[j]
theorem take_succ_get {α:Type} {l:List α} {k:Nat} (h:k < l.length):l.take (k+1)=l.take k ++ [l[k]]:=by
 rw [List.take_succ,List.getElem?_eq_getElem h];rfl
theorem ref05_counts (l:List News) (src id:Int) (H:GH):ECall prog 96 [sl (l.map rNews),lvI src,lvI id] H fun ce H'=>(∃ b,ce=.ret (lvI b)/\BestP l src id l.length b)/\H'=H:=by
 have cc:=cxK_ok (p:=kds [] [] [])
 refine ECall.bodyNW (cxK_ok (p:=kds [] [] [])) func96 rfl call96 (by rw [ntmps96];simp) rfl fun hf hw=>?_
 simp [ntmps96,results96] at hf |-
 refine AW.seq cc ?_
 simp
 refine AW.ev cc ?_
 simp
 refine AW.loopS cc (fun a:Nat × Int=>⟨[(0,.d (.sl (l.map rNews))),(1,lvI src),(2,lvI id),(7,lvI a.2),(8,lvI a.1)],[],H⟩) (fun a=>l.length - a.1)
  (fun a=>a.1<=l.length/\BestP l src id a.1 a.2) (0,-1) ⟨⟨by simp,.inl ⟨rfl,by simp [lastM]⟩⟩,by simp⟩ ?_
 rintro ⟨k,b⟩ ⟨hk,hI⟩
 simp only at hk hI
 simp
 refine ⟨fun h=>?_,fun h=>?_⟩
 ·have hst:lastM (l.take (k+1)) src id=hearL src id (lastM (l.take k) src id) l[k]:=by rw [take_succ_get h,lastM_snoc]
  refine AW.draw cc [] (.q 0<|.q 1<|.q 2<|.q 3<|.q 4<|.q 5<|.q 6<|.q 7<|.q 8<|.q 9<|.q 10<|.q 12<|.q 11<|.q 13<|.q 14<|.q 15<|.q 16<|.q 17<|.q 18<|.q 19<|.q 21<|.q 20<|.q 22<|.q 23<|.q 24<|.q 25<|.q 26<|.q 27<|.q 28<|.q 29<|.q 30<|.q 31<|.q 33<|.q 34<|.q 35<|.q 36<|.q 32<|.q 37<|.q 38<|.q 39<|.q 40<|.done) (by kernel_rfl) ?_
  rcases hI with ⟨rfl,hI⟩ | ⟨j,hj,rfl,hjk,hI⟩
  ·have h0:0 < l.length:=by omega
   simp [h,List.getElem?_eq_getElem h,List.getElem?_eq_getElem h0,rNews,rRec]
   refine ⟨fun e1 e2 e3=>?_,fun q=>?_⟩
   ·refine NX.go (k+1,(k:Int)) (Nat.sub_lt_sub_left h (Nat.lt_succ_self k)) ⟨h,.inr ⟨k,h,rfl,Nat.lt_succ_self k,?_⟩⟩ (by simp [wrap_succ h hf.1])
    rw [hst,hI,hearL,if_pos ⟨e1,e2,e3,fun w hw=>by cases hw⟩]
   ·refine NX.go (k+1,-1) (Nat.sub_lt_sub_left h (Nat.lt_succ_self k)) ⟨h,.inl ⟨rfl,?_⟩⟩ (by simp [wrap_succ h hf.1])
    rw [hst,hI,hearL,if_neg];rintro ⟨a1,a2,a3,_⟩;exact q a1 a2 a3
  ·simp [h,List.getElem?_eq_getElem h,hj,List.getElem?_eq_getElem hj,rNews,rRec]
   refine ⟨fun e1 e2 e3 e4=>?_,fun q=>?_⟩
   ·refine NX.go (k+1,(k:Int)) (Nat.sub_lt_sub_left h (Nat.lt_succ_self k)) ⟨h,.inr ⟨k,h,rfl,Nat.lt_succ_self k,?_⟩⟩ (by simp [wrap_succ h hf.1])
    rw [hst,hI,hearL,if_pos ⟨e1,e2,e3,fun w hw=>by cases hw;omega⟩]
   ·refine NX.go (k+1,(j:Int)) (Nat.sub_lt_sub_left h (Nat.lt_succ_self k)) ⟨h,.inr ⟨j,hj,rfl,by omega,?_⟩⟩ (by simp [wrap_succ h hf.1])
    rw [hst,hI,hearL,if_neg];rintro ⟨a1,a2,a3,a4⟩;have:=a4 _ rfl;have:=q a1 a2 a3;omega
 ·have:k=l.length:=by omega
  subst this
  exact fun hz=>⟨hz.drop (Nat.le_refl _),hI⟩
theorem ref05_one (l:List News) (src id:Int):AFun prog 59 [sl (l.map rNews),lvI src,lvI id] (sl ((oneM l src id).map rEvent)):=by
 intro H
 have cc:=cxK_ok (p:=kds [] [] [])
 refine ECall.bodyNW (cxK_ok (p:=kds [] [] [])) func59 rfl call59 (by rw [ntmps59];simp) rfl fun hf hw=>?_
 simp [ntmps59,results59] at hf |-
 have hc:=ref05_counts l src id H
 simp at hc
 refine AW.seq cc ?_
 simp
 refine AW.seq cc ?_
 simp
 refine EC.of hc (fun v H2 hR=>?_) (fun v H2 hR=>?_)
 rotate_left
 ·obtain ⟨⟨_,q,_⟩,_⟩:=hR;cases q
 obtain ⟨⟨b,e,hb⟩,rfl⟩:=hR
 cases e
 rw [BestP,List.take_length] at hb
 simp
 refine AW.seq cc ?_
 rcases hb with ⟨rfl,hI⟩ | ⟨j,hj,rfl,hjk,hI⟩
 ·cases h0:l[0]? with
  | none =>
   simp [oneM,hI,h0,show (default:DV)=.k undef from rfl,undef]
   exact fun hz=>hz.drop (Nat.le_refl _)
  | some n =>
   simp [oneM,hI,h0,rNews,rRec]
   exact fun hz=>hz.drop (Nat.le_refl _)
 ·simp [oneM,hI,hj,List.getElem?_eq_getElem hj,rNews,rRec]
  refine ⟨fun q hz=>⟨hz.drop (Nat.le_refl _),by omega⟩,fun q=>AW.ev cc ?_⟩
  have hr:List.range' 0 1=[0]:=rfl
  simp [hj,List.getElem?_eq_getElem hj,rNews,rRec,q,hr]
  exact fun hz=>⟨hz.drop (Nat.le_refl _),by simp [oneM,hI,q,rEvent,rRec]⟩
theorem ref05_SameEvents (a b:List Event):AFun prog 60 [sl (a.map rEvent),sl (b.map rEvent)] (.d (.k (.bool (decide (a=b))))):=by
 have cc:=cxS_ok (p:=kds [] [] [])
 refine AFun.bodyW (cxS_ok (p:=kds [] [] [])) func60 rfl call60 (by rw [ntmps60];simp) rfl fun hf H=>?_
 simp [ntmps60,results60] at hf |-
 refine AW.seq cc ?_
 simp
 refine AW.seq cc ?_
 simp
 refine ⟨fun hl=>?_,fun hl=>?_⟩
 ·intro e
  subst e;exact hl rfl
 ·refine AW.ev cc ?_
  simp
  refine AW.loopS cc (fun i:Nat=>⟨[(0,.d (.sl (a.map rEvent))),(1,.d (.sl (b.map rEvent))),(5,lvI i)],[],H⟩) (fun i=>a.length - i) (fun i=>i<=a.length/\a.take i=b.take i) 0 ⟨by simp,by simp⟩ ?_
  rintro i ⟨hi,hI⟩
  simp
  refine ⟨fun h=>?_,fun h=>?_⟩
  ·have h':i < b.length:=by omega
   refine AW.draw cc [] (.q 0<|.q 1<|.q 2<|.q 4<|.q 5<|.q 6<|.q 3<|.q 7<|.q 8<|.done) (by kernel_rfl) ?_
   simp [h,h',List.getElem?_eq_getElem h,List.getElem?_eq_getElem h',rEvent,rRec]
   refine ⟨fun q e=>by subst e;simp at q,fun q1 q2 q3 q4 q5=>?_⟩
   refine NX.go (i+1) (Nat.sub_lt_sub_left h (Nat.lt_succ_self i)) ⟨h,?_⟩ (by simp [wrap_succ h hf.1.1])
   rw [List.take_add_one,List.take_add_one,hI,List.getElem?_eq_getElem h,List.getElem?_eq_getElem h']
   congr 2
   generalize a[i]=x at *
   generalize b[i]=y at *
   obtain ⟨x1,x2,⟨x3,x4,x5⟩⟩:=x
   obtain ⟨y1,y2,⟨y3,y4,y5⟩⟩:=y
   simp only at q1 q2 q3 q4 q5
   subst q1 q2 q3 q4 q5;rfl
  ·have e:i=a.length:=by omega
   subst e
   rw [List.take_length,List.take_of_length_le (by omega)] at hI
   exact hI
def mC (n:Nat) (l:List News):List LV:=(List.range n).map fun j=>lvI (markM l (j:Nat))
theorem mC_keep {n:Nat} {l:List News} {x:News} (h:x.do_ ≠ 3):mC n (l ++ [x])=mC n l:=by
 simp [mC,markM_snoc,hearM,h]
theorem mC_mark {n s:Nat} {l:List News} {x:News} (h:x.do_=3) (hx:x.src=(s:Nat)) (hs:s < n):(mC n l).take s ++ lvI (maxI (markM l (s:Nat)) x.rec_.at_) :: (mC n l).drop (s+1)=mC n (l ++ [x]):=by
 have hl:s < (mC n l).length:=by simp [mC,hs]
 have he:=List.set_eq_take_append_cons_drop (l:=mC n l) (i:=s) (a:=lvI (maxI (markM l (s:Nat)) x.rec_.at_))
 rw [if_pos hl] at he
 rw [<- he]
 refine List.ext_getElem (by simp [mC]) fun i h1 h2=>?_
 have hi:i < n:=by simpa [mC] using h2
 rw [List.getElem_set]
 simp only [mC,List.getElem_map,List.getElem_range,markM_snoc,hearM,h,hx]
 by_cases e:s=i
 ·subst e;simp
 ·have:¬ ((s:Int)=(i:Int)):=by omega
  simp [e,this]
theorem ref05_MarksOf (l:List News) (srcs:Int) (hs:1<=srcs/\srcs<=4) (hg:∀ n ∈ l,goodB n srcs=true):AFun prog 45 [sl (l.map rNews),lvI srcs] (sl (((List.range srcs.toNat).map fun k=>markM l (k:Nat)).map rI)):=by
 intro H
 have cc:=cxK_ok (p:=kds [] [] [])
 refine ECall.bodyNW (cxK_ok (p:=kds [] [] [])) func45 rfl call45 (by rw [ntmps45];simp) rfl fun hf hw=>?_
 simp [ntmps45,results45] at hf |-
 refine AW.seq cc ?_
 simp
 refine AW.seq cc ?_
 simp
 refine ⟨by omega,AW.seq cc ?_⟩
 simp
 obtain ⟨n,hn⟩:∃ n:Nat,srcs.toNat=n:=⟨_,rfl⟩
 rw [hn]
 have hrep:repL n [LV.d (DV.k (Value.int IntKind.i64 0))]=mC n (l.take 0):=by
  simp [repL,mC,markM,List.map_const']
 rw [hrep]
 have hob:∀ o,(H.add o).obj H.next=some o:=fun o=>by simp [GH.add_obj]
 refine AW.ev cc ?_
 simp
 refine AW.loopS cc (fun k:Nat=>⟨[(0,.d (.sl (l.map rNews))),(5,.vs H.next 0 1 0 n),(6,lvI k)],[],H.add (.vec 3 0 1 (mC n (l.take k)) true)⟩) (fun k=>l.length - k) (fun k=>k<=l.length) 0 ⟨by simp,by simp⟩ ?_
 rintro k hk
 simp
 refine ⟨fun h=>?_,fun h=>?_⟩
 ·have hsrc:0<=l[k].src/\l[k].src<=srcs - 1:=by
   have:=hg _ (List.getElem_mem h)
   simp [goodB,inB] at this;exact this.1
  have hsn:l[k].src.toNat < n:=by omega
  simp [h,List.getElem?_eq_getElem h,rNews,rRec]
  refine ⟨fun h3=>?_,fun h3=>?_⟩
  ·refine AW.draw cc [] (.q 0<|.q 1<|.q 2<|.q 3<|.q 4<|.q 6<|.q 7<|.q 8<|.q 9<|.q 10<|.q 14<|.q 15<|.q 16<|.q 17<|.q 18<|.q 5<|.q 11<|.q 12<|.q 13<|.q 19<|.q 20<|.q 21<|.f<|.one 22<|.done) (by kernel_rfl) ?_
   have hmc:∀ hh:l[k].src.toNat < (mC n (l.take k)).length,(mC n (l.take k))[l[k].src.toNat]'hh=lvI (markM (l.take k) l[k].src):=fun h'=>by
    have e:((l[k].src.toNat:Nat):Int)=l[k].src:=by omega
    simp only [mC,List.getElem_map,List.getElem_range,e]
   have hml:(mC n (l.take k)).length=n:=by simp [mC]
   have hsn1:l[k].src.toNat+1<=n:=hsn
   have hst:=mC_mark (n:=n) (l:=l.take k) (x:=l[k]) h3 (show l[k].src=(l[k].src.toNat:Nat) by omega) hsn
   rw [show ((l[k].src.toNat:Nat):Int)=l[k].src by omega] at hst
   simp at hst
   simp [h,List.getElem?_eq_getElem h,rNews,rRec,hob,hsn,hmc,hml,hsn1,hst,GH.add_set]
   exact ⟨by omega,NX.go (k+1) (Nat.sub_lt_sub_left h (Nat.lt_succ_self k)) h (by simp [wrap_succ h hf.1])⟩
  ·have he:mC n (l.take (k+1))=mC n (l.take k):=by rw [take_succ_get h,mC_keep h3]
   refine NX.go (k+1) (Nat.sub_lt_sub_left h (Nat.lt_succ_self k)) h (by simp [wrap_succ h hf.1,he])
 ·have:k=l.length:=by omega
  subst this
  rw [List.take_length]
  have hfl:mC n l=flatD (((List.range n).map fun k=>markM l (k:Nat)).map rI):=by
   have:=flatD_one (fun k:Nat=>DV.k (.int .i64 (markM l (k:Nat)))) (List.range n)
   rw [List.map_map]
   exact this.symm
  refine AW.thaw (n:=H.next) (g:=0) (sz:=1) (e:=3) (ex:=true) (((List.range n).map fun k=>markM l (k:Nat)).map rI) (hob _) hfl (by simp [rI]) ?_
  refine AW.ev cc ?_
  simp
  exact fun hz=>⟨Drop_same (by simp [GH.add_next]) (fun m hm=>thaw_lt hw (Nat.le_refl _) (fun k hk=>by rw [GH.add_obj,if_neg (by omega)]) hm) hw.none,List.take_of_length_le (by simp)⟩
theorem ref05_StepOf (l:List News) (hl:l.length<=1000) (n:News):AFun prog 30 [sl (l.map rNews),lv (rNews n)] (.tup [sl ((stepM l n).1.map rEvent),sl ((stepM l n).2.map rEvent)]):=by
 have cc:=cxK_ok (p:=kds [3] [] [])
 refine AFun.bodyW (cxK_ok (p:=kds [3] [] [])) func30 rfl call30 (by rw [ntmps30];simp) rfl fun hf H=>?_
 have h1:=ref05_one l n.src n.id
 have h2:=ref05_one (l ++ [n]) n.src n.id
 have h3:=ref05_SameEvents (oneM l n.src n.id) (oneM (l ++ [n]) n.src n.id)
 simp [ntmps30,results30,rNews,rRec] at hf |-
 refine AW.seq cc ?_
 simp
 refine AW.seq cc ?_
 simp
 refine ⟨fun e3=>?_,fun e3=>?_⟩
 ·simp [stepM,e3,LV.nb,nbs]
 ·simp at h1
  refine AW.seq cc ?_
  simp
  refine EC.afun h1 ?_
  simp
  refine AW.seq cc ?_
  refine AW.draw cc [(2,.n),(6,.n),(8,.n),(9,.n)] (.q 0<|.q 2<|.q 3<|.q 5<|.q 6<|.q 7<|.q 8<|.f<|.one 1<|.f<|.one 4<|.q 9<|.q 10<|.done) (by kernel_rfl) ?_
  have hr:List.range' 0 1=[0]:=rfl
  simp [hr]
  refine APK.appX tyE35 rfl tyE53 (by simp) (by simp) (.nil) (by simp [rowsOf];rfl) (by simp) (by simp) (fun r hr=>by obtain ⟨_,_,rfl⟩:=List.mem_map.1 hr;rfl) (by simp;omega) (by simp) fun x' H3 h3' _ _=>?_
  simp [h3'.plain.all]
  refine APK.appX tyE35 rfl tyE53 (by simp) (by simp) h3' (by simp [rowsOf];rfl) (by simp) (fun r hr=>by obtain ⟨_,_,rfl⟩:=List.mem_map.1 (by simpa using hr);rfl) (by simp) (by simp;omega) (by simp) fun x2 H4 h4 _ _=>?_
  simp [h4.plain.all]
  refine ⟨h4.nb,FC.afun (AFun.fzA (v:=sl ((oneM (l ++ [n]) n.src n.id).map rEvent)) (by simp only [fzs,h4.fz,List.nil_append];simpa [rNews,rRec] using h2)) ?_⟩
  simp
  refine AW.seq cc ?_
  simp
  simp at h3
  refine EC.afun h3 ?_
  simp
  refine ⟨fun e=>⟨by simp [stepM,e3,e],h4.nx,h4.ob⟩,fun e=>?_⟩
  refine AW.ev cc ?_
  simp
  exact ⟨by simp [stepM,e3,e],h4.nx,h4.ob⟩
def lateR (l:List News):List (List DV):=(lateM l).map fun k=>rI (k:Nat)
theorem ref05_LateOf (l:List News) (srcs:Int) (hs:1<=srcs/\srcs<=4) (hll:l.length<=60) (hg:∀ n ∈ l,goodB n srcs=true):AFun prog 110 [sl (l.map rNews),lvI srcs] (sl (lateR l)):=by
 have cc:=cxK_ok (p:=kds [] [] [])
 refine AFun.bodyW (cxK_ok (p:=kds [] [] [])) func110 rfl call110 (by rw [ntmps110];simp) rfl fun hf H=>?_
 simp [ntmps110,results110] at hf |-
 refine AW.seq cc ?_
 simp
 refine AW.seq cc ?_
 simp
 refine AW.ev cc ?_
 simp
 refine AW.loopS cc (fun a:Nat × LV × GH=>⟨[(0,.d (.sl (l.map rNews))),(1,lvI srcs),(5,a.2.1),(6,lvI a.1)],[],a.2.2⟩) (fun a=>l.length - a.1) (fun a=>a.1<=l.length/\AppX 3 1 H a.2.1 (lateR (l.take a.1)) a.2.2) (0,.d (.k (.slice none 0 0)),H) ⟨⟨by simp,by simpa [lateR,lateM,lateFrom] using AppX.nil⟩,by simp⟩ ?_
 rintro ⟨i,x,H1⟩ ⟨hi,ha⟩
 simp only at hi ha
 simp [ha.plain.all]
 refine ⟨fun h=>?_,fun h=>?_⟩
 rotate_left
 ·have:i=l.length:=by omega
  subst this
  rw [List.take_length] at ha
  exact ⟨ha.fz,ha.nx,ha.ob⟩
 have hst:=ref05_StepOf (l.take i) (by simp;omega) l[i]
 have hmk:=ref05_MarksOf (l.take i) srcs hs (fun n hn=>hg n (List.mem_of_mem_take hn))
 have hsrc:0<=l[i].src/\l[i].src<=srcs - 1:=by
  have:=hg _ (List.getElem_mem h)
  simp [goodB,inB] at this;exact this.1
 have hlm:=lateM_take h
 obtain ⟨n,hn⟩:∃ n,l[i]=n:=⟨_,rfl⟩
 rw [hn] at hst hsrc hlm
 obtain ⟨w,s,hws⟩:∃ w s,stepM (l.take i) n=(w,s):=⟨_,_,rfl⟩
 have hla:lateAt (l.take i) n=(w ++ s).any fun e=>decide (e.rec_.at_ < markM (l.take i) n.src):=by rw [lateAt,hws]
 rw [hws] at hst
 simp [rNews,rRec] at hst
 refine AW.draw cc [(7,.n)] (.q 0<|.q 1<|.q 3<|.q 4<|.q 5<|.q 2<|.q 6<|.q 7<|.q 8<|.q 9<|.q 10<|.q 11<|.q 12<|.done) (by kernel_rfl) ?_
 have hil:i<=l.length:=by omega
 simp [h,hil,List.getElem?_eq_getElem h,hn,rNews,rRec]
 refine FC.afun hst ?_
 simp
 have hw1:w.length<=1/\s.length<=1:=by
  have ho:∀ l a b,(oneM l a b).length<=1:=fun l a b=>by
   unfold oneM;split
   ·split <;> simp
   ·simp
  have:=congrArg Prod.fst hws
  have h2:=congrArg Prod.snd hws
  simp only at this h2
  rw [<- this,<- h2,stepM]
  split
  ·simp
  ·split
   ·simp
   ·exact ⟨ho _ _ _,ho _ _ _⟩
 refine APK.appX tyE59 rfl tyE63 (by simp) (by simp) (.nil) (by simp [rowsOf];rfl) (by simp) (by simp) (fun r hr=>by obtain ⟨_,_,rfl⟩:=List.mem_map.1 hr;rfl) (by simp;omega) (by simp) fun y1 H2 hy1 hn2 ho2=>?_
 simp [hy1.plain.all]
 refine APK.appX tyE59 rfl tyE63 (by simp) (by simp) hy1 (by simp [rowsOf];rfl) (by simp) (fun r hr=>by obtain ⟨_,_,rfl⟩:=List.mem_map.1 (by simpa using hr);rfl) (fun r hr=>by obtain ⟨_,_,rfl⟩:=List.mem_map.1 hr;rfl) (by simp;omega) (by simp) fun y2 H3 hy2 hn3 ho3=>?_
 simp [hy2.plain.all]
 have ha3:AppX 3 1 H x (lateR (l.take i)) H3:=(ha.mono hy2.nx hy2.ob)
 obtain ⟨both,hbo⟩:∃ both,w ++ s=both:=⟨_,rfl⟩
 have hyf:fz y2=sl (both.map rEvent):=by rw [hy2.fz,<- hbo];simp
 have hbl:both.length<=2:=by rw [<- hbo];simp;omega
 rw [hbo] at hla
 refine AW.fzT 9 ?_
 refine AW.loopS cc (fun k:Nat=>⟨[(0,.d (.sl (l.map rNews))),(1,lvI srcs),(5,x),(6,lvI i),(9,.d (.sl (both.map rEvent))),(10,.d (.k (.bool ((both.take k).any fun e=>decide (e.rec_.at_ < markM (l.take i) n.src))))),(11,lvI k)],[],H3⟩) (fun k=>both.length - k) (fun k=>k<=both.length) 0 ⟨by simp,by simp [hyf,ha.only]⟩ ?_
 rintro k hk
 simp [ha.plain.all]
 refine ⟨fun hkb=>?_,fun hkb=>?_⟩
 ·obtain ⟨ms,hms⟩:∃ ms,List.map rI (List.map (fun k:Nat=>markM (l.take i) (k:Nat)) (List.range srcs.toNat))=ms:=⟨_,rfl⟩
  have hsn:n.src.toNat < srcs.toNat:=by omega
  have hmg:ms[n.src.toNat]?=some (rI (markM (l.take i) n.src)):=by
   rw [<- hms]
   have e:((n.src.toNat:Nat):Int)=n.src:=by omega
   simp [hsn,e]
  have hml:ms.length=srcs.toNat:=by rw [<- hms];simp
  rw [hms] at hmk
  simp at hmk
  refine AW.draw cc [(12,.n)] (.q 0<|.q 1<|.q 2<|.q 3<|.q 4<|.q 5<|.q 6<|.q 8<|.q 9<|.q 11<|.q 13<|.q 14<|.q 15<|.q 16<|.q 7<|.q 10<|.q 12<|.q 17<|.q 18<|.q 19<|.q 20<|.q 21<|.q 22<|.done) (by kernel_rfl) ?_
  simp [h,hil,hkb,List.getElem?_eq_getElem h,List.getElem?_eq_getElem hkb,hn,rNews,rRec,rEvent]
  refine FCg.afun (fun _=>hmk) ?_
  simp [h,hil,hkb,List.getElem?_eq_getElem h,List.getElem?_eq_getElem hkb,hn,rNews,rRec,rEvent,hmg,hml,rI]
  have hw2:IntKind.wrap .i64 ((k:Int)+1)=(k:Int)+1:=by rw [wrap64] <;> omega
  have htk:((both.take (k+1)).any fun e=>decide (e.rec_.at_ < markM (l.take i) n.src))=(((both.take k).any fun e=>decide (e.rec_.at_ < markM (l.take i) n.src)) || decide (both[k].rec_.at_ < markM (l.take i) n.src)):=by
   rw [take_succ_get hkb,List.any_append];simp
  refine ⟨fun q=>⟨q,by omega⟩,NX.go (k+1) (Nat.sub_lt_sub_left hkb (Nat.lt_succ_self k)) hkb ?_⟩
  simp [hw2,htk,ha.only]
 ·have:k=both.length:=by omega
  subst this
  rw [List.take_length]
  have hwi:IntKind.wrap .i64 ((i:Int)+1)=(i:Int)+1:=by rw [wrap64] <;> omega
  have hr:List.range' 0 1=[0]:=rfl
  refine ⟨fun e he hlt=>?_,fun hno=>?_⟩
  ·have hlate:lateAt (l.take i) n=true:=by rw [hla];exact List.any_eq_true.2 ⟨e,he,by simpa using hlt⟩
   have hlr:lateR (l.take (i+1))=lateR (l.take i) ++ [rI (i:Nat)]:=by
    rw [lateR,hlm,if_pos hlate,List.map_append];rfl
   have hlen:(lateR (l.take i)).length<=60:=by
    have:=lateFrom_len (l.take i) [] 0
    simp [lateR,lateM] at this |-;omega
   refine APK.appX tyE89 rfl tyE3 (by simp) (by simp) ha3 (by simp [rowsOf];rfl) (by simp) (fun r hr=>by obtain ⟨_,_,rfl⟩:=List.mem_map.1 hr;rfl) (by simp) (by simp;omega) (by simp) fun x2 H4 h4 _ _=>?_
   simp [h4.plain.all]
   refine NX.go (i+1,x2,H4) (Nat.sub_lt_sub_left h (Nat.lt_succ_self i)) ⟨h,?_⟩ (by simp [hwi,h4.only])
   rw [hlr];simpa [rI] using h4
  ·have hlate:lateAt (l.take i) n=false:=by rw [hla,List.any_eq_false];exact fun e he=>by simpa using hno e he
   have hlr:lateR (l.take (i+1))=lateR (l.take i):=by
    rw [lateR,hlm,if_neg (by simp [hlate]),List.append_nil];rfl
   refine NX.go (i+1,x,H3) (Nat.sub_lt_sub_left h (Nat.lt_succ_self i)) ⟨h,?_⟩ (by simp [hwi,ha.only])
   rw [hlr];exact ha3
def keptB (l:List News) (srcs:Int):Bool:=formedB l srcs && decide (lateM l=[])
theorem ref17_Kept (l:List News) (srcs:Int):AFun prog 65 [sl (l.map rNews),lvI srcs] (.d (.k (.bool (keptB l srcs)))):=by
 refine AFun.body cx0_ok func65 rfl call65 (by rw [ntmps65];simp) rfl fun hf H=>?_
 have h1:=ref05_Formed l srcs
 simp at h1
 simp [ntmps65,results65]
 refine EC.afun h1 ?_
 cases hp:formedB l srcs with
 | false=>simp [keptB,hp]
 | true =>
  have hp':=hp
  simp only [formedB,plainB,Bool.and_eq_true,decide_eq_true_eq] at hp'
  have hs:1<=srcs/\srcs<=4:=by have:=hp'.1.1.1;simp [inB] at this;exact this
  have h2:=ref05_LateOf l srcs hs hp'.1.1.2 (formed_good hp)
  simp at h2
  simp
  refine EC.afun h2 ?_
  have:(lateR l).length=(lateM l).length:=by simp [lateR]
  simp [keptB,hp,this]
  cases lateM l <;> simp
  omega
end Go.Aft
end
section
set_option maxRecDepth 20000
namespace Go.Aft
open Go.Proofs.Tryz
def lateOne (src:Int) (room:Room) (n:News):Bool:=decide (n.src=src) && !(decide (n.do_=1) && !inB n.rec_.val room.low room.high)
def manyE (l:List News):Nat:=(l.filter fun n=>decide (n.do_ ≠ 3)).length
def lateNB (l more:List News) (srcs src:Int) (room:Room):Bool:=more.all (lateOne src room) && decide ((manyE more:Int)<=room.most) && keptB (l ++ more) srcs
noncomputable def lateAllB (p:Prog) (l more:List News) (d:Int) (room:Room):Bool:=match plainV p d with
 | .tup [.d (.k (.int _ src)),_,.d (.k (.int _ e))]=>decide (e=0) && lateNB l more p.srcs.length src room
 | _=>false
end Go.Aft
end
section
set_option maxRecDepth 20000
namespace Go.Aft
open Go.Proofs.Tryz
theorem ref17_Room (r:Room):AFun prog 66 [lv (rRoom r)] (.d (.k (.bool (roomB r)))):=by
 have cc:=cxK_ok (p:=kds [1] [] [])
 refine AFun.bodyW (cxK_ok (p:=kds [1] [] [])) func66 rfl call66 (by rw [ntmps66];simp) rfl fun hf H=>?_
 simp [ntmps66,results66,rRoom] at hf |-
 refine AW.seq cc ?_
 simp
 refine AW.ev cc ?_
 simp
 refine EC.afun (ref17_in _ _ _) ?_
 cases h1:inB r.most 0 6 with
 | false=>simp [roomB,h1]
 | true =>
  simp
  refine EC.afun (ref17_in _ _ _) ?_
  cases h2:inB r.low (-1000000000) 1000000000 with
  | false=>simp [roomB,h1,valB,h2]
  | true =>
   simp
   refine EC.afun (ref17_in _ _ _) ?_
   have hl:-1000000000<=r.low/\r.low<=1000000000:=by simp [inB] at h2;exact h2
   cases h3:inB r.high r.low 1000000000 with
   | false =>
    have:roomB r=false:=by
     rw [Bool.eq_false_iff];intro q
     simp [roomB,valB,inB] at q
     have:inB r.high r.low 1000000000=true:=by simp [inB];omega
     rw [this] at h3;cases h3
    simp [this]
   | true =>
    have hh:r.low<=r.high/\r.high<=1000000000:=by simp [inB] at h3;exact h3
    have hw:IntKind.wrap .i64 (r.high - r.low)=r.high - r.low:=by rw [wrap64] <;> omega
    simp [hw]
    have hm:0<=r.most/\r.most<=6:=by simp [inB] at h1;exact h1
    rw [Bool.eq_iff_iff]
    simp [roomB,valB,inB,hw]
    try rw [hw]
    omega
end Go.Aft
end
section
set_option maxRecDepth 20000
namespace Go.Aft
open Go.Proofs.Tryz
noncomputable def askE (p:Prog) (d:Int) (l:List News) (room:Room) (window key:Int):Int :=
 if askedB p d l room key=true then lookE (plainOf p (p.defs.getD d.toNat default).exp) l.length room window else 2
theorem ref17_Asked (p:Prog) (hs:fitP p) (d:Int) (l:List News) (room:Room) (window key:Int) (H:GH) :
  ECall prog 33 [lv (rProg p),lvI d,sl (l.map rNews),lv (rRoom room),lvI window,lvI key] H fun ce H'=>(∃ (x y z m w k:Int) (t:DV),ce=.ret (.tup [.agg [lvI x,lvI y,lvI z,.d t,lvI m,lvI w,lvI k],lvI (askE p d l room window key)]))/\H'=H:=by
 have cc:=cxK_ok (p:=kds [6,9] [] [])
 refine ECall.bodyNW (cxK_ok (p:=kds [6,9] [] [])) func33 rfl call33 (by rw [ntmps33];simp) rfl fun hf hw=>?_
 have hd:=ref02_Def p hs d
 have hk:=ref17_Kept l p.srcs.length
 have hr:=ref17_Room room
 simp [rProg,rRoom] at hd hk hr
 simp [ntmps33,results33,rProg,rRoom] at hf |-
 refine AW.seq cc ?_
 simp
 refine AW.seq cc ?_
 simp
 refine EC.afun hd ?_
 by_cases q:isDefM p d
 rotate_left
 ·have:askE p d l room window key=2:=by rw [askE,if_neg];simp [askedB,q]
  simp [q,this]
  exact fun hz=>hz.drop (Nat.le_refl _)
 ·simp [q]
  refine EC.afun hk ?_
  have hno:∀ b:Bool,askedB p d l room key=b->b=false->askE p d l room window key=2:=fun b h1 h2=>by rw [askE,h1,h2];simp
  have hkk:keptB l p.srcs.length=(formedB l p.srcs.length && decide (lateM l=[])):=rfl
  cases k1:keptB l p.srcs.length with
  | false =>
   have:askE p d l room window key=2:=hno _ rfl (by
    rw [keptB] at k1
    simp only [askedB,q,decide_true,Bool.true_and,k1,Bool.false_and])
   simp [this]
   exact fun hz=>hz.drop (Nat.le_refl _)
  | true =>
   simp
   refine EC.afun hr ?_
   cases k2:roomB room with
   | false =>
    have:askE p d l room window key=2:=hno _ rfl (by simp [askedB,k2])
    simp [this]
    exact fun hz=>hz.drop (Nat.le_refl _)
   | true =>
    simp
    refine EC.afun (ref17_in _ _ _) ?_
    cases k3:inB key (-1000000000) 1000000000 with
    | false =>
     have:askE p d l room window key=2:=hno _ rfl (by simp [askedB,valB,k3])
     simp [this]
     exact fun hz=>hz.drop (Nat.le_refl _)
    | true =>
     simp
     have hq:askedB p d l room key=true:=by
      rw [keptB] at k1
      simp only [askedB,q,decide_true,Bool.true_and,k1,k2,valB,k3]
     have hdl:d.toNat < p.defs.length:=by have:=q.2;omega
     have hgd:p.defs.getD d.toNat default=p.defs[d.toNat]:=by simp [List.getD,List.getElem?_eq_getElem hdl]
     have hE:askE p d l room window key=lookE (plainOf p p.defs[d.toNat].exp) l.length room window:=by rw [askE,if_pos hq,hgd]
     have hs2:=ref17_plainOf p d.toNat hdl fun h8=>by
      obtain ⟨k,hk,hw,_⟩:=formed_fold q.1 hdl h8;exact ⟨k,[],hk,hw⟩
     rw [show ((d.toNat:Nat):Int)=d by have:=q.2;omega] at hs2
     have hpl:=formed_plain q.1 hdl
     simp [rProg,rShape] at hs2
     refine AW.seq cc ?_
     simp
     refine EC.afun hs2 ?_
     rw [hE]
     generalize plainOf p p.defs[d.toNat].exp=y at hpl |-
     obtain ⟨sh,b⟩:=y
     simp
     refine AW.seq cc ?_
     cases b with
     | false =>
      simp [lookE]
      exact fun hz=>hz.drop (Nat.le_refl _)
     | true =>
      have hpl:=hpl rfl
      dsimp only at hpl
      simp
      have hg:=formed_good (l:=l) (srcs:=p.srcs.length) (by rw [keptB] at k1;simp at k1;exact k1.1)
      have hfm:formedB l p.srcs.length=true:=by rw [keptB] at k1;simp at k1;exact k1.1
      simp only [formedB,plainB,Bool.and_eq_true,decide_eq_true_eq] at hfm
      have hs4:(1:Int)<=p.srcs.length/\(p.srcs.length:Int)<=4:=by have:=hfm.1.1.1;simp [inB] at this;exact this
      have hmk:=ref05_MarksOf l p.srcs.length hs4 hg
      refine AW.seq cc ?_
      simp
      refine EC.afun (ref17_in _ _ _) ?_
      cases c1:inB window 0 200 with
      | false =>
       simp [lookE,c1]
       exact fun hz=>hz.drop (Nat.le_refl _)
      | true =>
       have hw1:0<=window/\window<=200:=by simp [inB] at c1;exact c1
       have hww:IntKind.wrap .i64 (window+1)=window+1:=by rw [wrap64] <;> omega
       have hn0:¬ sh.n=0:=by omega
       by_cases c2:(window+1).tmod sh.n=0
       rotate_left
       ·simp [hww,hn0,c2]
        exact fun hz=>⟨hz.drop (Nat.le_refl _),by simp [lookE,c1,c2]⟩
       ·simp [hww,hn0,c2]
        have hm6:0<=room.most/\room.most<=6:=by
         simp [roomB,inB] at k2;exact k2.1.1.1
        have hll:=hfm.1.1.2
        have hlw:IntKind.wrap .i64 ((l.length:Int)+room.most)=(l.length:Int)+room.most:=by rw [wrap64] <;> omega
        refine AW.seq cc ?_
        simp [hlw]
        by_cases c3:60 < (l.length:Int)+room.most
        ·simp [c3]
         exact ⟨fun hz=>⟨hz.drop (Nat.le_refl _),by simp [lookE,c1,c2,c3]⟩,fun q=>absurd c3 (by omega)⟩
        ·simp [c3]
         refine fun _=>?_
         obtain ⟨ms,hms⟩:∃ ms,List.map rI (List.map (fun k:Nat=>markM l (k:Nat)) (List.range ((p.srcs.length:Int)).toNat))=ms:=⟨_,rfl⟩
         have hsn:sh.src.toNat < p.srcs.length:=by omega
         have hmg:ms[sh.src.toNat]?=some (rI (markM l sh.src)):=by
          rw [<- hms]
          have e:((sh.src.toNat:Nat):Int)=sh.src:=by omega
          simp [hsn,e]
         have hml:ms.length=p.srcs.length:=by rw [<- hms];simp
         rw [hms] at hmk
         simp at hmk
         refine AW.seq cc ?_
         refine AW.draw cc [(5,.n)] (.q 1<|.q 2<|.q 6<|.q 10<|.q 11<|.q 0<|.q 3<|.q 4<|.q 5<|.q 7<|.q 8<|.q 9<|.q 12<|.f<|.one 13<|.q 14<|.done) (by kernel_rfl) ?_
         simp
         refine FC.afun hmk ?_
         have hm1:∀ hh:sh.src.toNat < ms.length,ms[sh.src.toNat]'hh=rI (markM l sh.src):=fun hh=>by
          rw [List.getElem?_eq_getElem hh] at hmg;exact Option.some.inj hmg
         simp [hm1,hml,hsn,rI]
         refine ⟨⟨by omega,by omega⟩,AW.ev cc ?_⟩
         simp
         exact fun hz=>⟨hz.drop (Nat.le_refl _),by simp [lookE,c1,c2,c3]⟩
theorem law_asked (p:Prog) (hs:fitP p) (l:List News) (a:Ask):AFun prog 25 [lv (rProg p),sl (l.map rNews),lv (rAsk a)] (.d (.k (.bool (decide (askE p a.d l a.room a.window a.key=0))))):=by
 intro H
 have cc:=cxK_ok (p:=kds [3,5] [] [])
 refine ECall.bodyNW (cxK_ok (p:=kds [3,5] [] [])) func25 rfl call25 (by rw [ntmps25];simp) rfl fun hf hw=>?_
 have h:=ref17_Asked p hs a.d l a.room a.window a.key H
 generalize askE p a.d l a.room a.window a.key=e at h |-
 simp [rProg,rRoom] at h
 simp [ntmps25,results25,rProg,rAsk,rRoom,dI] at hf |-
 refine AW.seq cc ?_
 simp
 refine AW.seq cc ?_
 simp
 refine EC.of h (fun v H2 hR=>?_) (fun v H2 hR=>?_)
 rotate_left
 ·obtain ⟨⟨_,_,_,_,_,_,_,q⟩,_⟩:=hR;cases q
 obtain ⟨⟨x,y,z,m,u,k,t,q⟩,rfl⟩:=hR
 cases q
 simp
 refine AW.ev cc ?_
 simp
 exact fun hz=>⟨hz.drop (Nat.le_refl _),rfl⟩
end Go.Aft
end
