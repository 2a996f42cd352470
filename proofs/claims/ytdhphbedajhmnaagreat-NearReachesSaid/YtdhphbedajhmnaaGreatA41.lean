import Derived.Test.YtdhphbedajhmnaaGreatA40
set_option linter.all false
section
set_option maxRecDepth 20000
namespace Go.Aft
open Go.Proofs.Tryz
def BestP (l:List News) (src id:Int) (k:Nat) (b:Int):Prop:=b = -1/\lastM (l.take k) src id=none \/ ∃ (j:Nat) (h:j < l.length),b=j/\j < k/\lastM (l.take k) src id=some l[j]
theorem take_succ_get {α:Type} {l:List α} {k:Nat} (h:k < l.length):l.take (k+1)=l.take k ++ [l[k]]:=by
 rw [List.take_succ,List.getElem?_eq_getElem h];rfl
theorem ref05_counts (l:List News) (src id:Int) (H:GH):ECall prog 96 [sl (l.map rNews),lvI src,lvI id] H fun ce H'=>(∃ b,ce=.ret (lvI b)/\BestP l src id l.length b)/\H'=H:=by
 have cc:=cxK_ok (p:=kds [] [] [])
 refine ECall.bodyNW (cxK_ok (p:=kds [] [] [])) func96 rfl call96 (by rw [ntmps96];simp) rfl fun hf hw=>?_
 simp [ntmps96,results96] at hf |-
 refine AW.seq cc ?_
 simp
 refine AW.ev cc ?_
 simp
 refine AW.loopS cc (fun a:Nat × Int=>⟨[(0,.d (.sl (l.map rNews))),(1,lvI src),(2,lvI id),(7,lvI a.2),(8,lvI a.1)],[],H⟩) (fun a=>l.length - a.1)
  (fun a=>a.1<=l.length/\BestP l src id a.1 a.2) (0,-1) ⟨⟨by simp,.inl ⟨rfl,by simp [lastM]⟩⟩,by simp⟩ ?_
 rintro ⟨k,b⟩ ⟨hk,hI⟩
 simp only at hk hI
 simp
 refine ⟨fun h=>?_,fun h=>?_⟩
 ·have hst:lastM (l.take (k+1)) src id=hearL src id (lastM (l.take k) src id) l[k]:=by rw [take_succ_get h,lastM_snoc]
  refine AW.draw cc [] (.q 0<|.q 1<|.q 2<|.q 3<|.q 4<|.q 5<|.q 6<|.q 7<|.q 8<|.q 9<|.q 10<|.q 12<|.q 11<|.q 13<|.q 14<|.q 15<|.q 16<|.q 17<|.q 18<|.q 19<|.q 21<|.q 20<|.q 22<|.q 23<|.q 24<|.q 25<|.q 26<|.q 27<|.q 28<|.q 29<|.q 30<|.q 31<|.q 33<|.q 34<|.q 35<|.q 36<|.q 32<|.q 37<|.q 38<|.q 39<|.q 40<|.done) (by kernel_rfl) ?_
  rcases hI with ⟨rfl,hI⟩ | ⟨j,hj,rfl,hjk,hI⟩
  ·have h0:0 < l.length:=by omega
   simp [h,List.getElem?_eq_getElem h,List.getElem?_eq_getElem h0,rNews,rRec]
   refine ⟨fun e1 e2 e3=>?_,fun q=>?_⟩
   ·refine NX.go (k+1,(k:Int)) (Nat.sub_lt_sub_left h (Nat.lt_succ_self k)) ⟨h,.inr ⟨k,h,rfl,Nat.lt_succ_self k,?_⟩⟩ (by simp [wrap_succ h hf.1])
    rw [hst,hI,hearL,if_pos ⟨e1,e2,e3,fun w hw=>by cases hw⟩]
   ·refine NX.go (k+1,-1) (Nat.sub_lt_sub_left h (Nat.lt_succ_self k)) ⟨h,.inl ⟨rfl,?_⟩⟩ (by simp [wrap_succ h hf.1])
    rw [hst,hI,hearL,if_neg];rintro ⟨a1,a2,a3,_⟩;exact q a1 a2 a3
  ·simp [h,List.getElem?_eq_getElem h,hj,List.getElem?_eq_getElem hj,rNews,rRec]
   refine ⟨fun e1 e2 e3 e4=>?_,fun q=>?_⟩
   ·refine NX.go (k+1,(k:Int)) (Nat.sub_lt_sub_left h (Nat.lt_succ_self k)) ⟨h,.inr ⟨k,h,rfl,Nat.lt_succ_self k,?_⟩⟩ (by simp [wrap_succ h hf.1])
    rw [hst,hI,hearL,if_pos ⟨e1,e2,e3,fun w hw=>by cases hw;omega⟩]
   ·refine NX.go (k+1,(j:Int)) (Nat.sub_lt_sub_left h (Nat.lt_succ_self k)) ⟨h,.inr ⟨j,hj,rfl,by omega,?_⟩⟩ (by simp [wrap_succ h hf.1])
    rw [hst,hI,hearL,if_neg];rintro ⟨a1,a2,a3,a4⟩;have:=a4 _ rfl;have:=q a1 a2 a3;omega
 ·have:k=l.length:=by omega
  subst this
  exact fun hz=>⟨hz.drop (Nat.le_refl _),hI⟩
theorem ref05_one (l:List News) (src id:Int):AFun prog 59 [sl (l.map rNews),lvI src,lvI id] (sl ((oneM l src id).map rEvent)):=by
 intro H
 have cc:=cxK_ok (p:=kds [] [] [])
 refine ECall.bodyNW (cxK_ok (p:=kds [] [] [])) func59 rfl call59 (by rw [ntmps59];simp) rfl fun hf hw=>?_
 simp [ntmps59,results59] at hf |-
 have hc:=ref05_counts l src id H
 simp at hc
 refine AW.seq cc ?_
 simp
 refine AW.seq cc ?_
 simp
 refine EC.of hc (fun v H2 hR=>?_) (fun v H2 hR=>?_)
 rotate_left
 ·obtain ⟨⟨_,q,_⟩,_⟩:=hR;cases q
 obtain ⟨⟨b,e,hb⟩,rfl⟩:=hR
 cases e
 rw [BestP,List.take_length] at hb
 simp
 refine AW.seq cc ?_
 rcases hb with ⟨rfl,hI⟩ | ⟨j,hj,rfl,hjk,hI⟩
 ·cases h0:l[0]? with
  | none =>
   simp [oneM,hI,h0,show (default:DV)=.k undef from rfl,undef]
   exact fun hz=>hz.drop (Nat.le_refl _)
  | some n =>
   simp [oneM,hI,h0,rNews,rRec]
   exact fun hz=>hz.drop (Nat.le_refl _)
 ·simp [oneM,hI,hj,List.getElem?_eq_getElem hj,rNews,rRec]
  refine ⟨fun q hz=>⟨hz.drop (Nat.le_refl _),by omega⟩,fun q=>AW.ev cc ?_⟩
  have hr:List.range' 0 1=[0]:=rfl
  simp [hj,List.getElem?_eq_getElem hj,rNews,rRec,q,hr]
  exact fun hz=>⟨hz.drop (Nat.le_refl _),by simp [oneM,hI,q,rEvent,rRec]⟩
theorem ref05_SameEvents (a b:List Event):AFun prog 60 [sl (a.map rEvent),sl (b.map rEvent)] (.d (.k (.bool (decide (a=b))))):=by
 have cc:=cxS_ok (p:=kds [] [] [])
 refine AFun.bodyW (cxS_ok (p:=kds [] [] [])) func60 rfl call60 (by rw [ntmps60];simp) rfl fun hf H=>?_
 simp [ntmps60,results60] at hf |-
 refine AW.seq cc ?_
 simp
 refine AW.seq cc ?_
 simp
 refine ⟨fun hl=>?_,fun hl=>?_⟩
 ·intro e
  subst e;exact hl rfl
 ·refine AW.ev cc ?_
  simp
  refine AW.loopS cc (fun i:Nat=>⟨[(0,.d (.sl (a.map rEvent))),(1,.d (.sl (b.map rEvent))),(5,lvI i)],[],H⟩) (fun i=>a.length - i) (fun i=>i<=a.length/\a.take i=b.take i) 0 ⟨by simp,by simp⟩ ?_
  rintro i ⟨hi,hI⟩
  simp
  refine ⟨fun h=>?_,fun h=>?_⟩
  ·have h':i < b.length:=by omega
   refine AW.draw cc [] (.q 0<|.q 1<|.q 2<|.q 4<|.q 5<|.q 6<|.q 3<|.q 7<|.q 8<|.done) (by kernel_rfl) ?_
   simp [h,h',List.getElem?_eq_getElem h,List.getElem?_eq_getElem h',rEvent,rRec]
   refine ⟨fun q e=>by subst e;simp at q,fun q1 q2 q3 q4 q5=>?_⟩
   refine NX.go (i+1) (Nat.sub_lt_sub_left h (Nat.lt_succ_self i)) ⟨h,?_⟩ (by simp [wrap_succ h hf.1.1])
   rw [List.take_add_one,List.take_add_one,hI,List.getElem?_eq_getElem h,List.getElem?_eq_getElem h']
   congr 2
   generalize a[i]=x at *
   generalize b[i]=y at *
   obtain ⟨x1,x2,⟨x3,x4,x5⟩⟩:=x
   obtain ⟨y1,y2,⟨y3,y4,y5⟩⟩:=y
   simp only at q1 q2 q3 q4 q5
   subst q1 q2 q3 q4 q5;rfl
  ·have e:i=a.length:=by omega
   subst e
   rw [List.take_length,List.take_of_length_le (by omega)] at hI
   exact hI
def mC (n:Nat) (l:List News):List LV:=(List.range n).map fun j=>lvI (markM l (j:Nat))
theorem mC_keep {n:Nat} {l:List News} {x:News} (h:x.do_ ≠ 3):mC n (l ++ [x])=mC n l:=by
 simp [mC,markM_snoc,hearM,h]
theorem mC_mark {n s:Nat} {l:List News} {x:News} (h:x.do_=3) (hx:x.src=(s:Nat)) (hs:s < n):(mC n l).take s ++ lvI (maxI (markM l (s:Nat)) x.rec_.at_) :: (mC n l).drop (s+1)=mC n (l ++ [x]):=by
 have hl:s < (mC n l).length:=by simp [mC,hs]
 have he:=List.set_eq_take_append_cons_drop (l:=mC n l) (i:=s) (a:=lvI (maxI (markM l (s:Nat)) x.rec_.at_))
 rw [if_pos hl] at he
 rw [<- he]
 refine List.ext_getElem (by simp [mC]) fun i h1 h2=>?_
 have hi:i < n:=by simpa [mC] using h2
 rw [List.getElem_set]
 simp only [mC,List.getElem_map,List.getElem_range,markM_snoc,hearM,h,hx]
 by_cases e:s=i
 ·subst e;simp
 ·have:¬ ((s:Int)=(i:Int)):=by omega
  simp [e,this]
theorem ref05_MarksOf (l:List News) (srcs:Int) (hs:1<=srcs/\srcs<=4) (hg:∀ n ∈ l,goodB n srcs=true):AFun prog 45 [sl (l.map rNews),lvI srcs] (sl (((List.range srcs.toNat).map fun k=>markM l (k:Nat)).map rI)):=by
 intro H
 have cc:=cxK_ok (p:=kds [] [] [])
 refine ECall.bodyNW (cxK_ok (p:=kds [] [] [])) func45 rfl call45 (by rw [ntmps45];simp) rfl fun hf hw=>?_
 simp [ntmps45,results45] at hf |-
 refine AW.seq cc ?_
 simp
 refine AW.seq cc ?_
 simp
 refine ⟨by omega,AW.seq cc ?_⟩
 simp
 obtain ⟨n,hn⟩:∃ n:Nat,srcs.toNat=n:=⟨_,rfl⟩
 rw [hn]
 have hrep:repL n [LV.d (DV.k (Value.int IntKind.i64 0))]=mC n (l.take 0):=by
  simp [repL,mC,markM,List.map_const']
 rw [hrep]
 have hob:∀ o,(H.add o).obj H.next=some o:=fun o=>by simp [GH.add_obj]
 refine AW.ev cc ?_
 simp
 refine AW.loopS cc (fun k:Nat=>⟨[(0,.d (.sl (l.map rNews))),(5,.vs H.next 0 1 0 n),(6,lvI k)],[],H.add (.vec 3 0 1 (mC n (l.take k)) true)⟩) (fun k=>l.length - k) (fun k=>k<=l.length) 0 ⟨by simp,by simp⟩ ?_
 rintro k hk
 simp
 refine ⟨fun h=>?_,fun h=>?_⟩
 ·have hsrc:0<=l[k].src/\l[k].src<=srcs - 1:=by
   have:=hg _ (List.getElem_mem h)
   simp [goodB,inB] at this;exact this.1
  have hsn:l[k].src.toNat < n:=by omega
  simp [h,List.getElem?_eq_getElem h,rNews,rRec]
  refine ⟨fun h3=>?_,fun h3=>?_⟩
  ·refine AW.draw cc [] (.q 0<|.q 1<|.q 2<|.q 3<|.q 4<|.q 6<|.q 7<|.q 8<|.q 9<|.q 10<|.q 14<|.q 15<|.q 16<|.q 17<|.q 18<|.q 5<|.q 11<|.q 12<|.q 13<|.q 19<|.q 20<|.q 21<|.f<|.one 22<|.done) (by kernel_rfl) ?_
   have hmc:∀ hh:l[k].src.toNat < (mC n (l.take k)).length,(mC n (l.take k))[l[k].src.toNat]'hh=lvI (markM (l.take k) l[k].src):=fun h'=>by
    have e:((l[k].src.toNat:Nat):Int)=l[k].src:=by omega
    simp only [mC,List.getElem_map,List.getElem_range,e]
   have hml:(mC n (l.take k)).length=n:=by simp [mC]
   have hsn1:l[k].src.toNat+1<=n:=hsn
   have hst:=mC_mark (n:=n) (l:=l.take k) (x:=l[k]) h3 (show l[k].src=(l[k].src.toNat:Nat) by omega) hsn
   rw [show ((l[k].src.toNat:Nat):Int)=l[k].src by omega] at hst
   simp at hst
   simp [h,List.getElem?_eq_getElem h,rNews,rRec,hob,hsn,hmc,hml,hsn1,hst,GH.add_set]
   exact ⟨by omega,NX.go (k+1) (Nat.sub_lt_sub_left h (Nat.lt_succ_self k)) h (by simp [wrap_succ h hf.1])⟩
  ·have he:mC n (l.take (k+1))=mC n (l.take k):=by rw [take_succ_get h,mC_keep h3]
   refine NX.go (k+1) (Nat.sub_lt_sub_left h (Nat.lt_succ_self k)) h (by simp [wrap_succ h hf.1,he])
 ·have:k=l.length:=by omega
  subst this
  rw [List.take_length]
  have hfl:mC n l=flatD (((List.range n).map fun k=>markM l (k:Nat)).map rI):=by
   have:=flatD_one (fun k:Nat=>DV.k (.int .i64 (markM l (k:Nat)))) (List.range n)
   rw [List.map_map]
   exact this.symm
  refine AW.thaw (n:=H.next) (g:=0) (sz:=1) (e:=3) (ex:=true) (((List.range n).map fun k=>markM l (k:Nat)).map rI) (hob _) hfl (by simp [rI]) ?_
  refine AW.ev cc ?_
  simp
  exact fun hz=>⟨Drop_same (by simp [GH.add_next]) (fun m hm=>thaw_lt hw (Nat.le_refl _) (fun k hk=>by rw [GH.add_obj,if_neg (by omega)]) hm) hw.none,List.take_of_length_le (by simp)⟩
theorem ref05_StepOf (l:List News) (hl:l.length<=1000) (n:News):AFun prog 30 [sl (l.map rNews),lv (rNews n)] (.tup [sl ((stepM l n).1.map rEvent),sl ((stepM l n).2.map rEvent)]):=by
 have cc:=cxK_ok (p:=kds [3] [] [])
 refine AFun.bodyW (cxK_ok (p:=kds [3] [] [])) func30 rfl call30 (by rw [ntmps30];simp) rfl fun hf H=>?_
 have h1:=ref05_one l n.src n.id
 have h2:=ref05_one (l ++ [n]) n.src n.id
 have h3:=ref05_SameEvents (oneM l n.src n.id) (oneM (l ++ [n]) n.src n.id)
 simp [ntmps30,results30,rNews,rRec] at hf |-
 refine AW.seq cc ?_
 simp
 refine AW.seq cc ?_
 simp
 refine ⟨fun e3=>?_,fun e3=>?_⟩
 ·simp [stepM,e3,LV.nb,nbs]
 ·simp at h1
  refine AW.seq cc ?_
  simp
  refine EC.afun h1 ?_
  simp
  refine AW.seq cc ?_
  refine AW.draw cc [(2,.n),(6,.n),(8,.n),(9,.n)] (.q 0<|.q 2<|.q 3<|.q 5<|.q 6<|.q 7<|.q 8<|.f<|.one 1<|.f<|.one 4<|.q 9<|.q 10<|.done) (by kernel_rfl) ?_
  have hr:List.range' 0 1=[0]:=rfl
  simp [hr]
  refine APK.appX tyE35 rfl tyE53 (by simp) (by simp) (.nil) (by simp [rowsOf];rfl) (by simp) (by simp) (fun r hr=>by obtain ⟨_,_,rfl⟩:=List.mem_map.1 hr;rfl) (by simp;omega) (by simp) fun x' H3 h3' _ _=>?_
  simp [h3'.plain.all]
  refine APK.appX tyE35 rfl tyE53 (by simp) (by simp) h3' (by simp [rowsOf];rfl) (by simp) (fun r hr=>by obtain ⟨_,_,rfl⟩:=List.mem_map.1 (by simpa using hr);rfl) (by simp) (by simp;omega) (by simp) fun x2 H4 h4 _ _=>?_
  simp [h4.plain.all]
  refine ⟨h4.nb,FC.afun (AFun.fzA (v:=sl ((oneM (l ++ [n]) n.src n.id).map rEvent)) (by simp only [fzs,h4.fz,List.nil_append];simpa [rNews,rRec] using h2)) ?_⟩
  simp
  refine AW.seq cc ?_
  simp
  simp at h3
  refine EC.afun h3 ?_
  simp
  refine ⟨fun e=>⟨by simp [stepM,e3,e],h4.nx,h4.ob⟩,fun e=>?_⟩
  refine AW.ev cc ?_
  simp
  exact ⟨by simp [stepM,e3,e],h4.nx,h4.ob⟩
def lateR (l:List News):List (List DV):=(lateM l).map fun k=>rI (k:Nat)
theorem ref05_LateOf (l:List News) (srcs:Int) (hs:1<=srcs/\srcs<=4) (hll:l.length<=60) (hg:∀ n ∈ l,goodB n srcs=true):AFun prog 110 [sl (l.map rNews),lvI srcs] (sl (lateR l)):=by
 have cc:=cxK_ok (p:=kds [] [] [])
 refine AFun.bodyW (cxK_ok (p:=kds [] [] [])) func110 rfl call110 (by rw [ntmps110];simp) rfl fun hf H=>?_
 simp [ntmps110,results110] at hf |-
 refine AW.seq cc ?_
 simp
 refine AW.seq cc ?_
 simp
 refine AW.ev cc ?_
 simp
 refine AW.loopS cc (fun a:Nat × LV × GH=>⟨[(0,.d (.sl (l.map rNews))),(1,lvI srcs),(5,a.2.1),(6,lvI a.1)],[],a.2.2⟩) (fun a=>l.length - a.1) (fun a=>a.1<=l.length/\AppX 3 1 H a.2.1 (lateR (l.take a.1)) a.2.2) (0,.d (.k (.slice none 0 0)),H) ⟨⟨by simp,by simpa [lateR,lateM,lateFrom] using AppX.nil⟩,by simp⟩ ?_
 rintro ⟨i,x,H1⟩ ⟨hi,ha⟩
 simp only at hi ha
 simp [ha.plain.all]
 refine ⟨fun h=>?_,fun h=>?_⟩
 rotate_left
 ·have:i=l.length:=by omega
  subst this
  rw [List.take_length] at ha
  exact ⟨ha.fz,ha.nx,ha.ob⟩
 have hst:=ref05_StepOf (l.take i) (by simp;omega) l[i]
 have hmk:=ref05_MarksOf (l.take i) srcs hs (fun n hn=>hg n (List.mem_of_mem_take hn))
 have hsrc:0<=l[i].src/\l[i].src<=srcs - 1:=by
  have:=hg _ (List.getElem_mem h)
  simp [goodB,inB] at this;exact this.1
 have hlm:=lateM_take h
 obtain ⟨n,hn⟩:∃ n,l[i]=n:=⟨_,rfl⟩
 rw [hn] at hst hsrc hlm
 obtain ⟨w,s,hws⟩:∃ w s,stepM (l.take i) n=(w,s):=⟨_,_,rfl⟩
 have hla:lateAt (l.take i) n=(w ++ s).any fun e=>decide (e.rec_.at_ < markM (l.take i) n.src):=by rw [lateAt,hws]
 rw [hws] at hst
 simp [rNews,rRec] at hst
 refine AW.draw cc [(7,.n)] (.q 0<|.q 1<|.q 3<|.q 4<|.q 5<|.q 2<|.q 6<|.q 7<|.q 8<|.q 9<|.q 10<|.q 11<|.q 12<|.done) (by kernel_rfl) ?_
 have hil:i<=l.length:=by omega
 simp [h,hil,List.getElem?_eq_getElem h,hn,rNews,rRec]
 refine FC.afun hst ?_
 simp
 have hw1:w.length<=1/\s.length<=1:=by
  have ho:∀ l a b,(oneM l a b).length<=1:=fun l a b=>by
   unfold oneM;split
   ·split <;> simp
   ·simp
  have:=congrArg Prod.fst hws
  have h2:=congrArg Prod.snd hws
  simp only at this h2
  rw [<- this,<- h2,stepM]
  split
  ·simp
  ·split
   ·simp
   ·exact ⟨ho _ _ _,ho _ _ _⟩
 refine APK.appX tyE59 rfl tyE63 (by simp) (by simp) (.nil) (by simp [rowsOf];rfl) (by simp) (by simp) (fun r hr=>by obtain ⟨_,_,rfl⟩:=List.mem_map.1 hr;rfl) (by simp;omega) (by simp) fun y1 H2 hy1 hn2 ho2=>?_
 simp [hy1.plain.all]
 refine APK.appX tyE59 rfl tyE63 (by simp) (by simp) hy1 (by simp [rowsOf];rfl) (by simp) (fun r hr=>by obtain ⟨_,_,rfl⟩:=List.mem_map.1 (by simpa using hr);rfl) (fun r hr=>by obtain ⟨_,_,rfl⟩:=List.mem_map.1 hr;rfl) (by simp;omega) (by simp) fun y2 H3 hy2 hn3 ho3=>?_
 simp [hy2.plain.all]
 have ha3:AppX 3 1 H x (lateR (l.take i)) H3:=(ha.mono hy2.nx hy2.ob)
 obtain ⟨both,hbo⟩:∃ both,w ++ s=both:=⟨_,rfl⟩
 have hyf:fz y2=sl (both.map rEvent):=by rw [hy2.fz,<- hbo];simp
 have hbl:both.length<=2:=by rw [<- hbo];simp;omega
 rw [hbo] at hla
 refine AW.fzT 9 ?_
 refine AW.loopS cc (fun k:Nat=>⟨[(0,.d (.sl (l.map rNews))),(1,lvI srcs),(5,x),(6,lvI i),(9,.d (.sl (both.map rEvent))),(10,.d (.k (.bool ((both.take k).any fun e=>decide (e.rec_.at_ < markM (l.take i) n.src))))),(11,lvI k)],[],H3⟩) (fun k=>both.length - k) (fun k=>k<=both.length) 0 ⟨by simp,by simp [hyf,ha.only]⟩ ?_
 rintro k hk
 simp [ha.plain.all]
 refine ⟨fun hkb=>?_,fun hkb=>?_⟩
 ·obtain ⟨ms,hms⟩:∃ ms,List.map rI (List.map (fun k:Nat=>markM (l.take i) (k:Nat)) (List.range srcs.toNat))=ms:=⟨_,rfl⟩
  have hsn:n.src.toNat < srcs.toNat:=by omega
  have hmg:ms[n.src.toNat]?=some (rI (markM (l.take i) n.src)):=by
   rw [<- hms]
   have e:((n.src.toNat:Nat):Int)=n.src:=by omega
   simp [hsn,e]
  have hml:ms.length=srcs.toNat:=by rw [<- hms];simp
  rw [hms] at hmk
  simp at hmk
  refine AW.draw cc [(12,.n)] (.q 0<|.q 1<|.q 2<|.q 3<|.q 4<|.q 5<|.q 6<|.q 8<|.q 9<|.q 11<|.q 13<|.q 14<|.q 15<|.q 16<|.q 7<|.q 10<|.q 12<|.q 17<|.q 18<|.q 19<|.q 20<|.q 21<|.q 22<|.done) (by kernel_rfl) ?_
  simp [h,hil,hkb,List.getElem?_eq_getElem h,List.getElem?_eq_getElem hkb,hn,rNews,rRec,rEvent]
  refine FCg.afun (fun _=>hmk) ?_
  simp [h,hil,hkb,List.getElem?_eq_getElem h,List.getElem?_eq_getElem hkb,hn,rNews,rRec,rEvent,hmg,hml,rI]
  have hw2:IntKind.wrap .i64 ((k:Int)+1)=(k:Int)+1:=by rw [wrap64] <;> omega
  have htk:((both.take (k+1)).any fun e=>decide (e.rec_.at_ < markM (l.take i) n.src))=(((both.take k).any fun e=>decide (e.rec_.at_ < markM (l.take i) n.src)) || decide (both[k].rec_.at_ < markM (l.take i) n.src)):=by
   rw [take_succ_get hkb,List.any_append];simp
  refine ⟨fun q=>⟨q,by omega⟩,NX.go (k+1) (Nat.sub_lt_sub_left hkb (Nat.lt_succ_self k)) hkb ?_⟩
  simp [hw2,htk,ha.only]
 ·have:k=both.length:=by omega
  subst this
  rw [List.take_length]
  have hwi:IntKind.wrap .i64 ((i:Int)+1)=(i:Int)+1:=by rw [wrap64] <;> omega
  have hr:List.range' 0 1=[0]:=rfl
  refine ⟨fun e he hlt=>?_,fun hno=>?_⟩
  ·have hlate:lateAt (l.take i) n=true:=by rw [hla];exact List.any_eq_true.2 ⟨e,he,by simpa using hlt⟩
   have hlr:lateR (l.take (i+1))=lateR (l.take i) ++ [rI (i:Nat)]:=by
    rw [lateR,hlm,if_pos hlate,List.map_append];rfl
   have hlen:(lateR (l.take i)).length<=60:=by
    have:=lateFrom_len (l.take i) [] 0
    simp [lateR,lateM] at this |-;omega
   refine APK.appX tyE89 rfl tyE3 (by simp) (by simp) ha3 (by simp [rowsOf];rfl) (by simp) (fun r hr=>by obtain ⟨_,_,rfl⟩:=List.mem_map.1 hr;rfl) (by simp) (by simp;omega) (by simp) fun x2 H4 h4 _ _=>?_
   simp [h4.plain.all]
   refine NX.go (i+1,x2,H4) (Nat.sub_lt_sub_left h (Nat.lt_succ_self i)) ⟨h,?_⟩ (by simp [hwi,h4.only])
   rw [hlr];simpa [rI] using h4
  ·have hlate:lateAt (l.take i) n=false:=by rw [hla,List.any_eq_false];exact fun e he=>by simpa using hno e he
   have hlr:lateR (l.take (i+1))=lateR (l.take i):=by
    rw [lateR,hlm,if_neg (by simp [hlate]),List.append_nil];rfl
   refine NX.go (i+1,x,H3) (Nat.sub_lt_sub_left h (Nat.lt_succ_self i)) ⟨h,?_⟩ (by simp [hwi,ha.only])
   rw [hlr];exact ha3
def keptB (l:List News) (srcs:Int):Bool:=formedB l srcs && decide (lateM l=[])
theorem ref17_Kept (l:List News) (srcs:Int):AFun prog 65 [sl (l.map rNews),lvI srcs] (.d (.k (.bool (keptB l srcs)))):=by
 refine AFun.body cx0_ok func65 rfl call65 (by rw [ntmps65];simp) rfl fun hf H=>?_
 have h1:=ref05_Formed l srcs
 simp at h1
 simp [ntmps65,results65]
 refine EC.afun h1 ?_
 cases hp:formedB l srcs with
 | false=>simp [keptB,hp]
 | true =>
  have hp':=hp
  simp only [formedB,plainB,Bool.and_eq_true,decide_eq_true_eq] at hp'
  have hs:1<=srcs/\srcs<=4:=by have:=hp'.1.1.1;simp [inB] at this;exact this
  have h2:=ref05_LateOf l srcs hs hp'.1.1.2 (formed_good hp)
  simp at h2
  simp
  refine EC.afun h2 ?_
  have:(lateR l).length=(lateM l).length:=by simp [lateR]
  simp [keptB,hp,this]
  cases lateM l <;> simp
  omega
end Go.Aft
end
section
set_option maxRecDepth 20000
namespace Go.Aft
open Go.Proofs.Tryz
def NewAt (l:List News) (src id:Int) (j:Nat) (h:j < l.length):Prop:=l[j].do_ ≠ 3/\l[j].src=src/\l[j].id=id/\∀ w,lastM (l.take j) src id=some w->w.ver < l[j].ver
def BestN (l:List News) (src id:Int) (k:Nat) (b:Int):Prop:=b = -1/\lastM (l.take k) src id=none \/ ∃ (j:Nat) (h:j < l.length),b=j/\j < k/\lastM (l.take k) src id=some l[j]/\NewAt l src id j h
def bestF (l:List News) (src id:Int):Nat->Int
 | 0=>-1
 | k+1=>if h:k < l.length then (if l[k].do_ ≠ 3/\l[k].src=src/\l[k].id=id/\(bestF l src id k < 0 \/ ∃ h2:(bestF l src id k).toNat < l.length,l[(bestF l src id k).toNat].ver < l[k].ver) then k else bestF l src id k) else bestF l src id k
theorem best_spec (l:List News) (src id:Int):∀ k,k<=l.length->BestN l src id k (bestF l src id k)
 | 0,_=>.inl ⟨rfl,by simp [lastM]⟩
 | k+1,hk=>by
  have h:k < l.length:=hk
  have hst:lastM (l.take (k+1)) src id=hearL src id (lastM (l.take k) src id) l[k]:=by rw [take_succ_get h,lastM_snoc]
  rw [bestF,dif_pos h]
  rcases best_spec l src id k (by omega) with ⟨hb,hI⟩ | ⟨j,hj,hb,hjk,hI,hnw⟩
  ·rw [hb]
   by_cases q:l[k].do_ ≠ 3/\l[k].src=src/\l[k].id=id
   ·rw [if_pos ⟨q.1,q.2.1,q.2.2,.inl (by omega)⟩]
    exact .inr ⟨k,h,rfl,Nat.lt_succ_self k,by rw [hst,hI,hearL,if_pos ⟨q.1,q.2.1,q.2.2,fun w hw=>(by cases hw)⟩],q.1,q.2.1,q.2.2,fun w hw=>by rw [hI] at hw;cases hw⟩
   ·rw [if_neg (fun q'=>q ⟨q'.1,q'.2.1,q'.2.2.1⟩)]
    exact .inl ⟨rfl,by rw [hst,hI,hearL,if_neg (fun q'=>q ⟨q'.1,q'.2.1,q'.2.2.1⟩)]⟩
  ·rw [hb]
   by_cases q:l[k].do_ ≠ 3/\l[k].src=src/\l[k].id=id/\l[j].ver < l[k].ver
   ·rw [if_pos ⟨q.1,q.2.1,q.2.2.1,.inr ⟨by simpa using hj,by simpa using q.2.2.2⟩⟩]
    exact .inr ⟨k,h,rfl,Nat.lt_succ_self k,by rw [hst,hI,hearL,if_pos ⟨q.1,q.2.1,q.2.2.1,fun w hw=>by cases hw;exact q.2.2.2⟩],q.1,q.2.1,q.2.2.1,fun w hw=>by rw [hI] at hw;cases hw;exact q.2.2.2⟩
   ·rw [if_neg (fun q'=>q ⟨q'.1,q'.2.1,q'.2.2.1,by
     rcases q'.2.2.2 with h2 | ⟨_,h2⟩
     ·omega
     ·simpa using h2⟩)]
    exact .inr ⟨j,hj,rfl,by omega,by rw [hst,hI,hearL,if_neg (fun q'=>q ⟨q'.1,q'.2.1,q'.2.2.1,q'.2.2.2 _ rfl⟩)],hnw⟩
theorem counts_fun (l:List News) (src id:Int):AFun prog 96 [sl (l.map rNews),lvI src,lvI id] (lvI (bestF l src id l.length)):=fun H=>by
 have cc:=cxK_ok (p:=kds [] [] [])
 refine ECall.bodyNW (cxK_ok (p:=kds [] [] [])) func96 rfl call96 (by rw [ntmps96];simp) rfl fun hf hw=>?_
 simp [ntmps96,results96] at hf |-
 refine AW.seq cc ?_
 simp
 refine AW.ev cc ?_
 simp
 refine AW.loopS cc (fun k:Nat=>⟨[(0,.d (.sl (l.map rNews))),(1,lvI src),(2,lvI id),(7,lvI (bestF l src id k)),(8,lvI k)],[],H⟩) (fun k=>l.length - k)
  (fun k=>k<=l.length) 0 ⟨Nat.zero_le _,by simp [bestF]⟩ ?_
 intro k hk
 simp
 refine ⟨fun h=>?_,fun h=>?_⟩
 ·have hbf:bestF l src id (k+1)=if l[k].do_ ≠ 3/\l[k].src=src/\l[k].id=id/\(bestF l src id k < 0 \/ ∃ h2:(bestF l src id k).toNat < l.length,l[(bestF l src id k).toNat].ver < l[k].ver) then (k:Int) else bestF l src id k:=by rw [bestF,dif_pos h]
  have hI:=best_spec l src id k hk
  generalize bestF l src id k=b at hbf hI
  refine AW.draw cc [] (.q 0<|.q 1<|.q 2<|.q 3<|.q 4<|.q 5<|.q 6<|.q 7<|.q 8<|.q 9<|.q 10<|.q 12<|.q 11<|.q 13<|.q 14<|.q 15<|.q 16<|.q 17<|.q 18<|.q 19<|.q 21<|.q 20<|.q 22<|.q 23<|.q 24<|.q 25<|.q 26<|.q 27<|.q 28<|.q 29<|.q 30<|.q 31<|.q 33<|.q 34<|.q 35<|.q 36<|.q 32<|.q 37<|.q 38<|.q 39<|.q 40<|.done) (by kernel_rfl) ?_
  rcases hI with ⟨rfl,hI⟩ | ⟨j,hj,rfl,hjk,hI,hnw⟩
  ·have h0:0 < l.length:=by omega
   simp [h,List.getElem?_eq_getElem h,List.getElem?_eq_getElem h0,rNews,rRec]
   refine ⟨fun e1 e2 e3=>?_,fun q=>?_⟩
   ·rw [if_pos ⟨e1,e2,e3,.inl (by omega)⟩] at hbf
    exact NX.go (k+1) (Nat.sub_lt_sub_left h (Nat.lt_succ_self k)) h (by simp [wrap_succ h hf.1,hbf])
   ·rw [if_neg (fun q'=>q q'.1 q'.2.1 q'.2.2.1)] at hbf
    exact NX.go (k+1) (Nat.sub_lt_sub_left h (Nat.lt_succ_self k)) h (by simp [wrap_succ h hf.1,hbf])
  ·simp [h,List.getElem?_eq_getElem h,hj,List.getElem?_eq_getElem hj,rNews,rRec]
   refine ⟨fun e1 e2 e3 e4=>?_,fun q=>?_⟩
   ·rw [if_pos ⟨e1,e2,e3,.inr ⟨by simpa using hj,by simp;omega⟩⟩] at hbf
    exact NX.go (k+1) (Nat.sub_lt_sub_left h (Nat.lt_succ_self k)) h (by simp [wrap_succ h hf.1,hbf])
   ·rw [if_neg (fun q'=>by
     have h1:=q q'.1 q'.2.1 q'.2.2.1
     rcases q'.2.2.2 with h2 | ⟨_,h2⟩
     ·omega
     ·simp at h2;omega)] at hbf
    exact NX.go (k+1) (Nat.sub_lt_sub_left h (Nat.lt_succ_self k)) h (by simp [wrap_succ h hf.1,hbf])
 ·have:k=l.length:=by omega
  subst this
  exact fun hz=>⟨hz.drop (Nat.le_refl _),rfl⟩
theorem ref05_before (a b:Event):AFun prog 172 [lv (rEvent a),lv (rEvent b)] (.d (.k (.bool (decide (evLt a b))))):=by
 refine AFun.body (cxK_ok (p:=kds [2,3] [] [])) func172 rfl call172 (by rw [ntmps172];simp) rfl fun _ H=>?_
 simp [ntmps172,results172,rEvent,rRec]
 refine ⟨fun q=>?_,fun q=>⟨fun q2=>?_,fun q2=>?_⟩⟩
 all_goals (unfold evLt;omega)
theorem insE_app {x:Event}:∀ (a b:List Event),(∀ e ∈ a,¬ evLt x e)->insE x (a ++ b)=a ++ insE x b
 | [],b,_=>rfl
 | y :: a,b,h=>by
  rw [List.cons_append,insE,if_neg (h y (by simp)),insE_app a b fun e he=>h e (by simp [he])];rfl
theorem ref05_put (l:List Event) (hl:l.length<=1000) (x:Event):AFun prog 130 [sl (l.map rEvent),lv (rEvent x)] (sl ((insE x l).map rEvent)):=by
 have cc:=cxK_ok (p:=kds [3] [] [])
 refine AFun.body (cxK_ok (p:=kds [3] [] [])) func130 rfl call130 (by rw [ntmps130];simp) rfl fun hf H=>?_
 simp [ntmps130,results130,rEvent,rRec] at hf |-
 refine AW.loopS cc (fun a:Nat × LV × Bool × GH=>⟨[(0,sl (l.map rEvent)),(3,.ip ((rEvent x).map .d) 0),(5,a.2.1),(6,.d (.k (.bool a.2.2.1))),(7,lvI a.1)],[],a.2.2.2⟩) (fun a=>l.length - a.1)
  (fun a=>a.1<=l.length/\∃ out:List Event,AppX 63 5 H a.2.1 (out.map rEvent) a.2.2.2/\out.length<=a.1+1/\(if a.2.2.1=true then out ++ l.drop a.1=insE x l else out=l.take a.1/\∀ e ∈ l.take a.1,¬ evLt x e)) (0,.d (.k (.slice none 0 0)),false,H) ⟨⟨Nat.zero_le _,[],by simpa using AppX.nil,by simp,by simp⟩,by simp [rEvent,rRec]⟩ ?_
 rintro ⟨i,y,b,H2⟩ ⟨hi,out,hap,hol,hI⟩
 simp only at hi hap hol hI
 simp
 refine ⟨fun h=>?_,fun h=>?_⟩
 ·have hbf:=ref05_before x l[i]
  simp [rEvent,rRec] at hbf
  refine AW.draw cc [(8,.n)] (.q 0<|.q 1<|.q 2<|.q 4<|.q 5<|.q 6<|.q 3<|.q 7<|.q 8<|.q 9<|.done) (by kernel_rfl) ?_
  simp [h,List.getElem?_eq_getElem h,rEvent,rRec]
  have hw:IntKind.wrap .i64 ((i:Int)+1)=(i:Int)+1:=by rw [wrap64] <;> omega
  have hrl:∀ (es:List Event),∀ r ∈ es.map rEvent,r.length=5:=fun es r hr=>by obtain ⟨_,_,rfl⟩:=List.mem_map.1 hr;rfl
  have hdr:l.drop i=l[i] :: l.drop (i+1):=List.drop_eq_getElem_cons h
  have htk:l.take (i+1)=l.take i ++ [l[i]]:=take_succ_get h
  have hgo:∀ (b':Bool) (z:LV) (H3:GH) (o:List Event),AppX 63 5 H z ((o ++ [l[i]]).map rEvent) H3->(o ++ [l[i]]).length<=i+1+1->(if b'=true then (o ++ [l[i]]) ++ l.drop (i+1)=insE x l else (o ++ [l[i]])=l.take (i+1)/\∀ e ∈ l.take (i+1),¬ evLt x e) ->
    (i+1<=l.length/\∃ out:List Event,AppX 63 5 H z (out.map rEvent) H3/\out.length<=i+1+1/\(if b'=true then out ++ l.drop (i+1)=insE x l else out=l.take (i+1)/\∀ e ∈ l.take (i+1),¬ evLt x e)):=fun b' z H3 o h1 h2 h3=>⟨h,_,h1,h2,h3⟩
  cases b with
  | true =>
   refine FCg.afun (v:=.d (.k (.bool true))) (fun h=>by cases h) ?_
   simp only [if_true] at hI
   have hol2:out.length<=i+1:=hol
   simp [hap.plain.all,h,List.getElem?_eq_getElem h,rEvent,rRec]
   refine APK.appX (ys:=[rEvent l[i]]) tyE59 rfl tyE63 (by simp) (x:=y) (by simp) hap (by simp [rowsOf,rEvent,rRec]) (by simp) (hrl _) (by simp) (by simp;omega) (by simp) fun y1 H3 h3 _ _=>?_
   simp [h3.plain.all,hw]
   refine NX.go (i+1,y1,true,H3) (by simp only;omega) (hgo true y1 H3 out (by simpa using h3) (by simp;omega) (by rw [if_pos rfl,<- hI,hdr];simp)) (by simp [rEvent,rRec,h3.only])
  | false =>
   simp at hI
   obtain ⟨hI1,hI2⟩:=hI
   refine FCg.afun (fun _=>hbf) ?_
   have hol2:out.length<=i:=by rw [hI1];simp;omega
   by_cases q:evLt x l[i]
   ·simp [q,hap.plain.all,rEvent,rRec]
    refine APK.appX (ys:=[rEvent x]) tyE59 rfl tyE63 (by simp) (x:=y) (by simp) hap (by simp [rowsOf,rEvent,rRec]) (by simp) (hrl _) (by simp) (by simp;omega) (by simp) fun y1 H3 h3 _ _=>?_
    simp [h3.plain.all,h,List.getElem?_eq_getElem h,rEvent,rRec]
    refine APK.appX (ys:=[rEvent l[i]]) tyE59 rfl tyE63 (by simp) (x:=y1) (by simp) h3 (by simp [rowsOf,rEvent,rRec]) (by simp) (fun r hr=>by
     rcases List.mem_append.1 hr with q | q
     ·exact hrl _ r q
     ·rw [List.mem_singleton] at q;rw [q];rfl) (by simp) (by simp;omega) (by simp) fun y2 H4 h4 _ _=>?_
    simp [h4.plain.all,hw]
    refine NX.go (i+1,y2,true,H4) (by simp only;omega) (hgo true y2 H4 (out ++ [x]) (by simpa using h4) (by simp;omega) ?_) (by simp [rEvent,rRec,h4.only])
    rw [if_pos rfl,hI1]
    have:=insE_app (x:=x) (l.take i) (l.drop i) (fun e he=>hI2 e he)
    rw [List.take_append_drop,hdr,insE,if_pos q] at this
    rw [this];simp
   ·simp [q,hap.plain.all,h,List.getElem?_eq_getElem h,rEvent,rRec]
    refine APK.appX (ys:=[rEvent l[i]]) tyE59 rfl tyE63 (by simp) (x:=y) (by simp) hap (by simp [rowsOf,rEvent,rRec]) (by simp) (hrl _) (by simp) (by simp;omega) (by simp) fun y1 H3 h3 _ _=>?_
    simp [h3.plain.all,hw]
    refine NX.go (i+1,y1,false,H3) (by simp only;omega) (hgo false y1 H3 out (by simpa using h3) (by simp;omega) ?_) (by simp [rEvent,rRec,h3.only])
    simp only [Bool.false_eq_true,if_false]
    refine ⟨by rw [htk,hI1],fun e he=>?_⟩
    rw [htk] at he
    rcases List.mem_append.1 he with q' | q'
    ·exact hI2 e q'
    ·rw [List.mem_singleton] at q';rw [q'];exact q
 ·have e:i=l.length:=by omega
  subst e
  have hrl:∀ (es:List Event),∀ r ∈ es.map rEvent,r.length=5:=fun es r hr=>by obtain ⟨_,_,rfl⟩:=List.mem_map.1 hr;rfl
  cases b with
  | true =>
   simp at hI
   simp [hap.plain.all,hap.fz,hI]
   exact ⟨hap.nx,hap.ob⟩
  | false =>
   simp at hI
   obtain ⟨hI1,hI2⟩:=hI
   have hins:=insE_app (x:=x) l [] hI2
   rw [List.append_nil] at hins
   simp [hap.plain.all,rEvent,rRec]
   refine APK.appX (ys:=[rEvent x]) tyE59 rfl tyE63 (by simp) (x:=y) (by simp) hap (by simp [rowsOf,rEvent,rRec]) (by simp) (hrl _) (by simp) (by simp;omega) (by simp) fun y1 H3 h3 _ _=>?_
   simp [h3.plain.all,h3.fz,hins,hI1,insE]
   exact ⟨h3.nx,h3.ob⟩
end Go.Aft
end
section
set_option maxRecDepth 20000
namespace Go.Aft
open Go.Proofs.Tryz
structure StUp (l:List News) (k:Nat) (es:List Event):Prop where
 srt:es.Pairwise evLt
 mem:∀ e,e ∈ es ↔ ∃ (j:Nat) (h:j < l.length),j < k/\l[j].do_=1/\bestF l l[j].src l[j].id l.length=j/\e = ⟨l[j].src,l[j].id,l[j].rec_⟩
theorem best_last {l:List News} {j:Nat} (h:j < l.length) (hb:bestF l l[j].src l[j].id l.length=j):lastM l l[j].src l[j].id=some l[j]/\NewAt l l[j].src l[j].id j h:=by
 have:=best_spec l l[j].src l[j].id l.length (Nat.le_refl _)
 simp only [BestN,List.take_length] at this
 rcases this with ⟨q,_⟩ | ⟨j',hj',q1,_,q3,q4⟩
 ·rw [hb] at q;omega
 ·have:j'=j:=by omega
  subst this;exact ⟨q3,q4⟩
theorem StUp.all {l:List News} {es:List Event} (h:StUp l l.length es):es=standsM l:=by
 refine standsM_eq h.srt fun e=>?_
 rw [h.mem]
 constructor
 ·rintro ⟨j,hj,_,h1,hb,rfl⟩
  have:=(best_last hj hb).1
  simp only [oneM,this]
  rw [if_pos h1];simp
 ·intro he
  unfold oneM at he
  split at he
  ·rename_i n hn
   split at he
   ·rename_i h1
    rw [List.mem_singleton] at he
    have hb:=best_spec l e.src e.id l.length (Nat.le_refl _)
    simp only [BestN,List.take_length] at hb
    rcases hb with ⟨_,q⟩ | ⟨j,hj,q1,q2,q3,q4⟩
    ·rw [q] at hn;cases hn
    ·rw [q3] at hn
     have hnj:l[j]=n:=Option.some.inj hn
     refine ⟨j,hj,q2,by rw [hnj];exact h1,?_,?_⟩
     ·rw [q4.2.1,q4.2.2.1];exact q1
     ·rw [q4.2.1,q4.2.2.1,hnj];exact he
   ·simp at he
  ·simp at he
theorem StUp.put {l:List News} {k:Nat} {es:List Event} (h:StUp l k es) (hk:k < l.length) (h1:l[k].do_=1) (hb:bestF l l[k].src l[k].id l.length=k):StUp l (k+1) (insE ⟨l[k].src,l[k].id,l[k].rec_⟩ es):=by
 refine ⟨insE_sorted h.srt fun x hx q=>?_,fun e=>?_⟩
 ·obtain ⟨j,hj,h2,h3,h4,rfl⟩:=(h.mem x).1 hx
  simp only at q
  rw [q.1,q.2,hb] at h4
  omega
 ·rw [insE_mem,h.mem]
  constructor
  ·rintro (rfl | ⟨j,hj,h2,h3,h4,h5⟩)
   ·exact ⟨k,hk,Nat.lt_succ_self k,h1,hb,rfl⟩
   ·exact ⟨j,hj,by omega,h3,h4,h5⟩
  ·rintro ⟨j,hj,h2,h3,h4,h5⟩
   by_cases e:j=k
   ·subst e;exact .inl h5
   ·exact .inr ⟨j,hj,by omega,h3,h4,h5⟩
theorem StUp.skip {l:List News} {k:Nat} {es:List Event} (h:StUp l k es) (hk:k < l.length) (hn:¬ (l[k].do_=1/\bestF l l[k].src l[k].id l.length=k)):StUp l (k+1) es:=by
 refine ⟨h.srt,fun e=>?_⟩
 rw [h.mem]
 constructor
 ·rintro ⟨j,hj,h2,h3,h4,h5⟩
  exact ⟨j,hj,by omega,h3,h4,h5⟩
 ·rintro ⟨j,hj,h2,h3,h4,h5⟩
  refine ⟨j,hj,?_,h3,h4,h5⟩
  by_cases e:j=k
  ·subst e;exact absurd ⟨h3,h4⟩ hn
  ·omega
theorem ref05_StandsOf (l:List News) (hll:l.length<=999):AFun prog 80 [sl (l.map rNews)] (sl ((standsM l).map rEvent)):=by
 have cc:=cxK_ok (p:=kds [] [] [])
 refine AFun.bodyW (cxK_ok (p:=kds [] [] [])) func80 rfl call80 (by rw [ntmps80];simp) rfl fun hf H=>?_
 simp [ntmps80,results80] at hf |-
 refine AW.seq cc ?_
 simp
 refine AW.seq cc ?_
 simp
 refine AW.fzT 3 ?_
 refine AW.ev cc ?_
 simp
 refine AW.loopS cc (fun a:Nat × List Event=>⟨[(0,sl (l.map rNews)),(3,sl (a.2.map rEvent)),(4,lvI a.1)],[],H⟩) (fun a=>l.length - a.1)
  (fun a=>a.1<=l.length/\StUp l a.1 a.2/\a.2.length<=a.1) (0,[]) ⟨⟨Nat.zero_le _,⟨List.Pairwise.nil,by simp⟩,by simp⟩,by simp [S.fzT,fz]⟩ ?_
 rintro ⟨k,es⟩ ⟨hk,hI,hl⟩
 simp only at hk hI hl
 simp
 refine ⟨fun h=>?_,fun h=>?_⟩
 ·have hc:=counts_fun l l[k].src l[k].id
  simp at hc
  refine AW.draw cc [(18,.n)] (.q 0<|.q 1<|.q 2<|.q 3<|.q 4<|.q 5<|.q 6<|.q 7<|.q 8<|.q 9<|.q 10<|.q 11<|.q 13<|.q 14<|.q 15<|.q 16<|.q 19<|.q 12<|.q 17<|.q 18<|.q 20<|.q 21<|.done) (by kernel_rfl) ?_
  simp [h,List.getElem?_eq_getElem h,rNews,rRec]
  have hw:IntKind.wrap .i64 ((k:Int)+1)=(k:Int)+1:=by rw [wrap64] <;> omega
  refine FCg.afun (fun _=>hc) ?_
  by_cases h1:l[k].do_=1
  ·have h1b:(l[k].do_ == 1)=true:=by simpa using h1
   by_cases hb:bestF l l[k].src l[k].id l.length=k
   ·have hp:=ref05_put es (by omega) ⟨l[k].src,l[k].id,l[k].rec_⟩
    simp [rEvent,rRec] at hp
    simp [h1,h1b,hb]
    refine AW.draw cc [(17,.n)] (.q 0<|.q 1<|.q 2<|.q 3<|.q 4<|.q 6<|.q 7<|.q 8<|.q 9<|.q 11<|.q 12<|.q 13<|.q 14<|.q 5<|.q 10<|.q 15<|.q 16<|.q 17<|.q 18<|.done) (by kernel_rfl) ?_
    simp [h,List.getElem?_eq_getElem h,rNews,rRec]
    refine FC.afun hp ?_
    simp
    exact NX.go (k+1,insE ⟨l[k].src,l[k].id,l[k].rec_⟩ es) (by simp only;omega) ⟨h,hI.put h h1 hb,by simp only;rw [insE_len];omega⟩ (by simp [hw])
   ·simp [h1,h1b,hb]
    exact NX.go (k+1,es) (by simp only;omega) ⟨h,hI.skip h (fun q=>hb q.2),by simp only;omega⟩ (by simp [hw])
  ·have h1b:(l[k].do_ == 1)=false:=by simpa using h1
   simp [h1,h1b]
   exact NX.go (k+1,es) (by simp only;omega) ⟨h,hI.skip h (fun q=>h1 q.1),by simp only;omega⟩ (by simp [hw])
 ·have e:k=l.length:=by omega
  subst e
  rw [hI.all]
end Go.Aft
end
