import Derived.Test.YthinedikejlgmaaGreatA47
import Derived.Test.YthinedikejlgmaaGreatA42
import Derived.Test.YthinedikejlgmaaGreatA40
set_option linter.all false
section
set_option maxRecDepth 20000
namespace Go.Aft
open Go.Proofs.Tryz
theorem exQ_all:allE exQ.defs[1].exp=exQ.defs[1].exp :: (allE qSums ++ allEs [.mk 3 nmB 3 0 [] []]):=rfl
theorem exQ_sub:∀ x ∈ allE qSums,x ∈ allE exQ.defs[1].exp:=fun x hx=>by
 rw [exQ_all]
 exact List.mem_cons_of_mem _ (List.mem_append_left _ hx)
theorem exQ_l1:1 < (allE exQ.defs[1].exp).length:=by decide +kernel
theorem exQ_at:(allE (exQ.defs[1]'(by decide)).exp)[1]'exQ_l1=qSums:=rfl
theorem exQ_Node {defs:List Bag} (hk:knownM exQ exE=some defs) (h0:defs.getD 0 []=exA):AFun prog 30 [lv (rProg exQ),sl (exE.map rEvent),lvI 1,lvI 1] (.tup [bagL [⟨⟨10,1,5⟩,1⟩,⟨⟨14,1,12⟩,1⟩],lvI 0]):=by
 have hok:=known_ok exQ_asked hk
 exact mean_Node1 exQ (formed_strFit exQ_formed) exE 1 (by decide) 1 exQ_l1 exQ_asked hk hok.1 hok.2 (by rw [exQ_at];exact fun x hx=>formed_exp exQ_formed 1 (by decide) x (exQ_sub x hx)) (by rw [exQ_at];exact exQ_node _ h0) (by decide)
theorem AFun.nzA {P:Program} {f:FuncId} {args:List LV} {v:LV} (h:AFun P f (nzs args) v):AFun P f args v:=fun H=>⟨(h H).1,fun G w vs h1 h2 h3=>(h H).2 G w vs h1 h2 (LRs_nz _ _ h3)⟩
theorem law_known:AFun prog 17 [] (.d (.k (.bool true))):=by
 have cc:=cxS_ok (p:=kds [] [] [])
 refine AFun.body (cxS_ok (p:=kds [] [] [])) func17 rfl call17 (by rw [ntmps17];simp) rfl fun hf H=>?_
 have hs:=formed_strFit exQ_formed
 obtain ⟨b,hk,hbl,hb1⟩:=exQ_ans
 have e1:=law_exQ
 have e2:=law_exE
 have e3:=mean_Of exQ hs exE
 have e4:=mean_Order exQ hs
 have e5:=mean_Says exQ hs exE 1
 have e6:=exQ_Node hk rfl
 have e7:=mean_Calc exCalc ⟨10,1,5⟩ 7
 have e8:=mean_Fold 2 [⟨⟨10,1,5⟩,3⟩]
 have e9:=mean_Fold 2 []
 have v3:ofMeanV exQ exE=.tup [sl ([[⟨⟨10,1,5⟩,1⟩,⟨⟨14,1,7⟩,1⟩],b,[⟨⟨14,1,7⟩,1⟩]].map rBag),lvI 0]:=by
  unfold ofMeanV
  rw [if_pos exQ_asked,hk]
 have v4:orderV exQ=.tup [sl ([[0],[1],[2]].map rT),lvI 0]:=by
  unfold orderV
  rw [if_pos exQ_formed,exQ_groups]
 have v5:saysV exQ exE 1=.tup [bagL [⟨⟨11,1,2⟩,1⟩],lvI 0]:=by
  unfold saysV
  rw [if_pos ⟨exQ_asked,by omega,by decide⟩,exQ_says]
 have v7:(if mAsk exCalc ⟨10,1,5⟩ 7 then LV.tup [lvI (cVal ⟨10,1,5⟩ 7 exCalc),lvI 0] else .tup [lvI 0,lvI 2])=.tup [lvI (-3),lvI 0]:=by
  rw [if_pos exQ_calc.1,exQ_calc.2]
 rw [v3] at e3
 rw [v4] at e4
 rw [v5] at e5
 rw [v7] at e7
 rw [exQ_fold] at e8
 rw [exQ_fold0] at e9
 obtain ⟨x,y,hxy⟩:∃ x y,lv (rProg exQ)=.agg [.d x,.d y]:=⟨_,_,rfl⟩
 obtain ⟨E1,hE1⟩:∃ E1,exE.map rEvent=E1:=⟨_,rfl⟩
 have hEl:0 < E1.length:=by rw [<- hE1];decide
 have hE0:E1[0]=rEvent ⟨0,1,⟨10,1,5⟩⟩:=by subst hE1;rfl
 rw [hxy] at e1 e3 e4 e5 e6
 rw [hE1] at e2 e3 e5 e6
 simp [exCalc,rCalc,rCalcs,rRec] at e7
 simp [rItem] at e8
 simp at e9
 simp [bagL,rItem] at e5 e6
 have hr1:List.range' 0 1=[0]:=rfl
 have hr2:List.range' 0 2=[0,1]:=rfl
 simp [ntmps17,results17]
 refine EC.afun e1 ?_
 simp
 refine EC.afun e2 ?_
 simp
 refine EC.afun e3 ?_
 simp
 refine EC.afun e4 ?_
 simp
 refine EC.afun e5 ?_
 simp
 refine EC.afun e6 ?_
 have e7':AFun prog 13 [.agg [lvI 7,lvI 0,.d (.sl [[.k (.int .i64 5),.k (.int .i64 0),.k (.slice none 0 0)],[.k (.int .i64 2),.k (.int .i64 0),.k (.slice none 0 0)]])],.agg [lvI 10,lvI 1,lvI 5],lvI 7] (.tup [lvI (-3),lvI 0]):=AFun.nzA (by simpa [nzs,LV.nz,DV.nz,nzR,nzC] using e7)
 simp [hr2,hE0,rEvent,rRec,hEl]
 refine EC.afun e7' ?_
 simp [hr1,hE0,rEvent,rRec,hEl]
 refine EC.afun e8 ?_
 simp
 have e9':AFun prog 15 [lvI 2,.d (.k (.slice none 0 0))] (.tup [lvI 0,lvI 5]):=AFun.nzA (by simpa [nzs,LV.nz,DV.nz,nzR,nzC] using e9)
 refine EC.afun e9' ?_
 simp
 refine AW.draw cc [(3,.n),(4,.n),(6,.n),(11,.n),(13,.n),(17,.n),(19,.n),(23,.n),(24,.n),(26,.n),(41,.n)] (.q 0<|.q 1<|.q 3<|.q 4<|.q 5<|.q 2<|.q 6<|.q 7<|.q 8<|.q 9<|.q 11<|.q 12<|.q 10<|.q 13<|.q 14<|.q 15<|.q 16<|.q 17<|.q 18<|.q 19<|.q 20<|.q 21<|.q 22<|.q 23<|.q 24<|.q 25<|.q 26<|.q 27<|.q 28<|.q 29<|.q 30<|.q 31<|.q 32<|.q 33<|.q 34<|.q 35<|.q 36<|.q 37<|.q 41<|.q 38<|.q 39<|.q 40<|.q 42<|.q 43<|.q 44<|.done) (by kernel_rfl) ?_
 have i1:=law_item 10 1 5
 have i2:=law_item 14 1 7
 have i3:=law_item 11 1 2
 have i4:=law_item 14 1 12
 have i5:=law_item 13 1 5
 simp [rItem] at i1 i2 i3 i4 i5
 have s1:=bag_Same [⟨⟨10,1,5⟩,1⟩,⟨⟨14,1,7⟩,1⟩] [⟨⟨10,1,5⟩,1⟩,⟨⟨14,1,7⟩,1⟩]
 have s2:=bag_Same [⟨⟨14,1,7⟩,1⟩] [⟨⟨14,1,7⟩,1⟩]
 have s3:=bag_Same [⟨⟨11,1,2⟩,1⟩] [⟨⟨11,1,2⟩,1⟩]
 have s4:=bag_Same [⟨⟨10,1,5⟩,1⟩,⟨⟨14,1,12⟩,1⟩] [⟨⟨10,1,5⟩,1⟩,⟨⟨14,1,12⟩,1⟩]
 simp [rItem] at s1 s2 s3 s4
 have hb1':b[1]'(by omega) = ⟨⟨13,1,5⟩,1⟩:=by rw [List.getElem?_eq_getElem (show 1 < b.length by omega)] at hb1;exact Option.some.inj hb1
 have hbl1:1 < b.length:=by omega
 simp [hr1,hr2,rBag,rItem]
 refine FC.afun i1 ?_
 simp
 refine FC.afun i2 ?_
 simp [hr1,hr2,rBag,rItem]
 refine FC.afun s1 ?_
 simp
 refine FCg.afun (fun _=>i2) ?_
 simp [hr1,hr2,rBag,rItem]
 refine FCg.afun (fun _=>s2) ?_
 simp
 refine FCg.afun (fun _=>i3) ?_
 simp [hr1,hr2,rBag,rItem]
 refine FCg.afun (fun _=>s3) ?_
 simp
 refine FCg.afun (fun _=>i1) ?_
 simp
 refine FCg.afun (fun _=>i4) ?_
 simp [hr1,hr2,rBag,rItem]
 refine FCg.afun (fun _=>s4) ?_
 have hbl2:(4:Int) < b.length:=by omega
 simp [hbl,hbl1,hbl2,hb1',rItem]
 refine FCg.afun (fun _=>i5) ?_
 simp [hbl,hbl1,hbl2,hb1',rItem]
 omega
end Go.Aft
end
section
set_option maxRecDepth 20000
namespace Go.Aft
open Go.Proofs.Tryz
theorem evs_clash {l:List Event} (h:evsOk l=true):clashM (l.map evN)=none:=clashM_none fun j hj=>by
 have hjl:j < l.length:=by simpa using hj
 unfold clashAt
 rw [List.getElem?_map,List.getElem?_eq_getElem hjl]
 simp only [Option.map_some]
 refine List.findIdx?_eq_none_iff.2 fun a ha=>?_
 rw [<- List.map_take] at ha
 obtain ⟨x,hx,rfl⟩:=List.mem_map.1 ha
 unfold evsOk at h
 rw [List.all_eq_true] at h
 have h1:=h j (List.mem_range.2 hjl)
 have hg:l.getD j default=l[j]:=by rw [List.getD_eq_getElem?_getD,List.getElem?_eq_getElem hjl];rfl
 unfold evOk at h1
 rw [hg,Bool.and_eq_true,Bool.not_eq_true',List.any_eq_false] at h1
 have h2:=h1.1 x hx
 have h3:¬ (x.src=l[j].src/\x.id=l[j].id):=by simpa using h2
 unfold clashB evN
 exact decide_eq_false fun w=>h3 ⟨w.2.2.1,w.2.2.2.1⟩
def evR (l:List Event) (srcs:Int) (i:Nat):Bool:=inB (l.getD i default).src 0 (srcs - 1) && inB (l.getD i default).id 0 999 && recB (l.getD i default).rec_ && evOk l i (l.getD i default)
def eventsB (l:List Event) (srcs:Int):Bool:=inB srcs 1 4 && decide (l.length<=60) && (List.range l.length).all (evR l srcs)
theorem beforeM_lt (a b:Event):beforeM a b=decide (evLt a b):=rfl
theorem ref05_Events (l:List Event) (srcs:Int):AFun prog 45 [sl (l.map rEvent),lvI srcs] (.d (.k (.bool (eventsB l srcs)))):=by
 have cc:=cxK_ok (p:=kds [] [] [])
 refine AFun.body (cxK_ok (p:=kds [] [] [])) func45 rfl call45 (by rw [ntmps45];simp) rfl fun hf H=>?_
 simp [ntmps45,results45] at hf |-
 refine EC.afun (ref05_in _ _ _) ?_
 cases h1:inB srcs 1 4 with
 | false=>simp [eventsB,h1]
 | true =>
  have hs:1<=srcs/\srcs<=4:=by unfold inB at h1;simpa using h1
  by_cases h2:l.length<=60
  ·have h2':¬ (60 < (l.length:Int)):=by omega
   have hws:IntKind.i64.wrap (srcs - 1)=srcs - 1:=by rw [wrap64] <;> omega
   simp [h2']
   refine AW.loopS cc (fun i:Nat=>⟨[(0,sl (l.map rEvent)),(1,lvI srcs),(5,lvI i)],[],H⟩) (fun i=>l.length - i) (fun i=>i<=l.length/\∀ j,j < i->evR l srcs j=true) 0 ⟨⟨Nat.zero_le _,fun j hj=>absurd hj (by omega)⟩,by simp⟩ ?_
   rintro i ⟨hi,hk⟩
   simp
   refine ⟨fun h=>?_,fun h=>?_⟩
   ·obtain ⟨x,hx⟩:∃ x,l[i]=x:=⟨_,rfl⟩
    have hg:l.getD i default=x:=by rw [List.getD_eq_getElem?_getD,List.getElem?_eq_getElem h,<- hx];rfl
    have hbad:evR l srcs i=false->eventsB l srcs=false:=fun q=>by
     unfold eventsB
     have:(List.range l.length).all (evR l srcs)=false:=List.all_eq_false.2 ⟨i,List.mem_range.2 h,by simp [q]⟩
     rw [this];simp
    have hrec:=ref05_Rec x.rec_
    simp [rRec] at hrec
    refine AW.draw cc [(7,.n),(15,.n),(24,.n),(40,.n)] (.q 0<|.q 1<|.q 2<|.q 3<|.q 5<|.q 6<|.q 4<|.q 7<|.q 8<|.q 9<|.q 10<|.q 11<|.q 12<|.q 13<|.q 14<|.q 15<|.q 16<|.q 17<|.q 18<|.q 19<|.q 20<|.q 21<|.q 22<|.q 23<|.q 24<|.q 25<|.q 26<|.q 27<|.q 28<|.q 29<|.q 30<|.q 31<|.q 32<|.q 33<|.q 34<|.q 36<|.q 37<|.q 38<|.q 35<|.q 39<|.q 40<|.q 41<|.q 42<|.q 43<|.done) (by kernel_rfl) ?_
    simp [h,List.getElem?_eq_getElem h,hx,rEvent,rRec,hws]
    refine FC.afun (ref05_in _ _ _) ?_
    have hg1:i ≠ 0->∃ (h':i - 1 < l.length),True:=fun _=>⟨by omega,trivial⟩
    have hwi:IntKind.i64.wrap ((i:Int)+1)=i+1:=wrap_succ (n:=9223372036854775807) (show i < 9223372036854775807 by omega) (Nat.le_refl _)
    obtain ⟨okI,hokI⟩:∃ okI:Bool,(inB x.src 0 (srcs - 1) && inB x.id 0 999 && recB x.rec_ && (decide (i=0) || beforeM (l.getD (i - 1) default) x))=okI:=⟨_,rfl⟩
    have hevR:evR l srcs i=(okI && !(l.take i).any (fun y=>decide (y.src=x.src/\y.id=x.id))):=by
     unfold evR evOk
     rw [hg,<- hokI]
     cases inB x.src 0 (srcs - 1) <;> cases inB x.id 0 999 <;> cases recB x.rec_ <;> cases (decide (i=0) || beforeM (l.getD (i - 1) default) x) <;> simp
    by_cases hi0:i=0
    ·subst hi0
     simp [h,List.getElem?_eq_getElem h,hx,rEvent,rRec,hws]
     refine FCg.afun (fun _=>ref05_in _ _ _) ?_
     simp [h,List.getElem?_eq_getElem h,hx,rEvent,rRec,hws]
     refine FCg.afun (fun _=>hrec) ?_
     simp [h,List.getElem?_eq_getElem h,hx,rEvent,rRec,hws]
     refine FCg.afun (v:=.d (.k (.bool false))) (fun q=>by cases q) ?_
     simp
     refine ⟨fun q=>?_,fun a1 a2 a3=>?_⟩
     ·refine hbad ?_
      rw [hevR,<- hokI]
      rcases q with (q | q) | q <;> simp [q]
     ·have hok:okI=true:=by rw [<- hokI,a1,a2,a3];rfl
      refine AW.loopS cc (fun j:Nat=>⟨[(0,sl (l.map rEvent)),(1,lvI srcs),(5,lvI (0:Nat)),(6,lvI j)],[],H⟩) (fun j=>0 - j) (fun j=>j<=0/\∀ k (hk:k < l.length),k < j->¬ (l[k].src=x.src/\l[k].id=x.id)) 0 ⟨⟨Nat.zero_le _,fun k _ hk0=>absurd hk0 (by omega)⟩,by simp⟩ ?_
      rintro j ⟨hj,hkj⟩
      simp
      have hjeq:j=0:=by omega
      have hany:(l.take 0).any (fun y=>decide (y.src=x.src/\y.id=x.id))=false:=List.any_eq_false.2 fun y hy=>by
       obtain ⟨k,hk,rfl⟩:=List.mem_take_iff_getElem.1 hy
       simpa using hkj k (by omega) (by omega)
      have hev:evR l srcs 0=true:=by rw [hevR,hany,hok];rfl
      refine ⟨fun q=>absurd q (by omega),?_⟩
      exact NX.go (0+1) (by omega) ⟨h,fun k hk1=>by
       by_cases e:k=0
       ·rw [e];exact hev
       ·exact hk k (by omega)⟩ (by simp;exact (by decide:IntKind.i64.wrap 1=1))
    ·have hi1:i - 1 < l.length:=by omega
     obtain ⟨y,hy⟩:∃ y,l[i - 1]=y:=⟨_,rfl⟩
     have hgy:l.getD (i - 1) default=y:=by rw [List.getD_eq_getElem?_getD,List.getElem?_eq_getElem hi1,<- hy];rfl
     have hwp:IntKind.i64.wrap ((i:Int) - 1)=i - 1:=by rw [wrap64] <;> omega
     have htn:((i:Int) - 1).toNat=i - 1:=by omega
     have hpos:0 < i:=by omega
     have hbf:=ref05_before y x
     simp [rEvent,rRec] at hbf
     rw [hgy] at hokI
     simp [h,List.getElem?_eq_getElem h,hx,rEvent,rRec,hws]
     refine FCg.afun (fun _=>ref05_in _ _ _) ?_
     simp [h,List.getElem?_eq_getElem h,hx,rEvent,rRec,hws]
     refine FCg.afun (fun _=>hrec) ?_
     simp [h,List.getElem?_eq_getElem h,hx,rEvent,rRec,hws,hi0,hpos,hwp,htn,List.getElem?_eq_getElem hi1,hy]
     refine ⟨fun a1 a2 a3=>⟨⟨⟨a1,a2⟩,a3⟩,by omega,by omega⟩,FCg.afun (fun _=>hbf) ?_⟩
     simp
     refine ⟨fun q=>?_,fun a1 a2 a3 a4=>?_⟩
     ·refine hbad ?_
      rw [hevR,<- hokI]
      rcases q with ((q | q) | q) | q
      ·simp [q]
      ·simp [q]
      ·simp [q]
      ·have:beforeM y x=false:=by rw [beforeM_lt];exact decide_eq_false q
       simp [hi0,this]
     ·have hok:okI=true:=by rw [<- hokI,a1,a2,a3,beforeM_lt,decide_eq_true a4];simp
      refine AW.loopS cc (fun j:Nat=>⟨[(0,sl (l.map rEvent)),(1,lvI srcs),(5,lvI (i:Nat)),(6,lvI j)],[],H⟩) (fun j=>i - j) (fun j=>j<=i/\∀ k (hk:k < l.length),k < j->¬ (l[k].src=x.src/\l[k].id=x.id)) 0 ⟨⟨Nat.zero_le _,fun k _ hk0=>absurd hk0 (by omega)⟩,by simp⟩ ?_
      rintro j ⟨hj,hkj⟩
      simp
      refine ⟨fun hji=>?_,fun hji=>?_⟩
      ·have hjl:j < l.length:=by omega
       obtain ⟨z,hz⟩:∃ z,l[j]=z:=⟨_,rfl⟩
       have hwj:IntKind.i64.wrap ((j:Int)+1)=j+1:=wrap_succ (n:=9223372036854775807) (show j < 9223372036854775807 by omega) (Nat.le_refl _)
       refine AW.draw cc [] (.q 0<|.q 1<|.q 2<|.q 3<|.q 5<|.q 6<|.q 7<|.q 8<|.q 4<|.q 9<|.q 10<|.q 11<|.q 12<|.q 13<|.q 14<|.q 15<|.q 17<|.q 18<|.q 19<|.q 20<|.q 16<|.q 21<|.q 22<|.q 23<|.done) (by kernel_rfl) ?_
       by_cases hsame:z.src=x.src/\z.id=x.id
       ·have hany:(l.take i).any (fun y=>decide (y.src=x.src/\y.id=x.id))=true:=List.any_eq_true.2 ⟨z,by rw [<- hz];exact List.mem_take_iff_getElem.2 ⟨j,by omega,rfl⟩,decide_eq_true hsame⟩
        have hev:eventsB l srcs=false:=hbad (by rw [hevR,hany];simp)
        simp [h,hjl,List.getElem?_eq_getElem h,List.getElem?_eq_getElem hjl,hx,hz,rEvent,rRec,hsame.1,hsame.2,hev]
       ·have hgo:∀ k (hk:k < l.length),k < j+1->¬ (l[k].src=x.src/\l[k].id=x.id):=fun k hk hkj1=>by
         by_cases e:k=j
         ·subst e;rw [hz];exact hsame
         ·exact hkj k hk (by omega)
        by_cases hss:z.src=x.src
        ·have hid:¬ z.id=x.id:=fun w=>hsame ⟨hss,w⟩
         simp [h,hjl,List.getElem?_eq_getElem h,List.getElem?_eq_getElem hjl,hx,hz,rEvent,rRec,hss,hid]
         exact NX.go (j+1) (by omega) ⟨by omega,hgo⟩ (by simp [hwj])
        ·simp [h,hjl,List.getElem?_eq_getElem h,List.getElem?_eq_getElem hjl,hx,hz,rEvent,rRec,hss]
         exact NX.go (j+1) (by omega) ⟨by omega,hgo⟩ (by simp [hwj])
      ·have hjeq:j=i:=by omega
       have hany:(l.take i).any (fun y=>decide (y.src=x.src/\y.id=x.id))=false:=List.any_eq_false.2 fun y hy=>by
        obtain ⟨k,hk,rfl⟩:=List.mem_take_iff_getElem.1 hy
        simpa using hkj k (by omega) (by omega)
       have hev:evR l srcs i=true:=by rw [hevR,hany,hok];rfl
       exact NX.go (i+1) (by omega) ⟨h,fun k hk1=>by
        by_cases e:k=i
        ·rw [e];exact hev
        ·exact hk k (by omega)⟩ (by simp [hwi])
   ·have:i=l.length:=by omega
    subst this
    have:(List.range l.length).all (evR l srcs)=true:=List.all_eq_true.2 fun j hj=>hk j (List.mem_range.1 hj)
    simp [eventsB,h1,h2,this]
  ·have h2':60 < (l.length:Int):=by omega
   simp [h2',eventsB,h2]
open Classical in
theorem ref06_Asked (p:Prog) (hs:∀ s ∈ p.srcs ++ defNames p,strFit s) (l:List Event):AFun prog 43 [lv (rProg p),sl (l.map rEvent)] (.d (.k (.bool (askedM p l)))):=by
 refine AFun.body (cxK_ok (p:=kds [2] [] [])) func43 rfl call43 (by rw [ntmps43];simp) rfl fun hf H=>?_
 have h1:=ref02_Prog p hs
 have h2:=ref05_Events l p.srcs.length
 have hm:askedM p l=(decide (formed p) && eventsB l p.srcs.length):=by
  unfold askedM eventsB
  by_cases hl:l.length<=60
  ·cases hf1:decide (formed p) with
   | false=>simp
   | true =>
    cases he:evsOk l with
    | false =>
     have:(List.range l.length).all (evR l p.srcs.length)=false:=by
      unfold evsOk at he
      obtain ⟨i,hi,q⟩:=List.all_eq_false.1 he
      refine List.all_eq_false.2 ⟨i,hi,?_⟩
      unfold evR
      simp at q
      simp [q]
     simp [this]
    | true =>
     have hc:=evs_clash he
     unfold formedB plainB
     rw [hc]
     simp only [Bool.true_and,hl,decide_true,Bool.and_true,List.length_map]
     congr 1
     unfold evsOk at he
     rw [List.all_eq_true] at he
     rw [Bool.eq_iff_iff,Bool.not_eq_true',List.any_eq_false,List.all_eq_true]
     constructor
     ·intro h i hi
      have hil:=List.mem_range.1 hi
      have hg:l.getD i default=l[i]:=by rw [List.getD_eq_getElem?_getD,List.getElem?_eq_getElem hil];rfl
      have h3:=h (evN l[i]) (List.mem_map.2 ⟨l[i],List.getElem_mem hil,rfl⟩)
      have h4:goodB (evN l[i]) p.srcs.length=true:=by simpa using h3
      have h5:=he i hi
      unfold evR
      rw [hg] at h5 |-
      rw [h5]
      unfold goodB at h4
      simp only [evN,if_true,Bool.and_eq_true,saidB] at h4
      simp only [h4.1,h4.2.1.1,h4.2.2,Bool.and_self]
     ·intro h n hn
      obtain ⟨e,he2,rfl⟩:=List.mem_map.1 hn
      obtain ⟨i,hil,rfl⟩:=List.mem_iff_getElem.1 he2
      have hg:l.getD i default=l[i]:=by rw [List.getD_eq_getElem?_getD,List.getElem?_eq_getElem hil];rfl
      have h3:=h i (List.mem_range.2 hil)
      unfold evR at h3
      rw [hg] at h3
      simp only [Bool.and_eq_true] at h3
      have h6:inB 1 1 99=true:=by decide
      have:goodB (evN l[i]) p.srcs.length=true:=by
       unfold goodB
       simp only [evN,if_true,saidB,h3.1.1.1,h3.1.1.2,h3.1.2,h6,Bool.and_self]
      simp [this]
  ·simp [hl]
 rw [hm]
 simp [rProg] at h1 h2
 simp [ntmps43,results43,rProg]
 refine EC.afun h1 ?_
 by_cases hp:formed p
 ·simp [hp]
  refine EC.afun h2 ?_
  simp [hp]
 ·simp [hp]
end Go.Aft
end
section
set_option maxRecDepth 20000
namespace Go.Aft
theorem getD_nils {l:List Bag} (h:∀ b ∈ l,b=[]) (i:Nat):l.getD i []=[]:=by
 rw [List.getD_eq_getElem?_getD]
 cases q:l[i]? with
 | none=>rfl
 | some b=>exact h b (List.mem_of_getElem? q)
theorem set_nils {l:List Bag} (h:∀ b ∈ l,b=[]) (d:Nat):l.set d []=l:=by
 refine List.ext_getElem (by simp) fun i h1 h2=>?_
 rw [List.getElem_set]
 split
 ·exact (h _ (List.getElem_mem h2)).symm
 ·rfl
section
variable {p:Prog} {W:World'} (hs:∀ b ∈ W.srcs,b=[]) (hd:∀ b ∈ W.defs,b=[])
include hs hd
theorem actM_nils (op:Int) (name:Str) (n f:Int) (cs:List Calc) {ks:List Bag} (hk:∀ b ∈ ks,b=[]):actM p W op name n f cs ks=[]:=by
 unfold actM
 simp only [getD_nils hs,getD_nils hd,getD_nils hk]
 simp [laterM,whereM,eachM,spansM,keysOf,pairM,asofM,lackM,onceM]
mutual
theorem expM_nils (top:Int):∀ e:Exp,expM p W top e=some []
 | .mk op name n f cs kids=>by
  obtain ⟨ks,h1,h2⟩:=expsM_nils top kids
  rw [expM,h1]
  simp only [actM_nils hs hd op name n f cs h2]
  rfl
theorem expsM_nils (top:Int):∀ es:List Exp,∃ ks,expsM p W top es=some ks/\∀ b ∈ ks,b=[]
 | []=>⟨[],by rw [expsM],by simp⟩
 | e :: es=>by
  obtain ⟨ks,h1,h2⟩:=expsM_nils top es
  refine ⟨[] :: ks,?_,?_⟩
  ·rw [expsM,expM_nils top e,h1]
  ·intro b hb
   rcases List.mem_cons.1 hb with q | q
   ·exact q
   ·exact h2 b q
end
end
section
variable {p:Prog} {srcs defs:List Bag} (hs:∀ b ∈ srcs,b=[]) (hd:∀ b ∈ defs,b=[])
include hs hd
theorem passK_nils (top:Int):∀ g:List Nat,passK p srcs top g defs=some defs
 | []=>rfl
 | d :: g=>by
  have h1:stepK p srcs top defs d=some defs:=by
   rw [stepK,expM_nils (W:=⟨srcs,defs⟩) hs hd]
   simp only [set_nils hd]
  rw [passK,h1]
  exact passK_nils top g
theorem topsK_nils (far:Int) (g:List Nat):∀ (f:Nat) (top:Int),topsK p srcs far g f top defs=some defs
 | 0,_=>rfl
 | f+1,top=>by
  rw [topsK,passK_nils hs hd]
  simp only
  split
  ·rfl
  ·exact topsK_nils far g f _
theorem groupsK_nils:∀ gs:List (List Nat),groupsK p srcs gs defs=some defs
 | []=>rfl
 | g :: gs=>by
  rw [groupsK,groupK,topsK_nils hs hd]
  exact groupsK_nils gs
end
theorem srcsM_nils (p:Prog):∀ b ∈ srcsM p [],b=[]:=fun b hb=>by
 obtain ⟨i,_,rfl⟩:=List.mem_map.1 hb
 rfl
theorem knownM_nil (p:Prog):knownM p []=some (List.replicate p.defs.length []):=by
 rw [knownM]
 exact groupsK_nils (srcsM_nils p) (fun b hb=>List.eq_of_mem_replicate hb) _
end Go.Aft
end
section
set_option maxRecDepth 20000
namespace Go.Aft
open Go.Proofs.Tryz
theorem countS_snoc (l:List Event) (e:Event) (src:Int) (r:Rec):countS (l ++ [e]) src r=countS l src r+(if e.src=src/\e.rec_=r then 1 else 0):=by
 unfold countS
 rw [saysI_snoc,cntM_app]
 by_cases h:e.src=src
 ·rw [if_pos h]
  simp only [cntM,h,true_and]
  split <;> omega
 ·rw [if_neg h]
  simp [cntM,h]
theorem countS_le (l:List Event) (src:Int) (r:Rec):0<=countS l src r/\countS l src r<=l.length:=by
 have h1:=cntM_ones (r:=r) (l:=saysI l src) fun x hx=>by obtain ⟨_,_,_,rfl⟩:=saysI_mem hx;rfl
 have h2:=saysI_len l src
 unfold countS
 omega
theorem law_count (l:List Event) (src:Int) (r:Rec):AFun prog 44 [sl (l.map rEvent),lvI src,lv (rRec r)] (lvI (countS l src r)):=by
 have cc:=cxS_ok (p:=kds [5] [] [])
 refine AFun.body (cxS_ok (p:=kds [5] [] [])) func44 rfl call44 (by rw [ntmps44];simp) rfl fun hf H=>?_
 simp [ntmps44,results44,rRec] at hf |-
 refine AW.loopS cc (fun i:Nat=>⟨[(0,sl (l.map rEvent)),(1,lvI src),(5,.ip [lvI r.at_,lvI r.key,lvI r.val] 0),(7,lvI (countS (l.take i) src r)),(8,lvI i)],[],H⟩) (fun i=>l.length - i) (fun i=>i<=l.length) 0 ⟨Nat.zero_le _,by simp [countS,saysI,cntM]⟩ ?_
 intro i hi
 simp
 refine ⟨fun h=>?_,fun h=>?_⟩
 ·obtain ⟨x,hx⟩:∃ x,l[i]=x:=⟨_,rfl⟩
  have hta:l.take (i+1)=l.take i ++ [x]:=by rw [<- take_more h,hx]
  have hsn:=countS_snoc (l.take i) x src r
  rw [<- hta] at hsn
  have hb:=countS_le (l.take i) src r
  have hbl:(l.take i).length<=i:=by simp;omega
  have hfl:l.length<=9223372036854775807:=hf.1
  have hw':=wrap_succ h hfl
  have hw2:IntKind.i64.wrap (countS (l.take i) src r+1)=countS (l.take i) src r+1:=by rw [wrap64] <;> omega
  refine AW.draw cc [] (.q 0<|.q 1<|.q 2<|.q 3<|.q 5<|.q 4<|.q 6<|.q 7<|.q 8<|.q 9<|.q 10<|.q 11<|.q 12<|.q 13<|.q 14<|.q 15<|.done) (by kernel_rfl) ?_
  by_cases h1:x.src=src
  ·by_cases h2:x.rec_=r
   ·have h2':x.rec_.at_=r.at_/\x.rec_.key=r.key/\x.rec_.val=r.val:=by rw [h2];exact ⟨rfl,rfl,rfl⟩
    rw [if_pos ⟨h1,h2⟩] at hsn
    simp [h,List.getElem?_eq_getElem h,hx,rEvent,rRec,h1,h2'.1,h2'.2.1,h2'.2.2]
    exact NX.go (i+1) (by omega) h (by simp [hw',hw2,hsn])
   ·have h2':¬ (x.rec_.at_=r.at_/\x.rec_.key=r.key/\x.rec_.val=r.val):=fun q=>h2 (by
     obtain ⟨x1,x2,⟨x3,x4,x5⟩⟩:=x
     obtain ⟨r1,r2,r3⟩:=r
     simp only at q
     rw [q.1,q.2.1,q.2.2])
    rw [if_neg (fun q=>h2 q.2)] at hsn
    simp [h,List.getElem?_eq_getElem h,hx,rEvent,rRec,h1]
    refine ⟨fun q1 q2 q3=>absurd ⟨q1,q2,q3⟩ h2',fun _=>?_⟩
    exact NX.go (i+1) (by omega) h (by simp [hw',hsn])
  ·rw [if_neg (fun q=>h1 q.1)] at hsn
   simp [h,List.getElem?_eq_getElem h,hx,rEvent,rRec,h1]
   exact NX.go (i+1) (by omega) h (by simp [hw',hsn])
 ·have:i=l.length:=by omega
  subst this
  rw [List.take_length]
theorem recB_of {r:Rec} (h1:0<=r.at_/\r.at_<=200) (h2:inMost r.key) (h3:inMost r.val):recB r=true:=by
 unfold inMost at h2 h3
 simp [recB,inB,h1,h2,h3]
theorem bag_plain {b:Bag} (h:BagOk b):plainB' b=true:=by
 obtain ⟨hi,hl,hx⟩:=h
 have hg:∀ j (hj:j < b.length),b.getD j default=b[j]:=fun j hj=>by rw [List.getD_eq_getElem?_getD,List.getElem?_eq_getElem hj];rfl
 have h1:goodBag b=true:=by
  rw [goodBag_true fun j hj=>?_]
  ·exact decide_eq_true hl
  ·have hxj:=hx b[j] (List.getElem_mem hj)
   unfold itemB
   rw [hg j hj,recB_of hxj.1 hxj.2.1 hxj.2.2.1]
   have hn:=hxj.2.2.2
   have e1:decide (b[j].n ≠ 0/\-1000000<=b[j].n/\b[j].n<=1000000)=true:=decide_eq_true (by omega)
   rw [e1]
   by_cases e:j=0
   ·simp [e]
   ·rw [hg (j - 1) (by omega)]
    have:=(List.pairwise_iff_getElem.1 hi) (j - 1) j (by omega) hj (by omega)
    simp [this]
 have h2:wholeB b=true:=by
  unfold wholeB
  rw [Bool.not_eq_true',List.any_eq_false]
  intro x hxb
  have:=(hx x hxb).2.2.2
  simp;omega
 rw [plainB',h1,h2];rfl
theorem asked_nil {p:Prog} {l:List Event} (h:askedM p l=true):askedM p []=true:=by
 simp only [askedM,Bool.and_eq_true,decide_eq_true_eq] at h |-
 refine ⟨⟨⟨h.1.1.1,by simp⟩,rfl⟩,?_⟩
 have h4:=h.2
 unfold formedB plainB at h4 |-
 simp only [Bool.and_eq_true] at h4
 rw [h4.1.1.1]
 rfl
def cntSrc (l:List Event) (src:Int):Int:=((l.filter fun e=>decide (e.src=src)).length:Int)
theorem cntSrc_snoc (l:List Event) (e:Event) (src:Int):cntSrc (l ++ [e]) src=cntSrc l src+(if e.src=src then 1 else 0):=by
 unfold cntSrc
 rw [List.filter_append,List.length_append]
 by_cases h:e.src=src
 ·rw [List.filter_cons_of_pos (by simpa using h),if_pos h];simp
 ·rw [List.filter_cons_of_neg (by simpa using h),if_neg h];simp
theorem cntSrc_le (l:List Event) (src:Int):0<=cntSrc l src/\cntSrc l src<=l.length:=by
 have:=List.length_filter_le (fun e:Event=>decide (e.src=src)) l
 unfold cntSrc;omega
theorem sumN_app:∀ a b:List Item,sumN (a ++ b)=sumN a+sumN b
 | [],b=>by simp [sumN]
 | x :: a,b=>by rw [List.cons_append,sumN,sumN,sumN_app a b];omega
theorem sumN_bd:∀ {l:List Item},(∀ x ∈ l,1<=x.n/\x.n<=1000000)->0<=sumN l/\sumN l<=1000000 * l.length
 | [],_=>by simp [sumN]
 | x :: l,h=>by
  have h1:=sumN_bd (l:=l) fun y hy=>h y (by simp [hy])
  have h2:=h x (by simp)
  rw [sumN,List.length_cons];omega
theorem law_MeanNothing (p:Prog) (hs:fitP p) (l:List Event) (s:Int) (hs8:0<=s/\s < 256):AFun prog 10 [lv (rProg p),sl (l.map rEvent),.d (.k (.int .u8 s))] (.d (.k (.bool true))):=by
 have cc:=cxS_ok (p:=kds [3] [] [])
 refine AFun.body (cxS_ok (p:=kds [3] [] [])) func10 rfl call10 (by rw [ntmps10];simp) rfl fun hf H=>?_
 have h1:=ref06_Asked p hs l
 simp [rProg] at h1
 simp [ntmps10,results10,rProg] at hf |-
 refine EC.afun h1 ?_
 cases ha:askedM p l with
 | false =>
  simp
  refine EC.afun law_known ?_
  simp
 | true =>
  obtain ⟨hp,hl,hi⟩:=asked_ok ha
  have hb:=formed_b hp
  have v2:ofMeanV p []=.tup [sl ((List.replicate p.defs.length ([]:Bag)).map rBag),lvI 0]:=by
   unfold ofMeanV
   rw [if_pos (asked_nil ha),knownM_nil]
  have h2:=mean_Of p hs []
  rw [v2] at h2
  have h2':AFun prog 25 [lv (rProg p),.d (.k (.slice none 0 0))] (.tup [sl ((List.replicate p.defs.length ([]:Bag)).map rBag),lvI 0]):=AFun.fzA (by simpa [fzs,fz,rProg] using h2)
  obtain ⟨n,hn⟩:∃ n,p.defs.length=n:=⟨_,rfl⟩
  rw [hn] at h2'
  simp [rProg] at h2'
  simp
  refine EC.afun h2' ?_
  simp [hn]
  refine AW.loopS cc (fun i:Nat=>⟨[(1,sl (l.map rEvent)),(2,.d (.k (.int .u8 s))),(3,.ip [.d (.sl (p.srcs.map rS)),.d (.sl (p.defs.map rDef))] 0),(7,.d (.sl (List.replicate n (rBag [])))),(9,lvI i)],[],H⟩) (fun i=>n - i) (fun i=>i<=n) 0 ⟨Nat.zero_le _,by simp⟩ ?_
  intro i hil
  have hwi:∀ k:Nat,k < 1000000->IntKind.i64.wrap ((k:Int)+1)=k+1:=fun k hk=>wrap_succ (n:=9223372036854775807) (show k < 9223372036854775807 by omega) (Nat.le_refl _)
  have hn6:=hb.d6
  simp
  refine ⟨fun h=>?_,fun h=>?_⟩
  ·simp [h,rBag]
   exact NX.go (i+1) (by omega) h (by simp [hwi i (by omega),rBag])
  ·obtain ⟨m,hm⟩:∃ m,p.srcs.length=m:=⟨_,rfl⟩
   have hm4:1<=m/\m<=4:=by have:=hb.s1;have:=hb.s4;omega
   have hne:p.srcs ≠ []:=fun e=>by rw [e] at hm;simp at hm;omega
   have hws:IntKind.i64.wrap s=s:=by rw [wrap64] <;> omega
   obtain ⟨src,hsrc⟩:∃ src,s.tmod m=src:=⟨_,rfl⟩
   have hsb:0<=src/\src < m:=by
    rw [<- hsrc,Int.tmod_eq_emod_of_nonneg hs8.1]
    exact ⟨Int.emod_nonneg _ (by omega),Int.emod_lt_of_pos _ (by omega)⟩
   have h3:=mean_Says p hs l src
   have v3:saysV p l src=.tup [bagL (saysM l src),lvI 0]:=by
    unfold saysV
    rw [if_pos ⟨ha,hsb.1,by omega⟩]
   rw [v3] at h3
   obtain ⟨B,hB⟩:∃ B,saysM l src=B:=⟨_,rfl⟩
   have hBok:BagOk B:=hB ▸ says_ok hl hi src
   have hBsum:sumN B=cntSrc l src:=by rw [<- hB];exact says_sum hi src
   have hBcnt:∀ x ∈ B,countS l src x.rec_=x.n:=fun x hx=>says_cnt hi src (hB.symm ▸ hx)
   have h4:=ref04_Plain B
   rw [bag_plain hBok] at h4
   rw [hB] at h3
   simp [rProg,bagL] at h3
   simp at h4
   simp [hm,hws,hsrc,hne]
   refine EC.afun h3 ?_
   simp
   refine EC.afun h4 ?_
   simp
   refine AW.loopS cc (fun i:Nat=>⟨[(1,sl (l.map rEvent)),(10,lvI src),(11,sl (B.map rItem)),(12,lvI (cntSrc (l.take i) src)),(13,lvI i)],[],H⟩) (fun i=>l.length - i) (fun i=>i<=l.length) 0 ⟨Nat.zero_le _,by simp [cntSrc]⟩ ?_
   intro i hil
   simp
   refine ⟨fun h=>?_,fun h=>?_⟩
   ·obtain ⟨x,hx⟩:∃ x,l[i]=x:=⟨_,rfl⟩
    have hta:l.take (i+1)=l.take i ++ [x]:=by rw [<- take_more h,hx]
    have hsn:=cntSrc_snoc (l.take i) x src
    rw [<- hta] at hsn
    have hb1:=cntSrc_le (l.take i) src
    have hbl:(l.take i).length<=i:=by simp;omega
    have hw2:IntKind.i64.wrap (cntSrc (l.take i) src+1)=cntSrc (l.take i) src+1:=by rw [wrap64] <;> omega
    by_cases q:x.src=src
    ·rw [if_pos q] at hsn
     simp [h,List.getElem?_eq_getElem h,hx,rEvent,rRec,q]
     exact NX.go (i+1) (by omega) h (by simp [hwi i (by omega),hw2,hsn])
    ·rw [if_neg q,Int.add_zero] at hsn
     simp [h,List.getElem?_eq_getElem h,hx,rEvent,rRec,q]
     exact NX.go (i+1) (by omega) h (by simp [hwi i (by omega),hsn])
   ·have:i=l.length:=by omega
    subst this
    rw [List.take_length]
    have hcb:=cntSrc_le l src
    simp
    refine AW.loopS cc (fun j:Nat=>⟨[(1,sl (l.map rEvent)),(10,lvI src),(11,sl (B.map rItem)),(12,lvI (cntSrc l src - sumN (B.take j))),(14,lvI j)],[],H⟩) (fun j=>B.length - j) (fun j=>j<=B.length) 0 ⟨Nat.zero_le _,by simp [sumN]⟩ ?_
    intro j hj
    simp
    refine ⟨fun h=>?_,fun h=>?_⟩
    ·obtain ⟨x,hx⟩:∃ x,B[j]=x:=⟨_,rfl⟩
     have hxm:x ∈ B:=hx ▸ List.getElem_mem h
     have hcn:=hBcnt x hxm
     have hxn:=(hBok.2.2 x hxm).2.2.2
     have hta:B.take (j+1)=B.take j ++ [x]:=by rw [<- take_more h,hx]
     have hsb1:=sumN_bd (l:=B.take j) fun y hy=>(hBok.2.2 y (List.mem_of_mem_take hy)).2.2.2
     have hBl:=hBok.2.1
     have htl:(B.take j).length<=300:=by simp;omega
     have hsj:sumN (B.take (j+1))=sumN (B.take j)+x.n:=by rw [hta,sumN_app];simp [sumN]
     have hw3:IntKind.i64.wrap (cntSrc l src - sumN (B.take j) - x.n)=cntSrc l src - sumN (B.take j) - x.n:=by rw [wrap64] <;> omega
     have hlc:=law_count l src x.rec_
     rw [hcn] at hlc
     simp [rRec] at hlc
     simp [h,List.getElem?_eq_getElem h,hx,rItem,hw3]
     refine AW.draw cc [(7,.n)] (.q 0<|.q 1<|.q 2<|.q 3<|.q 4<|.q 5<|.q 8<|.q 9<|.q 10<|.q 11<|.q 6<|.q 7<|.q 12<|.q 13<|.done) (by kernel_rfl) ?_
     simp [h,List.getElem?_eq_getElem h,hx,rItem,hw3]
     refine FC.afun hlc ?_
     simp [h,List.getElem?_eq_getElem h,hx,rItem,hw3]
     exact NX.go (j+1) (by omega) h (by simp [hwi j (by omega),hsj];omega)
    ·have:j=B.length:=by omega
     subst this
     rw [List.take_length,hBsum]
     simp
     refine EC.afun law_known ?_
     simp
end Go.Aft
end
section
set_option maxRecDepth 20000
namespace Go.Aft
open Go.Proofs.Tryz
structure Folded where
 other:Int
 fold:Int
 bag:Bag
end Go.Aft
end
section
set_option maxRecDepth 20000
namespace Go.Aft
open Go.RowKit
open Go.Proofs.Tryz
section
variable {H:Type} {enc:TypeId × Value->H} {w:World}
theorem read_slice {P:Program} {α:Type} {t e:TypeId} {r:List α->List DV} {x1:List α->DV} {fit:List α->Prop} {base:Nat} {v:Value} {d:DataW H} {p:List MemPlace} (hr:∀ fuel,Rd enc P w t r fit fuel) (hx:∀ x,r x=[x1 x]) (hu:P.underlying t=some (.slice e))
  (hval:Value.okWide P w .any base t v) (hd:DataW.Trod enc P w 0 (fun _=>true) true t v d p) (hw:Wt P t d):∃ x,fit x/\LR (allG w) 0 noL (.d (x1 x)) v:=by
 obtain ⟨a,len,cap,rfl⟩:=Go.WideShapes.okWide_slice hu hval
 obtain ⟨fuel,hf⟩:=hd
 obtain ⟨x,h1,h2⟩:=hr fuel _ _ _ hf
 refine ⟨x,h2 hw,?_⟩
 rw [hx] at h1
 have h3:=RL_LRs (G:=allG w) (nx:=0) (lm:=noL) h1
 simp only [List.map_cons,List.map_nil] at h3
 unfold LRs at h3
 obtain ⟨v',vs',e,h4,_⟩:=h3
 have:v'=.slice a len cap:=by
  have:=congrArg List.head? e
  simpa [Value.cells] using this.symm
 rw [<- this];exact h4
theorem rd_event (fuel:Nat):Rd enc prog w 82 rEvent (fun _=>True) fuel :=
 Rd.struct underlying82 fuel fun f hf=>((RdFs.cons (n:=5) rfl (Rd.int underlying3 f)<|RdFs.cons rfl (Rd.int underlying3 f)<|RdFs.cons rfl (rd_rec f)<|RdFs.nil)).conv (fun x=>⟨x.1,x.2.1,x.2.2.1⟩) (fun _=>rfl) (fun _ _=>trivial)
theorem rd_eventL (fuel:Nat):Rd enc prog w 43 (fun l:List Event=>[.sl (l.map rEvent)]) (fun l=>∀ n ∈ l,True) fuel:=Rd.slice underlying43 (by decide +kernel) (fun x=>by rw [show prog.cellsOf 82=5 by decide +kernel];rfl) fuel fun f _=>rd_event f
end
theorem u8_wf {n:Int} (w:(Lit.int .u8 n).wf=true):0<=n/\n < 256:=by
 simp only [Lit.wf,Bool.and_eq_true,decide_eq_true_eq] at w
 have h1:IntKind.min .u8=0:=rfl
 have h2:IntKind.max .u8=255:=rfl
 omega
end Go.Aft
end
