import Derived.Test.YthinedikejlgmaaGreatA47
import Derived.Test.YthinedikejlgmaaGreatA42
set_option linter.all false
section
set_option maxRecDepth 20000
namespace Go.Aft
open Go.Proofs.Tryz
theorem exQ_all:allE exQ.defs[1].exp=exQ.defs[1].exp :: (allE qSums ++ allEs [.mk 3 nmB 3 0 [] []]):=rfl
theorem exQ_sub:∀ x ∈ allE qSums,x ∈ allE exQ.defs[1].exp:=fun x hx=>by
 rw [exQ_all]
 exact List.mem_cons_of_mem _ (List.mem_append_left _ hx)
theorem exQ_l1:1 < (allE exQ.defs[1].exp).length:=by decide +kernel
theorem exQ_at:(allE (exQ.defs[1]'(by decide)).exp)[1]'exQ_l1=qSums:=rfl
theorem exQ_Node {defs:List Bag} (hk:knownM exQ exE=some defs) (h0:defs.getD 0 []=exA):AFun prog 30 [lv (rProg exQ),sl (exE.map rEvent),lvI 1,lvI 1] (.tup [bagL [⟨⟨10,1,5⟩,1⟩,⟨⟨14,1,12⟩,1⟩],lvI 0]):=by
 have hok:=known_ok exQ_asked hk
 exact mean_Node1 exQ (formed_strFit exQ_formed) exE 1 (by decide) 1 exQ_l1 exQ_asked hk hok.1 hok.2 (by rw [exQ_at];exact fun x hx=>formed_exp exQ_formed 1 (by decide) x (exQ_sub x hx)) (by rw [exQ_at];exact exQ_node _ h0) (by decide)
theorem AFun.nzA {P:Program} {f:FuncId} {args:List LV} {v:LV} (h:AFun P f (nzs args) v):AFun P f args v:=fun H=>⟨(h H).1,fun G w vs h1 h2 h3=>(h H).2 G w vs h1 h2 (LRs_nz _ _ h3)⟩
theorem law_known:AFun prog 17 [] (.d (.k (.bool true))):=by
 have cc:=cxS_ok (p:=kds [] [] [])
 refine AFun.body (cxS_ok (p:=kds [] [] [])) func17 rfl call17 (by rw [ntmps17];simp) rfl fun hf H=>?_
 have hs:=formed_strFit exQ_formed
 obtain ⟨b,hk,hbl,hb1⟩:=exQ_ans
 have e1:=law_exQ
 have e2:=law_exE
 have e3:=mean_Of exQ hs exE
 have e4:=mean_Order exQ hs
 have e5:=mean_Says exQ hs exE 1
 have e6:=exQ_Node hk rfl
 have e7:=mean_Calc exCalc ⟨10,1,5⟩ 7
 have e8:=mean_Fold 2 [⟨⟨10,1,5⟩,3⟩]
 have e9:=mean_Fold 2 []
 have v3:ofMeanV exQ exE=.tup [sl ([[⟨⟨10,1,5⟩,1⟩,⟨⟨14,1,7⟩,1⟩],b,[⟨⟨14,1,7⟩,1⟩]].map rBag),lvI 0]:=by
  unfold ofMeanV
  rw [if_pos exQ_asked,hk]
 have v4:orderV exQ=.tup [sl ([[0],[1],[2]].map rT),lvI 0]:=by
  unfold orderV
  rw [if_pos exQ_formed,exQ_groups]
 have v5:saysV exQ exE 1=.tup [bagL [⟨⟨11,1,2⟩,1⟩],lvI 0]:=by
  unfold saysV
  rw [if_pos ⟨exQ_asked,by omega,by decide⟩,exQ_says]
 have v7:(if mAsk exCalc ⟨10,1,5⟩ 7 then LV.tup [lvI (cVal ⟨10,1,5⟩ 7 exCalc),lvI 0] else .tup [lvI 0,lvI 2])=.tup [lvI (-3),lvI 0]:=by
  rw [if_pos exQ_calc.1,exQ_calc.2]
 rw [v3] at e3
 rw [v4] at e4
 rw [v5] at e5
 rw [v7] at e7
 rw [exQ_fold] at e8
 rw [exQ_fold0] at e9
 obtain ⟨x,y,hxy⟩:∃ x y,lv (rProg exQ)=.agg [.d x,.d y]:=⟨_,_,rfl⟩
 obtain ⟨E1,hE1⟩:∃ E1,exE.map rEvent=E1:=⟨_,rfl⟩
 have hEl:0 < E1.length:=by rw [<- hE1];decide
 have hE0:E1[0]=rEvent ⟨0,1,⟨10,1,5⟩⟩:=by subst hE1;rfl
 rw [hxy] at e1 e3 e4 e5 e6
 rw [hE1] at e2 e3 e5 e6
 simp [exCalc,rCalc,rCalcs,rRec] at e7
 simp [rItem] at e8
 simp at e9
 simp [bagL,rItem] at e5 e6
 have hr1:List.range' 0 1=[0]:=rfl
 have hr2:List.range' 0 2=[0,1]:=rfl
 simp [ntmps17,results17]
 refine EC.afun e1 ?_
 simp
 refine EC.afun e2 ?_
 simp
 refine EC.afun e3 ?_
 simp
 refine EC.afun e4 ?_
 simp
 refine EC.afun e5 ?_
 simp
 refine EC.afun e6 ?_
 have e7':AFun prog 13 [.agg [lvI 7,lvI 0,.d (.sl [[.k (.int .i64 5),.k (.int .i64 0),.k (.slice none 0 0)],[.k (.int .i64 2),.k (.int .i64 0),.k (.slice none 0 0)]])],.agg [lvI 10,lvI 1,lvI 5],lvI 7] (.tup [lvI (-3),lvI 0]):=AFun.nzA (by simpa [nzs,LV.nz,DV.nz,nzR,nzC] using e7)
 simp [hr2,hE0,rEvent,rRec,hEl]
 refine EC.afun e7' ?_
 simp [hr1,hE0,rEvent,rRec,hEl]
 refine EC.afun e8 ?_
 simp
 have e9':AFun prog 15 [lvI 2,.d (.k (.slice none 0 0))] (.tup [lvI 0,lvI 5]):=AFun.nzA (by simpa [nzs,LV.nz,DV.nz,nzR,nzC] using e9)
 refine EC.afun e9' ?_
 simp
 refine AW.draw cc [(3,.n),(4,.n),(6,.n),(11,.n),(13,.n),(17,.n),(19,.n),(23,.n),(24,.n),(26,.n),(41,.n)] (.q 0<|.q 1<|.q 3<|.q 4<|.q 5<|.q 2<|.q 6<|.q 7<|.q 8<|.q 9<|.q 11<|.q 12<|.q 10<|.q 13<|.q 14<|.q 15<|.q 16<|.q 17<|.q 18<|.q 19<|.q 20<|.q 21<|.q 22<|.q 23<|.q 24<|.q 25<|.q 26<|.q 27<|.q 28<|.q 29<|.q 30<|.q 31<|.q 32<|.q 33<|.q 34<|.q 35<|.q 36<|.q 37<|.q 41<|.q 38<|.q 39<|.q 40<|.q 42<|.q 43<|.q 44<|.done) (by kernel_rfl) ?_
 have i1:=law_item 10 1 5
 have i2:=law_item 14 1 7
 have i3:=law_item 11 1 2
 have i4:=law_item 14 1 12
 have i5:=law_item 13 1 5
 simp [rItem] at i1 i2 i3 i4 i5
 have s1:=bag_Same [⟨⟨10,1,5⟩,1⟩,⟨⟨14,1,7⟩,1⟩] [⟨⟨10,1,5⟩,1⟩,⟨⟨14,1,7⟩,1⟩]
 have s2:=bag_Same [⟨⟨14,1,7⟩,1⟩] [⟨⟨14,1,7⟩,1⟩]
 have s3:=bag_Same [⟨⟨11,1,2⟩,1⟩] [⟨⟨11,1,2⟩,1⟩]
 have s4:=bag_Same [⟨⟨10,1,5⟩,1⟩,⟨⟨14,1,12⟩,1⟩] [⟨⟨10,1,5⟩,1⟩,⟨⟨14,1,12⟩,1⟩]
 simp [rItem] at s1 s2 s3 s4
 have hb1':b[1]'(by omega) = ⟨⟨13,1,5⟩,1⟩:=by rw [List.getElem?_eq_getElem (show 1 < b.length by omega)] at hb1;exact Option.some.inj hb1
 have hbl1:1 < b.length:=by omega
 simp [hr1,hr2,rBag,rItem]
 refine FC.afun i1 ?_
 simp
 refine FC.afun i2 ?_
 simp [hr1,hr2,rBag,rItem]
 refine FC.afun s1 ?_
 simp
 refine FCg.afun (fun _=>i2) ?_
 simp [hr1,hr2,rBag,rItem]
 refine FCg.afun (fun _=>s2) ?_
 simp
 refine FCg.afun (fun _=>i3) ?_
 simp [hr1,hr2,rBag,rItem]
 refine FCg.afun (fun _=>s3) ?_
 simp
 refine FCg.afun (fun _=>i1) ?_
 simp
 refine FCg.afun (fun _=>i4) ?_
 simp [hr1,hr2,rBag,rItem]
 refine FCg.afun (fun _=>s4) ?_
 have hbl2:(4:Int) < b.length:=by omega
 simp [hbl,hbl1,hbl2,hb1',rItem]
 refine FCg.afun (fun _=>i5) ?_
 simp [hbl,hbl1,hbl2,hb1',rItem]
 omega
end Go.Aft
end
section
set_option maxRecDepth 20000
namespace Go.Aft
open Go.Proofs.Tryz
structure Folded where
 other:Int
 fold:Int
 bag:Bag
def rFolded (x:Folded):List DV:=[.k (.int .i64 x.other),.k (.int .i64 x.fold),.sl (x.bag.map rItem)]
theorem law_MeanCalcs (c:Calc) (r:Rec) (x:Folded):AFun prog 3 [lv (rCalc c),lv (rRec r),lv (rFolded x)] (.d (.k (.bool true))):=by
 have cc:=cxS_ok (p:=kds [3,4,5] [] [])
 refine AFun.body (cxS_ok (p:=kds [3,4,5] [] [])) func3 rfl call3 (by rw [ntmps3];simp) rfl fun hf H=>?_
 have h1:=mean_Calc c r x.other
 have h2:=ref06_Calc c r x.other
 have h3:=mean_Fold x.fold x.bag
 have h4:=ref06_Fold x.fold x.bag
 obtain ⟨v1,w1,e1⟩:∃ v w:Int,(if mAsk c r x.other then LV.tup [lvI (cVal r x.other c),lvI 0] else .tup [lvI 0,lvI 2])=.tup [lvI v,lvI w]:=by
  by_cases q:mAsk c r x.other
  ·exact ⟨_,_,by rw [if_pos q]⟩
  ·exact ⟨_,_,by rw [if_neg q]⟩
 obtain ⟨v2,w2,e2⟩:∃ v w:Int,foldE x.fold x.bag=.tup [lvI v,lvI w]:=by
  unfold foldE
  split
  ·split
   ·exact ⟨_,_,rfl⟩
   ·exact ⟨_,_,rfl⟩
  ·exact ⟨_,_,rfl⟩
 rw [e1] at h1 h2
 rw [e2] at h3 h4
 simp [rCalc_eq,rRec] at h1 h2
 simp at h3 h4
 simp [ntmps3,results3,rCalc_eq,rRec,rFolded]
 refine EC.afun h1 ?_
 simp
 refine EC.afun h2 ?_
 simp
 refine EC.afun h3 ?_
 simp
 refine EC.afun h4 ?_
 simp
 refine EC.afun law_known ?_
 simp
end Go.Aft
end
section
set_option maxRecDepth 20000
namespace Go.Aft
open Go.RowKit
open Go.Proofs.Tryz
section
variable {H:Type} {enc:TypeId × Value->H} {w:World}
theorem rd_item (fuel:Nat):Rd enc prog w 86 rItem (fun _=>True) fuel :=
 Rd.struct underlying86 fuel fun f hf=>((RdFs.cons (n:=4) rfl (rd_rec f)<|RdFs.cons rfl (Rd.int underlying3 f)<|RdFs.nil)).conv (fun x=>⟨x.1,x.2.1⟩) (fun _=>rfl) (fun _ _=>trivial)
theorem rd_folded (fuel:Nat):Rd enc prog w 32 rFolded (fun _=>True) fuel :=
 Rd.struct underlying32 fuel fun f hf=>((RdFs.cons (n:=3) rfl (Rd.int underlying3 f)<|RdFs.cons rfl (Rd.int underlying28 f)<|RdFs.cons rfl (Rd.slice (r:=rItem) (fit:=fun _=>True) underlying30 (by decide +kernel) (fun x=>by rw [show prog.cellsOf 86=4 by decide +kernel];rfl) f fun g hg=>rd_item g)<|RdFs.nil)).conv (fun x=>⟨x.1,x.2.1,x.2.2.1⟩) (fun _=>rfl) (fun _ _=>trivial)
end
end Go.Aft
end
