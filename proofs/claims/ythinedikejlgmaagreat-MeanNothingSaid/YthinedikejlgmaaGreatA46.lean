import Derived.Test.YthinedikejlgmaaGreatA45
import Derived.Test.YthinedikejlgmaaGreatA39
import Derived.Test.YthinedikejlgmaaGreatA44
import Derived.Test.YthinedikejlgmaaGreatA42
set_option linter.all false
section
set_option maxRecDepth 20000
namespace Go.Aft
open Go.Proofs.Tryz
theorem mean_whole1 (x:Item):AFun prog 114 [lv (rItem x)] (.d (.k (.bool (decide (x.n < 0))))):=by
 refine AFun.body (cxK_ok (p:=kds [1] [] [])) func114 rfl call114 (by rw [ntmps114];simp) rfl fun hf H=>?_
 simp [ntmps114,results114,rItem]
theorem mean_whole (b:List Item):AFun prog 58 [sl (b.map rItem)] (.d (.k (.bool (wholeB b)))):=by
 refine AFun.body cx0_ok func58 rfl call58 (by rw [ntmps58];simp) rfl fun hf H=>?_
 have h:=bag_ContainsFunc b (fun x=>decide (x.n < 0)) 114 fun x _=>mean_whole1 x
 simp at h
 simp [ntmps58,results58]
 refine EC.afun h ?_
 simp [wholeB]
theorem goodBag_len {b:List Item} (h:goodBag b=true):b.length<=300:=by
 unfold goodBag at h
 rw [Bool.and_eq_true] at h
 exact of_decide_eq_true h.2
theorem goodBag_item {b:List Item} (h:goodBag b=true) {x:Item} (hx:x ∈ b):recB x.rec_=true/\x.n ≠ 0/\-1000000<=x.n/\x.n<=1000000:=by
 unfold goodBag at h
 rw [Bool.and_eq_true,List.all_eq_true] at h
 obtain ⟨i,hi,rfl⟩:=List.mem_iff_getElem.1 hx
 have:=h.1 i (List.mem_range.2 hi)
 unfold itemB at this
 have hg:b.getD i default=b[i]:=by rw [List.getD_eq_getElem?_getD,List.getElem?_eq_getElem hi];rfl
 rw [hg] at this
 simp only [Bool.and_eq_true,decide_eq_true_eq] at this
 exact ⟨this.1.1,this.1.2⟩
theorem recB_in {r:Rec} (h:recB r=true):(0<=r.at_/\r.at_<=200)/\inMost r.key/\inMost r.val:=by
 unfold recB inB at h
 simp at h
 exact ⟨h.1.1,h.1.2,h.2⟩
theorem goodBag_itOk {b:List Item} (h:goodBag b=true):∀ x ∈ b,itOk x:=fun x hx=>by
 have h1:=goodBag_item h hx
 exact ⟨h1.2.2,(recB_in h1.1).2.2⟩
def foldE (f:Int) (b:List Item):LV:=if 1<=f/\f<=4/\plainB' b=true then (if b=[] then .tup [lvI 0,lvI 5] else .tup [lvI (foldI f b),lvI 0]) else .tup [lvI 0,lvI 2]
theorem mean_Fold (f:Int) (b:List Item):AFun prog 15 [lvI f,sl (b.map rItem)] (foldE f b):=by
 refine AFun.body cx0_ok func15 rfl call15 (by rw [ntmps15];simp) rfl fun hf H=>?_
 have h1:=bag_Check b
 have h2:=mean_whole b
 have h3:=fun q:goodBag b=true=>mean_fold f b (Nat.le_trans (goodBag_len q) (by omega)) (goodBag_itOk q)
 simp at h1 h2
 simp [ntmps15,results15]
 by_cases hr:1<=f/\f<=4
 ·have i1:¬ f < 1:=by omega
  have i2:¬ 4 < f:=by omega
  simp [i1,i2,hr.1,hr.2]
  refine EC.afun h1 ?_
  cases hg:goodBag b with
  | false =>
   have:plainB' b=false:=by simp [plainB',hg]
   simp [foldE,this]
  | true =>
   simp
   refine EC.afun h2 ?_
   cases hw:wholeB b with
   | false =>
    have:plainB' b=false:=by simp [plainB',hg,hw]
    simp [foldE,this]
   | true =>
    have hp:plainB' b=true:=by simp [plainB',hg,hw]
    have h3':=h3 hg
    simp
    refine ⟨fun q=>?_,fun q=>?_⟩
    ·have e:foldE f b=.tup [lvI 0,lvI 5]:=by unfold foldE;rw [if_pos ⟨hr.1,hr.2,hp⟩,if_pos q]
     simp [e]
    ·simp at h3'
     refine EC.afun h3' ?_
     simp [foldE,hr,hp,q]
 ·have hn:foldE f b=.tup [lvI 0,lvI 2]:=by unfold foldE;rw [if_neg fun w=>hr ⟨w.1,w.2.1⟩]
  by_cases i1:1<=f
  ·have i2:¬ f<=4:=by omega
   have i3:¬ f < 1:=by omega
   have i4:4 < f:=by omega
   simp [i1,i2,i3,i4,hn]
  ·have i3:f < 1:=by omega
   simp [i1,i3,hn]
mutual
theorem mean_lCalc:∀ (c:Calc) (depth left:Int),0<=mFormed c depth left->lCalc true c depth left=some (mFormed c depth left)
 | .mk op n kids,depth,left,h=>by
  rw [mFormed] at h |-
  by_cases h1:10 < depth \/ left < 1 \/ op < 1 \/ 10 < op
  ·rw [if_pos h1] at h;omega
  ·rw [if_neg h1] at h |-
   by_cases h2:(kids.length:Int) ≠ (if 6<=op then 2 else 0) \/ (op ≠ 1/\n ≠ 0) \/ n ≠ clampM n
   ·rw [if_pos h2] at h;omega
   ·rw [if_neg h2] at h |-
    rw [lCalc,if_pos]
    ·exact mean_lCalcs kids _ _ h
    ·have hk:(kids.length:Int)=(if 6<=op then 2 else 0):=Classical.byContradiction fun q=>h2 (.inl q)
     have hn:op=1 \/ n=0:=Classical.byContradiction fun q=>h2 (.inr (.inl ⟨fun e=>q (.inl e),fun e=>q (.inr e)⟩))
     have hc:n=clampM n:=Classical.byContradiction fun q=>h2 (.inr (.inr q))
     have hcb:=clampM_in n
     unfold inMost at hcb
     refine ⟨by omega,by omega,?_⟩
     unfold calcOk
     by_cases e1:op=1
     ·rw [if_pos e1]
      rw [if_neg (by omega)] at hk
      exact decide_eq_true ⟨by omega,by omega,by omega⟩
     ·rw [if_neg e1]
      have hn0:n=0:=hn.resolve_left e1
      by_cases e2:op=2 \/ op=3 \/ op=4
      ·rw [if_pos e2]
       rw [if_neg (by omega)] at hk
       exact decide_eq_true ⟨hn0,by omega⟩
      ·rw [if_neg e2]
       by_cases e5:op=5
       ·rw [if_pos e5]
        rw [if_neg (by omega)] at hk
        exact decide_eq_true ⟨rfl,hn0,by omega⟩
       ·rw [if_neg e5]
        rw [if_pos (by omega)] at hk
        exact decide_eq_true ⟨by omega,by omega,hn0,by omega⟩
theorem mean_lCalcs:∀ (cs:List Calc) (depth left:Int),0<=mFormedL cs depth left->lCalcs true cs (depth+1) left=some (mFormedL cs depth left)
 | [],depth,left,h=>by rw [lCalcs,mFormedL]
 | k :: ks,depth,left,h=>by
  rw [mFormedL] at h |-
  split at h
  ·omega
  ·rename_i h1
   rw [if_neg h1,lCalcs,mean_lCalc k _ _ (by omega)]
   exact mean_lCalcs ks _ _ h
end
end Go.Aft
end
section
set_option maxRecDepth 20000
namespace Go.Aft
open Go.Proofs.Tryz
theorem asked_ok {p:Prog} {l:List Event} (h:askedM p l=true):formed p/\l.length<=60/\∀ e ∈ l,ItIn ⟨e.rec_,1⟩:=by
 simp only [askedM,Bool.and_eq_true,decide_eq_true_eq] at h
 obtain ⟨⟨⟨h1,h2⟩,h3⟩,h4⟩:=h
 refine ⟨h1,h2,fun e he=>?_⟩
 unfold formedB plainB at h4
 simp only [Bool.and_eq_true,Bool.not_eq_true',List.any_eq_false] at h4
 have h5:=h4.1.2 (evN e) (List.mem_map.2 ⟨e,he,rfl⟩)
 have h6:goodB (evN e) p.srcs.length=true:=by simpa using h5
 have h7:recB e.rec_=true:=by
  unfold goodB at h6
  simp only [evN,if_true,Bool.and_eq_true,saidB] at h6
  exact h6.2.2
 have:=recB_in h7
 exact ⟨this.1,this.2.1,this.2.2,by simp only;omega,by simp only;omega⟩
noncomputable def ofMeanV (p:Prog) (l:List Event):LV:=if askedM p l=true then (match knownM p l with
 | some defs=>.tup [sl (defs.map rBag),lvI 0]
 | none=>.tup [sl [],lvI 3]) else .tup [sl [],lvI 2]
theorem mean_Of (p:Prog) (hs:∀ s ∈ p.srcs ++ defNames p,strFit s) (l:List Event):AFun prog 25 [lv (rProg p),sl (l.map rEvent)] (ofMeanV p l):=by
 intro H
 have cc:=cxK_ok (p:=kds [2] [] [])
 refine ECall.bodyNW (cxK_ok (p:=kds [2] [] [])) func25 rfl call25 (by rw [ntmps25];simp) rfl fun hf hw=>?_
 have h1:=mean_asked p hs l
 simp [rProg] at h1
 simp [ntmps25,results25,rProg] at hf |-
 refine AW.seq cc ?_
 simp
 refine AW.seq cc ?_
 simp
 refine EC.afun h1 ?_
 cases ha:askedM p l with
 | false =>
  simp [ofMeanV,ha]
  exact fun hz=>Drop_self hz
 | true =>
  obtain ⟨hp,hl,hi⟩:=asked_ok ha
  have hb:=formed_b hp
  have hk:=mean_known p hs hp (by have:=hb.s1;omega) (by have:=hb.s4;omega) (formed_Good hp) hb.dif (formed_exp hp) l hl hi H
  simp [rProg] at hk
  simp
  refine AW.seq cc ?_
  simp
  refine EC.of hk (fun v H2 hR=>?_) (fun v H2 hR=>by
   unfold KnownR at hR
   split at hR
   ·obtain ⟨q,_⟩:=hR;cases q
   ·obtain ⟨_,_,_,_,_,q,_⟩:=hR;cases q)
  unfold KnownR at hR
  cases hkn:knownM p l with
  | none =>
   rw [hkn] at hR
   obtain ⟨q1,q2⟩:=hR
   cases q1
   rw [q2]
   simp
   refine AW.seq cc ?_
   simp
   exact fun hz=>⟨Drop_self hz,by simp [ofMeanV,ha,hkn]⟩
  | some defs =>
   rw [hkn] at hR
   obtain ⟨n,ms,mn,mv,ma,q1,q2,hW,q4,q5,q6⟩:=hR
   cases q1
   simp
   have hlen:∀ r ∈ defs.map rBag,r.length=1:=fun r hr=>by obtain ⟨_,_,rfl⟩:=List.mem_map.1 hr;rfl
   have hfl:defs.map bagL=flatD (defs.map rBag):=by
    clear hW hkn
    induction defs with
    | nil=>rfl
    | cons b l ih=>rw [List.map_cons,List.map_cons,ih (fun r hr=>by obtain ⟨_,_,rfl⟩:=List.mem_map.1 hr;rfl)];rfl
   have hob:=hW.wld.ob
   have hnmv:n ≠ mv:=fun e=>by
    have:=hW.wld.ov
    rw [<- e,hob] at this
    cases this
   refine AW.thaw (n:=mv) (g:=0) (sz:=1) (e:=30) (ex:=true) (defs.map rBag) hW.wld.ov hfl hlen ?_
   simp
   refine AW.seq cc ?_
   simp
   refine AW.ev cc ?_
   simp [hob,hnmv]
   refine fun hz=>⟨Drop_same q4 (fun m hm=>thaw_lt hw q2 (fun k hk=>q5 k hk) hm) hw.none,?_⟩
   have ht:List.take defs.length (defs.map rBag)=defs.map rBag:=List.take_of_length_le (by simp)
   rw [ht]
   simp [ofMeanV,ha,hkn]
noncomputable def orderV (p:Prog):LV:=open Classical in if formed p then .tup [sl ((groupsM p.defs.length (pathB p)).map rT),lvI 0] else .tup [sl [],lvI 2]
theorem mean_Order (p:Prog) (hs:∀ s ∈ p.srcs ++ defNames p,strFit s):AFun prog 18 [lv (rProg p)] (orderV p):=by
 refine AFun.body (cxK_ok (p:=kds [1] [] [])) func18 rfl call18 (by rw [ntmps18];simp) rfl fun hf H=>?_
 have h1:=term_Check p hs
 simp [rProg] at h1
 simp [ntmps18,results18,rProg]
 refine EC.afun h1 ?_
 by_cases hp:formed p
 ·have hb:=formed_b hp
  have h2:=mean_groups p hs hp (by have:=hb.s1;omega) (by have:=hb.s4;omega) (formed_Good hp)
  simp [rProg] at h2
  simp [hp]
  refine EC.of (h2 H) (fun v H2 hR=>?_) (fun v H2 hR=>by obtain ⟨q,_⟩:=hR;cases q)
  obtain ⟨q1,q2⟩:=hR
  cases q1
  rw [q2]
  simp [orderV,hp]
 ·simp [hp,orderV]
noncomputable def saysV (p:Prog) (l:List Event) (src:Int):LV:=if askedM p l=true/\0<=src/\src < p.srcs.length then .tup [bagL (saysM l src),lvI 0] else .tup [sl [],lvI 2]
theorem mean_Says (p:Prog) (hs:∀ s ∈ p.srcs ++ defNames p,strFit s) (l:List Event) (src:Int):AFun prog 20 [lv (rProg p),sl (l.map rEvent),lvI src] (saysV p l src):=by
 refine AFun.body (cxK_ok (p:=kds [3] [] [])) func20 rfl call20 (by rw [ntmps20];simp) rfl fun hf H=>?_
 have h1:=mean_asked p hs l
 simp [rProg] at h1
 simp [ntmps20,results20,rProg]
 refine EC.afun h1 ?_
 cases ha:askedM p l with
 | false=>simp [saysV,ha]
 | true =>
  have h2:=mean_says l src (by have:=(asked_ok ha).2.1;omega)
  simp at h2
  by_cases h0:src < 0
  ·have hV:saysV p l src=.tup [sl [],lvI 2]:=by unfold saysV;rw [if_neg (by omega)]
   simp [h0,hV]
  ·by_cases h3:(p.srcs.length:Int)<=src
   ·have hV:saysV p l src=.tup [sl [],lvI 2]:=by unfold saysV;rw [if_neg (by omega)]
    simp [h0,h3,hV]
   ·have hV:saysV p l src=.tup [bagL (saysM l src),lvI 0]:=by unfold saysV;rw [if_pos ⟨ha,by omega,by omega⟩]
    simp [h0,h3]
    refine EC.afun h2 ?_
    simp [hV,bagL]
end Go.Aft
end
section
set_option maxRecDepth 20000
namespace Go.Aft
open Go.Proofs.Tryz
mutual
def okC:Calc->Prop
 | .mk op n kids=>kids.length * 40<=140737488351232/\okCs kids
def okCs:List Calc->Prop
 | []=>True
 | c :: cs=>okC c/\okCs cs
end
mutual
def okE:Exp->Prop
 | .mk op name n fold calcs kids=>calcs.length * 40<=140737488351232/\kids.length * 88<=140737488351232/\okCs calcs/\okEs kids
def okEs:List Exp->Prop
 | []=>True
 | e :: es=>okE e/\okEs es
end
def okP (p:Prog):Prop:=p.srcs.length * 16<=140737488351232/\p.defs.length * 104<=140737488351232/\∀ d ∈ p.defs,okE d.exp
mutual
theorem ref02_CopyCalc:∀ c:Calc,okC c->AFun prog 136 [lv (rCalc c)] (lv (rCalc c))
 | .mk op n kids,h=>by
  rw [okC] at h
  exact ref02_CopyCalc1 op n kids h.1 (ref02_CopyCalcs kids h.2)
theorem ref02_CopyCalcs:∀ cs:List Calc,okCs cs->∀ k ∈ cs,AFun prog 136 [lv (rCalc k)] (lv (rCalc k))
 | [],_,k,hk=>by cases hk
 | c :: cs,h,k,hk=>by
  rw [okCs] at h
  rcases List.mem_cons.1 hk with q | hk
  ·rw [q];exact ref02_CopyCalc c h.1
  ·exact ref02_CopyCalcs cs h.2 k hk
end
theorem ref02_CopyExp1 (op:Int) (name:Str) (n fold:Int) (calcs:List Calc) (kids:List Exp) (hc:calcs.length * 40<=140737488351232) (hk:kids.length * 88<=140737488351232) (hcs:∀ k ∈ calcs,AFun prog 136 [lv (rCalc k)] (lv (rCalc k)))
  (ih:∀ k ∈ kids,AFun prog 72 [lv (rExp k)] (lv (rExp k))):AFun prog 72 [lv (rExp (.mk op name n fold calcs kids))] (lv (rExp (.mk op name n fold calcs kids))):=by
 have cc:=cxK_ok (p:=kds [1] [] [])
 refine AFun.body (cxK_ok (p:=kds [1] [] [])) func72 rfl call72 (by rw [ntmps72];simp) rfl fun hf H=>?_
 simp [ntmps72,results72,rExp_eq,Exp.op,Exp.n,Exp.kids,Exp.name,Exp.fold,Exp.calcs]
 refine AW.loopS cc (fun a:Nat × LV × GH=>⟨[(1,.ip [lvI op,.d (.k (.string name)),lvI n,lvI fold,sl (calcs.map rCalc),sl (kids.map rExp)] 0),(2,.lp 2 0),(3,.lp 3 0),(4,lvI a.1)],
  [(2,[lvI 0,.d (.k (.string ⟨#[]⟩)),lvI 0,lvI 0,.d (.k (.slice none 0 0)),.d (.k (.slice none 0 0))]),(3,[lvI op,.d (.k (.string name)),lvI n,lvI fold,a.2.1,.d (.k (.slice none 0 0))])],a.2.2⟩) (fun a=>calcs.length - a.1) (fun a=>a.1<=calcs.length/\AppX 25 3 H a.2.1 ((calcs.take a.1).map rCalc) a.2.2) (0,.d (.k (.slice none 0 0)),H) ⟨⟨Nat.zero_le _,.nil⟩,by simp⟩ ?_
 rintro ⟨i,x,H'⟩ ⟨hi,happ⟩
 simp only at hi happ
 simp
 refine ⟨fun h=>?_,fun h=>?_⟩
 ·refine AW.draw cc [(7,.n)] (.q 0<|.q 2<|.q 4<|.q 1<|.f<|.one 3<|.q 5<|.f<|.one 6<|.q 7<|.q 8<|.f<|.one 9<|.q 10<|.f<|.one 11<|.done) (by kernel_rfl) ?_
  simp [h,List.getElem?_eq_getElem h,rCalc_eq]
  refine FC.afun (v:=lv (rCalc calcs[i])) (by simpa [rCalc_eq] using hcs calcs[i] (List.getElem_mem h)) ?_
  simp [rCalc_eq]
  refine APK.appX (ys:=[rCalc calcs[i]]) tyE23 rfl tyE25 (by simp) (x:=x) (by simp) happ (by simp [rCalc_eq,rowsOf]) (by simp) (fun r hr=>by obtain ⟨_,_,rfl⟩:=List.mem_map.1 hr;simp) (by simp) (by simp;omega) (by simp) fun x' H' happ' _ _=>?_
  rw [show (calcs.take i).map rCalc ++ [rCalc calcs[i]]=(calcs.take (i+1)).map rCalc by rw [<- take_more h,List.map_append];rfl] at happ'
  simp [happ'.plain.all,happ'.only,wrap_succ (n:=9223372036854775807) (show i < 9223372036854775807 by omega)]
  exact NX.go (i+1,x',H') (by simp only;omega) ⟨h,happ'⟩ (by simp [happ'.only])
 ·have e:i=calcs.length:=by omega
  subst e
  rw [List.take_length] at happ
  simp [happ.plain.all]
  refine AW.loopS cc (fun a:Nat × LV × GH=>⟨[(1,.ip [lvI op,.d (.k (.string name)),lvI n,lvI fold,sl (calcs.map rCalc),sl (kids.map rExp)] 0),(2,.lp 2 0),(3,.lp 3 0),(5,lvI a.1)],
   [(2,[lvI 0,.d (.k (.string ⟨#[]⟩)),lvI 0,lvI 0,.d (.k (.slice none 0 0)),.d (.k (.slice none 0 0))]),(3,[lvI op,.d (.k (.string name)),lvI n,lvI fold,x,a.2.1])],a.2.2⟩) (fun a=>kids.length - a.1) (fun a=>a.1<=kids.length/\AppX 68 6 H' a.2.1 ((kids.take a.1).map rExp) a.2.2) (0,.d (.k (.slice none 0 0)),H') ⟨⟨Nat.zero_le _,.nil⟩,by simp [happ.only]⟩ ?_
  rintro ⟨i,y,H2⟩ ⟨hi,hy⟩
  simp only at hi hy
  simp [happ.plain.all]
  refine ⟨fun h=>?_,fun h=>?_⟩
  ·refine AW.draw cc [(7,.n)] (.q 0<|.q 2<|.q 4<|.q 1<|.f<|.one 3<|.q 5<|.f<|.one 6<|.q 7<|.q 8<|.f<|.one 9<|.q 10<|.f<|.one 11<|.done) (by kernel_rfl) ?_
   simp [h,List.getElem?_eq_getElem h,rExp_eq]
   refine FC.afun (v:=lv (rExp kids[i])) (by simpa [rExp_eq] using ih kids[i] (List.getElem_mem h)) ?_
   simp [rExp_eq]
   refine APK.appX (ys:=[rExp kids[i]]) tyE64 rfl tyE68 (by simp) (x:=y) (by simp) hy (by simp [rExp_eq,rowsOf]) (by simp) (fun r hr=>by obtain ⟨_,_,rfl⟩:=List.mem_map.1 hr;simp) (by simp) (by simp;omega) (by simp) fun y' H3 hy' _ _=>?_
   rw [show (kids.take i).map rExp ++ [rExp kids[i]]=(kids.take (i+1)).map rExp by rw [<- take_more h,List.map_append];rfl] at hy'
   simp [happ.plain.all,hy'.plain.all,hy'.only,wrap_succ (n:=9223372036854775807) (show i < 9223372036854775807 by omega)]
   exact NX.go (i+1,y',H3) (by simp only;omega) ⟨h,hy'⟩ (by simp [happ.only,hy'.only])
  ·have e:i=kids.length:=by omega
   subst e
   rw [List.take_length] at hy
   have ha2:=happ.mono hy.nx hy.ob
   simp [happ.plain.all,hy.plain.all,happ.fz,hy.fz]
   exact ⟨by rw [rExp_eq];rfl,ha2.nx,ha2.ob⟩
mutual
theorem ref02_CopyExp:∀ e:Exp,okE e->AFun prog 72 [lv (rExp e)] (lv (rExp e))
 | .mk op name n fold calcs kids,h=>by
  rw [okE] at h
  exact ref02_CopyExp1 op name n fold calcs kids h.1 h.2.1 (ref02_CopyCalcs calcs h.2.2.1) (ref02_CopyExps kids h.2.2.2)
theorem ref02_CopyExps:∀ es:List Exp,okEs es->∀ k ∈ es,AFun prog 72 [lv (rExp k)] (lv (rExp k))
 | [],_,k,hk=>by cases hk
 | c :: cs,h,k,hk=>by
  rw [okEs] at h
  rcases List.mem_cons.1 hk with q | hk
  ·rw [q];exact ref02_CopyExp c h.1
  ·exact ref02_CopyExps cs h.2 k hk
end
end Go.Aft
end
section
set_option maxRecDepth 20000
namespace Go.Aft
open Go.Proofs.Tryz
theorem calcOk_len {o:Bool} {op n:Int} {k:Nat} (h:calcOk o op n k=true):k<=2:=by
 unfold calcOk at h
 split at h
 ·simp at h;omega
 ·split at h
  ·simp at h;omega
  ·split at h
   ·simp at h;omega
   ·simp at h;omega
mutual
theorem lCalc_okC {o:Bool}:∀ (c:Calc) (d f l:Int),lCalc o c d f=some l->okC c
 | .mk op n kids,d,f,l,h=>by
  rw [lCalc] at h
  split at h
  ·rename_i hc
   have:=calcOk_len hc.2.2
   exact ⟨by omega,lCalcs_okC kids _ _ _ h⟩
  ·cases h
theorem lCalcs_okC {o:Bool}:∀ (cs:List Calc) (d f l:Int),lCalcs o cs d f=some l->okCs cs
 | [],d,f,l,h=>trivial
 | c :: cs,d,f,l,h=>by
  rw [lCalcs] at h
  split at h
  ·rename_i l' hl
   exact ⟨lCalc_okC c _ _ _ hl,lCalcs_okC cs _ _ _ h⟩
  ·cases h
end
theorem ite_some {α:Type} {c:Prop} [Decidable c] {a x:α} {o:Option α} {P:α->Prop} (h:(if c then some a else o)=some x) (h1:P a) (h2:o=some x->P x):P x:=by
 by_cases q:c
 ·rw [if_pos q] at h;cases h;exact h1
 ·rw [if_neg q] at h;exact h2 h
theorem shp_small {op:Int} {x:Shp} (h:shpOf op=some x):x.kids<=2/\x.calcs<=2:=by
 unfold shpOf at h
 iterate 13
  refine ite_some (P:=fun x:Shp=>x.kids<=2/\x.calcs<=2) h (by decide) fun h=>?_
 cases h
mutual
theorem lExp_okE {srcs defs:List Str} {a:Int}:∀ (e:Exp) (d f l:Int),lExp srcs defs a e d f=some l->okE e
 | .mk op name n fold calcs kids,d,f,l,h=>by
  rw [lExp] at h
  split at h
  ·rename_i hc
   obtain ⟨x,hx,k1,k2⟩:=expOk_len hc.2.2.1
   have:=shp_small hx
   split at h
   ·rename_i l1 h1
    exact ⟨by omega,by omega,lCalcs_okC calcs _ _ _ h1,lExps_okE kids _ _ _ h⟩
   ·cases h
  ·cases h
theorem lExps_okE {srcs defs:List Str} {a:Int}:∀ (es:List Exp) (d f l:Int),lExps srcs defs a es d f=some l->okEs es
 | [],d,f,l,h=>trivial
 | c :: cs,d,f,l,h=>by
  rw [lExps] at h
  split at h
  ·rename_i l' hl
   exact ⟨lExp_okE c _ _ _ hl,lExps_okE cs _ _ _ h⟩
  ·cases h
end
theorem lDefs_okE {srcs names:List Str}:∀ (ds:List Def) (a left l:Int),lDefs srcs names ds a left=some l->∀ d ∈ ds,okE d.exp
 | [],a,left,l,h,d,hd=>by cases hd
 | x :: ds,a,left,l,h,d,hd=>by
  rw [lDefs] at h
  split at h
  ·rename_i l' hl
   rcases List.mem_cons.1 hd with q | hd
   ·rw [q];exact lExp_okE _ _ _ _ hl
   ·exact lDefs_okE ds _ _ _ h d hd
  ·cases h
theorem formed_ok {p:Prog} (h:formed p):okP p/\p.defs.length<=6:=by
 obtain ⟨⟨l,hl⟩,_⟩:=h
 unfold countM at hl
 split at hl
 ·rename_i hc
  exact ⟨⟨by omega,by omega,lDefs_okE _ _ _ _ hl⟩,hc.2.2.1⟩
 ·cases hl
end Go.Aft
end
section
set_option maxRecDepth 20000
namespace Go.Aft
mutual
def renE (f:Str->Str):Exp->Exp
 | .mk op name n fold calcs kids=>.mk op (f name) n fold calcs (renEs f kids)
def renEs (f:Str->Str):List Exp->List Exp
 | []=>[]
 | e :: es=>renE f e :: renEs f es
end
theorem renEs_map (f:Str->Str):∀ l,renEs f l=l.map (renE f)
 | []=>rfl
 | e :: es=>by rw [renEs,renEs_map f es,List.map_cons]
structure RenOk (f:Str->Str) (L:List Str):Prop where
 zero:f noName=noName
 name:∀ s ∈ L,nameM (f s)=true
 inj:∀ s ∈ L,∀ t ∈ L,f s=f t->s=t
theorem nameM_some {s:Str} (h:nameM s=true):s ≠ noName:=by
 rintro rfl
 simp [nameM,noName,ByteArray.size] at h
theorem idx_map {f:Str->Str}:∀ (l:List Str) (s:Str),(∀ x ∈ l,f x=f s->x=s)->idx (l.map f) (f s)=idx l s
 | [],s,_=>rfl
 | x :: l,s,h=>by
  rw [List.map_cons,idx_cons,idx_cons,idx_map l s fun y hy=>h y (List.mem_cons_of_mem _ hy)]
  by_cases e:x=s
  ·subst e;simp
  ·rw [if_neg e,if_neg fun q=>e (h x (List.mem_cons_self ..) q)]
theorem ite_some' {α:Type} {c:Prop} [Decidable c] {a x:α} {o:Option α} {P:α->Prop} (h:(if c then some a else o)=some x) (h1:c->P a) (h2:o=some x->P x):P x:=by
 by_cases q:c
 ·rw [if_pos q] at h;cases h;exact h1 q
 ·rw [if_neg q] at h;exact h2 h
theorem shp_name {op:Int} {x:Shp} (h:shpOf op=some x):x.name=true->op=1 \/ op=2 \/ op=3:=by
 unfold shpOf at h
 refine ite_some' (P:=fun x:Shp=>x.name=true->op=1 \/ op=2 \/ op=3) h (fun c _=>by omega) fun h=>?_
 refine ite_some' (P:=fun x:Shp=>x.name=true->op=1 \/ op=2 \/ op=3) h (fun c _=>by omega) fun h=>?_
 iterate 11
  refine ite_some (P:=fun x:Shp=>x.name=true->op=1 \/ op=2 \/ op=3) h (fun q=>by cases q) fun h=>?_
 cases h
theorem expOk_name {op n fold:Int} {name:Str} {nc nk:Nat} (h:expOk op name n fold nc nk=true):name ≠ noName ↔ op=1 \/ op=2 \/ op=3:=by
 unfold expOk at h
 split at h
 ·cases h
 ·rename_i x hx
  simp only [Bool.and_eq_true,decide_eq_true_eq,beq_iff_eq] at h
  have hn:=h.1.1.2
  constructor
  ·intro q
   exact shp_name hx (by rw [hn];simpa using q)
  ·intro q
   rcases q with rfl | rfl | rfl <;> (simp [shpOf] at hx;subst hx;simpa using hn.symm)
theorem expOk_ren {op n fold:Int} {name name':Str} {nc nk:Nat} (h:expOk op name n fold nc nk=true) (hn:name' ≠ noName ↔ name ≠ noName):expOk op name' n fold nc nk=true:=by
 unfold expOk at h |-
 split at h
 ·cases h
 ·rename_i x hx
  rw [show decide (name' ≠ noName)=decide (name ≠ noName) from decide_eq_decide.2 hn]
  exact h
theorem nameOk_mem {srcs defs:List Str} {a op:Int} {name:Str} (h:nameOk srcs defs a op name=true):(op=1->name ∈ srcs)/\(op=2 \/ op=3->name ∈ defs):=by
 unfold nameOk at h
 constructor
 ·rintro rfl
  simp at h
  exact (idx_mem _ _).1 h
 ·rintro (rfl | rfl)
  ·simp at h;exact (idx_mem _ _).1 h.1
  ·simp at h;exact (idx_mem _ _).1 h
theorem nameOk_ren {f:Str->Str} {srcs defs:List Str} (hf:RenOk f (srcs ++ defs)) {a op:Int} {name:Str} (h:nameOk srcs defs a op name=true):nameOk (srcs.map f) (defs.map f) a op (f name)=true:=by
 have hm:=nameOk_mem h
 have hs:op=1->idx (srcs.map f) (f name)=idx srcs name:=fun q=>idx_map _ _ fun x hx e=>hf.inj _ (by simp [hx]) _ (by simp [hm.1 q]) e
 have hd:op=2 \/ op=3->idx (defs.map f) (f name)=idx defs name:=fun q=>idx_map _ _ fun x hx e=>hf.inj _ (by simp [hx]) _ (by simp [hm.2 q]) e
 unfold nameOk at h |-
 by_cases q1:op=1
 ·rw [if_pos q1] at h |-;rw [hs q1];exact h
 ·rw [if_neg q1] at h |-
  by_cases q2:op=2
  ·rw [if_pos q2] at h |-;rw [hd (.inl q2)];exact h
  ·rw [if_neg q2] at h |-
   by_cases q3:op=3
   ·rw [if_pos q3] at h |-;rw [hd (.inr q3)];exact h
   ·rw [if_neg q3]
mutual
theorem renE_lExp {f:Str->Str} {srcs defs:List Str} (hf:RenOk f (srcs ++ defs)) {a:Int}:∀ (e:Exp) (d l l':Int),lExp srcs defs a e d l=some l'->lExp (srcs.map f) (defs.map f) a (renE f e) d l=some l'
 | .mk op name n fold calcs kids,d,l,l',h=>by
  rw [renE]
  rw [lExp] at h |-
  split at h
  ·rename_i hc
   obtain ⟨h1,h2,h3,h4⟩:=hc
   have hne:f name ≠ noName ↔ name ≠ noName:=by
    constructor
    ·intro q r;rw [r] at q;exact q hf.zero
    ·intro q
     rcases (expOk_name h3).1 q with r | r
     ·exact nameM_some (hf.name _ (by simp [(nameOk_mem h4).1 r]))
     ·exact nameM_some (hf.name _ (by simp [(nameOk_mem h4).2 r]))
   rw [if_pos ⟨h1,h2,by rw [renEs_map,List.length_map];exact expOk_ren h3 hne,nameOk_ren hf h4⟩]
   split at h
   ·exact renEs_lExps hf kids _ _ _ h
   ·cases h
  ·cases h
theorem renEs_lExps {f:Str->Str} {srcs defs:List Str} (hf:RenOk f (srcs ++ defs)) {a:Int}:∀ (es:List Exp) (d l l':Int),lExps srcs defs a es d l=some l'->lExps (srcs.map f) (defs.map f) a (renEs f es) d l=some l'
 | [],d,l,l',h=>by rw [renEs];rw [lExps] at h |-;exact h
 | e :: es,d,l,l',h=>by
  rw [renEs]
  rw [lExps] at h |-
  split at h
  ·rename_i l1 hl1
   rw [renE_lExp hf e _ _ _ hl1]
   exact renEs_lExps hf es _ _ _ h
  ·cases h
end
mutual
theorem allE_ren (f:Str->Str):∀ e,allE (renE f e)=(allE e).map (renE f)
 | .mk op name n fold calcs kids=>by rw [renE,allE,allE,List.map_cons,renE,allEs_ren f kids]
theorem allEs_ren (f:Str->Str):∀ es,allEs (renEs f es)=(allEs es).map (renE f)
 | []=>rfl
 | e :: es=>by rw [renEs,allEs,allEs,List.map_append,allE_ren f e,allEs_ren f es]
end
mutual
theorem lExp_names {srcs defs:List Str} {a:Int}:∀ (e:Exp) (d l l':Int),lExp srcs defs a e d l=some l'->∀ x ∈ allE e,(x.op=1->x.name ∈ srcs)/\(x.op=2 \/ x.op=3->x.name ∈ defs)
 | .mk op name n fold calcs kids,d,l,l',h,x,hx=>by
  rw [lExp] at h
  split at h
  ·rename_i hc
   split at h
   ·rw [allE] at hx
    rcases List.mem_cons.1 hx with q | hx
    ·rw [q];exact nameOk_mem hc.2.2.2
    ·exact lExps_names kids _ _ _ h x hx
   ·cases h
  ·cases h
theorem lExps_names {srcs defs:List Str} {a:Int}:∀ (es:List Exp) (d l l':Int),lExps srcs defs a es d l=some l'->∀ x ∈ allEs es,(x.op=1->x.name ∈ srcs)/\(x.op=2 \/ x.op=3->x.name ∈ defs)
 | [],d,l,l',h,x,hx=>by rw [allEs] at hx;cases hx
 | e :: es,d,l,l',h,x,hx=>by
  rw [lExps] at h
  split at h
  ·rename_i l1 hl1
   rw [allEs] at hx
   rcases List.mem_append.1 hx with hx | hx
   ·exact lExp_names e _ _ _ hl1 x hx
   ·exact lExps_names es _ _ _ h x hx
  ·cases h
end
mutual
theorem strip_ren {f:Str->Str} (h0:f noName=noName):∀ e,strip (renE f e)=((strip e).1,renE f (strip e).2)
 | .mk op name n fold calcs kids=>by
  rw [renE,strip,strip]
  by_cases h:op=5
  ·rw [if_pos h,if_pos h,stripL_ren h0 kids]
  ·rw [if_neg h,if_neg h,renE]
theorem stripL_ren {f:Str->Str} (h0:f noName=noName):∀ es,stripL (renEs f es)=((stripL es).1,renE f (stripL es).2)
 | []=>by
  have:renE f default=default:=by
   show renE f (.mk 0 noName 0 0 [] [])=.mk 0 noName 0 0 [] []
   rw [renE,h0,renEs]
  rw [renEs,stripL,this]
 | e :: es=>by rw [renEs,stripL,stripL,strip_ren h0 e]
end
end Go.Aft
end
