import Derived.Test.YtdhphbedajhmnaaGreatA47
import Derived.Test.YtdhphbedajhmnaaGreatA43
import Derived.Test.YtdhphbedajhmnaaGreatA40
import Derived.Test.YtdhphbedajhmnaaGreatA45
set_option linter.all false
section
set_option maxRecDepth 20000
namespace Go.Aft
open Go.Proofs.Tryz
theorem ref02_SameCalc1 (op n:Int) (kids:List Calc) (hk:kids.length * 40<=140737488351232) (ih:∀ k ∈ kids,AFun prog 95 [lv (rCalc k),lv (rCalc k)] (.d (.k (.bool true)))):AFun prog 95 [lv (rCalc (.mk op n kids)),lv (rCalc (.mk op n kids))] (.d (.k (.bool true))):=by
 have cc:=cxK_ok (p:=kds [2,3] [] [])
 refine AFun.body (cxK_ok (p:=kds [2,3] [] [])) func95 rfl call95 (by rw [ntmps95];simp) rfl fun hf H=>?_
 simp [ntmps95,results95,rCalc_eq,Calc.op,Calc.n,Calc.kids] at hf |-
 refine AW.loopS cc (fun i:Nat=>⟨[(2,.ip [lvI op,lvI n,sl (kids.map rCalc)] 0),(3,.ip [lvI op,lvI n,sl (kids.map rCalc)] 0),(5,lvI i)],[],H⟩) (fun i=>kids.length - i) (fun i=>i<=kids.length) 0 ⟨Nat.zero_le _,by simp⟩ ?_
 intro i hi
 simp
 intro h
 refine AW.draw cc [(10,.n)] (.q 0<|.q 2<|.q 5<|.q 7<|.q 1<|.q 3<|.q 4<|.q 6<|.q 8<|.q 9<|.q 10<|.q 11<|.done) (by kernel_rfl) ?_
 simp [h,List.getElem?_eq_getElem h,rCalc_eq]
 refine FC.afun (v:=.d (.k (.bool true))) (by simpa [rCalc_eq] using ih kids[i] (List.getElem_mem h)) ?_
 simp
 exact NX.go (i+1) (by omega) h (by simp [wrap_succ (n:=9223372036854775807) (show i < 9223372036854775807 by omega)])
mutual
theorem ref02_SameCalc:∀ c:Calc,okC c->AFun prog 95 [lv (rCalc c),lv (rCalc c)] (.d (.k (.bool true)))
 | .mk op n kids,h=>by
  rw [okC] at h
  exact ref02_SameCalc1 op n kids h.1 (ref02_SameCalcs kids h.2)
theorem ref02_SameCalcs:∀ cs:List Calc,okCs cs->∀ k ∈ cs,AFun prog 95 [lv (rCalc k),lv (rCalc k)] (.d (.k (.bool true)))
 | [],_,k,hk=>by cases hk
 | c :: cs,h,k,hk=>by
  rw [okCs] at h
  rcases List.mem_cons.1 hk with q | hk
  ·rw [q];exact ref02_SameCalc c h.1
  ·exact ref02_SameCalcs cs h.2 k hk
end
theorem ref02_SameExp1 (op:Int) (name:Str) (n fold:Int) (calcs:List Calc) (kids:List Exp) (hc:calcs.length * 40<=140737488351232) (hk:kids.length * 88<=140737488351232) (hcs:∀ k ∈ calcs,AFun prog 95 [lv (rCalc k),lv (rCalc k)] (.d (.k (.bool true))))
  (ih:∀ k ∈ kids,AFun prog 58 [lv (rExp k),lv (rExp k)] (.d (.k (.bool true)))):AFun prog 58 [lv (rExp (.mk op name n fold calcs kids)),lv (rExp (.mk op name n fold calcs kids))] (.d (.k (.bool true))):=by
 have cc:=cxK_ok (p:=kds [2,3] [] [])
 refine AFun.body (cxK_ok (p:=kds [2,3] [] [])) func58 rfl call58 (by rw [ntmps58];simp) rfl fun hf H=>?_
 obtain ⟨R,hR⟩:∃ R,[lvI op,.d (.k (.string name)),lvI n,lvI fold,sl (calcs.map rCalc),sl (kids.map rExp)]=R:=⟨_,rfl⟩
 simp [ntmps58,results58,rExp_eq,Exp.op,Exp.n,Exp.kids,Exp.name,Exp.fold,Exp.calcs] at hf |-
 refine AW.loopS cc (fun i:Nat=>⟨[(2,.ip R 0),(3,.ip R 0),(5,lvI i)],[],H⟩) (fun i=>calcs.length - i) (fun i=>i<=calcs.length) 0 ⟨Nat.zero_le _,by simp [<- hR]⟩ ?_
 intro i hi
 simp [<- hR]
 refine ⟨fun h=>?_,fun h=>?_⟩
 ·refine AW.draw cc [(10,.n)] (.q 0<|.q 2<|.q 5<|.q 7<|.q 1<|.q 3<|.q 4<|.q 6<|.q 8<|.q 9<|.q 10<|.q 11<|.done) (by kernel_rfl) ?_
  simp [h,List.getElem?_eq_getElem h,rCalc_eq]
  refine FC.afun (v:=.d (.k (.bool true))) (by simpa [rCalc_eq] using hcs calcs[i] (List.getElem_mem h)) ?_
  simp
  exact NX.go (i+1) (by omega) h (by simp [<- hR,wrap_succ (n:=9223372036854775807) (show i < 9223372036854775807 by omega)])
 ·refine AW.loopS cc (fun i:Nat=>⟨[(2,.ip R 0),(3,.ip R 0),(6,lvI i)],[],H⟩) (fun i=>kids.length - i) (fun i=>i<=kids.length) 0 ⟨Nat.zero_le _,by simp [<- hR]⟩ ?_
  intro i hi
  simp [<- hR]
  intro h
  refine AW.draw cc [(10,.n)] (.q 0<|.q 2<|.q 5<|.q 7<|.q 1<|.q 3<|.q 4<|.q 6<|.q 8<|.q 9<|.q 10<|.q 11<|.done) (by kernel_rfl) ?_
  simp [h,List.getElem?_eq_getElem h,rExp_eq]
  refine FC.afun (v:=.d (.k (.bool true))) (by simpa [rExp_eq] using ih kids[i] (List.getElem_mem h)) ?_
  simp
  exact NX.go (i+1) (by omega) h (by simp [<- hR,wrap_succ (n:=9223372036854775807) (show i < 9223372036854775807 by omega)])
mutual
theorem ref02_SameExp:∀ e:Exp,okE e->AFun prog 58 [lv (rExp e),lv (rExp e)] (.d (.k (.bool true)))
 | .mk op name n fold calcs kids,h=>by
  rw [okE] at h
  exact ref02_SameExp1 op name n fold calcs kids h.1 h.2.1 (ref02_SameCalcs calcs h.2.2.1) (ref02_SameExps kids h.2.2.2)
theorem ref02_SameExps:∀ es:List Exp,okEs es->∀ k ∈ es,AFun prog 58 [lv (rExp k),lv (rExp k)] (.d (.k (.bool true)))
 | [],_,k,hk=>by cases hk
 | c :: cs,h,k,hk=>by
  rw [okEs] at h
  rcases List.mem_cons.1 hk with q | hk
  ·rw [q];exact ref02_SameExp c h.1
  ·exact ref02_SameExps cs h.2 k hk
end
end Go.Aft
end
section
set_option maxRecDepth 20000
namespace Go.Aft
open Go.Proofs.Tryz
end Go.Aft
end
section
set_option maxRecDepth 20000
namespace Go.Aft
open Go.Proofs.Tryz
theorem ref17_AskedC (p:Prog) (hs:fitP p) (d:Int) (l:List News) (room:Room) (window key:Int) (h0:askE p d l room window key=0) :
  AFun prog 33 [lv (rProg p),lvI d,sl (l.map rNews),lv (rRoom room),lvI window,lvI key] (.tup [caseL (shD p d) (markM l (shD p d).src) window key,lvI 0]):=by
 intro H
 have cc:=cxK_ok (p:=kds [6,9] [] [])
 refine ECall.bodyNW (cxK_ok (p:=kds [6,9] [] [])) func33 rfl call33 (by rw [ntmps33];simp) rfl fun hf hw=>?_
 obtain ⟨f1,f2,f3,f4,f5,f6,_,_,f9,f10,f11⟩:=askE_facts h0
 obtain ⟨g1,g2,_⟩:=askE_zero h0
 have hk1:valB key=true:=by simp only [askedB,Bool.and_eq_true] at g1;exact g1.2
 have hkept:keptB l p.srcs.length=true:=by rw [keptB,f3];simp [f4]
 have hd:=ref02_Def p hs d
 have hk:=ref17_Kept l p.srcs.length
 have hr:=ref17_Room room
 have hi1:=ref17_in key (-1000000000) 1000000000
 have hi2:=ref17_in window 0 200
 rw [show inB key (-1000000000) 1000000000=true from hk1] at hi1
 rw [f9] at hi2
 rw [hkept] at hk
 rw [f5] at hr
 simp [rProg,rRoom,f1] at hd hk hr hi1 hi2
 simp [ntmps33,results33,rProg,rRoom] at hf |-
 have hdl:d.toNat < p.defs.length:=by have:=f1.2;omega
 have hgd:p.defs.getD d.toNat default=p.defs[d.toNat]:=by simp [List.getD,List.getElem?_eq_getElem hdl]
 have hs2:=ref17_plainOf p d.toNat hdl fun h8=>by
  obtain ⟨k,hk,hw,_⟩:=formed_fold f1.1 hdl h8;exact ⟨k,[],hk,hw⟩
 rw [show ((d.toNat:Nat):Int)=d by have:=f1.2;omega] at hs2
 unfold shD
 unfold shD at f10 f11
 rw [hgd] at f2 f10 f11 g2 |-
 have hpl:=formed_plain f1.1 hdl f2
 generalize plainOf p p.defs[d.toNat].exp=y at f2 f10 f11 g2 hpl hs2 |-
 obtain ⟨sh,b⟩:=y
 simp only at f2
 subst f2
 dsimp only at f10 f11 hpl |-
 have g3:(window+1).tmod sh.n=0/\¬ 60 < (l.length:Int)+room.most:=by
  unfold lookE at g2
  rw [if_neg (by simp)] at g2
  split at g2
  ·cases g2
  ·rename_i q
   split at g2
   ·cases g2
   ·rename_i q2
    rw [f9] at q
    exact ⟨by simpa using q,q2⟩
 simp [rProg,rShape] at hs2
 refine AW.seq cc ?_
 simp
 refine AW.seq cc ?_
 simp
 refine EC.afun hd ?_
 simp
 refine EC.afun hk ?_
 simp
 refine EC.afun hr ?_
 simp
 refine EC.afun hi1 ?_
 simp
 refine AW.seq cc ?_
 simp
 refine EC.afun hs2 ?_
 simp
 refine AW.seq cc ?_
 simp
 have hg:=formed_good (l:=l) (srcs:=p.srcs.length) f3
 have hfm:=f3
 simp only [formedB,plainB,Bool.and_eq_true,decide_eq_true_eq] at hfm
 have hs4:(1:Int)<=p.srcs.length/\(p.srcs.length:Int)<=4:=by have:=hfm.1.1.1;simp [inB] at this;exact this
 have hmk:=ref05_MarksOf l p.srcs.length hs4 hg
 have hw1:0<=window/\window<=200:=by simp [inB] at f9;exact f9
 have hww:IntKind.wrap .i64 (window+1)=window+1:=by rw [wrap64] <;> omega
 have hn0:¬ sh.n=0:=by omega
 refine AW.seq cc ?_
 simp
 refine EC.afun hi2 ?_
 simp [hww,hn0,g3.1]
 have hm6:=roomB_most f5
 have hll:=hfm.1.1.2
 have hlw:IntKind.wrap .i64 ((l.length:Int)+room.most)=(l.length:Int)+room.most:=by rw [wrap64] <;> omega
 refine AW.seq cc ?_
 simp [hlw,g3.2]
 obtain ⟨ms,hms⟩:∃ ms,List.map rI (List.map (fun k:Nat=>markM l (k:Nat)) (List.range ((p.srcs.length:Int)).toNat))=ms:=⟨_,rfl⟩
 have hsn:sh.src.toNat < p.srcs.length:=by omega
 have hmg:ms[sh.src.toNat]?=some (rI (markM l sh.src)):=by
  rw [<- hms]
  have e:((sh.src.toNat:Nat):Int)=sh.src:=by omega
  simp [hsn,e]
 have hml:ms.length=p.srcs.length:=by rw [<- hms];simp
 rw [hms] at hmk
 simp at hmk
 refine AW.seq cc ?_
 refine AW.draw cc [(5,.n)] (.q 1<|.q 2<|.q 6<|.q 10<|.q 11<|.q 0<|.q 3<|.q 4<|.q 5<|.q 7<|.q 8<|.q 9<|.q 12<|.f<|.one 13<|.q 14<|.done) (by kernel_rfl) ?_
 simp
 refine FC.afun hmk ?_
 have hm1:∀ hh:sh.src.toNat < ms.length,ms[sh.src.toNat]'hh=rI (markM l sh.src):=fun hh=>by
  rw [List.getElem?_eq_getElem hh] at hmg;exact Option.some.inj hmg
 simp [hm1,hml,hsn,rI]
 refine ⟨⟨by omega,by omega⟩,AW.ev cc ?_⟩
 simp
 exact fun hz=>⟨hz.drop (Nat.le_refl _),rfl⟩
end Go.Aft
end
section
set_option maxRecDepth 20000
namespace Go.Aft
open Go.Proofs.Tryz
open Classical in
noncomputable def reachE (p:Prog) (d:Int) (l:List News) (room:Room) (window key side:Int):Int :=
 if side < 1 \/ 3 < side then 2 else if askE p d l room window key=0/\hasB (bndM l (shD p d) room window key).nb side=false then 5 else askE p d l room window key
theorem ask_shape {p:Prog} {d:Int} {l:List News} {room:Room} {window key:Int} (h0:askE p d l room window key=0) :
  keptB l p.srcs.length=true/\formedB l p.srcs.length=true/\l.length+room.most<=60/\roomB room=true/\valB key=true/\(0<=window/\window<=200)/\(0<=(shD p d).src/\(shD p d).src<=p.srcs.length - 1)/\(1<=(shD p d).n/\(shD p d).n<=50)/\(1<=(shD p d).fold/\(shD p d).fold<=4)/\∀ c ∈ (shD p d).terms,0<=mFormed c 1 60:=by
 obtain ⟨f1,f2,f3,f4,f5,f6,_,f8,f9,f10,f11⟩:=askE_facts h0
 obtain ⟨g1,_⟩:=askE_zero h0
 have hk1:valB key=true:=by simp only [askedB,Bool.and_eq_true] at g1;exact g1.2
 have hdl:d.toNat < p.defs.length:=by have:=f1.2;omega
 have hgd:p.defs.getD d.toNat default=p.defs[d.toNat]:=by simp [List.getD,List.getElem?_eq_getElem hdl]
 have hw1:0<=window/\window<=200:=by simp [inB] at f9;exact f9
 rw [hgd] at f2
 have hp:=formed_plain f1.1 hdl f2
 have ht:=formed_terms f1.1 hdl f2
 refine ⟨?_,f3,f6,f5,hk1,hw1,?_,⟨f10,f11⟩,?_,?_⟩
 ·rw [keptB,f3,f4];rfl
 ·unfold shD;rw [hgd];omega
 ·unfold shD;rw [hgd];omega
 ·unfold shD;rw [hgd];exact ht
theorem ref17_Reach (p:Prog) (hs:fitP p) (d:Int) (l:List News) (room:Room) (window key side:Int) :
  AFun prog 32 [lv (rProg p),lvI d,sl (l.map rNews),lv (rRoom room),lvI window,lvI key,lvI side] (lvI (reachE p d l room window key side)):=by
 intro H
 have cc:=cxK_ok (p:=kds [7,10] [] [])
 refine ECall.bodyNW (cxK_ok (p:=kds [7,10] [] [])) func32 rfl call32 (by rw [ntmps32];simp) rfl fun hf hw=>?_
 by_cases hsd:side < 1 \/ 3 < side
 ·have hr:reachE p d l room window key side=2:=by rw [reachE,if_pos hsd]
  rw [hr]
  simp [ntmps32,results32,rProg,rRoom] at hf |-
  refine AW.seq cc ?_
  simp
  refine AW.seq cc ?_
  simp
  rcases hsd with q | q
  ·simp [q]
   exact ⟨fun hz=>hz.drop (Nat.le_refl _),fun _ _=>by omega⟩
  ·have q':¬ side < 1:=by omega
   simp [q,q']
   exact ⟨fun hz=>hz.drop (Nat.le_refl _),fun _ _=>by omega⟩
 have c1:¬ side < 1:=by omega
 have c2:¬ 3 < side:=by omega
 by_cases h0:askE p d l room window key=0
 ·have hA:=ref17_AskedC p hs d l room window key h0
  obtain ⟨_,a2,a3,a4,a5,a6,a7,a8,a9,a10⟩:=ask_shape h0
  have hB:=ref17_Bound (shD p d) window key l p.srcs.length room a2 a6 a8 a9 a10 a5 a4
  have hr:reachE p d l room window key side=if hasB (bndM l (shD p d) room window key).nb side=false then 5 else 0:=by
   rw [reachE,if_neg hsd,h0];simp
  rw [hr]
  have hH:=ref17_Has (bndM l (shD p d) room window key).nb side
  generalize (bndM l (shD p d) room window key).nb=R at hB hH |-
  simp [rProg,caseL,rShape,rRoom,rNB,dB,dI] at hA hB hH
  simp [ntmps32,results32,rProg,rRoom,dB,dI] at hf |-
  refine AW.seq cc ?_
  simp
  refine AW.seq cc ?_
  simp [c1,c2]
  refine AW.seq cc ?_
  simp
  refine EC.afun hA ?_
  simp
  refine AW.seq cc ?_
  simp
  refine EC.afun hB ?_
  simp
  refine EC.afun hH ?_
  cases hasB R side with
  | false =>
   simp
   exact fun hz=>hz.drop (Nat.le_refl _)
  | true =>
   simp
   refine AW.ev cc ?_
   simp
   exact fun hz=>hz.drop (Nat.le_refl _)
 ·have hA:=ref17_Asked p hs d l room window key H
  have hr:reachE p d l room window key side=askE p d l room window key:=by
   rw [reachE,if_neg hsd,if_neg (fun q=>h0 q.1)]
  rw [hr]
  generalize askE p d l room window key=e at h0 hA |-
  simp [rProg,rRoom] at hA
  simp [ntmps32,results32,rProg,rRoom,dB,dI] at hf |-
  refine AW.seq cc ?_
  simp
  refine AW.seq cc ?_
  simp [c1,c2]
  refine AW.seq cc ?_
  simp
  refine EC.of hA (fun v H2 hR=>?_) (fun v H2 hR=>?_)
  rotate_left
  ·obtain ⟨⟨_,_,_,_,_,_,_,q⟩,_⟩:=hR;cases q
  obtain ⟨⟨x,y,z,m,u,k,t,q⟩,hH⟩:=hR
  cases q
  rw [hH]
  simp
  refine AW.seq cc ?_
  have h0b:(e == 0)=false:=by simpa using h0
  simp [h0,h0b]
  refine AW.ev cc ?_
  simp
  exact fun hz=>hz.drop (Nat.le_refl _)
theorem reach_law (p:Prog) (d:Int) (l:List News) (room:Room) (window key side:Int) :
  (reaV p d l room window key side).2=reachE p d l room window key side /\
  ((reaV p d l room window key side).2 ≠ 0->(reaV p d l room window key side).1=[]) /\
  ((reaV p d l room window key side).2=0->askE p d l room window key=0/\((reaV p d l room window key side).1.length:Int)<=room.most/\lateNB l (reaV p d l room window key side).1 p.srcs.length (shD p d).src room=true /\
   formedB (l ++ (reaV p d l room window key side).1) p.srcs.length=true/\markM (l ++ (reaV p d l room window key side).1) (shD p d).src=markM l (shD p d).src /\
   reachedB (l ++ (reaV p d l room window key side).1) (shD p d) window key (bndM l (shD p d) room window key).nb side=true):=by
 by_cases hsd:side < 1 \/ 3 < side
 ·have hr:reaV p d l room window key side=([],2):=by rw [reaV,if_neg];omega
  rw [hr,reachE,if_pos hsd]
  exact ⟨rfl,fun _=>rfl,fun q=>by cases q⟩
 by_cases hq:askedB p d l room key=true
 rotate_left
 ·have hr:reaV p d l room window key side=([],2):=by rw [reaV,if_neg (fun q=>hq q.1)]
  have h2:askE p d l room window key=2:=by rw [askE,if_neg hq]
  rw [hr,reachE,if_neg hsd,h2]
  exact ⟨rfl,fun _=>rfl,fun q=>by cases q⟩
 have ha:askE p d l room window key=lookE (plainOf p (p.defs.getD d.toNat default).exp) l.length room window:=by rw [askE,if_pos hq]
 have hr:reaV p d l room window key side=if askE p d l room window key=0 then reaB (bndM l (shD p d) room window key) (sceneM l (shD p d) room window key 0) (sortL (looseM l (shD p d) window key (standsM l))) l side else ([],askE p d l room window key):=by
  rw [ha,reaV,if_pos ⟨hq,by omega,by omega⟩];rfl
 by_cases h0:askE p d l room window key=0
 rotate_left
 ·rw [hr,if_neg h0,reachE,if_neg hsd,if_neg (fun q=>h0 q.1)]
  exact ⟨rfl,fun _=>rfl,fun q=>absurd q h0⟩
 rw [hr,if_pos h0,reachE,if_neg hsd]
 clear hr ha hq
 obtain ⟨a1,a2,a3,a4,a5,a6,a7,a8,a9,a10⟩:=ask_shape h0
 simp only [h0,true_and]
 generalize shD p d=sh at *
 have hb:=bound_spec (sceneM l sh room window key 0) (fixedM l sh window key (standsM l)) (sortL (looseM l sh window key (standsM l))) room.most.toNat
 have hsp:=scene_spec l sh room window key 0
 rw [hsp.sh] at hb
 change BSpec _ _ _ _ (bndM l sh room window key) at hb
 have hway:=fun (g:Bool) (w:Way) (h:w ∈ waysM room.most.toNat (min room.most.toNat (sortL (looseM l sh window key (standsM l))).length) (sceneM l sh room window key 0).has)=>late_way (srcs:=p.srcs.length) a1 a3 a4 a5 a6 a7 g h
 have hvl:∀ w ∈ waysM room.most.toNat (min room.most.toNat (sortL (looseM l sh window key (standsM l))).length) (sceneM l sh room window key 0).has,∀ x y:Int,(valsM (fixedM l sh window key (standsM l)) (sortL (looseM l sh window key (standsM l))) w false x).length=(valsM (fixedM l sh window key (standsM l)) (sortL (looseM l sh window key (standsM l))) w true y).length:=fun w h x y=>by
  rw [way_room] at h
  rw [valsM_len (by omega),valsM_len (by omega)]
 generalize bndM l sh room window key=b at hb |-
 have key1:∀ (g:Bool) (w:Way),w ∈ waysM room.most.toNat (min room.most.toNat (sortL (looseM l sh window key (standsM l))).length) (sceneM l sh room window key 0).has ->
   (reachedB (l ++ lateNV (sceneM l sh room window key 0) (sortL (looseM l sh window key (standsM l))) l w g) sh window key b.nb side=true) ->
   ((lateNV (sceneM l sh room window key 0) (sortL (looseM l sh window key (standsM l))) l w g).length:Int)<=room.most/\lateNB l (lateNV (sceneM l sh room window key 0) (sortL (looseM l sh window key (standsM l))) l w g) p.srcs.length sh.src room=true /\
   formedB (l ++ lateNV (sceneM l sh room window key 0) (sortL (looseM l sh window key (standsM l))) l w g) p.srcs.length=true/\markM (l ++ lateNV (sceneM l sh room window key 0) (sortL (looseM l sh window key (standsM l))) l w g) sh.src=markM l sh.src /\
   reachedB (l ++ lateNV (sceneM l sh room window key 0) (sortL (looseM l sh window key (standsM l))) l w g) sh window key b.nb side=true:=fun g w h hR=>by
  obtain ⟨w1,w2,_,w4⟩:=hway g w h
  refine ⟨w1,w2,?_,w4,hR⟩
  unfold lateNB at w2
  simp only [Bool.and_eq_true] at w2
  have:=w2.2
  rw [keptB,Bool.and_eq_true] at this
  exact this.1
 rw [reaB]
 split
 ·rename_i q
  obtain ⟨q1,q2⟩:=q
  obtain ⟨v1,v2⟩:=hb.none1 q2
  refine ⟨by simp [hasB,q1,q2],fun q=>absurd rfl q,fun _=>key1 _ _ v1 ?_⟩
  have hv:=(hway false _ v1).2.2.1
  rw [v2] at hv
  simp [reachedB,q1,ansM,List.perm_nil.1 hv]
 ·rename_i n1
  split
  ·rename_i q
   obtain ⟨q1,q2⟩:=q
   obtain ⟨⟨v1,v2,v3⟩,_⟩:=hb.some1 q2
   refine ⟨by simp [hasB,q1,q2],fun q=>absurd rfl q,fun _=>key1 _ _ v1 ?_⟩
   have hv:=(hway false _ v1).2.2.1
   have hne:winV (l ++ lateNV (sceneM l sh room window key 0) (sortL (looseM l sh window key (standsM l))) l b.wl false) sh window key ≠ []:=fun e=>v2 (List.nil_perm.1 (e ▸ hv))
   simp [reachedB,q1,ansM,hne,v3,foldOf_perm hv]
  ·rename_i n2
   split
   ·rename_i q
    obtain ⟨q1,q2⟩:=q
    obtain ⟨_,⟨v1,v2,v3⟩⟩:=hb.some1 q2
    refine ⟨by simp [hasB,q1,q2],fun q=>absurd rfl q,fun _=>key1 _ _ v1 ?_⟩
    have hv:=(hway true _ v1).2.2.1
    have hne:winV (l ++ lateNV (sceneM l sh room window key 0) (sortL (looseM l sh window key (standsM l))) l b.wh true) sh window key ≠ []:=fun e=>by
     rw [e] at hv
     have h1:=hv.length_eq
     have h2:=hvl _ v1 (sRec (sceneM l sh room window key 0) false) (sRec (sceneM l sh room window key 0) true)
     rw [<- h1] at h2
     exact v2 (List.eq_nil_of_length_eq_zero h2)
    simp [reachedB,q1,ansM,hne,v3,foldOf_perm hv]
   ·rename_i n3
    refine ⟨?_,fun _=>rfl,fun q=>by cases q⟩
    have hh:hasB b.nb side=false:=by
     have hs3:side=1 \/ side=2 \/ side=3:=by omega
     unfold hasB
     rcases hs3 with rfl | rfl | rfl <;> simp at n1 n2 n3 |-
     ·exact n1
     ·exact n2
     ·exact n3
    simp [hh]
end Go.Aft
end
section
set_option maxRecDepth 20000
namespace Go.Aft
open Go.Proofs.Tryz
theorem law_Reaches (p:Prog) (hs:fitP p) (l:List News) (a:Ask) (side:Int):AFun prog 9 [lv (rProg p),sl (l.map rNews),lv (rAsk a),lvI side] (.d (.k (.bool true))):=by
 have cc:=cxK_ok (p:=kds [4,6] [] [])
 refine AFun.bodyW (cxK_ok (p:=kds [4,6] [] [])) func9 rfl call9 (by rw [ntmps9];simp) rfl fun hf H=>?_
 have h1:=near_Reach p hs a.d l a.room a.window a.key side
 have h2:=ref17_Reach p hs a.d l a.room a.window a.key side
 have hpl:=ref17_Plain p hs a.d
 have hk:=law_known
 obtain ⟨r1,r2,r3⟩:=reach_law p a.d l a.room a.window a.key side
 rw [<- r1] at h2
 generalize reaV p a.d l a.room a.window a.key side=r at *
 obtain ⟨M,e⟩:=r
 simp only at h1 h2 r2 r3
 simp [rProg,rRoom] at h1 h2 hpl
 by_cases he:e=0
 rotate_left
 ·have hM:=r2 he
  subst hM
  simp [ntmps9,results9,rProg,rAsk,rRoom,dI] at hf h1 |-
  refine AW.seq cc ?_
  simp
  refine AW.seq cc ?_
  simp
  refine EC.afun h1 ?_
  simp
  refine AW.seq cc ?_
  simp
  refine EC.afun h2 ?_
  simp
  refine AW.seq cc ?_
  simp [he]
  refine EC.afun hk ?_
  simp
 ·subst he
  obtain ⟨a0,b1,b2,b3,b4,b5⟩:=r3 rfl
  clear r1 r2 r3
  obtain ⟨_,a2,a3,a4,a5,a6,a7,a8,a9,a10⟩:=ask_shape a0
  have hA:=ref17_AskedC p hs a.d l a.room a.window a.key a0
  have hB:=ref17_Bound (shD p a.d) a.window a.key l p.srcs.length a.room a2 a6 a8 a9 a10 a5 a4
  have hL:=ref17_LateNews l M (by have:=roomB_most a4;omega) p.srcs.length (shD p a.d).src a.room
  have hR:=ref17_Reached (shD p a.d) a.window a.key (l ++ M) p.srcs.length (markM l (shD p a.d).src) b4.symm b3 a6 a8 a9 a10 (bndM l (shD p a.d) a.room a.window a.key).nb side
  rw [b2] at hL
  rw [b5] at hR
  have hplv:=(askE_facts a0).2.2.2.2.2.2.1
  rw [hplv] at hpl
  generalize (bndM l (shD p a.d) a.room a.window a.key).nb=R at hB hR
  generalize shD p a.d=sh at *
  simp [rProg,rRoom,caseL,rShape,rNB,dB,dI] at hA hB hL hR hpl
  simp [ntmps9,results9,rProg,rAsk,rRoom,dI] at hf |-
  refine AW.seq cc ?_
  simp
  refine AW.seq cc ?_
  simp
  refine EC.afun h1 ?_
  simp
  refine AW.seq cc ?_
  simp
  refine EC.afun h2 ?_
  simp
  refine AW.seq cc ?_
  simp
  refine AW.seq cc ?_
  simp
  refine EC.afun hA ?_
  simp
  refine AW.seq cc ?_
  simp
  refine EC.afun hpl ?_
  simp
  refine AW.seq cc ?_
  simp
  refine ⟨fun _=>⟨by omega,EC.afun hL ?_⟩,fun q=>by omega⟩
  have hml:decide (a.room.most < (M.length:Int))=false:=by simpa using b1
  simp [hml]
  refine AW.seq cc ?_
  refine AW.draw cc [(8,.n),(9,.n),(11,.n),(13,.n)] (.q 1<|.q 3<|.q 6<|.q 7<|.q 8<|.q 10<|.f (.cons 0 (.f (.cons 2 (.f (.cons 4 (.q 5<|.q 9<|.q 11<|.q 12<|.q 13<|.q 14<|.q 15<|.done) (.cons 5 (.f<|.one 4<|.q 9<|.q 11<|.q 12<|.q 13<|.q 14<|.q 15<|.done) (.nil)))) (.cons 5 (.f<|.one 2<|.f<|.one 4<|.q 9<|.q 11<|.q 12<|.q 13<|.q 14<|.q 15<|.done) (.nil)))) (.cons 2 (.f (.cons 0 (.f (.cons 4 (.q 5<|.q 9<|.q 11<|.q 12<|.q 13<|.q 14<|.q 15<|.done) (.cons 5 (.f<|.one 4<|.q 9<|.q 11<|.q 12<|.q 13<|.q 14<|.q 15<|.done) (.nil)))) (.cons 4 (.q 0<|.q 5<|.q 9<|.q 11<|.q 12<|.q 13<|.q 14<|.q 15<|.done) (.cons 5 (.f (.cons 0 (.f<|.one 4<|.q 9<|.q 11<|.q 12<|.q 13<|.q 14<|.q 15<|.done) (.cons 4 (.q 9<|.q 0<|.q 11<|.q 12<|.q 13<|.q 14<|.q 15<|.done) (.nil)))) (.nil))))) (.cons 5 (.f (.cons 0 (.f<|.one 2<|.f<|.one 4<|.q 9<|.q 11<|.q 12<|.q 13<|.q 14<|.q 15<|.done) (.cons 2 (.f (.cons 0 (.f<|.one 4<|.q 9<|.q 11<|.q 12<|.q 13<|.q 14<|.q 15<|.done) (.cons 4 (.q 9<|.q 0<|.q 11<|.q 12<|.q 13<|.q 14<|.q 15<|.done) (.nil)))) (.nil)))) (.nil))))) (by kernel_rfl) ?_
  simp
  have hrn:∀ es:List News,∀ r ∈ es.map rNews,r.length=7:=fun es r hr=>by obtain ⟨_,_,rfl⟩:=List.mem_map.1 hr;rfl
  have hl1:l.length<=60/\M.length<=60:=by have:=roomB_most a4;omega
  repeat' (with_reducible refine And.intro ?_ ?_)
  all_goals
   refine APK.appX (ys:=l.map rNews) tyE35 rfl tyE53 (by simp) (by simp) (.nil (H:=H)) (by simp [rowsOf]) (by simp) (by simp) (hrn _) (by simp;omega) (by simp) fun x Ha hx hn1 ho1=>?_
   simp only [List.nil_append] at hx
   simp [hx.plain.all]
   repeat' (with_reducible refine And.intro ?_ ?_)
   all_goals
    refine APK.appX (ys:=M.map rNews) tyE35 rfl tyE53 (by simp) (x:=x) (by simp) hx (by simp [rowsOf]) (by simp) (hrn _) (hrn _) (by simp;omega) (by simp) fun y Hb hy _ _=>?_
    rw [<- List.map_append] at hy
    simp [hy.plain.all]
    refine FC.afun hB ?_
    simp [hy.plain.all]
    refine ⟨hy.nb,FC.afun (AFun.fzA (v:=.d (.k (.bool true))) (by simpa [fzs,fz,hy.fz] using hR)) ?_⟩
    simp
    refine FCg.afun (fun _=>hk) ?_
    simp
    refine AW.ev cc ?_
    simp
    exact ⟨hy.nx,hy.ob⟩
end Go.Aft
end
section
set_option maxRecDepth 20000
namespace Go.Aft
open Go.RowKit
open Go.Proofs.Tryz
section
variable {H:Type} {enc:TypeId × Value->H} {w:World}
theorem read_slice {P:Program} {α:Type} {t e:TypeId} {r:List α->List DV} {x1:List α->DV} {fit:List α->Prop} {base:Nat} {v:Value} {d:DataW H} {p:List MemPlace} (hr:∀ fuel,Rd enc P w t r fit fuel) (hx:∀ x,r x=[x1 x]) (hu:P.underlying t=some (.slice e))
  (hval:Value.okWide P w .any base t v) (hd:DataW.Trod enc P w 0 (fun _=>true) true t v d p) (hw:Wt P t d):∃ x,fit x/\LR (allG w) 0 noL (.d (x1 x)) v:=by
 obtain ⟨a,len,cap,rfl⟩:=Go.WideShapes.okWide_slice hu hval
 obtain ⟨fuel,hf⟩:=hd
 obtain ⟨x,h1,h2⟩:=hr fuel _ _ _ hf
 refine ⟨x,h2 hw,?_⟩
 rw [hx] at h1
 have h3:=RL_LRs (G:=allG w) (nx:=0) (lm:=noL) h1
 simp only [List.map_cons,List.map_nil] at h3
 unfold LRs at h3
 obtain ⟨v',vs',e,h4,_⟩:=h3
 have:v'=.slice a len cap:=by
  have:=congrArg List.head? e
  simpa [Value.cells] using this.symm
 rw [<- this];exact h4
theorem rd_news (fuel:Nat):Rd enc prog w 53 rNews (fun _=>True) fuel :=
 Rd.struct underlying53 fuel fun f hf=>((RdFs.cons (n:=7) rfl (Rd.int underlying51 f)<|RdFs.cons rfl (Rd.int underlying3 f)<|RdFs.cons rfl (Rd.int underlying3 f)<|RdFs.cons rfl (Rd.int underlying3 f)<|RdFs.cons rfl (rd_rec f)<|RdFs.nil)).conv (fun x=>⟨x.1,x.2.1,x.2.2.1,x.2.2.2.1,x.2.2.2.2.1⟩) (fun _=>rfl) (fun _ _=>trivial)
theorem rd_newsL (fuel:Nat):Rd enc prog w 35 (fun l:List News=>[.sl (l.map rNews)]) (fun l=>∀ n ∈ l,True) fuel:=Rd.slice underlying35 (by decide +kernel) (fun x=>by rw [show prog.cellsOf 53=7 by decide +kernel];rfl) fuel fun f _=>rd_news f
theorem rd_room (fuel:Nat):Rd enc prog w 37 rRoom (fun _=>True) fuel :=
 Rd.struct underlying37 fuel fun f hf=>((RdFs.cons (n:=3) rfl (Rd.int underlying3 f)<|RdFs.cons rfl (Rd.int underlying3 f)<|RdFs.cons rfl (Rd.int underlying3 f)<|RdFs.nil)).conv (fun x=>⟨x.1,x.2.1,x.2.2.1⟩) (fun _=>rfl) (fun _ _=>trivial)
theorem rd_ask (fuel:Nat):Rd enc prog w 39 rAsk (fun _=>True) fuel :=
 Rd.struct underlying39 fuel fun f hf=>((RdFs.cons (n:=6) rfl (Rd.int underlying3 f)<|RdFs.cons rfl (rd_room f)<|RdFs.cons rfl (Rd.int underlying3 f)<|RdFs.cons rfl (Rd.int underlying3 f)<|RdFs.nil)).conv (fun x=>⟨x.1,x.2.1,x.2.2.1,x.2.2.2.1⟩) (fun _=>rfl) (fun _ _=>trivial)
end
end Go.Aft
end
