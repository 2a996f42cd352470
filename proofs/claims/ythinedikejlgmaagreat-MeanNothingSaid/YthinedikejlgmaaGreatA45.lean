import Derived.Test.YthinedikejlgmaaGreatA42
import Derived.Test.YthinedikejlgmaaGreatA30
import Derived.Test.YthinedikejlgmaaGreatA29
import Derived.Test.YthinedikejlgmaaGreatA43
import Derived.Test.YthinedikejlgmaaGreatA24
import Derived.Test.YthinedikejlgmaaGreatA32
import Derived.Test.YthinedikejlgmaaGreatA23
set_option linter.all false
section
set_option maxRecDepth 20000
namespace Go.Aft
open Go.Proofs.Tryz
structure MapP (es:List (Value × LV)) (l:List Event):Prop where
 key:∀ (a:Value) (b:LV),(a,b) ∈ es->(KK.ag [.int .i64,.int .i64]).has a=true
 get:∀ s i:Int,(mfind (kk s i) es).getD (.d (.k (.bool false)))=.d (.k (.bool (l.any fun e=>decide (e.src=s/\e.id=i))))
theorem MapP.nil:MapP [] []:=⟨fun _ _ h=>absurd h List.not_mem_nil,fun _ _=>rfl⟩
theorem MapP.put {es:List (Value × LV)} {l:List Event} (h:MapP es l) (e:Event):MapP (mput (kk e.src e.id) (.d (.k (.bool true))) es) (l ++ [e]):=by
 refine ⟨mput_key _ _ _ _ h.key,fun s i=>?_⟩
 rw [mfind_put _ _ _ _ _ _ h.key]
 by_cases q:s=e.src/\i=e.id
 ·rw [if_pos q]
  have:(l ++ [e]).any (fun e=>decide (e.src=s/\e.id=i))=true:=List.any_eq_true.2 ⟨e,by simp,by simp [q]⟩
  rw [this];rfl
 ·rw [if_neg q,h.get]
  have:decide (e.src=s/\e.id=i)=false:=by
   rw [decide_eq_false_iff_not];exact fun z=>q ⟨z.1.symm,z.2.symm⟩
  rw [List.any_append,List.any_cons,List.any_nil,this,Bool.or_false,Bool.or_false]
def evOk (l:List Event) (i:Nat) (e:Event):Bool:=!(l.take i).any (fun x=>decide (x.src=e.src/\x.id=e.id)) && (decide (i=0) || beforeM (l.getD (i - 1) default) e)
def evsOk (l:List Event):Bool:=(List.range l.length).all fun i=>evOk l i (l.getD i default)
open Classical in
noncomputable def askedM (p:Prog) (l:List Event):Bool:=decide (formed p) && decide (l.length<=60) && evsOk l && formedB (l.map evN) p.srcs.length
open Classical in
theorem mean_asked (p:Prog) (hs:∀ s ∈ p.srcs ++ defNames p,strFit s) (l:List Event):AFun prog 68 [lv (rProg p),sl (l.map rEvent)] (.d (.k (.bool (askedM p l)))):=by
 intro H
 have cc:=cxA_ok (p:=kds [2] [] [])
 refine ECall.bodyN (cxA_ok (p:=kds [2] [] [])) func68 rfl call68 (by rw [ntmps68];simp) rfl fun hf hw=>?_
 have hck:=term_Check p hs
 simp [rProg] at hck
 simp [ntmps68,results68,rProg] at hf |-
 refine EC.afun hck ?_
 simp
 refine ⟨fun q hz=>⟨Drop_self hz,?_⟩,fun hfo h60=>?_⟩
 ·unfold askedM
  rcases q with q | q
  ·simp [q]
  ·have:¬ l.length<=60:=by omega
   simp [this]
 have hch:=mean_changedN l (by omega)
 simp at hch
 refine EC.afun hch ?_
 simp
 refine AW.loopS cc (fun s:Nat × List (Value × LV)=>⟨[(1,sl (l.map rEvent)),(2,.ip ((rProg p).map .d) 0),(5,.gm H.next),(6,sl ((l.map evN).map rNews)),(20,sl (l.map rEvent)),(21,lvI l.length),(22,lvI s.1)],[],H.add (.map s.2)⟩) (fun s=>l.length - s.1)
  (fun s=>s.1<=l.length/\MapP s.2 (l.take s.1)/\∀ j,j < s.1->evOk l j (l.getD j default)=true) (0,[]) ⟨⟨Nat.zero_le _,by simpa using MapP.nil,fun j hj=>by simp only at hj;omega⟩,by simp [rProg]⟩ ?_
 rintro ⟨i,es⟩ ⟨hi,hm,hok⟩
 simp only at hi hm hok
 have ob:∀ X,(H.add X).obj H.next=some X:=fun X=>by rw [GH.add_obj,if_pos rfl]
 have hset:∀ X Y,(H.add X).set H.next Y=H.add Y:=fun X Y=>GH.add_set
 simp
 refine ⟨fun h=>?_,fun h=>?_⟩
 ·obtain ⟨e,hee⟩:∃ e,l[i]=e:=⟨_,rfl⟩
  have htk:l.take (i+1)=l.take i ++ [e]:=by rw [<- take_more h,hee]
  have hge:l.getD i default=e:=by simp [List.getD,List.getElem?_eq_getElem h,hee]
  have hkey:=eq_true hm.key
  have hget:=hm.get e.src e.id
  have hput:=hm.put e
  rw [<- htk] at hput
  obtain ⟨met,hmet⟩:∃ met,(l.take i).any (fun x=>decide (x.src=e.src/\x.id=e.id))=met:=⟨_,rfl⟩
  rw [hmet] at hget
  have hkk:kk e.src e.id=.agg #[.int .i64 e.src,.int .i64 e.id]:=rfl
  rw [hkk] at hget hput
  have hw':=wrap_succ (n:=9223372036854775807) (show i < 9223372036854775807 by omega)
  have hhas:(KK.ag [.int .i64,.int .i64]).has (.agg #[.int .i64 e.src,.int .i64 e.id])=true:=rfl
  simp [h,List.getElem?_eq_getElem h,hee,rEvent,rRec]
  refine AW.draw cc [(17,.n)] (.q 0<|.q 1<|.q 3<|.q 2<|.q 4<|.q 5<|.q 6<|.q 7<|.q 8<|.q 9<|.q 10<|.q 11<|.q 12<|.q 13<|.q 14<|.q 15<|.q 16<|.q 17<|.q 18<|.q 19<|.q 20<|.done) (by kernel_rfl) ?_
  have hevo:evOk l i e=(!met && (decide (i=0) || beforeM (l.getD (i - 1) default) e)):=by unfold evOk;rw [hmet]
  have hno:evOk l i e=false->askedM p l=false:=fun q=>by
   have:evsOk l=false:=by
    rw [Bool.eq_false_iff];intro z
    simp only [evsOk,List.all_eq_true] at z
    have:=z i (List.mem_range.2 h)
    rw [hge,q] at this;cases this
   simp [askedM,this]
  have hdrop:∀ X,Drop H (H.add X) H:=fun X=>Drop_same (by rw [GH.add_next];omega) (fun m hm=>by rw [GH.add_obj,if_neg (by omega)]) hw.none
  have hgo:evOk l i e=true->∀ j,j < i+1->evOk l j (l.getD j default)=true:=fun q j hj=>by
   by_cases e1:j=i
   ·rw [e1,hge];exact q
   ·exact hok j (by omega)
  rcases Nat.eq_zero_or_pos i with h0 | h0
  ·subst h0
   simp [ob,hkey,hget,hhas]
   refine FCg.afun (v:=.d (.k (.bool false))) (fun q=>by cases q) ?_
   simp
   refine ⟨fun q hz=>⟨hdrop _,hno (by rw [hevo,q];rfl)⟩,fun q=>?_⟩
   simp [ob,hhas,hkey,hset]
   exact NX.go (0+1,mput (.agg #[.int .i64 e.src,.int .i64 e.id]) (.d (.k (.bool true))) es) (by simp only;omega) ⟨h,hput,hgo (by rw [hevo,q];rfl)⟩ (by simp [show IntKind.wrap .i64 1=1 from rfl,rProg])
  ·obtain ⟨u,hu⟩:∃ u,l[i - 1]'(by omega)=u:=⟨_,rfl⟩
   have hgu:l[i - 1]?=some u:=by rw [List.getElem?_eq_getElem (by omega),hu]
   have w1:IntKind.wrap .i64 ((i:Int) - 1)=(i:Int) - 1:=by rw [wrap64] <;> omega
   have t1:((i:Int) - 1).toNat=i - 1:=by omega
   have hb:=mean_before u e
   simp [rEvent,rRec] at hb
   have hgd:l.getD (i - 1) default=u:=by simp [List.getD,hgu]
   rw [hgd] at hevo
   simp [ob,hkey,hget,hhas,w1,t1,hgu,rEvent,rRec]
   refine ⟨fun a b=>⟨⟨a,b⟩,by omega,by omega⟩,FCg.afun (fun _=>hb) ?_⟩
   simp
   have hi0:decide (i=0)=false:=by rw [decide_eq_false_iff_not];omega
   refine ⟨fun q=>⟨q,fun _=>⟨q,h0⟩⟩,fun q hz=>⟨hdrop _,hno ?_⟩,fun q1 q2=>?_⟩
   ·rw [hevo]
    rcases q with q | ⟨_,q⟩
    ·rw [q];rfl
    ·rw [q,hi0];simp
   simp [ob,hhas,hkey,hset]
   exact NX.go (i+1,mput (.agg #[.int .i64 e.src,.int .i64 e.id]) (.d (.k (.bool true))) es) (by simp only;omega) ⟨h,hput,hgo (by rw [hevo,q1,q2 h0];simp)⟩ (by simp [hw',rProg])
 ·have e2:i=l.length:=by omega
  subst e2
  have hhc:=hist_Check (l.map evN) p.srcs.length
  simp at hhc
  simp [rProg]
  refine EC.afun hhc ?_
  simp
  have hev:evsOk l=true:=by
   simp only [evsOk,List.all_eq_true]
   exact fun j hj=>hok j (List.mem_range.1 hj)
  have h6:decide (l.length<=60)=true:=by simp;omega
  refine fun hz=>⟨Drop_same (by rw [GH.add_next];omega) (fun m hm=>by rw [GH.add_obj,if_neg (by omega)]) hw.none,?_⟩
  simp only [askedM,hfo,hev,h6,decide_true,Bool.true_and]
  cases formedB (l.map evN) (p.srcs.length:Int) <;> rfl
end Go.Aft
end
section
set_option maxRecDepth 20000
namespace Go.Aft
def nmX:Str:=⟨#[120]⟩
def nmY:Str:=⟨#[121]⟩
def nmA:Str:=⟨#[97]⟩
def nmB:Str:=⟨#[98]⟩
def nmC:Str:=⟨#[99]⟩
def qSums:Exp:=.mk 9 noName 5 2 [] [.mk 2 nmA 0 0 [] []]
def exQ:Prog:=⟨[nmX,nmY],[⟨nmA,.mk 15 noName 0 0 [] [.mk 1 nmX 0 0 [] []]⟩,⟨nmB,.mk 4 noName 0 0 [] [qSums,.mk 3 nmB 3 0 [] []]⟩,⟨nmC,.mk 14 noName 2 0 [] [.mk 2 nmA 0 0 [] [],.mk 1 nmY 0 0 [] []]⟩]⟩
def exE:List Event:=[⟨0,1,⟨10,1,5⟩⟩,⟨1,1,⟨11,1,2⟩⟩,⟨0,2,⟨14,1,7⟩⟩]
def exSt (i k:Nat):Bool:=decide (i=1/\(k=0 \/ k=1) \/ i=2/\k=0)
theorem exQ_len:exQ.defs.length=3:=rfl
theorem exQ_st1:∀ j:Fin 3,∀ e ∈ allE (exQ.defs.getD j.1 default).exp,(e.op=2 \/ e.op=3)->exSt j.1 (idx (defNames exQ) e.name).toNat=true:=by decide +kernel
theorem exQ_st2:∀ j:Fin 3,∀ k:Fin 3,exSt j.1 k.1=true->∃ e ∈ allE (exQ.defs.getD j.1 default).exp,(e.op=2 \/ e.op=3)/\idx (defNames exQ) e.name=(k.1:Int):=by decide +kernel
theorem exQ_get {i:Nat} (h:i < exQ.defs.length):exQ.defs.getD i default=exQ.defs[i]:=by rw [List.getD_eq_getElem?_getD,List.getElem?_eq_getElem h];rfl
theorem exQ_step {i k:Nat}:stepsTo exQ i k ↔ exSt i k=true:=by
 have hl:=exQ_len
 unfold stepsTo
 constructor
 ·rintro ⟨h,e,he,ho,hx⟩
  rw [<- exQ_get h] at he
  have:=exQ_st1 ⟨i,by omega⟩ e he ho
  rw [hx] at this
  simpa using this
 ·intro h
  have hik:i < 3/\k < 3:=by
   have:=of_decide_eq_true h
   omega
  have hi:i < exQ.defs.length:=by omega
  refine ⟨hi,?_⟩
  rw [<- exQ_get hi]
  exact exQ_st2 ⟨i,hik.1⟩ ⟨k,hik.2⟩ h
theorem exQ_path {i k:Nat}:pathB exQ i k=exSt i k:=by
 rw [Bool.eq_iff_iff,path_pathB]
 constructor
 ·intro h
  induction h with
  | one h=>exact exQ_step.1 h
  | cons h _ ih =>
   have h1:=of_decide_eq_true (exQ_step.1 h)
   have h2:=of_decide_eq_true ih
   exact decide_eq_true (by omega)
 ·intro h;exact .one (exQ_step.2 h)
theorem exQ_la:∀ e ∈ allE (exQ.defs.getD 1 default).exp,looksAhead e=false:=by decide +kernel
theorem exQ_dif:∀ (i:Fin 5),nameM ((exQ.srcs ++ defNames exQ).getD i.1 noName)=true/\∀ x ∈ (exQ.srcs ++ defNames exQ).take i.1,x ≠ ((exQ.srcs ++ defNames exQ).getD i.1 noName):=by decide +kernel
theorem exQ_formed:formed exQ:=by
 have h:diffM (exQ.srcs ++ defNames exQ):=fun i hi=>by
  have hg:(exQ.srcs ++ defNames exQ).getD i noName=(exQ.srcs ++ defNames exQ)[i]:=by rw [List.getD_eq_getElem?_getD,List.getElem?_eq_getElem hi];rfl
  have key:=exQ_dif ⟨i,hi⟩
  simp only [hg] at key
  exact ⟨key.1,fun hm=>key.2 _ hm rfl⟩
 refine ⟨⟨51,?_⟩,fun i hi hp e he=>?_⟩
 ·rw [countM,if_pos ⟨by decide,by decide,by decide,h⟩]
  decide +kernel
 ·have h1:=path_pathB.2 hp
  rw [exQ_path] at h1
  have hi1:i=1:=by
   have:=of_decide_eq_true h1
   omega
  subst hi1
  exact exQ_la e he
theorem exQ_groups:groupsM exQ.defs.length (pathB exQ)=[[0],[1],[2]]:=by
 have:pathB exQ=exSt:=by funext i k;exact exQ_path
 rw [this]
 decide +kernel
def exK:Option (List Bag):=groupsK exQ (srcsM exQ exE) [[0],[1],[2]] (List.replicate 3 [])
theorem exQ_known:knownM exQ exE=exK:=by rw [knownM,exQ_groups];rfl
def exTest:Option (List Bag)->Bool
 | some [a,b,c]=>decide (a=[⟨⟨10,1,5⟩,1⟩,⟨⟨14,1,7⟩,1⟩]/\4 < b.length/\b[1]?=some ⟨⟨13,1,5⟩,1⟩/\c=[⟨⟨14,1,7⟩,1⟩])
 | _=>false
theorem exK_test:exTest exK=true:=by decide +kernel
theorem exQ_ans:∃ b,knownM exQ exE=some [[⟨⟨10,1,5⟩,1⟩,⟨⟨14,1,7⟩,1⟩],b,[⟨⟨14,1,7⟩,1⟩]]/\4 < b.length/\b[1]?=some ⟨⟨13,1,5⟩,1⟩:=by
 have h:=exK_test
 rw [exQ_known]
 unfold exTest at h
 split at h
 ·rename_i a b c e
  obtain ⟨q1,q2,q3,q4⟩:=of_decide_eq_true h
  subst q1;subst q4
  exact ⟨b,e,q2,q3⟩
 ·cases h
theorem exQ_says:saysM exE 1=[⟨⟨11,1,2⟩,1⟩]:=by decide +kernel
def exA:Bag:=[⟨⟨10,1,5⟩,1⟩,⟨⟨14,1,7⟩,1⟩]
theorem exQ_node (W:World') (h:W.defs.getD 0 []=exA):expM exQ W 200 qSums=some [⟨⟨10,1,5⟩,1⟩,⟨⟨14,1,12⟩,1⟩]:=by
 have e:idx (defNames exQ) nmA=0:=by decide +kernel
 have h1:actM exQ W 2 nmA 0 0 [] []=exA:=by
  have:actM exQ W 2 nmA 0 0 [] []=W.defs.getD (idx (defNames exQ) nmA).toNat []:=rfl
  rw [this,e];exact h
 have h2:summedM exA 200=exA:=by decide +kernel
 have h3:fitsB exA=true:=by decide +kernel
 have h4:actM exQ W 9 noName 5 2 [] [exA]=spansM 2 0 (slideS 5) exA:=rfl
 have h5:summedM (spansM 2 0 (slideS 5) exA) 200=[⟨⟨10,1,5⟩,1⟩,⟨⟨14,1,12⟩,1⟩]:=by decide +kernel
 have h6:fitsB [⟨⟨10,1,5⟩,1⟩,⟨⟨14,1,12⟩,1⟩]=true:=by decide +kernel
 simp only [qSums,expM,expsM,h1,h2,h3,h4,h5,h6,if_true]
end Go.Aft
end
section
set_option maxRecDepth 20000
namespace Go.Aft
open Go.Proofs.Tryz
abbrev lvS (s:Str):LV:=.d (.k (.string s))
theorem law_name (s:Str):AFun prog 116 [lvS s] (lv (rExp (.mk 2 s 0 0 [] []))):=by
 refine AFun.body cx0_ok func116 rfl call116 (by rw [ntmps116];simp) rfl fun hf H=>?_
 simp [ntmps116,results116,rExp_eq]
theorem law_prev (s:Str) (n:Int):AFun prog 117 [lvS s,lvI n] (lv (rExp (.mk 3 s n 0 [] []))):=by
 refine AFun.body cx0_ok func117 rfl call117 (by rw [ntmps117];simp) rfl fun hf H=>?_
 simp [ntmps117,results117,rExp_eq]
theorem law_src (s:Str):AFun prog 118 [lvS s] (lv (rExp (.mk 1 s 0 0 [] []))):=by
 refine AFun.body cx0_ok func118 rfl call118 (by rw [ntmps118];simp) rfl fun hf H=>?_
 simp [ntmps118,results118,rExp_eq]
theorem law_sums (n:Int) (e:Exp):AFun prog 115 [lvI n,lv (rExp e)] (lv (rExp (.mk 9 noName n 2 [] [e]))):=by
 refine AFun.body (cxK_ok (p:=kds [3] [] [])) func115 rfl call115 (by rw [ntmps115];simp) rfl fun hf H=>?_
 have hr:List.range' 0 1=[0]:=rfl
 simp [ntmps115,results115,rExp_eq,hr,noName]
theorem law_exQ:AFun prog 61 [] (lv (rProg exQ)):=by
 have key:AFun prog 61 [] (.agg [LV.d (DV.sl [[DV.k (Value.string { data:=#[120] })],[DV.k (Value.string { data:=#[121] })]]),LV.d (DV.sl [[DV.k (Value.string { data:=#[97] }),DV.k (Value.int IntKind.i64 15),DV.k (Value.string { data:=#[] }),DV.k (Value.int IntKind.i64 0),DV.k (Value.int IntKind.i64 0),DV.k (Value.slice none 0 0),DV.sl [[DV.k (Value.int IntKind.i64 1),DV.k (Value.string { data:=#[120] }),DV.k (Value.int IntKind.i64 0),DV.k (Value.int IntKind.i64 0),DV.sl [],DV.sl []]]],[DV.k (Value.string { data:=#[98] }),DV.k (Value.int IntKind.i64 4),DV.k (Value.string { data:=#[] }),DV.k (Value.int IntKind.i64 0),DV.k (Value.int IntKind.i64 0),DV.k (Value.slice none 0 0),DV.sl [[DV.k (Value.int IntKind.i64 9),DV.k (Value.string { data:=#[] }),DV.k (Value.int IntKind.i64 5),DV.k (Value.int IntKind.i64 2),DV.sl [],DV.sl [[DV.k (Value.int IntKind.i64 2),DV.k (Value.string { data:=#[97] }),DV.k (Value.int IntKind.i64 0),DV.k (Value.int IntKind.i64 0),DV.sl [],DV.sl []]]],[DV.k (Value.int IntKind.i64 3),DV.k (Value.string { data:=#[98] }),DV.k (Value.int IntKind.i64 3),DV.k (Value.int IntKind.i64 0),DV.sl [],DV.sl []]]],[DV.k (Value.string { data:=#[99] }),DV.k (Value.int IntKind.i64 14),DV.k (Value.string { data:=#[] }),DV.k (Value.int IntKind.i64 2),DV.k (Value.int IntKind.i64 0),DV.k (Value.slice none 0 0),DV.sl [[DV.k (Value.int IntKind.i64 2),DV.k (Value.string { data:=#[97] }),DV.k (Value.int IntKind.i64 0),DV.k (Value.int IntKind.i64 0),DV.sl [],DV.sl []],[DV.k (Value.int IntKind.i64 1),DV.k (Value.string { data:=#[121] }),DV.k (Value.int IntKind.i64 0),DV.k (Value.int IntKind.i64 0),DV.sl [],DV.sl []]]]])]):=by
  have cc:=cx0_ok
  refine AFun.body cx0_ok func61 rfl call61 (by rw [ntmps61];simp) rfl fun hf H=>?_
  have h1:=law_name nmA
  have h2:=law_sums 5 (.mk 2 nmA 0 0 [] [])
  have h3:=law_prev nmB 3
  have h4:=law_src nmY
  have h5:=law_src nmX
  have hr1:List.range' 0 1=[0]:=rfl
  have hr2:List.range' 0 2=[0,1]:=rfl
  have hr3:List.range' 0 3=[0,1,2]:=rfl
  simp [nmA,nmB,nmX,nmY,rExp_eq,noName] at h1 h2 h3 h4 h5
  simp [ntmps61,results61,hr1,hr2,hr3]
  refine EC.afun h1 ?_
  simp
  refine EC.afun h2 ?_
  simp
  refine EC.afun h3 ?_
  simp [hr2]
  refine EC.afun h1 ?_
  simp
  refine EC.afun h4 ?_
  simp [hr2]
  refine AW.draw cc [(1,.n)] (.q 0<|.q 1<|.q 2<|.q 3<|.q 4<|.q 5<|.q 6<|.q 7<|.q 8<|.q 9<|.q 10<|.f<|.one 11<|.done) (by kernel_rfl) ?_
  simp [hr1,hr2,hr3]
  refine FC.afun h5 ?_
  simp [hr1,hr2,hr3]
 have:=key.nz
 simp [LV.nz,nzs,DV.nz,nzR,nzC] at this
 simpa [rProg,exQ,qSums,rDef,rExp,rCalc,nmA,nmB,nmC,nmX,nmY,noName,rS,rCalcs,rExps] using this
theorem law_event (s i a k v:Int):AFun prog 119 [lvI s,lvI i,lvI a,lvI k,lvI v] (lv (rEvent ⟨s,i,⟨a,k,v⟩⟩)):=by
 refine AFun.body cx0_ok func119 rfl call119 (by rw [ntmps119];simp) rfl fun hf H=>?_
 simp [ntmps119,results119,rEvent,rRec]
theorem law_exE:AFun prog 62 [] (sl (exE.map rEvent)):=by
 refine AFun.body cx0_ok func62 rfl call62 (by rw [ntmps62];simp) rfl fun hf H=>?_
 have h1:=law_event 0 1 10 1 5
 have h2:=law_event 1 1 11 1 2
 have h3:=law_event 0 2 14 1 7
 have hr:List.range' 0 3=[0,1,2]:=rfl
 simp [rEvent,rRec] at h1 h2 h3
 simp [ntmps62,results62,hr]
 refine EC.afun h1 ?_
 simp
 refine EC.afun h2 ?_
 simp
 refine EC.afun h3 ?_
 simp [exE,rEvent,rRec,hr]
theorem law_item (a k v:Int):AFun prog 63 [lvI a,lvI k,lvI v] (lv (rItem ⟨⟨a,k,v⟩,1⟩)):=by
 refine AFun.body cx0_ok func63 rfl call63 (by rw [ntmps63];simp) rfl fun hf H=>?_
 simp [ntmps63,results63,rItem]
theorem bag_Same (a b:List Item):AFun prog 23 [sl (a.map rItem),sl (b.map rItem)] (.d (.k (.bool (decide (a=b))))):=by
 have cc:=cxS_ok (p:=kds [] [] [])
 refine AFun.body (cxS_ok (p:=kds [] [] [])) func23 rfl call23 (by rw [ntmps23];simp) rfl fun hf H=>?_
 simp [ntmps23,results23] at hf |-
 refine ⟨fun h=>?_,fun h=>?_⟩
 ·have:a ≠ b:=fun e=>h (by rw [e])
  simp [this]
 ·have hl:a.length=b.length:=by omega
  refine AW.loopS cc (fun i:Nat=>⟨[(0,sl (a.map rItem)),(1,sl (b.map rItem)),(12,lvI a.length),(13,lvI i)],[],H⟩) (fun i=>a.length - i) (fun i=>i<=a.length/\a.take i=b.take i) 0 ⟨⟨Nat.zero_le _,by simp⟩,by simp⟩ ?_
  rintro i ⟨hi,hk⟩
  simp
  refine ⟨fun h=>?_,fun h=>?_⟩
  ·have h2:i < b.length:=by omega
   obtain ⟨x,hx⟩:∃ x,a[i]=x:=⟨_,rfl⟩
   obtain ⟨y,hy⟩:∃ y,b[i]=y:=⟨_,rfl⟩
   have hw':=wrap_succ h hf.1.1
   have hta:a.take (i+1)=a.take i ++ [x]:=by rw [<- take_more h,hx]
   have htb:b.take (i+1)=b.take i ++ [y]:=by rw [<- take_more h2,hy]
   simp [h]
   refine AW.draw cc [] (.q 0<|.q 1<|.q 2<|.q 4<|.q 5<|.q 6<|.q 3<|.q 7<|.q 8<|.done) (by kernel_rfl) ?_
   simp [h,h2,List.getElem?_eq_getElem h,List.getElem?_eq_getElem h2,hx,hy,rItem]
   refine ⟨fun q e=>?_,fun q1 q2 q3 q4=>?_⟩
   ·have:x=y:=by rw [<- hx,<- hy];simp only [e]
    subst this
    simp at q
   ·have exy:x=y:=by
     obtain ⟨⟨x1,x2,x3⟩,x4⟩:=x
     obtain ⟨⟨y1,y2,y3⟩,y4⟩:=y
     simp only at q1 q2 q3 q4
     rw [q1,q2,q3,q4]
    exact NX.go (i+1) (Nat.sub_lt_sub_left h (Nat.lt_succ_self i)) ⟨h,by rw [hta,htb,hk,exy]⟩ (by simp [hw'])
  ·have:i=a.length:=by omega
   subst this
   rw [List.take_length,hl,List.take_length] at hk
   simp [hk]
theorem bag_Clone (x:Item) (l:List Item) (hl:l.length<=1000):AFun prog 78 [sl ((x :: l).map rItem)] (sl ((x :: l).map rItem)):=by
 intro H
 have cc:=cxK_ok (p:=kds [] [] [5])
 refine ECall.bodyNW (cxK_ok (p:=kds [] [] [5])) func78 rfl call78 (by rw [ntmps78];simp) rfl fun hf hw=>?_
 have hlen:∀ r ∈ l.map rItem,r.length=4:=fun r hr=>by obtain ⟨_,_,rfl⟩:=List.mem_map.1 hr;rfl
 have hll:(l.map rItem).length=l.length:=by simp
 rw [List.map_cons]
 have hx:(rItem x).length=4:=rfl
 generalize rItem x=r0 at hx |-
 generalize l.map rItem=rows at hlen hll |-
 simp [ntmps78,results78]
 refine AW.seq cc ?_
 simp
 refine AW.seq cc ?_
 simp
 refine AW.seq cc ?_
 simp
 refine APK.ev ?_
 have h3:rows.length+1<=34359738368:=by omega
 have ob:∀ o,(H.add o).obj H.next=some o:=fun o=>by simp [GH.add_obj]
 have hnb:∀ m,nbs m (flatD (r0 :: rows)):=fun m=>flatD_nbs _ _
 have hfl:flatD (r0 :: rows) ≠ []:=fun q=>by have:=congrArg List.length q;rw [flat_len (sz:=4) (by simpa [hx] using hlen)] at this;simp at this
 generalize hF:flatD (r0 :: rows)=F at hnb hfl
 have h4:rows.length<=34359738367:=by omega
 simp [hx,ob,hF,hnb,h4,GH.add_set]
 refine ⟨hlen,?_⟩
 refine AW.thaw (n:=H.next) (g:=1) (sz:=4) (e:=86) (ex:=false) (r0 :: rows) (ob _) hF.symm (by simpa [hx] using hlen) ?_
 refine AW.ev cc ?_
 simp
 exact fun hz=>Drop_same (by simp [GH.add_next]) (fun m hm=>thaw_lt hw (Nat.le_refl _) (fun k hk=>by rw [GH.add_obj,if_neg (by omega)]) hm) hw.none
end Go.Aft
end
section
set_option maxRecDepth 20000
namespace Go.Aft
open Go.Proofs.Tryz
def itemB (b:List Item) (j:Nat):Bool:=recB (b.getD j default).rec_ && decide ((b.getD j default).n ≠ 0/\-1000000<=(b.getD j default).n/\(b.getD j default).n<=1000000) && (decide (j=0) || recLt (b.getD (j - 1) default).rec_ (b.getD j default).rec_)
def goodBag (b:List Item):Bool:=(List.range b.length).all (itemB b) && decide (b.length<=300)
def wholeB (b:List Item):Bool:=!b.any fun x=>decide (x.n < 0)
def plainB' (b:List Item):Bool:=goodBag b && wholeB b
theorem goodBag_false {b:List Item} {i:Nat} (h:i < b.length) (e:itemB b i=false):goodBag b=false:=by
 unfold goodBag
 have:(List.range b.length).all (itemB b)=false:=List.all_eq_false.2 ⟨i,List.mem_range.2 h,by simp [e]⟩
 rw [this];rfl
theorem goodBag_true {b:List Item} (h:∀ j,j < b.length->itemB b j=true):goodBag b=decide (b.length<=300):=by
 unfold goodBag
 rw [List.all_eq_true.2 fun j hj=>h j (List.mem_range.1 hj)];rfl
theorem bag_within (n lo hi:Int):AFun prog 173 [lvI n,lvI lo,lvI hi] (.d (.k (.bool (inB n lo hi)))):=by
 refine AFun.body cx0_ok func173 rfl call173 (by rw [ntmps173];simp) rfl fun _ H=>?_
 simp [ntmps173,results173,inB]
theorem bag_isRec (r:Rec):AFun prog 172 [lv (rRec r)] (.d (.k (.bool (recB r)))):=by
 refine AFun.body (cxK_ok (p:=kds [1] [] [])) func172 rfl call172 (by rw [ntmps172];simp) rfl fun _ H=>?_
 simp [ntmps172,results172,rRec]
 refine EC.afun (bag_within _ _ _) ?_
 cases h1:inB r.at_ 0 200 with
 | false=>simp [recB,h1]
 | true =>
  simp
  refine EC.afun (bag_within _ _ _) ?_
  cases h2:inB r.key (-1000000000) 1000000000 with
  | false=>simp [recB,h1,h2]
  | true =>
   simp
   refine EC.afun (bag_within _ _ _) ?_
   simp [recB,h1,h2]
def orM (l:List Int):Int:=(l.find? fun x=>decide (x ≠ 0)).getD 0
theorem orM_at {l:List Int} {i:Nat} (h:i < l.length) (e:l[i] ≠ 0) (hk:∀ j (hj:j < l.length),j < i->l[j]=0):orM l=l[i]:=by
 unfold orM
 have:l.find? (fun x=>decide (x ≠ 0))=some l[i]:=by
  rw [List.find?_eq_some_iff_getElem]
  refine ⟨by simpa using e,i,h,rfl,fun j hj=>?_⟩
  simp [hk j (by omega) hj]
 rw [this];rfl
theorem orM_none {l:List Int} (hk:∀ j (hj:j < l.length),l[j]=0):orM l=0:=by
 unfold orM
 have:l.find? (fun x=>decide (x ≠ 0))=none:=List.find?_eq_none.2 fun x hx=>by
  obtain ⟨j,hj,rfl⟩:=List.mem_iff_getElem.1 hx
  simp [hk j hj]
 rw [this];rfl
theorem cmp_Or (l:List Int):AFun prog 216 [sl (l.map rI)] (lvI (orM l)):=by
 have cc:=cx0_ok
 refine AFun.body cx0_ok func216 rfl call216 (by rw [ntmps216];simp) rfl fun hf H=>?_
 simp [ntmps216,results216] at hf |-
 refine AW.loopS cc (fun i:Nat=>⟨[(3,lvI 0),(6,sl (l.map rI)),(7,lvI l.length),(8,lvI i)],[],H⟩) (fun i=>l.length - i) (fun i=>i<=l.length/\∀ j (h:j < l.length),j < i->l[j]=0) 0 ⟨⟨Nat.zero_le _,fun j _ hj=>absurd hj (by omega)⟩,by simp⟩ ?_
 rintro i ⟨hi,hk⟩
 simp
 refine ⟨fun h=>?_,fun h=>?_⟩
 ·have hw':=wrap_succ h hf.1
  simp [h,List.getElem?_eq_getElem h]
  refine ⟨trivial,?_⟩
  simp [rI]
  refine ⟨fun e=>(orM_at h e hk).symm,fun e=>NX.go (i+1) (Nat.sub_lt_sub_left h (Nat.lt_succ_self i)) ⟨h,fun j hj hji=>?_⟩ (by simp [hw'])⟩
  by_cases z:j=i
  ·subst z;exact e
  ·exact hk j hj (by omega)
 ·exact (orM_none fun j hj=>hk j hj (by omega)).symm
theorem orM_rec (a b:Rec):(orM [cmpI a.at_ b.at_,cmpI a.key b.key,cmpI a.val b.val] < 0)=(recLt a b=true):=by
 unfold orM recLt cmpI
 refine propext ?_
 simp only [List.find?,decide_eq_true_eq]
 repeat' split
 all_goals simp_all <;> omega
theorem bag_compare (a b:Rec):AFun prog 174 [lv (rRec a),lv (rRec b)] (lvI (orM [cmpI a.at_ b.at_,cmpI a.key b.key,cmpI a.val b.val])):=by
 refine AFun.body (cxK_ok (p:=kds [2,3] [] [])) func174 rfl call174 (by rw [ntmps174];simp) rfl fun _ H=>?_
 have cc:=cxK_ok (p:=kds [2,3] [] [])
 have hr:List.range' 0 3=[0,1,2]:=rfl
 have ho:=cmp_Or [cmpI a.at_ b.at_,cmpI a.key b.key,cmpI a.val b.val]
 simp at ho
 simp [ntmps174,results174,rRec]
 refine AW.draw cc [(4,.n),(9,.n),(14,.n),(16,.n)] (.q 0<|.q 2<|.q 5<|.q 7<|.q 10<|.q 12<|.q 1<|.q 3<|.q 4<|.q 6<|.q 8<|.q 9<|.q 11<|.q 13<|.q 14<|.q 15<|.q 16<|.q 17<|.done) (by kernel_rfl) ?_
 simp
 refine FC.afun (cmp_Compare _ _) ?_
 simp
 refine FC.afun (cmp_Compare _ _) ?_
 simp
 refine FC.afun (cmp_Compare _ _) ?_
 simp [hr]
 refine FC.afun ho ?_
 simp
theorem bag_isBag (b:List Item):AFun prog 112 [sl (b.map rItem)] (.d (.k (.bool (goodBag b)))):=by
 have cc:=cxK_ok (p:=kds [] [] [])
 refine AFun.body (cxK_ok (p:=kds [] [] [])) func112 rfl call112 (by rw [ntmps112];simp) rfl fun hf H=>?_
 simp [ntmps112,results112] at hf |-
 refine AW.loopS cc (fun i:Nat=>⟨[(0,sl (b.map rItem)),(5,sl (b.map rItem)),(6,lvI b.length),(7,lvI i)],[],H⟩) (fun i=>b.length - i) (fun i=>i<=b.length/\∀ j,j < i->itemB b j=true) 0 ⟨⟨Nat.zero_le _,fun j hj=>absurd hj (by omega)⟩,by simp⟩ ?_
 rintro i ⟨hi,hk⟩
 simp
 refine ⟨fun h=>?_,fun h=>?_⟩
 ·obtain ⟨x,hx⟩:∃ x,b[i]=x:=⟨_,rfl⟩
  have hg:b.getD i default=x:=by rw [List.getD_eq_getElem?_getD,List.getElem?_eq_getElem h,<- hx];rfl
  have hrec:=bag_isRec x.rec_
  simp [rRec] at hrec
  simp [h,List.getElem?_eq_getElem h,hx,rItem]
  refine EC.afun hrec ?_
  by_cases h1:recB x.rec_=true
  ·simp [h1]
   by_cases h0:x.n=0
   ·have hb:itemB b i=false:=by unfold itemB;rw [hg];simp [h0]
    simp [h0,goodBag_false h hb]
   ·simp [h0]
    refine EC.afun (bag_within _ _ _) ?_
    by_cases hin:inB x.n (-1000000) 1000000=true
    ·simp [hin]
     have hw':=wrap_succ h hf.1
     have hcm:=fun y:Item=>bag_compare y.rec_ x.rec_
     have hord:=fun y:Item=>orM_rec y.rec_ x.rec_
     have hin':-1000000<=x.n/\x.n<=1000000:=by unfold inB at hin;simpa using hin
     have hit:itemB b i=(decide (i=0) || recLt (b.getD (i - 1) default).rec_ x.rec_):=by
      unfold itemB;rw [hg,h1];simp [h0,hin']
     simp [rRec] at hcm
     refine ⟨fun q=>absurd q h0,fun _=>?_⟩
     refine AW.draw cc [(11,.n)] (.q 0<|.q 1<|.q 2<|.q 3<|.q 4<|.q 5<|.q 6<|.q 7<|.q 9<|.q 8<|.q 10<|.q 11<|.q 12<|.q 13<|.done) (by kernel_rfl) ?_
     by_cases hi0:i=0
     ·subst hi0
      have hb:itemB b 0=true:=by rw [hit];rfl
      simp
      refine FCg.afun (v:=.d (.k (.int .i64 0))) (fun q=>by cases q) ?_
      simp
      exact NX.go 1 (by omega) ⟨h,fun j hj=>by rw [show j=0 by omega];exact hb⟩ (by simp;exact (by decide:IntKind.i64.wrap 1=1))
     ·have hi1:i - 1 < b.length:=by omega
      obtain ⟨y,hy⟩:∃ y,b[i - 1]=y:=⟨_,rfl⟩
      have hgy:b.getD (i - 1) default=y:=by rw [List.getD_eq_getElem?_getD,List.getElem?_eq_getElem hi1,<- hy];rfl
      have hwp:IntKind.i64.wrap ((i:Int) - 1)=i - 1:=by rw [wrap64] <;> omega
      have htn:((i:Int) - 1).toNat=i - 1:=by omega
      have hpos:0 < i:=by omega
      rw [hgy] at hit
      have ho:=hord y
      have hcy:=hcm y
      simp [hi0,hpos,hwp,htn,List.getElem?_eq_getElem hi1,hy,rItem]
      refine ⟨⟨by omega,by omega⟩,FCg.afun (fun _=>hcy) ?_⟩
      simp
      refine ⟨fun q=>?_,fun q=>?_⟩
      ·have hb:itemB b i=false:=by
        rw [hit]
        cases e:recLt y.rec_ x.rec_ with
        | true=>rw [<- ho] at e;omega
        | false=>simp [hi0]
       exact goodBag_false h hb
      ·have hb:itemB b i=true:=by
        rw [hit]
        have:=ho.mp (by omega)
        simp [this]
       refine NX.go (i+1) (Nat.sub_lt_sub_left h (Nat.lt_succ_self i)) ⟨h,fun j hj=>?_⟩ (by simp [hw'])
       by_cases z:j=i
       ·subst z;exact hb
       ·exact hk j (by omega)
    ·have hb:itemB b i=false:=by
      unfold itemB;rw [hg]
      unfold inB at hin
      simp at hin |-
      intro _ _ h2 h3
      have:=hin h2
      omega
     simp [hin,goodBag_false h hb]
  ·have hb:itemB b i=false:=by unfold itemB;rw [hg];simp [h1]
   simp [h1,goodBag_false h hb]
 ·rw [goodBag_true fun j hj=>hk j (by omega)]
  have e:(decide ((b.length:Int)<=300))=decide (b.length<=300):=by rw [Bool.eq_iff_iff];simp;omega
  simp [e]
theorem bag_Check (b:List Item):AFun prog 57 [sl (b.map rItem)] (lvI (if goodBag b then 0 else 2)):=by
 refine AFun.body cx0_ok func57 rfl call57 (by rw [ntmps57];simp) rfl fun hf H=>?_
 have h:=bag_isBag b
 simp at h
 simp [ntmps57,results57]
 refine EC.afun h ?_
 cases goodBag b <;> simp
theorem ref04_in (n:Int):AFun prog 207 [lvI n] (.d (.k (.bool (inB n (-1000000000) 1000000000)))):=by
 refine AFun.body cx0_ok func207 rfl call207 (by rw [ntmps207];simp) rfl fun _ H=>?_
 simp [ntmps207,results207,inB]
theorem ref04_Rec (r:Rec):AFun prog 146 [lv (rRec r)] (.d (.k (.bool (recB r)))):=by
 refine AFun.body (cxK_ok (p:=kds [1] [] [])) func146 rfl call146 (by rw [ntmps146];simp) rfl fun _ H=>?_
 simp [ntmps146,results146,rRec]
 by_cases h1:0<=r.at_
 ·simp [h1]
  by_cases h2:r.at_<=200
  ·have h2':¬ 200 < r.at_:=by omega
   simp [h2,h2']
   refine EC.afun (ref04_in _) ?_
   cases h3:inB r.key (-1000000000) 1000000000 with
   | false=>simp [recB,h3]
   | true =>
    simp
    refine EC.afun (ref04_in _) ?_
    have:inB r.at_ 0 200=true:=by simp [inB,h1,h2]
    simp [recB,h3,this]
  ·have:inB r.at_ 0 200=false:=by simp [inB,h2]
   simp [h2,recB,this]
 ·have:inB r.at_ 0 200=false:=by simp [inB,h1]
  simp [h1,recB,this]
theorem ref04_Less (a b:Rec):AFun prog 147 [lv (rRec a),lv (rRec b)] (.d (.k (.bool (recLt a b)))):=by
 refine AFun.body (cxK_ok (p:=kds [2,3] [] [])) func147 rfl call147 (by rw [ntmps147];simp) rfl fun _ H=>?_
 simp [ntmps147,results147,rRec]
 unfold recLt
 refine ⟨fun q=>?_,fun q=>⟨fun q2=>?_,fun q2=>?_⟩⟩ <;> rw [decide_eq_decide] <;> omega
theorem ref04_Good (b:List Item):AFun prog 82 [sl (b.map rItem)] (.d (.k (.bool (goodBag b)))):=by
 have cc:=cxK_ok (p:=kds [] [] [])
 refine AFun.body (cxK_ok (p:=kds [] [] [])) func82 rfl call82 (by rw [ntmps82];simp) rfl fun hf H=>?_
 simp [ntmps82,results82] at hf |-
 refine AW.loopS cc (fun i:Nat=>⟨[(0,sl (b.map rItem)),(5,sl (b.map rItem)),(6,lvI b.length),(7,lvI i)],[],H⟩) (fun i=>b.length - i) (fun i=>i<=b.length/\∀ j,j < i->itemB b j=true) 0 ⟨⟨Nat.zero_le _,fun j hj=>absurd hj (by omega)⟩,by simp⟩ ?_
 rintro i ⟨hi,hk⟩
 simp
 refine ⟨fun h=>?_,fun h=>?_⟩
 ·obtain ⟨x,hx⟩:∃ x,b[i]=x:=⟨_,rfl⟩
  have hg:b.getD i default=x:=by rw [List.getD_eq_getElem?_getD,List.getElem?_eq_getElem h,<- hx];rfl
  have hrec:=ref04_Rec x.rec_
  have hw':=wrap_succ h hf.1
  have hcm:=fun y:Item=>ref04_Less y.rec_ x.rec_
  simp [rRec] at hrec hcm
  simp [h,List.getElem?_eq_getElem h,hx,rItem]
  refine AW.draw cc [(2,.n),(31,.n)] (.q 0<|.q 1<|.q 2<|.q 3<|.q 4<|.q 5<|.q 6<|.q 7<|.q 8<|.q 9<|.q 10<|.q 11<|.q 12<|.q 13<|.q 14<|.q 15<|.q 16<|.q 17<|.q 18<|.q 19<|.q 20<|.q 21<|.q 22<|.q 23<|.q 24<|.q 25<|.q 26<|.q 27<|.q 29<|.q 28<|.q 30<|.q 31<|.q 32<|.q 33<|.q 34<|.done) (by kernel_rfl) ?_
  simp
  refine FC.afun hrec ?_
  have hmin:i=0 \/ i - 1 < b.length:=by omega
  by_cases hbad:recB x.rec_=true/\x.n ≠ 0/\-1000000<=x.n/\x.n<=1000000
  ·obtain ⟨h1,h0,hin⟩:=hbad
   have i1:¬ x.n < -1000000:=by omega
   have i2:¬ 1000000 < x.n:=by omega
   have hit:itemB b i=(decide (i=0) || recLt (b.getD (i - 1) default).rec_ x.rec_):=by
    unfold itemB;rw [hg,h1];simp [h0,hin]
   by_cases hi0:i=0
   ·subst hi0
    have hb:itemB b 0=true:=by rw [hit];rfl
    simp [h1,h0,hin]
    refine FCg.afun (v:=.d (.k (.bool false))) (fun q=>by cases q) ?_
    simp [h1,h0,i1,i2]
    exact NX.go 1 (by omega) ⟨h,fun j hj=>by rw [show j=0 by omega];exact hb⟩ (by simp;exact (by decide:IntKind.i64.wrap 1=1))
   ·have hi1:i - 1 < b.length:=by omega
    obtain ⟨y,hy⟩:∃ y,b[i - 1]=y:=⟨_,rfl⟩
    have hgy:b.getD (i - 1) default=y:=by rw [List.getD_eq_getElem?_getD,List.getElem?_eq_getElem hi1,<- hy];rfl
    have hwp:IntKind.i64.wrap ((i:Int) - 1)=i - 1:=by rw [wrap64] <;> omega
    have htn:((i:Int) - 1).toNat=i - 1:=by omega
    have hpos:0 < i:=by omega
    rw [hgy] at hit
    have hcy:=hcm y
    simp [h1,h0,hin,hi0,hpos,hwp,htn,List.getElem?_eq_getElem hi1,hy,rItem]
    refine ⟨⟨by omega,by omega⟩,FCg.afun (fun _=>hcy) ?_⟩
    simp [h1,h0,i1,i2]
    refine ⟨fun q=>?_,fun q=>?_⟩
    ·have hb:itemB b i=false:=by
      rw [hit,q];simp [hi0]
     exact goodBag_false h hb
    ·have hb:itemB b i=true:=by
      rw [hit,q];simp
     refine NX.go (i+1) (Nat.sub_lt_sub_left h (Nat.lt_succ_self i)) ⟨h,fun j hj=>?_⟩ (by simp [hw'])
     by_cases z:j=i
     ·subst z;exact hb
     ·exact hk j (by omega)
  ·have hb:itemB b i=false:=by
    cases q:itemB b i with
    | false=>rfl
    | true =>
     unfold itemB at q;rw [hg] at q
     simp only [Bool.and_eq_true,decide_eq_true_eq] at q
     exact absurd ⟨q.1.1,q.1.2⟩ hbad
   have hgb:=goodBag_false h hb
   have hcond:recB x.rec_=false \/ recB x.rec_=true/\(x.n=0 \/ x.n ≠ 0/\(x.n < -1000000 \/ ¬ x.n < -1000000/\1000000 < x.n)):=by
    cases q:recB x.rec_ with
    | false=>exact .inl rfl
    | true =>
     refine .inr ⟨rfl,?_⟩
     have:¬ (x.n ≠ 0/\-1000000<=x.n/\x.n<=1000000):=fun w=>hbad ⟨q,w⟩
     omega
   rcases hcond with q | ⟨q,q2 | ⟨q2,q3 | ⟨q3,q4⟩⟩⟩
   ·simp [q]
    refine FCg.afun (v:=.d (.k (.bool false))) (fun q=>by cases q) ?_
    simp [hgb]
   ·simp [q,q2]
    refine FCg.afun (v:=.d (.k (.bool false))) (fun q=>by cases q) ?_
    simp [hgb]
   ·simp [q,q2,q3]
    refine FCg.afun (v:=.d (.k (.bool false))) (fun q=>by cases q) ?_
    simp [hgb]
   ·simp [q,q2,q3,q4]
    refine FCg.afun (v:=.d (.k (.bool false))) (fun q=>by cases q) ?_
    simp [hgb]
 ·rw [goodBag_true fun j hj=>hk j (by omega)]
  have e:(decide ((b.length:Int)<=300))=decide (b.length<=300):=by rw [Bool.eq_iff_iff];simp;omega
  simp [e]
theorem ref04_Whole (b:List Item):AFun prog 83 [sl (b.map rItem)] (.d (.k (.bool (wholeB b)))):=by
 have cc:=cxK_ok (p:=kds [] [] [])
 refine AFun.body (cxK_ok (p:=kds [] [] [])) func83 rfl call83 (by rw [ntmps83];simp) rfl fun hf H=>?_
 simp [ntmps83,results83] at hf |-
 refine AW.loopS cc (fun i:Nat=>⟨[(5,sl (b.map rItem)),(6,lvI b.length),(7,lvI i)],[],H⟩) (fun i=>b.length - i) (fun i=>i<=b.length/\∀ j (h:j < b.length),j < i->¬ b[j].n < 0) 0 ⟨⟨Nat.zero_le _,fun j _ hj=>absurd hj (by omega)⟩,by simp⟩ ?_
 rintro i ⟨hi,hk⟩
 simp
 refine ⟨fun h=>?_,fun h=>?_⟩
 ·have hw':=wrap_succ h hf.1
  simp [h,List.getElem?_eq_getElem h,rItem]
  refine ⟨fun q=>?_,fun q=>?_⟩
  ·have:b.any (fun x=>decide (x.n < 0))=true:=List.any_eq_true.2 ⟨b[i],List.getElem_mem h,by simpa using q⟩
   simp [wholeB,this]
  ·refine NX.go (i+1) (Nat.sub_lt_sub_left h (Nat.lt_succ_self i)) ⟨h,fun j hj hji=>?_⟩ (by simp [hw'])
   by_cases z:j=i
   ·subst z;omega
   ·exact hk j hj (by omega)
 ·have:b.any (fun x=>decide (x.n < 0))=false:=List.any_eq_false.2 fun x hx=>by
   obtain ⟨j,hj,rfl⟩:=List.mem_iff_getElem.1 hx
   simpa using hk j hj (by omega)
  simp [wholeB,this]
theorem ref04_Plain (b:List Item):AFun prog 35 [sl (b.map rItem)] (.d (.k (.bool (plainB' b)))):=by
 refine AFun.body cx0_ok func35 rfl call35 (by rw [ntmps35];simp) rfl fun hf H=>?_
 have h1:=ref04_Good b
 have h2:=ref04_Whole b
 simp at h1 h2
 simp [ntmps35,results35]
 refine EC.afun h1 ?_
 cases e:goodBag b with
 | false=>simp [plainB',e]
 | true =>
  simp
  refine EC.afun h2 ?_
  simp [plainB',e]
end Go.Aft
end
