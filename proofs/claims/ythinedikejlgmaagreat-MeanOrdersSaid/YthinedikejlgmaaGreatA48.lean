import Derived.Test.YthinedikejlgmaaGreatA46
import Derived.Test.YthinedikejlgmaaGreatA30
import Derived.Test.YthinedikejlgmaaGreatA29
import Derived.Test.YthinedikejlgmaaGreatA44
import Derived.Test.YthinedikejlgmaaGreatA24
import Derived.Test.YthinedikejlgmaaGreatA34
import Derived.Test.YthinedikejlgmaaGreatA31
import Derived.Test.YthinedikejlgmaaGreatA41
import Derived.Test.YthinedikejlgmaaGreatA47
set_option linter.all false
section
set_option maxRecDepth 20000
namespace Go.Aft
open Go.Proofs.Tryz
structure MapP (es:List (Value × LV)) (l:List Event):Prop where
 key:∀ (a:Value) (b:LV),(a,b) ∈ es->(KK.ag [.int .i64,.int .i64]).has a=true
 get:∀ s i:Int,(a1c (kk s i) es).getD (.d (.k (.bool false)))=.d (.k (.bool (l.any fun e=>decide (e.src=s/\e.id=i))))
theorem MapP.nil:MapP [] []:=⟨fun _ _ h=>absurd h List.not_mem_nil,fun _ _=>rfl⟩
theorem MapP.put {es:List (Value × LV)} {l:List Event} (h:MapP es l) (e:Event):MapP (mput (kk e.src e.id) (.d (.k (.bool true))) es) (l ++ [e]):=by
 refine ⟨c4z _ _ _ _ h.key,fun s i=>?_⟩
 rw [b8o _ _ _ _ _ _ h.key]
 by_cases q:s=e.src/\i=e.id
 ·rw [if_pos q]
  have:(l ++ [e]).any (fun e=>decide (e.src=s/\e.id=i))=true:=List.any_eq_true.2 ⟨e,by simp,by simp [q]⟩
  rw [this];rfl
 ·rw [if_neg q,h.get]
  have:decide (e.src=s/\e.id=i)=false:=by
   rw [decide_eq_false_iff_not];exact fun z=>q ⟨z.1.symm,z.2.symm⟩
  rw [List.any_append,List.any_cons,List.any_nil,this,Bool.or_false,Bool.or_false]
def evOk (l:List Event) (i:Nat) (e:Event):Bool:=!(l.take i).any (fun x=>decide (x.src=e.src/\x.id=e.id)) && (decide (i=0) || b0k (l.getD (i - 1) default) e)
def b9o (l:List Event):Bool:=(List.range l.length).all fun i=>evOk l i (l.getD i default)
open Classical in
noncomputable def askedM (p:Prog) (l:List Event):Bool:=decide (formed p) && decide (l.length<=60) && b9o l && a4x (l.map evN) p.srcs.length
open Classical in
theorem b4r (p:Prog) (hs:∀ s ∈ p.srcs ++ a0d p,a2b s) (l:List Event):AFun prog 68 [lv (a0h p),sl (l.map a0t)] (.d (.k (.bool (askedM p l)))):=by
 intro H
 have cc:=f1v (p:=kds [2] [] [])
 refine a0j.a1j (f1v (p:=kds [2] [] [])) func68 rfl call68 (by rw [ntmps68];simp) rfl fun hf hw=>?_
 have hck:=c1q p hs
 simp [a0h] at hck
 simp [ntmps68,results68,a0h] at hf |-
 refine EC.afun hck ?_
 simp
 refine ⟨fun q hz=>⟨a1s hz,?_⟩,fun hfo h60=>?_⟩
 ·unfold askedM
  rcases q with q | q
  ·simp [q]
  ·have:¬ l.length<=60:=by omega
   simp [this]
 have hch:=c5c l (by omega)
 simp at hch
 refine EC.afun hch ?_
 simp
 refine AW.a0w cc (fun s:Nat × List (Value × LV)=>⟨[(1,sl (l.map a0t)),(2,.ip ((a0h p).map .d) 0),(5,.gm H.next),(6,sl ((l.map evN).map a1w)),(20,sl (l.map a0t)),(21,lvI l.length),(22,lvI s.1)],[],H.add (.map s.2)⟩) (fun s=>l.length - s.1)
  (fun s=>s.1<=l.length/\MapP s.2 (l.take s.1)/\∀ j,j < s.1->evOk l j (l.getD j default)=true) (0,[]) ⟨⟨Nat.zero_le _,by simpa using MapP.nil,fun j hj=>by simp only at hj;omega⟩,by simp [a0h]⟩ ?_
 rintro ⟨i,es⟩ ⟨hi,hm,hok⟩
 simp only at hi hm hok
 have ob:∀ X,(H.add X).obj H.next=some X:=fun X=>by rw [GH.a0b,if_pos rfl]
 have hset:∀ X Y,(H.add X).set H.next Y=H.add Y:=fun X Y=>GH.a1v
 simp
 refine ⟨fun h=>?_,fun h=>?_⟩
 ·obtain ⟨e,hee⟩:∃ e,l[i]=e:=⟨_,rfl⟩
  have htk:l.take (i+1)=l.take i ++ [e]:=by rw [<- a0p h,hee]
  have hge:l.getD i default=e:=by simp [List.getD,List.getElem?_eq_getElem h,hee]
  have hkey:=eq_true hm.key
  have hget:=hm.get e.src e.id
  have hput:=hm.put e
  rw [<- htk] at hput
  obtain ⟨met,hmet⟩:∃ met,(l.take i).any (fun x=>decide (x.src=e.src/\x.id=e.id))=met:=⟨_,rfl⟩
  rw [hmet] at hget
  have hkk:kk e.src e.id=.agg #[.int .i64 e.src,.int .i64 e.id]:=rfl
  rw [hkk] at hget hput
  have hw':=wrap_succ (n:=9223372036854775807) (show i < 9223372036854775807 by omega)
  have hhas:(KK.ag [.int .i64,.int .i64]).has (.agg #[.int .i64 e.src,.int .i64 e.id])=true:=rfl
  simp [h,List.getElem?_eq_getElem h,hee,a0t,rRec]
  refine AW.draw cc [(17,.n)] (.q 0<|.q 1<|.q 3<|.q 2<|.q 4<|.q 5<|.q 6<|.q 7<|.q 8<|.q 9<|.q 10<|.q 11<|.q 12<|.q 13<|.q 14<|.q 15<|.q 16<|.q 17<|.q 18<|.q 19<|.q 20<|.done) (by kernel_rfl) ?_
  have hevo:evOk l i e=(!met && (decide (i=0) || b0k (l.getD (i - 1) default) e)):=by unfold evOk;rw [hmet]
  have hno:evOk l i e=false->askedM p l=false:=fun q=>by
   have:b9o l=false:=by
    rw [Bool.eq_false_iff];intro z
    simp only [b9o,List.all_eq_true] at z
    have:=z i (List.mem_range.2 h)
    rw [hge,q] at this;cases this
   simp [askedM,this]
  have hdrop:∀ X,Drop H (H.add X) H:=fun X=>a0m (by rw [GH.a0a];omega) (fun m hm=>by rw [GH.a0b,if_neg (by omega)]) hw.none
  have hgo:evOk l i e=true->∀ j,j < i+1->evOk l j (l.getD j default)=true:=fun q j hj=>by
   by_cases e1:j=i
   ·rw [e1,hge];exact q
   ·exact hok j (by omega)
  rcases Nat.eq_zero_or_pos i with h0 | h0
  ·subst h0
   simp [ob,hkey,hget,hhas]
   refine FCg.afun (v:=.d (.k (.bool false))) (fun q=>by cases q) ?_
   simp
   refine ⟨fun q hz=>⟨hdrop _,hno (by rw [hevo,q];rfl)⟩,fun q=>?_⟩
   simp [ob,hhas,hkey,hset]
   exact NX.go (0+1,mput (.agg #[.int .i64 e.src,.int .i64 e.id]) (.d (.k (.bool true))) es) (by simp only;omega) ⟨h,hput,hgo (by rw [hevo,q];rfl)⟩ (by simp [show IntKind.wrap .i64 1=1 from rfl,a0h])
  ·obtain ⟨u,hu⟩:∃ u,l[i - 1]'(by omega)=u:=⟨_,rfl⟩
   have hgu:l[i - 1]?=some u:=by rw [List.getElem?_eq_getElem (by omega),hu]
   have w1:IntKind.wrap .i64 ((i:Int) - 1)=(i:Int) - 1:=by rw [wrap64] <;> omega
   have t1:((i:Int) - 1).toNat=i - 1:=by omega
   have hb:=d2s u e
   simp [a0t,rRec] at hb
   have hgd:l.getD (i - 1) default=u:=by simp [List.getD,hgu]
   rw [hgd] at hevo
   simp [ob,hkey,hget,hhas,w1,t1,hgu,a0t,rRec]
   refine ⟨fun a b=>⟨⟨a,b⟩,by omega,by omega⟩,FCg.afun (fun _=>hb) ?_⟩
   simp
   have hi0:decide (i=0)=false:=by rw [decide_eq_false_iff_not];omega
   refine ⟨fun q=>⟨q,fun _=>⟨q,h0⟩⟩,fun q hz=>⟨hdrop _,hno ?_⟩,fun q1 q2=>?_⟩
   ·rw [hevo]
    rcases q with q | ⟨_,q⟩
    ·rw [q];rfl
    ·rw [q,hi0];simp
   simp [ob,hhas,hkey,hset]
   exact NX.go (i+1,mput (.agg #[.int .i64 e.src,.int .i64 e.id]) (.d (.k (.bool true))) es) (by simp only;omega) ⟨h,hput,hgo (by rw [hevo,q1,q2 h0];simp)⟩ (by simp [hw',a0h])
 ·have e2:i=l.length:=by omega
  subst e2
  have hhc:=e0w (l.map evN) p.srcs.length
  simp at hhc
  simp [a0h]
  refine EC.afun hhc ?_
  simp
  have hev:b9o l=true:=by
   simp only [b9o,List.all_eq_true]
   exact fun j hj=>hok j (List.mem_range.1 hj)
  have h6:decide (l.length<=60)=true:=by simp;omega
  refine fun hz=>⟨a0m (by rw [GH.a0a];omega) (fun m hm=>by rw [GH.a0b,if_neg (by omega)]) hw.none,?_⟩
  simp only [askedM,hfo,hev,h6,decide_true,Bool.true_and]
  cases a4x (l.map evN) (p.srcs.length:Int) <;> rfl
end Go.Aft
end
section
set_option maxRecDepth 20000
namespace Go.Aft
def nmX:Str:=⟨#[120]⟩
def nmY:Str:=⟨#[121]⟩
def nmA:Str:=⟨#[97]⟩
def nmB:Str:=⟨#[98]⟩
def nmC:Str:=⟨#[99]⟩
def qSums:Exp:=.mk 9 a1q 5 2 [] [.mk 2 nmA 0 0 [] []]
def exQ:Prog:=⟨[nmX,nmY],[⟨nmA,.mk 15 a1q 0 0 [] [.mk 1 nmX 0 0 [] []]⟩,⟨nmB,.mk 4 a1q 0 0 [] [qSums,.mk 3 nmB 3 0 [] []]⟩,⟨nmC,.mk 14 a1q 2 0 [] [.mk 2 nmA 0 0 [] [],.mk 1 nmY 0 0 [] []]⟩]⟩
def exE:List Event:=[⟨0,1,⟨10,1,5⟩⟩,⟨1,1,⟨11,1,2⟩⟩,⟨0,2,⟨14,1,7⟩⟩]
def exSt (i k:Nat):Bool:=decide (i=1/\(k=0 \/ k=1) \/ i=2/\k=0)
theorem exQ_len:exQ.defs.length=3:=rfl
theorem f3p:∀ j:Fin 3,∀ e ∈ allE (exQ.defs.getD j.1 default).exp,(e.op=2 \/ e.op=3)->exSt j.1 (idx (a0d exQ) e.name).toNat=true:=by decide +kernel
theorem f3o:∀ j:Fin 3,∀ k:Fin 3,exSt j.1 k.1=true->∃ e ∈ allE (exQ.defs.getD j.1 default).exp,(e.op=2 \/ e.op=3)/\idx (a0d exQ) e.name=(k.1:Int):=by decide +kernel
theorem e5a {i:Nat} (h:i < exQ.defs.length):exQ.defs.getD i default=exQ.defs[i]:=by rw [List.getD_eq_getElem?_getD,List.getElem?_eq_getElem h];rfl
theorem c5u {i k:Nat}:a3p exQ i k ↔ exSt i k=true:=by
 have hl:=exQ_len
 unfold a3p
 constructor
 ·rintro ⟨h,e,he,ho,hx⟩
  rw [<- e5a h] at he
  have:=f3p ⟨i,by omega⟩ e he ho
  rw [hx] at this
  simpa using this
 ·intro h
  have hik:i < 3/\k < 3:=by
   have:=of_decide_eq_true h
   omega
  have hi:i < exQ.defs.length:=by omega
  refine ⟨hi,?_⟩
  rw [<- e5a hi]
  exact f3o ⟨i,hik.1⟩ ⟨k,hik.2⟩ h
theorem d7b {i k:Nat}:pathB exQ i k=exSt i k:=by
 rw [Bool.eq_iff_iff,a7j]
 constructor
 ·intro h
  induction h with
  | one h=>exact c5u.1 h
  | cons h _ ih =>
   have h1:=of_decide_eq_true (c5u.1 h)
   have h2:=of_decide_eq_true ih
   exact decide_eq_true (by omega)
 ·intro h;exact .one (c5u.2 h)
theorem f5m:∀ e ∈ allE (exQ.defs.getD 1 default).exp,a1o e=false:=by decide +kernel
theorem f3q:∀ (i:Fin 5),a5v ((exQ.srcs ++ a0d exQ).getD i.1 a1q)=true/\∀ x ∈ (exQ.srcs ++ a0d exQ).take i.1,x ≠ ((exQ.srcs ++ a0d exQ).getD i.1 a1q):=by decide +kernel
theorem a7q:formed exQ:=by
 have h:b5a (exQ.srcs ++ a0d exQ):=fun i hi=>by
  have hg:(exQ.srcs ++ a0d exQ).getD i a1q=(exQ.srcs ++ a0d exQ)[i]:=by rw [List.getD_eq_getElem?_getD,List.getElem?_eq_getElem hi];rfl
  have key:=f3q ⟨i,hi⟩
  simp only [hg] at key
  exact ⟨key.1,fun hm=>key.2 _ hm rfl⟩
 refine ⟨⟨51,?_⟩,fun i hi hp e he=>?_⟩
 ·rw [countM,if_pos ⟨by decide,by decide,by decide,h⟩]
  decide +kernel
 ·have h1:=a7j.2 hp
  rw [d7b] at h1
  have hi1:i=1:=by
   have:=of_decide_eq_true h1
   omega
  subst hi1
  exact f5m e he
theorem c3e:b0c exQ.defs.length (pathB exQ)=[[0],[1],[2]]:=by
 have:pathB exQ=exSt:=by funext i k;exact d7b
 rw [this]
 decide +kernel
def exK:Option (List Bag):=a6v exQ (c0p exQ exE) [[0],[1],[2]] (List.replicate 3 [])
theorem e4z:knownM exQ exE=exK:=by rw [knownM,c3e];rfl
def f1s:Option (List Bag)->Bool
 | some [a,b,c]=>decide (a=[⟨⟨10,1,5⟩,1⟩,⟨⟨14,1,7⟩,1⟩]/\4 < b.length/\b[1]?=some ⟨⟨13,1,5⟩,1⟩/\c=[⟨⟨14,1,7⟩,1⟩])
 | _=>false
theorem e9n:f1s exK=true:=by decide +kernel
theorem f3r:∃ b,knownM exQ exE=some [[⟨⟨10,1,5⟩,1⟩,⟨⟨14,1,7⟩,1⟩],b,[⟨⟨14,1,7⟩,1⟩]]/\4 < b.length/\b[1]?=some ⟨⟨13,1,5⟩,1⟩:=by
 have h:=e9n
 rw [e4z]
 unfold f1s at h
 split at h
 ·rename_i a b c e
  obtain ⟨q1,q2,q3,q4⟩:=of_decide_eq_true h
  subst q1;subst q4
  exact ⟨b,e,q2,q3⟩
 ·cases h
theorem e9j:b6g exE 1=[⟨⟨11,1,2⟩,1⟩]:=by decide +kernel
def exA:Bag:=[⟨⟨10,1,5⟩,1⟩,⟨⟨14,1,7⟩,1⟩]
theorem e9k (W:World') (h:W.defs.getD 0 []=exA):expM exQ W 200 qSums=some [⟨⟨10,1,5⟩,1⟩,⟨⟨14,1,12⟩,1⟩]:=by
 have e:idx (a0d exQ) nmA=0:=by decide +kernel
 have h1:actM exQ W 2 nmA 0 0 [] []=exA:=by
  have:actM exQ W 2 nmA 0 0 [] []=W.defs.getD (idx (a0d exQ) nmA).toNat []:=rfl
  rw [this,e];exact h
 have h2:a1i exA 200=exA:=by decide +kernel
 have h3:b0f exA=true:=by decide +kernel
 have h4:actM exQ W 9 a1q 5 2 [] [exA]=a4h 2 0 (b2t 5) exA:=rfl
 have h5:a1i (a4h 2 0 (b2t 5) exA) 200=[⟨⟨10,1,5⟩,1⟩,⟨⟨14,1,12⟩,1⟩]:=by decide +kernel
 have h6:b0f [⟨⟨10,1,5⟩,1⟩,⟨⟨14,1,12⟩,1⟩]=true:=by decide +kernel
 simp only [qSums,expM,a6e,h1,h2,h3,h4,h5,h6,if_true]
end Go.Aft
end
section
set_option maxRecDepth 20000
namespace Go.Aft
open Go.Proofs.Tryz
abbrev lvS (s:Str):LV:=.d (.k (.string s))
theorem e8q (s:Str):AFun prog 116 [lvS s] (lv (rExp (.mk 2 s 0 0 [] []))):=by
 refine AFun.body cx0_ok func116 rfl call116 (by rw [ntmps116];simp) rfl fun hf H=>?_
 simp [ntmps116,results116,a0c]
theorem e8p (s:Str) (n:Int):AFun prog 117 [lvS s,lvI n] (lv (rExp (.mk 3 s n 0 [] []))):=by
 refine AFun.body cx0_ok func117 rfl call117 (by rw [ntmps117];simp) rfl fun hf H=>?_
 simp [ntmps117,results117,a0c]
theorem e3v (s:Str):AFun prog 118 [lvS s] (lv (rExp (.mk 1 s 0 0 [] []))):=by
 refine AFun.body cx0_ok func118 rfl call118 (by rw [ntmps118];simp) rfl fun hf H=>?_
 simp [ntmps118,results118,a0c]
theorem e8o (n:Int) (e:Exp):AFun prog 115 [lvI n,lv (rExp e)] (lv (rExp (.mk 9 a1q n 2 [] [e]))):=by
 refine AFun.body (a0g (p:=kds [3] [] [])) func115 rfl call115 (by rw [ntmps115];simp) rfl fun hf H=>?_
 have hr:List.range' 0 1=[0]:=rfl
 simp [ntmps115,results115,a0c,hr,a1q]
theorem f3f:AFun prog 61 [] (lv (a0h exQ)):=by
 have key:AFun prog 61 [] (.agg [LV.d (DV.sl [[DV.k (Value.string { data:=#[120] })],[DV.k (Value.string { data:=#[121] })]]),LV.d (DV.sl [[DV.k (Value.string { data:=#[97] }),DV.k (Value.int IntKind.i64 15),DV.k (Value.string { data:=#[] }),DV.k (Value.int IntKind.i64 0),DV.k (Value.int IntKind.i64 0),DV.k (Value.slice none 0 0),DV.sl [[DV.k (Value.int IntKind.i64 1),DV.k (Value.string { data:=#[120] }),DV.k (Value.int IntKind.i64 0),DV.k (Value.int IntKind.i64 0),DV.sl [],DV.sl []]]],[DV.k (Value.string { data:=#[98] }),DV.k (Value.int IntKind.i64 4),DV.k (Value.string { data:=#[] }),DV.k (Value.int IntKind.i64 0),DV.k (Value.int IntKind.i64 0),DV.k (Value.slice none 0 0),DV.sl [[DV.k (Value.int IntKind.i64 9),DV.k (Value.string { data:=#[] }),DV.k (Value.int IntKind.i64 5),DV.k (Value.int IntKind.i64 2),DV.sl [],DV.sl [[DV.k (Value.int IntKind.i64 2),DV.k (Value.string { data:=#[97] }),DV.k (Value.int IntKind.i64 0),DV.k (Value.int IntKind.i64 0),DV.sl [],DV.sl []]]],[DV.k (Value.int IntKind.i64 3),DV.k (Value.string { data:=#[98] }),DV.k (Value.int IntKind.i64 3),DV.k (Value.int IntKind.i64 0),DV.sl [],DV.sl []]]],[DV.k (Value.string { data:=#[99] }),DV.k (Value.int IntKind.i64 14),DV.k (Value.string { data:=#[] }),DV.k (Value.int IntKind.i64 2),DV.k (Value.int IntKind.i64 0),DV.k (Value.slice none 0 0),DV.sl [[DV.k (Value.int IntKind.i64 2),DV.k (Value.string { data:=#[97] }),DV.k (Value.int IntKind.i64 0),DV.k (Value.int IntKind.i64 0),DV.sl [],DV.sl []],[DV.k (Value.int IntKind.i64 1),DV.k (Value.string { data:=#[121] }),DV.k (Value.int IntKind.i64 0),DV.k (Value.int IntKind.i64 0),DV.sl [],DV.sl []]]]])]):=by
  have cc:=cx0_ok
  refine AFun.body cx0_ok func61 rfl call61 (by rw [ntmps61];simp) rfl fun hf H=>?_
  have h1:=e8q nmA
  have h2:=e8o 5 (.mk 2 nmA 0 0 [] [])
  have h3:=e8p nmB 3
  have h4:=e3v nmY
  have h5:=e3v nmX
  have hr1:List.range' 0 1=[0]:=rfl
  have hr2:List.range' 0 2=[0,1]:=rfl
  have hr3:List.range' 0 3=[0,1,2]:=rfl
  simp [nmA,nmB,nmX,nmY,a0c,a1q] at h1 h2 h3 h4 h5
  simp [ntmps61,results61,hr1,hr2,hr3]
  refine EC.afun h1 ?_
  simp
  refine EC.afun h2 ?_
  simp
  refine EC.afun h3 ?_
  simp [hr2]
  refine EC.afun h1 ?_
  simp
  refine EC.afun h4 ?_
  simp [hr2]
  refine AW.draw cc [(1,.n)] (.q 0<|.q 1<|.q 2<|.q 3<|.q 4<|.q 5<|.q 6<|.q 7<|.q 8<|.q 9<|.q 10<|.f<|.one 11<|.done) (by kernel_rfl) ?_
  simp [hr1,hr2,hr3]
  refine FC.afun h5 ?_
  simp [hr1,hr2,hr3]
 have:=key.nz
 simp [LV.nz,nzs,DV.nz,nzR,nzC] at this
 simpa [a0h,exQ,qSums,rDef,rExp,a1h,nmA,nmB,nmC,nmX,nmY,a1q,rS,b2y,e2u] using this
theorem b9c (s i a k v:Int):AFun prog 119 [lvI s,lvI i,lvI a,lvI k,lvI v] (lv (a0t ⟨s,i,⟨a,k,v⟩⟩)):=by
 refine AFun.body cx0_ok func119 rfl call119 (by rw [ntmps119];simp) rfl fun hf H=>?_
 simp [ntmps119,results119,a0t,rRec]
theorem f3g:AFun prog 62 [] (sl (exE.map a0t)):=by
 refine AFun.body cx0_ok func62 rfl call62 (by rw [ntmps62];simp) rfl fun hf H=>?_
 have h1:=b9c 0 1 10 1 5
 have h2:=b9c 1 1 11 1 2
 have h3:=b9c 0 2 14 1 7
 have hr:List.range' 0 3=[0,1,2]:=rfl
 simp [a0t,rRec] at h1 h2 h3
 simp [ntmps62,results62,hr]
 refine EC.afun h1 ?_
 simp
 refine EC.afun h2 ?_
 simp
 refine EC.afun h3 ?_
 simp [exE,a0t,rRec,hr]
theorem b3f (a k v:Int):AFun prog 63 [lvI a,lvI k,lvI v] (lv (a0i ⟨⟨a,k,v⟩,1⟩)):=by
 refine AFun.body cx0_ok func63 rfl call63 (by rw [ntmps63];simp) rfl fun hf H=>?_
 simp [ntmps63,results63,a0i]
theorem b3u (a b:List Item):AFun prog 23 [sl (a.map a0i),sl (b.map a0i)] (.d (.k (.bool (decide (a=b))))):=by
 have cc:=a6j (p:=kds [] [] [])
 refine AFun.body (a6j (p:=kds [] [] [])) func23 rfl call23 (by rw [ntmps23];simp) rfl fun hf H=>?_
 simp [ntmps23,results23] at hf |-
 refine ⟨fun h=>?_,fun h=>?_⟩
 ·have:a ≠ b:=fun e=>h (by rw [e])
  simp [this]
 ·have hl:a.length=b.length:=by omega
  refine AW.a0w cc (fun i:Nat=>⟨[(0,sl (a.map a0i)),(1,sl (b.map a0i)),(12,lvI a.length),(13,lvI i)],[],H⟩) (fun i=>a.length - i) (fun i=>i<=a.length/\a.take i=b.take i) 0 ⟨⟨Nat.zero_le _,by simp⟩,by simp⟩ ?_
  rintro i ⟨hi,hk⟩
  simp
  refine ⟨fun h=>?_,fun h=>?_⟩
  ·have h2:i < b.length:=by omega
   obtain ⟨x,hx⟩:∃ x,a[i]=x:=⟨_,rfl⟩
   obtain ⟨y,hy⟩:∃ y,b[i]=y:=⟨_,rfl⟩
   have hw':=wrap_succ h hf.1.1
   have hta:a.take (i+1)=a.take i ++ [x]:=by rw [<- a0p h,hx]
   have htb:b.take (i+1)=b.take i ++ [y]:=by rw [<- a0p h2,hy]
   simp [h]
   refine AW.draw cc [] (.q 0<|.q 1<|.q 2<|.q 4<|.q 5<|.q 6<|.q 3<|.q 7<|.q 8<|.done) (by kernel_rfl) ?_
   simp [h,h2,List.getElem?_eq_getElem h,List.getElem?_eq_getElem h2,hx,hy,a0i]
   refine ⟨fun q e=>?_,fun q1 q2 q3 q4=>?_⟩
   ·have:x=y:=by rw [<- hx,<- hy];simp only [e]
    subst this
    simp at q
   ·have exy:x=y:=by
     obtain ⟨⟨x1,x2,x3⟩,x4⟩:=x
     obtain ⟨⟨y1,y2,y3⟩,y4⟩:=y
     simp only at q1 q2 q3 q4
     rw [q1,q2,q3,q4]
    exact NX.go (i+1) (Nat.sub_lt_sub_left h (Nat.lt_succ_self i)) ⟨h,by rw [hta,htb,hk,exy]⟩ (by simp [hw'])
  ·have:i=a.length:=by omega
   subst this
   rw [List.take_length,hl,List.take_length] at hk
   simp [hk]
theorem e6g (x:Item) (l:List Item) (hl:l.length<=1000):AFun prog 78 [sl ((x :: l).map a0i)] (sl ((x :: l).map a0i)):=by
 intro H
 have cc:=a0g (p:=kds [] [] [5])
 refine a0j.a3a (a0g (p:=kds [] [] [5])) func78 rfl call78 (by rw [ntmps78];simp) rfl fun hf hw=>?_
 have hlen:∀ r ∈ l.map a0i,r.length=4:=fun r hr=>by obtain ⟨_,_,rfl⟩:=List.mem_map.1 hr;rfl
 have hll:(l.map a0i).length=l.length:=by simp
 rw [List.map_cons]
 have hx:(a0i x).length=4:=rfl
 generalize a0i x=r0 at hx |-
 generalize l.map a0i=rows at hlen hll |-
 simp [ntmps78,results78]
 refine AW.seq cc ?_
 simp
 refine AW.seq cc ?_
 simp
 refine AW.seq cc ?_
 simp
 refine APK.ev ?_
 have h3:rows.length+1<=34359738368:=by omega
 have ob:∀ o,(H.add o).obj H.next=some o:=fun o=>by simp [GH.a0b]
 have hnb:∀ m,nbs m (a1e (r0 :: rows)):=fun m=>b0e _ _
 have hfl:a1e (r0 :: rows) ≠ []:=fun q=>by have:=congrArg List.length q;rw [a6i (sz:=4) (by simpa [hx] using hlen)] at this;simp at this
 generalize hF:a1e (r0 :: rows)=F at hnb hfl
 have h4:rows.length<=34359738367:=by omega
 simp [hx,ob,hF,hnb,h4,GH.a1v]
 refine ⟨hlen,?_⟩
 refine AW.thaw (n:=H.next) (g:=1) (sz:=4) (e:=86) (ex:=false) (r0 :: rows) (ob _) hF.symm (by simpa [hx] using hlen) ?_
 refine AW.ev cc ?_
 simp
 exact fun hz=>a0m (by simp [GH.a0a]) (fun m hm=>a9e hw (Nat.le_refl _) (fun k hk=>by rw [GH.a0b,if_neg (by omega)]) hm) hw.none
end Go.Aft
end
section
set_option maxRecDepth 20000
namespace Go.Aft
open Go.Proofs.Tryz
theorem d2h (x:Item):AFun prog 114 [lv (a0i x)] (.d (.k (.bool (decide (x.n < 0))))):=by
 refine AFun.body (a0g (p:=kds [1] [] [])) func114 rfl call114 (by rw [ntmps114];simp) rfl fun hf H=>?_
 simp [ntmps114,results114,a0i]
theorem e0d (b:List Item):AFun prog 58 [sl (b.map a0i)] (.d (.k (.bool (d4s b)))):=by
 refine AFun.body cx0_ok func58 rfl call58 (by rw [ntmps58];simp) rfl fun hf H=>?_
 have h:=a8x b (fun x=>decide (x.n < 0)) 114 fun x _=>d2h x
 simp at h
 simp [ntmps58,results58]
 refine EC.afun h ?_
 simp [d4s]
theorem d3g {b:List Item} (h:a3r b=true):b.length<=300:=by
 unfold a3r at h
 rw [Bool.and_eq_true] at h
 exact of_decide_eq_true h.2
theorem c9d {b:List Item} (h:a3r b=true) {x:Item} (hx:x ∈ b):recB x.rec_=true/\x.n ≠ 0/\-1000000<=x.n/\x.n<=1000000:=by
 unfold a3r at h
 rw [Bool.and_eq_true,List.all_eq_true] at h
 obtain ⟨i,hi,rfl⟩:=List.mem_iff_getElem.1 hx
 have:=h.1 i (List.mem_range.2 hi)
 unfold a9z at this
 have hg:b.getD i default=b[i]:=by rw [List.getD_eq_getElem?_getD,List.getElem?_eq_getElem hi];rfl
 rw [hg] at this
 simp only [Bool.and_eq_true,decide_eq_true_eq] at this
 exact ⟨this.1.1,this.1.2⟩
theorem e2p {r:Rec} (h:recB r=true):(0<=r.at_/\r.at_<=200)/\a1z r.key/\a1z r.val:=by
 unfold recB inB at h
 simp at h
 exact ⟨h.1.1,h.1.2,h.2⟩
theorem c9e {b:List Item} (h:a3r b=true):∀ x ∈ b,itOk x:=fun x hx=>by
 have h1:=c9d h hx
 exact ⟨h1.2.2,(e2p h1.1).2.2⟩
def b6m (f:Int) (b:List Item):LV:=if 1<=f/\f<=4/\a8f b=true then (if b=[] then .tup [lvI 0,lvI 5] else .tup [lvI (b3l f b),lvI 0]) else .tup [lvI 0,lvI 2]
theorem c8l (f:Int) (b:List Item):AFun prog 15 [lvI f,sl (b.map a0i)] (b6m f b):=by
 refine AFun.body cx0_ok func15 rfl call15 (by rw [ntmps15];simp) rfl fun hf H=>?_
 have h1:=e6h b
 have h2:=e0d b
 have h3:=fun q:a3r b=true=>c8j f b (Nat.le_trans (d3g q) (by omega)) (c9e q)
 simp at h1 h2
 simp [ntmps15,results15]
 by_cases hr:1<=f/\f<=4
 ·have i1:¬ f < 1:=by omega
  have i2:¬ 4 < f:=by omega
  simp [i1,i2,hr.1,hr.2]
  refine EC.afun h1 ?_
  cases hg:a3r b with
  | false =>
   have:a8f b=false:=by simp [a8f,hg]
   simp [b6m,this]
  | true =>
   simp
   refine EC.afun h2 ?_
   cases hw:d4s b with
   | false =>
    have:a8f b=false:=by simp [a8f,hg,hw]
    simp [b6m,this]
   | true =>
    have hp:a8f b=true:=by simp [a8f,hg,hw]
    have h3':=h3 hg
    simp
    refine ⟨fun q=>?_,fun q=>?_⟩
    ·have e:b6m f b=.tup [lvI 0,lvI 5]:=by unfold b6m;rw [if_pos ⟨hr.1,hr.2,hp⟩,if_pos q]
     simp [e]
    ·simp at h3'
     refine EC.afun h3' ?_
     simp [b6m,hr,hp,q]
 ·have hn:b6m f b=.tup [lvI 0,lvI 2]:=by unfold b6m;rw [if_neg fun w=>hr ⟨w.1,w.2.1⟩]
  by_cases i1:1<=f
  ·have i2:¬ f<=4:=by omega
   have i3:¬ f < 1:=by omega
   have i4:4 < f:=by omega
   simp [i1,i2,i3,i4,hn]
  ·have i3:f < 1:=by omega
   simp [i1,i3,hn]
mutual
theorem e0g:∀ (c:Calc) (depth left:Int),0<=a2o c depth left->a2y true c depth left=some (a2o c depth left)
 | .mk op n kids,depth,left,h=>by
  rw [a2o] at h |-
  by_cases h1:10 < depth \/ left < 1 \/ op < 1 \/ 10 < op
  ·rw [if_pos h1] at h;omega
  ·rw [if_neg h1] at h |-
   by_cases h2:(kids.length:Int) ≠ (if 6<=op then 2 else 0) \/ (op ≠ 1/\n ≠ 0) \/ n ≠ a3y n
   ·rw [if_pos h2] at h;omega
   ·rw [if_neg h2] at h |-
    rw [a2y,if_pos]
    ·exact b8t kids _ _ h
    ·have hk:(kids.length:Int)=(if 6<=op then 2 else 0):=Classical.byContradiction fun q=>h2 (.inl q)
     have hn:op=1 \/ n=0:=Classical.byContradiction fun q=>h2 (.inr (.inl ⟨fun e=>q (.inl e),fun e=>q (.inr e)⟩))
     have hc:n=a3y n:=Classical.byContradiction fun q=>h2 (.inr (.inr q))
     have hcb:=a7v n
     unfold a1z at hcb
     refine ⟨by omega,by omega,?_⟩
     unfold a3o
     by_cases e1:op=1
     ·rw [if_pos e1]
      rw [if_neg (by omega)] at hk
      exact decide_eq_true ⟨by omega,by omega,by omega⟩
     ·rw [if_neg e1]
      have hn0:n=0:=hn.resolve_left e1
      by_cases e2:op=2 \/ op=3 \/ op=4
      ·rw [if_pos e2]
       rw [if_neg (by omega)] at hk
       exact decide_eq_true ⟨hn0,by omega⟩
      ·rw [if_neg e2]
       by_cases e5:op=5
       ·rw [if_pos e5]
        rw [if_neg (by omega)] at hk
        exact decide_eq_true ⟨rfl,hn0,by omega⟩
       ·rw [if_neg e5]
        rw [if_pos (by omega)] at hk
        exact decide_eq_true ⟨by omega,by omega,hn0,by omega⟩
theorem b8t:∀ (cs:List Calc) (depth left:Int),0<=a1y cs depth left->a1m true cs (depth+1) left=some (a1y cs depth left)
 | [],depth,left,h=>by rw [a1m,a1y]
 | k :: ks,depth,left,h=>by
  rw [a1y] at h |-
  split at h
  ·omega
  ·rename_i h1
   rw [if_neg h1,a1m,e0g k _ _ (by omega)]
   exact b8t ks _ _ h
end
end Go.Aft
end
section
set_option maxRecDepth 20000
namespace Go.Aft
open Go.Proofs.Tryz
theorem b3w {p:Prog} {l:List Event} (h:askedM p l=true):formed p/\l.length<=60/\∀ e ∈ l,ItIn ⟨e.rec_,1⟩:=by
 simp only [askedM,Bool.and_eq_true,decide_eq_true_eq] at h
 obtain ⟨⟨⟨h1,h2⟩,h3⟩,h4⟩:=h
 refine ⟨h1,h2,fun e he=>?_⟩
 unfold a4x b5o at h4
 simp only [Bool.and_eq_true,Bool.not_eq_true',List.any_eq_false] at h4
 have h5:=h4.1.2 (evN e) (List.mem_map.2 ⟨e,he,rfl⟩)
 have h6:b6l (evN e) p.srcs.length=true:=by simpa using h5
 have h7:recB e.rec_=true:=by
  unfold b6l at h6
  simp only [evN,if_true,Bool.and_eq_true,b7l] at h6
  exact h6.2.2
 have:=e2p h7
 exact ⟨this.1,this.2.1,this.2.2,by simp only;omega,by simp only;omega⟩
noncomputable def ofMeanV (p:Prog) (l:List Event):LV:=if askedM p l=true then (match knownM p l with
 | some defs=>.tup [sl (defs.map rBag),lvI 0]
 | none=>.tup [sl [],lvI 3]) else .tup [sl [],lvI 2]
theorem f3c (p:Prog) (hs:∀ s ∈ p.srcs ++ a0d p,a2b s) (l:List Event):AFun prog 25 [lv (a0h p),sl (l.map a0t)] (ofMeanV p l):=by
 intro H
 have cc:=a0g (p:=kds [2] [] [])
 refine a0j.a3a (a0g (p:=kds [2] [] [])) func25 rfl call25 (by rw [ntmps25];simp) rfl fun hf hw=>?_
 have h1:=b4r p hs l
 simp [a0h] at h1
 simp [ntmps25,results25,a0h] at hf |-
 refine AW.seq cc ?_
 simp
 refine AW.seq cc ?_
 simp
 refine EC.afun h1 ?_
 cases ha:askedM p l with
 | false =>
  simp [ofMeanV,ha]
  exact fun hz=>a1s hz
 | true =>
  obtain ⟨hp,hl,hi⟩:=b3w ha
  have hb:=b6x hp
  have hk:=c2n p hs hp (by have:=hb.s1;omega) (by have:=hb.s4;omega) (a5z hp) hb.dif (b0z hp) l hl hi H
  simp [a0h] at hk
  simp
  refine AW.seq cc ?_
  simp
  refine EC.of hk (fun v H2 hR=>?_) (fun v H2 hR=>by
   unfold b4b at hR
   split at hR
   ·obtain ⟨q,_⟩:=hR;cases q
   ·obtain ⟨_,_,_,_,_,q,_⟩:=hR;cases q)
  unfold b4b at hR
  cases hkn:knownM p l with
  | none =>
   rw [hkn] at hR
   obtain ⟨q1,q2⟩:=hR
   cases q1
   rw [q2]
   simp
   refine AW.seq cc ?_
   simp
   exact fun hz=>⟨a1s hz,by simp [ofMeanV,ha,hkn]⟩
  | some defs =>
   rw [hkn] at hR
   obtain ⟨n,ms,mn,mv,ma,q1,q2,hW,q4,q5,q6⟩:=hR
   cases q1
   simp
   have hlen:∀ r ∈ defs.map rBag,r.length=1:=fun r hr=>by obtain ⟨_,_,rfl⟩:=List.mem_map.1 hr;rfl
   have hfl:defs.map bagL=a1e (defs.map rBag):=by
    clear hW hkn
    induction defs with
    | nil=>rfl
    | cons b l ih=>rw [List.map_cons,List.map_cons,ih (fun r hr=>by obtain ⟨_,_,rfl⟩:=List.mem_map.1 hr;rfl)];rfl
   have hob:=hW.wld.ob
   have hnmv:n ≠ mv:=fun e=>by
    have:=hW.wld.ov
    rw [<- e,hob] at this
    cases this
   refine AW.thaw (n:=mv) (g:=0) (sz:=1) (e:=30) (ex:=true) (defs.map rBag) hW.wld.ov hfl hlen ?_
   simp
   refine AW.seq cc ?_
   simp
   refine AW.ev cc ?_
   simp [hob,hnmv]
   refine fun hz=>⟨a0m q4 (fun m hm=>a9e hw q2 (fun k hk=>q5 k hk) hm) hw.none,?_⟩
   have ht:List.take defs.length (defs.map rBag)=defs.map rBag:=List.take_of_length_le (by simp)
   rw [ht]
   simp [ofMeanV,ha,hkn]
noncomputable def orderV (p:Prog):LV:=open Classical in if formed p then .tup [sl ((b0c p.defs.length (pathB p)).map rT),lvI 0] else .tup [sl [],lvI 2]
theorem c2p (p:Prog) (hs:∀ s ∈ p.srcs ++ a0d p,a2b s):AFun prog 18 [lv (a0h p)] (orderV p):=by
 refine AFun.body (a0g (p:=kds [1] [] [])) func18 rfl call18 (by rw [ntmps18];simp) rfl fun hf H=>?_
 have h1:=c1q p hs
 simp [a0h] at h1
 simp [ntmps18,results18,a0h]
 refine EC.afun h1 ?_
 by_cases hp:formed p
 ·have hb:=b6x hp
  have h2:=b8v p hs hp (by have:=hb.s1;omega) (by have:=hb.s4;omega) (a5z hp)
  simp [a0h] at h2
  simp [hp]
  refine EC.of (h2 H) (fun v H2 hR=>?_) (fun v H2 hR=>by obtain ⟨q,_⟩:=hR;cases q)
  obtain ⟨q1,q2⟩:=hR
  cases q1
  rw [q2]
  simp [orderV,hp]
 ·simp [hp,orderV]
noncomputable def saysV (p:Prog) (l:List Event) (src:Int):LV:=if askedM p l=true/\0<=src/\src < p.srcs.length then .tup [bagL (b6g l src),lvI 0] else .tup [sl [],lvI 2]
theorem c8k (p:Prog) (hs:∀ s ∈ p.srcs ++ a0d p,a2b s) (l:List Event) (src:Int):AFun prog 20 [lv (a0h p),sl (l.map a0t),lvI src] (saysV p l src):=by
 refine AFun.body (a0g (p:=kds [3] [] [])) func20 rfl call20 (by rw [ntmps20];simp) rfl fun hf H=>?_
 have h1:=b4r p hs l
 simp [a0h] at h1
 simp [ntmps20,results20,a0h]
 refine EC.afun h1 ?_
 cases ha:askedM p l with
 | false=>simp [saysV,ha]
 | true =>
  have h2:=c8h l src (by have:=(b3w ha).2.1;omega)
  simp at h2
  by_cases h0:src < 0
  ·have hV:saysV p l src=.tup [sl [],lvI 2]:=by unfold saysV;rw [if_neg (by omega)]
   simp [h0,hV]
  ·by_cases h3:(p.srcs.length:Int)<=src
   ·have hV:saysV p l src=.tup [sl [],lvI 2]:=by unfold saysV;rw [if_neg (by omega)]
    simp [h0,h3,hV]
   ·have hV:saysV p l src=.tup [bagL (b6g l src),lvI 0]:=by unfold saysV;rw [if_pos ⟨ha,by omega,by omega⟩]
    simp [h0,h3]
    refine EC.afun h2 ?_
    simp [hV,bagL]
end Go.Aft
end
