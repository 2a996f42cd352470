import Derived.Test.YtdhphbedajhmnaaGreatA44
import Derived.Test.YtdhphbedajhmnaaGreatA42
set_option linter.all false
section
set_option maxRecDepth 20000
namespace Go.Aft
open Go.Proofs.Tryz
structure NSpec (C:Int->Prop) (a e:Int) (lo hi:Int) (so:Bool):Prop where
 s1:so=true->(C lo/\a<=lo/\lo < e)/\(C hi/\a<=hi/\hi < e)
 s2:∀ u,a<=u->u < e->C u->so=true/\lo<=u/\u<=hi
 s0:so=false->lo=0/\hi=0
theorem NSpec.no {C:Int->Prop} {a e lo hi:Int} {so:Bool} (h:NSpec C a e lo hi so) (hn:¬ C e):NSpec C a (e+1) lo hi so :=
 ⟨fun q=>⟨⟨(h.s1 q).1.1,(h.s1 q).1.2.1,by have:=(h.s1 q).1.2.2;omega⟩,(h.s1 q).2.1,(h.s1 q).2.2.1,by have:=(h.s1 q).2.2.2;omega⟩,fun u h1 h2 hc=>by
  by_cases q:u=e
  ·subst q;exact absurd hc hn
  ·exact h.s2 u h1 (by omega) hc,h.s0⟩
theorem NSpec.yes {C:Int->Prop} {a e lo hi:Int} {so:Bool} (h:NSpec C a e lo hi so) (hae:a<=e) (hc:C e):NSpec C a (e+1) (if so=true then lo else e) e true:=by
 refine ⟨fun _=>⟨?_,hc,hae,by omega⟩,fun u h1 h2 hu=>⟨rfl,?_,by omega⟩,fun q=>by cases q⟩
 ·split
  ·rename_i q;exact ⟨(h.s1 q).1.1,(h.s1 q).1.2.1,by have:=(h.s1 q).1.2.2;omega⟩
  ·exact ⟨hc,hae,by omega⟩
 ·split
  ·rename_i q
   by_cases e1:u=e
   ·have:=(h.s1 q).1.2.2;omega
   ·exact (h.s2 u h1 (by omega) hu).2.1
  ·rename_i q
   by_cases e1:u=e
   ·omega
   ·exact absurd (h.s2 u h1 (by omega) hu).1 q
theorem ref17_news (sh:Shape) (mark window key:Int) (room:Room) (hw:0<=window/\window<=200) (hn:1<=sh.n/\sh.n<=50) (hc:∀ c ∈ sh.terms,0<=mFormed c 1 60) (hm:0<=mark/\mark<=201) (hk:valB key=true) (hr:roomB room=true) (H:GH) :
  ECall prog 70 [caseL sh mark window key,lv (rRoom room)] H fun ce H'=>(∃ lo hi so,ce=.ret (.tup [lvI lo,lvI hi,.d (.k (.bool so))])/\NSpec (fun u=>∃ t,maxI (window - sh.n+1) mark<=t/\t<=window/\passM sh ⟨t,key,u⟩=true) room.low (room.high+1) lo hi so)/\H'=H:=by
 have cc:=cxK_ok (p:=kds [2,3] [] [])
 refine ECall.bodyNW (cxK_ok (p:=kds [2,3] [] [])) func70 rfl call70 (by rw [ntmps70];simp) rfl fun hf hz0=>?_
 have hrm:-1000000000<=room.low/\room.low<=1000000000/\-1000000000<=room.high/\room.high<=1000000000:=by
  simp [roomB,valB,inB] at hr;omega
 have hk2:-1000000000<=key/\key<=1000000000:=by simp [valB,inB] at hk;exact hk
 obtain ⟨fr,hfr⟩:∃ fr,maxI (window - sh.n+1) mark=fr:=⟨_,rfl⟩
 have hfr2:maxI mark (window - sh.n+1)=fr:=by rw [<- hfr];unfold maxI;split <;> split <;> omega
 have hfr3:0<=fr/\fr<=201:=by rw [<- hfr];unfold maxI;split <;> omega
 have hfr4:window - sh.n+1<=fr:=by rw [<- hfr];exact (maxI_ge _ _).1
 rw [hfr]
 obtain ⟨C,hC⟩:∃ C:Int->Prop,C=fun u=>∃ t,fr<=t/\t<=window/\passM sh ⟨t,key,u⟩=true:=⟨_,rfl⟩
 rw [<- hC]
 have w1:IntKind.wrap .i64 (window - sh.n)=window - sh.n:=by rw [wrap64] <;> omega
 have w2:IntKind.wrap .i64 (window - sh.n+1)=window - sh.n+1:=by rw [wrap64] <;> omega
 simp [ntmps70,results70,caseL,rShape,rRoom] at hf |-
 refine AW.seq cc ?_
 simp
 refine AW.seq cc ?_
 simp
 refine AW.ev cc ?_
 simp
 obtain ⟨cs,hcs⟩:∃ cs,(rShape sh).map LV.d ++ [lvI mark,lvI window,lvI key]=cs:=⟨_,rfl⟩
 obtain ⟨rs,hrs⟩:∃ rs,(rRoom room).map LV.d=rs:=⟨_,rfl⟩
 refine AW.loopS cc (fun a:Int × Int × Int × Bool=>⟨[(2,.ip cs 0),(3,.ip rs 0),(7,lvI a.2.1),(8,lvI a.2.2.1),(9,.d (.k (.bool a.2.2.2))),(10,lvI a.1)],[],H⟩) (fun a=>(room.high+1 - a.1).toNat)
  (fun a=>room.low<=a.1/\a.1<=room.high+1/\NSpec C room.low a.1 a.2.1 a.2.2.1 a.2.2.2) (room.low,0,0,false) ⟨⟨Int.le_refl _,by simp [roomB,valB,inB] at hr;simp only;omega,fun q=>(by cases q),fun u h1 h2=>(by omega),fun _=>⟨rfl,rfl⟩⟩,by simp [<- hcs,<- hrs,rShape,rRoom]⟩ ?_
 rintro ⟨u,lo,hi,so⟩ ⟨hu1,hu2,hI⟩
 simp only at hu1 hu2 hI
 simp [<- hcs,<- hrs,rShape,rRoom]
 refine ⟨fun h=>?_,fun h=>?_⟩
 ·simp [w1,w2,hfr2]
  refine AW.loopS cc (fun a:Int × Bool=>⟨[(2,.ip cs 0),(3,.ip rs 0),(7,lvI lo),(8,lvI hi),(9,.d (.k (.bool so))),(10,lvI u),(11,.d (.k (.bool a.2))),(12,lvI a.1)],[],H⟩) (fun a=>(window+1 - a.1).toNat)
   (fun a=>fr<=a.1/\(a.1<=window+1 \/ a.1=fr)/\(a.2=true ↔ ∃ t,fr<=t/\t < a.1/\passM sh ⟨t,key,u⟩=true)) (fr,false) ⟨⟨Int.le_refl _,.inr rfl,by simp;intros;omega⟩,by simp [<- hcs,<- hrs,rShape,rRoom]⟩ ?_
  rintro ⟨t,b⟩ ⟨ht1,ht2,hb⟩
  simp only at ht1 ht2 hb
  simp [<- hcs,<- hrs,rShape,rRoom]
  refine ⟨fun htw=>?_,fun htw=>?_⟩
  ·have wt:IntKind.wrap .i64 (t+1)=t+1:=by rw [wrap64] <;> omega
   have hwi:=ref17_within sh mark window key ⟨t,key,u⟩ hw hn (by simp [recB,inB];omega) hc
   have hin:inB t (window - sh.n+1) window=true:=by simp [inB];omega
   simp [caseL,rShape,rRec,hin] at hwi
   have hstep:(∃ t',fr<=t'/\t' < t+1/\passM sh ⟨t',key,u⟩=true) ↔ (b=true \/ passM sh ⟨t,key,u⟩=true):=by
    rw [hb]
    constructor
    ·rintro ⟨t',a1,a2,a3⟩
     by_cases e:t'=t
     ·subst e;exact .inr a3
     ·exact .inl ⟨t',a1,by omega,a3⟩
    ·rintro (⟨t',a1,a2,a3⟩ | a3)
     ·exact ⟨t',a1,by omega,a3⟩
     ·exact ⟨t,ht1,by omega,a3⟩
   cases b with
   | true =>
    simp
    exact NX.go (t+1,true) (by simp only;omega) ⟨by simp only;omega,.inl (by simp only;omega),by simp only;rw [hstep];simp⟩ (by simp [<- hcs,<- hrs,rShape,rRoom,wt])
   | false =>
    simp
    refine EC.afun hwi ?_
    simp
    exact NX.go (t+1,passM sh ⟨t,key,u⟩) (by simp only;omega) ⟨by simp only;omega,.inl (by simp only;omega),by simp only;rw [hstep];simp⟩ (by simp [<- hcs,<- hrs,rShape,rRoom,wt])
  ·have hCu:C u ↔ b=true:=by
    rw [hC,hb]
    constructor
    ·rintro ⟨t',a1,a2,a3⟩;exact ⟨t',a1,by omega,a3⟩
    ·rintro ⟨t',a1,a2,a3⟩;exact ⟨t',a1,by omega,a3⟩
   have wu:IntKind.wrap .i64 (u+1)=u+1:=by rw [wrap64] <;> omega
   cases b with
   | false =>
    simp
    exact NX.go (u+1,lo,hi,so) (by simp only;omega) ⟨by simp only;omega,by simp only;omega,hI.no (fun q=>by have:=hCu.1 q;cases this)⟩ (by simp [<- hcs,<- hrs,rShape,rRoom,wu])
   | true =>
    have hy:=hI.yes hu1 (hCu.2 rfl)
    cases so with
    | true =>
     simp at hy |-
     exact NX.go (u+1,lo,u,true) (by simp only;omega) ⟨by simp only;omega,by simp only;omega,hy⟩ (by simp [<- hcs,<- hrs,rShape,rRoom,wu])
    | false =>
     simp at hy |-
     exact NX.go (u+1,u,u,true) (by simp only;omega) ⟨by simp only;omega,by simp only;omega,hy⟩ (by simp [<- hcs,<- hrs,rShape,rRoom,wu])
 ·have e:u=room.high+1:=by omega
  subst e
  refine fun hz=>⟨hz.drop (Nat.le_refl _),lo,hi,?_⟩
  cases so with
  | false=>exact .inl ⟨⟨rfl,rfl,rfl⟩,hI⟩
  | true=>exact .inr ⟨⟨rfl,rfl,rfl⟩,hI⟩
def rBag (v:Int):List DV:=[dI 0,dI 0,dI v,dI 1]
theorem ref06_FoldOf (f:Int) (l:List Int) (hl:l.length<=1000) (hm:∀ x ∈ l,inMost x):AFun prog 159 [lvI f,sl (l.map rBag)] (lvI (foldR f l)):=by
 have cc:=cxK_ok (p:=kds [] [] [])
 refine AFun.body (cxK_ok (p:=kds [] [] [])) func159 rfl call159 (by rw [ntmps159];simp) rfl fun hf H=>?_
 simp [ntmps159,results159] at hf |-
 have hstep:∀ i (h:i < l.length),(l.take (i+1)).foldl (fstepR f) (0,0)=fstepR f ((l.take i).foldl (fstepR f) (0,0)) l[i]:=fun i h=>by
  rw [List.take_add_one,List.foldl_append,List.getElem?_eq_getElem h];rfl
 refine AW.loopS cc (fun a:Nat × Int=>⟨[(0,lvI f),(1,sl (l.map rBag)),(5,lvI a.2),(6,lvI a.1)],[],H⟩) (fun a=>l.length - a.1)
  (fun a=>a.1<=l.length/\(l.take a.1).foldl (fstepR f) (0,0)=(a.1,a.2)/\-(1000000000 * (a.1:Int))<=a.2/\a.2<=1000000000 * (a.1:Int)) (0,0) ⟨⟨Nat.zero_le _,by simp,by simp,by simp⟩,by simp⟩ ?_
 rintro ⟨i,acc⟩ ⟨hi,hI,hb1,hb2⟩
 simp only at hi hI hb1 hb2
 simp
 refine ⟨fun h=>?_,fun h=>?_⟩
 ·have hv:=hm l[i] (List.getElem_mem h)
  unfold inMost at hv
  have hs:=hstep i h
  rw [hI] at hs
  simp only [fstepR] at hs
  have wi:IntKind.wrap .i64 ((i:Int)+1)=(i:Int)+1:=by rw [wrap64] <;> omega
  have wa1:IntKind.wrap .i64 (acc+1)=acc+1:=by rw [wrap64] <;> omega
  have wv:IntKind.wrap .i64 l[i]=l[i]:=by rw [wrap64] <;> omega
  have wa2:IntKind.wrap .i64 (acc+l[i])=acc+l[i]:=by rw [wrap64] <;> omega
  have hgo:∀ z:Int,(l.take (i+1)).foldl (fstepR f) (0,0)=(i+1,z)->(z=acc+1 \/ z=acc+l[i] \/ z=l[i] \/ z=acc)->(i+1<=l.length/\(l.take (i+1)).foldl (fstepR f) (0,0)=(i+1,z)/\-(1000000000 * ((i+1:Nat):Int))<=z/\z<=1000000000 * ((i+1:Nat):Int)):=fun z h1 h2=>⟨h,h1,by omega,by omega⟩
  by_cases f1:f=1
  ·subst f1
   simp [h,List.getElem?_eq_getElem h,rBag,wa1]
   exact NX.go (i+1,acc+1) (by simp only;omega) (hgo _ (by simpa using hs) (.inl rfl)) (by simp [wi])
  ·by_cases f2:f=2
   ·subst f2
    simp [h,List.getElem?_eq_getElem h,rBag,wv,wa2]
    exact NX.go (i+1,acc+l[i]) (by simp only;omega) (hgo _ (by simpa using hs) (.inr (.inl rfl))) (by simp [wi])
   ·simp only [if_neg f1,if_neg f2] at hs
    simp [f1,f2,h,List.getElem?_eq_getElem h,rBag]
    refine ⟨fun q=>⟨q,fun q2=>⟨q,q2⟩⟩,fun q q2=>⟨⟨q,q2⟩,fun q3=>⟨⟨q,q2⟩,q3⟩⟩,fun q q2=>⟨q,?_⟩,fun q=>?_,fun q q2 q3=>?_⟩
    ·by_cases e:f=3
     ·exact .inr (q2 e)
     ·exact .inl e
    ·have hc:i=0 \/ f=3/\l[i] < acc \/ f=4/\acc < l[i]:=by rcases q with (q | q) | q <;> simp [q]
     rw [if_pos hc] at hs
     exact NX.go (i+1,l[i]) (by simp only;omega) (hgo _ hs (.inr (.inr (.inl rfl)))) (by simp [wi])
    ·have hc:¬ (i=0 \/ f=3/\l[i] < acc \/ f=4/\acc < l[i]):=by
      rintro (r | ⟨r1,r2⟩ | ⟨r1,r2⟩)
      ·exact q r
      ·have:=q2 r1;omega
      ·have:=q3 r1;omega
     rw [if_neg hc] at hs
     exact NX.go (i+1,acc) (by simp only;omega) (hgo _ hs (.inr (.inr (.inr rfl)))) (by simp [wi])
 ·have e:i=l.length:=by omega
  subst e
  rw [List.take_length] at hI
  have hfa:foldR f l=clampM acc:=by unfold foldR foldAcc;rw [hI]
  rw [hfa]
  simp
  have hcl:=ref06_Clamp acc
  rw [show maxI (-1000000000) (minI acc 1000000000)=clampM acc by unfold clampM maxI minI;split <;> split <;> split <;> (try split) <;> omega] at hcl
  refine EC.afun hcl ?_
  simp
theorem ref17_folded (sh:Shape) (mark window key:Int) (l:List Int) (hl:l.length<=1000) (hm:∀ x ∈ l,inMost x):AFun prog 111 [caseL sh mark window key,sl (l.map rI)] (lvI (foldR sh.fold l)):=by
 have cc:=cxK_ok (p:=kds [2] [] [])
 refine AFun.body (cxK_ok (p:=kds [2] [] [])) func111 rfl call111 (by rw [ntmps111];simp) rfl fun hf H=>?_
 have hfo:=ref06_FoldOf sh.fold l hl hm
 simp at hfo
 simp [ntmps111,results111,caseL,rShape] at hf |-
 obtain ⟨cs,hcs⟩:∃ cs,(rShape sh).map LV.d ++ [lvI mark,lvI window,lvI key]=cs:=⟨_,rfl⟩
 refine AW.loopS cc (fun a:Nat × LV × GH=>⟨[(1,sl (l.map rI)),(2,.ip cs 0),(5,a.2.1),(6,lvI a.1)],[],a.2.2⟩) (fun a=>l.length - a.1)
  (fun a=>a.1<=l.length/\AppX 156 4 H a.2.1 ((l.take a.1).map rBag) a.2.2) (0,.d (.k (.slice none 0 0)),H) ⟨⟨Nat.zero_le _,by simpa using AppX.nil⟩,by simp [<- hcs,rShape]⟩ ?_
 rintro ⟨i,x,H2⟩ ⟨hi,hap⟩
 simp only at hi hap
 simp
 refine ⟨fun h=>?_,fun h=>?_⟩
 ·have wi:IntKind.wrap .i64 ((i:Int)+1)=(i:Int)+1:=by rw [wrap64] <;> omega
  simp [hap.plain.all,h,List.getElem?_eq_getElem h,rI]
  refine APK.appX (ys:=[rBag l[i]]) tyE154 rfl tyE156 (by simp) (x:=x) (by simp) hap (by simp [rowsOf,rBag]) (by simp) (fun r hr=>by obtain ⟨_,_,rfl⟩:=List.mem_map.1 hr;rfl) (by simp [rBag]) (by simp;omega) (by simp) fun y1 H3 h3 _ _=>?_
  rw [show (l.take i).map rBag ++ [rBag l[i]]=(l.take (i+1)).map rBag by rw [<- take_more h,List.map_append];rfl] at h3
  simp [h3.plain.all,wi]
  exact NX.go (i+1,y1,H3) (by simp only;omega) ⟨h,h3⟩ (by simp [h3.only,<- hcs,rShape])
 ·have e:i=l.length:=by omega
  subst e
  rw [List.take_length] at hap
  simp [hap.plain.all,<- hcs,rShape]
  refine ⟨hap.nb,EC.afun (AFun.fzA (v:=lvI (foldR sh.fold l)) (by simp only [fzs,hap.fz];simpa [fz] using hfo)) ?_⟩
  simp
  exact ⟨hap.nx,hap.ob⟩
def endsV (f:Int) (F A:List Int) (lo hi:Int) (p:Nat × Nat):LV:=if endV F A lo p=[] then .tup [lvI 0,lvI 0,.d (.k (.bool false))] else .tup [lvI (foldR f (endV F A lo p)),lvI (foldR f (endU F A hi p)),.d (.k (.bool true))]
theorem ref17_ends (sh:Shape) (mark window key:Int) (F A:List Int) (away more:Nat) (lo hi:Int) (hF:F.length<=100) (hA:A.length<=100) (haw:away<=A.length) (hmo:more<=100) (hmF:∀ x ∈ F,inMost x) (hmA:∀ x ∈ A,inMost x) (hml:inMost lo) (hmh:inMost hi) :
  AFun prog 71 [caseL sh mark window key,sl (F.map rI),sl (A.map rI),lvI away,lvI more,lvI lo,lvI hi] (endsV sh.fold F A lo hi (away,more)):=by
 have cc:=cxK_ok (p:=kds [7] [] [])
 refine AFun.bodyW (cxK_ok (p:=kds [7] [] [])) func71 rfl call71 (by rw [ntmps71];simp) rfl fun hf H=>?_
 have w1:IntKind.wrap .i64 ((A.length:Int) - away)=((A.length - away:Nat):Int):=by rw [wrap64] <;> omega
 have hrl:∀ (es:List Int),∀ r ∈ es.map rI,r.length=1:=fun es r hr=>by obtain ⟨_,_,rfl⟩:=List.mem_map.1 hr;rfl
 have hrl2:∀ (es fs:List Int),∀ r ∈ es.map rI ++ fs.map rI,r.length=1:=fun es fs r hr=>by
  rcases List.mem_append.1 hr with q | q
  ·exact hrl _ r q
  ·exact hrl _ r q
 simp [ntmps71,results71,caseL,rShape] at hf |-
 refine AW.seq cc ?_
 simp
 refine AW.join (c:=cxK (kds [7] [] [])) (fun a:LV × GH=>⟨[(1,sl (F.map rI)),(2,sl (A.map rI)),(3,lvI away),(4,lvI more),(5,lvI lo),(6,lvI hi),(7,.ip ((rShape sh).map .d ++ [lvI mark,lvI window,lvI key]) 0),(17,a.1)],[],a.2⟩) (fun a=>AppX 3 1 H a.1 ((F ++ A.take (A.length - away)).map rI) a.2) ?_ ?_
 ·refine AW.draw cc [] (.q 0<|.q 2<|.q 3<|.q 5<|.f (.cons 1 (.f<|.one 4<|.q 6<|.q 7<|.f<|.one 8<|.q 9<|.done) (.cons 4 (.q 6<|.f (.cons 1 (.q 7<|.f<|.one 8<|.q 9<|.done) (.cons 7 (.f<|.one 1<|.f<|.one 8<|.q 9<|.done) (.nil)))) (.nil)))) (by kernel_rfl) ?_
  have hsub:A.length - away<=A.length:=by omega
  simp [w1,hsub]
  refine ⟨?_,?_,?_⟩
  all_goals
   refine APK.appX (ys:=F.map rI) tyE89 rfl tyE3 (by simp) (by simp) (.nil (H:=H)) (by simp [rowsOf]) (by simp) (by simp) (hrl _) (by simp;omega) (by simp) fun y1 H1 h1 _ _=>?_
   simp only [List.nil_append] at h1
   simp [h1.plain.all,w1,hsub]
   refine APK.appX (ys:=(A.take (A.length - away)).map rI) tyE89 rfl tyE3 (by simp) (x:=y1) (by simp) h1 (by simp [rowsOf]) (by simp) (hrl _) (hrl _) (by simp;omega) (by simp) fun y2 H2 h2 _ _=>?_
   simp [h2.plain.all]
   exact JN.go (y2,H2) (by simpa using h2) (by simp [rShape,h2.only])
 ·rintro ⟨x,H2⟩ hx
  simp only at hx
  have hnil:Two 3 1 H x ((F ++ A.take (A.length - away)).map rI) (.d (.k (.slice none 0 0))) [] H2:=⟨hx,⟨.inl ⟨rfl,rfl⟩,hx.nx,hx.ob⟩,fun n r r' _ q=>by cases q⟩
  refine AW.join (c:=cxK (kds [7] [] [])) (fun a:LV × GH=>⟨[(4,lvI more),(5,lvI lo),(6,lvI hi),(7,.ip ((rShape sh).map .d ++ [lvI mark,lvI window,lvI key]) 0),(17,x),(18,a.1)],[],a.2⟩) (fun a=>Two 3 1 H x ((F ++ A.take (A.length - away)).map rI) a.1 ((F ++ A.drop away).map rI) a.2) ?_ ?_
  ·simp
   refine AW.draw cc [] (.q 0<|.q 2<|.q 3<|.f (.cons 1 (.q 4<|.f<|.one 5<|.q 6<|.done) (.cons 4 (.f<|.one 1<|.f<|.one 5<|.q 6<|.done) (.nil)))) (by kernel_rfl) ?_
   simp [haw]
   refine ⟨?_,?_⟩
   all_goals
    refine APK.appXf (ys:=F.map rI) tyE89 rfl tyE3 (by simp) (x:=.d (.k (.slice none 0 0))) (by simp) hnil.hy (by simp [rowsOf]) (by simp) (by simp) (hrl _) (by simp;omega) (by simp) fun y1 H3 h1 n1 o1 f1=>?_
    have ht:=(hnil.swap.left h1 n1 o1 f1).swap
    simp only [List.nil_append] at h1 ht
    simp [h1.plain.all,haw]
    refine APK.appXf (ys:=(A.drop away).map rI) tyE89 rfl tyE3 (by simp) (x:=y1) (by simp) h1 (by simp [rowsOf]) (by simp) (hrl _) (hrl _) (by simp;omega) (by simp) fun y2 H4 h2 n2 o2 f2=>?_
    have ht2:=(ht.swap.left h2 n2 o2 f2).swap
    simp [h2.plain.all]
    exact JN.go (y2,H4) (by simpa using ht2) (by simp [rShape,hx.only,h2.only])
  ·rintro ⟨y,H3⟩ hy
   simp only at hy
   refine AW.join (c:=cxK (kds [7] [] [])) (fun a:LV × LV × GH=>⟨[(7,.ip ((rShape sh).map .d ++ [lvI mark,lvI window,lvI key]) 0),(17,a.1),(18,a.2.1)],[],a.2.2⟩) (fun a=>Two 3 1 H a.1 ((endV F A lo (away,more)).map rI) a.2.1 ((endU F A hi (away,more)).map rI) a.2.2) ?_ ?_
   ·refine AW.ev cc ?_
    simp
    refine AW.loopS cc (fun a:Nat × LV × LV × GH=>⟨[(4,lvI more),(5,lvI lo),(6,lvI hi),(7,.ip ((rShape sh).map .d ++ [lvI mark,lvI window,lvI key]) 0),(17,a.2.1),(18,a.2.2.1),(19,lvI a.1)],[],a.2.2.2⟩) (fun a=>more - a.1)
     (fun a=>a.1<=more/\Two 3 1 H a.2.1 ((endV F A lo (away,a.1)).map rI) a.2.2.1 ((endU F A hi (away,a.1)).map rI) a.2.2.2) (0,x,y,H3) ⟨⟨Nat.zero_le _,by simpa [endV,endU] using hy⟩,by simp [rShape,hx.only,hy.hy.only]⟩ ?_
    rintro ⟨i,x1,y1,H4⟩ ⟨hi1,h12⟩
    simp only at hi1 h12
    simp
    refine ⟨fun h=>?_,fun h=>?_⟩
    ·have wi:IntKind.wrap .i64 ((i:Int)+1)=(i:Int)+1:=by rw [wrap64] <;> omega
     have eV:(endV F A lo (away,i)).map rI ++ [rI lo]=(endV F A lo (away,i+1)).map rI:=by simp [endV,List.replicate_succ']
     have eU:(endU F A hi (away,i)).map rI ++ [rI hi]=(endU F A hi (away,i+1)).map rI:=by simp [endU,List.replicate_succ']
     have lV:(endV F A lo (away,i)).length<=300:=by simp [endV];omega
     have lU:(endU F A hi (away,i)).length<=300:=by simp [endU];omega
     simp [h12.hx.plain.all,h12.hy.plain.all]
     refine APK.appXf (ys:=[rI lo]) tyE89 rfl tyE3 (by simp) (x:=x1) (by simp) h12.hx (by simp [rowsOf,rI]) (by simp) (hrl _) (by simp) (by simp;omega) (by simp) fun x2 H5 h5 n5 o5 f5=>?_
     have ht:=h12.left h5 n5 o5 f5
     rw [eV] at ht
     simp [h5.plain.all,h12.hy.plain.all]
     refine APK.appXf (ys:=[rI hi]) tyE89 rfl tyE3 (by simp) (x:=y1) (by simp) ht.hy (by simp [rowsOf,rI]) (by simp) (hrl _) (by simp) (by simp;omega) (by simp) fun y2 H6 h6 n6 o6 f6=>?_
     have ht2:=(ht.swap.left h6 n6 o6 f6).swap
     rw [eU] at ht2
     simp [h5.plain.all,h6.plain.all,wi]
     exact NX.go (i+1,x2,y2,H6) (by simp only;omega) ⟨h,ht2⟩ (by simp [rShape,h5.only,h6.only])
    ·have e:i=more:=by omega
     subst e
     exact JN.go (x1,y1,H4) h12 (by simp [rShape,h12.hx.only,h12.hy.only])
   ·rintro ⟨x1,y1,H4⟩ h12
    simp only at h12
    obtain ⟨V,hV⟩:∃ V,endV F A lo (away,more)=V:=⟨_,rfl⟩
    obtain ⟨U,hU⟩:∃ U,endU F A hi (away,more)=U:=⟨_,rfl⟩
    have lV:V.length<=300:=by rw [<- hV];simp [endV];omega
    have lU:U.length<=300:=by rw [<- hU];simp [endU];omega
    have mV:∀ x ∈ V,inMost x:=fun x hx=>by
     rw [<- hV] at hx
     simp only [endV,List.mem_append,List.mem_replicate] at hx
     rcases hx with (hx | hx) | hx
     ·exact hmF x hx
     ·exact hmA x (List.mem_of_mem_take hx)
     ·rw [hx.2];exact hml
    have mU:∀ x ∈ U,inMost x:=fun x hx=>by
     rw [<- hU] at hx
     simp only [endU,List.mem_append,List.mem_replicate] at hx
     rcases hx with (hx | hx) | hx
     ·exact hmF x hx
     ·exact hmA x (List.mem_of_mem_drop hx)
     ·rw [hx.2];exact hmh
    have f1:=ref17_folded sh mark window key V (by omega) mV
    have f2:=ref17_folded sh mark window key U (by omega) mU
    simp [caseL,rShape] at f1 f2
    rw [hV,hU] at h12
    refine AW.fzT 17 (AW.fzT 18 ?_)
    have hz1:=h12.hx.fz
    have hz2:=h12.hy.fz
    refine AW.seq cc ?_
    unfold endsV
    rw [hV,hU]
    by_cases hn:V=[]
    ·subst hn
     simp [S.fzT,hz1,hz2]
     exact ⟨h12.hx.nx,h12.hx.ob⟩
    ·have hne:¬ (V.length:Int)=0:=by
      have:=List.length_pos_iff.2 hn;omega
     rw [if_neg hn]
     simp [S.fzT,hz1,hz2,hn,hne]
     refine AW.ev cc ?_
     simp [rShape]
     refine AW.draw cc [(2,.n),(5,.n)] (.q 1<|.q 4<|.q 0<|.q 2<|.q 3<|.q 5<|.q 6<|.q 7<|.q 8<|.done) (by kernel_rfl) ?_
     simp
     refine FC.afun f1 ?_
     simp
     refine FC.afun f2 ?_
     simp
     exact ⟨h12.hx.nx,h12.hx.ob⟩
end Go.Aft
end
section
set_option maxRecDepth 20000
namespace Go.Aft
open Go.Proofs.Tryz
theorem news_scene {sh:Shape} {room:Room} {window key mark lo hi:Int} {so:Bool} {s:Scene} (h:SSpec sh room window key mark s) (hN:NSpec (fun u=>∃ t,maxI (window - sh.n+1) mark<=t/\t<=window/\passM sh ⟨t,key,u⟩=true) room.low (room.high+1) lo hi so) :
  so=s.has/\(s.has=true->lo=s.low.val/\hi=s.high.val):=by
 have h1:so=true->s.has=true:=fun q=>by
  obtain ⟨⟨c1,c2,c3⟩,_⟩:=hN.s1 q
  exact (h.has lo ⟨c2,by omega,c1⟩).1
 have h2:s.has=true->so=true:=fun q=>by
  obtain ⟨a,b,c⟩:=(h.low q).1
  exact (hN.s2 _ a (by omega) c).1
 refine ⟨Bool.eq_iff_iff.2 ⟨h1,h2⟩,fun q=>?_⟩
 obtain ⟨⟨c1,c2,c3⟩,d1,d2,d3⟩:=hN.s1 (h2 q)
 have e1:=h.has lo ⟨c2,by omega,c1⟩
 have e2:=h.has hi ⟨d2,by omega,d1⟩
 obtain ⟨a,b,c⟩:=(h.low q).1
 obtain ⟨a',b',c'⟩:=(h.high q).1
 have e3:=hN.s2 _ a (by omega) c
 have e4:=hN.s2 _ a' (by omega) c'
 omega
def accR (f:Int) (F A:List Int) (lo hi:Int) (can:Bool) (P:Nat) (b0:NB) (i:Nat):NB:=((List.range i).flatMap (rowR P)).foldl (stepR f F A lo hi can) b0
def accR2 (f:Int) (F A:List Int) (lo hi:Int) (can:Bool) (P:Nat) (b0:NB) (i j:Nat):NB:=((List.range j).map fun m=>(i,m)).foldl (stepR f F A lo hi can) (accR f F A lo hi can P b0 i)
theorem accR_succ (f:Int) (F A:List Int) (lo hi:Int) (can:Bool) (P:Nat) (b0:NB) (i:Nat):accR f F A lo hi can P b0 (i+1)=accR2 f F A lo hi can P b0 i (P+1):=by
 simp [accR,accR2,List.range_succ,List.flatMap_append,List.foldl_append,rowR]
theorem accR2_succ (f:Int) (F A:List Int) (lo hi:Int) (can:Bool) (P:Nat) (b0:NB) (i j:Nat):accR2 f F A lo hi can P b0 i (j+1)=stepR f F A lo hi can (accR2 f F A lo hi can P b0 i j) (i,j):=by
 simp [accR2,List.range_succ,List.foldl_append]
def nbL (b:NB):List LV:=[.d (.k (.bool b.some)),.d (.k (.bool b.none)),lvI b.low,lvI b.high]
@[simp] theorem nbL_eq (b:NB):nbL b=[.d (.k (.bool b.some)),.d (.k (.bool b.none)),lvI b.low,lvI b.high]:=rfl
theorem ref17_Bound (sh:Shape) (window key:Int) (l:List News) (srcs:Int) (room:Room) (hl:formedB l srcs=true) (hw:0<=window/\window<=200) (hn:1<=sh.n/\sh.n<=50) (hf:1<=sh.fold/\sh.fold<=4) (hc:∀ c ∈ sh.terms,0<=mFormed c 1 60) (hk:valB key=true) (hr:roomB room=true) :
  AFun prog 36 [caseL sh (markM l sh.src) window key,sl (l.map rNews),lv (rRoom room)] (lv (rNB (bndM l sh room window key).nb)):=by
 intro H
 have cc:=cxK_ok (p:=kds [3,5] [] [])
 refine ECall.bodyNW (cxK_ok (p:=kds [3,5] [] [])) func36 rfl call36 (by rw [ntmps36];simp) rfl fun hft hz0=>?_
 have hl60:l.length<=60:=by simp only [formedB,plainB,Bool.and_eq_true,decide_eq_true_eq] at hl;exact hl.1.1.2
 have hm:=markM_in hl sh.src
 have hv:=ref17_values sh window key l srcs hl hw hn hc
 have hnw:=ref17_news sh (markM l sh.src) window key room hw hn hc hm hk hr H
 have hrm:=roomB_most hr
 have hrl:-1000000000<=room.low/\room.low<=1000000000/\-1000000000<=room.high/\room.high<=1000000000:=by
  simp [roomB,valB,inB] at hr;omega
 have hsp:=scene_spec l sh room window key 0
 have hval:=standsM_val hl
 have hlen:(fixedM l sh window key (standsM l)).length+(sortL (looseM l sh window key (standsM l))).length<=60:=by
  rw [sortL_len];simp only [fixedM,looseM,List.length_map]
  have h1:=filt2 (inWin sh window key) (isLoose l sh) (standsM l)
  have h2:=stands60 hl
  omega
 have hmF:∀ x ∈ fixedM l sh window key (standsM l),inMost x:=fun x hx=>by
  obtain ⟨e,he,rfl⟩:=List.mem_map.1 hx
  exact hval e (List.mem_filter.1 he).1
 have hmL:∀ x ∈ valsL (sortL (looseM l sh window key (standsM l))),inMost x:=fun x hx=>by
  have hx:=(loose_perm ..).mem_iff.1 hx
  obtain ⟨e,he,rfl⟩:=List.mem_map.1 hx
  exact hval e (List.mem_filter.1 he).1
 obtain ⟨P,hP⟩:∃ P:Nat,room.most=P:=⟨room.most.toNat,by omega⟩
 have hfin:∀ lo hi so,NSpec (fun u=>∃ t,maxI (window - sh.n+1) (markM l sh.src)<=t/\t<=window/\passM sh ⟨t,key,u⟩=true) room.low (room.high+1) lo hi so ->
   boundR sh.fold (putsI (fixedM l sh window key (standsM l))) (valsL (sortL (looseM l sh window key (standsM l)))) lo hi so P=(bndM l sh room window key).nb/\(inMost lo/\inMost hi):=fun lo hi so hN=>by
  obtain ⟨e1,e2⟩:=news_scene hsp hN
  have hin:inMost lo/\inMost hi:=by
   cases q:so with
   | true =>
    obtain ⟨⟨_,c2,c3⟩,_,d2,d3⟩:=hN.s1 q
    unfold inMost;omega
   | false =>
    obtain ⟨q1,q2⟩:=hN.s0 q
    unfold inMost;omega
  refine ⟨?_,hin⟩
  have hb:=boundR_eq (s:=sceneM l sh room window key 0) (F:=fixedM l sh window key (standsM l)) (F':=putsI (fixedM l sh window key (standsM l))) (L:=sortL (looseM l sh window key (standsM l))) (P:=P) (lo:=lo) (hi:=hi) (putsI_perm _) e2 (by rw [hsp.sh];exact hf) (by omega) hlen hmF hmL (fun _=>hin)
  rw [hsp.sh] at hb
  rw [e1,hb]
  unfold bndM
  rw [hP];rfl
 generalize (bndM l sh room window key).nb=R at hfin
 rw [show (fixedM l sh window key (standsM l)).length=(putsI (fixedM l sh window key (standsM l))).length from ((putsI_perm _).length_eq).symm,show (sortL (looseM l sh window key (standsM l))).length=(valsL (sortL (looseM l sh window key (standsM l)))).length by simp [valsL]] at hlen
 replace hmF:∀ x ∈ putsI (fixedM l sh window key (standsM l)),inMost x:=fun x hx=>hmF x ((putsI_perm _).mem_iff.1 hx)
 generalize putsI (fixedM l sh window key (standsM l))=F at *
 generalize valsL (sortL (looseM l sh window key (standsM l)))=A at *
 simp [caseL,rShape,rRoom] at hv
 simp [ntmps36,results36,caseL,rShape,rRoom] at hft |-
 refine AW.seq cc ?_
 simp
 refine AW.seq cc ?_
 simp
 refine EC.afun hv ?_
 simp
 refine AW.seq cc ?_
 simp
 refine EC.of hnw (fun v H2 hR=>?_) (fun v H2 hR=>?_)
 rotate_left
 ·obtain ⟨⟨_,_,_,q,_⟩,_⟩:=hR;cases q
 obtain ⟨⟨lo,hi,so,q,hN⟩,hH⟩:=hR
 cases q
 rw [hH]
 obtain ⟨hR1,hml,hmh⟩:=hfin lo hi so hN
 simp
 refine AW.seq cc ?_
 obtain ⟨n0,hn0⟩:∃ n0:Bool,decide (F=[]/\A.length<=P)=n0:=⟨_,rfl⟩
 have hb0:boundR sh.fold F A lo hi so P=accR sh.fold F A lo hi so P ⟨false,n0,0,0⟩ (min P A.length+1):=by rw [boundR,hn0];rfl
 simp [hP]
 refine AW.seq cc ?_
 simp
 obtain ⟨cs,hcs⟩:∃ cs,(rShape sh).map LV.d ++ [lvI (markM l sh.src),lvI window,lvI key]=cs:=⟨_,rfl⟩
 obtain ⟨rs,hrs⟩:∃ rs,(rRoom room).map LV.d=rs:=⟨_,rfl⟩
 refine AW.loopS cc (fun i:Nat=>⟨[(3,.ip cs 0),(5,.ip rs 0),(6,.lp 6 0),(7,sl (F.map rI)),(8,sl (A.map rI)),(9,lvI lo),(10,lvI hi),(11,.d (.k (.bool so))),(12,.lp 12 0),(13,lvI i)],[(6,[.d (.k (.bool false)),.d (.k (.bool false)),lvI 0,lvI 0]),(12,nbL (accR sh.fold F A lo hi so P ⟨false,n0,0,0⟩ i))],H⟩) (fun i=>P+1 - i)
  (fun i=>i<=min P A.length+1) 0 ⟨Nat.zero_le _,by
   have hnb:accR sh.fold F A lo hi so P ⟨false,n0,0,0⟩ 0 = ⟨false,n0,0,0⟩:=by simp [accR]
   rw [hnb,<- hn0]
   by_cases c1:F=[] <;> by_cases c2:A.length<=P <;> simp [<- hcs,<- hrs,rShape,rRoom,rNB,dI,dB,c1,c2,hP]⟩ ?_
 intro i hii
 have hmin:min P A.length<=P/\min P A.length<=A.length:=⟨Nat.min_le_left ..,Nat.min_le_right ..⟩
 simp [<- hcs,<- hrs,rShape,rRoom,hP]
 refine ⟨fun h1 h2=>?_,fun h=>?_⟩
 ·refine AW.loopS cc (fun j:Nat=>⟨[(3,.ip cs 0),(5,.ip rs 0),(6,.lp 6 0),(7,sl (F.map rI)),(8,sl (A.map rI)),(9,lvI lo),(10,lvI hi),(11,.d (.k (.bool so))),(12,.lp 12 0),(13,lvI i),(14,lvI j)],[(6,[.d (.k (.bool false)),.d (.k (.bool false)),lvI 0,lvI 0]),(12,nbL (accR2 sh.fold F A lo hi so P ⟨false,n0,0,0⟩ i j))],H⟩) (fun j=>P+1 - j)
   (fun j=>j<=P+1) 0 ⟨Nat.zero_le _,by
    have hnb:accR2 sh.fold F A lo hi so P ⟨false,n0,0,0⟩ i 0=accR sh.fold F A lo hi so P ⟨false,n0,0,0⟩ i:=by simp [accR2]
    rw [hnb]
    simp [<- hcs,<- hrs,rShape,rRoom,hP]⟩ ?_
  intro j hj
  simp [<- hcs,<- hrs,rShape,rRoom,hP]
  refine ⟨fun h3=>?_,fun h3=>?_⟩
  ·have he:=ref17_ends sh (markM l sh.src) window key F A i j lo hi (by omega) (by omega) (by omega) (by omega) hmF hmL hml hmh
   simp [caseL,rShape] at he
   refine EC.afun he ?_
   have hstep:=accR2_succ sh.fold F A lo hi so P ⟨false,n0,0,0⟩ i j
   generalize accR2 sh.fold F A lo hi so P ⟨false,n0,0,0⟩ i j=b at hstep |-
   obtain ⟨s1,n1,l1,h1'⟩:=b
   unfold endsV
   have wj:IntKind.wrap .i64 ((j:Int)+1)=(j:Int)+1:=by rw [wrap64] <;> omega
   rw [stepR] at hstep
   by_cases q1:endV F A lo (i,j)=[]
   ·rw [if_pos q1]
    rw [if_pos (.inl q1)] at hstep
    simp
    exact NX.go (j+1) (by omega) (by omega) (by rw [hstep];simp [<- hcs,<- hrs,rShape,rRoom,hP,wj])
   ·rw [if_neg q1]
    by_cases q2:0 < j/\so=false
    ·rw [if_pos (.inr q2)] at hstep
     simp [q2.1,q2.2]
     exact NX.go (j+1) (by omega) (by omega) (by rw [hstep];simp [<- hcs,<- hrs,rShape,rRoom,hP,wj,q2.2])
    ·rw [if_neg (by rintro (h | h);exact q1 h;exact q2 h)] at hstep
     simp only at hstep
     generalize foldR sh.fold (endV F A lo (i,j))=x at hstep |-
     generalize foldR sh.fold (endU F A hi (i,j))=y at hstep |-
     simp
     refine ⟨fun r1 r2=>absurd ⟨r1,r2⟩ q2,fun _=>⟨fun r=>⟨fun r'=>?_,fun r1 r2=>?_⟩,fun r3 r4=>⟨fun r'=>?_,fun r1 r2=>?_⟩⟩⟩
     ·rw [if_pos r,if_pos r'] at hstep
      exact NX.go (j+1) (by omega) (by omega) (by rw [hstep];simp [<- hcs,<- hrs,rShape,rRoom,hP,wj])
     ·rw [if_pos r,if_neg (by rintro (h | h);rw [r1] at h;cases h;omega)] at hstep
      exact NX.go (j+1) (by omega) (by omega) (by rw [hstep];simp [<- hcs,<- hrs,rShape,rRoom,hP,wj])
     ·rw [if_neg (by rintro (h | h);rw [r3] at h;cases h;omega),if_pos r'] at hstep
      exact NX.go (j+1) (by omega) (by omega) (by rw [hstep];simp [<- hcs,<- hrs,rShape,rRoom,hP,wj])
     ·rw [if_neg (by rintro (h | h);rw [r3] at h;cases h;omega),if_neg (by rintro (h | h);rw [r1] at h;cases h;omega)] at hstep
      exact NX.go (j+1) (by omega) (by omega) (by rw [hstep];simp [<- hcs,<- hrs,rShape,rRoom,hP,wj])
  ·have e:j=P+1:=by omega
   subst e
   have wi:IntKind.wrap .i64 ((i:Int)+1)=(i:Int)+1:=by rw [wrap64] <;> omega
   exact NX.go (i+1) (by omega) (by omega) (by rw [accR_succ];simp [<- hcs,<- hrs,rShape,rRoom,hP,wi])
 ·have e:i=min P A.length+1:=by
   by_cases q:i<=P
   ·have:=h (by omega);omega
   ·omega
  subst e
  rw [<- hb0,hR1]
  refine AW.ev cc ?_
  simp
  exact fun hz=>⟨hz.drop (Nat.le_refl _),rfl⟩
end Go.Aft
end
section
set_option maxRecDepth 20000
namespace Go.Aft
open Go.Proofs.Tryz
def skipM (l:List News) (src:Int):Nat->Int->Int
 | 0,id=>id
 | f+1,id=>if 0 < verM l src id then skipM l src f (id+1) else id
def moreM (l:List News) (src:Int) (r:Rec):Nat->Int->List News
 | 0,_=>[]
 | k+1,id=>⟨1,src,skipM l src (1001 - id).toNat id,1,r⟩ :: moreM l src r k (skipM l src (1001 - id).toNat id+1)
def lostM (src:Int) (gone:Nat) (r:Rec) (k:Nat) (x:Loose):News:=if gone<=k then ⟨1,src,x.ev.id,x.ver+1,r⟩ else ⟨2,src,x.ev.id,x.ver+1,zeroRec⟩
def lostsM (src:Int) (gone:Nat) (r:Rec):Nat->List Loose->List News
 | _,[]=>[]
 | k,x :: xs=>lostM src gone r k x :: lostsM src gone r (k+1) xs
theorem lostsM_snoc (src:Int) (gone:Nat) (r:Rec):∀ (k:Nat) (xs:List Loose) (x:Loose),lostsM src gone r k (xs ++ [x])=lostsM src gone r k xs ++ [lostM src gone r (k+xs.length) x]
 | k,[],x=>by simp [lostsM]
 | k,y :: ys,x=>by
  rw [List.cons_append,lostsM,lostsM_snoc src gone r (k+1) ys x,lostsM]
  simp [Nat.add_assoc,Nat.add_comm 1]
theorem lostsM_len (src:Int) (gone:Nat) (r:Rec):∀ (k:Nat) (xs:List Loose),(lostsM src gone r k xs).length=xs.length
 | k,[]=>rfl
 | k,y :: ys=>by simp [lostsM,lostsM_len src gone r (k+1) ys]
theorem verM_big {l:List News} {srcs:Int} (hg:∀ n ∈ l,goodB n srcs=true) {src id:Int} (h:999 < id):verM l src id=0:=by
 revert hg
 refine snoc_ind (p:=fun l=>(∀ n ∈ l,goodB n srcs=true)->verM l src id=0) (fun _=>rfl) (fun l n ih hg=>?_) l
 have h1:=ih fun m hm=>hg m (by simp [hm])
 have h2:=hg n (by simp)
 rw [verM,List.foldl_append,<- verM,h1]
 simp only [List.foldl_cons,List.foldl_nil,verStep]
 rw [if_neg]
 rintro ⟨a,b,c⟩
 by_cases d1:n.do_=1
 ·simp [goodB,d1,saidB,inB] at h2;omega
 ·by_cases d2:n.do_=2
  ·simp [goodB,d2,saidB,inB] at h2;omega
  ·simp [goodB,d1,d2,a] at h2
def recOf (s:Scene) (great:Bool):Rec:=if great=true then s.high else s.low
def lateNV (s:Scene) (L:List Loose) (l:List News) (w:Way) (great:Bool):List News :=
 lostsM s.sh.src w.gone (recOf s great) 0 (chgM L w great) ++ moreM l s.sh.src (recOf s great) w.more 0
theorem scene_late (s:Scene) (L:List Loose) (hL:s.loose=sl (L.map rLoose)) (h60:L.length<=60) (l:List News) {srcs:Int} (hg':∀ n ∈ l,goodB n srcs=true) (w:Way) (hw:w.gone+w.turned<=L.length) (hm6:w.more<=6) (hver:∀ x ∈ L,-1000<=x.ver/\x.ver<=1000) (great:Bool) (n m:Nat) (es:List (Value × LV)) (hv:s.vers=.gm m)
  (H:GH) (ho:H.obj n=some (sceneO s)) (hom:H.obj m=some (.map es)) (hmv:MapV es l s.sh.src) :
  ECall prog 64 [.gp n 0,lv (rWay w),.d (.k (.bool great))] H fun ce H'=>ce=.ret (sl ((lateNV s L l w great).map rNews))/\H'=H:=by
 have cc:=cxK_ok (p:=kds [4] [] [])
 refine ECall.bodyNW (cxK_ok (p:=kds [4] [] [])) func64 rfl call64 (by rw [ntmps64];simp) rfl fun hf hz=>?_
 have ln:=hz.lt ho
 have lm:=hz.lt hom
 have hch:=scene_changed s L hL h60 w hw great n H ho
 have hrec:=scene_record s n great
 simp [rWay] at hch
 simp [ntmps64,results64,rWay] at hf |-
 refine AW.seq cc ?_
 simp
 refine AW.seq cc ?_
 simp
 refine AW.seq cc ?_
 simp [ln]
 refine EC.of hch (fun v H2 hR=>?_) (fun v H2 hR=>?_)
 rotate_left
 ·cases hR.1
 obtain ⟨e,rfl⟩:=hR
 cases e
 obtain ⟨C,hC⟩:∃ C,chgM L w great=C:=⟨_,rfl⟩
 obtain ⟨K,hK⟩:∃ K,keptM L w great=K:=⟨_,rfl⟩
 have hCl:C.length<=60:=by rw [<- hC];simp [chgM];split <;> simp <;> omega
 have hCm:∀ x ∈ C,-1000<=x.ver/\x.ver<=1000:=fun x hx=>hver x (by rw [<- hC,chgM] at hx;split at hx;exact List.mem_of_mem_take hx;exact List.mem_of_mem_drop hx)
 rw [hC,hK]
 have hrec:∀ H':GH,H'.obj n=some (sceneO s)->ECall prog 108 [.gp n 0,.d (.k (.bool great))] H' fun ce H1=>ce=.ret (lv (rRec (recOf s great)))/\H1=H':=fun H' h'=>scene_record s n great H' h'
 obtain ⟨R,hR0⟩:∃ R,recOf s great=R:=⟨_,rfl⟩
 rw [hR0] at hrec
 simp
 refine AW.seq cc ?_
 simp
 refine AW.loopS cc (fun a:Nat × LV × GH=>⟨[(0,.gp n 0),(2,.d (.k (.bool great))),(4,.ip [lvI w.gone,lvI w.turned,lvI w.more] 0),(7,a.2.1),(21,.d (.sl (C.map rLoose))),(22,lvI C.length),(23,lvI a.1)],[],a.2.2⟩) (fun a=>C.length - a.1)
  (fun a=>a.1<=C.length/\AppX 53 7 H2 a.2.1 ((lostsM s.sh.src w.gone R 0 (C.take a.1)).map rNews) a.2.2) (0,.d (.k (.slice none 0 0)),H2) ⟨⟨by simp,by simpa [lostsM] using AppX.nil⟩,by simp⟩ ?_
 rintro ⟨k,x,H1⟩ ⟨hk,ha⟩
 simp only at hk ha
 have ho1:H1.obj n=some (sceneO s):=by rw [ha.ob n ln];exact ho
 simp [ha.plain.all]
 refine ⟨fun h=>?_,fun h=>?_⟩
 ·have hv1:=hCm _ (List.getElem_mem h)
  have htk:lostsM s.sh.src w.gone R 0 (C.take (k+1))=lostsM s.sh.src w.gone R 0 (C.take k) ++ [lostM s.sh.src w.gone R k C[k]]:=by
   rw [take_succ_get h,lostsM_snoc];simp [Nat.min_eq_left (Nat.le_of_lt h)]
  obtain ⟨y,hy⟩:∃ y,C[k]=y:=⟨_,rfl⟩
  rw [hy] at hv1 htk
  simp [h,List.getElem?_eq_getElem h,hy,rLoose,rEvent,rRec]
  refine AW.draw cc [] (.q 0<|.q 1<|.q 2<|.q 3<|.q 5<|.q 6<|.q 8<|.q 4<|.q 7<|.q 9<|.q 10<|.q 11<|.f<|.one 12<|.f<|.one 13<|.done) (by kernel_rfl) ?_
  have hvw:IntKind.wrap .i64 (y.ver+1)=y.ver+1:=by rw [wrap64] <;> omega
  simp [ho1,sceneO,rShape,rRoom,rRec,dI,hvw]
  have hr:List.range' 0 1=[0]:=rfl
  have hwk:IntKind.wrap .i64 ((k:Int)+1)=(k:Int)+1:=by rw [wrap64] <;> omega
  have hln:((lostsM s.sh.src w.gone R 0 (C.take k)).map rNews).length<=60:=by rw [List.length_map,lostsM_len,List.length_take];omega
  refine ⟨fun q=>?_,fun q=>?_⟩
  ·have hlo:lostM s.sh.src w.gone R k y = ⟨1,s.sh.src,y.ev.id,y.ver+1,R⟩:=by rw [lostM,if_pos q]
   rw [hlo] at htk
   have hrc:=hrec H1 ho1
   simp [rRec] at hrc
   refine ⟨by have:=ha.nx;omega,EC.of hrc (fun v H5 hR=>?_) (fun v H5 hR=>?_)⟩
   rotate_left
   ·cases hR.1
   obtain ⟨e,rfl⟩:=hR
   cases e
   simp [hr,ha.plain.all]
   ·refine APK.appX tyE35 rfl tyE53 (by simp) (by simp [ha.plain.un]) ha (by simp [rowsOf];rfl) (by simp) (fun r hr=>by obtain ⟨_,_,rfl⟩:=List.mem_map.1 hr;rfl) (by simp) (by simp;simp at hln;omega) (by simp) fun x2 H6 h6 _ _=>?_
    simp [h6.plain.all]
    refine NX.go (k+1,x2,H6) (Nat.sub_lt_sub_left h (Nat.lt_succ_self k)) ⟨h,?_⟩ (by simp [hwk,h6.only])
    rw [htk];simpa [rNews,rRec] using h6
  ·have hlo:lostM s.sh.src w.gone R k y = ⟨2,s.sh.src,y.ev.id,y.ver+1,zeroRec⟩:=by rw [lostM,if_neg (by omega)]
   rw [hlo] at htk
   simp [hr,ha.plain.all]
   ·refine APK.appX tyE35 rfl tyE53 (by simp) (by simp [ha.plain.un]) ha (by simp [rowsOf,hr];rfl) (by simp) (fun r hr=>by obtain ⟨_,_,rfl⟩:=List.mem_map.1 hr;rfl) (by simp) (by simp;simp at hln;omega) (by simp) fun x2 H6 h6 _ _=>?_
    simp [h6.plain.all]
    refine NX.go (k+1,x2,H6) (Nat.sub_lt_sub_left h (Nat.lt_succ_self k)) ⟨h,?_⟩ (by simp [hwk,h6.only])
    rw [htk];simpa [rNews,rRec,zeroRec] using h6
 ·have:k=C.length:=by omega
  subst this
  rw [List.take_length] at ha
  obtain ⟨D,hD⟩:∃ D,lostsM s.sh.src w.gone R 0 C=D:=⟨_,rfl⟩
  have hDl:D.length<=60:=by rw [<- hD,lostsM_len];omega
  rw [hD] at ha
  refine AW.seq cc ?_
  simp
  refine AW.seq cc ?_
  simp
  refine AW.loopS cc (fun a:Nat × Int × LV × GH=>⟨[(0,.gp n 0),(2,.d (.k (.bool great))),(7,a.2.2.1),(13,lvI a.2.1),(55,lvI w.more),(56,lvI a.1)],[],a.2.2.2⟩) (fun a=>w.more - a.1)
   (fun a=>a.1<=w.more/\0<=a.2.1/\a.2.1<=1001+a.1/\∃ M,D ++ moreM l s.sh.src R w.more 0=M ++ moreM l s.sh.src R (w.more - a.1) a.2.1/\M.length=D.length+a.1/\AppX 53 7 H2 a.2.2.1 (M.map rNews) a.2.2.2) (0,0,x,H1) ⟨⟨by simp,by simp,by simp,D,by simp,by simp,ha⟩,by simp [ha.only]⟩ ?_
  rintro ⟨c,id,x3,H3⟩ ⟨hc,h0,h1,M,hM,hMl,ha3⟩
  simp only at hc h0 h1 hM hMl ha3
  have ho3:H3.obj n=some (sceneO s):=by rw [ha3.ob n ln];exact ho
  have hom3:H3.obj m=some (.map es):=by rw [ha3.ob m lm];exact hom
  simp [ha3.plain.all]
  have hnx3:n < H3.next:=by have:=ha3.nx;omega
  have hmx3:m < H3.next:=by have:=ha3.nx;omega
  refine ⟨fun h=>?_,fun h=>?_⟩
  ·obtain ⟨J,hJ⟩:∃ J,skipM l s.sh.src (1001 - id).toNat id=J:=⟨_,rfl⟩
   refine AW.loopS cc (fun i:Int=>⟨[(0,.gp n 0),(2,.d (.k (.bool great))),(7,x3),(13,lvI i),(55,lvI w.more),(56,lvI c)],[],H3⟩) (fun i=>(1001 - i).toNat) (fun i=>0<=i/\i<=1001+c/\skipM l s.sh.src (1001 - i).toNat i=J) id ⟨⟨h0,h1,hJ⟩,by simp [ha3.only]⟩ ?_
   rintro i ⟨i0,i1,hi⟩
   have hg:=hmv.get i
   have hkey:(∀ (a:Value) (b:LV),(a,b) ∈ es->(KK.sc (Sc.int IntKind.i64)).has a=true)=True:=eq_true hmv.key
   have hk1:∀ n,(KK.sc (Sc.int IntKind.i64)).has (Value.int IntKind.i64 n)=true:=fun _=>rfl
   simp at hg
   simp [ho3,hom3,sceneO,hv,rShape,rRoom,rRec,dI,hkey,hk1,hg,hnx3,hmx3]
   refine ⟨fun q=>?_,fun q=>?_⟩
   ·have hi9:i<=999:=by
     refine Int.not_lt.1 fun z=>?_
     rw [verM_big hg' z] at q;omega
    refine NX.go (i+1) (by omega) ⟨by omega,by omega,?_⟩ (by simp [show IntKind.wrap .i64 (i+1)=i+1 by rw [wrap64] <;> omega,ha3.only])
    rw [<- hi,show (1001 - i).toNat=(1001 - (i+1)).toNat+1 by omega,skipM,if_pos q]
   ·have hJi:J=i:=by
     rw [<- hi]
     generalize (1001 - i).toNat=f
     cases f with
     | zero=>rfl
     | succ f=>rw [skipM,if_neg (by omega)]
    have hmm:moreM l s.sh.src R (w.more - c) id = ⟨1,s.sh.src,i,1,R⟩ :: moreM l s.sh.src R (w.more - (c+1)) (i+1):=by
     rw [show w.more - c=(w.more - (c+1))+1 by omega,moreM,hJ,hJi]
    have hrc:=hrec
    refine AW.draw cc [(9,.r)] (.q 0<|.q 1<|.q 2<|.q 3<|.q 4<|.q 6<|.q 7<|.q 8<|.q 9<|.f<|.one 5<|.q 10<|.q 11<|.f<|.one 12<|.q 13<|.done) (by kernel_rfl) ?_
    simp [ho3,sceneO,rShape,rRoom,rRec,dI,hnx3,ha3.plain.all]
    refine FC.read (v:=lv (rRec R)) (fun s' hgr=>hrc s'.H (hgr.obj n _ ho3 (fun _ _ _ q=>by simp [sceneO] at q))) ?_
    have hr:List.range' 0 1=[0]:=rfl
    have hwi:IntKind.wrap .i64 (i+1)=i+1:=by rw [wrap64] <;> omega
    have hwc:IntKind.wrap .i64 ((c:Int)+1)=(c:Int)+1:=by rw [wrap64] <;> omega
    simp [rRec,hr,ha3.plain.all,ho3,sceneO,rShape,rRoom,dI]
    have hln:(M.map rNews).length<=66:=by rw [List.length_map,hMl];omega
    refine APK.appX tyE35 rfl tyE53 (by simp) (by simp [ha3.plain.un]) ha3 (by simp [rowsOf];rfl) (by simp) (fun r hr=>by obtain ⟨_,_,rfl⟩:=List.mem_map.1 hr;rfl) (by simp) (by simp;simp at hln;omega) (by simp) fun x2 H6 h6 _ _=>?_
    simp [h6.plain.all]
    refine NX.go (c+1,i+1,x2,H6) (Nat.sub_lt_sub_left h (Nat.lt_succ_self c)) ⟨h,by simp only;omega,by simp only;omega,M ++ [⟨1,s.sh.src,i,1,R⟩],?_,by simp [hMl];omega,?_⟩ (by simp [hwi,hwc,h6.only])
    ·rw [hM,hmm];simp
    ·simpa [rNews,rRec] using h6
  ·have:c=w.more:=by omega
   subst this
   refine AW.ev cc ?_
   simp [ha3.plain.all]
   have hfin:lateNV s L l w great=M:=by
    rw [lateNV,hC,hR0,hD,hM,Nat.sub_self,moreM,List.append_nil]
   exact fun hz2=>⟨H2,Drop_same ha3.nx ha3.ob hz.none,by rw [ha3.fz];simp [LV.nb],by rw [ha3.fz,hfin],rfl⟩
end Go.Aft
end
