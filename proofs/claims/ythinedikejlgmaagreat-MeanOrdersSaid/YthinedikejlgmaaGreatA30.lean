import Derived.Test.YthinedikejlgmaaGreatA29
import Derived.Test.YthinedikejlgmaaGreatA24
import Derived.Test.YthinedikejlgmaaGreatA23
import Derived.Test.YthinedikejlgmaaGreatA20
set_option linter.all false
section
set_option maxRecDepth 20000
namespace Go.Aft
open Go.Proofs.Tryz
def fitP (p:Prog):Prop:=∀ s ∈ p.srcs ++ a0d p,a2b s
def e4d (p:Prog) (d:Int):Prop:=formed p/\0<=d/\d < p.defs.length
open Classical in
noncomputable def plainV (p:Prog) (d:Int):LV :=
 if h:e4d p d then
  (match e2v p (p.defs[d.toNat]'(by have:=h.2;omega)).exp with
  | (s,true)=>.tup [lvI s.src,lvI s.n,lvI 0]
  | (_,false)=>.tup [lvI 0,lvI 0,lvI 7])
 else .tup [lvI 0,lvI 0,lvI 2]
open Classical in
noncomputable def passesV (p:Prog) (d:Int) (r:Rec):LV :=
 if h:e4d p d/\recB r=true then
  (match e2v p (p.defs[d.toNat]'(by have:=h.1.2;omega)).exp with
  | (s,true)=>.tup [.d (.k (.bool (s.terms.all fun c=>cVal r 0 c != 0))),lvI 0]
  | (_,false)=>.tup [.d (.k (.bool false)),lvI 7])
 else .tup [.d (.k (.bool false)),lvI 2]
end Go.Aft
end
section
set_option maxRecDepth 20000
namespace Go.Aft
open Go.Proofs.Tryz
theorem b0a (n lo hi:Int):AFun prog 252 [.d (.k (.int .i64 n)),.d (.k (.int .i64 lo)),.d (.k (.int .i64 hi))] (.d (.k (.bool (inB n lo hi)))):=by
 refine AFun.body cx0_ok func252 rfl call252 (by rw [ntmps252];simp) rfl fun _ H=>?_
 simp [ntmps252,results252,inB]
theorem d3b (r:Rec):AFun prog 281 [lv (rRec r)] (.d (.k (.bool (recB r)))):=by
 refine AFun.body (a0g (p:=kds [1] [] [])) func281 rfl call281 (by rw [ntmps281];simp) rfl fun _ H=>?_
 simp [ntmps281,results281,rRec]
 refine EC.afun (b0a _ _ _) ?_
 cases h1:inB r.at_ 0 200 with
 | false=>simp [recB,h1]
 | true =>
  simp
  refine EC.afun (b0a _ _ _) ?_
  cases h2:inB r.key (-1000000000) 1000000000 with
  | false=>simp [recB,h1,h2]
  | true =>
   simp
   refine EC.afun (b0a _ _ _) ?_
   simp [recB,h1,h2]
def b7l (n:News):Bool:=inB n.id 0 999 && inB n.ver 1 99 && recB n.rec_
theorem c8w (n:News):AFun prog 272 [.agg [],lv (a1w n)] (.d (.k (.bool (b7l n)))):=by
 refine AFun.body (a0g (p:=kds [2,3] [] [])) func272 rfl call272 (by rw [ntmps272];simp) rfl fun _ H=>?_
 have hr:=d3b n.rec_
 simp [rRec] at hr
 simp [ntmps272,results272,a1w,rRec]
 refine EC.afun (b0a _ _ _) ?_
 cases h1:inB n.id 0 999 with
 | false=>simp [b7l,h1]
 | true =>
  simp
  refine EC.afun (b0a _ _ _) ?_
  cases h2:inB n.ver 1 99 with
  | false=>simp [b7l,h1,h2]
  | true =>
   simp
   refine EC.afun hr ?_
   simp [b7l,h1,h2]
theorem e4i (n:News):AFun prog 273 [.agg [],lv (a1w n)] (.d (.k (.bool (b7l n && decide (n.rec_=c4a))))):=by
 refine AFun.body (a6j (p:=kds [2,3] [] [])) func273 rfl call273 (by rw [ntmps273];simp) rfl fun _ H=>?_
 have hr:=c8w n
 simp [a1w,rRec] at hr
 simp [ntmps273,results273,a1w,rRec]
 refine EC.afun hr ?_
 cases h1:b7l n with
 | false=>simp [h1]
 | true =>
  obtain ⟨d0,s0,i0,v0,a,b,c⟩:=n
  simp [c4a]
  rw [Bool.eq_iff_iff];simp
def b8x (n:News):Bool:=decide (n.id=0) && decide (n.ver=0) && decide (n.rec_.key=0/\n.rec_.val=0) && inB n.rec_.at_ 0 201
theorem d3d (n:News):AFun prog 274 [.agg [],lv (a1w n)] (.d (.k (.bool (b8x n)))):=by
 refine AFun.body (a6j (p:=kds [2,3] [] [])) func274 rfl call274 (by rw [ntmps274];simp) rfl fun _ H=>?_
 obtain ⟨d0,s0,i0,v0,a,b,c⟩:=n
 simp [ntmps274,results274,a1w,rRec]
 by_cases h:i0=0/\v0=0/\b=0/\c=0
 ·obtain ⟨rfl,rfl,rfl,rfl⟩:=h
  simp
  refine EC.afun (b0a _ _ _) ?_
  simp [b8x]
 ·refine ⟨fun q1 q2 q3 q4=>absurd ⟨q1,q2,q3,q4⟩ h,fun _=>?_⟩
  have hb:(i0 == 0 && v0 == 0 && (b == 0 && c == 0))=false:=by
   rw [Bool.eq_false_iff];intro q;simp at q;exact h ⟨q.1.1,q.1.2,q.2.1,q.2.2⟩
  have hm:b8x ⟨d0,s0,i0,v0,⟨a,b,c⟩⟩=false:=by
   rw [Bool.eq_false_iff];intro q;simp [b8x] at q;exact h ⟨q.1.1.1,q.1.1.2,q.1.2.1,q.1.2.2⟩
  rw [hb,hm];simp
def ckEs:List (Value × LV):=[(.int .i64 1,.fn (.func 272) [.agg []] []),(.int .i64 2,.fn (.func 273) [.agg []] []),(.int .i64 3,.fn (.func 274) [.agg []] [])]
theorem d3f (H:GH):a0j prog 251 [] H fun ce H'=>ce=.ret (.gm H.next)/\H'=H.add (.map ckEs):=by
 refine a0j.a1j cx0_ok func251 rfl call251 (by rw [ntmps251];simp) rfl fun hf hw=>?_
 simp [ntmps251,results251,GH.a0b,GH.a0a,GH.a1v,KK.has,Sc.has,mput,a4f,ckEs]
 exact fun hz=>hz.drop (by rw [GH.a0a];omega)
def b6l (n:News) (srcs:Int):Bool:=inB n.src 0 (srcs - 1) && (if n.do_=1 then b7l n else if n.do_=2 then b7l n && decide (n.rec_=c4a) else if n.do_=3 then b8x n else false)
theorem f1w:(∀ (a:Value) (b:LV),(a,b) ∈ ckEs->(KK.sc (Sc.int .i64)).has a=true)=True:=by
 refine eq_true fun a b hab=>?_
 simp only [ckEs,List.mem_cons,List.not_mem_nil,or_false,Prod.mk.injEq] at hab
 rcases hab with ⟨rfl,_⟩ | ⟨rfl,_⟩ | ⟨rfl,_⟩ <;> rfl
theorem d3c (n:News) (srcs:Int) (m1 m0:Nat) (H:GH) (h1:H.obj m1=some (.box [.gm m0])) (h0:H.obj m0=some (.map ckEs)) (hs:0<=srcs/\srcs<=4) :
  a0j prog 254 [lv (a1w n),.gp m1 0,.ip [lvI srcs] 0] H fun ce H'=>ce=.ret (.d (.k (.bool (!b6l n srcs))))/\H'=H:=by
 have cc:=a0g (p:=kds [3] [] [])
 refine a0j.a1j (a0g (p:=kds [3] [] [])) func254 rfl call254 (by rw [ntmps254];simp) rfl fun hf hw=>?_
 have l1:=hw.lt h1
 have l0:=hw.lt h0
 have c1:=c8w n
 have c2:=e4i n
 have c3:=d3d n
 have w:IntKind.wrap .i64 (srcs - 1)=srcs - 1:=by rw [wrap64] <;> omega
 obtain ⟨d0,s0,i0,v0,a,b,c⟩:=n
 simp [a1w,rRec] at c1 c2 c3
 have hd:(¬ (d0=1 \/ d0=2 \/ d0=3)) \/ (d0=1 \/ d0=2 \/ d0=3):=by omega
 rcases hd with hd | hd
 ·have e1:¬ d0=1:=by omega
  have e2:¬ d0=2:=by omega
  have e3:¬ d0=3:=by omega
  simp [ntmps254,results254,h1,h0,a1w,rRec,f1w]
  simp [ckEs,a1c,a4f,e1,e2,e3,Ne.symm e1,Ne.symm e2,Ne.symm e3]
  exact fun hz=>⟨hz.drop (Nat.le_refl _),by simp [b6l,e1,e2,e3]⟩
 ·rcases hd with rfl | rfl | rfl
  all_goals
   simp [ntmps254,results254,h1,h0,a1w,rRec,f1w]
   simp [ckEs,a1c,a4f,w]
   refine EC.afun (b0a _ _ _) ?_
   cases h2:inB s0 0 (srcs - 1) with
   | false =>
    simp
    exact fun hz=>⟨hz.drop (Nat.le_refl _),by simp [b6l,h2]⟩
   | true =>
    simp [l1,l0,h1,h0,LV.nb,nbs]
    first
     | refine EC.afun c1 ?_
     | refine EC.afun c2 ?_
     | refine EC.afun c3 ?_
    simp
    exact fun hz=>⟨hz.drop (Nat.le_refl _),by simp [b6l,h2]⟩
end Go.Aft
end
section
set_option maxRecDepth 20000
namespace Go.Aft
open Go.Proofs.Tryz
theorem c1j (l:List News) (q:News->Bool) (f:FuncId) (cap:List LV) (H:GH) (hcap:nbs H.next cap) (hc:∀ n ∈ l,a0j prog f ([lv (a1w n)] ++ cap) H fun ce H'=>ce=.ret (.d (.k (.bool (q n))))/\H'=H) :
  a0j prog 275 [sl (l.map a1w),.fn (.func f) [] cap] H fun ce H'=>ce=.ret (lvI (idxF q l))/\H'=H:=by
 have cc:=cx0_ok
 refine a0j.a1j cx0_ok func275 rfl call275 (by rw [ntmps275];simp) rfl fun hf hw=>?_
 simp [ntmps275,results275] at hf |-
 refine AW.a0w cc (fun i:Nat=>⟨[(0,.d (.sl (l.map a1w))),(1,.fn (.func f) [] cap),(7,lvI l.length),(8,lvI i)],[],H⟩) (fun i=>l.length - i) (fun i=>i<=l.length/\∀ j (h:j < l.length),j < i->q l[j]=false) 0 ⟨by simp,by simp [LV.only,a1r _ hcap,a3c]⟩ ?_
 rintro i ⟨hi,hk⟩
 simp
 refine ⟨fun h=>?_,fun h=>?_⟩
 ·have hcall:=hc l[i] (List.getElem_mem h)
  simp [a1w,rRec] at hcall
  simp [h,List.getElem?_eq_getElem h,a1w,rRec]
  refine ⟨hcap,EC.of hcall (fun v H2 hR=>?_) (fun v H2 hR=>?_)⟩
  ·obtain ⟨e,rfl⟩:=hR
   cases e
   simp [wrap_succ h hf.1.1]
   refine ⟨fun e=>fun hz=>⟨hz.drop (Nat.le_refl _),(c5l h e hk).symm⟩,fun e=>NX.go (i+1) (Nat.sub_lt_sub_left h (Nat.lt_succ_self i)) ⟨h,fun j hj hji=>?_⟩ (by simp [a1r _ hcap])⟩
   by_cases z:j=i
   ·subst z;exact e
   ·exact hk j hj (by omega)
  ·cases hR.1
 ·exact fun hz=>⟨hz.drop (Nat.le_refl _),(b3j fun j hj=>hk j hj (by omega)).symm⟩
theorem b4p (l:List News) (q:News->Bool) (f:FuncId) (cap:List LV) (H:GH) (hcap:nbs H.next cap) (hc:∀ n ∈ l,a0j prog f ([lv (a1w n)] ++ cap) H fun ce H'=>ce=.ret (.d (.k (.bool (q n))))/\H'=H) :
  a0j prog 253 [sl (l.map a1w),.fn (.func f) [] cap] H fun ce H'=>ce=.ret (.d (.k (.bool (l.any q))))/\H'=H:=by
 have cc:=cx0_ok
 refine a0j.a1j cx0_ok func253 rfl call253 (by rw [ntmps253];simp) rfl fun hf hw=>?_
 have hi:=c1j l q f cap H hcap hc
 simp at hi
 simp [ntmps253,results253,LV.nb,nbs,hcap]
 refine EC.of hi (fun v H2 hR=>?_) (fun v H2 hR=>?_)
 ·obtain ⟨e,rfl⟩:=hR
  cases e
  simp
  refine fun hz=>⟨hz.drop (Nat.le_refl _),?_⟩
  rw [<- b6w q l]
 ·cases hR.1
def b5o (l:List News) (srcs:Int):Bool:=inB srcs 1 4 && decide (l.length<=60) && !l.any fun n=>!b6l n srcs
theorem e0u (l:List News) (srcs:Int):AFun prog 221 [sl (l.map a1w),lvI srcs] (.d (.k (.bool (b5o l srcs)))):=by
 intro H
 have cc:=a0g (p:=kds [3] [5] [])
 refine a0j.a1j (a0g (p:=kds [3] [5] [])) func221 rfl call221 (by rw [ntmps221];simp) rfl fun hf hw=>?_
 simp [ntmps221,results221] at hf |-
 refine EC.of (d3f _) (fun v H2 hR=>?_) (fun v H2 hR=>?_)
 rotate_left
 ·cases hR.1
 obtain ⟨e,rfl⟩:=hR
 cases e
 simp [GH.a0b,GH.a0a,GH.a1v]
 refine ⟨by omega,?_⟩
 obtain ⟨H2,hH2⟩:∃ H2,((H.add (GO.map ckEs)).add (GO.box [LV.d (DV.k (Value.map none))])).set (H.next+1) (GO.box [LV.gm H.next])=H2:=⟨_,rfl⟩
 have n2:H2.next=H.next+2:=by rw [<- hH2];rfl
 have o0:H2.obj H.next=some (.map ckEs):=by rw [<- hH2];simp [GH.a0f,GH.a0b,GH.a0a]
 have o1:H2.obj (H.next+1)=some (.box [.gm H.next]):=by rw [<- hH2];simp [GH.a0f,GH.a0b,GH.a0a]
 have hlo:∀ m,m < H.next->H2.obj m=H.obj m:=fun m hm=>by
  rw [<- hH2,GH.a0f,if_neg (by omega),GH.a0b,GH.a0a,if_neg (by omega),GH.a0b,if_neg (by omega)]
 rw [hH2]
 clear hH2
 refine EC.afun (b0a _ _ _) ?_
 have hdr:Drop H H2 H:=a0m (by omega) hlo hw.none
 cases h1:inB srcs 1 4 with
 | false =>
  simp
  exact fun hz=>⟨hdr,by simp [b5o,h1]⟩
 | true =>
  by_cases h2:l.length<=60
  rotate_left
  ·have h2':¬ ((l.length:Int)<=60):=by omega
   simp [h2',h2]
   exact fun hz=>⟨hdr,by simp [b5o,h2]⟩
  ·have h2':((l.length:Int)<=60):=by omega
   simp [h2',h2]
   have hs:0<=srcs/\srcs<=4:=by simp [inB] at h1;omega
   have hcf:=b4p l (fun n=>!b6l n srcs) 254 [.gp (H.next+1) 0,.ip [lvI srcs] 0] H2 (by simp [LV.nb,nbs];omega) fun n hn=>d3c n srcs (H.next+1) H.next H2 o1 o0 hs
   simp at hcf
   refine ⟨by omega,EC.of hcf (fun v H3 hR=>?_) (fun v H3 hR=>?_)⟩
   ·obtain ⟨e,rfl⟩:=hR
    cases e
    simp
    exact fun hz=>⟨hdr,by simp [b5o,h1,h2]⟩
   ·cases hR.1
end Go.Aft
end
section
set_option maxRecDepth 20000
namespace Go.Aft
open Go.Proofs.Tryz
theorem e4h (n:News):AFun prog 255 [lv (a1w n)] (.agg [lvI n.src,lvI n.id]):=by
 refine AFun.body (a0g (p:=kds [1] [] [])) func255 rfl call255 (by rw [ntmps255];simp) rfl fun _ H=>?_
 simp [ntmps255,results255,a1w,rRec]
def c9v (o:Option (Nat × Nat)):LV:=match o with
 | some (i,j)=>.tup [lvI i,lvI j,.d (.k (.bool true))]
 | none=>.tup [lvI 0,lvI 0,.d (.k (.bool false))]
theorem c3n {l:List News} {k:Nat} (h:k < l.length):a4m l k=(l.take k).findIdx? fun a=>b0i a l[k]:=by
 simp [a4m,List.getElem?_eq_getElem h]
theorem c3l {l:List News} {k:Nat} (h:k < l.length) (hn:∀ j (hj:j < k),b0i l[j] l[k]=false):a4m l k=none:=by
 rw [c3n h,List.findIdx?_eq_none_iff]
 intro x hx
 obtain ⟨j,hj,rfl⟩:=List.mem_iff_getElem.1 hx
 simp only [List.length_take] at hj
 rw [List.getElem_take]
 exact hn j (by omega)
theorem d3q {l:List News} {k i:Nat} (h:k < l.length) (hi:i < k) (hy:b0i l[i] l[k]=true) (hn:∀ j (hj:j < i),b0i l[j] l[k]=false):a4m l k=some i:=by
 rw [c3n h,List.findIdx?_eq_some_iff_getElem]
 refine ⟨by simp;omega,by rw [List.getElem_take];exact hy,fun j hj=>?_⟩
 rw [List.getElem_take,hn j hj];simp
theorem e0v (l:List News):AFun prog 222 [sl (l.map a1w)] (c9v (b3s l)):=by
 have cc:=a6j (p:=kds [] [] [])
 refine AFun.d3w (a6j (p:=kds [] [] [])) func222 rfl call222 (by rw [ntmps222];simp) rfl fun hf H=>?_
 simp [ntmps222,results222] at hf |-
 refine AW.seq cc ?_
 simp
 refine AW.scope cc ?_
 simp
 refine AW.a0w cc (fun k:Nat=>⟨[(0,.d (.sl (l.map a1w))),(2,lvI 0),(3,lvI 0),(4,.d (.k (.bool false))),(9,.d (.sl (l.map a1w))),(10,lvI l.length),(11,lvI k)],[],H⟩) (fun k=>l.length - k)
  (fun k=>k<=l.length/\∀ j,j < k->a4m l j=none) 0 ⟨by simp,by simp⟩ ?_
 rintro k ⟨hk,hI⟩
 simp
 refine ⟨fun h=>?_,fun h=>?_⟩
 ·simp [h,List.getElem?_eq_getElem h,a1w,rRec]
  have hkl:k<=l.length:=by omega
  have hmin:min k l.length=k:=by omega
  refine ⟨fun h3=>?_,fun h3=>⟨hkl,?_⟩⟩
  ·refine NX.go (k+1) (Nat.sub_lt_sub_left h (Nat.lt_succ_self k)) ⟨h,fun j hj=>?_⟩ (by simp [wrap_succ h hf.1])
   by_cases z:j=k
   ·subst z;exact c3l h fun i hi=>by simp [b0i,h3]
   ·exact hI j (by omega)
  ·refine AW.a0w cc (fun i:Nat=>⟨[(0,.d (.sl (l.map a1w))),(2,lvI 0),(3,lvI 0),(4,.d (.k (.bool false))),(5,lvI k),(6,.lp 6 0),(9,.d (.sl (l.map a1w))),(10,lvI l.length),(11,lvI k),(21,.d (.sl ((l.take k).map a1w))),(22,lvI k),(23,lvI i)],[(6,(a1w l[k]).map .d)],H⟩) (fun i=>k - i)
    (fun i=>i<=k/\∀ j (hj:j < i) (hjk:j < k),b0i l[j] l[k]=false) 0 ⟨⟨by simp,by simp⟩,by simp [a1w,rRec,hmin]⟩ ?_
   rintro i ⟨hi,hJ⟩
   simp [a1w,rRec]
   refine ⟨fun hik=>?_,fun hik=>?_⟩
   ·have hil:i < l.length:=by omega
    have hit:i < (l.take k).length:=by simp;omega
    simp [hik,hil,hit,hmin,List.getElem?_eq_getElem hil,a1w,rRec]
    have oi:=e4h l[i]
    have ok:=e4h l[k]
    simp [a1w,rRec] at oi ok
    refine AW.draw cc [(5,.n),(7,.n)] (.q 0<|.q 1<|.q 2<|.q 3<|.q 4<|.q 5<|.q 6<|.q 7<|.q 8<|.q 9<|.q 10<|.q 11<|.q 13<|.q 12<|.q 14<|.q 15<|.q 16<|.q 17<|.q 18<|.q 19<|.q 20<|.q 21<|.done) (by kernel_rfl) ?_
    generalize ha:l[i]=a at oi |-
    generalize hb:l[k]=b at ok |-
    simp [a1w,rRec]
    refine FCg.afun (fun _=>oi) ?_
    simp
    refine FCg.afun (fun _=>ok) ?_
    simp
    have h3b:¬ b.do_=3:=by rw [<- hb];exact h3
    have hne:a=b ↔ a.do_=b.do_/\a.src=b.src/\a.id=b.id/\a.ver=b.ver/\a.rec_.at_=b.rec_.at_/\a.rec_.key=b.rec_.key/\a.rec_.val=b.rec_.val:=by
     obtain ⟨d0,s0,i0,v0,⟨x,y,z⟩⟩:=a
     obtain ⟨d1,s1,i1,v1,⟨x1,y1,z1⟩⟩:=b
     simp
    refine ⟨fun q1 q2 q3 q4 q5=>?_,fun q=>?_⟩
    ·have hc:b0i l[i] l[k]=true:=by
      rw [ha,hb,b0i,decide_eq_true_eq]
      refine ⟨q1,h3b,q2,q3,q4,fun e=>?_⟩
      have:=hne.1 e
      omega
     have:b3s l=some (i,k):=d3p h (fun j hj=>hI j hj) (d3q h hik hc fun j hj=>hJ j hj (by omega))
     rw [this];simp [c9v,LV.nb,nbs]
    ·refine NX.go (i+1) (Nat.sub_lt_sub_left hik (Nat.lt_succ_self i)) ⟨hik,fun j hj hjk=>?_⟩ (by simp [a1w,rRec,wrap_succ hil hf.1,hb])
     by_cases z:j=i
     ·subst z
      rw [ha,b0i,decide_eq_false_iff_not]
      rintro ⟨q1,_,q2,q3,q4,q5⟩
      exact q5 (hne.2 (q q1 q2 q3 q4))
     ·have:=hJ j (by omega) hjk
      rw [hb] at this;exact this
   ·have:i=k:=by omega
    subst this
    refine NX.go (i+1) (Nat.sub_lt_sub_left h (Nat.lt_succ_self i)) ⟨h,fun j hj=>?_⟩ (by simp [wrap_succ h hf.1])
    by_cases z:j=i
    ·subst z;exact c3l h fun i hi=>hJ i hi hi
    ·exact hI j (by omega)
 ·have:b3s l=none:=b9z fun j hj=>hI j (by omega)
  rw [this];simp [c9v,LV.nb,nbs]
def a4x (l:List News) (srcs:Int):Bool:=b5o l srcs && decide (b3s l=none)
theorem d3e (l:List News) (srcs:Int):AFun prog 182 [sl (l.map a1w),lvI srcs] (.d (.k (.bool (a4x l srcs)))):=by
 refine AFun.body cx0_ok func182 rfl call182 (by rw [ntmps182];simp) rfl fun hf H=>?_
 have h1:=e0u l srcs
 have h2:=e0v l
 simp at h1 h2
 simp [ntmps182,results182]
 refine EC.afun h1 ?_
 cases hp:b5o l srcs with
 | false=>simp [a4x,hp]
 | true =>
  simp
  refine EC.afun h2 ?_
  cases hc:b3s l with
  | none=>simp [c9v,a4x,hp,hc]
  | some ij=>simp [c9v,a4x,hp,hc]
theorem e0w (l:List News) (srcs:Int):AFun prog 134 [sl (l.map a1w),lvI srcs] (lvI (if a4x l srcs=true then 0 else 2)):=by
 refine AFun.body cx0_ok func134 rfl call134 (by rw [ntmps134];simp) rfl fun hf H=>?_
 have h1:=d3e l srcs
 simp at h1
 simp [ntmps134,results134]
 refine EC.afun h1 ?_
 cases hp:a4x l srcs <;> simp
end Go.Aft
end
section
set_option maxRecDepth 20000
namespace Go.Aft
open Go.Proofs.Tryz
def kk (src id:Int):Value:=.agg #[.int .i64 src,.int .i64 id]
structure MapN (es:List (Value × LV)) (l:List News):Prop where
 get:∀ src id:Int,a1c (kk src id) es=(d2y l src id).map fun n=>lv (a1w n)
 key:∀ (a:Value) (b:LV),(a,b) ∈ es->(KK.ag [.int .i64,.int .i64]).has a=true
 nb:∀ n,nbs n (es.map (·.2))
 nd:(es.map (·.1)).Nodup
theorem c8r {a b c d:Int}:kEq (kk a b) (kk c d)=decide (a=c/\b=d):=by
 simp [kEq,kk,allEq,scEq];rw [Bool.eq_iff_iff];simp
theorem f1k {a:Value} (h:(KK.ag [.int .i64,.int .i64]).has a=true):∃ s i,a=kk s i:=by
 cases a <;> simp only [KK.has,Bool.false_eq_true] at h
 rename_i vs
 obtain ⟨x,us,e1,h⟩:=a5l h
 obtain ⟨y,us',e2,h⟩:=a5l h
 have:=a7n h;subst this;subst e2
 refine ⟨x,y,?_⟩
 rw [kk];congr 1
 apply Array.toList_inj.1
 rw [e1]
theorem b8o:∀ (es:List (Value × LV)) (v:LV) (s i src id:Int),(∀ (a:Value) (b:LV),(a,b) ∈ es->(KK.ag [.int .i64,.int .i64]).has a=true)->a1c (kk src id) (mput (kk s i) v es)=if src=s/\id=i then some v else a1c (kk src id) es
 | [],v,s,i,src,id,_=>by simp [mput,a1c,c8r]
 | (a,b) :: es,v,s,i,src,id,h=>by
  obtain ⟨s',i',rfl⟩:=f1k (h a b (by simp))
  have ih:=b8o es v s i src id fun a b hab=>h a b (List.mem_cons_of_mem _ hab)
  simp only [mput,c8r]
  by_cases e:s=s'/\i=i'
  ·obtain ⟨rfl,rfl⟩:=e
   simp only [and_self,decide_true,if_true,a1c,c8r]
   by_cases e2:src=s/\id=i
   ·simp [e2]
   ·simp [e2]
  ·simp only [e,decide_false,Bool.false_eq_true,if_false,a1c,c8r,ih]
   by_cases e2:src=s'/\id=i'
   ·obtain ⟨rfl,rfl⟩:=e2
    have:¬ (src=s/\id=i):=fun q=>e ⟨q.1.symm,q.2.symm⟩
    simp [this]
   ·simp [e2]
theorem c4z (v:LV) (s i:Int):∀ (es:List (Value × LV)),(∀ (a:Value) (b:LV),(a,b) ∈ es->(KK.ag [.int .i64,.int .i64]).has a=true)->∀ (a:Value) (b:LV),(a,b) ∈ mput (kk s i) v es->(KK.ag [.int .i64,.int .i64]).has a=true
 | [],_,a,b,hab=>by
  simp only [mput,List.mem_singleton,Prod.mk.injEq] at hab
  rw [hab.1];rfl
 | (c,d) :: es,h,a,b,hab=>by
  simp only [mput] at hab
  split at hab
  ·rcases List.mem_cons.1 hab with q | q
   ·cases q;rfl
   ·exact h a b (List.mem_cons_of_mem _ q)
  ·rcases List.mem_cons.1 hab with q | q
   ·rw [show a=c from (Prod.mk.inj q).1];exact h c d (List.mem_cons_self ..)
   ·exact c4z v s i es (fun a b hab=>h a b (List.mem_cons_of_mem _ hab)) a b q
theorem e3l (k:Value) (v:LV) (n:Nat) (hv:v.nb n):∀ (es:List (Value × LV)),nbs n (es.map (·.2))->nbs n ((mput k v es).map (·.2))
 | [],_=>by simp [mput,nbs,hv]
 | (c,d) :: es,h=>by
  simp only [List.map_cons,nbs] at h
  simp only [mput]
  split
  ·simp only [List.map_cons,nbs];exact ⟨hv,h.2⟩
  ·simp only [List.map_cons,nbs];exact ⟨h.1,e3l k v n hv es h.2⟩
theorem c8b (v:LV) (s i:Int):∀ (es:List (Value × LV)),(∀ (a:Value) (b:LV),(a,b) ∈ es->(KK.ag [.int .i64,.int .i64]).has a=true)->(mput (kk s i) v es).map (·.1)=es.map (·.1) \/ (mput (kk s i) v es).map (·.1)=es.map (·.1) ++ [kk s i]/\kk s i ∉ es.map (·.1)
 | [],_=>.inr ⟨rfl,by simp⟩
 | (a,b) :: es,h=>by
  obtain ⟨s',i',rfl⟩:=f1k (h a b (by simp))
  simp only [mput,c8r]
  by_cases e:s=s'/\i=i'
  ·obtain ⟨rfl,rfl⟩:=e
   left;simp
  ·simp only [e,decide_false,Bool.false_eq_true,if_false,List.map_cons]
   rcases c8b v s i es (fun a b hab=>h a b (List.mem_cons_of_mem _ hab)) with q | ⟨q1,q2⟩
   ·left;rw [q]
   ·right
    refine ⟨by rw [q1];rfl,fun q=>?_⟩
    rcases List.mem_cons.1 q with q | q
    ·simp [kk] at q;exact e q
    ·exact q2 q
theorem f2z (v:LV) (s i:Int) (es:List (Value × LV)) (h:∀ (a:Value) (b:LV),(a,b) ∈ es->(KK.ag [.int .i64,.int .i64]).has a=true) (hn:(es.map (·.1)).Nodup):((mput (kk s i) v es).map (·.1)).Nodup:=by
 rcases c8b v s i es h with q | ⟨q1,q2⟩
 ·rw [q];exact hn
 ·rw [q1,List.nodup_append]
  exact ⟨hn,by simp,fun a ha b hb=>by simp at hb;subst hb;intro e;subst e;exact q2 ha⟩
theorem MapN.nil:MapN [] []:=MapN.mk (fun _ _=>rfl) (fun _ _ h=>absurd h List.not_mem_nil) (fun _=>trivial) (by simp)
theorem MapN.put {es:List (Value × LV)} {l:List News} (h:MapN es l) {n:News} (h3:n.do_ ≠ 3) (hv:∀ w,d2y l n.src n.id=some w->w.ver < n.ver):MapN (mput (kk n.src n.id) (lv (a1w n)) es) (l ++ [n]):=by
 refine ⟨fun src id=>?_,c4z _ _ _ _ h.key,fun m=>e3l _ _ _ (by simp [a1w,rRec,LV.nb,nbs]) _ (h.nb m),f2z _ _ _ _ h.key h.nd⟩
 rw [b8o _ _ _ _ _ _ h.key,c2u,e8x]
 by_cases e:src=n.src/\id=n.id
 ·obtain ⟨rfl,rfl⟩:=e
  rw [if_pos ⟨rfl,rfl⟩,if_pos ⟨h3,rfl,rfl,hv⟩];rfl
 ·rw [if_neg e,if_neg (fun q=>e ⟨q.2.1.symm,q.2.2.1.symm⟩)]
  exact h.get src id
theorem MapN.keep {es:List (Value × LV)} {l:List News} (h:MapN es l) {n:News} (hk:n.do_=3 \/ ∃ w,d2y l n.src n.id=some w/\¬ w.ver < n.ver):MapN es (l ++ [n]):=by
 refine ⟨fun src id=>?_,h.key,h.nb,h.nd⟩
 rw [h.get,c2u,e8x]
 split
 ·rename_i q
  rcases hk with q2 | ⟨w,q2,q3⟩
  ·exact absurd q2 q.1
  ·exfalso
   obtain ⟨_,rfl,rfl,q4⟩:=q
   exact q3 (q4 w q2)
 ·rfl
end Go.Aft
end
section
set_option maxRecDepth 20000
namespace Go.Aft
open Go.Proofs.Tryz
theorem GH.ext' {A B:GH} (h1:A.next=B.next) (h2:∀ m,A.obj m=B.obj m):A=B:=by
 obtain ⟨a,b⟩:=A
 obtain ⟨c,d⟩:=B
 have:a=c:=funext h2
 simp only at h1;subst h1;subst this;rfl
end Go.Aft
end
section
set_option maxRecDepth 20000
namespace Go.Aft
open Go.Proofs.Tryz
end Go.Aft
end
section
namespace Go.Aft
def f5q (P:Program) (c:Cx) (rs:List ResultVar) (H0:GH) (R:CE->GH->Prop):AE->S->Prop
 | .normal,s | .ret,s=>s.df=[]/\(nbH s.H->∃ r,b7p c.ty s rs=some r/\∃ H',Drop H0 s.H H'/\r.nb H'.next/\R (.ret r) H')
 | .pan x,s=>s.df=[]/\(nbH s.H->∃ H',Drop H0 s.H H'/\x.nb H'.next/\R (.pan x) H')
 | _,_=>False
theorem a0j.e5z {P:Program} {c:Cx} (hc:c.ok P) {f:FuncId} {fn:Func} {code:Code} (hf:P.funcs[f]?=some fn) (hb:fn.body=some code) (he:Enters P f) {args:List LV} (hn:args.length<=fn.ntmps) (hrd:c.rd.b8j f=true) {H:GH} {R:CE->GH->Prop}
  (h:a6w args->nbH H->@AW P c.rd ⟨code⟩ ⟨a3k 0 args,noS,H,fn.ntmps,[]⟩ ⟨Go.Aft.f5q P c fn.results.toList H R⟩):a0j P f args H R:=by
 refine ⟨he,a7a.fits fun hfit G w vs hM hNL hargs=>?_⟩
 have hw:nbH H:=⟨fun n hn=>by
  cases ho:H.obj n with
  | none=>rfl
  | some o=>have:=(hM.nmd n o ho).1;omega,fun n o ho=>d4o (hM.nmd n o ho).2⟩
 have hlen:=a0u hargs
 refine b6c hf hb hrd (a4a (h hfit hw ⟨G,H,w⟩ _ w ?_) ?_)
 ·refine ⟨by simp;omega,G,noL,rfl,hM,Ext.refl G H w hNL,fun t=>?_,rfl⟩
  simp only
  rw [b0w,if_pos (Nat.zero_le _),Nat.sub_zero]
  by_cases ht:t < args.length
  ·have hx:args[t]?=some (args.getD t .any):=by simp [List.getD,List.getElem?_eq_getElem ht]
   obtain ⟨v,h1,h2⟩:=a6y hargs t _ hx
   have:(vs.toArray ++ Array.replicate (fn.ntmps - vs.toArray.size) undef).getD t undef=v:=by
    rw [Array.getD_eq_getD_getElem?,Array.getElem?_append_left (by simp;omega)]
    simp [h1]
   rw [this];exact h2
  ·have:args.getD t .any=.any:=by simp [List.getD,List.getElem?_eq_none (Nat.le_of_not_lt ht)]
   rw [this];simp [LR]
 ·rintro e a' w' ⟨ae,s',q,r⟩
  have hnb:=r.nbH
  obtain ⟨g2,G',lm',g1,hM',hx',henv',he⟩:=r
  have fin:∀ (x:LV) (v:Value) (H':GH),Drop H s'.H H'->x.nb H'.next->LR G' s'.H.next lm' x v->MR (a5g H'.next G') noL noS H' w'/\b0o (a5g H'.next G')/\Ext ⟨G,H,w⟩ (a5g H'.next G') H' w'/\LR (a5g H'.next G') H'.next noL x v:=by
   intro x v H' hd hnb hv
   have:=c0i hM' (E:=⟨G,H,w⟩) (fun n o ho=>(hM.nmd n o ho).2) hNL hx' hd
   exact ⟨this.1,this.2.1,this.2.2,c6i (a6d _ _ hv hnb)⟩
  have hret:(s'.df=[]/\(nbH s'.H->∃ r,b7p c.ty s' fn.results.toList=some r/\∃ H',Drop H s'.H H'/\r.nb H'.next/\R (.ret r) H'))->LeavesInM Fence.wide 0 P fn a'.tmps (e1l G H w R) a'.defers .returning w':=fun ⟨q1,q2⟩=>by
   rw [q1] at g1
   have g1:a'.defers=[]:=g1
   rw [g1]
   obtain ⟨r,hr,H',hd,hnb',hR⟩:=q2 hnb
   obtain ⟨v,h1,h2⟩:=c7g (P:=P) (s:=s') (a:=a') hc.ty hM' henv' hr
   obtain ⟨p1,p2,p3,p4⟩:=fin r v H' hd hnb' h2
   exact ⟨v,h1,.ret r,H',_,hR,⟨v,rfl,p4⟩,p1,p2,p3⟩
  cases ae with
  | normal=>cases he;exact hret q
  | ret=>cases he;exact hret q
  | exit i=>exact q.elim
  | goto l=>exact q.elim
  | pan x =>
   obtain ⟨v',rfl,hv⟩:=he
   obtain ⟨q1,q2⟩:=q
   rw [q1] at g1
   have g1:a'.defers=[]:=g1
   show LeavesInM Fence.wide 0 P fn a'.tmps (e1l G H w R) a'.defers (.panicking _) w'
   rw [g1]
   obtain ⟨H',hd,hnb',hR⟩:=q2 hnb
   obtain ⟨p1,p2,p3,p4⟩:=fin x v' H' hd hnb' (a0v (Nat.le_refl _) (Gh.le_refl _ _) (fun _ _ e=>by cases e) _ _ hv)
   exact ⟨.pan x,H',_,hR,⟨v',rfl,p4⟩,p1,p2,p3⟩
attribute [simp] Go.Aft.f5q
end Go.Aft
end
section
set_option maxRecDepth 20000
namespace Go.Aft
open Go.Proofs.Tryz
end Go.Aft
end
section
set_option maxRecDepth 20000
namespace Go.Aft
open Go.Proofs.Tryz
end Go.Aft
end
section
set_option maxRecDepth 20000
namespace Go.Aft
open Go.Proofs.Tryz
def valB (n:Int):Bool:=inB n (-1000000000) 1000000000
def f6a (r:Room):Bool:=inB r.most 0 6 && valB r.low && valB r.high && inB (r.high - r.low) 0 60
open Classical in
noncomputable def askedB (p:Prog) (d:Int) (l:List News) (r:Room) (key:Int):Bool:=decide (e4d p d) && a4x l p.srcs.length && decide (f6g l=[]) && f6a r && valB key
end Go.Aft
end
section
set_option maxRecDepth 20000
namespace Go.Aft
open Go.Proofs.Tryz
mutual
def DV.nz:DV->DV
 | .k (.slice none 0 0)=>.sl []
 | .k v=>.k v
 | .sl xs=>.sl (nzR xs)
def nzC:List DV->List DV
 | []=>[]
 | c :: cs=>c.nz :: nzC cs
def nzR:List (List DV)->List (List DV)
 | []=>[]
 | r :: rs=>nzC r :: nzR rs
end
theorem d2d:∀ l:List DV,(nzC l).length=l.length
 | []=>rfl
 | c :: cs=>by simp [nzC,d2d cs]
theorem d2c:∀ l:List (List DV),(nzR l).length=l.length
 | []=>rfl
 | c :: cs=>by simp [nzR,d2c cs]
theorem f1g:∀ (l:List (List DV)) (n:Nat),(∀ r ∈ l,r.length=n)->∀ r ∈ nzR l,r.length=n
 | [],n,h,r,hr=>by simp [nzR] at hr
 | c :: cs,n,h,r,hr=>by
  rw [nzR] at hr
  rcases List.mem_cons.1 hr with rfl | hr
  ·rw [d2d];exact h c (by simp)
  ·exact f1g cs n (fun r hr=>h r (List.mem_cons_of_mem _ hr)) r hr
mutual
theorem f5w {M:Mem}:∀ (d:DV) (v:Value),DR M d v->DR M d.nz v
 | .sl xs,v,h=>by
  rw [DV.nz]
  unfold DR at h |-
  obtain ⟨a,cap,sz,e,h1,h2,h3,h4⟩:=h
  refine ⟨a,cap,sz,by rw [d2c];exact e,by rw [d2c];exact h1,h2,f1g _ _ h3,?_⟩
  rcases h4 with rfl | ⟨b,o,e1,e2⟩
  ·exact .inl rfl
  ·exact .inr ⟨b,o,e1,f5s xs b o e2⟩
 | .k u,v,h=>by
  by_cases hu:u=.slice none 0 0
  ·subst hu
   unfold DR at h
   rw [DV.nz]
   unfold DR
   exact ⟨none,0,0,h.1,by simp,by simp,by simp,.inl rfl⟩
  ·have:(DV.k u).nz=.k u:=by
    unfold DV.nz
    split
    ·rename_i q;cases q;exact absurd rfl hu
    ·rename_i q;cases q;rfl
    ·rename_i q;cases q
   rw [this];exact h
theorem f5t {M:Mem}:∀ (l:List DV) (b o:Nat),RC M b o l->RC M b o (nzC l)
 | [],b,o,h=>h
 | c :: cs,b,o,h=>by
  unfold RC at h
  rw [nzC];unfold RC
  obtain ⟨⟨v,h1,h2⟩,h3⟩:=h
  exact ⟨⟨v,h1,f5w c v h2⟩,f5t cs b (o+1) h3⟩
theorem f5s {M:Mem}:∀ (l:List (List DV)) (b o:Nat),RR M b o l->RR M b o (nzR l)
 | [],b,o,h=>h
 | r :: rs,b,o,h=>by
  unfold RR at h
  rw [nzR];unfold RR
  rw [d2d]
  exact ⟨f5t r b o h.1,f5s rs b (o+r.length) h.2⟩
end
mutual
def LV.nz:LV->LV
 | .d x=>.d x.nz
 | .agg xs=>.agg (nzs xs)
 | .tup xs=>.tup (nzs xs)
 | x=>x
def nzs:List LV->List LV
 | []=>[]
 | x :: xs=>x.nz :: nzs xs
end
mutual
theorem f5u {G:Gh} {nx:Nat} {lm:Nat->Option Nat}:∀ (x:LV) (v:Value),LR G nx lm x v->LR G nx lm x.nz v
 | .d x,v,h=>by rw [LV.nz];unfold LR at h |-;exact f5w x v h
 | .agg xs,v,h=>by
  rw [LV.nz];unfold LR at h |-
  obtain ⟨vs,e,h⟩:=h
  exact ⟨vs,e,d8d xs vs h⟩
 | .tup xs,v,h=>by
  rw [LV.nz];unfold LR at h |-
  obtain ⟨vs,e,h⟩:=h
  exact ⟨vs,e,d8d xs vs h⟩
 | .lp ..,v,h | .gp ..,v,h | .ep ..,v,h | .osl ..,v,h | .gm ..,v,h | .vs ..,v,h | .vp ..,v,h | .yl ..,v,h | .ip ..,v,h | .fn ..,v,h | .gd ..,v,h | .any,v,h=>by simpa only [LV.nz] using h
theorem d8d {G:Gh} {nx:Nat} {lm:Nat->Option Nat}:∀ (xs:List LV) (vs:List Value),LRs G nx lm xs vs->LRs G nx lm (nzs xs) vs
 | [],vs,h=>h
 | x :: xs,vs,h=>by
  unfold LRs at h
  rw [nzs];unfold LRs
  obtain ⟨v,r,e,h1,h2⟩:=h
  exact ⟨v,r,e,f5u x v h1,d8d xs r h2⟩
end
theorem AFun.nz {P:Program} {f:FuncId} {args:List LV} {v:LV} (h:AFun P f args v):AFun P f args v.nz:=fun H=>by
 refine ⟨(h H).1,fun G w vs h1 h2 h3=>Calls.mono ((h H).2 G w vs h1 h2 h3) fun e w' ⟨ce,H',G',q,r1,r2⟩=>⟨.ret v.nz,H',G',⟨rfl,q.2⟩,?_,r2⟩⟩
 obtain ⟨rfl,_⟩:=q
 obtain ⟨u,e1,e2⟩:=r1
 exact ⟨u,e1,f5u v u e2⟩
end Go.Aft
end
section
set_option maxRecDepth 20000
namespace Go.Aft
open Go.Proofs.Tryz
end Go.Aft
end
section
set_option maxRecDepth 20000
namespace Go.Aft
open Go.Proofs.Tryz
def cmpI (a b:Int):Int:=if a < b then -1 else if b < a then 1 else 0
def lexC:List Int->List Int->Int
 | [],[]=>0
 | [],_ :: _=>-1
 | _ :: _,[]=>1
 | a :: l,b :: m=>if cmpI a b=0 then lexC l m else cmpI a b
theorem b9y (n:Int):AFun prog 249 [lvI n] (.d (.k (.bool false))):=by
 refine AFun.body cx0_ok func249 rfl call249 (by rw [ntmps249];simp) rfl fun _ H=>?_
 simp [ntmps249,results249]
theorem a8m (a b:Int):AFun prog 217 [lvI a,lvI b] (lvI (cmpI a b)):=by
 refine AFun.body cx0_ok func217 rfl call217 (by rw [ntmps217];simp) rfl fun _ H=>?_
 have h1:=b9y a
 have h2:=b9y b
 simp at h1 h2
 simp [ntmps217,results217]
 refine EC.afun h1 ?_
 simp
 refine EC.afun h2 ?_
 simp
 refine ⟨fun q=>by simp [cmpI,q],fun q=>⟨fun q2=>?_,fun q2=>?_⟩⟩
 ·simp [cmpI,q2];omega
 ·simp [cmpI];omega
theorem b9a {a b:List Int}:∀ (i:Nat),i<=a.length->i<=b.length->(∀ j (h:j < i) (h1:j < a.length) (h2:j < b.length),cmpI a[j] b[j]=0)->lexC a b=lexC (a.drop i) (b.drop i):=by
 intro i
 induction i with
 | zero=>simp
 | succ i ih =>
  intro h1 h2 h
  rw [ih (by omega) (by omega) fun j hj=>h j (by omega)]
  rw [List.drop_eq_getElem_cons (show i < a.length by omega),List.drop_eq_getElem_cons (show i < b.length by omega),lexC,if_pos (h i (by omega) (by omega) (by omega))]
theorem b1m (a b:List Int):AFun prog 181 [sl (a.map rI),sl (b.map rI)] (lvI (lexC a b)):=by
 have cc:=cx0_ok
 refine AFun.body cx0_ok func181 rfl call181 (by rw [ntmps181];simp) rfl fun hf H=>?_
 simp [ntmps181,results181] at hf |-
 refine AW.a0w cc (fun i:Nat=>⟨[(0,.d (.sl (a.map rI))),(1,.d (.sl (b.map rI))),(9,.d (.sl (a.map rI))),(10,lvI a.length),(11,lvI i)],[],H⟩) (fun i=>a.length - i) (fun i=>i<=a.length/\i<=b.length/\∀ j (h:j < i) (h1:j < a.length) (h2:j < b.length),cmpI a[j] b[j]=0) 0 ⟨by simp,by simp⟩ ?_
 rintro i ⟨hi,hib,hI⟩
 simp
 refine ⟨fun h=>?_,fun h=>?_⟩
 ·simp [h,List.getElem?_eq_getElem h,rI]
  refine ⟨fun q=>?_,fun q=>?_⟩
  ·rw [b9a i hi hib hI,List.drop_eq_getElem_cons h,List.drop_eq_nil_of_le q,lexC]
  ·have hc:=a8m a[i] b[i]
   simp at hc
   simp [q,List.getElem?_eq_getElem q]
   refine EC.afun hc ?_
   simp
   have hl:lexC a b=if cmpI a[i] b[i]=0 then lexC (a.drop (i+1)) (b.drop (i+1)) else cmpI a[i] b[i]:=by
    rw [b9a i hi hib hI,List.drop_eq_getElem_cons h,List.drop_eq_getElem_cons q,lexC]
   refine ⟨fun q2=>?_,fun q2=>?_⟩
   ·rw [hl,if_neg q2]
   ·refine NX.go (i+1) (Nat.sub_lt_sub_left h (Nat.lt_succ_self i)) ⟨h,q,fun j hj h1 h2=>?_⟩ (by simp [wrap_succ h hf.1.1,rI])
    by_cases z:j=i
    ·subst z;exact q2
    ·exact hI j (by omega) h1 h2
 ·have e:i=a.length:=by omega
  subst e
  have hl:=b9a _ hi hib hI
  rw [List.drop_length] at hl
  refine ⟨fun q=>?_,fun q=>?_⟩
  ·rw [hl,List.drop_eq_getElem_cons q];rfl
  ·rw [hl,List.drop_eq_nil_of_le q];rfl
end Go.Aft
end
