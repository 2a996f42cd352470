import Derived.Test.YthinedikejlgmaaGreatA26
set_option linter.all false
section
set_option maxRecDepth 20000
namespace Go.Aft
open Go.Proofs.Tryz
structure Sco (H:GH) (n m1 m2 m3:Nat) (srcs defs:List Str) (ahead nodes:Int):Prop where
 sc:H.obj n=some (scp [.gm m1,.gm m2,.gm m3] ahead nodes)
 o1:H.obj m1=some (.map (a3e srcs 0))
 o2:H.obj m2=some (.map (a3e defs 0))
 o3:H.obj m3=some (.map a8y)
theorem Sco.ne {H:GH} {n m1 m2 m3:Nat} {srcs defs:List Str} {a k:Int} (h:Sco H n m1 m2 m3 srcs defs a k):m1 ≠ n/\m2 ≠ n/\m3 ≠ n:=by
 refine ⟨fun e=>?_,fun e=>?_,fun e=>?_⟩
 ·have:=h.o1;rw [e,h.sc] at this;cases this
 ·have:=h.o2;rw [e,h.sc] at this;cases this
 ·have:=h.o3;rw [e,h.sc] at this;cases this
theorem Sco.set {H:GH} {n m1 m2 m3:Nat} {srcs defs:List Str} {a k:Int} (h:Sco H n m1 m2 m3 srcs defs a k) (a' k':Int):Sco (H.set n (scp [.gm m1,.gm m2,.gm m3] a' k')) n m1 m2 m3 srcs defs a' k':=by
 obtain ⟨e1,e2,e3⟩:=h.ne
 exact ⟨GH.a0n,by rw [GH.a0f,if_neg e1];exact h.o1,by rw [GH.a0f,if_neg e2];exact h.o2,by rw [GH.a0f,if_neg e3];exact h.o3⟩
def ExpQ (H:GH) (n m1 m2 m3:Nat) (ahead:Int) (r:Option Int):CE->GH->Prop:=fun ce H'=>match r with
 | some l=>(∃ v,ce=.ret v)/\H'=H.set n (scp [.gm m1,.gm m2,.gm m3] ahead (60 - l))
 | none=>ce=.pan unformed/\∃ m,H'=H.set n (scp [.gm m1,.gm m2,.gm m3] ahead m)
theorem e1x (op en fold:Int) (name:Str) (a0k:List Calc) (kids:List Exp) (srcs defs:List Str)
  (ih:∀ k ∈ kids,∀ (n m1 m2 m3:Nat) (H:GH) (ahead nodes depth:Int),Sco H n m1 m2 m3 srcs defs ahead nodes->0<=nodes->nodes<=60->0<=depth->depth<=100 ->
   a0j prog 156 [.gp n 0,lv (rExp k),lvI depth] H (ExpQ H n m1 m2 m3 ahead (lExp srcs defs ahead k depth (60 - nodes))))
  (n m1 m2 m3:Nat) (H:GH) (ahead nodes depth:Int) (hs:Sco H n m1 m2 m3 srcs defs ahead nodes) (h0:0<=nodes) (h1:nodes<=60) (hd0:0<=depth) (hd1:depth<=100) :
   a0j prog 156 [.gp n 0,lv (rExp (.mk op name en fold a0k kids)),lvI depth] H (ExpQ H n m1 m2 m3 ahead (lExp srcs defs ahead (.mk op name en fold a0k kids) depth (60 - nodes))):=by
 have cc:=a0g (p:=kds [4] [] [])
 refine a0j.a3a (a0g (p:=kds [4] [] [])) func156 rfl call156 (by rw [ntmps156];simp) rfl fun hf hw=>?_
 simp [ntmps156,results156,a0c] at hf |-
 have hc:nbs H.next [.gm m1,.gm m2,.gm m3]:=by
  have:=hw.nb n _ hs.sc;simp [scp,GO.nb,nbs,LV.nb] at this |-;exact this
 have hlt:=hw.lt hs.sc
 have hdr:∀ m,nbH (H.set n (scp [.gm m1,.gm m2,.gm m3] ahead m))->Drop H (H.set n (scp [.gm m1,.gm m2,.gm m3] ahead m)) (H.set n (scp [.gm m1,.gm m2,.gm m3] ahead m)):=fun m hz=>hz.drop (by rw [GH.a0l];exact Nat.le_refl _)
 have hno:∀ m,¬ (depth<=10/\1<=60 - nodes/\a6x op name en fold a0k.length kids.length=true/\a2l srcs defs ahead op name=true)->nbH (H.set n (scp [.gm m1,.gm m2,.gm m3] ahead m)) ->
   ∃ H',Drop H (H.set n (scp [.gm m1,.gm m2,.gm m3] ahead m)) H'/\(unformed:LV).nb H'.next/\ExpQ H n m1 m2 m3 ahead (lExp srcs defs ahead (.mk op name en fold a0k kids) depth (60 - nodes)) (.pan unformed) H':=fun m hq hz=>by
  refine ⟨_,hdr m hz,by simp [unformed,LV.nb],?_⟩
  rw [lExp,if_neg hq];exact ⟨rfl,_,rfl⟩
 refine AW.seq cc ?_
 simp
 refine AW.seq cc ?_
 simp [hlt]
 refine EC.need (d4z n H _ _ _ ahead nodes depth hs.sc hc h0 (by omega)) (fun hb v=>?_) (fun hb=>?_)
 rotate_left
 ·simp
  exact hno _ (by omega)
 have hs1:=hs.set ahead (nodes+1)
 have o0:=hs1.sc
 have o1:=hs1.o1
 have o2:=hs1.o2
 have o3:=hs1.o3
 obtain ⟨e1,e2,e3⟩:=hs.ne
 generalize hH1:H.set n (scp [.gm m1,.gm m2,.gm m3] ahead (nodes+1))=H1 at o0 o1 o2 o3
 have hnx:H1.next=H.next:=by rw [<- hH1];rfl
 simp [hH1]
 refine AW.seq cc ?_
 refine AW.draw cc [] (.q 0<|.q 1<|.q 2<|.q 4<|.q 3<|.q 5<|.q 6<|.q 7<|.q 8<|.q 9<|.f<|.one 10<|.f<|.one 11<|.q 12<|.done) (by kernel_rfl) ?_
 obtain ⟨x,hx⟩:∃ x,(a1l op).getD shp0=x:=⟨_,rfl⟩
 simp [o0,o3,scp,f2j,e7p,f2i,hx,e3s]
 have hno':¬ (a6x op name en fold a0k.length kids.length=true/\a2l srcs defs ahead op name=true)->nbH H1->∃ H',Drop H H1 H'/\(unformed:LV).nb H'.next/\ExpQ H n m1 m2 m3 ahead (lExp srcs defs ahead (.mk op name en fold a0k kids) depth (60 - nodes)) (.pan unformed) H':=fun hq hz=>by
  rw [<- hH1] at hz |-
  exact hno _ (fun q=>hq q.2.2) hz
 have hE:a6x op name en fold a0k.length kids.length=true ↔ ((a1l op).isSome=true/\(kids.length:Int)=x.kids/\(a0k.length:Int)=x.a0k/\(x.name = !decide (name = { data:=#[] }))/\x.low<=en/\en<=x.high)/\(if x.fold=true then 1<=fold/\fold<=4 else fold=0):=by
  unfold a6x
  cases hsh:a1l op with
  | none=>simp
  | some y =>
   rw [hsh] at hx;simp only [Option.getD_some] at hx;subst hx
   have hnn:decide (name ≠ a1q) = !decide (name = { data:=#[] }):=by
    rw [decide_not];rfl
   simp only [hnn,Bool.and_eq_true,decide_eq_true_eq,beq_iff_eq,Option.isSome_some,true_and]
   cases y.fold
   ·simp only [Bool.false_eq_true,if_false,decide_eq_true_eq]
    constructor
    ·rintro ⟨⟨⟨⟨a,b⟩,c⟩,d,e⟩,f⟩;exact ⟨⟨a,b,c,d,e⟩,f⟩
    ·rintro ⟨⟨a,b,c,d,e⟩,f⟩;exact ⟨⟨⟨⟨a,b⟩,c⟩,d,e⟩,f⟩
   ·simp only [if_true,decide_eq_true_eq]
    constructor
    ·rintro ⟨⟨⟨⟨a,b⟩,c⟩,d,e⟩,f⟩;exact ⟨⟨a,b,c,d,e⟩,f⟩
    ·rintro ⟨⟨a,b,c,d,e⟩,f⟩;exact ⟨⟨⟨⟨a,b⟩,c⟩,d,e⟩,f⟩
 refine AW.seq cc ?_
 simp
 refine EC.need (a2i _ _) (fun hb1 v1=>?_) (fun hb1=>?_)
 rotate_left
 ·simp only [Bool.and_eq_true,decide_eq_true_eq,beq_iff_eq] at hb1
  simp
  refine hno' fun q=>hb1 ?_
  obtain ⟨a,b,c,d,e,f⟩:=(hE.1 q.1).1
  exact ⟨⟨⟨⟨⟨a,b⟩,c⟩,d⟩,e⟩,f⟩
 simp only [Bool.and_eq_true,decide_eq_true_eq,beq_iff_eq] at hb1
 simp
 refine AW.seq cc ?_
 simp
 refine ⟨fun q=>⟨q,fun q2=>⟨q,q2⟩⟩,?_,?_⟩
 ·cases x.fold <;> simp <;> omega
 refine EC.need (a2i _ _) (fun hb2 v2=>?_) (fun hb2=>?_)
 rotate_left
 ·simp
  refine hno' fun q=>hb2 ?_
  have:=(hE.1 q.1).2
  revert this
  cases x.fold <;> simp
 have hok:a6x op name en fold a0k.length kids.length=true:=by
  refine hE.2 ⟨⟨hb1.1.1.1.1.1,hb1.1.1.1.1.2,hb1.1.1.1.2,hb1.1.1.2,hb1.1.2,hb1.2⟩,?_⟩
  revert hb2
  cases x.fold <;> simp
 simp
 refine AW.seq cc ?_
 refine AW.draw cc [] (.q 0<|.q 1<|.q 2<|.q 3<|.q 5<|.q 4<|.q 6<|.q 7<|.q 8<|.q 9<|.q 10<|.q 11<|.q 12<|.done) (by kernel_rfl) ?_
 simp [o0,o1,scp,b2e,b6t,a6u]
 refine AW.seq cc ?_
 refine AW.draw cc [] (.q 0<|.q 1<|.q 2<|.q 3<|.q 5<|.q 4<|.q 6<|.q 7<|.q 8<|.q 9<|.q 10<|.q 11<|.q 12<|.done) (by kernel_rfl) ?_
 simp [o0,o2,scp,b2e,b6t,a6u]
 refine AW.join (c:=cxK (kds [4] [] [])) (fun _:Unit=>⟨[(0,.gp n 0),(2,lvI depth),(4,.ip ((rExp (.mk op name en fold a0k kids)).map .d) 0)],[],H1⟩)
  (fun _=>a2l srcs defs ahead op name=true) (AW.ev cc ?_) fun _ hk=>?_
 ·have hbad:a2l srcs defs ahead op name ≠ true->nbH H1->∃ H',Drop H H1 H'/\(unformed:LV).nb H'.next/\ExpQ H n m1 m2 m3 ahead (lExp srcs defs ahead (.mk op name en fold a0k kids) depth (60 - nodes)) (.pan unformed) H':=fun q=>hno' fun q2=>q q2.2
  have hop:op=1 \/ op=2 \/ op=3 \/ (op ≠ 1/\op ≠ 2/\op ≠ 3):=by omega
  rcases hop with rfl | rfl | rfl | ⟨n1,n2,n3⟩
  ·simp
   refine EC.need (a2i _ _) (fun hb v=>?_) (fun hb=>?_)
   ·simp
    exact JN.go () (by simpa [a2l] using hb) (by simp [a0c])
   ·simp
    exact hbad (by simpa [a2l] using hb)
  ·simp [o0,scp]
   have hb0:a2l srcs defs ahead 2 name=(decide (0<=idx defs name) && decide (numD defs name < ahead)):=by
    unfold numD
    by_cases q:idx defs name < 0
    ·have q2:¬ 0<=idx defs name:=by omega
     simp [a2l,q2]
    ·simp [a2l,q]
   refine EC.need (a2i _ _) (fun hb v=>?_) (fun hb=>?_)
   ·simp
    exact JN.go () (by rw [hb0];exact hb) (by simp [a0c])
   ·simp
    exact hbad (by rw [hb0];exact hb)
  ·simp
   refine EC.need (a2i _ _) (fun hb v=>?_) (fun hb=>?_)
   ·simp
    exact JN.go () (by simpa [a2l] using hb) (by simp [a0c])
   ·simp
    exact hbad (by simpa [a2l] using hb)
  ·simp [n1,n2,n3]
   exact JN.go () (by simp [a2l,n1,n2,n3]) (by simp [a0c])
 ·have hsp:lExp srcs defs ahead (.mk op name en fold a0k kids) depth (60 - nodes)=match a1m (decide (op=12 \/ op=13)) a0k 1 (59 - nodes) with
   | some l=>a3q srcs defs ahead kids (depth+1) l
   | none=>none:=by
   rw [lExp,if_pos ⟨by omega,by omega,hok,hk⟩,show 60 - nodes - 1=59 - nodes by omega]
   cases a1m (decide (op=12 \/ op=13)) a0k 1 (59 - nodes) <;> rfl
  rw [hsp]
  clear hsp
  obtain ⟨ob,hob⟩:∃ ob,decide (op=12 \/ op=13)=ob:=⟨_,rfl⟩
  rw [hob]
  have w1:IntKind.wrap .i64 (depth+1)=depth+1:=by rw [wrap64] <;> omega
  refine AW.join (c:=cxK (kds [4] [] [])) (fun l:Int=>⟨[(0,.gp n 0),(2,lvI depth),(4,.ip ((rExp (.mk op name en fold a0k kids)).map .d) 0)],[],H.set n (scp [.gm m1,.gm m2,.gm m3] ahead (60 - l))⟩)
   (fun l=>a1m ob a0k 1 (59 - nodes)=some l) (AW.ev cc ?_) fun l hl=>?_
  ·simp [a0c]
   refine AW.a0w cc (fun a:Nat × Int=>⟨[(0,.gp n 0),(2,lvI depth),(4,.ip ((rExp (.mk op name en fold a0k kids)).map .d) 0),(137,.d (.sl (a0k.map a1h))),(138,lvI a0k.length),(139,lvI a.1)],[],H.set n (scp [.gm m1,.gm m2,.gm m3] ahead (60 - a.2))⟩) (fun a=>a0k.length - a.1)
    (fun a=>a.1<=a0k.length/\0<=a.2/\a.2<=59 - nodes/\a1m ob a0k 1 (59 - nodes)=a1m ob (a0k.drop a.1) 1 a.2) (0,59 - nodes) ⟨⟨by simp,by simp;omega,by simp,by simp⟩,by simp [a0c,show 60 - (59 - nodes)=nodes+1 by omega,hH1]⟩ ?_
   rintro ⟨i,left⟩ ⟨hi,hl0,hl1,hI⟩
   simp only at hi hl0 hl1 hI
   simp
   refine ⟨fun h=>?_,fun h=>?_⟩
   ·have hd:=List.drop_eq_getElem_cons h
    rw [hd,a1m] at hI
    simp [h,List.getElem?_eq_getElem h,a0o,a0c,hlt,GH.a0l]
    have ho:(op == 12 || op == 13)=ob:=by
     rw [<- hob,Bool.eq_iff_iff];simp
    rw [ho]
    have ih':=c6w ob a0k[i] n (H.set n (scp [.gm m1,.gm m2,.gm m3] ahead (60 - left))) (.gm m1) (.gm m2) (.gm m3) ahead (60 - left) 1 GH.a0n (by omega) (by omega) (by omega) (by omega)
    rw [show 60 - (60 - left)=left by omega] at ih'
    simp only [GH.a2n,lv_eq,a0o,List.map_cons,List.map_nil,lvI_eq] at ih'
    refine EC.of ih' (fun v' H' hR=>?_) (fun v' H' hR=>?_)
    ·cases hl:a2y ob a0k[i] 1 left with
     | none=>rw [hl] at hR;cases hR.1
     | some l =>
      rw [hl] at hR hI
      have hle:=a8i _ _ _ _ hl
      obtain ⟨_,rfl⟩:=hR
      simp [wrap_succ h hf.1.1]
      exact NX.go (i+1,l) (by simp;omega) ⟨h,hle.1,by simp only;omega,hI⟩ (by simp [a0c])
    ·cases hl:a2y ob a0k[i] 1 left with
     | some l=>rw [hl] at hR;obtain ⟨⟨_,q⟩,_⟩:=hR;cases q
     | none =>
      rw [hl] at hR hI
      obtain ⟨q,m,rfl⟩:=hR
      cases q
      simp
      refine fun hz=>⟨_,hdr _ hz,by simp [unformed,LV.nb],?_⟩
      rw [hI];exact ⟨rfl,_,rfl⟩
   ·have:a0k.drop i=[]:=List.drop_eq_nil_of_le h
    rw [this,a1m] at hI
    exact JN.go left hI (by simp [a0c])
  ·have hlb:=a9x _ _ _ _ hl (by omega)
   rw [hl]
   refine AW.ev cc ?_
   simp [a0c]
   refine AW.a0w cc (fun a:Nat × Int=>⟨[(0,.gp n 0),(2,lvI depth),(156,.d (.sl (kids.map rExp))),(157,lvI kids.length),(158,lvI a.1)],[],H.set n (scp [.gm m1,.gm m2,.gm m3] ahead (60 - a.2))⟩) (fun a=>kids.length - a.1)
    (fun a=>a.1<=kids.length/\0<=a.2/\a.2<=l/\a3q srcs defs ahead kids (depth+1) l=a3q srcs defs ahead (kids.drop a.1) (depth+1) a.2) (0,l) ⟨⟨by simp,by simp;omega,by simp,by simp⟩,by simp⟩ ?_
   rintro ⟨i,left⟩ ⟨hi,hl0,hl1,hI⟩
   simp only at hi hl0 hl1 hI
   simp
   refine ⟨fun h=>?_,fun h=>?_⟩
   ·have hd:=List.drop_eq_getElem_cons h
    rw [hd,a3q] at hI
    simp [h,List.getElem?_eq_getElem h,a0c,hlt,w1,GH.a0l]
    have ih':=ih kids[i] (List.getElem_mem h) n m1 m2 m3 (H.set n (scp [.gm m1,.gm m2,.gm m3] ahead (60 - left))) ahead (60 - left) (depth+1) (hs.set _ _) (by omega) (by omega) (by omega) (by omega)
    rw [show 60 - (60 - left)=left by omega] at ih'
    simp only [ExpQ,GH.a2n,lv_eq,a0c,List.map_cons,List.map_nil,lvI_eq] at ih'
    refine EC.of ih' (fun v' H' hR=>?_) (fun v' H' hR=>?_)
    ·cases hl:lExp srcs defs ahead kids[i] (depth+1) left with
     | none=>rw [hl] at hR;cases hR.1
     | some l2 =>
      rw [hl] at hR hI
      have hle:=a8h _ _ _ _ hl
      obtain ⟨_,hH⟩:=hR
      rw [GH.a2n] at hH
      subst hH
      simp [wrap_succ h hf.2.1]
      exact NX.go (i+1,l2) (by simp;omega) ⟨h,hle.1,by simp only;omega,hI⟩ (by simp)
    ·cases hl:lExp srcs defs ahead kids[i] (depth+1) left with
     | some l=>rw [hl] at hR;obtain ⟨⟨_,q⟩,_⟩:=hR;cases q
     | none =>
      rw [hl] at hR hI
      obtain ⟨q,m,hH⟩:=hR
      rw [GH.a2n] at hH
      subst hH
      cases q
      simp
      refine fun hz=>⟨_,hdr _ hz,by simp [unformed,LV.nb],?_⟩
      rw [hI];exact ⟨rfl,_,rfl⟩
   ·have:kids.drop i=[]:=List.drop_eq_nil_of_le h
    rw [this,a3q] at hI
    rw [hI]
    exact fun hz=>⟨_,hdr _ hz,⟨_,rfl⟩,rfl⟩
theorem d5b (srcs defs:List Str):∀ (e:Exp) (n m1 m2 m3:Nat) (H:GH) (ahead nodes depth:Int),Sco H n m1 m2 m3 srcs defs ahead nodes->0<=nodes->nodes<=60->0<=depth->depth<=100 ->
   a0j prog 156 [.gp n 0,lv (rExp e),lvI depth] H (ExpQ H n m1 m2 m3 ahead (lExp srcs defs ahead e depth (60 - nodes)))
 | .mk op name en fold a0k kids,n,m1,m2,m3,H,ahead,nodes,depth,hs,h0,h1,hd0,hd1 =>
  e1x op en fold name a0k kids srcs defs (fun k hk n m1 m2 m3 H ahead nodes depth hs h0 h1 hd0 hd1=>d5b srcs defs k n m1 m2 m3 H ahead nodes depth hs h0 h1 hd0 hd1) n m1 m2 m3 H ahead nodes depth hs h0 h1 hd0 hd1
end Go.Aft
end
section
set_option maxRecDepth 20000
namespace Go.Aft
open Go.Proofs.Tryz
theorem c5j (l:List Exp) (f:FuncId) (cap:List LV) (H:GH) (Kp:Nat->GH->Prop) (Sp:GH->Prop) (Pp:LV->GH->Prop)
  (hK:∀ j H',Kp j H'->H.next<=H'.next) (hS:∀ H',Sp H'->H.next<=H'.next) (hP:∀ x H',Pp x H'->H.next<=H'.next/\x.nb H'.next) (hcap:nbs H.next cap)
  (hc:∀ (j:Nat) (h:j < l.length) (H':GH),Kp j H'->a0j prog f ([lv (rExp l[j])] ++ cap) H' fun ce H2=>match ce with
   | .ret v=>v=bool false/\Kp (j+1) H2 \/ v=bool true/\Sp H2
   | .pan x=>Pp x H2) (h0:Kp 0 H) :
  a0j prog 213 [sl (l.map rExp),.fn (.func f) [] cap] H fun ce H'=>match ce with
   | .ret v=>v=lvI (-1)/\Kp l.length H' \/ (∃ q:Nat,v=lvI q)/\Sp H'
   | .pan x=>Pp x H':=by
 have cc:=cx0_ok
 refine a0j.a1j cx0_ok func213 rfl call213 (by rw [ntmps213];simp) rfl fun hf hw=>?_
 simp [ntmps213,results213] at hf |-
 refine AW.a0w cc (fun a:Nat × GH=>⟨[(0,.d (.sl (l.map rExp))),(1,.fn (.func f) [] cap),(7,lvI l.length),(8,lvI a.1)],[],a.2⟩) (fun a=>l.length - a.1) (fun a=>a.1<=l.length/\Kp a.1 a.2) (0,H) ⟨⟨by simp,h0⟩,by simp [LV.only,a1r _ hcap,a3c]⟩ ?_
 rintro ⟨i,H'⟩ ⟨hi,hk⟩
 simp only at hi hk
 simp
 have hnx:=hK _ _ hk
 refine ⟨fun h=>?_,fun h=>?_⟩
 ·have hcall:=hc i h H' hk
  simp [a0c] at hcall
  simp [h,List.getElem?_eq_getElem h,a0c]
  refine ⟨a2w hnx _ hcap,EC.of hcall (fun v H2 hR=>?_) (fun v H2 hR=>?_)⟩
  ·rcases hR with ⟨rfl,hR⟩ | ⟨rfl,hR⟩
   ·simp
    exact NX.go (i+1,H2) (by simp;omega) ⟨h,hR⟩ (by simp [wrap_succ h hf.1.1,a1r _ hcap])
   ·simp
    exact fun hz=>⟨H2,hz.drop (hS _ hR),⟨i,rfl⟩,hR⟩
  ·simp
   exact fun hz=>⟨H2,hz.drop (hP _ _ hR).1,(hP _ _ hR).2,hR⟩
 ·have:i=l.length:=by omega
  subst this
  exact fun hz=>⟨H',hz.drop hnx,hk⟩
theorem a8w (l:List Exp) (f:FuncId) (cap:List LV) (H:GH) (Kp:Nat->GH->Prop) (Sp:GH->Prop) (Pp:LV->GH->Prop)
  (hK:∀ j H',Kp j H'->H.next<=H'.next) (hS:∀ H',Sp H'->H.next<=H'.next) (hP:∀ x H',Pp x H'->H.next<=H'.next/\x.nb H'.next) (hcap:nbs H.next cap)
  (hc:∀ (j:Nat) (h:j < l.length) (H':GH),Kp j H'->a0j prog f ([lv (rExp l[j])] ++ cap) H' fun ce H2=>match ce with
   | .ret v=>v=bool false/\Kp (j+1) H2 \/ v=bool true/\Sp H2
   | .pan x=>Pp x H2) (h0:Kp 0 H) :
  a0j prog 166 [sl (l.map rExp),.fn (.func f) [] cap] H fun ce H'=>match ce with
   | .ret v=>v=bool false/\Kp l.length H' \/ v=bool true/\Sp H'
   | .pan x=>Pp x H':=by
 have cc:=cx0_ok
 refine a0j.a1j cx0_ok func166 rfl call166 (by rw [ntmps166];simp) rfl fun hf hw=>?_
 simp [ntmps166,results166] at hf |-
 have hi:=c5j l f cap H Kp Sp Pp hK hS hP hcap hc h0
 simp at hi
 refine ⟨by simp [LV.nb,nbs,hcap],EC.of hi (fun v H2 hR=>?_) (fun v H2 hR=>?_)⟩
 ·rcases hR with ⟨rfl,hR⟩ | ⟨⟨q,rfl⟩,hR⟩
  ·simp
   exact fun hz=>⟨H2,hz.drop (hK _ _ hR),hR⟩
  ·simp
   exact fun hz=>⟨H2,hz.drop (hS _ hR),hR⟩
 ·simp
  exact fun hz=>⟨H2,hz.drop (hP _ _ hR).1,(hP _ _ hR).2,hR⟩
theorem a3g {a b:Nat} (h:a<=b) {x:LV} (hx:x.nb a):x.nb b:=by
 have:=a2w h [x] (by simp [nbs,hx])
 simpa [nbs] using this
theorem GO.a3g {a b:Nat} (h:a<=b) {o:GO} (ho:o.nb a):o.nb b:=by
 cases o with
 | box cs=>exact a2w h _ ho
 | map es=>exact a2w h _ ho
 | vec e g sz cells ex=>exact a2w h _ ho
 | fz cs=>exact a2w h _ ho
 | iter m s l k=>exact Nat.lt_of_lt_of_le ho h
 | loop f st pend env nt ps asn body d=>exact ⟨Nat.lt_of_lt_of_le ho.1 h,fun t=>Go.Aft.a3g h (ho.2 t)⟩
 | arr=>trivial
 | dfr=>trivial
theorem a2v.mono {P:Program} {n:Nat} {args:List LV} {H:GH} {R R':CE->GH->Prop} (h:a2v P n args H R) (hr:∀ e H',R e H'->R' e H'):a2v P n args H R':=by
 intro G w vs h1 h2 h3
 obtain ⟨fn,tmps,asn,body,q1,q2⟩:=h G w vs h1 h2 h3
 exact ⟨fn,tmps,asn,body,q1,RoundIn.mono q2 fun e w' ⟨ce,H',G',q,r⟩=>⟨ce,H',G',hr _ _ q,r⟩⟩
theorem EY.of {P:Program} {n:Nat} {args:List LV} {H:GH} {s:S} {dst:Option Nat} {K:KT} {Q:QT} {R:CE->GH->Prop} (h:a2v P n args H R) (hk:∀ v H',R (.ret v) H'->@AP K (({ s with H:=H' }:S).put dst v))
  (hp:∀ x H',R (.pan x) H'->Q.q (.pan x) { s with H:=H' }):@EY P n args H s dst K Q :=
 a2v.mono h fun ce H' hR=>by
  cases ce with
  | ret v=>exact hk v H' hR
  | pan x=>exact hp x H' hR
theorem a4v:∀ a b:List Exp,a0y (a ++ b)=a0y a ++ a0y b
 | [],b=>by simp [a0y]
 | x :: a,b=>by simp [a0y,a4v a b]
def a7y (n m:Nat):List LV:=[.ip [.yl n] 0,.gp m 0]
def b2m (n m:Nat):LV:=.fn (.func 165) [] (a7y n m)
def a7i (e:Exp):List LV:=(allE e).map fun x=>lv (rExp x)
def b1o (l:List Exp):List LV:=(a0y l).map fun x=>lv (rExp x)
def d0i (n N m:Nat) (rows:List LV) (J:Nat->GH->Prop) (St:GH->Prop) (Pn:LV->GH->Prop) (f:FuncId) (cap:List LV) (neg:Bool) (e:Exp):Prop :=
 ∀ (i:Nat) (H:GH),H.obj m=some (.box [b2m n m])->N<=H.next->J i H->(∃ tl,rows.drop i=a7i e ++ tl)->a0j prog f ([lv (rExp e)] ++ cap) H (f6h N J St Pn neg (i+(allE e).length) H)
theorem e3g {n N m:Nat} {rows:List LV} {J:Nat->GH->Prop} {St:GH->Prop} {Pn:LV->GH->Prop} (hI:Iter prog n N rows J St Pn) {e:Exp} (hnm:n < N/\N<=m) (h:d0i n N m rows J St Pn 165 (a7y n m) false e):d0i n N m rows J St Pn 167 [.gp m 0] true e:=by
 intro i H hm hN hj ht
 have cc:=a0g (p:=kds [2] [] [])
 refine a0j.a1j (a0g (p:=kds [2] [] [])) func167 rfl call167 (by rw [ntmps167];simp) rfl fun hf hw=>?_
 have hc:=h i H hm hN hj ht
 simp [a0c,a7y] at hc
 have hlt:=hw.lt hm
 simp [ntmps167,results167,a0c,hm,b2m,a7y]
 refine ⟨⟨by omega,hlt⟩,EC.of hc (fun v H2 hR=>?_) (fun v H2 hR=>?_)⟩
 ·obtain ⟨hs,hR⟩:=hR
  rcases hR with ⟨rfl,hR⟩ | ⟨rfl,hR⟩
  ·simp
   exact fun hz=>⟨H2,hz.drop (by rw [hs.next];exact Nat.le_refl _),hs,by simp [hR]⟩
  ·simp
   exact fun hz=>⟨H2,hz.drop (by rw [hs.next];exact Nat.le_refl _),hs,by simp [hR]⟩
 ·obtain ⟨hs,hR⟩:=hR
  have hnb:=hI.stP hR (fun _ _=>rfl) (by rw [hs.next];exact hN)
  simp
  exact fun hz=>⟨H2,hz.drop (by rw [hs.next];exact Nat.le_refl _),a3g (by rw [hs.next];exact hN) hnb.1,hs,hR⟩
theorem d2f {n N m:Nat} {rows:List LV} {J:Nat->GH->Prop} {St:GH->Prop} {Pn:LV->GH->Prop} (hI:Iter prog n N rows J St Pn) (hnm:n < N/\N<=m) (op en fold:Int) (name:Str) (a0k:List Calc) (kids:List Exp)
  (ih:∀ k ∈ kids,d0i n N m rows J St Pn 165 (a7y n m) false k):d0i n N m rows J St Pn 165 (a7y n m) false (.mk op name en fold a0k kids):=by
 intro i H hm hN hj ht
 obtain ⟨tl,ht⟩:=ht
 have cc:=a0g (p:=kds [3] [] [])
 have hrow:rows[i]?=some (lv (rExp (.mk op name en fold a0k kids))):=by
  have:(rows.drop i)[0]?=some (lv (rExp (.mk op name en fold a0k kids))):=by rw [ht];simp [a7i,allE]
  rw [List.getElem?_drop] at this;simpa using this
 have ht1:rows.drop (i+1)=b1o kids ++ tl:=by
  rw [<- List.drop_drop,ht];simp [a7i,b1o,allE]
 refine a0j.a1j (a0g (p:=kds [3] [] [])) func165 rfl call165 (by rw [ntmps165];simp [a7y]) rfl fun hf hw=>?_
 have hlt:=hw.lt hm
 have hy:=hI.step hrow hN hw hj
 simp [a0c] at hy
 simp [ntmps165,results165,a0c,a7y]
 refine EY.of hy (fun v H1 hR=>?_) (fun v H1 hR=>?_)
 rotate_left
 ·obtain ⟨hs,hR⟩:=hR
  have hnb:=hI.stP hR (fun _ _=>rfl) (by rw [hs.next];exact hN)
  simp
  exact fun hz=>⟨H1,hz.drop (by rw [hs.next];exact Nat.le_refl _),a3g (by rw [hs.next];exact hN) hnb.1,hs,hR⟩
 ·obtain ⟨hs,hR⟩:=hR
  rcases hR with ⟨rfl,hR⟩ | ⟨rfl,hR⟩
  ·simp
   have hN1:N<=H1.next:=by rw [hs.next];exact hN
   have hm1:H1.obj m=some (.box [b2m n m]):=by rw [hs.obj m hnm.2];exact hm
   have hcon:=a8w kids 167 [.gp m 0] H1 (fun j H'=>GH.same N H1 H'/\J (i+1+(a0y (kids.take j)).length) H') (fun H'=>GH.same N H1 H'/\St H') (fun x H'=>GH.same N H1 H'/\Pn x H')
    (fun j H' q=>by rw [q.1.next];exact Nat.le_refl _) (fun H' q=>by rw [q.1.next];exact Nat.le_refl _)
    (fun x H' q=>⟨by rw [q.1.next];exact Nat.le_refl _,a3g (by rw [q.1.next];exact hN1) (hI.stP q.2 (fun _ _=>rfl) (by rw [q.1.next];exact hN1)).1⟩)
    (by simp [nbs,LV.nb,hs.next,hlt]) (fun j hj' H' q=>?_) ⟨GH.same.refl,by simpa [a0y] using hR⟩
   ·simp at hcon
    refine ⟨by rw [hs.next];exact hlt,EC.of hcon (fun v2 H2 hR2=>?_) (fun v2 H2 hR2=>?_)⟩
    ·rcases hR2 with ⟨rfl,hs2,hR2⟩ | ⟨rfl,hs2,hR2⟩
     ·have hsA:=hs.trans hs2
      simp
      refine fun hz=>⟨H2,hz.drop (by rw [hsA.next];exact Nat.le_refl _),hsA,?_⟩
      have e:i+(allE (.mk op name en fold a0k kids)).length=i+1+(a0y kids).length:=by simp [allE];omega
      rw [e];simp [hR2]
     ·have hsA:=hs.trans hs2
      simp
      exact fun hz=>⟨H2,hz.drop (by rw [hsA.next];exact Nat.le_refl _),hsA,by simp [hR2]⟩
    ·obtain ⟨hs2,hR2⟩:=hR2
     have hsA:=hs.trans hs2
     have hnb:=hI.stP hR2 (fun _ _=>rfl) (by rw [hsA.next];exact hN)
     simp
     exact fun hz=>⟨H2,hz.drop (by rw [hsA.next];exact Nat.le_refl _),a3g (by rw [hsA.next];exact hN) hnb.1,hsA,hR2⟩
   ·obtain ⟨qs,qj⟩:=q
    have hsplit:kids=kids.take j ++ (kids[j] :: kids.drop (j+1)):=by
     rw [<- List.drop_eq_getElem_cons hj',List.take_append_drop]
    have hall:a0y kids=a0y (kids.take j) ++ (allE kids[j] ++ a0y (kids.drop (j+1))):=by
     conv=>lhs;rw [hsplit]
     rw [a4v];simp only [a0y]
    have htk:a0y (kids.take (j+1))=a0y (kids.take j) ++ allE kids[j]:=by
     rw [List.take_add_one,List.getElem?_eq_getElem hj',a4v];simp [a0y]
    have hdj:rows.drop (i+1+(a0y (kids.take j)).length)=a7i kids[j] ++ (b1o (kids.drop (j+1)) ++ tl):=by
     rw [<- List.drop_drop,ht1,b1o,hall,List.map_append,List.append_assoc]
     rw [List.drop_append_of_le_length (by simp),List.drop_eq_nil_of_le (by simp)]
     simp [a7i,b1o]
    have hk:=e3g hI hnm (ih kids[j] (List.getElem_mem hj')) (i+1+(a0y (kids.take j)).length) H' (by rw [qs.obj m hnm.2];exact hm1) (by rw [qs.next];exact hN1) qj ⟨_,hdj⟩
    refine hk.mono fun ce H2 hR2=>?_
    obtain ⟨s2,hR2⟩:=hR2
    cases ce with
    | ret v =>
     rcases hR2 with ⟨rfl,hR2⟩ | ⟨rfl,hR2⟩
     ·exact .inl ⟨rfl,qs.trans s2,by rw [htk,List.length_append,<- Nat.add_assoc];exact hR2⟩
     ·exact .inr ⟨rfl,qs.trans s2,hR2⟩
    | pan x=>exact ⟨qs.trans s2,hR2⟩
  ·simp
   exact fun hz=>⟨H1,hz.drop (by rw [hs.next];exact Nat.le_refl _),hs,by simp [hR]⟩
theorem c2g {n N m:Nat} {rows:List LV} {J:Nat->GH->Prop} {St:GH->Prop} {Pn:LV->GH->Prop} (hI:Iter prog n N rows J St Pn) (hnm:n < N/\N<=m):∀ e:Exp,d0i n N m rows J St Pn 165 (a7y n m) false e
 | .mk op name en fold a0k kids=>d2f hI hnm op en fold name a0k kids fun k hk=>c2g hI hnm k
def a4z (e:Exp):LV:=.fn (.func 164) [] [.ip ((rExp e).map .d) 0]
theorem b0r (e:Exp):AFun prog 98 [lv (rExp e)] (a4z e):=by
 refine AFun.body (a0g (p:=kds [1] [] [])) func98 rfl call98 (by rw [ntmps98];simp) rfl fun hf H=>?_
 simp [ntmps98,results98,a0c,a4z,LV.nb,nbs]
theorem b8l {n N:Nat} {e:Exp} {J:Nat->GH->Prop} {St:GH->Prop} {Pn:LV->GH->Prop} (hI:Iter prog n N (a7i e) J St Pn) (hnN:n < N) (H:GH) (hN:N<=H.next) (hj:J 0 H) :
  a0j prog 164 [.yl n,.ip ((rExp e).map .d) 0] H fun ce H'=>GH.same N H H'/\(match ce with
   | .ret v=>J (allE e).length H' \/ St H'
   | .pan x=>Pn x H'):=by
 have cc:=a0g (p:=kds [2] [3] [])
 refine a0j.a1j (a0g (p:=kds [2] [3] [])) func164 rfl call164 (by rw [ntmps164];simp) rfl fun hf hw=>?_
 simp [ntmps164,results164,a0c,GH.a0b,GH.a0a,GH.a1v]
 have hH1:∀ m,m < N->(H.add (.box [b2m n H.next])).obj m=H.obj m:=fun m hm=>by rw [GH.a0b,if_neg (by omega)]
 have hc:=c2g hI ⟨hnN,hN⟩ e 0 (H.add (.box [b2m n H.next])) (by rw [GH.a0b,if_pos rfl]) (by rw [GH.a0a];omega) (hI.stJ hj hH1 (by rw [GH.a0a];omega)) ⟨[],by simp⟩
 simp [a0c,a7y,b2m] at hc
 have hcut:∀ H2,GH.same N (H.add (.box [b2m n H.next])) H2->nbH H2->(∀ m o,m < N->H2.obj m=some o->o.nb N)->Drop H H2 (H2.cut H.next)/\GH.same N H (H2.cut H.next):=fun H2 hs hz hnb=>by
  refine ⟨hz.f3x (by rw [hs.next,GH.a0a];omega) (Nat.le_refl _) fun m o hm ho=>?_,rfl,fun m hm=>?_⟩
  ·by_cases hmN:m < N
   ·refine .inr ?_
    have:=hnb m o hmN ho
    exact GO.a3g hN this
   ·rw [hs.obj m (by omega),GH.a0b,if_neg (by omega)] at ho
    exact .inl ho
  ·by_cases hmx:m < H.next
   ·rw [GH.c3g hmx,hs.obj m hm,GH.a0b,if_neg (by omega)]
   ·rw [GH.e5s (by omega),hw.none m (by omega)]
 refine ⟨by omega,EC.of hc (fun v H2 hR=>?_) (fun v H2 hR=>?_)⟩
 ·obtain ⟨hs,hR⟩:=hR
  simp
  refine fun hz=>?_
  rcases hR with ⟨_,hR⟩ | ⟨_,hR⟩
  ·obtain ⟨q1,q2⟩:=hcut H2 hs hz (hI.nbJ hR)
   exact ⟨_,q1,q2,.inl (hI.stJ hR (fun m hm=>GH.c3g (by omega)) (by rw [GH.cut_next];exact hN))⟩
  ·obtain ⟨q1,q2⟩:=hcut H2 hs hz (hI.nbS hR)
   exact ⟨_,q1,q2,.inr (hI.stS hR (fun m hm=>GH.c3g (by omega)) (by rw [GH.cut_next];exact hN))⟩
 ·obtain ⟨hs,hR⟩:=hR
  simp
  refine fun hz=>?_
  obtain ⟨q1,q2⟩:=hcut H2 hs hz (hI.nbP hR)
  have:=hI.stP hR (H':=H2.cut H.next) (fun m hm=>GH.c3g (by omega)) (by rw [GH.cut_next];exact hN)
  exact ⟨_,q1,a3g (by rw [GH.cut_next];exact hN) this.1,q2,this.2⟩
end Go.Aft
end
