import Derived.Test.YtdhphbedajhmnaaGreatA38
set_option linter.all false
section
set_option maxRecDepth 20000
namespace Go.Aft
open Go.Proofs.Tryz
def valsM (F:List Int) (L:List Loose) (w:Way) (great:Bool) (rec_:Int):List Int:=F ++ (keptM L w great).map (fun x=>x.ev.rec_.val) ++ List.replicate (w.turned+w.more) rec_
def sRec (s:Scene) (great:Bool):Int:=(if great=true then s.high else s.low).val
theorem keptM_len (L:List Loose) (w:Way) (great:Bool) (hw:w.gone+w.turned<=L.length):(keptM L w great).length=L.length - (w.gone+w.turned):=by
 unfold keptM;split <;> simp
theorem scene_values (s:Scene) (F:List Int) (L:List Loose) (hF:s.vals=sl (F.map rI)) (hL:s.loose=sl (L.map rLoose)) (h60:F.length+L.length<=60) (w:Way) (hw:w.gone+w.turned<=L.length) (hm:w.gone+w.turned+w.more<=6) (great:Bool) (n:Nat) (H:GH) (ho:H.obj n=some (sceneO s)) :
  ECall prog 105 [.gp n 0,lv (rWay w),.d (.k (.bool great))] H fun ce H'=>ce=.ret (sl ((valsM F L w great (sRec s great)).map rI))/\H'=H:=by
 have cc:=cxK_ok (p:=kds [4] [7] [])
 refine ECall.bodyNW (cxK_ok (p:=kds [4] [7] [])) func105 rfl call105 (by rw [ntmps105];simp) rfl fun hf hz=>?_
 have ln:=hz.lt ho
 have hkl:=keptM_len L w great hw
 have hv0:(H.add (valsO [])).obj H.next=some (valsO []):=by simp [GH.add_obj]
 have hon:∀ o,(H.add o).obj n=some (sceneO s):=fun o=>by rw [GH.add_obj,if_neg (by omega)];exact ho
 have hset:∀ a b:GO,(H.add a).set H.next b=H.add b:=fun a b=>GH.add_set
 simp [ntmps105,results105,rWay]
 refine AW.seq cc ?_
 simp
 refine AW.seq cc ?_
 simp
 refine AW.at (c:=cxK (kds [4] [7] [])) ⟨[(0,.gp n 0),(2,.d (.k (.bool great))),(4,.ip [lvI w.gone,lvI w.turned,lvI w.more] 0),(7,.gp H.next 0)],[],H.add (valsO [])⟩ ⟨by simp,trivial,rfl,rfl,rfl⟩ ?_
 refine AW.seq cc ?_
 have hs:(sceneO s)=GO.box (((rShape s.sh).map .d ++ (rRoom s.room).map .d ++ [s.vals,s.loose,.d (.k (.bool s.has))] ++ (rRec s.low).map .d ++ (rRec s.high).map .d ++ [s.vers])):=rfl
 have hp1:=values_put [] F H.next (H.add (valsO [])) hv0 (by simp;omega)
 simp at hp1
 simp [hon,hs,rShape,rRoom,rRec,hF]
 refine ⟨by rw [GH.add_next];omega,EC.of hp1 (fun v H2 hR=>?_) (fun v H2 hR=>?_)⟩
 rotate_left
 ·obtain ⟨⟨_,q⟩,_⟩:=hR;cases q
 obtain ⟨_,rfl⟩:=hR
 rw [hset]
 simp
 refine AW.seq cc ?_
 have hch:=scene_changed s L hL (by omega) w hw great n (H.add (valsO F)) (hon _)
 simp [rWay] at hch
 simp [GH.add_next]
 refine ⟨by omega,EC.of hch (fun v H2 hR=>?_) (fun v H2 hR=>?_)⟩
 rotate_left
 ·cases hR.1
 obtain ⟨e,rfl⟩:=hR
 cases e
 simp
 obtain ⟨K,hK⟩:∃ K,keptM L w great=K:=⟨_,rfl⟩
 rw [hK] at hkl
 have hr1:List.range' 0 1=[0]:=rfl
 obtain ⟨V,hV⟩:∃ V,(K.map fun x=>x.ev.rec_.val)=V:=⟨_,rfl⟩
 have hVl:V.length=K.length:=by rw [<- hV];simp
 have hVi:∀ i (h:i < K.length),V[i]?=some K[i].ev.rec_.val:=fun i h=>by rw [<- hV];simp [h]
 have hvm:∀ r,valsM F L w great r=F ++ V ++ List.replicate (w.turned+w.more) r:=fun r=>by rw [valsM,hK,hV]
 simp only [hK]
 refine AW.seq cc ?_
 simp
 refine AW.loopS cc (fun i:Nat=>⟨[(0,.gp n 0),(2,.d (.k (.bool great))),(4,.ip [lvI w.gone,lvI w.turned,lvI w.more] 0),(7,.gp H.next 0),(24,.d (.sl (K.map rLoose))),(25,lvI K.length),(26,lvI i)],[],H.add (valsO (F ++ V.take i))⟩) (fun i=>K.length - i) (fun i=>i<=K.length) 0 ⟨by simp,by simp⟩ ?_
 intro i hi
 simp
 refine ⟨fun h=>?_,fun h=>?_⟩
 ·have wi:=wrap_succ (n:=1000) (show i < 1000 by omega)
  have hp2:=values_put (F ++ V.take i) [K[i].ev.rec_.val] H.next (H.add (valsO (F ++ V.take i))) (by simp [GH.add_obj]) (by simp;omega)
  simp [rI] at hp2
  simp [h,List.getElem?_eq_getElem h,rLoose,rEvent,rRec,hr1,GH.add_next]
  refine EC.of hp2 (fun v H2 hR=>?_) (fun v H2 hR=>?_)
  rotate_left
  ·obtain ⟨⟨_,q⟩,_⟩:=hR;cases q
  obtain ⟨_,rfl⟩:=hR
  rw [hset]
  simp
  refine NX.go (i+1) (by omega) h (by simp [wi,rLoose,rEvent,rRec,List.take_add_one,hVi i h])
 ·have e:i=K.length:=by omega
  subst e
  rw [<- hVl,List.take_length]
  simp
  refine AW.seq cc ?_
  have wm:IntKind.wrap .i64 ((w.turned:Int)+w.more)=(w.turned:Int)+w.more:=by rw [wrap64] <;> omega
  simp [wm]
  obtain ⟨M,hM⟩:∃ M,w.turned+w.more=M:=⟨_,rfl⟩
  have hMi:(w.turned:Int)+w.more=M:=by omega
  rw [hMi]
  refine AW.loopS cc (fun i:Nat=>⟨[(0,.gp n 0),(2,.d (.k (.bool great))),(7,.gp H.next 0),(41,lvI M),(42,lvI i)],[],H.add (valsO (F ++ V ++ List.replicate i (sRec s great)))⟩) (fun i=>M - i) (fun i=>i<=M) 0 ⟨by simp,by simp⟩ ?_
  intro i hi
  simp
  refine ⟨fun h=>?_,fun h=>?_⟩
  ·have wi:=wrap_succ (n:=1000) (show i < 1000 by omega)
   have hrc:=scene_record s n great (H.add (valsO (F ++ V ++ List.replicate i (sRec s great)))) (hon _)
   simp [rRec] at hrc
   have hp3:=values_put (F ++ V ++ List.replicate i (sRec s great)) [sRec s great] H.next (H.add (valsO (F ++ V ++ List.replicate i (sRec s great)))) (by simp [GH.add_obj]) (by simp;omega)
   simp [rI] at hp3
   simp [GH.add_next]
   refine ⟨by omega,EC.of hrc (fun v H2 hR=>?_) (fun v H2 hR=>?_)⟩
   rotate_left
   ·cases hR.1
   obtain ⟨e,rfl⟩:=hR
   cases e
   have hsr:(if great=true then s.high else s.low).val=sRec s great:=rfl
   simp [hr1,hsr,GH.add_next]
   refine EC.of hp3 (fun v H2 hR=>?_) (fun v H2 hR=>?_)
   rotate_left
   ·obtain ⟨⟨_,q⟩,_⟩:=hR;cases q
   obtain ⟨_,rfl⟩:=hR
   rw [hset]
   simp
   exact NX.go (i+1) (by omega) h (by simp [wi,List.replicate_succ'])
  ·have e:i=M:=by omega
   subst e
   have hls:=values_list (F ++ V ++ List.replicate i (sRec s great)) H.next (H.add (valsO (F ++ V ++ List.replicate i (sRec s great)))) (by simp [GH.add_obj]) (by simp;omega)
   simp at hls
   refine AW.ev cc ?_
   simp [GH.add_next]
   refine EC.of hls (fun v H2 hR=>?_) (fun v H2 hR=>?_)
   rotate_left
   ·cases hR.1
   obtain ⟨e,rfl⟩:=hR
   cases e
   rw [hset]
   simp
   rw [hvm,hM]
   exact fun _=>⟨Drop_same (by rw [GH.add_next];omega) (fun m hm=>by rw [GH.add_obj,if_neg (by omega)]) hz.none,by simp⟩
end Go.Aft
end
section
set_option maxRecDepth 20000
namespace Go.Aft
open Go.Proofs.Tryz
structure NB where
 some:Bool
 none:Bool
 low:Int
 high:Int
 deriving DecidableEq
structure Bnd where
 nb:NB
 wn:Way
 wl:Way
 wh:Way
def rNB (b:NB):List DV:=[dB b.some,dB b.none,dI b.low,dI b.high]
def bndO (b:Bnd):GO:=.box ((rNB b.nb ++ rWay b.wn ++ rWay b.wl ++ rWay b.wh).map .d)
def nowM (b:Bnd) (low high:Int):NB:=⟨true,b.nb.none,if b.nb.some=true then farI low b.nb.low false else low,if b.nb.some=true then farI high b.nb.high true else high⟩
def takeM (b:Bnd) (w:Way) (low high:Int):Bnd :=
 if nowM b low high=b.nb then b else ⟨nowM b low high,b.wn,if b.nb.some=false \/ low < b.nb.low then w else b.wl,if b.nb.some=false \/ b.nb.high < high then w else b.wh⟩
theorem bound_take (b:Bnd) (w:Way) (low high:Int) (n:Nat) (H:GH) (ho:H.obj n=some (bndO b)) :
  ECall prog 106 [.gp n 0,lv (rWay w),lvI low,lvI high] H fun ce H'=>(∃ v,ce=.ret v)/\H'=H.set n (bndO (takeM b w low high)):=by
 have cc:=cxS_ok (p:=kds [5] [] [])
 refine ECall.bodyNW (cxS_ok (p:=kds [5] [] [])) func106 rfl call106 (by rw [ntmps106];simp) rfl fun hf hz=>?_
 have ln:=hz.lt ho
 obtain ⟨⟨so,no,lo,hi⟩,wn,wl,wh⟩:=b
 have hob:bndO ⟨⟨so,no,lo,hi⟩,wn,wl,wh⟩=.box [.d (.k (.bool so)),.d (.k (.bool no)),lvI lo,lvI hi,lvI wn.gone,lvI wn.turned,lvI wn.more,lvI wl.gone,lvI wl.turned,lvI wl.more,lvI wh.gone,lvI wh.turned,lvI wh.more]:=rfl
 rw [hob] at ho
 have f1:=near_far low lo false
 have f2:=near_far high hi true
 simp at f1 f2
 simp [ntmps106,results106,rWay]
 refine AW.seq cc ?_
 simp
 refine AW.seq cc ?_
 simp [ho]
 refine AW.seq cc ?_
 simp [ho]
 refine ⟨fun hs=>?_,fun hs=>?_⟩
 ·subst hs
  refine AW.draw cc [(6,.n),(13,.n)] (.q 0<|.q 1<|.q 2<|.q 3<|.q 4<|.q 7<|.q 8<|.q 9<|.q 10<|.q 11<|.q 5<|.q 6<|.q 14<|.f<|.one 12<|.q 13<|.f<|.one 15<|.q 16<|.f<|.one 17<|.done) (by kernel_rfl) ?_
  simp [ho]
  refine FC.afun f1 ?_
  simp [ho]
  refine FC.afun f2 ?_
  simp
  refine AW.seq cc ?_
  simp
  refine AW.draw cc [] (.q 1<|.q 2<|.q 3<|.q 0<|.q 4<|.q 5<|.done) (by kernel_rfl) ?_
  simp [ho]
  have os:∀ o,(H.set n o).obj n=some o:=fun o=>GH.set_same
  refine ⟨fun e1 e2 hz2=>?_,fun e=>?_⟩
  ·have:takeM ⟨⟨true,no,lo,hi⟩,wn,wl,wh⟩ w low high = ⟨⟨true,no,lo,hi⟩,wn,wl,wh⟩:=by simp [takeM,nowM,e1,e2]
   rw [this,GH.set_id (by rw [hob];exact ho)]
   exact hz2.drop (Nat.le_refl _)
  ·have ht:takeM ⟨⟨true,no,lo,hi⟩,wn,wl,wh⟩ w low high = ⟨⟨true,no,farI low lo false,farI high hi true⟩,wn,if low < lo then w else wl,if hi < high then w else wh⟩:=by
    unfold takeM
    rw [if_neg]
    ·simp [nowM]
    ·simp [nowM];exact e
   rw [ht]
   refine AW.ev cc ?_
   by_cases c1:low < lo <;> by_cases c2:hi < high
   all_goals
    simp [ho,os,c1,c2,GH.set_set]
    exact fun hz2=>hz2.drop (by rw [GH.set_next];exact Nat.le_refl _)
 ·subst hs
  refine AW.seq cc ?_
  simp
  refine AW.draw cc [] (.q 1<|.q 2<|.q 3<|.q 0<|.q 4<|.q 5<|.done) (by kernel_rfl) ?_
  simp [ho]
  have os:∀ o,(H.set n o).obj n=some o:=fun o=>GH.set_same
  have ht:takeM ⟨⟨false,no,lo,hi⟩,wn,wl,wh⟩ w low high = ⟨⟨true,no,low,high⟩,wn,w,w⟩:=by
   unfold takeM
   rw [if_neg]
   ·simp [nowM]
   ·simp [nowM]
  rw [ht]
  refine AW.ev cc ?_
  simp [ho,os,GH.set_set]
  exact fun hz2=>hz2.drop (by rw [GH.set_next];exact Nat.le_refl _)
end Go.Aft
end
section
set_option maxRecDepth 20000
namespace Go.Aft
open Go.Proofs.Tryz
def wM (can:Bool) (g t:Nat):Nat->Nat->List Way
 | _,0=>[]
 | m,c+1=>(if can=true \/ t+m=0 then [⟨g,t,m⟩] else []) ++ wM can g t (m+1) c
def wT (P:Nat) (can:Bool) (g:Nat):Nat->Nat->List Way
 | _,0=>[]
 | t,c+1=>wM can g t 0 (P+1 - g - t) ++ wT P can g (t+1) c
def wG (P mn:Nat) (can:Bool):Nat->Nat->List Way
 | _,0=>[]
 | g,c+1=>wT P can g 0 (mn+1 - g) ++ wG P mn can (g+1) c
def waysM (P mn:Nat) (can:Bool):List Way:=wG P mn can 0 (mn+1)
def rowW (w:Way):LV:=lv (rWay w)
theorem AW.nb {P:Program} {rd:RD} {x:Code} {s:S} {Q:QT} (h:nbH s.H->@AW P rd ⟨x⟩ s Q):@AW P rd ⟨x⟩ s Q:=fun E a w hs=>h hs.nbH E a w hs
theorem scene_ways (s:Scene) (L:List Loose) (hL:s.loose=sl (L.map rLoose)) (h60:L.length<=60) (P:Nat) (hP:s.room.most=P) (hP6:P<=6) {y N n:Nat} {J:Nat->GH->Prop}
  (hI:Iter prog y N ((waysM P (min P L.length) s.has).map rowW) J (fun _=>False) (fun _ _=>False)) (hsc:∀ i H,J i H->H.obj n=some (sceneO s)) (H:GH) (hN:N<=H.next) (hj:J 0 H) :
  ECall prog 153 [.yl y,.ip [.gp n 0] 0] H fun ce H'=>GH.same N H H'/\(match ce with
   | .ret _=>J (waysM P (min P L.length) s.has).length H'
   | .pan _=>False):=by
 have cc:=cxK_ok (p:=kds [] [] [])
 refine ECall.bodyN (cxK_ok (p:=kds [] [] [])) func153 rfl call153 (by rw [ntmps153];simp) rfl fun hf hw=>?_
 obtain ⟨mn,hmn⟩:∃ mn,min P L.length=mn:=⟨_,rfl⟩
 have hmin:minI (P:Int) (L.length:Int)=(mn:Int):=by unfold minI;split <;> omega
 rw [hmn] at hI |-
 obtain ⟨rows,hrows⟩:∃ rows,(waysM P mn s.has).map rowW=rows:=⟨_,rfl⟩
 rw [hrows] at hI
 have hlen:rows.length=(waysM P mn s.has).length:=by rw [<- hrows];simp
 have hs:(sceneO s)=GO.box (((rShape s.sh).map .d ++ (rRoom s.room).map .d ++ [s.vals,s.loose,.d (.k (.bool s.has))] ++ (rRec s.low).map .d ++ (rRec s.high).map .d ++ [s.vers])):=rfl
 simp [ntmps153,results153]
 refine AW.loopS cc (fun a:Nat × Nat × GH=>⟨[(0,.yl y),(1,.ip [.gp n 0] 0),(3,lvI a.1)],[],a.2.2⟩) (fun a=>mn+1 - a.1)
  (fun a=>a.1<=mn+1/\GH.same N H a.2.2/\(a.2.1<=rows.length/\J a.2.1 a.2.2)/\rows.drop a.2.1=(wG P mn s.has a.1 (mn+1 - a.1)).map rowW) (0,0,H) ⟨⟨by simp,GH.same.refl,⟨Nat.zero_le _,hj⟩,by rw [<- hrows];rfl⟩,by simp⟩ ?_
 rintro ⟨g,i,H1⟩ ⟨g1,g2,g3,g4⟩
 simp only at g1 g2 g3 g4
 have hob:=hsc _ _ g3.2
 rw [hs] at hob
 simp
 refine AW.draw cc [] (.q 0<|.q 1<|.q 2<|.q 3<|.q 4<|.q 5<|.q 6<|.q 7<|.q 8<|.q 9<|.q 10<|.q 11<|.q 12<|.done) (by kernel_rfl) ?_
 simp [hob,rShape,rRoom,rRec,hP,hL,hmin]
 refine ⟨fun hg=>?_,fun hg=>?_⟩
 ·have e1:mn+1 - g=(mn - g)+1:=by omega
  rw [e1,wG] at g4
  have wg:IntKind.wrap .i64 ((g:Int)+1)=(g:Int)+1:=by rw [wrap64] <;> omega
  refine AW.loopS cc (fun a:Nat × Nat × GH=>⟨[(0,.yl y),(1,.ip [.gp n 0] 0),(3,lvI g),(4,lvI a.1)],[],a.2.2⟩) (fun a=>mn+1 - g - a.1)
   (fun a=>a.1<=mn+1 - g/\GH.same N H a.2.2/\(a.2.1<=rows.length/\J a.2.1 a.2.2)/\rows.drop a.2.1=(wT P s.has g a.1 (mn+1 - g - a.1) ++ wG P mn s.has (g+1) (mn - g)).map rowW) (0,i,H1) ⟨⟨by simp,g2,g3,by simpa using g4⟩,by simp⟩ ?_
  rintro ⟨t,i2,H2⟩ ⟨t1,t2,t3,t4⟩
  simp only at t1 t2 t3 t4
  have hob2:=hsc _ _ t3.2
  rw [hs] at hob2
  have wt0:IntKind.wrap .i64 ((g:Int)+t)=(g:Int)+t:=by rw [wrap64] <;> omega
  simp
  refine AW.draw cc [] (.q 0<|.q 1<|.q 2<|.q 3<|.q 4<|.q 5<|.q 6<|.q 7<|.q 8<|.q 9<|.q 10<|.q 11<|.q 12<|.q 13<|.q 14<|.done) (by kernel_rfl) ?_
  simp [hob2,rShape,rRoom,rRec,hP,hL,hmin,wt0]
  refine ⟨fun ht=>?_,fun ht=>?_⟩
  ·have e2:mn+1 - g - t=(mn - g - t)+1:=by omega
   rw [e2,wT,List.append_assoc] at t4
   have hmP:mn<=P:=by omega
   have wt:IntKind.wrap .i64 ((t:Int)+1)=(t:Int)+1:=by rw [wrap64] <;> omega
   refine AW.loopW cc (fun a:Nat × Nat × GH=>⟨[(0,.yl y),(1,.ip [.gp n 0] 0),(3,lvI g),(4,lvI t),(5,lvI a.1)],[],a.2.2⟩) (fun a=>P+1 - g - t - a.1)
    (fun a=>a.1<=P+1 - g - t/\GH.same N H a.2.2/\(a.2.1<=rows.length/\J a.2.1 a.2.2)/\rows.drop a.2.1=(wM s.has g t a.1 (P+1 - g - t - a.1) ++ (wT P s.has g (t+1) (mn - g - t) ++ wG P mn s.has (g+1) (mn - g))).map rowW) (0,i2,H2) ⟨⟨by simp,t2,t3,by simpa using t4⟩,by simp⟩ ?_
   rintro ⟨m,i3,H3⟩ ⟨m1,m2,m3,m4⟩
   simp only at m1 m2 m3 m4
   have hob3:=hsc _ _ m3.2
   rw [hs] at hob3
   have wm0:IntKind.wrap .i64 ((g:Int)+t+m)=(g:Int)+t+m:=by rw [wrap64] <;> omega
   have wm1:IntKind.wrap .i64 ((t:Int)+m)=(t:Int)+m:=by rw [wrap64] <;> omega
   have wm:IntKind.wrap .i64 ((m:Int)+1)=(m:Int)+1:=by rw [wrap64] <;> omega
   refine AW.nb fun hz3=>?_
   refine AW.ev cc ?_
   simp at hz3
   by_cases hle:g+t+m<=P
   rotate_left
   ·have hle':¬ (g:Int)+t+m<=P:=by omega
    have e3:P+1 - g - t - m=0:=by omega
    rw [e3,wM,List.nil_append] at m4
    simp [hob3,rShape,rRoom,rRec,hP,hL,hmin,wt0,wm0,wm1,hle',wt]
    have e4:mn+1 - g - (t+1)=mn - g - t:=by omega
    exact NX.go (t+1,i3,H3) (by simp only;omega) ⟨by simp only;omega,m2,m3,by simp only;rw [e4];exact m4⟩ (by simp [wt])
   have hle':(g:Int)+t+m<=P:=by omega
   have e3:P+1 - g - t - m=(P - g - t - m)+1:=by omega
   have e4:P+1 - g - t - (m+1)=P - g - t - m:=by omega
   rw [e3,wM] at m4
   by_cases hc:s.has=true \/ t+m=0
   rotate_left
   ·have hh:s.has=false:=by simpa using fun q=>hc (.inl q)
    have h0:¬ (t:Int)+m=0:=fun q=>hc (.inr (by omega))
    have hb:((t:Int)+m == 0)=false:=by simpa using h0
    rw [if_neg hc,List.nil_append] at m4
    simp [hob3,rShape,rRoom,rRec,hP,hL,hmin,wt0,wm0,wm1,hle',hh,h0,hb]
    exact NX.go (m+1,i3,H3) (by simp only;omega) ⟨by simp only;omega,m2,m3,by simp only;rw [e4];exact m4⟩ (by simp [wm])
   ·rw [if_pos hc] at m4
    have hrow:rows[i3]?=some (rowW ⟨g,t,m⟩):=by
     have:(rows.drop i3)[0]?=some (rowW ⟨g,t,m⟩):=by rw [m4];simp
     rw [List.getElem?_drop] at this;simpa using this
    have hdr:rows.drop (i3+1)=(wM s.has g t (m+1) (P - g - t - m) ++ (wT P s.has g (t+1) (mn - g - t) ++ wG P mn s.has (g+1) (mn - g))).map rowW:=by
     rw [<- List.drop_drop,m4];simp
    have hy:=hI.step hrow (by rw [m2.next];exact hN) hz3 m3.2
    simp [rowW,rWay] at hy
    have key:∀ (v:LV) (H4:GH),(GH.same N H3 H4/\(v=bool true/\J (i3+1) H4 \/ v=bool false/\False))->v=bool true/\GH.same N H H4/\J (i3+1) H4:=fun v H4 hR=>by
     obtain ⟨hs4,hR⟩:=hR
     rcases hR with ⟨rfl,hR⟩ | ⟨_,hR⟩
     ·exact ⟨rfl,m2.trans hs4,hR⟩
     ·exact hR.elim
    have hbb:(s.has || ((t:Int)+m == 0))=true:=by
     rcases hc with q | q
     ·simp [q]
     ·have:(t:Int)+m=0:=by omega
      simp [this]
    have hcc:s.has=true \/ (t:Int)+m=0:=by simpa using hbb
    simp [hob3,rShape,rRoom,rRec,hP,hL,hmin,wt0,wm0,wm1,hle',hbb,hcc]
    have hi3:i3+1<=rows.length:=(List.getElem?_eq_some_iff.1 hrow).1
    refine EY.of hy (fun v H4 hR=>?_) (fun v H4 hR=>?_)
    rotate_left
    ·obtain ⟨_,q⟩:=hR;exact q.elim
    obtain ⟨rfl,k2,k3⟩:=key v H4 ⟨hR.1,.inl hR.2⟩
    simp [hbb]
    exact NX.go (m+1,i3+1,H4) (by simp only;omega) ⟨by simp only;omega,k2,⟨hi3,k3⟩,by simp only;rw [e4];exact hdr⟩ (by simp [wm])
  ·have e2:mn+1 - g - t=0:=by omega
   rw [e2,wT,List.nil_append] at t4
   have e5:mn+1 - (g+1)=mn - g:=by omega
   exact NX.go (g+1,i2,H2) (by simp only;omega) ⟨by simp only;omega,t2,t3,by simp only;rw [e5];exact t4⟩ (by simp [wg])
 ·have e1:mn+1 - g=0:=by omega
  rw [e1,wG,List.map_nil,List.drop_eq_nil_iff] at g4
  have:i=(waysM P mn s.has).length:=by rw [<- hlen];omega
  rw [this] at g3
  exact fun hz=>⟨H1,hz.drop (by rw [g2.next];exact Nat.le_refl _),g2,g3.2⟩
end Go.Aft
end
section
set_option maxRecDepth 20000
namespace Go.Aft
open Go.Proofs.Tryz
def foldF (fold:Int):FuncId:=if fold=1 then 149 else if fold=2 then 150 else if fold=3 then 151 else 152
def foldOf (fold:Int) (l:List Int):Int:=if fold=1 then l.length else if fold=2 then clampM (sumI l) else if fold=3 then MinL l else MaxL l
theorem fold_call (fold:Int) (h1:1<=fold/\fold<=4) (l:List Int) (hl:0 < l.length) (h66:l.length<=66) (hm:∀ n ∈ l,inMost n):AFun prog (foldF fold) [sl (l.map rI)] (lvI (foldOf fold l)):=by
 unfold foldF foldOf
 split
 ·exact near_folds1 l
 ·split
  ·exact near_folds2 l (by omega) hm
  ·split
   ·exact slices_Min l hl
   ·exact slices_Max l hl
theorem scene_waysF (n:Nat) (H:GH) (hn:n < H.next):ECall prog 104 [.gp n 0] H fun ce H'=>ce=.ret (.fn (.func 153) [] [.ip [.gp n 0] 0])/\H'=H:=by
 refine ECall.bodyN (cxK_ok (p:=kds [1] [] [])) func104 rfl call104 (by rw [ntmps104];simp) rfl fun _ _=>?_
 simp [ntmps104,results104,hn,LV.nb,nbs]
 exact fun hz=>hz.drop (Nat.le_refl _)
theorem wM_mem {can:Bool} {g t:Nat} {w:Way}:∀ {m c:Nat},w ∈ wM can g t m c ↔ w.gone=g/\w.turned=t/\m<=w.more/\w.more < m+c/\(can=true \/ t+w.more=0)
 | m,0=>by simp [wM];intros;omega
 | m,c+1=>by
  rw [wM,List.mem_append,wM_mem (m:=m+1) (c:=c)]
  constructor
  ·rintro (h | ⟨h1,h2,h3,h4,h5⟩)
   ·split at h
    ·rename_i hc
     simp at h;subst h
     exact ⟨rfl,rfl,Nat.le_refl _,by simp only;omega,hc⟩
    ·simp at h
   ·exact ⟨h1,h2,by omega,by omega,h5⟩
  ·rintro ⟨h1,h2,h3,h4,h5⟩
   by_cases e:w.more=m
   ·left
    rw [if_pos (by rw [<- e];exact h5)]
    obtain ⟨a,b,d⟩:=w
    simp only at h1 h2 e
    simp [h1,h2,e]
   ·right;exact ⟨h1,h2,by omega,by omega,h5⟩
theorem wT_mem {P:Nat} {can:Bool} {g:Nat} {w:Way}:∀ {t c:Nat},w ∈ wT P can g t c ↔ w.gone=g/\t<=w.turned/\w.turned < t+c/\w.more < P+1 - g - w.turned/\(can=true \/ w.turned+w.more=0)
 | t,0=>by simp [wT];intros;omega
 | t,c+1=>by
  rw [wT,List.mem_append,wT_mem (t:=t+1) (c:=c),wM_mem]
  constructor
  ·rintro (⟨h1,h2,h3,h4,h5⟩ | ⟨h1,h2,h3,h4,h5⟩)
   ·subst h2;exact ⟨h1,Nat.le_refl _,by omega,by omega,h5⟩
   ·exact ⟨h1,by omega,by omega,h4,h5⟩
  ·rintro ⟨h1,h2,h3,h4,h5⟩
   by_cases e:w.turned=t
   ·left;subst e;exact ⟨h1,rfl,Nat.zero_le _,by omega,h5⟩
   ·right;exact ⟨h1,by omega,by omega,h4,h5⟩
theorem wG_mem {P mn:Nat} {can:Bool} {w:Way}:∀ {g c:Nat},w ∈ wG P mn can g c ↔ g<=w.gone/\w.gone < g+c/\w.turned < mn+1 - w.gone/\w.more < P+1 - w.gone - w.turned/\(can=true \/ w.turned+w.more=0)
 | g,0=>by simp [wG];intros;omega
 | g,c+1=>by
  rw [wG,List.mem_append,wG_mem (g:=g+1) (c:=c),wT_mem]
  constructor
  ·rintro (⟨h1,h2,h3,h4,h5⟩ | ⟨h1,h2,h3,h4,h5⟩)
   ·subst h1;exact ⟨Nat.le_refl _,by omega,by omega,h4,h5⟩
   ·exact ⟨by omega,by omega,h3,h4,h5⟩
  ·rintro ⟨h1,h2,h3,h4,h5⟩
   by_cases e:w.gone=g
   ·left;subst e;exact ⟨rfl,Nat.zero_le _,by omega,h4,h5⟩
   ·right;exact ⟨by omega,by omega,h3,h4,h5⟩
theorem waysM_mem {P mn:Nat} {can:Bool} {w:Way}:w ∈ waysM P mn can ↔ w.gone+w.turned<=mn/\w.gone+w.turned+w.more<=P/\(can=true \/ w.turned+w.more=0) \/ w.gone+w.turned<=mn/\P < w.gone+w.turned/\False:=by
 rw [waysM,wG_mem]
 constructor
 ·rintro ⟨h1,h2,h3,h4,h5⟩
  exact .inl ⟨by omega,by omega,h5⟩
 ·rintro (⟨h1,h2,h3⟩ | ⟨_,_,h⟩)
  ·exact ⟨by omega,by omega,by omega,by omega,h3⟩
  ·exact h.elim
theorem bndO_nb (N:Nat) (b:Bnd):(bndO b).nb N:=by
 simp only [bndO,GO.nb]
 exact (nbs_map N _).mpr trivial
def b0:Bnd:=⟨⟨false,false,0,0⟩,⟨0,0,0⟩,⟨0,0,0⟩,⟨0,0,0⟩⟩
def stepB (s:Scene) (F:List Int) (L:List Loose) (b:Bnd) (w:Way):Bnd :=
 if 0 < (valsM F L w false (sRec s false)).length then takeM b w (foldOf s.sh.fold (valsM F L w false (sRec s false))) (foldOf s.sh.fold (valsM F L w true (sRec s true)))
 else if b.nb.none=false then { b with nb:={ b.nb with none:=true },wn:=w } else b
def boundM (s:Scene) (F:List Int) (L:List Loose) (P:Nat):Bnd:=(waysM P (min P L.length) s.has).foldl (stepB s F L) b0
theorem scene_bound (s:Scene) (F:List Int) (L:List Loose) (hF:s.vals=sl (F.map rI)) (hL:s.loose=sl (L.map rLoose)) (h60:F.length+L.length<=60) (P:Nat) (hP:s.room.most=P) (hP6:P<=6) (hfo:1<=s.sh.fold/\s.sh.fold<=4)
  (hmF:∀ x ∈ F,inMost x) (hmL:∀ x ∈ L,inMost x.ev.rec_.val) (hmR:∀ g,inMost (sRec s g)) (n:Nat) (H:GH) (ho:H.obj n=some (sceneO s)) :
  ECall prog 63 [.gp n 0] H fun ce H'=>ce=.ret (.gp H.next 0)/\H'=H.add (bndO (boundM s F L P)):=by
 have cc:=cxF_ok (r:=none) (f:=63) (p:=kds [1] [3,4,9] [])
 have ccR:∀ l,(cxF (some l) 63 (kds [1] [3,4,9] [])).ok prog:=fun l=>cxF_ok
 refine ECall.bodyNW (cxF_ok (r:=none) (f:=63) (p:=kds [1] [3,4,9] [])) func63 rfl call63 (by rw [ntmps63];simp) rfl fun hf hw=>?_
 have ln:=hw.lt ho
 simp [ntmps63,results63]
 refine AW.seq cc ?_
 simp
 refine AW.seq cc ?_
 simp [GH.add_next,GH.add_obj,GH.add_set]
 rw [add2_set1]
 refine ⟨by omega,?_⟩
 have hb0:GO.box [LV.d (DV.k (Value.bool false)),LV.d (DV.k (Value.bool false)),LV.d (DV.k (Value.int IntKind.i64 0)),LV.d (DV.k (Value.int IntKind.i64 0)),LV.d (DV.k (Value.int IntKind.i64 0)),LV.d (DV.k (Value.int IntKind.i64 0)),LV.d (DV.k (Value.int IntKind.i64 0)),LV.d (DV.k (Value.int IntKind.i64 0)),LV.d (DV.k (Value.int IntKind.i64 0)),LV.d (DV.k (Value.int IntKind.i64 0)),LV.d (DV.k (Value.int IntKind.i64 0)),LV.d (DV.k (Value.int IntKind.i64 0)),LV.d (DV.k (Value.int IntKind.i64 0))]=bndO b0:=rfl
 rw [hb0]
 obtain ⟨Hb,hHb⟩:∃ Hb,(H.add (bndO b0)).add (GO.box [LV.gp H.next 0])=Hb:=⟨_,rfl⟩
 have nb:Hb.next=H.next+2:=by rw [<- hHb];rfl
 have ob0:Hb.obj H.next=some (bndO b0):=by rw [<- hHb];exact add2_0
 have ob1:Hb.obj (H.next+1)=some (.box [.gp H.next 0]):=by rw [<- hHb];exact add2_1
 have obl:∀ m,m < H.next->Hb.obj m=H.obj m:=fun m hm=>by rw [<- hHb,GH.add_obj,GH.add_next,if_neg (by omega),GH.add_obj,if_neg (by omega)]
 rw [hHb]
 clear hHb
 have hon:Hb.obj n=some (sceneO s):=by rw [obl n ln];exact ho
 have hs:(sceneO s)=GO.box (((rShape s.sh).map .d ++ (rRoom s.room).map .d ++ [s.vals,s.loose,.d (.k (.bool s.has))] ++ (rRec s.low).map .d ++ (rRec s.high).map .d ++ [s.vers])):=rfl
 have hon':=hon
 rw [hs] at hon'
 refine AW.join (c:=cxF none 63 (kds [1] [3,4,9] [])) (fun a:Nat × GH=>⟨[(1,.ip [.gp n 0] 0),(3,.gp (H.next+1) 0),(4,.gp a.1 0)],[],a.2⟩)
  (fun a=>H.next+2<=a.1/\a.1 < a.2.next/\a.2.obj a.1=some (.box [.fn (.func (foldF s.sh.fold)) [] []])/\∀ m,m < H.next+2->a.2.obj m=Hb.obj m) (AW.ev cc ?_) ?_
 ·simp
  refine AW.draw cc [(0,.x),(1,.n)] (.q 1<|.q 2<|.q 3<|.q 4<|.f (.cons 0 (.q 5<|.q 6<|.q 7<|.f<|.one 8<|.f<|.one 9<|.done) (.cons 5 (.f (.cons 0 (.q 6<|.q 7<|.f<|.one 8<|.f<|.one 9<|.done) (.cons 8 (.f<|.one 0<|.q 6<|.q 7<|.f<|.one 9<|.done) (.nil)))) (.cons 8 (.f (.cons 0 (.q 5<|.q 6<|.q 7<|.f<|.one 9<|.done) (.cons 5 (.f<|.one 0<|.q 6<|.q 7<|.f<|.one 9<|.done) (.nil)))) (.nil))))) (by kernel_rfl) ?_
  have hon2:∀ o,(Hb.add o).obj n=Hb.obj n:=fun o=>by rw [GH.add_obj,if_neg (by omega)]
  have hon3:∀ o o',((Hb.add o).add o').obj n=Hb.obj n:=fun o o'=>by rw [GH.add_obj,GH.add_next,if_neg (by omega),GH.add_obj,if_neg (by omega)]
  have hlk:mfind (.int .i64 s.sh.fold) (foldEs.map fun e=>(e.1,LV.agg [e.2]))=some (.agg [.fn (.func (foldF s.sh.fold)) [] []]):=by
   have:s.sh.fold=1 \/ s.sh.fold=2 \/ s.sh.fold=3 \/ s.sh.fold=4:=by omega
   rcases this with q | q | q | q <;> rw [q] <;> rfl
  have hkey:(∀ (a:Value) (b:LV),(a,b) ∈ (foldEs.map fun e=>(e.1,LV.agg [e.2]))->(KK.sc (Sc.int IntKind.i64)).has a=true)=True:=by
   refine eq_true fun a b hab=>?_
   simp only [foldEs,List.map_cons,List.map_nil,List.mem_cons,List.not_mem_nil,or_false,Prod.mk.injEq] at hab
   rcases hab with ⟨rfl,_⟩ | ⟨rfl,_⟩ | ⟨rfl,_⟩ | ⟨rfl,_⟩ <;> rfl
  have hk1:∀ m,(KK.sc (Sc.int IntKind.i64)).has (Value.int IntKind.i64 m)=true:=fun _=>rfl
  have hoa:∀ (G:GH) o,(G.add o).obj G.next=some o:=fun G o=>by simp [GH.add_obj]
  simp only [foldEs,List.map_cons,List.map_nil] at hlk hkey
  have hfo0:=near_folds Hb
  have hfo1:=near_folds (Hb.add (GO.box [LV.d (DV.k Value.nilFunc)]))
  simp only [foldEs,List.map_cons,List.map_nil] at hfo0 hfo1
  simp [hon',hon2,rShape,rRoom,rRec]
  have hlow2:∀ o o' m,m < H.next+2->((Hb.add o).add o').obj m=Hb.obj m:=fun o o' m hm=>by rw [GH.add_obj,GH.add_next,if_neg (by omega),GH.add_obj,if_neg (by omega)]
  refine ⟨?_,⟨?_,?_⟩,?_,?_⟩
  ·refine ECn.of hfo0 (fun v H2 hR hn=>?_) (fun x H2 env hR _=>?_)
   rotate_left
   ·cases hR.1
   obtain ⟨e,rfl⟩:=hR
   cases e
   simp [hon',hon2,rShape,rRoom,rRec,hlk,hkey,hk1,hoa,GH.add_next,add2_0,add2_1,add2_set0,add2_set1,GH.add_set]
   exact JN.go (Hb.next+1,(Hb.add (.map (foldEs.map fun e=>(e.1,LV.agg [e.2])))).add (.box [.fn (.func (foldF s.sh.fold)) [] []])) ⟨by simp only;omega,by simp only [GH.add_next];omega,add2_1,fun m hm=>hlow2 _ _ m hm⟩ (by simp [foldEs])
  ·refine ECn.of hfo0 (fun v H2 hR hn=>?_) (fun x H2 env hR _=>?_)
   rotate_left
   ·cases hR.1
   obtain ⟨e,rfl⟩:=hR
   cases e
   simp [hon',hon2,rShape,rRoom,rRec,hlk,hkey,hk1,hoa,GH.add_next,add2_0,add2_1,add2_set0,add2_set1,GH.add_set]
   exact JN.go (Hb.next+1,(Hb.add (.map (foldEs.map fun e=>(e.1,LV.agg [e.2])))).add (.box [.fn (.func (foldF s.sh.fold)) [] []])) ⟨by simp only;omega,by simp only [GH.add_next];omega,add2_1,fun m hm=>hlow2 _ _ m hm⟩ (by simp [foldEs])
  all_goals
   refine ECn.of hfo1 (fun v H2 hR hn=>?_) (fun x H2 env hR _=>?_)
   rotate_left
   ·cases hR.1
   obtain ⟨e,rfl⟩:=hR
   cases e
   simp [hon',hon2,hon3,rShape,rRoom,rRec,hlk,hkey,hk1,hoa,GH.add_next,add2_0,add2_1,add2_set0,add2_set1,GH.add_set]
   exact JN.go (Hb.next,(Hb.add (.box [.fn (.func (foldF s.sh.fold)) [] []])).add (.map (foldEs.map fun e=>(e.1,LV.agg [e.2])))) ⟨by simp only;omega,by simp only [GH.add_next];omega,add2_0,fun m hm=>hlow2 _ _ m hm⟩ (by simp [foldEs])
 ·rintro ⟨k,H2⟩ ⟨k1,k2,k3,k4⟩
  simp only at k1 k2 k3 k4
  have o2n:H2.obj n=some (sceneO s):=by rw [k4 n (by omega)];exact hon
  have o20:H2.obj H.next=some (bndO b0):=by rw [k4 _ (by omega)];exact ob0
  have o21:H2.obj (H.next+1)=some (.box [.gp H.next 0]):=by rw [k4 _ (by omega)];exact ob1
  refine AW.seq cc ?_
  have hwf:=scene_waysF n H2 (by omega)
  simp
  refine ⟨by omega,EC.of hwf (fun v H2' hR=>?_) (fun v H2' hR=>?_)⟩
  rotate_left
  ·cases hR.1
  obtain ⟨e,hE⟩:=hR
  cases e
  rw [hE]
  clear hE
  simp
  refine AW.nb (fun hz2=>?_)
  simp only at hz2
  refine AWp.rangeFunc rfl rfl (f:=153) (first:=[]) (cap:=[.ip [.gp n 0] 0]) (by simp) (by simp)
   [(1,.ip [.gp n 0] 0),(3,.gp (H.next+1) 0),(4,.gp k 0)] (by simp [allL]) (by simp [allL,LV.nb,nbs];omega) (by simp [nbs,LV.nb];omega) ?_
  simp only [LS.s_mk,List.nil_append,List.singleton_append]
  generalize hx:LP.mk _ _ _ _ _ _ _=x
  have hxf:x.f=63:=by rw [<- hx]
  have hxd:x.d=H2.next:=by rw [<- hx]
  have hxe:∀ t,(x.env t).nb (H2.next+2):=by
   rw [<- hx]
   intro t
   refine envL_nb ?_ t
   simp [allL,LV.nb,nbs];omega
  obtain ⟨ws,hws⟩:∃ ws,waysM P (min P L.length) s.has=ws:=⟨_,rfl⟩
  obtain ⟨J,hJ⟩:∃ J:Nat->GH->Prop,J=fun i H'=>H'.obj (H2.next+1)=some (x.go .ready none)/\H'.obj H2.next=some .dfr/\(∀ m,m < H2.next->m ≠ H.next->H'.obj m=H2.obj m)/\H'.obj H.next=some (bndO ((ws.take i).foldl (stepB s F L) b0)):=⟨_,rfl⟩
  have hI:Iter prog (H2.next+1) (H2.next+2) (ws.map rowW) J (fun _=>False) (fun _ _=>False):=by
   refine ⟨fun {i H1 H3} hj hag _=>?_,fun h=>h.elim,fun h=>h.elim,fun {i H1} hj m o hm ho=>?_,fun h=>h.elim,fun h=>h.elim,?_⟩
   ·rw [hJ] at hj |-
    obtain ⟨q1,q2,q3,q4⟩:=hj
    exact ⟨by rw [hag _ (by omega)];exact q1,by rw [hag _ (by omega)];exact q2,fun m hm hne=>by rw [hag _ (by omega)];exact q3 m hm hne,by rw [hag _ (by omega)];exact q4⟩
   ·rw [hJ] at hj
    obtain ⟨q1,q2,q3,q4⟩:=hj
    by_cases e1:m=H2.next+1
    ·subst e1;rw [q1] at ho;cases ho
     exact ⟨by rw [hxd];omega,hxe⟩
    ·by_cases e2:m=H2.next
     ·subst e2;rw [q2] at ho;cases ho;trivial
     ·by_cases e3:m=H.next
      ·subst e3;rw [q4] at ho;cases ho
       exact bndO_nb _ _
      ·rw [q3 m (by omega) e3] at ho
       exact GO.nb_mono (by omega) (hz2.nb m o ho)
   ·intro i H1 r hr hN hz1 hj
    rw [hJ] at hj
    obtain ⟨q1,q2,q3,q4⟩:=hj
    obtain ⟨w,he,rfl⟩:∃ w,ws[i]?=some w/\r=rowW w:=by
     simp only [List.getElem?_map,Option.map_eq_some_iff] at hr
     obtain ⟨e,h1,h2⟩:=hr
     exact ⟨e,h1,h2.symm⟩
    have hwm:w ∈ waysM P (min P L.length) s.has:=by rw [hws];exact List.mem_of_getElem? he
    have hwb:w.gone+w.turned<=L.length/\w.gone+w.turned+w.more<=6:=by
     rcases waysM_mem.1 hwm with ⟨h1,h2,_⟩ | ⟨_,_,h⟩
     ·omega
     ·exact h.elim
    refine EYield.ofN (c:=fun l=>cxF (some l) 63 (kds [1] [3,4,9] [])) ccR (fun l=>by simp [hxf]) q1 ⟨_,by rw [hxf];exact func63⟩ (by rw [<- hx];rfl) (by rw [<- hx];simp) fun hz l=>?_
    have xa:=(congrArg LP.asn hx).symm
    have xb:=(congrArg LP.body hx).symm
    have xe:=(congrArg LP.env hx).symm
    have xp:=(congrArg LP.ps hx).symm
    have xn:=(congrArg LP.nt hx).symm
    dsimp only at xa xb xe xp xn
    rw [xa,xb,xe,xp,xn]
    clear xa xb xe xp xn hx
    simp [rowW,rWay,putAll]
    refine ⟨q1,?_⟩
    generalize hob:x.go .busy none=ob
    obtain ⟨H3,hH3⟩:∃ H3,H1.set (H2.next+1) ob=H3:=⟨_,rfl⟩
    have c3:∀ m,m < H2.next->H3.obj m=H1.obj m:=fun m hm=>by rw [<- hH3,GH.set_obj,if_neg (by omega)]
    have oy:H3.obj (H2.next+1)=some ob:=by rw [<- hH3,GH.set_same]
    have n3:H3.next=H1.next:=by rw [<- hH3];rfl
    have o3n:H3.obj n=some (sceneO s):=by rw [c3 n (by omega),q3 n (by omega) (by omega)];exact o2n
    have o30:H3.obj H.next=some (bndO ((ws.take i).foldl (stepB s F L) b0)):=by rw [c3 _ (by omega)];exact q4
    have o31:H3.obj (H.next+1)=some (.box [.gp H.next 0]):=by rw [c3 _ (by omega),q3 _ (by omega) (by omega)];exact o21
    have o3k:H3.obj k=some (.box [.fn (.func (foldF s.sh.fold)) [] []]):=by rw [c3 k k2,q3 k k2 (by omega)];exact k3
    rw [hH3]
    have hv1:=fun (G:GH) (hG:G.obj n=some (sceneO s))=>scene_values s F L hF hL h60 w hwb.1 hwb.2 false n G hG
    have hv2:=fun (G:GH) (hG:G.obj n=some (sceneO s))=>scene_values s F L hF hL h60 w hwb.1 hwb.2 true n G hG
    simp [rWay] at hv1 hv2
    refine AW.ev (ccR l) ?_
    simp
    refine AW.draw (ccR l) [(2,.r),(5,.r)] (.q 0<|.q 1<|.q 2<|.q 3<|.q 4<|.q 5<|.q 6<|.q 7<|.done) (by kernel_rfl) ?_
    simp
    refine ⟨by omega,FC.read (fun s' hg=>hv1 _ (hg.obj _ _ o3n (fun _ _ _ q=>by simp [sceneO] at q))) ?_⟩
    simp
    refine ⟨by omega,FC.read (fun s' hg=>hv2 _ (hg.obj _ _ o3n (fun _ _ _ q=>by simp [sceneO] at q))) ?_⟩
    obtain ⟨B,hB⟩:∃ B,(ws.take i).foldl (stepB s F L) b0=B:=⟨_,rfl⟩
    have hstep:(ws.take (i+1)).foldl (stepB s F L) b0=stepB s F L B w:=by
     rw [List.take_add_one,he];simp [hB]
    rw [hB] at o30
    have o30':=o30
    simp only [bndO,rNB,rWay,List.map_append,List.map_cons,List.map_nil,List.cons_append,List.nil_append,dI_eq,dB_eq] at o30'
    have hnn:H.next ≠ H2.next+1:=by omega
    have hback:∀ X,(H3.set H.next X).set (H2.next+1) (x.go .ready none)=H1.set H.next X:=fun X=>by
     rw [<- hH3,GH.set_comm (Ne.symm hnn),GH.set_set];exact GH.set_id (by rw [GH.set_obj,if_neg (Ne.symm hnn)];exact q1)
    have hdone:∀ (X:Bnd),stepB s F L B w=X->nbH (H3.set H.next (bndO X))->∃ st pend,(H3.set H.next (bndO X)).obj (H2.next+1)=some (x.go st pend)/\∃ H',Drop H1 ((H3.set H.next (bndO X)).set (H2.next+1) (x.go .ready none)) H'/\GH.same (H2.next+2) H1 H'/\J (i+1) H':=fun X hX _=>by
     refine ⟨.busy,none,by rw [GH.set_obj,if_neg (Ne.symm hnn),oy,hob],H1.set H.next (bndO X),?_,⟨rfl,fun m hm=>by rw [GH.set_obj,if_neg (by omega)]⟩,?_⟩
     ·rw [hback];exact (hz1.set (by omega) (bndO_nb _ _)).drop (Nat.le_refl _)
     ·rw [hJ]
      exact ⟨by rw [GH.set_obj,if_neg (by omega)];exact q1,by rw [GH.set_obj,if_neg (by omega)];exact q2,fun m hm hne=>by rw [GH.set_obj,if_neg hne];exact q3 m hm hne,by rw [GH.set_same,hstep,hX]⟩
    by_cases hpos:0 < (valsM F L w false (sRec s false)).length
    ·have hst:stepB s F L B w=takeM B w (foldOf s.sh.fold (valsM F L w false (sRec s false))) (foldOf s.sh.fold (valsM F L w true (sRec s true))):=by rw [stepB,if_pos hpos]
     have hvl:∀ g,(valsM F L w g (sRec s g)).length=(valsM F L w false (sRec s false)).length:=fun g=>by
      simp [valsM,keptM_len L w _ hwb.1]
     have hv66:∀ g,(valsM F L w g (sRec s g)).length<=66:=fun g=>by
      simp [valsM,keptM_len L w _ hwb.1];omega
     have hvm:∀ g,∀ v ∈ valsM F L w g (sRec s g),inMost v:=fun g v hv=>by
      simp only [valsM,List.mem_append,List.mem_map,List.mem_replicate] at hv
      rcases hv with (hv | ⟨y,hy,rfl⟩) | ⟨_,rfl⟩
      ·exact hmF v hv
      ·refine hmL y ?_
       unfold keptM at hy
       split at hy
       ·exact List.mem_of_mem_drop hy
       ·exact List.mem_of_mem_take hy
      ·exact hmR g
     have f1:=fold_call s.sh.fold hfo _ hpos (hv66 false) (hvm false)
     have f2:=fold_call s.sh.fold hfo _ (by rw [hvl true];exact hpos) (hv66 true) (hvm true)
     have ht:=bound_take B w (foldOf s.sh.fold (valsM F L w false (sRec s false))) (foldOf s.sh.fold (valsM F L w true (sRec s true))) H.next H3 o30
     simp [rWay] at f1 f2 ht
     simp [hpos]
     refine AW.draw (ccR l) [(4,.n),(7,.n),(8,.x)] (.q 3<|.q 6<|.q 0<|.q 1<|.f (.cons 2 (.q 4<|.f<|.one 5<|.q 7<|.f<|.one 8<|.done) (.cons 5 (.f<|.one 2<|.q 4<|.q 7<|.f<|.one 8<|.done) (.nil)))) (by kernel_rfl) ?_
     simp [o31,o3k]
     constructor
     all_goals
      refine FC.afun f1 ?_
      simp [o31,o3k]
      refine FC.afun f2 ?_
      simp
      refine ⟨by omega,ECn.of ht (fun v H4 hR _=>?_) (fun x' H4 env hR _=>?_)⟩
      rotate_left
      ·obtain ⟨⟨_,q⟩,_⟩:=hR;cases q
      obtain ⟨_,hE⟩:=hR
      rw [hE]
      simp
     all_goals
      intro hz4
      obtain ⟨st,pend,h1,h2⟩:=hdone _ hst hz4
      exact ⟨⟨st,pend,h1⟩,h2⟩
    ·have hnil:valsM F L w false (sRec s false)=[]:=List.eq_nil_of_length_eq_zero (by omega)
     have hdone2:∀ X,stepB s F L B w=X->nbH (H3.set H.next (bndO X))->(∃ st pend,(H3.set H.next (bndO X)).obj (H2.next+1)=some (x.go st pend))/\∃ H',Drop H1 ((H3.set H.next (bndO X)).set (H2.next+1) (x.go .ready none)) H'/\GH.same (H2.next+2) H1 H'/\J (i+1) H':=fun X hX hz4=>by
      obtain ⟨st,pend,h1,h2⟩:=hdone X hX hz4
      exact ⟨⟨st,pend,h1⟩,h2⟩
     simp [hnil,o31,o30']
     cases hbn:B.nb.none with
     | true =>
      have hst:stepB s F L B w=B:=by rw [stepB,if_neg hpos,hbn];rfl
      simp [hbn]
      have:=hdone2 B hst
      rw [GH.set_id o30] at this
      exact this
     | false =>
      have hst:stepB s F L B w = { B with nb:={ B.nb with none:=true },wn:=w }:=by rw [stepB,if_neg hpos,hbn];rfl
      simp [hbn]
      refine AW.draw (ccR l) [] (.q 0<|.q 3<|.q 4<|.q 5<|.f (.cons 1 (.f (.cons 2 (.f<|.one 6<|.q 7<|.q 8<|.f<|.one 9<|.done) (.cons 6 (.q 2<|.q 7<|.q 8<|.f<|.one 9<|.done) (.nil)))) (.cons 2 (.f (.cons 1 (.f<|.one 6<|.q 7<|.q 8<|.f<|.one 9<|.done) (.cons 6 (.q 1<|.q 7<|.q 8<|.f<|.one 9<|.done) (.nil)))) (.cons 6 (.q 1<|.q 2<|.q 7<|.q 8<|.f<|.one 9<|.done) (.nil))))) (by kernel_rfl) ?_
      have os:∀ o,(H3.set H.next o).obj H.next=some o:=fun o=>GH.set_same
      have os1:∀ o,(H3.set H.next o).obj (H.next+1)=some (.box [.gp H.next 0]):=fun o=>by rw [GH.set_obj,if_neg (by omega)];exact o31
      simp [o31,o30',os,os1,GH.set_set]
      exact hdone2 _ hst
  have hj0:J 0 ((H2.add .dfr).add (x.go .ready none)):=by
   rw [hJ]
   exact ⟨by rw [GH.add_obj,GH.add_next,if_pos rfl],by rw [GH.add_obj,GH.add_next,if_neg (by omega),GH.add_obj,if_pos rfl],fun m hm _=>by rw [GH.add_obj,GH.add_next,if_neg (by omega),GH.add_obj,if_neg (by omega)],
    by rw [GH.add_obj,GH.add_next,if_neg (by omega),GH.add_obj,if_neg (by omega)];exact o20⟩
  have hsc:∀ i H',J i H'->H'.obj n=some (sceneO s):=fun i H' hj=>by
   rw [hJ] at hj
   rw [hj.2.2.1 n (by omega) (by omega)];exact o2n
  rw [<- hws] at hI
  have hall:=scene_ways s L hL (by omega) P hP hP6 hI hsc ((H2.add .dfr).add (x.go .ready none)) (by rw [GH.add_next,GH.add_next];omega) hj0
  rw [hws] at hall
  refine hall.mono fun ce H3 hR=>?_
  obtain ⟨hs2,hR⟩:=hR
  cases ce with
  | pan x=>exact hR.elim
  | ret v =>
   rw [hJ] at hR
   obtain ⟨q1,q2,q3,q4⟩:=hR
   refine ⟨.ready,none,q1,by simp,?_⟩
   simp [jumpQ,hxd]
   have hfin:boundM s F L P=ws.foldl (stepB s F L) b0:=by rw [boundM,hws]
   rw [List.take_length] at q4
   rw [<- hfin] at q4
   have hne1:H.next ≠ H2.next+1:=by omega
   have hne2:H.next+1 ≠ H2.next+1:=by omega
   have o31:(H3.set (H2.next+1) (x.go .exhausted none)).obj (H.next+1)=some (.box [.gp H.next 0]):=by rw [GH.set_obj,if_neg hne2,q3 _ (by omega) (by omega)];exact o21
   refine AW.ev cc ?_
   simp [o31]
   have n3:H3.next=H2.next+2:=hs2.next
   refine fun _=>⟨by rw [GH.set_obj,if_neg (by omega)];exact q2,Drop_sub (by simp only [GH.set_next,GH.add_next];omega) (fun m hm=>?_) (hw.add (bndO_nb _ _)) (by rw [GH.add_next];omega),by rw [GH.add_next];omega⟩
   rw [GH.add_next] at hm
   simp only [upd_apply,GH.set_obj,GH.add_obj]
   rw [if_neg (show ¬ m=H2.next by omega),if_neg (show ¬ m=H2.next+1 by omega)]
   by_cases e:m=H.next
   ·rw [if_pos e,e];exact q4.symm
   ·rw [if_neg e,q3 m (by omega) e,k4 m (by omega),obl m (by omega)]
end Go.Aft
end
