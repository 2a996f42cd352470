import Derived.Test.YtdhphbedajhmnaaGreatA39
import Derived.Test.YtdhphbedajhmnaaGreatA34
set_option linter.all false
section
set_option maxRecDepth 20000
namespace Go.Aft
open Go.Proofs.Tryz
theorem lExp_strip {srcs defs:List Str} {a:Int}:∀ (e:Exp) (depth left l:Int),lExp srcs defs a e depth left=some l->∃ d' f' l',lExp srcs defs a (strip e).2 d' f'=some l'
 | .mk op name n fold calcs kids,depth,left,l,h=>by
  by_cases h5:op=5
  ·subst h5
   rw [strip,if_pos rfl]
   rw [lExp] at h
   split at h
   ·rename_i hc
    obtain ⟨x,hx,k1,k2⟩:=expOk_len hc.2.2.1
    simp [shpOf] at hx
    subst hx
    match calcs,kids,k1,k2,h with
    | [c],[k],_,_,h =>
     split at h
     ·rw [lExps] at h
      split at h
      ·rename_i l2 hl2
       rw [stripL]
       exact lExp_strip k _ _ _ hl2
      ·cases h
     ·cases h
   ·cases h
  ·rw [strip,if_neg h5];exact ⟨depth,left,l,h⟩
theorem formed_plain {p:Prog} (hf:formed p) {d:Nat} (hd:d < p.defs.length) (hp:(plainOf p p.defs[d].exp).2=true) :
  1<=(plainOf p p.defs[d].exp).1.n/\(plainOf p p.defs[d].exp).1.n<=50/\0<=(plainOf p p.defs[d].exp).1.src/\(plainOf p p.defs[d].exp).1.src < p.srcs.length/\1<=(plainOf p p.defs[d].exp).1.fold/\(plainOf p p.defs[d].exp).1.fold<=4/\p.srcs.length<=4:=by
 obtain ⟨⟨l,hl⟩,_⟩:=hf
 unfold countM at hl
 split at hl
 ·rename_i hcm
  obtain ⟨l1,l2,q1,q2,q3⟩:=lDefs_at _ _ _ _ hl (by omega) d hd
  obtain ⟨e,hx⟩:∃ e,p.defs[d].exp=e:=⟨_,rfl⟩
  rw [hx] at hp q1 |-
  unfold plainOf at hp |-
  by_cases h8:e.op=8
  ·rw [if_neg (by simpa using h8)] at hp |-
   by_cases h1:(stripL e.kids).2.op=1
   ·rw [if_neg (by simpa using h1)] at hp |-
    obtain ⟨op,name,n,fold,calcs,kids⟩:=e
    simp only [Exp.op_mk,Exp.kids_mk,Exp.n_mk,Exp.fold_mk] at h8 h1 |-
    subst h8
    rw [lExp] at q1
    split at q1
    ·rename_i hc
     have hek:=hc.2.2.1
     obtain ⟨x,hx,k1,k2⟩:=expOk_len hc.2.2.1
     have hsx:shpOf 8=some ⟨1,0,false,true,1,50⟩:=rfl
     simp only [expOk,hsx,Bool.and_eq_true,decide_eq_true_eq,if_true] at hek
     rw [hsx] at hx
     cases hx
     match calcs,kids,k1,k2,q1 with
     | [],[k],_,_,q1 =>
      rw [lCalcs] at q1
      simp only [lExps] at q1
      split at q1
      ·rename_i l3 h3
       obtain ⟨d',f',l',hs⟩:=lExp_strip k _ _ _ h3
       simp only [stripL] at h1 |-
       obtain ⟨e',he'⟩:∃ e',(strip k).2=e':=⟨_,rfl⟩
       rw [he'] at hs h1 |-
       obtain ⟨op',name',n',fold',calcs',kids'⟩:=e'
       simp only [Exp.op_mk,Exp.name_mk] at h1 |-
       subst h1
       rw [lExp] at hs
       split at hs
       ·rename_i hc'
        have hn:=hc'.2.2.2
        simp [nameOk] at hn
        exact ⟨hek.1.2.1,hek.1.2.2,hn,idx_lt _ _,hek.2.1,hek.2.2,hcm.2.1⟩
       ·cases hs
      ·cases q1
    ·cases q1
   ·rw [if_pos (by simpa using h1)] at hp;cases hp
  ·rw [if_pos (by simpa using h8)] at hp;cases hp
 ·cases hl
theorem sortL_perm (xs:List Loose):(sortL xs).Perm xs:=by
 have h:=(Go.Sort.insertionSort_holds cmpL_swo xs.toArray 0 xs.toArray.size (Nat.zero_le _) (Nat.le_refl _)).1
 have h3:=h.2.2
 have e1:=h.1
 simp only [List.size_toArray] at h3 e1
 have hx:(xs.toArray.extract 0 xs.length).toList=xs:=by simp
 have hy:((Go.Sort.insertionSort (ltOf' cmpL) xs.toArray 0 xs.length).extract 0 xs.length).toList=sortL xs:=by
  rw [sortL]
  generalize Go.Sort.insertionSort (ltOf' cmpL) xs.toArray 0 xs.length=D at e1
  rw [<- e1];simp
 rw [hx,hy] at h3
 exact h3
theorem comeM_in (f key:Int) (m:Nat):∀ (k:Nat) (s:Scene) (v:Int),inMost s.low.val->inMost s.high.val->(∀ j:Nat,j < k->inMost (v+j))->inMost (comeM f key m s v k).low.val/\inMost (comeM f key m s v k).high.val
 | 0,s,v,h1,h2,_=>⟨h1,h2⟩
 | k+1,s,v,h1,h2,h3=>by
  rw [comeM]
  have hv:inMost v:=by simpa using h3 0 (by omega)
  have hfv:∀ (m:Nat) (f:Int) (r:Rec),firstP s.sh key v f m=some r->r.val=v:=by
   intro m
   induction m with
   | zero=>intro f r h;simp [firstP] at h
   | succ m ih =>
    intro f r h
    rw [firstP] at h
    split at h
    ·cases h;rfl
    ·exact ih _ _ h
  refine comeM_in f key m k _ _ ?_ ?_ fun j hj=>by have:=h3 (j+1) (by omega);rw [show v+1+(j:Int)=v+((j+1:Nat):Int) by omega];exact this
  ·cases hfp:firstP s.sh key v f m with
   | none=>exact h1
   | some r =>
    simp only [comeO,comeS]
    split
    ·exact h1
    ·rw [hfv _ _ _ hfp];exact hv
  ·cases hfp:firstP s.sh key v f m with
   | none=>exact h2
   | some r=>simp only [comeO,comeS];rw [hfv _ _ _ hfp];exact hv
def nb0:NB:=⟨false,false,0,0⟩
def boundV (p:Prog) (d:Nat) (l:List News) (room:Room) (window key:Int):NB :=
 (boundM (sceneM l (plainOf p (p.defs.getD d default).exp).1 room window key 0) (fixedM l (plainOf p (p.defs.getD d default).exp).1 window key (standsM l)) (sortL (looseM l (plainOf p (p.defs.getD d default).exp).1 window key (standsM l))) room.most.toNat).nb
open Classical in
noncomputable def ofM (p:Prog) (d:Int) (l:List News) (room:Room) (window key:Int):NB × Int :=
 if askedB p d l room key=true then
  (if lookE (plainOf p (p.defs.getD d.toNat default).exp) l.length room window=0 then (boundV p d.toNat l room window key,0) else (nb0,lookE (plainOf p (p.defs.getD d.toNat default).exp) l.length room window))
 else (nb0,2)
theorem comeM_vers (f key:Int) (m:Nat) (a:LV):∀ (k:Nat) (s:Scene) (v:Int),comeM f key m { s with vers:=a } v k = { comeM f key m s v k with vers:=a }
 | 0,s,v=>rfl
 | k+1,s,v=>by
  rw [comeM,comeM]
  have:comeO { s with vers:=a } (firstP s.sh key v f m) = { comeO s (firstP s.sh key v f m) with vers:=a }:=by
   cases firstP s.sh key v f m <;> rfl
  have e:=comeM_vers f key m a k (comeO s (firstP s.sh key v f m)) (v+1)
  rw [<- e]
  simp only
  rw [this]
theorem near_Of (p:Prog) (hs:fitP p) (d:Int) (l:List News) (room:Room) (window key:Int) :
  AFun prog 40 [lv (rProg p),lvI d,sl (l.map rNews),lv (rRoom room),lvI window,lvI key] (.tup [lv (rNB (ofM p d l room window key).1),lvI (ofM p d l room window key).2]):=by
 intro H
 have cc:=cxK_ok (p:=kds [6,9] [] [])
 refine ECall.bodyNW (cxK_ok (p:=kds [6,9] [] [])) func40 rfl call40 (by rw [ntmps40];simp) rfl fun hf hw=>?_
 have ha:=near_isAsked p hs d l room key
 simp [rProg,rRoom] at ha
 simp [ntmps40,results40,rProg,rRoom] at hf |-
 refine AW.seq cc ?_
 simp
 refine AW.seq cc ?_
 simp
 refine EC.afun ha ?_
 cases hq:askedB p d l room key with
 | false =>
  simp
  exact fun hz=>⟨hz.drop (Nat.le_refl _),by simp [ofM,hq,nb0,rNB],by simp [ofM,hq]⟩
 | true =>
  have hq':=hq
  simp only [askedB,Bool.and_eq_true,decide_eq_true_eq] at hq'
  obtain ⟨⟨⟨⟨⟨hfm,hd0,hd1⟩,hl⟩,_⟩,hroom⟩,hkey⟩:=hq'
  have hd:d.toNat < p.defs.length:=by omega
  have hdd:((d.toNat:Nat):Int)=d:=by omega
  have hgd:p.defs.getD d.toNat default=p.defs[d.toNat]:=by simp [List.getD,List.getElem?_eq_getElem hd]
  have hpl:=formed_plain hfm hd
  have h12:=stands60 hl
  have hlook:=near_look p hs d.toNat hd hfm l hl h12 room hroom window key hkey H (fun h8=>by
   obtain ⟨k,hk,hw,_⟩:=formed_fold hfm hd h8;exact ⟨k,[],hk,hw⟩) (fun h=>⟨(hpl h).1,(hpl h).2.1,(hpl h).2.2.1,(hpl h).2.2.2.1⟩)
  rw [hdd] at hlook
  simp [rProg,rRoom] at hlook
  simp
  refine AW.seq cc ?_
  simp
  obtain ⟨E,hE⟩:∃ E,lookE (plainOf p p.defs[d.toNat].exp) l.length room window=E:=⟨_,rfl⟩
  rw [hE] at hlook
  by_cases hE0:E=0
  ·simp only [if_pos hE0] at hlook
   refine EC.of hlook (fun v H2 hR=>?_) (fun v H2 hR=>?_)
   rotate_left
   ·cases hR.1
   obtain ⟨e,es,hmv,hH2⟩:=hR
   cases e
   simp
   refine AW.ev cc ?_
   obtain ⟨sh,hsh⟩:∃ sh,(plainOf p p.defs[d.toNat].exp).1=sh:=⟨_,rfl⟩
   rw [hsh] at hH2 hpl
   have hpt:(plainOf p p.defs[d.toNat].exp).2=true:=by
    cases hb:(plainOf p p.defs[d.toNat].exp).2 with
    | true=>rfl
    | false=>rw [lookE,if_pos hb] at hE;omega
   have hpl:=hpl hpt
   have hrm:(0<=room.most/\room.most<=6)/\valB room.low=true/\valB room.high=true:=by
    simp [roomB,inB] at hroom
    exact ⟨hroom.1.1.1,hroom.1.1.2,hroom.1.2⟩
   obtain ⟨SC,hSC⟩:∃ SC,sceneM l sh room window key H.next=SC:=⟨_,rfl⟩
   have hk:=comeM_keep (maxI (window - sh.n+1) (markM l sh.src)) key (window - maxI (window - sh.n+1) (markM l sh.src)+1).toNat (room.high - room.low+1).toNat (scene0 sh room (sl ((fixedM l sh window key (standsM l)).map rI)) (sl ((sortL (looseM l sh window key (standsM l))).map rLoose)) H.next) room.low
   have hci:=comeM_in (maxI (window - sh.n+1) (markM l sh.src)) key (window - maxI (window - sh.n+1) (markM l sh.src)+1).toNat (room.high - room.low+1).toNat (scene0 sh room (sl ((fixedM l sh window key (standsM l)).map rI)) (sl ((sortL (looseM l sh window key (standsM l))).map rLoose)) H.next) room.low (by simp [scene0,zeroRec,inMost]) (by simp [scene0,zeroRec,inMost]) (fun j hj=>by
    have h1:=hrm.2.1;have h2:=hrm.2.2
    simp [valB,inB] at h1 h2
    unfold inMost;omega)
   rw [<- sceneM,hSC] at hk hci
   rw [hSC] at hH2
   have hval:=standsM_val hl
   have hbd:=scene_bound SC (fixedM l sh window key (standsM l)) (sortL (looseM l sh window key (standsM l))) hk.1 hk.2.1 (by
     rw [sortL_len];simp only [fixedM,looseM,List.length_map]
     have h1:=filt2 (inWin sh window key) (isLoose l sh) (standsM l)
     omega) room.most.toNat (by rw [hk.2.2.2.2];simp only [scene0];omega) (by omega) (by rw [hk.2.2.2.1];simp only [scene0];omega)
    (fun x hx=>by
     obtain ⟨e,he,rfl⟩:=List.mem_map.1 hx
     exact hval e (List.mem_filter.1 he).1)
    (fun x hx=>by
     have hx:=(Go.Aft.sortL_perm _).mem_iff.1 hx
     obtain ⟨e,he,rfl⟩:=List.mem_map.1 hx
     exact hval e (List.mem_filter.1 he).1)
    (fun g=>by unfold sRec;split;exact hci.2;exact hci.1) (H.next+1) H2 (by rw [hH2];exact add2_1)
   have n2:H2.next=H.next+2:=by rw [hH2];rfl
   simp
   refine ⟨by omega,EC.of hbd (fun v H3 hR=>?_) (fun v H3 hR=>?_)⟩
   rotate_left
   ·cases hR.1
   obtain ⟨e,hH3⟩:=hR
   cases e
   have o3:H3.obj H2.next=some (bndO (boundM SC (fixedM l sh window key (standsM l)) (sortL (looseM l sh window key (standsM l))) room.most.toNat)):=by rw [hH3];simp [GH.add_obj]
   have o3':=o3
   simp only [bndO,rNB,rWay,List.map_append,List.map_cons,List.map_nil,List.cons_append,List.nil_append,dI_eq,dB_eq] at o3'
   simp [o3']
   have hSC0:SC = { sceneM l sh room window key 0 with vers:=.gm H.next }:=by
    rw [<- hSC];exact comeM_vers _ _ _ (.gm H.next) _ (scene0 sh room _ _ 0) room.low
   have hof:ofM p d l room window key=((boundM SC (fixedM l sh window key (standsM l)) (sortL (looseM l sh window key (standsM l))) room.most.toNat).nb,0):=by
    rw [ofM,if_pos hq,hgd,if_pos (hE.trans hE0),boundV,hgd,hsh,hSC0];rfl
   rw [hof]
   refine fun _=>⟨Drop_same (by rw [hH3,GH.add_next];omega) (fun m hm=>by rw [hH3,GH.add_obj,if_neg (by omega),hH2,GH.add_obj,if_neg (by simp only [GH.add_next];omega),GH.add_obj,if_neg (by omega)]) hw.none,by simp [rNB],rfl⟩
  ·simp only [if_neg hE0] at hlook
   refine EC.of hlook (fun v H2 hR=>?_) (fun v H2 hR=>?_)
   rotate_left
   ·cases hR.1
   obtain ⟨e,rfl⟩:=hR
   cases e
   simp
   refine AW.ev cc ?_
   have hof:ofM p d l room window key=(nb0,E):=by
    rw [ofM,if_pos hq,hgd,if_neg (by rw [hE];exact hE0),hE]
   simp [hE0,hof,nb0,rNB]
   exact fun hz=>hz.drop (Nat.le_refl _)
end Go.Aft
end
section
set_option maxRecDepth 20000
namespace Go.Aft
open Go.Proofs.Tryz
structure Ask where
 d:Int
 room:Room
 window:Int
 key:Int
def rAsk (a:Ask):List DV:=dI a.d :: (rRoom a.room ++ [dI a.window,dI a.key])
theorem law_bound (p:Prog) (hs:fitP p) (l:List News) (a:Ask) :
  AFun prog 21 [lv (rProg p),sl (l.map rNews),lv (rAsk a)] (.tup [lv (rNB (ofM p a.d l a.room a.window a.key).1),lvI (ofM p a.d l a.room a.window a.key).2]):=by
 have cc:=cxK_ok (p:=kds [3,5] [] [])
 refine AFun.bodyW (cxK_ok (p:=kds [3,5] [] [])) func21 rfl call21 (by rw [ntmps21];simp) rfl fun hf H=>?_
 have h:=near_Of p hs a.d l a.room a.window a.key
 generalize ofM p a.d l a.room a.window a.key=o at h |-
 obtain ⟨⟨so,no,lo,hi⟩,w⟩:=o
 simp [rProg,rRoom,rNB,dB,dI] at h
 simp [ntmps21,results21,rProg,rAsk,rRoom,rNB,dB,dI] at hf |-
 refine AW.seq cc ?_
 simp
 refine AW.seq cc ?_
 simp
 refine EC.afun h ?_
 simp
 refine AW.ev cc ?_
 simp [rNB]
theorem law_is (a:Ask) (b:NB) (hs:fitP exP) :
  AFun prog 37 [lv (rAsk a),lv (rNB b)] (.d (.k (.bool (decide ((ofM exP a.d exN a.room a.window a.key).2=0/\(ofM exP a.d exN a.room a.window a.key).1=b))))):=by
 have cc:=cxS_ok (p:=kds [2,3] [] [])
 refine AFun.bodyW (cxS_ok (p:=kds [2,3] [] [])) func37 rfl call37 (by rw [ntmps37];simp) rfl fun hf H=>?_
 have h:=law_bound exP hs exN a
 have h1:=law_Example
 have h2:=law_News
 generalize ofM exP a.d exN a.room a.window a.key=o at h |-
 obtain ⟨⟨so,no,lo,hi⟩,w⟩:=o
 obtain ⟨so',no',lo',hi'⟩:=b
 generalize rProg exP=ep at h h1
 simp [rAsk,rRoom,rNB,dB,dI] at h
 simp [ntmps37,results37,rAsk,rRoom,rNB,dB,dI] at hf |-
 refine AW.seq cc ?_
 simp
 refine AW.seq cc ?_
 refine AW.draw cc [(0,.n),(1,.n),(3,.n)] (.q 0<|.q 1<|.q 2<|.q 3<|.q 4<|.q 5<|.q 6<|.f<|.one 7<|.f<|.one 8<|.q 9<|.done) (by kernel_rfl) ?_
 simp
 refine FC.afun h1 ?_
 simp
 refine FC.afun h2 ?_
 simp
 refine FC.afun h ?_
 simp
 refine AW.ev cc ?_
 simp
 rfl
theorem diffM_of {l:List Str} (h:∀ i (h:i < l.length),nameM l[i]=true/\∀ x ∈ l.take i,x ≠ l[i]):diffM l:=fun i hi=>⟨(h i hi).1,fun hm=>(h i hi).2 _ hm rfl⟩
theorem ex_count:∃ l,countM exP=some l:=by
 have h:diffM (exP.srcs ++ defNames exP):=diffM_of (by decide +kernel)
 refine ⟨52,?_⟩
 rw [countM,if_pos ⟨by decide,by decide,by decide,h⟩]
 decide +kernel
theorem ex_formed:formed exP:=by
 refine ⟨ex_count,fun i h _ e he=>?_⟩
 have:∀ d ∈ exP.defs,∀ e ∈ allE d.exp,looksAhead e=false:=by decide +kernel
 exact this _ (List.getElem_mem h) e he
theorem ex_def {d:Int} (h:d=0 \/ d=1):isDefM exP d:=⟨ex_formed,by rcases h with rfl | rfl <;> decide,by rcases h with rfl | rfl <;> decide⟩
theorem ex_fit:fitP exP:=by unfold fitP strFit;decide +kernel
theorem ex_plain:plainV exP 0=.tup [lvI 0,lvI 10,lvI 0]:=by
 rw [plainV,dif_pos (ex_def (.inl rfl))];rfl
theorem ex_passes:passesV exP 1 ⟨3,0,8⟩=.tup [.d (.k (.bool false)),lvI 0]:=by
 rw [passesV,dif_pos ⟨ex_def (.inr rfl),by decide⟩];rfl
theorem ex_asked {d:Int} (h:d=0 \/ d=1) {room:Room} (hr:roomB room=true):askedB exP d exN room 0=true:=by
 have h1:formedB exN exP.srcs.length=true:=by decide +kernel
 have h2:lateM exN=[]:=by decide +kernel
 have h3:valB 0=true:=by decide
 simp [askedB,ex_def h,h1,h2,h3,hr]
theorem sortL2 (a b:Loose):sortL [a,b]=if ltOf' cmpL b a=true then [b,a] else [a,b]:=by
 simp only [sortL,Go.Sort.insertionSort]
 rw [Go.Sort.insOuter,if_pos (by simp),Go.Sort.insOuter,if_neg (by simp)]
 simp [Go.Sort.insInner,Go.Sort.swp]
 split <;> rfl
def e2:Event:=⟨0,2,⟨12,0,9⟩⟩
def e3:Event:=⟨0,3,⟨14,0,2⟩⟩
def sh0:Shape:=⟨0,10,2,[]⟩
def sh1:Shape:=⟨0,10,4,[exTerm]⟩
theorem ex_loose0:looseM exN sh0 19 0 (standsM exN)=[⟨e2,1⟩,⟨e3,1⟩]:=by rfl
theorem ex_loose1:looseM exN sh1 19 0 (standsM exN)=[⟨e3,1⟩]:=by rfl
theorem ex_fixed0:fixedM exN sh0 19 0 (standsM exN)=[]:=by rfl
theorem ex_fixed1:fixedM exN sh1 19 0 (standsM exN)=[]:=by rfl
theorem ex_sort0:sortL [⟨e2,1⟩,⟨e3,1⟩]=[⟨e3,1⟩,⟨e2,1⟩]:=by rw [sortL2];rfl
theorem ex_sort1 (a:Loose):sortL [a]=[a]:=by
 simp only [sortL,Go.Sort.insertionSort]
 rw [Go.Sort.insOuter,if_neg (by simp)]
theorem ex_bound0:ofM exP 0 exN ⟨1,1,5⟩ 19 0=(⟨true,false,2,16⟩,0):=by
 rw [ofM,if_pos (ex_asked (.inl rfl) (by decide))]
 have e:plainOf exP (exP.defs.getD (0:Int).toNat default).exp=(sh0,true):=rfl
 rw [e,if_pos (by decide),boundV]
 have e:plainOf exP (exP.defs.getD (0:Int).toNat default).exp=(sh0,true):=rfl
 rw [e]
 simp only [ex_loose0,ex_fixed0,ex_sort0]
 refine Prod.ext ?_ rfl
 decide +kernel
theorem ex_bound1:ofM exP 1 exN ⟨1,6,12⟩ 19 0=(⟨true,true,2,7⟩,0):=by
 rw [ofM,if_pos (ex_asked (.inr rfl) (by decide))]
 have e:plainOf exP (exP.defs.getD (1:Int).toNat default).exp=(sh1,true):=rfl
 rw [e,if_pos (by decide),boundV]
 have e:plainOf exP (exP.defs.getD (1:Int).toNat default).exp=(sh1,true):=rfl
 rw [e]
 simp only [ex_loose1,ex_fixed1,ex_sort1]
 refine Prod.ext ?_ rfl
 decide +kernel
end Go.Aft
end
section
set_option maxRecDepth 20000
namespace Go.Aft
open Go.Proofs.Tryz
theorem law_known:AFun prog 19 [] (.d (.k (.bool true))):=by
 have cc:=cxS_ok (p:=kds [] [] [])
 refine AFun.bodyW (cxS_ok (p:=kds [] [] [])) func19 rfl call19 (by rw [ntmps19];simp) rfl fun hf H=>?_
 have h1:=law_Example
 have h2:=near_Plain exP ex_fit 0
 rw [ex_plain] at h2
 have h3:=near_Passes exP ex_fit 1 ⟨3,0,8⟩
 rw [ex_passes] at h3
 have h4:=law_is ⟨0,⟨1,1,5⟩,19,0⟩ ⟨true,false,2,16⟩ ex_fit
 rw [ex_bound0] at h4
 have h5:=law_is ⟨1,⟨1,6,12⟩,19,0⟩ ⟨true,true,2,7⟩ ex_fit
 rw [ex_bound1] at h5
 generalize rProg exP=ep at h1 h2 h3
 simp [rAsk,rRoom,rNB,dB,dI,rRec] at h3 h4 h5
 simp [ntmps19,results19] at hf |-
 refine AW.seq cc ?_
 simp
 refine AW.seq cc ?_
 simp
 refine EC.afun h1 ?_
 simp
 refine EC.afun h2 ?_
 simp
 refine AW.seq cc ?_
 simp
 refine EC.afun h1 ?_
 simp
 refine EC.afun h3 ?_
 simp
 refine AW.ev cc ?_
 simp
 refine EC.afun h4 ?_
 simp
 refine EC.afun h5 ?_
 simp
end Go.Aft
end
section
set_option maxRecDepth 20000
namespace Go.Aft
open Go.RowKit
open Go.Proofs.Tryz
section
variable {H:Type} {enc:TypeId × Value->H} {w:World}
theorem RdFs.conv {P:Program} {α β:Type} {n off fuel:Nat} {fs:List Field} {r:α->List DV} {fit:α->Prop} {r':β->List DV} {fit':β->Prop} (h:RdFs enc P w n fs off r fit fuel) (g:α->β) (hr:∀ x,r' (g x)=r x) (hf:∀ x,fit x->fit' (g x)):RdFs enc P w n fs off r' fit' fuel :=
 fun cs xs h1 h2=>by
  obtain ⟨x,q1,q2⟩:=h cs xs h1 h2
  exact ⟨g x,by rw [hr];exact q1,fun q=>hf x (q2 q)⟩
theorem rd_rec (fuel:Nat):Rd enc prog w 27 rRec (fun _=>True) fuel :=
 Rd.struct underlying27 fuel fun f hf=>((RdFs.cons (n:=3) rfl (Rd.int underlying3 f)<|RdFs.cons rfl (Rd.int underlying3 f)<|RdFs.cons rfl (Rd.int underlying3 f)<|RdFs.nil)).conv (fun x=>⟨x.1,x.2.1,x.2.2.1⟩) (fun _=>rfl) (fun _ _=>trivial)
theorem rd_calc:∀ fuel,Rd enc prog w 135 rCalc (fun _=>True) fuel:=fun fuel=>by
 induction fuel using Nat.strongRecOn with
 | _ fuel ih =>
  refine Rd.struct underlying135 fuel fun f hf=>?_
  refine (RdFs.cons (n:=3) rfl (Rd.int underlying133 f)<|RdFs.cons rfl (Rd.int underlying3 f)<|RdFs.cons rfl (Rd.slice (r:=rCalc) (fit:=fun _=>True) underlying68 (by decide +kernel) (fun x=>?_) f fun g hg=>ih g (by omega))<|RdFs.nil).conv (fun x=>.mk x.1 x.2.1 x.2.2.1) (fun x=>?_) (fun _ _=>trivial)
  ·rw [rCalc_len];decide +kernel
  ·rw [rCalc,rCalcs_map];rfl
theorem rd_exp:∀ fuel,Rd enc prog w 105 rExp (fun _=>True) fuel:=fun fuel=>by
 induction fuel using Nat.strongRecOn with
 | _ fuel ih =>
  refine Rd.struct underlying105 fuel fun f hf=>?_
  refine (RdFs.cons (n:=6) rfl (Rd.int underlying102 f)<|RdFs.cons rfl (Rd.str underlying9 f)<|RdFs.cons rfl (Rd.int underlying3 f)<|RdFs.cons rfl (Rd.int underlying58 f)<|RdFs.cons rfl (Rd.slice (r:=rCalc) (fit:=fun _=>True) underlying68 (by decide +kernel) (fun x=>?_) f fun g hg=>rd_calc g)<|RdFs.cons rfl (Rd.slice (r:=rExp) (fit:=fun _=>True) underlying103 (by decide +kernel) (fun x=>?_) f fun g hg=>ih g (by omega))<|RdFs.nil).conv (fun x=>.mk x.1 x.2.1 x.2.2.1 x.2.2.2.1 x.2.2.2.2.1 x.2.2.2.2.2.1) (fun x=>?_) (fun _ _=>trivial)
  ·rw [rCalc_len];decide +kernel
  ·rw [rExp_len];decide +kernel
  ·rw [rExp,rCalcs_map,rExps_map];rfl
theorem rd_def (fuel:Nat):Rd enc prog w 107 rDef (fun d=>strFit d.name) fuel :=
 Rd.struct underlying107 fuel fun f hf=>(RdFs.cons (n:=7) rfl (Rd.str underlying9 f)<|RdFs.cons rfl (rd_exp f)<|RdFs.nil).conv (fun x=>⟨x.1,x.2.1⟩) (fun x=>by simp [rDef]) (fun x h=>h.1)
theorem rd_prog (fuel:Nat):Rd enc prog w 25 rProg fitP fuel :=
 Rd.struct underlying25 fuel fun f hf=>(RdFs.cons (n:=2) rfl (Rd.slice (r:=rS) (fit:=strFit) underlying22 (by decide +kernel) (fun x=>by rw [rS,show prog.cellsOf 9=1 by decide +kernel];rfl) f fun g hg=>Rd.str underlying9 g)<|RdFs.cons rfl (Rd.slice (r:=rDef) (fit:=fun d=>strFit d.name) underlying23 (by decide +kernel) (fun x=>by rw [rDef_len];decide +kernel) f fun g hg=>rd_def g)<|RdFs.nil).conv (fun x=>⟨x.1,x.2.1⟩) (fun x=>rfl) (fun x h s hs=>by
  rcases List.mem_append.1 hs with q | q
  ·exact h.1 s q
  ·obtain ⟨d,hd,rfl⟩:=List.mem_map.1 q
   exact h.2.1 d hd)
end
end Go.Aft
end
section
set_option maxRecDepth 20000
namespace Go.Aft
open Go.Proofs.Tryz
theorem ref05_Good (n:News) (srcs:Int) (hs:0<=srcs/\srcs<=4):AFun prog 204 [lv (rNews n),lvI srcs] (.d (.k (.bool (goodB n srcs)))):=by
 have cc:=cxS_ok (p:=kds [2] [] [])
 refine AFun.bodyW (cxS_ok (p:=kds [2] [] [])) func204 rfl call204 (by rw [ntmps204];simp) rfl fun hf H=>?_
 have hr:=ref05_Rec n.rec_
 simp [rRec] at hr
 have w:IntKind.wrap .i64 (srcs - 1)=srcs - 1:=by rw [wrap64] <;> omega
 simp [ntmps204,results204,rNews,rRec] at hf |-
 refine AW.seq cc ?_
 simp
 refine AW.seq cc ?_
 simp [w]
 refine EC.afun (ref05_in _ _ _) ?_
 cases h1:inB n.src 0 (srcs - 1) with
 | false=>simp [goodB,h1]
 | true =>
  simp
  refine AW.seq cc ?_
  simp
  refine ⟨fun e1=>?_,fun e1=>?_⟩
  ·refine EC.afun (ref05_in _ _ _) ?_
   cases h2:inB n.id 0 999 with
   | false=>simp [goodB,h1,e1,saidB,h2]
   | true =>
    simp
    refine EC.afun (ref05_in _ _ _) ?_
    cases h3:inB n.ver 1 99 with
    | false=>simp [goodB,h1,e1,saidB,h2,h3]
    | true =>
     simp
     refine EC.afun hr ?_
     simp [goodB,h1,e1,saidB,h2,h3]
  ·refine ⟨fun e2=>?_,fun e2=>?_⟩
   ·have hz:(n.rec_=zeroRec) ↔ (n.rec_.at_=0/\n.rec_.key=0/\n.rec_.val=0):=by
     obtain ⟨d0,s0,i0,v0,⟨x,y,z⟩⟩:=n
     simp [zeroRec]
    refine EC.afun (ref05_in _ _ _) ?_
    cases h2:inB n.id 0 999 with
    | false=>simp [goodB,h1,e1,e2,saidB,h2]
    | true =>
     simp
     refine EC.afun (ref05_in _ _ _) ?_
     cases h3:inB n.ver 1 99 with
     | false=>simp [goodB,h1,e1,e2,saidB,h2,h3]
     | true =>
      simp [goodB,h1,e1,e2,saidB,h2,h3]
      by_cases q:n.rec_=zeroRec
      ·rw [q];rfl
      ·have q':¬ (n.rec_.at_=0/\n.rec_.key=0/\n.rec_.val=0):=fun h=>q (hz.2 h)
       rw [Bool.eq_iff_iff]
       simp [q]
       exact fun a b c=>q' ⟨a,b,c⟩
   ·refine ⟨fun e3=>⟨fun q1 q2 q3 q4=>⟨⟨⟨q1,q2⟩,q3,q4⟩,EC.afun (ref05_in _ _ _) ?_⟩,fun q=>?_⟩,fun e3=>?_⟩
    ·simp [goodB,h1,e1,e2,e3,markedB,q1,q2,q3,q4]
    ·have hb:(n.id == 0 && n.ver == 0 && (n.rec_.key == 0 && n.rec_.val == 0))=false:=by
      rw [Bool.eq_false_iff];intro h;simp at h;exact q h.1.1 h.1.2 h.2.1 h.2.2
     rw [hb]
     have hm:markedB n=false:=by
      rw [Bool.eq_false_iff];intro h;simp [markedB] at h;exact q h.1.1.1 h.1.1.2 h.1.2.1 h.1.2.2
     simp [goodB,h1,e1,e2,e3,hm]
    ·refine AW.ev cc ?_
     simp [goodB,h1,e1,e2,e3]
theorem ref05_Clashes (a b:News):AFun prog 205 [lv (rNews a),lv (rNews b)] (.d (.k (.bool (clashB a b)))):=by
 have cc:=cxS_ok (p:=kds [2,3] [] [])
 refine AFun.bodyW (cxS_ok (p:=kds [2,3] [] [])) func205 rfl call205 (by rw [ntmps205];simp) rfl fun hf H=>?_
 simp [ntmps205,results205,rNews,rRec] at hf |-
 refine AW.seq cc ?_
 simp
 refine AW.ev cc ?_
 obtain ⟨d0,s0,i0,v0,⟨x,y,z⟩⟩:=a
 obtain ⟨d1,s1,i1,v1,⟨x1,y1,z1⟩⟩:=b
 simp [clashB]
 simp only [bne,Bool.and_assoc]
 rfl
theorem ref05_plain (l:List News) (srcs:Int):AFun prog 157 [sl (l.map rNews),lvI srcs] (.d (.k (.bool (plainB l srcs)))):=by
 have cc:=cxK_ok (p:=kds [] [] [])
 refine AFun.bodyW (cxK_ok (p:=kds [] [] [])) func157 rfl call157 (by rw [ntmps157];simp) rfl fun hf H=>?_
 simp [ntmps157,results157] at hf |-
 refine AW.seq cc ?_
 simp
 refine AW.seq cc ?_
 simp
 refine EC.afun (ref05_in _ _ _) ?_
 cases h1:inB srcs 1 4 with
 | false=>simp [plainB,h1]
 | true =>
  by_cases h2:l.length<=60
  rotate_left
  ·have h2':¬ ((l.length:Int)<=60):=by omega
   simp [h2',plainB,h1,h2]
  ·have h2':((l.length:Int)<=60):=by omega
   simp [h2']
   have hs:0<=srcs/\srcs<=4:=by simp [inB] at h1;omega
   refine ⟨fun q=>absurd h2' (by omega),AW.ev cc ?_⟩
   simp
   refine AW.loopS cc (fun k:Nat=>⟨[(0,.d (.sl (l.map rNews))),(1,lvI srcs),(5,lvI k)],[],H⟩) (fun k=>l.length - k) (fun k=>k<=l.length/\∀ j (h:j < l.length),j < k->goodB l[j] srcs=true) 0 ⟨by simp,by simp⟩ ?_
   rintro k ⟨hk,hI⟩
   simp
   refine ⟨fun h=>?_,fun h=>?_⟩
   ·have hg:=ref05_Good l[k] srcs hs
    simp [rNews,rRec] at hg
    simp [h,List.getElem?_eq_getElem h,rNews,rRec]
    refine EC.afun hg ?_
    simp
    refine ⟨fun e=>?_,fun e=>?_⟩
    ·have:plainB l srcs=false:=by
      rw [plainB]
      have:(l.any fun n=>!goodB n srcs)=true:=List.any_eq_true.2 ⟨l[k],List.getElem_mem h,by simp [e]⟩
      simp [this]
     rw [this]
    ·refine NX.go (k+1) (Nat.sub_lt_sub_left h (Nat.lt_succ_self k)) ⟨h,fun j hj hjk=>?_⟩ (by simp [wrap_succ h hf.1])
     by_cases z:j=k
     ·subst z;exact e
     ·exact hI j hj (by omega)
   ·have:plainB l srcs=true:=by
     have ha:(l.any fun n=>!goodB n srcs)=false:=by
      rw [List.any_eq_false]
      intro n hn
      obtain ⟨j,hj,rfl⟩:=List.mem_iff_getElem.1 hn
      simp [hI j hj (by omega)]
     simp [plainB,h1,h2,ha]
    rw [this]
theorem ref05_clash (l:List News):AFun prog 158 [sl (l.map rNews)] (clashV (clashM l)):=by
 have cc:=cxK_ok (p:=kds [] [] [])
 refine AFun.bodyW (cxK_ok (p:=kds [] [] [])) func158 rfl call158 (by rw [ntmps158];simp) rfl fun hf H=>?_
 simp [ntmps158,results158] at hf |-
 refine AW.seq cc ?_
 simp
 refine AW.ev cc ?_
 simp
 refine AW.loopS cc (fun k:Nat=>⟨[(0,.d (.sl (l.map rNews))),(5,lvI k)],[],H⟩) (fun k=>l.length - k)
  (fun k=>k<=l.length/\∀ j,j < k->clashAt l j=none) 0 ⟨by simp,by simp⟩ ?_
 rintro k ⟨hk,hI⟩
 simp
 refine ⟨fun h=>?_,fun h=>?_⟩
 ·refine AW.loopS cc (fun i:Nat=>⟨[(0,.d (.sl (l.map rNews))),(5,lvI k),(6,lvI i)],[],H⟩) (fun i=>k - i)
    (fun i=>i<=k/\∀ j (hj:j < i) (hjk:j < k),clashB l[j] l[k]=false) 0 ⟨⟨by simp,by simp⟩,by simp⟩ ?_
  rintro i ⟨hi,hJ⟩
  simp
  refine ⟨fun hik=>?_,fun hik=>?_⟩
  ·have hil:i < l.length:=by omega
   have hc:=ref05_Clashes l[i] l[k]
   simp [rNews,rRec] at hc
   refine AW.draw cc [(8,.n)] (.q 0<|.q 1<|.q 2<|.q 4<|.q 5<|.q 6<|.q 3<|.q 7<|.q 8<|.done) (by kernel_rfl) ?_
   simp [h,hil,List.getElem?_eq_getElem h,List.getElem?_eq_getElem hil,rNews,rRec]
   refine FC.afun hc ?_
   simp
   refine ⟨fun e=>?_,fun e=>?_⟩
   ·rw [clashM_some h (fun j hj=>hI j hj) (clashAt_yes h hik e fun j hj=>hJ j hj (by omega))]
    simp [clashV,LV.nb,nbs]
   ·refine NX.go (i+1) (Nat.sub_lt_sub_left hik (Nat.lt_succ_self i)) ⟨hik,fun j hj hjk=>?_⟩ (by simp [wrap_succ hil hf.1])
    by_cases z:j=i
    ·subst z;exact e
    ·exact hJ j (by omega) hjk
  ·have:i=k:=by omega
   subst this
   refine NX.go (i+1) (Nat.sub_lt_sub_left h (Nat.lt_succ_self i)) ⟨h,fun j hj=>?_⟩ (by simp [wrap_succ h hf.1])
   by_cases z:j=i
   ·subst z;exact clashAt_no h fun i hi=>hJ i hi hi
   ·exact hI j (by omega)
 ·have:clashM l=none:=clashM_none fun j hj=>hI j (by omega)
  rw [this];simp [clashV,LV.nb,nbs]
theorem ref05_Formed (l:List News) (srcs:Int):AFun prog 109 [sl (l.map rNews),lvI srcs] (.d (.k (.bool (formedB l srcs)))):=by
 refine AFun.body cx0_ok func109 rfl call109 (by rw [ntmps109];simp) rfl fun hf H=>?_
 have h1:=ref05_plain l srcs
 have h2:=ref05_clash l
 simp at h1 h2
 simp [ntmps109,results109]
 refine EC.afun h1 ?_
 cases hp:plainB l srcs with
 | false=>simp [formedB,hp]
 | true =>
  simp
  refine EC.afun h2 ?_
  cases hc:clashM l with
  | none=>simp [clashV,formedB,hp,hc]
  | some ij=>simp [clashV,formedB,hp,hc]
end Go.Aft
end
