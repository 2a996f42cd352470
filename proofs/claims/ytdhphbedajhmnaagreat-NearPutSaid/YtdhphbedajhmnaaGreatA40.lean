import Derived.Test.YtdhphbedajhmnaaGreatA39
import Derived.Test.YtdhphbedajhmnaaGreatA34
set_option linter.all false
section
set_option maxRecDepth 20000
namespace Go.Aft
open Go.Proofs.Tryz
theorem lExp_strip {srcs defs:List Str} {a:Int}:∀ (e:Exp) (depth left l:Int),lExp srcs defs a e depth left=some l->∃ d' f' l',lExp srcs defs a (strip e).2 d' f'=some l'
 | .mk op name n fold calcs kids,depth,left,l,h=>by
  by_cases h5:op=5
  ·subst h5
   rw [strip,if_pos rfl]
   rw [lExp] at h
   split at h
   ·rename_i hc
    obtain ⟨x,hx,k1,k2⟩:=expOk_len hc.2.2.1
    simp [shpOf] at hx
    subst hx
    match calcs,kids,k1,k2,h with
    | [c],[k],_,_,h =>
     split at h
     ·rw [lExps] at h
      split at h
      ·rename_i l2 hl2
       rw [stripL]
       exact lExp_strip k _ _ _ hl2
      ·cases h
     ·cases h
   ·cases h
  ·rw [strip,if_neg h5];exact ⟨depth,left,l,h⟩
theorem formed_plain {p:Prog} (hf:formed p) {d:Nat} (hd:d < p.defs.length) (hp:(plainOf p p.defs[d].exp).2=true) :
  1<=(plainOf p p.defs[d].exp).1.n/\(plainOf p p.defs[d].exp).1.n<=50/\0<=(plainOf p p.defs[d].exp).1.src/\(plainOf p p.defs[d].exp).1.src < p.srcs.length/\1<=(plainOf p p.defs[d].exp).1.fold/\(plainOf p p.defs[d].exp).1.fold<=4/\p.srcs.length<=4:=by
 obtain ⟨⟨l,hl⟩,_⟩:=hf
 unfold countM at hl
 split at hl
 ·rename_i hcm
  obtain ⟨l1,l2,q1,q2,q3⟩:=lDefs_at _ _ _ _ hl (by omega) d hd
  obtain ⟨e,hx⟩:∃ e,p.defs[d].exp=e:=⟨_,rfl⟩
  rw [hx] at hp q1 |-
  unfold plainOf at hp |-
  by_cases h8:e.op=8
  ·rw [if_neg (by simpa using h8)] at hp |-
   by_cases h1:(stripL e.kids).2.op=1
   ·rw [if_neg (by simpa using h1)] at hp |-
    obtain ⟨op,name,n,fold,calcs,kids⟩:=e
    simp only [Exp.op_mk,Exp.kids_mk,Exp.n_mk,Exp.fold_mk] at h8 h1 |-
    subst h8
    rw [lExp] at q1
    split at q1
    ·rename_i hc
     have hek:=hc.2.2.1
     obtain ⟨x,hx,k1,k2⟩:=expOk_len hc.2.2.1
     have hsx:shpOf 8=some ⟨1,0,false,true,1,50⟩:=rfl
     simp only [expOk,hsx,Bool.and_eq_true,decide_eq_true_eq,if_true] at hek
     rw [hsx] at hx
     cases hx
     match calcs,kids,k1,k2,q1 with
     | [],[k],_,_,q1 =>
      rw [lCalcs] at q1
      simp only [lExps] at q1
      split at q1
      ·rename_i l3 h3
       obtain ⟨d',f',l',hs⟩:=lExp_strip k _ _ _ h3
       simp only [stripL] at h1 |-
       obtain ⟨e',he'⟩:∃ e',(strip k).2=e':=⟨_,rfl⟩
       rw [he'] at hs h1 |-
       obtain ⟨op',name',n',fold',calcs',kids'⟩:=e'
       simp only [Exp.op_mk,Exp.name_mk] at h1 |-
       subst h1
       rw [lExp] at hs
       split at hs
       ·rename_i hc'
        have hn:=hc'.2.2.2
        simp [nameOk] at hn
        exact ⟨hek.1.2.1,hek.1.2.2,hn,idx_lt _ _,hek.2.1,hek.2.2,hcm.2.1⟩
       ·cases hs
      ·cases q1
    ·cases q1
   ·rw [if_pos (by simpa using h1)] at hp;cases hp
  ·rw [if_pos (by simpa using h8)] at hp;cases hp
 ·cases hl
theorem sortL_perm (xs:List Loose):(sortL xs).Perm xs:=by
 have h:=(Go.Sort.insertionSort_holds cmpL_swo xs.toArray 0 xs.toArray.size (Nat.zero_le _) (Nat.le_refl _)).1
 have h3:=h.2.2
 have e1:=h.1
 simp only [List.size_toArray] at h3 e1
 have hx:(xs.toArray.extract 0 xs.length).toList=xs:=by simp
 have hy:((Go.Sort.insertionSort (ltOf' cmpL) xs.toArray 0 xs.length).extract 0 xs.length).toList=sortL xs:=by
  rw [sortL]
  generalize Go.Sort.insertionSort (ltOf' cmpL) xs.toArray 0 xs.length=D at e1
  rw [<- e1];simp
 rw [hx,hy] at h3
 exact h3
theorem comeM_in (f key:Int) (m:Nat):∀ (k:Nat) (s:Scene) (v:Int),inMost s.low.val->inMost s.high.val->(∀ j:Nat,j < k->inMost (v+j))->inMost (comeM f key m s v k).low.val/\inMost (comeM f key m s v k).high.val
 | 0,s,v,h1,h2,_=>⟨h1,h2⟩
 | k+1,s,v,h1,h2,h3=>by
  rw [comeM]
  have hv:inMost v:=by simpa using h3 0 (by omega)
  have hfv:∀ (m:Nat) (f:Int) (r:Rec),firstP s.sh key v f m=some r->r.val=v:=by
   intro m
   induction m with
   | zero=>intro f r h;simp [firstP] at h
   | succ m ih =>
    intro f r h
    rw [firstP] at h
    split at h
    ·cases h;rfl
    ·exact ih _ _ h
  refine comeM_in f key m k _ _ ?_ ?_ fun j hj=>by have:=h3 (j+1) (by omega);rw [show v+1+(j:Int)=v+((j+1:Nat):Int) by omega];exact this
  ·cases hfp:firstP s.sh key v f m with
   | none=>exact h1
   | some r =>
    simp only [comeO,comeS]
    split
    ·exact h1
    ·rw [hfv _ _ _ hfp];exact hv
  ·cases hfp:firstP s.sh key v f m with
   | none=>exact h2
   | some r=>simp only [comeO,comeS];rw [hfv _ _ _ hfp];exact hv
def nb0:NB:=⟨false,false,0,0⟩
def boundV (p:Prog) (d:Nat) (l:List News) (room:Room) (window key:Int):NB :=
 (boundM (sceneM l (plainOf p (p.defs.getD d default).exp).1 room window key 0) (fixedM l (plainOf p (p.defs.getD d default).exp).1 window key (standsM l)) (sortL (looseM l (plainOf p (p.defs.getD d default).exp).1 window key (standsM l))) room.most.toNat).nb
open Classical in
noncomputable def ofM (p:Prog) (d:Int) (l:List News) (room:Room) (window key:Int):NB × Int :=
 if askedB p d l room key=true then
  (if lookE (plainOf p (p.defs.getD d.toNat default).exp) l.length room window=0 then (boundV p d.toNat l room window key,0) else (nb0,lookE (plainOf p (p.defs.getD d.toNat default).exp) l.length room window))
 else (nb0,2)
theorem comeM_vers (f key:Int) (m:Nat) (a:LV):∀ (k:Nat) (s:Scene) (v:Int),comeM f key m { s with vers:=a } v k = { comeM f key m s v k with vers:=a }
 | 0,s,v=>rfl
 | k+1,s,v=>by
  rw [comeM,comeM]
  have:comeO { s with vers:=a } (firstP s.sh key v f m) = { comeO s (firstP s.sh key v f m) with vers:=a }:=by
   cases firstP s.sh key v f m <;> rfl
  have e:=comeM_vers f key m a k (comeO s (firstP s.sh key v f m)) (v+1)
  rw [<- e]
  simp only
  rw [this]
theorem near_Of (p:Prog) (hs:fitP p) (d:Int) (l:List News) (room:Room) (window key:Int) :
  AFun prog 40 [lv (rProg p),lvI d,sl (l.map rNews),lv (rRoom room),lvI window,lvI key] (.tup [lv (rNB (ofM p d l room window key).1),lvI (ofM p d l room window key).2]):=by
 intro H
 have cc:=cxK_ok (p:=kds [6,9] [] [])
 refine ECall.bodyNW (cxK_ok (p:=kds [6,9] [] [])) func40 rfl call40 (by rw [ntmps40];simp) rfl fun hf hw=>?_
 have ha:=near_isAsked p hs d l room key
 simp [rProg,rRoom] at ha
 simp [ntmps40,results40,rProg,rRoom] at hf |-
 refine AW.seq cc ?_
 simp
 refine AW.seq cc ?_
 simp
 refine EC.afun ha ?_
 cases hq:askedB p d l room key with
 | false =>
  simp
  exact fun hz=>⟨hz.drop (Nat.le_refl _),by simp [ofM,hq,nb0,rNB],by simp [ofM,hq]⟩
 | true =>
  have hq':=hq
  simp only [askedB,Bool.and_eq_true,decide_eq_true_eq] at hq'
  obtain ⟨⟨⟨⟨⟨hfm,hd0,hd1⟩,hl⟩,_⟩,hroom⟩,hkey⟩:=hq'
  have hd:d.toNat < p.defs.length:=by omega
  have hdd:((d.toNat:Nat):Int)=d:=by omega
  have hgd:p.defs.getD d.toNat default=p.defs[d.toNat]:=by simp [List.getD,List.getElem?_eq_getElem hd]
  have hpl:=formed_plain hfm hd
  have h12:=stands60 hl
  have hlook:=near_look p hs d.toNat hd hfm l hl h12 room hroom window key hkey H (fun h8=>by
   obtain ⟨k,hk,hw,_⟩:=formed_fold hfm hd h8;exact ⟨k,[],hk,hw⟩) (fun h=>⟨(hpl h).1,(hpl h).2.1,(hpl h).2.2.1,(hpl h).2.2.2.1⟩)
  rw [hdd] at hlook
  simp [rProg,rRoom] at hlook
  simp
  refine AW.seq cc ?_
  simp
  obtain ⟨E,hE⟩:∃ E,lookE (plainOf p p.defs[d.toNat].exp) l.length room window=E:=⟨_,rfl⟩
  rw [hE] at hlook
  by_cases hE0:E=0
  ·simp only [if_pos hE0] at hlook
   refine EC.of hlook (fun v H2 hR=>?_) (fun v H2 hR=>?_)
   rotate_left
   ·cases hR.1
   obtain ⟨e,es,hmv,hH2⟩:=hR
   cases e
   simp
   refine AW.ev cc ?_
   obtain ⟨sh,hsh⟩:∃ sh,(plainOf p p.defs[d.toNat].exp).1=sh:=⟨_,rfl⟩
   rw [hsh] at hH2 hpl
   have hpt:(plainOf p p.defs[d.toNat].exp).2=true:=by
    cases hb:(plainOf p p.defs[d.toNat].exp).2 with
    | true=>rfl
    | false=>rw [lookE,if_pos hb] at hE;omega
   have hpl:=hpl hpt
   have hrm:(0<=room.most/\room.most<=6)/\valB room.low=true/\valB room.high=true:=by
    simp [roomB,inB] at hroom
    exact ⟨hroom.1.1.1,hroom.1.1.2,hroom.1.2⟩
   obtain ⟨SC,hSC⟩:∃ SC,sceneM l sh room window key H.next=SC:=⟨_,rfl⟩
   have hk:=comeM_keep (maxI (window - sh.n+1) (markM l sh.src)) key (window - maxI (window - sh.n+1) (markM l sh.src)+1).toNat (room.high - room.low+1).toNat (scene0 sh room (sl ((fixedM l sh window key (standsM l)).map rI)) (sl ((sortL (looseM l sh window key (standsM l))).map rLoose)) H.next) room.low
   have hci:=comeM_in (maxI (window - sh.n+1) (markM l sh.src)) key (window - maxI (window - sh.n+1) (markM l sh.src)+1).toNat (room.high - room.low+1).toNat (scene0 sh room (sl ((fixedM l sh window key (standsM l)).map rI)) (sl ((sortL (looseM l sh window key (standsM l))).map rLoose)) H.next) room.low (by simp [scene0,zeroRec,inMost]) (by simp [scene0,zeroRec,inMost]) (fun j hj=>by
    have h1:=hrm.2.1;have h2:=hrm.2.2
    simp [valB,inB] at h1 h2
    unfold inMost;omega)
   rw [<- sceneM,hSC] at hk hci
   rw [hSC] at hH2
   have hval:=standsM_val hl
   have hbd:=scene_bound SC (fixedM l sh window key (standsM l)) (sortL (looseM l sh window key (standsM l))) hk.1 hk.2.1 (by
     rw [sortL_len];simp only [fixedM,looseM,List.length_map]
     have h1:=filt2 (inWin sh window key) (isLoose l sh) (standsM l)
     omega) room.most.toNat (by rw [hk.2.2.2.2];simp only [scene0];omega) (by omega) (by rw [hk.2.2.2.1];simp only [scene0];omega)
    (fun x hx=>by
     obtain ⟨e,he,rfl⟩:=List.mem_map.1 hx
     exact hval e (List.mem_filter.1 he).1)
    (fun x hx=>by
     have hx:=(Go.Aft.sortL_perm _).mem_iff.1 hx
     obtain ⟨e,he,rfl⟩:=List.mem_map.1 hx
     exact hval e (List.mem_filter.1 he).1)
    (fun g=>by unfold sRec;split;exact hci.2;exact hci.1) (H.next+1) H2 (by rw [hH2];exact add2_1)
   have n2:H2.next=H.next+2:=by rw [hH2];rfl
   simp
   refine ⟨by omega,EC.of hbd (fun v H3 hR=>?_) (fun v H3 hR=>?_)⟩
   rotate_left
   ·cases hR.1
   obtain ⟨e,hH3⟩:=hR
   cases e
   have o3:H3.obj H2.next=some (bndO (boundM SC (fixedM l sh window key (standsM l)) (sortL (looseM l sh window key (standsM l))) room.most.toNat)):=by rw [hH3];simp [GH.add_obj]
   have o3':=o3
   simp only [bndO,rNB,rWay,List.map_append,List.map_cons,List.map_nil,List.cons_append,List.nil_append,dI_eq,dB_eq] at o3'
   simp [o3']
   have hSC0:SC = { sceneM l sh room window key 0 with vers:=.gm H.next }:=by
    rw [<- hSC];exact comeM_vers _ _ _ (.gm H.next) _ (scene0 sh room _ _ 0) room.low
   have hof:ofM p d l room window key=((boundM SC (fixedM l sh window key (standsM l)) (sortL (looseM l sh window key (standsM l))) room.most.toNat).nb,0):=by
    rw [ofM,if_pos hq,hgd,if_pos (hE.trans hE0),boundV,hgd,hsh,hSC0];rfl
   rw [hof]
   refine fun _=>⟨Drop_same (by rw [hH3,GH.add_next];omega) (fun m hm=>by rw [hH3,GH.add_obj,if_neg (by omega),hH2,GH.add_obj,if_neg (by simp only [GH.add_next];omega),GH.add_obj,if_neg (by omega)]) hw.none,by simp [rNB],rfl⟩
  ·simp only [if_neg hE0] at hlook
   refine EC.of hlook (fun v H2 hR=>?_) (fun v H2 hR=>?_)
   rotate_left
   ·cases hR.1
   obtain ⟨e,rfl⟩:=hR
   cases e
   simp
   refine AW.ev cc ?_
   have hof:ofM p d l room window key=(nb0,E):=by
    rw [ofM,if_pos hq,hgd,if_neg (by rw [hE];exact hE0),hE]
   simp [hE0,hof,nb0,rNB]
   exact fun hz=>hz.drop (Nat.le_refl _)
end Go.Aft
end
section
set_option maxRecDepth 20000
namespace Go.Aft
inductive Dom:List Int->List Int->Prop
 | refl (A:List Int):Dom A A
 | cons {a b:Int} {A B:List Int}:a<=b->Dom A B->Dom (a :: A) (b :: B)
 | perm {A B:List Int}:A.Perm B->Dom A B
 | trans {A B C:List Int}:Dom A B->Dom B C->Dom A C
theorem Dom.left (C:List Int) {A B:List Int} (h:Dom A B):Dom (C ++ A) (C ++ B):=by
 induction C with
 | nil=>exact h
 | cons c C ih=>exact .cons (Int.le_refl c) ih
theorem Dom.append {A B C D:List Int} (h:Dom A B) (k:Dom C D):Dom (A ++ C) (B ++ D) :=
 .trans (k.left A) (.trans (.perm List.perm_append_comm) (.trans (h.left D) (.perm List.perm_append_comm)))
theorem Dom.len {A B:List Int} (h:Dom A B):A.length=B.length:=by
 induction h with
 | refl=>rfl
 | cons _ _ ih=>simp [ih]
 | perm h=>exact h.length_eq
 | trans _ _ i1 i2=>exact i1.trans i2
theorem sumI_acc:∀ (l:List Int) (a:Int),l.foldl (· + ·) a=a+sumI l
 | [],a=>by simp [sumI]
 | x :: l,a=>by
  have h1:=sumI_acc l (a+x)
  have h2:=sumI_acc l (0+x)
  simp only [sumI,List.foldl_cons] at h1 h2 |-
  omega
theorem sumI_cons (a:Int) (l:List Int):sumI (a :: l)=a+sumI l:=by
 have:=sumI_acc l (0+a)
 simp only [sumI,List.foldl_cons] at this |-
 omega
theorem sumI_perm {A B:List Int} (h:A.Perm B):sumI A=sumI B:=by
 induction h with
 | nil=>rfl
 | cons x _ ih=>rw [sumI_cons,sumI_cons,ih]
 | swap x y l=>simp only [sumI_cons];omega
 | trans _ _ i1 i2=>exact i1.trans i2
theorem Dom.sum {A B:List Int} (h:Dom A B):sumI A<=sumI B:=by
 induction h with
 | refl=>exact Int.le_refl _
 | cons q _ ih=>rw [sumI_cons,sumI_cons];omega
 | perm h=>exact Int.le_of_eq (sumI_perm h)
 | trans _ _ i1 i2=>exact Int.le_trans i1 i2
theorem Dom.low {A B:List Int} (h:Dom A B):∀ b ∈ B,∃ a ∈ A,a<=b:=by
 induction h with
 | refl=>exact fun b hb=>⟨b,hb,Int.le_refl _⟩
 | @cons x y A B q _ ih =>
  intro b hb
  rcases List.mem_cons.1 hb with rfl | hb
  ·exact ⟨x,by simp,q⟩
  ·obtain ⟨a,h1,h2⟩:=ih b hb
   exact ⟨a,by simp [h1],h2⟩
 | perm h=>exact fun b hb=>⟨b,h.mem_iff.2 hb,Int.le_refl _⟩
 | trans _ _ i1 i2 =>
  intro c hc
  obtain ⟨b,h1,h2⟩:=i2 c hc
  obtain ⟨a,h3,h4⟩:=i1 b h1
  exact ⟨a,h3,Int.le_trans h4 h2⟩
theorem Dom.high {A B:List Int} (h:Dom A B):∀ a ∈ A,∃ b ∈ B,a<=b:=by
 induction h with
 | refl=>exact fun b hb=>⟨b,hb,Int.le_refl _⟩
 | @cons x y A B q _ ih =>
  intro b hb
  rcases List.mem_cons.1 hb with rfl | hb
  ·exact ⟨y,by simp,q⟩
  ·obtain ⟨a,h1,h2⟩:=ih b hb
   exact ⟨a,by simp [h1],h2⟩
 | perm h=>exact fun b hb=>⟨b,h.mem_iff.1 hb,Int.le_refl _⟩
 | trans _ _ i1 i2 =>
  intro c hc
  obtain ⟨b,h1,h2⟩:=i1 c hc
  obtain ⟨a,h3,h4⟩:=i2 b h1
  exact ⟨a,h3,Int.le_trans h2 h4⟩
theorem minI_le (a b:Int):minI a b<=a/\minI a b<=b/\(minI a b=a \/ minI a b=b):=by unfold minI;split <;> omega
theorem maxI_ge (a b:Int):a<=maxI a b/\b<=maxI a b/\(maxI a b=a \/ maxI a b=b):=by unfold maxI;split <;> omega
theorem min_fold:∀ (l:List Int) (a:Int),l.foldl minI a<=a/\(∀ x ∈ l,l.foldl minI a<=x)/\(l.foldl minI a=a \/ l.foldl minI a ∈ l)
 | [],a=>by simp
 | x :: l,a=>by
  have h:=min_fold l (minI a x)
  have k:=minI_le a x
  simp only [List.foldl_cons]
  refine ⟨Int.le_trans h.1 k.1,fun y hy=>?_,?_⟩
  ·rcases List.mem_cons.1 hy with rfl | hy
   ·exact Int.le_trans h.1 k.2.1
   ·exact h.2.1 y hy
  ·rcases h.2.2 with e | e
   ·rw [e];rcases k.2.2 with q | q
    ·exact .inl q
    ·rw [q];exact .inr (by simp)
   ·exact .inr (by simp [e])
theorem max_fold:∀ (l:List Int) (a:Int),a<=l.foldl maxI a/\(∀ x ∈ l,x<=l.foldl maxI a)/\(l.foldl maxI a=a \/ l.foldl maxI a ∈ l)
 | [],a=>by simp
 | x :: l,a=>by
  have h:=max_fold l (maxI a x)
  have k:=maxI_ge a x
  simp only [List.foldl_cons]
  refine ⟨Int.le_trans k.1 h.1,fun y hy=>?_,?_⟩
  ·rcases List.mem_cons.1 hy with rfl | hy
   ·exact Int.le_trans k.2.1 h.1
   ·exact h.2.1 y hy
  ·rcases h.2.2 with e | e
   ·rw [e];rcases k.2.2 with q | q
    ·exact .inl q
    ·rw [q];exact .inr (by simp)
   ·exact .inr (by simp [e])
theorem MinL_spec {l:List Int} (h:l ≠ []):(∀ x ∈ l,MinL l<=x)/\MinL l ∈ l:=by
 cases l with
 | nil=>exact absurd rfl h
 | cons a l =>
  have k:=min_fold (a :: l) a
  refine ⟨k.2.1,?_⟩
  rcases k.2.2 with e | e
  ·unfold MinL;rw [List.headD_cons,e];simp
  ·exact e
theorem MaxL_spec {l:List Int} (h:l ≠ []):(∀ x ∈ l,x<=MaxL l)/\MaxL l ∈ l:=by
 cases l with
 | nil=>exact absurd rfl h
 | cons a l =>
  have k:=max_fold (a :: l) a
  refine ⟨k.2.1,?_⟩
  rcases k.2.2 with e | e
  ·unfold MaxL;rw [List.headD_cons,e];simp
  ·exact e
theorem Dom.fold {A B:List Int} (h:Dom A B) (hA:A ≠ []) (f:Int):foldOf f A<=foldOf f B:=by
 have hl:=h.len
 have hB:B ≠ []:=fun e=>hA (List.eq_nil_of_length_eq_zero (by rw [hl,e];rfl))
 unfold foldOf
 split
 ·rw [hl];exact Int.le_refl _
 ·split
  ·have:=h.sum
   unfold clampM minI maxI;split <;> split <;> split <;> (try split) <;> omega
  ·split
   ·obtain ⟨a,h1,h2⟩:=h.low _ (MinL_spec hB).2
    exact Int.le_trans ((MinL_spec hA).1 a h1) h2
   ·obtain ⟨a,h1,h2⟩:=h.high _ (MaxL_spec hA).2
    exact Int.le_trans h2 ((MaxL_spec hB).1 a h1)
theorem farI_low (a b:Int):farI a b false=minI b a:=by
 unfold farI minI
 by_cases h:b < a
 ·simp [h];omega
 ·simp [h];omega
theorem farI_high (a b:Int):farI a b true=maxI b a:=by
 unfold farI maxI
 by_cases h:b < a
 ·simp [h]
 ·simp [h]
structure BSpec (V U:Way->List Int) (f:Int) (ws:List Way) (b:Bnd):Prop where
 none1:b.nb.none=true->b.wn ∈ ws/\V b.wn=[]
 none2:∀ w ∈ ws,V w=[]->b.nb.none=true
 some1:b.nb.some=true->(b.wl ∈ ws/\V b.wl ≠ []/\b.nb.low=foldOf f (V b.wl))/\(b.wh ∈ ws/\V b.wh ≠ []/\b.nb.high=foldOf f (U b.wh))
 some2:∀ w ∈ ws,V w ≠ []->b.nb.some=true/\b.nb.low<=foldOf f (V w)/\foldOf f (U w)<=b.nb.high
 some0:b.nb.some=false->b.nb.low=0/\b.nb.high=0
theorem takeM_true (no:Bool) (lo hi:Int) (wn wl wh w:Way) (A B:Int) :
  takeM ⟨⟨true,no,lo,hi⟩,wn,wl,wh⟩ w A B = ⟨⟨true,no,minI lo A,maxI hi B⟩,wn,if A < lo then w else wl,if hi < B then w else wh⟩:=by
 have e:nowM ⟨⟨true,no,lo,hi⟩,wn,wl,wh⟩ A B = ⟨true,no,minI lo A,maxI hi B⟩:=by simp [nowM,farI_low,farI_high]
 rw [takeM,e]
 split
 ·rename_i q
  simp only [NB.mk.injEq,true_and] at q
  have a1:¬ A < lo:=by have:=minI_le lo A;omega
  have a2:¬ hi < B:=by have:=maxI_ge hi B;omega
  simp only [q.1,q.2,a1,a2,if_false]
 ·simp
theorem takeM_false (no:Bool) (lo hi:Int) (wn wl wh w:Way) (A B:Int):takeM ⟨⟨false,no,lo,hi⟩,wn,wl,wh⟩ w A B = ⟨⟨true,no,A,B⟩,wn,w,w⟩:=by
 rw [takeM,if_neg]
 ·simp [nowM]
 ·simp [nowM]
theorem mem_snoc {α:Type} {P:α->Prop} {ws:List α} {w:α} (ha:∀ x ∈ ws,P x) (hb:P w):∀ x ∈ ws ++ [w],P x:=fun x hx=>by
 rcases List.mem_append.1 hx with q | q
 ·exact ha x q
 ·rw [List.mem_singleton] at q;subst q;exact hb
theorem BSpec.take {V U:Way->List Int} {f:Int} {ws:List Way} {b:Bnd} (h:BSpec V U f ws b) {w:Way} (hw:V w ≠ []):BSpec V U f (ws ++ [w]) (takeM b w (foldOf f (V w)) (foldOf f (U w))):=by
 obtain ⟨⟨so,no,lo,hi⟩,wn,wl,wh⟩:=b
 obtain ⟨h1,h2,h3,h4,h5⟩:=h
 simp only at h1 h2 h3 h4 h5
 have hin:∀ x,x ∈ ws->x ∈ ws ++ [w]:=fun x hx=>List.mem_append_left _ hx
 have hself:w ∈ ws ++ [w]:=by simp
 cases so with
 | false =>
  rw [takeM_false]
  refine ⟨fun q=>⟨hin _ (h1 q).1,(h1 q).2⟩,mem_snoc h2 (fun q=>absurd q hw),fun _=>⟨⟨hself,hw,rfl⟩,hself,hw,rfl⟩,mem_snoc (fun x hx q=>?_) (fun _=>⟨rfl,Int.le_refl _,Int.le_refl _⟩),fun q=>(by cases q)⟩
  have:=(h4 x hx q).1;cases this
 | true =>
  rw [takeM_true]
  have m1:=minI_le lo (foldOf f (V w))
  have m2:=maxI_ge hi (foldOf f (U w))
  have k:=h3 rfl
  refine ⟨fun q=>⟨hin _ (h1 q).1,(h1 q).2⟩,mem_snoc h2 (fun q=>absurd q hw),fun _=>⟨?_,?_⟩,mem_snoc (fun x hx q=>?_) (fun _=>⟨rfl,m1.2.1,m2.2.1⟩),fun q=>(by cases q)⟩
  ·simp only
   split
   ·exact ⟨hself,hw,by omega⟩
   ·exact ⟨hin _ k.1.1,k.1.2.1,by rw [<- k.1.2.2];omega⟩
  ·simp only
   split
   ·exact ⟨hself,hw,by omega⟩
   ·exact ⟨hin _ k.2.1,k.2.2.1,by rw [<- k.2.2.2];omega⟩
  ·have:=h4 x hx q
   exact ⟨rfl,Int.le_trans m1.1 this.2.1,Int.le_trans this.2.2 m2.1⟩
theorem BSpec.none {V U:Way->List Int} {f:Int} {ws:List Way} {b:Bnd} (h:BSpec V U f ws b) {w:Way} (hw:V w=[]):BSpec V U f (ws ++ [w]) (if b.nb.none=false then { b with nb:={ b.nb with none:=true },wn:=w } else b):=by
 obtain ⟨⟨so,no,lo,hi⟩,wn,wl,wh⟩:=b
 obtain ⟨h1,h2,h3,h4,h5⟩:=h
 simp only at h1 h2 h3 h4 h5
 have hin:∀ x,x ∈ ws->x ∈ ws ++ [w]:=fun x hx=>List.mem_append_left _ hx
 have hself:w ∈ ws ++ [w]:=by simp
 have h3':so=true->(wl ∈ ws ++ [w]/\V wl ≠ []/\lo=foldOf f (V wl))/\(wh ∈ ws ++ [w]/\V wh ≠ []/\hi=foldOf f (U wh)):=fun q=>⟨⟨hin _ (h3 q).1.1,(h3 q).1.2⟩,hin _ (h3 q).2.1,(h3 q).2.2⟩
 cases no with
 | false=>exact ⟨fun _=>⟨hself,hw⟩,mem_snoc (fun _ _ _=>rfl) (fun _=>rfl),h3',mem_snoc h4 (fun q=>absurd hw q),h5⟩
 | true=>exact ⟨fun q=>⟨hin _ (h1 q).1,(h1 q).2⟩,mem_snoc (fun _ _ _=>rfl) (fun _=>rfl),h3',mem_snoc h4 (fun q=>absurd hw q),h5⟩
end Go.Aft
end
section
set_option maxRecDepth 20000
namespace Go.Aft
def IsRec (sh:Shape) (key f:Int) (m:Nat) (r:Rec):Prop:=r.key=key/\f<=r.at_/\r.at_ < f+m/\passM sh r=true
def Can (sh:Shape) (key f:Int) (m:Nat) (u:Int):Prop:=∃ r,IsRec sh key f m r/\r.val=u
structure CSpec (sh:Shape) (key f:Int) (m:Nat) (s s':Scene) (v e:Int):Prop where
 none:(∀ u,v<=u->u < e->¬ Can sh key f m u)->s'.has=s.has/\s'.low=s.low/\s'.high=s.high
 has:∀ u,v<=u->u < e->Can sh key f m u->s'.has=true/\u<=s'.high.val/\(s.has=false->s'.low.val<=u)
 old:s.has=true->s'.low=s.low/\s'.has=true
 low:s'.has=true->s.has=false->IsRec sh key f m s'.low/\v<=s'.low.val/\s'.low.val < e
 high:s'.has=true->s.has=false->IsRec sh key f m s'.high/\v<=s'.high.val/\s'.high.val < e
 high':s'.high=s.high \/ IsRec sh key f m s'.high/\v<=s'.high.val/\s'.high.val < e
def canV (sh:Shape) (room:Room) (window key mark:Int) (u:Int):Prop :=
 room.low<=u/\u<=room.high/\∃ t,maxI (window - sh.n+1) mark<=t/\t<=window/\passM sh ⟨t,key,u⟩=true
structure SSpec (sh:Shape) (room:Room) (window key mark:Int) (s:Scene):Prop where
 has:∀ u,canV sh room window key mark u->s.has=true/\s.low.val<=u/\u<=s.high.val
 low:s.has=true->canV sh room window key mark s.low.val/\s.low.key=key/\maxI (window - sh.n+1) mark<=s.low.at_/\s.low.at_<=window/\passM sh s.low=true
 high:s.has=true->canV sh room window key mark s.high.val/\s.high.key=key/\maxI (window - sh.n+1) mark<=s.high.at_/\s.high.at_<=window/\passM sh s.high=true
 sh:s.sh=sh
 room:s.room=room
end Go.Aft
end
section
set_option maxRecDepth 20000
namespace Go.Aft
open Go.Proofs.Tryz
structure Ask where
 d:Int
 room:Room
 window:Int
 key:Int
def rAsk (a:Ask):List DV:=dI a.d :: (rRoom a.room ++ [dI a.window,dI a.key])
theorem law_bound (p:Prog) (hs:fitP p) (l:List News) (a:Ask) :
  AFun prog 21 [lv (rProg p),sl (l.map rNews),lv (rAsk a)] (.tup [lv (rNB (ofM p a.d l a.room a.window a.key).1),lvI (ofM p a.d l a.room a.window a.key).2]):=by
 have cc:=cxK_ok (p:=kds [3,5] [] [])
 refine AFun.bodyW (cxK_ok (p:=kds [3,5] [] [])) func21 rfl call21 (by rw [ntmps21];simp) rfl fun hf H=>?_
 have h:=near_Of p hs a.d l a.room a.window a.key
 generalize ofM p a.d l a.room a.window a.key=o at h |-
 obtain ⟨⟨so,no,lo,hi⟩,w⟩:=o
 simp [rProg,rRoom,rNB,dB,dI] at h
 simp [ntmps21,results21,rProg,rAsk,rRoom,rNB,dB,dI] at hf |-
 refine AW.seq cc ?_
 simp
 refine AW.seq cc ?_
 simp
 refine EC.afun h ?_
 simp
 refine AW.ev cc ?_
 simp [rNB]
theorem law_is (a:Ask) (b:NB) (hs:fitP exP) :
  AFun prog 37 [lv (rAsk a),lv (rNB b)] (.d (.k (.bool (decide ((ofM exP a.d exN a.room a.window a.key).2=0/\(ofM exP a.d exN a.room a.window a.key).1=b))))):=by
 have cc:=cxS_ok (p:=kds [2,3] [] [])
 refine AFun.bodyW (cxS_ok (p:=kds [2,3] [] [])) func37 rfl call37 (by rw [ntmps37];simp) rfl fun hf H=>?_
 have h:=law_bound exP hs exN a
 have h1:=law_Example
 have h2:=law_News
 generalize ofM exP a.d exN a.room a.window a.key=o at h |-
 obtain ⟨⟨so,no,lo,hi⟩,w⟩:=o
 obtain ⟨so',no',lo',hi'⟩:=b
 generalize rProg exP=ep at h h1
 simp [rAsk,rRoom,rNB,dB,dI] at h
 simp [ntmps37,results37,rAsk,rRoom,rNB,dB,dI] at hf |-
 refine AW.seq cc ?_
 simp
 refine AW.seq cc ?_
 refine AW.draw cc [(0,.n),(1,.n),(3,.n)] (.q 0<|.q 1<|.q 2<|.q 3<|.q 4<|.q 5<|.q 6<|.f<|.one 7<|.f<|.one 8<|.q 9<|.done) (by kernel_rfl) ?_
 simp
 refine FC.afun h1 ?_
 simp
 refine FC.afun h2 ?_
 simp
 refine FC.afun h ?_
 simp
 refine AW.ev cc ?_
 simp
 rfl
theorem diffM_of {l:List Str} (h:∀ i (h:i < l.length),nameM l[i]=true/\∀ x ∈ l.take i,x ≠ l[i]):diffM l:=fun i hi=>⟨(h i hi).1,fun hm=>(h i hi).2 _ hm rfl⟩
theorem ex_count:∃ l,countM exP=some l:=by
 have h:diffM (exP.srcs ++ defNames exP):=diffM_of (by decide +kernel)
 refine ⟨52,?_⟩
 rw [countM,if_pos ⟨by decide,by decide,by decide,h⟩]
 decide +kernel
theorem ex_formed:formed exP:=by
 refine ⟨ex_count,fun i h _ e he=>?_⟩
 have:∀ d ∈ exP.defs,∀ e ∈ allE d.exp,looksAhead e=false:=by decide +kernel
 exact this _ (List.getElem_mem h) e he
theorem ex_def {d:Int} (h:d=0 \/ d=1):isDefM exP d:=⟨ex_formed,by rcases h with rfl | rfl <;> decide,by rcases h with rfl | rfl <;> decide⟩
theorem ex_fit:fitP exP:=by unfold fitP strFit;decide +kernel
theorem ex_plain:plainV exP 0=.tup [lvI 0,lvI 10,lvI 0]:=by
 rw [plainV,dif_pos (ex_def (.inl rfl))];rfl
theorem ex_passes:passesV exP 1 ⟨3,0,8⟩=.tup [.d (.k (.bool false)),lvI 0]:=by
 rw [passesV,dif_pos ⟨ex_def (.inr rfl),by decide⟩];rfl
theorem ex_asked {d:Int} (h:d=0 \/ d=1) {room:Room} (hr:roomB room=true):askedB exP d exN room 0=true:=by
 have h1:formedB exN exP.srcs.length=true:=by decide +kernel
 have h2:lateM exN=[]:=by decide +kernel
 have h3:valB 0=true:=by decide
 simp [askedB,ex_def h,h1,h2,h3,hr]
theorem sortL2 (a b:Loose):sortL [a,b]=if ltOf' cmpL b a=true then [b,a] else [a,b]:=by
 simp only [sortL,Go.Sort.insertionSort]
 rw [Go.Sort.insOuter,if_pos (by simp),Go.Sort.insOuter,if_neg (by simp)]
 simp [Go.Sort.insInner,Go.Sort.swp]
 split <;> rfl
def e2:Event:=⟨0,2,⟨12,0,9⟩⟩
def e3:Event:=⟨0,3,⟨14,0,2⟩⟩
def sh0:Shape:=⟨0,10,2,[]⟩
def sh1:Shape:=⟨0,10,4,[exTerm]⟩
theorem ex_loose0:looseM exN sh0 19 0 (standsM exN)=[⟨e2,1⟩,⟨e3,1⟩]:=by rfl
theorem ex_loose1:looseM exN sh1 19 0 (standsM exN)=[⟨e3,1⟩]:=by rfl
theorem ex_fixed0:fixedM exN sh0 19 0 (standsM exN)=[]:=by rfl
theorem ex_fixed1:fixedM exN sh1 19 0 (standsM exN)=[]:=by rfl
theorem ex_sort0:sortL [⟨e2,1⟩,⟨e3,1⟩]=[⟨e3,1⟩,⟨e2,1⟩]:=by rw [sortL2];rfl
theorem ex_sort1 (a:Loose):sortL [a]=[a]:=by
 simp only [sortL,Go.Sort.insertionSort]
 rw [Go.Sort.insOuter,if_neg (by simp)]
theorem ex_bound0:ofM exP 0 exN ⟨1,1,5⟩ 19 0=(⟨true,false,2,16⟩,0):=by
 rw [ofM,if_pos (ex_asked (.inl rfl) (by decide))]
 have e:plainOf exP (exP.defs.getD (0:Int).toNat default).exp=(sh0,true):=rfl
 rw [e,if_pos (by decide),boundV]
 have e:plainOf exP (exP.defs.getD (0:Int).toNat default).exp=(sh0,true):=rfl
 rw [e]
 simp only [ex_loose0,ex_fixed0,ex_sort0]
 refine Prod.ext ?_ rfl
 decide +kernel
theorem ex_bound1:ofM exP 1 exN ⟨1,6,12⟩ 19 0=(⟨true,true,2,7⟩,0):=by
 rw [ofM,if_pos (ex_asked (.inr rfl) (by decide))]
 have e:plainOf exP (exP.defs.getD (1:Int).toNat default).exp=(sh1,true):=rfl
 rw [e,if_pos (by decide),boundV]
 have e:plainOf exP (exP.defs.getD (1:Int).toNat default).exp=(sh1,true):=rfl
 rw [e]
 simp only [ex_loose1,ex_fixed1,ex_sort1]
 refine Prod.ext ?_ rfl
 decide +kernel
end Go.Aft
end
section
set_option maxRecDepth 20000
namespace Go.Aft
open Go.Proofs.Tryz
theorem law_known:AFun prog 19 [] (.d (.k (.bool true))):=by
 have cc:=cxS_ok (p:=kds [] [] [])
 refine AFun.bodyW (cxS_ok (p:=kds [] [] [])) func19 rfl call19 (by rw [ntmps19];simp) rfl fun hf H=>?_
 have h1:=law_Example
 have h2:=near_Plain exP ex_fit 0
 rw [ex_plain] at h2
 have h3:=near_Passes exP ex_fit 1 ⟨3,0,8⟩
 rw [ex_passes] at h3
 have h4:=law_is ⟨0,⟨1,1,5⟩,19,0⟩ ⟨true,false,2,16⟩ ex_fit
 rw [ex_bound0] at h4
 have h5:=law_is ⟨1,⟨1,6,12⟩,19,0⟩ ⟨true,true,2,7⟩ ex_fit
 rw [ex_bound1] at h5
 generalize rProg exP=ep at h1 h2 h3
 simp [rAsk,rRoom,rNB,dB,dI,rRec] at h3 h4 h5
 simp [ntmps19,results19] at hf |-
 refine AW.seq cc ?_
 simp
 refine AW.seq cc ?_
 simp
 refine EC.afun h1 ?_
 simp
 refine EC.afun h2 ?_
 simp
 refine AW.seq cc ?_
 simp
 refine EC.afun h1 ?_
 simp
 refine EC.afun h3 ?_
 simp
 refine AW.ev cc ?_
 simp
 refine EC.afun h4 ?_
 simp
 refine EC.afun h5 ?_
 simp
end Go.Aft
end
section
set_option maxRecDepth 20000
namespace Go.Aft
open Go.RowKit
open Go.Proofs.Tryz
section
variable {H:Type} {enc:TypeId × Value->H} {w:World}
theorem RdFs.conv {P:Program} {α β:Type} {n off fuel:Nat} {fs:List Field} {r:α->List DV} {fit:α->Prop} {r':β->List DV} {fit':β->Prop} (h:RdFs enc P w n fs off r fit fuel) (g:α->β) (hr:∀ x,r' (g x)=r x) (hf:∀ x,fit x->fit' (g x)):RdFs enc P w n fs off r' fit' fuel :=
 fun cs xs h1 h2=>by
  obtain ⟨x,q1,q2⟩:=h cs xs h1 h2
  exact ⟨g x,by rw [hr];exact q1,fun q=>hf x (q2 q)⟩
theorem rd_rec (fuel:Nat):Rd enc prog w 27 rRec (fun _=>True) fuel :=
 Rd.struct underlying27 fuel fun f hf=>((RdFs.cons (n:=3) rfl (Rd.int underlying3 f)<|RdFs.cons rfl (Rd.int underlying3 f)<|RdFs.cons rfl (Rd.int underlying3 f)<|RdFs.nil)).conv (fun x=>⟨x.1,x.2.1,x.2.2.1⟩) (fun _=>rfl) (fun _ _=>trivial)
theorem rd_calc:∀ fuel,Rd enc prog w 135 rCalc (fun _=>True) fuel:=fun fuel=>by
 induction fuel using Nat.strongRecOn with
 | _ fuel ih =>
  refine Rd.struct underlying135 fuel fun f hf=>?_
  refine (RdFs.cons (n:=3) rfl (Rd.int underlying133 f)<|RdFs.cons rfl (Rd.int underlying3 f)<|RdFs.cons rfl (Rd.slice (r:=rCalc) (fit:=fun _=>True) underlying68 (by decide +kernel) (fun x=>?_) f fun g hg=>ih g (by omega))<|RdFs.nil).conv (fun x=>.mk x.1 x.2.1 x.2.2.1) (fun x=>?_) (fun _ _=>trivial)
  ·rw [rCalc_len];decide +kernel
  ·rw [rCalc,rCalcs_map];rfl
theorem rd_exp:∀ fuel,Rd enc prog w 105 rExp (fun _=>True) fuel:=fun fuel=>by
 induction fuel using Nat.strongRecOn with
 | _ fuel ih =>
  refine Rd.struct underlying105 fuel fun f hf=>?_
  refine (RdFs.cons (n:=6) rfl (Rd.int underlying102 f)<|RdFs.cons rfl (Rd.str underlying9 f)<|RdFs.cons rfl (Rd.int underlying3 f)<|RdFs.cons rfl (Rd.int underlying58 f)<|RdFs.cons rfl (Rd.slice (r:=rCalc) (fit:=fun _=>True) underlying68 (by decide +kernel) (fun x=>?_) f fun g hg=>rd_calc g)<|RdFs.cons rfl (Rd.slice (r:=rExp) (fit:=fun _=>True) underlying103 (by decide +kernel) (fun x=>?_) f fun g hg=>ih g (by omega))<|RdFs.nil).conv (fun x=>.mk x.1 x.2.1 x.2.2.1 x.2.2.2.1 x.2.2.2.2.1 x.2.2.2.2.2.1) (fun x=>?_) (fun _ _=>trivial)
  ·rw [rCalc_len];decide +kernel
  ·rw [rExp_len];decide +kernel
  ·rw [rExp,rCalcs_map,rExps_map];rfl
theorem rd_def (fuel:Nat):Rd enc prog w 107 rDef (fun d=>strFit d.name) fuel :=
 Rd.struct underlying107 fuel fun f hf=>(RdFs.cons (n:=7) rfl (Rd.str underlying9 f)<|RdFs.cons rfl (rd_exp f)<|RdFs.nil).conv (fun x=>⟨x.1,x.2.1⟩) (fun x=>by simp [rDef]) (fun x h=>h.1)
theorem rd_prog (fuel:Nat):Rd enc prog w 25 rProg fitP fuel :=
 Rd.struct underlying25 fuel fun f hf=>(RdFs.cons (n:=2) rfl (Rd.slice (r:=rS) (fit:=strFit) underlying22 (by decide +kernel) (fun x=>by rw [rS,show prog.cellsOf 9=1 by decide +kernel];rfl) f fun g hg=>Rd.str underlying9 g)<|RdFs.cons rfl (Rd.slice (r:=rDef) (fit:=fun d=>strFit d.name) underlying23 (by decide +kernel) (fun x=>by rw [rDef_len];decide +kernel) f fun g hg=>rd_def g)<|RdFs.nil).conv (fun x=>⟨x.1,x.2.1⟩) (fun x=>rfl) (fun x h s hs=>by
  rcases List.mem_append.1 hs with q | q
  ·exact h.1 s q
  ·obtain ⟨d,hd,rfl⟩:=List.mem_map.1 q
   exact h.2.1 d hd)
end
end Go.Aft
end
