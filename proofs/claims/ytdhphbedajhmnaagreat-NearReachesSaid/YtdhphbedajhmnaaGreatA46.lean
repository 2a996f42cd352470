import Derived.Test.YtdhphbedajhmnaaGreatA45
import Derived.Test.YtdhphbedajhmnaaGreatA43
set_option linter.all false
section
set_option maxRecDepth 20000
namespace Go.Aft
open Go.Proofs.Tryz
def WayOk (L P:Nat) (w:Way):Prop:=w.gone+w.turned<=L/\w.more<=P
theorem stepB_way {s:Scene} {F:List Int} {L:List Loose} {n P:Nat} {b:Bnd} {w:Way} (hw:WayOk n P w) (h:WayOk n P b.wn/\WayOk n P b.wl/\WayOk n P b.wh) :
  WayOk n P (stepB s F L b w).wn/\WayOk n P (stepB s F L b w).wl/\WayOk n P (stepB s F L b w).wh:=by
 unfold stepB
 split
 ·unfold takeM
  split
  ·exact h
  ·refine ⟨h.1,?_,?_⟩
   ·dsimp only;split;exact hw;exact h.2.1
   ·dsimp only;split;exact hw;exact h.2.2
 ·split
  ·exact ⟨hw,h.2⟩
  ·exact h
theorem foldB_way {s:Scene} {F:List Int} {L:List Loose} {n P:Nat}:∀ (ws:List Way) (b:Bnd),(∀ w ∈ ws,WayOk n P w)->(WayOk n P b.wn/\WayOk n P b.wl/\WayOk n P b.wh) ->
  WayOk n P (ws.foldl (stepB s F L) b).wn/\WayOk n P (ws.foldl (stepB s F L) b).wl/\WayOk n P (ws.foldl (stepB s F L) b).wh
 | [],b,_,h=>h
 | w :: ws,b,hw,h=>foldB_way ws _ (fun x hx=>hw x (List.mem_cons_of_mem _ hx)) (stepB_way (hw w List.mem_cons_self) h)
theorem boundM_way (s:Scene) (F:List Int) (L:List Loose) (P:Nat):WayOk L.length P (boundM s F L P).wn/\WayOk L.length P (boundM s F L P).wl/\WayOk L.length P (boundM s F L P).wh:=by
 refine foldB_way _ _ (fun w hw=>?_) ⟨⟨by simp [b0],by simp [b0]⟩,⟨by simp [b0],by simp [b0]⟩,⟨by simp [b0],by simp [b0]⟩⟩
 rcases waysM_mem.1 hw with ⟨h1,h2,_⟩ | ⟨_,_,h⟩
 ·exact ⟨by omega,by omega⟩
 ·exact h.elim
theorem verM_range {l:List News} {srcs:Int} (hg:∀ n ∈ l,goodB n srcs=true) {src id:Int}:0<=verM l src id/\verM l src id<=99:=by
 revert hg
 refine snoc_ind (p:=fun l=>(∀ n ∈ l,goodB n srcs=true)->0<=verM l src id/\verM l src id<=99) (fun _=>⟨Int.le_refl _,by show (0:Int)<=99;decide⟩) (fun l n ih hg=>?_) l
 have h1:=ih fun m hm=>hg m (by simp [hm])
 have h2:=hg n (by simp)
 rw [verM,List.foldl_append,<- verM]
 simp only [List.foldl_cons,List.foldl_nil,verStep]
 split
 ·rename_i q
  have hv:n.ver<=99:=by
   by_cases d1:n.do_=1
   ·simp [goodB,d1,saidB,inB] at h2;omega
   ·by_cases d2:n.do_=2
    ·simp [goodB,d2,saidB,inB] at h2;omega
    ·simp [goodB,d1,d2,q.1] at h2
  unfold maxI;split <;> omega
 ·exact h1
def scOf (p:Prog) (d:Nat) (l:List News) (room:Room) (window key:Int):Scene:=sceneM l (plainOf p (p.defs.getD d default).exp).1 room window key 0
def looOf (p:Prog) (d:Nat) (l:List News) (window key:Int):List Loose:=sortL (looseM l (plainOf p (p.defs.getD d default).exp).1 window key (standsM l))
def bndOf (p:Prog) (d:Nat) (l:List News) (room:Room) (window key:Int):Bnd :=
 boundM (scOf p d l room window key) (fixedM l (plainOf p (p.defs.getD d default).exp).1 window key (standsM l)) (looOf p d l window key) room.most.toNat
def reaB (B:Bnd) (sc:Scene) (L:List Loose) (l:List News) (side:Int):List News × Int :=
 if side=1/\B.nb.none=true then (lateNV sc L l B.wn false,0)
 else if side=2/\B.nb.some=true then (lateNV sc L l B.wl false,0)
 else if side=3/\B.nb.some=true then (lateNV sc L l B.wh true,0)
 else ([],5)
open Classical in
noncomputable def reaV (p:Prog) (d:Int) (l:List News) (room:Room) (window key side:Int):List News × Int :=
 if askedB p d l room key=true/\1<=side/\side<=3 then
  (if lookE (plainOf p (p.defs.getD d.toNat default).exp) l.length room window=0 then reaB (bndOf p d.toNat l room window key) (scOf p d.toNat l room window key) (looOf p d.toNat l window key) l side
  else ([],lookE (plainOf p (p.defs.getD d.toNat default).exp) l.length room window))
 else ([],2)
theorem near_Reach (p:Prog) (hs:fitP p) (d:Int) (l:List News) (room:Room) (window key side:Int) :
  AFun prog 31 [lv (rProg p),lvI d,sl (l.map rNews),lv (rRoom room),lvI window,lvI key,lvI side] (.tup [sl ((reaV p d l room window key side).1.map rNews),lvI (reaV p d l room window key side).2]):=by
 intro H
 have cc:=cxK_ok (p:=kds [7,10] [] [])
 refine ECall.bodyNW (cxK_ok (p:=kds [7,10] [] [])) func31 rfl call31 (by rw [ntmps31];simp) rfl fun hf hw=>?_
 have ha:=near_isAsked p hs d l room key
 simp [rProg,rRoom] at ha
 simp [ntmps31,results31,rProg,rRoom] at hf |-
 refine AW.seq cc ?_
 simp
 refine AW.seq cc ?_
 simp
 refine EC.afun ha ?_
 by_cases hq:askedB p d l room key=true/\1<=side/\side<=3
 rotate_left
 ·have hrm:reaV p d l room window key side=([],2):=by rw [reaV,if_neg hq]
  rw [hrm]
  cases hb:askedB p d l room key with
  | false =>
   simp
   exact fun hz=>hz.drop (Nat.le_refl _)
  | true =>
   by_cases c1:side < 1
   ·simp [c1]
    exact fun hz=>hz.drop (Nat.le_refl _)
   ·have c2:3 < side:=by
     refine Int.not_le.1 fun q=>hq ⟨hb,by omega,q⟩
    simp [c1,c2]
    exact fun hz=>hz.drop (Nat.le_refl _)
 ·obtain ⟨hq,hs1,hs3⟩:=hq
  have c1:¬ side < 1:=by omega
  have c2:¬ 3 < side:=by omega
  simp [hq,c1,c2]
  have hq':=hq
  simp only [askedB,Bool.and_eq_true,decide_eq_true_eq] at hq'
  obtain ⟨⟨⟨⟨⟨hfm,hd0,hd1⟩,hl⟩,_⟩,hroom⟩,hkey⟩:=hq'
  have hd:d.toNat < p.defs.length:=by omega
  have hdd:((d.toNat:Nat):Int)=d:=by omega
  have hgd:p.defs.getD d.toNat default=p.defs[d.toNat]:=by simp [List.getD,List.getElem?_eq_getElem hd]
  have hpl:=formed_plain hfm hd
  have h12:=stands60 hl
  have hlook:=near_look p hs d.toNat hd hfm l hl h12 room hroom window key hkey H (fun h8=>by
   obtain ⟨k,hk,hw,_⟩:=formed_fold hfm hd h8;exact ⟨k,[],hk,hw⟩) (fun h=>⟨(hpl h).1,(hpl h).2.1,(hpl h).2.2.1,(hpl h).2.2.2.1⟩)
  rw [hdd] at hlook
  simp [rProg,rRoom] at hlook
  refine AW.seq cc ?_
  simp
  obtain ⟨E,hE⟩:∃ E,lookE (plainOf p p.defs[d.toNat].exp) l.length room window=E:=⟨_,rfl⟩
  rw [hE] at hlook
  have hrv:reaV p d l room window key side=if E=0 then reaB (bndOf p d.toNat l room window key) (scOf p d.toNat l room window key) (looOf p d.toNat l window key) l side else ([],E):=by
   rw [reaV,if_pos ⟨hq,hs1,hs3⟩,hgd,hE]
  by_cases hE0:E=0
  ·rw [hrv,if_pos hE0]
   simp only [if_pos hE0] at hlook
   refine EC.of hlook (fun v H2 hR=>?_) (fun v H2 hR=>?_)
   rotate_left
   ·cases hR.1
   obtain ⟨e,es,hmv,hH2⟩:=hR
   cases e
   simp
   refine AW.seq cc ?_
   simp
   obtain ⟨sh,hsh⟩:∃ sh,(plainOf p p.defs[d.toNat].exp).1=sh:=⟨_,rfl⟩
   rw [hsh] at hH2 hpl hmv
   have hpt:(plainOf p p.defs[d.toNat].exp).2=true:=by
    cases hb:(plainOf p p.defs[d.toNat].exp).2 with
    | true=>rfl
    | false=>rw [lookE,if_pos hb] at hE;omega
   have hpl:=hpl hpt
   have hrm:(0<=room.most/\room.most<=6)/\valB room.low=true/\valB room.high=true:=by
    simp [roomB,inB] at hroom
    exact ⟨hroom.1.1.1,hroom.1.1.2,hroom.1.2⟩
   obtain ⟨SC,hSC⟩:∃ SC,sceneM l sh room window key H.next=SC:=⟨_,rfl⟩
   have hk:=comeM_keep (maxI (window - sh.n+1) (markM l sh.src)) key (window - maxI (window - sh.n+1) (markM l sh.src)+1).toNat (room.high - room.low+1).toNat (scene0 sh room (sl ((fixedM l sh window key (standsM l)).map rI)) (sl ((sortL (looseM l sh window key (standsM l))).map rLoose)) H.next) room.low
   have hci:=comeM_in (maxI (window - sh.n+1) (markM l sh.src)) key (window - maxI (window - sh.n+1) (markM l sh.src)+1).toNat (room.high - room.low+1).toNat (scene0 sh room (sl ((fixedM l sh window key (standsM l)).map rI)) (sl ((sortL (looseM l sh window key (standsM l))).map rLoose)) H.next) room.low (by simp [scene0,zeroRec,inMost]) (by simp [scene0,zeroRec,inMost]) (fun j hj=>by
    have h1:=hrm.2.1;have h2:=hrm.2.2
    simp [valB,inB] at h1 h2
    unfold inMost;omega)
   rw [<- sceneM,hSC] at hk hci
   rw [hSC] at hH2
   have hval:=standsM_val hl
   obtain ⟨L,hL⟩:∃ L,sortL (looseM l sh window key (standsM l))=L:=⟨_,rfl⟩
   obtain ⟨F,hF⟩:∃ F,fixedM l sh window key (standsM l)=F:=⟨_,rfl⟩
   have hlen:F.length+L.length<=60:=by
    rw [<- hF,<- hL,sortL_len];simp only [fixedM,looseM,List.length_map]
    have h1:=filt2 (inWin sh window key) (isLoose l sh) (standsM l)
    omega
   have hvF:∀ x ∈ F,inMost x:=fun x hx=>by
    rw [<- hF] at hx
    obtain ⟨e,he,rfl⟩:=List.mem_map.1 hx
    exact hval e (List.mem_filter.1 he).1
   have hvL:∀ x ∈ L,inMost x.ev.rec_.val/\-1000<=x.ver/\x.ver<=1000:=fun x hx=>by
    rw [<- hL] at hx
    have hx:=(Go.Aft.sortL_perm _).mem_iff.1 hx
    obtain ⟨e,he,rfl⟩:=List.mem_map.1 hx
    have hvr:=verM_range (formed_good hl) (src:=sh.src) (id:=e.id)
    exact ⟨hval e (List.mem_filter.1 he).1,by simp only;omega,by simp only;omega⟩
   rw [hF,hL] at hk
   have hbd:=scene_bound SC F L hk.1 hk.2.1 hlen room.most.toNat (by rw [hk.2.2.2.2];simp only [scene0];omega) (by omega) (by rw [hk.2.2.2.1];simp only [scene0];omega)
    hvF (fun x hx=>(hvL x hx).1) (fun g=>by unfold sRec;split;exact hci.2;exact hci.1) (H.next+1) H2 (by rw [hH2];exact add2_1)
   have n2:H2.next=H.next+2:=by rw [hH2];rfl
   obtain ⟨B,hB⟩:∃ B,boundM SC F L room.most.toNat=B:=⟨_,rfl⟩
   rw [hB] at hbd
   refine AW.seq cc ?_
   simp
   refine ⟨by omega,EC.of hbd (fun v H3 hR=>?_) (fun v H3 hR=>?_)⟩
   rotate_left
   ·cases hR.1
   obtain ⟨e,hH3⟩:=hR
   cases e
   have o3:H3.obj H2.next=some (bndO B):=by rw [hH3];simp [GH.add_obj]
   have o2:H3.obj (H.next+1)=some (sceneO SC):=by rw [hH3,GH.add_obj,if_neg (by omega),hH2];exact add2_1
   have o1:H3.obj H.next=some (.map es):=by rw [hH3,GH.add_obj,if_neg (by omega),hH2];exact add2_0
   have n3:H3.next=H.next+3:=by rw [hH3,GH.add_next];omega
   have hlo:∀ m,m < H.next->H3.obj m=H.obj m:=fun m hm=>by rw [hH3,GH.add_obj,if_neg (by omega),hH2,GH.add_obj,if_neg (by simp only [GH.add_next];omega),GH.add_obj,if_neg (by omega)]
   have hwy:=boundM_way SC F L room.most.toNat
   rw [hB] at hwy
   have hsc:SC.sh=sh:=by rw [hk.2.2.2.1];rfl
   have hSC0:SC = { scOf p d.toNat l room window key with vers:=.gm H.next }:=by
    rw [<- hSC,scOf,hgd,hsh];exact comeM_vers _ _ _ (.gm H.next) _ (scene0 sh room _ _ 0) room.low
   have hLo:looOf p d.toNat l window key=L:=by rw [looOf,hgd,hsh,hL]
   have hBo:bndOf p d.toNat l room window key=B:=by
    rw [<- hB,bndOf,hgd,hsh,hLo,hF,hSC0];rfl
   have hnv:∀ w g,lateNV (scOf p d.toNat l room window key) L l w g=lateNV SC L l w g:=fun w g=>by rw [hSC0];rfl
   rw [hBo,hLo]
   have hlate:=fun (w:Way) (g:Bool) (hw:WayOk L.length room.most.toNat w)=>scene_late SC L hk.2.1 (by omega) l (formed_good hl) w hw.1 (by have:=hw.2;omega) (fun x hx=>(hvL x hx).2) g (H.next+1) H.next es hk.2.2.1 H3 o2 o1 (by rw [hsc];exact hmv)
   have hd3:Drop H H3 H:=Drop_same (by omega) hlo hw.none
   clear hbd hlook hk hci hH2 hH3 hB hL hF hSC hSC0
   obtain ⟨⟨so,no,lo,hi⟩,wn,wl,wh⟩:=B
   have hob:bndO ⟨⟨so,no,lo,hi⟩,wn,wl,wh⟩=.box [.d (.k (.bool so)),.d (.k (.bool no)),lvI lo,lvI hi,lvI wn.gone,lvI wn.turned,lvI wn.more,lvI wl.gone,lvI wl.turned,lvI wl.more,lvI wh.gone,lvI wh.turned,lvI wh.more]:=rfl
   rw [hob] at o3
   simp
   have hs:side=1 \/ side=2 \/ side=3:=by omega
   have hfin:∀ {v:LV} {H5:GH} {w:Way} {g:Bool},(v=sl ((lateNV SC L l w g).map rNews))/\H5=H3->v=sl ((lateNV SC L l w g).map rNews):=fun h=>h.1
   have hl1:=hlate wn false hwy.1
   have hl2:=hlate wl false hwy.2.1
   have hl3:=hlate wh true hwy.2.2
   simp [rWay] at hl1 hl2 hl3
   rcases hs with rfl | rfl | rfl
   ·cases no with
    | true =>
     refine AW.seq cc ?_
     simp [o3]
     refine ⟨by omega,EC.of hl1 (fun v H5 hR=>?_) (fun v H5 hR=>?_)⟩
     rotate_left
     ·cases hR.1
     obtain ⟨e,rfl⟩:=hR
     cases e
     simp [reaB,hnv]
     exact fun _=>hd3
    | false =>
     refine AW.seq cc ?_
     simp [o3]
     refine AW.ev cc ?_
     simp [reaB]
     exact fun _=>hd3
   ·cases so with
    | true =>
     refine AW.seq cc ?_
     simp [o3]
     refine ⟨by omega,EC.of hl2 (fun v H5 hR=>?_) (fun v H5 hR=>?_)⟩
     rotate_left
     ·cases hR.1
     obtain ⟨e,rfl⟩:=hR
     cases e
     simp [reaB,hnv]
     exact fun _=>hd3
    | false =>
     refine AW.seq cc ?_
     simp [o3]
     refine AW.ev cc ?_
     simp [reaB]
     exact fun _=>hd3
   ·cases so with
    | true =>
     refine AW.seq cc ?_
     simp [o3]
     refine ⟨by omega,EC.of hl3 (fun v H5 hR=>?_) (fun v H5 hR=>?_)⟩
     rotate_left
     ·cases hR.1
     obtain ⟨e,rfl⟩:=hR
     cases e
     simp [reaB,hnv]
     exact fun _=>hd3
    | false =>
     refine AW.seq cc ?_
     simp [o3]
     refine AW.ev cc ?_
     simp [reaB]
     exact fun _=>hd3
  ·rw [hrv,if_neg hE0]
   simp only [if_neg hE0] at hlook
   refine EC.of hlook (fun v H2 hR=>?_) (fun v H2 hR=>?_)
   rotate_left
   ·cases hR.1
   obtain ⟨e,rfl⟩:=hR
   cases e
   simp
   refine AW.seq cc ?_
   simp [hE0]
   exact fun hz=>hz.drop (Nat.le_refl _)
end Go.Aft
end
section
set_option maxRecDepth 20000
namespace Go.Aft
theorem clashFrom_all {l:List News}:∀ (m k:Nat),clashFrom l m k=none->∀ j,k<=j->j < k+m->clashAt l j=none
 | 0,k,_,j,h1,h2=>by omega
 | m+1,k,h,j,h1,h2=>by
  rw [clashFrom] at h
  split at h
  ·cases h
  ·rename_i q
   by_cases e:j=k
   ·subst e;exact q
   ·exact clashFrom_all m (k+1) h j (by omega) (by omega)
theorem clashM_snoc {l:List News} {n:News} (h:clashM l=none) (hn:∀ a ∈ l,clashB a n=false):clashM (l ++ [n])=none:=by
 refine clashM_none fun j hj=>?_
 simp only [List.length_append,List.length_singleton] at hj
 by_cases e:j < l.length
 ·have:=clashFrom_all _ _ h j (Nat.zero_le _) (by omega)
  unfold clashAt at this |-
  rw [List.getElem?_append_left e,List.take_append_of_le_length (by omega)]
  exact this
 ·have:j=l.length:=by omega
  subst this
  unfold clashAt
  simp only [List.getElem?_concat_length,List.take_left']
  rw [List.findIdx?_eq_none_iff]
  exact hn
theorem verM_ge {l:List News} {a:News} (h:a ∈ l) (h3:a.do_ ≠ 3):a.ver<=verM l a.src a.id:=by
 revert h
 refine snoc_ind (p:=fun l=>a ∈ l->a.ver<=verM l a.src a.id) (fun h=>by cases h) (fun l n ih h=>?_) l
 rcases List.mem_append.1 h with q | q
 ·exact Int.le_trans (ih q) (verM_le l n _ _)
 ·rw [List.mem_singleton] at q;subst q
  rw [verM_snoc,verStep,if_pos ⟨h3,rfl,rfl⟩]
  exact (maxI_ge _ _).2.1
theorem formed_snoc {l:List News} {n:News} {srcs:Int} (h:formedB l srcs=true) (hl:l.length < 60) (hg:goodB n srcs=true) (h3:n.do_ ≠ 3) (hv:verM l n.src n.id < n.ver):formedB (l ++ [n]) srcs=true:=by
 simp only [formedB,plainB,Bool.and_eq_true,decide_eq_true_eq,Bool.not_eq_true',List.any_eq_false] at h |-
 obtain ⟨⟨⟨h1,h2⟩,h4⟩,h5⟩:=h
 refine ⟨⟨⟨h1,by simp;omega⟩,fun m hm=>?_⟩,clashM_snoc h5 fun a ha=>?_⟩
 ·rcases List.mem_append.1 hm with q | q
  ·exact h4 m q
  ·rw [List.mem_singleton] at q;subst q;simp [hg]
 ·simp only [clashB,decide_eq_false_iff_not]
  rintro ⟨q1,_,q3,q4,q5,_⟩
  have:=verM_ge ha q1
  rw [q3,q4] at this
  omega
structure New1 (l:List News) (srcs:Int) (src:Int) (n:News):Prop where
 from_:n.src=src
 do_:n.do_ ≠ 3
 good:goodB n srcs=true
 ver:verM l src n.id < n.ver
 was:∀ e ∈ oneM l src n.id,markM l src<=e.rec_.at_
 is:n.do_=1->markM l src<=n.rec_.at_
theorem New1.one {l:List News} {srcs src:Int} {n:News} (h:New1 l srcs src n) (hg:∀ m ∈ l,goodB m srcs=true):oneM (l ++ [n]) src n.id=if n.do_=1 then [⟨src,n.id,n.rec_⟩] else []:=by
 have hl:lastM (l ++ [n]) src n.id=some n:=by
  rw [lastM_snoc,hearL,if_pos]
  refine ⟨h.do_,h.from_,rfl,fun w hw=>?_⟩
  have:=lastM_ver src n.id l hg
  rw [hw] at this
  simp only at this
  have:=h.ver
  omega
 unfold oneM
 rw [hl]
theorem New1.kept {l:List News} {srcs src:Int} {n:News} (h:New1 l srcs src n) (hk:keptB l srcs=true) (hl:l.length < 60):keptB (l ++ [n]) srcs=true:=by
 rw [keptB] at hk |-
 simp only [Bool.and_eq_true,decide_eq_true_eq] at hk |-
 have hg:=formed_good hk.1
 refine ⟨formed_snoc hk.1 hl h.good h.do_ (by rw [h.from_];exact h.ver),?_⟩
 have h2:=hk.2
 rw [lateM] at h2 |-
 rw [lateFrom_snoc l,h2]
 have:lateAt ([] ++ l) n=false:=by
  rw [List.nil_append,lateAt,List.any_eq_false]
  intro e he
  rw [h.from_]
  have key:e ∈ oneM l src n.id \/ e ∈ oneM (l ++ [n]) src n.id:=by
   unfold stepM at he
   rw [if_neg h.do_] at he
   split at he
   ·simp at he
   ·rw [h.from_] at he;exact List.mem_append.1 he
  rcases key with q | q
  ·simpa using h.was e q
  ·rw [h.one hg] at q
   split at q
   ·rename_i h1
    rw [List.mem_singleton] at q
    rw [q];simpa using h.is h1
   ·cases q
 rw [this];simp
def winV (l:List News) (sh:Shape) (window key:Int):List Int:=vmap ((standsM l).filter (inWin sh window key))
def goneV (l:List News) (sh:Shape) (window key:Int) (n:News):List Int:=vmap ((oneM l sh.src n.id).filter (inWin sh window key))
def comeV (sh:Shape) (window key:Int) (n:News):List Int:=vmap ((if n.do_=1 then [(⟨sh.src,n.id,n.rec_⟩:Event)] else []).filter (inWin sh window key))
theorem New1.win {l:List News} {srcs:Int} {sh:Shape} {window key:Int} {n:News} (h:New1 l srcs sh.src n) (hg:∀ m ∈ l,goodB m srcs=true):(winV (l ++ [n]) sh window key ++ goneV l sh window key n).Perm (winV l sh window key ++ comeV sh window key n):=by
 have s1:=(stands_split l sh.src n.id).filter (inWin sh window key)
 have s2:=(stands_split (l ++ [n]) sh.src n.id).filter (inWin sh window key)
 have hr:=rest_same (l:=l) (n:=n)
 rw [h.from_] at hr
 rw [hr,List.filter_append,h.one hg] at s2
 rw [List.filter_append] at s1
 have c1:=fun x=>(vmap_perm s1).count_eq x
 have c2:=fun x=>(vmap_perm s2).count_eq x
 refine perm_of fun x=>?_
 have a1:=c1 x
 have a2:=c2 x
 rw [vmap_app,List.count_append] at a1 a2
 simp only [winV,goneV,comeV,List.count_append]
 omega
theorem other_same {l:List News} {n m:News} {src:Int} (hs:n.src=src) (h3:n.do_ ≠ 3) (hne:n.id ≠ m.id):verM (l ++ [n]) src m.id=verM l src m.id/\oneM (l ++ [n]) src m.id=oneM l src m.id/\markM (l ++ [n]) src=markM l src :=
 ⟨verM_other fun q=>hne q.2,oneM_other fun q=>hne q.2,markM_keep h3⟩
theorem news_run {srcs:Int} {sh:Shape} {window key:Int}:∀ (M l:List News),keptB l srcs=true->l.length+M.length<=60->(∀ n ∈ M,New1 l srcs sh.src n)->M.Pairwise (fun a b=>a.id ≠ b.id) ->
  keptB (l ++ M) srcs=true/\(winV (l ++ M) sh window key ++ M.flatMap (goneV l sh window key)).Perm (winV l sh window key ++ M.flatMap (comeV sh window key))
 | [],l,hk,_,_,_=>by simp [hk]
 | n :: M,l,hk,hl,hM,hp=>by
  rw [List.pairwise_cons] at hp
  simp only [List.length_cons] at hl
  have hn:=hM n (by simp)
  have hg:∀ m ∈ l,goodB m srcs=true:=by
   rw [keptB,Bool.and_eq_true] at hk;exact formed_good hk.1
  have hk1:=hn.kept hk (by omega)
  have hsame:=fun (m:News) (hm:m ∈ M)=>other_same (l:=l) hn.from_ hn.do_ (hp.1 m hm)
  have ih:=news_run (sh:=sh) (window:=window) (key:=key) M (l ++ [n]) hk1 (by simp;omega) (fun m hm=>by
   obtain ⟨a1,a2,a3⟩:=hsame m hm
   have hmm:=hM m (by simp [hm])
   exact ⟨hmm.from_,hmm.do_,hmm.good,by rw [a1];exact hmm.ver,by rw [a2,a3];exact hmm.was,by rw [a3];exact hmm.is⟩) hp.2
  rw [List.append_assoc,List.singleton_append] at ih
  refine ⟨ih.1,?_⟩
  have hgo:M.flatMap (goneV (l ++ [n]) sh window key)=M.flatMap (goneV l sh window key):=by
   rw [List.flatMap_def,List.flatMap_def]
   refine congrArg _ (List.map_congr_left fun m hm=>?_)
   unfold goneV
   rw [(hsame m hm).2.1]
  rw [hgo] at ih
  have c1:=fun x=>ih.2.count_eq x
  have c2:=fun x=>(hn.win (window:=window) (key:=key) hg).count_eq x
  refine perm_of fun x=>?_
  have a1:=c1 x
  have a2:=c2 x
  simp only [List.flatMap_cons,List.count_append] at a1 a2 |-
  omega
end Go.Aft
end
section
set_option maxRecDepth 20000
namespace Go.Aft
theorem skipM_spec (l:List News) (src:Int):∀ (f:Nat) (id:Int),id<=skipM l src f id/\(∀ t,id<=t->t < skipM l src f id->0 < verM l src t)/\(skipM l src f id < id+f->verM l src (skipM l src f id)<=0)/\skipM l src f id<=id+f
 | 0,id=>⟨Int.le_refl _,fun t h1 h2=>by simp only [skipM] at h2;omega,fun h=>by simp only [skipM] at h;omega,by simp [skipM]⟩
 | f+1,id=>by
  rw [skipM]
  split
  ·rename_i q
   obtain ⟨h1,h2,h3,h4⟩:=skipM_spec l src f (id+1)
   refine ⟨by omega,fun t a b=>?_,fun h=>h3 (by omega),by omega⟩
   by_cases e:t=id
   ·subst e;exact q
   ·exact h2 t (by omega) b
  ·rename_i q
   exact ⟨Int.le_refl _,fun t a b=>by omega,fun _=>by omega,by omega⟩
theorem verM_heard {l:List News} {src t:Int} (h:0 < verM l src t):∃ n ∈ l,n.id=t:=by
 revert h
 refine snoc_ind (p:=fun l=>0 < verM l src t->∃ n ∈ l,n.id=t) (fun h=>by simp [verM] at h) (fun l n ih h=>?_) l
 rw [verM_snoc,verStep] at h
 split at h
 ·rename_i q;exact ⟨n,by simp,q.2.2⟩
 ·obtain ⟨m,h1,h2⟩:=ih h
  exact ⟨m,by simp [h1],h2⟩
theorem heard_few {l:List News} {src:Int} {ids:List Int} (hn:ids.Nodup) (hh:∀ t ∈ ids,0 < verM l src t):ids.length<=l.length:=by
 have:=nodup_sub_len (b:=l.map (·.id)) hn fun t ht=>by
  obtain ⟨n,h1,h2⟩:=verM_heard (hh t ht)
  exact List.mem_map.2 ⟨n,h1,h2⟩
 simpa using this
theorem range_nodup (a:Int):∀ n:Nat,((List.range n).map fun i:Nat=>a+i).Nodup
 | 0=>by simp
 | n+1=>by
  rw [List.range_succ,List.map_append,List.nodup_append]
  refine ⟨range_nodup a n,by simp,fun x hx y hy=>?_⟩
  obtain ⟨i,hi,rfl⟩:=List.mem_map.1 hx
  simp at hy hi
  omega
theorem skip_near {l:List News} {src id:Int} (h60:l.length<=60) (h0:0<=id) (h9:id<=900):id<=skipM l src (1001 - id).toNat id/\skipM l src (1001 - id).toNat id<=id+60/\verM l src (skipM l src (1001 - id).toNat id)<=0:=by
 obtain ⟨h1,h2,h3,h4⟩:=skipM_spec l src (1001 - id).toNat id
 generalize skipM l src (1001 - id).toNat id=j at *
 have hf:=heard_few (l:=l) (src:=src) (range_nodup id (j - id).toNat) fun t ht=>by
  obtain ⟨i,hi,rfl⟩:=List.mem_map.1 ht
  rw [List.mem_range] at hi
  exact h2 _ (by omega) (by omega)
 simp only [List.length_map,List.length_range] at hf
 exact ⟨h1,by omega,h3 (by omega)⟩
theorem moreM_mem {l:List News} {src:Int} {r:Rec} (h60:l.length<=60):∀ (k:Nat) (id:Int),0<=id->id+61 * k<=800->(moreM l src r k id).length=k/\(∀ n ∈ moreM l src r k id,n.do_=1/\n.src=src/\n.ver=1/\n.rec_=r/\id<=n.id/\n.id<=999/\verM l src n.id<=0)/\(moreM l src r k id).Pairwise (fun a b=>a.id ≠ b.id)
 | 0,id,_,_=>⟨rfl,fun n hn=>(nomatch hn),List.Pairwise.nil⟩
 | k+1,id,h0,h8=>by
  obtain ⟨h1,h2,h3⟩:=skip_near (l:=l) (src:=src) h60 h0 (by omega)
  rw [moreM]
  generalize skipM l src (1001 - id).toNat id=j at *
  obtain ⟨i1,i2,i3⟩:=moreM_mem (l:=l) (src:=src) (r:=r) h60 k (j+1) (by omega) (by omega)
  refine ⟨by simp [i1],fun n hn=>?_,List.pairwise_cons.2 ⟨fun n hn=>?_,i3⟩⟩
  ·rcases List.mem_cons.1 hn with rfl | hn
   ·exact ⟨rfl,rfl,rfl,rfl,h1,by simp only;omega,h3⟩
   ·obtain ⟨a,b,c,d,e,f,g⟩:=i2 n hn
    exact ⟨a,b,c,d,by omega,f,g⟩
  ·obtain ⟨_,_,_,_,e,_⟩:=i2 n hn
   simp only;omega
theorem lostsM_mem {src:Int} {g:Nat} {r:Rec}:∀ (xs:List Loose) (k:Nat) (n:News),n ∈ lostsM src g r k xs->∃ x ∈ xs,∃ i,n=lostM src g r i x/\k<=i/\i < k+xs.length
 | [],k,n,h=>by cases h
 | x :: xs,k,n,h=>by
  rw [lostsM] at h
  rcases List.mem_cons.1 h with rfl | h
  ·exact ⟨x,by simp,k,rfl,Nat.le_refl _,by simp⟩
  ·obtain ⟨y,h1,i,h2,h3,h4⟩:=lostsM_mem xs (k+1) n h
   exact ⟨y,by simp [h1],i,h2,by omega,by simp only [List.length_cons];omega⟩
theorem lostM_id (src:Int) (g:Nat) (r:Rec) (i:Nat) (x:Loose):(lostM src g r i x).id=x.ev.id/\(lostM src g r i x).src=src/\(lostM src g r i x).ver=x.ver+1/\((lostM src g r i x).do_=1/\(lostM src g r i x).rec_=r/\g<=i \/ (lostM src g r i x).do_=2/\(lostM src g r i x).rec_=zeroRec/\i < g):=by
 unfold lostM
 split
 ·rename_i q;exact ⟨rfl,rfl,rfl,.inl ⟨rfl,rfl,q⟩⟩
 ·rename_i q;exact ⟨rfl,rfl,rfl,.inr ⟨rfl,rfl,by omega⟩⟩
theorem lostsM_pw {src:Int} {g:Nat} {r:Rec}:∀ (xs:List Loose) (k:Nat),xs.Pairwise (fun a b=>a.ev.id ≠ b.ev.id)->(lostsM src g r k xs).Pairwise (fun a b=>a.id ≠ b.id)
 | [],k,_=>List.Pairwise.nil
 | x :: xs,k,h=>by
  rw [List.pairwise_cons] at h
  rw [lostsM,List.pairwise_cons]
  refine ⟨fun n hn=>?_,lostsM_pw xs (k+1) h.2⟩
  obtain ⟨y,hy,i,rfl,_⟩:=lostsM_mem xs (k+1) n hn
  rw [(lostM_id ..).1,(lostM_id ..).1]
  exact h.1 y hy
theorem lost_come {sh:Shape} {window key:Int} {g:Nat} {r:Rec} (hin:∀ id,inWin sh window key ⟨sh.src,id,r⟩=true):∀ (xs:List Loose) (k:Nat),(lostsM sh.src g r k xs).flatMap (comeV sh window key)=List.replicate (k+xs.length - max g k) r.val
 | [],k=>by simp only [lostsM,List.flatMap_nil,List.length_nil];rw [show k+0 - max g k=0 by omega];rfl
 | x :: xs,k=>by
  rw [lostsM,List.flatMap_cons,lost_come hin xs (k+1)]
  obtain ⟨h1,h2,h3,h4⟩:=lostM_id sh.src g r k x
  rcases h4 with ⟨h4,h5,h6⟩ | ⟨h4,h5,h6⟩
  ·have:comeV sh window key (lostM sh.src g r k x)=[r.val]:=by
    unfold comeV
    rw [if_pos h4,h5]
    simp [hin,vmap]
   rw [this,List.length_cons,show k+(xs.length+1) - max g k=(k+1+xs.length - max g (k+1))+1 by omega]
   rfl
  ·have:comeV sh window key (lostM sh.src g r k x)=[]:=by
    unfold comeV
    rw [if_neg (by rw [h4];decide)];rfl
   rw [this,List.length_cons,show k+(xs.length+1) - max g k=k+1+xs.length - max g (k+1) by omega]
   rfl
theorem lost_none {sh:Shape} {window key:Int} {g:Nat} {r:Rec}:∀ (xs:List Loose) (k:Nat),k+xs.length<=g->(lostsM sh.src g r k xs).flatMap (comeV sh window key)=[]
 | [],k,_=>rfl
 | x :: xs,k,h=>by
  simp only [List.length_cons] at h
  rw [lostsM,List.flatMap_cons,lost_none xs (k+1) (by omega)]
  obtain ⟨h1,h2,h3,h4⟩:=lostM_id sh.src g r k x
  rcases h4 with ⟨h4,h5,h6⟩ | ⟨h4,h5,h6⟩
  ·omega
  ·unfold comeV
   rw [if_neg (by rw [h4];decide)];rfl
theorem lost_gone {l:List News} {sh:Shape} {window key:Int} {g:Nat} {r:Rec}:∀ (xs:List Loose) (k:Nat),(∀ x ∈ xs,oneM l sh.src x.ev.id=[x.ev]/\inWin sh window key x.ev=true)->(lostsM sh.src g r k xs).flatMap (goneV l sh window key)=valsL xs
 | [],k,_=>rfl
 | x :: xs,k,h=>by
  obtain ⟨h1,h2⟩:=h x (by simp)
  rw [lostsM,List.flatMap_cons,lost_gone xs (k+1) fun y hy=>h y (by simp [hy])]
  have:goneV l sh window key (lostM sh.src g r k x)=[x.ev.rec_.val]:=by
   unfold goneV
   rw [(lostM_id ..).1,h1]
   simp [h2,vmap]
  rw [this];rfl
theorem flat_rep {α:Type} {f:α->List Int} {v:Int}:∀ {l:List α},(∀ a ∈ l,f a=[v])->l.flatMap f=List.replicate l.length v
 | [],_=>rfl
 | a :: l,h=>by
  rw [List.flatMap_cons,h a (by simp),flat_rep fun x hx=>h x (by simp [hx])];rfl
theorem flat_nil {α:Type} {f:α->List Int}:∀ {l:List α},(∀ a ∈ l,f a=[])->l.flatMap f=[]
 | [],_=>rfl
 | a :: l,h=>by
  rw [List.flatMap_cons,h a (by simp),flat_nil fun x hx=>h x (by simp [hx])];rfl
theorem lastM_key {l:List News} {s i:Int}:∀ {n:News},lastM l s i=some n->n.src=s/\n.id=i:=by
 refine snoc_ind (p:=fun l=>∀ {n:News},lastM l s i=some n->n.src=s/\n.id=i) (fun {n} h=>by simp [lastM] at h) (fun l m ih {n} h=>?_) l
 rw [lastM_snoc,hearL] at h
 split at h
 ·rename_i q
  cases h;exact ⟨q.2.1,q.2.2.1⟩
 ·exact ih h
theorem stands_good {l:List News} {srcs:Int} (h:formedB l srcs=true) {e:Event} (he:e ∈ standsM l):0<=e.src/\e.src<=srcs - 1/\0<=e.id/\e.id<=999/\1<=verM l e.src e.id:=by
 have hg:=formed_good h
 have he:=(standsM_mem l e).1 he
 unfold oneM at he
 split at he
 ·rename_i n hn
  split at he
  ·rename_i h1
   have hgn:=hg n (lastM_in hn)
   have hv:=lastM_ver e.src e.id l hg
   rw [hn] at hv
   simp only at hv
   have hk:n.src=e.src/\n.id=e.id:=by
    have:=lastM_key hn
    exact this
   simp [goodB,h1,saidB,inB,hk.1,hk.2] at hgn
   rw [hv]
   omega
  ·simp at he
 ·simp at he
theorem oneM_of {l:List News} {e:Event} (he:e ∈ standsM l):oneM l e.src e.id=[e]:=by
 have h:=(standsM_mem l e).1 he
 have hl:=oneM_len' l e.src e.id
 match hq:oneM l e.src e.id,hl with
 | [],_=>rw [hq] at h;cases h
 | [x],_=>rw [hq,List.mem_singleton] at h;rw [h]
theorem win_parts (l:List News) (sh:Shape) (window key:Int):(winV l sh window key).Perm (fixedM l sh window key (standsM l) ++ valsL (sortL (looseM l sh window key (standsM l)))):=by
 rw [fixed_eq]
 refine List.Perm.trans (filter_split (p1:=fxP l sh window key) (p2:=lxP l sh window key) fun e _=>?_) (List.Perm.append_left _ (loose_perm ..).symm)
 simp only [fxP,lxP]
 cases inWin sh window key e <;> cases isLoose l sh e <;> simp
theorem marks_keep {src:Int}:∀ {M l:List News},(∀ n ∈ M,n.do_ ≠ 3)->markM (l ++ M) src=markM l src
 | [],l,_=>by simp
 | n :: M,l,h=>by
  rw [show l ++ n :: M=(l ++ [n]) ++ M by simp,marks_keep fun m hm=>h m (by simp [hm]),markM_keep (h n (by simp))]
theorem late_way {l:List News} {srcs:Int} {sh:Shape} {room:Room} {window key:Int} (hk:keptB l srcs=true) (h60:l.length+room.most<=60) (hrb:roomB room=true) (hkey:valB key=true) (hwn:0<=window/\window<=200) (hsr:0<=sh.src/\sh.src<=srcs - 1) (great:Bool)
  {w:Way} (hway:w ∈ waysM room.most.toNat (min room.most.toNat (sortL (looseM l sh window key (standsM l))).length) (sceneM l sh room window key 0).has) :
  ((lateNV (sceneM l sh room window key 0) (sortL (looseM l sh window key (standsM l))) l w great).length:Int)<=room.most /\
  lateNB l (lateNV (sceneM l sh room window key 0) (sortL (looseM l sh window key (standsM l))) l w great) srcs sh.src room=true /\
  (winV (l ++ lateNV (sceneM l sh room window key 0) (sortL (looseM l sh window key (standsM l))) l w great) sh window key).Perm (valsM (fixedM l sh window key (standsM l)) (sortL (looseM l sh window key (standsM l))) w great (sRec (sceneM l sh room window key 0) great)) /\
  markM (l ++ lateNV (sceneM l sh room window key 0) (sortL (looseM l sh window key (standsM l))) l w great) sh.src=markM l sh.src:=by
 have hk':=hk
 rw [keptB,Bool.and_eq_true] at hk'
 have hf:=hk'.1
 have hg:=formed_good hf
 have hm:=roomB_most hrb
 have hmk:=markM_in hf sh.src
 have hsp:=scene_spec l sh room window key 0
 have hrr:-1000000000<=room.low/\room.high<=1000000000:=by simp [roomB,valB,inB] at hrb;omega
 have hkk:-1000000000<=key/\key<=1000000000:=by simp [valB,inB] at hkey;exact hkey
 have hl60:l.length<=60:=by omega
 have hparts:=win_parts l sh window key
 have hvl:∀ x ∈ sortL (looseM l sh window key (standsM l)),x.ev ∈ standsM l/\inWin sh window key x.ev=true/\isLoose l sh x.ev=true/\x.ver=verM l sh.src x.ev.id:=fun x hx=>by
  have hx:=(Go.Aft.sortL_perm _).mem_iff.1 hx
  obtain ⟨e,he,rfl⟩:=List.mem_map.1 hx
  rw [List.mem_filter,Bool.and_eq_true] at he
  exact ⟨he.1,he.2.1,he.2.2,rfl⟩
 have hpw:(sortL (looseM l sh window key (standsM l))).Pairwise (fun a b=>a.ev.id ≠ b.ev.id):=by
  refine (Go.Aft.sortL_perm _).symm.pairwise ?_ (fun {a b} q=>Ne.symm q)
  rw [looseM,List.pairwise_map]
  have hd:(standsM l).Pairwise (fun a b=>¬ (a.src=b.src/\a.id=b.id)):=(standsM_sorted l).imp_of_mem fun {a b} ha hb q e=>by
   have h1:=oneM_of ha
   have h2:=oneM_of hb
   rw [e.1,e.2,h2] at h1
   have:a=b:=by simpa using h1.symm
   subst this
   exact evLt_irr a q
  refine ((hd.filter _).imp_of_mem fun {a b} ha hb q e=>?_)
  rw [List.mem_filter,Bool.and_eq_true] at ha hb
  have s1:a.src=sh.src:=by have:=ha.2.1;simp only [inWin,Bool.and_eq_true,decide_eq_true_eq] at this;exact this.1.1.1
  have s2:b.src=sh.src:=by have:=hb.2.1;simp only [inWin,Bool.and_eq_true,decide_eq_true_eq] at this;exact this.1.1.1
  exact q ⟨by rw [s1,s2],e⟩
 generalize sortL (looseM l sh window key (standsM l))=L at hway hparts hvl hpw |-
 generalize sceneM l sh room window key 0=sc at hsp hway |-
 rw [way_room] at hway
 obtain ⟨w1,w2,w3⟩:=hway
 have hsh:sc.sh.src=sh.src:=by rw [hsp.sh]
 have hr:sc.has=true->canV sh room window key (markM l sh.src) (recOf sc great).val/\(recOf sc great).key=key/\maxI (window - sh.n+1) (markM l sh.src)<=(recOf sc great).at_/\(recOf sc great).at_<=window/\passM sh (recOf sc great)=true:=fun q=>by
  unfold recOf;split
  ·exact hsp.high q
  ·exact hsp.low q
 have hsr2:sRec sc great=(recOf sc great).val:=by unfold sRec recOf;rfl
 rw [hsr2]
 unfold lateNV
 rw [hsh]
 generalize recOf sc great=r at hr |-
 have hlen:(chgM L w great).length=w.gone+w.turned:=by unfold chgM;split <;> simp <;> omega
 have hsub:∀ x ∈ chgM L w great,x ∈ L:=fun x hx=>by
  unfold chgM at hx;split at hx
  ·exact List.mem_of_mem_take hx
  ·exact List.mem_of_mem_drop hx
 have hcpw:(chgM L w great).Pairwise (fun a b=>a.ev.id ≠ b.ev.id):=by
  unfold chgM;split
  ·exact hpw.sublist (List.take_sublist ..)
  ·exact hpw.sublist (List.drop_sublist ..)
 have hck:(valsL L).Perm (valsL (chgM L w great) ++ valsL (keptM L w great)):=by
  unfold valsL chgM keptM
  rw [<- List.map_append]
  refine List.Perm.map _ ?_
  split
  ·rw [List.take_append_drop]
  ·exact List.Perm.trans (by rw [List.take_append_drop]) List.perm_append_comm
 obtain ⟨m1,m2,m3⟩:=moreM_mem (l:=l) (src:=sh.src) (r:=r) hl60 w.more 0 (Int.le_refl _) (by omega)
 have hrec:sc.has=true->recB r=true:=fun q=>by
  obtain ⟨⟨a,b,_⟩,c,d,e,_⟩:=hr q
  have:=maxI_ge (window - sh.n+1) (markM l sh.src)
  simp only [recB,inB,Bool.and_eq_true,decide_eq_true_eq]
  omega
 have hat:sc.has=true->markM l sh.src<=r.at_:=fun q=>by
  have:=(hr q).2.2.1
  have:=maxI_ge (window - sh.n+1) (markM l sh.src)
  omega
 have hin:sc.has=true->∀ id,inWin sh window key ⟨sh.src,id,r⟩=true:=fun q id=>by
  obtain ⟨_,c,d,e,f⟩:=hr q
  have:=maxI_ge (window - sh.n+1) (markM l sh.src)
  simp only [inWin,inB,Bool.and_eq_true,decide_eq_true_eq]
  exact ⟨⟨⟨trivial,c⟩,by omega,e⟩,f⟩
 have hx:∀ x ∈ chgM L w great,oneM l sh.src x.ev.id=[x.ev]/\inWin sh window key x.ev=true/\markM l sh.src<=x.ev.rec_.at_/\x.ver < 99/\1<=x.ver/\x.ver=verM l sh.src x.ev.id/\0<=x.ev.id/\x.ev.id<=999:=fun x hx=>by
  obtain ⟨a,b,c,d⟩:=hvl x (hsub x hx)
  have hs:x.ev.src=sh.src:=by simp only [inWin,Bool.and_eq_true,decide_eq_true_eq] at b;exact b.1.1.1
  have hsg:=stands_good hf a
  rw [hs] at hsg
  simp only [isLoose,decide_eq_true_eq] at c
  rw [<- hs,oneM_of a,hs]
  exact ⟨rfl,b,c.1,by omega,by omega,d,by omega,by omega⟩
 have hmore:∀ n ∈ moreM l sh.src r w.more 0,sc.has=true:=fun n hn=>by
  rcases w3 with q | q
  ·exact q
  ·have:w.more=0:=by omega
   rw [this] at hn;cases hn
 have hnone:∀ n ∈ moreM l sh.src r w.more 0,oneM l sh.src n.id=[]:=fun n hn=>by
  obtain ⟨_,_,_,_,_,_,hv⟩:=m2 n hn
  have:=lastM_ver sh.src n.id l hg
  unfold oneM
  split
  ·rename_i w' hw'
   rw [hw'] at this
   simp only at this
   exfalso
   have h1:=good_ver (hg w' (lastM_in hw'))
   by_cases h3:w'.do_=3
   ·have hnm:∀ l:List News,∀ z,lastM l sh.src n.id=some z->z.do_ ≠ 3:=fun l=>by
     refine snoc_ind (p:=fun l=>∀ z,lastM l sh.src n.id=some z->z.do_ ≠ 3) (fun z h=>by simp [lastM] at h) (fun l m ih z h=>?_) l
     rw [lastM_snoc,hearL] at h
     split at h
     ·rename_i q;cases h;exact q.1
     ·exact ih z h
    exact hnm l w' hw' h3
   ·have:=h1 h3;omega
  ·rfl
 have hN1:∀ n ∈ lostsM sh.src w.gone r 0 (chgM L w great),New1 l srcs sh.src n/\lateOne sh.src room n=true/\n.do_ ≠ 3:=fun n hn=>by
  obtain ⟨x,hxm,i,rfl,_,hi⟩:=lostsM_mem _ _ _ hn
  obtain ⟨a,b,c,d,e,f,g1,g2⟩:=hx x hxm
  obtain ⟨h1,h2,h3,h4⟩:=lostM_id sh.src w.gone r i x
  rw [hlen] at hi
  rcases h4 with ⟨h4,h5,h6⟩ | ⟨h4,h5,h6⟩
  ·have hh:sc.has=true:=by
    rcases w3 with q | q
    ·exact q
    ·omega
   obtain ⟨⟨r1,r2,_⟩,_⟩:=hr hh
   refine ⟨⟨h2,by rw [h4];decide,?_,by rw [h1,h3,<- f];omega,fun z hz=>?_,fun _=>by rw [h5];exact hat hh⟩,?_,by rw [h4];decide⟩
   ·simp only [goodB,h2,h4,saidB,h1,h3,h5,hrec hh,inB]
    simp;omega
   ·rw [h1,a,List.mem_singleton] at hz;rw [hz];exact c
   ·simp [lateOne,h2,h4,h5,inB,r1,r2]
  ·refine ⟨⟨h2,by rw [h4];decide,?_,by rw [h1,h3,<- f];omega,fun z hz=>?_,fun q=>by rw [h4] at q;cases q⟩,?_,by rw [h4];decide⟩
   ·simp only [goodB,h2,h4,saidB,h1,h3,h5,inB]
    simp [recB,inB,zeroRec];omega
   ·rw [h1,a,List.mem_singleton] at hz;rw [hz];exact c
   ·simp [lateOne,h2,h4]
 have hN2:∀ n ∈ moreM l sh.src r w.more 0,New1 l srcs sh.src n/\lateOne sh.src room n=true/\n.do_ ≠ 3:=fun n hn=>by
  obtain ⟨a,b,c,d,e,f,g⟩:=m2 n hn
  have hh:=hmore n hn
  obtain ⟨⟨r1,r2,_⟩,_⟩:=hr hh
  refine ⟨⟨b,by rw [a];decide,?_,by rw [c];omega,fun z hz=>?_,fun _=>by rw [d];exact hat hh⟩,?_,by rw [a];decide⟩
  ·simp only [goodB,a,b,saidB,c,d,hrec hh,inB]
   simp;omega
  ·rw [hnone n hn] at hz;cases hz
  ·simp [lateOne,a,b,d,inB,r1,r2]
 have hpwM:(lostsM sh.src w.gone r 0 (chgM L w great) ++ moreM l sh.src r w.more 0).Pairwise (fun a b=>a.id ≠ b.id):=by
  rw [List.pairwise_append]
  refine ⟨lostsM_pw _ _ hcpw,m3,fun n hn n' hn' q=>?_⟩
  obtain ⟨x,hxm,i,rfl,_⟩:=lostsM_mem _ _ _ hn
  obtain ⟨_,_,_,_,e,f,_⟩:=hx x hxm
  obtain ⟨_,_,_,_,_,_,hv⟩:=m2 n' hn'
  rw [(lostM_id ..).1] at q
  rw [<- q,<- f] at hv
  omega
 have hlM:(lostsM sh.src w.gone r 0 (chgM L w great) ++ moreM l sh.src r w.more 0).length=w.gone+w.turned+w.more:=by
  rw [List.length_append,lostsM_len,hlen,m1]
 have hgo:(lostsM sh.src w.gone r 0 (chgM L w great) ++ moreM l sh.src r w.more 0).flatMap (goneV l sh window key)=valsL (chgM L w great):=by
  rw [List.flatMap_append,lost_gone _ _ (fun x hxm=>⟨(hx x hxm).1,(hx x hxm).2.1⟩),flat_nil (fun n hn=>by unfold goneV;rw [hnone n hn];rfl),List.append_nil]
 have hco:(lostsM sh.src w.gone r 0 (chgM L w great) ++ moreM l sh.src r w.more 0).flatMap (comeV sh window key)=List.replicate (w.turned+w.more) r.val:=by
  rw [List.flatMap_append]
  by_cases hh:sc.has=true
  ·rw [lost_come (hin hh),hlen,flat_rep (v:=r.val) (fun n hn=>by
    obtain ⟨a,b,c,d,_⟩:=m2 n hn
    unfold comeV
    rw [if_pos a,d]
    simp [hin hh,vmap]),m1,List.replicate_append_replicate]
   congr 1;omega
  ·have h0:w.turned+w.more=0:=by
    rcases w3 with q | q
    ·exact absurd q hh
    ·exact q
   rw [lost_none _ _ (by rw [hlen];omega),flat_nil (fun n hn=>absurd (hmore n hn) hh),h0];rfl
 have hN:=fun n (hn:n ∈ lostsM sh.src w.gone r 0 (chgM L w great) ++ moreM l sh.src r w.more 0)=>(List.mem_append.1 hn).elim (hN1 n) (hN2 n)
 generalize lostsM sh.src w.gone r 0 (chgM L w great) ++ moreM l sh.src r w.more 0=M at *
 obtain ⟨k1,k2⟩:=news_run (sh:=sh) (window:=window) (key:=key) M l hk (by omega) (fun n hn=>(hN n hn).1) hpwM
 refine ⟨by omega,?_,?_,marks_keep fun n hn=>(hN n hn).2.2⟩
 ·have hme:manyE M=M.length:=by
   unfold manyE
   rw [List.filter_eq_self.2 (fun n hn=>by simpa using (hN n hn).2.2)]
  simp only [lateNB,Bool.and_eq_true,decide_eq_true_eq,List.all_eq_true]
  exact ⟨⟨fun n hn=>(hN n hn).2.1,by rw [hme];omega⟩,k1⟩
 ·rw [hgo,hco] at k2
  have c1:=fun x=>k2.count_eq x
  have c2:=fun x=>hparts.count_eq x
  have c3:=fun x=>hck.count_eq x
  rw [valsM]
  refine perm_of fun x=>?_
  have a1:=c1 x
  have a2:=c2 x
  have a3:=c3 x
  simp only [List.count_append] at a1 a2 a3 |-
  have:List.count x ((keptM L w great).map fun x=>x.ev.rec_.val)=List.count x (valsL (keptM L w great)):=rfl
  omega
end Go.Aft
end
