import Derived.Test.YtdhphbedajhmnaaGreatA45
import Derived.Test.YtdhphbedajhmnaaGreatA46
import Derived.Test.YtdhphbedajhmnaaGreatA43
set_option linter.all false
section
set_option maxRecDepth 20000
namespace Go.Aft
open Go.Proofs.Tryz
theorem AppX.over {e:TypeId} {sz:Nat} {H0 H1 H2:GH} {x y:LV} {r1 r2:List (List DV)} (h1:AppX e sz H0 x r1 H1) (h2:AppX e sz H1 y r2 H2):AppX e sz H0 y r2 H2 :=
 ⟨by
  rcases h2.is with q | ⟨n,a,b,c,d⟩
  ·exact .inl q
  ·exact .inr ⟨n,Nat.le_trans h1.nx a,b,c,d⟩,Nat.le_trans h1.nx h2.nx,fun m hm=>(h2.ob m (Nat.lt_of_lt_of_le hm h1.nx)).trans (h1.ob m hm)⟩
theorem ref17_putO (l:List Int) (hl:l.length<=1000) (v:Int) (H:GH):ECall prog 114 [sl (l.map rI),lvI v] H fun ce H'=>∃ x,ce=.ret x/\AppX 3 1 H x ((putI l v).map rI) H':=by
 have cc:=cxK_ok (p:=kds [] [] [])
 refine ECall.bodyOW (cxK_ok (p:=kds [] [] [])) func114 rfl call114 (by rw [ntmps114];simp) rfl fun hf hw=>?_
 simp [ntmps114,results114] at hf |-
 refine AW.seq cc ?_
 simp
 refine AW.seq cc ?_
 simp
 refine AW.join (c:=cxK (kds [] [] [])) (fun _:Unit=>⟨[(0,sl (l.map rI)),(1,lvI v),(5,lvI (posI l v l.length))],[],H⟩) (fun _=>True) ?_ ?_
 ·refine AW.ev cc ?_
  simp
  refine AW.loopS cc (fun k:Nat=>⟨[(0,sl (l.map rI)),(1,lvI v),(5,lvI k)],[],H⟩) (fun k=>k) (fun k=>k<=l.length/\posI l v l.length=posI l v k) l.length ⟨⟨Nat.le_refl _,rfl⟩,by simp⟩ ?_
  rintro k ⟨hk,hp⟩
  cases k with
  | zero =>
   have hw0:(IntKind.i64.wrap (-1)).toNat=0:=rfl
   simp [hw0]
   have hz:posI l v l.length=0:=by simpa [posI] using hp
   cases l with
   | nil =>
    have hdf:(default:DV)=.k undef:=rfl
    simp [hdf,undef]
    exact JN.go () trivial (by simp [posI])
   | cons a l =>
    simp [rI]
    exact JN.go () trivial (by simp at hz;simp [hz,rI])
  | succ k =>
   have h:k < l.length:=hk
   have hw:IntKind.wrap .i64 ((k:Int)+1 - 1)=(k:Int):=by rw [wrap64] <;> omega
   have hw2:IntKind.wrap .i64 (k:Int)=(k:Int):=by rw [wrap64] <;> omega
   rw [posI,dif_pos h] at hp
   simp [hw,hw2,h,List.getElem?_eq_getElem h,rI]
   refine ⟨fun q=>?_,fun q=>?_⟩
   ·rw [if_pos q] at hp
    exact NX.go k (by omega) ⟨by omega,hp⟩ (by simp)
   ·rw [if_neg (by omega)] at hp
    exact JN.go () trivial (by simp [hp])
 ·rintro _ _
  have hk:=posI_le l v l.length
  have hput:putI l v=l.take (posI l v l.length) ++ v :: l.drop (posI l v l.length):=rfl
  generalize posI l v l.length=k at hk hput |-
  refine AW.ev cc ?_
  simp
  refine AW.draw cc [] (.q 0<|.q 1<|.q 4<|.q 5<|.q 7<|.q 8<|.f (.cons 2 (.f (.cons 3 (.f (.cons 6 (.q 9<|.f<|.one 10<|.q 11<|.done) (.cons 9 (.f<|.one 6<|.f<|.one 10<|.q 11<|.done) (.nil)))) (.cons 9 (.f<|.one 3<|.f<|.one 6<|.f<|.one 10<|.q 11<|.done) (.nil)))) (.cons 9 (.f<|.one 2<|.f<|.one 3<|.f<|.one 6<|.f<|.one 10<|.q 11<|.done) (.nil)))) (by kernel_rfl) ?_
  simp [hk,rI]
  have hrl:∀ (es:List Int),∀ r ∈ es.map rI,r.length=1:=fun es r hr=>by obtain ⟨_,_,rfl⟩:=List.mem_map.1 hr;rfl
  refine ⟨⟨?_,?_⟩,?_⟩
  all_goals
   refine APK.appX (ys:=(l.take k).map rI) tyE89 rfl tyE3 (by simp) (by simp) (.nil (H:=H)) (by simp [rowsOf]) (by simp) (by simp) (hrl _) (by simp;omega) (by simp) fun y1 H1 h1 _ _=>?_
   simp only [List.nil_append] at h1
   simp [h1.plain.all,hk,rI]
   try refine ⟨?_,?_⟩
   all_goals
    refine APK.appX (ys:=[rI v]) tyE89 rfl tyE3 (by simp) (x:=y1) (by simp) h1 (by simp [rowsOf,rI]) (by simp) (hrl _) (by simp) (by simp;omega) (by simp) fun y2 H2 h2 _ _=>?_
    simp [h2.plain.all,hk,rI]
    refine APK.appX (ys:=(l.drop k).map rI) tyE89 rfl tyE3 (by simp) (x:=y2) (by simp) h2 (by simp [rowsOf]) (by simp) (fun r hr=>by
     rcases List.mem_append.1 hr with q | q
     ·exact hrl _ r q
     ·rw [List.mem_singleton] at q;rw [q];rfl) (hrl _) (by simp;omega) (by simp) fun y3 H3 h3 _ _=>?_
    rw [show List.map rI (List.take k l) ++ [rI v] ++ List.map rI (List.drop k l)=(putI l v).map rI by simp [hput]] at h3
    simp [h3.plain.all]
    exact fun hz=>⟨H3,hz.drop h3.nx,h3.nb,h3⟩
theorem ref17_valuesO (sh:Shape) (window key:Int) (l:List News) (srcs:Int) (hl:formedB l srcs=true) (hw:0<=window/\window<=200) (hn:1<=sh.n/\sh.n<=50) (hc:∀ c ∈ sh.terms,0<=mFormed c 1 60) (H:GH) :
  ECall prog 69 [caseL sh (markM l sh.src) window key,sl (l.map rNews)] H fun ce H'=>∃ x,ce=.ret (.tup [x,sl ((valsL (sortL (looseM l sh window key (standsM l)))).map rI)])/\AppX 3 1 H x ((putsI (fixedM l sh window key (standsM l))).map rI) H':=by
 have cc:=cxK_ok (p:=kds [2] [] [])
 have hl60:l.length<=60:=by simp only [formedB,plainB,Bool.and_eq_true,decide_eq_true_eq] at hl;exact hl.1.1.2
 have hes:=stands_len l
 have hv:valsL (sortL (looseM l sh window key (standsM l)))=putsI (vmap ((standsM l).filter (lxP l sh window key))) :=
  sortedI_unique (loose_sorted _) (putsI_sorted _) ((loose_perm ..).trans (putsI_perm _).symm)
 rw [hv]
 have hrec:=stands_rec hl
 have hver:=verM_most (formed_good hl)
 refine ECall.bodyOW (cxK_ok (p:=kds [2] [] [])) func69 rfl call69 (by rw [ntmps69];simp) rfl fun hf hw0=>?_
 have hst:=ref05_StandsOf l (by omega)
 simp [ntmps69,results69,caseL,rShape] at hf hst |-
 generalize standsM l=es at hes hrec hst |-
 refine AW.seq cc ?_
 simp
 refine AW.seq cc ?_
 simp
 refine AW.seq cc ?_
 simp
 refine EC.afun hst ?_
 simp
 refine AW.fzT 7 ?_
 refine AW.ev cc ?_
 simp
 refine AW.loopS cc (fun a:Nat × LV × GH=>⟨[(1,sl (l.map rNews)),(2,.ip ((rShape sh).map .d ++ [lvI (markM l sh.src),lvI window,lvI key]) 0),(6,a.2.1),(7,sl ((putsI (vmap ((es.take a.1).filter (lxP l sh window key)))).map rI)),(8,sl (es.map rEvent)),(9,lvI a.1)],[],a.2.2⟩) (fun a=>es.length - a.1)
  (fun a=>a.1<=es.length/\AppX 3 1 H a.2.1 ((putsI (fixedM l sh window key (es.take a.1))).map rI) a.2.2) (0,.d (.k (.slice none 0 0)),H) ⟨⟨Nat.zero_le _,by simpa [fixedM,putsI] using AppX.nil⟩,by simp [S.fzT,fz,rShape,fixedM,vmap,putsI]⟩ ?_
 rintro ⟨k,x,Hc⟩ ⟨hk,hx⟩
 simp only at hk hx
 simp [rShape,hx.only]
 refine ⟨fun h=>?_,fun h=>?_⟩
 ·have htk:es.take (k+1)=es.take k ++ [es[k]]:=by rw [List.take_add_one,List.getElem?_eq_getElem h];rfl
  have hwk:IntKind.wrap .i64 ((k:Int)+1)=(k:Int)+1:=by rw [wrap64] <;> omega
  have hwi:=ref17_within sh (markM l sh.src) window key es[k].rec_ hw hn (hrec _ (List.getElem_mem h)) hc
  simp [caseL,rShape,rRec] at hwi
  have hF:fixedM l sh window key (es.take (k+1))=fixedM l sh window key (es.take k) ++ (if fxP l sh window key es[k]=true then [es[k].rec_.val] else []):=by
   rw [fixed_eq,fixed_eq,htk,List.filter_append,vmap_app];simp only [List.filter_cons,List.filter_nil];split <;> simp [vmap]
  have hL:vmap ((es.take (k+1)).filter (lxP l sh window key))=vmap ((es.take k).filter (lxP l sh window key)) ++ (if lxP l sh window key es[k]=true then [es[k].rec_.val] else []):=by
   rw [htk,List.filter_append,vmap_app];simp only [List.filter_cons,List.filter_nil];split <;> simp [vmap]
  have hskip:inWin sh window key es[k]=false->fixedM l sh window key (es.take (k+1))=fixedM l sh window key (es.take k)/\vmap ((es.take (k+1)).filter (lxP l sh window key))=vmap ((es.take k).filter (lxP l sh window key)):=fun q=>by
   rw [hF,hL];simp [fxP,lxP,q]
  have hIw:inWin sh window key es[k]=(decide (es[k].src=sh.src) && (inB es[k].rec_.at_ (window - sh.n+1) window && decide (es[k].rec_.key=key) && passM sh es[k].rec_)):=by
   unfold inWin
   by_cases a:es[k].src=sh.src <;> by_cases b:es[k].rec_.key=key <;> simp [a,b]
  by_cases q1:es[k].src=sh.src
  rotate_left
  ·have q1b:(es[k].src != sh.src)=true:=by simpa using q1
   simp [h,List.getElem?_eq_getElem h,rEvent,rRec,q1,q1b]
   obtain ⟨s1,s2⟩:=hskip (by rw [hIw];simp [q1])
   exact NX.go (k+1,x,Hc) (by simp only;omega) ⟨h,by simp only;rw [s1];exact hx⟩ (by simp [rShape,hwk,s2,hx.only])
  ·have q1b:(es[k].src != sh.src)=false:=by simpa using q1
   simp [h,List.getElem?_eq_getElem h,rEvent,rRec,q1,q1b]
   refine EC.afun hwi ?_
   cases q2:(inB es[k].rec_.at_ (window - sh.n+1) window && decide (es[k].rec_.key=key) && passM sh es[k].rec_) with
   | false =>
    simp [q1b]
    obtain ⟨s1,s2⟩:=hskip (by rw [hIw,q2];simp)
    exact NX.go (k+1,x,Hc) (by simp only;omega) ⟨h,by simp only;rw [s1];exact hx⟩ (by simp [rShape,hwk,s2,hx.only])
   | true =>
    have hin:inWin sh window key es[k]=true:=by rw [hIw,q2];simp [q1]
    have hfl:(fixedM l sh window key (es.take k)).length<=k:=by
     simp only [fixedM,List.length_map]
     exact Nat.le_trans (List.length_filter_le ..) (by simp;omega)
    have hll:(vmap ((es.take k).filter (lxP l sh window key))).length<=k:=by
     simp only [vmap,List.length_map]
     exact Nat.le_trans (List.length_filter_le ..) (by simp;omega)
    have hpF:=ref17_putO (putsI (fixedM l sh window key (es.take k))) (by rw [(putsI_perm _).length_eq];omega) es[k].rec_.val Hc
    have hpL:=ref17_put (putsI (vmap ((es.take k).filter (lxP l sh window key)))) (by rw [(putsI_perm _).length_eq];omega) es[k].rec_.val
    rw [<- putsI_snoc] at hpF hpL
    have hgr:=ref17_greatest l sh.src es[k].id
    rw [greatest_eq] at hgr
    simp at hpF hpL hgr
    have hv99:=hver sh.src es[k].id
    have go1:isLoose l sh es[k]=false->fixedM l sh window key (es.take (k+1))=fixedM l sh window key (es.take k) ++ [es[k].rec_.val]/\vmap ((es.take (k+1)).filter (lxP l sh window key))=vmap ((es.take k).filter (lxP l sh window key)):=fun q=>by
     rw [hF,hL];simp [fxP,lxP,hin,q]
    have go2:isLoose l sh es[k]=true->fixedM l sh window key (es.take (k+1))=fixedM l sh window key (es.take k)/\vmap ((es.take (k+1)).filter (lxP l sh window key))=vmap ((es.take k).filter (lxP l sh window key)) ++ [es[k].rec_.val]:=fun q=>by
     rw [hF,hL];simp [fxP,lxP,hin,q]
    simp [q1b,h,List.getElem?_eq_getElem h,rEvent,rRec]
    by_cases q3:es[k].rec_.at_ < markM l sh.src
    ·simp [q3,h,List.getElem?_eq_getElem h,rEvent,rRec,hx.plain.all]
     refine ⟨fun q=>by omega,fun q=>by omega,hx.nb,EC.of (ECall.fzA (by simp only [fzs,hx.fz];exact hpF)) (fun v H2 hR=>?_) (fun v H2 hR=>?_)⟩
     rotate_left
     ·obtain ⟨_,q,_⟩:=hR;cases q
     obtain ⟨x',q,hx'⟩:=hR
     cases q
     simp [hx'.plain.all]
     obtain ⟨s1,s2⟩:=go1 (by simp only [isLoose,decide_eq_false_iff_not];omega)
     exact NX.go (k+1,v,H2) (by simp only;omega) ⟨h,by simp only;rw [s1];exact hx.over hx'⟩ (by simp [rShape,hwk,s2,hx'.only])
    ·have q3':markM l sh.src<=es[k].rec_.at_:=by omega
     simp [q3,q3']
     refine EC.afun hgr ?_
     by_cases q4:verM l sh.src es[k].id=99
     ·simp [q3,q4,h,List.getElem?_eq_getElem h,rEvent,rRec,hx.plain.all]
      refine ⟨hx.nb,EC.of (ECall.fzA (by simp only [fzs,hx.fz];exact hpF)) (fun v H2 hR=>?_) (fun v H2 hR=>?_)⟩
      rotate_left
      ·obtain ⟨_,q,_⟩:=hR;cases q
      obtain ⟨x',q,hx'⟩:=hR
      cases q
      simp [hx'.plain.all]
      obtain ⟨s1,s2⟩:=go1 (by simp only [isLoose,decide_eq_false_iff_not];omega)
      exact NX.go (k+1,v,H2) (by simp only;omega) ⟨h,by simp only;rw [s1];exact hx.over hx'⟩ (by simp [rShape,hwk,s2,hx'.only])
     ·simp [q3,q4,h,List.getElem?_eq_getElem h,rEvent,rRec]
      refine EC.afun hpL ?_
      simp
      obtain ⟨s1,s2⟩:=go2 (by simp only [isLoose,decide_eq_true_eq];omega)
      exact NX.go (k+1,x,Hc) (by simp only;omega) ⟨h,by simp only;rw [s1];exact hx⟩ (by simp [rShape,hwk,s2,hx.only])
 ·have e:k=es.length:=by omega
  subst e
  rw [List.take_length] at hx |-
  simp [hx.plain.all]
  exact fun hz=>⟨Hc,hz.drop hx.nx,hx.nb,hx⟩
def ansM (l:List News) (sh:Shape) (window key:Int):Int × Bool:=if winV l sh window key=[] then (0,false) else (foldOf sh.fold (winV l sh window key),true)
theorem ref17_Answer (sh:Shape) (window key:Int) (l:List News) (srcs mark:Int) (hmk:mark=markM l sh.src) (hl:formedB l srcs=true) (hw:0<=window/\window<=200) (hn:1<=sh.n/\sh.n<=50) (hf:1<=sh.fold/\sh.fold<=4) (hc:∀ c ∈ sh.terms,0<=mFormed c 1 60) :
  AFun prog 68 [caseL sh mark window key,sl (l.map rNews)] (.tup [lvI (ansM l sh window key).1,.d (.k (.bool (ansM l sh window key).2))]):=by
 subst hmk
 have cc:=cxK_ok (p:=kds [2] [] [])
 have hv:=fun H=>ref17_valuesO sh window key l srcs hl hw hn hc H
 have hlen:(fixedM l sh window key (standsM l)).length+(sortL (looseM l sh window key (standsM l))).length<=60:=by
  rw [sortL_len];simp only [fixedM,looseM,List.length_map]
  have h1:=filt2 (inWin sh window key) (isLoose l sh) (standsM l)
  have h2:=stands60 hl
  omega
 have hval:=standsM_val hl
 have hmV:∀ x ∈ winV l sh window key,inMost x:=fun x hx=>by
  obtain ⟨e,he,rfl⟩:=List.mem_map.1 hx
  exact hval e (List.mem_filter.1 he).1
 have hp:(putsI (fixedM l sh window key (standsM l)) ++ valsL (sortL (looseM l sh window key (standsM l)))).Perm (winV l sh window key) :=
  ((putsI_perm _).append_right _).trans (win_parts l sh window key).symm
 have hmA:∀ x ∈ putsI (fixedM l sh window key (standsM l)) ++ valsL (sortL (looseM l sh window key (standsM l))),inMost x:=fun x hx=>hmV x (hp.mem_iff.1 hx)
 rw [show (fixedM l sh window key (standsM l)).length=(putsI (fixedM l sh window key (standsM l))).length from ((putsI_perm _).length_eq).symm,show (sortL (looseM l sh window key (standsM l))).length=(valsL (sortL (looseM l sh window key (standsM l)))).length by simp [valsL]] at hlen
 have hans:ansM l sh window key=if putsI (fixedM l sh window key (standsM l)) ++ valsL (sortL (looseM l sh window key (standsM l)))=[] then (0,false) else (foldR sh.fold (putsI (fixedM l sh window key (standsM l)) ++ valsL (sortL (looseM l sh window key (standsM l)))),true):=by
  unfold ansM
  by_cases q:winV l sh window key=[]
  ·rw [if_pos q,if_pos (List.perm_nil.1 (q ▸ hp))]
  ·have q':¬ putsI (fixedM l sh window key (standsM l)) ++ valsL (sortL (looseM l sh window key (standsM l)))=[]:=fun e=>q (List.nil_perm.1 (e ▸ hp))
   rw [if_neg q,if_neg q',foldR_eq hf q' (by simp only [List.length_append];omega) hmA,foldOf_perm hp]
 rw [hans]
 have hfo:=ref17_folded sh (markM l sh.src) window key (putsI (fixedM l sh window key (standsM l)) ++ valsL (sortL (looseM l sh window key (standsM l)))) (by simp only [List.length_append];omega) hmA
 generalize putsI (fixedM l sh window key (standsM l))=F at *
 generalize valsL (sortL (looseM l sh window key (standsM l)))=A at *
 refine AFun.bodyW (cxK_ok (p:=kds [2] [] [])) func68 rfl call68 (by rw [ntmps68];simp) rfl fun hft H=>?_
 replace hv:=hv H
 simp [caseL,rShape,-List.map_append] at hv hfo
 simp [ntmps68,results68,caseL,rShape] at hft |-
 refine AW.seq cc ?_
 simp
 refine AW.seq cc ?_
 simp
 refine EC.of hv (fun v H2 hR=>?_) (fun v H2 hR=>?_)
 rotate_left
 ·obtain ⟨_,q,_⟩:=hR;cases q
 obtain ⟨x,q,hx⟩:=hR
 cases q
 simp [hx.plain.all]
 refine AW.ev cc ?_
 simp [hx.plain.all]
 have hrl:∀ (es:List Int),∀ r ∈ es.map rI,r.length=1:=fun es r hr=>by obtain ⟨_,_,rfl⟩:=List.mem_map.1 hr;rfl
 refine APK.appX (ys:=A.map rI) tyE89 rfl tyE3 (by simp) (x:=x) (by simp) hx (by simp [rowsOf]) (by simp) (hrl _) (hrl _) (by simp;omega) (by simp) fun y1 H3 h1 _ _=>?_
 rw [<- List.map_append] at h1
 generalize F ++ A=V at *
 rcases id h1.is with ⟨e1,e2⟩ | ⟨n,q1,q2,e2,q3⟩
 ·have hV:V=[]:=by simpa using e1
  subst hV;subst e2
  simp
  exact ⟨h1.nx,h1.ob⟩
 ·subst e2
  simp
  by_cases hV:V=[]
  ·subst hV
   simp
   exact ⟨h1.nx,h1.ob⟩
  ·have hV2:V.length ≠ 0:=fun q=>hV (List.eq_nil_of_length_eq_zero q)
   simp [hV,hV2,fz]
   refine ⟨q2,EC.afun (AFun.fzA (v:=lvI (foldR sh.fold V)) (by simpa [fzs,fz] using hfo)) ?_⟩
   simp
   exact ⟨by simp [hV],h1.nx,h1.ob⟩
def hasB (b:NB) (side:Int):Bool:=(decide (side=1) && b.none) || (decide (side ≠ 1) && b.some)
theorem ref17_Has (b:NB) (side:Int):AFun prog 46 [lv (rNB b),lvI side] (.d (.k (.bool (hasB b side)))):=by
 have cc:=cxK_ok (p:=kds [2] [] [])
 refine AFun.bodyW (cxK_ok (p:=kds [2] [] [])) func46 rfl call46 (by rw [ntmps46];simp) rfl fun hf H=>?_
 obtain ⟨s1,n1,l1,h1⟩:=b
 simp [ntmps46,results46,rNB,dB,dI,hasB] at hf |-
 refine AW.seq cc ?_
 simp
 refine AW.ev cc ?_
 simp
 by_cases q:side=1 <;> cases s1 <;> cases n1 <;> simp [hasB,q]
def reachedB (l:List News) (sh:Shape) (window key:Int) (b:NB) (side:Int):Bool :=
 if side=1 then !(ansM l sh window key).2 else (ansM l sh window key).2 && decide ((ansM l sh window key).1=if side=2 then b.low else b.high)
theorem ref17_Reached (sh:Shape) (window key:Int) (l:List News) (srcs mark:Int) (hmk:mark=markM l sh.src) (hl:formedB l srcs=true) (hw:0<=window/\window<=200) (hn:1<=sh.n/\sh.n<=50) (hf:1<=sh.fold/\sh.fold<=4) (hc:∀ c ∈ sh.terms,0<=mFormed c 1 60) (b:NB) (side:Int) :
  AFun prog 35 [caseL sh mark window key,sl (l.map rNews),lv (rNB b),lvI side] (.d (.k (.bool (reachedB l sh window key b side)))):=by
 have cc:=cxK_ok (p:=kds [4,6] [] [])
 have ha:=ref17_Answer sh window key l srcs mark hmk hl hw hn hf hc
 refine AFun.bodyW (cxK_ok (p:=kds [4,6] [] [])) func35 rfl call35 (by rw [ntmps35];simp) rfl fun hft H=>?_
 unfold reachedB
 generalize ansM l sh window key=a at ha |-
 obtain ⟨v,ok⟩:=a
 obtain ⟨s1,n1,l1,h1⟩:=b
 simp [caseL,rShape] at ha
 simp [ntmps35,results35,caseL,rShape,rNB,dB,dI] at hft |-
 refine AW.seq cc ?_
 simp
 refine AW.seq cc ?_
 simp
 refine EC.afun ha ?_
 simp
 refine AW.seq cc ?_
 simp
 refine ⟨fun q1 q2=>absurd q1 q2,fun q1=>⟨fun q2=>?_,fun q2=>?_⟩⟩
 ·simp [q1,q2]
  cases ok <;> by_cases q:v=l1 <;> simp [q]
 ·refine AW.ev cc ?_
  simp [q1,q2]
  cases ok <;> by_cases q:v=h1 <;> simp [q]
end Go.Aft
end
section
set_option maxRecDepth 20000
namespace Go.Aft
end Go.Aft
end
section
set_option maxRecDepth 20000
namespace Go.Aft
open Go.Proofs.Tryz
mutual
def okC:Calc->Prop
 | .mk op n kids=>kids.length * 40<=140737488351232/\okCs kids
def okCs:List Calc->Prop
 | []=>True
 | c :: cs=>okC c/\okCs cs
end
mutual
def okE:Exp->Prop
 | .mk op name n fold calcs kids=>calcs.length * 40<=140737488351232/\kids.length * 88<=140737488351232/\okCs calcs/\okEs kids
def okEs:List Exp->Prop
 | []=>True
 | e :: es=>okE e/\okEs es
end
mutual
theorem ref02_CopyCalc:∀ c:Calc,okC c->AFun prog 94 [lv (rCalc c)] (lv (rCalc c))
 | .mk op n kids,h=>by
  rw [okC] at h
  exact ref02_CopyCalc1 op n kids h.1 (ref02_CopyCalcs kids h.2)
theorem ref02_CopyCalcs:∀ cs:List Calc,okCs cs->∀ k ∈ cs,AFun prog 94 [lv (rCalc k)] (lv (rCalc k))
 | [],_,k,hk=>by cases hk
 | c :: cs,h,k,hk=>by
  rw [okCs] at h
  rcases List.mem_cons.1 hk with q | hk
  ·rw [q];exact ref02_CopyCalc c h.1
  ·exact ref02_CopyCalcs cs h.2 k hk
end
theorem ref02_CopyExp1 (op:Int) (name:Str) (n fold:Int) (calcs:List Calc) (kids:List Exp) (hc:calcs.length * 40<=140737488351232) (hk:kids.length * 88<=140737488351232) (hcs:∀ k ∈ calcs,AFun prog 94 [lv (rCalc k)] (lv (rCalc k)))
  (ih:∀ k ∈ kids,AFun prog 56 [lv (rExp k)] (lv (rExp k))):AFun prog 56 [lv (rExp (.mk op name n fold calcs kids))] (lv (rExp (.mk op name n fold calcs kids))):=by
 have cc:=cxK_ok (p:=kds [1] [] [])
 refine AFun.body (cxK_ok (p:=kds [1] [] [])) func56 rfl call56 (by rw [ntmps56];simp) rfl fun hf H=>?_
 simp [ntmps56,results56,rExp_eq,Exp.op,Exp.n,Exp.kids,Exp.name,Exp.fold,Exp.calcs]
 refine AW.loopS cc (fun a:Nat × LV × GH=>⟨[(1,.ip [lvI op,.d (.k (.string name)),lvI n,lvI fold,sl (calcs.map rCalc),sl (kids.map rExp)] 0),(2,.lp 2 0),(3,.lp 3 0),(4,lvI a.1)],
  [(2,[lvI 0,.d (.k (.string ⟨#[]⟩)),lvI 0,lvI 0,.d (.k (.slice none 0 0)),.d (.k (.slice none 0 0))]),(3,[lvI op,.d (.k (.string name)),lvI n,lvI fold,a.2.1,.d (.k (.slice none 0 0))])],a.2.2⟩) (fun a=>calcs.length - a.1) (fun a=>a.1<=calcs.length/\AppX 135 3 H a.2.1 ((calcs.take a.1).map rCalc) a.2.2) (0,.d (.k (.slice none 0 0)),H) ⟨⟨Nat.zero_le _,.nil⟩,by simp⟩ ?_
 rintro ⟨i,x,H'⟩ ⟨hi,happ⟩
 simp only at hi happ
 simp
 refine ⟨fun h=>?_,fun h=>?_⟩
 ·refine AW.draw cc [(7,.n)] (.q 0<|.q 2<|.q 4<|.q 1<|.f<|.one 3<|.q 5<|.f<|.one 6<|.q 7<|.q 8<|.f<|.one 9<|.q 10<|.f<|.one 11<|.done) (by kernel_rfl) ?_
  simp [h,List.getElem?_eq_getElem h,rCalc_eq]
  refine FC.afun (v:=lv (rCalc calcs[i])) (by simpa [rCalc_eq] using hcs calcs[i] (List.getElem_mem h)) ?_
  simp [rCalc_eq]
  refine APK.appX (ys:=[rCalc calcs[i]]) tyE68 rfl tyE135 (by simp) (x:=x) (by simp) happ (by simp [rCalc_eq,rowsOf]) (by simp) (fun r hr=>by obtain ⟨_,_,rfl⟩:=List.mem_map.1 hr;simp) (by simp) (by simp;omega) (by simp) fun x' H' happ' _ _=>?_
  rw [show (calcs.take i).map rCalc ++ [rCalc calcs[i]]=(calcs.take (i+1)).map rCalc by rw [<- take_more h,List.map_append];rfl] at happ'
  simp [happ'.plain.all,happ'.only,wrap_succ (n:=9223372036854775807) (show i < 9223372036854775807 by omega)]
  exact NX.go (i+1,x',H') (by simp only;omega) ⟨h,happ'⟩ (by simp [happ'.only])
 ·have e:i=calcs.length:=by omega
  subst e
  rw [List.take_length] at happ
  simp [happ.plain.all]
  refine AW.loopS cc (fun a:Nat × LV × GH=>⟨[(1,.ip [lvI op,.d (.k (.string name)),lvI n,lvI fold,sl (calcs.map rCalc),sl (kids.map rExp)] 0),(2,.lp 2 0),(3,.lp 3 0),(5,lvI a.1)],
   [(2,[lvI 0,.d (.k (.string ⟨#[]⟩)),lvI 0,lvI 0,.d (.k (.slice none 0 0)),.d (.k (.slice none 0 0))]),(3,[lvI op,.d (.k (.string name)),lvI n,lvI fold,x,a.2.1])],a.2.2⟩) (fun a=>kids.length - a.1) (fun a=>a.1<=kids.length/\AppX 105 6 H' a.2.1 ((kids.take a.1).map rExp) a.2.2) (0,.d (.k (.slice none 0 0)),H') ⟨⟨Nat.zero_le _,.nil⟩,by simp [happ.only]⟩ ?_
  rintro ⟨i,y,H2⟩ ⟨hi,hy⟩
  simp only at hi hy
  simp [happ.plain.all]
  refine ⟨fun h=>?_,fun h=>?_⟩
  ·refine AW.draw cc [(7,.n)] (.q 0<|.q 2<|.q 4<|.q 1<|.f<|.one 3<|.q 5<|.f<|.one 6<|.q 7<|.q 8<|.f<|.one 9<|.q 10<|.f<|.one 11<|.done) (by kernel_rfl) ?_
   simp [h,List.getElem?_eq_getElem h,rExp_eq]
   refine FC.afun (v:=lv (rExp kids[i])) (by simpa [rExp_eq] using ih kids[i] (List.getElem_mem h)) ?_
   simp [rExp_eq]
   refine APK.appX (ys:=[rExp kids[i]]) tyE103 rfl tyE105 (by simp) (x:=y) (by simp) hy (by simp [rExp_eq,rowsOf]) (by simp) (fun r hr=>by obtain ⟨_,_,rfl⟩:=List.mem_map.1 hr;simp) (by simp) (by simp;omega) (by simp) fun y' H3 hy' _ _=>?_
   rw [show (kids.take i).map rExp ++ [rExp kids[i]]=(kids.take (i+1)).map rExp by rw [<- take_more h,List.map_append];rfl] at hy'
   simp [happ.plain.all,hy'.plain.all,hy'.only,wrap_succ (n:=9223372036854775807) (show i < 9223372036854775807 by omega)]
   exact NX.go (i+1,y',H3) (by simp only;omega) ⟨h,hy'⟩ (by simp [happ.only,hy'.only])
  ·have e:i=kids.length:=by omega
   subst e
   rw [List.take_length] at hy
   have ha2:=happ.mono hy.nx hy.ob
   simp [happ.plain.all,hy.plain.all,happ.fz,hy.fz]
   exact ⟨by rw [rExp_eq];rfl,ha2.nx,ha2.ob⟩
mutual
theorem ref02_CopyExp:∀ e:Exp,okE e->AFun prog 56 [lv (rExp e)] (lv (rExp e))
 | .mk op name n fold calcs kids,h=>by
  rw [okE] at h
  exact ref02_CopyExp1 op name n fold calcs kids h.1 h.2.1 (ref02_CopyCalcs calcs h.2.2.1) (ref02_CopyExps kids h.2.2.2)
theorem ref02_CopyExps:∀ es:List Exp,okEs es->∀ k ∈ es,AFun prog 56 [lv (rExp k)] (lv (rExp k))
 | [],_,k,hk=>by cases hk
 | c :: cs,h,k,hk=>by
  rw [okEs] at h
  rcases List.mem_cons.1 hk with q | hk
  ·rw [q];exact ref02_CopyExp c h.1
  ·exact ref02_CopyExps cs h.2 k hk
end
end Go.Aft
end
