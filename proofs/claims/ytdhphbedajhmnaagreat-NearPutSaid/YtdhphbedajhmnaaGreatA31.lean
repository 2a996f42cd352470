import Derived.Test.YtdhphbedajhmnaaGreatA30
import Derived.Test.YtdhphbedajhmnaaGreatA20
set_option linter.all false
section
set_option maxRecDepth 20000
namespace Go.Aft
open Go.Proofs.Tryz
theorem event_IndexFunc (l:List Event) (q:Event->Bool) (f:FuncId) (cap:List LV) (H:GH) (hcap:nbs H.next cap) (hc:∀ n ∈ l,ECall prog f ([lv (rEvent n)] ++ cap) H fun ce H'=>ce=.ret (.d (.k (.bool (q n))))/\H'=H) :
  ECall prog 253 [sl (l.map rEvent),.fn (.func f) [] cap] H fun ce H'=>ce=.ret (lvI (idxF q l))/\H'=H:=by
 have cc:=cx0_ok
 refine ECall.bodyN cx0_ok func253 rfl call253 (by rw [ntmps253];simp) rfl fun hf hw=>?_
 simp [ntmps253,results253] at hf |-
 refine AW.loopS cc (fun i:Nat=>⟨[(0,.d (.sl (l.map rEvent))),(1,.fn (.func f) [] cap),(7,lvI l.length),(8,lvI i)],[],H⟩) (fun i=>l.length - i) (fun i=>i<=l.length/\∀ j (h:j < l.length),j < i->q l[j]=false) 0 ⟨by simp,by simp [LV.only,nbs_only _ hcap,onlys]⟩ ?_
 rintro i ⟨hi,hk⟩
 simp
 refine ⟨fun h=>?_,fun h=>?_⟩
 ·have hcall:=hc l[i] (List.getElem_mem h)
  simp [rEvent,rRec] at hcall
  simp [h,List.getElem?_eq_getElem h,rEvent,rRec]
  refine ⟨hcap,EC.of hcall (fun v H2 hR=>?_) (fun v H2 hR=>?_)⟩
  ·obtain ⟨e,rfl⟩:=hR
   cases e
   simp [wrap_succ h hf.1.1]
   refine ⟨fun e=>fun hz=>⟨hz.drop (Nat.le_refl _),(idxF_at h e hk).symm⟩,fun e=>NX.go (i+1) (Nat.sub_lt_sub_left h (Nat.lt_succ_self i)) ⟨h,fun j hj hji=>?_⟩ (by simp [nbs_only _ hcap])⟩
   by_cases z:j=i
   ·subst z;exact e
   ·exact hk j hj (by omega)
  ·cases hR.1
 ·exact fun hz=>⟨hz.drop (Nat.le_refl _),(idxF_none fun j hj=>hk j hj (by omega)).symm⟩
theorem event_ContainsFunc (l:List Event) (q:Event->Bool) (f:FuncId) (cap:List LV) (H:GH) (hcap:nbs H.next cap) (hc:∀ n ∈ l,ECall prog f ([lv (rEvent n)] ++ cap) H fun ce H'=>ce=.ret (.d (.k (.bool (q n))))/\H'=H) :
  ECall prog 200 [sl (l.map rEvent),.fn (.func f) [] cap] H fun ce H'=>ce=.ret (.d (.k (.bool (l.any q))))/\H'=H:=by
 have cc:=cx0_ok
 refine ECall.bodyN cx0_ok func200 rfl call200 (by rw [ntmps200];simp) rfl fun hf hw=>?_
 have hi:=event_IndexFunc l q f cap H hcap hc
 simp at hi
 simp [ntmps200,results200,LV.nb,nbs,hcap]
 refine EC.of hi (fun v H2 hR=>?_) (fun v H2 hR=>?_)
 ·obtain ⟨e,rfl⟩:=hR
  cases e
  simp
  refine fun hz=>⟨hz.drop (Nat.le_refl _),?_⟩
  rw [<- idxF_any q l]
 ·cases hR.1
theorem hist_Late1 (e:Event) (c:Nat) (mk:Int) (H:GH) (ho:H.obj c=some (.box [lvI mk])):ECall prog 201 [lv (rEvent e),.gp c 0] H fun ce H'=>ce=.ret (.d (.k (.bool (decide (e.rec_.at_ < mk)))))/\H'=H:=by
 have cc:=cxK_ok (p:=kds [2] [] [])
 refine ECall.bodyN (cxK_ok (p:=kds [2] [] [])) func201 rfl call201 (by rw [ntmps201];simp) rfl fun hf hw=>?_
 have lc:=hw.lt ho
 simp [ntmps201,results201,rEvent,rRec,ho]
 exact fun hz=>hz.drop (Nat.le_refl _)
end Go.Aft
end
section
namespace Go.Aft
def bodyO (P:Program) (c:Cx) (rs:List ResultVar) (H0:GH) (R:CE->GH->Prop):AE->S->Prop
 | .normal,s | .ret,s=>s.df=[]/\(nbH s.H->∃ r,resOf c.ty s rs=some r/\∃ H',Drop H0 s.H H'/\r.nb H'.next/\R (.ret r) H')
 | .pan x,s=>s.df=[]/\(nbH s.H->∃ H',Drop H0 s.H H'/\x.nb H'.next/\R (.pan x) H')
 | _,_=>False
theorem ECall.bodyOW {P:Program} {c:Cx} (hc:c.ok P) {f:FuncId} {fn:Func} {code:Code} (hf:P.funcs[f]?=some fn) (hb:fn.body=some code) (he:Enters P f) {args:List LV} (hn:args.length<=fn.ntmps) (hrd:c.rd.okFor f=true) {H:GH} {R:CE->GH->Prop}
  (h:fitss args->nbH H->@AW P c.rd ⟨code⟩ ⟨initEnv 0 args,noS,H,fn.ntmps,[]⟩ ⟨Go.Aft.bodyO P c fn.results.toList H R⟩):ECall P f args H R:=by
 refine ⟨he,ACall.fits fun hfit G w vs hM hNL hargs=>?_⟩
 have hw:nbH H:=⟨fun n hn=>by
  cases ho:H.obj n with
  | none=>rfl
  | some o=>have:=(hM.nmd n o ho).1;omega,fun n o ho=>GO_nb (hM.nmd n o ho).2⟩
 have hlen:=LRs_length hargs
 refine calls_of_wpA hf hb hrd (wpA_mono (h hfit hw ⟨G,H,w⟩ _ w ?_) ?_)
 ·refine ⟨by simp;omega,G,noL,rfl,hM,Ext.refl G H w hNL,fun t=>?_,rfl⟩
  simp only
  rw [initEnv_lt,if_pos (Nat.zero_le _),Nat.sub_zero]
  by_cases ht:t < args.length
  ·have hx:args[t]?=some (args.getD t .any):=by simp [List.getD,List.getElem?_eq_getElem ht]
   obtain ⟨v,h1,h2⟩:=LRs_get hargs t _ hx
   have:(vs.toArray ++ Array.replicate (fn.ntmps - vs.toArray.size) undef).getD t undef=v:=by
    rw [Array.getD_eq_getD_getElem?,Array.getElem?_append_left (by simp;omega)]
    simp [h1]
   rw [this];exact h2
  ·have:args.getD t .any=.any:=by simp [List.getD,List.getElem?_eq_none (Nat.le_of_not_lt ht)]
   rw [this];simp [LR]
 ·rintro e a' w' ⟨ae,s',q,r⟩
  have hnb:=r.nbH
  obtain ⟨g2,G',lm',g1,hM',hx',henv',he⟩:=r
  have fin:∀ (x:LV) (v:Value) (H':GH),Drop H s'.H H'->x.nb H'.next->LR G' s'.H.next lm' x v->MR (dropG H'.next G') noL noS H' w'/\NoLoc (dropG H'.next G')/\Ext ⟨G,H,w⟩ (dropG H'.next G') H' w'/\LR (dropG H'.next G') H'.next noL x v:=by
   intro x v H' hd hnb hv
   have:=MR_drop hM' (E:=⟨G,H,w⟩) (fun n o ho=>(hM.nmd n o ho).2) hNL hx' hd
   exact ⟨this.1,this.2.1,this.2.2,LR_dropG (LR_drop _ _ hv hnb)⟩
  have hret:(s'.df=[]/\(nbH s'.H->∃ r,resOf c.ty s' fn.results.toList=some r/\∃ H',Drop H s'.H H'/\r.nb H'.next/\R (.ret r) H'))->LeavesInM Fence.wide 0 P fn a'.tmps (CallQ G H w R) a'.defers .returning w':=fun ⟨q1,q2⟩=>by
   rw [q1] at g1
   have g1:a'.defers=[]:=g1
   rw [g1]
   obtain ⟨r,hr,H',hd,hnb',hR⟩:=q2 hnb
   obtain ⟨v,h1,h2⟩:=resOf_run (P:=P) (s:=s') (a:=a') hc.ty hM' henv' hr
   obtain ⟨p1,p2,p3,p4⟩:=fin r v H' hd hnb' h2
   exact ⟨v,h1,.ret r,H',_,hR,⟨v,rfl,p4⟩,p1,p2,p3⟩
  cases ae with
  | normal=>cases he;exact hret q
  | ret=>cases he;exact hret q
  | exit i=>exact q.elim
  | goto l=>exact q.elim
  | pan x =>
   obtain ⟨v',rfl,hv⟩:=he
   obtain ⟨q1,q2⟩:=q
   rw [q1] at g1
   have g1:a'.defers=[]:=g1
   show LeavesInM Fence.wide 0 P fn a'.tmps (CallQ G H w R) a'.defers (.panicking _) w'
   rw [g1]
   obtain ⟨H',hd,hnb',hR⟩:=q2 hnb
   obtain ⟨p1,p2,p3,p4⟩:=fin x v' H' hd hnb' (LR_mono (Nat.le_refl _) (Gh.le_refl _ _) (fun _ _ e=>by cases e) _ _ hv)
   exact ⟨.pan x,H',_,hR,⟨v',rfl,p4⟩,p1,p2,p3⟩
attribute [simp] Go.Aft.bodyO
end Go.Aft
end
section
set_option maxRecDepth 20000
namespace Go.Aft
open Go.Proofs.Tryz
theorem hist_standsO (l:List News) (src id:Int) (m b:Nat) (es:List (Value × LV)) (H:GH) (hm:MapN es l) (ho:H.obj b=some (heardO m l)) (he:H.obj m=some (.map es)) :
  ECall prog 133 [.gp b 0,.agg [lvI src,lvI id]] H fun ce H'=>∃ x,ce=.ret x/\AppX 63 5 H x ((oneM l src id).map rEvent) H':=by
 have cc:=cxS_ok (p:=kds [3] [] [29])
 refine ECall.bodyOW (cxS_ok (p:=kds [3] [] [29])) func133 rfl call133 (by rw [ntmps133];simp) rfl fun hf hw=>?_
 have lb:=hw.lt ho
 have lm:=hw.lt he
 simp [ntmps133,results133] at hf |-
 refine AW.seq cc ?_
 simp
 refine AW.seq cc ?_
 simp
 refine AW.draw cc [] (.q 0<|.q 1<|.q 2<|.q 3<|.q 4<|.q 5<|.q 6<|.q 7<|.q 8<|.f<|.one 9<|.f<|.one 10<|.q 11<|.done) (by kernel_rfl) ?_
 have hg:=hm.get src id
 have hkey:(∀ (a:Value) (b:LV),(a,b) ∈ es->(KK.ag [Sc.int IntKind.i64,Sc.int IntKind.i64]).has a=true)=True:=eq_true hm.key
 have hk1:(KK.ag [Sc.int IntKind.i64,Sc.int IntKind.i64]).has (Value.agg #[Value.int IntKind.i64 src,Value.int IntKind.i64 id])=true:=rfl
 simp only [kk] at hg
 cases hl:lastM l src id with
 | none =>
  rw [hl] at hg
  simp [ho,heardO,he,hg,hkey,hk1]
  refine AW.ev cc ?_
  simp [oneM,hl]
  exact fun hz=>⟨H,hz.drop (Nat.le_refl _),.nil⟩
 | some w =>
  rw [hl] at hg
  have hr1:List.range' 0 1=[0]:=rfl
  simp [ho,heardO,he,hg,hkey,hk1,rNews,rRec,hr1]
  refine ⟨fun h1=>?_,fun h1=>?_⟩
  ·refine fun hz=>⟨_,hz.drop (by rw [GH.add_next];omega),by rw [GH.add_next];exact Nat.lt_succ_self _,?_⟩
   refine ⟨.inr ⟨H.next,Nat.le_refl _,by rw [GH.add_next];exact Nat.lt_succ_self _,by simp [oneM,hl,h1,rEvent,rRec],by simp [GH.add_obj,oneM,hl,h1]⟩,by rw [GH.add_next];omega,fun k hk=>by rw [GH.add_obj,if_neg (by omega)]⟩
  ·refine AW.ev cc ?_
   simp [oneM,hl,h1]
   exact fun hz=>⟨H,hz.drop (Nat.le_refl _),.nil⟩
def StepR (l:List News) (n:News) (m b:Nat) (H:GH) (ce:CE) (H':GH):Prop :=
 ∃ x1 x2 es' Ha,ce=.ret (.tup [x1,x2])/\MapN es' (l ++ [n])/\AppX 63 5 ((H.set m (.map es')).set b (heardO m (l ++ [n]))) x1 ((stepM l n).1.map rEvent) Ha/\AppX 63 5 Ha x2 ((stepM l n).2.map rEvent) H'
theorem hist_stepO (l:List News) (n:News) (m b:Nat) (es:List (Value × LV)) (H:GH) (hm:MapN es l) (ho:H.obj b=some (heardO m l)) (he:H.obj m=some (.map es)) (hs:0<=n.src/\n.src<=3) :
  ECall prog 199 [.gp b 0,lv (rNews n)] H (StepR l n m b H):=by
 have cc:=cxS_ok (p:=kds [3] [] [])
 refine ECall.bodyOW (cxS_ok (p:=kds [3] [] [])) func199 rfl call199 (by rw [ntmps199];simp) rfl fun hf hw=>?_
 have hne:b ≠ m:=fun e=>by rw [e,he] at ho;cases ho
 have lb:=hw.lt ho
 have lm:=hw.lt he
 have hof:=hist_of n
 simp [rNews,rRec] at hof
 by_cases h3:n.do_=3
 ·have hh:=hist_hear l n m b es H hm ho he hs
  simp [rNews,rRec,h3] at hh
  simp [ntmps199,results199,rNews,rRec,h3] at hf |-
  refine AW.ev cc ?_
  simp
  refine ⟨lb,EC.of hh (fun v H2 hR=>?_) (fun v H2 hR=>?_)⟩
  rotate_left
  ·obtain ⟨⟨_,q⟩,_⟩:=hR;cases q
  obtain ⟨_,es',hm',hH⟩:=hR
  simp
  refine EC.afun (AFun.fzA (v:=.d (.k (.bool true))) (by simpa [fzs,fz] using events_Equal [] [])) ?_
  simp
  refine fun hz=>⟨H2,hz.drop (by rw [hH];exact Nat.le_refl _),?_⟩
  refine ⟨_,_,es',H2,rfl,hm',?_,?_⟩
  ·rw [<- hH];simpa [stepM,h3] using AppX.nil
  ·simpa [stepM,h3] using AppX.nil
 ·have hst:=hist_standsO l n.src n.id m b es H hm ho he
  simp at hst
  simp [ntmps199,results199,rNews,rRec,h3] at hf |-
  refine AW.ev cc ?_
  simp [h3]
  refine EC.afun hof ?_
  simp
  refine ⟨lb,EC.of hst (fun v1 H2 hR=>?_) (fun v H2 hR=>?_)⟩
  rotate_left
  ·obtain ⟨x,q,_⟩:=hR;cases q
  obtain ⟨x1,e,a1⟩:=hR
  cases e
  have n2:=a1.nx
  have ho2:H2.obj b=some (heardO m l):=by rw [a1.ob b lb];exact ho
  have he2:H2.obj m=some (.map es):=by rw [a1.ob m lm];exact he
  have hh:=hist_hear l n m b es H2 hm ho2 he2 hs
  simp [rNews,rRec] at hh
  simp [a1.plain.all]
  refine ⟨by omega,EC.of hh (fun v H3 hR=>?_) (fun v H3 hR=>?_)⟩
  rotate_left
  ·obtain ⟨⟨_,q⟩,_⟩:=hR;cases q
  obtain ⟨_,es',hm',hH⟩:=hR
  have a1':=(a1.set (k:=m) lm (.map es')).set (k:=b) (show b < (H.set m (.map es')).next from lb) (heardO m (l ++ [n]))
  rw [<- hH] at a1'
  have hn3:H3.next=H2.next:=by rw [hH];rfl
  have o3:H3.obj b=some (heardO m (l ++ [n])):=by rw [hH,GH.set_obj,if_pos rfl]
  have e3:H3.obj m=some (.map es'):=by rw [hH,GH.set_obj,if_neg (Ne.symm hne),GH.set_obj,if_pos rfl]
  have hst2:=hist_standsO (l ++ [n]) n.src n.id m b es' H3 hm' o3 e3
  simp at hst2
  simp [h3]
  refine EC.afun hof ?_
  simp
  refine ⟨by omega,EC.of hst2 (fun v2 H4 hR=>?_) (fun v H4 hR=>?_)⟩
  rotate_left
  ·obtain ⟨x,q,_⟩:=hR;cases q
  obtain ⟨x2,e,a2⟩:=hR
  cases e
  simp [a1.plain.all,a2.plain.all]
  have n4:=a2.nx
  have heq:=events_Equal (oneM l n.src n.id) (oneM (l ++ [n]) n.src n.id)
  simp at heq
  refine ⟨⟨nb_mono (by omega) a1.nb,a2.nb⟩,EC.afun (AFun.fzA (v:=.d (.k (.bool (decide (oneM l n.src n.id=oneM (l ++ [n]) n.src n.id))))) (by simp only [fzs,a1.fz,a2.fz];exact heq)) ?_⟩
  simp [a1.plain.all,a2.plain.all]
  refine ⟨fun q hz=>⟨H4,hz.drop (by omega),_,_,es',H4,rfl,hm',?_,?_⟩,fun q hz=>⟨H4,hz.drop (by omega),⟨nb_mono (by omega) a1.nb,a2.nb⟩,_,_,es',H3,rfl,hm',?_,?_⟩⟩
  ·refine ⟨.inl ⟨by simp [stepM,h3,q],rfl⟩,by rw [GH.set_next,GH.set_next];omega,fun k hk=>?_⟩
   have hk':k < H.next:=hk
   rw [a2.ob k (by omega)]
   exact a1'.ob k hk
  ·simpa [stepM,h3,q] using AppX.nil
  ·simpa [stepM,h3,q] using a1'
  ·simpa [stepM,h3,q] using a2
end Go.Aft
end
section
set_option maxRecDepth 20000
namespace Go.Aft
open Go.Proofs.Tryz
def lateV (l:List News) (srcs:Int):LV:=if formedB l srcs=true then .tup [sl ((lateM l).map fun k=>rI (k:Nat)),lvI 0] else .tup [sl [],lvI 2]
theorem formed_src {l:List News} {srcs:Int} (h:formedB l srcs=true):(∀ n ∈ l,0<=n.src/\n.src<=3)/\l.length<=60:=by
 simp only [formedB,plainB,Bool.and_eq_true,decide_eq_true_eq,Bool.not_eq_true',List.any_eq_false] at h
 obtain ⟨⟨⟨h1,h2⟩,h3⟩,_⟩:=h
 simp only [inB,Bool.and_eq_true,decide_eq_true_eq] at h1
 refine ⟨fun n hn=>?_,h2⟩
 have:=h3 n hn
 simp [goodB,inB] at this
 omega
theorem mark_ix (m:Nat) (l:List News) (src:Int) (h:0<=src/\src<=3):[LV.gm m,LV.d (DV.k (Value.int IntKind.i64 (markM l 0))),LV.d (DV.k (Value.int IntKind.i64 (markM l 1))),LV.d (DV.k (Value.int IntKind.i64 (markM l 2))),LV.d (DV.k (Value.int IntKind.i64 (markM l 3)))][1+src.toNat]?=some (lvI (markM l src)):=by
 have:src=0 \/ src=1 \/ src=2 \/ src=3:=by omega
 rcases this with rfl | rfl | rfl | rfl <;> rfl
theorem oneM_len (l:List News) (a b:Int):(oneM l a b).length<=1:=by
 unfold oneM
 split
 ·split <;> simp
 ·simp
theorem stepM_len (l:List News) (n:News):(stepM l n).1.length<=1/\(stepM l n).2.length<=1:=by
 unfold stepM
 split
 ·simp
 ·split
  ·simp
  ·exact ⟨oneM_len _ _ _,oneM_len _ _ _⟩
theorem rEvent_all (l:List Event):∀ r ∈ l.map rEvent,r.length=5:=fun r hr=>by obtain ⟨_,_,rfl⟩:=List.mem_map.1 hr;rfl
theorem lateFrom_len:∀ (ns acc:List News) (i:Nat),(lateFrom acc ns i).length<=ns.length
 | [],_,_=>by simp [lateFrom]
 | n :: ns,acc,i=>by
  have:=lateFrom_len ns (acc ++ [n]) (i+1)
  simp only [lateFrom,List.length_append,List.length_cons]
  split <;> simp <;> omega
theorem hist_Late (l:List News) (srcs:Int):AFun prog 146 [sl (l.map rNews),lvI srcs] (lateV l srcs):=by
 intro H
 have cc:=cxS_ok (p:=kds [] [10] [])
 refine ECall.bodyNW (cxS_ok (p:=kds [] [10] [])) func146 rfl call146 (by rw [ntmps146];simp) rfl fun hf hw=>?_
 have hfm:=hist_formed l srcs
 simp at hfm
 simp [ntmps146,results146] at hf |-
 refine AW.seq cc ?_
 simp
 refine AW.seq cc ?_
 simp
 refine EC.afun hfm ?_
 cases hp:formedB l srcs with
 | false =>
  simp
  refine fun hz=>⟨hz.drop (Nat.le_refl _),by simp [lateV,hp]⟩
 | true =>
  obtain ⟨hsrc,hlen⟩:=formed_src hp
  simp
  refine AW.seq cc ?_
  simp
  have hall:=hist_all [] (by simp) H
  simp at hall
  refine EC.of (ECall.fzA (by simpa [fzs,fz] using hall)) (fun v H1 hR=>?_) (fun v H1 hR=>?_)
  rotate_left
  ·cases hR.1
  obtain ⟨e,es0,hm0,hH1⟩:=hR
  cases e
  simp
  have b1:H1.next=H.next+2:=by rw [hH1];rfl
  have b2:H1.obj (H.next+1)=some (heardO H.next []):=by rw [hH1];simp [GH.add_obj,GH.add_next]
  have b3:H1.obj H.next=some (.map es0):=by rw [hH1];simp [GH.add_obj,GH.add_next]
  have b4:∀ k,k < H.next->H1.obj k=H.obj k:=fun k hk=>by rw [hH1,GH.add_obj,GH.add_next,if_neg (by omega),GH.add_obj,if_neg (by omega)]
  refine AW.seq cc ?_
  simp
  refine AW.seq cc ?_
  simp
  refine AW.loopS cc (fun a:Nat × LV × List (Value × LV) × GH × GH=>⟨[(6,.gp (H.next+1) 0),(7,a.2.1),(18,.d (.sl (l.map rNews))),(19,lvI l.length),(20,lvI a.1)],[],a.2.2.2.2⟩) (fun a=>l.length - a.1)
   (fun a=>a.1<=l.length/\MapN a.2.2.1 (l.take a.1)/\AppX 3 1 a.2.2.2.1 a.2.1 ((lateM (l.take a.1)).map fun k=>rI (k:Nat)) a.2.2.2.2/\H.next+2<=a.2.2.2.1.next/\a.2.2.2.1.obj (H.next+1)=some (heardO H.next (l.take a.1))/\a.2.2.2.1.obj H.next=some (.map a.2.2.1)/\∀ k,k < H.next->a.2.2.2.1.obj k=H.obj k)
   (0,.d (.k (.slice none 0 0)),es0,H1,H1) ⟨⟨by simp,by simpa using hm0,by simpa [lateM,lateFrom] using AppX.nil,by simp only;omega,by simpa using b2,b3,b4⟩,by simp⟩ ?_
  rintro ⟨i,y,es,B,H2⟩ ⟨hi,hm,hap,c1,c2,c3,c4⟩
  simp only at hi hm hap c1 c2 c3 c4
  simp
  refine ⟨fun h=>?_,fun h=>?_⟩
  ·have hsi:=hsrc _ (List.getElem_mem h)
   have o1:H2.obj (H.next+1)=some (heardO H.next (l.take i)):=by rw [hap.ob _ (by omega)];exact c2
   have n2:=hap.nx
   simp [h,List.getElem?_eq_getElem h,rNews,rRec]
   refine AW.draw cc [] (.q 0<|.q 1<|.q 3<|.q 4<|.q 2<|.q 5<|.q 6<|.f<|.one 7<|.f<|.one 8<|.done) (by kernel_rfl) ?_
   have hix:=mark_ix H.next (l.take i) l[i].src hsi
   have hsi1:l[i].src < 4:=by omega
   have hob3:∀ o,(H2.add o).obj H2.next=some o:=fun o=>by simp [GH.add_obj]
   simp [o1,heardO,hix,hsi.1,hsi1,hob3,GH.add_set]
   obtain ⟨H3,hH3⟩:∃ H3,H2.add (GO.box [LV.d (DV.k (Value.int IntKind.i64 (markM (List.take i l) l[i].src)))])=H3:=⟨_,rfl⟩
   rw [hH3]
   have n3:H3.next=H2.next+1:=by rw [<- hH3];rfl
   have l3:∀ k,k < H2.next->H3.obj k=H2.obj k:=fun k hk=>by rw [<- hH3,GH.add_obj,if_neg (by omega)]
   have o3:H3.obj H2.next=some (.box [lvI (markM (List.take i l) l[i].src)]):=by rw [<- hH3];exact hob3 _
   have hst:=hist_stepO (l.take i) l[i] H.next (H.next+1) es H3 hm (by rw [l3 _ (by omega)];exact o1) (by rw [l3 _ (by omega),hap.ob _ (by omega)];exact c3) hsi
   simp [rNews,rRec] at hst
   have hap3:=hap.mono (H2:=H3) (by omega) l3
   clear hH3
   refine ⟨by omega,EC.of hst (fun v H4 hR=>?_) (fun v H4 hR=>?_)⟩
   rotate_left
   ·obtain ⟨x1,x2,es',Ha,q,_⟩:=hR;cases q
   obtain ⟨x1,x2,es',Ha,q,hm',a1,a2⟩:=hR
   cases q
   have a1':=a1.mono a2.nx a2.ob
   simp [a1.plain.all,a2.plain.all]
   have hsl:=stepM_len (l.take i) l[i]
   refine APK.appX tyE59 rfl tyE63 (by simp) (x:=x1) (by simp) a1' (by simp [a2.plain.all];exact a2.rows) (by simp [a2.plain.all]) (rEvent_all _) (rEvent_all _) (by simp;omega) (by simp) fun x' H5 h5 _ _=>?_
   have n5:=h5.nx
   simp only [GH.set_next] at n5
   simp [h5.plain.all]
   have n5':H3.next<=H5.next:=n5
   have ob5:∀ k,k < H3.next->k ≠ H.next->k ≠ H.next+1->H5.obj k=H3.obj k:=fun k h1 h2 h3=>by
    rw [h5.ob k h1,GH.set_obj,if_neg h3,GH.set_obj,if_neg h2]
   have o5:H5.obj H2.next=some (.box [lvI (markM (List.take i l) l[i].src)]):=by rw [ob5 _ (by omega) (by omega) (by omega)];exact o3
   have hcf:=event_ContainsFunc ((stepM (l.take i) l[i]).1 ++ (stepM (l.take i) l[i]).2) (fun e=>decide (e.rec_.at_ < markM (l.take i) l[i].src)) 201 [.gp H2.next 0] H5 (by simp [LV.nb,nbs];omega) fun e he=>hist_Late1 e H2.next _ H5 o5
   have hla:((stepM (l.take i) l[i]).1 ++ (stepM (l.take i) l[i]).2).any (fun e=>decide (e.rec_.at_ < markM (l.take i) l[i].src))=lateAt (l.take i) l[i]:=rfl
   rw [hla,List.map_append] at hcf
   refine ⟨⟨h5.nb,by omega⟩,EC.of (ECall.fzA (by simpa [fzs,fz,h5.fz] using hcf)) (fun v H6 hR=>?_) (fun v H6 hR=>?_)⟩
   rotate_left
   ·cases hR.1
   obtain ⟨e,rfl⟩:=hR
   cases e
   have hyB:=((hap3.set (k:=H.next) (by omega) (.map es')).set (k:=H.next+1) (show H.next+1 < B.next by omega) (heardO H.next (l.take i ++ [l[i]]))).mono (H2:=H6) n5 h5.ob
   have ht:l.take (i+1)=l.take i ++ [l[i]]:=by rw [List.take_add_one,List.getElem?_eq_getElem h];rfl
   have hlt:=lateM_take h
   have hll:(lateM (l.take i)).length<=i:=by
    have:=lateFrom_len (l.take i) [] 0
    simp only [List.length_take] at this
    unfold lateM;omega
   have d1:((B.set H.next (.map es')).set (H.next+1) (heardO H.next (l.take i ++ [l[i]]))).obj (H.next+1)=some (heardO H.next (l.take (i+1))):=by rw [ht,GH.set_obj,if_pos rfl]
   have d2:((B.set H.next (.map es')).set (H.next+1) (heardO H.next (l.take i ++ [l[i]]))).obj H.next=some (.map es'):=by rw [GH.set_obj,if_neg (by omega),GH.set_obj,if_pos rfl]
   have d3:∀ k,k < H.next->((B.set H.next (.map es')).set (H.next+1) (heardO H.next (l.take i ++ [l[i]]))).obj k=H.obj k:=fun k hk=>by rw [GH.set_obj,if_neg (by omega),GH.set_obj,if_neg (by omega)];exact c4 k hk
   have hw1:=wrap_succ h hf.1
   simp [hap.plain.all]
   refine ⟨fun hq=>?_,fun hq=>?_⟩
   ·refine APK.appX tyE89 rfl tyE3 (by simp) (x:=y) (by simp) hyB (by simp [rowsOf];rfl) (by simp) (fun r hr=>by obtain ⟨_,_,rfl⟩:=List.mem_map.1 hr;rfl) (by simp) (by simp;omega) (by simp) fun x2 H7 h7 _ _=>?_
    simp [h7.plain.all]
    refine NX.go (i+1,x2,es',(B.set H.next (.map es')).set (H.next+1) (heardO H.next (l.take i ++ [l[i]])),H7) (Nat.sub_lt_sub_left h (Nat.lt_succ_self i)) ⟨h,by rw [ht];exact hm',?_,c1,d1,d2,d3⟩ (by simp [hw1,h7.only])
    rw [hlt,if_pos hq,List.map_append]
    exact h7
   ·refine NX.go (i+1,y,es',(B.set H.next (.map es')).set (H.next+1) (heardO H.next (l.take i ++ [l[i]])),H6) (Nat.sub_lt_sub_left h (Nat.lt_succ_self i)) ⟨h,by rw [ht];exact hm',?_,c1,d1,d2,d3⟩ (by simp [hw1,hap.only])
    rw [hlt,if_neg (by simp [hq]),List.append_nil]
    exact hyB
  ·have e:i=l.length:=by omega
   subst e
   rw [List.take_length] at hap
   refine AW.ev cc ?_
   simp [hap.plain.all,hap.fz]
   exact fun hz=>⟨Drop_same (by have:=hap.nx;omega) (fun k hk=>by rw [hap.ob k (by omega)];exact c4 k hk) hw.none,by simp [lateV,hp]⟩
end Go.Aft
end
section
set_option maxRecDepth 20000
namespace Go.Aft
open Go.Proofs.Tryz
def keepsV (l:List News) (srcs:Int):LV:=if formedB l srcs=true then .tup [.d (.k (.bool (decide (lateM l=[])))),lvI 0] else .tup [.d (.k (.bool false)),lvI 2]
theorem hist_Keeps (l:List News) (srcs:Int):AFun prog 98 [sl (l.map rNews),lvI srcs] (keepsV l srcs):=by
 refine AFun.body cx0_ok func98 rfl call98 (by rw [ntmps98];simp) rfl fun hf H=>?_
 have h1:=hist_Late l srcs
 simp at h1
 simp [ntmps98,results98]
 refine EC.afun h1 ?_
 cases hp:formedB l srcs with
 | false=>simp [lateV,keepsV,hp]
 | true =>
  simp [lateV,keepsV,hp]
  rw [Bool.eq_iff_iff];simp [List.length_eq_zero_iff]
def valB (n:Int):Bool:=inB n (-1000000000) 1000000000
def roomB (r:Room):Bool:=inB r.most 0 6 && valB r.low && valB r.high && inB (r.high - r.low) 0 60
open Classical in
noncomputable def askedB (p:Prog) (d:Int) (l:List News) (r:Room) (key:Int):Bool:=decide (isDefM p d) && formedB l p.srcs.length && decide (lateM l=[]) && roomB r && valB key
theorem near_isAsked (p:Prog) (hs:fitP p) (d:Int) (l:List News) (r:Room) (key:Int):AFun prog 61 [lv (rProg p),lvI d,sl (l.map rNews),lv (rRoom r),lvI key] (.d (.k (.bool (askedB p d l r key)))):=by
 have cc:=cxK_ok (p:=kds [5,8] [] [])
 refine AFun.bodyW (cxK_ok (p:=kds [5,8] [] [])) func61 rfl call61 (by rw [ntmps61];simp) rfl fun hf H=>?_
 have h1:=near_isDef p hs d
 have h2:=hist_Check l p.srcs.length
 have h3:=hist_Keeps l p.srcs.length
 simp [rProg] at h1 h2 h3
 simp [ntmps61,results61,rProg,rRoom] at hf |-
 refine AW.seq cc ?_
 simp
 refine AW.seq cc ?_
 simp
 refine EC.afun h1 ?_
 by_cases q1:isDefM p d
 rotate_left
 ·simp [q1,askedB]
 simp [q1]
 refine EC.afun h2 ?_
 cases q2:formedB l p.srcs.length with
 | false=>simp [askedB,q1,q2]
 | true =>
  simp
  refine AW.seq cc ?_
  simp
  refine EC.afun h3 ?_
  by_cases q3:lateM l=[]
  rotate_left
  ·simp [keepsV,q2,q3,askedB]
  simp [keepsV,q2,q3]
  refine AW.ev cc ?_
  simp
  refine EC.afun (near_within' _ _ _) ?_
  cases e1:inB r.most 0 6 with
  | false=>simp [askedB,roomB,e1]
  | true =>
   simp
   refine EC.afun (near_value _) ?_
   cases e2:inB r.low (-1000000000) 1000000000 with
   | false=>simp [askedB,roomB,valB,e2]
   | true =>
    simp
    refine EC.afun (near_value _) ?_
    cases e3:inB r.high (-1000000000) 1000000000 with
    | false=>simp [askedB,roomB,valB,e3]
    | true =>
     have w:IntKind.wrap .i64 (r.high - r.low)=r.high - r.low:=by
      simp only [inB,Bool.and_eq_true,decide_eq_true_eq] at e2 e3
      rw [wrap64] <;> omega
     simp [w]
     refine EC.afun (near_within' _ _ _) ?_
     cases e4:inB (r.high - r.low) 0 60 with
     | false=>simp [askedB,roomB,valB,e4]
     | true =>
      simp
      refine EC.afun (near_value _) ?_
      simp [askedB,roomB,valB,q1,q2,q3,e1,e2,e3,e4]
end Go.Aft
end
section
set_option maxRecDepth 20000
namespace Go.Aft
open Go.Proofs.Tryz
mutual
def DV.nz:DV->DV
 | .k (.slice none 0 0)=>.sl []
 | .k v=>.k v
 | .sl xs=>.sl (nzR xs)
def nzC:List DV->List DV
 | []=>[]
 | c :: cs=>c.nz :: nzC cs
def nzR:List (List DV)->List (List DV)
 | []=>[]
 | r :: rs=>nzC r :: nzR rs
end
theorem nzC_len:∀ l:List DV,(nzC l).length=l.length
 | []=>rfl
 | c :: cs=>by simp [nzC,nzC_len cs]
theorem nzR_len:∀ l:List (List DV),(nzR l).length=l.length
 | []=>rfl
 | c :: cs=>by simp [nzR,nzR_len cs]
theorem nzR_sz:∀ (l:List (List DV)) (n:Nat),(∀ r ∈ l,r.length=n)->∀ r ∈ nzR l,r.length=n
 | [],n,h,r,hr=>by simp [nzR] at hr
 | c :: cs,n,h,r,hr=>by
  rw [nzR] at hr
  rcases List.mem_cons.1 hr with rfl | hr
  ·rw [nzC_len];exact h c (by simp)
  ·exact nzR_sz cs n (fun r hr=>h r (List.mem_cons_of_mem _ hr)) r hr
mutual
theorem DR_nz {M:Mem}:∀ (d:DV) (v:Value),DR M d v->DR M d.nz v
 | .sl xs,v,h=>by
  rw [DV.nz]
  unfold DR at h |-
  obtain ⟨a,cap,sz,e,h1,h2,h3,h4⟩:=h
  refine ⟨a,cap,sz,by rw [nzR_len];exact e,by rw [nzR_len];exact h1,h2,nzR_sz _ _ h3,?_⟩
  rcases h4 with rfl | ⟨b,o,e1,e2⟩
  ·exact .inl rfl
  ·exact .inr ⟨b,o,e1,RR_nz xs b o e2⟩
 | .k u,v,h=>by
  by_cases hu:u=.slice none 0 0
  ·subst hu
   unfold DR at h
   rw [DV.nz]
   unfold DR
   exact ⟨none,0,0,h.1,by simp,by simp,by simp,.inl rfl⟩
  ·have:(DV.k u).nz=.k u:=by
    unfold DV.nz
    split
    ·rename_i q;cases q;exact absurd rfl hu
    ·rename_i q;cases q;rfl
    ·rename_i q;cases q
   rw [this];exact h
theorem RC_nz {M:Mem}:∀ (l:List DV) (b o:Nat),RC M b o l->RC M b o (nzC l)
 | [],b,o,h=>h
 | c :: cs,b,o,h=>by
  unfold RC at h
  rw [nzC];unfold RC
  obtain ⟨⟨v,h1,h2⟩,h3⟩:=h
  exact ⟨⟨v,h1,DR_nz c v h2⟩,RC_nz cs b (o+1) h3⟩
theorem RR_nz {M:Mem}:∀ (l:List (List DV)) (b o:Nat),RR M b o l->RR M b o (nzR l)
 | [],b,o,h=>h
 | r :: rs,b,o,h=>by
  unfold RR at h
  rw [nzR];unfold RR
  rw [nzC_len]
  exact ⟨RC_nz r b o h.1,RR_nz rs b (o+r.length) h.2⟩
end
mutual
def LV.nz:LV->LV
 | .d x=>.d x.nz
 | .agg xs=>.agg (nzs xs)
 | .tup xs=>.tup (nzs xs)
 | x=>x
def nzs:List LV->List LV
 | []=>[]
 | x :: xs=>x.nz :: nzs xs
end
mutual
theorem LR_nz {G:Gh} {nx:Nat} {lm:Nat->Option Nat}:∀ (x:LV) (v:Value),LR G nx lm x v->LR G nx lm x.nz v
 | .d x,v,h=>by rw [LV.nz];unfold LR at h |-;exact DR_nz x v h
 | .agg xs,v,h=>by
  rw [LV.nz];unfold LR at h |-
  obtain ⟨vs,e,h⟩:=h
  exact ⟨vs,e,LRs_nz xs vs h⟩
 | .tup xs,v,h=>by
  rw [LV.nz];unfold LR at h |-
  obtain ⟨vs,e,h⟩:=h
  exact ⟨vs,e,LRs_nz xs vs h⟩
 | .lp ..,v,h | .gp ..,v,h | .ep ..,v,h | .osl ..,v,h | .gm ..,v,h | .vs ..,v,h | .vp ..,v,h | .yl ..,v,h | .ip ..,v,h | .fn ..,v,h | .gd ..,v,h | .any,v,h=>by simpa only [LV.nz] using h
theorem LRs_nz {G:Gh} {nx:Nat} {lm:Nat->Option Nat}:∀ (xs:List LV) (vs:List Value),LRs G nx lm xs vs->LRs G nx lm (nzs xs) vs
 | [],vs,h=>h
 | x :: xs,vs,h=>by
  unfold LRs at h
  rw [nzs];unfold LRs
  obtain ⟨v,r,e,h1,h2⟩:=h
  exact ⟨v,r,e,LR_nz x v h1,LRs_nz xs r h2⟩
end
theorem AFun.nz {P:Program} {f:FuncId} {args:List LV} {v:LV} (h:AFun P f args v):AFun P f args v.nz:=fun H=>by
 refine ⟨(h H).1,fun G w vs h1 h2 h3=>Calls.mono ((h H).2 G w vs h1 h2 h3) fun e w' ⟨ce,H',G',q,r1,r2⟩=>⟨.ret v.nz,H',G',⟨rfl,q.2⟩,?_,r2⟩⟩
 obtain ⟨rfl,_⟩:=q
 obtain ⟨u,e1,e2⟩:=r1
 exact ⟨u,e1,LR_nz v u e2⟩
end Go.Aft
end
section
set_option maxRecDepth 20000
namespace Go.Aft
open Go.Proofs.Tryz
def xS:Str:=⟨#[120]⟩
def srcX:Exp:=.mk 1 xS 0 0 [] []
def exTerm:Calc:=.mk 9 0 [.mk 4 0 [],.mk 1 8 []]
def exP:Prog:=⟨[xS],[⟨⟨#[115]⟩,.mk 8 noName 10 2 [] [srcX]⟩,⟨⟨#[103]⟩,.mk 8 noName 10 4 [] [.mk 5 noName 0 0 [exTerm] [srcX]]⟩]⟩
def sayN (id at_ val:Int):News:=⟨1,0,id,1,⟨at_,0,val⟩⟩
theorem law_say (id at_ val:Int):AFun prog 72 [lvI id,lvI at_,lvI val] (lv (rNews (sayN id at_ val))):=by
 refine AFun.body cx0_ok func72 rfl call72 (by rw [ntmps72];simp) rfl fun hf H=>?_
 simp [ntmps72,results72,rNews,rRec,sayN]
def exN:List News:=[sayN 1 3 5,sayN 2 12 9,sayN 3 14 2,⟨3,0,0,0,⟨11,0,0⟩⟩]
theorem law_News:AFun prog 39 [] (sl (exN.map rNews)):=by
 refine AFun.body cx0_ok func39 rfl call39 (by rw [ntmps39];simp) rfl fun hf H=>?_
 have h1:=law_say 1 3 5
 have h2:=law_say 2 12 9
 have h3:=law_say 3 14 2
 have hr:List.range' 0 4=[0,1,2,3]:=rfl
 simp [sayN,rNews,rRec] at h1 h2 h3
 simp [ntmps39,results39,hr]
 refine EC.afun h1 ?_
 simp
 refine EC.afun h2 ?_
 simp
 refine EC.afun h3 ?_
 simp [exN,sayN,rNews,rRec,hr]
theorem law_Example:AFun prog 38 [] (lv (rProg exP)):=by
 have key:AFun prog 38 [] (.agg [LV.d (DV.sl [[DV.k (Value.string { data:=#[120] })]]),
   LV.d
    (DV.sl
     [[DV.k (Value.string { data:=#[115] }),DV.k (Value.int IntKind.i64 8),DV.k (Value.string { data:=#[] }),
       DV.k (Value.int IntKind.i64 10),DV.k (Value.int IntKind.i64 2),DV.k (Value.slice none 0 0),
       DV.sl
        [[DV.k (Value.int IntKind.i64 1),DV.k (Value.string { data:=#[120] }),
          DV.k (Value.int IntKind.i64 0),DV.k (Value.int IntKind.i64 0),DV.k (Value.slice none 0 0),
          DV.k (Value.slice none 0 0)]]],
      [DV.k (Value.string { data:=#[103] }),DV.k (Value.int IntKind.i64 8),
       DV.k (Value.string { data:=#[] }),DV.k (Value.int IntKind.i64 10),DV.k (Value.int IntKind.i64 4),
       DV.k (Value.slice none 0 0),
       DV.sl
        [[DV.k (Value.int IntKind.i64 5),DV.k (Value.string { data:=#[] }),DV.k (Value.int IntKind.i64 0),
          DV.k (Value.int IntKind.i64 0),
          DV.sl
           [[DV.k (Value.int IntKind.i64 9),DV.k (Value.int IntKind.i64 0),
             DV.sl
              [[DV.k (Value.int IntKind.i64 4),DV.k (Value.int IntKind.i64 0),
                DV.k (Value.slice none 0 0)],
               [DV.k (Value.int IntKind.i64 1),DV.k (Value.int IntKind.i64 8),
                DV.k (Value.slice none 0 0)]]]],
          DV.sl
           [[DV.k (Value.int IntKind.i64 1),DV.k (Value.string { data:=#[120] }),
             DV.k (Value.int IntKind.i64 0),DV.k (Value.int IntKind.i64 0),DV.k (Value.slice none 0 0),
             DV.k (Value.slice none 0 0)]]]]]])]):=by
  refine AFun.body cx0_ok func38 rfl call38 (by rw [ntmps38];simp) rfl fun hf H=>?_
  have hr:List.range' 0 1=[0]:=rfl
  have hr2:List.range' 0 2=[0,1]:=rfl
  simp [ntmps38,results38,hr,hr2]
 have:=key.nz
 simp [LV.nz,nzs,DV.nz,nzR,nzC] at this
 simpa [rProg,exP,rDef,rExp,rCalc,srcX,exTerm,xS,noName,rS,rCalcs,rExps] using this
end Go.Aft
end
section
set_option maxRecDepth 20000
namespace Go.Aft
open Go.Proofs.Tryz
def cmpI (a b:Int):Int:=if a < b then -1 else if b < a then 1 else 0
def lexC:List Int->List Int->Int
 | [],[]=>0
 | [],_ :: _=>-1
 | _ :: _,[]=>1
 | a :: l,b :: m=>if cmpI a b=0 then lexC l m else cmpI a b
theorem cmp_isNaN (n:Int):AFun prog 276 [lvI n] (.d (.k (.bool false))):=by
 refine AFun.body cx0_ok func276 rfl call276 (by rw [ntmps276];simp) rfl fun _ H=>?_
 simp [ntmps276,results276]
theorem cmp_Compare (a b:Int):AFun prog 219 [lvI a,lvI b] (lvI (cmpI a b)):=by
 refine AFun.body cx0_ok func219 rfl call219 (by rw [ntmps219];simp) rfl fun _ H=>?_
 have h1:=cmp_isNaN a
 have h2:=cmp_isNaN b
 simp at h1 h2
 simp [ntmps219,results219]
 refine EC.afun h1 ?_
 simp
 refine EC.afun h2 ?_
 simp
 refine ⟨fun q=>by simp [cmpI,q],fun q=>⟨fun q2=>?_,fun q2=>?_⟩⟩
 ·simp [cmpI,q2];omega
 ·simp [cmpI];omega
theorem lexC_drop {a b:List Int}:∀ (i:Nat),i<=a.length->i<=b.length->(∀ j (h:j < i) (h1:j < a.length) (h2:j < b.length),cmpI a[j] b[j]=0)->lexC a b=lexC (a.drop i) (b.drop i):=by
 intro i
 induction i with
 | zero=>simp
 | succ i ih =>
  intro h1 h2 h
  rw [ih (by omega) (by omega) fun j hj=>h j (by omega)]
  rw [List.drop_eq_getElem_cons (show i < a.length by omega),List.drop_eq_getElem_cons (show i < b.length by omega),lexC,if_pos (h i (by omega) (by omega) (by omega))]
theorem slices_Compare (a b:List Int):AFun prog 178 [sl (a.map rI),sl (b.map rI)] (lvI (lexC a b)):=by
 have cc:=cx0_ok
 refine AFun.body cx0_ok func178 rfl call178 (by rw [ntmps178];simp) rfl fun hf H=>?_
 simp [ntmps178,results178] at hf |-
 refine AW.loopS cc (fun i:Nat=>⟨[(0,.d (.sl (a.map rI))),(1,.d (.sl (b.map rI))),(9,.d (.sl (a.map rI))),(10,lvI a.length),(11,lvI i)],[],H⟩) (fun i=>a.length - i) (fun i=>i<=a.length/\i<=b.length/\∀ j (h:j < i) (h1:j < a.length) (h2:j < b.length),cmpI a[j] b[j]=0) 0 ⟨by simp,by simp⟩ ?_
 rintro i ⟨hi,hib,hI⟩
 simp
 refine ⟨fun h=>?_,fun h=>?_⟩
 ·simp [h,List.getElem?_eq_getElem h,rI]
  refine ⟨fun q=>?_,fun q=>?_⟩
  ·rw [lexC_drop i hi hib hI,List.drop_eq_getElem_cons h,List.drop_eq_nil_of_le q,lexC]
  ·have hc:=cmp_Compare a[i] b[i]
   simp at hc
   simp [q,List.getElem?_eq_getElem q]
   refine EC.afun hc ?_
   simp
   have hl:lexC a b=if cmpI a[i] b[i]=0 then lexC (a.drop (i+1)) (b.drop (i+1)) else cmpI a[i] b[i]:=by
    rw [lexC_drop i hi hib hI,List.drop_eq_getElem_cons h,List.drop_eq_getElem_cons q,lexC]
   refine ⟨fun q2=>?_,fun q2=>?_⟩
   ·rw [hl,if_neg q2]
   ·refine NX.go (i+1) (Nat.sub_lt_sub_left h (Nat.lt_succ_self i)) ⟨h,q,fun j hj h1 h2=>?_⟩ (by simp [wrap_succ h hf.1.1,rI])
    by_cases z:j=i
    ·subst z;exact q2
    ·exact hI j (by omega) h1 h2
 ·have e:i=a.length:=by omega
  subst e
  have hl:=lexC_drop _ hi hib hI
  rw [List.drop_length] at hl
  refine ⟨fun q=>?_,fun q=>?_⟩
  ·rw [hl,List.drop_eq_getElem_cons q];rfl
  ·rw [hl,List.drop_eq_nil_of_le q];rfl
def keyE (e:Event):List Int:=[e.rec_.at_,e.src,e.id]
theorem hist_Stands1 (e:Event):AFun prog 135 [lv (rEvent e)] (sl ((keyE e).map rI)):=by
 refine AFun.body (cxK_ok (p:=kds [1] [] [])) func135 rfl call135 (by rw [ntmps135];simp) rfl fun _ H=>?_
 have hr:List.range' 0 3=[0,1,2]:=rfl
 simp [ntmps135,results135,hr,rEvent,rRec,keyE,rI]
theorem hist_sortedBy1 (a b:Event):AFun prog 177 [lv (rEvent a),lv (rEvent b),.ip [.fn (.func 135) [] []] 0] (lvI (lexC (keyE a) (keyE b))):=by
 have cc:=cxK_ok (p:=kds [3,4] [] [])
 refine AFun.body (cxK_ok (p:=kds [3,4] [] [])) func177 rfl call177 (by rw [ntmps177];simp) rfl fun _ H=>?_
 have h1:=hist_Stands1 a
 have h2:=hist_Stands1 b
 have h3:=slices_Compare (keyE a) (keyE b)
 simp [rEvent,rRec] at h1 h2 h3
 simp [ntmps177,results177,rEvent,rRec]
 refine AW.draw cc [(2,.n),(5,.n),(6,.n)] (.q 0<|.q 1<|.q 2<|.q 3<|.q 4<|.q 5<|.q 6<|.q 7<|.done) (by kernel_rfl) ?_
 simp
 refine FC.afun h1 ?_
 simp
 refine FC.afun h2 ?_
 simp
 refine FC.afun h3 ?_
 simp
end Go.Aft
end
section
set_option maxRecDepth 20000
namespace Go.Aft
open Go.Proofs.Tryz
structure Loose where
 ev:Event
 ver:Int
def rLoose (x:Loose):List DV:=rEvent x.ev ++ [.k (.int .i64 x.ver)]
@[simp] theorem rLoose_len (x:Loose):(rLoose x).length=6:=by simp [rLoose,rEvent,rRec]
theorem near_look1 (a b:Loose) (ha:inMost a.ev.rec_.val) (hb:inMost b.ev.rec_.val):AFun prog 101 [lv (rLoose a),lv (rLoose b)] (lvI (a.ev.rec_.val - b.ev.rec_.val)):=by
 refine AFun.body (cxK_ok (p:=kds [2,3] [] [])) func101 rfl call101 (by rw [ntmps101];simp) rfl fun _ H=>?_
 have w:IntKind.wrap .i64 (a.ev.rec_.val - b.ev.rec_.val)=a.ev.rec_.val - b.ev.rec_.val:=by
  unfold inMost at ha hb;rw [wrap64] <;> omega
 simp [ntmps101,results101,rLoose,rEvent,rRec,w]
structure Scene where
 sh:Shape
 room:Room
 vals:LV
 loose:LV
 has:Bool
 low:Rec
 high:Rec
 vers:LV
def sceneO (s:Scene):GO:=.box ((rShape s.sh).map .d ++ (rRoom s.room).map .d ++ [s.vals,s.loose,.d (.k (.bool s.has))] ++ (rRec s.low).map .d ++ (rRec s.high).map .d ++ [s.vers])
theorem scene_record (s:Scene) (n:Nat) (great:Bool) (H:GH) (ho:H.obj n=some (sceneO s)):ECall prog 108 [.gp n 0,.d (.k (.bool great))] H fun ce H'=>ce=.ret (lv (rRec (if great=true then s.high else s.low)))/\H'=H:=by
 have cc:=cxK_ok (p:=kds [] [] [])
 refine ECall.bodyN (cxK_ok (p:=kds [] [] [])) func108 rfl call108 (by rw [ntmps108];simp) rfl fun hf hw=>?_
 have ln:=hw.lt ho
 cases great with
 | true =>
  simp [ntmps108,results108,ho,sceneO,rShape,rRoom,rRec,dI]
  exact fun hz=>hz.drop (Nat.le_refl _)
 | false =>
  simp [ntmps108,results108,ho,sceneO,rShape,rRoom,rRec,dI]
  exact fun hz=>hz.drop (Nat.le_refl _)
def foldEs:List (Value × LV):=[(.int .i64 1,.fn (.func 149) [] []),(.int .i64 2,.fn (.func 150) [] []),(.int .i64 3,.fn (.func 151) [] []),(.int .i64 4,.fn (.func 152) [] [])]
theorem near_folds (H:GH):ECall prog 103 [] H fun ce H'=>ce=.ret (.gm H.next)/\H'=H.add (.map (foldEs.map fun e=>(e.1,.agg [e.2]))):=by
 refine ECall.bodyN cx0_ok func103 rfl call103 (by rw [ntmps103];simp) rfl fun hf hw=>?_
 simp [ntmps103,results103,GH.add_obj,GH.add_next,GH.add_set,KK.has,Sc.has,mput,kEq_int,foldEs]
 exact fun hz=>hz.drop (by rw [GH.add_next];omega)
end Go.Aft
end
