import Derived.Test.YtdhphbedajhmnaaGreatA29
import Derived.Test.YtdhphbedajhmnaaGreatA24
import Derived.Test.YtdhphbedajhmnaaGreatA23
set_option linter.all false
section
set_option maxRecDepth 20000
namespace Go.Aft
open Go.Proofs.Tryz
theorem formed_fold {p:Prog} (hf:formed p) {d:Nat} (hd:d < p.defs.length) (h8:p.defs[d].exp.op=8):∃ k,p.defs[d].exp.kids=[k]/\WOk 1000 k/\∀ c ∈ (strip k).1,0<=mFormed c 1 60:=by
 obtain ⟨⟨l,hl⟩,_⟩:=hf
 unfold countM at hl
 split at hl
 ·obtain ⟨l1,l2,q1,q2,q3⟩:=lDefs_at _ _ _ _ hl (by omega) d hd
  obtain ⟨e,hx⟩:∃ e,p.defs[d].exp=e:=⟨_,rfl⟩
  rw [hx] at h8 q1 |-
  obtain ⟨op,name,n,fold,calcs,kids⟩:=e
  simp only [Exp.op_mk] at h8
  subst h8
  rw [lExp] at q1
  split at q1
  ·rename_i hc
   obtain ⟨x,hx,k1,k2⟩:=expOk_len hc.2.2.1
   simp [shpOf] at hx
   subst hx
   match calcs,kids,k1,k2,q1 with
   | [],[k],_,_,q1 =>
    rw [lCalcs] at q1
    simp only [lExps] at q1
    split at q1
    ·rename_i l3 h3
     obtain ⟨w1,w2⟩:=lExp_where k _ _ _ h3 (by omega)
     refine ⟨k,rfl,?_,w2⟩
     exact w1.mono (by omega)
    ·cases q1
  ·cases q1
 ·cases hl
def fitP (p:Prog):Prop:=∀ s ∈ p.srcs ++ defNames p,strFit s
def isDefM (p:Prog) (d:Int):Prop:=formed p/\0<=d/\d < p.defs.length
open Classical in
theorem ref02_Def (p:Prog) (hs:fitP p) (d:Int):AFun prog 49 [lv (rProg p),lvI d] (.d (.k (.bool (decide (isDefM p d))))):=by
 refine AFun.body (cxK_ok (p:=kds [2] [] [])) func49 rfl call49 (by rw [ntmps49];simp) rfl fun hf H=>?_
 have h:=ref02_Prog p hs
 simp [rProg] at h
 simp [ntmps49,results49,rProg] at hf |-
 refine ⟨fun h1 h2=>⟨⟨h1,h2⟩,EC.afun h ?_⟩,fun q=>?_⟩
 ·simp [h1,h2,isDefM]
 ·have hb:(decide (0<=d) && decide (d < (p.defs.length:Int)))=false:=by
   rw [Bool.and_eq_false_iff,decide_eq_false_iff_not,decide_eq_false_iff_not];omega
  have hn:¬ isDefM p d:=fun h=>by have:=q h.2.1;have:=h.2.2;omega
  simp [hb,hn]
open Classical in
theorem near_isDef (p:Prog) (hs:fitP p) (d:Int):AFun prog 47 [lv (rProg p),lvI d] (.d (.k (.bool (decide (isDefM p d))))):=by
 refine AFun.body (cxK_ok (p:=kds [2] [] [])) func47 rfl call47 (by rw [ntmps47];simp) rfl fun hf H=>?_
 have h:=term_Check p hs
 simp [rProg] at h
 simp [ntmps47,results47,rProg] at hf |-
 refine EC.afun h ?_
 simp
 have w:IntKind.wrap .i64 ((p.defs.length:Int) - 1)=(p.defs.length:Int) - 1:=by rw [wrap64] <;> omega
 refine ⟨fun q=>⟨q,EC.afun (near_within' _ _ _) ?_⟩,fun q=>?_⟩
 ·simp [q,w,inB,isDefM]
  rw [Bool.eq_iff_iff];simp only [Bool.and_eq_true,decide_eq_true_eq];omega
 ·have hn:¬ isDefM p d:=fun h=>q h.1
  simp [q,hn]
open Classical in
noncomputable def plainV (p:Prog) (d:Int):LV :=
 if h:isDefM p d then
  (match plainOf p (p.defs[d.toNat]'(by have:=h.2;omega)).exp with
  | (s,true)=>.tup [lvI s.src,lvI s.n,lvI 0]
  | (_,false)=>.tup [lvI 0,lvI 0,lvI 7])
 else .tup [lvI 0,lvI 0,lvI 2]
theorem plainOf_no {p:Prog} {e:Exp} (h:(plainOf p e).2=false):(plainOf p e).1=shape0:=by
 unfold plainOf at h |-
 split at h
 ·rename_i q;rw [if_pos q]
 ·rename_i q
  split at h
  ·rename_i q2;rw [if_neg q,if_pos q2]
  ·cases h
theorem near_Plain (p:Prog) (hs:fitP p) (d:Int):AFun prog 15 [lv (rProg p),lvI d] (plainV p d):=by
 have cc:=cxK_ok (p:=kds [2] [] [])
 refine AFun.body (cxK_ok (p:=kds [2] [] [])) func15 rfl call15 (by rw [ntmps15];simp) rfl fun hf H=>?_
 have h:=near_isDef p hs d
 simp [rProg] at h
 simp [ntmps15,results15,rProg] at hf |-
 refine EC.afun h ?_
 simp
 refine ⟨fun q=>?_,fun q=>?_⟩
 ·rw [plainV,dif_neg q];simp
 ·have hd:d.toNat < p.defs.length:=by have:=q.2;omega
  have h2:=near_shaped p d.toNat hd fun h8=>by
   obtain ⟨k,hk,hw,_⟩:=formed_fold q.1 hd h8;exact ⟨k,[],hk,hw⟩
  rw [show ((d.toNat:Nat):Int)=d by have:=q.2;omega] at h2
  simp [rProg,shapedV,rShape] at h2
  refine EC.afun h2 ?_
  simp
  refine AW.draw cc [] (.q 0<|.q 2<|.q 4<|.q 1<|.q 5<|.q 3<|.q 6<|.q 7<|.done) (by kernel_rfl) ?_
  simp
  rw [plainV,dif_pos q]
  have hno:=plainOf_no (p:=p) (e:=p.defs[d.toNat].exp)
  generalize plainOf p p.defs[d.toNat].exp=y at hno |-
  obtain ⟨s,b⟩:=y
  cases b with
  | true=>simp [LV.nb,nbs]
  | false=>have:=hno rfl;simp only at this;subst this;simp [LV.nb,nbs,shape0]
open Classical in
noncomputable def passesV (p:Prog) (d:Int) (r:Rec):LV :=
 if h:isDefM p d/\recB r=true then
  (match plainOf p (p.defs[d.toNat]'(by have:=h.1.2;omega)).exp with
  | (s,true)=>.tup [.d (.k (.bool (s.terms.all fun c=>cVal r 0 c != 0))),lvI 0]
  | (_,false)=>.tup [.d (.k (.bool false)),lvI 7])
 else .tup [.d (.k (.bool false)),lvI 2]
theorem formed_terms {p:Prog} (hf:formed p) {d:Nat} (hd:d < p.defs.length) (h:(plainOf p p.defs[d].exp).2=true):∀ c ∈ (plainOf p p.defs[d].exp).1.terms,0<=mFormed c 1 60:=by
 have h8:p.defs[d].exp.op=8:=by
  unfold plainOf at h
  split at h
  ·cases h
  ·rename_i q;simpa using q
 obtain ⟨k,hk,_,hc⟩:=formed_fold hf hd h8
 unfold plainOf at h |-
 rw [if_neg (by simpa using h8)] at h |-
 split at h
 ·cases h
 ·rename_i q
  rw [if_neg q]
  rw [hk] at q |-
  exact hc
theorem passM_all {s:Shape} {r:Rec} (hr:recB r=true) (hc:∀ c ∈ s.terms,0<=mFormed c 1 60):passM s r=s.terms.all fun c=>cVal r 0 c != 0:=by
 rw [passM,List.not_any_eq_all_not]
 rw [Bool.eq_iff_iff,List.all_eq_true,List.all_eq_true]
 refine forall_congr' fun c=>forall_congr' fun hm=>?_
 have ha:mAsk c r 0:=by
  simp only [recB,inB,Bool.and_eq_true,decide_eq_true_eq] at hr
  have h0:∀ n:Int,-1000000000<=n->n<=1000000000->n=clampM n:=fun n h1 h2=>by
   unfold clampM maxI minI;split <;> split <;> omega
  exact ⟨hc c hm,hr.1.1.1,hr.1.1.2,h0 _ hr.1.2.1 hr.1.2.2,h0 _ hr.2.1 hr.2.2,h0 _ (by omega) (by omega)⟩
 simp [failM,ha]
theorem near_Passes (p:Prog) (hs:fitP p) (d:Int) (r:Rec):AFun prog 17 [lv (rProg p),lvI d,lv (rRec r)] (passesV p d r):=by
 have cc:=cxK_ok (p:=kds [3,5] [] [])
 refine AFun.bodyW (cxK_ok (p:=kds [3,5] [] [])) func17 rfl call17 (by rw [ntmps17];simp) rfl fun hf H=>?_
 have h:=near_isDef p hs d
 simp [rProg] at h
 simp [ntmps17,results17,rProg,rRec] at hf |-
 refine AW.seq cc ?_
 simp
 refine AW.seq cc ?_
 simp
 refine EC.afun h ?_
 by_cases q:isDefM p d
 rotate_left
 ·simp [q]
  rw [passesV,dif_neg fun q2=>q q2.1]
  simp [LV.nb,nbs]
 simp [q]
 refine EC.afun (near_within' _ _ _) ?_
 cases h1:inB r.at_ 0 200 with
 | false =>
  simp
  rw [passesV,dif_neg fun q2=>by have:=q2.2;simp [recB,h1] at this]
  simp [LV.nb,nbs]
 | true =>
  simp
  refine EC.afun (near_value _) ?_
  cases h2:inB r.key (-1000000000) 1000000000 with
  | false =>
   simp
   rw [passesV,dif_neg fun q2=>by have:=q2.2;simp [recB,h2] at this]
   simp [LV.nb,nbs]
  | true =>
   simp
   refine EC.afun (near_value _) ?_
   cases h3:inB r.val (-1000000000) 1000000000 with
   | false =>
    simp
    rw [passesV,dif_neg fun q2=>by have:=q2.2;simp [recB,h3] at this]
    simp [LV.nb,nbs]
   | true =>
    simp
    refine AW.ev cc ?_
    have hd:d.toNat < p.defs.length:=by have:=q.2;omega
    have hrb:recB r=true:=by simp [recB,h1,h2,h3]
    have hs2:=near_shaped p d.toNat hd fun h8=>by
     obtain ⟨k,hk,hw,_⟩:=formed_fold q.1 hd h8;exact ⟨k,[],hk,hw⟩
    rw [show ((d.toNat:Nat):Int)=d by have:=q.2;omega] at hs2
    simp [rProg,shapedV,rShape] at hs2
    simp
    refine EC.afun hs2 ?_
    rw [passesV,dif_pos ⟨q,hrb⟩]
    have htm:=formed_terms q.1 hd
    have hno:=plainOf_no (p:=p) (e:=p.defs[d.toNat].exp)
    generalize plainOf p p.defs[d.toNat].exp=y at hno htm |-
    obtain ⟨s,b⟩:=y
    cases b with
    | true =>
     have hp:=near_passes s r
     rw [passM_all hrb (htm rfl)] at hp
     simp [rShape,rRec] at hp
     simp
     refine EC.afun hp ?_
     simp [LV.nb,nbs]
    | false=>simp [LV.nb,nbs]
end Go.Aft
end
section
set_option maxRecDepth 20000
namespace Go.Aft
open Go.Proofs.Tryz
theorem hist_in (n lo hi:Int):AFun prog 213 [.d (.k (.int .i64 n)),.d (.k (.int .i64 lo)),.d (.k (.int .i64 hi))] (.d (.k (.bool (inB n lo hi)))):=by
 refine AFun.body cx0_ok func213 rfl call213 (by rw [ntmps213];simp) rfl fun _ H=>?_
 simp [ntmps213,results213,inB]
theorem hist_record (r:Rec):AFun prog 301 [lv (rRec r)] (.d (.k (.bool (recB r)))):=by
 refine AFun.body (cxK_ok (p:=kds [1] [] [])) func301 rfl call301 (by rw [ntmps301];simp) rfl fun _ H=>?_
 simp [ntmps301,results301,rRec]
 refine EC.afun (hist_in _ _ _) ?_
 cases h1:inB r.at_ 0 200 with
 | false=>simp [recB,h1]
 | true =>
  simp
  refine EC.afun (hist_in _ _ _) ?_
  cases h2:inB r.key (-1000000000) 1000000000 with
  | false=>simp [recB,h1,h2]
  | true =>
   simp
   refine EC.afun (hist_in _ _ _) ?_
   simp [recB,h1,h2]
def saidB (n:News):Bool:=inB n.id 0 999 && inB n.ver 1 99 && recB n.rec_
theorem hist_said (n:News):AFun prog 262 [.agg [],lv (rNews n)] (.d (.k (.bool (saidB n)))):=by
 refine AFun.body (cxK_ok (p:=kds [2,3] [] [])) func262 rfl call262 (by rw [ntmps262];simp) rfl fun _ H=>?_
 have hr:=hist_record n.rec_
 simp [rRec] at hr
 simp [ntmps262,results262,rNews,rRec]
 refine EC.afun (hist_in _ _ _) ?_
 cases h1:inB n.id 0 999 with
 | false=>simp [saidB,h1]
 | true =>
  simp
  refine EC.afun (hist_in _ _ _) ?_
  cases h2:inB n.ver 1 99 with
  | false=>simp [saidB,h1,h2]
  | true =>
   simp
   refine EC.afun hr ?_
   simp [saidB,h1,h2]
theorem hist_gone (n:News):AFun prog 263 [.agg [],lv (rNews n)] (.d (.k (.bool (saidB n && decide (n.rec_=zeroRec))))):=by
 refine AFun.body (cxS_ok (p:=kds [2,3] [] [])) func263 rfl call263 (by rw [ntmps263];simp) rfl fun _ H=>?_
 have hr:=hist_said n
 simp [rNews,rRec] at hr
 simp [ntmps263,results263,rNews,rRec]
 refine EC.afun hr ?_
 cases h1:saidB n with
 | false=>simp [h1]
 | true =>
  obtain ⟨d0,s0,i0,v0,a,b,c⟩:=n
  simp [zeroRec]
  rw [Bool.eq_iff_iff];simp
def markedB (n:News):Bool:=decide (n.id=0) && decide (n.ver=0) && decide (n.rec_.key=0/\n.rec_.val=0) && inB n.rec_.at_ 0 201
theorem hist_marked (n:News):AFun prog 264 [.agg [],lv (rNews n)] (.d (.k (.bool (markedB n)))):=by
 refine AFun.body (cxS_ok (p:=kds [2,3] [] [])) func264 rfl call264 (by rw [ntmps264];simp) rfl fun _ H=>?_
 obtain ⟨d0,s0,i0,v0,a,b,c⟩:=n
 simp [ntmps264,results264,rNews,rRec]
 by_cases h:i0=0/\v0=0/\b=0/\c=0
 ·obtain ⟨rfl,rfl,rfl,rfl⟩:=h
  simp
  refine EC.afun (hist_in _ _ _) ?_
  simp [markedB]
 ·refine ⟨fun q1 q2 q3 q4=>absurd ⟨q1,q2,q3,q4⟩ h,fun _=>?_⟩
  have hb:(i0 == 0 && v0 == 0 && (b == 0 && c == 0))=false:=by
   rw [Bool.eq_false_iff];intro q;simp at q;exact h ⟨q.1.1,q.1.2,q.2.1,q.2.2⟩
  have hm:markedB ⟨d0,s0,i0,v0,⟨a,b,c⟩⟩=false:=by
   rw [Bool.eq_false_iff];intro q;simp [markedB] at q;exact h ⟨q.1.1.1,q.1.1.2,q.1.2.1,q.1.2.2⟩
  rw [hb,hm];simp
def ckEs:List (Value × LV):=[(.int .i64 1,.fn (.func 262) [.agg []] []),(.int .i64 2,.fn (.func 263) [.agg []] []),(.int .i64 3,.fn (.func 264) [.agg []] [])]
theorem hist_checks (H:GH):ECall prog 212 [] H fun ce H'=>ce=.ret (.gm H.next)/\H'=H.add (.map ckEs):=by
 refine ECall.bodyN cx0_ok func212 rfl call212 (by rw [ntmps212];simp) rfl fun hf hw=>?_
 simp [ntmps212,results212,GH.add_obj,GH.add_next,GH.add_set,KK.has,Sc.has,mput,kEq_int,ckEs]
 exact fun hz=>hz.drop (by rw [GH.add_next];omega)
def goodB (n:News) (srcs:Int):Bool:=inB n.src 0 (srcs - 1) && (if n.do_=1 then saidB n else if n.do_=2 then saidB n && decide (n.rec_=zeroRec) else if n.do_=3 then markedB n else false)
theorem ck_has:(∀ (a:Value) (b:LV),(a,b) ∈ ckEs->(KK.sc (Sc.int .i64)).has a=true)=True:=by
 refine eq_true fun a b hab=>?_
 simp only [ckEs,List.mem_cons,List.not_mem_nil,or_false,Prod.mk.injEq] at hab
 rcases hab with ⟨rfl,_⟩ | ⟨rfl,_⟩ | ⟨rfl,_⟩ <;> rfl
theorem hist_plain1 (n:News) (srcs:Int) (m1 m0:Nat) (H:GH) (h1:H.obj m1=some (.box [.gm m0])) (h0:H.obj m0=some (.map ckEs)) (hs:0<=srcs/\srcs<=4) :
  ECall prog 215 [lv (rNews n),.gp m1 0,.ip [lvI srcs] 0] H fun ce H'=>ce=.ret (.d (.k (.bool (!goodB n srcs))))/\H'=H:=by
 have cc:=cxK_ok (p:=kds [3] [] [])
 refine ECall.bodyN (cxK_ok (p:=kds [3] [] [])) func215 rfl call215 (by rw [ntmps215];simp) rfl fun hf hw=>?_
 have l1:=hw.lt h1
 have l0:=hw.lt h0
 have c1:=hist_said n
 have c2:=hist_gone n
 have c3:=hist_marked n
 have w:IntKind.wrap .i64 (srcs - 1)=srcs - 1:=by rw [wrap64] <;> omega
 obtain ⟨d0,s0,i0,v0,a,b,c⟩:=n
 simp [rNews,rRec] at c1 c2 c3
 have hd:(¬ (d0=1 \/ d0=2 \/ d0=3)) \/ (d0=1 \/ d0=2 \/ d0=3):=by omega
 rcases hd with hd | hd
 ·have e1:¬ d0=1:=by omega
  have e2:¬ d0=2:=by omega
  have e3:¬ d0=3:=by omega
  simp [ntmps215,results215,h1,h0,rNews,rRec,ck_has]
  simp [ckEs,mfind,kEq_int,e1,e2,e3,Ne.symm e1,Ne.symm e2,Ne.symm e3]
  exact fun hz=>⟨hz.drop (Nat.le_refl _),by simp [goodB,e1,e2,e3]⟩
 ·rcases hd with rfl | rfl | rfl
  all_goals
   simp [ntmps215,results215,h1,h0,rNews,rRec,ck_has]
   simp [ckEs,mfind,kEq_int,w]
   refine EC.afun (hist_in _ _ _) ?_
   cases h2:inB s0 0 (srcs - 1) with
   | false =>
    simp
    exact fun hz=>⟨hz.drop (Nat.le_refl _),by simp [goodB,h2]⟩
   | true =>
    simp [l1,l0,h1,h0,LV.nb,nbs]
    first
     | refine EC.afun c1 ?_
     | refine EC.afun c2 ?_
     | refine EC.afun c3 ?_
    simp
    exact fun hz=>⟨hz.drop (Nat.le_refl _),by simp [goodB,h2]⟩
end Go.Aft
end
section
set_option maxRecDepth 20000
namespace Go.Aft
open Go.Proofs.Tryz
theorem news_IndexFunc (l:List News) (q:News->Bool) (f:FuncId) (cap:List LV) (H:GH) (hcap:nbs H.next cap) (hc:∀ n ∈ l,ECall prog f ([lv (rNews n)] ++ cap) H fun ce H'=>ce=.ret (.d (.k (.bool (q n))))/\H'=H) :
  ECall prog 265 [sl (l.map rNews),.fn (.func f) [] cap] H fun ce H'=>ce=.ret (lvI (idxF q l))/\H'=H:=by
 have cc:=cx0_ok
 refine ECall.bodyN cx0_ok func265 rfl call265 (by rw [ntmps265];simp) rfl fun hf hw=>?_
 simp [ntmps265,results265] at hf |-
 refine AW.loopS cc (fun i:Nat=>⟨[(0,.d (.sl (l.map rNews))),(1,.fn (.func f) [] cap),(7,lvI l.length),(8,lvI i)],[],H⟩) (fun i=>l.length - i) (fun i=>i<=l.length/\∀ j (h:j < l.length),j < i->q l[j]=false) 0 ⟨by simp,by simp [LV.only,nbs_only _ hcap,onlys]⟩ ?_
 rintro i ⟨hi,hk⟩
 simp
 refine ⟨fun h=>?_,fun h=>?_⟩
 ·have hcall:=hc l[i] (List.getElem_mem h)
  simp [rNews,rRec] at hcall
  simp [h,List.getElem?_eq_getElem h,rNews,rRec]
  refine ⟨hcap,EC.of hcall (fun v H2 hR=>?_) (fun v H2 hR=>?_)⟩
  ·obtain ⟨e,rfl⟩:=hR
   cases e
   simp [wrap_succ h hf.1.1]
   refine ⟨fun e=>fun hz=>⟨hz.drop (Nat.le_refl _),(idxF_at h e hk).symm⟩,fun e=>NX.go (i+1) (Nat.sub_lt_sub_left h (Nat.lt_succ_self i)) ⟨h,fun j hj hji=>?_⟩ (by simp [nbs_only _ hcap])⟩
   by_cases z:j=i
   ·subst z;exact e
   ·exact hk j hj (by omega)
  ·cases hR.1
 ·exact fun hz=>⟨hz.drop (Nat.le_refl _),(idxF_none fun j hj=>hk j hj (by omega)).symm⟩
theorem news_ContainsFunc (l:List News) (q:News->Bool) (f:FuncId) (cap:List LV) (H:GH) (hcap:nbs H.next cap) (hc:∀ n ∈ l,ECall prog f ([lv (rNews n)] ++ cap) H fun ce H'=>ce=.ret (.d (.k (.bool (q n))))/\H'=H) :
  ECall prog 214 [sl (l.map rNews),.fn (.func f) [] cap] H fun ce H'=>ce=.ret (.d (.k (.bool (l.any q))))/\H'=H:=by
 have cc:=cx0_ok
 refine ECall.bodyN cx0_ok func214 rfl call214 (by rw [ntmps214];simp) rfl fun hf hw=>?_
 have hi:=news_IndexFunc l q f cap H hcap hc
 simp at hi
 simp [ntmps214,results214,LV.nb,nbs,hcap]
 refine EC.of hi (fun v H2 hR=>?_) (fun v H2 hR=>?_)
 ·obtain ⟨e,rfl⟩:=hR
  cases e
  simp
  refine fun hz=>⟨hz.drop (Nat.le_refl _),?_⟩
  rw [<- idxF_any q l]
 ·cases hR.1
def plainB (l:List News) (srcs:Int):Bool:=inB srcs 1 4 && decide (l.length<=60) && !l.any fun n=>!goodB n srcs
theorem hist_plain (l:List News) (srcs:Int):AFun prog 173 [sl (l.map rNews),lvI srcs] (.d (.k (.bool (plainB l srcs)))):=by
 intro H
 have cc:=cxK_ok (p:=kds [3] [5] [])
 refine ECall.bodyN (cxK_ok (p:=kds [3] [5] [])) func173 rfl call173 (by rw [ntmps173];simp) rfl fun hf hw=>?_
 simp [ntmps173,results173] at hf |-
 refine EC.of (hist_checks _) (fun v H2 hR=>?_) (fun v H2 hR=>?_)
 rotate_left
 ·cases hR.1
 obtain ⟨e,rfl⟩:=hR
 cases e
 simp [GH.add_obj,GH.add_next,GH.add_set]
 refine ⟨by omega,?_⟩
 obtain ⟨H2,hH2⟩:∃ H2,((H.add (GO.map ckEs)).add (GO.box [LV.d (DV.k (Value.map none))])).set (H.next+1) (GO.box [LV.gm H.next])=H2:=⟨_,rfl⟩
 have n2:H2.next=H.next+2:=by rw [<- hH2];rfl
 have o0:H2.obj H.next=some (.map ckEs):=by rw [<- hH2];simp [GH.set_obj,GH.add_obj,GH.add_next]
 have o1:H2.obj (H.next+1)=some (.box [.gm H.next]):=by rw [<- hH2];simp [GH.set_obj,GH.add_obj,GH.add_next]
 have hlo:∀ m,m < H.next->H2.obj m=H.obj m:=fun m hm=>by
  rw [<- hH2,GH.set_obj,if_neg (by omega),GH.add_obj,GH.add_next,if_neg (by omega),GH.add_obj,if_neg (by omega)]
 rw [hH2]
 clear hH2
 refine EC.afun (hist_in _ _ _) ?_
 have hdr:Drop H H2 H:=Drop_same (by omega) hlo hw.none
 cases h1:inB srcs 1 4 with
 | false =>
  simp
  exact fun hz=>⟨hdr,by simp [plainB,h1]⟩
 | true =>
  by_cases h2:l.length<=60
  rotate_left
  ·have h2':¬ ((l.length:Int)<=60):=by omega
   simp [h2',h2]
   exact fun hz=>⟨hdr,by simp [plainB,h2]⟩
  ·have h2':((l.length:Int)<=60):=by omega
   simp [h2',h2]
   have hs:0<=srcs/\srcs<=4:=by simp [inB] at h1;omega
   have hcf:=news_ContainsFunc l (fun n=>!goodB n srcs) 215 [.gp (H.next+1) 0,.ip [lvI srcs] 0] H2 (by simp [LV.nb,nbs];omega) fun n hn=>hist_plain1 n srcs (H.next+1) H.next H2 o1 o0 hs
   simp at hcf
   refine ⟨by omega,EC.of hcf (fun v H3 hR=>?_) (fun v H3 hR=>?_)⟩
   ·obtain ⟨e,rfl⟩:=hR
    cases e
    simp
    exact fun hz=>⟨hdr,by simp [plainB,h1,h2]⟩
   ·cases hR.1
end Go.Aft
end
section
set_option maxRecDepth 20000
namespace Go.Aft
open Go.Proofs.Tryz
theorem hist_of (n:News):AFun prog 216 [lv (rNews n)] (.agg [lvI n.src,lvI n.id]):=by
 refine AFun.body (cxK_ok (p:=kds [1] [] [])) func216 rfl call216 (by rw [ntmps216];simp) rfl fun _ H=>?_
 simp [ntmps216,results216,rNews,rRec]
def clashV (o:Option (Nat × Nat)):LV:=match o with
 | some (i,j)=>.tup [lvI i,lvI j,.d (.k (.bool true))]
 | none=>.tup [lvI 0,lvI 0,.d (.k (.bool false))]
theorem clashAt_eq {l:List News} {k:Nat} (h:k < l.length):clashAt l k=(l.take k).findIdx? fun a=>clashB a l[k]:=by
 simp [clashAt,List.getElem?_eq_getElem h]
theorem clashAt_no {l:List News} {k:Nat} (h:k < l.length) (hn:∀ j (hj:j < k),clashB l[j] l[k]=false):clashAt l k=none:=by
 rw [clashAt_eq h,List.findIdx?_eq_none_iff]
 intro x hx
 obtain ⟨j,hj,rfl⟩:=List.mem_iff_getElem.1 hx
 simp only [List.length_take] at hj
 rw [List.getElem_take]
 exact hn j (by omega)
theorem clashAt_yes {l:List News} {k i:Nat} (h:k < l.length) (hi:i < k) (hy:clashB l[i] l[k]=true) (hn:∀ j (hj:j < i),clashB l[j] l[k]=false):clashAt l k=some i:=by
 rw [clashAt_eq h,List.findIdx?_eq_some_iff_getElem]
 refine ⟨by simp;omega,by rw [List.getElem_take];exact hy,fun j hj=>?_⟩
 rw [List.getElem_take,hn j hj];simp
theorem hist_clash (l:List News):AFun prog 174 [sl (l.map rNews)] (clashV (clashM l)):=by
 have cc:=cxS_ok (p:=kds [] [] [])
 refine AFun.bodyW (cxS_ok (p:=kds [] [] [])) func174 rfl call174 (by rw [ntmps174];simp) rfl fun hf H=>?_
 simp [ntmps174,results174] at hf |-
 refine AW.seq cc ?_
 simp
 refine AW.scope cc ?_
 simp
 refine AW.loopS cc (fun k:Nat=>⟨[(0,.d (.sl (l.map rNews))),(2,lvI 0),(3,lvI 0),(4,.d (.k (.bool false))),(9,.d (.sl (l.map rNews))),(10,lvI l.length),(11,lvI k)],[],H⟩) (fun k=>l.length - k)
  (fun k=>k<=l.length/\∀ j,j < k->clashAt l j=none) 0 ⟨by simp,by simp⟩ ?_
 rintro k ⟨hk,hI⟩
 simp
 refine ⟨fun h=>?_,fun h=>?_⟩
 ·simp [h,List.getElem?_eq_getElem h,rNews,rRec]
  have hkl:k<=l.length:=by omega
  have hmin:min k l.length=k:=by omega
  refine ⟨fun h3=>?_,fun h3=>⟨hkl,?_⟩⟩
  ·refine NX.go (k+1) (Nat.sub_lt_sub_left h (Nat.lt_succ_self k)) ⟨h,fun j hj=>?_⟩ (by simp [wrap_succ h hf.1])
   by_cases z:j=k
   ·subst z;exact clashAt_no h fun i hi=>by simp [clashB,h3]
   ·exact hI j (by omega)
  ·refine AW.loopS cc (fun i:Nat=>⟨[(0,.d (.sl (l.map rNews))),(2,lvI 0),(3,lvI 0),(4,.d (.k (.bool false))),(5,lvI k),(6,.lp 6 0),(9,.d (.sl (l.map rNews))),(10,lvI l.length),(11,lvI k),(21,.d (.sl ((l.take k).map rNews))),(22,lvI k),(23,lvI i)],[(6,(rNews l[k]).map .d)],H⟩) (fun i=>k - i)
    (fun i=>i<=k/\∀ j (hj:j < i) (hjk:j < k),clashB l[j] l[k]=false) 0 ⟨⟨by simp,by simp⟩,by simp [rNews,rRec,hmin]⟩ ?_
   rintro i ⟨hi,hJ⟩
   simp [rNews,rRec]
   refine ⟨fun hik=>?_,fun hik=>?_⟩
   ·have hil:i < l.length:=by omega
    have hit:i < (l.take k).length:=by simp;omega
    simp [hik,hil,hit,hmin,List.getElem?_eq_getElem hil,rNews,rRec]
    have oi:=hist_of l[i]
    have ok:=hist_of l[k]
    simp [rNews,rRec] at oi ok
    refine AW.draw cc [(5,.n),(7,.n)] (.q 0<|.q 1<|.q 2<|.q 3<|.q 4<|.q 5<|.q 6<|.q 7<|.q 8<|.q 9<|.q 10<|.q 11<|.q 13<|.q 12<|.q 14<|.q 15<|.q 16<|.q 17<|.q 18<|.q 19<|.q 20<|.q 21<|.done) (by kernel_rfl) ?_
    generalize ha:l[i]=a at oi |-
    generalize hb:l[k]=b at ok |-
    simp [rNews,rRec]
    refine FCg.afun (fun _=>oi) ?_
    simp
    refine FCg.afun (fun _=>ok) ?_
    simp
    have h3b:¬ b.do_=3:=by rw [<- hb];exact h3
    have hne:a=b ↔ a.do_=b.do_/\a.src=b.src/\a.id=b.id/\a.ver=b.ver/\a.rec_.at_=b.rec_.at_/\a.rec_.key=b.rec_.key/\a.rec_.val=b.rec_.val:=by
     obtain ⟨d0,s0,i0,v0,⟨x,y,z⟩⟩:=a
     obtain ⟨d1,s1,i1,v1,⟨x1,y1,z1⟩⟩:=b
     simp
    refine ⟨fun q1 q2 q3 q4 q5=>?_,fun q=>?_⟩
    ·have hc:clashB l[i] l[k]=true:=by
      rw [ha,hb,clashB,decide_eq_true_eq]
      refine ⟨q1,h3b,q2,q3,q4,fun e=>?_⟩
      have:=hne.1 e
      omega
     have:clashM l=some (i,k):=clashM_some h (fun j hj=>hI j hj) (clashAt_yes h hik hc fun j hj=>hJ j hj (by omega))
     rw [this];simp [clashV,LV.nb,nbs]
    ·refine NX.go (i+1) (Nat.sub_lt_sub_left hik (Nat.lt_succ_self i)) ⟨hik,fun j hj hjk=>?_⟩ (by simp [rNews,rRec,wrap_succ hil hf.1,hb])
     by_cases z:j=i
     ·subst z
      rw [ha,clashB,decide_eq_false_iff_not]
      rintro ⟨q1,_,q2,q3,q4,q5⟩
      exact q5 (hne.2 (q q1 q2 q3 q4))
     ·have:=hJ j (by omega) hjk
      rw [hb] at this;exact this
   ·have:i=k:=by omega
    subst this
    refine NX.go (i+1) (Nat.sub_lt_sub_left h (Nat.lt_succ_self i)) ⟨h,fun j hj=>?_⟩ (by simp [wrap_succ h hf.1])
    by_cases z:j=i
    ·subst z;exact clashAt_no h fun i hi=>hJ i hi hi
    ·exact hI j (by omega)
 ·have:clashM l=none:=clashM_none fun j hj=>hI j (by omega)
  rw [this];simp [clashV,LV.nb,nbs]
def formedB (l:List News) (srcs:Int):Bool:=plainB l srcs && decide (clashM l=none)
theorem hist_formed (l:List News) (srcs:Int):AFun prog 131 [sl (l.map rNews),lvI srcs] (.d (.k (.bool (formedB l srcs)))):=by
 refine AFun.body cx0_ok func131 rfl call131 (by rw [ntmps131];simp) rfl fun hf H=>?_
 have h1:=hist_plain l srcs
 have h2:=hist_clash l
 simp at h1 h2
 simp [ntmps131,results131]
 refine EC.afun h1 ?_
 cases hp:plainB l srcs with
 | false=>simp [formedB,hp]
 | true =>
  simp
  refine EC.afun h2 ?_
  cases hc:clashM l with
  | none=>simp [clashV,formedB,hp,hc]
  | some ij=>simp [clashV,formedB,hp,hc]
theorem hist_Check (l:List News) (srcs:Int):AFun prog 97 [sl (l.map rNews),lvI srcs] (lvI (if formedB l srcs=true then 0 else 2)):=by
 refine AFun.body cx0_ok func97 rfl call97 (by rw [ntmps97];simp) rfl fun hf H=>?_
 have h1:=hist_formed l srcs
 simp at h1
 simp [ntmps97,results97]
 refine EC.afun h1 ?_
 cases hp:formedB l srcs <;> simp
end Go.Aft
end
section
set_option maxRecDepth 20000
namespace Go.Aft
open Go.Proofs.Tryz
def kk (src id:Int):Value:=.agg #[.int .i64 src,.int .i64 id]
structure MapN (es:List (Value × LV)) (l:List News):Prop where
 get:∀ src id:Int,mfind (kk src id) es=(lastM l src id).map fun n=>lv (rNews n)
 key:∀ (a:Value) (b:LV),(a,b) ∈ es->(KK.ag [.int .i64,.int .i64]).has a=true
 nb:∀ n,nbs n (es.map (·.2))
 nd:(es.map (·.1)).Nodup
theorem kEq_kk {a b c d:Int}:kEq (kk a b) (kk c d)=decide (a=c/\b=d):=by
 simp [kEq,kk,allEq,scEq];rw [Bool.eq_iff_iff];simp
theorem key_kk {a:Value} (h:(KK.ag [.int .i64,.int .i64]).has a=true):∃ s i,a=kk s i:=by
 cases a <;> simp only [KK.has,Bool.false_eq_true] at h
 rename_i vs
 obtain ⟨x,us,e1,h⟩:=hasAll_int h
 obtain ⟨y,us',e2,h⟩:=hasAll_int h
 have:=hasAll_nil h;subst this;subst e2
 refine ⟨x,y,?_⟩
 rw [kk];congr 1
 apply Array.toList_inj.1
 rw [e1]
theorem mfind_put:∀ (es:List (Value × LV)) (v:LV) (s i src id:Int),(∀ (a:Value) (b:LV),(a,b) ∈ es->(KK.ag [.int .i64,.int .i64]).has a=true)->mfind (kk src id) (mput (kk s i) v es)=if src=s/\id=i then some v else mfind (kk src id) es
 | [],v,s,i,src,id,_=>by simp [mput,mfind,kEq_kk]
 | (a,b) :: es,v,s,i,src,id,h=>by
  obtain ⟨s',i',rfl⟩:=key_kk (h a b (by simp))
  have ih:=mfind_put es v s i src id fun a b hab=>h a b (List.mem_cons_of_mem _ hab)
  simp only [mput,kEq_kk]
  by_cases e:s=s'/\i=i'
  ·obtain ⟨rfl,rfl⟩:=e
   simp only [and_self,decide_true,if_true,mfind,kEq_kk]
   by_cases e2:src=s/\id=i
   ·simp [e2]
   ·simp [e2]
  ·simp only [e,decide_false,Bool.false_eq_true,if_false,mfind,kEq_kk,ih]
   by_cases e2:src=s'/\id=i'
   ·obtain ⟨rfl,rfl⟩:=e2
    have:¬ (src=s/\id=i):=fun q=>e ⟨q.1.symm,q.2.symm⟩
    simp [this]
   ·simp [e2]
theorem mput_key (v:LV) (s i:Int):∀ (es:List (Value × LV)),(∀ (a:Value) (b:LV),(a,b) ∈ es->(KK.ag [.int .i64,.int .i64]).has a=true)->∀ (a:Value) (b:LV),(a,b) ∈ mput (kk s i) v es->(KK.ag [.int .i64,.int .i64]).has a=true
 | [],_,a,b,hab=>by
  simp only [mput,List.mem_singleton,Prod.mk.injEq] at hab
  rw [hab.1];rfl
 | (c,d) :: es,h,a,b,hab=>by
  simp only [mput] at hab
  split at hab
  ·rcases List.mem_cons.1 hab with q | q
   ·cases q;rfl
   ·exact h a b (List.mem_cons_of_mem _ q)
  ·rcases List.mem_cons.1 hab with q | q
   ·rw [show a=c from (Prod.mk.inj q).1];exact h c d (List.mem_cons_self ..)
   ·exact mput_key v s i es (fun a b hab=>h a b (List.mem_cons_of_mem _ hab)) a b q
theorem mput_nb (k:Value) (v:LV) (n:Nat) (hv:v.nb n):∀ (es:List (Value × LV)),nbs n (es.map (·.2))->nbs n ((mput k v es).map (·.2))
 | [],_=>by simp [mput,nbs,hv]
 | (c,d) :: es,h=>by
  simp only [List.map_cons,nbs] at h
  simp only [mput]
  split
  ·simp only [List.map_cons,nbs];exact ⟨hv,h.2⟩
  ·simp only [List.map_cons,nbs];exact ⟨h.1,mput_nb k v n hv es h.2⟩
theorem mput_keys (v:LV) (s i:Int):∀ (es:List (Value × LV)),(∀ (a:Value) (b:LV),(a,b) ∈ es->(KK.ag [.int .i64,.int .i64]).has a=true)->(mput (kk s i) v es).map (·.1)=es.map (·.1) \/ (mput (kk s i) v es).map (·.1)=es.map (·.1) ++ [kk s i]/\kk s i ∉ es.map (·.1)
 | [],_=>.inr ⟨rfl,by simp⟩
 | (a,b) :: es,h=>by
  obtain ⟨s',i',rfl⟩:=key_kk (h a b (by simp))
  simp only [mput,kEq_kk]
  by_cases e:s=s'/\i=i'
  ·obtain ⟨rfl,rfl⟩:=e
   left;simp
  ·simp only [e,decide_false,Bool.false_eq_true,if_false,List.map_cons]
   rcases mput_keys v s i es (fun a b hab=>h a b (List.mem_cons_of_mem _ hab)) with q | ⟨q1,q2⟩
   ·left;rw [q]
   ·right
    refine ⟨by rw [q1];rfl,fun q=>?_⟩
    rcases List.mem_cons.1 q with q | q
    ·simp [kk] at q;exact e q
    ·exact q2 q
theorem mput_nd (v:LV) (s i:Int) (es:List (Value × LV)) (h:∀ (a:Value) (b:LV),(a,b) ∈ es->(KK.ag [.int .i64,.int .i64]).has a=true) (hn:(es.map (·.1)).Nodup):((mput (kk s i) v es).map (·.1)).Nodup:=by
 rcases mput_keys v s i es h with q | ⟨q1,q2⟩
 ·rw [q];exact hn
 ·rw [q1,List.nodup_append]
  exact ⟨hn,by simp,fun a ha b hb=>by simp at hb;subst hb;intro e;subst e;exact q2 ha⟩
theorem MapN.nil:MapN [] []:=MapN.mk (fun _ _=>rfl) (fun _ _ h=>absurd h List.not_mem_nil) (fun _=>trivial) (by simp)
theorem MapN.put {es:List (Value × LV)} {l:List News} (h:MapN es l) {n:News} (h3:n.do_ ≠ 3) (hv:∀ w,lastM l n.src n.id=some w->w.ver < n.ver):MapN (mput (kk n.src n.id) (lv (rNews n)) es) (l ++ [n]):=by
 refine ⟨fun src id=>?_,mput_key _ _ _ _ h.key,fun m=>mput_nb _ _ _ (by simp [rNews,rRec,LV.nb,nbs]) _ (h.nb m),mput_nd _ _ _ _ h.key h.nd⟩
 rw [mfind_put _ _ _ _ _ _ h.key,lastM_snoc,hearL]
 by_cases e:src=n.src/\id=n.id
 ·obtain ⟨rfl,rfl⟩:=e
  rw [if_pos ⟨rfl,rfl⟩,if_pos ⟨h3,rfl,rfl,hv⟩];rfl
 ·rw [if_neg e,if_neg (fun q=>e ⟨q.2.1.symm,q.2.2.1.symm⟩)]
  exact h.get src id
theorem MapN.keep {es:List (Value × LV)} {l:List News} (h:MapN es l) {n:News} (hk:n.do_=3 \/ ∃ w,lastM l n.src n.id=some w/\¬ w.ver < n.ver):MapN es (l ++ [n]):=by
 refine ⟨fun src id=>?_,h.key,h.nb,h.nd⟩
 rw [h.get,lastM_snoc,hearL]
 split
 ·rename_i q
  rcases hk with q2 | ⟨w,q2,q3⟩
  ·exact absurd q2 q.1
  ·exfalso
   obtain ⟨_,rfl,rfl,q4⟩:=q
   exact q3 (q4 w q2)
 ·rfl
def heardO (m:Nat) (l:List News):GO:=.box [.gm m,lvI (markM l 0),lvI (markM l 1),lvI (markM l 2),lvI (markM l 3)]
theorem hist_hear (l:List News) (n:News) (m b:Nat) (es:List (Value × LV)) (H:GH) (hm:MapN es l) (ho:H.obj b=some (heardO m l)) (he:H.obj m=some (.map es)) (hs:0<=n.src/\n.src<=3) :
  ECall prog 175 [.gp b 0,lv (rNews n)] H fun ce H'=>(∃ v,ce=.ret v)/\∃ es',MapN es' (l ++ [n])/\H'=(H.set m (.map es')).set b (heardO m (l ++ [n])):=by
 have cc:=cxS_ok (p:=kds [3] [] [])
 refine ECall.bodyNW (cxS_ok (p:=kds [3] [] [])) func175 rfl call175 (by rw [ntmps175];simp) rfl fun hf hw=>?_
 have hne:b ≠ m:=fun e=>by rw [e,he] at ho;cases ho
 have lb:=hw.lt ho
 have lm:=hw.lt he
 have hof:=hist_of n
 simp [rNews,rRec] at hof
 simp [ntmps175,results175,rNews,rRec] at hf |-
 refine AW.seq cc ?_
 simp
 refine AW.seq cc ?_
 simp
 refine ⟨fun h3=>?_,fun h3=>?_⟩
 ·refine AW.ev cc ?_
  simp
  refine AW.draw cc [] (.q 0<|.q 1<|.q 3<|.q 4<|.q 6<|.q 7<|.q 10<|.q 11<|.q 14<|.q 15<|.q 2<|.q 5<|.q 8<|.q 9<|.q 12<|.q 13<|.q 16<|.f<|.one 17<|.done) (by kernel_rfl) ?_
  have hs4:n.src=0 \/ n.src=1 \/ n.src=2 \/ n.src=3:=by omega
  rcases hs4 with e | e | e | e
  all_goals
   simp [ho,heardO,rNews,rRec,e]
   refine fun hz=>⟨_,hz.drop (Nat.le_refl _),es,hm.keep (.inl h3),?_⟩
   rw [GH.set_id he];simp [markM_snoc,hearM,h3,e]
 ·refine AW.seq cc ?_
  simp
  refine AW.draw cc [(5,.n)] (.q 0<|.q 1<|.q 2<|.q 3<|.q 4<|.q 5<|.q 6<|.q 7<|.q 8<|.q 9<|.f<|.one 10<|.f<|.one 11<|.q 12<|.done) (by kernel_rfl) ?_
  simp [ho,heardO,rNews,rRec]
  refine FC.afun hof ?_
  have hg:=hm.get n.src n.id
  have hkey:(∀ (a:Value) (b:LV),(a,b) ∈ es->(KK.ag [Sc.int IntKind.i64,Sc.int IntKind.i64]).has a=true)=True:=eq_true hm.key
  have hk1:(KK.ag [Sc.int IntKind.i64,Sc.int IntKind.i64]).has (Value.agg #[Value.int IntKind.i64 n.src,Value.int IntKind.i64 n.id])=true:=rfl
  simp only [kk] at hg
  have hmk:∀ i,markM (l ++ [n]) i=markM l i:=fun i=>by rw [markM_snoc,hearM,if_neg (fun q=>h3 q.1)]
  have hh:heardO m (l ++ [n])=heardO m l:=by simp only [heardO,hmk]
  have hid:∀ o,(H.set m o).set b (heardO m (l ++ [n]))=H.set m o:=fun o=>GH.set_id (by rw [GH.set_obj,if_neg hne,hh];exact ho)
  cases hl:lastM l n.src n.id with
  | none =>
   rw [hl] at hg
   simp [he,hg,hkey,hk1]
   refine AW.ev cc ?_
   simp
   refine AW.draw cc [(5,.n)] (.q 0<|.q 1<|.q 2<|.q 3<|.q 4<|.q 5<|.q 6<|.f<|.one 7<|.done) (by kernel_rfl) ?_
   simp [ho,heardO,rNews,rRec]
   refine FC.afun hof ?_
   simp [he,hkey,hk1,LV.nb,nbs]
   refine fun hz=>⟨_,hz.drop (Nat.le_refl _),_,hm.put h3 (fun w hw=>by rw [hl] at hw;cases hw),?_⟩
   rw [hid];simp [kk,rNews,rRec]
  | some w =>
   rw [hl] at hg
   simp [he,hg,hkey,hk1,rNews,rRec]
   refine AW.ev cc ?_
   simp
   refine ⟨fun q=>?_,fun q=>?_⟩
   ·refine AW.draw cc [(5,.n)] (.q 0<|.q 1<|.q 2<|.q 3<|.q 4<|.q 5<|.q 6<|.f<|.one 7<|.done) (by kernel_rfl) ?_
    simp [ho,heardO,rNews,rRec]
    refine FC.afun hof ?_
    simp [he,hkey,hk1,LV.nb,nbs]
    refine fun hz=>⟨_,hz.drop (Nat.le_refl _),_,hm.put h3 (fun w' hw=>by rw [hl] at hw;cases hw;omega),?_⟩
    rw [hid];simp [kk,rNews,rRec]
   ·refine fun hz=>⟨_,hz.drop (Nat.le_refl _),es,hm.keep (.inr ⟨w,hl,by omega⟩),?_⟩
    rw [hid,GH.set_id he]
end Go.Aft
end
section
set_option maxRecDepth 20000
namespace Go.Aft
open Go.Proofs.Tryz
theorem hist_stands (l:List News) (src id:Int) (m b:Nat) (es:List (Value × LV)) (H:GH) (hm:MapN es l) (ho:H.obj b=some (heardO m l)) (he:H.obj m=some (.map es)) :
  ECall prog 133 [.gp b 0,.agg [lvI src,lvI id]] H fun ce H'=>ce=.ret (sl ((oneM l src id).map rEvent))/\H'=H:=by
 have cc:=cxS_ok (p:=kds [3] [] [])
 refine ECall.bodyNW (cxS_ok (p:=kds [3] [] [])) func133 rfl call133 (by rw [ntmps133];simp) rfl fun hf hw=>?_
 have lb:=hw.lt ho
 have lm:=hw.lt he
 simp [ntmps133,results133] at hf |-
 refine AW.seq cc ?_
 simp
 refine AW.seq cc ?_
 simp
 refine AW.draw cc [] (.q 0<|.q 1<|.q 2<|.q 3<|.q 4<|.q 5<|.q 6<|.q 7<|.q 8<|.f<|.one 9<|.f<|.one 10<|.q 11<|.done) (by kernel_rfl) ?_
 have hg:=hm.get src id
 have hkey:(∀ (a:Value) (b:LV),(a,b) ∈ es->(KK.ag [Sc.int IntKind.i64,Sc.int IntKind.i64]).has a=true)=True:=eq_true hm.key
 have hk1:(KK.ag [Sc.int IntKind.i64,Sc.int IntKind.i64]).has (Value.agg #[Value.int IntKind.i64 src,Value.int IntKind.i64 id])=true:=rfl
 simp only [kk] at hg
 cases hl:lastM l src id with
 | none =>
  rw [hl] at hg
  simp [ho,heardO,he,hg,hkey,hk1]
  refine AW.ev cc ?_
  simp [oneM,hl]
  exact fun hz=>hz.drop (Nat.le_refl _)
 | some w =>
  rw [hl] at hg
  simp [ho,heardO,he,hg,hkey,hk1,rNews,rRec]
  refine ⟨fun h1 hz=>⟨hz.drop (Nat.le_refl _),by simp [oneM,hl,h1,rEvent,rRec]⟩,fun h1=>?_⟩
  refine AW.ev cc ?_
  simp [oneM,hl,h1]
  exact fun hz=>hz.drop (Nat.le_refl _)
theorem GH.ext' {A B:GH} (h1:A.next=B.next) (h2:∀ m,A.obj m=B.obj m):A=B:=by
 obtain ⟨a,b⟩:=A
 obtain ⟨c,d⟩:=B
 have:a=c:=funext h2
 simp only at h1;subst h1;subst this;rfl
theorem GH.add2_set {H:GH} {a b a' b':GO}:(((H.add a).add b).set H.next a').set (H.next+1) b'=(H.add a').add b':=by
 refine GH.ext' (by rfl) fun m=>?_
 simp only [GH.set_obj,GH.add_obj,GH.add_next]
 by_cases e1:m=H.next+1
 ·simp [e1]
 ·by_cases e2:m=H.next
  ·subst e2;simp
  ·simp [e1,e2]
theorem hist_all (l:List News) (hs:∀ n ∈ l,0<=n.src/\n.src<=3) (H:GH) :
  ECall prog 132 [sl (l.map rNews)] H fun ce H'=>ce=.ret (.gp (H.next+1) 0)/\∃ es,MapN es l/\H'=(H.add (.map es)).add (heardO H.next l):=by
 have cc:=cxS_ok (p:=kds [] [8] [])
 refine ECall.bodyNW (cxS_ok (p:=kds [] [8] [])) func132 rfl call132 (by rw [ntmps132];simp) rfl fun hf hw=>?_
 simp [ntmps132,results132] at hf |-
 refine AW.seq cc ?_
 simp
 refine AW.seq cc ?_
 simp [GH.add_next]
 refine AW.ev cc ?_
 simp
 refine AW.loopS cc (fun a:Nat × List (Value × LV)=>⟨[(3,.gp (H.next+1) 0),(9,.d (.sl (l.map rNews))),(10,lvI l.length),(11,lvI a.1)],[],(H.add (.map a.2)).add (heardO H.next (l.take a.1))⟩) (fun a=>l.length - a.1)
  (fun a=>a.1<=l.length/\MapN a.2 (l.take a.1)) (0,[]) ⟨⟨by simp,by simpa using MapN.nil⟩,by simp [heardO,markM,GH.add_next]⟩ ?_
 rintro ⟨i,es⟩ ⟨hi,hm⟩
 simp only at hi hm
 have o1:((H.add (.map es)).add (heardO H.next (l.take i))).obj (H.next+1)=some (heardO H.next (l.take i)):=by simp [GH.add_obj,GH.add_next]
 have o0:((H.add (.map es)).add (heardO H.next (l.take i))).obj H.next=some (.map es):=by simp [GH.add_obj,GH.add_next]
 simp
 refine ⟨fun h=>?_,fun h=>?_⟩
 ·have hh:=hist_hear (l.take i) l[i] H.next (H.next+1) es _ hm o1 o0 (hs _ (List.getElem_mem h))
  simp [rNews,rRec] at hh
  simp [h,List.getElem?_eq_getElem h,rNews,rRec]
  refine ⟨by simp [GH.add_next],EC.of hh (fun v H2 hR=>?_) (fun v H2 hR=>?_)⟩
  ·obtain ⟨_,es',hm',rfl⟩:=hR
   rw [GH.add2_set]
   simp
   exact NX.go (i+1,es') (Nat.sub_lt_sub_left h (Nat.lt_succ_self i)) ⟨h,hm'⟩ (by simp [wrap_succ h hf.1])
  ·obtain ⟨⟨_,q⟩,_⟩:=hR;cases q
 ·have e:i=l.length:=by omega
  subst e
  rw [List.take_length] at hm
  refine fun hz=>⟨_,hz.drop (by simp [GH.add_next];omega),by simp [GH.add_next],es,hm,by rw [List.take_length]⟩
theorem events_Equal (a b:List Event):AFun prog 252 [sl (a.map rEvent),sl (b.map rEvent)] (.d (.k (.bool (decide (a=b))))):=by
 have cc:=cxS_ok (p:=kds [] [] [])
 refine AFun.body (cxS_ok (p:=kds [] [] [])) func252 rfl call252 (by rw [ntmps252];simp) rfl fun hf H=>?_
 simp [ntmps252,results252] at hf |-
 refine ⟨fun hl=>?_,fun hl=>?_⟩
 ·intro e
  subst e;exact hl rfl
 ·refine AW.loopS cc (fun i:Nat=>⟨[(0,.d (.sl (a.map rEvent))),(1,.d (.sl (b.map rEvent))),(12,lvI a.length),(13,lvI i)],[],H⟩) (fun i=>a.length - i) (fun i=>i<=a.length/\a.take i=b.take i) 0 ⟨by simp,by simp⟩ ?_
  rintro i ⟨hi,hI⟩
  simp
  refine ⟨fun h=>?_,fun h=>?_⟩
  ·have h':i < b.length:=by omega
   refine AW.draw cc [] (.q 0<|.q 1<|.q 2<|.q 4<|.q 5<|.q 6<|.q 3<|.q 7<|.q 8<|.done) (by kernel_rfl) ?_
   simp [h,h',List.getElem?_eq_getElem h,List.getElem?_eq_getElem h',rEvent,rRec]
   refine ⟨fun q e=>by subst e;simp at q,fun q1 q2 q3 q4 q5=>?_⟩
   refine NX.go (i+1) (Nat.sub_lt_sub_left h (Nat.lt_succ_self i)) ⟨h,?_⟩ (by simp [wrap_succ h hf.1.1])
   rw [List.take_add_one,List.take_add_one,hI,List.getElem?_eq_getElem h,List.getElem?_eq_getElem h']
   congr 2
   generalize a[i]=x at *
   generalize b[i]=y at *
   obtain ⟨x1,x2,⟨x3,x4,x5⟩⟩:=x
   obtain ⟨y1,y2,⟨y3,y4,y5⟩⟩:=y
   simp only at q1 q2 q3 q4 q5
   subst q1 q2 q3 q4 q5;rfl
  ·have e:i=a.length:=by omega
   subst e
   rw [List.take_length,List.take_of_length_le (by omega)] at hI
   exact hI
end Go.Aft
end
