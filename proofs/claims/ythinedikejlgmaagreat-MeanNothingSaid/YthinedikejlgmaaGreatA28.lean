import Derived.Test.YthinedikejlgmaaGreatA27
set_option linter.all false
section
set_option maxRecDepth 20000
namespace Go.Aft
open Go.Proofs.Tryz
theorem indexFunc_eff (l:List Exp) (f:FuncId) (cap:List LV) (H:GH) (Kp:Nat->GH->Prop) (Sp:GH->Prop) (Pp:LV->GH->Prop)
  (hK:∀ j H',Kp j H'->H.next<=H'.next) (hS:∀ H',Sp H'->H.next<=H'.next) (hP:∀ x H',Pp x H'->H.next<=H'.next/\x.nb H'.next) (hcap:nbs H.next cap)
  (hc:∀ (j:Nat) (h:j < l.length) (H':GH),Kp j H'->ECall prog f ([lv (rExp l[j])] ++ cap) H' fun ce H2=>match ce with
   | .ret v=>v=bool false/\Kp (j+1) H2 \/ v=bool true/\Sp H2
   | .pan x=>Pp x H2) (h0:Kp 0 H) :
  ECall prog 213 [sl (l.map rExp),.fn (.func f) [] cap] H fun ce H'=>match ce with
   | .ret v=>v=lvI (-1)/\Kp l.length H' \/ (∃ q:Nat,v=lvI q)/\Sp H'
   | .pan x=>Pp x H':=by
 have cc:=cx0_ok
 refine ECall.bodyN cx0_ok func213 rfl call213 (by rw [ntmps213];simp) rfl fun hf hw=>?_
 simp [ntmps213,results213] at hf |-
 refine AW.loopS cc (fun a:Nat × GH=>⟨[(0,.d (.sl (l.map rExp))),(1,.fn (.func f) [] cap),(7,lvI l.length),(8,lvI a.1)],[],a.2⟩) (fun a=>l.length - a.1) (fun a=>a.1<=l.length/\Kp a.1 a.2) (0,H) ⟨⟨by simp,h0⟩,by simp [LV.only,nbs_only _ hcap,onlys]⟩ ?_
 rintro ⟨i,H'⟩ ⟨hi,hk⟩
 simp only at hi hk
 simp
 have hnx:=hK _ _ hk
 refine ⟨fun h=>?_,fun h=>?_⟩
 ·have hcall:=hc i h H' hk
  simp [rExp_eq] at hcall
  simp [h,List.getElem?_eq_getElem h,rExp_eq]
  refine ⟨nbs_mono hnx _ hcap,EC.of hcall (fun v H2 hR=>?_) (fun v H2 hR=>?_)⟩
  ·rcases hR with ⟨rfl,hR⟩ | ⟨rfl,hR⟩
   ·simp
    exact NX.go (i+1,H2) (by simp;omega) ⟨h,hR⟩ (by simp [wrap_succ h hf.1.1,nbs_only _ hcap])
   ·simp
    exact fun hz=>⟨H2,hz.drop (hS _ hR),⟨i,rfl⟩,hR⟩
  ·simp
   exact fun hz=>⟨H2,hz.drop (hP _ _ hR).1,(hP _ _ hR).2,hR⟩
 ·have:i=l.length:=by omega
  subst this
  exact fun hz=>⟨H',hz.drop hnx,hk⟩
theorem containsFunc_eff (l:List Exp) (f:FuncId) (cap:List LV) (H:GH) (Kp:Nat->GH->Prop) (Sp:GH->Prop) (Pp:LV->GH->Prop)
  (hK:∀ j H',Kp j H'->H.next<=H'.next) (hS:∀ H',Sp H'->H.next<=H'.next) (hP:∀ x H',Pp x H'->H.next<=H'.next/\x.nb H'.next) (hcap:nbs H.next cap)
  (hc:∀ (j:Nat) (h:j < l.length) (H':GH),Kp j H'->ECall prog f ([lv (rExp l[j])] ++ cap) H' fun ce H2=>match ce with
   | .ret v=>v=bool false/\Kp (j+1) H2 \/ v=bool true/\Sp H2
   | .pan x=>Pp x H2) (h0:Kp 0 H) :
  ECall prog 166 [sl (l.map rExp),.fn (.func f) [] cap] H fun ce H'=>match ce with
   | .ret v=>v=bool false/\Kp l.length H' \/ v=bool true/\Sp H'
   | .pan x=>Pp x H':=by
 have cc:=cx0_ok
 refine ECall.bodyN cx0_ok func166 rfl call166 (by rw [ntmps166];simp) rfl fun hf hw=>?_
 simp [ntmps166,results166] at hf |-
 have hi:=indexFunc_eff l f cap H Kp Sp Pp hK hS hP hcap hc h0
 simp at hi
 refine ⟨by simp [LV.nb,nbs,hcap],EC.of hi (fun v H2 hR=>?_) (fun v H2 hR=>?_)⟩
 ·rcases hR with ⟨rfl,hR⟩ | ⟨⟨q,rfl⟩,hR⟩
  ·simp
   exact fun hz=>⟨H2,hz.drop (hK _ _ hR),hR⟩
  ·simp
   exact fun hz=>⟨H2,hz.drop (hS _ hR),hR⟩
 ·simp
  exact fun hz=>⟨H2,hz.drop (hP _ _ hR).1,(hP _ _ hR).2,hR⟩
theorem nb_mono {a b:Nat} (h:a<=b) {x:LV} (hx:x.nb a):x.nb b:=by
 have:=nbs_mono h [x] (by simp [nbs,hx])
 simpa [nbs] using this
theorem GO.nb_mono {a b:Nat} (h:a<=b) {o:GO} (ho:o.nb a):o.nb b:=by
 cases o with
 | box cs=>exact nbs_mono h _ ho
 | map es=>exact nbs_mono h _ ho
 | vec e g sz cells ex=>exact nbs_mono h _ ho
 | fz cs=>exact nbs_mono h _ ho
 | iter m s l k=>exact Nat.lt_of_lt_of_le ho h
 | loop f st pend env nt ps asn body d=>exact ⟨Nat.lt_of_lt_of_le ho.1 h,fun t=>Go.Aft.nb_mono h (ho.2 t)⟩
 | arr=>trivial
 | dfr=>trivial
theorem EYield.mono {P:Program} {n:Nat} {args:List LV} {H:GH} {R R':CE->GH->Prop} (h:EYield P n args H R) (hr:∀ e H',R e H'->R' e H'):EYield P n args H R':=by
 intro G w vs h1 h2 h3
 obtain ⟨fn,tmps,asn,body,q1,q2⟩:=h G w vs h1 h2 h3
 exact ⟨fn,tmps,asn,body,q1,RoundIn.mono q2 fun e w' ⟨ce,H',G',q,r⟩=>⟨ce,H',G',hr _ _ q,r⟩⟩
theorem EY.of {P:Program} {n:Nat} {args:List LV} {H:GH} {s:S} {dst:Option Nat} {K:KT} {Q:QT} {R:CE->GH->Prop} (h:EYield P n args H R) (hk:∀ v H',R (.ret v) H'->@AP K (({ s with H:=H' }:S).put dst v))
  (hp:∀ x H',R (.pan x) H'->Q.q (.pan x) { s with H:=H' }):@EY P n args H s dst K Q :=
 EYield.mono h fun ce H' hR=>by
  cases ce with
  | ret v=>exact hk v H' hR
  | pan x=>exact hp x H' hR
theorem allEs_append:∀ a b:List Exp,allEs (a ++ b)=allEs a ++ allEs b
 | [],b=>by simp [allEs]
 | x :: a,b=>by simp [allEs,allEs_append a b]
def walkC (n m:Nat):List LV:=[.ip [.yl n] 0,.gp m 0]
def walkF (n m:Nat):LV:=.fn (.func 165) [] (walkC n m)
def rowsE (e:Exp):List LV:=(allE e).map fun x=>lv (rExp x)
def rowsEs (l:List Exp):List LV:=(allEs l).map fun x=>lv (rExp x)
def WalkOk (n N m:Nat) (rows:List LV) (J:Nat->GH->Prop) (St:GH->Prop) (Pn:LV->GH->Prop) (f:FuncId) (cap:List LV) (neg:Bool) (e:Exp):Prop :=
 ∀ (i:Nat) (H:GH),H.obj m=some (.box [walkF n m])->N<=H.next->J i H->(∃ tl,rows.drop i=rowsE e ++ tl)->ECall prog f ([lv (rExp e)] ++ cap) H (iterR N J St Pn neg (i+(allE e).length) H)
theorem nodes_neg {n N m:Nat} {rows:List LV} {J:Nat->GH->Prop} {St:GH->Prop} {Pn:LV->GH->Prop} (hI:Iter prog n N rows J St Pn) {e:Exp} (hnm:n < N/\N<=m) (h:WalkOk n N m rows J St Pn 165 (walkC n m) false e):WalkOk n N m rows J St Pn 167 [.gp m 0] true e:=by
 intro i H hm hN hj ht
 have cc:=cxK_ok (p:=kds [2] [] [])
 refine ECall.bodyN (cxK_ok (p:=kds [2] [] [])) func167 rfl call167 (by rw [ntmps167];simp) rfl fun hf hw=>?_
 have hc:=h i H hm hN hj ht
 simp [rExp_eq,walkC] at hc
 have hlt:=hw.lt hm
 simp [ntmps167,results167,rExp_eq,hm,walkF,walkC]
 refine ⟨⟨by omega,hlt⟩,EC.of hc (fun v H2 hR=>?_) (fun v H2 hR=>?_)⟩
 ·obtain ⟨hs,hR⟩:=hR
  rcases hR with ⟨rfl,hR⟩ | ⟨rfl,hR⟩
  ·simp
   exact fun hz=>⟨H2,hz.drop (by rw [hs.next];exact Nat.le_refl _),hs,by simp [hR]⟩
  ·simp
   exact fun hz=>⟨H2,hz.drop (by rw [hs.next];exact Nat.le_refl _),hs,by simp [hR]⟩
 ·obtain ⟨hs,hR⟩:=hR
  have hnb:=hI.stP hR (fun _ _=>rfl) (by rw [hs.next];exact hN)
  simp
  exact fun hz=>⟨H2,hz.drop (by rw [hs.next];exact Nat.le_refl _),nb_mono (by rw [hs.next];exact hN) hnb.1,hs,hR⟩
theorem nodes_walk1 {n N m:Nat} {rows:List LV} {J:Nat->GH->Prop} {St:GH->Prop} {Pn:LV->GH->Prop} (hI:Iter prog n N rows J St Pn) (hnm:n < N/\N<=m) (op en fold:Int) (name:Str) (calcs:List Calc) (kids:List Exp)
  (ih:∀ k ∈ kids,WalkOk n N m rows J St Pn 165 (walkC n m) false k):WalkOk n N m rows J St Pn 165 (walkC n m) false (.mk op name en fold calcs kids):=by
 intro i H hm hN hj ht
 obtain ⟨tl,ht⟩:=ht
 have cc:=cxK_ok (p:=kds [3] [] [])
 have hrow:rows[i]?=some (lv (rExp (.mk op name en fold calcs kids))):=by
  have:(rows.drop i)[0]?=some (lv (rExp (.mk op name en fold calcs kids))):=by rw [ht];simp [rowsE,allE]
  rw [List.getElem?_drop] at this;simpa using this
 have ht1:rows.drop (i+1)=rowsEs kids ++ tl:=by
  rw [<- List.drop_drop,ht];simp [rowsE,rowsEs,allE]
 refine ECall.bodyN (cxK_ok (p:=kds [3] [] [])) func165 rfl call165 (by rw [ntmps165];simp [walkC]) rfl fun hf hw=>?_
 have hlt:=hw.lt hm
 have hy:=hI.step hrow hN hw hj
 simp [rExp_eq] at hy
 simp [ntmps165,results165,rExp_eq,walkC]
 refine EY.of hy (fun v H1 hR=>?_) (fun v H1 hR=>?_)
 rotate_left
 ·obtain ⟨hs,hR⟩:=hR
  have hnb:=hI.stP hR (fun _ _=>rfl) (by rw [hs.next];exact hN)
  simp
  exact fun hz=>⟨H1,hz.drop (by rw [hs.next];exact Nat.le_refl _),nb_mono (by rw [hs.next];exact hN) hnb.1,hs,hR⟩
 ·obtain ⟨hs,hR⟩:=hR
  rcases hR with ⟨rfl,hR⟩ | ⟨rfl,hR⟩
  ·simp
   have hN1:N<=H1.next:=by rw [hs.next];exact hN
   have hm1:H1.obj m=some (.box [walkF n m]):=by rw [hs.obj m hnm.2];exact hm
   have hcon:=containsFunc_eff kids 167 [.gp m 0] H1 (fun j H'=>GH.same N H1 H'/\J (i+1+(allEs (kids.take j)).length) H') (fun H'=>GH.same N H1 H'/\St H') (fun x H'=>GH.same N H1 H'/\Pn x H')
    (fun j H' q=>by rw [q.1.next];exact Nat.le_refl _) (fun H' q=>by rw [q.1.next];exact Nat.le_refl _)
    (fun x H' q=>⟨by rw [q.1.next];exact Nat.le_refl _,nb_mono (by rw [q.1.next];exact hN1) (hI.stP q.2 (fun _ _=>rfl) (by rw [q.1.next];exact hN1)).1⟩)
    (by simp [nbs,LV.nb,hs.next,hlt]) (fun j hj' H' q=>?_) ⟨GH.same.refl,by simpa [allEs] using hR⟩
   ·simp at hcon
    refine ⟨by rw [hs.next];exact hlt,EC.of hcon (fun v2 H2 hR2=>?_) (fun v2 H2 hR2=>?_)⟩
    ·rcases hR2 with ⟨rfl,hs2,hR2⟩ | ⟨rfl,hs2,hR2⟩
     ·have hsA:=hs.trans hs2
      simp
      refine fun hz=>⟨H2,hz.drop (by rw [hsA.next];exact Nat.le_refl _),hsA,?_⟩
      have e:i+(allE (.mk op name en fold calcs kids)).length=i+1+(allEs kids).length:=by simp [allE];omega
      rw [e];simp [hR2]
     ·have hsA:=hs.trans hs2
      simp
      exact fun hz=>⟨H2,hz.drop (by rw [hsA.next];exact Nat.le_refl _),hsA,by simp [hR2]⟩
    ·obtain ⟨hs2,hR2⟩:=hR2
     have hsA:=hs.trans hs2
     have hnb:=hI.stP hR2 (fun _ _=>rfl) (by rw [hsA.next];exact hN)
     simp
     exact fun hz=>⟨H2,hz.drop (by rw [hsA.next];exact Nat.le_refl _),nb_mono (by rw [hsA.next];exact hN) hnb.1,hsA,hR2⟩
   ·obtain ⟨qs,qj⟩:=q
    have hsplit:kids=kids.take j ++ (kids[j] :: kids.drop (j+1)):=by
     rw [<- List.drop_eq_getElem_cons hj',List.take_append_drop]
    have hall:allEs kids=allEs (kids.take j) ++ (allE kids[j] ++ allEs (kids.drop (j+1))):=by
     conv=>lhs;rw [hsplit]
     rw [allEs_append];simp only [allEs]
    have htk:allEs (kids.take (j+1))=allEs (kids.take j) ++ allE kids[j]:=by
     rw [List.take_add_one,List.getElem?_eq_getElem hj',allEs_append];simp [allEs]
    have hdj:rows.drop (i+1+(allEs (kids.take j)).length)=rowsE kids[j] ++ (rowsEs (kids.drop (j+1)) ++ tl):=by
     rw [<- List.drop_drop,ht1,rowsEs,hall,List.map_append,List.append_assoc]
     rw [List.drop_append_of_le_length (by simp),List.drop_eq_nil_of_le (by simp)]
     simp [rowsE,rowsEs]
    have hk:=nodes_neg hI hnm (ih kids[j] (List.getElem_mem hj')) (i+1+(allEs (kids.take j)).length) H' (by rw [qs.obj m hnm.2];exact hm1) (by rw [qs.next];exact hN1) qj ⟨_,hdj⟩
    refine hk.mono fun ce H2 hR2=>?_
    obtain ⟨s2,hR2⟩:=hR2
    cases ce with
    | ret v =>
     rcases hR2 with ⟨rfl,hR2⟩ | ⟨rfl,hR2⟩
     ·exact .inl ⟨rfl,qs.trans s2,by rw [htk,List.length_append,<- Nat.add_assoc];exact hR2⟩
     ·exact .inr ⟨rfl,qs.trans s2,hR2⟩
    | pan x=>exact ⟨qs.trans s2,hR2⟩
  ·simp
   exact fun hz=>⟨H1,hz.drop (by rw [hs.next];exact Nat.le_refl _),hs,by simp [hR]⟩
theorem nodes_walk {n N m:Nat} {rows:List LV} {J:Nat->GH->Prop} {St:GH->Prop} {Pn:LV->GH->Prop} (hI:Iter prog n N rows J St Pn) (hnm:n < N/\N<=m):∀ e:Exp,WalkOk n N m rows J St Pn 165 (walkC n m) false e
 | .mk op name en fold calcs kids=>nodes_walk1 hI hnm op en fold name calcs kids fun k hk=>nodes_walk hI hnm k
def nodesF (e:Exp):LV:=.fn (.func 164) [] [.ip ((rExp e).map .d) 0]
theorem term_nodes (e:Exp):AFun prog 98 [lv (rExp e)] (nodesF e):=by
 refine AFun.body (cxK_ok (p:=kds [1] [] [])) func98 rfl call98 (by rw [ntmps98];simp) rfl fun hf H=>?_
 simp [ntmps98,results98,rExp_eq,nodesF,LV.nb,nbs]
theorem nodes_all {n N:Nat} {e:Exp} {J:Nat->GH->Prop} {St:GH->Prop} {Pn:LV->GH->Prop} (hI:Iter prog n N (rowsE e) J St Pn) (hnN:n < N) (H:GH) (hN:N<=H.next) (hj:J 0 H) :
  ECall prog 164 [.yl n,.ip ((rExp e).map .d) 0] H fun ce H'=>GH.same N H H'/\(match ce with
   | .ret v=>J (allE e).length H' \/ St H'
   | .pan x=>Pn x H'):=by
 have cc:=cxK_ok (p:=kds [2] [3] [])
 refine ECall.bodyN (cxK_ok (p:=kds [2] [3] [])) func164 rfl call164 (by rw [ntmps164];simp) rfl fun hf hw=>?_
 simp [ntmps164,results164,rExp_eq,GH.add_obj,GH.add_next,GH.add_set]
 have hH1:∀ m,m < N->(H.add (.box [walkF n H.next])).obj m=H.obj m:=fun m hm=>by rw [GH.add_obj,if_neg (by omega)]
 have hc:=nodes_walk hI ⟨hnN,hN⟩ e 0 (H.add (.box [walkF n H.next])) (by rw [GH.add_obj,if_pos rfl]) (by rw [GH.add_next];omega) (hI.stJ hj hH1 (by rw [GH.add_next];omega)) ⟨[],by simp⟩
 simp [rExp_eq,walkC,walkF] at hc
 have hcut:∀ H2,GH.same N (H.add (.box [walkF n H.next])) H2->nbH H2->(∀ m o,m < N->H2.obj m=some o->o.nb N)->Drop H H2 (H2.cut H.next)/\GH.same N H (H2.cut H.next):=fun H2 hs hz hnb=>by
  refine ⟨hz.dropCut (by rw [hs.next,GH.add_next];omega) (Nat.le_refl _) fun m o hm ho=>?_,rfl,fun m hm=>?_⟩
  ·by_cases hmN:m < N
   ·refine .inr ?_
    have:=hnb m o hmN ho
    exact GO.nb_mono hN this
   ·rw [hs.obj m (by omega),GH.add_obj,if_neg (by omega)] at ho
    exact .inl ho
  ·by_cases hmx:m < H.next
   ·rw [GH.cut_lt hmx,hs.obj m hm,GH.add_obj,if_neg (by omega)]
   ·rw [GH.cut_ge (by omega),hw.none m (by omega)]
 refine ⟨by omega,EC.of hc (fun v H2 hR=>?_) (fun v H2 hR=>?_)⟩
 ·obtain ⟨hs,hR⟩:=hR
  simp
  refine fun hz=>?_
  rcases hR with ⟨_,hR⟩ | ⟨_,hR⟩
  ·obtain ⟨q1,q2⟩:=hcut H2 hs hz (hI.nbJ hR)
   exact ⟨_,q1,q2,.inl (hI.stJ hR (fun m hm=>GH.cut_lt (by omega)) (by rw [GH.cut_next];exact hN))⟩
  ·obtain ⟨q1,q2⟩:=hcut H2 hs hz (hI.nbS hR)
   exact ⟨_,q1,q2,.inr (hI.stS hR (fun m hm=>GH.cut_lt (by omega)) (by rw [GH.cut_next];exact hN))⟩
 ·obtain ⟨hs,hR⟩:=hR
  simp
  refine fun hz=>?_
  obtain ⟨q1,q2⟩:=hcut H2 hs hz (hI.nbP hR)
  have:=hI.stP hR (H':=H2.cut H.next) (fun m hm=>GH.cut_lt (by omega)) (by rw [GH.cut_next];exact hN)
  exact ⟨_,q1,nb_mono (by rw [GH.cut_next];exact hN) this.1,q2,this.2⟩
end Go.Aft
end
section
set_option maxRecDepth 20000
namespace Go.Aft
open Go.Proofs.Tryz
def cxF (r:Option Nat) (f:FuncId) (pub:Nat->Kd):Cx:=⟨tyOf tyTab,fun _=>none,pub,fun _ _=>none,⟨r,some f⟩⟩
@[simp] theorem cxF_ty {r:Option Nat} {f:FuncId} {p:Nat->Kd}:(cxF r f p).ty=tyOf tyTab:=rfl
@[simp] theorem cxF_eqt {r:Option Nat} {f:FuncId} {p:Nat->Kd} (t:TypeId):(cxF r f p).eqt t=none:=rfl
@[simp] theorem cxF_pub {r:Option Nat} {f:FuncId} {p:Nat->Kd} (t:Nat):(cxF r f p).pub t=p t:=rfl
@[simp] theorem cxF_spec {r:Option Nat} {g:FuncId} {p:Nat->Kd} (f:FuncId) (a:List LV):(cxF r g p).spec f a=none:=rfl
@[simp] theorem cxF_rd {r:Option Nat} {f:FuncId} {p:Nat->Kd}:(cxF r f p).rd = ⟨r,some f⟩:=rfl
theorem cxF_ok {r:Option Nat} {f:FuncId} {p:Nat->Kd}:(cxF r f p).ok prog:=⟨tyTab_ok,fun T ks h=>(by cases h),fun T ks h=>(by cases h),fun f args pre v h=>(by cases h),(by kernel_rfl)⟩
def roundN (x:LP) (n:Nat) (H0:GH) (R:CE->GH->Prop):AE->S->Prop
 | .normal,s=>nbH s.H->roundEnd x n H0 R s none
 | .ret,s=>nbH s.H->roundEnd x n H0 R s (some .ret)
 | .exit i,s=>nbH s.H->roundEnd x n H0 R s (some (.exit i))
 | .goto l,s=>nbH s.H->roundEnd x n H0 R s (some (.goto l))
 | .pan v,s=>nbH s.H->s.df=[]/\∃ H',Drop H0 s.H H'/\v.nb H'.next/\R (.pan v) H'
attribute [simp] roundN roundEnd
theorem EYield.ofN {P:Program} {c:Nat->Cx} {n:Nat} {x:LP} (hc:∀ l,(c l).ok P) (hrd:∀ l,(c l).rd = ⟨some l,some x.f⟩) {args:List LV} {H:GH} {R:CE->GH->Prop} (hn:H.obj n=some (x.go .ready none)) (hf:∃ fn,P.funcs[x.f]?=some fn) (hl:args.length=x.ps.size) (hps:∀ p ∈ x.ps.toList,p < x.nt)
  (h:nbH H->∀ l,@EV P (c l) ⟨x.asn⟩ ⟨putAll x.env (x.ps.toList.zip args),noS,H,x.nt,[]⟩ ⟨@TH ⟨fun s1=>s1.H.obj n=some (x.go .ready none)/\@AW P (c l).rd ⟨x.body⟩ { s1 with H:=s1.H.set n (x.go .busy none) } ⟨roundN x n H R⟩⟩ ⟨fun _ _=>False⟩⟩):EYield P n args H R:=by
 intro G w vs hM hNL hargs
 have hw:nbH H:=⟨fun n hn=>by
  cases ho:H.obj n with
  | none=>rfl
  | some o=>have:=(hM.nmd n o ho).1;omega,fun n o ho=>GO_nb (hM.nmd n o ho).2⟩
 refine EYield.of_code hn hf hl hps (fun _ l=>?_) G w vs hM hNL hargs
 have:=EV.sound (hc l) (h hw l)
 rw [<- hrd l]
 refine AWp.mono this fun ae s q=>?_
 cases ae with
 | normal =>
  refine ⟨q.1,?_⟩
  exact AWp.monoN q.2 fun ae s' hz q'=>by cases ae <;> exact q' hz
 | _=>exact q
theorem term_defName (d:Def):AFun prog 94 [lv (rDef d)] (.d (.k (.string d.name))):=by
 refine AFun.body (cxK_ok (p:=kds [1] [] [])) func94 rfl call94 (by rw [ntmps94];simp) rfl fun hf H=>?_
 simp [ntmps94,results94,rDef,rExp_eq]
theorem term_each (l:List Def) (hl:l.length<=1000):AFun prog 93 [sl (l.map rDef),.fn (.func 94) [] []] (sl ((l.map (·.name)).map rS)):=by
 have cc:=cx0_ok
 refine AFun.body cx0_ok func93 rfl call93 (by rw [ntmps93];simp) rfl fun hf H=>?_
 simp [ntmps93,results93] at hf |-
 refine AW.loopS cc (fun a:Nat × LV × GH=>⟨[(1,.fn (.func 94) [] []),(5,a.2.1),(8,.d (.sl (l.map rDef))),(9,lvI l.length),(10,lvI a.1)],[],a.2.2⟩) (fun a=>l.length - a.1) (fun a=>a.1<=l.length/\App 9 1 H a.2.1 (((l.take a.1).map (·.name)).map rS) a.2.2) (0,.d (.k (.slice none 0 0)),H) ⟨⟨by simp,.nil⟩,by simp⟩ ?_
 rintro ⟨i,x,H'⟩ ⟨hi,happ⟩
 simp only at hi happ
 simp
 refine ⟨fun h=>?_,fun h=>?_⟩
 ·have hd:=term_defName l[i]
  simp [rDef,rExp_eq] at hd
  simp [h,List.getElem?_eq_getElem h,rDef,rExp_eq,happ.plain.all]
  refine EC.afun hd ?_
  simp [happ.plain.all]
  refine APK.appMap rS ((l.take i).map (·.name)) [l[i].name] tyE39 rfl tyE9 (by simp) (fun _=>rfl) (x:=x) (by simp) happ (by simp [rS,rowsOf]) (by simp) (by simp;omega) (by simp) fun x' H2 happ'=>?_
  have ht:(l.take i).map (·.name) ++ [l[i].name]=(l.take (i+1)).map (·.name):=by rw [<- take_more h,List.map_append];rfl
  rw [ht] at happ'
  simp [happ'.plain.all,happ'.only,wrap_succ h hf.1]
  exact NX.go (i+1,x',H2) (by simp;omega) ⟨h,happ'⟩ (by simp [happ'.only,happ'.plain.all,LV.only])
 ·have:i=l.length:=by omega
  subst this
  rw [List.take_length] at happ
  have hz:=happ.fz
  simp [happ.plain.all,hz.1]
  exact hz.2
structure MapB (es:List (Value × LV)) (M:Nat->Bool):Prop where
 get:∀ k:Nat,mfind (.int .i64 k) es=if M k=true then some (.d (.k (.bool true))) else none
 key:∀ (a:Value) (b:LV),(a,b) ∈ es->(KK.sc (Sc.int .i64)).has a=true
 nb:∀ n,nbs n (es.map (·.2))
 nat:∃ ks:List Nat,ks.Nodup/\es.map (·.1)=ks.map fun k:Nat=>Value.int .i64 k
theorem mput_ints (k:Nat) (v:LV):∀ (es:List (Value × LV)) (ks:List Nat),es.map (·.1)=ks.map (fun k:Nat=>Value.int .i64 k)->(mput (.int .i64 k) v es).map (·.1)=(if k ∈ ks then ks else ks ++ [k]).map fun k:Nat=>Value.int .i64 k
 | [],[],_=>by simp [mput]
 | [],j :: ks,h=>by simp at h
 | e :: es,[],h=>by simp at h
 | (a,b) :: es,j :: ks,h=>by
  simp only [List.map_cons,List.cons.injEq] at h
  obtain ⟨rfl,h⟩:=h
  have ih:=mput_ints k v es ks h
  simp only [mput,kEq_int]
  by_cases e:(k:Int)=j
  ·have e':k=j:=by omega
   subst e'
   simp [h]
  ·have e':¬ k=j:=by omega
   have h1:(k ∈ j :: ks)=(k ∈ ks):=by simp [e']
   simp only [e,decide_false,Bool.false_eq_true,if_false,List.map_cons,ih,h1]
   split <;> rfl
theorem MapB.put {es:List (Value × LV)} {M:Nat->Bool} (h:MapB es M) (k:Nat):MapB (mput (.int .i64 k) (.d (.k (.bool true))) es) (markK M k):=by
 have hg:∀ (es:List (Value × LV)),(∀ (a:Value) (b:LV),(a,b) ∈ es->(KK.sc (Sc.int .i64)).has a=true)->∀ j:Nat,mfind (.int .i64 j) (mput (.int .i64 k) (.d (.k (.bool true))) es)=if j=k then some (.d (.k (.bool true))) else mfind (.int .i64 j) es:=by
  intro es
  induction es with
  | nil =>
   intro _ j
   simp only [mput,mfind,kEq_int]
   by_cases e:j=k
   ·subst e;simp
   ·have e2:¬ (j:Int)=k:=by omega
    simp [e,e2]
  | cons a es ih =>
   obtain ⟨a,b⟩:=a
   intro hk j
   have ha:=hk a b (by simp)
   cases a with
   | int kk n =>
    have:kk=.i64:=by simpa [KK.has,Sc.has,eq_comm] using ha
    subst this
    simp only [mput,kEq_int]
    by_cases e1:(k:Int)=n
    ·simp only [e1,decide_true,if_true,mfind,kEq_int]
     by_cases e2:j=k
     ·subst e2;simp [e1]
     ·have:¬ (j:Int)=n:=by omega
      simp [e2,this]
    ·simp only [e1,decide_false,Bool.false_eq_true,if_false,mfind,kEq_int]
     by_cases e3:(j:Int)=n
     ·have:¬ j=k:=by omega
      simp [e3,this]
     ·simp only [e3,decide_false,Bool.false_eq_true,if_false]
      exact ih (fun a b hab=>hk a b (by simp [hab])) j
   | _=>simp [KK.has,Sc.has] at ha
 have hm:∀ (es:List (Value × LV)) (a:Value) (b:LV),(a,b) ∈ mput (.int .i64 k) (.d (.k (.bool true))) es->(a=.int .i64 k/\b=.d (.k (.bool true))) \/ (a,b) ∈ es:=by
  intro es
  induction es with
  | nil=>intro a b hab;simp [mput] at hab;exact .inl hab
  | cons x es ih =>
   intro a b hab
   simp only [mput] at hab
   split at hab
   ·rcases List.mem_cons.1 hab with q | q
    ·cases q;exact .inl ⟨rfl,rfl⟩
    ·exact .inr (by simp [q])
   ·rcases List.mem_cons.1 hab with q | q
    ·exact .inr (by simp [q])
    ·rcases ih a b q with r | r
     ·exact .inl r
     ·exact .inr (by simp [r])
 have hnb:∀ n (es:List (Value × LV)),nbs n (es.map (·.2)) ↔ ∀ a b,(a,b) ∈ es->b.nb n:=by
  intro n es
  induction es with
  | nil=>simp [nbs]
  | cons x es ih =>
   simp only [List.map_cons,nbs,ih,List.mem_cons]
   constructor
   ·rintro ⟨h1,h2⟩ a b (q | q)
    ·rw [<- q] at h1;exact h1
    ·exact h2 a b q
   ·exact fun h=>⟨h x.1 x.2 (.inl rfl),fun a b q=>h a b (.inr q)⟩
 refine ⟨fun j=>?_,fun a b hab=>?_,fun n=>?_,?_⟩
 rotate_left 3
 ·obtain ⟨ks,h1,h2⟩:=h.nat
  refine ⟨if k ∈ ks then ks else ks ++ [k],?_,mput_ints k _ es ks h2⟩
  split
  ·exact h1
  ·rename_i q
   rw [List.nodup_append]
   exact ⟨h1,by simp,fun a ha b hb=>by simp at hb;subst hb;intro z;subst z;exact q ha⟩
 ·rw [hg es h.key j,h.get j]
  unfold markK
  by_cases e:j=k <;> simp [e]
 ·rcases hm es a b hab with ⟨rfl,_⟩ | q
  ·rfl
  ·exact h.key a b q
 ·rw [hnb]
  intro a b hab
  rcases hm es a b hab with ⟨_,rfl⟩ | q
  ·simp [LV.nb]
  ·exact (hnb n es).1 (h.nb n) a b q
theorem MapB.nil:MapB [] (fun _=>false):=⟨fun k=>rfl,fun a b h=>absurd h List.not_mem_nil,fun n=>trivial,[],by simp,rfl⟩
def isRef (e:Exp):Prop:=e.op=2 \/ e.op=3
def LookR (S:Nat->Nat->Prop) (mo d:Nat) (M:Nat->Bool) (H:GH):CE->GH->Prop:=fun ce H'=>(∃ v,ce=.ret v)/\∃ es' M',H'=H.set mo (.map es')/\MapB es' M'/\LookPost S M M' d
def lookC (p:Prog) (n no nl:Nat):List LV:=[.ip ((rProg p).map .d) 0,.ip [.gp n 0] 0,.gp no 0,.gp nl 0]
def lookF (p:Prog) (n no nl:Nat):LV:=.fn (.func 169) [] (lookC p n no nl)
def refsOk (p:Prog):Prop:=∀ (i:Nat) (h:i < p.defs.length),∀ e ∈ allE p.defs[i].exp,isRef e->0<=idx (defNames p) e.name
theorem GH.set_id {H:GH} {n:Nat} {o:GO} (h:H.obj n=some o):H.set n o=H:=by
 obtain ⟨f,k⟩:=H
 simp only [GH.set] at h |-
 congr 1;funext m;simp only [upd];split
 ·rename_i e;subst e;exact h.symm
 ·rfl
theorem GH.set_comm {H:GH} {n m:Nat} {a b:GO} (h:n ≠ m):(H.set n a).set m b=(H.set m b).set n a:=by
 simp only [GH.set];congr 1;funext k;simp only [upd]
 split
 ·rename_i e;subst e;rw [if_neg (Ne.symm h)]
 ·rfl
theorem nbH.set {H:GH} (h:nbH H) {n:Nat} {o:GO} (hn:n < H.next) (ho:o.nb H.next):nbH (H.set n o):=by
 refine ⟨fun m hm=>?_,fun m o' ho'=>?_⟩
 ·have hm':H.next<=m:=hm
  rw [GH.set_obj,if_neg (by omega)];exact h.none m hm'
 ·rw [GH.set_obj] at ho'
  split at ho'
  ·cases ho';exact ho
  ·exact h.nb m o' ho'
theorem Drop_sub {H0 H H':GH} (h1:H'.next<=H.next) (h2:∀ m,m < H'.next->H'.obj m=H.obj m) (h3:nbH H') (h4:H0.next<=H'.next):Drop H0 H H':=⟨h1,h4,h2,h3.none,fun n o ho=>.inr (h3.nb n o ho)⟩
theorem term_look (p:Prog) (hp:refsOk p) (n m1 m2 m3 no nl mo:Nat) (hne:m1 ≠ mo/\m2 ≠ mo/\m3 ≠ mo) (ahead nodes:Int):∀ (u:Nat) (M:Nat->Bool) (d:Nat) (hd:d < p.defs.length) (H:GH) (es:List (Value × LV)),unm p.defs.length M=u ->
  Sco H n m1 m2 m3 p.srcs (defNames p) ahead nodes->H.obj no=some (.box [.gm mo])->H.obj nl=some (.box [lookF p n no nl])->H.obj mo=some (.map es)->MapB es M ->
  ECall prog 169 ([lvI d] ++ lookC p n no nl) H (LookR (stepsTo p) mo d M H):=by
 intro u
 induction u using Nat.strongRecOn with
 | _ u ih =>
  intro M d hd H es hu hs hno hnl hmo hM
  have cc:=cxF_ok (r:=none) (f:=169) (p:=kds [] [] [])
  have ccR:∀ l,(cxF (some l) 169 (kds [] [] [])).ok prog:=fun l=>cxF_ok
  refine ECall.bodyN (cxF_ok (r:=none) (f:=169) (p:=kds [] [] [])) func169 rfl call169 (by rw [ntmps169];simp [lookC]) rfl fun hf hw=>?_
  have hnod:=term_nodes p.defs[d].exp
  simp [rExp_eq] at hnod
  simp [ntmps169,results169,lookC,rProg,rDef,rExp_eq,hd,List.getElem?_eq_getElem hd]
  refine EC.afun hnod ?_
  simp
  refine AW.at (c:=cxF none 169 (kds [] [] [])) ⟨[(1,.ip ((rProg p).map .d) 0),(2,.ip [.gp n 0] 0),(3,.gp no 0),(4,.gp nl 0),(14,nodesF p.defs[d].exp)],[],H⟩ (by simp [rProg,nodesF,LV.only,rExp_eq]) ?_
  have a0:=hw.lt hs.sc
  have a1:=hw.lt hno
  have a2:=hw.lt hnl
  have a3:=hw.lt hmo
  have a4:=hw.lt hs.o1
  have a5:=hw.lt hs.o2
  have a6:=hw.lt hs.o3
  have ne:=hs.ne
  have b1:n ≠ mo:=fun e=>by have:=hs.sc;rw [e,hmo] at this;cases this
  have b2:no ≠ mo:=fun e=>by rw [e,hmo] at hno;cases hno
  have b3:nl ≠ mo:=fun e=>by rw [e,hmo] at hnl;cases hnl
  refine AWp.rangeFunc rfl rfl (f:=164) (first:=[]) (cap:=[.ip ((rExp p.defs[d].exp).map .d) 0]) (by simp [nodesF]) (by simp [nodesF])
   [(1,.ip ((rProg p).map .d) 0),(2,.ip [.gp n 0] 0),(3,.gp no 0),(4,.gp nl 0)] (by simp [allL]) (by simp [allL,LV.nb,nbs,a0,a1,a2]) (by simp [nbs,LV.nb]) ?_
  simp only [LS.s_mk,List.nil_append,List.singleton_append]
  generalize hx:LP.mk _ _ _ _ _ _ _=x
  have hxf:x.f=169:=by rw [<- hx]
  have hxd:x.d=H.next:=by rw [<- hx]
  have hxe:∀ t,(x.env t).nb (H.next+2):=by
   rw [<- hx]
   intro t
   refine envL_nb ?_ t
   simp [allL,LV.nb,nbs];omega
  obtain ⟨J,hJ⟩:∃ J:Nat->GH->Prop,J=fun i H'=>∃ es' M',H'.obj (H.next+1)=some (x.go .ready none)/\H'.obj H.next=some .dfr/\(∀ m,m < H.next->m ≠ mo->H'.obj m=H.obj m)/\H'.obj mo=some (.map es')/\MapB es' M' /\
   LookInv (stepsTo p) M M' d (fun k=>∃ e ∈ (allE p.defs[d].exp).take i,isRef e/\idx (defNames p) e.name=(k:Int)):=⟨_,rfl⟩
  have hI:Iter prog (H.next+1) (H.next+2) (rowsE p.defs[d].exp) J (fun _=>False) (fun _ _=>False):=by
   refine ⟨fun {i H1 H2} hj hag _=>?_,fun h=>h.elim,fun h=>h.elim,fun {i H1} hj m o hm ho=>?_,fun h=>h.elim,fun h=>h.elim,?_⟩
   ·rw [hJ] at hj |-
    obtain ⟨es',M',q1,q2,q3,q4,q5,q6⟩:=hj
    exact ⟨es',M',by rw [hag _ (by omega)];exact q1,by rw [hag _ (by omega)];exact q2,fun m hm hne=>by rw [hag _ (by omega)];exact q3 m hm hne,by rw [hag _ (by omega)];exact q4,q5,q6⟩
   ·rw [hJ] at hj
    obtain ⟨es',M',q1,q2,q3,q4,q5,q6⟩:=hj
    by_cases e1:m=H.next+1
    ·subst e1;rw [q1] at ho;cases ho
     exact ⟨by rw [hxd];omega,hxe⟩
    ·by_cases e2:m=H.next
     ·subst e2;rw [q2] at ho;cases ho;trivial
     ·by_cases e3:m=mo
      ·subst e3;rw [q4] at ho;cases ho;exact q5.nb _
      ·rw [q3 m (by omega) e3] at ho
       exact GO.nb_mono (by omega) (hw.nb m o ho)
   ·intro i H1 r hr hN hz1 hj
    rw [hJ] at hj
    obtain ⟨es',M',q1,q2,q3,q4,q5,q6⟩:=hj
    obtain ⟨e,he,rfl⟩:∃ e,(allE p.defs[d].exp)[i]?=some e/\r=lv (rExp e):=by
     simp only [rowsE,List.getElem?_map,Option.map_eq_some_iff] at hr
     obtain ⟨e,h1,h2⟩:=hr
     exact ⟨e,h1,h2.symm⟩
    refine EYield.ofN (c:=fun l=>cxF (some l) 169 (kds [] [] [])) ccR (fun l=>by simp [hxf]) q1 ⟨_,by rw [hxf];exact func169⟩ (by rw [<- hx];rfl) (by rw [<- hx];simp) fun hz l=>?_
    have xa:=(congrArg LP.asn hx).symm
    have xb:=(congrArg LP.body hx).symm
    have xe:=(congrArg LP.env hx).symm
    have xp:=(congrArg LP.ps hx).symm
    have xn:=(congrArg LP.nt hx).symm
    dsimp only at xa xb xe xp xn
    rw [xa,xb,xe,xp,xn]
    clear xa xb xe xp xn hx
    simp [rExp_eq,putAll]
    refine ⟨q1,?_⟩
    generalize hob:x.go .busy none=ob
    have c0:=q3 n (by omega) b1
    have c1:=q3 no (by omega) b2
    have c2:=q3 nl (by omega) b3
    have c3:∀ m,m < H.next->(H1.set (H.next+1) ob).obj m=H1.obj m:=fun m hm=>by rw [GH.set_obj,if_neg (by omega)]
    have hn1:H.next+1 < H1.next:=by omega
    have htk:(allE p.defs[d].exp).take (i+1)=(allE p.defs[d].exp).take i ++ [e]:=by
     rw [List.take_add_one,he];rfl
    have hemem:e ∈ allE p.defs[d].exp:=List.mem_of_getElem? he
    have hsame:(H1.set (H.next+1) ob).set (H.next+1) (x.go .ready none)=H1:=by rw [GH.set_set,GH.set_id q1]
    refine AW.ev (ccR l) ?_
    simp
    refine ⟨fun n2 n3 hz2=>⟨⟨.busy,none,by rw [GH.set_same,hob]⟩,H1,?_,GH.same.refl,?_⟩,fun href=>?_⟩
    ·rw [hsame];exact hz1.drop (Nat.le_refl _)
    ·rw [hJ]
     refine ⟨es',M',q1,q2,q3,q4,q5,q6.same fun k hk=>?_⟩
     obtain ⟨e',h1,h2,h3⟩:=hk
     rw [htk,List.mem_append] at h1
     rcases h1 with h1 | h1
     ·exact .inl ⟨e',h1,h2,h3⟩
     ·simp only [List.mem_singleton] at h1
      subst h1
      rcases h2 with h2 | h2
      ·exact absurd h2 n2
      ·exact absurd h2 n3
    have hr:isRef e:=by unfold isRef;omega
    have hix:=hp d hd e hemem hr
    have hixl:=idx_lt (defNames p) e.name
    obtain ⟨kn,hkn⟩:∃ kn:Nat,idx (defNames p) e.name=(kn:Int):=⟨(idx (defNames p) e.name).toNat,by omega⟩
    have hkl:kn < p.defs.length:=by rw [hkn] at hixl;simp [defNames] at hixl;exact hixl
    have hnum:numD (defNames p) e.name=(kn:Int):=by unfold numD;rw [if_neg (by omega),hkn]
    have hstep:stepsTo p d kn:=⟨hd,e,hemem,hr,hkn⟩
    have hdone:∀ k:Nat,(∃ e ∈ (allE p.defs[d].exp).take (i+1),isRef e/\idx (defNames p) e.name=(k:Int))->(∃ e ∈ (allE p.defs[d].exp).take i,isRef e/\idx (defNames p) e.name=(k:Int)) \/ k=kn:=fun k hk=>by
     obtain ⟨e',h1,h2,h3⟩:=hk
     rw [htk,List.mem_append] at h1
     rcases h1 with h1 | h1
     ·exact .inl ⟨e',h1,h2,h3⟩
     ·simp only [List.mem_singleton] at h1
      subst h1
      exact .inr (by omega)
    have o0:(H1.set (H.next+1) ob).obj n=some (scp [.gm m1,.gm m2,.gm m3] ahead nodes):=by rw [c3 _ a0,c0];exact hs.sc
    have o1:(H1.set (H.next+1) ob).obj m2=some (.map (numEs (defNames p) 0)):=by rw [c3 _ a5,q3 _ a5 hne.2.1];exact hs.o2
    have o2:(H1.set (H.next+1) ob).obj no=some (.box [.gm mo]):=by rw [c3 _ a1,c1];exact hno
    have o3:(H1.set (H.next+1) ob).obj nl=some (.box [lookF p n no nl]):=by rw [c3 _ a2,c2];exact hnl
    have o4:(H1.set (H.next+1) ob).obj mo=some (.map es'):=by rw [c3 _ a3];exact q4
    refine AW.draw (ccR l) [] (.q 5<|.q 0<|.q 1<|.q 2<|.q 3<|.q 4<|.q 6<|.q 7<|.q 8<|.done) (by kernel_rfl) ?_
    have hkey:=eq_true q5.key
    have hlk:∀ m,m < H.next->m < (H1.set (H.next+1) ob).next:=fun m hm=>by rw [GH.set_next];omega
    cases hmk:M' kn with
    | true =>
     simp [o0,o1,o2,o3,o4,scp,num_get,num_has,hnum,q5.get,hmk,hkey]
     refine fun hz2=>⟨⟨.busy,none,by rw [GH.set_same,hob]⟩,H1,?_,GH.same.refl,?_⟩
     ·rw [hsame];exact hz1.drop (Nat.le_refl _)
     ·rw [hJ]
      exact ⟨es',M',q1,q2,q3,q4,q5,q6.same fun k hk=>(hdone k hk).imp id fun e=>by rw [e];exact hmk⟩
    | false =>
     have hoth:∀ (X:GO) (m:Nat),m < H.next->m ≠ mo->((H1.set (H.next+1) ob).set mo X).obj m=H.obj m:=fun X m hm hne=>by rw [GH.set_obj,if_neg hne,c3 m hm,q3 m hm hne]
     have o5:∀ X:GO,((H1.set (H.next+1) ob).set mo X).obj nl=some (.box [lookF p n no nl]):=fun X=>by rw [hoth X _ a2 b3];exact hnl
     have hput:=q5.put kn
     have hlt:unm p.defs.length (markK M' kn) < u:=by
      have h1:=unm_mark (n:=p.defs.length) hkl hmk
      have h2:=unm_mono (n:=p.defs.length) q6.sub
      omega
     have hcall:=ih _ hlt (markK M' kn) kn hkl ((H1.set (H.next+1) ob).set mo (.map (mput (.int .i64 kn) (.d (.k (.bool true))) es'))) _ rfl
      ⟨by rw [hoth _ _ a0 b1];exact hs.sc,by rw [hoth _ _ a4 hne.1];exact hs.o1,by rw [hoth _ _ a5 hne.2.1];exact hs.o2,by rw [hoth _ _ a6 hne.2.2];exact hs.o3⟩
      (by rw [hoth _ _ a1 b2];exact hno) (o5 _) GH.set_same hput
     have hl4:∀ X m,m < H.next->m < ((H1.set (H.next+1) ob).set mo X).next:=fun X m hm=>by rw [GH.set_next,GH.set_next];omega
     simp [lookC,rProg] at hcall
     simp [o0,o1,o2,o3,o4,o5,scp,num_get,num_has,hnum,q5.get,hmk,hkey,lookF,lookC,rProg]
     refine ⟨⟨hl4 _ _ a0,hl4 _ _ a1,hl4 _ _ a2⟩,EC.of hcall (fun v H2 hR=>?_) (fun v H2 hR=>?_)⟩
     ·obtain ⟨_,es2,M2,hH2,k1,k2⟩:=hR
      rw [GH.set_set] at hH2
      subst hH2
      simp
      have hn1:H.next+1 ≠ mo:=by omega
      have hback:((H1.set (H.next+1) ob).set mo (.map es2)).set (H.next+1) (x.go .ready none)=H1.set mo (.map es2):=by
       rw [GH.set_comm (Ne.symm hn1),GH.set_set,GH.set_id q1]
      have hz3:nbH (H1.set mo (.map es2)):=hz1.set (by omega) (k1.nb _)
      refine fun hz2=>⟨⟨.busy,none,by rw [GH.set_obj,if_neg hn1,GH.set_same,hob]⟩,H1.set mo (.map es2),?_,⟨rfl,fun m hm=>by rw [GH.set_obj,if_neg (by omega)]⟩,?_⟩
      ·rw [hback];exact hz3.drop (Nat.le_refl _)
      ·rw [hJ]
       refine ⟨es2,M2,by rw [GH.set_obj,if_neg hn1];exact q1,by rw [GH.set_obj,if_neg (by omega)];exact q2,fun m hm hne'=>by rw [GH.set_obj,if_neg hne'];exact q3 m hm hne',GH.set_same,k1,q6.step hstep k2 hdone⟩
     ·obtain ⟨⟨_,q⟩,_⟩:=hR
      cases q
  have hj0:J 0 ((H.add .dfr).add (x.go .ready none)):=by
   rw [hJ]
   refine ⟨es,M,by rw [GH.add_obj,GH.add_next,if_pos rfl],by rw [GH.add_obj,GH.add_next,if_neg (by omega),GH.add_obj,if_pos rfl],fun m hm _=>by rw [GH.add_obj,GH.add_next,if_neg (by omega),GH.add_obj,if_neg (by omega)],
    by rw [GH.add_obj,GH.add_next,if_neg (by omega),GH.add_obj,if_neg (by omega)];exact hmo,hM,LookInv.start fun k hk=>?_⟩
   obtain ⟨e,he,_⟩:=hk
   simp at he
  have hall:=nodes_all hI (by omega) ((H.add .dfr).add (x.go .ready none)) (by rw [GH.add_next,GH.add_next];omega) hj0
  refine hall.mono fun ce H2 hR=>?_
  obtain ⟨hs2,hR⟩:=hR
  cases ce with
  | pan x=>exact hR.elim
  | ret v =>
   rcases hR with hR | hR
   ·rw [hJ] at hR
    obtain ⟨es2,M2,q1,q2,q3,q4,q5,q6⟩:=hR
    refine ⟨.ready,none,q1,by simp,?_⟩
    simp [jumpQ,hxd]
    have hne1:H.next ≠ H.next+1:=by omega
    refine fun hz=>⟨by rw [GH.set_obj,if_neg hne1];exact q2,H.set mo (.map es2),?_,⟨_,rfl⟩,es2,M2,rfl,q5,q6.end fun k hk=>?_⟩
    ·have hz3:=hw.set (o:=.map es2) a3 (q5.nb _)
     refine Drop_sub ?_ (fun m hm=>?_) hz3 (by rw [GH.set_next];exact Nat.le_refl _)
     ·have h1:=hs2.next
      simp only [GH.add_next] at h1
      simp only [GH.set_next]
      omega
     ·have hm':m < H.next:=hm
      simp only [upd_apply,GH.set_obj]
      rw [if_neg (show ¬ m=H.next by omega),if_neg (show ¬ m=H.next+1 by omega)]
      split
      ·rename_i e;subst e;exact q4.symm
      ·rename_i e;exact (q3 m hm' e).symm
    ·obtain ⟨h1,e,h2,h3,h4⟩:=hk
     exact ⟨e,by rw [List.take_length];exact h2,h3,h4⟩
   ·exact hR.elim
end Go.Aft
end
section
set_option maxRecDepth 20000
namespace Go.Aft
open Go.Proofs.Tryz
open Classical in
noncomputable def reachB (p:Prog) (d:Nat):Nat->Bool:=fun k=>decide (Path (stepsTo p) d k)
theorem MapB.congr {es:List (Value × LV)} {M M':Nat->Bool} (h:MapB es M) (he:∀ k,M k=M' k):MapB es M':=by
 have:M=M':=funext he
 rw [<- this];exact h
theorem nbH.add {H:GH} (h:nbH H) {o:GO} (ho:o.nb (H.next+1)):nbH (H.add o):=by
 refine ⟨fun m hm=>?_,fun m o' ho'=>?_⟩
 ·have hm':H.next+1<=m:=hm
  rw [GH.add_obj,if_neg (by omega)];exact h.none m (by omega)
 ·rw [GH.add_obj] at ho'
  split at ho'
  ·cases ho';exact ho
  ·exact GO.nb_mono (Nat.le_succ _) (h.nb m o' ho')
theorem term_reach (p:Prog) (hp:refsOk p) (n m1 m2 m3:Nat) (ahead nodes:Int) (d:Nat) (hd:d < p.defs.length) (H:GH) (hs:Sco H n m1 m2 m3 p.srcs (defNames p) ahead nodes) :
  ECall prog 100 [.gp n 0,lv (rProg p),lvI d] H fun ce H'=>∃ es,ce=.ret (.gm H.next)/\H'=H.add (.map es)/\MapB es (reachB p d):=by
 have cc:=cxK_ok (p:=kds [3,4] [7,8] [])
 refine ECall.bodyN (cxK_ok (p:=kds [3,4] [7,8] [])) func100 rfl call100 (by rw [ntmps100];simp) rfl fun hf hw=>?_
 have a0:=hw.lt hs.sc
 have a4:=hw.lt hs.o1
 have a5:=hw.lt hs.o2
 have a6:=hw.lt hs.o3
 have ne:=hs.ne
 have g1:∀ (X Y Z:GO),(((H.add X).add Y).add Z).obj H.next=some X:=fun X Y Z=>by rw [GH.add_obj,if_neg (by simp only [GH.add_next];omega),GH.add_obj,if_neg (by simp only [GH.add_next];omega),GH.add_obj,if_pos rfl]
 have g2:∀ (X Y Z:GO),(((H.add X).add Y).add Z).obj (H.next+1)=some Y:=fun X Y Z=>by rw [GH.add_obj,if_neg (by simp only [GH.add_next];omega),GH.add_obj,if_pos (by simp only [GH.add_next])]
 have g3:∀ (X Y Z:GO),(((H.add X).add Y).add Z).obj (H.next+2)=some Z:=fun X Y Z=>by rw [GH.add_obj,if_pos (by simp only [GH.add_next])]
 have g4:∀ (X Y Z:GO) (m:Nat),m < H.next->(((H.add X).add Y).add Z).obj m=H.obj m:=fun X Y Z m hm=>by
  rw [GH.add_obj,if_neg (by simp only [GH.add_next];omega),GH.add_obj,if_neg (by simp only [GH.add_next];omega),GH.add_obj,if_neg (by omega)]
 have s1:∀ (X Y:GO) (Y':GO),((H.add X).add Y).set (H.next+1) Y'=(H.add X).add Y':=fun X Y Y'=>by
  have:=GH.add_set (H:=H.add X) (a:=Y) (b:=Y');simpa [GH.add_next] using this
 have s2:∀ (X Y Z:GO) (Z':GO),(((H.add X).add Y).add Z).set (H.next+2) Z'=((H.add X).add Y).add Z':=fun X Y Z Z'=>by
  have:=GH.add_set (H:=(H.add X).add Y) (a:=Z) (b:=Z');simpa [GH.add_next] using this
 have h1:∀ (X Y:GO),((H.add X).add Y).obj (H.next+1)=some Y:=fun X Y=>by rw [GH.add_obj,if_pos (by simp only [GH.add_next])]
 simp [ntmps100,results100,rProg,GH.add_next,s1,s2,h1,g1,g2,g3]
 refine ⟨by omega,by omega,?_⟩
 have hl:=term_look p hp n m1 m2 m3 (H.next+1) (H.next+1+1) H.next ⟨by omega,by omega,by omega⟩ ahead nodes _ (fun _=>false) d hd (((H.add (.map [])).add (.box [.gm H.next])).add (.box [lookF p n (H.next+1) (H.next+1+1)])) [] rfl
  ⟨by rw [g4 _ _ _ _ a0];exact hs.sc,by rw [g4 _ _ _ _ a4];exact hs.o1,by rw [g4 _ _ _ _ a5];exact hs.o2,by rw [g4 _ _ _ _ a6];exact hs.o3⟩ (g2 _ _ _) (g3 _ _ _) (g1 _ _ _) MapB.nil
 simp [lookC,lookF,rProg] at hl
 refine EC.of hl (fun v H2 hR=>?_) (fun v H2 hR=>?_)
 ·obtain ⟨_,es2,M2,rfl,k1,k2⟩:=hR
  simp [GH.set_obj,g2,LR]
  have hM:=k1.congr (M':=reachB p d) fun k=>by
   rw [Bool.eq_iff_iff,k2.all];simp [reachB]
  refine fun hz=>⟨H.add (.map es2),?_,by rw [GH.add_next];omega,es2,rfl,hM⟩
  refine Drop_sub (by simp [GH.set_next,GH.add_next]) (fun m hm=>?_) (hw.add (k1.nb _)) (by rw [GH.add_next];omega)
  have hm':m < H.next+1:=hm
  rw [GH.set_obj]
  by_cases e:m=H.next
  ·subst e;rw [if_pos rfl,GH.add_obj,if_pos rfl]
  ·rw [if_neg e,g4 _ _ _ _ (by omega),GH.add_obj,if_neg e]
 ·obtain ⟨⟨_,q⟩,_⟩:=hR
  cases q
theorem looked1_ret (n:Nat) (H:GH) (R:DM->GH->Prop) (h:R .ret H):ADCall prog 152 [.gp n 0] H .ret R:=by
 refine ADCall.of_body cx0_ok func152 rfl call152 rfl rfl rfl (by rw [ntmps152];simp) (by rw [ntmps152];omega) rfl fun hw=>?_
 simp [runX,recV,ntmps152]
 refine EV.sound cx0_ok ?_
 simp [dcallQ,recM]
 exact ⟨H,Drop_same (Nat.le_refl _) (fun _ _=>rfl) hw,h⟩
theorem looked1_pan (n:Nat) (c:List LV) (H:GH) (h1:H.obj n=some (.box c)) (hl:c.length=1) (R:DM->GH->Prop)
  (h:R (.rec_ unformed) (H.set n (.box [.d (.k (.pointer none))]))):ADCall prog 152 [.gp n 0] H (.pan unformed) R:=by
 refine ADCall.of_body cx0_ok func152 rfl call152 rfl rfl rfl (by rw [ntmps152];simp) (by rw [ntmps152];omega) rfl fun hw=>?_
 simp [runX,recV,ntmps152,unformed]
 refine EV.sound cx0_ok ?_
 obtain ⟨x,rfl⟩:∃ x,c=[x]:=by
  match c,hl with
  | [x],_=>exact ⟨x,rfl⟩
 simp [dcallQ,recM,h1]
 have lt:∀ n o,H.obj n=some o->n < H.next:=fun n o ho=>by
  rcases Nat.lt_or_ge n H.next with q | q
  ·exact q
  ·rw [hw n q] at ho;cases ho
 exact ⟨_,Drop_set (Drop_id (Nat.le_refl _) hw fun _ _ q=>.inl q) (lt _ _ h1) (by simp [nbs,LV.nb]),h⟩
end Go.Aft
end
