import Derived.Test.YthinedikejlgmaaGreatA46
import Derived.Test.YthinedikejlgmaaGreatA28
import Derived.Test.YthinedikejlgmaaGreatA37
import Derived.Test.YthinedikejlgmaaGreatA32
set_option linter.all false
section
set_option maxRecDepth 20000
namespace Go.Aft
open Go.Proofs.Tryz
theorem each_calc (l:List Calc) (hl:l.length * 40<=140737488351232) (hk:∀ k ∈ l,AFun prog 161 [lv (rCalc k)] (lv (rCalc k))):AFun prog 160 [sl (l.map rCalc),.fn (.func 161) [] []] (sl (l.map rCalc)):=by
 have cc:=cx0_ok
 refine AFun.body cx0_ok func160 rfl call160 (by rw [ntmps160];simp) rfl fun hf H=>?_
 simp [ntmps160,results160] at hf |-
 refine AW.loopS cc (fun a:Nat × LV × GH=>⟨[(1,.fn (.func 161) [] []),(5,a.2.1),(8,.d (.sl (l.map rCalc))),(9,lvI l.length),(10,lvI a.1)],[],a.2.2⟩) (fun a=>l.length - a.1) (fun a=>a.1<=l.length/\App 25 3 H a.2.1 ((l.take a.1).map rCalc) a.2.2) (0,.d (.k (.slice none 0 0)),H) ⟨⟨by simp,.nil⟩,by simp⟩ ?_
 rintro ⟨i,x,H'⟩ ⟨hi,happ⟩
 simp only at hi happ
 simp
 refine ⟨fun h=>?_,fun h=>?_⟩
 ·have hd:=hk l[i] (List.getElem_mem h)
  simp [rCalc_eq] at hd
  simp [h,List.getElem?_eq_getElem h,rCalc_eq,happ.plain.all]
  refine EC.afun hd ?_
  simp [happ.plain.all]
  refine APK.appMap rCalc (l.take i) [l[i]] tyE23 rfl tyE25 (by simp) rCalc_len (x:=x) (by simp) happ (by simp [rCalc_eq,rowsOf]) (by simp) (by simp;omega) (by simp) fun x' H2 happ'=>?_
  rw [show (l.take i) ++ [l[i]]=l.take (i+1) from take_more h] at happ'
  simp [happ'.plain.all,happ'.only,wrap_succ (n:=9223372036854775807) (show i < 9223372036854775807 by omega)]
  exact NX.go (i+1,x',H2) (by simp;omega) ⟨h,happ'⟩ (by simp [happ'.only,happ'.plain.all,LV.only])
 ·have:i=l.length:=by omega
  subst this
  rw [List.take_length] at happ
  have hz:=happ.fz
  simp [happ.plain.all,hz.1]
  exact hz.2
theorem term_calcC1 (op n:Int) (kids:List Calc) (hl:kids.length * 40<=140737488351232) (hk:∀ k ∈ kids,AFun prog 161 [lv (rCalc k)] (lv (rCalc k))):AFun prog 161 [lv (rCalc (.mk op n kids))] (lv (rCalc (.mk op n kids))):=by
 have he:=each_calc kids hl hk
 refine AFun.body cx0_ok func161 rfl call161 (by rw [ntmps161];simp) rfl fun hf H=>?_
 simp [ntmps161,results161,rCalc_eq,Calc.op,Calc.n,Calc.kids] at he |-
 refine EC.afun he ?_
 simp [rCalc_eq,Calc.op,Calc.n,Calc.kids]
mutual
theorem term_calcC:∀ c:Calc,okC c->AFun prog 161 [lv (rCalc c)] (lv (rCalc c))
 | .mk op n kids,h=>by
  rw [okC] at h
  exact term_calcC1 op n kids h.1 (term_calcsC kids h.2)
theorem term_calcsC:∀ cs:List Calc,okCs cs->∀ k ∈ cs,AFun prog 161 [lv (rCalc k)] (lv (rCalc k))
 | [],_,k,hk=>by cases hk
 | c :: cs,h,k,hk=>by
  rw [okCs] at h
  rcases List.mem_cons.1 hk with q | hk
  ·rw [q];exact term_calcC c h.1
  ·exact term_calcsC cs h.2 k hk
end
theorem each_exp (g:Exp->Exp) (m:Nat) (l:List Exp) (hl:l.length * 88<=140737488351232) (H:GH) (o:GO) (hm:H.obj m=some o) (hk:∀ k ∈ l,∀ H',H'.obj m=some o->ECall prog 163 [lv (rExp k),.ip [.gm m] 0] H' fun ce H2=>ce=.ret (lv (rExp (g k)))/\H2=H') :
  ECall prog 162 [sl (l.map rExp),.fn (.func 163) [] [.ip [.gm m] 0]] H fun ce H'=>ce=.ret (sl ((l.map g).map rExp))/\H'=H:=by
 have cc:=cx0_ok
 refine ECall.bodyN cx0_ok func162 rfl call162 (by rw [ntmps162];simp) rfl fun hf hw=>?_
 have hmn:=hw.lt hm
 simp [ntmps162,results162] at hf |-
 refine AW.loopS cc (fun a:Nat × LV × GH=>⟨[(1,.fn (.func 163) [] [.ip [.gm m] 0]),(5,a.2.1),(8,.d (.sl (l.map rExp))),(9,lvI l.length),(10,lvI a.1)],[],a.2.2⟩) (fun a=>l.length - a.1) (fun a=>a.1<=l.length/\AppX 68 6 H a.2.1 (((l.take a.1).map g).map rExp) a.2.2) (0,.d (.k (.slice none 0 0)),H) ⟨⟨by simp,.nil⟩,by simp [LV.only,onlys]⟩ ?_
 rintro ⟨i,x,H'⟩ ⟨hi,happ⟩
 simp only at hi happ
 simp
 refine ⟨fun h=>?_,fun h=>?_⟩
 ·have hd:=hk l[i] (List.getElem_mem h) H' (by rw [happ.ob m hmn];exact hm)
  simp [rExp_eq] at hd
  have hlt:m < H'.next:=Nat.lt_of_lt_of_le hmn happ.nx
  simp [h,List.getElem?_eq_getElem h,rExp_eq,happ.plain.all]
  refine ⟨by simp [LV.nb,nbs,hlt],EC.of hd (fun v H2 hR=>?_) (fun v H2 hR=>by cases hR.1)⟩
  obtain ⟨q,rfl⟩:=hR
  cases q
  simp [happ.plain.all]
  refine APK.appX (ys:=[rExp (g l[i])]) tyE64 rfl tyE68 (by simp) (x:=x) (by simp) happ (by simp [rExp_eq,rowsOf]) (by simp) (fun r hr=>by obtain ⟨_,_,rfl⟩:=List.mem_map.1 hr;simp) (by simp) (by simp;omega) (by simp) fun x' H3 happ' _ _=>?_
  rw [show ((l.take i).map g).map rExp ++ [rExp (g l[i])]=((l.take (i+1)).map g).map rExp by rw [<- take_more h,List.map_append,List.map_append];rfl] at happ'
  simp [happ'.plain.all,happ'.only,wrap_succ (n:=9223372036854775807) (show i < 9223372036854775807 by omega)]
  exact NX.go (i+1,x',H3) (by simp;omega) ⟨h,happ'⟩ (by simp [happ'.only,happ'.plain.all,LV.only,onlys])
 ·have:i=l.length:=by omega
  subst this
  rw [List.take_length] at happ
  simp [happ.plain.all,happ.fz]
  exact fun hz=>Drop_same happ.nx happ.ob hw.none
structure MapT (es:List (Value × LV)) (f:Str->Str):Prop where
 get:∀ s,(mfind (.string s) es).getD (.d (.k (.string ⟨#[]⟩)))=.d (.k (.string (f s)))
 key:∀ (a:Value) (b:LV),(a,b) ∈ es->(KK.sc Sc.str).has a=true
theorem term_renamed1 (f:Str->Str) (h0:f noName=noName) (m:Nat) (es:List (Value × LV)) (he:MapT es f) (op:Int) (name:Str) (n fold:Int) (calcs:List Calc) (kids:List Exp) (hc:okCs calcs) (hcl:calcs.length * 40<=140737488351232) (hkl:kids.length * 88<=140737488351232)
  (ih:∀ k ∈ kids,∀ H,H.obj m=some (.map es)->ECall prog 163 [lv (rExp k),.ip [.gm m] 0] H fun ce H2=>ce=.ret (lv (rExp (renE f k)))/\H2=H) (H:GH) (hm:H.obj m=some (.map es)) :
  ECall prog 96 [lv (rExp (.mk op name n fold calcs kids)),.gm m] H fun ce H2=>ce=.ret (lv (rExp (renE f (.mk op name n fold calcs kids))))/\H2=H:=by
 have cc:=cxK_ok (p:=kds [3] [] [])
 refine ECall.bodyN (cxK_ok (p:=kds [3] [] [])) func96 rfl call96 (by rw [ntmps96];simp) rfl fun hf hw=>?_
 have h1:=each_calc calcs hcl (term_calcsC calcs hc)
 have h2:=each_exp (renE f) m kids hkl H _ hm ih
 have hkey:=eq_true he.key
 have hget:=he.get
 have hmn:=hw.lt hm
 have hf0:name = ⟨#[]⟩->f name=name:=by rintro rfl;exact h0
 simp at h1 h2
 simp [ntmps96,results96,rExp_eq,Exp.op,Exp.n,Exp.kids,Exp.name,Exp.fold,Exp.calcs,hm,hget,hkey,renE,renEs_map]
 refine ⟨fun q=>?_,fun q=>?_⟩
 ·refine EC.afun h1 ?_
  simp
  refine ⟨by simp [LV.nb,nbs,hmn],EC.of h2 (fun v H2 hR=>?_) (fun v H2 hR=>by cases hR.1)⟩
  obtain ⟨q,rfl⟩:=hR
  cases q
  simp
  exact fun hz=>⟨hz.drop (Nat.le_refl _),by simp [rExp_eq,renE,renEs_map]⟩
 ·refine EC.afun h1 ?_
  simp
  refine ⟨by simp [LV.nb,nbs,hmn],EC.of h2 (fun v H2 hR=>?_) (fun v H2 hR=>by cases hR.1)⟩
  obtain ⟨q',rfl⟩:=hR
  cases q'
  simp [hf0 q]
  exact fun hz=>⟨hz.drop (Nat.le_refl _),by simp [rExp_eq,renE,renEs_map,hf0 q]⟩
theorem term_renamed_1 (f:Str->Str) (m:Nat) (o:GO) (e:Exp) (ih:∀ H,H.obj m=some o->ECall prog 96 [lv (rExp e),.gm m] H fun ce H2=>ce=.ret (lv (rExp (renE f e)))/\H2=H) (H:GH) (hm:H.obj m=some o) :
  ECall prog 163 [lv (rExp e),.ip [.gm m] 0] H fun ce H2=>ce=.ret (lv (rExp (renE f e)))/\H2=H:=by
 have cc:=cxK_ok (p:=kds [2] [] [])
 refine ECall.bodyN (cxK_ok (p:=kds [2] [] [])) func163 rfl call163 (by rw [ntmps163];simp) rfl fun hf hw=>?_
 have h1:=ih H hm
 have hmn:=hw.lt hm
 simp [rExp_eq] at h1
 simp [ntmps163,results163,rExp_eq]
 refine ⟨hmn,EC.of h1 (fun v H2 hR=>?_) (fun v H2 hR=>by cases hR.1)⟩
 obtain ⟨q,rfl⟩:=hR
 cases q
 simp
 exact fun hz=>⟨hz.drop (Nat.le_refl _),by simp [rExp_eq]⟩
mutual
theorem term_renamed (f:Str->Str) (h0:f noName=noName) (m:Nat) (es:List (Value × LV)) (he:MapT es f):∀ e:Exp,okE e->∀ H,H.obj m=some (.map es)->ECall prog 96 [lv (rExp e),.gm m] H fun ce H2=>ce=.ret (lv (rExp (renE f e)))/\H2=H
 | .mk op name n fold calcs kids,h,H,hm=>by
  rw [okE] at h
  exact term_renamed1 f h0 m es he op name n fold calcs kids h.2.2.1 h.1 h.2.1 (term_renameds f h0 m es he kids h.2.2.2) H hm
theorem term_renameds (f:Str->Str) (h0:f noName=noName) (m:Nat) (es:List (Value × LV)) (he:MapT es f):∀ l:List Exp,okEs l->∀ k ∈ l,∀ H,H.obj m=some (.map es)->ECall prog 163 [lv (rExp k),.ip [.gm m] 0] H fun ce H2=>ce=.ret (lv (rExp (renE f k)))/\H2=H
 | [],_,k,hk=>by cases hk
 | c :: cs,h,k,hk=>by
  rw [okEs] at h
  rcases List.mem_cons.1 hk with q | hk
  ·rw [q];exact term_renamed_1 f m _ c (term_renamed f h0 m es he c h.1)
  ·exact term_renameds f h0 m es he cs h.2 k hk
end
end Go.Aft
end
section
set_option maxRecDepth 20000
namespace Go.Aft
open Go.Proofs.Tryz
structure IterG (n m:Nat) (rows:List LV) (J:Nat->GH->Prop):Prop where
 box:∀ {i:Nat} {H:GH},J i H->H.obj m=some (.box [walkF n m])
 lt:∀ {i:Nat} {H:GH},J i H->n < H.next
 step:∀ {i:Nat} {H:GH} {r:LV},rows[i]?=some r->nbH H->J i H->EYield prog n [r] H fun ce H'=>ce=.ret (bool true)/\H.next<=H'.next/\J (i+1) H'
def WalkG (n m:Nat) (rows:List LV) (J:Nat->GH->Prop) (f:FuncId) (cap:List LV) (neg:Bool) (e:Exp):Prop :=
 ∀ (i:Nat) (H:GH),J i H->(∃ tl,rows.drop i=rowsE e ++ tl)->ECall prog f ([lv (rExp e)] ++ cap) H fun ce H'=>ce=.ret (bool (!neg))/\H.next<=H'.next/\J (i+(allE e).length) H'
theorem nodes_negG {n m:Nat} {rows:List LV} {J:Nat->GH->Prop} (hI:IterG n m rows J) {e:Exp} (h:WalkG n m rows J 165 (walkC n m) false e):WalkG n m rows J 167 [.gp m 0] true e:=by
 intro i H hj ht
 have cc:=cxK_ok (p:=kds [2] [] [])
 refine ECall.bodyN (cxK_ok (p:=kds [2] [] [])) func167 rfl call167 (by rw [ntmps167];simp) rfl fun hf hw=>?_
 have hc:=h i H hj ht
 have hm:=hI.box hj
 have hn:=hI.lt hj
 simp [rExp_eq,walkC] at hc
 have hlt:=hw.lt hm
 simp [ntmps167,results167,rExp_eq,hm,walkF,walkC]
 refine ⟨⟨hn,hlt⟩,EC.of hc (fun v H2 hR=>?_) (fun v H2 hR=>by cases hR.1)⟩
 obtain ⟨q,h1,h2⟩:=hR
 cases q
 simp
 exact fun hz=>⟨H2,hz.drop h1,h1,h2⟩
theorem nodes_walk1G {n m:Nat} {rows:List LV} {J:Nat->GH->Prop} (hI:IterG n m rows J) (op en fold:Int) (name:Str) (calcs:List Calc) (kids:List Exp)
  (ih:∀ k ∈ kids,WalkG n m rows J 165 (walkC n m) false k):WalkG n m rows J 165 (walkC n m) false (.mk op name en fold calcs kids):=by
 intro i H hj ht
 obtain ⟨tl,ht⟩:=ht
 have cc:=cxK_ok (p:=kds [3] [] [])
 have hrow:rows[i]?=some (lv (rExp (.mk op name en fold calcs kids))):=by
  have:(rows.drop i)[0]?=some (lv (rExp (.mk op name en fold calcs kids))):=by rw [ht];simp [rowsE,allE]
  rw [List.getElem?_drop] at this;simpa using this
 have ht1:rows.drop (i+1)=rowsEs kids ++ tl:=by
  rw [<- List.drop_drop,ht];simp [rowsE,rowsEs,allE]
 refine ECall.bodyN (cxK_ok (p:=kds [3] [] [])) func165 rfl call165 (by rw [ntmps165];simp [walkC]) rfl fun hf hw=>?_
 have hlt:=hw.lt (hI.box hj)
 have hnl:=hI.lt hj
 have hy:=hI.step hrow hw hj
 simp [rExp_eq] at hy
 simp [ntmps165,results165,rExp_eq,walkC]
 refine EY.of hy (fun v H1 hR=>?_) (fun v H1 hR=>by cases hR.1)
 obtain ⟨q,hn1,hR⟩:=hR
 cases q
 simp [bool]
 have hm1:=hI.box hR
 have hcon:=containsFunc_eff kids 167 [.gp m 0] H1 (fun j H'=>H1.next<=H'.next/\J (i+1+(allEs (kids.take j)).length) H') (fun H'=>False) (fun x H'=>False)
  (fun j H' q=>q.1) (fun H' q=>q.elim) (fun x H' q=>q.elim)
  (by simp [nbs,LV.nb];omega) (fun j hj' H' q=>?_) ⟨Nat.le_refl _,by simpa [allEs] using hR⟩
 ·simp at hcon
  refine ⟨by omega,EC.of hcon (fun v2 H2 hR2=>?_) (fun v2 H2 hR2=>hR2.elim)⟩
  obtain ⟨q,hs2,hR4⟩:=hR2
  subst q
  simp [bool]
  have e:i+(allE (.mk op name en fold calcs kids)).length=i+1+(allEs kids).length:=by simp [allE];omega
  rw [e]
  exact fun hz=>⟨H2,hz.drop (by omega),by omega,hR4⟩
 ·obtain ⟨qs,qj⟩:=q
  have hsplit:kids=kids.take j ++ (kids[j] :: kids.drop (j+1)):=by
   rw [<- List.drop_eq_getElem_cons hj',List.take_append_drop]
  have hall:allEs kids=allEs (kids.take j) ++ (allE kids[j] ++ allEs (kids.drop (j+1))):=by
   conv=>lhs;rw [hsplit]
   rw [allEs_append];simp only [allEs]
  have htk:allEs (kids.take (j+1))=allEs (kids.take j) ++ allE kids[j]:=by
   rw [List.take_add_one,List.getElem?_eq_getElem hj',allEs_append];simp [allEs]
  have hdj:rows.drop (i+1+(allEs (kids.take j)).length)=rowsE kids[j] ++ (rowsEs (kids.drop (j+1)) ++ tl):=by
   rw [<- List.drop_drop,ht1,rowsEs,hall,List.map_append,List.append_assoc]
   rw [List.drop_append_of_le_length (by simp),List.drop_eq_nil_of_le (by simp)]
   simp [rowsE,rowsEs]
  have hk:=nodes_negG hI (ih kids[j] (List.getElem_mem hj')) (i+1+(allEs (kids.take j)).length) H' qj ⟨_,hdj⟩
  refine hk.mono fun ce H2 hR2=>?_
  obtain ⟨q,s2,hR2⟩:=hR2
  subst q
  exact .inl ⟨rfl,by omega,by rw [htk,List.length_append,<- Nat.add_assoc];exact hR2⟩
theorem nodes_walkG {n m:Nat} {rows:List LV} {J:Nat->GH->Prop} (hI:IterG n m rows J):∀ e:Exp,WalkG n m rows J 165 (walkC n m) false e
 | .mk op name en fold calcs kids=>nodes_walk1G hI op en fold name calcs kids fun k hk=>nodes_walkG hI k
theorem nodes_allG {n:Nat} {e:Exp} {J:Nat->GH->Prop} (H:GH) (hI:IterG n H.next (rowsE e) J) (hn:n < H.next) (hj:J 0 (H.add (.box [walkF n H.next]))) :
  ECall prog 164 [.yl n,.ip ((rExp e).map .d) 0] H fun ce H'=>(∃ v,ce=.ret v)/\H.next<=H'.next/\J (allE e).length H':=by
 have cc:=cxK_ok (p:=kds [2] [3] [])
 refine ECall.bodyN (cxK_ok (p:=kds [2] [3] [])) func164 rfl call164 (by rw [ntmps164];simp) rfl fun hf hw=>?_
 simp [ntmps164,results164,rExp_eq,GH.add_obj,GH.add_next,GH.add_set]
 have hc:=nodes_walkG hI e 0 (H.add (.box [walkF n H.next])) hj ⟨[],by simp⟩
 simp [rExp_eq,walkC,walkF] at hc
 refine ⟨by omega,EC.of hc (fun v H2 hR=>?_) (fun v H2 hR=>by cases hR.1)⟩
 obtain ⟨q,h1,h2⟩:=hR
 rw [GH.add_next] at h1
 simp
 exact fun hz=>⟨H2,hz.drop (by omega),by omega,h2⟩
end Go.Aft
end
section
set_option maxRecDepth 20000
namespace Go.Aft
open Go.Proofs.Tryz
theorem each_expC (l:List Exp) (hl:l.length * 88<=140737488351232) (hk:∀ k ∈ l,AFun prog 102 [lv (rExp k)] (lv (rExp k))):AFun prog 162 [sl (l.map rExp),.fn (.func 102) [] []] (sl (l.map rExp)):=by
 intro H
 have cc:=cx0_ok
 refine ECall.bodyN cx0_ok func162 rfl call162 (by rw [ntmps162];simp) rfl fun hf hw=>?_
 simp [ntmps162,results162] at hf |-
 refine AW.loopS cc (fun a:Nat × LV × GH=>⟨[(1,.fn (.func 102) [] []),(5,a.2.1),(8,.d (.sl (l.map rExp))),(9,lvI l.length),(10,lvI a.1)],[],a.2.2⟩) (fun a=>l.length - a.1) (fun a=>a.1<=l.length/\AppX 68 6 H a.2.1 ((l.take a.1).map rExp) a.2.2) (0,.d (.k (.slice none 0 0)),H) ⟨⟨by simp,.nil⟩,by simp⟩ ?_
 rintro ⟨i,x,H'⟩ ⟨hi,happ⟩
 simp only at hi happ
 simp
 refine ⟨fun h=>?_,fun h=>?_⟩
 ·have hd:=hk l[i] (List.getElem_mem h)
  simp [rExp_eq] at hd
  simp [h,List.getElem?_eq_getElem h,rExp_eq,happ.plain.all]
  refine EC.afun hd ?_
  simp [happ.plain.all]
  refine APK.appX (ys:=[rExp l[i]]) tyE64 rfl tyE68 (by simp) (x:=x) (by simp) happ (by simp [rExp_eq,rowsOf]) (by simp) (fun r hr=>by obtain ⟨_,_,rfl⟩:=List.mem_map.1 hr;simp) (by simp) (by simp;omega) (by simp) fun x' H3 happ' _ _=>?_
  rw [show (l.take i).map rExp ++ [rExp l[i]]=(l.take (i+1)).map rExp by rw [<- take_more h,List.map_append];rfl] at happ'
  simp [happ'.plain.all,happ'.only,wrap_succ (n:=9223372036854775807) (show i < 9223372036854775807 by omega)]
  exact NX.go (i+1,x',H3) (by simp;omega) ⟨h,happ'⟩ (by simp [happ'.only,happ'.plain.all,LV.only,onlys])
 ·have:i=l.length:=by omega
  subst this
  rw [List.take_length] at happ
  simp [happ.plain.all,happ.fz]
  exact fun hz=>Drop_same happ.nx happ.ob hw.none
theorem term_expC1 (op:Int) (name:Str) (n fold:Int) (calcs:List Calc) (kids:List Exp) (hc:okCs calcs) (hcl:calcs.length * 40<=140737488351232) (hkl:kids.length * 88<=140737488351232) (ih:∀ k ∈ kids,AFun prog 102 [lv (rExp k)] (lv (rExp k))) :
  AFun prog 102 [lv (rExp (.mk op name n fold calcs kids))] (lv (rExp (.mk op name n fold calcs kids))):=by
 have cc:=cxK_ok (p:=kds [] [] [])
 refine AFun.body (cxK_ok (p:=kds [] [] [])) func102 rfl call102 (by rw [ntmps102];simp) rfl fun hf H=>?_
 have h1:=each_calc calcs hcl (term_calcsC calcs hc)
 have h2:=each_expC kids hkl ih
 simp at h1 h2
 simp [ntmps102,results102,rExp_eq,Exp.op,Exp.n,Exp.kids,Exp.name,Exp.fold,Exp.calcs]
 refine AW.draw cc [(2,.n),(5,.n)] (.q 0<|.q 3<|.q 1<|.q 2<|.q 4<|.q 5<|.q 6<|.f<|.one 7<|.q 8<|.f<|.one 9<|.done) (by kernel_rfl) ?_
 simp
 refine FC.afun h1 ?_
 simp
 refine FC.afun h2 ?_
 simp [rExp_eq,Exp.op,Exp.n,Exp.kids,Exp.name,Exp.fold,Exp.calcs]
mutual
theorem term_expC:∀ e:Exp,okE e->AFun prog 102 [lv (rExp e)] (lv (rExp e))
 | .mk op name n fold calcs kids,h=>by
  rw [okE] at h
  exact term_expC1 op name n fold calcs kids h.2.2.1 h.1 h.2.1 (term_expsC kids h.2.2.2)
theorem term_expsC:∀ es:List Exp,okEs es->∀ k ∈ es,AFun prog 102 [lv (rExp k)] (lv (rExp k))
 | [],_,k,hk=>by cases hk
 | e :: es,h,k,hk=>by
  rw [okEs] at h
  rcases List.mem_cons.1 hk with q | hk
  ·rw [q];exact term_expC e h.1
  ·exact term_expsC es h.2 k hk
end
mutual
theorem okE_all:∀ e:Exp,okE e->∀ x ∈ allE e,okE x
 | .mk op name n fold calcs kids,h,x,hx=>by
  rw [allE] at hx
  rcases List.mem_cons.1 hx with q | q
  ·rw [q];exact h
  ·rw [okE] at h
   exact okEs_all kids h.2.2.2 x q
theorem okEs_all:∀ es:List Exp,okEs es->∀ x ∈ allEs es,okE x
 | [],_,x,hx=>by rw [allEs] at hx;cases hx
 | e :: es,h,x,hx=>by
  rw [okEs] at h
  rw [allEs] at hx
  rcases List.mem_append.1 hx with q | q
  ·exact okE_all e h.1 x q
  ·exact okEs_all es h.2 x q
end
def OwnV (N:Nat) (x:LV) (rows:List (List DV)) (G:GH):Prop:=VApp 68 6 ⟨G.obj,N⟩ x rows G
theorem OwnV.set {N:Nat} {x:LV} {rows:List (List DV)} {G:GH} (h:OwnV N x rows G) {k:Nat} (hk:k < N) (o:GO):OwnV N x rows (G.set k o):=by
 refine ⟨?_,h.nx,fun m hm=>rfl⟩
 rcases h.is with q | ⟨n,g,q1,q2,q3,q4,q5⟩
 ·exact .inl q
 ·have q1':N<=n:=q1
  exact .inr ⟨n,g,q1,q2,q3,by rw [GH.set_obj,if_neg (by omega)];exact q4,q5⟩
theorem OwnV.nil {N:Nat} {G:GH} (h:N<=G.next):OwnV N (.d (.k (.slice none 0 0))) [] G:=⟨.inl ⟨rfl,rfl⟩,h,fun _ _=>rfl⟩
theorem OwnV.of {N:Nat} {B:GH} (hB:B.next=N) {x:LV} {rows:List (List DV)} {G:GH} (h:VApp 68 6 B x rows G):OwnV N x rows G:=by
 subst hB
 exact ⟨h.is,h.nx,fun _ _=>rfl⟩
theorem flatD_snoc (rows:List (List DV)) (r:List DV):flatD (rows ++ [r])=flatD rows ++ r.map LV.d:=by simp [flatD]
def zeroE:List DV:=[.k (.int .i64 0),.k (.string ⟨#[]⟩),.k (.int .i64 0),.k (.int .i64 0),.k (.slice none 0 0),.k (.slice none 0 0)]
theorem term_Parts (p:Prog) (hp:formed p) (d:Nat) (hd:d < p.defs.length):AFun prog 77 [lv (rProg p),lvI d] (.tup [sl ((allE p.defs[d].exp).map rExp),lvI 0]):=by
 intro H
 have cc:=cxF_ok (r:=none) (f:=77) (p:=kds [2] [8] [31])
 have ccR:∀ l,(cxF (some l) 77 (kds [2] [8] [31])).ok prog:=fun l=>cxF_ok
 have hstr:=formed_strFit hp
 obtain ⟨e,he⟩:∃ e,p.defs[d].exp=e:=⟨_,rfl⟩
 have hok:∀ x ∈ allE e,okE x:=fun x hx=>okE_all e (he ▸ (formed_ok hp).1.2.2 _ (List.getElem_mem hd)) x hx
 have hal:(allE e).length<=60:=by rw [<- he];exact (formed_Good hp).len _ (List.getElem_mem hd)
 refine ECall.bodyNW (cxF_ok (r:=none) (f:=77) (p:=kds [2] [8] [31])) func77 rfl call77 (by rw [ntmps77];simp) rfl fun hf hw=>?_
 have hh:=term_has p hstr hp d hd H
 have hnod:=term_nodes e
 simp [rExp_eq] at hnod
 simp [ntmps77,results77,rProg] at hf |-
 refine AW.seq cc ?_
 simp
 refine AW.seq cc ?_
 simp
 refine EC.of hh (fun v H1 hR=>?_) (fun v H1 hR=>by obtain ⟨⟨_,q,_⟩,_⟩:=hR;cases q)
 obtain ⟨⟨n0,q,hn0,_⟩,hz1,hle1,hsame1⟩:=hR
 cases q
 simp
 refine AW.seq cc ?_
 simp
 refine AW.seq cc ?_
 simp [hd,List.getElem?_eq_getElem hd,rDef,he,rExp_eq]
 refine EC.afun hnod ?_
 simp
 obtain ⟨b8,hb8⟩:∃ b8,H1.next=b8:=⟨_,rfl⟩
 obtain ⟨H2,hH2⟩:∃ H2,H1.add (.box [.d (.k (.slice none 0 0))])=H2:=⟨_,rfl⟩
 have n2:H2.next=b8+1:=by rw [<- hH2,GH.add_next,hb8]
 have oo:H2.obj b8=some (.box [.d (.k (.slice none 0 0))]):=by rw [<- hH2,GH.add_obj,if_pos hb8.symm]
 have ol:∀ m,m < H.next->H2.obj m=H.obj m:=fun m hm=>by rw [<- hH2,GH.add_obj,if_neg (by omega)];exact hsame1 m hm
 rw [hH2,hb8]
 refine AW.nbZ (fun hz2=>?_)
 simp only at hz2
 refine AWp.rangeFunc rfl rfl (f:=164) (first:=[]) (cap:=[.ip ((rExp e).map .d) 0]) (by simp [nodesF,rExp_eq]) (by simp [nodesF])
  [(2,.ip ((rProg p).map .d) 0),(8,.gp b8 0)] (by simp [allL,rProg]) (by simp [allL,LV.nb,nbs,rProg,n2]) (by simp [nbs,LV.nb]) ?_
 simp only [LS.s_mk,List.nil_append,List.singleton_append]
 generalize hx:LP.mk _ _ _ _ _ _ _=x
 have hxf:x.f=77:=by rw [<- hx]
 have hxd:x.d=H2.next:=by rw [<- hx]
 obtain ⟨D,hD⟩:∃ D,H2.next=D:=⟨_,rfl⟩
 have hDn:((H2.add .dfr).add (x.go .ready none)).next=D+2:=by rw [GH.add_next,GH.add_next,hD]
 obtain ⟨J,hJ⟩:∃ J:Nat->GH->Prop,J=fun i G=>G.obj (D+2)=some (.box [walkF (D+1) (D+2)])/\G.obj (D+1)=some (x.go .ready none)/\G.obj D=some .dfr/\(∀ m,m < D->m ≠ b8->G.obj m=H2.obj m) /\
  ∃ y,G.obj b8=some (.box [y])/\OwnV (D+3) y (((allE e).take i).map rExp) G:=⟨_,rfl⟩
 have hI:IterG (D+1) (D+2) (rowsE e) J:=by
  refine ⟨fun {i G} hj=>?_,fun {i G} hj=>?_,fun {i G r} hr hzG hj=>?_⟩
  ·rw [hJ] at hj;exact hj.1
  ·rw [hJ] at hj
   obtain ⟨_,_,_,_,y,_,q6⟩:=hj
   have:=q6.nx
   simp only at this
   omega
  ·rw [hJ] at hj
   obtain ⟨q0,q1,q2,q4,y,q5,q6⟩:=hj
   obtain ⟨e0,he0,rfl⟩:∃ e0,(allE e)[i]?=some e0/\r=lv (rExp e0):=by
    simp only [rowsE,List.getElem?_map,Option.map_eq_some_iff] at hr
    obtain ⟨e0,h1,h2⟩:=hr
    exact ⟨e0,h1,h2.symm⟩
   have hil:i < (allE e).length:=(List.getElem?_eq_some_iff.1 he0).1
   have hcp:=term_expC e0 (hok e0 (List.mem_of_getElem? he0))
   refine EYield.ofN (c:=fun l=>cxF (some l) 77 (kds [2] [8] [31])) ccR (fun l=>by simp [hxf]) q1 ⟨_,by rw [hxf];exact func77⟩ (by rw [<- hx];rfl) (by rw [<- hx];simp) fun hz l=>?_
   have xa:=(congrArg LP.asn hx).symm
   have xb:=(congrArg LP.body hx).symm
   have xe:=(congrArg LP.env hx).symm
   have xp:=(congrArg LP.ps hx).symm
   have xn:=(congrArg LP.nt hx).symm
   dsimp only at xa xb xe xp xn
   rw [xa,xb,xe,xp,xn]
   clear xa xb xe xp xn hx
   simp [putAll,rExp_eq]
   refine ⟨q1,?_⟩
   generalize hob:x.go .busy none=ob
   obtain ⟨G3,hG3⟩:∃ G3,G.set (D+1) ob=G3:=⟨_,rfl⟩
   have c3:∀ m,m ≠ D+1->G3.obj m=G.obj m:=fun m hm=>by rw [<- hG3,GH.set_obj,if_neg (by omega)]
   have oy:G3.obj (D+1)=some ob:=by rw [<- hG3,GH.set_same]
   have n3:G3.next=G.next:=by rw [<- hG3];rfl
   rw [hG3]
   have q63:OwnV (D+3) y (((allE e).take i).map rExp) G3:=by rw [<- hG3];exact q6.set (by omega) _
   have hgx:=q63.nx
   simp only at hgx
   have ob8:G3.obj b8=some (.box [y]):=by rw [c3 _ (by omega)];exact q5
   simp [rExp_eq] at hcp
   refine AW.block (c:=cxF (some l) 77 (kds [2] [8] [31])) ?_
   refine AW.draw (ccR l) [(2,.n)] (.q 4<|.q 0<|.q 1<|.q 2<|.q 3<|.f<|.one 5<|.q 6<|.f (.cons 7 (.f<|.one 8<|.done) (.cons 8 (.f<|.one 7<|.done) (.nil)))) (by kernel_rfl) ?_
   have hr1:List.range' 0 1=[0]:=rfl
   simp [ob8,q63.plain.all,hr1]
   refine FC.afun hcp ?_
   obtain ⟨rows,hrows⟩:∃ rows,((allE e).take i).map rExp=rows:=⟨_,rfl⟩
   have hrl:rows.length=i:=by rw [<- hrows];simp;omega
   have hr6:∀ r ∈ rows,r.length=6:=fun r hr=>by rw [<- hrows] at hr;obtain ⟨_,_,rfl⟩:=List.mem_map.1 hr;simp
   rw [hrows] at q63
   have hlen:∀ X:S,True:=fun _=>trivial
   have hcase:=q63.is
   have happ:VApp 68 6 ⟨G3.obj,D+3⟩ y rows G3:=q63
   rcases hcase with ⟨k1,k2⟩ | ⟨nv,gv,k1,k2,k3,k4,k5⟩
   ·subst k2
    have hi0:i=0:=by rw [<- hrl,k1];rfl
    subst hi0
    simp
    refine APK.appV (ys:=[zeroE]) tyE64 rfl tyE68 (by simp) (by simp) happ (by simp [zeroE,srcOf]) (by simp) hr6 (by simp [zeroE]) (by simp;omega) (by simp) fun x' G4 happ' hnx hsame=>?_
    obtain ⟨m4,g4,e1,e2,e3,e4,e5⟩:=happ'.is.resolve_left (fun q=>by simp at q)
    subst e3
    simp at e1
    have e1':D+3<=m4:=by omega
    have ob84:G4.obj b8=some (.box [.d (.k (.slice none 0 0))]):=by rw [happ'.ob b8 (show b8 < D+3 by omega)];exact ob8
    have hnx':G3.next<=G4.next:=hnx
    obtain ⟨Fl,hFl⟩:∃ Fl,flatD (rows ++ [zeroE])=Fl:=⟨_,rfl⟩
    have hr7:∀ r ∈ rows ++ [zeroE],r.length=6:=fun r hr=>by
     rcases List.mem_append.1 hr with q | q
     ·exact hr6 r q
     ·rw [List.mem_singleton.1 q];rfl
    have hFlen:Fl.length=0 * 6+6:=by
     rw [<- hFl,flat_len hr7,List.length_append,hrl,List.length_singleton]
    have hput:Fl.take (0 * 6) ++ ((rExp e0).map LV.d) ++ Fl.drop (0 * 6+6)=flatD (rows ++ [rExp e0]):=by
     rw [List.drop_eq_nil_of_le (by omega),List.append_nil,<- hFl,flatD_snoc,flatD_snoc,List.take_left' (by rw [flat_len (sz:=6) hr6,hrl])]
    rw [hFl] at e4
    have hm4:∀ o,(G4.set b8 o).obj m4=some (.vec 68 g4 6 Fl false):=fun o=>by rw [GH.set_obj,if_neg (by omega)];exact e4
    have hm5:∀ o,(G4.set m4 o).obj b8=some (.box [.d (.k (.slice none 0 0))]):=fun o=>by rw [GH.set_obj,if_neg (by omega)];exact ob84
    obtain ⟨C,hC⟩:∃ C,flatD (rows ++ [rExp e0])=C:=⟨_,rfl⟩
    rw [hC] at hput
    simp [rExp_eq] at hput
    have hm4lt:m4 < G4.next:=e2
    have hfin:∀ G6:GH,G6.next=G4.next->G6.obj b8=some (.box [.vs m4 g4 6 0 (0+1)])->G6.obj m4=some (.vec 68 g4 6 C false)->(∀ m,m ≠ m4->m ≠ b8->G6.obj m=G4.obj m)->nbH G6 ->
      (∃ a b,G6.obj (D+1)=some (x.go a b))/\∃ H',Drop G (G6.set (D+1) (x.go .ready none)) H'/\G.next<=H'.next/\J (0+1) H':=fun G6 u1 u2 u3 u4 hz6=>by
     have v1:G6.obj (D+1)=some ob:=by rw [u4 _ (by omega) (by omega),happ'.ob _ (show D+1 < D+3 by omega)];exact oy
     refine ⟨⟨.busy,none,by rw [v1,hob]⟩,G6.set (D+1) (x.go .ready none),?_,by rw [GH.set_next,u1];omega,?_⟩
     ·exact (hz6.set (by omega) (GO.nb_mono (by omega) (hzG.nb _ _ q1))).drop (by rw [GH.set_next];omega)
     ·rw [hJ]
      refine ⟨?_,by rw [GH.set_same],?_,fun m hm hne=>?_,.vs m4 g4 6 0 (0+1),?_,?_⟩
      ·rw [GH.set_obj,if_neg (by omega),u4 _ (by omega) (by omega),happ'.ob _ (show D+2 < D+3 by omega)]
       show G3.obj (D+2)=_
       rw [c3 _ (by omega)];exact q0
      ·rw [GH.set_obj,if_neg (by omega),u4 _ (by omega) (by omega),happ'.ob _ (show D < D+3 by omega)]
       show G3.obj D=_
       rw [c3 _ (by omega)];exact q2
      ·rw [GH.set_obj,if_neg (by omega),u4 _ (by omega) (by omega),happ'.ob _ (show m < D+3 by omega)]
       show G3.obj m=_
       rw [c3 _ (by omega)];exact q4 m hm hne
      ·rw [GH.set_obj,if_neg (by omega)];exact u2
      ·have hrow2:((allE e).take (0+1)).map rExp=rows ++ [rExp e0]:=by
        rw [List.take_add_one,he0,List.map_append,hrows];rfl
       rw [hrow2]
       refine ⟨.inr ⟨m4,g4,by simp only;omega,by rw [GH.set_next,u1];exact hm4lt,by simp [hrl],?_,by simp⟩,by simp only [GH.set_next];omega,fun m hm=>rfl⟩
       rw [GH.set_obj,if_neg (by omega),hC];exact u3
    simp [e4,hrl,ob84,hm4,hm5,hFlen]
    rw [hput]
    have hneq:m4 ≠ b8:=by omega
    have hcm:∀ X Y:GO,(G4.set b8 X).set m4 Y=(G4.set m4 Y).set b8 X:=fun X Y=>GH.set_comm (Ne.symm hneq)
    have hend:=hfin ((G4.set m4 (.vec 68 g4 6 C false)).set b8 (.box [.vs m4 g4 6 0 (0+1)])) rfl GH.set_same (by rw [GH.set_obj,if_neg hneq,GH.set_same]) (fun m h1 h2=>by rw [GH.set_obj,if_neg h2,GH.set_obj,if_neg h1])
    rw [hcm]
    try simp at hend
    exact ⟨⟨hm4lt,hend⟩,hm4lt,hend⟩
   ·subst k3
    simp
    refine APK.appV (ys:=[zeroE]) tyE64 rfl tyE68 (by simp) (by simp) happ (by simp [zeroE,srcOf]) (by simp) hr6 (by simp [zeroE]) (by simp;omega) (by simp) fun x' G4 happ' hnx hsame=>?_
    obtain ⟨m4,g4,e1,e2,e3,e4,e5⟩:=happ'.is.resolve_left (fun q=>by simp at q)
    subst e3
    simp at e1
    have e1':D+3<=m4:=by omega
    have ob84:G4.obj b8=some (.box [.vs nv gv 6 0 rows.length]):=by rw [happ'.ob b8 (show b8 < D+3 by omega)];exact ob8
    have hnx':G3.next<=G4.next:=hnx
    obtain ⟨Fl,hFl⟩:∃ Fl,flatD (rows ++ [zeroE])=Fl:=⟨_,rfl⟩
    have hr7:∀ r ∈ rows ++ [zeroE],r.length=6:=fun r hr=>by
     rcases List.mem_append.1 hr with q | q
     ·exact hr6 r q
     ·rw [List.mem_singleton.1 q];rfl
    have hFlen:Fl.length=i * 6+6:=by
     rw [<- hFl,flat_len hr7,List.length_append,hrl,List.length_singleton];omega
    have hput:Fl.take (i * 6) ++ ((rExp e0).map LV.d) ++ Fl.drop (i * 6+6)=flatD (rows ++ [rExp e0]):=by
     rw [List.drop_eq_nil_of_le (by omega),List.append_nil,<- hFl,flatD_snoc,flatD_snoc,List.take_left' (by rw [flat_len (sz:=6) hr6,hrl])]
    rw [hFl] at e4
    have hm4:∀ o,(G4.set b8 o).obj m4=some (.vec 68 g4 6 Fl false):=fun o=>by rw [GH.set_obj,if_neg (by omega)];exact e4
    have hm5:∀ o,(G4.set m4 o).obj b8=some (.box [.vs nv gv 6 0 rows.length]):=fun o=>by rw [GH.set_obj,if_neg (by omega)];exact ob84
    obtain ⟨C,hC⟩:∃ C,flatD (rows ++ [rExp e0])=C:=⟨_,rfl⟩
    rw [hC] at hput
    simp [rExp_eq] at hput
    have hm4lt:m4 < G4.next:=e2
    have hfin:∀ G6:GH,G6.next=G4.next->G6.obj b8=some (.box [.vs m4 g4 6 0 (i+1)])->G6.obj m4=some (.vec 68 g4 6 C false)->(∀ m,m ≠ m4->m ≠ b8->G6.obj m=G4.obj m)->nbH G6 ->
      (∃ a b,G6.obj (D+1)=some (x.go a b))/\∃ H',Drop G (G6.set (D+1) (x.go .ready none)) H'/\G.next<=H'.next/\J (i+1) H':=fun G6 u1 u2 u3 u4 hz6=>by
     have v1:G6.obj (D+1)=some ob:=by rw [u4 _ (by omega) (by omega),happ'.ob _ (show D+1 < D+3 by omega)];exact oy
     refine ⟨⟨.busy,none,by rw [v1,hob]⟩,G6.set (D+1) (x.go .ready none),?_,by rw [GH.set_next,u1];omega,?_⟩
     ·exact (hz6.set (by omega) (GO.nb_mono (by omega) (hzG.nb _ _ q1))).drop (by rw [GH.set_next];omega)
     ·rw [hJ]
      refine ⟨?_,by rw [GH.set_same],?_,fun m hm hne=>?_,.vs m4 g4 6 0 (i+1),?_,?_⟩
      ·rw [GH.set_obj,if_neg (by omega),u4 _ (by omega) (by omega),happ'.ob _ (show D+2 < D+3 by omega)]
       show G3.obj (D+2)=_
       rw [c3 _ (by omega)];exact q0
      ·rw [GH.set_obj,if_neg (by omega),u4 _ (by omega) (by omega),happ'.ob _ (show D < D+3 by omega)]
       show G3.obj D=_
       rw [c3 _ (by omega)];exact q2
      ·rw [GH.set_obj,if_neg (by omega),u4 _ (by omega) (by omega),happ'.ob _ (show m < D+3 by omega)]
       show G3.obj m=_
       rw [c3 _ (by omega)];exact q4 m hm hne
      ·rw [GH.set_obj,if_neg (by omega)];exact u2
      ·have hrow2:((allE e).take (i+1)).map rExp=rows ++ [rExp e0]:=by
        rw [List.take_add_one,he0,List.map_append,hrows];rfl
       rw [hrow2]
       refine ⟨.inr ⟨m4,g4,by simp only;omega,by rw [GH.set_next,u1];exact hm4lt,by simp [hrl],?_,by simp⟩,by simp only [GH.set_next];omega,fun m hm=>rfl⟩
       rw [GH.set_obj,if_neg (by omega),hC];exact u3
    simp [e4,hrl,ob84,hm4,hm5,hFlen]
    rw [hput]
    have hneq:m4 ≠ b8:=by omega
    have hcm:∀ X Y:GO,(G4.set b8 X).set m4 Y=(G4.set m4 Y).set b8 X:=fun X Y=>GH.set_comm (Ne.symm hneq)
    have hend:=hfin ((G4.set m4 (.vec 68 g4 6 C false)).set b8 (.box [.vs m4 g4 6 0 (i+1)])) rfl GH.set_same (by rw [GH.set_obj,if_neg hneq,GH.set_same]) (fun m h1 h2=>by rw [GH.set_obj,if_neg h2,GH.set_obj,if_neg h1])
    rw [hcm]
    try simp at hend
    exact ⟨by omega,⟨hm4lt,hend⟩,hm4lt,hend⟩
 have hj0:J 0 (((H2.add .dfr).add (x.go .ready none)).add (.box [walkF (D+1) (D+2)])):=by
  rw [hJ]
  refine ⟨?_,?_,?_,fun m hm hne=>?_,.d (.k (.slice none 0 0)),?_,?_⟩
  ·rw [GH.add_obj,hDn,if_pos rfl]
  ·rw [GH.add_obj,hDn,if_neg (by omega),GH.add_obj,GH.add_next,hD,if_pos rfl]
  ·rw [GH.add_obj,hDn,if_neg (by omega),GH.add_obj,GH.add_next,hD,if_neg (by omega),GH.add_obj,hD,if_pos rfl]
  ·rw [GH.add_obj,hDn,if_neg (by omega),GH.add_obj,GH.add_next,hD,if_neg (by omega),GH.add_obj,hD,if_neg (by omega)]
  ·rw [GH.add_obj,hDn,if_neg (by omega),GH.add_obj,GH.add_next,hD,if_neg (by omega),GH.add_obj,hD,if_neg (by omega)];exact oo
  ·exact OwnV.nil (by rw [GH.add_next,hDn];omega)
 have hkw:=nodes_allG (n:=D+1) (e:=e) (J:=J) ((H2.add .dfr).add (x.go .ready none)) (by rw [hDn];exact hI) (by rw [hDn];omega) (by rw [hDn];exact hj0)
 rw [hD]
 refine hkw.mono fun ce H3 hR=>?_
 obtain ⟨⟨v,hv⟩,hle,hj⟩:=hR
 subst hv
 rw [hJ] at hj
 obtain ⟨q0,q1,q2,q4,y,q5,q6⟩:=hj
 refine ⟨.ready,none,q1,by simp,?_⟩
 simp [jumpQ,hxd]
 rw [List.take_length] at q6
 have hne:(allE e).map rExp ≠ []:=by
  obtain ⟨op,name,n,fold,calcs,kids⟩:=e
  simp [allE]
 obtain ⟨nv,gv,k1,k2,k3,k4,k5⟩:=q6.is.resolve_left (fun q=>hne q.1)
 simp only at k1
 subst k3
 obtain ⟨H4,hH4⟩:∃ H4,H3.set (D+1) (x.go .exhausted none)=H4:=⟨_,rfl⟩
 have n4:H4.next=H3.next:=by rw [<- hH4];rfl
 have o4:∀ m,m ≠ D+1->H4.obj m=H3.obj m:=fun m hm=>by rw [<- hH4,GH.set_obj,if_neg hm]
 rw [hH4]
 have ov4:H4.obj nv=some (.vec 68 gv 6 (flatD ((allE e).map rExp)) false):=by rw [o4 _ (by omega)];exact k4
 have ob4:H4.obj b8=some (.box [.vs nv gv 6 0 ((allE e).map rExp).length]):=by rw [o4 _ (by omega)];exact q5
 have od4:H4.obj D=some .dfr:=by rw [o4 _ (by omega)];exact q2
 have ol4:∀ m,m < H.next->H4.obj m=H.obj m:=fun m hm=>by rw [o4 _ (by omega),q4 m (by omega) (by omega)];exact ol m hm
 refine AW.thaw (n:=nv) (g:=gv) (sz:=6) (e:=68) (ex:=false) ((allE e).map rExp) ov4 rfl (fun r hr=>by obtain ⟨_,_,rfl⟩:=List.mem_map.1 hr;simp) ?_
 refine AW.ev cc ?_
 have hb8n:b8 ≠ nv:=by omega
 simp [ob4,hb8n]
 refine fun _=>⟨⟨by omega,.dfr,by rw [hD];exact od4,rfl⟩,Drop_same (by simp only;omega) (fun m hm=>?_) hw.none,?_⟩
 ·simp only [upd_apply]
  rw [if_neg (by omega)]
  exact thaw_lt hw (show H.next<=nv by omega) (fun k hk=>ol4 k hk) hm
 ·rw [he]
  exact List.take_of_length_le (by simp)
end Go.Aft
end
section
set_option maxRecDepth 20000
namespace Go.Aft
open Go.Proofs.Tryz
theorem mean_Node1 (p:Prog) (hs:∀ s ∈ p.srcs ++ defNames p,strFit s) (l:List Event) (d:Nat) (hd:d < p.defs.length) (node:Nat) (hn:node < (allE p.defs[d].exp).length) (ha:askedM p l=true) {defs:List Bag} (hk:knownM p l=some defs) (hdl:defs.length=p.defs.length) (hdok:∀ b ∈ defs,BagOk b) (hxo:ExpOk p (allE p.defs[d].exp)[node])
  {x:Item} {t:List Item} (hb:expM p ⟨srcsM p l,defs⟩ 200 (allE p.defs[d].exp)[node]=some (x :: t)) (htl:t.length<=1000):AFun prog 30 [lv (rProg p),sl (l.map rEvent),lvI d,lvI node] (.tup [bagL (x :: t),lvI 0]):=by
 intro H
 have cc:=cxK_ok (p:=kds [4] [] [])
 refine ECall.bodyNW (cxK_ok (p:=kds [4] [] [])) func30 rfl call30 (by rw [ntmps30];simp) rfl fun hf hw=>?_
 have h1:=mean_asked p hs l
 obtain ⟨hp,hl,hi⟩:=asked_ok ha
 have hfb:=formed_b hp
 have hkn:=mean_known p hs hp (by have:=hfb.s1;omega) (by have:=hfb.s4;omega) (formed_Good hp) hfb.dif (formed_exp hp) l hl hi H
 have hpa:=term_Parts p hp d hd
 obtain ⟨L,hL⟩:∃ L,allE p.defs[d].exp=L:=⟨_,rfl⟩
 obtain ⟨e,he⟩:∃ e,(allE p.defs[d].exp)[node]=e:=⟨_,rfl⟩
 rw [he] at hxo hb
 simp only [hL] at hpa hn he
 rw [ha] at h1
 have hcl:=bag_Clone x t htl
 simp [rProg] at h1 hkn hpa hcl
 simp [ntmps30,results30,rProg] at hf |-
 refine AW.seq cc ?_
 simp
 refine AW.seq cc ?_
 simp
 refine EC.afun h1 ?_
 have hd1:¬ ((p.defs.length:Int)<=d):=by omega
 have hd2:¬ ((d:Int) < 0):=by omega
 simp [hd1,hd2]
 refine AW.seq cc ?_
 simp
 refine EC.afun hpa ?_
 simp
 have hn1:¬ ((L.length:Int)<=node):=by omega
 have hn2:¬ ((node:Int) < 0):=by omega
 refine AW.seq cc ?_
 simp [hn1,hn2]
 refine AW.seq cc ?_
 simp
 refine EC.of hkn (fun v H2 hR=>?_) (fun v H2 hR=>by
  unfold KnownR at hR
  rw [hk] at hR
  obtain ⟨_,_,_,_,_,q,_⟩:=hR;cases q)
 unfold KnownR at hR
 rw [hk] at hR
 obtain ⟨n,ms,mn,mv,ma,q1,q2,hW,q4,q5,q6⟩:=hR
 cases q1
 have hsok:∀ b ∈ srcsM p l,BagOk b:=fun b hb=>by
  obtain ⟨i,_,rfl⟩:=List.mem_map.1 hb
  exact says_ok hl hi (i:Nat)
 have hex:=world_exp (W:=⟨srcsM p l,defs⟩) hsok hdok (top:=200) (Int.le_refl _) _ e (Nat.lt_succ_self _) hxo H2 hW
 rw [hb] at hex
 simp [rExp_eq] at hex
 simp
 refine AW.ev cc ?_
 have hLe:L[node]?=some e:=by rw [List.getElem?_eq_getElem hn,he]
 have ln:n < H2.next:=q6.lt hW.wld.ob
 simp [hn,he,rExp_eq]
 refine ⟨ln,EC.of hex (fun v H3 hR=>?_) (fun v H3 hR=>by cases hR.2)⟩
 obtain ⟨hE,hv⟩:=hR
 cases hv
 rw [hE]
 simp [bagL]
 refine EC.afun hcl ?_
 simp
 exact fun hz=>⟨Drop_same q4 q5 hw.none,rfl⟩
section
variable {p:Prog} {S:List Bag} (hS:∀ b ∈ S,BagOk b) (he:∀ (d:Nat) (h:d < p.defs.length),ExpOk p p.defs[d].exp)
include hS he
theorem passK_ok {T:Int} (hT:T<=200):∀ (g:List Nat),(∀ d ∈ g,d < p.defs.length)->∀ (defs D:List Bag),passK p S T g defs=some D->(∀ b ∈ defs,BagOk b)->D.length=defs.length/\∀ b ∈ D,BagOk b
 | [],_,defs,D,h,hd=>by rw [passK] at h;cases h;exact ⟨rfl,hd⟩
 | d :: g,hg,defs,D,h,hd=>by
  rw [passK] at h
  split at h
  ·cases h
  ·rename_i defs1 h1
   rw [stepK] at h1
   split at h1
   ·cases h1
   ·rename_i b hb
    have e1:defs1=defs.set d b:=(Option.some.inj h1).symm
    subst e1
    have hdl:=hg d (List.mem_cons_self ..)
    have hb':expM p ⟨S,defs⟩ T p.defs[d].exp=some b:=by
     have:=expOf_eq hdl
     unfold expOf at this
     rw [<- this];exact hb
    have hbok:BagOk b:=expM_ok (W:=⟨S,defs⟩) hS hd hT _ _ (Nat.lt_succ_self _) (he d hdl) b hb'
    have ih:=passK_ok hT g (fun k hk=>hg k (List.mem_cons_of_mem _ hk)) _ D h fun c hc=>by
     rcases List.mem_or_eq_of_mem_set hc with q | q
     ·exact hd c q
     ·rw [q];exact hbok
    exact ⟨by rw [ih.1,List.length_set],ih.2⟩
theorem topsK_ok {far:Int} {g:List Nat} (hg:∀ d ∈ g,d < p.defs.length):∀ (f:Nat) (top:Int),top<=200->∀ (defs D:List Bag),topsK p S far g f top defs=some D->(∀ b ∈ defs,BagOk b)->D.length=defs.length/\∀ b ∈ D,BagOk b
 | 0,_,_,defs,D,h,hd=>by rw [topsK] at h;cases h;exact ⟨rfl,hd⟩
 | f+1,top,ht,defs,D,h,hd=>by
  rw [topsK] at h
  split at h
  ·cases h
  ·rename_i d1 h1
   have hp:=passK_ok hS he ht g hg defs d1 h1 hd
   split at h
   ·cases h;exact hp
   ·have hm:minI (top+far) 200<=200:=by unfold minI;split <;> omega
    have ih:=topsK_ok hg f _ hm d1 D h hp.2
    exact ⟨ih.1.trans hp.1,ih.2⟩
theorem groupsK_ok:∀ (gs:List (List Nat)),(∀ g ∈ gs,∀ d ∈ g,d < p.defs.length)->∀ (defs D:List Bag),groupsK p S gs defs=some D->(∀ b ∈ defs,BagOk b)->D.length=defs.length/\∀ b ∈ D,BagOk b
 | [],_,defs,D,h,hd=>by rw [groupsK] at h;cases h;exact ⟨rfl,hd⟩
 | g :: gs,hg,defs,D,h,hd=>by
  rw [groupsK] at h
  split at h
  ·cases h
  ·rename_i d1 h1
   have hm:minI (farM p g - 1) 200<=200:=by unfold minI;split <;> omega
   have hp:=topsK_ok hS he (hg g (List.mem_cons_self ..)) 202 _ hm defs d1 h1 hd
   have ih:=groupsK_ok gs (fun g' hg'=>hg g' (List.mem_cons_of_mem _ hg')) d1 D h hp.2
   exact ⟨ih.1.trans hp.1,ih.2⟩
end
theorem known_ok {p:Prog} {l:List Event} (ha:askedM p l=true) {defs:List Bag} (h:knownM p l=some defs):defs.length=p.defs.length/\∀ b ∈ defs,BagOk b:=by
 obtain ⟨hp,hl,hi⟩:=asked_ok ha
 have hgi:=(groupsGo_ok (p:=p) p.defs.length [] (fun x hx=>absurd hx List.not_mem_nil)).1
 have:=groupsK_ok (p:=p) (S:=srcsM p l) (fun b hb=>by
  obtain ⟨i,_,rfl⟩:=List.mem_map.1 hb
  exact says_ok hl hi (i:Nat)) (formed_exp hp) (groupsM p.defs.length (pathB p)) (fun g hg d hd=>(hgi g hg).1.lt hd) _ defs h fun b hb=>by rw [List.eq_of_mem_replicate hb];exact ⟨.nil,by simp,by simp⟩
 exact ⟨by rw [this.1];simp,this.2⟩
theorem exQ_asked:askedM exQ exE=true:=by
 have h1:decide (exE.length<=60)=true:=by decide
 have h2:evsOk exE=true:=by decide +kernel
 have h3:formedB (exE.map evN) exQ.srcs.length=true:=by decide +kernel
 have h4:=exQ_formed
 simp [askedM,h4,h2,h3]
 decide
def exCalc:Calc:=.mk 7 0 [.mk 5 0 [],.mk 2 0 []]
theorem exQ_calc:mAsk exCalc ⟨10,1,5⟩ 7/\cVal ⟨10,1,5⟩ 7 exCalc = -3:=by decide +kernel
theorem exQ_fold:foldE 2 [⟨⟨10,1,5⟩,3⟩]=.tup [lvI 15,lvI 0]:=by
 have h1:plainB' [⟨⟨10,1,5⟩,3⟩]=true:=by decide +kernel
 have h2:foldI 2 [⟨⟨10,1,5⟩,3⟩]=15:=by decide +kernel
 unfold foldE
 rw [if_pos ⟨by omega,by omega,h1⟩,if_neg (by simp),h2]
theorem exQ_fold0:foldE 2 []=.tup [lvI 0,lvI 5]:=by
 have h1:plainB' []=true:=by decide +kernel
 unfold foldE
 rw [if_pos ⟨by omega,by omega,h1⟩,if_pos rfl]
end Go.Aft
end
