import Derived.Test.YtdhphbedajhmnaaGreatA42
import Derived.Test.YtdhphbedajhmnaaGreatA40
set_option linter.all false
section
set_option maxRecDepth 20000
namespace Go.Aft
theorem plain_op {p:Prog} {e:Exp} (hp:(plainOf p e).2=true):e.op=8:=by
 unfold plainOf at hp
 split at hp
 ·cases hp
 ·rename_i h;simpa using h
end Go.Aft
end
section
set_option maxRecDepth 20000
namespace Go.Aft
open Go.Proofs.Tryz
mutual
def okC:Calc->Prop
 | .mk op n kids=>kids.length * 40<=140737488351232/\okCs kids
def okCs:List Calc->Prop
 | []=>True
 | c :: cs=>okC c/\okCs cs
end
mutual
def okE:Exp->Prop
 | .mk op name n fold calcs kids=>calcs.length * 40<=140737488351232/\kids.length * 88<=140737488351232/\okCs calcs/\okEs kids
def okEs:List Exp->Prop
 | []=>True
 | e :: es=>okE e/\okEs es
end
def okP (p:Prog):Prop:=p.srcs.length * 16<=140737488351232/\p.defs.length * 104<=140737488351232/\∀ d ∈ p.defs,okE d.exp
mutual
theorem ref02_CopyCalc:∀ c:Calc,okC c->AFun prog 94 [lv (rCalc c)] (lv (rCalc c))
 | .mk op n kids,h=>by
  rw [okC] at h
  exact ref02_CopyCalc1 op n kids h.1 (ref02_CopyCalcs kids h.2)
theorem ref02_CopyCalcs:∀ cs:List Calc,okCs cs->∀ k ∈ cs,AFun prog 94 [lv (rCalc k)] (lv (rCalc k))
 | [],_,k,hk=>by cases hk
 | c :: cs,h,k,hk=>by
  rw [okCs] at h
  rcases List.mem_cons.1 hk with q | hk
  ·rw [q];exact ref02_CopyCalc c h.1
  ·exact ref02_CopyCalcs cs h.2 k hk
end
theorem ref02_CopyExp1 (op:Int) (name:Str) (n fold:Int) (calcs:List Calc) (kids:List Exp) (hc:calcs.length * 40<=140737488351232) (hk:kids.length * 88<=140737488351232) (hcs:∀ k ∈ calcs,AFun prog 94 [lv (rCalc k)] (lv (rCalc k)))
  (ih:∀ k ∈ kids,AFun prog 56 [lv (rExp k)] (lv (rExp k))):AFun prog 56 [lv (rExp (.mk op name n fold calcs kids))] (lv (rExp (.mk op name n fold calcs kids))):=by
 have cc:=cxK_ok (p:=kds [1] [] [])
 refine AFun.body (cxK_ok (p:=kds [1] [] [])) func56 rfl call56 (by rw [ntmps56];simp) rfl fun hf H=>?_
 simp [ntmps56,results56,rExp_eq,Exp.op,Exp.n,Exp.kids,Exp.name,Exp.fold,Exp.calcs]
 refine AW.loopS cc (fun a:Nat × LV × GH=>⟨[(1,.ip [lvI op,.d (.k (.string name)),lvI n,lvI fold,sl (calcs.map rCalc),sl (kids.map rExp)] 0),(2,.lp 2 0),(3,.lp 3 0),(4,lvI a.1)],
  [(2,[lvI 0,.d (.k (.string ⟨#[]⟩)),lvI 0,lvI 0,.d (.k (.slice none 0 0)),.d (.k (.slice none 0 0))]),(3,[lvI op,.d (.k (.string name)),lvI n,lvI fold,a.2.1,.d (.k (.slice none 0 0))])],a.2.2⟩) (fun a=>calcs.length - a.1) (fun a=>a.1<=calcs.length/\AppX 135 3 H a.2.1 ((calcs.take a.1).map rCalc) a.2.2) (0,.d (.k (.slice none 0 0)),H) ⟨⟨Nat.zero_le _,.nil⟩,by simp⟩ ?_
 rintro ⟨i,x,H'⟩ ⟨hi,happ⟩
 simp only at hi happ
 simp
 refine ⟨fun h=>?_,fun h=>?_⟩
 ·refine AW.draw cc [(7,.n)] (.q 0<|.q 2<|.q 4<|.q 1<|.f<|.one 3<|.q 5<|.f<|.one 6<|.q 7<|.q 8<|.f<|.one 9<|.q 10<|.f<|.one 11<|.done) (by kernel_rfl) ?_
  simp [h,List.getElem?_eq_getElem h,rCalc_eq]
  refine FC.afun (v:=lv (rCalc calcs[i])) (by simpa [rCalc_eq] using hcs calcs[i] (List.getElem_mem h)) ?_
  simp [rCalc_eq]
  refine APK.appX (ys:=[rCalc calcs[i]]) tyE68 rfl tyE135 (by simp) (x:=x) (by simp) happ (by simp [rCalc_eq,rowsOf]) (by simp) (fun r hr=>by obtain ⟨_,_,rfl⟩:=List.mem_map.1 hr;simp) (by simp) (by simp;omega) (by simp) fun x' H' happ' _ _=>?_
  rw [show (calcs.take i).map rCalc ++ [rCalc calcs[i]]=(calcs.take (i+1)).map rCalc by rw [<- take_more h,List.map_append];rfl] at happ'
  simp [happ'.plain.all,happ'.only,wrap_succ (n:=9223372036854775807) (show i < 9223372036854775807 by omega)]
  exact NX.go (i+1,x',H') (by simp only;omega) ⟨h,happ'⟩ (by simp [happ'.only])
 ·have e:i=calcs.length:=by omega
  subst e
  rw [List.take_length] at happ
  simp [happ.plain.all]
  refine AW.loopS cc (fun a:Nat × LV × GH=>⟨[(1,.ip [lvI op,.d (.k (.string name)),lvI n,lvI fold,sl (calcs.map rCalc),sl (kids.map rExp)] 0),(2,.lp 2 0),(3,.lp 3 0),(5,lvI a.1)],
   [(2,[lvI 0,.d (.k (.string ⟨#[]⟩)),lvI 0,lvI 0,.d (.k (.slice none 0 0)),.d (.k (.slice none 0 0))]),(3,[lvI op,.d (.k (.string name)),lvI n,lvI fold,x,a.2.1])],a.2.2⟩) (fun a=>kids.length - a.1) (fun a=>a.1<=kids.length/\AppX 105 6 H' a.2.1 ((kids.take a.1).map rExp) a.2.2) (0,.d (.k (.slice none 0 0)),H') ⟨⟨Nat.zero_le _,.nil⟩,by simp [happ.only]⟩ ?_
  rintro ⟨i,y,H2⟩ ⟨hi,hy⟩
  simp only at hi hy
  simp [happ.plain.all]
  refine ⟨fun h=>?_,fun h=>?_⟩
  ·refine AW.draw cc [(7,.n)] (.q 0<|.q 2<|.q 4<|.q 1<|.f<|.one 3<|.q 5<|.f<|.one 6<|.q 7<|.q 8<|.f<|.one 9<|.q 10<|.f<|.one 11<|.done) (by kernel_rfl) ?_
   simp [h,List.getElem?_eq_getElem h,rExp_eq]
   refine FC.afun (v:=lv (rExp kids[i])) (by simpa [rExp_eq] using ih kids[i] (List.getElem_mem h)) ?_
   simp [rExp_eq]
   refine APK.appX (ys:=[rExp kids[i]]) tyE103 rfl tyE105 (by simp) (x:=y) (by simp) hy (by simp [rExp_eq,rowsOf]) (by simp) (fun r hr=>by obtain ⟨_,_,rfl⟩:=List.mem_map.1 hr;simp) (by simp) (by simp;omega) (by simp) fun y' H3 hy' _ _=>?_
   rw [show (kids.take i).map rExp ++ [rExp kids[i]]=(kids.take (i+1)).map rExp by rw [<- take_more h,List.map_append];rfl] at hy'
   simp [happ.plain.all,hy'.plain.all,hy'.only,wrap_succ (n:=9223372036854775807) (show i < 9223372036854775807 by omega)]
   exact NX.go (i+1,y',H3) (by simp only;omega) ⟨h,hy'⟩ (by simp [happ.only,hy'.only])
  ·have e:i=kids.length:=by omega
   subst e
   rw [List.take_length] at hy
   have ha2:=happ.mono hy.nx hy.ob
   simp [happ.plain.all,hy.plain.all,happ.fz,hy.fz]
   exact ⟨by rw [rExp_eq];rfl,ha2.nx,ha2.ob⟩
mutual
theorem ref02_CopyExp:∀ e:Exp,okE e->AFun prog 56 [lv (rExp e)] (lv (rExp e))
 | .mk op name n fold calcs kids,h=>by
  rw [okE] at h
  exact ref02_CopyExp1 op name n fold calcs kids h.1 h.2.1 (ref02_CopyCalcs calcs h.2.2.1) (ref02_CopyExps kids h.2.2.2)
theorem ref02_CopyExps:∀ es:List Exp,okEs es->∀ k ∈ es,AFun prog 56 [lv (rExp k)] (lv (rExp k))
 | [],_,k,hk=>by cases hk
 | c :: cs,h,k,hk=>by
  rw [okEs] at h
  rcases List.mem_cons.1 hk with q | hk
  ·rw [q];exact ref02_CopyExp c h.1
  ·exact ref02_CopyExps cs h.2 k hk
end
end Go.Aft
end
section
set_option maxRecDepth 20000
namespace Go.Aft
open Go.Proofs.Tryz
end Go.Aft
end
section
set_option maxRecDepth 20000
namespace Go.Aft
open Go.Proofs.Tryz
end Go.Aft
end
section
set_option maxRecDepth 20000
namespace Go.Aft
open Go.Proofs.Tryz
theorem calcOk_len {o:Bool} {op n:Int} {k:Nat} (h:calcOk o op n k=true):k<=2:=by
 unfold calcOk at h
 split at h
 ·simp at h;omega
 ·split at h
  ·simp at h;omega
  ·split at h
   ·simp at h;omega
   ·simp at h;omega
mutual
theorem lCalc_okC {o:Bool}:∀ (c:Calc) (d f l:Int),lCalc o c d f=some l->okC c
 | .mk op n kids,d,f,l,h=>by
  rw [lCalc] at h
  split at h
  ·rename_i hc
   have:=calcOk_len hc.2.2
   exact ⟨by omega,lCalcs_okC kids _ _ _ h⟩
  ·cases h
theorem lCalcs_okC {o:Bool}:∀ (cs:List Calc) (d f l:Int),lCalcs o cs d f=some l->okCs cs
 | [],d,f,l,h=>trivial
 | c :: cs,d,f,l,h=>by
  rw [lCalcs] at h
  split at h
  ·rename_i l' hl
   exact ⟨lCalc_okC c _ _ _ hl,lCalcs_okC cs _ _ _ h⟩
  ·cases h
end
theorem ite_some {α:Type} {c:Prop} [Decidable c] {a x:α} {o:Option α} {P:α->Prop} (h:(if c then some a else o)=some x) (h1:P a) (h2:o=some x->P x):P x:=by
 by_cases q:c
 ·rw [if_pos q] at h;cases h;exact h1
 ·rw [if_neg q] at h;exact h2 h
theorem shp_small {op:Int} {x:Shp} (h:shpOf op=some x):x.kids<=2/\x.calcs<=2:=by
 unfold shpOf at h
 iterate 13
  refine ite_some (P:=fun x:Shp=>x.kids<=2/\x.calcs<=2) h (by decide) fun h=>?_
 cases h
mutual
theorem lExp_okE {srcs defs:List Str} {a:Int}:∀ (e:Exp) (d f l:Int),lExp srcs defs a e d f=some l->okE e
 | .mk op name n fold calcs kids,d,f,l,h=>by
  rw [lExp] at h
  split at h
  ·rename_i hc
   obtain ⟨x,hx,k1,k2⟩:=expOk_len hc.2.2.1
   have:=shp_small hx
   split at h
   ·rename_i l1 h1
    exact ⟨by omega,by omega,lCalcs_okC calcs _ _ _ h1,lExps_okE kids _ _ _ h⟩
   ·cases h
  ·cases h
theorem lExps_okE {srcs defs:List Str} {a:Int}:∀ (es:List Exp) (d f l:Int),lExps srcs defs a es d f=some l->okEs es
 | [],d,f,l,h=>trivial
 | c :: cs,d,f,l,h=>by
  rw [lExps] at h
  split at h
  ·rename_i l' hl
   exact ⟨lExp_okE c _ _ _ hl,lExps_okE cs _ _ _ h⟩
  ·cases h
end
theorem lDefs_okE {srcs names:List Str}:∀ (ds:List Def) (a left l:Int),lDefs srcs names ds a left=some l->∀ d ∈ ds,okE d.exp
 | [],a,left,l,h,d,hd=>by cases hd
 | x :: ds,a,left,l,h,d,hd=>by
  rw [lDefs] at h
  split at h
  ·rename_i l' hl
   rcases List.mem_cons.1 hd with q | hd
   ·rw [q];exact lExp_okE _ _ _ _ hl
   ·exact lDefs_okE ds _ _ _ h d hd
  ·cases h
theorem formed_ok {p:Prog} (h:formed p):okP p/\p.defs.length<=6:=by
 obtain ⟨⟨l,hl⟩,_⟩:=h
 unfold countM at hl
 split at hl
 ·rename_i hc
  exact ⟨⟨by omega,by omega,lDefs_okE _ _ _ _ hl⟩,hc.2.2.1⟩
 ·cases hl
end Go.Aft
end
