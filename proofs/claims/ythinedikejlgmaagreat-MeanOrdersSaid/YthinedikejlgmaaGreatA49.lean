import Derived.Test.YthinedikejlgmaaGreatA44
import Derived.Test.YthinedikejlgmaaGreatA27
set_option linter.all false
section
set_option maxRecDepth 20000
namespace Go.Aft
open Go.Proofs.Tryz
mutual
def okC:Calc->Prop
 | .mk op n kids=>kids.length * 40<=140737488351232/\okCs kids
def okCs:List Calc->Prop
 | []=>True
 | c :: cs=>okC c/\okCs cs
end
mutual
def okE:Exp->Prop
 | .mk op name n fold a0k kids=>a0k.length * 40<=140737488351232/\kids.length * 88<=140737488351232/\okCs a0k/\okEs kids
def okEs:List Exp->Prop
 | []=>True
 | e :: es=>okE e/\okEs es
end
def okP (p:Prog):Prop:=p.srcs.length * 16<=140737488351232/\p.defs.length * 104<=140737488351232/\∀ d ∈ p.defs,okE d.exp
mutual
theorem c1h:∀ c:Calc,okC c->AFun prog 136 [lv (a1h c)] (lv (a1h c))
 | .mk op n kids,h=>by
  rw [okC] at h
  exact b8c op n kids h.1 (a5r kids h.2)
theorem a5r:∀ cs:List Calc,okCs cs->∀ k ∈ cs,AFun prog 136 [lv (a1h k)] (lv (a1h k))
 | [],_,k,hk=>by cases hk
 | c :: cs,h,k,hk=>by
  rw [okCs] at h
  rcases List.mem_cons.1 hk with q | hk
  ·rw [q];exact c1h c h.1
  ·exact a5r cs h.2 k hk
end
theorem c1g (op:Int) (name:Str) (n fold:Int) (a0k:List Calc) (kids:List Exp) (hc:a0k.length * 40<=140737488351232) (hk:kids.length * 88<=140737488351232) (hcs:∀ k ∈ a0k,AFun prog 136 [lv (a1h k)] (lv (a1h k)))
  (ih:∀ k ∈ kids,AFun prog 72 [lv (rExp k)] (lv (rExp k))):AFun prog 72 [lv (rExp (.mk op name n fold a0k kids))] (lv (rExp (.mk op name n fold a0k kids))):=by
 have cc:=a0g (p:=kds [1] [] [])
 refine AFun.body (a0g (p:=kds [1] [] [])) func72 rfl call72 (by rw [ntmps72];simp) rfl fun hf H=>?_
 simp [ntmps72,results72,a0c,Exp.op,Exp.n,Exp.kids,Exp.name,Exp.fold,Exp.a0k]
 refine AW.a0w cc (fun a:Nat × LV × GH=>⟨[(1,.ip [lvI op,.d (.k (.string name)),lvI n,lvI fold,sl (a0k.map a1h),sl (kids.map rExp)] 0),(2,.lp 2 0),(3,.lp 3 0),(4,lvI a.1)],
  [(2,[lvI 0,.d (.k (.string ⟨#[]⟩)),lvI 0,lvI 0,.d (.k (.slice none 0 0)),.d (.k (.slice none 0 0))]),(3,[lvI op,.d (.k (.string name)),lvI n,lvI fold,a.2.1,.d (.k (.slice none 0 0))])],a.2.2⟩) (fun a=>a0k.length - a.1) (fun a=>a.1<=a0k.length/\AppX 25 3 H a.2.1 ((a0k.take a.1).map a1h) a.2.2) (0,.d (.k (.slice none 0 0)),H) ⟨⟨Nat.zero_le _,.nil⟩,by simp⟩ ?_
 rintro ⟨i,x,H'⟩ ⟨hi,happ⟩
 simp only at hi happ
 simp
 refine ⟨fun h=>?_,fun h=>?_⟩
 ·refine AW.draw cc [(7,.n)] (.q 0<|.q 2<|.q 4<|.q 1<|.f<|.one 3<|.q 5<|.f<|.one 6<|.q 7<|.q 8<|.f<|.one 9<|.q 10<|.f<|.one 11<|.done) (by kernel_rfl) ?_
  simp [h,List.getElem?_eq_getElem h,a0o]
  refine FC.afun (v:=lv (a1h a0k[i])) (by simpa [a0o] using hcs a0k[i] (List.getElem_mem h)) ?_
  simp [a0o]
  refine APK.appX (ys:=[a1h a0k[i]]) tyE23 rfl tyE25 (by simp) (x:=x) (by simp) happ (by simp [a0o,rowsOf]) (by simp) (fun r hr=>by obtain ⟨_,_,rfl⟩:=List.mem_map.1 hr;simp) (by simp) (by simp;omega) (by simp) fun x' H' happ' _ _=>?_
  rw [show (a0k.take i).map a1h ++ [a1h a0k[i]]=(a0k.take (i+1)).map a1h by rw [<- a0p h,List.map_append];rfl] at happ'
  simp [happ'.plain.all,happ'.only,wrap_succ (n:=9223372036854775807) (show i < 9223372036854775807 by omega)]
  exact NX.go (i+1,x',H') (by simp only;omega) ⟨h,happ'⟩ (by simp [happ'.only])
 ·have e:i=a0k.length:=by omega
  subst e
  rw [List.take_length] at happ
  simp [happ.plain.all]
  refine AW.a0w cc (fun a:Nat × LV × GH=>⟨[(1,.ip [lvI op,.d (.k (.string name)),lvI n,lvI fold,sl (a0k.map a1h),sl (kids.map rExp)] 0),(2,.lp 2 0),(3,.lp 3 0),(5,lvI a.1)],
   [(2,[lvI 0,.d (.k (.string ⟨#[]⟩)),lvI 0,lvI 0,.d (.k (.slice none 0 0)),.d (.k (.slice none 0 0))]),(3,[lvI op,.d (.k (.string name)),lvI n,lvI fold,x,a.2.1])],a.2.2⟩) (fun a=>kids.length - a.1) (fun a=>a.1<=kids.length/\AppX 68 6 H' a.2.1 ((kids.take a.1).map rExp) a.2.2) (0,.d (.k (.slice none 0 0)),H') ⟨⟨Nat.zero_le _,.nil⟩,by simp [happ.only]⟩ ?_
  rintro ⟨i,y,H2⟩ ⟨hi,hy⟩
  simp only at hi hy
  simp [happ.plain.all]
  refine ⟨fun h=>?_,fun h=>?_⟩
  ·refine AW.draw cc [(7,.n)] (.q 0<|.q 2<|.q 4<|.q 1<|.f<|.one 3<|.q 5<|.f<|.one 6<|.q 7<|.q 8<|.f<|.one 9<|.q 10<|.f<|.one 11<|.done) (by kernel_rfl) ?_
   simp [h,List.getElem?_eq_getElem h,a0c]
   refine FC.afun (v:=lv (rExp kids[i])) (by simpa [a0c] using ih kids[i] (List.getElem_mem h)) ?_
   simp [a0c]
   refine APK.appX (ys:=[rExp kids[i]]) tyE64 rfl tyE68 (by simp) (x:=y) (by simp) hy (by simp [a0c,rowsOf]) (by simp) (fun r hr=>by obtain ⟨_,_,rfl⟩:=List.mem_map.1 hr;simp) (by simp) (by simp;omega) (by simp) fun y' H3 hy' _ _=>?_
   rw [show (kids.take i).map rExp ++ [rExp kids[i]]=(kids.take (i+1)).map rExp by rw [<- a0p h,List.map_append];rfl] at hy'
   simp [happ.plain.all,hy'.plain.all,hy'.only,wrap_succ (n:=9223372036854775807) (show i < 9223372036854775807 by omega)]
   exact NX.go (i+1,y',H3) (by simp only;omega) ⟨h,hy'⟩ (by simp [happ.only,hy'.only])
  ·have e:i=kids.length:=by omega
   subst e
   rw [List.take_length] at hy
   have ha2:=happ.mono hy.nx hy.ob
   simp [happ.plain.all,hy.plain.all,happ.fz,hy.fz]
   exact ⟨by rw [a0c];rfl,ha2.nx,ha2.ob⟩
mutual
theorem c4s:∀ e:Exp,okE e->AFun prog 72 [lv (rExp e)] (lv (rExp e))
 | .mk op name n fold a0k kids,h=>by
  rw [okE] at h
  exact c1g op name n fold a0k kids h.1 h.2.1 (a5r a0k h.2.2.1) (b1q kids h.2.2.2)
theorem b1q:∀ es:List Exp,okEs es->∀ k ∈ es,AFun prog 72 [lv (rExp k)] (lv (rExp k))
 | [],_,k,hk=>by cases hk
 | c :: cs,h,k,hk=>by
  rw [okEs] at h
  rcases List.mem_cons.1 hk with q | hk
  ·rw [q];exact c4s c h.1
  ·exact b1q cs h.2 k hk
end
end Go.Aft
end
section
set_option maxRecDepth 20000
namespace Go.Aft
open Go.Proofs.Tryz
theorem e1f {o:Bool} {op n:Int} {k:Nat} (h:a3o o op n k=true):k<=2:=by
 unfold a3o at h
 split at h
 ·simp at h;omega
 ·split at h
  ·simp at h;omega
  ·split at h
   ·simp at h;omega
   ·simp at h;omega
mutual
theorem e3y {o:Bool}:∀ (c:Calc) (d f l:Int),a2y o c d f=some l->okC c
 | .mk op n kids,d,f,l,h=>by
  rw [a2y] at h
  split at h
  ·rename_i hc
   have:=e1f hc.2.2
   exact ⟨by omega,b4t kids _ _ _ h⟩
  ·cases h
theorem b4t {o:Bool}:∀ (cs:List Calc) (d f l:Int),a1m o cs d f=some l->okCs cs
 | [],d,f,l,h=>trivial
 | c :: cs,d,f,l,h=>by
  rw [a1m] at h
  split at h
  ·rename_i l' hl
   exact ⟨e3y c _ _ _ hl,b4t cs _ _ _ h⟩
  ·cases h
end
theorem d6k {α:Type} {c:Prop} [Decidable c] {a x:α} {o:Option α} {P:α->Prop} (h:(if c then some a else o)=some x) (h1:P a) (h2:o=some x->P x):P x:=by
 by_cases q:c
 ·rw [if_pos q] at h;cases h;exact h1
 ·rw [if_neg q] at h;exact h2 h
theorem e2f {op:Int} {x:Shp} (h:a1l op=some x):x.kids<=2/\x.a0k<=2:=by
 unfold a1l at h
 iterate 13
  refine d6k (P:=fun x:Shp=>x.kids<=2/\x.a0k<=2) h (by decide) fun h=>?_
 cases h
mutual
theorem d6e {srcs defs:List Str} {a:Int}:∀ (e:Exp) (d f l:Int),lExp srcs defs a e d f=some l->okE e
 | .mk op name n fold a0k kids,d,f,l,h=>by
  rw [lExp] at h
  split at h
  ·rename_i hc
   obtain ⟨x,hx,k1,k2⟩:=c9n hc.2.2.1
   have:=e2f hx
   split at h
   ·rename_i l1 h1
    exact ⟨by omega,by omega,b4t a0k _ _ _ h1,c8m kids _ _ _ h⟩
   ·cases h
  ·cases h
theorem c8m {srcs defs:List Str} {a:Int}:∀ (es:List Exp) (d f l:Int),a3q srcs defs a es d f=some l->okEs es
 | [],d,f,l,h=>trivial
 | c :: cs,d,f,l,h=>by
  rw [a3q] at h
  split at h
  ·rename_i l' hl
   exact ⟨d6e c _ _ _ hl,c8m cs _ _ _ h⟩
  ·cases h
end
theorem c8o {srcs names:List Str}:∀ (ds:List Def) (a left l:Int),a7l srcs names ds a left=some l->∀ d ∈ ds,okE d.exp
 | [],a,left,l,h,d,hd=>by cases hd
 | x :: ds,a,left,l,h,d,hd=>by
  rw [a7l] at h
  split at h
  ·rename_i l' hl
   rcases List.mem_cons.1 hd with q | hd
   ·rw [q];exact d6e _ _ _ _ hl
   ·exact c8o ds _ _ _ h d hd
  ·cases h
theorem e4m {p:Prog} (h:formed p):okP p/\p.defs.length<=6:=by
 obtain ⟨⟨l,hl⟩,_⟩:=h
 unfold countM at hl
 split at hl
 ·rename_i hc
  exact ⟨⟨by omega,by omega,c8o _ _ _ _ hl⟩,hc.2.2.1⟩
 ·cases hl
end Go.Aft
end
section
set_option maxRecDepth 20000
namespace Go.Aft
mutual
def renE (f:Str->Str):Exp->Exp
 | .mk op name n fold a0k kids=>.mk op (f name) n fold a0k (b4k f kids)
def b4k (f:Str->Str):List Exp->List Exp
 | []=>[]
 | e :: es=>renE f e :: b4k f es
end
theorem a9l (f:Str->Str):∀ l,b4k f l=l.map (renE f)
 | []=>rfl
 | e :: es=>by rw [b4k,a9l f es,List.map_cons]
structure RenOk (f:Str->Str) (L:List Str):Prop where
 zero:f a1q=a1q
 name:∀ s ∈ L,a5v (f s)=true
 inj:∀ s ∈ L,∀ t ∈ L,f s=f t->s=t
theorem c2h {s:Str} (h:a5v s=true):s ≠ a1q:=by
 rintro rfl
 simp [a5v,a1q,ByteArray.size] at h
theorem d3a {f:Str->Str}:∀ (l:List Str) (s:Str),(∀ x ∈ l,f x=f s->x=s)->idx (l.map f) (f s)=idx l s
 | [],s,_=>rfl
 | x :: l,s,h=>by
  rw [List.map_cons,b3i,b3i,d3a l s fun y hy=>h y (List.mem_cons_of_mem _ hy)]
  by_cases e:x=s
  ·subst e;simp
  ·rw [if_neg e,if_neg fun q=>e (h x (List.mem_cons_self ..) q)]
theorem c8t {α:Type} {c:Prop} [Decidable c] {a x:α} {o:Option α} {P:α->Prop} (h:(if c then some a else o)=some x) (h1:c->P a) (h2:o=some x->P x):P x:=by
 by_cases q:c
 ·rw [if_pos q] at h;cases h;exact h1 q
 ·rw [if_neg q] at h;exact h2 h
theorem e7q {op:Int} {x:Shp} (h:a1l op=some x):x.name=true->op=1 \/ op=2 \/ op=3:=by
 unfold a1l at h
 refine c8t (P:=fun x:Shp=>x.name=true->op=1 \/ op=2 \/ op=3) h (fun c _=>by omega) fun h=>?_
 refine c8t (P:=fun x:Shp=>x.name=true->op=1 \/ op=2 \/ op=3) h (fun c _=>by omega) fun h=>?_
 iterate 11
  refine d6k (P:=fun x:Shp=>x.name=true->op=1 \/ op=2 \/ op=3) h (fun q=>by cases q) fun h=>?_
 cases h
theorem e0y {op n fold:Int} {name:Str} {nc nk:Nat} (h:a6x op name n fold nc nk=true):name ≠ a1q ↔ op=1 \/ op=2 \/ op=3:=by
 unfold a6x at h
 split at h
 ·cases h
 ·rename_i x hx
  simp only [Bool.and_eq_true,decide_eq_true_eq,beq_iff_eq] at h
  have hn:=h.1.1.2
  constructor
  ·intro q
   exact e7q hx (by rw [hn];simpa using q)
  ·intro q
   rcases q with rfl | rfl | rfl <;> (simp [a1l] at hx;subst hx;simpa using hn.symm)
theorem e4w {op n fold:Int} {name name':Str} {nc nk:Nat} (h:a6x op name n fold nc nk=true) (hn:name' ≠ a1q ↔ name ≠ a1q):a6x op name' n fold nc nk=true:=by
 unfold a6x at h |-
 split at h
 ·cases h
 ·rename_i x hx
  rw [show decide (name' ≠ a1q)=decide (name ≠ a1q) from decide_eq_decide.2 hn]
  exact h
theorem b0u {srcs defs:List Str} {a op:Int} {name:Str} (h:a2l srcs defs a op name=true):(op=1->name ∈ srcs)/\(op=2 \/ op=3->name ∈ defs):=by
 unfold a2l at h
 constructor
 ·rintro rfl
  simp at h
  exact (a5x _ _).1 h
 ·rintro (rfl | rfl)
  ·simp at h;exact (a5x _ _).1 h.1
  ·simp at h;exact (a5x _ _).1 h
theorem e0a {f:Str->Str} {srcs defs:List Str} (hf:RenOk f (srcs ++ defs)) {a op:Int} {name:Str} (h:a2l srcs defs a op name=true):a2l (srcs.map f) (defs.map f) a op (f name)=true:=by
 have hm:=b0u h
 have hs:op=1->idx (srcs.map f) (f name)=idx srcs name:=fun q=>d3a _ _ fun x hx e=>hf.inj _ (by simp [hx]) _ (by simp [hm.1 q]) e
 have hd:op=2 \/ op=3->idx (defs.map f) (f name)=idx defs name:=fun q=>d3a _ _ fun x hx e=>hf.inj _ (by simp [hx]) _ (by simp [hm.2 q]) e
 unfold a2l at h |-
 by_cases q1:op=1
 ·rw [if_pos q1] at h |-;rw [hs q1];exact h
 ·rw [if_neg q1] at h |-
  by_cases q2:op=2
  ·rw [if_pos q2] at h |-;rw [hd (.inl q2)];exact h
  ·rw [if_neg q2] at h |-
   by_cases q3:op=3
   ·rw [if_pos q3] at h |-;rw [hd (.inr q3)];exact h
   ·rw [if_neg q3]
mutual
theorem e2n {f:Str->Str} {srcs defs:List Str} (hf:RenOk f (srcs ++ defs)) {a:Int}:∀ (e:Exp) (d l l':Int),lExp srcs defs a e d l=some l'->lExp (srcs.map f) (defs.map f) a (renE f e) d l=some l'
 | .mk op name n fold a0k kids,d,l,l',h=>by
  rw [renE]
  rw [lExp] at h |-
  split at h
  ·rename_i hc
   obtain ⟨h1,h2,h3,h4⟩:=hc
   have hne:f name ≠ a1q ↔ name ≠ a1q:=by
    constructor
    ·intro q r;rw [r] at q;exact q hf.zero
    ·intro q
     rcases (e0y h3).1 q with r | r
     ·exact c2h (hf.name _ (by simp [(b0u h4).1 r]))
     ·exact c2h (hf.name _ (by simp [(b0u h4).2 r]))
   rw [if_pos ⟨h1,h2,by rw [a9l,List.length_map];exact e4w h3 hne,e0a hf h4⟩]
   split at h
   ·exact b7q hf kids _ _ _ h
   ·cases h
  ·cases h
theorem b7q {f:Str->Str} {srcs defs:List Str} (hf:RenOk f (srcs ++ defs)) {a:Int}:∀ (es:List Exp) (d l l':Int),a3q srcs defs a es d l=some l'->a3q (srcs.map f) (defs.map f) a (b4k f es) d l=some l'
 | [],d,l,l',h=>by rw [b4k];rw [a3q] at h |-;exact h
 | e :: es,d,l,l',h=>by
  rw [b4k]
  rw [a3q] at h |-
  split at h
  ·rename_i l1 hl1
   rw [e2n hf e _ _ _ hl1]
   exact b7q hf es _ _ _ h
  ·cases h
end
mutual
theorem f0i (f:Str->Str):∀ e,allE (renE f e)=(allE e).map (renE f)
 | .mk op name n fold a0k kids=>by rw [renE,allE,allE,List.map_cons,renE,d0e f kids]
theorem d0e (f:Str->Str):∀ es,a0y (b4k f es)=(a0y es).map (renE f)
 | []=>rfl
 | e :: es=>by rw [b4k,a0y,a0y,List.map_append,f0i f e,d0e f es]
end
mutual
theorem e0n {srcs defs:List Str} {a:Int}:∀ (e:Exp) (d l l':Int),lExp srcs defs a e d l=some l'->∀ x ∈ allE e,(x.op=1->x.name ∈ srcs)/\(x.op=2 \/ x.op=3->x.name ∈ defs)
 | .mk op name n fold a0k kids,d,l,l',h,x,hx=>by
  rw [lExp] at h
  split at h
  ·rename_i hc
   split at h
   ·rw [allE] at hx
    rcases List.mem_cons.1 hx with q | hx
    ·rw [q];exact b0u hc.2.2.2
    ·exact b9e kids _ _ _ h x hx
   ·cases h
  ·cases h
theorem b9e {srcs defs:List Str} {a:Int}:∀ (es:List Exp) (d l l':Int),a3q srcs defs a es d l=some l'->∀ x ∈ a0y es,(x.op=1->x.name ∈ srcs)/\(x.op=2 \/ x.op=3->x.name ∈ defs)
 | [],d,l,l',h,x,hx=>by rw [a0y] at hx;cases hx
 | e :: es,d,l,l',h,x,hx=>by
  rw [a3q] at h
  split at h
  ·rename_i l1 hl1
   rw [a0y] at hx
   rcases List.mem_append.1 hx with hx | hx
   ·exact e0n e _ _ _ hl1 x hx
   ·exact b9e es _ _ _ h x hx
  ·cases h
end
mutual
theorem e2c {f:Str->Str} (h0:f a1q=a1q):∀ e,strip (renE f e)=((strip e).1,renE f (strip e).2)
 | .mk op name n fold a0k kids=>by
  rw [renE,strip,strip]
  by_cases h:op=5
  ·rw [if_pos h,if_pos h,d8z h0 kids]
  ·rw [if_neg h,if_neg h,renE]
theorem d8z {f:Str->Str} (h0:f a1q=a1q):∀ es,stripL (b4k f es)=((stripL es).1,renE f (stripL es).2)
 | []=>by
  have:renE f default=default:=by
   show renE f (.mk 0 a1q 0 0 [] [])=.mk 0 a1q 0 0 [] []
   rw [renE,h0,b4k]
  rw [b4k,stripL,this]
 | e :: es=>by rw [b4k,stripL,stripL,e2c h0 e]
end
end Go.Aft
end
section
set_option maxRecDepth 20000
namespace Go.Aft
open Go.Proofs.Tryz
theorem b9t (l:List Calc) (hl:l.length * 40<=140737488351232) (hk:∀ k ∈ l,AFun prog 161 [lv (a1h k)] (lv (a1h k))):AFun prog 160 [sl (l.map a1h),.fn (.func 161) [] []] (sl (l.map a1h)):=by
 have cc:=cx0_ok
 refine AFun.body cx0_ok func160 rfl call160 (by rw [ntmps160];simp) rfl fun hf H=>?_
 simp [ntmps160,results160] at hf |-
 refine AW.a0w cc (fun a:Nat × LV × GH=>⟨[(1,.fn (.func 161) [] []),(5,a.2.1),(8,.d (.sl (l.map a1h))),(9,lvI l.length),(10,lvI a.1)],[],a.2.2⟩) (fun a=>l.length - a.1) (fun a=>a.1<=l.length/\App 25 3 H a.2.1 ((l.take a.1).map a1h) a.2.2) (0,.d (.k (.slice none 0 0)),H) ⟨⟨by simp,.nil⟩,by simp⟩ ?_
 rintro ⟨i,x,H'⟩ ⟨hi,happ⟩
 simp only at hi happ
 simp
 refine ⟨fun h=>?_,fun h=>?_⟩
 ·have hd:=hk l[i] (List.getElem_mem h)
  simp [a0o] at hd
  simp [h,List.getElem?_eq_getElem h,a0o,happ.plain.all]
  refine EC.afun hd ?_
  simp [happ.plain.all]
  refine APK.d0d a1h (l.take i) [l[i]] tyE23 rfl tyE25 (by simp) rCalc_len (x:=x) (by simp) happ (by simp [a0o,rowsOf]) (by simp) (by simp;omega) (by simp) fun x' H2 happ'=>?_
  rw [show (l.take i) ++ [l[i]]=l.take (i+1) from a0p h] at happ'
  simp [happ'.plain.all,happ'.only,wrap_succ (n:=9223372036854775807) (show i < 9223372036854775807 by omega)]
  exact NX.go (i+1,x',H2) (by simp;omega) ⟨h,happ'⟩ (by simp [happ'.only,happ'.plain.all,LV.only])
 ·have:i=l.length:=by omega
  subst this
  rw [List.take_length] at happ
  have hz:=happ.fz
  simp [happ.plain.all,hz.1]
  exact hz.2
theorem d0z (op n:Int) (kids:List Calc) (hl:kids.length * 40<=140737488351232) (hk:∀ k ∈ kids,AFun prog 161 [lv (a1h k)] (lv (a1h k))):AFun prog 161 [lv (a1h (.mk op n kids))] (lv (a1h (.mk op n kids))):=by
 have he:=b9t kids hl hk
 refine AFun.body cx0_ok func161 rfl call161 (by rw [ntmps161];simp) rfl fun hf H=>?_
 simp [ntmps161,results161,a0o,Calc.op,Calc.n,Calc.kids] at he |-
 refine EC.afun he ?_
 simp [a0o,Calc.op,Calc.n,Calc.kids]
mutual
theorem d8s:∀ c:Calc,okC c->AFun prog 161 [lv (a1h c)] (lv (a1h c))
 | .mk op n kids,h=>by
  rw [okC] at h
  exact d0z op n kids h.1 (a8a kids h.2)
theorem a8a:∀ cs:List Calc,okCs cs->∀ k ∈ cs,AFun prog 161 [lv (a1h k)] (lv (a1h k))
 | [],_,k,hk=>by cases hk
 | c :: cs,h,k,hk=>by
  rw [okCs] at h
  rcases List.mem_cons.1 hk with q | hk
  ·rw [q];exact d8s c h.1
  ·exact a8a cs h.2 k hk
end
theorem e9t (g:Exp->Exp) (m:Nat) (l:List Exp) (hl:l.length * 88<=140737488351232) (H:GH) (o:GO) (hm:H.obj m=some o) (hk:∀ k ∈ l,∀ H',H'.obj m=some o->a0j prog 163 [lv (rExp k),.ip [.gm m] 0] H' fun ce H2=>ce=.ret (lv (rExp (g k)))/\H2=H') :
  a0j prog 162 [sl (l.map rExp),.fn (.func 163) [] [.ip [.gm m] 0]] H fun ce H'=>ce=.ret (sl ((l.map g).map rExp))/\H'=H:=by
 have cc:=cx0_ok
 refine a0j.a1j cx0_ok func162 rfl call162 (by rw [ntmps162];simp) rfl fun hf hw=>?_
 have hmn:=hw.lt hm
 simp [ntmps162,results162] at hf |-
 refine AW.a0w cc (fun a:Nat × LV × GH=>⟨[(1,.fn (.func 163) [] [.ip [.gm m] 0]),(5,a.2.1),(8,.d (.sl (l.map rExp))),(9,lvI l.length),(10,lvI a.1)],[],a.2.2⟩) (fun a=>l.length - a.1) (fun a=>a.1<=l.length/\AppX 68 6 H a.2.1 (((l.take a.1).map g).map rExp) a.2.2) (0,.d (.k (.slice none 0 0)),H) ⟨⟨by simp,.nil⟩,by simp [LV.only,a3c]⟩ ?_
 rintro ⟨i,x,H'⟩ ⟨hi,happ⟩
 simp only at hi happ
 simp
 refine ⟨fun h=>?_,fun h=>?_⟩
 ·have hd:=hk l[i] (List.getElem_mem h) H' (by rw [happ.ob m hmn];exact hm)
  simp [a0c] at hd
  have hlt:m < H'.next:=Nat.lt_of_lt_of_le hmn happ.nx
  simp [h,List.getElem?_eq_getElem h,a0c,happ.plain.all]
  refine ⟨by simp [LV.nb,nbs,hlt],EC.of hd (fun v H2 hR=>?_) (fun v H2 hR=>by cases hR.1)⟩
  obtain ⟨q,rfl⟩:=hR
  cases q
  simp [happ.plain.all]
  refine APK.appX (ys:=[rExp (g l[i])]) tyE64 rfl tyE68 (by simp) (x:=x) (by simp) happ (by simp [a0c,rowsOf]) (by simp) (fun r hr=>by obtain ⟨_,_,rfl⟩:=List.mem_map.1 hr;simp) (by simp) (by simp;omega) (by simp) fun x' H3 happ' _ _=>?_
  rw [show ((l.take i).map g).map rExp ++ [rExp (g l[i])]=((l.take (i+1)).map g).map rExp by rw [<- a0p h,List.map_append,List.map_append];rfl] at happ'
  simp [happ'.plain.all,happ'.only,wrap_succ (n:=9223372036854775807) (show i < 9223372036854775807 by omega)]
  exact NX.go (i+1,x',H3) (by simp;omega) ⟨h,happ'⟩ (by simp [happ'.only,happ'.plain.all,LV.only,a3c])
 ·have:i=l.length:=by omega
  subst this
  rw [List.take_length] at happ
  simp [happ.plain.all,happ.fz]
  exact fun hz=>a0m happ.nx happ.ob hw.none
structure MapT (es:List (Value × LV)) (f:Str->Str):Prop where
 get:∀ s,(a1c (.string s) es).getD (.d (.k (.string ⟨#[]⟩)))=.d (.k (.string (f s)))
 key:∀ (a:Value) (b:LV),(a,b) ∈ es->(KK.sc Sc.str).has a=true
theorem c4d (f:Str->Str) (h0:f a1q=a1q) (m:Nat) (es:List (Value × LV)) (he:MapT es f) (op:Int) (name:Str) (n fold:Int) (a0k:List Calc) (kids:List Exp) (hc:okCs a0k) (hcl:a0k.length * 40<=140737488351232) (hkl:kids.length * 88<=140737488351232)
  (ih:∀ k ∈ kids,∀ H,H.obj m=some (.map es)->a0j prog 163 [lv (rExp k),.ip [.gm m] 0] H fun ce H2=>ce=.ret (lv (rExp (renE f k)))/\H2=H) (H:GH) (hm:H.obj m=some (.map es)) :
  a0j prog 96 [lv (rExp (.mk op name n fold a0k kids)),.gm m] H fun ce H2=>ce=.ret (lv (rExp (renE f (.mk op name n fold a0k kids))))/\H2=H:=by
 have cc:=a0g (p:=kds [3] [] [])
 refine a0j.a1j (a0g (p:=kds [3] [] [])) func96 rfl call96 (by rw [ntmps96];simp) rfl fun hf hw=>?_
 have h1:=b9t a0k hcl (a8a a0k hc)
 have h2:=e9t (renE f) m kids hkl H _ hm ih
 have hkey:=eq_true he.key
 have hget:=he.get
 have hmn:=hw.lt hm
 have hf0:name = ⟨#[]⟩->f name=name:=by rintro rfl;exact h0
 simp at h1 h2
 simp [ntmps96,results96,a0c,Exp.op,Exp.n,Exp.kids,Exp.name,Exp.fold,Exp.a0k,hm,hget,hkey,renE,a9l]
 refine ⟨fun q=>?_,fun q=>?_⟩
 ·refine EC.afun h1 ?_
  simp
  refine ⟨by simp [LV.nb,nbs,hmn],EC.of h2 (fun v H2 hR=>?_) (fun v H2 hR=>by cases hR.1)⟩
  obtain ⟨q,rfl⟩:=hR
  cases q
  simp
  exact fun hz=>⟨hz.drop (Nat.le_refl _),by simp [a0c,renE,a9l]⟩
 ·refine EC.afun h1 ?_
  simp
  refine ⟨by simp [LV.nb,nbs,hmn],EC.of h2 (fun v H2 hR=>?_) (fun v H2 hR=>by cases hR.1)⟩
  obtain ⟨q',rfl⟩:=hR
  cases q'
  simp [hf0 q]
  exact fun hz=>⟨hz.drop (Nat.le_refl _),by simp [a0c,renE,a9l,hf0 q]⟩
theorem c0l (f:Str->Str) (m:Nat) (o:GO) (e:Exp) (ih:∀ H,H.obj m=some o->a0j prog 96 [lv (rExp e),.gm m] H fun ce H2=>ce=.ret (lv (rExp (renE f e)))/\H2=H) (H:GH) (hm:H.obj m=some o) :
  a0j prog 163 [lv (rExp e),.ip [.gm m] 0] H fun ce H2=>ce=.ret (lv (rExp (renE f e)))/\H2=H:=by
 have cc:=a0g (p:=kds [2] [] [])
 refine a0j.a1j (a0g (p:=kds [2] [] [])) func163 rfl call163 (by rw [ntmps163];simp) rfl fun hf hw=>?_
 have h1:=ih H hm
 have hmn:=hw.lt hm
 simp [a0c] at h1
 simp [ntmps163,results163,a0c]
 refine ⟨hmn,EC.of h1 (fun v H2 hR=>?_) (fun v H2 hR=>by cases hR.1)⟩
 obtain ⟨q,rfl⟩:=hR
 cases q
 simp
 exact fun hz=>⟨hz.drop (Nat.le_refl _),by simp [a0c]⟩
mutual
theorem c6t (f:Str->Str) (h0:f a1q=a1q) (m:Nat) (es:List (Value × LV)) (he:MapT es f):∀ e:Exp,okE e->∀ H,H.obj m=some (.map es)->a0j prog 96 [lv (rExp e),.gm m] H fun ce H2=>ce=.ret (lv (rExp (renE f e)))/\H2=H
 | .mk op name n fold a0k kids,h,H,hm=>by
  rw [okE] at h
  exact c4d f h0 m es he op name n fold a0k kids h.2.2.1 h.1 h.2.1 (b2o f h0 m es he kids h.2.2.2) H hm
theorem b2o (f:Str->Str) (h0:f a1q=a1q) (m:Nat) (es:List (Value × LV)) (he:MapT es f):∀ l:List Exp,okEs l->∀ k ∈ l,∀ H,H.obj m=some (.map es)->a0j prog 163 [lv (rExp k),.ip [.gm m] 0] H fun ce H2=>ce=.ret (lv (rExp (renE f k)))/\H2=H
 | [],_,k,hk=>by cases hk
 | c :: cs,h,k,hk=>by
  rw [okEs] at h
  rcases List.mem_cons.1 hk with q | hk
  ·rw [q];exact c0l f m _ c (c6t f h0 m es he c h.1)
  ·exact b2o f h0 m es he cs h.2 k hk
end
end Go.Aft
end
section
set_option maxRecDepth 20000
namespace Go.Aft
open Go.Proofs.Tryz
structure IterG (n m:Nat) (rows:List LV) (J:Nat->GH->Prop):Prop where
 box:∀ {i:Nat} {H:GH},J i H->H.obj m=some (.box [b2m n m])
 lt:∀ {i:Nat} {H:GH},J i H->n < H.next
 step:∀ {i:Nat} {H:GH} {r:LV},rows[i]?=some r->nbH H->J i H->a2v prog n [r] H fun ce H'=>ce=.ret (bool true)/\H.next<=H'.next/\J (i+1) H'
def e6r (n m:Nat) (rows:List LV) (J:Nat->GH->Prop) (f:FuncId) (cap:List LV) (neg:Bool) (e:Exp):Prop :=
 ∀ (i:Nat) (H:GH),J i H->(∃ tl,rows.drop i=a7i e ++ tl)->a0j prog f ([lv (rExp e)] ++ cap) H fun ce H'=>ce=.ret (bool (!neg))/\H.next<=H'.next/\J (i+(allE e).length) H'
theorem d9x {n m:Nat} {rows:List LV} {J:Nat->GH->Prop} (hI:IterG n m rows J) {e:Exp} (h:e6r n m rows J 165 (a7y n m) false e):e6r n m rows J 167 [.gp m 0] true e:=by
 intro i H hj ht
 have cc:=a0g (p:=kds [2] [] [])
 refine a0j.a1j (a0g (p:=kds [2] [] [])) func167 rfl call167 (by rw [ntmps167];simp) rfl fun hf hw=>?_
 have hc:=h i H hj ht
 have hm:=hI.box hj
 have hn:=hI.lt hj
 simp [a0c,a7y] at hc
 have hlt:=hw.lt hm
 simp [ntmps167,results167,a0c,hm,b2m,a7y]
 refine ⟨⟨hn,hlt⟩,EC.of hc (fun v H2 hR=>?_) (fun v H2 hR=>by cases hR.1)⟩
 obtain ⟨q,h1,h2⟩:=hR
 cases q
 simp
 exact fun hz=>⟨H2,hz.drop h1,h1,h2⟩
theorem c7y {n m:Nat} {rows:List LV} {J:Nat->GH->Prop} (hI:IterG n m rows J) (op en fold:Int) (name:Str) (a0k:List Calc) (kids:List Exp)
  (ih:∀ k ∈ kids,e6r n m rows J 165 (a7y n m) false k):e6r n m rows J 165 (a7y n m) false (.mk op name en fold a0k kids):=by
 intro i H hj ht
 obtain ⟨tl,ht⟩:=ht
 have cc:=a0g (p:=kds [3] [] [])
 have hrow:rows[i]?=some (lv (rExp (.mk op name en fold a0k kids))):=by
  have:(rows.drop i)[0]?=some (lv (rExp (.mk op name en fold a0k kids))):=by rw [ht];simp [a7i,allE]
  rw [List.getElem?_drop] at this;simpa using this
 have ht1:rows.drop (i+1)=b1o kids ++ tl:=by
  rw [<- List.drop_drop,ht];simp [a7i,b1o,allE]
 refine a0j.a1j (a0g (p:=kds [3] [] [])) func165 rfl call165 (by rw [ntmps165];simp [a7y]) rfl fun hf hw=>?_
 have hlt:=hw.lt (hI.box hj)
 have hnl:=hI.lt hj
 have hy:=hI.step hrow hw hj
 simp [a0c] at hy
 simp [ntmps165,results165,a0c,a7y]
 refine EY.of hy (fun v H1 hR=>?_) (fun v H1 hR=>by cases hR.1)
 obtain ⟨q,hn1,hR⟩:=hR
 cases q
 simp [bool]
 have hm1:=hI.box hR
 have hcon:=a8w kids 167 [.gp m 0] H1 (fun j H'=>H1.next<=H'.next/\J (i+1+(a0y (kids.take j)).length) H') (fun H'=>False) (fun x H'=>False)
  (fun j H' q=>q.1) (fun H' q=>q.elim) (fun x H' q=>q.elim)
  (by simp [nbs,LV.nb];omega) (fun j hj' H' q=>?_) ⟨Nat.le_refl _,by simpa [a0y] using hR⟩
 ·simp at hcon
  refine ⟨by omega,EC.of hcon (fun v2 H2 hR2=>?_) (fun v2 H2 hR2=>hR2.elim)⟩
  obtain ⟨q,hs2,hR4⟩:=hR2
  subst q
  simp [bool]
  have e:i+(allE (.mk op name en fold a0k kids)).length=i+1+(a0y kids).length:=by simp [allE];omega
  rw [e]
  exact fun hz=>⟨H2,hz.drop (by omega),by omega,hR4⟩
 ·obtain ⟨qs,qj⟩:=q
  have hsplit:kids=kids.take j ++ (kids[j] :: kids.drop (j+1)):=by
   rw [<- List.drop_eq_getElem_cons hj',List.take_append_drop]
  have hall:a0y kids=a0y (kids.take j) ++ (allE kids[j] ++ a0y (kids.drop (j+1))):=by
   conv=>lhs;rw [hsplit]
   rw [a4v];simp only [a0y]
  have htk:a0y (kids.take (j+1))=a0y (kids.take j) ++ allE kids[j]:=by
   rw [List.take_add_one,List.getElem?_eq_getElem hj',a4v];simp [a0y]
  have hdj:rows.drop (i+1+(a0y (kids.take j)).length)=a7i kids[j] ++ (b1o (kids.drop (j+1)) ++ tl):=by
   rw [<- List.drop_drop,ht1,b1o,hall,List.map_append,List.append_assoc]
   rw [List.drop_append_of_le_length (by simp),List.drop_eq_nil_of_le (by simp)]
   simp [a7i,b1o]
  have hk:=d9x hI (ih kids[j] (List.getElem_mem hj')) (i+1+(a0y (kids.take j)).length) H' qj ⟨_,hdj⟩
  refine hk.mono fun ce H2 hR2=>?_
  obtain ⟨q,s2,hR2⟩:=hR2
  subst q
  exact .inl ⟨rfl,by omega,by rw [htk,List.length_append,<- Nat.add_assoc];exact hR2⟩
theorem b8k {n m:Nat} {rows:List LV} {J:Nat->GH->Prop} (hI:IterG n m rows J):∀ e:Exp,e6r n m rows J 165 (a7y n m) false e
 | .mk op name en fold a0k kids=>c7y hI op en fold name a0k kids fun k hk=>b8k hI k
theorem d9y {n:Nat} {e:Exp} {J:Nat->GH->Prop} (H:GH) (hI:IterG n H.next (a7i e) J) (hn:n < H.next) (hj:J 0 (H.add (.box [b2m n H.next]))) :
  a0j prog 164 [.yl n,.ip ((rExp e).map .d) 0] H fun ce H'=>(∃ v,ce=.ret v)/\H.next<=H'.next/\J (allE e).length H':=by
 have cc:=a0g (p:=kds [2] [3] [])
 refine a0j.a1j (a0g (p:=kds [2] [3] [])) func164 rfl call164 (by rw [ntmps164];simp) rfl fun hf hw=>?_
 simp [ntmps164,results164,a0c,GH.a0b,GH.a0a,GH.a1v]
 have hc:=b8k hI e 0 (H.add (.box [b2m n H.next])) hj ⟨[],by simp⟩
 simp [a0c,a7y,b2m] at hc
 refine ⟨by omega,EC.of hc (fun v H2 hR=>?_) (fun v H2 hR=>by cases hR.1)⟩
 obtain ⟨q,h1,h2⟩:=hR
 rw [GH.a0a] at h1
 simp
 exact fun hz=>⟨H2,hz.drop (by omega),by omega,h2⟩
end Go.Aft
end
