import Derived.Test.YtdhphbedajhmnaaGreatA43
set_option linter.all false
section
set_option maxRecDepth 20000
namespace Go.Aft
mutual
def renE (f:Str->Str):Exp->Exp
 | .mk op name n fold calcs kids=>.mk op (f name) n fold calcs (renEs f kids)
def renEs (f:Str->Str):List Exp->List Exp
 | []=>[]
 | e :: es=>renE f e :: renEs f es
end
theorem renEs_map (f:Str->Str):∀ l,renEs f l=l.map (renE f)
 | []=>rfl
 | e :: es=>by rw [renEs,renEs_map f es,List.map_cons]
def renD (f:Str->Str) (d:Def):Def:=⟨f d.name,renE f d.exp⟩
def renP (f:Str->Str) (p:Prog):Prog:=⟨p.srcs.map f,p.defs.map (renD f)⟩
theorem renE_op (f:Str->Str) (e:Exp):(renE f e).op=e.op:=by obtain ⟨_,_,_,_,_,_⟩:=e;rfl
theorem renE_n (f:Str->Str) (e:Exp):(renE f e).n=e.n:=by obtain ⟨_,_,_,_,_,_⟩:=e;rfl
theorem renE_name (f:Str->Str) (e:Exp):(renE f e).name=f e.name:=by obtain ⟨_,_,_,_,_,_⟩:=e;rfl
theorem renE_fold (f:Str->Str) (e:Exp):(renE f e).fold=e.fold:=by obtain ⟨_,_,_,_,_,_⟩:=e;rfl
theorem renE_kids (f:Str->Str) (e:Exp):(renE f e).kids=e.kids.map (renE f):=by obtain ⟨_,_,_,_,_,_⟩:=e;rw [renE,renEs_map];rfl
structure RenOk (f:Str->Str) (L:List Str):Prop where
 zero:f noName=noName
 name:∀ s ∈ L,nameM (f s)=true
 inj:∀ s ∈ L,∀ t ∈ L,f s=f t->s=t
theorem nameM_some {s:Str} (h:nameM s=true):s ≠ noName:=by
 rintro rfl
 simp [nameM,noName,ByteArray.size] at h
theorem idx_map {f:Str->Str}:∀ (l:List Str) (s:Str),(∀ x ∈ l,f x=f s->x=s)->idx (l.map f) (f s)=idx l s
 | [],s,_=>rfl
 | x :: l,s,h=>by
  rw [List.map_cons,idx_cons,idx_cons,idx_map l s fun y hy=>h y (List.mem_cons_of_mem _ hy)]
  by_cases e:x=s
  ·subst e;simp
  ·rw [if_neg e,if_neg fun q=>e (h x (List.mem_cons_self ..) q)]
theorem ite_some' {α:Type} {c:Prop} [Decidable c] {a x:α} {o:Option α} {P:α->Prop} (h:(if c then some a else o)=some x) (h1:c->P a) (h2:o=some x->P x):P x:=by
 by_cases q:c
 ·rw [if_pos q] at h;cases h;exact h1 q
 ·rw [if_neg q] at h;exact h2 h
theorem shp_name {op:Int} {x:Shp} (h:shpOf op=some x):x.name=true->op=1 \/ op=2 \/ op=3:=by
 unfold shpOf at h
 refine ite_some' (P:=fun x:Shp=>x.name=true->op=1 \/ op=2 \/ op=3) h (fun c _=>by omega) fun h=>?_
 refine ite_some' (P:=fun x:Shp=>x.name=true->op=1 \/ op=2 \/ op=3) h (fun c _=>by omega) fun h=>?_
 iterate 11
  refine ite_some (P:=fun x:Shp=>x.name=true->op=1 \/ op=2 \/ op=3) h (fun q=>by cases q) fun h=>?_
 cases h
theorem expOk_name {op n fold:Int} {name:Str} {nc nk:Nat} (h:expOk op name n fold nc nk=true):name ≠ noName ↔ op=1 \/ op=2 \/ op=3:=by
 unfold expOk at h
 split at h
 ·cases h
 ·rename_i x hx
  simp only [Bool.and_eq_true,decide_eq_true_eq,beq_iff_eq] at h
  have hn:=h.1.1.2
  constructor
  ·intro q
   exact shp_name hx (by rw [hn];simpa using q)
  ·intro q
   rcases q with rfl | rfl | rfl <;> (simp [shpOf] at hx;subst hx;simpa using hn.symm)
theorem expOk_ren {op n fold:Int} {name name':Str} {nc nk:Nat} (h:expOk op name n fold nc nk=true) (hn:name' ≠ noName ↔ name ≠ noName):expOk op name' n fold nc nk=true:=by
 unfold expOk at h |-
 split at h
 ·cases h
 ·rename_i x hx
  rw [show decide (name' ≠ noName)=decide (name ≠ noName) from decide_eq_decide.2 hn]
  exact h
theorem nameOk_mem {srcs defs:List Str} {a op:Int} {name:Str} (h:nameOk srcs defs a op name=true):(op=1->name ∈ srcs)/\(op=2 \/ op=3->name ∈ defs):=by
 unfold nameOk at h
 constructor
 ·rintro rfl
  simp at h
  exact (idx_mem _ _).1 h
 ·rintro (rfl | rfl)
  ·simp at h;exact (idx_mem _ _).1 h.1
  ·simp at h;exact (idx_mem _ _).1 h
theorem nameOk_ren {f:Str->Str} {srcs defs:List Str} (hf:RenOk f (srcs ++ defs)) {a op:Int} {name:Str} (h:nameOk srcs defs a op name=true):nameOk (srcs.map f) (defs.map f) a op (f name)=true:=by
 have hm:=nameOk_mem h
 have hs:op=1->idx (srcs.map f) (f name)=idx srcs name:=fun q=>idx_map _ _ fun x hx e=>hf.inj _ (by simp [hx]) _ (by simp [hm.1 q]) e
 have hd:op=2 \/ op=3->idx (defs.map f) (f name)=idx defs name:=fun q=>idx_map _ _ fun x hx e=>hf.inj _ (by simp [hx]) _ (by simp [hm.2 q]) e
 unfold nameOk at h |-
 by_cases q1:op=1
 ·rw [if_pos q1] at h |-;rw [hs q1];exact h
 ·rw [if_neg q1] at h |-
  by_cases q2:op=2
  ·rw [if_pos q2] at h |-;rw [hd (.inl q2)];exact h
  ·rw [if_neg q2] at h |-
   by_cases q3:op=3
   ·rw [if_pos q3] at h |-;rw [hd (.inr q3)];exact h
   ·rw [if_neg q3]
mutual
theorem renE_lExp {f:Str->Str} {srcs defs:List Str} (hf:RenOk f (srcs ++ defs)) {a:Int}:∀ (e:Exp) (d l l':Int),lExp srcs defs a e d l=some l'->lExp (srcs.map f) (defs.map f) a (renE f e) d l=some l'
 | .mk op name n fold calcs kids,d,l,l',h=>by
  rw [renE]
  rw [lExp] at h |-
  split at h
  ·rename_i hc
   obtain ⟨h1,h2,h3,h4⟩:=hc
   have hne:f name ≠ noName ↔ name ≠ noName:=by
    constructor
    ·intro q r;rw [r] at q;exact q hf.zero
    ·intro q
     rcases (expOk_name h3).1 q with r | r
     ·exact nameM_some (hf.name _ (by simp [(nameOk_mem h4).1 r]))
     ·exact nameM_some (hf.name _ (by simp [(nameOk_mem h4).2 r]))
   rw [if_pos ⟨h1,h2,by rw [renEs_map,List.length_map];exact expOk_ren h3 hne,nameOk_ren hf h4⟩]
   split at h
   ·exact renEs_lExps hf kids _ _ _ h
   ·cases h
  ·cases h
theorem renEs_lExps {f:Str->Str} {srcs defs:List Str} (hf:RenOk f (srcs ++ defs)) {a:Int}:∀ (es:List Exp) (d l l':Int),lExps srcs defs a es d l=some l'->lExps (srcs.map f) (defs.map f) a (renEs f es) d l=some l'
 | [],d,l,l',h=>by rw [renEs];rw [lExps] at h |-;exact h
 | e :: es,d,l,l',h=>by
  rw [renEs]
  rw [lExps] at h |-
  split at h
  ·rename_i l1 hl1
   rw [renE_lExp hf e _ _ _ hl1]
   exact renEs_lExps hf es _ _ _ h
  ·cases h
end
theorem ren_lDefs {f:Str->Str} {srcs names:List Str} (hf:RenOk f (srcs ++ names)):∀ (ds:List Def) (a left l:Int),lDefs srcs names ds a left=some l->lDefs (srcs.map f) (names.map f) (ds.map (renD f)) a left=some l
 | [],a,left,l,h=>h
 | x :: ds,a,left,l,h=>by
  rw [List.map_cons]
  rw [lDefs] at h |-
  split at h
  ·rename_i l' hl
   simp only [renD]
   rw [renE_lExp hf _ _ _ _ hl]
   exact ren_lDefs hf ds _ _ _ h
  ·cases h
mutual
theorem allE_ren (f:Str->Str):∀ e,allE (renE f e)=(allE e).map (renE f)
 | .mk op name n fold calcs kids=>by rw [renE,allE,allE,List.map_cons,renE,allEs_ren f kids]
theorem allEs_ren (f:Str->Str):∀ es,allEs (renEs f es)=(allEs es).map (renE f)
 | []=>rfl
 | e :: es=>by rw [renEs,allEs,allEs,List.map_append,allE_ren f e,allEs_ren f es]
end
mutual
theorem lExp_names {srcs defs:List Str} {a:Int}:∀ (e:Exp) (d l l':Int),lExp srcs defs a e d l=some l'->∀ x ∈ allE e,(x.op=1->x.name ∈ srcs)/\(x.op=2 \/ x.op=3->x.name ∈ defs)
 | .mk op name n fold calcs kids,d,l,l',h,x,hx=>by
  rw [lExp] at h
  split at h
  ·rename_i hc
   split at h
   ·rw [allE] at hx
    rcases List.mem_cons.1 hx with q | hx
    ·rw [q];exact nameOk_mem hc.2.2.2
    ·exact lExps_names kids _ _ _ h x hx
   ·cases h
  ·cases h
theorem lExps_names {srcs defs:List Str} {a:Int}:∀ (es:List Exp) (d l l':Int),lExps srcs defs a es d l=some l'->∀ x ∈ allEs es,(x.op=1->x.name ∈ srcs)/\(x.op=2 \/ x.op=3->x.name ∈ defs)
 | [],d,l,l',h,x,hx=>by rw [allEs] at hx;cases hx
 | e :: es,d,l,l',h,x,hx=>by
  rw [lExps] at h
  split at h
  ·rename_i l1 hl1
   rw [allEs] at hx
   rcases List.mem_append.1 hx with hx | hx
   ·exact lExp_names e _ _ _ hl1 x hx
   ·exact lExps_names es _ _ _ h x hx
  ·cases h
end
theorem formed_names {p:Prog} (hp:formed p) {i:Nat} (h:i < p.defs.length):∀ x ∈ allE p.defs[i].exp,(x.op=1->x.name ∈ p.srcs)/\(x.op=2 \/ x.op=3->x.name ∈ defNames p):=by
 obtain ⟨⟨l,hl⟩,_⟩:=hp
 unfold countM at hl
 split at hl
 ·obtain ⟨l1,l2,q,_⟩:=lDefs_at _ _ _ _ hl (by omega) i h
  exact lExp_names _ _ _ _ q
 ·cases hl
theorem renP_names (f:Str->Str) (p:Prog):defNames (renP f p)=(defNames p).map f:=by simp [defNames,renP,renD]
theorem diffM_ren {f:Str->Str} {L:List Str} (hf:RenOk f L) (h:diffM L):diffM (L.map f):=by
 intro i hi
 have hi':i < L.length:=by simpa using hi
 rw [List.getElem_map]
 refine ⟨hf.name _ (List.getElem_mem hi'),fun q=>?_⟩
 rw [<- List.map_take] at q
 obtain ⟨x,hx,e⟩:=List.mem_map.1 q
 have:=hf.inj x (List.mem_of_mem_take hx) _ (List.getElem_mem hi') e
 rw [this] at hx
 exact (h i hi').2 hx
theorem formed_ren {f:Str->Str} {p:Prog} (hp:formed p) (hf:RenOk f (p.srcs ++ defNames p)):formed (renP f p):=by
 have hfn:=@formed_names p hp
 obtain ⟨⟨l,hl⟩,hr⟩:=hp
 have hlen:(renP f p).defs.length=p.defs.length:=by simp [renP]
 constructor
 ·refine ⟨l,?_⟩
  unfold countM at hl |-
  rw [renP_names]
  split at hl
  ·rename_i hc
   have hL:(renP f p).srcs ++ (defNames p).map f=(p.srcs ++ defNames p).map f:=by simp [renP]
   rw [if_pos ⟨by simpa [renP] using hc.1,by simpa [renP] using hc.2.1,by rw [hlen];exact hc.2.2.1,by rw [hL];exact diffM_ren hf hc.2.2.2⟩]
   exact ren_lDefs hf _ _ _ _ hl
  ·cases hl
 ·intro i h hpath e' he'
  have hst:∀ {a b:Nat},stepsTo (renP f p) a b->stepsTo p a b:=fun {a b} q=>by
   obtain ⟨h1,e,h2,h3,h4⟩:=q
   have h1':a < p.defs.length:=by rw [<- hlen];exact h1
   have hx:(renP f p).defs[a]=renD f p.defs[a]:=by simp [renP]
   rw [hx] at h2
   simp only [renD] at h2
   rw [allE_ren] at h2
   obtain ⟨x,hx,rfl⟩:=List.mem_map.1 h2
   rw [renE_op] at h3
   rw [renE_name,renP_names,idx_map _ _ fun y hy e=>hf.inj _ (by simp [hy]) _ (by simp [(hfn h1' x hx).2 h3]) e] at h4
   exact ⟨h1',x,hx,h3,h4⟩
  have hP:∀ {a b:Nat},Path (stepsTo (renP f p)) a b->Path (stepsTo p) a b:=fun {a b} q=>by
   induction q with
   | one q=>exact .one (hst q)
   | cons q _ ih=>exact .cons (hst q) ih
  have h':i < p.defs.length:=by rw [<- hlen];exact h
  have hx:(renP f p).defs[i]=renD f p.defs[i]:=by simp [renP]
  rw [hx] at he'
  simp only [renD] at he'
  rw [allE_ren] at he'
  obtain ⟨x,hx,rfl⟩:=List.mem_map.1 he'
  have:=hr i h' (hP hpath) x hx
  unfold looksAhead at this |-
  rw [renE_op,renE_n];exact this
mutual
theorem strip_ren {f:Str->Str} (h0:f noName=noName):∀ e,strip (renE f e)=((strip e).1,renE f (strip e).2)
 | .mk op name n fold calcs kids=>by
  rw [renE,strip,strip]
  by_cases h:op=5
  ·rw [if_pos h,if_pos h,stripL_ren h0 kids]
  ·rw [if_neg h,if_neg h,renE]
theorem stripL_ren {f:Str->Str} (h0:f noName=noName):∀ es,stripL (renEs f es)=((stripL es).1,renE f (stripL es).2)
 | []=>by
  have:renE f default=default:=by
   show renE f (.mk 0 noName 0 0 [] [])=.mk 0 noName 0 0 [] []
   rw [renE,h0,renEs]
  rw [renEs,stripL,this]
 | e :: es=>by rw [renEs,stripL,stripL,strip_ren h0 e]
end
theorem plainOf_ren {f:Str->Str} {p:Prog} {e:Exp} (hf:RenOk f (p.srcs ++ defNames p)) (hn:(stripL e.kids).2.op=1->(stripL e.kids).2.name ∈ p.srcs):plainOf (renP f p) (renE f e)=plainOf p e:=by
 unfold plainOf
 rw [renE_op,renE_kids,renE_n,renE_fold,<- renEs_map,stripL_ren hf.zero]
 simp only [renE_op,renE_name]
 by_cases h8:e.op ≠ 8
 ·rw [if_pos h8,if_pos h8]
 ·rw [if_neg h8,if_neg h8]
  by_cases h1:(stripL e.kids).2.op ≠ 1
  ·rw [if_pos h1,if_pos h1]
  ·rw [if_neg h1,if_neg h1]
   have:=hn (by simpa using h1)
   rw [show (renP f p).srcs=p.srcs.map f from rfl,idx_map _ _ fun y hy e=>hf.inj _ (by simp [hy]) _ (by simp [this]) e]
theorem ren_law {f:Str->Str} {p:Prog} {d:Int} {l:List News} {room:Room} {window key:Int} (h:askE p d l room window key=0) (hf:RenOk f (p.srcs ++ defNames p)) :
  ofM (renP f p) d l room window key=ofM p d l room window key/\(ofM p d l room window key).2=0:=by
 obtain ⟨h1,h2,_⟩:=askE_zero h
 obtain ⟨hdf,hpl,_,_,_,_,_,h8,_⟩:=askE_facts h
 have hd:d.toNat < p.defs.length:=by have:=hdf.2;omega
 have hgd:p.defs.getD d.toNat default=p.defs[d.toNat]:=by simp [List.getD,List.getElem?_eq_getElem hd]
 have hgr:(renP f p).defs.getD d.toNat default=renD f p.defs[d.toNat]:=by simp [List.getD,renP,hd]
 have hl:(renP f p).defs.length=p.defs.length:=by simp [renP]
 have hp1:(plainOf p p.defs[d.toNat].exp).2=true:=by rw [hgd] at hpl;exact hpl
 have hsp:plainOf (renP f p) (renD f p.defs[d.toNat]).exp=plainOf p p.defs[d.toNat].exp:=by
  refine plainOf_ren hf fun q=>?_
  have:=(formed_plain hdf.1 hd hp1).2.2.1
  have h8:=plain_op hp1
  unfold plainOf at this
  rw [if_neg (by simpa using h8),if_neg (by simpa using q)] at this
  exact (idx_mem _ _).1 this
 have hdef:isDefM (renP f p) d:=⟨formed_ren hdf.1 hf,hdf.2.1,by rw [hl];exact hdf.2.2⟩
 have hsl:(renP f p).srcs.length=p.srcs.length:=by simp [renP]
 have hask:askedB (renP f p) d l room key=true:=by
  simp only [askedB,Bool.and_eq_true,decide_eq_true_eq] at h1 |-
  rw [hsl]
  exact ⟨⟨⟨⟨hdef,h1.1.1.1.2⟩,h1.1.1.2⟩,h1.1.2⟩,h1.2⟩
 refine ⟨?_,by rw [h8]⟩
 have hb:boundV (renP f p) d.toNat l room window key=boundV p d.toNat l room window key:=by
  unfold boundV
  rw [hgr,hgd,hsp]
 rw [ofM,ofM,if_pos hask,if_pos h1,hgr,hgd,hsp,hb]
def letter (n:Nat):Str:=⟨#[UInt8.ofNat (97+n)]⟩
def canN (L:List Str) (s:Str):Str:=if 0<=idx L s then letter (idx L s).toNat else noName
theorem letter_name {n:Nat} (h:n < 26):nameM (letter n)=true:=by
 have:∀ n:Fin 26,nameM (letter n.val)=true:=by decide +kernel
 exact this ⟨n,h⟩
theorem letter_inj {m n:Nat} (hm:m < 26) (hn:n < 26) (h:letter m=letter n):m=n:=by
 have:∀ m n:Fin 26,letter m.val=letter n.val->m=n:=by decide +kernel
 exact congrArg Fin.val (this ⟨m,hm⟩ ⟨n,hn⟩ h)
theorem idx_inj {L:List Str} {s t:Str} (hs:s ∈ L) (ht:t ∈ L) (h:idx L s=idx L t):s=t:=by
 induction L with
 | nil=>cases hs
 | cons x L ih =>
  rw [idx_cons,idx_cons] at h
  by_cases e1:x=s
  ·by_cases e2:x=t
   ·rw [<- e1,e2]
   ·rw [if_pos e1,if_neg e2] at h
    split at h <;> omega
  ·by_cases e2:x=t
   ·rw [if_neg e1,if_pos e2] at h
    split at h <;> omega
   ·have m1:s ∈ L:=by
     rcases List.mem_cons.1 hs with q | q
     ·exact absurd q.symm e1
     ·exact q
    have m2:t ∈ L:=by
     rcases List.mem_cons.1 ht with q | q
     ·exact absurd q.symm e2
     ·exact q
    have i1:=(idx_mem L s).2 m1
    have i2:=(idx_mem L t).2 m2
    rw [if_neg e1,if_neg e2,if_neg (by omega),if_neg (by omega)] at h
    exact ih m1 m2 (by omega)
theorem canN_ok {L:List Str} (h26:L.length<=26) (hd:diffM L):RenOk (canN L) L:=by
 have hlt:∀ s,s ∈ L->0<=idx L s/\idx L s < 26:=fun s hs=>⟨(idx_mem L s).2 hs,by have:=idx_lt L s;omega⟩
 refine ⟨?_,fun s hs=>?_,fun s hs t ht e=>?_⟩
 ·unfold canN
  rw [if_neg]
  intro q
  obtain ⟨i,hi,e⟩:=List.mem_iff_getElem.1 ((idx_mem L noName).1 q)
  exact nameM_some ((hd i hi).1) e
 ·have:=hlt s hs
  unfold canN
  rw [if_pos this.1]
  exact letter_name (by omega)
 ·have h1:=hlt s hs
  have h2:=hlt t ht
  unfold canN at e
  rw [if_pos h1.1,if_pos h2.1] at e
  have:=letter_inj (by omega) (by omega) e
  exact idx_inj hs ht (by omega)
def canP (p:Prog):Prog:=renP (canN (p.srcs ++ defNames p)) p
theorem canP_ok {p:Prog} (h:formed p):RenOk (canN (p.srcs ++ defNames p)) (p.srcs ++ defNames p):=by
 obtain ⟨⟨l,hl⟩,_⟩:=h
 unfold countM at hl
 split at hl
 ·rename_i hc
  exact canN_ok (by simp [defNames];omega) hc.2.2.2
 ·cases hl
end Go.Aft
end
section
set_option maxRecDepth 20000
namespace Go.Aft
open Go.Proofs.Tryz
theorem each_calc (l:List Calc) (hl:l.length * 40<=140737488351232) (hk:∀ k ∈ l,AFun prog 126 [lv (rCalc k)] (lv (rCalc k))):AFun prog 125 [sl (l.map rCalc),.fn (.func 126) [] []] (sl (l.map rCalc)):=by
 have cc:=cx0_ok
 refine AFun.body cx0_ok func125 rfl call125 (by rw [ntmps125];simp) rfl fun hf H=>?_
 simp [ntmps125,results125] at hf |-
 refine AW.loopS cc (fun a:Nat × LV × GH=>⟨[(1,.fn (.func 126) [] []),(5,a.2.1),(8,.d (.sl (l.map rCalc))),(9,lvI l.length),(10,lvI a.1)],[],a.2.2⟩) (fun a=>l.length - a.1) (fun a=>a.1<=l.length/\App 135 3 H a.2.1 ((l.take a.1).map rCalc) a.2.2) (0,.d (.k (.slice none 0 0)),H) ⟨⟨by simp,.nil⟩,by simp⟩ ?_
 rintro ⟨i,x,H'⟩ ⟨hi,happ⟩
 simp only at hi happ
 simp
 refine ⟨fun h=>?_,fun h=>?_⟩
 ·have hd:=hk l[i] (List.getElem_mem h)
  simp [rCalc_eq] at hd
  simp [h,List.getElem?_eq_getElem h,rCalc_eq,happ.plain.all]
  refine EC.afun hd ?_
  simp [happ.plain.all]
  refine APK.appMap rCalc (l.take i) [l[i]] tyE68 rfl tyE135 (by simp) rCalc_len (x:=x) (by simp) happ (by simp [rCalc_eq,rowsOf]) (by simp) (by simp;omega) (by simp) fun x' H2 happ'=>?_
  rw [show (l.take i) ++ [l[i]]=l.take (i+1) from take_more h] at happ'
  simp [happ'.plain.all,happ'.only,wrap_succ (n:=9223372036854775807) (show i < 9223372036854775807 by omega)]
  exact NX.go (i+1,x',H2) (by simp;omega) ⟨h,happ'⟩ (by simp [happ'.only,happ'.plain.all,LV.only])
 ·have:i=l.length:=by omega
  subst this
  rw [List.take_length] at happ
  have hz:=happ.fz
  simp [happ.plain.all,hz.1]
  exact hz.2
theorem term_calcC1 (op n:Int) (kids:List Calc) (hl:kids.length * 40<=140737488351232) (hk:∀ k ∈ kids,AFun prog 126 [lv (rCalc k)] (lv (rCalc k))):AFun prog 126 [lv (rCalc (.mk op n kids))] (lv (rCalc (.mk op n kids))):=by
 have he:=each_calc kids hl hk
 refine AFun.body cx0_ok func126 rfl call126 (by rw [ntmps126];simp) rfl fun hf H=>?_
 simp [ntmps126,results126,rCalc_eq,Calc.op,Calc.n,Calc.kids] at he |-
 refine EC.afun he ?_
 simp [rCalc_eq,Calc.op,Calc.n,Calc.kids]
mutual
theorem term_calcC:∀ c:Calc,okC c->AFun prog 126 [lv (rCalc c)] (lv (rCalc c))
 | .mk op n kids,h=>by
  rw [okC] at h
  exact term_calcC1 op n kids h.1 (term_calcsC kids h.2)
theorem term_calcsC:∀ cs:List Calc,okCs cs->∀ k ∈ cs,AFun prog 126 [lv (rCalc k)] (lv (rCalc k))
 | [],_,k,hk=>by cases hk
 | c :: cs,h,k,hk=>by
  rw [okCs] at h
  rcases List.mem_cons.1 hk with q | hk
  ·rw [q];exact term_calcC c h.1
  ·exact term_calcsC cs h.2 k hk
end
theorem each_exp (g:Exp->Exp) (m:Nat) (l:List Exp) (hl:l.length * 88<=140737488351232) (H:GH) (o:GO) (hm:H.obj m=some o) (hk:∀ k ∈ l,∀ H',H'.obj m=some o->ECall prog 128 [lv (rExp k),.ip [.gm m] 0] H' fun ce H2=>ce=.ret (lv (rExp (g k)))/\H2=H') :
  ECall prog 127 [sl (l.map rExp),.fn (.func 128) [] [.ip [.gm m] 0]] H fun ce H'=>ce=.ret (sl ((l.map g).map rExp))/\H'=H:=by
 have cc:=cx0_ok
 refine ECall.bodyN cx0_ok func127 rfl call127 (by rw [ntmps127];simp) rfl fun hf hw=>?_
 have hmn:=hw.lt hm
 simp [ntmps127,results127] at hf |-
 refine AW.loopS cc (fun a:Nat × LV × GH=>⟨[(1,.fn (.func 128) [] [.ip [.gm m] 0]),(5,a.2.1),(8,.d (.sl (l.map rExp))),(9,lvI l.length),(10,lvI a.1)],[],a.2.2⟩) (fun a=>l.length - a.1) (fun a=>a.1<=l.length/\AppX 105 6 H a.2.1 (((l.take a.1).map g).map rExp) a.2.2) (0,.d (.k (.slice none 0 0)),H) ⟨⟨by simp,.nil⟩,by simp [LV.only,onlys]⟩ ?_
 rintro ⟨i,x,H'⟩ ⟨hi,happ⟩
 simp only at hi happ
 simp
 refine ⟨fun h=>?_,fun h=>?_⟩
 ·have hd:=hk l[i] (List.getElem_mem h) H' (by rw [happ.ob m hmn];exact hm)
  simp [rExp_eq] at hd
  have hlt:m < H'.next:=Nat.lt_of_lt_of_le hmn happ.nx
  simp [h,List.getElem?_eq_getElem h,rExp_eq,happ.plain.all]
  refine ⟨by simp [LV.nb,nbs,hlt],EC.of hd (fun v H2 hR=>?_) (fun v H2 hR=>by cases hR.1)⟩
  obtain ⟨q,rfl⟩:=hR
  cases q
  simp [happ.plain.all]
  refine APK.appX (ys:=[rExp (g l[i])]) tyE103 rfl tyE105 (by simp) (x:=x) (by simp) happ (by simp [rExp_eq,rowsOf]) (by simp) (fun r hr=>by obtain ⟨_,_,rfl⟩:=List.mem_map.1 hr;simp) (by simp) (by simp;omega) (by simp) fun x' H3 happ' _ _=>?_
  rw [show ((l.take i).map g).map rExp ++ [rExp (g l[i])]=((l.take (i+1)).map g).map rExp by rw [<- take_more h,List.map_append,List.map_append];rfl] at happ'
  simp [happ'.plain.all,happ'.only,wrap_succ (n:=9223372036854775807) (show i < 9223372036854775807 by omega)]
  exact NX.go (i+1,x',H3) (by simp;omega) ⟨h,happ'⟩ (by simp [happ'.only,happ'.plain.all,LV.only,onlys])
 ·have:i=l.length:=by omega
  subst this
  rw [List.take_length] at happ
  simp [happ.plain.all,happ.fz]
  exact fun hz=>Drop_same happ.nx happ.ob hw.none
structure MapT (es:List (Value × LV)) (f:Str->Str):Prop where
 get:∀ s,(mfind (.string s) es).getD (.d (.k (.string ⟨#[]⟩)))=.d (.k (.string (f s)))
 key:∀ (a:Value) (b:LV),(a,b) ∈ es->(KK.sc Sc.str).has a=true
theorem term_renamed1 (f:Str->Str) (h0:f noName=noName) (m:Nat) (es:List (Value × LV)) (he:MapT es f) (op:Int) (name:Str) (n fold:Int) (calcs:List Calc) (kids:List Exp) (hc:okCs calcs) (hcl:calcs.length * 40<=140737488351232) (hkl:kids.length * 88<=140737488351232)
  (ih:∀ k ∈ kids,∀ H,H.obj m=some (.map es)->ECall prog 128 [lv (rExp k),.ip [.gm m] 0] H fun ce H2=>ce=.ret (lv (rExp (renE f k)))/\H2=H) (H:GH) (hm:H.obj m=some (.map es)) :
  ECall prog 78 [lv (rExp (.mk op name n fold calcs kids)),.gm m] H fun ce H2=>ce=.ret (lv (rExp (renE f (.mk op name n fold calcs kids))))/\H2=H:=by
 have cc:=cxK_ok (p:=kds [3] [] [])
 refine ECall.bodyN (cxK_ok (p:=kds [3] [] [])) func78 rfl call78 (by rw [ntmps78];simp) rfl fun hf hw=>?_
 have h1:=each_calc calcs hcl (term_calcsC calcs hc)
 have h2:=each_exp (renE f) m kids hkl H _ hm ih
 have hkey:=eq_true he.key
 have hget:=he.get
 have hmn:=hw.lt hm
 have hf0:name = ⟨#[]⟩->f name=name:=by rintro rfl;exact h0
 simp at h1 h2
 simp [ntmps78,results78,rExp_eq,Exp.op,Exp.n,Exp.kids,Exp.name,Exp.fold,Exp.calcs,hm,hget,hkey,renE,renEs_map]
 refine ⟨fun q=>?_,fun q=>?_⟩
 ·refine EC.afun h1 ?_
  simp
  refine ⟨by simp [LV.nb,nbs,hmn],EC.of h2 (fun v H2 hR=>?_) (fun v H2 hR=>by cases hR.1)⟩
  obtain ⟨q,rfl⟩:=hR
  cases q
  simp
  exact fun hz=>⟨hz.drop (Nat.le_refl _),by simp [rExp_eq,renE,renEs_map]⟩
 ·refine EC.afun h1 ?_
  simp
  refine ⟨by simp [LV.nb,nbs,hmn],EC.of h2 (fun v H2 hR=>?_) (fun v H2 hR=>by cases hR.1)⟩
  obtain ⟨q',rfl⟩:=hR
  cases q'
  simp [hf0 q]
  exact fun hz=>⟨hz.drop (Nat.le_refl _),by simp [rExp_eq,renE,renEs_map,hf0 q]⟩
theorem term_renamed_1 (f:Str->Str) (m:Nat) (o:GO) (e:Exp) (ih:∀ H,H.obj m=some o->ECall prog 78 [lv (rExp e),.gm m] H fun ce H2=>ce=.ret (lv (rExp (renE f e)))/\H2=H) (H:GH) (hm:H.obj m=some o) :
  ECall prog 128 [lv (rExp e),.ip [.gm m] 0] H fun ce H2=>ce=.ret (lv (rExp (renE f e)))/\H2=H:=by
 have cc:=cxK_ok (p:=kds [2] [] [])
 refine ECall.bodyN (cxK_ok (p:=kds [2] [] [])) func128 rfl call128 (by rw [ntmps128];simp) rfl fun hf hw=>?_
 have h1:=ih H hm
 have hmn:=hw.lt hm
 simp [rExp_eq] at h1
 simp [ntmps128,results128,rExp_eq]
 refine ⟨hmn,EC.of h1 (fun v H2 hR=>?_) (fun v H2 hR=>by cases hR.1)⟩
 obtain ⟨q,rfl⟩:=hR
 cases q
 simp
 exact fun hz=>⟨hz.drop (Nat.le_refl _),by simp [rExp_eq]⟩
mutual
theorem term_renamed (f:Str->Str) (h0:f noName=noName) (m:Nat) (es:List (Value × LV)) (he:MapT es f):∀ e:Exp,okE e->∀ H,H.obj m=some (.map es)->ECall prog 78 [lv (rExp e),.gm m] H fun ce H2=>ce=.ret (lv (rExp (renE f e)))/\H2=H
 | .mk op name n fold calcs kids,h,H,hm=>by
  rw [okE] at h
  exact term_renamed1 f h0 m es he op name n fold calcs kids h.2.2.1 h.1 h.2.1 (term_renameds f h0 m es he kids h.2.2.2) H hm
theorem term_renameds (f:Str->Str) (h0:f noName=noName) (m:Nat) (es:List (Value × LV)) (he:MapT es f):∀ l:List Exp,okEs l->∀ k ∈ l,∀ H,H.obj m=some (.map es)->ECall prog 128 [lv (rExp k),.ip [.gm m] 0] H fun ce H2=>ce=.ret (lv (rExp (renE f k)))/\H2=H
 | [],_,k,hk=>by cases hk
 | c :: cs,h,k,hk=>by
  rw [okEs] at h
  rcases List.mem_cons.1 hk with q | hk
  ·rw [q];exact term_renamed_1 f m _ c (term_renamed f h0 m es he c h.1)
  ·exact term_renameds f h0 m es he cs h.2 k hk
end
end Go.Aft
end
section
set_option maxRecDepth 20000
namespace Go.Aft
open Go.Proofs.Tryz
theorem AppX.cut {e:TypeId} {sz N:Nat} {H0 H:GH} {x:LV} {rows:List (List DV)} (h:AppX e sz H0 x rows H) (hN:H0.next=N):AppX e sz (H.cut N) x rows H:=by
 subst hN
 exact ⟨h.is,h.nx,fun m hm=>(GH.cut_lt (by simpa using hm)).symm⟩
theorem AppX.same {e:TypeId} {sz N:Nat} {H H2:GH} {x:LV} {rows:List (List DV)} (h:AppX e sz (H.cut N) x rows H) (hs:GH.same N H H2):AppX e sz (H2.cut N) x rows H2:=by
 refine ⟨?_,by rw [GH.cut_next,hs.next];exact h.nx,fun m hm=>(GH.cut_lt (by simpa using hm)).symm⟩
 rcases h.is with q | ⟨n,q1,q2,q3,q4⟩
 ·exact .inl q
 ·exact .inr ⟨n,q1,by rw [hs.next];exact q2,q3,by rw [hs.obj n q1];exact q4⟩
theorem EYield.nb {P:Program} {n:Nat} {args:List LV} {H:GH} {R:CE->GH->Prop} (h:nbH H->EYield P n args H R):EYield P n args H R:=fun G w vs hM hNL hargs =>
 h ⟨fun n hn=>by
  cases ho:H.obj n with
  | none=>rfl
  | some o=>have:=(hM.nmd n o ho).1;omega,fun n o ho=>GO_nb (hM.nmd n o ho).2⟩ G w vs hM hNL hargs
def rowsW (j:Nat):List LV:=(List.range (j+1)).map fun i=>.d (.k (.string (letter i)))
theorem letter_str (k:Nat):(⟨#[]⟩:ByteArray) ++ strB [97+(k:Int)]=letter k:=by
 have:strB [97+(k:Int)]=letter k:=by
  simp only [strB,letter,List.foldl_cons,List.foldl_nil]
  rw [show (97+(k:Int)).toNat=97+k by omega]
  rfl
 rw [this]
 apply ByteArray.ext
 simp [ByteArray.append_eq,letter]
theorem letter_size (k:Nat):(letter k).size=1:=rfl
theorem term_words {n N j:Nat} {J:Nat->GH->Prop} {St:GH->Prop} {Pn:LV->GH->Prop} (hj:j < 26) (hI:Iter prog n N (rowsW j) J St Pn) (hJ:∀ H,¬ J (j+1) H) (H:GH) (hn:n < N) (hN:N<=H.next) (h0:J 0 H) :
  ECall prog 122 [.yl n] H fun ce H'=>N<=H'.next/\match ce with
   | .ret _=>St H'
   | .pan x=>Pn x H':=by
 have cc:=cx0_ok
 refine ECall.bodyN cx0_ok func122 rfl call122 (by rw [ntmps122];simp) rfl fun hf hw=>?_
 simp [ntmps122,results122]
 refine AW.loopS cc (fun _:Unit=>⟨[(0,.yl n),(2,.d (.sl [[.k (.string ⟨#[]⟩)]]))],[],H⟩) (fun _=>1) (fun _=>True) () ⟨trivial,by simp [LV.only]⟩ ?_
 rintro _ _
 simp
 refine AW.loopS cc (fun _:Unit=>⟨[(0,.yl n),(3,.d (.k (.slice none 0 0))),(9,.d (.sl [[.k (.string ⟨#[]⟩)]])),(10,lvI 1),(11,lvI 0)],[],H⟩) (fun _=>1) (fun _=>True) () ⟨trivial,by simp [LV.only]⟩ ?_
 rintro _ _
 simp
 refine AW.loopS cc (fun a:Nat × LV × GH=>⟨[(0,.yl n),(3,a.2.1),(5,.d (.k (.string ⟨#[]⟩))),(6,.d (.k (.int .u8 (97+(a.1:Int))))),(9,.d (.sl [[.k (.string ⟨#[]⟩)]])),(10,lvI 1),(11,lvI 0)],[],a.2.2⟩) (fun a=>26 - a.1)
  (fun a=>a.1<=j/\J a.1 a.2.2/\H.next<=a.2.2.next/\∃ rows,rows.length=a.1/\(∀ r ∈ rows,r.length=1)/\AppX 9 1 (a.2.2.cut N) a.2.1 rows a.2.2) (0,.d (.k (.slice none 0 0)),H) ⟨⟨by simp,h0,Nat.le_refl _,[],rfl,by simp,AppX.cut (H0:=H.cut N) ⟨.inl ⟨rfl,rfl⟩,hN,fun m hm=>(GH.cut_lt (by simpa using hm)).symm⟩ rfl⟩,by simp [LV.only]⟩ ?_
 rintro ⟨k,x,H'⟩ ⟨hk,hjk,hn',rows,hrl,hrr,happ⟩
 simp only at hk hjk hn' hrl happ
 have hle:(97+(k:Int))<=122:=by omega
 have hy:=EYield.nb fun hz'=>hI.step (i:=k) (H:=H') (r:=.d (.k (.string (letter k)))) (by simp only [rowsW,List.getElem?_map,List.getElem?_range (show k < j+1 by omega)];rfl) (by omega) hz' hjk
 have hls:=letter_str k
 have hsz:(⟨#[]⟩:ByteArray).size+(strB [97+(k:Int)]).size<=9223372036854775807:=by simp [strB,ByteArray.size]
 have hw8:IntKind.wrap .u8 (97+(k:Int)+1)=97+((k+1:Nat):Int):=by
  show (97+(k:Int)+1) % 256=_
  omega
 simp [hle,bytesR,hls,hsz]
 refine EY.of hy (fun v H2 hR=>?_) (fun v H2 hR=>?_)
 ·obtain ⟨hs,hR⟩:=hR
  rcases hR with ⟨rfl,hR⟩ | ⟨rfl,hR⟩
  ·by_cases e:k=j
   ·rw [e] at hR;exact absurd hR (hJ _)
   have happ2:=happ.same hs
   simp [happ2.plain.all]
   refine APK.appX (ys:=[rS (letter k)]) tyE22 rfl tyE9 (by simp) (x:=x) (by simp) happ2 (by simp [rS,rowsOf]) (by simp) hrr (by simp) (by simp;omega) (by simp) fun x' H3 h3 n3 _=>?_
   have n3':H2.next<=H3.next:=n3
   have n4:=hs.next
   simp [h3.plain.all,hw8]
   exact NX.go (k+1,x',H3) (by simp only;omega) ⟨by simp only;omega,hI.stJ hR (fun m hm=>by rw [h3.ob m (by simpa using hm),GH.cut_lt hm]) (show N<=H3.next by omega),by simp only;omega,rows ++ [rS (letter k)],by simp [hrl],fun r hr=>by
    rcases List.mem_append.1 hr with q | q
    ·exact hrr r q
    ·simp at q;rw [q];rfl,h3.cut rfl⟩ (by simp [h3.only,LV.only])
  ·simp
   exact fun hz=>⟨H2,hz.drop (by rw [hs.next];exact hn'),by rw [hs.next];omega,hR⟩
 ·obtain ⟨hs,hR⟩:=hR
  have hnb:=hI.stP hR (fun _ _=>rfl) (by rw [hs.next];omega)
  simp
  exact fun hz=>⟨H2,hz.drop (by rw [hs.next];exact hn'),nb_mono (by rw [hs.next];omega) hnb.1,by rw [hs.next];omega,hR⟩
theorem slices_Contains (l:List Str) (s:Str):AFun prog 124 [sl (l.map rS),.d (dS s)] (.d (.k (.bool (decide (0<=idx l s))))):=by
 have h:=slices_Index l s
 refine AFun.body cx0_ok func124 rfl call124 (by rw [ntmps124];simp) rfl fun hf H=>?_
 simp [intV] at h
 simp [ntmps124,results124]
 refine EC.afun h ?_
 simp
theorem idx_letters {j i:Nat} (hj:j<=26) (hi:i < 26):(0<=idx ((List.range j).map letter) (letter i)) ↔ i < j:=by
 rw [idx_mem]
 simp only [List.mem_map,List.mem_range]
 constructor
 ·rintro ⟨k,h1,h2⟩
  have:=letter_inj (by omega) hi h2
  omega
 ·intro h;exact ⟨i,h,rfl⟩
theorem term_Fresh (j:Nat) (hj:j < 26):AFun prog 77 [sl (((List.range j).map letter).map rS)] (.d (.k (.string (letter j)))):=by
 intro H
 have cc:=cxF_ok (r:=none) (f:=77) (p:=kds [1] [2] [])
 have ccR:∀ l,(cxF (some l) 77 (kds [1] [2] [])).ok prog:=fun l=>cxF_ok
 refine ECall.bodyN (cxF_ok (r:=none) (f:=77) (p:=kds [1] [2] [])) func77 rfl call77 (by rw [ntmps77];simp) rfl fun hf hw=>?_
 have hcon:=fun i=>slices_Contains ((List.range j).map letter) (letter i)
 have hnm:=fun i=>term_Name (letter i) (by unfold strFit;rw [letter_size];omega)
 have hil:=fun i (hi:i < 26)=>idx_letters (j:=j) (i:=i) (by omega) hi
 generalize hL:((List.range j).map letter).map rS=L at hcon
 simp at hcon hnm
 simp [ntmps77,results77]
 refine AW.at (c:=cxF none 77 (kds [1] [2] [])) ⟨[(1,.ip [.d (.sl L)] 0),(2,.gp H.next 0)],[],H.add (.box [.d (.k (.string ⟨#[]⟩))])⟩ (by simp [LV.only,onlys]) ?_
 refine AWp.rangeFunc rfl rfl (f:=122) (first:=[]) (cap:=[]) (by simp) (by simp) [(1,.ip [.d (.sl L)] 0),(2,.gp H.next 0)] (by simp [allL]) (by simp [allL,LV.nb,nbs,GH.add_next]) (by simp [nbs,LV.nb]) ?_
 simp only [LS.s_mk,List.nil_append,List.singleton_append,List.append_nil,GH.add_next]
 generalize hx:LP.mk _ _ _ _ _ _ _=x
 have hxf:x.f=77:=by rw [<- hx]
 have hxd:x.d=H.next+1:=by rw [<- hx]
 have hxe:∀ t,(x.env t).nb (H.next+3):=by
  rw [<- hx]
  intro t
  refine envL_nb ?_ t
  simp [allL,LV.nb,nbs]
 obtain ⟨J,hJ⟩:∃ J:Nat->GH->Prop,J=fun i H'=>i<=j/\H'.obj (H.next+2)=some (x.go .ready none)/\H'.obj (H.next+1)=some .dfr/\H'.obj H.next=some (.box [.d (.k (.string ⟨#[]⟩))])/\∀ m,m < H.next->H'.obj m=H.obj m:=⟨_,rfl⟩
 obtain ⟨St,hSt⟩:∃ St:GH->Prop,St=fun H'=>H'.obj (H.next+2)=some (x.go .done (some .ret))/\H'.obj (H.next+1)=some .dfr/\H'.obj H.next=some (.box [.d (.k (.string (letter j)))])/\∀ m,m < H.next->H'.obj m=H.obj m:=⟨_,rfl⟩
 have hnbA:∀ (H':GH) (st:LoopState) (pe:Option Code) (s:Str),H'.obj (H.next+2)=some (x.go st pe)->H'.obj (H.next+1)=some .dfr->H'.obj H.next=some (.box [.d (.k (.string s))])->(∀ m,m < H.next->H'.obj m=H.obj m)->∀ m o,m < H.next+3->H'.obj m=some o->o.nb (H.next+3):=fun H' st pe s q1 q2 q3 q4 m o hm ho=>by
  by_cases e1:m=H.next+2
  ·subst e1;rw [q1] at ho;cases ho
   exact ⟨by rw [hxd];omega,hxe⟩
  ·by_cases e2:m=H.next+1
   ·subst e2;rw [q2] at ho;cases ho;trivial
   ·by_cases e3:m=H.next
    ·subst e3;rw [q3] at ho;cases ho;simp [GO.nb,nbs,LV.nb]
    ·rw [q4 m (by omega)] at ho
     exact GO.nb_mono (by omega) (hw.nb m o ho)
 have hI:Iter prog (H.next+2) (H.next+3) (rowsW j) J St (fun _ _=>False):=by
  refine ⟨fun {i H1 H2} hj hag _=>?_,fun {H1 H2} hj hag _=>?_,fun h=>h.elim,fun {i H1} hj=>?_,fun {H1} hj=>?_,fun h=>h.elim,?_⟩
  ·rw [hJ] at hj |-
   obtain ⟨q0,q1,q2,q3,q4⟩:=hj
   exact ⟨q0,by rw [hag _ (by omega)];exact q1,by rw [hag _ (by omega)];exact q2,by rw [hag _ (by omega)];exact q3,fun m hm=>by rw [hag _ (by omega)];exact q4 m hm⟩
  ·rw [hSt] at hj |-
   obtain ⟨q1,q2,q3,q4⟩:=hj
   exact ⟨by rw [hag _ (by omega)];exact q1,by rw [hag _ (by omega)];exact q2,by rw [hag _ (by omega)];exact q3,fun m hm=>by rw [hag _ (by omega)];exact q4 m hm⟩
  ·rw [hJ] at hj
   obtain ⟨q0,q1,q2,q3,q4⟩:=hj
   exact hnbA _ _ _ _ q1 q2 q3 q4
  ·rw [hSt] at hj
   obtain ⟨q1,q2,q3,q4⟩:=hj
   exact hnbA _ _ _ _ q1 q2 q3 q4
  ·intro i H1 r hr hN hz1 hj
   rw [hJ] at hj
   obtain ⟨q0,q1,q2,q3,q4⟩:=hj
   obtain rfl:r=.d (.k (.string (letter i))):=by
    simp only [rowsW,List.getElem?_map,Option.map_eq_some_iff] at hr
    obtain ⟨e,h1,h2⟩:=hr
    rw [List.getElem?_range (by omega)] at h1
    cases h1;exact h2.symm
   refine EYield.ofN (c:=fun l=>cxF (some l) 77 (kds [1] [2] [])) ccR (fun l=>by simp [hxf]) q1 ⟨_,by rw [hxf];exact func77⟩ (by rw [<- hx];rfl) (by rw [<- hx];simp) fun hz l=>?_
   have xa:=(congrArg LP.asn hx).symm
   have xb:=(congrArg LP.body hx).symm
   have xe:=(congrArg LP.env hx).symm
   have xp:=(congrArg LP.ps hx).symm
   have xn:=(congrArg LP.nt hx).symm
   dsimp only at xa xb xe xp xn
   rw [xa,xb,xe,xp,xn]
   clear xa xb xe xp xn hx
   simp [putAll]
   refine ⟨q1,?_⟩
   generalize hob:x.go .busy none=ob
   have hnn:H.next ≠ H.next+2:=by omega
   have o2:(H1.set (H.next+2) ob).obj H.next=some (.box [.d (.k (.string ⟨#[]⟩))]):=by rw [GH.set_obj,if_neg hnn];exact q3
   have hnx:H.next < (H1.set (H.next+2) ob).next:=by rw [GH.set_next];omega
   have hback:∀ X st pe,((H1.set (H.next+2) ob).set H.next X).set (H.next+2) (x.go st pe)=(H1.set H.next X).set (H.next+2) (x.go st pe):=fun X st pe=>by
    rw [GH.set_comm (Ne.symm hnn),GH.set_set,GH.set_comm hnn]
   refine AW.ev (ccR l) ?_
   have hnm':=hnm i
   rw [letter_name (by omega)] at hnm'
   have hcon':=hcon i
   have hil':=hil i (by omega)
   simp
   refine EC.afun hnm' ?_
   simp
   refine EC.afun hcon' ?_
   by_cases e:i < j
   ·simp [hil',e]
    refine fun hz2=>⟨⟨.busy,none,by rw [GH.set_same,hob]⟩,H1,?_,GH.same.refl,?_⟩
    ·rw [GH.set_set,GH.set_id q1];exact hz1.drop (Nat.le_refl _)
    ·rw [hJ];exact ⟨by omega,q1,q2,q3,q4⟩
   ·obtain rfl:i=j:=by omega
    simp [hil',o2,hnx]
    refine fun hz2=>⟨⟨.busy,none,by rw [GH.set_obj,if_neg (Ne.symm hnn),GH.set_same,hob]⟩,(H1.set H.next (.box [.d (.k (.string (letter i)))])).set (H.next+2) (x.go .done (some .ret)),?_,⟨rfl,fun m hm=>by rw [GH.set_obj,if_neg (by omega),GH.set_obj,if_neg (by omega)]⟩,?_⟩
    ·rw [hback]
     refine ((hz1.set (by omega) (by simp [GO.nb,nbs,LV.nb])).set (by rw [GH.set_next];omega) ?_).drop (Nat.le_refl _)
     rw [GH.set_next]
     exact GO.nb_mono hN ⟨by rw [hxd];omega,hxe⟩
    ·rw [hSt]
     exact ⟨by rw [GH.set_same],by rw [GH.set_obj,if_neg (by omega),GH.set_obj,if_neg (by omega)];exact q2,by rw [GH.set_obj,if_neg (by omega),GH.set_same],fun m hm=>by rw [GH.set_obj,if_neg (by omega),GH.set_obj,if_neg (by omega)];exact q4 m hm⟩
 have hend:=term_words hj hI (fun H' q=>by rw [hJ] at q;omega) (((H.add (.box [.d (.k (.string ⟨#[]⟩))])).add .dfr).add (x.go .ready none)) (by omega) (by simp only [GH.add_next];omega) (by
  rw [hJ]
  refine ⟨by omega,by rw [GH.add_obj];simp [GH.add_next],by rw [GH.add_obj];simp [GH.add_next,GH.add_obj],by rw [GH.add_obj,if_neg (by simp only [GH.add_next];omega),GH.add_obj,if_neg (by simp only [GH.add_next];omega),GH.add_obj,if_pos rfl],fun m hm=>?_⟩
  rw [GH.add_obj,if_neg (by simp only [GH.add_next];omega),GH.add_obj,if_neg (by simp only [GH.add_next];omega),GH.add_obj,if_neg (by omega)])
 refine hend.mono fun ce H2 hR=>?_
 obtain ⟨hn3,hR⟩:=hR
 cases ce with
 | pan x=>exact hR.elim
 | ret v =>
  simp only at hR
  rw [hSt] at hR
  obtain ⟨q1,q2,q3,q4⟩:=hR
  refine ⟨.done,some .ret,q1,by simp,?_⟩
  have hne1:H.next+1 ≠ H.next+2:=by omega
  simp [jumpQ,hxd,q3]
  have e1:∀ m,m ≠ H.next+1+1->(H2.set (H.next+1+1) (x.go .exhausted (some .ret))).obj m=H2.obj m:=fun m hm=>by rw [GH.set_obj,if_neg hm]
  rw [e1 _ (by omega),e1 _ (by omega),q3]
  refine fun hz=>⟨q2,_,rfl,H,Drop_same (by simp only [GH.set_next];omega) (fun m hm=>?_) hw.none,by simp [fz,LV.nb]⟩
  simp only
  rw [upd_ne _ _ (by omega),e1 _ (by omega),q4 m hm]
end Go.Aft
end
section
set_option maxRecDepth 20000
namespace Go.Aft
open Go.Proofs.Tryz
theorem slices_CloneV (l:List Str) (hl:l ≠ []) (hlen:l.length<=1000) (H:GH):ECall prog 74 [sl (l.map rS)] H fun ce H'=>∃ x,ce=.ret x/\VApp 9 1 H x (l.map rS) H':=by
 have cc:=cxK_ok (p:=kds [] [] [5])
 refine ECall.bodyOW (cxK_ok (p:=kds [] [] [5])) func74 rfl call74 (by rw [ntmps74];simp) rfl fun hf hw=>?_
 obtain ⟨s,l,rfl⟩:=List.exists_cons_of_ne_nil hl
 have hlen':∀ r ∈ l.map rS,r.length=1:=fun r hr=>by obtain ⟨_,_,rfl⟩:=List.mem_map.1 hr;rfl
 have hll:(l.map rS).length=l.length:=by simp
 simp only [List.length_cons] at hlen
 rw [List.map_cons]
 have hx:(rS s).length=1:=rfl
 generalize rS s=r0 at hx |-
 generalize l.map rS=rows at hlen' hll |-
 simp [ntmps74,results74]
 refine AW.seq cc ?_
 simp
 refine AW.seq cc ?_
 simp
 refine AW.seq cc ?_
 simp
 refine APK.ev ?_
 have h3:rows.length+1<=34359738368:=by omega
 have ob:∀ o,(H.add o).obj H.next=some o:=fun o=>by simp [GH.add_obj]
 have hnb:∀ m,nbs m (flatD (r0 :: rows)):=fun m=>flatD_nbs _ _
 have h4:rows.length<=34359738367:=by omega
 have hsz:∀ r ∈ r0 :: rows,r.length=1:=by simpa [hx] using hlen'
 have hfl:flatD (r0 :: rows) ≠ []:=fun q=>by have:=congrArg List.length q;rw [flat_len (sz:=1) hsz] at this;simp at this
 generalize hF:flatD (r0 :: rows)=F at hnb hfl
 simp [hx,ob,hF,hnb,h4,GH.add_set]
 refine ⟨hlen',?_⟩
 refine AW.ev cc ?_
 simp
 refine fun hz=>⟨H.add (.vec 9 1 1 F false),hz.drop (by rw [GH.add_next];omega),by simp [LV.nb,GH.add_next],?_⟩
 exact ⟨.inr ⟨H.next,1,Nat.le_refl _,by rw [GH.add_next];omega,by simp,by rw [ob,<- hF],by simp⟩,by rw [GH.add_next];omega,fun m hm=>by rw [GH.add_obj,if_neg (by omega)]⟩
def letEs:List Str->Nat->List (Value × LV)
 | [],_=>[]
 | s :: l,i=>(.string s,.d (.k (.string (letter i)))) :: letEs l (i+1)
theorem mput_let:∀ (l:List Str) (k:Nat) (s:Str),s ∉ l->mput (.string s) (.d (.k (.string (letter (k+l.length))))) (letEs l k)=letEs (l ++ [s]) k
 | [],k,s,_=>by simp [mput,letEs]
 | x :: l,k,s,h=>by
  have h1:s ≠ x:=fun e=>h (by simp [e])
  have:=mput_let l (k+1) s (fun e=>h (by simp [e]))
  simp only [letEs,List.cons_append,mput,kEq_str,h1,decide_false,Bool.false_eq_true,if_false]
  rw [<- this];simp only [List.length_cons];rw [show k+(l.length+1)=k+1+l.length by omega]
theorem mfind_let:∀ (l:List Str) (k:Nat) (s:Str),mfind (.string s) (letEs l k)=if idx l s < 0 then none else some (.d (.k (.string (letter (k+(idx l s).toNat)))))
 | [],k,s=>by simp [mfind,letEs,idx]
 | x :: l,k,s=>by
  have:=mfind_let l (k+1) s
  simp only [letEs,mfind,kEq_str,this,idx_cons]
  by_cases e:s=x
  ·subst e;simp
  ·have e':¬ x=s:=fun q=>e q.symm
   have hg:=idx_ge l s
   simp only [e,e',decide_false,Bool.false_eq_true,if_false]
   by_cases q:idx l s < 0
   ·simp [q]
   ·rw [if_neg q,if_neg q,if_neg (by omega)]
    rw [show k+1+(idx l s).toNat=k+(idx l s+1).toNat by omega]
theorem let_has:∀ (l:List Str) (k:Nat) (a:Value) (b:LV),(a,b) ∈ letEs l k->(KK.sc Sc.str).has a=true
 | x :: l,k,a,b,hab=>by
  simp only [letEs,List.mem_cons] at hab
  rcases hab with q | q
  ·cases q;rfl
  ·exact let_has l (k+1) a b q
theorem letEs_nb:∀ (l:List Str) (k n:Nat),nbs n ((letEs l k).map (·.2))
 | [],k,n=>by simp [letEs,nbs]
 | x :: l,k,n=>by simp [letEs,nbs,LV.nb,letEs_nb l (k+1) n]
theorem letEs_mapT (L:List Str):MapT (letEs L 0) (canN L):=by
 refine ⟨fun s=>?_,fun a b=>let_has L 0 a b⟩
 rw [mfind_let,canN]
 by_cases q:idx L s < 0
 ·rw [if_pos q,if_neg (by omega)];rfl
 ·rw [if_neg q,if_pos (by omega)];simp
theorem canN_at {L:List Str} (h:diffM L) {i:Nat} (hi:i < L.length):canN L L[i]=letter i:=by
 have:idx L L[i]=(i:Int):=idx_at hi rfl fun j hj hji e=>(h i hi).2 (by rw [<- e];exact List.mem_iff_getElem.2 ⟨j,by simp;omega,by simp⟩)
 unfold canN
 rw [this,if_pos (by omega)];simp
theorem canN_map {L:List Str} (h:diffM L):L.map (canN L)=(List.range L.length).map letter:=by
 refine List.ext_getElem (by simp) fun i h1 h2=>?_
 rw [List.getElem_map,List.getElem_map,List.getElem_range,canN_at h (by simpa using h1)]
end Go.Aft
end
