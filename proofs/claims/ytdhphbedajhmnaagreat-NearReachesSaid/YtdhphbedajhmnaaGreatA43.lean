import Derived.Test.YtdhphbedajhmnaaGreatA42
set_option linter.all false
section
set_option maxRecDepth 20000
namespace Go.Aft
def SortedI (l:List Int):Prop:=l.Pairwise fun a b=>a<=b
theorem Dom.shift:∀ (S:List Int) (s:Int) (k:Nat),SortedI (s :: S)->k<=S.length->Dom ((s :: S).take k) (S.take k)
 | _,s,0,_,_=>by simpa using Dom.refl []
 | [],s,k+1,_,h=>by simp at h
 | x :: S,s,k+1,hs,h=>by
  have hs':=List.pairwise_cons.1 hs
  rw [List.take_succ_cons,List.take_succ_cons]
  exact .cons (hs'.1 x (by simp)) (Dom.shift S x k hs'.2 (by simpa using h))
structure Step (F A F' A' E N A0 X0:List Int):Prop where
 a:A.Perm (E ++ A0)
 n:(N ++ A0).Perm (A' ++ X0)
 f:F'.Perm (F ++ X0)
 e1:E.length<=1
 n1:N.length<=1
theorem perm_of {A B:List Int} (h:∀ a,A.count a=B.count a):A.Perm B:=List.perm_iff_count.2 h
def valI (F A:List Int) (w:Way) (great:Bool) (r:Int):List Int :=
 F ++ (if great=true then A.drop (w.gone+w.turned) else A.take (A.length - (w.gone+w.turned))) ++ List.replicate (w.turned+w.more) r
def valsL (L:List Loose):List Int:=L.map fun x=>x.ev.rec_.val
theorem valsM_eq (F:List Int) (L:List Loose) (w:Way) (great:Bool) (r:Int):valsM F L w great r=valI F (valsL L) w great r:=by
 unfold valsM valI keptM valsL
 split <;> simp [List.map_drop,List.map_take]
end Go.Aft
end
section
set_option maxRecDepth 20000
namespace Go.Aft
open Go.Sort (insertionSort)
theorem good_ver {n:News} {srcs:Int} (h:goodB n srcs=true) (h3:n.do_ ≠ 3):1<=n.ver/\n.ver<=99:=by
 by_cases d1:n.do_=1
 ·simp [goodB,d1,saidB,inB] at h;omega
 ·by_cases d2:n.do_=2
  ·simp [goodB,d2,saidB,inB] at h;omega
  ·simp [goodB,d1,d2,h3] at h
theorem lastM_ver {srcs:Int} (s i:Int):∀ l:List News,(∀ n ∈ l,goodB n srcs=true)->match lastM l s i with | none=>verM l s i=0 | some w=>verM l s i=w.ver:=by
 refine snoc_ind ?_ fun l n ih=>?_
 ·intro _;simp [lastM,verM]
 ·intro hg
  have ih:=ih fun m hm=>hg m (by simp [hm])
  have hn:=hg n (by simp)
  rw [lastM_snoc,verM_snoc,hearL,verStep]
  by_cases hk:n.do_ ≠ 3/\n.src=s/\n.id=i
  ·have hv:=good_ver hn hk.1
   rw [if_pos hk]
   cases hl:lastM l s i with
   | none =>
    rw [hl] at ih
    rw [if_pos ⟨hk.1,hk.2.1,hk.2.2,fun w q=>by cases q⟩]
    simp only at ih |-
    rw [ih];unfold maxI;split <;> omega
   | some w =>
    rw [hl] at ih
    simp only at ih
    by_cases q:w.ver < n.ver
    ·rw [if_pos ⟨hk.1,hk.2.1,hk.2.2,fun w' q'=>by cases q';exact q⟩]
     simp only
     rw [ih];unfold maxI;split <;> omega
    ·rw [if_neg (fun q'=>q (q'.2.2.2 w rfl))]
     simp only
     rw [ih];unfold maxI;split <;> omega
  ·rw [if_neg hk,if_neg (fun q=>hk ⟨q.1,q.2.1,q.2.2.1⟩)]
   exact ih
theorem verM_le (l:List News) (n:News) (s i:Int):verM l s i<=verM (l ++ [n]) s i:=by
 rw [verM_snoc,verStep]
 split
 ·exact (maxI_ge _ _).1
 ·exact Int.le_refl _
theorem markM_keep {l:List News} {n:News} {s:Int} (h:n.do_ ≠ 3):markM (l ++ [n]) s=markM l s:=by
 rw [markM_snoc,hearM,if_neg (fun q=>h q.1)]
theorem lastM_other {l:List News} {n:News} {s i:Int} (h:¬ (n.src=s/\n.id=i)):lastM (l ++ [n]) s i=lastM l s i:=by
 rw [lastM_snoc,hearL,if_neg (fun q=>h ⟨q.2.1,q.2.2.1⟩)]
theorem verM_other {l:List News} {n:News} {s i:Int} (h:¬ (n.src=s/\n.id=i)):verM (l ++ [n]) s i=verM l s i:=by
 rw [verM_snoc,verStep,if_neg (fun q=>h q.2)]
theorem oneM_other {l:List News} {n:News} {s i:Int} (h:¬ (n.src=s/\n.id=i)):oneM (l ++ [n]) s i=oneM l s i:=by
 unfold oneM;rw [lastM_other h]
theorem stands_nodup (l:List News):(standsM l).Nodup:=(standsM_sorted l).imp fun {a b} q e=>by subst e;exact evLt_irr a q
theorem oneM_nodup (l:List News) (s i:Int):(oneM l s i).Nodup:=by
 have:=oneM_len' l s i
 match oneM l s i,this with
 | [],_=>simp
 | [x],_=>simp
def notK (s i:Int) (e:Event):Bool:=!decide (e.src=s/\e.id=i)
theorem stands_split (l:List News) (s i:Int):(standsM l).Perm (oneM l s i ++ (standsM l).filter (notK s i)):=by
 refine (List.perm_ext_iff_of_nodup (stands_nodup l) ?_).2 fun e=>?_
 ·rw [List.nodup_append]
  refine ⟨oneM_nodup l s i,(stands_nodup l).filter _,fun a ha b hb=>?_⟩
  rw [List.mem_filter] at hb
  intro e;subst e
  have:=oneM_mem ha
  simp [notK,this] at hb
 ·rw [List.mem_append,List.mem_filter]
  by_cases hk:e.src=s/\e.id=i
  ·rw [standsM_mem,hk.1,hk.2]
   simp [notK,hk]
  ·constructor
   ·exact fun q=>.inr ⟨q,by simp only [notK,Bool.not_eq_true',decide_eq_false_iff_not];exact hk⟩
   ·rintro (q | q)
    ·exact absurd (oneM_mem q) hk
    ·exact q.1
theorem rest_same {l:List News} {n:News}:(standsM (l ++ [n])).filter (notK n.src n.id)=(standsM l).filter (notK n.src n.id):=by
 refine sorted_unique evLt_irr (fun _ _ _=>evLt_trans) ((standsM_sorted _).filter _) ((standsM_sorted _).filter _) fun e=>?_
 rw [List.mem_filter,List.mem_filter]
 by_cases hk:e.src=n.src/\e.id=n.id
 ·simp [notK,hk]
 ·rw [standsM_mem,standsM_mem,oneM_other (fun q=>hk ⟨q.1.symm,q.2.symm⟩)]
def vmap (l:List Event):List Int:=l.map fun e=>e.rec_.val
theorem filter_split {p p1 p2:Event->Bool}:∀ {es:List Event},(∀ e ∈ es,p e=(p1 e || p2 e)/\¬ (p1 e=true/\p2 e=true))->(vmap (es.filter p)).Perm (vmap (es.filter p1) ++ vmap (es.filter p2))
 | [],_=>by simp [vmap]
 | e :: es,h=>by
  have ih:=filter_split (es:=es) fun x hx=>h x (by simp [hx])
  obtain ⟨h1,h2⟩:=h e (by simp)
  cases a:p1 e with
  | true =>
   have b:p2 e=false:=by
    cases b:p2 e with
    | false=>rfl
    | true=>exact absurd ⟨a,b⟩ h2
   rw [List.filter_cons_of_pos (by rw [h1,a];rfl),List.filter_cons_of_pos a,List.filter_cons_of_neg (by simp [b])]
   exact ih.cons _
  | false =>
   cases b:p2 e with
   | true =>
    rw [List.filter_cons_of_pos (by rw [h1,b];simp),List.filter_cons_of_neg (by simp [a]),List.filter_cons_of_pos b]
    exact (ih.cons _).trans List.perm_middle.symm
   | false =>
    rw [List.filter_cons_of_neg (by rw [h1,a,b];simp),List.filter_cons_of_neg (by simp [a]),List.filter_cons_of_neg (by simp [b])]
    exact ih
theorem vmap_perm {a b:List Event} (h:a.Perm b):(vmap a).Perm (vmap b):=h.map _
theorem vmap_app (a b:List Event):vmap (a ++ b)=vmap a ++ vmap b:=by simp [vmap]
def fxP (l:List News) (sh:Shape) (window key:Int) (e:Event):Bool:=inWin sh window key e && !isLoose l sh e
def lxP (l:List News) (sh:Shape) (window key:Int) (e:Event):Bool:=inWin sh window key e && isLoose l sh e
theorem fixed_eq (l:List News) (sh:Shape) (window key:Int) (es:List Event):fixedM l sh window key es=vmap (es.filter (fxP l sh window key)):=rfl
theorem loose_perm (l:List News) (sh:Shape) (window key:Int) (es:List Event):(valsL (sortL (looseM l sh window key es))).Perm (vmap (es.filter (lxP l sh window key))):=by
 unfold valsL
 refine ((Go.Aft.sortL_perm _).map _).trans ?_
 rw [looseM,List.map_map]
 exact List.Perm.refl _
theorem loose_sorted (L:List Loose):SortedI (valsL (sortL L)):=by
 have h2:=(Go.Sort.insertionSort_holds cmpL_swo L.toArray 0 L.toArray.size (Nat.zero_le _) (Nat.le_refl _)).2
 have hl:=sortL_len L
 unfold SortedI valsL
 rw [List.pairwise_map,List.pairwise_iff_getElem]
 intro i j hi hj hij
 have h3:=h2 i j (Nat.zero_le _) hij (by simp;omega)
 have hsz:(insertionSort (ltOf' cmpL) L.toArray 0 L.length).size=L.length:=by
  have:=(Go.Sort.insertionSort_holds cmpL_swo L.toArray 0 L.toArray.size (Nat.zero_le _) (Nat.le_refl _)).1.1
  simpa using this
 simp only [List.size_toArray] at h3
 rw [getElem!_pos _ i (by omega),getElem!_pos _ j (by omega)] at h3
 have g:∀ k (hk:k < (sortL L).length),(sortL L)[k]=(insertionSort (ltOf' cmpL) L.toArray 0 L.length)[k]'(by omega):=fun k hk=>by simp [sortL]
 rw [<- g i hi,<- g j hj] at h3
 have h4:¬ cmpL (sortL L)[j] (sortL L)[i] < 0:=by simpa [ltOf'] using h3
 unfold cmpL at h4
 omega
end Go.Aft
end
section
set_option maxRecDepth 20000
namespace Go.Aft
theorem sortedI_unique:∀ {a b:List Int},SortedI a->SortedI b->a.Perm b->a=b
 | [],b,_,_,h=>(List.nil_perm.1 h).symm
 | x :: a,[],_,_,h=>by have:=h.length_eq;simp at this
 | x :: a,y :: b,ha,hb,h=>by
  have ha':=List.pairwise_cons.1 ha
  have hb':=List.pairwise_cons.1 hb
  have h1:x<=y:=by
   rcases List.mem_cons.1 (h.mem_iff.2 (List.mem_cons_self ..)) with q | q
   ·omega
   ·exact ha'.1 y q
  have h2:y<=x:=by
   rcases List.mem_cons.1 (h.mem_iff.1 (List.mem_cons_self ..)) with q | q
   ·omega
   ·exact hb'.1 x q
  have e:x=y:=by omega
  subst e
  rw [sortedI_unique ha'.2 hb'.2 ((List.perm_cons x).1 h)]
end Go.Aft
end
