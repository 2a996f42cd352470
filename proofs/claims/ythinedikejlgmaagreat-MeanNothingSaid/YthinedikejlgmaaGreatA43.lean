import Derived.Test.YthinedikejlgmaaGreatA40
import Derived.Test.YthinedikejlgmaaGreatA42
set_option linter.all false
section
set_option maxRecDepth 20000
namespace Go.Aft
theorem putI_len (x:Item):∀ l:List Item,(putI x l).length<=l.length+1
 | []=>by simp [putI]
 | y :: l=>by
  have:=putI_len x l
  rw [putI]
  split
  ·simp
  ·split <;> simp <;> omega
theorem sumsM_len:∀ l:List Item,(sumsM l).length<=l.length
 | []=>by simp [sumsM]
 | x :: l=>by
  have h1:=putI_len x (sumsM l)
  have h2:=sumsM_len l
  rw [sumsM,List.length_cons];omega
theorem bagM_len (l:List Item):(bagM l).length<=l.length:=Nat.le_trans (List.length_filter_le _ _) (sumsM_len l)
theorem summedM_len (l:List Item) (t:Int):(summedM l t).length<=l.length:=Nat.le_trans (bagM_len _) (List.length_filter_le _ _)
theorem cntM_ones {r:Rec}:∀ {l:List Item},(∀ x ∈ l,x.n=1)->0<=cntM l r/\cntM l r<=l.length
 | [],_=>⟨Int.le_refl _,Int.le_refl _⟩
 | x :: l,h=>by
  have ih:=cntM_ones (r:=r) (l:=l) fun y hy=>h y (by simp [hy])
  have hx:=h x (by simp)
  rw [cntM,List.length_cons]
  split <;> omega
theorem saysI_mem {l:List Event} {src:Int} {x:Item} (h:x ∈ saysI l src):∃ e ∈ l,e.src=src/\x = ⟨e.rec_,1⟩:=by
 unfold saysI at h
 obtain ⟨e,he,rfl⟩:=List.mem_map.1 h
 exact ⟨e,(List.mem_filter.1 he).1,of_decide_eq_true (List.mem_filter.1 he).2,rfl⟩
theorem says_ok {l:List Event} (hl:l.length<=60) (hi:∀ e ∈ l,ItIn ⟨e.rec_,1⟩) (src:Int):BagOk (saysM l src):=by
 have hlen:=saysI_len l src
 have h1:∀ x ∈ saysI l src,x.n=1/\ItIn x:=fun x hx=>by
  obtain ⟨e,he,_,rfl⟩:=saysI_mem hx
  exact ⟨rfl,hi e he⟩
 refine bag_ok (Int.le_refl _) (fun x hx=>(h1 x hx).2.b) ?_
 simp only [fitsB,Bool.and_eq_true,decide_eq_true_eq,List.all_eq_true]
 refine ⟨?_,fun x hx=>?_⟩
 ·have:=summedM_len (saysI l src) 200
  omega
 ·have h2:=(bagM_mem.1 hx).2
  have h3:=cntM_ones (r:=x.rec_) (l:=(saysI l src).filter fun x=>decide (0<=x.rec_.at_/\x.rec_.at_<=200)) fun y hy=>(h1 y (List.mem_filter.1 hy).1).1
  have h4:=List.length_filter_le (fun x:Item=>decide (0<=x.rec_.at_/\x.rec_.at_<=200)) (saysI l src)
  omega
def sumN (l:List Item):Int:=match l with
 | []=>0
 | x :: l=>x.n+sumN l
theorem sumN_putI (x:Item):∀ l:List Item,sumN (putI x l)=x.n+sumN l
 | []=>rfl
 | y :: l=>by
  rw [putI]
  split
  ·rw [sumN,sumN];simp only;omega
  ·split
   ·rw [sumN]
   ·rw [sumN,sumN,sumN_putI x l];omega
theorem sumN_sums:∀ l:List Item,sumN (sumsM l)=sumN l
 | []=>rfl
 | x :: l=>by rw [sumsM,sumN_putI,sumN_sums l,sumN]
theorem sumN_filter:∀ l:List Item,sumN (l.filter fun x=>decide (x.n ≠ 0))=sumN l
 | []=>rfl
 | x :: l=>by
  by_cases h:x.n=0
  ·rw [List.filter_cons_of_neg (by simp [h]),sumN_filter l,sumN];omega
  ·rw [List.filter_cons_of_pos (by simp [h]),sumN,sumN_filter l,sumN]
theorem sumN_bagM (l:List Item):sumN (bagM l)=sumN l:=by rw [bagM,sumN_filter,sumN_sums]
theorem says_in {l:List Event} (hi:∀ e ∈ l,ItIn ⟨e.rec_,1⟩) (src:Int):saysM l src=bagM (saysI l src):=by
 have:(saysI l src).filter (fun x=>decide (0<=x.rec_.at_/\x.rec_.at_<=200))=saysI l src:=List.filter_eq_self.2 fun x hx=>by
  obtain ⟨e,he,_,rfl⟩:=saysI_mem hx
  have:=(hi e he).1
  simpa using this
 rw [saysM,summedM,this]
def countS (l:List Event) (src:Int) (r:Rec):Int:=cntM (saysI l src) r
theorem says_cnt {l:List Event} (hi:∀ e ∈ l,ItIn ⟨e.rec_,1⟩) (src:Int) {x:Item} (hx:x ∈ saysM l src):countS l src x.rec_=x.n:=by
 rw [says_in hi] at hx
 exact (bagM_mem.1 hx).2.symm
theorem sumN_ones:∀ {l:List Item},(∀ x ∈ l,x.n=1)->sumN l=l.length
 | [],_=>rfl
 | x :: l,h=>by
  rw [sumN,sumN_ones fun y hy=>h y (by simp [hy]),h x (by simp),List.length_cons];omega
theorem says_sum {l:List Event} (hi:∀ e ∈ l,ItIn ⟨e.rec_,1⟩) (src:Int):sumN (saysM l src)=((l.filter fun e=>decide (e.src=src)).length:Int):=by
 rw [says_in hi,sumN_bagM,sumN_ones fun x hx=>by obtain ⟨e,_,_,rfl⟩:=saysI_mem hx;rfl]
 simp [saysI]
end Go.Aft
end
section
set_option maxRecDepth 20000
namespace Go.Aft
theorem expOf_eq {p:Prog} {d:Nat} (h:d < p.defs.length):expOf p d=p.defs[d].exp:=by
 unfold expOf;rw [List.getD_eq_getElem?_getD,List.getElem?_eq_getElem h];rfl
theorem path_pathB {p:Prog} {i k:Nat}:pathB p i k=true ↔ Path (stepsTo p) i k:=by simp [pathB]
theorem pathB_trans {p:Prog} {i j k:Nat} (h1:pathB p i j=true) (h2:pathB p j k=true):pathB p i k=true:=path_pathB.2 ((path_pathB.1 h1).trans (path_pathB.1 h2))
theorem farL_le {p:Prog} {g:List Nat}:∀ (l:List Exp) (v:Int),farL p g l v<=v
 | [],v=>Int.le_refl _
 | e :: l,v=>by
  have h1:=farL_le (p:=p) (g:=g) l (farS p g v e)
  have h2:farS p g v e<=v:=by
   unfold farS
   split
   ·unfold minI;split <;> omega
   ·exact Int.le_refl _
  exact Int.le_trans h1 h2
theorem farL_ge {p:Prog} {g:List Nat} {m:Int}:∀ (l:List Exp) (v:Int),m<=v->(∀ x ∈ l,x.op=3->idx (defNames p) x.name ∈ natI g->m<=x.n)->m<=farL p g l v
 | [],v,h,_=>h
 | e :: l,v,h,hx=>by
  have e1:farL p g (e :: l) v=farL p g l (farS p g v e):=rfl
  rw [e1]
  refine farL_ge l _ ?_ fun x hx'=>hx x (List.mem_cons_of_mem _ hx')
  unfold farS
  split
  ·rename_i q
   have:=hx e (List.mem_cons_self ..) q.1 q.2
   unfold minI;split <;> omega
  ·exact h
theorem farG_le {p:Prog} {g:List Nat} (ex:Nat->List Exp):∀ (l:List Nat) (v:Int),l.foldl (fun v d=>farL p g (ex d) v) v<=v
 | [],v=>Int.le_refl _
 | d :: l,v=>by rw [List.foldl_cons];exact Int.le_trans (farG_le ex l _) (farL_le _ _)
theorem farG_ge {p:Prog} {g:List Nat} (ex:Nat->List Exp) {m:Int}:∀ (l:List Nat) (v:Int),m<=v->(∀ d ∈ l,∀ x ∈ ex d,x.op=3->idx (defNames p) x.name ∈ natI g->m<=x.n)->m<=l.foldl (fun v d=>farL p g (ex d) v) v
 | [],v,h,_=>h
 | d :: l,v,h,hx=>by
  rw [List.foldl_cons]
  exact farG_ge ex l _ (farL_ge _ _ h (hx d (List.mem_cons_self ..))) fun e he=>hx e (List.mem_cons_of_mem _ he)
def IsGrp (p:Prog) (g:List Nat):Prop:=∃ d,d < p.defs.length/\g=inM p.defs.length (pathB p) d
theorem IsGrp.lt {p:Prog} {g:List Nat} (h:IsGrp p g) {k:Nat} (hk:k ∈ g):k < p.defs.length:=by
 obtain ⟨d,hd,rfl⟩:=h
 exact inM_lt hd hk
theorem IsGrp.nodup {p:Prog} {g:List Nat} (h:IsGrp p g):g.Nodup:=by
 obtain ⟨d,hd,rfl⟩:=h
 unfold inM
 split
 ·exact List.Pairwise.filter _ List.nodup_range
 ·simp
theorem mem_inM {p:Prog} {d k:Nat} (hd:d < p.defs.length) (h:k ∈ inM p.defs.length (pathB p) d):d ∈ inM p.defs.length (pathB p) k:=by
 unfold inM at h
 split at h
 ·rename_i hr
  obtain ⟨hk,q⟩:=mem_ringAt.1 h
  rcases q with q | ⟨q1,q2⟩
  ·subst q;exact inM_self hd
  ·unfold inM
   rw [if_pos (pathB_trans q2 q1)]
   exact mem_ringAt.2 ⟨hd,.inr ⟨q2,q1⟩⟩
 ·rw [List.mem_singleton.1 h];exact inM_self hd
theorem groupsGo_ok {p:Prog}:∀ (f:Nat) (D:List Nat),(∀ x ∈ D,x < p.defs.length/\∀ k ∈ inM p.defs.length (pathB p) x,k ∈ D) ->
  (∀ g ∈ groupsGo p.defs.length (pathB p) f D,IsGrp p g/\∀ d ∈ g,d ∉ D)/\(groupsGo p.defs.length (pathB p) f D).Pairwise fun g h=>∀ d ∈ h,d ∉ g
 | 0,D,_=>⟨fun g hg=>absurd hg List.not_mem_nil,.nil⟩
 | f+1,D,hD=>by
  rw [groupsGo]
  split
  ·split
   ·exact ⟨fun g hg=>absurd hg List.not_mem_nil,.nil⟩
   ·rename_i d hf
    have hd:d < p.defs.length:=List.mem_range.1 (List.mem_of_find?_eq_some hf)
    have hrd:=List.find?_some hf
    have hdD:d ∉ D:=by
     unfold readyM at hrd
     rw [Bool.and_eq_true] at hrd
     simpa using hrd.1
    have hdis:∀ k ∈ inM p.defs.length (pathB p) d,k ∉ D:=fun k hk hkD=>hdD ((hD k hkD).2 d (mem_inM hd hk))
    have hD':∀ x ∈ addAll D (inM p.defs.length (pathB p) d),x < p.defs.length/\∀ k ∈ inM p.defs.length (pathB p) x,k ∈ addAll D (inM p.defs.length (pathB p) d):=fun x hx=>by
     rcases addAll_mem.1 hx with q | q
     ·exact ⟨(hD x q).1,fun k hk=>addAll_mem.2 (.inl ((hD x q).2 k hk))⟩
     ·refine ⟨inM_lt hd q,fun k hk=>addAll_mem.2 (.inr ?_)⟩
      unfold inM at q
      split at q
      ·rename_i hr
       rcases (mem_ringAt.1 q).2 with e | ⟨q1,q2⟩
       ·rw [e] at hk;exact hk
       ·have hxx:=pathB_trans q2 q1
        unfold inM at hk |-
        rw [if_pos hxx] at hk
        rw [if_pos hr]
        refine mem_ringAt.2 ⟨(mem_ringAt.1 hk).1,?_⟩
        rcases (mem_ringAt.1 hk).2 with e | ⟨r1,r2⟩
        ·rw [e];exact .inr ⟨q1,q2⟩
        ·exact .inr ⟨pathB_trans q1 r1,pathB_trans r2 q2⟩
      ·rw [List.mem_singleton.1 q] at hk;exact hk
    obtain ⟨i1,i2⟩:=groupsGo_ok f _ hD'
    refine ⟨fun g hg=>?_,List.pairwise_cons.2 ⟨fun g hg k hk hkd=>?_,i2⟩⟩
    ·rcases List.mem_cons.1 hg with q | q
     ·rw [q];exact ⟨⟨d,hd,rfl⟩,hdis⟩
     ·exact ⟨(i1 g q).1,fun k hk hkD=>(i1 g q).2 k hk (addAll_mem.2 (.inl hkD))⟩
    ·exact (i1 g hg).2 k hk (addAll_mem.2 (.inr hkd))
  ·exact ⟨fun g hg=>absurd hg List.not_mem_nil,.nil⟩
end Go.Aft
end
