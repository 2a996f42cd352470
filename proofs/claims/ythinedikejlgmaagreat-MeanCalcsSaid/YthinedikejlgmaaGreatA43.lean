import Derived.Test.YthinedikejlgmaaGreatA42
set_option linter.all false
set_option maxRecDepth 20000
namespace Go.Aft
theorem expOf_eq {p:Prog} {d:Nat} (h:d < p.defs.length):expOf p d=p.defs[d].exp:=by
 unfold expOf;rw [List.getD_eq_getElem?_getD,List.getElem?_eq_getElem h];rfl
theorem path_pathB {p:Prog} {i k:Nat}:pathB p i k=true ↔ Path (stepsTo p) i k:=by simp [pathB]
theorem pathB_trans {p:Prog} {i j k:Nat} (h1:pathB p i j=true) (h2:pathB p j k=true):pathB p i k=true:=path_pathB.2 ((path_pathB.1 h1).trans (path_pathB.1 h2))
theorem farL_le {p:Prog} {g:List Nat}:∀ (l:List Exp) (v:Int),farL p g l v<=v
 | [],v=>Int.le_refl _
 | e :: l,v=>by
  have h1:=farL_le (p:=p) (g:=g) l (farS p g v e)
  have h2:farS p g v e<=v:=by
   unfold farS
   split
   ·unfold minI;split <;> omega
   ·exact Int.le_refl _
  exact Int.le_trans h1 h2
theorem farL_ge {p:Prog} {g:List Nat} {m:Int}:∀ (l:List Exp) (v:Int),m<=v->(∀ x ∈ l,x.op=3->idx (defNames p) x.name ∈ natI g->m<=x.n)->m<=farL p g l v
 | [],v,h,_=>h
 | e :: l,v,h,hx=>by
  have e1:farL p g (e :: l) v=farL p g l (farS p g v e):=rfl
  rw [e1]
  refine farL_ge l _ ?_ fun x hx'=>hx x (List.mem_cons_of_mem _ hx')
  unfold farS
  split
  ·rename_i q
   have:=hx e (List.mem_cons_self ..) q.1 q.2
   unfold minI;split <;> omega
  ·exact h
theorem farG_le {p:Prog} {g:List Nat} (ex:Nat->List Exp):∀ (l:List Nat) (v:Int),l.foldl (fun v d=>farL p g (ex d) v) v<=v
 | [],v=>Int.le_refl _
 | d :: l,v=>by rw [List.foldl_cons];exact Int.le_trans (farG_le ex l _) (farL_le _ _)
theorem farG_ge {p:Prog} {g:List Nat} (ex:Nat->List Exp) {m:Int}:∀ (l:List Nat) (v:Int),m<=v->(∀ d ∈ l,∀ x ∈ ex d,x.op=3->idx (defNames p) x.name ∈ natI g->m<=x.n)->m<=l.foldl (fun v d=>farL p g (ex d) v) v
 | [],v,h,_=>h
 | d :: l,v,h,hx=>by
  rw [List.foldl_cons]
  exact farG_ge ex l _ (farL_ge _ _ h (hx d (List.mem_cons_self ..))) fun e he=>hx e (List.mem_cons_of_mem _ he)
def IsGrp (p:Prog) (g:List Nat):Prop:=∃ d,d < p.defs.length/\g=inM p.defs.length (pathB p) d
theorem IsGrp.lt {p:Prog} {g:List Nat} (h:IsGrp p g) {k:Nat} (hk:k ∈ g):k < p.defs.length:=by
 obtain ⟨d,hd,rfl⟩:=h
 exact inM_lt hd hk
theorem IsGrp.nodup {p:Prog} {g:List Nat} (h:IsGrp p g):g.Nodup:=by
 obtain ⟨d,hd,rfl⟩:=h
 unfold inM
 split
 ·exact List.Pairwise.filter _ List.nodup_range
 ·simp
theorem mem_inM {p:Prog} {d k:Nat} (hd:d < p.defs.length) (h:k ∈ inM p.defs.length (pathB p) d):d ∈ inM p.defs.length (pathB p) k:=by
 unfold inM at h
 split at h
 ·rename_i hr
  obtain ⟨hk,q⟩:=mem_ringAt.1 h
  rcases q with q | ⟨q1,q2⟩
  ·subst q;exact inM_self hd
  ·unfold inM
   rw [if_pos (pathB_trans q2 q1)]
   exact mem_ringAt.2 ⟨hd,.inr ⟨q2,q1⟩⟩
 ·rw [List.mem_singleton.1 h];exact inM_self hd
theorem groupsGo_ok {p:Prog}:∀ (f:Nat) (D:List Nat),(∀ x ∈ D,x < p.defs.length/\∀ k ∈ inM p.defs.length (pathB p) x,k ∈ D) ->
  (∀ g ∈ groupsGo p.defs.length (pathB p) f D,IsGrp p g/\∀ d ∈ g,d ∉ D)/\(groupsGo p.defs.length (pathB p) f D).Pairwise fun g h=>∀ d ∈ h,d ∉ g
 | 0,D,_=>⟨fun g hg=>absurd hg List.not_mem_nil,.nil⟩
 | f+1,D,hD=>by
  rw [groupsGo]
  split
  ·split
   ·exact ⟨fun g hg=>absurd hg List.not_mem_nil,.nil⟩
   ·rename_i d hf
    have hd:d < p.defs.length:=List.mem_range.1 (List.mem_of_find?_eq_some hf)
    have hrd:=List.find?_some hf
    have hdD:d ∉ D:=by
     unfold readyM at hrd
     rw [Bool.and_eq_true] at hrd
     simpa using hrd.1
    have hdis:∀ k ∈ inM p.defs.length (pathB p) d,k ∉ D:=fun k hk hkD=>hdD ((hD k hkD).2 d (mem_inM hd hk))
    have hD':∀ x ∈ addAll D (inM p.defs.length (pathB p) d),x < p.defs.length/\∀ k ∈ inM p.defs.length (pathB p) x,k ∈ addAll D (inM p.defs.length (pathB p) d):=fun x hx=>by
     rcases addAll_mem.1 hx with q | q
     ·exact ⟨(hD x q).1,fun k hk=>addAll_mem.2 (.inl ((hD x q).2 k hk))⟩
     ·refine ⟨inM_lt hd q,fun k hk=>addAll_mem.2 (.inr ?_)⟩
      unfold inM at q
      split at q
      ·rename_i hr
       rcases (mem_ringAt.1 q).2 with e | ⟨q1,q2⟩
       ·rw [e] at hk;exact hk
       ·have hxx:=pathB_trans q2 q1
        unfold inM at hk |-
        rw [if_pos hxx] at hk
        rw [if_pos hr]
        refine mem_ringAt.2 ⟨(mem_ringAt.1 hk).1,?_⟩
        rcases (mem_ringAt.1 hk).2 with e | ⟨r1,r2⟩
        ·rw [e];exact .inr ⟨q1,q2⟩
        ·exact .inr ⟨pathB_trans q1 r1,pathB_trans r2 q2⟩
      ·rw [List.mem_singleton.1 q] at hk;exact hk
    obtain ⟨i1,i2⟩:=groupsGo_ok f _ hD'
    refine ⟨fun g hg=>?_,List.pairwise_cons.2 ⟨fun g hg k hk hkd=>?_,i2⟩⟩
    ·rcases List.mem_cons.1 hg with q | q
     ·rw [q];exact ⟨⟨d,hd,rfl⟩,hdis⟩
     ·exact ⟨(i1 g q).1,fun k hk hkD=>(i1 g q).2 k hk (addAll_mem.2 (.inl hkD))⟩
    ·exact (i1 g hg).2 k hk (addAll_mem.2 (.inr hkd))
  ·exact ⟨fun g hg=>absurd hg List.not_mem_nil,.nil⟩
end Go.Aft
