import Derived.Test.YtdhphbedajhmnaaGreatA40
import Derived.Test.YtdhphbedajhmnaaGreatA41
set_option linter.all false
section
set_option maxRecDepth 20000
namespace Go.Aft
theorem askE_zero {p:Prog} {d:Int} {l:List News} {room:Room} {window key:Int} (h:askE p d l room window key=0) :
  askedB p d l room key=true/\lookE (plainOf p (p.defs.getD d.toNat default).exp) l.length room window=0/\ofM p d l room window key=(boundV p d.toNat l room window key,0):=by
 rw [askE] at h
 split at h
 ·rename_i q
  exact ⟨q,h,by rw [ofM,if_pos q,if_pos h]⟩
 ·cases h
def bndM (l:List News) (sh:Shape) (room:Room) (window key:Int):Bnd :=
 boundM (sceneM l sh room window key 0) (fixedM l sh window key (standsM l)) (sortL (looseM l sh window key (standsM l))) room.most.toNat
theorem boundV_eq (p:Prog) (d:Nat) (l:List News) (room:Room) (window key:Int):boundV p d l room window key=(bndM l (plainOf p (p.defs.getD d default).exp).1 room window key).nb:=rfl
def shD (p:Prog) (d:Int):Shape:=(plainOf p (p.defs.getD d.toNat default).exp).1
theorem askE_facts {p:Prog} {d:Int} {l:List News} {room:Room} {window key:Int} (h:askE p d l room window key=0) :
  isDefM p d/\(plainOf p (p.defs.getD d.toNat default).exp).2=true/\formedB l p.srcs.length=true/\lateM l=[]/\roomB room=true/\l.length+room.most<=60 /\
  plainV p d=.tup [lvI (shD p d).src,lvI (shD p d).n,lvI 0]/\ofM p d l room window key=((bndM l (shD p d) room window key).nb,0)/\inB window 0 200=true/\1<=(shD p d).n/\(shD p d).n<=50:=by
 obtain ⟨h1,h2,h3⟩:=askE_zero h
 simp only [askedB,Bool.and_eq_true,decide_eq_true_eq] at h1
 obtain ⟨⟨⟨⟨a1,a2⟩,a3⟩,a4⟩,a5⟩:=h1
 have hd:d.toNat < p.defs.length:=by have:=a1.2;omega
 have hgd:p.defs.getD d.toNat default=p.defs[d.toNat]:=by simp [List.getD,List.getElem?_eq_getElem hd]
 have hq:(plainOf p (p.defs.getD d.toNat default).exp).2=true:=by
  unfold lookE at h2
  split at h2
  ·cases h2
  ·rename_i q
   cases hb:(plainOf p (p.defs.getD d.toNat default).exp).2 with
   | true=>rfl
   | false=>exact absurd hb q
 have hpl:=formed_plain a1.1 hd (by rw [<- hgd];exact hq)
 unfold lookE at h2
 rw [if_neg (by rw [hq];simp)] at h2
 split at h2
 ·cases h2
 rename_i h2w
 split at h2
 ·cases h2
 ·rename_i q
  refine ⟨a1,hq,a2,a3,a4,by omega,?_,by rw [h3,boundV_eq];rfl,?_,?_⟩
  ·unfold plainV shD
   rw [dif_pos a1,hgd]
   rw [hgd] at hq
   generalize plainOf p p.defs[d.toNat].exp=z at hq |-
   obtain ⟨z1,z2⟩:=z
   simp only at hq;subst hq;rfl
  ·simp only [Bool.not_eq_false,Bool.and_eq_true] at h2w;exact h2w.1
  ·unfold shD;rw [hgd];exact ⟨hpl.1,hpl.2.1⟩
end Go.Aft
end
section
set_option maxRecDepth 20000
namespace Go.Aft
def SortedI (l:List Int):Prop:=l.Pairwise fun a b=>a<=b
theorem Dom.shift:∀ (S:List Int) (s:Int) (k:Nat),SortedI (s :: S)->k<=S.length->Dom ((s :: S).take k) (S.take k)
 | _,s,0,_,_=>by simpa using Dom.refl []
 | [],s,k+1,_,h=>by simp at h
 | x :: S,s,k+1,hs,h=>by
  have hs':=List.pairwise_cons.1 hs
  rw [List.take_succ_cons,List.take_succ_cons]
  exact .cons (hs'.1 x (by simp)) (Dom.shift S x k hs'.2 (by simpa using h))
structure Step (F A F' A' E N A0 X0:List Int):Prop where
 a:A.Perm (E ++ A0)
 n:(N ++ A0).Perm (A' ++ X0)
 f:F'.Perm (F ++ X0)
 e1:E.length<=1
 n1:N.length<=1
end Go.Aft
end
section
set_option maxRecDepth 20000
namespace Go.Aft
open Go.Sort (insertionSort)
end Go.Aft
end
section
set_option maxRecDepth 20000
namespace Go.Aft
end Go.Aft
end
