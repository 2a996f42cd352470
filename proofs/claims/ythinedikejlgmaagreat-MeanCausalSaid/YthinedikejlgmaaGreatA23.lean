import Derived.Test.YthinedikejlgmaaGreatA22
import Derived.Sort.LotA
set_option linter.all false
set_option linter.unusedSectionVars false
set_option maxRecDepth 20000
namespace Go.Aft
open Go.Proofs.Tryz
open Go.Sort (swp insInner insOuter insertionSort)
section
variable {α:Type} [Inhabited α]
def Af(f:α->List DV)(d:Array α):List LV:=bM (d.toList.map f)
theorem oW{f:α->List DV}{sz:Nat}(hf:∀x,(f x).length=sz):∀(l:List α),(bM (l.map f)).length=l.length*sz
 |[]=>by simp[bM]
 |a::l=>by
  have ih:=oW hf l;simp only[List.map_cons,bM,List.flatten_cons,List.map_append,List.length_append,List.length_map,hf,List.length_cons]at ih|-;rw[ih,Nat.succ_mul];omega
theorem OZ{f:α->List DV}{sz:Nat}(hf:∀x,(f x).length=sz)(d:Array α):(Af f d).length=d.size*sz:=by
 rw[Af,oW hf];simp
theorem insInner_stop{lt:α->α->Bool}{a j:Nat}{d:Array α}(h:¬(a<j/\lt d[j]! d[j-1]! =true)):insInner lt a j d=d:=by
 cases j with
 |zero=>rfl
 |succ j=>
  rw[insInner,if_neg];simpa using h
theorem insInner_go{lt:α->α->Bool}{a j:Nat}{d:Array α}(h:a<j/\lt d[j]! d[j-1]! =true):insInner lt a j d=insInner lt a (j-1) (swp d j (j-1)):=by
 cases j with
 |zero=>exact absurd h.1 (by omega)
 |succ j=>
  rw[insInner,if_pos]
  ·rfl
  ·simpa using h
theorem swp_size(d:Array α)(i j:Nat):(swp d i j).size=d.size:=by simp[swp]
end
instance:Inhabited aM5:=⟨⟨default,0⟩⟩
def Uz{α:Type}(f:α->List DV)(e g sz:Nat)(d:Array α)(ex:Bool):GO:=.vec e g sz (Af f d) ex
end Go.Aft
