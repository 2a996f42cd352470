import Derived.Test.YthinedikejlgmaaGreatA36
import Derived.Test.YthinedikejlgmaaGreatQh
set_option linter.all false
set_option maxRecDepth 20000
namespace Go.Aft
open Go.Proofs.Tryz
theorem VM{r:Rec}(h1:0<=r.at_/\r.at_<=200)(h2:cm r.key)(h3:cm r.val):iw r=true:=by
 unfold cm at h2 h3;simp[iw,jT,h1,h2,h3]
theorem tD{b:cg}(h:bB b):gH b=true:=by
 obtain⟨hi,hl,hx⟩:=h;have hg:∀j (hj:j<b.length),b.getD j default=b[j]:=λj hj=>by rw[List.getD_eq_getElem?_getD,List.getElem?_eq_getElem hj];rfl
 have h1:fe b=true:=by
  rw[qh λj hj=>?_]
  ·exact decide_eq_true hl
  ·have hxj:=hx b[j] (List.getElem_mem hj);unfold fP;rw[hg j hj,VM hxj.1 hxj.2.1 hxj.2.2.1];have hn:=hxj.2.2.2;have e1:decide (b[j].n≠0/\-1000000<=b[j].n/\b[j].n<=1000000)=true:=decide_eq_true (by omega)
   rw[e1];by_cases e:j=0
   ·simp[e]
   ·rw[hg (j-1) (by omega)]
    have:=(List.pairwise_iff_getElem.1 hi) (j-1) j (by omega) hj (by omega)
    simp[this]
 have h2:pH b=true:=by
  unfold pH;rw[Bool.not_eq_true',List.any_eq_false];intro x NG;have:=(hx x NG).2.2.2;simp;omega
 rw[gH,h1,h2];rfl
end Go.Aft
