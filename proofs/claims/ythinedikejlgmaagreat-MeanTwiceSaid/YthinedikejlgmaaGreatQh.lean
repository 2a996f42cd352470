import Derived.Test.YthinedikejlgmaaGreatA29
set_option linter.all false
set_option maxRecDepth 20000
namespace Go.Aft
theorem xx{l:List cg}(h:∀b∈l,b=[])(i:Nat):l.getD i []=[]:=by
 rw[List.getD_eq_getElem?_getD];cases q:l[i]? with
 |none=>rfl
 |some b=>exact h b (List.mem_of_getElem? q)
section
variable {p:Prog} {W:bZ} (hs:∀b∈W.az,b=[]) (hd:∀b∈W.ai,b=[])
include hs hd
theorem Qs(op:Int)(name:cq)(n f:Int)(cs:List bh){ks:List cg}(hk:∀b∈ks,b=[]):gu p W op name n f cs ks=[]:=by
 unfold gu;simp only[xx hs,xx hd,xx hk];simp[dP,jr,yL,gf,bg,kU,jL,rX,vJ]
mutual
theorem PX(top:Int):∀e:bz,cZ p W top e=some []
 |.mk op name n f cs kids=>by
  obtain⟨ks,h1,h2⟩:=BT top kids;rw[cZ,h1];simp only[Qs hs hd op name n f cs h2];rfl
theorem BT(top:Int):∀es:List bz,∃ks,eC p W top es=some ks/\∀b∈ks,b=[]
 |[]=>⟨[],by rw[eC],by simp⟩
 |e::es=>by
  obtain⟨ks,h1,h2⟩:=BT top es;refine⟨[]::ks,?_,?_⟩
  ·rw[eC,PX top e,h1]
  ·intro b hb;rcases List.mem_cons.1 hb with q|q
   ·exact q
   ·exact h2 b q
end
end
section
variable {p:Prog} {az ai:List cg} (hs:∀b∈az,b=[]) (hd:∀b∈ai,b=[])
include hs hd
end
end Go.Aft
