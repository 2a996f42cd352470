import Derived.Test.YthinedikejlgmaaGreatA31
import Derived.Test.YthinedikejlgmaaGreatA22
import Derived.Test.YthinedikejlgmaaGreatA21
import Derived.Test.YthinedikejlgmaaGreatA18
import Derived.Test.YthinedikejlgmaaGreatA24
set_option linter.all false
section
set_option maxRecDepth 20000
namespace Go.Aft
open Go.Proofs.Tryz
theorem Dy(n:Nat):zz (jS n [LV.d (.k (.slice none 0 0))])=(List.replicate n ([]:cg)).map b9:=by
 rw[zy,jS,List.map_flatten,List.map_replicate,List.map_replicate]
 show(List.replicate n [sl []]).flatten=List.replicate n (sl [])
 induction n with
 |zero=>rfl
 |succ n ih=>rw[List.replicate_succ,List.flatten_cons,ih,List.replicate_succ];rfl
theorem Oa{L:List cq}(h:o7 L){i j:Nat}(hi:i<L.length)(hj:j<i):L[j]'(by omega)≠L[i]:=λe=>(h i hi).2 (by
 rw[<-e,List.mem_take_iff_getElem];exact⟨j,by omega,rfl⟩)
theorem P8{A B:List cq}(h:o7 (A++B)){i j:Nat}(hi:i<A.length)(hj:j<i):A[j]'(by omega)≠A[i]:=λe=>by
 have:=Oa h (i:=i) (j:=j) (by simp;omega) hj
 rw[List.getElem_append_left (by omega),List.getElem_append_left hi]at this
 exact this e
theorem P9{A B:List cq}(h:o7 (A++B)){i j:Nat}(hi:i<B.length)(hj:j<i):B[j]'(by omega)≠B[i]:=λe=>by
 have:=Oa h (i:=A.length+i) (j:=A.length+j) (by simp;omega) (by omega)
 rw[List.getElem_append_right (by omega),List.getElem_append_right (by omega)]at this
 simp only[Nat.add_sub_cancel_left]at this;exact this e
theorem qg{n:Nat}{R:Nat->Nat->Bool}:∀(f:Nat) (D:List Nat),(dM n R f D).length<=f
 |0,_=>Nat.le_refl _
 |f+1,D=>by
  rw[dM]
  split
  ·split
   ·simp
   ·rw[List.length_cons];exact Nat.succ_le_succ (qg f _)
  ·simp
def nj(p:Prog)(l:List Event)(H:GH)(ce:CE)(H':GH):Prop:=match dw p l with
 |none=>ce=.ret (.d (.k (.pointer none)))/\H'=H
 |some ai=>∃n ms mn mv ma,ce=.ret (.gp n 0)/\H.next<=mv/\Gw H' n ms mn mv ma p ⟨fH p l,ai⟩/\H.next<=H'.next/\(∀m,m<H.next->H'.obj m=H.obj m)/\gU H'
set_option maxHeartbeats 2000000 in
theorem uJ(p:Prog)(lW:∀s∈p.az++an p,cN s)(hp:formed p)(hs1:0<p.az.length)(Mt:p.az.length<=12)(g:Good p)(hdf:o7 (p.az++an p))(he:∀(d:Nat) (h:d<p.ai.length),iP p p.ai[d].exp)
  (l:List Event) (hl:l.length<=60) (hi:∀e∈l,nB ⟨e.aa,1⟩) (H:GH):aG prog 73 [lv (ar p),sl (l.map aQ)] H (nj p l H):=by
 have cc:=au (p:=bf [2] [4,25] [22]);refine aG.dG (au (p:=bf [2] [4,25] [22])) func73 rfl call73 (by rw[ntmps73];simp) rfl λhf hw=>?_
 simp[ntmps73,results73,ar]at hf|-;refine AW.seq cc ?_;simp;refine AW.seq cc ?_;simp;rw[GH.Kv hw.none];obtain⟨n,hn⟩:∃n,p.ai.length=n:=⟨_,rfl⟩;have Ug:n<=6:=hn▸g.n6;refine⟨rfl,by simp,?_⟩
 refine AW.join (c:=xC (bf [2] [4,25] [22])) (λa:Nat×Nat×Nat×Nat×GH=>⟨[(1,sl (l.map aQ)),(2,.ip ((ar p).map .d) 0),(4,.gp H.next 0)],[],a.2.2.2.2⟩)
  (λa=>H.next+6=a.2.2.2.2.next/\(a.1≠a.2.1/\a.1≠a.2.2.1/\a.1≠a.2.2.2.1/\a.2.1≠a.2.2.1/\a.2.1≠a.2.2.2.1/\a.2.2.1≠a.2.2.2.1)/\(H.next<a.1/\a.1<H.next+5)/\(H.next<a.2.1/\a.2.1<H.next+5)/\(H.next<a.2.2.1/\a.2.2.1<H.next+5)/\(H.next<a.2.2.2.1/\a.2.2.2.1<H.next+5)/\
   a.2.2.2.2.obj H.next=some (.box [.gp (H.next+5) 0])/\a.2.2.2.2.obj (H.next+5)=some (.box [sl (p.az.map rS),sl (p.ai.map fm),.gm a.1,.gm a.2.1,.vs a.2.2.1 0 1 0 n,.gm a.2.2.2.1])/\a.2.2.2.2.obj a.1=some (.map [])/\a.2.2.2.2.obj a.2.1=some (.map [])/\
   a.2.2.2.2.obj a.2.2.1=some (.vec 30 0 1 (jS n [.d (.k (.slice none 0 0))]) true)/\a.2.2.2.2.obj a.2.2.2.1=some (.map Kz)/\∀m,m<H.next->a.2.2.2.2.obj m=H.obj m) (AW.ev cc ?_) ?_
 ·simp[hn];have hact:=λG=>Pj G
  refine AW.draw cc [(0,.n),(4,.n)] (.q 0<|.q 3<|.q 4<|.f (.cons 1 (.f (.cons 2 (.f (.cons 5 (.f (.cons 6 (.f<|.one 7<|.q 8<|.f<|.one 9<|.f<|.one 10<|.done) (.cons 7 (.f<|.one 6<|.q 8<|.f<|.one 9<|.f<|.one 10<|.done) (.nil)))) (.cons 7 (.q 5<|.f<|.one 6<|.q 8<|.f<|.one 9<|.f<|.one 10<|.done) (.nil)))) (.cons 5 (.f (.cons 2 (.f (.cons 6 (.f<|.one 7<|.q 8<|.f<|.one 9<|.f<|.one 10<|.done) (.cons 7 (.f<|.one 6<|.q 8<|.f<|.one 9<|.f<|.one 10<|.done) (.nil)))) (.cons 6 (.f (.cons 2 (.f<|.one 7<|.q 8<|.f<|.one 9<|.f<|.one 10<|.done) (.cons 7 (.f<|.one 2<|.q 8<|.f<|.one 9<|.f<|.one 10<|.done) (.nil)))) (.cons 7 (.f (.cons 2 (.f<|.one 6<|.q 8<|.f<|.one 9<|.f<|.one 10<|.done) (.cons 6 (.f<|.one 2<|.q 8<|.f<|.one 9<|.f<|.one 10<|.done) (.nil)))) (.nil))))) (.cons 7 (.q 5<|.f (.cons 2 (.f<|.one 6<|.q 8<|.f<|.one 9<|.f<|.one 10<|.done) (.cons 6 (.f<|.one 2<|.q 8<|.f<|.one 9<|.f<|.one 10<|.done) (.nil)))) (.nil))))) (.cons 2 (.f (.cons 1 (.f (.cons 5 (.f (.cons 6 (.f<|.one 7<|.q 8<|.f<|.one 9<|.f<|.one 10<|.done) (.cons 7 (.f<|.one 6<|.q 8<|.f<|.one 9<|.f<|.one 10<|.done) (.nil)))) (.cons 7 (.q 5<|.f<|.one 6<|.q 8<|.f<|.one 9<|.f<|.one 10<|.done) (.nil)))) (.cons 5 (.f (.cons 1 (.f (.cons 6 (.f<|.one 7<|.q 8<|.f<|.one 9<|.f<|.one 10<|.done) (.cons 7 (.f<|.one 6<|.q 8<|.f<|.one 9<|.f<|.one 10<|.done) (.nil)))) (.cons 6 (.f (.cons 1 (.f<|.one 7<|.q 8<|.f<|.one 9<|.f<|.one 10<|.done) (.cons 7 (.f<|.one 1<|.q 8<|.f<|.one 9<|.f<|.one 10<|.done) (.nil)))) (.cons 7 (.f (.cons 1 (.f<|.one 6<|.q 8<|.f<|.one 9<|.f<|.one 10<|.done) (.cons 6 (.f<|.one 1<|.q 8<|.f<|.one 9<|.f<|.one 10<|.done) (.nil)))) (.nil))))) (.cons 7 (.q 5<|.f (.cons 1 (.f<|.one 6<|.q 8<|.f<|.one 9<|.f<|.one 10<|.done) (.cons 6 (.f<|.one 1<|.q 8<|.f<|.one 9<|.f<|.one 10<|.done) (.nil)))) (.nil))))) (.cons 5 (.f (.cons 1 (.f (.cons 2 (.f (.cons 6 (.f<|.one 7<|.q 8<|.f<|.one 9<|.f<|.one 10<|.done) (.cons 7 (.f<|.one 6<|.q 8<|.f<|.one 9<|.f<|.one 10<|.done) (.nil)))) (.cons 6 (.f (.cons 2 (.f<|.one 7<|.q 8<|.f<|.one 9<|.f<|.one 10<|.done) (.cons 7 (.f<|.one 2<|.q 8<|.f<|.one 9<|.f<|.one 10<|.done) (.nil)))) (.cons 7 (.f (.cons 2 (.f<|.one 6<|.q 8<|.f<|.one 9<|.f<|.one 10<|.done) (.cons 6 (.f<|.one 2<|.q 8<|.f<|.one 9<|.f<|.one 10<|.done) (.nil)))) (.nil))))) (.cons 2 (.f (.cons 1 (.f (.cons 6 (.f<|.one 7<|.q 8<|.f<|.one 9<|.f<|.one 10<|.done) (.cons 7 (.f<|.one 6<|.q 8<|.f<|.one 9<|.f<|.one 10<|.done) (.nil)))) (.cons 6 (.f (.cons 1 (.f<|.one 7<|.q 8<|.f<|.one 9<|.f<|.one 10<|.done) (.cons 7 (.f<|.one 1<|.q 8<|.f<|.one 9<|.f<|.one 10<|.done) (.nil)))) (.cons 7 (.f (.cons 1 (.f<|.one 6<|.q 8<|.f<|.one 9<|.f<|.one 10<|.done) (.cons 6 (.f<|.one 1<|.q 8<|.f<|.one 9<|.f<|.one 10<|.done) (.nil)))) (.nil))))) (.cons 6 (.f (.cons 1 (.f (.cons 2 (.f<|.one 7<|.q 8<|.f<|.one 9<|.f<|.one 10<|.done) (.cons 7 (.f<|.one 2<|.q 8<|.f<|.one 9<|.f<|.one 10<|.done) (.nil)))) (.cons 2 (.f (.cons 1 (.f<|.one 7<|.q 8<|.f<|.one 9<|.f<|.one 10<|.done) (.cons 7 (.f<|.one 1<|.q 8<|.f<|.one 9<|.f<|.one 10<|.done) (.nil)))) (.cons 7 (.f (.cons 1 (.f<|.one 2<|.q 8<|.f<|.one 9<|.f<|.one 10<|.done) (.cons 2 (.f<|.one 1<|.q 8<|.f<|.one 9<|.f<|.one 10<|.done) (.nil)))) (.nil))))) (.cons 7 (.f (.cons 1 (.f (.cons 2 (.f<|.one 6<|.q 8<|.f<|.one 9<|.f<|.one 10<|.done) (.cons 6 (.f<|.one 2<|.q 8<|.f<|.one 9<|.f<|.one 10<|.done) (.nil)))) (.cons 2 (.f (.cons 1 (.f<|.one 6<|.q 8<|.f<|.one 9<|.f<|.one 10<|.done) (.cons 6 (.f<|.one 1<|.q 8<|.f<|.one 9<|.f<|.one 10<|.done) (.nil)))) (.cons 6 (.f (.cons 1 (.f<|.one 2<|.q 8<|.f<|.one 9<|.f<|.one 10<|.done) (.cons 2 (.f<|.one 1<|.q 8<|.f<|.one 9<|.f<|.one 10<|.done) (.nil)))) (.nil))))) (.nil)))))) (.cons 7 (.q 5<|.f (.cons 1 (.f (.cons 2 (.f<|.one 6<|.q 8<|.f<|.one 9<|.f<|.one 10<|.done) (.cons 6 (.f<|.one 2<|.q 8<|.f<|.one 9<|.f<|.one 10<|.done) (.nil)))) (.cons 2 (.f (.cons 1 (.f<|.one 6<|.q 8<|.f<|.one 9<|.f<|.one 10<|.done) (.cons 6 (.f<|.one 1<|.q 8<|.f<|.one 9<|.f<|.one 10<|.done) (.nil)))) (.cons 6 (.f (.cons 1 (.f<|.one 2<|.q 8<|.f<|.one 9<|.f<|.one 10<|.done) (.cons 2 (.f<|.one 1<|.q 8<|.f<|.one 9<|.f<|.one 10<|.done) (.nil)))) (.nil))))) (.nil)))))) (by kernel_rfl) ?_
  simp[ar,hn]
  repeat' first
   |refine yR.of (hact _) (λv H2 hR _=>?_) (λx H2 env hR _=>by cases hR.1)<;>(obtain⟨q,hE⟩:=hR;cases q;rw[hE];clear hE;simp[ar,hn])
   |(refine⟨by omega,?_⟩)
   |apply And.intro
  ·exact JN.go (H.next+1,H.next+2,H.next+3,H.next+4,_) (by and_intros<;>first|(simp;done)|omega|(simp;omega)|(intro m hm;show eL _ _ _ _=_;rw[aX _ _ (by omega)];exact GH.bu hm)) ⟨by simp[ar],by simp,rfl,rfl,rfl⟩
  ·exact JN.go (H.next+1,H.next+2,H.next+4,H.next+3,_) (by and_intros<;>first|(simp;done)|omega|(simp;omega)|(intro m hm;show eL _ _ _ _=_;rw[aX _ _ (by omega)];exact GH.bu hm)) ⟨by simp[ar],by simp,rfl,rfl,rfl⟩
  ·exact JN.go (H.next+1,H.next+2,H.next+4,H.next+3,_) (by and_intros<;>first|(simp;done)|omega|(simp;omega)|(intro m hm;show eL _ _ _ _=_;rw[aX _ _ (by omega)];exact GH.bu hm)) ⟨by simp[ar],by simp,rfl,rfl,rfl⟩
  ·exact JN.go (H.next+1,H.next+2,H.next+3,H.next+4,_) (by and_intros<;>first|(simp;done)|omega|(simp;omega)|(intro m hm;show eL _ _ _ _=_;rw[aX _ _ (by omega)];exact GH.bu hm)) ⟨by simp[ar],by simp,rfl,rfl,rfl⟩
  ·exact JN.go (H.next+1,H.next+2,H.next+4,H.next+3,_) (by and_intros<;>first|(simp;done)|omega|(simp;omega)|(intro m hm;show eL _ _ _ _=_;rw[aX _ _ (by omega)];exact GH.bu hm)) ⟨by simp[ar],by simp,rfl,rfl,rfl⟩
  ·exact JN.go (H.next+1,H.next+3,H.next+2,H.next+4,_) (by and_intros<;>first|(simp;done)|omega|(simp;omega)|(intro m hm;show eL _ _ _ _=_;rw[aX _ _ (by omega)];exact GH.bu hm)) ⟨by simp[ar],by simp,rfl,rfl,rfl⟩
  ·exact JN.go (H.next+1,H.next+4,H.next+2,H.next+3,_) (by and_intros<;>first|(simp;done)|omega|(simp;omega)|(intro m hm;show eL _ _ _ _=_;rw[aX _ _ (by omega)];exact GH.bu hm)) ⟨by simp[ar],by simp,rfl,rfl,rfl⟩
  ·exact JN.go (H.next+1,H.next+3,H.next+4,H.next+2,_) (by and_intros<;>first|(simp;done)|omega|(simp;omega)|(intro m hm;show eL _ _ _ _=_;rw[aX _ _ (by omega)];exact GH.bu hm)) ⟨by simp[ar],by simp,rfl,rfl,rfl⟩
  ·exact JN.go (H.next+1,H.next+4,H.next+3,H.next+2,_) (by and_intros<;>first|(simp;done)|omega|(simp;omega)|(intro m hm;show eL _ _ _ _=_;rw[aX _ _ (by omega)];exact GH.bu hm)) ⟨by simp[ar],by simp,rfl,rfl,rfl⟩
  ·exact JN.go (H.next+1,H.next+3,H.next+4,H.next+2,_) (by and_intros<;>first|(simp;done)|omega|(simp;omega)|(intro m hm;show eL _ _ _ _=_;rw[aX _ _ (by omega)];exact GH.bu hm)) ⟨by simp[ar],by simp,rfl,rfl,rfl⟩
  ·exact JN.go (H.next+1,H.next+4,H.next+3,H.next+2,_) (by and_intros<;>first|(simp;done)|omega|(simp;omega)|(intro m hm;show eL _ _ _ _=_;rw[aX _ _ (by omega)];exact GH.bu hm)) ⟨by simp[ar],by simp,rfl,rfl,rfl⟩
  ·exact JN.go (H.next+2,H.next+1,H.next+3,H.next+4,_) (by and_intros<;>first|(simp;done)|omega|(simp;omega)|(intro m hm;show eL _ _ _ _=_;rw[aX _ _ (by omega)];exact GH.bu hm)) ⟨by simp[ar],by simp,rfl,rfl,rfl⟩
  ·exact JN.go (H.next+2,H.next+1,H.next+4,H.next+3,_) (by and_intros<;>first|(simp;done)|omega|(simp;omega)|(intro m hm;show eL _ _ _ _=_;rw[aX _ _ (by omega)];exact GH.bu hm)) ⟨by simp[ar],by simp,rfl,rfl,rfl⟩
  ·exact JN.go (H.next+2,H.next+1,H.next+4,H.next+3,_) (by and_intros<;>first|(simp;done)|omega|(simp;omega)|(intro m hm;show eL _ _ _ _=_;rw[aX _ _ (by omega)];exact GH.bu hm)) ⟨by simp[ar],by simp,rfl,rfl,rfl⟩
  ·exact JN.go (H.next+2,H.next+1,H.next+3,H.next+4,_) (by and_intros<;>first|(simp;done)|omega|(simp;omega)|(intro m hm;show eL _ _ _ _=_;rw[aX _ _ (by omega)];exact GH.bu hm)) ⟨by simp[ar],by simp,rfl,rfl,rfl⟩
  ·exact JN.go (H.next+2,H.next+1,H.next+4,H.next+3,_) (by and_intros<;>first|(simp;done)|omega|(simp;omega)|(intro m hm;show eL _ _ _ _=_;rw[aX _ _ (by omega)];exact GH.bu hm)) ⟨by simp[ar],by simp,rfl,rfl,rfl⟩
  ·exact JN.go (H.next+3,H.next+1,H.next+2,H.next+4,_) (by and_intros<;>first|(simp;done)|omega|(simp;omega)|(intro m hm;show eL _ _ _ _=_;rw[aX _ _ (by omega)];exact GH.bu hm)) ⟨by simp[ar],by simp,rfl,rfl,rfl⟩
  ·exact JN.go (H.next+4,H.next+1,H.next+2,H.next+3,_) (by and_intros<;>first|(simp;done)|omega|(simp;omega)|(intro m hm;show eL _ _ _ _=_;rw[aX _ _ (by omega)];exact GH.bu hm)) ⟨by simp[ar],by simp,rfl,rfl,rfl⟩
  ·exact JN.go (H.next+3,H.next+1,H.next+4,H.next+2,_) (by and_intros<;>first|(simp;done)|omega|(simp;omega)|(intro m hm;show eL _ _ _ _=_;rw[aX _ _ (by omega)];exact GH.bu hm)) ⟨by simp[ar],by simp,rfl,rfl,rfl⟩
  ·exact JN.go (H.next+4,H.next+1,H.next+3,H.next+2,_) (by and_intros<;>first|(simp;done)|omega|(simp;omega)|(intro m hm;show eL _ _ _ _=_;rw[aX _ _ (by omega)];exact GH.bu hm)) ⟨by simp[ar],by simp,rfl,rfl,rfl⟩
  ·exact JN.go (H.next+3,H.next+1,H.next+4,H.next+2,_) (by and_intros<;>first|(simp;done)|omega|(simp;omega)|(intro m hm;show eL _ _ _ _=_;rw[aX _ _ (by omega)];exact GH.bu hm)) ⟨by simp[ar],by simp,rfl,rfl,rfl⟩
  ·exact JN.go (H.next+4,H.next+1,H.next+3,H.next+2,_) (by and_intros<;>first|(simp;done)|omega|(simp;omega)|(intro m hm;show eL _ _ _ _=_;rw[aX _ _ (by omega)];exact GH.bu hm)) ⟨by simp[ar],by simp,rfl,rfl,rfl⟩
  ·exact JN.go (H.next+1,H.next+2,H.next+3,H.next+4,_) (by and_intros<;>first|(simp;done)|omega|(simp;omega)|(intro m hm;show eL _ _ _ _=_;rw[aX _ _ (by omega)];exact GH.bu hm)) ⟨by simp[ar],by simp,rfl,rfl,rfl⟩
  ·exact JN.go (H.next+1,H.next+2,H.next+4,H.next+3,_) (by and_intros<;>first|(simp;done)|omega|(simp;omega)|(intro m hm;show eL _ _ _ _=_;rw[aX _ _ (by omega)];exact GH.bu hm)) ⟨by simp[ar],by simp,rfl,rfl,rfl⟩
  ·exact JN.go (H.next+1,H.next+3,H.next+2,H.next+4,_) (by and_intros<;>first|(simp;done)|omega|(simp;omega)|(intro m hm;show eL _ _ _ _=_;rw[aX _ _ (by omega)];exact GH.bu hm)) ⟨by simp[ar],by simp,rfl,rfl,rfl⟩
  ·exact JN.go (H.next+1,H.next+4,H.next+2,H.next+3,_) (by and_intros<;>first|(simp;done)|omega|(simp;omega)|(intro m hm;show eL _ _ _ _=_;rw[aX _ _ (by omega)];exact GH.bu hm)) ⟨by simp[ar],by simp,rfl,rfl,rfl⟩
  ·exact JN.go (H.next+1,H.next+3,H.next+4,H.next+2,_) (by and_intros<;>first|(simp;done)|omega|(simp;omega)|(intro m hm;show eL _ _ _ _=_;rw[aX _ _ (by omega)];exact GH.bu hm)) ⟨by simp[ar],by simp,rfl,rfl,rfl⟩
  ·exact JN.go (H.next+1,H.next+4,H.next+3,H.next+2,_) (by and_intros<;>first|(simp;done)|omega|(simp;omega)|(intro m hm;show eL _ _ _ _=_;rw[aX _ _ (by omega)];exact GH.bu hm)) ⟨by simp[ar],by simp,rfl,rfl,rfl⟩
  ·exact JN.go (H.next+2,H.next+1,H.next+3,H.next+4,_) (by and_intros<;>first|(simp;done)|omega|(simp;omega)|(intro m hm;show eL _ _ _ _=_;rw[aX _ _ (by omega)];exact GH.bu hm)) ⟨by simp[ar],by simp,rfl,rfl,rfl⟩
  ·exact JN.go (H.next+2,H.next+1,H.next+4,H.next+3,_) (by and_intros<;>first|(simp;done)|omega|(simp;omega)|(intro m hm;show eL _ _ _ _=_;rw[aX _ _ (by omega)];exact GH.bu hm)) ⟨by simp[ar],by simp,rfl,rfl,rfl⟩
  ·exact JN.go (H.next+3,H.next+1,H.next+2,H.next+4,_) (by and_intros<;>first|(simp;done)|omega|(simp;omega)|(intro m hm;show eL _ _ _ _=_;rw[aX _ _ (by omega)];exact GH.bu hm)) ⟨by simp[ar],by simp,rfl,rfl,rfl⟩
  ·exact JN.go (H.next+4,H.next+1,H.next+2,H.next+3,_) (by and_intros<;>first|(simp;done)|omega|(simp;omega)|(intro m hm;show eL _ _ _ _=_;rw[aX _ _ (by omega)];exact GH.bu hm)) ⟨by simp[ar],by simp,rfl,rfl,rfl⟩
  ·exact JN.go (H.next+3,H.next+1,H.next+4,H.next+2,_) (by and_intros<;>first|(simp;done)|omega|(simp;omega)|(intro m hm;show eL _ _ _ _=_;rw[aX _ _ (by omega)];exact GH.bu hm)) ⟨by simp[ar],by simp,rfl,rfl,rfl⟩
  ·exact JN.go (H.next+4,H.next+1,H.next+3,H.next+2,_) (by and_intros<;>first|(simp;done)|omega|(simp;omega)|(intro m hm;show eL _ _ _ _=_;rw[aX _ _ (by omega)];exact GH.bu hm)) ⟨by simp[ar],by simp,rfl,rfl,rfl⟩
  ·exact JN.go (H.next+2,H.next+3,H.next+1,H.next+4,_) (by and_intros<;>first|(simp;done)|omega|(simp;omega)|(intro m hm;show eL _ _ _ _=_;rw[aX _ _ (by omega)];exact GH.bu hm)) ⟨by simp[ar],by simp,rfl,rfl,rfl⟩
  ·exact JN.go (H.next+2,H.next+4,H.next+1,H.next+3,_) (by and_intros<;>first|(simp;done)|omega|(simp;omega)|(intro m hm;show eL _ _ _ _=_;rw[aX _ _ (by omega)];exact GH.bu hm)) ⟨by simp[ar],by simp,rfl,rfl,rfl⟩
  ·exact JN.go (H.next+3,H.next+2,H.next+1,H.next+4,_) (by and_intros<;>first|(simp;done)|omega|(simp;omega)|(intro m hm;show eL _ _ _ _=_;rw[aX _ _ (by omega)];exact GH.bu hm)) ⟨by simp[ar],by simp,rfl,rfl,rfl⟩
  ·exact JN.go (H.next+4,H.next+2,H.next+1,H.next+3,_) (by and_intros<;>first|(simp;done)|omega|(simp;omega)|(intro m hm;show eL _ _ _ _=_;rw[aX _ _ (by omega)];exact GH.bu hm)) ⟨by simp[ar],by simp,rfl,rfl,rfl⟩
  ·exact JN.go (H.next+3,H.next+4,H.next+1,H.next+2,_) (by and_intros<;>first|(simp;done)|omega|(simp;omega)|(intro m hm;show eL _ _ _ _=_;rw[aX _ _ (by omega)];exact GH.bu hm)) ⟨by simp[ar],by simp,rfl,rfl,rfl⟩
  ·exact JN.go (H.next+4,H.next+3,H.next+1,H.next+2,_) (by and_intros<;>first|(simp;done)|omega|(simp;omega)|(intro m hm;show eL _ _ _ _=_;rw[aX _ _ (by omega)];exact GH.bu hm)) ⟨by simp[ar],by simp,rfl,rfl,rfl⟩
  ·exact JN.go (H.next+2,H.next+3,H.next+4,H.next+1,_) (by and_intros<;>first|(simp;done)|omega|(simp;omega)|(intro m hm;show eL _ _ _ _=_;rw[aX _ _ (by omega)];exact GH.bu hm)) ⟨by simp[ar],by simp,rfl,rfl,rfl⟩
  ·exact JN.go (H.next+2,H.next+4,H.next+3,H.next+1,_) (by and_intros<;>first|(simp;done)|omega|(simp;omega)|(intro m hm;show eL _ _ _ _=_;rw[aX _ _ (by omega)];exact GH.bu hm)) ⟨by simp[ar],by simp,rfl,rfl,rfl⟩
  ·exact JN.go (H.next+3,H.next+2,H.next+4,H.next+1,_) (by and_intros<;>first|(simp;done)|omega|(simp;omega)|(intro m hm;show eL _ _ _ _=_;rw[aX _ _ (by omega)];exact GH.bu hm)) ⟨by simp[ar],by simp,rfl,rfl,rfl⟩
  ·exact JN.go (H.next+4,H.next+2,H.next+3,H.next+1,_) (by and_intros<;>first|(simp;done)|omega|(simp;omega)|(intro m hm;show eL _ _ _ _=_;rw[aX _ _ (by omega)];exact GH.bu hm)) ⟨by simp[ar],by simp,rfl,rfl,rfl⟩
  ·exact JN.go (H.next+3,H.next+4,H.next+2,H.next+1,_) (by and_intros<;>first|(simp;done)|omega|(simp;omega)|(intro m hm;show eL _ _ _ _=_;rw[aX _ _ (by omega)];exact GH.bu hm)) ⟨by simp[ar],by simp,rfl,rfl,rfl⟩
  ·exact JN.go (H.next+4,H.next+3,H.next+2,H.next+1,_) (by and_intros<;>first|(simp;done)|omega|(simp;omega)|(intro m hm;show eL _ _ _ _=_;rw[aX _ _ (by omega)];exact GH.bu hm)) ⟨by simp[ar],by simp,rfl,rfl,rfl⟩
  ·exact JN.go (H.next+2,H.next+3,H.next+4,H.next+1,_) (by and_intros<;>first|(simp;done)|omega|(simp;omega)|(intro m hm;show eL _ _ _ _=_;rw[aX _ _ (by omega)];exact GH.bu hm)) ⟨by simp[ar],by simp,rfl,rfl,rfl⟩
  ·exact JN.go (H.next+2,H.next+4,H.next+3,H.next+1,_) (by and_intros<;>first|(simp;done)|omega|(simp;omega)|(intro m hm;show eL _ _ _ _=_;rw[aX _ _ (by omega)];exact GH.bu hm)) ⟨by simp[ar],by simp,rfl,rfl,rfl⟩
  ·exact JN.go (H.next+3,H.next+2,H.next+4,H.next+1,_) (by and_intros<;>first|(simp;done)|omega|(simp;omega)|(intro m hm;show eL _ _ _ _=_;rw[aX _ _ (by omega)];exact GH.bu hm)) ⟨by simp[ar],by simp,rfl,rfl,rfl⟩
  ·exact JN.go (H.next+4,H.next+2,H.next+3,H.next+1,_) (by and_intros<;>first|(simp;done)|omega|(simp;omega)|(intro m hm;show eL _ _ _ _=_;rw[aX _ _ (by omega)];exact GH.bu hm)) ⟨by simp[ar],by simp,rfl,rfl,rfl⟩
  ·exact JN.go (H.next+3,H.next+4,H.next+2,H.next+1,_) (by and_intros<;>first|(simp;done)|omega|(simp;omega)|(intro m hm;show eL _ _ _ _=_;rw[aX _ _ (by omega)];exact GH.bu hm)) ⟨by simp[ar],by simp,rfl,rfl,rfl⟩
  ·exact JN.go (H.next+4,H.next+3,H.next+2,H.next+1,_) (by and_intros<;>first|(simp;done)|omega|(simp;omega)|(intro m hm;show eL _ _ _ _=_;rw[aX _ _ (by omega)];exact GH.bu hm)) ⟨by simp[ar],by simp,rfl,rfl,rfl⟩
 ·rintro⟨ms,mn,mv,ma,G⟩ ⟨k0,⟨k1,k2,k3,k4,k5,k6⟩,k7,k8,k9,k10,kb,kw,ks,kn,kv,ka,kl⟩;simp only at k0 k1 k2 k3 k4 k5 k6 k7 k8 k9 k10 kb kw ks kn kv ka kl;refine AW.YW mv kv ?_;obtain⟨G0,MF⟩:∃G0,G.set mv (.vec 30 0 1 (zz (jS n [.d (.k (.slice none 0 0))])) true)=G0:=⟨_,rfl⟩;have hfz:=Dy n;rw[hfz]at MF;rw[hfz];simp only[LS.CP];rw[show(G.set mv (.vec 30 0 1 ((List.replicate n ([]:cg)).map b9) true))=G0 from MF]
  have e0:G0.next=H.next+6:=by rw[<-MF,GH.aM];exact k0.symm
  have c0:∀m,m≠mv->G0.obj m=G.obj m:=λm hm=>by rw[<-MF,GH.ay,if_neg hm]
  have cv:G0.obj mv=some (.vec 30 0 1 ((List.replicate n ([]:cg)).map b9) true):=by rw[<-MF,GH.aY]
  have cw:=(c0 _ (by omega)).trans kw
  have cb:=(c0 _ (by omega)).trans kb
  have cms:=(c0 ms (by omega)).trans ks
  have cmn:=(c0 mn (by omega)).trans kn
  have cma:=(c0 ma (by omega)).trans ka
  have ax9:=λi:Nat=>DZ l i (by omega)
  have hwr:=λi:Nat=>λ(q:i<1000)=>aB (n:=9223372036854775807) (show i<9223372036854775807 by omega)
  obtain⟨fs,KW⟩:∃fs:Nat->LV,fs=λi=>b9 ((fH p l).getD i []):=⟨_,rfl⟩
  refine AW.seq cc ?_;simp[ar];refine AW.aV cc (λa:Nat×List (Value×LV)=>⟨[(1,sl (l.map aQ)),(2,.ip ((ar p).map .d) 0),(4,.gp H.next 0),(27,sl (p.az.map rS)),(28,aH p.az.length),(29,aH a.1)],[],G0.set ms (.map a.2)⟩)
   (λa=>p.az.length-a.1) (λa=>a.1<=p.az.length/\Cv a.2 p.az fs a.1) (0,[]) ⟨⟨Nat.zero_le _,Cv.nil _ _⟩,by simp[ar,GH.iX cms]⟩ ?_
  rintro⟨i,es⟩ ⟨Ef,F6⟩;simp only at Ef F6;simp;have bK1:ms≠H.next/\ms≠H.next+5:=by omega
  have o1:∀es,(G0.set ms (.map es)).obj H.next=some (.box [.gp (H.next+5) 0]):=λes=>by rw[GH.ay,if_neg (by omega)];exact cb
  have o2:∀es,(G0.set ms (.map es)).obj (H.next+5)=some (.box [sl (p.az.map rS),sl (p.ai.map fm),.gm ms,.gm mn,.vs mv 0 1 0 n,.gm ma]):=λes=>by rw[GH.ay,if_neg (by omega)];exact cw
  have o3:∀es,(G0.set ms (.map es)).obj ms=some (.map es):=λes=>GH.aY
  refine⟨λh=>?_,λh=>?_⟩
  ·obtain⟨s,hs⟩:∃s,p.az[i]=s:=⟨_,rfl⟩;have hsy:=ax9 i;simp at hsy;simp[h,List.getElem?_eq_getElem h,hs,rS];refine AW.draw cc [(7,.n)] (.q 4<|.q 5<|.q 6<|.q 7<|.q 0<|.q 1<|.q 2<|.q 3<|.f<|.one 8<|.done) (by kernel_rfl) ?_
   simp;refine FC.aJ hsy ?_;simp[o1,o2,o3,b9];refine⟨F6.key,?_⟩;have YO:fs i=.d (.sl ((lN l i).map ak)):=by
    rw[KW];simp[fH,List.getD_eq_getElem?_getD,List.getElem?_map,List.getElem?_range h,b9]
   have hput:=F6.put h λj hj hji=>P8 hdf h hji
   rw[hs,YO]at hput;exact NX.go (i+1,cr (.string s) (.d (.sl ((lN l i).map ak))) es) (by simp only;omega) ⟨h,hput⟩ (by simp[hwr i (by omega),GH.set_set,ar])
  ·have:i=p.az.length:=by omega
   subst this;have QE:T0 es p.az fs:=F6.all;obtain⟨G1,hG1⟩:∃G1,G0.set ms (.map es)=G1:=⟨_,rfl⟩;have d1:=o1 es;have d2:=o2 es;have d3:=o3 es;have d0:∀m,m≠ms->G1.obj m=G0.obj m:=λm hm=>by rw[<-hG1,GH.ay,if_neg hm]
   have dn:G1.next=H.next+6:=by rw[<-hG1,GH.aM];exact e0
   rw[hG1]at d1 d2 d3|-;have d4:=(d0 mn (by omega)).trans cmn
   have d5:=(d0 ma (by omega)).trans cma
   have d6:=(d0 mv (by omega)).trans cv
   clear o1 o2 o3 F6
   obtain⟨nms,Wl⟩:∃nms,an p=nms:=⟨_,rfl⟩;have hnl:nms.length=n:=by rw[<-Wl,<-hn];simp[an]
   refine AW.seq cc ?_;simp[ar];refine AW.aV cc (λa:Nat×List (Value×LV)=>⟨[(1,sl (l.map aQ)),(2,.ip ((ar p).map .d) 0),(4,.gp H.next 0),(44,sl (p.ai.map fm)),(45,aH n),(46,aH a.1)],[],G1.set mn (.map a.2)⟩)
    (λa=>n-a.1) (λa=>a.1<=n/\Cv a.2 nms (λi=>aH i) a.1) (0,[]) ⟨⟨Nat.zero_le _,Cv.nil _ _⟩,by simp[ar,GH.iX d4,hn]⟩ ?_
   rintro⟨i,es2⟩ ⟨bn2,F6⟩;simp only at bn2 F6;have o1:∀es,(G1.set mn (.map es)).obj H.next=some (.box [.gp (H.next+5) 0]):=λes=>by rw[GH.ay,if_neg (by omega)];exact d1
   have o2:∀es,(G1.set mn (.map es)).obj (H.next+5)=some (.box [sl (p.az.map rS),sl (p.ai.map fm),.gm ms,.gm mn,.vs mv 0 1 0 n,.gm ma]):=λes=>by rw[GH.ay,if_neg (by omega)];exact d2
   have o3:∀es,(G1.set mn (.map es)).obj mn=some (.map es):=λes=>GH.aY
   simp;refine⟨λh=>?_,λh=>?_⟩
   ·have hl':i<p.ai.length:=by omega
    obtain⟨d,hd⟩:∃d,p.ai[i]=d:=⟨_,rfl⟩;simp[h,hl',List.getElem?_eq_getElem hl',hd,fm,aj];refine AW.draw cc [] (.q 4<|.q 6<|.q 0<|.q 1<|.q 2<|.q 3<|.q 5<|.f<|.one 7<|.done) (by kernel_rfl) ?_
    simp[o1,o2,o3];refine⟨F6.key,?_⟩;have hni:nms[i]=d.name:=by
     subst Wl;simp[an,hd]
    have hput:=F6.put (i:=i) (by omega) λj hj hji=>by subst Wl;exact P9 hdf (by omega) hji
    rw[hni]at hput;exact NX.go (i+1,cr (.string d.name) (aH i) es2) (by simp only;omega) ⟨h,hput⟩ (by simp[hwr i (by omega),GH.set_set,ar])
   ·have:n=i:=by omega
    subst this;rw[<-hnl]at F6;have hmn:T0 es2 nms (λi=>aH i):=F6.all
    obtain⟨G2,hG2⟩:∃G2,G1.set mn (.map es2)=G2:=⟨_,rfl⟩;have f1:=o1 es2;have f2:=o2 es2;have f3:=o3 es2;have f0:∀m,m≠mn->G2.obj m=G1.obj m:=λm hm=>by rw[<-hG2,GH.ay,if_neg hm]
    have fn:G2.next=H.next+6:=by rw[<-hG2,GH.aM];exact dn
    rw[hG2]at f1 f2 f3|-;have f4:=(f0 ms (by omega)).trans d3
    have f5:=(f0 ma (by omega)).trans d5
    have f6:=(f0 mv (by omega)).trans d6
    have f7:∀m,m<H.next->G2.obj m=H.obj m:=λm hm=>by
     rw[f0 m (by omega),d0 m (by omega),c0 m (by omega)];exact kl m hm
    clear o1 o2 o3 F6
    obtain⟨S,hS⟩:∃S,fH p l=S:=⟨_,rfl⟩;have ME:∀b∈S,bB b:=λb hb=>by
     rw[<-hS]at hb;obtain⟨i,_,rfl⟩:=List.mem_map.1 hb;exact sY hl hi (i:Nat)
    obtain⟨GG,NY⟩:∃GG:List cg->GH,GG=λai=>G2.set mv (.vec 30 0 1 (ai.map b9) true):=⟨_,rfl⟩
    have hW:∀ai:List cg,ai.length=p.ai.length->Gw (GG ai) (H.next+5) ms mn mv ma p ⟨S,ai⟩:=λai nr=>by
     rw[NY];refine⟨⟨?_,⟨es,?_,?_⟩,⟨es2,?_,?_⟩,?_,nr⟩,?_⟩
     ·simp only[nr,hn];rw[GH.ay,if_neg (by omega)];exact f2
     ·rw[GH.ay,if_neg (by omega)];exact f4
     ·rw[<-hS,<-KW];exact QE
     ·rw[GH.ay,if_neg (by omega)];exact f3
     ·rw[Wl];exact hmn
     ·exact GH.aY
     ·rw[GH.ay,if_neg (by omega)];exact f5
    obtain⟨GS,QJ⟩:∃GS,gK p.ai.length (aZ p)=GS:=⟨_,rfl⟩;have Eh:∀g∈GS,qK p g:=λg hg=>by rw[<-QJ]at hg;exact((jj (p:=p) p.ai.length [] (λx hx=>absurd hx List.not_mem_nil)).1 g hg).1
    obtain⟨K,hK⟩:∃K,dw p l=K:=⟨_,rfl⟩;have hK0:dX p S GS (List.replicate p.ai.length [])=K:=by rw[<-hK,<-hS,<-QJ];rfl
    have Db:=yh p lW hp hs1 Mt g;rw[QJ]at Db;refine AW.seq cc ?_;simp[ar];refine EC.of (by simpa[ar]using Db G2) (λv1 H1 hR=>?_) (λv1 H1 hR=>by obtain⟨q,_⟩:=hR;cases q)
    obtain⟨q1,q2⟩:=hR;cases q1;rw[q2]
    clear q2
    have ae4:GG (List.replicate p.ai.length [])=G2:=by rw[NY,hn];exact GH.iX f6
    have ad5:∀g∈GS,1<=tJ p g/\tJ p g<=201:=λg hg=>⟨zF (g:=g) (λd=>bc (cQ p d)) g 201 (by omega) λk hk x hx h3 _=>by
     have jo:=(Eh g hg).lt hk;rw[fS jo]at hx;exact((gq hp jo x hx).W4.2.2.1 h3).1,zD (g:=g) (λd=>bc (cQ p d)) g 201⟩
    have BB:∀g∈GS,g.length<=6:=λg hg=>by
     have:=dy (Eh g hg).nodup λx hx=>List.mem_range.2 ((Eh g hg).lt hx)
     simp at this;omega
    have aB3:GS.length<=6:=by rw[<-QJ];exact Nat.le_trans (qg _ _) (by omega)
    have o1:∀ai,(GG ai).obj H.next=some (.box [.gp (H.next+5) 0]):=λai=>by rw[NY];simp only;rw[GH.ay,if_neg (by omega)];exact f1
    have oL:∀ai m,m<H.next->(GG ai).obj m=H.obj m:=λai m hm=>by rw[NY];simp only;rw[GH.ay,if_neg (by omega)];exact f7 m hm
    have oN:∀ai,(GG ai).next=H.next+6:=λai=>by rw[NY];exact fn
    simp;refine AW.aV cc (λa:Nat×List cg=>⟨[(2,.ip ((ar p).map .d) 0),(4,.gp H.next 0),(60,sl (GS.map rT)),(61,aH GS.length),(62,aH a.1)],[],GG a.2⟩)
     (λa=>GS.length-a.1) (λa=>a.1<=GS.length/\a.2.length=p.ai.length/\(∀b∈a.2,bB b)/\dX p S (GS.drop a.1) a.2=K) (0,List.replicate p.ai.length [])
     ⟨⟨Nat.zero_le _,by simp,λb hb=>by rw[List.eq_of_mem_replicate hb];exact⟨.nil,by simp,by simp⟩,hK0⟩,by simp[ar,ae4]⟩ ?_
    rintro⟨i,ai⟩ ⟨hi1,nr,zd,qR⟩;simp only at hi1 nr zd qR;simp;refine⟨λh=>?_,λh=>?_⟩
    ·obtain⟨g,hge⟩:∃g,GS[i]=g:=⟨_,rfl⟩;have QH:g∈GS:=hge▸List.getElem_mem h;have Ei:GS.drop i=g::GS.drop (i+1):=by rw[List.drop_eq_getElem_cons h,hge]
     rw[Ei,dX]at qR;have hgrow:gD g=.d (.sl (g.map λk=>rI (k:Nat))):=by unfold gD bX;rw[List.map_map];rfl
     have hfr:=RZ (hW ai nr) he (λd hd=>(Eh g QH).lt hd) (BB g QH)
     have Sy:=ad5 g QH;obtain⟨far,hfe⟩:∃far,tJ p g=far:=⟨_,rfl⟩;rw[hgrow,hfe]at hfr;rw[hfe]at Sy;simp[h,List.getElem?_eq_getElem h,hge,rT,o1];refine⟨by rw[oN];omega,EC.of hfr (λv2 H2 hR=>?_) (λv2 H2 hR=>by obtain⟨q,_⟩:=hR;cases q)⟩
     obtain⟨q1,q2⟩:=hR;cases q1;rw[q2]
     clear q2
     have w1:IntKind.i64.wrap (far-1)=far-1:=by rw[wrap64]<;>omega
     obtain⟨top0,ht0⟩:∃t,gW (far-1) 200=t:=⟨_,rfl⟩;simp[w1,ht0];obtain⟨K2,YV⟩:∃K2,mS p S g ai=K2:=⟨_,rfl⟩;have Wp:fV p S far g 202 top0 ai=K2:=by rw[<-YV,<-ht0,<-hfe];rfl
     have Wf:0<=top0/\top0<=200:=by rw[<-ht0];unfold gW;split<;>omega
     obtain⟨RG,hRG⟩:∃RG:LV,LV.d (.sl (g.map λk=>rI (k:Nat)))=RG:=⟨_,rfl⟩
     refine AW.aV cc (λa:Nat×Int×List cg=>⟨[(2,.ip ((ar p).map .d) 0),(4,.gp H.next 0),(10,.d (.sl (g.map λk=>rI (k:Nat)))),(11,aH far),(12,aH a.2.1),(60,sl (GS.map rT)),(61,aH GS.length),(62,aH i)],[],GG a.2.2⟩)
      (λa=>a.1) (λa=>0<=a.2.1/\a.2.1<=200/\200-a.2.1<a.1/\a.2.2.length=p.ai.length/\(∀b∈a.2.2,bB b)/\fV p S far g a.1 a.2.1 a.2.2=K2) (202,top0,ai)
      ⟨⟨Wf.1,Wf.2,by simp only;omega,nr,zd,Wp⟩,by simp[ar]⟩ ?_
     rintro⟨f,top,defs1⟩ ⟨ht1,ht2,hf3,PL,Ej,lP⟩;simp only at ht1 ht2 hf3 PL Ej lP;simp;obtain⟨f,rfl⟩:∃f',f=f'+1:=⟨f-1,by omega⟩
     rw[fV]at lP;obtain⟨K3,hK3⟩:∃K3,fq p S top g defs1=K3:=⟨_,rfl⟩;rw[hK3]at lP;refine AW.aV cc (λa:Nat×List cg=>⟨[(2,.ip ((ar p).map .d) 0),(4,.gp H.next 0),(10,.d (.sl (g.map λk=>rI (k:Nat)))),(11,aH far),(12,aH top),(60,sl (GS.map rT)),(61,aH GS.length),(62,aH i),(76,.d (.sl (g.map λk=>rI (k:Nat)))),(77,aH g.length),(78,aH a.1)],[],GG a.2⟩)
      (λa=>g.length-a.1) (λa=>a.1<=g.length/\a.2.length=p.ai.length/\(∀b∈a.2,bB b)/\fq p S top (g.drop a.1) a.2=K3) (0,defs1)
      ⟨⟨Nat.zero_le _,PL,Ej,hK3⟩,by simp[ar]⟩ ?_
     rintro⟨j,defs2⟩ ⟨hj,sj,lQ,hk2⟩;simp only at hj sj lQ hk2;simp;refine⟨λJw=>?_,λJw=>?_⟩
     ·obtain⟨d,NU⟩:∃d,g[j]=d:=⟨_,rfl⟩;have hdm:d∈g:=NU▸List.getElem_mem Jw;have xl:=(Eh g QH).lt hdm;have MA:g.drop j=d::g.drop (j+1):=by rw[List.drop_eq_getElem_cons Jw,NU]
      rw[MA,fq,tT]at hk2;have ad6:(p.ai.getD d default).exp=p.ai[d].exp:=fS xl;rw[ad6]at hk2;have hex:=sQ (W:=⟨S,defs2⟩) ME lQ (ht2) _ p.ai[d].exp (Nat.lt_succ_self _) (he d xl) (GG defs2) (hW defs2 sj);simp[aj]at hex;have YF:=(hW defs2 sj).La.ob;simp[Jw,List.getElem?_eq_getElem Jw,NU,rI];refine AW.draw cc [] (.q 4<|.q 6<|.q 8<|.q 12<|.q 5<|.q 7<|.q 9<|.q 10<|.q 11<|.f (.cons 0 (.q 1<|.q 2<|.f (.cons 3 (.f<|.one 13<|.q 14<|.f<|.one 15<|.done) (.cons 13 (.q 3<|.q 14<|.f<|.one 15<|.done) (.nil)))) (.cons 13 (.q 0<|.q 1<|.q 2<|.q 3<|.q 14<|.f<|.one 15<|.done) (.nil)))) (by kernel_rfl) ?_
      simp[ar,o1,oN,YF,xl,List.getElem?_eq_getElem xl,fm,aj];have hov:=(hW defs2 sj).La.ov;refine⟨⟨?_,?_⟩,?_⟩<;>refine yR.of hex (λv H2 hR _=>?_) (λx H2 env hR lY=>?_)<;>obtain⟨hE,hm⟩:=hR<;>rw[hE]<;>clear hE
      all_goals cases hx:cZ p ⟨S,defs2⟩ top p.ai[d].exp
      all_goals rw[hx]at hm hk2
      all_goals try (cases hm;done)
      all_goals cases hm
      ·rename_i b;have jm:d<defs2.length:=by omega
       have hlt3:d+1<=defs2.length:=by omega
       have fE:List.take d (defs2.map b9)++LV.d (DV.sl (b.map ak))::List.drop (d+1) (defs2.map b9)=(defs2.set d b).map b9:=by
        rw[List.map_set,List.set_eq_take_append_cons_drop,if_pos (by simpa using jm)];rfl
       have BG:(GG defs2).set mv (.vec 30 0 1 ((defs2.set d b).map b9) true)=GG (defs2.set d b):=by rw[NY];exact GH.set_set
       have F9:bB b:=lZ (W:=⟨S,defs2⟩) ME lQ ht2 _ _ (Nat.lt_succ_self _) (he d xl) b hx;simp[YF,o1,oN,hov,b9];refine⟨jm,?_⟩;simp[hlt3];rw[fE,BG];exact NX.go (j+1,defs2.set d b) (by simp only;omega) ⟨Jw,by rw[List.length_set];exact sj,λc hc=>by
        rcases List.mem_or_eq_of_mem_set hc with q|q
        ·exact lQ c q
        ·rw[q];exact F9,hk2⟩ (by simp[hwr j (by have:=BB g QH;omega),ar,rI])
      ·simp;refine λhz=>⟨by rw[oN];omega,uM H.next _ _ (o1 _) rfl _ ?_⟩
       have hkn:dw p l=none:=by
        rw[hK,<-qR,YV];rw[<-hk2]at lP;rw[<-lP]
       simp only[fw];have h4:env 4=.gp H.next 0:=by simpa using lY 4 rfl
       refine⟨.d (.k (.pointer none)),by simp[rE,GH.aY,h4],H,?_,by simp[fz,LV.nb],?_⟩
       ·refine aL (by rw[GH.aM,oN];omega) (λm hm=>?_) hw.none
        rw[GH.ay,if_neg (by omega)]
        exact oL defs2 m hm
       ·unfold nj;rw[hkn];exact⟨rfl,rfl⟩
      ·rename_i b;have jm:d<defs2.length:=by omega
       have hlt3:d+1<=defs2.length:=by omega
       have fE:List.take d (defs2.map b9)++LV.d (DV.sl (b.map ak))::List.drop (d+1) (defs2.map b9)=(defs2.set d b).map b9:=by
        rw[List.map_set,List.set_eq_take_append_cons_drop,if_pos (by simpa using jm)];rfl
       have BG:(GG defs2).set mv (.vec 30 0 1 ((defs2.set d b).map b9) true)=GG (defs2.set d b):=by rw[NY];exact GH.set_set
       have F9:bB b:=lZ (W:=⟨S,defs2⟩) ME lQ ht2 _ _ (Nat.lt_succ_self _) (he d xl) b hx;simp[YF,o1,oN,hov,b9];refine⟨jm,?_⟩;simp[hlt3];rw[fE,BG];exact NX.go (j+1,defs2.set d b) (by simp only;omega) ⟨Jw,by rw[List.length_set];exact sj,λc hc=>by
        rcases List.mem_or_eq_of_mem_set hc with q|q
        ·exact lQ c q
        ·rw[q];exact F9,hk2⟩ (by simp[hwr j (by have:=BB g QH;omega),ar,rI])
      ·simp;refine λhz=>⟨by rw[oN];omega,uM H.next _ _ (o1 _) rfl _ ?_⟩
       have hkn:dw p l=none:=by
        rw[hK,<-qR,YV];rw[<-hk2]at lP;rw[<-lP]
       simp only[fw];have h4:env 4=.gp H.next 0:=by simpa using lY 4 rfl
       refine⟨.d (.k (.pointer none)),by simp[rE,GH.aY,h4],H,?_,by simp[fz,LV.nb],?_⟩
       ·refine aL (by rw[GH.aM,oN];omega) (λm hm=>?_) hw.none
        rw[GH.ay,if_neg (by omega)]
        exact oL defs2 m hm
       ·unfold nj;rw[hkn];exact⟨rfl,rfl⟩
      ·rename_i b;have jm:d<defs2.length:=by omega
       have hlt3:d+1<=defs2.length:=by omega
       have fE:List.take d (defs2.map b9)++LV.d (DV.sl (b.map ak))::List.drop (d+1) (defs2.map b9)=(defs2.set d b).map b9:=by
        rw[List.map_set,List.set_eq_take_append_cons_drop,if_pos (by simpa using jm)];rfl
       have BG:(GG defs2).set mv (.vec 30 0 1 ((defs2.set d b).map b9) true)=GG (defs2.set d b):=by rw[NY];exact GH.set_set
       have F9:bB b:=lZ (W:=⟨S,defs2⟩) ME lQ ht2 _ _ (Nat.lt_succ_self _) (he d xl) b hx;simp[YF,o1,oN,hov,b9];refine⟨jm,?_⟩;simp[hlt3];rw[fE,BG];exact NX.go (j+1,defs2.set d b) (by simp only;omega) ⟨Jw,by rw[List.length_set];exact sj,λc hc=>by
        rcases List.mem_or_eq_of_mem_set hc with q|q
        ·exact lQ c q
        ·rw[q];exact F9,hk2⟩ (by simp[hwr j (by have:=BB g QH;omega),ar,rI])
      ·simp;refine λhz=>⟨by rw[oN];omega,uM H.next _ _ (o1 _) rfl _ ?_⟩
       have hkn:dw p l=none:=by
        rw[hK,<-qR,YV];rw[<-hk2]at lP;rw[<-lP]
       simp only[fw];have h4:env 4=.gp H.next 0:=by simpa using lY 4 rfl
       refine⟨.d (.k (.pointer none)),by simp[rE,GH.aY,h4],H,?_,by simp[fz,LV.nb],?_⟩
       ·refine aL (by rw[GH.aM,oN];omega) (λm hm=>?_) hw.none
        rw[GH.ay,if_neg (by omega)]
        exact oL defs2 m hm
       ·unfold nj;rw[hkn];exact⟨rfl,rfl⟩
     ·have:j=g.length:=by omega
      subst this;rw[List.drop_length,fq]at hk2;rw[<-hk2]at lP;simp only at lP;refine⟨λq=>?_,λq=>?_⟩
      ·rw[if_pos q]at lP;rw[YV,<-lP]at qR;exact NX.go (i+1,defs2) (by simp only;omega) ⟨h,sj,lQ,qR⟩ (by simp[hwr i (by omega),ar])
      ·rw[if_neg q]at lP;have hmt:gW (top+far) 200=if 200<top+far then 200 else top+far:=rfl
       have w2:IntKind.i64.wrap (top+far)=top+far:=by rw[wrap64]<;>omega
       exact NX.go (f,gW (top+far) 200,defs2) (by simp only;omega) ⟨by simp only[hmt];split<;>omega,by simp only[hmt];split<;>omega,by simp only[hmt];split<;>omega,sj,lQ,lP⟩ (by simp[w2,ar])
    ·have:i=GS.length:=by omega
     subst this;rw[List.drop_length,dX]at qR;have YF:=(hW ai nr).La.ob;refine AW.ev cc ?_;simp[o1];refine⟨by rw[oN];omega,?_⟩
     rw[GH.iX (o1 ai)];refine λhz=>⟨by rw[oN];omega,Mi _ _ _ ?_⟩
     simp only[fw];refine⟨.gp (H.next+5) 0,by simp[rE,o1],GG ai,hz.drop (by rw[oN];omega),by simp[fz,LV.nb,oN],?_⟩
     unfold nj;rw[hK,<-qR];refine⟨H.next+5,ms,mn,mv,ma,rfl,by omega,?_,by rw[oN];omega,oL ai,hz⟩
     rw[hS];exact hW ai nr
structure M7(es:List (Value×LV))(l:List Event):Prop where
 key:∀(a:Value) (b:LV),(a,b)∈es->(KK.ag [.int .i64,.int .i64]).has a=true
 get:∀s i:Int,(bD (kk s i) es).getD (.d (.k (.bool false)))=.d (.k (.bool (l.any λe=>decide (e.src=s/\e.id=i))))
theorem M7.nil:M7 [] []:=⟨λ_ _ h=>absurd h List.not_mem_nil,λ_ _=>rfl⟩
theorem M7.put{es:List (Value×LV)}{l:List Event}(h:M7 es l)(e:Event):M7 (cr (kk e.src e.id) (.d (.k (.bool true))) es) (l++[e]):=by
 refine⟨IE _ _ _ _ h.key,λs i=>?_⟩
 rw[DW _ _ _ _ _ _ h.key];by_cases q:s=e.src/\i=e.id
 ·rw[if_pos q];have:(l++[e]).any (λe=>decide (e.src=s/\e.id=i))=true:=List.any_eq_true.2 ⟨e,by simp,by simp[q]⟩
  rw[this];rfl
 ·rw[if_neg q,h.get];have:decide (e.src=s/\e.id=i)=false:=by
   rw[decide_eq_false_iff_not];exact λz=>q ⟨z.1.symm,z.2.symm⟩
  rw[List.any_append,List.any_cons,List.any_nil,this,Bool.or_false,Bool.or_false]
def Dc(l:List Event)(i:Nat)(e:Event):Bool:=!(l.take i).any (λx=>decide (x.src=e.src/\x.id=e.id))&&(decide (i=0)||nT (l.getD (i-1) default) e)
def sA(l:List Event):Bool:=(List.range l.length).all λi=>Dc l i (l.getD i default)
open Classical in
noncomputable def dR (p:Prog) (l:List Event):Bool:=decide (formed p)&&decide (l.length<=60)&&sA l&&iR (l.map BY) p.az.length
open Classical in
theorem p9(p:Prog)(hs:∀s∈p.az++an p,cN s)(l:List Event):aC prog 68 [lv (ar p),sl (l.map aQ)] (.d (.k (.bool (dR p l)))):=by
 intro H;have cc:=Tp (p:=bf [2] [] []);refine aG.bG (Tp (p:=bf [2] [] [])) func68 rfl call68 (by rw[ntmps68];simp) rfl λhf hw=>?_
 have PM:=zY p hs;simp[ar]at PM;simp[ntmps68,results68,ar]at hf|-;refine EC.aJ PM ?_;simp;refine⟨λq hz=>⟨bI hz,?_⟩,λhfo h60=>?_⟩
 ·unfold dR;rcases q with q|q
  ·simp[q]
  ·have:¬l.length<=60:=by omega
   simp[this]
 have hch:=CZ l (by omega)
 simp at hch;refine EC.aJ hch ?_;simp;refine AW.aV cc (λs:Nat×List (Value×LV)=>⟨[(1,sl (l.map aQ)),(2,.ip ((ar p).map .d) 0),(5,.gm H.next),(6,sl ((l.map BY).map cK)),(20,sl (l.map aQ)),(21,aH l.length),(22,aH s.1)],[],H.add (.map s.2)⟩) (λs=>l.length-s.1)
  (λs=>s.1<=l.length/\M7 s.2 (l.take s.1)/\∀j,j<s.1->Dc l j (l.getD j default)=true) (0,[]) ⟨⟨Nat.zero_le _,by simpa using M7.nil,λj hj=>by simp only at hj;omega⟩,by simp[ar]⟩ ?_
 rintro⟨i,es⟩ ⟨hi,hm,hok⟩;simp only at hi hm hok;have ob:∀X,(H.add X).obj H.next=some X:=λX=>by rw[GH.ax,if_pos rfl]
 have fE:∀X Y,(H.add X).set H.next Y=H.add Y:=λX Y=>GH.cV
 simp;refine⟨λh=>?_,λh=>?_⟩
 ·obtain⟨e,hee⟩:∃e,l[i]=e:=⟨_,rfl⟩;have gx:l.take (i+1)=l.take i++[e]:=by rw[<-aR h,hee]
  have hge:l.getD i default=e:=by simp[List.getD,List.getElem?_eq_getElem h,hee]
  have hkey:=eq_true hm.key;have dL:=hm.get e.src e.id;have hput:=hm.put e;rw[<-gx]at hput;obtain⟨met,aA2⟩:∃met,(l.take i).any (λx=>decide (x.src=e.src/\x.id=e.id))=met:=⟨_,rfl⟩
  rw[aA2]at dL;have hkk:kk e.src e.id=.agg #[.int .i64 e.src,.int .i64 e.id]:=rfl;rw[hkk]at dL hput;have eM:=aB (n:=9223372036854775807) (show i<9223372036854775807 by omega)
  have zc:(KK.ag [.int .i64,.int .i64]).has (.agg #[.int .i64 e.src,.int .i64 e.id])=true:=rfl;simp[h,List.getElem?_eq_getElem h,hee,aQ,bE];refine AW.draw cc [(17,.n)] (.q 0<|.q 1<|.q 3<|.q 2<|.q 4<|.q 5<|.q 6<|.q 7<|.q 8<|.q 9<|.q 10<|.q 11<|.q 12<|.q 13<|.q 14<|.q 15<|.q 16<|.q 17<|.q 18<|.q 19<|.q 20<|.done) (by kernel_rfl) ?_
  have Sz:Dc l i e=(!met&&(decide (i=0)||nT (l.getD (i-1) default) e)):=by unfold Dc;rw[aA2]
  have hno:Dc l i e=false->dR p l=false:=λq=>by
   have:sA l=false:=by
    rw[Bool.eq_false_iff];intro z;simp only[sA,List.all_eq_true]at z;have:=z i (List.mem_range.2 h);rw[hge,q]at this;cases this
   simp[dR,this]
  have Ei:∀X,Drop H (H.add X) H:=λX=>aL (by rw[GH.aq];omega) (λm hm=>by rw[GH.ax,if_neg (by omega)]) hw.none
  have yD:Dc l i e=true->∀j,j<i+1->Dc l j (l.getD j default)=true:=λq j hj=>by
   by_cases e1:j=i
   ·rw[e1,hge];exact q
   ·exact hok j (by omega)
  rcases Nat.eq_zero_or_pos i with h0|h0
  ·subst h0;simp[ob,hkey,dL,zc];refine kN.aJ (v:=.d (.k (.bool false))) (λq=>by cases q) ?_
   simp;refine⟨λq hz=>⟨Ei _,hno (by rw[Sz,q];rfl)⟩,λq=>?_⟩
   simp[ob,zc,hkey,fE];exact NX.go (0+1,cr (.agg #[.int .i64 e.src,.int .i64 e.id]) (.d (.k (.bool true))) es) (by simp only;omega) ⟨h,hput,yD (by rw[Sz,q];rfl)⟩ (by simp[show IntKind.wrap .i64 1=1 from rfl,ar])
  ·obtain⟨u,hu⟩:∃u,l[i-1]'(by omega)=u:=⟨_,rfl⟩
   have hgu:l[i-1]?=some u:=by rw[List.getElem?_eq_getElem (by omega),hu]
   have w1:IntKind.wrap .i64 ((i:Int)-1)=(i:Int)-1:=by rw[wrap64]<;>omega
   have t1:((i:Int)-1).toNat=i-1:=by omega
   have hb:=IX u e;simp[aQ,bE]at hb;have hgd:l.getD (i-1) default=u:=by simp[List.getD,hgu]
   rw[hgd]at Sz;simp[ob,hkey,dL,zc,w1,t1,hgu,aQ,bE];refine⟨λa b=>⟨⟨a,b⟩,by omega,by omega⟩,kN.aJ (λ_=>hb) ?_⟩
   simp;have Mz:decide (i=0)=false:=by rw[decide_eq_false_iff_not];omega
   refine⟨λq=>⟨q,λ_=>⟨q,h0⟩⟩,λq hz=>⟨Ei _,hno ?_⟩,λq1 q2=>?_⟩
   ·rw[Sz];rcases q with q|⟨_,q⟩
    ·rw[q];rfl
    ·rw[q,Mz];simp
   simp[ob,zc,hkey,fE];exact NX.go (i+1,cr (.agg #[.int .i64 e.src,.int .i64 e.id]) (.d (.k (.bool true))) es) (by simp only;omega) ⟨h,hput,yD (by rw[Sz,q1,q2 h0];simp)⟩ (by simp[eM,ar])
 ·have e2:i=l.length:=by omega
  subst e2;have hhc:=My (l.map BY) p.az.length;simp at hhc;simp[ar];refine EC.aJ hhc ?_;simp;have NR:sA l=true:=by
   simp only[sA,List.all_eq_true];exact λj hj=>hok j (List.mem_range.1 hj)
  have h6:decide (l.length<=60)=true:=by simp;omega
  refine λhz=>⟨aL (by rw[GH.aq];omega) (λm hm=>by rw[GH.ax,if_neg (by omega)]) hw.none,?_⟩
  simp only[dR,hfo,NR,h6,decide_true,Bool.true_and];cases iR (l.map BY) (p.az.length:Int)<;>rfl
end Go.Aft
end
section
set_option maxRecDepth 20000
namespace Go.Aft
def nmX:cq:=⟨#[120]⟩
def nmY:cq:=⟨#[121]⟩
def RV:cq:=⟨#[97]⟩
def nmB:cq:=⟨#[98]⟩
def nmC:cq:=⟨#[99]⟩
def AK:bz:=.mk 9 cH 5 2 [] [.mk 2 RV 0 0 [] []]
def jV:Prog:=⟨[nmX,nmY],[⟨RV,.mk 15 cH 0 0 [] [.mk 1 nmX 0 0 [] []]⟩,⟨nmB,.mk 4 cH 0 0 [] [AK,.mk 3 nmB 3 0 [] []]⟩,⟨nmC,.mk 14 cH 2 0 [] [.mk 2 RV 0 0 [] [],.mk 1 nmY 0 0 [] []]⟩]⟩
def GX:List Event:=[⟨0,1,⟨10,1,5⟩⟩,⟨1,1,⟨11,1,2⟩⟩,⟨0,2,⟨14,1,7⟩⟩]
def S5(i k:Nat):Bool:=decide (i=1/\(k=0\/ k=1)\/ i=2/\k=0)
theorem WN:jV.ai.length=3:=rfl
theorem WM:∀j:Fin 3,∀e∈bc (jV.ai.getD j.1 default).exp,(e.op=2\/ e.op=3)->S5 j.1 (idx (an jV) e.name).toNat=true:=by decide+kernel
theorem WL:∀j:Fin 3,∀k:Fin 3,S5 j.1 k.1=true->∃e∈bc (jV.ai.getD j.1 default).exp,(e.op=2\/ e.op=3)/\idx (an jV) e.name=(k.1:Int):=by decide+kernel
theorem N6{i:Nat}(h:i<jV.ai.length):jV.ai.getD i default=jV.ai[i]:=by rw[List.getD_eq_getElem?_getD,List.getElem?_eq_getElem h];rfl
theorem BV{i k:Nat}:gb jV i k↔S5 i k=true:=by
 have hl:=WN;unfold gb;constructor
 ·rintro⟨h,e,he,ho,hx⟩;rw[<-N6 h]at he;have:=WM ⟨i,by omega⟩ e he ho
  rw[hx]at this;simpa using this
 ·intro h;have hik:i<3/\k<3:=by
   have:=of_decide_eq_true h;omega
  have hi:i<jV.ai.length:=by omega
  refine⟨hi,?_⟩;rw[<-N6 hi];exact WL ⟨i,hik.1⟩ ⟨k,hik.2⟩ h
theorem JX{i k:Nat}:aZ jV i k=S5 i k:=by
 rw[Bool.eq_iff_iff,iZ];constructor
 ·intro h
  induction h with
  |one h=>exact BV.1 h
  |cons h _ ih=>
   have h1:=of_decide_eq_true (BV.1 h);have h2:=of_decide_eq_true ih;exact decide_eq_true (by omega)
 ·intro h;exact .one (BV.2 h)
theorem af4:∀e∈bc (jV.ai.getD 1 default).exp,bJ e=false:=by decide+kernel
theorem WO:∀(i:Fin 5),gV ((jV.az++an jV).getD i.1 cH)=true/\∀x∈(jV.az++an jV).take i.1,x≠((jV.az++an jV).getD i.1 cH):=by decide+kernel
theorem mX:formed jV:=by
 have h:o7 (jV.az++an jV):=λi hi=>by
  have hg:(jV.az++an jV).getD i cH=(jV.az++an jV)[i]:=by rw[List.getD_eq_getElem?_getD,List.getElem?_eq_getElem hi];rfl
  have key:=WO ⟨i,hi⟩;simp only[hg]at key;exact⟨key.1,λhm=>key.2 _ hm rfl⟩
 refine⟨⟨51,?_⟩,λi hi hp e he=>?_⟩
 ·rw[fF,if_pos ⟨by decide,by decide,by decide,h⟩]
  decide+kernel
 ·have h1:=iZ.2 hp;rw[JX]at h1;have hi1:i=1:=by
   have:=of_decide_eq_true h1;omega
  subst hi1;exact af4 e he
theorem BW:gK jV.ai.length (aZ jV)=[[0],[1],[2]]:=by
 have:aZ jV=S5:=by funext i k;exact JX
 rw[this]
 decide+kernel
def exK:Option (List cg):=dX jV (fH jV GX) [[0],[1],[2]] (List.replicate 3 [])
theorem PY:dw jV GX=exK:=by rw[dw,BW];rfl
def S4:Option (List cg)->Bool
 |some [a,b,c]=>decide (a=[⟨⟨10,1,5⟩,1⟩,⟨⟨14,1,7⟩,1⟩]/\4<b.length/\b[1]?=some ⟨⟨13,1,5⟩,1⟩/\c=[⟨⟨14,1,7⟩,1⟩])
 |_=>false
theorem Tc:S4 exK=true:=by decide+kernel
theorem WQ:∃b,dw jV GX=some [[⟨⟨10,1,5⟩,1⟩,⟨⟨14,1,7⟩,1⟩],b,[⟨⟨14,1,7⟩,1⟩]]/\4<b.length/\b[1]?=some ⟨⟨13,1,5⟩,1⟩:=by
 have h:=Tc;rw[PY];unfold S4 at h
 split at h
 ·rename_i a b c e;obtain⟨q1,q2,q3,q4⟩:=of_decide_eq_true h;subst q1;subst q4;exact⟨b,e,q2,q3⟩
 ·cases h
theorem S6:lN GX 1=[⟨⟨11,1,2⟩,1⟩]:=by decide+kernel
def WS:cg:=[⟨⟨10,1,5⟩,1⟩,⟨⟨14,1,7⟩,1⟩]
theorem S7(W:bZ)(h:W.ai.getD 0 []=WS):cZ jV W 200 AK=some [⟨⟨10,1,5⟩,1⟩,⟨⟨14,1,12⟩,1⟩]:=by
 have e:idx (an jV) RV=0:=by decide+kernel
 have h1:gu jV W 2 RV 0 0 [] []=WS:=by
  have:gu jV W 2 RV 0 0 [] []=W.ai.getD (idx (an jV) RV).toNat []:=rfl;rw[this,e];exact h
 have h2:b6 WS 200=WS:=by decide+kernel
 have h3:gZ WS=true:=by decide+kernel
 have h4:gu jV W 9 cH 5 2 [] [WS]=gf 2 0 (pM 5) WS:=rfl;have h5:b6 (gf 2 0 (pM 5) WS) 200=[⟨⟨10,1,5⟩,1⟩,⟨⟨14,1,12⟩,1⟩]:=by decide+kernel
 have h6:gZ [⟨⟨10,1,5⟩,1⟩,⟨⟨14,1,12⟩,1⟩]=true:=by decide+kernel
 simp only[AK,cZ,eC,h1,h2,h3,h4,h5,h6,if_true]
end Go.Aft
end
section
set_option maxRecDepth 20000
namespace Go.Aft
open Go.Proofs.Tryz
abbrev lvS(s:cq):LV:=.d (.k (.string s))
theorem R6(s:cq):aC prog 116 [lvS s] (lv (aS (.mk 2 s 0 0 [] []))):=by
 refine aC.body aP func116 rfl call116 (by rw[ntmps116];simp) rfl λhf H=>?_
 simp[ntmps116,results116,aj]
theorem R5(s:cq)(n:Int):aC prog 117 [lvS s,aH n] (lv (aS (.mk 3 s n 0 [] []))):=by
 refine aC.body aP func117 rfl call117 (by rw[ntmps117];simp) rfl λhf H=>?_
 simp[ntmps117,results117,aj]
theorem ND(s:cq):aC prog 118 [lvS s] (lv (aS (.mk 1 s 0 0 [] []))):=by
 refine aC.body aP func118 rfl call118 (by rw[ntmps118];simp) rfl λhf H=>?_
 simp[ntmps118,results118,aj]
theorem R4(n:Int)(e:bz):aC prog 115 [aH n,lv (aS e)] (lv (aS (.mk 9 cH n 2 [] [e]))):=by
 refine aC.body (au (p:=bf [3] [] [])) func115 rfl call115 (by rw[ntmps115];simp) rfl λhf H=>?_
 have hr:List.range' 0 1=[0]:=rfl;simp[ntmps115,results115,aj,hr,cH]
theorem V6:aC prog 61 [] (lv (ar jV)):=by
 have key:aC prog 61 [] (.agg [LV.d (DV.sl [[DV.k (Value.string {data:=#[120]})],[DV.k (Value.string {data:=#[121]})]]),LV.d (DV.sl [[DV.k (Value.string {data:=#[97]}),DV.k (Value.int IntKind.i64 15),DV.k (Value.string {data:=#[]}),DV.k (Value.int IntKind.i64 0),DV.k (Value.int IntKind.i64 0),DV.k (Value.slice none 0 0),DV.sl [[DV.k (Value.int IntKind.i64 1),DV.k (Value.string {data:=#[120]}),DV.k (Value.int IntKind.i64 0),DV.k (Value.int IntKind.i64 0),DV.sl [],DV.sl []]]],[DV.k (Value.string {data:=#[98]}),DV.k (Value.int IntKind.i64 4),DV.k (Value.string {data:=#[]}),DV.k (Value.int IntKind.i64 0),DV.k (Value.int IntKind.i64 0),DV.k (Value.slice none 0 0),DV.sl [[DV.k (Value.int IntKind.i64 9),DV.k (Value.string {data:=#[]}),DV.k (Value.int IntKind.i64 5),DV.k (Value.int IntKind.i64 2),DV.sl [],DV.sl [[DV.k (Value.int IntKind.i64 2),DV.k (Value.string {data:=#[97]}),DV.k (Value.int IntKind.i64 0),DV.k (Value.int IntKind.i64 0),DV.sl [],DV.sl []]]],[DV.k (Value.int IntKind.i64 3),DV.k (Value.string {data:=#[98]}),DV.k (Value.int IntKind.i64 3),DV.k (Value.int IntKind.i64 0),DV.sl [],DV.sl []]]],[DV.k (Value.string {data:=#[99]}),DV.k (Value.int IntKind.i64 14),DV.k (Value.string {data:=#[]}),DV.k (Value.int IntKind.i64 2),DV.k (Value.int IntKind.i64 0),DV.k (Value.slice none 0 0),DV.sl [[DV.k (Value.int IntKind.i64 2),DV.k (Value.string {data:=#[97]}),DV.k (Value.int IntKind.i64 0),DV.k (Value.int IntKind.i64 0),DV.sl [],DV.sl []],[DV.k (Value.int IntKind.i64 1),DV.k (Value.string {data:=#[121]}),DV.k (Value.int IntKind.i64 0),DV.k (Value.int IntKind.i64 0),DV.sl [],DV.sl []]]]])]):=by
  have cc:=aP;refine aC.body aP func61 rfl call61 (by rw[ntmps61];simp) rfl λhf H=>?_
  have h1:=R6 RV;have h2:=R4 5 (.mk 2 RV 0 0 [] []);have h3:=R5 nmB 3;have h4:=ND nmY;have h5:=ND nmX;have Bw:List.range' 0 1=[0]:=rfl;have NK:List.range' 0 2=[0,1]:=rfl;have hr3:List.range' 0 3=[0,1,2]:=rfl;simp[RV,nmB,nmX,nmY,aj,cH]at h1 h2 h3 h4 h5;simp[ntmps61,results61,Bw,NK,hr3];refine EC.aJ h1 ?_;simp;refine EC.aJ h2 ?_;simp;refine EC.aJ h3 ?_;simp[NK];refine EC.aJ h1 ?_;simp;refine EC.aJ h4 ?_;simp[NK];refine AW.draw cc [(1,.n)] (.q 0<|.q 1<|.q 2<|.q 3<|.q 4<|.q 5<|.q 6<|.q 7<|.q 8<|.q 9<|.q 10<|.f<|.one 11<|.done) (by kernel_rfl) ?_
  simp[Bw,NK,hr3];refine FC.aJ h5 ?_;simp[Bw,NK,hr3]
 have:=key.nz;simp[LV.nz,VY,DV.nz,QD,VZ]at this;simpa[ar,jV,AK,fm,aS,bU,RV,nmB,nmC,nmX,nmY,cH,rS,pU,Ic]using this
theorem w6(s i a k v:Int):aC prog 119 [aH s,aH i,aH a,aH k,aH v] (lv (aQ ⟨s,i,⟨a,k,v⟩⟩)):=by
 refine aC.body aP func119 rfl call119 (by rw[ntmps119];simp) rfl λhf H=>?_
 simp[ntmps119,results119,aQ,bE]
theorem V7:aC prog 62 [] (sl (GX.map aQ)):=by
 refine aC.body aP func62 rfl call62 (by rw[ntmps62];simp) rfl λhf H=>?_
 have h1:=w6 0 1 10 1 5;have h2:=w6 1 1 11 1 2;have h3:=w6 0 2 14 1 7;have hr:List.range' 0 3=[0,1,2]:=rfl;simp[aQ,bE]at h1 h2 h3;simp[ntmps62,results62,hr];refine EC.aJ h1 ?_;simp;refine EC.aJ h2 ?_;simp;refine EC.aJ h3 ?_;simp[GX,aQ,bE,hr]
theorem rW(a k v:Int):aC prog 63 [aH a,aH k,aH v] (lv (ak ⟨⟨a,k,v⟩,1⟩)):=by
 refine aC.body aP func63 rfl call63 (by rw[ntmps63];simp) rfl λhf H=>?_
 simp[ntmps63,results63,ak]
theorem nh(a b:List Item):aC prog 23 [sl (a.map ak),sl (b.map ak)] (.d (.k (.bool (decide (a=b))))):=by
 have cc:=jG (p:=bf [] [] []);refine aC.body (jG (p:=bf [] [] [])) func23 rfl call23 (by rw[ntmps23];simp) rfl λhf H=>?_
 simp[ntmps23,results23]at hf|-;refine⟨λh=>?_,λh=>?_⟩
 ·have:a≠b:=λe=>h (by rw[e])
  simp[this]
 ·have hl:a.length=b.length:=by omega
  refine AW.aV cc (λi:Nat=>⟨[(0,sl (a.map ak)),(1,sl (b.map ak)),(12,aH a.length),(13,aH i)],[],H⟩) (λi=>a.length-i) (λi=>i<=a.length/\a.take i=b.take i) 0 ⟨⟨Nat.zero_le _,by simp⟩,by simp⟩ ?_
  rintro i ⟨hi,hk⟩;simp;refine⟨λh=>?_,λh=>?_⟩
  ·have h2:i<b.length:=by omega
   obtain⟨x,hx⟩:∃x,a[i]=x:=⟨_,rfl⟩;obtain⟨y,hy⟩:∃y,b[i]=y:=⟨_,rfl⟩;have eM:=aB h hf.1.1;have hta:a.take (i+1)=a.take i++[x]:=by rw[<-aR h,hx]
   have htb:b.take (i+1)=b.take i++[y]:=by rw[<-aR h2,hy]
   simp[h];refine AW.draw cc [] (.q 0<|.q 1<|.q 2<|.q 4<|.q 5<|.q 6<|.q 3<|.q 7<|.q 8<|.done) (by kernel_rfl) ?_
   simp[h,h2,List.getElem?_eq_getElem h,List.getElem?_eq_getElem h2,hx,hy,ak];refine⟨λq e=>?_,λq1 q2 q3 q4=>?_⟩
   ·have:x=y:=by rw[<-hx,<-hy];simp only[e]
    subst this;simp at q
   ·have exy:x=y:=by
     obtain⟨⟨x1,x2,x3⟩,x4⟩:=x;obtain⟨⟨y1,y2,y3⟩,y4⟩:=y;simp only at q1 q2 q3 q4;rw[q1,q2,q3,q4]
    exact NX.go (i+1) (Nat.sub_lt_sub_left h (Nat.lt_succ_self i)) ⟨h,by rw[hta,htb,hk,exy]⟩ (by simp[eM])
  ·have:i=a.length:=by omega
   subst this;rw[List.take_length,hl,List.take_length]at hk;simp[hk]
theorem ER(x:Item)(l:List Item)(hl:l.length<=1000):aC prog 78 [sl ((x::l).map ak)] (sl ((x::l).map ak)):=by
 intro H;have cc:=au (p:=bf [] [] [5]);refine aG.dG (au (p:=bf [] [] [5])) func78 rfl call78 (by rw[ntmps78];simp) rfl λhf hw=>?_
 have hlen:∀r∈l.map ak,r.length=4:=λr hr=>by obtain⟨_,_,rfl⟩:=List.mem_map.1 hr;rfl
 have Wo:(l.map ak).length=l.length:=by simp
 rw[List.map_cons];have hx:(ak x).length=4:=rfl;generalize ak x=r0 at hx|-;generalize l.map ak=rows at hlen Wo|-;simp[ntmps78,results78];refine AW.seq cc ?_;simp;refine AW.seq cc ?_;simp;refine AW.seq cc ?_;simp;refine eO.ev ?_;have h3:rows.length+1<=34359738368:=by omega
 have ob:∀o,(H.add o).obj H.next=some o:=λo=>by simp[GH.ax]
 have hnb:∀m,cD m (bM (r0::rows)):=λm=>oZ _ _
 have hfl:bM (r0::rows)≠[]:=λq=>by have:=congrArg List.length q;rw[kZ (sz:=4) (by simpa[hx]using hlen)]at this;simp at this
 generalize hF:bM (r0::rows)=F at hnb hfl;have h4:rows.length<=34359738367:=by omega
 simp[hx,ob,hF,hnb,h4,GH.cV];refine⟨hlen,?_⟩;refine AW.cM (n:=H.next) (g:=1) (sz:=4) (e:=86) (ex:=false) (r0::rows) (ob _) hF.symm (by simpa[hx]using hlen) ?_
 refine AW.ev cc ?_;simp;exact λhz=>aL (by simp[GH.aq]) (λm hm=>kH hw (Nat.le_refl _) (λk hk=>by rw[GH.ax,if_neg (by omega)]) hm) hw.none
end Go.Aft
end
