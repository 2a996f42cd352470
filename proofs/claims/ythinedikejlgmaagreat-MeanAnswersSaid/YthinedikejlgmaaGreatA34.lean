import Derived.Test.YthinedikejlgmaaGreatA33
import Derived.Test.YthinedikejlgmaaGreatA32
import Derived.Test.YthinedikejlgmaaGreatA22
import Derived.Test.YthinedikejlgmaaGreatA21
import Derived.Test.YthinedikejlgmaaGreatA18
import Derived.Test.YthinedikejlgmaaGreatA25
set_option linter.all false
section
set_option maxRecDepth 20000
namespace Go.Aft
open Go.Proofs.Tryz
theorem CR(n:Nat):xV (jx n [LV.d (.k (.slice none 0 0))])=(List.replicate n ([]:cr)).map bY:=by
 rw[yU,jx,List.map_flatten,List.map_replicate,List.map_replicate]
 show(List.replicate n [sl []]).flatten=List.replicate n (sl [])
 induction n with
 |zero=>rfl
 |succ n ih=>rw[List.replicate_succ,List.flatten_cons,ih,List.replicate_succ];rfl
theorem Nl{L:List ca}(h:oI L){i j:Nat}(hi:i<L.length)(hj:j<i):L[j]'(by omega)≠L[i]:=λe=>(h i hi).2 (by
 rw[<-e,List.mem_take_iff_getElem];exact⟨j,by omega,rfl⟩)
theorem O9{A B:List ca}(h:oI (A++B)){i j:Nat}(hi:i<A.length)(hj:j<i):A[j]'(by omega)≠A[i]:=λe=>by
 have:=Nl h (i:=i) (j:=j) (by simp;omega) hj
 rw[List.getElem_append_left (by omega),List.getElem_append_left hi]at this
 exact this e
theorem Pa{A B:List ca}(h:oI (A++B)){i j:Nat}(hi:i<B.length)(hj:j<i):B[j]'(by omega)≠B[i]:=λe=>by
 have:=Nl h (i:=A.length+i) (j:=A.length+j) (by simp;omega) (by omega)
 rw[List.getElem_append_right (by omega),List.getElem_append_right (by omega)]at this
 simp only[Nat.add_sub_cancel_left]at this;exact this e
theorem pR{n:Nat}{R:Nat->Nat->Bool}:∀(f:Nat) (D:List Nat),(eZ n R f D).length<=f
 |0,_=>Nat.le_refl _
 |f+1,D=>by
  rw[eZ]
  split
  ·split
   ·simp
   ·rw[List.length_cons];exact Nat.succ_le_succ (pR f _)
  ·simp
def qa(p:Prog)(l:List Event)(H:GH)(ce:CE)(H':GH):Prop:=match fA p l with
 |none=>ce=.ret (.d (.k (.pointer none)))/\H'=H
 |some aj=>∃n ms mn mv ma,ce=.ret (.gp n 0)/\H.next<=mv/\FF H' n ms mn mv ma p ⟨mg p l,aj⟩/\H.next<=H'.next/\(∀m,m<H.next->H'.obj m=H.obj m)/\gD H'
set_option maxHeartbeats 2000000 in
theorem Au(p:Prog)(lG:∀s∈p.az++an p,cN s)(hp:formed p)(hs1:0<p.az.length)(LF:p.az.length<=12)(g:Good p)(hdf:oI (p.az++an p))(he:∀(d:Nat) (h:d<p.aj.length),kP p p.aj[d].exp)
  (l:List Event) (hl:l.length<=60) (hi:∀e∈l,mU ⟨e.aa,1⟩) (H:GH):aF prog 73 [lv (ax p),sl (l.map bg)] H (qa p l H):=by
 have cc:=ar (p:=aY [2] [4,25] [22]);refine aF.dV (ar (p:=aY [2] [4,25] [22])) func73 rfl call73 (by rw[ntmps73];simp) rfl λhf hw=>?_
 simp[ntmps73,results73,ax]at hf|-;refine AW.seq cc ?_;simp;refine AW.seq cc ?_;simp;rw[GH.JH hw.none];obtain⟨n,hn⟩:∃n,p.aj.length=n:=⟨_,rfl⟩;have Tr:n<=6:=hn▸g.n6;refine⟨rfl,by simp,?_⟩
 refine AW.join (c:=wR (aY [2] [4,25] [22])) (λa:Nat×Nat×Nat×Nat×GH=>⟨[(1,sl (l.map bg)),(2,.ip ((ax p).map .d) 0),(4,.gp H.next 0)],[],a.2.2.2.2⟩)
  (λa=>H.next+6=a.2.2.2.2.next/\(a.1≠a.2.1/\a.1≠a.2.2.1/\a.1≠a.2.2.2.1/\a.2.1≠a.2.2.1/\a.2.1≠a.2.2.2.1/\a.2.2.1≠a.2.2.2.1)/\(H.next<a.1/\a.1<H.next+5)/\(H.next<a.2.1/\a.2.1<H.next+5)/\(H.next<a.2.2.1/\a.2.2.1<H.next+5)/\(H.next<a.2.2.2.1/\a.2.2.2.1<H.next+5)/\
   a.2.2.2.2.obj H.next=some (.box [.gp (H.next+5) 0])/\a.2.2.2.2.obj (H.next+5)=some (.box [sl (p.az.map rS),sl (p.aj.map ez),.gm a.1,.gm a.2.1,.vs a.2.2.1 0 1 0 n,.gm a.2.2.2.1])/\a.2.2.2.2.obj a.1=some (.map [])/\a.2.2.2.2.obj a.2.1=some (.map [])/\
   a.2.2.2.2.obj a.2.2.1=some (.vec 30 0 1 (jx n [.d (.k (.slice none 0 0))]) true)/\a.2.2.2.2.obj a.2.2.2.1=some (.map JL)/\∀m,m<H.next->a.2.2.2.2.obj m=H.obj m) (AW.ev cc ?_) ?_
 ·simp[hn];have hact:=λG=>Oo G
  refine AW.draw cc [(0,.n),(4,.n)] (.q 0<|.q 3<|.q 4<|.f (.cons 1 (.f (.cons 2 (.f (.cons 5 (.f (.cons 6 (.f<|.one 7<|.q 8<|.f<|.one 9<|.f<|.one 10<|.done) (.cons 7 (.f<|.one 6<|.q 8<|.f<|.one 9<|.f<|.one 10<|.done) (.nil)))) (.cons 7 (.q 5<|.f<|.one 6<|.q 8<|.f<|.one 9<|.f<|.one 10<|.done) (.nil)))) (.cons 5 (.f (.cons 2 (.f (.cons 6 (.f<|.one 7<|.q 8<|.f<|.one 9<|.f<|.one 10<|.done) (.cons 7 (.f<|.one 6<|.q 8<|.f<|.one 9<|.f<|.one 10<|.done) (.nil)))) (.cons 6 (.f (.cons 2 (.f<|.one 7<|.q 8<|.f<|.one 9<|.f<|.one 10<|.done) (.cons 7 (.f<|.one 2<|.q 8<|.f<|.one 9<|.f<|.one 10<|.done) (.nil)))) (.cons 7 (.f (.cons 2 (.f<|.one 6<|.q 8<|.f<|.one 9<|.f<|.one 10<|.done) (.cons 6 (.f<|.one 2<|.q 8<|.f<|.one 9<|.f<|.one 10<|.done) (.nil)))) (.nil))))) (.cons 7 (.q 5<|.f (.cons 2 (.f<|.one 6<|.q 8<|.f<|.one 9<|.f<|.one 10<|.done) (.cons 6 (.f<|.one 2<|.q 8<|.f<|.one 9<|.f<|.one 10<|.done) (.nil)))) (.nil))))) (.cons 2 (.f (.cons 1 (.f (.cons 5 (.f (.cons 6 (.f<|.one 7<|.q 8<|.f<|.one 9<|.f<|.one 10<|.done) (.cons 7 (.f<|.one 6<|.q 8<|.f<|.one 9<|.f<|.one 10<|.done) (.nil)))) (.cons 7 (.q 5<|.f<|.one 6<|.q 8<|.f<|.one 9<|.f<|.one 10<|.done) (.nil)))) (.cons 5 (.f (.cons 1 (.f (.cons 6 (.f<|.one 7<|.q 8<|.f<|.one 9<|.f<|.one 10<|.done) (.cons 7 (.f<|.one 6<|.q 8<|.f<|.one 9<|.f<|.one 10<|.done) (.nil)))) (.cons 6 (.f (.cons 1 (.f<|.one 7<|.q 8<|.f<|.one 9<|.f<|.one 10<|.done) (.cons 7 (.f<|.one 1<|.q 8<|.f<|.one 9<|.f<|.one 10<|.done) (.nil)))) (.cons 7 (.f (.cons 1 (.f<|.one 6<|.q 8<|.f<|.one 9<|.f<|.one 10<|.done) (.cons 6 (.f<|.one 1<|.q 8<|.f<|.one 9<|.f<|.one 10<|.done) (.nil)))) (.nil))))) (.cons 7 (.q 5<|.f (.cons 1 (.f<|.one 6<|.q 8<|.f<|.one 9<|.f<|.one 10<|.done) (.cons 6 (.f<|.one 1<|.q 8<|.f<|.one 9<|.f<|.one 10<|.done) (.nil)))) (.nil))))) (.cons 5 (.f (.cons 1 (.f (.cons 2 (.f (.cons 6 (.f<|.one 7<|.q 8<|.f<|.one 9<|.f<|.one 10<|.done) (.cons 7 (.f<|.one 6<|.q 8<|.f<|.one 9<|.f<|.one 10<|.done) (.nil)))) (.cons 6 (.f (.cons 2 (.f<|.one 7<|.q 8<|.f<|.one 9<|.f<|.one 10<|.done) (.cons 7 (.f<|.one 2<|.q 8<|.f<|.one 9<|.f<|.one 10<|.done) (.nil)))) (.cons 7 (.f (.cons 2 (.f<|.one 6<|.q 8<|.f<|.one 9<|.f<|.one 10<|.done) (.cons 6 (.f<|.one 2<|.q 8<|.f<|.one 9<|.f<|.one 10<|.done) (.nil)))) (.nil))))) (.cons 2 (.f (.cons 1 (.f (.cons 6 (.f<|.one 7<|.q 8<|.f<|.one 9<|.f<|.one 10<|.done) (.cons 7 (.f<|.one 6<|.q 8<|.f<|.one 9<|.f<|.one 10<|.done) (.nil)))) (.cons 6 (.f (.cons 1 (.f<|.one 7<|.q 8<|.f<|.one 9<|.f<|.one 10<|.done) (.cons 7 (.f<|.one 1<|.q 8<|.f<|.one 9<|.f<|.one 10<|.done) (.nil)))) (.cons 7 (.f (.cons 1 (.f<|.one 6<|.q 8<|.f<|.one 9<|.f<|.one 10<|.done) (.cons 6 (.f<|.one 1<|.q 8<|.f<|.one 9<|.f<|.one 10<|.done) (.nil)))) (.nil))))) (.cons 6 (.f (.cons 1 (.f (.cons 2 (.f<|.one 7<|.q 8<|.f<|.one 9<|.f<|.one 10<|.done) (.cons 7 (.f<|.one 2<|.q 8<|.f<|.one 9<|.f<|.one 10<|.done) (.nil)))) (.cons 2 (.f (.cons 1 (.f<|.one 7<|.q 8<|.f<|.one 9<|.f<|.one 10<|.done) (.cons 7 (.f<|.one 1<|.q 8<|.f<|.one 9<|.f<|.one 10<|.done) (.nil)))) (.cons 7 (.f (.cons 1 (.f<|.one 2<|.q 8<|.f<|.one 9<|.f<|.one 10<|.done) (.cons 2 (.f<|.one 1<|.q 8<|.f<|.one 9<|.f<|.one 10<|.done) (.nil)))) (.nil))))) (.cons 7 (.f (.cons 1 (.f (.cons 2 (.f<|.one 6<|.q 8<|.f<|.one 9<|.f<|.one 10<|.done) (.cons 6 (.f<|.one 2<|.q 8<|.f<|.one 9<|.f<|.one 10<|.done) (.nil)))) (.cons 2 (.f (.cons 1 (.f<|.one 6<|.q 8<|.f<|.one 9<|.f<|.one 10<|.done) (.cons 6 (.f<|.one 1<|.q 8<|.f<|.one 9<|.f<|.one 10<|.done) (.nil)))) (.cons 6 (.f (.cons 1 (.f<|.one 2<|.q 8<|.f<|.one 9<|.f<|.one 10<|.done) (.cons 2 (.f<|.one 1<|.q 8<|.f<|.one 9<|.f<|.one 10<|.done) (.nil)))) (.nil))))) (.nil)))))) (.cons 7 (.q 5<|.f (.cons 1 (.f (.cons 2 (.f<|.one 6<|.q 8<|.f<|.one 9<|.f<|.one 10<|.done) (.cons 6 (.f<|.one 2<|.q 8<|.f<|.one 9<|.f<|.one 10<|.done) (.nil)))) (.cons 2 (.f (.cons 1 (.f<|.one 6<|.q 8<|.f<|.one 9<|.f<|.one 10<|.done) (.cons 6 (.f<|.one 1<|.q 8<|.f<|.one 9<|.f<|.one 10<|.done) (.nil)))) (.cons 6 (.f (.cons 1 (.f<|.one 2<|.q 8<|.f<|.one 9<|.f<|.one 10<|.done) (.cons 2 (.f<|.one 1<|.q 8<|.f<|.one 9<|.f<|.one 10<|.done) (.nil)))) (.nil))))) (.nil)))))) (by kernel_rfl) ?_
  simp[ax,hn]
  repeat' first
   |refine ya.of (hact _) (λv H2 hR _=>?_) (λx H2 env hR _=>by cases hR.1)<;>(obtain⟨q,hE⟩:=hR;cases q;rw[hE];clear hE;simp[ax,hn])
   |(refine⟨by omega,?_⟩)
   |apply And.intro
  ·exact JN.go (H.next+1,H.next+2,H.next+3,H.next+4,_) (by and_intros<;>first|(simp;done)|omega|(simp;omega)|(intro m hm;show ew _ _ _ _=_;rw[aW _ _ (by omega)];exact GH.bp hm)) ⟨by simp[ax],by simp,rfl,rfl,rfl⟩
  ·exact JN.go (H.next+1,H.next+2,H.next+4,H.next+3,_) (by and_intros<;>first|(simp;done)|omega|(simp;omega)|(intro m hm;show ew _ _ _ _=_;rw[aW _ _ (by omega)];exact GH.bp hm)) ⟨by simp[ax],by simp,rfl,rfl,rfl⟩
  ·exact JN.go (H.next+1,H.next+2,H.next+4,H.next+3,_) (by and_intros<;>first|(simp;done)|omega|(simp;omega)|(intro m hm;show ew _ _ _ _=_;rw[aW _ _ (by omega)];exact GH.bp hm)) ⟨by simp[ax],by simp,rfl,rfl,rfl⟩
  ·exact JN.go (H.next+1,H.next+2,H.next+3,H.next+4,_) (by and_intros<;>first|(simp;done)|omega|(simp;omega)|(intro m hm;show ew _ _ _ _=_;rw[aW _ _ (by omega)];exact GH.bp hm)) ⟨by simp[ax],by simp,rfl,rfl,rfl⟩
  ·exact JN.go (H.next+1,H.next+2,H.next+4,H.next+3,_) (by and_intros<;>first|(simp;done)|omega|(simp;omega)|(intro m hm;show ew _ _ _ _=_;rw[aW _ _ (by omega)];exact GH.bp hm)) ⟨by simp[ax],by simp,rfl,rfl,rfl⟩
  ·exact JN.go (H.next+1,H.next+3,H.next+2,H.next+4,_) (by and_intros<;>first|(simp;done)|omega|(simp;omega)|(intro m hm;show ew _ _ _ _=_;rw[aW _ _ (by omega)];exact GH.bp hm)) ⟨by simp[ax],by simp,rfl,rfl,rfl⟩
  ·exact JN.go (H.next+1,H.next+4,H.next+2,H.next+3,_) (by and_intros<;>first|(simp;done)|omega|(simp;omega)|(intro m hm;show ew _ _ _ _=_;rw[aW _ _ (by omega)];exact GH.bp hm)) ⟨by simp[ax],by simp,rfl,rfl,rfl⟩
  ·exact JN.go (H.next+1,H.next+3,H.next+4,H.next+2,_) (by and_intros<;>first|(simp;done)|omega|(simp;omega)|(intro m hm;show ew _ _ _ _=_;rw[aW _ _ (by omega)];exact GH.bp hm)) ⟨by simp[ax],by simp,rfl,rfl,rfl⟩
  ·exact JN.go (H.next+1,H.next+4,H.next+3,H.next+2,_) (by and_intros<;>first|(simp;done)|omega|(simp;omega)|(intro m hm;show ew _ _ _ _=_;rw[aW _ _ (by omega)];exact GH.bp hm)) ⟨by simp[ax],by simp,rfl,rfl,rfl⟩
  ·exact JN.go (H.next+1,H.next+3,H.next+4,H.next+2,_) (by and_intros<;>first|(simp;done)|omega|(simp;omega)|(intro m hm;show ew _ _ _ _=_;rw[aW _ _ (by omega)];exact GH.bp hm)) ⟨by simp[ax],by simp,rfl,rfl,rfl⟩
  ·exact JN.go (H.next+1,H.next+4,H.next+3,H.next+2,_) (by and_intros<;>first|(simp;done)|omega|(simp;omega)|(intro m hm;show ew _ _ _ _=_;rw[aW _ _ (by omega)];exact GH.bp hm)) ⟨by simp[ax],by simp,rfl,rfl,rfl⟩
  ·exact JN.go (H.next+2,H.next+1,H.next+3,H.next+4,_) (by and_intros<;>first|(simp;done)|omega|(simp;omega)|(intro m hm;show ew _ _ _ _=_;rw[aW _ _ (by omega)];exact GH.bp hm)) ⟨by simp[ax],by simp,rfl,rfl,rfl⟩
  ·exact JN.go (H.next+2,H.next+1,H.next+4,H.next+3,_) (by and_intros<;>first|(simp;done)|omega|(simp;omega)|(intro m hm;show ew _ _ _ _=_;rw[aW _ _ (by omega)];exact GH.bp hm)) ⟨by simp[ax],by simp,rfl,rfl,rfl⟩
  ·exact JN.go (H.next+2,H.next+1,H.next+4,H.next+3,_) (by and_intros<;>first|(simp;done)|omega|(simp;omega)|(intro m hm;show ew _ _ _ _=_;rw[aW _ _ (by omega)];exact GH.bp hm)) ⟨by simp[ax],by simp,rfl,rfl,rfl⟩
  ·exact JN.go (H.next+2,H.next+1,H.next+3,H.next+4,_) (by and_intros<;>first|(simp;done)|omega|(simp;omega)|(intro m hm;show ew _ _ _ _=_;rw[aW _ _ (by omega)];exact GH.bp hm)) ⟨by simp[ax],by simp,rfl,rfl,rfl⟩
  ·exact JN.go (H.next+2,H.next+1,H.next+4,H.next+3,_) (by and_intros<;>first|(simp;done)|omega|(simp;omega)|(intro m hm;show ew _ _ _ _=_;rw[aW _ _ (by omega)];exact GH.bp hm)) ⟨by simp[ax],by simp,rfl,rfl,rfl⟩
  ·exact JN.go (H.next+3,H.next+1,H.next+2,H.next+4,_) (by and_intros<;>first|(simp;done)|omega|(simp;omega)|(intro m hm;show ew _ _ _ _=_;rw[aW _ _ (by omega)];exact GH.bp hm)) ⟨by simp[ax],by simp,rfl,rfl,rfl⟩
  ·exact JN.go (H.next+4,H.next+1,H.next+2,H.next+3,_) (by and_intros<;>first|(simp;done)|omega|(simp;omega)|(intro m hm;show ew _ _ _ _=_;rw[aW _ _ (by omega)];exact GH.bp hm)) ⟨by simp[ax],by simp,rfl,rfl,rfl⟩
  ·exact JN.go (H.next+3,H.next+1,H.next+4,H.next+2,_) (by and_intros<;>first|(simp;done)|omega|(simp;omega)|(intro m hm;show ew _ _ _ _=_;rw[aW _ _ (by omega)];exact GH.bp hm)) ⟨by simp[ax],by simp,rfl,rfl,rfl⟩
  ·exact JN.go (H.next+4,H.next+1,H.next+3,H.next+2,_) (by and_intros<;>first|(simp;done)|omega|(simp;omega)|(intro m hm;show ew _ _ _ _=_;rw[aW _ _ (by omega)];exact GH.bp hm)) ⟨by simp[ax],by simp,rfl,rfl,rfl⟩
  ·exact JN.go (H.next+3,H.next+1,H.next+4,H.next+2,_) (by and_intros<;>first|(simp;done)|omega|(simp;omega)|(intro m hm;show ew _ _ _ _=_;rw[aW _ _ (by omega)];exact GH.bp hm)) ⟨by simp[ax],by simp,rfl,rfl,rfl⟩
  ·exact JN.go (H.next+4,H.next+1,H.next+3,H.next+2,_) (by and_intros<;>first|(simp;done)|omega|(simp;omega)|(intro m hm;show ew _ _ _ _=_;rw[aW _ _ (by omega)];exact GH.bp hm)) ⟨by simp[ax],by simp,rfl,rfl,rfl⟩
  ·exact JN.go (H.next+1,H.next+2,H.next+3,H.next+4,_) (by and_intros<;>first|(simp;done)|omega|(simp;omega)|(intro m hm;show ew _ _ _ _=_;rw[aW _ _ (by omega)];exact GH.bp hm)) ⟨by simp[ax],by simp,rfl,rfl,rfl⟩
  ·exact JN.go (H.next+1,H.next+2,H.next+4,H.next+3,_) (by and_intros<;>first|(simp;done)|omega|(simp;omega)|(intro m hm;show ew _ _ _ _=_;rw[aW _ _ (by omega)];exact GH.bp hm)) ⟨by simp[ax],by simp,rfl,rfl,rfl⟩
  ·exact JN.go (H.next+1,H.next+3,H.next+2,H.next+4,_) (by and_intros<;>first|(simp;done)|omega|(simp;omega)|(intro m hm;show ew _ _ _ _=_;rw[aW _ _ (by omega)];exact GH.bp hm)) ⟨by simp[ax],by simp,rfl,rfl,rfl⟩
  ·exact JN.go (H.next+1,H.next+4,H.next+2,H.next+3,_) (by and_intros<;>first|(simp;done)|omega|(simp;omega)|(intro m hm;show ew _ _ _ _=_;rw[aW _ _ (by omega)];exact GH.bp hm)) ⟨by simp[ax],by simp,rfl,rfl,rfl⟩
  ·exact JN.go (H.next+1,H.next+3,H.next+4,H.next+2,_) (by and_intros<;>first|(simp;done)|omega|(simp;omega)|(intro m hm;show ew _ _ _ _=_;rw[aW _ _ (by omega)];exact GH.bp hm)) ⟨by simp[ax],by simp,rfl,rfl,rfl⟩
  ·exact JN.go (H.next+1,H.next+4,H.next+3,H.next+2,_) (by and_intros<;>first|(simp;done)|omega|(simp;omega)|(intro m hm;show ew _ _ _ _=_;rw[aW _ _ (by omega)];exact GH.bp hm)) ⟨by simp[ax],by simp,rfl,rfl,rfl⟩
  ·exact JN.go (H.next+2,H.next+1,H.next+3,H.next+4,_) (by and_intros<;>first|(simp;done)|omega|(simp;omega)|(intro m hm;show ew _ _ _ _=_;rw[aW _ _ (by omega)];exact GH.bp hm)) ⟨by simp[ax],by simp,rfl,rfl,rfl⟩
  ·exact JN.go (H.next+2,H.next+1,H.next+4,H.next+3,_) (by and_intros<;>first|(simp;done)|omega|(simp;omega)|(intro m hm;show ew _ _ _ _=_;rw[aW _ _ (by omega)];exact GH.bp hm)) ⟨by simp[ax],by simp,rfl,rfl,rfl⟩
  ·exact JN.go (H.next+3,H.next+1,H.next+2,H.next+4,_) (by and_intros<;>first|(simp;done)|omega|(simp;omega)|(intro m hm;show ew _ _ _ _=_;rw[aW _ _ (by omega)];exact GH.bp hm)) ⟨by simp[ax],by simp,rfl,rfl,rfl⟩
  ·exact JN.go (H.next+4,H.next+1,H.next+2,H.next+3,_) (by and_intros<;>first|(simp;done)|omega|(simp;omega)|(intro m hm;show ew _ _ _ _=_;rw[aW _ _ (by omega)];exact GH.bp hm)) ⟨by simp[ax],by simp,rfl,rfl,rfl⟩
  ·exact JN.go (H.next+3,H.next+1,H.next+4,H.next+2,_) (by and_intros<;>first|(simp;done)|omega|(simp;omega)|(intro m hm;show ew _ _ _ _=_;rw[aW _ _ (by omega)];exact GH.bp hm)) ⟨by simp[ax],by simp,rfl,rfl,rfl⟩
  ·exact JN.go (H.next+4,H.next+1,H.next+3,H.next+2,_) (by and_intros<;>first|(simp;done)|omega|(simp;omega)|(intro m hm;show ew _ _ _ _=_;rw[aW _ _ (by omega)];exact GH.bp hm)) ⟨by simp[ax],by simp,rfl,rfl,rfl⟩
  ·exact JN.go (H.next+2,H.next+3,H.next+1,H.next+4,_) (by and_intros<;>first|(simp;done)|omega|(simp;omega)|(intro m hm;show ew _ _ _ _=_;rw[aW _ _ (by omega)];exact GH.bp hm)) ⟨by simp[ax],by simp,rfl,rfl,rfl⟩
  ·exact JN.go (H.next+2,H.next+4,H.next+1,H.next+3,_) (by and_intros<;>first|(simp;done)|omega|(simp;omega)|(intro m hm;show ew _ _ _ _=_;rw[aW _ _ (by omega)];exact GH.bp hm)) ⟨by simp[ax],by simp,rfl,rfl,rfl⟩
  ·exact JN.go (H.next+3,H.next+2,H.next+1,H.next+4,_) (by and_intros<;>first|(simp;done)|omega|(simp;omega)|(intro m hm;show ew _ _ _ _=_;rw[aW _ _ (by omega)];exact GH.bp hm)) ⟨by simp[ax],by simp,rfl,rfl,rfl⟩
  ·exact JN.go (H.next+4,H.next+2,H.next+1,H.next+3,_) (by and_intros<;>first|(simp;done)|omega|(simp;omega)|(intro m hm;show ew _ _ _ _=_;rw[aW _ _ (by omega)];exact GH.bp hm)) ⟨by simp[ax],by simp,rfl,rfl,rfl⟩
  ·exact JN.go (H.next+3,H.next+4,H.next+1,H.next+2,_) (by and_intros<;>first|(simp;done)|omega|(simp;omega)|(intro m hm;show ew _ _ _ _=_;rw[aW _ _ (by omega)];exact GH.bp hm)) ⟨by simp[ax],by simp,rfl,rfl,rfl⟩
  ·exact JN.go (H.next+4,H.next+3,H.next+1,H.next+2,_) (by and_intros<;>first|(simp;done)|omega|(simp;omega)|(intro m hm;show ew _ _ _ _=_;rw[aW _ _ (by omega)];exact GH.bp hm)) ⟨by simp[ax],by simp,rfl,rfl,rfl⟩
  ·exact JN.go (H.next+2,H.next+3,H.next+4,H.next+1,_) (by and_intros<;>first|(simp;done)|omega|(simp;omega)|(intro m hm;show ew _ _ _ _=_;rw[aW _ _ (by omega)];exact GH.bp hm)) ⟨by simp[ax],by simp,rfl,rfl,rfl⟩
  ·exact JN.go (H.next+2,H.next+4,H.next+3,H.next+1,_) (by and_intros<;>first|(simp;done)|omega|(simp;omega)|(intro m hm;show ew _ _ _ _=_;rw[aW _ _ (by omega)];exact GH.bp hm)) ⟨by simp[ax],by simp,rfl,rfl,rfl⟩
  ·exact JN.go (H.next+3,H.next+2,H.next+4,H.next+1,_) (by and_intros<;>first|(simp;done)|omega|(simp;omega)|(intro m hm;show ew _ _ _ _=_;rw[aW _ _ (by omega)];exact GH.bp hm)) ⟨by simp[ax],by simp,rfl,rfl,rfl⟩
  ·exact JN.go (H.next+4,H.next+2,H.next+3,H.next+1,_) (by and_intros<;>first|(simp;done)|omega|(simp;omega)|(intro m hm;show ew _ _ _ _=_;rw[aW _ _ (by omega)];exact GH.bp hm)) ⟨by simp[ax],by simp,rfl,rfl,rfl⟩
  ·exact JN.go (H.next+3,H.next+4,H.next+2,H.next+1,_) (by and_intros<;>first|(simp;done)|omega|(simp;omega)|(intro m hm;show ew _ _ _ _=_;rw[aW _ _ (by omega)];exact GH.bp hm)) ⟨by simp[ax],by simp,rfl,rfl,rfl⟩
  ·exact JN.go (H.next+4,H.next+3,H.next+2,H.next+1,_) (by and_intros<;>first|(simp;done)|omega|(simp;omega)|(intro m hm;show ew _ _ _ _=_;rw[aW _ _ (by omega)];exact GH.bp hm)) ⟨by simp[ax],by simp,rfl,rfl,rfl⟩
  ·exact JN.go (H.next+2,H.next+3,H.next+4,H.next+1,_) (by and_intros<;>first|(simp;done)|omega|(simp;omega)|(intro m hm;show ew _ _ _ _=_;rw[aW _ _ (by omega)];exact GH.bp hm)) ⟨by simp[ax],by simp,rfl,rfl,rfl⟩
  ·exact JN.go (H.next+2,H.next+4,H.next+3,H.next+1,_) (by and_intros<;>first|(simp;done)|omega|(simp;omega)|(intro m hm;show ew _ _ _ _=_;rw[aW _ _ (by omega)];exact GH.bp hm)) ⟨by simp[ax],by simp,rfl,rfl,rfl⟩
  ·exact JN.go (H.next+3,H.next+2,H.next+4,H.next+1,_) (by and_intros<;>first|(simp;done)|omega|(simp;omega)|(intro m hm;show ew _ _ _ _=_;rw[aW _ _ (by omega)];exact GH.bp hm)) ⟨by simp[ax],by simp,rfl,rfl,rfl⟩
  ·exact JN.go (H.next+4,H.next+2,H.next+3,H.next+1,_) (by and_intros<;>first|(simp;done)|omega|(simp;omega)|(intro m hm;show ew _ _ _ _=_;rw[aW _ _ (by omega)];exact GH.bp hm)) ⟨by simp[ax],by simp,rfl,rfl,rfl⟩
  ·exact JN.go (H.next+3,H.next+4,H.next+2,H.next+1,_) (by and_intros<;>first|(simp;done)|omega|(simp;omega)|(intro m hm;show ew _ _ _ _=_;rw[aW _ _ (by omega)];exact GH.bp hm)) ⟨by simp[ax],by simp,rfl,rfl,rfl⟩
  ·exact JN.go (H.next+4,H.next+3,H.next+2,H.next+1,_) (by and_intros<;>first|(simp;done)|omega|(simp;omega)|(intro m hm;show ew _ _ _ _=_;rw[aW _ _ (by omega)];exact GH.bp hm)) ⟨by simp[ax],by simp,rfl,rfl,rfl⟩
 ·rintro⟨ms,mn,mv,ma,G⟩ ⟨k0,⟨k1,k2,k3,k4,k5,k6⟩,k7,k8,k9,k10,kb,kw,ks,kn,kv,ka,kl⟩;simp only at k0 k1 k2 k3 k4 k5 k6 k7 k8 k9 k10 kb kw ks kn kv ka kl;refine AW.fzVec mv kv ?_;obtain⟨G0,LY⟩:∃G0,G.set mv (.vec 30 0 1 (xV (jx n [.d (.k (.slice none 0 0))])) true)=G0:=⟨_,rfl⟩;have hfz:=CR n;rw[hfz]at LY;rw[hfz];simp only[LS.Cd];rw[show(G.set mv (.vec 30 0 1 ((List.replicate n ([]:cr)).map bY) true))=G0 from LY]
  have e0:G0.next=H.next+6:=by rw[<-LY,GH.aL];exact k0.symm
  have c0:∀m,m≠mv->G0.obj m=G.obj m:=λm hm=>by rw[<-LY,GH.ay,if_neg hm]
  have cv:G0.obj mv=some (.vec 30 0 1 ((List.replicate n ([]:cr)).map bY) true):=by rw[<-LY,GH.aX]
  have cw:=(c0 _ (by omega)).trans kw
  have cb:=(c0 _ (by omega)).trans kb
  have cms:=(c0 ms (by omega)).trans ks
  have cmn:=(c0 mn (by omega)).trans kn
  have cma:=(c0 ma (by omega)).trans ka
  have hsays:=λi:Nat=>Dd l i (by omega)
  have hwr:=λi:Nat=>λ(q:i<1000)=>aB (n:=9223372036854775807) (show i<9223372036854775807 by omega)
  obtain⟨fs,J7⟩:∃fs:Nat->LV,fs=λi=>bY ((mg p l).getD i []):=⟨_,rfl⟩
  refine AW.seq cc ?_;simp[ax];refine AW.aU cc (λa:Nat×List (Value×LV)=>⟨[(1,sl (l.map bg)),(2,.ip ((ax p).map .d) 0),(4,.gp H.next 0),(27,sl (p.az.map rS)),(28,aH p.az.length),(29,aH a.1)],[],G0.set ms (.map a.2)⟩)
   (λa=>p.az.length-a.1) (λa=>a.1<=p.az.length/\BS a.2 p.az fs a.1) (0,[]) ⟨⟨Nat.zero_le _,BS.nil _ _⟩,by simp[ax,GH.iH cms]⟩ ?_
  rintro⟨i,es⟩ ⟨Dt,Ff⟩;simp only at Dt Ff;simp;have hne5:ms≠H.next/\ms≠H.next+5:=by omega
  have o1:∀es,(G0.set ms (.map es)).obj H.next=some (.box [.gp (H.next+5) 0]):=λes=>by rw[GH.ay,if_neg (by omega)];exact cb
  have o2:∀es,(G0.set ms (.map es)).obj (H.next+5)=some (.box [sl (p.az.map rS),sl (p.aj.map ez),.gm ms,.gm mn,.vs mv 0 1 0 n,.gm ma]):=λes=>by rw[GH.ay,if_neg (by omega)];exact cw
  have o3:∀es,(G0.set ms (.map es)).obj ms=some (.map es):=λes=>GH.aX
  refine⟨λh=>?_,λh=>?_⟩
  ·obtain⟨s,hs⟩:∃s,p.az[i]=s:=⟨_,rfl⟩;have hsy:=hsays i;simp at hsy;simp[h,List.getElem?_eq_getElem h,hs,rS];refine AW.draw cc [(7,.n)] (.q 4<|.q 5<|.q 6<|.q 7<|.q 0<|.q 1<|.q 2<|.q 3<|.f<|.one 8<|.done) (by kernel_rfl) ?_
   simp;refine FC.aJ hsy ?_;simp[o1,o2,o3,bY];refine⟨Ff.key,?_⟩;have hfi:fs i=.d (.sl ((mZ l i).map ak)):=by
    rw[J7];simp[mg,List.getD_eq_getElem?_getD,List.getElem?_map,List.getElem?_range h,bY]
   have hput:=Ff.put h λj hj hji=>O9 hdf h hji
   rw[hs,hfi]at hput;exact NX.go (i+1,cg (.string s) (.d (.sl ((mZ l i).map ak))) es) (by simp only;omega) ⟨h,hput⟩ (by simp[hwr i (by omega),GH.set_set,ax])
  ·have:i=p.az.length:=by omega
   subst this;have PL:Tc es p.az fs:=Ff.all;obtain⟨G1,hG1⟩:∃G1,G0.set ms (.map es)=G1:=⟨_,rfl⟩;have d1:=o1 es;have d2:=o2 es;have d3:=o3 es;have d0:∀m,m≠ms->G1.obj m=G0.obj m:=λm hm=>by rw[<-hG1,GH.ay,if_neg hm]
   have dn:G1.next=H.next+6:=by rw[<-hG1,GH.aL];exact e0
   rw[hG1]at d1 d2 d3|-;have d4:=(d0 mn (by omega)).trans cmn
   have d5:=(d0 ma (by omega)).trans cma
   have d6:=(d0 mv (by omega)).trans cv
   clear o1 o2 o3 Ff
   obtain⟨nms,Vv⟩:∃nms,an p=nms:=⟨_,rfl⟩;have hnl:nms.length=n:=by rw[<-Vv,<-hn];simp[an]
   refine AW.seq cc ?_;simp[ax];refine AW.aU cc (λa:Nat×List (Value×LV)=>⟨[(1,sl (l.map bg)),(2,.ip ((ax p).map .d) 0),(4,.gp H.next 0),(44,sl (p.aj.map ez)),(45,aH n),(46,aH a.1)],[],G1.set mn (.map a.2)⟩)
    (λa=>n-a.1) (λa=>a.1<=n/\BS a.2 nms (λi=>aH i) a.1) (0,[]) ⟨⟨Nat.zero_le _,BS.nil _ _⟩,by simp[ax,GH.iH d4,hn]⟩ ?_
   rintro⟨i,es2⟩ ⟨hil2,Ff⟩;simp only at hil2 Ff;have o1:∀es,(G1.set mn (.map es)).obj H.next=some (.box [.gp (H.next+5) 0]):=λes=>by rw[GH.ay,if_neg (by omega)];exact d1
   have o2:∀es,(G1.set mn (.map es)).obj (H.next+5)=some (.box [sl (p.az.map rS),sl (p.aj.map ez),.gm ms,.gm mn,.vs mv 0 1 0 n,.gm ma]):=λes=>by rw[GH.ay,if_neg (by omega)];exact d2
   have o3:∀es,(G1.set mn (.map es)).obj mn=some (.map es):=λes=>GH.aX
   simp;refine⟨λh=>?_,λh=>?_⟩
   ·have hl':i<p.aj.length:=by omega
    obtain⟨d,hd⟩:∃d,p.aj[i]=d:=⟨_,rfl⟩;simp[h,hl',List.getElem?_eq_getElem hl',hd,ez,ai];refine AW.draw cc [] (.q 4<|.q 6<|.q 0<|.q 1<|.q 2<|.q 3<|.q 5<|.f<|.one 7<|.done) (by kernel_rfl) ?_
    simp[o1,o2,o3];refine⟨Ff.key,?_⟩;have hni:nms[i]=d.name:=by
     subst Vv;simp[an,hd]
    have hput:=Ff.put (i:=i) (by omega) λj hj hji=>by subst Vv;exact Pa hdf (by omega) hji
    rw[hni]at hput;exact NX.go (i+1,cg (.string d.name) (aH i) es2) (by simp only;omega) ⟨h,hput⟩ (by simp[hwr i (by omega),GH.set_set,ax])
   ·have:n=i:=by omega
    subst this;rw[<-hnl]at Ff;have hmn:Tc es2 nms (λi=>aH i):=Ff.all
    obtain⟨G2,hG2⟩:∃G2,G1.set mn (.map es2)=G2:=⟨_,rfl⟩;have f1:=o1 es2;have f2:=o2 es2;have f3:=o3 es2;have f0:∀m,m≠mn->G2.obj m=G1.obj m:=λm hm=>by rw[<-hG2,GH.ay,if_neg hm]
    have fn:G2.next=H.next+6:=by rw[<-hG2,GH.aL];exact dn
    rw[hG2]at f1 f2 f3|-;have f4:=(f0 ms (by omega)).trans d3
    have f5:=(f0 ma (by omega)).trans d5
    have f6:=(f0 mv (by omega)).trans d6
    have f7:∀m,m<H.next->G2.obj m=H.obj m:=λm hm=>by
     rw[f0 m (by omega),d0 m (by omega),c0 m (by omega)];exact kl m hm
    clear o1 o2 o3 Ff
    obtain⟨S,hS⟩:∃S,mg p l=S:=⟨_,rfl⟩;have LX:∀b∈S,bI b:=λb hb=>by
     rw[<-hS]at hb;obtain⟨i,_,rfl⟩:=List.mem_map.1 hb;exact yH hl hi (i:Nat)
    obtain⟨GG,M9⟩:∃GG:List cr->GH,GG=λaj=>G2.set mv (.vec 30 0 1 (aj.map bY) true):=⟨_,rfl⟩
    have hW:∀aj:List cr,aj.length=p.aj.length->FF (GG aj) (H.next+5) ms mn mv ma p ⟨S,aj⟩:=λaj pL=>by
     rw[M9];refine⟨⟨?_,⟨es,?_,?_⟩,⟨es2,?_,?_⟩,?_,pL⟩,?_⟩
     ·simp only[pL,hn];rw[GH.ay,if_neg (by omega)];exact f2
     ·rw[GH.ay,if_neg (by omega)];exact f4
     ·rw[<-hS,<-J7];exact PL
     ·rw[GH.ay,if_neg (by omega)];exact f3
     ·rw[Vv];exact hmn
     ·exact GH.aX
     ·rw[GH.ay,if_neg (by omega)];exact f5
    obtain⟨GS,PP⟩:∃GS,gR p.aj.length (bh p)=GS:=⟨_,rfl⟩;have Dv:∀g∈GS,tJ p g:=λg hg=>by rw[<-PP]at hg;exact((kC (p:=p) p.aj.length [] (λx hx=>absurd hx List.not_mem_nil)).1 g hg).1
    obtain⟨K,hK⟩:∃K,fA p l=K:=⟨_,rfl⟩;have hK0:iC p S GS (List.replicate p.aj.length [])=K:=by rw[<-hK,<-hS,<-PP];rfl
    have IT:=xE p lG hp hs1 LF g;rw[PP]at IT;refine AW.seq cc ?_;simp[ax];refine EC.of (by simpa[ax]using IT G2) (λv1 H1 hR=>?_) (λv1 H1 hR=>by obtain⟨q,_⟩:=hR;cases q)
    obtain⟨q1,q2⟩:=hR;cases q1;rw[q2]
    clear q2
    have hGG0:GG (List.replicate p.aj.length [])=G2:=by rw[M9,hn];exact GH.iH f6
    have hfar:∀g∈GS,1<=wN p g/\wN p g<=201:=λg hg=>⟨yY (g:=g) (λd=>bn (fC p d)) g 201 (by omega) λk hk x hx h3 _=>by
     have jQ:=(Dv g hg).lt hk;rw[oG jQ]at hx;exact((jf hp jQ x hx).bnd.2.2.1 h3).1,yX (g:=g) (λd=>bn (fC p d)) g 201⟩
    have A1:∀g∈GS,g.length<=6:=λg hg=>by
     have:=dL (Dv g hg).nodup λx hx=>List.mem_range.2 ((Dv g hg).lt hx)
     simp at this;omega
    have hgll:GS.length<=6:=by rw[<-PP];exact Nat.le_trans (pR _ _) (by omega)
    have o1:∀aj,(GG aj).obj H.next=some (.box [.gp (H.next+5) 0]):=λaj=>by rw[M9];simp only;rw[GH.ay,if_neg (by omega)];exact f1
    have oL:∀aj m,m<H.next->(GG aj).obj m=H.obj m:=λaj m hm=>by rw[M9];simp only;rw[GH.ay,if_neg (by omega)];exact f7 m hm
    have oN:∀aj,(GG aj).next=H.next+6:=λaj=>by rw[M9];exact fn
    simp;refine AW.aU cc (λa:Nat×List cr=>⟨[(2,.ip ((ax p).map .d) 0),(4,.gp H.next 0),(60,sl (GS.map rT)),(61,aH GS.length),(62,aH a.1)],[],GG a.2⟩)
     (λa=>GS.length-a.1) (λa=>a.1<=GS.length/\a.2.length=p.aj.length/\(∀b∈a.2,bI b)/\iC p S (GS.drop a.1) a.2=K) (0,List.replicate p.aj.length [])
     ⟨⟨Nat.zero_le _,by simp,λb hb=>by rw[List.eq_of_mem_replicate hb];exact⟨.nil,by simp,by simp⟩,hK0⟩,by simp[ax,hGG0]⟩ ?_
    rintro⟨i,aj⟩ ⟨hi1,pL,LN,sR⟩;simp only at hi1 pL LN sR;simp;refine⟨λh=>?_,λh=>?_⟩
    ·obtain⟨g,hge⟩:∃g,GS[i]=g:=⟨_,rfl⟩;have PO:g∈GS:=hge▸List.getElem_mem h;have Dw:GS.drop i=g::GS.drop (i+1):=by rw[List.drop_eq_getElem_cons h,hge]
     rw[Dw,iC]at sR;have hgrow:fT g=.d (.sl (g.map λk=>rI (k:Nat))):=by unfold fT bU;rw[List.map_map];rfl
     have hfr:=Q1 (hW aj pL) he (λd hd=>(Dv g PO).lt hd) (A1 g PO)
     have hfb:=hfar g PO;obtain⟨far,hfe⟩:∃far,wN p g=far:=⟨_,rfl⟩;rw[hgrow,hfe]at hfr;rw[hfe]at hfb;simp[h,List.getElem?_eq_getElem h,hge,rT,o1];refine⟨by rw[oN];omega,EC.of hfr (λv2 H2 hR=>?_) (λv2 H2 hR=>by obtain⟨q,_⟩:=hR;cases q)⟩
     obtain⟨q1,q2⟩:=hR;cases q1;rw[q2]
     clear q2
     have w1:IntKind.i64.wrap (far-1)=far-1:=by rw[wrap64]<;>omega
     obtain⟨top0,ht0⟩:∃t,ic (far-1) 200=t:=⟨_,rfl⟩;simp[w1,ht0];obtain⟨K2,hK2⟩:∃K2,wK p S g aj=K2:=⟨_,rfl⟩;have Vy:ir p S far g 202 top0 aj=K2:=by rw[<-hK2,<-ht0,<-hfe];rfl
     have Vp:0<=top0/\top0<=200:=by rw[<-ht0];unfold ic;split<;>omega
     obtain⟨RG,hRG⟩:∃RG:LV,LV.d (.sl (g.map λk=>rI (k:Nat)))=RG:=⟨_,rfl⟩
     refine AW.aU cc (λa:Nat×Int×List cr=>⟨[(2,.ip ((ax p).map .d) 0),(4,.gp H.next 0),(10,.d (.sl (g.map λk=>rI (k:Nat)))),(11,aH far),(12,aH a.2.1),(60,sl (GS.map rT)),(61,aH GS.length),(62,aH i)],[],GG a.2.2⟩)
      (λa=>a.1) (λa=>0<=a.2.1/\a.2.1<=200/\200-a.2.1<a.1/\a.2.2.length=p.aj.length/\(∀b∈a.2.2,bI b)/\ir p S far g a.1 a.2.1 a.2.2=K2) (202,top0,aj)
      ⟨⟨Vp.1,Vp.2,by simp only;omega,pL,LN,Vy⟩,by simp[ax]⟩ ?_
     rintro⟨f,top,defs1⟩ ⟨ht1,ht2,hf3,OM,Dx,lg⟩;simp only at ht1 ht2 hf3 OM Dx lg;simp;obtain⟨f,rfl⟩:∃f',f=f'+1:=⟨f-1,by omega⟩
     rw[ir]at lg;obtain⟨K3,hK3⟩:∃K3,gb p S top g defs1=K3:=⟨_,rfl⟩;rw[hK3]at lg;refine AW.aU cc (λa:Nat×List cr=>⟨[(2,.ip ((ax p).map .d) 0),(4,.gp H.next 0),(10,.d (.sl (g.map λk=>rI (k:Nat)))),(11,aH far),(12,aH top),(60,sl (GS.map rT)),(61,aH GS.length),(62,aH i),(76,.d (.sl (g.map λk=>rI (k:Nat)))),(77,aH g.length),(78,aH a.1)],[],GG a.2⟩)
      (λa=>g.length-a.1) (λa=>a.1<=g.length/\a.2.length=p.aj.length/\(∀b∈a.2,bI b)/\gb p S top (g.drop a.1) a.2=K3) (0,defs1)
      ⟨⟨Nat.zero_le _,OM,Dx,hK3⟩,by simp[ax]⟩ ?_
     rintro⟨j,defs2⟩ ⟨hj,rz,lq,hk2⟩;simp only at hj rz lq hk2;simp;refine⟨λII=>?_,λII=>?_⟩
     ·obtain⟨d,J8⟩:∃d,g[j]=d:=⟨_,rfl⟩;have hdm:d∈g:=J8▸List.getElem_mem II;have wE:=(Dv g PO).lt hdm;have LM:g.drop j=d::g.drop (j+1):=by rw[List.drop_eq_getElem_cons II,J8]
      rw[LM,gb,CL]at hk2;have hexd:(p.aj.getD d default).exp=p.aj[d].exp:=oG wE;rw[hexd]at hk2;have hex:=vK (W:=⟨S,defs2⟩) LX lq (ht2) _ p.aj[d].exp (Nat.lt_succ_self _) (he d wE) (GG defs2) (hW defs2 rz);simp[ai]at hex;have hwW:=(hW defs2 rz).Mn.ob;simp[II,List.getElem?_eq_getElem II,J8,rI];refine AW.draw cc [] (.q 4<|.q 6<|.q 8<|.q 12<|.q 5<|.q 7<|.q 9<|.q 10<|.q 11<|.f (.cons 0 (.q 1<|.q 2<|.f (.cons 3 (.f<|.one 13<|.q 14<|.f<|.one 15<|.done) (.cons 13 (.q 3<|.q 14<|.f<|.one 15<|.done) (.nil)))) (.cons 13 (.q 0<|.q 1<|.q 2<|.q 3<|.q 14<|.f<|.one 15<|.done) (.nil)))) (by kernel_rfl) ?_
      simp[ax,o1,oN,hwW,wE,List.getElem?_eq_getElem wE,ez,ai];have hov:=(hW defs2 rz).Mn.ov;refine⟨⟨?_,?_⟩,?_⟩<;>refine ya.of hex (λv H2 hR _=>?_) (λx H2 env hR lH=>?_)<;>obtain⟨hE,hm⟩:=hR<;>rw[hE]<;>clear hE
      all_goals cases hx:fW p ⟨S,defs2⟩ top p.aj[d].exp
      all_goals rw[hx]at hm hk2
      all_goals try (cases hm;done)
      all_goals cases hm
      ·rename_i b;have iT:d<defs2.length:=by omega
       have hlt3:d+1<=defs2.length:=by omega
       have ff:List.take d (defs2.map bY)++LV.d (DV.sl (b.map ak))::List.drop (d+1) (defs2.map bY)=(defs2.set d b).map bY:=by
        rw[List.map_set,List.set_eq_take_append_cons_drop,if_pos (by simpa using iT)];rfl
       have A6:(GG defs2).set mv (.vec 30 0 1 ((defs2.set d b).map bY) true)=GG (defs2.set d b):=by rw[M9];exact GH.set_set
       have Fh:bI b:=nw (W:=⟨S,defs2⟩) LX lq ht2 _ _ (Nat.lt_succ_self _) (he d wE) b hx;simp[hwW,o1,oN,hov,bY];refine⟨iT,?_⟩;simp[hlt3];rw[ff,A6];exact NX.go (j+1,defs2.set d b) (by simp only;omega) ⟨II,by rw[List.length_set];exact rz,λc hc=>by
        rcases List.mem_or_eq_of_mem_set hc with q|q
        ·exact lq c q
        ·rw[q];exact Fh,hk2⟩ (by simp[hwr j (by have:=A1 g PO;omega),ax,rI])
      ·simp;refine λhz=>⟨by rw[oN];omega,ud H.next _ _ (o1 _) rfl _ ?_⟩
       have hkn:fA p l=none:=by
        rw[hK,<-sR,hK2];rw[<-hk2]at lg;rw[<-lg]
       simp only[eY];have h4:env 4=.gp H.next 0:=by simpa using lH 4 rfl
       refine⟨.d (.k (.pointer none)),by simp[qO,GH.aX,h4],H,?_,by simp[fz,LV.nb],?_⟩
       ·refine aO (by rw[GH.aL,oN];omega) (λm hm=>?_) hw.none
        rw[GH.ay,if_neg (by omega)]
        exact oL defs2 m hm
       ·unfold qa;rw[hkn];exact⟨rfl,rfl⟩
      ·rename_i b;have iT:d<defs2.length:=by omega
       have hlt3:d+1<=defs2.length:=by omega
       have ff:List.take d (defs2.map bY)++LV.d (DV.sl (b.map ak))::List.drop (d+1) (defs2.map bY)=(defs2.set d b).map bY:=by
        rw[List.map_set,List.set_eq_take_append_cons_drop,if_pos (by simpa using iT)];rfl
       have A6:(GG defs2).set mv (.vec 30 0 1 ((defs2.set d b).map bY) true)=GG (defs2.set d b):=by rw[M9];exact GH.set_set
       have Fh:bI b:=nw (W:=⟨S,defs2⟩) LX lq ht2 _ _ (Nat.lt_succ_self _) (he d wE) b hx;simp[hwW,o1,oN,hov,bY];refine⟨iT,?_⟩;simp[hlt3];rw[ff,A6];exact NX.go (j+1,defs2.set d b) (by simp only;omega) ⟨II,by rw[List.length_set];exact rz,λc hc=>by
        rcases List.mem_or_eq_of_mem_set hc with q|q
        ·exact lq c q
        ·rw[q];exact Fh,hk2⟩ (by simp[hwr j (by have:=A1 g PO;omega),ax,rI])
      ·simp;refine λhz=>⟨by rw[oN];omega,ud H.next _ _ (o1 _) rfl _ ?_⟩
       have hkn:fA p l=none:=by
        rw[hK,<-sR,hK2];rw[<-hk2]at lg;rw[<-lg]
       simp only[eY];have h4:env 4=.gp H.next 0:=by simpa using lH 4 rfl
       refine⟨.d (.k (.pointer none)),by simp[qO,GH.aX,h4],H,?_,by simp[fz,LV.nb],?_⟩
       ·refine aO (by rw[GH.aL,oN];omega) (λm hm=>?_) hw.none
        rw[GH.ay,if_neg (by omega)]
        exact oL defs2 m hm
       ·unfold qa;rw[hkn];exact⟨rfl,rfl⟩
      ·rename_i b;have iT:d<defs2.length:=by omega
       have hlt3:d+1<=defs2.length:=by omega
       have ff:List.take d (defs2.map bY)++LV.d (DV.sl (b.map ak))::List.drop (d+1) (defs2.map bY)=(defs2.set d b).map bY:=by
        rw[List.map_set,List.set_eq_take_append_cons_drop,if_pos (by simpa using iT)];rfl
       have A6:(GG defs2).set mv (.vec 30 0 1 ((defs2.set d b).map bY) true)=GG (defs2.set d b):=by rw[M9];exact GH.set_set
       have Fh:bI b:=nw (W:=⟨S,defs2⟩) LX lq ht2 _ _ (Nat.lt_succ_self _) (he d wE) b hx;simp[hwW,o1,oN,hov,bY];refine⟨iT,?_⟩;simp[hlt3];rw[ff,A6];exact NX.go (j+1,defs2.set d b) (by simp only;omega) ⟨II,by rw[List.length_set];exact rz,λc hc=>by
        rcases List.mem_or_eq_of_mem_set hc with q|q
        ·exact lq c q
        ·rw[q];exact Fh,hk2⟩ (by simp[hwr j (by have:=A1 g PO;omega),ax,rI])
      ·simp;refine λhz=>⟨by rw[oN];omega,ud H.next _ _ (o1 _) rfl _ ?_⟩
       have hkn:fA p l=none:=by
        rw[hK,<-sR,hK2];rw[<-hk2]at lg;rw[<-lg]
       simp only[eY];have h4:env 4=.gp H.next 0:=by simpa using lH 4 rfl
       refine⟨.d (.k (.pointer none)),by simp[qO,GH.aX,h4],H,?_,by simp[fz,LV.nb],?_⟩
       ·refine aO (by rw[GH.aL,oN];omega) (λm hm=>?_) hw.none
        rw[GH.ay,if_neg (by omega)]
        exact oL defs2 m hm
       ·unfold qa;rw[hkn];exact⟨rfl,rfl⟩
     ·have:j=g.length:=by omega
      subst this;rw[List.drop_length,gb]at hk2;rw[<-hk2]at lg;simp only at lg;refine⟨λq=>?_,λq=>?_⟩
      ·rw[if_pos q]at lg;rw[hK2,<-lg]at sR;exact NX.go (i+1,defs2) (by simp only;omega) ⟨h,rz,lq,sR⟩ (by simp[hwr i (by omega),ax])
      ·rw[if_neg q]at lg;have hmt:ic (top+far) 200=if 200<top+far then 200 else top+far:=rfl
       have w2:IntKind.i64.wrap (top+far)=top+far:=by rw[wrap64]<;>omega
       exact NX.go (f,ic (top+far) 200,defs2) (by simp only;omega) ⟨by simp only[hmt];split<;>omega,by simp only[hmt];split<;>omega,by simp only[hmt];split<;>omega,rz,lq,lg⟩ (by simp[w2,ax])
    ·have:i=GS.length:=by omega
     subst this;rw[List.drop_length,iC]at sR;have hwW:=(hW aj pL).Mn.ob;refine AW.ev cc ?_;simp[o1];refine⟨by rw[oN];omega,?_⟩
     rw[GH.iH (o1 aj)];refine λhz=>⟨by rw[oN];omega,Ls _ _ _ ?_⟩
     simp only[eY];refine⟨.gp (H.next+5) 0,by simp[qO,o1],GG aj,hz.drop (by rw[oN];omega),by simp[fz,LV.nb,oN],?_⟩
     unfold qa;rw[hK,<-sR];refine⟨H.next+5,ms,mn,mv,ma,rfl,by omega,?_,by rw[oN];omega,oL aj,hz⟩
     rw[hS];exact hW aj pL
structure Mi(es:List (Value×LV))(l:List Event):Prop where
 key:∀(a:Value) (b:LV),(a,b)∈es->(KK.ag [.int .i64,.int .i64]).has a=true
 get:∀s i:Int,(bz (kk s i) es).getD (.d (.k (.bool false)))=.d (.k (.bool (l.any λe=>decide (e.src=s/\e.id=i))))
theorem Mi.nil:Mi [] []:=⟨λ_ _ h=>absurd h List.not_mem_nil,λ_ _=>rfl⟩
theorem Mi.put{es:List (Value×LV)}{l:List Event}(h:Mi es l)(e:Event):Mi (cg (kk e.src e.id) (.d (.k (.bool true))) es) (l++[e]):=by
 refine⟨HL _ _ _ _ h.key,λs i=>?_⟩
 rw[Dc _ _ _ _ _ _ h.key];by_cases q:s=e.src/\i=e.id
 ·rw[if_pos q];have:(l++[e]).any (λe=>decide (e.src=s/\e.id=i))=true:=List.any_eq_true.2 ⟨e,by simp,by simp[q]⟩
  rw[this];rfl
 ·rw[if_neg q,h.get];have:decide (e.src=s/\e.id=i)=false:=by
   rw[decide_eq_false_iff_not];exact λz=>q ⟨z.1.symm,z.2.symm⟩
  rw[List.any_append,List.any_cons,List.any_nil,this,Bool.or_false,Bool.or_false]
def Cu(l:List Event)(i:Nat)(e:Event):Bool:=!(l.take i).any (λx=>decide (x.src=e.src/\x.id=e.id))&&(decide (i=0)||nE (l.getD (i-1) default) e)
def rJ(l:List Event):Bool:=(List.range l.length).all λi=>Cu l i (l.getD i default)
open Classical in
noncomputable def fE (p:Prog) (l:List Event):Bool:=decide (formed p)&&decide (l.length<=60)&&rJ l&&iD (l.map Bn) p.az.length
open Classical in
theorem tZ(p:Prog)(hs:∀s∈p.az++an p,cN s)(l:List Event):aC prog 68 [lv (ax p),sl (l.map bg)] (.d (.k (.bool (fE p l)))):=by
 intro H;have cc:=SA (p:=aY [2] [] []);refine aF.bD (SA (p:=aY [2] [] [])) func68 rfl call68 (by rw[ntmps68];simp) rfl λhf hw=>?_
 have ON:=zm p hs;simp[ax]at ON;simp[ntmps68,results68,ax]at hf|-;refine EC.aJ ON ?_;simp;refine⟨λq hz=>⟨cC hz,?_⟩,λhfo h60=>?_⟩
 ·unfold fE;rcases q with q|q
  ·simp[q]
  ·have:¬l.length<=60:=by omega
   simp[this]
 have hch:=Ck l (by omega)
 simp at hch;refine EC.aJ hch ?_;simp;refine AW.aU cc (λs:Nat×List (Value×LV)=>⟨[(1,sl (l.map bg)),(2,.ip ((ax p).map .d) 0),(5,.gm H.next),(6,sl ((l.map Bn).map cI)),(20,sl (l.map bg)),(21,aH l.length),(22,aH s.1)],[],H.add (.map s.2)⟩) (λs=>l.length-s.1)
  (λs=>s.1<=l.length/\Mi s.2 (l.take s.1)/\∀j,j<s.1->Cu l j (l.getD j default)=true) (0,[]) ⟨⟨Nat.zero_le _,by simpa using Mi.nil,λj hj=>by simp only at hj;omega⟩,by simp[ax]⟩ ?_
 rintro⟨i,es⟩ ⟨hi,hm,hok⟩;simp only at hi hm hok;have ob:∀X,(H.add X).obj H.next=some X:=λX=>by rw[GH.au,if_pos rfl]
 have ff:∀X Y,(H.add X).set H.next Y=H.add Y:=λX Y=>GH.cT
 simp;refine⟨λh=>?_,λh=>?_⟩
 ·obtain⟨e,hee⟩:∃e,l[i]=e:=⟨_,rfl⟩;have fU:l.take (i+1)=l.take i++[e]:=by rw[<-aR h,hee]
  have hge:l.getD i default=e:=by simp[List.getD,List.getElem?_eq_getElem h,hee]
  have hkey:=eq_true hm.key;have dD:=hm.get e.src e.id;have hput:=hm.put e;rw[<-fU]at hput;obtain⟨met,hmet⟩:∃met,(l.take i).any (λx=>decide (x.src=e.src/\x.id=e.id))=met:=⟨_,rfl⟩
  rw[hmet]at dD;have hkk:kk e.src e.id=.agg #[.int .i64 e.src,.int .i64 e.id]:=rfl;rw[hkk]at dD hput;have eU:=aB (n:=9223372036854775807) (show i<9223372036854775807 by omega)
  have yC:(KK.ag [.int .i64,.int .i64]).has (.agg #[.int .i64 e.src,.int .i64 e.id])=true:=rfl;simp[h,List.getElem?_eq_getElem h,hee,bg,bN];refine AW.draw cc [(17,.n)] (.q 0<|.q 1<|.q 3<|.q 2<|.q 4<|.q 5<|.q 6<|.q 7<|.q 8<|.q 9<|.q 10<|.q 11<|.q 12<|.q 13<|.q 14<|.q 15<|.q 16<|.q 17<|.q 18<|.q 19<|.q 20<|.done) (by kernel_rfl) ?_
  have RE:Cu l i e=(!met&&(decide (i=0)||nE (l.getD (i-1) default) e)):=by unfold Cu;rw[hmet]
  have hno:Cu l i e=false->fE p l=false:=λq=>by
   have:rJ l=false:=by
    rw[Bool.eq_false_iff];intro z;simp only[rJ,List.all_eq_true]at z;have:=z i (List.mem_range.2 h);rw[hge,q]at this;cases this
   simp[fE,this]
  have Dw:∀X,Drop H (H.add X) H:=λX=>aO (by rw[GH.aq];omega) (λm hm=>by rw[GH.au,if_neg (by omega)]) hw.none
  have xQ:Cu l i e=true->∀j,j<i+1->Cu l j (l.getD j default)=true:=λq j hj=>by
   by_cases e1:j=i
   ·rw[e1,hge];exact q
   ·exact hok j (by omega)
  rcases Nat.eq_zero_or_pos i with h0|h0
  ·subst h0;simp[ob,hkey,dD,yC];refine sV.aJ (v:=.d (.k (.bool false))) (λq=>by cases q) ?_
   simp;refine⟨λq hz=>⟨Dw _,hno (by rw[RE,q];rfl)⟩,λq=>?_⟩
   simp[ob,yC,hkey,ff];exact NX.go (0+1,cg (.agg #[.int .i64 e.src,.int .i64 e.id]) (.d (.k (.bool true))) es) (by simp only;omega) ⟨h,hput,xQ (by rw[RE,q];rfl)⟩ (by simp[show IntKind.wrap .i64 1=1 from rfl,ax])
  ·obtain⟨u,hu⟩:∃u,l[i-1]'(by omega)=u:=⟨_,rfl⟩
   have hgu:l[i-1]?=some u:=by rw[List.getElem?_eq_getElem (by omega),hu]
   have w1:IntKind.wrap .i64 ((i:Int)-1)=(i:Int)-1:=by rw[wrap64]<;>omega
   have t1:((i:Int)-1).toNat=i-1:=by omega
   have hb:=H7 u e;simp[bg,bN]at hb;have hgd:l.getD (i-1) default=u:=by simp[List.getD,hgu]
   rw[hgd]at RE;simp[ob,hkey,dD,yC,w1,t1,hgu,bg,bN];refine⟨λa b=>⟨⟨a,b⟩,by omega,by omega⟩,sV.aJ (λ_=>hb) ?_⟩
   simp;have RA:decide (i=0)=false:=by rw[decide_eq_false_iff_not];omega
   refine⟨λq=>⟨q,λ_=>⟨q,h0⟩⟩,λq hz=>⟨Dw _,hno ?_⟩,λq1 q2=>?_⟩
   ·rw[RE];rcases q with q|⟨_,q⟩
    ·rw[q];rfl
    ·rw[q,RA];simp
   simp[ob,yC,hkey,ff];exact NX.go (i+1,cg (.agg #[.int .i64 e.src,.int .i64 e.id]) (.d (.k (.bool true))) es) (by simp only;omega) ⟨h,hput,xQ (by rw[RE,q1,q2 h0];simp)⟩ (by simp[eU,ax])
 ·have e2:i=l.length:=by omega
  subst e2;have hhc:=LK (l.map Bn) p.az.length;simp at hhc;simp[ax];refine EC.aJ hhc ?_;simp;have M5:rJ l=true:=by
   simp only[rJ,List.all_eq_true];exact λj hj=>hok j (List.mem_range.1 hj)
  have h6:decide (l.length<=60)=true:=by simp;omega
  refine λhz=>⟨aO (by rw[GH.aq];omega) (λm hm=>by rw[GH.au,if_neg (by omega)]) hw.none,?_⟩
  simp only[fE,hfo,M5,h6,decide_true,Bool.true_and];cases iD (l.map Bn) (p.az.length:Int)<;>rfl
end Go.Aft
end
section
set_option maxRecDepth 20000
namespace Go.Aft
def nmX:ca:=⟨#[120]⟩
def nmY:ca:=⟨#[121]⟩
def QY:ca:=⟨#[97]⟩
def nmB:ca:=⟨#[98]⟩
def nmC:ca:=⟨#[99]⟩
def Ab:bw:=.mk 9 cF 5 2 [] [.mk 2 QY 0 0 [] []]
def jA:Prog:=⟨[nmX,nmY],[⟨QY,.mk 15 cF 0 0 [] [.mk 1 nmX 0 0 [] []]⟩,⟨nmB,.mk 4 cF 0 0 [] [Ab,.mk 3 nmB 3 0 [] []]⟩,⟨nmC,.mk 14 cF 2 0 [] [.mk 2 QY 0 0 [] [],.mk 1 nmY 0 0 [] []]⟩]⟩
def FZ:List Event:=[⟨0,1,⟨10,1,5⟩⟩,⟨1,1,⟨11,1,2⟩⟩,⟨0,2,⟨14,1,7⟩⟩]
def Sd(i k:Nat):Bool:=decide (i=1/\(k=0\/ k=1)\/ i=2/\k=0)
theorem VP:jA.aj.length=3:=rfl
theorem VO:∀j:Fin 3,∀e∈bn (jA.aj.getD j.1 default).exp,(e.op=2\/ e.op=3)->Sd j.1 (idx (an jA) e.name).toNat=true:=by decide+kernel
theorem VN:∀j:Fin 3,∀k:Fin 3,Sd j.1 k.1=true->∃e∈bn (jA.aj.getD j.1 default).exp,(e.op=2\/ e.op=3)/\idx (an jA) e.name=(k.1:Int):=by decide+kernel
theorem Nh{i:Nat}(h:i<jA.aj.length):jA.aj.getD i default=jA.aj[i]:=by rw[List.getD_eq_getElem?_getD,List.getElem?_eq_getElem h];rfl
theorem Bj{i k:Nat}:fJ jA i k↔Sd i k=true:=by
 have hl:=VP;unfold fJ;constructor
 ·rintro⟨h,e,he,ho,hx⟩;rw[<-Nh h]at he;have:=VO ⟨i,by omega⟩ e he ho
  rw[hx]at this;simpa using this
 ·intro h;have hik:i<3/\k<3:=by
   have:=of_decide_eq_true h;omega
  have hi:i<jA.aj.length:=by omega
  refine⟨hi,?_⟩;rw[<-Nh hi];exact VN ⟨i,hik.1⟩ ⟨k,hik.2⟩ h
theorem Jc{i k:Nat}:bh jA i k=Sd i k:=by
 rw[Bool.eq_iff_iff,iJ];constructor
 ·intro h
  induction h with
  |one h=>exact Bj.1 h
  |cons h _ ih=>
   have h1:=of_decide_eq_true (Bj.1 h);have h2:=of_decide_eq_true ih;exact decide_eq_true (by omega)
 ·intro h;exact .one (Bj.2 h)
theorem exQ_la:∀e∈bn (jA.aj.getD 1 default).exp,cD e=false:=by decide+kernel
theorem VQ:∀(i:Fin 5),gE ((jA.az++an jA).getD i.1 cF)=true/\∀x∈(jA.az++an jA).take i.1,x≠((jA.az++an jA).getD i.1 cF):=by decide+kernel
theorem mJ:formed jA:=by
 have h:oI (jA.az++an jA):=λi hi=>by
  have hg:(jA.az++an jA).getD i cF=(jA.az++an jA)[i]:=by rw[List.getD_eq_getElem?_getD,List.getElem?_eq_getElem hi];rfl
  have key:=VQ ⟨i,hi⟩;simp only[hg]at key;exact⟨key.1,λhm=>key.2 _ hm rfl⟩
 refine⟨⟨51,?_⟩,λi hi hp e he=>?_⟩
 ·rw[fh,if_pos ⟨by decide,by decide,by decide,h⟩]
  decide+kernel
 ·have h1:=iJ.2 hp;rw[Jc]at h1;have hi1:i=1:=by
   have:=of_decide_eq_true h1;omega
  subst hi1;exact exQ_la e he
theorem Bk:gR jA.aj.length (bh jA)=[[0],[1],[2]]:=by
 have:bh jA=Sd:=by funext i k;exact Jc
 rw[this]
 decide+kernel
def exK:Option (List cr):=iC jA (mg jA FZ) [[0],[1],[2]] (List.replicate 3 [])
theorem O1:fA jA FZ=exK:=by rw[fA,Bk];rfl
def Sb:Option (List cr)->Bool
 |some [a,b,c]=>decide (a=[⟨⟨10,1,5⟩,1⟩,⟨⟨14,1,7⟩,1⟩]/\4<b.length/\b[1]?=some ⟨⟨13,1,5⟩,1⟩/\c=[⟨⟨14,1,7⟩,1⟩])
 |_=>false
theorem Sk:Sb exK=true:=by decide+kernel
theorem VR:∃b,fA jA FZ=some [[⟨⟨10,1,5⟩,1⟩,⟨⟨14,1,7⟩,1⟩],b,[⟨⟨14,1,7⟩,1⟩]]/\4<b.length/\b[1]?=some ⟨⟨13,1,5⟩,1⟩:=by
 have h:=Sk;rw[O1];unfold Sb at h
 split at h
 ·rename_i a b c e;obtain⟨q1,q2,q3,q4⟩:=of_decide_eq_true h;subst q1;subst q4;exact⟨b,e,q2,q3⟩
 ·cases h
theorem Se:mZ FZ 1=[⟨⟨11,1,2⟩,1⟩]:=by decide+kernel
def VT:cr:=[⟨⟨10,1,5⟩,1⟩,⟨⟨14,1,7⟩,1⟩]
theorem Sf(W:b9)(h:W.aj.getD 0 []=VT):fW jA W 200 Ab=some [⟨⟨10,1,5⟩,1⟩,⟨⟨14,1,12⟩,1⟩]:=by
 have e:idx (an jA) QY=0:=by decide+kernel
 have h1:gV jA W 2 QY 0 0 [] []=VT:=by
  have:gV jA W 2 QY 0 0 [] []=W.aj.getD (idx (an jA) QY).toNat []:=rfl;rw[this,e];exact h
 have h2:bV VT 200=VT:=by decide+kernel
 have h3:gH VT=true:=by decide+kernel
 have h4:gV jA W 9 cF 5 2 [] [VT]=fS 2 0 (pg 5) VT:=rfl;have h5:bV (fS 2 0 (pg 5) VT) 200=[⟨⟨10,1,5⟩,1⟩,⟨⟨14,1,12⟩,1⟩]:=by decide+kernel
 have h6:gH [⟨⟨10,1,5⟩,1⟩,⟨⟨14,1,12⟩,1⟩]=true:=by decide+kernel
 simp only[Ab,fW,gZ,h1,h2,h3,h4,h5,h6,if_true]
end Go.Aft
end
section
set_option maxRecDepth 20000
namespace Go.Aft
open Go.Proofs.Tryz
abbrev lvS(s:ca):LV:=.d (.k (.string s))
theorem Q8(s:ca):aC prog 116 [lvS s] (lv (aQ (.mk 2 s 0 0 [] []))):=by
 refine aC.body aP func116 rfl call116 (by rw[ntmps116];simp) rfl λhf H=>?_
 simp[ntmps116,results116,ai]
theorem Q7(s:ca)(n:Int):aC prog 117 [lvS s,aH n] (lv (aQ (.mk 3 s n 0 [] []))):=by
 refine aC.body aP func117 rfl call117 (by rw[ntmps117];simp) rfl λhf H=>?_
 simp[ntmps117,results117,ai]
theorem MO(s:ca):aC prog 118 [lvS s] (lv (aQ (.mk 1 s 0 0 [] []))):=by
 refine aC.body aP func118 rfl call118 (by rw[ntmps118];simp) rfl λhf H=>?_
 simp[ntmps118,results118,ai]
theorem Q6(n:Int)(e:bw):aC prog 115 [aH n,lv (aQ e)] (lv (aQ (.mk 9 cF n 2 [] [e]))):=by
 refine aC.body (ar (p:=aY [3] [] [])) func115 rfl call115 (by rw[ntmps115];simp) rfl λhf H=>?_
 have hr:List.range' 0 1=[0]:=rfl;simp[ntmps115,results115,ai,hr,cF]
theorem Vi:aC prog 61 [] (lv (ax jA)):=by
 have key:aC prog 61 [] (.agg [LV.d (DV.sl [[DV.k (Value.string {data:=#[120]})],[DV.k (Value.string {data:=#[121]})]]),LV.d (DV.sl [[DV.k (Value.string {data:=#[97]}),DV.k (Value.int IntKind.i64 15),DV.k (Value.string {data:=#[]}),DV.k (Value.int IntKind.i64 0),DV.k (Value.int IntKind.i64 0),DV.k (Value.slice none 0 0),DV.sl [[DV.k (Value.int IntKind.i64 1),DV.k (Value.string {data:=#[120]}),DV.k (Value.int IntKind.i64 0),DV.k (Value.int IntKind.i64 0),DV.sl [],DV.sl []]]],[DV.k (Value.string {data:=#[98]}),DV.k (Value.int IntKind.i64 4),DV.k (Value.string {data:=#[]}),DV.k (Value.int IntKind.i64 0),DV.k (Value.int IntKind.i64 0),DV.k (Value.slice none 0 0),DV.sl [[DV.k (Value.int IntKind.i64 9),DV.k (Value.string {data:=#[]}),DV.k (Value.int IntKind.i64 5),DV.k (Value.int IntKind.i64 2),DV.sl [],DV.sl [[DV.k (Value.int IntKind.i64 2),DV.k (Value.string {data:=#[97]}),DV.k (Value.int IntKind.i64 0),DV.k (Value.int IntKind.i64 0),DV.sl [],DV.sl []]]],[DV.k (Value.int IntKind.i64 3),DV.k (Value.string {data:=#[98]}),DV.k (Value.int IntKind.i64 3),DV.k (Value.int IntKind.i64 0),DV.sl [],DV.sl []]]],[DV.k (Value.string {data:=#[99]}),DV.k (Value.int IntKind.i64 14),DV.k (Value.string {data:=#[]}),DV.k (Value.int IntKind.i64 2),DV.k (Value.int IntKind.i64 0),DV.k (Value.slice none 0 0),DV.sl [[DV.k (Value.int IntKind.i64 2),DV.k (Value.string {data:=#[97]}),DV.k (Value.int IntKind.i64 0),DV.k (Value.int IntKind.i64 0),DV.sl [],DV.sl []],[DV.k (Value.int IntKind.i64 1),DV.k (Value.string {data:=#[121]}),DV.k (Value.int IntKind.i64 0),DV.k (Value.int IntKind.i64 0),DV.sl [],DV.sl []]]]])]):=by
  have cc:=aP;refine aC.body aP func61 rfl call61 (by rw[ntmps61];simp) rfl λhf H=>?_
  have h1:=Q8 QY;have h2:=Q6 5 (.mk 2 QY 0 0 [] []);have h3:=Q7 nmB 3;have h4:=MO nmY;have h5:=MO nmX;have AX:List.range' 0 1=[0]:=rfl;have MV:List.range' 0 2=[0,1]:=rfl;have hr3:List.range' 0 3=[0,1,2]:=rfl;simp[QY,nmB,nmX,nmY,ai,cF]at h1 h2 h3 h4 h5;simp[ntmps61,results61,AX,MV,hr3];refine EC.aJ h1 ?_;simp;refine EC.aJ h2 ?_;simp;refine EC.aJ h3 ?_;simp[MV];refine EC.aJ h1 ?_;simp;refine EC.aJ h4 ?_;simp[MV];refine AW.draw cc [(1,.n)] (.q 0<|.q 1<|.q 2<|.q 3<|.q 4<|.q 5<|.q 6<|.q 7<|.q 8<|.q 9<|.q 10<|.f<|.one 11<|.done) (by kernel_rfl) ?_
  simp[AX,MV,hr3];refine FC.aJ h5 ?_;simp[AX,MV,hr3]
 have:=key.nz;simp[LV.nz,U9,DV.nz,PJ,Va]at this;simpa[ax,jA,Ab,ez,aQ,bB,QY,nmB,nmC,nmX,nmY,cF,rS,pz,Hg]using this
theorem wo(s i a k v:Int):aC prog 119 [aH s,aH i,aH a,aH k,aH v] (lv (bg ⟨s,i,⟨a,k,v⟩⟩)):=by
 refine aC.body aP func119 rfl call119 (by rw[ntmps119];simp) rfl λhf H=>?_
 simp[ntmps119,results119,bg,bN]
theorem Vj:aC prog 62 [] (sl (FZ.map bg)):=by
 refine aC.body aP func62 rfl call62 (by rw[ntmps62];simp) rfl λhf H=>?_
 have h1:=wo 0 1 10 1 5;have h2:=wo 1 1 11 1 2;have h3:=wo 0 2 14 1 7;have hr:List.range' 0 3=[0,1,2]:=rfl;simp[bg,bN]at h1 h2 h3;simp[ntmps62,results62,hr];refine EC.aJ h1 ?_;simp;refine EC.aJ h2 ?_;simp;refine EC.aJ h3 ?_;simp[FZ,bg,bN,hr]
theorem rj(a k v:Int):aC prog 63 [aH a,aH k,aH v] (lv (ak ⟨⟨a,k,v⟩,1⟩)):=by
 refine aC.body aP func63 rfl call63 (by rw[ntmps63];simp) rfl λhf H=>?_
 simp[ntmps63,results63,ak]
theorem rV(a b:List Item):aC prog 23 [sl (a.map ak),sl (b.map ak)] (.d (.k (.bool (decide (a=b))))):=by
 have cc:=ig (p:=aY [] [] []);refine aC.body (ig (p:=aY [] [] [])) func23 rfl call23 (by rw[ntmps23];simp) rfl λhf H=>?_
 simp[ntmps23,results23]at hf|-;refine⟨λh=>?_,λh=>?_⟩
 ·have:a≠b:=λe=>h (by rw[e])
  simp[this]
 ·have hl:a.length=b.length:=by omega
  refine AW.aU cc (λi:Nat=>⟨[(0,sl (a.map ak)),(1,sl (b.map ak)),(12,aH a.length),(13,aH i)],[],H⟩) (λi=>a.length-i) (λi=>i<=a.length/\a.take i=b.take i) 0 ⟨⟨Nat.zero_le _,by simp⟩,by simp⟩ ?_
  rintro i ⟨hi,hk⟩;simp;refine⟨λh=>?_,λh=>?_⟩
  ·have h2:i<b.length:=by omega
   obtain⟨x,hx⟩:∃x,a[i]=x:=⟨_,rfl⟩;obtain⟨y,hy⟩:∃y,b[i]=y:=⟨_,rfl⟩;have eU:=aB h hf.1.1;have hta:a.take (i+1)=a.take i++[x]:=by rw[<-aR h,hx]
   have htb:b.take (i+1)=b.take i++[y]:=by rw[<-aR h2,hy]
   simp[h];refine AW.draw cc [] (.q 0<|.q 1<|.q 2<|.q 4<|.q 5<|.q 6<|.q 3<|.q 7<|.q 8<|.done) (by kernel_rfl) ?_
   simp[h,h2,List.getElem?_eq_getElem h,List.getElem?_eq_getElem h2,hx,hy,ak];refine⟨λq e=>?_,λq1 q2 q3 q4=>?_⟩
   ·have:x=y:=by rw[<-hx,<-hy];simp only[e]
    subst this;simp at q
   ·have exy:x=y:=by
     obtain⟨⟨x1,x2,x3⟩,x4⟩:=x;obtain⟨⟨y1,y2,y3⟩,y4⟩:=y;simp only at q1 q2 q3 q4;rw[q1,q2,q3,q4]
    exact NX.go (i+1) (Nat.sub_lt_sub_left h (Nat.lt_succ_self i)) ⟨h,by rw[hta,htb,hk,exy]⟩ (by simp[eU])
  ·have:i=a.length:=by omega
   subst this;rw[List.take_length,hl,List.take_length]at hk;simp[hk]
theorem Pt(x:Item)(l:List Item)(hl:l.length<=1000):aC prog 78 [sl ((x::l).map ak)] (sl ((x::l).map ak)):=by
 intro H;have cc:=ar (p:=aY [] [] [5]);refine aF.dV (ar (p:=aY [] [] [5])) func78 rfl call78 (by rw[ntmps78];simp) rfl λhf hw=>?_
 have hlen:∀r∈l.map ak,r.length=4:=λr hr=>by obtain⟨_,_,rfl⟩:=List.mem_map.1 hr;rfl
 have hll:(l.map ak).length=l.length:=by simp
 rw[List.map_cons];have hx:(ak x).length=4:=rfl;generalize ak x=r0 at hx|-;generalize l.map ak=rows at hlen hll|-;simp[ntmps78,results78];refine AW.seq cc ?_;simp;refine AW.seq cc ?_;simp;refine AW.seq cc ?_;simp;refine eE.ev ?_;have h3:rows.length+1<=34359738368:=by omega
 have ob:∀o,(H.add o).obj H.next=some o:=λo=>by simp[GH.au]
 have hnb:∀m,ct m (bG (r0::rows)):=λm=>oF _ _
 have hfl:bG (r0::rows)≠[]:=λq=>by have:=congrArg List.length q;rw[kF (sz:=4) (by simpa[hx]using hlen)]at this;simp at this
 generalize hF:bG (r0::rows)=F at hnb hfl;have h4:rows.length<=34359738367:=by omega
 simp[hx,ob,hF,hnb,h4,GH.cT];refine⟨hlen,?_⟩;refine AW.cL (n:=H.next) (g:=1) (sz:=4) (e:=86) (ex:=false) (r0::rows) (ob _) hF.symm (by simpa[hx]using hlen) ?_
 refine AW.ev cc ?_;simp;exact λhz=>aO (by simp[GH.aq]) (λm hm=>lB hw (Nat.le_refl _) (λk hk=>by rw[GH.au,if_neg (by omega)]) hm) hw.none
end Go.Aft
end
