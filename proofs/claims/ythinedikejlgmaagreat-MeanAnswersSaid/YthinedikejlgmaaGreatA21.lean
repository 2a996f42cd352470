import Derived.Test.YthinedikejlgmaaGreatA20
import Derived.Test.YthinedikejlgmaaGreatA19
import Derived.Test.YthinedikejlgmaaGreatA18
import Derived.Test.YthinedikejlgmaaGreatA17
set_option linter.all false
section
set_option maxRecDepth 20000
namespace Go.Aft
open Go.Proofs.Tryz
def GH.jC(H:GH)(l:List GO):GH:=⟨λm=>if m<H.next then H.obj m else l[m-H.next]?,H.next+l.length⟩
@[simp] theorem GH.adds_next {H:GH} {l:List GO}:(H.jC l).next=H.next+l.length:=rfl
theorem GH.S0{H:GH}(h:∀m,H.next<=m->H.obj m=none):H.jC []=H:=by
 obtain⟨f,k⟩:=H;simp only[GH.jC]at h|-
 congr 1;funext m
 split
 ·rfl
 ·rename_i q;rw[h m (by omega)];simp
@[simp] theorem GH.S1 {H:GH} {l:List GO} {o:GO}:(H.jC l).add o=H.jC (l ++ [o]):=by
 simp only[GH.jC,GH.add]
 congr 1
 ·funext m
  simp only[ew];by_cases e:m=H.next+l.length
  ·subst e;rw[if_pos rfl,if_neg (by omega)];simp
  ·rw[if_neg e];by_cases q:m<H.next
   ·rw[if_pos q,if_pos q]
   ·rw[if_neg q,if_neg q,List.getElem?_append]
    split
    ·rfl
    ·rename_i r;rw[List.getElem?_eq_none (by omega),List.getElem?_eq_none (by simp;omega)]
 ·simp;omega
theorem GH.JH{H:GH}(h:∀m,H.next<=m->H.obj m=none){o:GO}:H.add o=H.jC [o]:=by
 conv=>lhs;rw[<-GH.S0 h]
 rw[GH.S1];rfl
@[simp] theorem GH.SZ {H:GH} {l:List GO} {i:Nat}:(H.jC l).obj (H.next+i)=l[i]?:=by
 simp only[GH.jC];rw[if_neg (by omega)];congr 1;omega
@[simp] theorem GH.adds_obj0 {H:GH} {l:List GO}:(H.jC l).obj H.next=l[0]?:=GH.SZ (i:=0)
theorem GH.bp{H:GH}{l:List GO}{m:Nat}(h:m<H.next):(H.jC l).obj m=H.obj m:=if_pos h
@[simp] theorem GH.BH {H:GH} {l:List GO} {i:Nat} {o:GO}:(H.jC l).set (H.next+i) o=if i < l.length then H.jC (l.set i o) else (H.jC l).set (H.next+i) o:=by
 split
 ·rename_i hi;simp only[GH.jC,GH.set]
  congr 1
  ·funext m
   simp only[ew];by_cases e:m=H.next+i
   ·subst e;rw[if_pos rfl,if_neg (by omega)]
    simp[hi]
   ·rw[if_neg e]
    split
    ·rfl
    ·rw[List.getElem?_set,if_neg (by omega)]
  ·simp
 ·rfl
theorem GH.oR{H:GH}{a o:GO}{l:List GO}:(H.jC (a::l)).set H.next o=H.jC (o::l):=by
 have:=GH.BH (H:=H) (l:=a::l) (i:=0) (o:=o);simpa using this
attribute [-simp] GH.BH
theorem GH.lV{H:GH}{l:List GO}{i:Nat}{o:GO}(h:i<l.length):(H.jC l).set (H.next+i) o=H.jC (l.set i o):=by
 rw[GH.BH,if_pos h]
mutual
theorem wq{az aj:List ca}{a:Int}:∀(x:bw) (depth left l:Int),fF az aj a x depth left=some l->∀e∈bn x,qf e->0<=idx aj e.name
 |.mk op name n fold aD kids,depth,left,l,h,e,he,hr=>by
  rw[fF]at h
  split at h
  ·rename_i hc
   split at h
   ·rename_i l1 Dr;rw[bn]at he;rcases List.mem_cons.1 he with rfl|he
    ·have:=hc.2.2.2;unfold di at this;unfold qf at hr;simp only[bw.op_mk,bw.Ve]at hr|-;rw[if_neg (by omega)]at this
     rcases hr with hr|hr
     ·rw[if_pos hr]at this;exact(of_decide_eq_true this).1
     ·rw[if_neg (by omega),if_pos hr]at this;exact of_decide_eq_true this
    ·exact AK kids _ _ _ h e he hr
   ·cases h
  ·cases h
theorem AK{az aj:List ca}{a:Int}:∀(x:List bw) (depth left l:Int),eO az aj a x depth left=some l->∀e∈bu x,qf e->0<=idx aj e.name
 |[],depth,left,l,h,e,he,hr=>by rw[bu]at he;cases he
 |k::ks,depth,left,l,h,e,he,hr=>by
  rw[eO]at h
  split at h
  ·rename_i l' hl;rw[bu,List.mem_append]at he;rcases he with he|he
   ·exact wq k _ _ _ hl e he hr
   ·exact AK ks _ _ _ h e he hr
  ·cases h
end
class DFp(α:Type) where
 df:α->List AD
inductive NXD{α:Type}[X:LSp α][D:DFp α][b:LB](nt:Nat)(s:S):Prop
 |mk (a:α) (h1:X.m a<b.n) (h2:X.I a) (h3:(X.st a).at nt (D.df a) s)
theorem NXD.go{α:Type}{st:α->LS}{m:α->Nat}{I:α->Prop}{df:α->List AD}{n nt:Nat}{s:S}(a:α)(h1:m a<n)(h2:I a)(h3:(st a).at nt (df a) s):@NXD α ⟨st,m,I⟩ ⟨df⟩ ⟨n⟩ nt s:=@NXD.mk α ⟨st,m,I⟩ ⟨df⟩ ⟨n⟩ nt s a h1 h2 h3
theorem AW.loopD{P:Program}{c:Cx}{x:Code}{s:S}{Q:QT}{α:Type}(hc:c.ok P)(st:α->LS)(df:α->List AD)(m:α->Nat)(I:α->Prop)(a₀:α)(h₀:I a₀/\(st a₀).at s.nt (df a₀) s)
  (round:∀a,I a->@EV P c ⟨x⟩ ((st a).s s.nt (df a)) ⟨@TH ⟨λs'=>@NXD α ⟨st,m,I⟩ ⟨df⟩ ⟨m a⟩ s.nt s'⟩ Q⟩):@AW P c.rd ⟨.loop x⟩ s Q:=by
 refine eV.loop (λn s'=>∃a,m a=n/\I a/\(st a).at s.nt (df a) s') ⟨m a₀,a₀,rfl,h₀.1,h₀.2⟩ λn s' ⟨a,hm,hI,sH⟩=>?_
 obtain⟨_,_,_,q1,q2⟩:=id sH;refine eV.at (st a) (by rw[q1,q2];exact sH) ?_
 rw[q1,q2];refine(EV.sound hc (round a hI)).mono λe s2 q=>?_
 cases e with
 |normal=>obtain⟨a',h1,h2,h3⟩:=q;exact⟨m a',hm▸h1,a',rfl,h2,h3⟩
 |_=>exact q
def uu(H:GH)(ms:List Nat):GH:=ms.foldl GH.del H
theorem iS:∀(ms:List Nat) (H:GH),(uu H ms).next=H.next
 |[],H=>rfl
 |n::ms,H=>by simp only[uu,List.foldl_cons];exact iS ms (H.del n)
theorem iz:∀(ms:List Nat) (H:GH) (k:Nat),k∉ms->(uu H ms).obj k=H.obj k
 |[],H,k,_=>rfl
 |n::ms,H,k,h=>by
  simp only[uu,List.foldl_cons];have:=iz ms (H.del n) k (λe=>h (List.mem_cons_of_mem _ e))
  simp only[uu]at this;rw[this,GH.ny,if_neg (λe=>h (by simp[e]))]
theorem gD.del{H:GH}(h:gD H)(n:Nat):gD (H.del n):=by
 refine⟨λm hm=>?_,λm o ho=>?_⟩
 ·have hm':H.next<=m:=hm;rw[GH.ny];split
  ·rfl
  ·exact h.none m hm'
 ·rw[GH.ny]at ho
  split at ho
  ·cases ho
  ·exact h.nb m o ho
theorem gD.uu:∀(ms:List Nat) {H:GH},gD H->gD (uu H ms)
 |[],H,h=>h
 |n::ms,H,h=>by
  have:=gD.uu ms (h.del n);simpa[Go.Aft.uu]using this
theorem AW.withN{P:Program}{c:Cx}{x:Code}{s:S}{Q:QT}(h:gD s.H->@AW P c.rd ⟨x⟩ s Q):@AW P c.rd ⟨x⟩ s Q:=λE a w hs=>h hs.gD E a w hs
theorem lE{P:Program}{c:Cx}{rs:List ResultVar}{s:S}{H0:GH}{R:CE->GH->Prop}{ds:List AD}{m:DM}:∀(ms:List Nat) (H:GH),ms.Nodup->(∀n∈ms,H.obj n=some .qm)->eY P c rs s H0 R ds m (uu H ms)->eY P c rs s H0 R (ms.map .mark++ds) m H
 |[],H,_,_,h=>h
 |n::ms,H,uk,hm,h=>by
  rw[List.nodup_cons]at uk;refine⟨hm n (by simp),lE ms (H.del n) uk.2 (λk hk=>?_) h⟩
  rw[GH.ny,if_neg (λe=>uk.1 (by rw[<-e];exact hk))]
  exact hm k (by simp[hk])
open Classical in
theorem qD(p:Prog)(lG:∀s∈p.az++an p,cN s)(H:GH):
  aF prog 91 [lv (ax p)] H λce H'=>if formed p then(∃n,ce=.ret (.gp n 0)/\zG p/\∃m1 m2 m3 a k,H.next<=n/\BM H' n m1 m2 m3 p.az (an p) a k)/\H.next<=H'.next/\∀m,m<H.next->H'.obj m=H.obj m else ce=.ret (.d (.k (.pointer none)))/\H'=H:=by
 have cc:=fZ (r:=none) (f:=91) (p:=aY [1] [2,28] []);refine aF.dV (fZ (r:=none) (f:=91) (p:=aY [1] [2,28] [])) func91 rfl call91 (by rw[ntmps91];simp) rfl λhf hw=>?_
 simp[ntmps91,results91,ax]at hf|-;refine AW.seq cc ?_;simp;refine AW.seq cc ?_;simp[GH.aq];refine AW.seq cc ?_;simp;have hdn:∀H2:GH,H.next<=H2.next->(∀m,m<H.next->H2.obj m=H.obj m)->Drop H H2 H:=λH2 h1 h2=>aO h1 h2 hw.none
 rw[GH.JH hw.none];refine EC.need (eb _ _) (λhb v=>?_) (λhb=>?_)
 rotate_left
 ·simp only[Bool.and_eq_true,decide_eq_true_eq]at hb;have hnf:¬formed p:=by
   rintro⟨⟨l,hl⟩,_⟩;unfold fh at hl;rw[if_neg (by omega)]at hl
   cases hl
  simp[hnf];refine λhz=>kp _ _ _ (by simp;rfl) rfl _ ?_
  simp[GH.oR];exact hdn _ (by simp) λm hm=>GH.bp hm
 simp only[Bool.and_eq_true,decide_eq_true_eq]at hb;simp;refine AW.seq cc ?_;simp;refine EC.of (Gj _) (λv H' hR=>?_) (λv H' hR=>?_)
 rotate_left
 ·cases hR.1
 obtain⟨q,rfl⟩:=hR;cases q;simp[GH.oR,GH.lV];refine AW.at (c:=wS none 91 (aY [1] [2,28] [])) ⟨[(1,.ip ((ax p).map .d) 0),(2,.gp H.next 0)],[],H.jC [.box [.gp (H.next+2) 0],.map jD,scp [.d (.k (.map none)),.d (.k (.map none)),.gm (H.next+1)] 0 0]⟩ (by simp[ax,scp]) ?_
 have hs1:∀s∈p.az,cN s:=λs hs=>lG s (List.mem_append_left _ hs)
 have hs2:∀s∈an p,cN s:=λs hs=>lG s (List.mem_append_right _ hs)
 have vm:=s7 p.az [] (.d (.k (.map none))) (H.jC [.box [.gp (H.next+2) 0],.map jD,scp [.d (.k (.map none)),.d (.k (.map none)),.gm (H.next+1)] 0 0]) hs1 (.inl ⟨rfl,rfl⟩);simp at vm;have hnf1:¬Ah p.az []->¬formed p:=λq=>by
  rintro⟨⟨l,hl⟩,_⟩;unfold fh at hl
  split at hl
  ·rename_i hd;refine q λi h=>?_
   have:=hd.2.2.2 i (by simp;omega)
   rw[List.getElem_append_left h,List.take_append_of_le_length (by omega)]at this
   exact⟨this.1,this.2,by simp⟩
  ·cases hl
 by_cases lg:Ah p.az []
 rotate_left
 ·simp only[if_neg lg]at vm;refine AW.seq cc ?_;refine AW.draw cc [] (.q 1<|.q 2<|.f (.cons 0 (.f<|.one 3<|.q 4<|.q 5<|.q 6<|.f<|.one 7<|.done) (.cons 3 (.q 0<|.q 4<|.q 5<|.q 6<|.f<|.one 7<|.done) (.nil)))) (by kernel_rfl) ?_
  simp[ax];refine⟨ya.of vm (λv H' hR sQ=>by cases hR.1) (λv H' env hR lH=>?_),ya.of vm (λv H' hR sQ=>by cases hR.1) (λv H' env hR lH=>?_)⟩
  all_goals
   obtain⟨q,rfl⟩:=hR;cases q;have hv:env 2=.gp H.next 0:=by
    have:=lH 2 rfl;simpa using this
   simp[hnf1 lg,hv];refine λhz=>kp _ _ _ (by simp;rfl) rfl _ ?_
   simp[GH.oR,hv];exact hdn _ (by simp) λm hm=>GH.bp hm
 simp only[if_pos lg]at vm;refine AW.join (c:=wS none 91 (aY [1] [2,28] [])) (λ_:Unit=>⟨[(1,.ip ((ax p).map .d) 0),(2,.gp H.next 0)],[],H.jC [.box [.gp (H.next+2) 0],.map jD,scp [.gm (H.next+3),.d (.k (.map none)),.gm (H.next+1)] 0 0,.map (dR p.az 0)]⟩)
  (λ_=>True) ?_ λ_ _=>?_
 ·refine AW.draw cc [] (.q 1<|.q 2<|.f (.cons 0 (.f<|.one 3<|.q 4<|.q 5<|.q 6<|.f<|.one 7<|.done) (.cons 3 (.q 0<|.q 4<|.q 5<|.q 6<|.f<|.one 7<|.done) (.nil)))) (by kernel_rfl) ?_
  simp[ax];refine⟨ya.of vm (λv H' hR sQ=>?_) (λv H' env hR lH=>by cases hR.1),ya.of vm (λv H' hR sQ=>?_) (λv H' env hR lH=>by cases hR.1)⟩
  all_goals
   obtain⟨q,rfl⟩:=hR;cases q;simp[GH.lV,scp];exact JN.go () trivial (by simp[scp,ax])
 have hea:aC prog 93 [sl (p.aj.map ez),.fn (.func 94) [] []] (sl ((an p).map rS)):=NW p.aj (by omega)
 simp only[sl_eq]at hea;have hn2:=s7 (an p) p.az (.gm (H.next+3)) (H.jC [.box [.gp (H.next+2) 0],.map jD,scp [.gm (H.next+3),.d (.k (.map none)),.gm (H.next+1)] 0 0,.map (dR p.az 0)]) hs2 (.inr ⟨_,rfl,by simp⟩)
 simp[scp]at hn2;have hnf2:¬Ah (an p) p.az->¬formed p:=λq=>by
  rintro⟨⟨l,hl⟩,_⟩;unfold fh at hl
  split at hl
  ·rename_i hd;refine q λi h=>?_
   have:=hd.2.2.2 (p.az.length+i) (by simp;omega)
   rw[List.getElem_append_right (by omega),List.take_append,List.take_of_length_le (by omega)]at this
   simp at this;exact⟨this.1,this.2.2,this.2.1⟩
  ·cases hl
 by_cases hk2:Ah (an p) p.az
 rotate_left
 ·simp only[if_neg hk2]at hn2;refine AW.seq cc ?_;refine AW.draw cc [(2,.n),(3,.n)] (.q 1<|.q 2<|.q 3<|.f (.cons 0 (.f<|.one 4<|.q 5<|.q 6<|.q 7<|.q 8<|.f<|.one 9<|.q 10<|.q 11<|.q 12<|.f<|.one 13<|.done) (.cons 4 (.q 5<|.q 6<|.q 7<|.q 8<|.f (.cons 0 (.f<|.one 9<|.q 10<|.q 11<|.q 12<|.f<|.one 13<|.done) (.cons 9 (.q 0<|.q 10<|.q 11<|.q 12<|.f<|.one 13<|.done) (.nil)))) (.nil)))) (by kernel_rfl) ?_
  simp[ax];refine FC.aJ hea ?_;simp[scp];refine⟨ya.of hn2 (λv H' hR sQ=>by cases hR.1) (λv H' env hR lH=>?_),ya.of hn2 (λv H' hR sQ=>by cases hR.1) (λv H' env hR lH=>?_),ya.of hn2 (λv H' hR sQ=>by cases hR.1) (λv H' env hR lH=>?_)⟩
  all_goals
   obtain⟨q,rfl⟩:=hR;cases q;have hv:env 2=.gp H.next 0:=by
    have:=lH 2 rfl;simpa using this
   simp[hnf2 hk2,hv];refine λhz=>kp _ _ _ (by simp;rfl) rfl _ ?_
   simp[GH.oR,hv];exact hdn _ (by simp) λm hm=>GH.bp hm
 simp only[if_pos hk2]at hn2;refine AW.join (c:=wS none 91 (aY [1] [2,28] [])) (λ_:Unit=>⟨[(1,.ip ((ax p).map .d) 0),(2,.gp H.next 0)],[],H.jC [.box [.gp (H.next+2) 0],.map jD,scp [.gm (H.next+3),.gm (H.next+4),.gm (H.next+1)] 0 0,.map (dR p.az 0),.map (dR (an p) 0)]⟩)
  (λ_=>True) ?_ λ_ _=>?_
 ·refine AW.draw cc [(2,.n),(3,.n)] (.q 1<|.q 2<|.q 3<|.f (.cons 0 (.f<|.one 4<|.q 5<|.q 6<|.q 7<|.q 8<|.f<|.one 9<|.q 10<|.q 11<|.q 12<|.f<|.one 13<|.done) (.cons 4 (.q 5<|.q 6<|.q 7<|.q 8<|.f (.cons 0 (.f<|.one 9<|.q 10<|.q 11<|.q 12<|.f<|.one 13<|.done) (.cons 9 (.q 0<|.q 10<|.q 11<|.q 12<|.f<|.one 13<|.done) (.nil)))) (.nil)))) (by kernel_rfl) ?_
  simp[ax];refine FC.aJ hea ?_;simp[scp];refine⟨ya.of hn2 (λv H' hR sQ=>?_) (λv H' env hR lH=>by cases hR.1),ya.of hn2 (λv H' hR sQ=>?_) (λv H' env hR lH=>by cases hR.1),ya.of hn2 (λv H' hR sQ=>?_) (λv H' env hR lH=>by cases hR.1)⟩
  all_goals
   obtain⟨q,rfl⟩:=hR;cases q;simp[GH.lV,scp];exact JN.go () trivial (by simp[scp,ax])
 have RI:oI (p.az++an p):=by
  intro i h;by_cases q:i<p.az.length
  ·rw[List.getElem_append_left q,List.take_append_of_le_length (by omega)]
   exact⟨(lg i q).1,(lg i q).2.1⟩
  ·rw[List.getElem_append_right (by omega),List.take_append,List.take_of_length_le (by omega)]
   have:=hk2 (i-p.az.length) (by simp at h;omega)
   refine⟨this.1,?_⟩;rw[List.mem_append];rintro(q2|q2)
   ·exact this.2.2 q2
   ·exact this.2.1 q2
 have RJ:fh p=iP p.az (an p) p.aj 0 60:=by
  unfold fh;rw[if_pos ⟨by omega,by omega,by omega,RI⟩]
 have yA:∀ahead nodes:Int,BM (H.jC [.box [.gp (H.next+2) 0],.map jD,scp [.gm (H.next+3),.gm (H.next+4),.gm (H.next+1)] ahead nodes,.map (dR p.az 0),.map (dR (an p) 0)]) (H.next+2) (H.next+3) (H.next+4) (H.next+1) p.az (an p) ahead nodes:=
  λahead nodes=>⟨by simp,by simp,by simp,by simp⟩
 refine AW.join (c:=wS none 91 (aY [1] [2,28] [])) (λa:Int×Int=>⟨[(1,.ip ((ax p).map .d) 0),(2,.gp H.next 0)],[],H.jC [.box [.gp (H.next+2) 0],.map jD,scp [.gm (H.next+3),.gm (H.next+4),.gm (H.next+1)] a.1 (60-a.2),.map (dR p.az 0),.map (dR (an p) 0)]⟩)
  (λa=>iP p.az (an p) p.aj 0 60=some a.2) (AW.ev cc ?_) λa ha=>?_
 ·simp[ax];refine AW.aU cc (λa:Nat×Int×Int=>⟨[(1,.ip ((ax p).map .d) 0),(2,.gp H.next 0),(50,.d (.sl (p.aj.map ez))),(51,aH p.aj.length),(52,aH a.1)],[],
    H.jC [.box [.gp (H.next+2) 0],.map jD,scp [.gm (H.next+3),.gm (H.next+4),.gm (H.next+1)] a.2.1 (60-a.2.2),.map (dR p.az 0),.map (dR (an p) 0)]⟩) (λa=>p.aj.length-a.1)
   (λa=>a.1<=p.aj.length/\0<=a.2.2/\a.2.2<=60/\iP p.az (an p) p.aj 0 60=iP p.az (an p) (p.aj.drop a.1) a.1 a.2.2) (0,0,60) ⟨⟨by simp,by simp,by simp,by simp⟩,by simp[ax]⟩ ?_
  rintro⟨i,ahead,left⟩ ⟨hi,hl0,Dr,hI⟩;simp only at hi hl0 Dr hI;simp[ax];refine⟨λh=>?_,λh=>?_⟩
  ·have hd:=List.drop_eq_getElem_cons h;rw[hd,iP]at hI;simp[h,List.getElem?_eq_getElem h,ez,ai,scp,GH.lV];have hx:=Gm p.az (an p) p.aj[i].exp _ _ _ _ _ i (60-left) 1 (yA i (60-left)) (by omega) (by omega) (by omega) (by omega)
   rw[show 60-(60-left)=left by omega]at hx
   simp[ai,scp]at hx;refine EC.of hx (λv H' hR=>?_) (λv H' hR=>?_)
   ·cases hl:fF p.az (an p) i p.aj[i].exp 1 left with
    |none=>rw[hl]at hR;cases hR.1
    |some l=>
     rw[hl]at hR hI;have hle:=lF _ _ _ _ hl;obtain⟨_,hH⟩:=hR;simp[GH.lV]at hH;subst hH;simp[aB h hf.2.1];exact NX.go (i+1,i,l) (by simp;omega) ⟨h,hle.1,by simp only;omega,by simpa using hI⟩ (by simp[ax,scp])
   ·cases hl:fF p.az (an p) i p.aj[i].exp 1 left with
    |some l=>rw[hl]at hR;obtain⟨⟨_,q⟩,_⟩:=hR;cases q
    |none=>
     rw[hl]at hR hI;obtain⟨q,m,hH⟩:=hR;simp[GH.lV]at hH;subst hH;cases q;have hnf:¬formed p:=by
      rintro⟨⟨l,hl⟩,_⟩;rw[RJ,hI]at hl;cases hl
     simp[hnf];refine λhz=>kp _ _ _ (by simp;rfl) rfl _ ?_
     simp[GH.oR];exact hdn _ (by simp) λm hm=>GH.bp hm
  ·have:p.aj.drop i=[]:=List.drop_eq_nil_of_le h;rw[this,iP]at hI;exact JN.go (ahead,left) hI (by simp[ax])
 ·have hrefs:zG p:=by
   intro i h e he hr;obtain⟨l1,l2,q1,q2,q3⟩:=vh _ _ _ _ ha (by omega) i h
   exact wq _ _ _ _ q1 e he hr
  refine AW.ev cc ?_;simp[ax];obtain⟨H5,hH5⟩:∃H5,H5=H.jC [.box [.gp (H.next+2) 0],.map jD,scp [.gm (H.next+3),.gm (H.next+4),.gm (H.next+1)] a.1 (60-a.2),.map (dR p.az 0),.map (dR (an p) 0)]:=⟨_,rfl⟩;have h5n:H5.next=H.next+5:=by rw[hH5];simp
  have h5l:∀m,m<H.next->H5.obj m=H.obj m:=λm hm=>by rw[hH5];exact GH.bp hm
  have h5b:H5.obj H.next=some (.box [.gp (H.next+2) 0]):=by rw[hH5];simp
  have h5s:=yA a.1 (60-a.2);rw[<-hH5]at h5s|-
  clear hH5
  have hform:Ez p->formed p:=λq=>⟨⟨_,RJ.trans ha⟩,q⟩
  refine AW.loopD cc (λb:Nat×GH×List Nat=>⟨[(1,.ip ((ax p).map .d) 0),(2,.gp H.next 0),(67,.d (.sl (p.aj.map ez))),(68,aH p.aj.length),(69,aH b.1)],[],b.2.1⟩) (λb=>b.2.2.map .mark++[.call 152 [] [.gp H.next 0]]) (λb=>p.aj.length-b.1)
   (λb=>b.1<=p.aj.length/\(∀j (h:j<p.aj.length),j<b.1->Path (fJ p) j j->∀e∈bn p.aj[j].exp,cD e=false)/\H.next+5<=b.2.1.next/\(∀m,m<H.next+5->b.2.1.obj m=H5.obj m)/\b.2.2.Nodup/\∀n∈b.2.2,H.next+5<=n/\n<b.2.1.next/\b.2.1.obj n=some .qm)
   (0,H5,[]) ⟨⟨by simp,λj hj h=>absurd h (by simp),by simp[h5n],λm hm=>rfl,by simp,by simp⟩,by simp[ax]⟩ ?_
  rintro⟨i,H',ms⟩ ⟨hi,A4,hn',ho',uk,PL⟩;simp only at hi A4 hn' ho' uk PL;simp[ax];have hb0:H'.obj H.next=some (.box [.gp (H.next+2) 0]):=by rw[ho' _ (by omega)];exact h5b
  have hs':BM H' (H.next+2) (H.next+3) (H.next+4) (H.next+1) p.az (an p) a.1 (60-a.2):=
   ⟨by rw[ho' _ (by omega)];exact h5s.sc,by rw[ho' _ (by omega)];exact h5s.o1,by rw[ho' _ (by omega)];exact h5s.o2,by rw[ho' _ (by omega)];exact h5s.o3⟩
  refine⟨λh=>?_,λh=>?_⟩
  ·have MU:=tN p hrefs _ _ _ _ _ _ i h H' hs';simp[ax]at MU;simp[h,List.getElem?_eq_getElem h,ez,ai,hb0];refine⟨by omega,EC.of MU (λv H2 hR=>?_) (λv H2 hR=>?_)⟩
   rotate_left
   ·cases hR.1
   obtain⟨q,es,uJ,hM⟩:=hR;cases q;have hkey:=eq_true hM.key;have Ru:H2.obj H'.next=some (.map es):=by rw[uJ,GH.au,if_pos rfl]
   have PN:∀m,m<H'.next->H2.obj m=H'.obj m:=λm hm=>by rw[uJ,GH.au,if_neg (by omega)]
   have hn2:H2.next=H'.next+1:=by rw[uJ];rfl
   cases hrb:py p i i with
   |false=>
    simp[Ru,hkey,hM.get,hrb];refine NXD.go (i+1,H2,ms) (by simp;omega) ⟨h,λj hj hji hp=>?_,by simp only;omega,λm hm=>by simp only;rw[PN m (by omega)];exact ho' m hm,uk,λn hn=>?_⟩ (by simp[ax,aB h hf.2.1])
    ·by_cases e:j=i
     ·subst e;simp[py]at hrb;exact absurd hp hrb
     ·exact A4 j hj (by simp only at hji;omega) hp
    ·have:=PL n hn;simp only;exact⟨this.1,by omega,by rw[PN n this.2.1];exact this.2.2⟩
   |true=>
    have hpath:Path (fJ p) i i:=by simp[py]at hrb;exact hrb
    have AZ:=o8 p.aj[i].exp;simp[ai]at AZ;simp[Ru,hkey,hM.get,hrb];refine EC.aJ AZ ?_;simp;refine AW.at (c:=wS none 91 (aY [1] [2,28] [])) ⟨[(1,.ip ((ax p).map .d) 0),(2,.gp H.next 0),(67,.d (.sl (p.aj.map ez))),(68,aH p.aj.length),(69,aH i),(82,ia p.aj[i].exp)],[],H2⟩ (by simp[ax,ia,LV.only,ai]) ?_
    refine AW.withN (c:=wS none 91 (aY [1] [2,28] [])) λqh=>?_
    simp only[LS.Cd]at qh;refine eV.rangeFunc rfl rfl (f:=164) (first:=[]) (cap:=[.ip ((aQ p.aj[i].exp).map .d) 0]) (by simp[ia]) (by simp[ia]) [] (by simp[mS]) (by simp[mS]) (by simp[ct,LV.nb]) ?_
    simp only[LS.Cd,List.nil_append,List.singleton_append];generalize hx:LP.mk _ _ _ _ _ _ _=x;have IA:x.f=91:=by rw[<-hx]
    have Fa:x.d=H2.next:=by rw[<-hx]
    have dc:∀t,(x.env t).nb (H2.next+2):=by
     rw[<-hx];intro t;simp[LV.nb]
    obtain⟨J,hJ⟩:∃J:Nat->GH->Prop,J=λk Hk=>Hk.obj (H2.next+1)=some (x.go .ready none)/\Hk.obj H2.next=some .qm/\(∀m,m<H2.next->Hk.obj m=H2.obj m)/\∀e∈(bn p.aj[i].exp).take k,cD e=false:=⟨_,rfl⟩
    obtain⟨Pn,hPn⟩:∃Pn:LV->GH->Prop,Pn=λy Hk=>y=bZ/\(∃st pend,Hk.obj (H2.next+1)=some (x.go st pend))/\Hk.obj H2.next=some .qm/\(∀m,m<H2.next->Hk.obj m=H2.obj m)/\∃e∈bn p.aj[i].exp,cD e=true:=⟨_,rfl⟩
    have ccR:∀l,(wS (some l) 91 (aY [1] [2,28] [])).ok prog:=λl=>fZ
    have hI:Iter prog (H2.next+1) (H2.next+2) (iN p.aj[i].exp) J (λ_=>False) Pn:=by
     refine⟨λ{i H1 H2} hj lH _=>?_,λh=>h.elim,λ{y Ha Hb} hj lH sQ=>?_,λ{i H1} hj m o hm ho=>?_,λh=>h.elim,λ{y Ha} hj m o hm ho=>?_,?_⟩
     ·rw[hJ]at hj|-;obtain⟨q1,q2,q3,q4⟩:=hj;exact⟨by rw[lH _ (by omega)];exact q1,by rw[lH _ (by omega)];exact q2,λm hm=>by rw[lH _ (by omega)];exact q3 m hm,q4⟩
     ·rw[hPn]at hj|-;obtain⟨q0,⟨st,pe,q1⟩,q2,q3,q4⟩:=hj;exact⟨by rw[q0];simp[bZ,LV.nb],q0,⟨st,pe,by rw[lH _ (by omega)];exact q1⟩,by rw[lH _ (by omega)];exact q2,λm hm=>by rw[lH _ (by omega)];exact q3 m hm,q4⟩
     ·rw[hJ]at hj;obtain⟨q1,q2,q3,q4⟩:=hj;by_cases e1:m=H2.next+1
      ·subst e1;rw[q1]at ho;cases ho;exact⟨by rw[Fa];omega,dc⟩
      ·by_cases e2:m=H2.next
       ·subst e2;rw[q2]at ho;cases ho;trivial
       ·rw[q3 m (by omega)]at ho;exact GO.eX (by omega) (qh.nb m o ho)
     ·rw[hPn]at hj;obtain⟨q0,⟨st,pe,q1⟩,q2,q3,q4⟩:=hj;by_cases e1:m=H2.next+1
      ·subst e1;rw[q1]at ho;cases ho;exact⟨by rw[Fa];omega,dc⟩
      ·by_cases e2:m=H2.next
       ·subst e2;rw[q2]at ho;cases ho;trivial
       ·rw[q3 m (by omega)]at ho;exact GO.eX (by omega) (qh.nb m o ho)
     ·intro k H1 r hr hN sP hj;rw[hJ]at hj;obtain⟨q1,q2,q3,q4⟩:=hj;obtain⟨e,he,rfl⟩:∃e,(bn p.aj[i].exp)[k]?=some e/\r=lv (aQ e):=by
       simp only[iN,List.getElem?_map,Option.map_eq_some_iff]at hr;obtain⟨e,h1,h2⟩:=hr;exact⟨e,h1,h2.symm⟩
      have fU:(bn p.aj[i].exp).take (k+1)=(bn p.aj[i].exp).take k++[e]:=by
       rw[List.take_add_one,he];rfl
      have M6:e∈bn p.aj[i].exp:=List.mem_of_getElem? he;refine dX.ofN (c:=λl=>wS (some l) 91 (aY [1] [2,28] [])) ccR (λl=>by simp[IA]) q1 ⟨_,by rw[IA];exact func91⟩ (by rw[<-hx];rfl) (by rw[<-hx];simp) λhz l=>?_
      have xa:=(congrArg LP.lu hx).symm;have xb:=(congrArg LP.body hx).symm;have xe:=(congrArg LP.env hx).symm;have xp:=(congrArg LP.ps hx).symm;have xn:=(congrArg LP.nt hx).symm;dsimp only at xa xb xe xp xn;rw[xa,xb,xe,xp,xn]
      clear xa xb xe xp xn hx
      simp[ai,mr];refine⟨q1,?_⟩;generalize jP:x.go .busy none=ob;refine AW.ev (ccR l) ?_;simp;have hlook:(e.op !=14&&(e.op !=7||decide (0<=e.n)))= !cD e:=by
       unfold cD;by_cases e1:e.op=14
       ·simp[e1]
       ·by_cases e2:e.op=7
        ·by_cases e3:0<=e.n
         ·simp[e2,e3]
         ·simp[e2,e3];omega
        ·simp[e1,e2]
      rw[hlook];refine⟨λq=>⟨q,λq2=>⟨q,q2⟩⟩,EC.need (eb _ _) (λhb v=>?_) (λhb=>?_)⟩
      ·have hb':cD e=false:=by simpa using hb
       simp;refine λOB=>⟨⟨.busy,none,by rw[GH.aX,jP]⟩,H1,?_,GH.same.refl,?_⟩
       ·rw[GH.set_set,GH.iH q1];exact sP.drop (Nat.le_refl _)
       ·rw[hJ];refine⟨q1,q2,q3,λe' he'=>?_⟩
        rw[fU,List.mem_append]at he';rcases he' with he'|he'
        ·exact q4 e' he'
        ·simp only[List.mem_singleton]at he';rw[he'];exact hb'
      ·have hb':cD e=true:=by simpa using hb
       simp;refine λOB=>⟨_,OB.drop (by rw[GH.aL];exact Nat.le_refl _),by simp[bZ,LV.nb],⟨rfl,λm hm=>by rw[GH.ay,if_neg (by omega)]⟩,?_⟩
       rw[hPn];exact⟨rfl,⟨.busy,none,by rw[GH.aX,jP]⟩,by rw[GH.ay,if_neg (by omega)];exact q2,λm hm=>by rw[GH.ay,if_neg (by omega)];exact q3 m hm,e,M6,hb'⟩
    have hj0:J 0 ((H2.add .qm).add (x.go .ready none)):=by
     rw[hJ];exact⟨by rw[GH.au,GH.aq,if_pos rfl],by rw[GH.au,GH.aq,if_neg (by omega),GH.au,if_pos rfl],λm hm=>by rw[GH.au,GH.aq,if_neg (by omega),GH.au,if_neg (by omega)],by simp⟩
    have hall:=v8 hI (by omega) ((H2.add .qm).add (x.go .ready none)) (by rw[GH.aq,GH.aq];omega) hj0
    refine hall.mono λce H3 hR=>?_
    obtain⟨hs3,hR⟩:=hR;have hn3:H3.next=H2.next+2:=by rw[hs3.next,GH.aq,GH.aq]
    cases ce with
    |dY y=>
     rw[hPn]at hR;obtain⟨rfl,⟨st,pe,q1⟩,q2,q3,e,he,hlk⟩:=hR;have hnf:¬formed p:=λhf=>by
      have:=hf.2 i h hpath e he;rw[hlk]at this;cases this
     simp only[Qx];simp[hnf];have hnot:∀m,m<H.next+5->m∉ms:=λm hm q=>by have:=(PL m q).1;omega
     have hdb:(uu (H3.del x.d) ms).obj H.next=some (.box [.gp (H.next+2) 0]):=by
      rw[iz _ _ _ (hnot _ (by omega)),GH.ny,if_neg (by rw[Fa];omega),q3 _ (by omega),PN _ (by omega)];exact hb0
     refine λOB=>⟨by rw[Fa];exact q2,lE ms (H3.del x.d) uk (λn hn=>?_) ⟨?_,kp _ _ _ hdb rfl _ ?_⟩⟩
     ·have:=PL n hn;rw[GH.ny,if_neg (by rw[Fa];omega),q3 _ (by omega),PN _ (by omega)];exact this.2.2
     ·simp[ct,LV.nb,iS,GH.Sx];omega
     ·simp[GH.ay];refine hdn _ (by rw[GH.aL,iS];show H.next<=H3.next;omega) λm hm=>?_
      rw[GH.ay,if_neg (by omega),iz _ _ _ (hnot _ (by omega))]
      show ew H3.obj x.d none m=H.obj m
      rw[aW _ _ (by rw[Fa];omega),q3 _ (by omega),PN _ (by omega),ho' _ (by omega),h5l _ hm]
    |ret v=>
     rcases hR with hR|hR
     ·rw[hJ]at hR;obtain⟨q1,q2,q3,q4⟩:=hR;rw[List.take_length]at q4;refine⟨.ready,none,q1,by simp,?_⟩
      simp[xO,Fa];refine NXD.go (i+1,H3.set (H2.next+1) (x.go .exhausted none),H2.next::ms) (by simp;omega) ⟨h,λj hj hji hp=>?_,by simp only[GH.aL];omega,λm hm=>?_,?_,λn hn=>?_⟩ (by simp[ax,aB h hf.2.1])
      ·by_cases e:j=i
       ·subst e;exact q4
       ·exact A4 j hj (by simp only at hji;omega) hp
      ·simp only;rw[GH.ay,if_neg (by omega),q3 _ (by omega),PN _ (by omega)]
       exact ho' m hm
      ·simp only;refine List.nodup_cons.2 ⟨λhq=>?_,uk⟩
       have:=(PL _ hq).2.1;omega
      ·simp only at hn|-;rcases List.mem_cons.1 hn with rfl|hn
       ·exact⟨by omega,by rw[GH.aL];omega,by rw[GH.ay,if_neg (by omega)];exact q2⟩
       ·have:=PL n hn;exact⟨this.1,by rw[GH.aL];omega,by rw[GH.ay,if_neg (by omega),q3 _ (by omega),PN _ (by omega)];exact this.2.2⟩
     ·exact hR.elim
  ·simp[hb0];refine⟨by omega,λhz=>?_⟩
   rw[GH.iH hb0]at hz|-;have hf:formed p:=hform λj hj=>A4 j hj (by omega)
   refine lE ms H' uk (λn hn=>(PL n hn).2.2) ?_
   have hnot:∀m,m<H.next+5->m∉ms:=λm hm q=>by have:=(PL m q).1;omega
   have hdb:(uu H' ms).obj H.next=some (.box [.gp (H.next+2) 0]):=by rw[iz _ _ _ (hnot _ (by omega))];exact hb0
   refine⟨by simp[ct,LV.nb,iS];omega,Ih _ _ _ ?_⟩
   simp[hf,hdb];have hzd:=hz.uu ms;have pL:∀m,m<H.next->(uu H' ms).obj m=H.obj m:=λm hm=>by rw[iz _ _ _ (hnot _ (by omega)),ho' m (by omega),h5l m hm]
   have hsd:BM (uu H' ms) (H.next+2) (H.next+3) (H.next+4) (H.next+1) p.az (an p) a.1 (60-a.2):=
    ⟨by rw[iz _ _ _ (hnot _ (by omega))];exact hs'.sc,by rw[iz _ _ _ (hnot _ (by omega))];exact hs'.o1,by rw[iz _ _ _ (hnot _ (by omega))];exact hs'.o2,by rw[iz _ _ _ (hnot _ (by omega))];exact hs'.o3⟩
   exact⟨_,hzd.drop (by rw[iS];omega),by rw[iS];omega,⟨hrefs,_,_,_,_,_,hsd⟩,by rw[iS];omega,pL⟩
open Classical in
theorem zm(p:Prog)(lG:∀s∈p.az++an p,cN s):aC prog 64 [lv (ax p)] (aH (if formed p then 0 else 2)):=by
 intro H;have cc:=ar (p:=aY [1] [] []);refine aF.bD (ar (p:=aY [1] [] [])) func64 rfl call64 (by rw[ntmps64];simp) rfl λhf hw=>?_
 have hl:=qD p lG H;simp[ax]at hl;simp[ntmps64,results64,ax];refine EC.of hl (λv H2 hR=>?_) (λv H2 hR=>?_)
 ·by_cases hq:formed p
  ·rw[if_pos hq]at hR;obtain⟨⟨n,q,_⟩,h1,h2⟩:=hR;cases q;simp[hq];exact λhz=>aO h1 h2 hw.none
  ·rw[if_neg hq]at hR;obtain⟨q,rfl⟩:=hR;cases q;simp[hq];exact λhz=>hz.drop (Nat.le_refl _)
 ·split at hR
  ·obtain⟨⟨n,q,_⟩,_⟩:=hR;cases q
  ·cases hR.1
mutual
theorem Io{az aj:List ca}{a:Int}:∀(x:bw) (depth left l:Int),fF az aj a x depth left=some l->((bn x).length:Int)+l<=left
 |.mk op name n fold aD kids,depth,left,l,h=>by
  rw[fF]at h
  split at h
  ·rename_i hc
   split at h
   ·rename_i l1 h1;have h1:=oz _ _ _ _ h1 (by omega)
    have:=Dl kids _ _ _ h (by omega)
    simp only[bn,List.length_cons];omega
   ·cases h
  ·cases h
theorem Dl{az aj:List ca}{a:Int}:∀(x:List bw) (depth left l:Int),eO az aj a x depth left=some l->0<=left->((bu x).length:Int)+l<=left
 |[],depth,left,l,h,h0=>by rw[eO]at h;cases h;simp[bu]
 |k::ks,depth,left,l,h,h0=>by
  rw[eO]at h
  split at h
  ·rename_i l' hl;have h1:=Io k _ _ _ hl;have h2:=lF _ _ _ _ hl;have h3:=Dl ks _ _ _ h (by omega)
   simp only[bu,List.length_append];omega
  ·cases h
end
def Km(p:Prog):List (List Nat):=p.aj.map λd=>(jE (an p) (bn d.exp)).map Int.toNat
structure Good(p:Prog):Prop where
 n6:p.aj.length<=6
 len:∀d∈p.aj,(bn d.exp).length<=60
 ref:∀d∈p.aj,∀e∈bn d.exp,qf e->0<=idx (an p) e.name
theorem Good.of{p:Prog}{l:Int}(h:fh p=some l):Good p:=by
 unfold fh at h
 split at h
 ·rename_i hc;have key:∀d∈p.aj,∃a l1 l2,fF p.az (an p) a d.exp 1 l1=some l2/\l1<=60:=λd hd=>by
   obtain⟨i,hi,rfl⟩:=List.mem_iff_getElem.1 hd;obtain⟨l1,l2,q1,q2,q3⟩:=vh _ _ _ _ h (by omega) i hi
   exact⟨_,l1,l2,q1,q3⟩
  refine⟨hc.2.2.1,λd hd=>?_,λd hd e he hr=>?_⟩
  ·obtain⟨a,l1,l2,q,q2⟩:=key d hd;have:=Io _ _ _ _ q;have:=lF _ _ _ _ q;omega
  ·obtain⟨a,l1,l2,q,q2⟩:=key d hd;exact wq _ _ _ _ q e he hr
 ·cases h
theorem sw{names:List ca}{l:List bw}{x:Int}:x∈jE names l↔∃e∈l,qf e/\idx names e.name=x:=by
 simp only[jE,List.mem_map,List.mem_filter,AN,decide_eq_true_eq,qf];exact⟨λ⟨e,⟨h1,h2⟩,h3⟩=>⟨e,h1,h2,h3⟩,λ⟨e,h1,h2,h3⟩=>⟨e,⟨h1,h2⟩,h3⟩⟩
theorem o7(p:Prog):(Km p).length=p.aj.length:=by simp[Km]
theorem UP(p:Prog){i:Nat}(h:i<p.aj.length):(Km p).getD i []=(jE (an p) (bn p.aj[i].exp)).map Int.toNat:=by
 simp[Km,List.getD,List.getElem?_eq_getElem h]
theorem Gg{p:Prog}(g:Good p):(p.aj.map λd=>jE (an p) (bn d.exp)).map rL=(Km p).map rT:=by
 simp only[Km,List.map_map];refine List.map_congr_left λd hd=>?_
 simp only[Function.comp,rL,rT,List.map_map]
 congr 2
 refine List.map_congr_left λx hx=>?_
 obtain⟨e,h1,h2,rfl⟩:=sw.1 hx;have:=g.ref d hd e h1 h2;simp only[Function.comp];rw[Int.toNat_of_nonneg this]
theorem Mr{p:Prog}(g:Good p):∀l∈Km p,∀x∈l,x<(Km p).length:=λl hl x hx=>by
 rw[o7];obtain⟨d,hd,rfl⟩:=List.mem_map.1 hl;obtain⟨y,hy,rfl⟩:=List.mem_map.1 hx;obtain⟨e,h1,h2,rfl⟩:=sw.1 hy;have h3:=g.ref d hd e h1 h2;have h4:=nM (an p) e.name;have h5:(an p).length=p.aj.length:=by simp[an]
 omega
theorem sum_le{l:List Nat}{c:Nat}:(∀x∈l,x<=c)->l.sum<=l.length*c:=by
 induction l with
 |nil=>simp
 |cons y l ih=>
  intro h;have h1:=h y (by simp)
  have h2:=ih λx hx=>h x (List.mem_cons_of_mem _ hx)
  simp only[List.sum_cons,List.length_cons,Nat.add_mul];omega
theorem Mq{p:Prog}(g:Good p):((Km p).map List.length).sum<=10000:=by
 have:=sum_le (l:=(Km p).map List.length) (c:=60) λx hx=>by
  obtain⟨l,hl,rfl⟩:=List.mem_map.1 hx;obtain⟨d,hd,rfl⟩:=List.mem_map.1 hl;have h1:=g.len d hd;have h2:(jE (an p) (bn d.exp)).length<=(bn d.exp).length:=by rw[jE,List.length_map];exact List.length_filter_le _ _
  rw[List.length_map];omega
 rw[List.length_map,o7]at this;have:=g.n6;have:p.aj.length*60<=6*60:=Nat.mul_le_mul_right _ this;omega
theorem Gf{p:Prog}(g:Good p)(i k:Nat):k∈(Km p).getD i []↔fJ p i k:=by
 by_cases h:i<p.aj.length
 ·rw[UP p h,List.mem_map];constructor
  ·rintro⟨x,hx,rfl⟩;obtain⟨e,h1,h2,rfl⟩:=sw.1 hx;exact⟨h,e,h1,h2,(Int.toNat_of_nonneg (g.ref _ (List.getElem_mem h) e h1 h2)).symm⟩
  ·rintro⟨_,e,h1,h2,h3⟩;exact⟨_,sw.2 ⟨e,h1,h2,rfl⟩,by omega⟩
 ·constructor
  ·intro q;rw[List.getD,List.getElem?_eq_none (by rw[o7];omega)]at q
   cases q
  ·rintro⟨q,_⟩;exact absurd q h
theorem Qb{p:Prog}(g:Good p)(i k:Nat):Path (λa b=>b∈(Km p).getD a []) i k↔Path (fJ p) i k:=⟨Path.congr λi k=>(Gf g i k).1,Path.congr λi k=>(Gf g i k).2⟩
open Classical in
noncomputable def bh (p:Prog) (i k:Nat):Bool:=decide (Path (fJ p) i k)
open Classical in
theorem z8{p:Prog}(g:Good p):px (Km p)=Aw p.aj.length (bh p):=by
 simp only[px,Aw,o7];refine List.map_congr_left λi _=>?_
 simp only[oq,o7];refine List.map_congr_left λj _=>?_
 rw[Bool.eq_iff_iff,bh,decide_eq_true_eq,decide_eq_true_eq];exact Qb g i j
theorem xo{p:Prog}(g:Good p):aC prog 128 [lv (ax p)] (sl ((dG p.aj.length (bh p)).map rT)):=by
 refine Cg p _ _ g.n6 ?_;have h1:=xm p g.n6 λd hd=>Nat.le_trans (g.len d hd) (by omega)
 rw[Gg g]at h1;have h2:=tf p (Km p) (o7 p) g.n6 (Mr g) (Mq g) h1;rw[z8 g]at h2;exact h2
theorem Fs{p:Prog}(g:Good p):Ez p↔∀ring∈dG p.aj.length (bh p),∀k∈ring,∀h:k<p.aj.length,(bn p.aj[k].exp).any cD=false:=by
 have ht:∀i j k,bh p i j=true->bh p j k=true->bh p i k=true:=λi j k h1 h2=>by
  simp only[bh,decide_eq_true_eq]at*;exact h1.trans h2
 constructor
 ·intro h ring hr k hk hkn;have:bh p k k=true:=(vR ht hkn).1 ⟨ring,hr,hk⟩;simp only[bh,decide_eq_true_eq]at this;have:=h k hkn this;rw[List.any_eq_false];exact λe he=>by rw[this e he];simp
 ·intro h i hi hp e he;obtain⟨ring,hr,hk⟩:=(vR ht hi).2 (by simp only[bh,decide_eq_true_eq];exact hp)
  have:=h ring hr i hk hi;rw[List.any_eq_false]at this;simpa using this e he
open Classical in
theorem KI(p:Prog)(lG:∀s∈p.az++an p,cN s):aC prog 66 [lv (ax p)] (.d (.k (.bool (decide (formed p))))):=by
 have cc:=ar (p:=aY [1] [] []);refine aC.vz (ar (p:=aY [1] [] [])) func66 rfl call66 (by rw[ntmps66];simp) rfl λhf H=>?_
 have hcn:=GY p lG;simp[ax]at hcn;simp[ntmps66,results66,ax]at hf|-;refine AW.seq cc ?_;simp;refine AW.seq cc ?_;simp;refine EC.aJ hcn ?_;cases hc:fh p with
 |none=>
  have:¬formed p:=by rintro⟨⟨l,hl⟩,_⟩;rw[hc]at hl;cases hl
  simp[jV,this]
 |some l=>
  have g:=Good.of hc;have hl:l<=60:=by
   unfold fh at hc
   split at hc
   ·exact(Ip _ _ _ _ hc (by omega)).2
   ·cases hc
  have hr:=xo g;simp[ax]at hr;obtain⟨W,hW⟩:∃W,dG p.aj.length (bh p)=W:=⟨_,rfl⟩;have hfr:formed p↔∀ring∈W,∀k∈ring,∀h:k<p.aj.length,(bn p.aj[k].exp).any cD=false:=by
   rw[<-hW,<-Fs g];exact⟨λh=>h.2,λh=>⟨⟨l,hc⟩,h⟩⟩
  have hbd:∀ring∈W,ring.length<=6/\∀k∈ring,k<p.aj.length:=λring hr=>by
   rw[<-hW]at hr;obtain⟨i,_,rfl⟩:=List.mem_map.1 hr;refine⟨?_,λk hk=>(bK.1 hk).1⟩
   have h1:(bO p.aj.length (bh p) i).length<=(List.range p.aj.length).length:=List.length_filter_le _ _;have:=g.n6;rw[List.length_range]at h1;omega
  have hWl:W.length<=6:=by
   rw[<-hW,dG,List.length_map];have h1:=List.length_filter_le (λi=>bh p i i&&(bO p.aj.length (bh p) i).head? ==some i) (List.range p.aj.length)
   have:=g.n6;rw[List.length_range]at h1;omega
  rw[hW]at hr;simp[jV];refine⟨λq=>by omega,λ_=>?_⟩
  refine AW.seq cc ?_;simp;refine EC.aJ hr ?_;simp;refine AW.ev cc ?_;simp;refine AW.aU cc (λi:Nat=>⟨[(1,.ip ((ax p).map .d) 0),(3,.d (.sl (W.map rT))),(4,aH i)],[],H⟩) (λi=>W.length-i)
   (λi=>i<=W.length/\∀j (h:j<W.length),j<i->∀k∈W[j],∀h:k<p.aj.length,(bn p.aj[k].exp).any cD=false) 0 ⟨⟨by simp,by simp⟩,by simp[ax]⟩ ?_
  rintro i ⟨hi,hI⟩;simp[ax];refine⟨λh=>?_,λh=>?_⟩
  ·have hi2:i<1000000:=by omega
   obtain⟨hrl,hrb⟩:=hbd _ (List.getElem_mem h);refine AW.aU cc (λk:Nat=>⟨[(1,.ip ((ax p).map .d) 0),(3,.d (.sl (W.map rT))),(4,aH i),(5,aH k)],[],H⟩) (λk=>W[i].length-k)
    (λk=>k<=W[i].length/\∀j (h:j<W[i].length),j<k->∀h:W[i][j]<p.aj.length,(bn p.aj[W[i][j]].exp).any cD=false) 0 ⟨⟨by simp,by simp⟩,by simp[ax]⟩ ?_
   rintro k ⟨hk,hK⟩;simp[h,List.getElem?_eq_getElem h,rT];refine⟨λjQ=>?_,λjQ=>?_⟩
   ·have hk2:k<1000000:=by omega
    have hx:W[i][k]<p.aj.length:=hrb _ (List.getElem_mem jQ);have hah:=G7 p.aj[W[i][k]].exp (Nat.le_trans (g.len _ (List.getElem_mem hx)) (by omega))
    simp[ai]at hah;refine AW.draw cc [(12,.n)] (.q 0<|.q 2<|.q 3<|.q 4<|.q 6<|.q 1<|.q 5<|.q 7<|.q 8<|.q 9<|.q 10<|.q 11<|.q 12<|.done) (by kernel_rfl) ?_
    simp[h,List.getElem?_eq_getElem h,jQ,List.getElem?_eq_getElem jQ,ax,rI,rT,hx,List.getElem?_eq_getElem hx,ez,ai];refine FC.aJ hah ?_;simp;refine⟨λx hx1 hx2 hfm=>?_,λhno=>?_⟩
    ·have:=hfr.1 hfm _ (List.getElem_mem h) _ (List.getElem_mem jQ) hx;rw[List.any_eq_false]at this;exact this x hx1 hx2
    ·refine NX.go (k+1) (show W[i].length-(k+1)<W[i].length-k by omega) ⟨jQ,λj hj hji hjn=>?_⟩ (by simp[ax,aB hk2])
     by_cases z:j=k
     ·subst z;rw[List.any_eq_false];exact λx hx1=>by rw[hno x hx1];simp
     ·exact hK j hj (by omega) hjn
   ·have e:k=W[i].length:=by omega
    subst e;refine NX.go (i+1) (Nat.sub_lt_sub_left h (Nat.lt_succ_self i)) ⟨h,λj hj hji c hc hcn=>?_⟩ (by simp[ax,aB hi2])
    by_cases z:j=i
    ·subst z;obtain⟨t,ht,rfl⟩:=List.mem_iff_getElem.1 hc;exact hK t ht ht hcn
    ·exact hI j hj (by omega) c hc hcn
  ·refine hfr.2 λring hr k hk hkn=>?_
   obtain⟨j,hj,rfl⟩:=List.mem_iff_getElem.1 hr;exact hI j hj (by omega) k hk hkn
def fitP(p:Prog):Prop:=∀s∈p.az++an p,cN s
def Lv(p:Prog)(d:Int):Prop:=formed p/\0<=d/\d<p.aj.length
open Classical in
noncomputable def plainV (p:Prog) (d:Int):LV:=
 if h:Lv p d then
  (match MA p (p.aj[d.toNat]'(by have:=h.2;omega)).exp with
  |(s,true)=>.dx [aH s.src,aH s.n,aH 0]
  |(_,false)=>.dx [aH 0,aH 0,aH 7])
 else .dx [aH 0,aH 0,aH 2]
open Classical in
noncomputable def passesV (p:Prog) (d:Int) (r:Rec):LV:=
 if h:Lv p d/\mm r=true then
  (match MA p (p.aj[d.toNat]'(by have:=h.1.2;omega)).exp with
  |(s,true)=>.dx [.d (.k (.bool (s.terms.all λc=>ek r 0 c !=0))),aH 0]
  |(_,false)=>.dx [.d (.k (.bool false)),aH 7])
 else .dx [.d (.k (.bool false)),aH 2]
theorem nr(n lo hi:Int):aC prog 252 [.d (.k (.int .i64 n)),.d (.k (.int .i64 lo)),.d (.k (.int .i64 hi))] (.d (.k (.bool (mD n lo hi)))):=by
 refine aC.body aP func252 rfl call252 (by rw[ntmps252];simp) rfl λ_ H=>?_
 simp[ntmps252,results252,mD]
theorem IL(r:Rec):aC prog 281 [lv (bN r)] (.d (.k (.bool (mm r)))):=by
 refine aC.body (ar (p:=aY [1] [] [])) func281 rfl call281 (by rw[ntmps281];simp) rfl λ_ H=>?_
 simp[ntmps281,results281,bN];refine EC.aJ (nr _ _ _) ?_;cases h1:mD r.at_ 0 200 with
 |false=>simp[mm,h1]
 |true=>
  simp;refine EC.aJ (nr _ _ _) ?_;cases h2:mD r.key (-1000000000) 1000000000 with
  |false=>simp[mm,h1,h2]
  |true=>
   simp;refine EC.aJ (nr _ _ _) ?_;simp[mm,h1,h2]
def qJ(n:dg):Bool:=mD n.id 0 999&&mD n.Mp 1 99&&mm n.aa
theorem Ds(n:dg):aC prog 272 [.agg [],lv (cI n)] (.d (.k (.bool (qJ n)))):=by
 refine aC.body (ar (p:=aY [2,3] [] [])) func272 rfl call272 (by rw[ntmps272];simp) rfl λ_ H=>?_
 have hr:=IL n.aa;simp[bN]at hr;simp[ntmps272,results272,cI,bN];refine EC.aJ (nr _ _ _) ?_;cases h1:mD n.id 0 999 with
 |false=>simp[qJ,h1]
 |true=>
  simp;refine EC.aJ (nr _ _ _) ?_;cases h2:mD n.Mp 1 99 with
  |false=>simp[qJ,h1,h2]
  |true=>
   simp;refine EC.aJ hr ?_;simp[qJ,h1,h2]
theorem OI(n:dg):aC prog 273 [.agg [],lv (cI n)] (.d (.k (.bool (qJ n&&decide (n.aa=yE))))):=by
 refine aC.body (ig (p:=aY [2,3] [] [])) func273 rfl call273 (by rw[ntmps273];simp) rfl λ_ H=>?_
 have hr:=Ds n;simp[cI,bN]at hr;simp[ntmps273,results273,cI,bN];refine EC.aJ hr ?_;cases h1:qJ n with
 |false=>simp[h1]
 |true=>
  obtain⟨d0,s0,i0,v0,a,b,c⟩:=n;simp[yE];rw[Bool.eq_iff_iff];simp
def vg(n:dg):Bool:=decide (n.id=0)&&decide (n.Mp=0)&&decide (n.aa.key=0/\n.aa.val=0)&&mD n.aa.at_ 0 201
theorem IN(n:dg):aC prog 274 [.agg [],lv (cI n)] (.d (.k (.bool (vg n)))):=by
 refine aC.body (ig (p:=aY [2,3] [] [])) func274 rfl call274 (by rw[ntmps274];simp) rfl λ_ H=>?_
 obtain⟨d0,s0,i0,v0,a,b,c⟩:=n;simp[ntmps274,results274,cI,bN];by_cases h:i0=0/\v0=0/\b=0/\c=0
 ·obtain⟨rfl,rfl,rfl,rfl⟩:=h;simp;refine EC.aJ (nr _ _ _) ?_;simp[vg]
 ·refine⟨λq1 q2 q3 q4=>absurd ⟨q1,q2,q3,q4⟩ h,λ_=>?_⟩
  have hb:(i0==0&&v0==0&&(b==0&&c==0))=false:=by
   rw[Bool.eq_false_iff];intro q;simp at q;exact h ⟨q.1.1,q.1.2,q.2.1,q.2.2⟩
  have hm:vg ⟨d0,s0,i0,v0,⟨a,b,c⟩⟩=false:=by
   rw[Bool.eq_false_iff];intro q;simp[vg]at q;exact h ⟨q.1.1.1,q.1.1.2,q.1.2.1,q.1.2.2⟩
  rw[hb,hm];simp
def Fv:List (Value×LV):=[(.int .i64 1,.fn (.func 272) [.agg []] []),(.int .i64 2,.fn (.func 273) [.agg []] []),(.int .i64 3,.fn (.func 274) [.agg []] [])]
theorem IQ(H:GH):aF prog 251 [] H λce H'=>ce=.ret (.gm H.next)/\H'=H.add (.map Fv):=by
 refine aF.bD aP func251 rfl call251 (by rw[ntmps251];simp) rfl λhf hw=>?_
 simp[ntmps251,results251,GH.au,GH.aq,GH.cT,KK.has,Sc.has,cg,gh,Fv];exact λhz=>hz.drop (by rw[GH.aq];omega)
def qi(n:dg)(az:Int):Bool:=mD n.src 0 (az-1)&&(if n.Kb=1 then qJ n else if n.Kb=2 then qJ n&&decide (n.aa=yE)else if n.Kb=3 then vg n else false)
theorem SM:(∀(a:Value) (b:LV),(a,b)∈Fv->(KK.sc (Sc.int .i64)).has a=true)=True:=by
 refine eq_true λa b hab=>?_
 simp only[Fv,List.mem_cons,List.not_mem_nil,or_false,Prod.mk.injEq]at hab;rcases hab with⟨rfl,_⟩|⟨rfl,_⟩|⟨rfl,_⟩<;>rfl
theorem IM(n:dg)(az:Int)(m1 m0:Nat)(H:GH)(h1:H.obj m1=some (.box [.gm m0]))(h0:H.obj m0=some (.map Fv))(hs:0<=az/\az<=4):
  aF prog 254 [lv (cI n),.gp m1 0,.ip [aH az] 0] H λce H'=>ce=.ret (.d (.k (.bool (!qi n az))))/\H'=H:=by
 have cc:=ar (p:=aY [3] [] []);refine aF.bD (ar (p:=aY [3] [] [])) func254 rfl call254 (by rw[ntmps254];simp) rfl λhf hw=>?_
 have l1:=hw.lt h1;have l0:=hw.lt h0;have c1:=Ds n;have c2:=OI n;have c3:=IN n;have w:IntKind.wrap .i64 (az-1)=az-1:=by rw[wrap64]<;>omega
 obtain⟨d0,s0,i0,v0,a,b,c⟩:=n;simp[cI,bN]at c1 c2 c3;have hd:(¬(d0=1\/ d0=2\/ d0=3))\/ (d0=1\/ d0=2\/ d0=3):=by omega
 rcases hd with hd|hd
 ·have e1:¬d0=1:=by omega
  have e2:¬d0=2:=by omega
  have e3:¬d0=3:=by omega
  simp[ntmps254,results254,h1,h0,cI,bN,SM];simp[Fv,bz,gh,e1,e2,e3,Ne.symm e1,Ne.symm e2,Ne.symm e3];exact λhz=>⟨hz.drop (Nat.le_refl _),by simp[qi,e1,e2,e3]⟩
 ·rcases hd with rfl|rfl|rfl
  all_goals
   simp[ntmps254,results254,h1,h0,cI,bN,SM];simp[Fv,bz,gh,w];refine EC.aJ (nr _ _ _) ?_;cases h2:mD s0 0 (az-1)with
   |false=>
    simp;exact λhz=>⟨hz.drop (Nat.le_refl _),by simp[qi,h2]⟩
   |true=>
    simp[l1,l0,h1,h0,LV.nb,ct]
    first
     |refine EC.aJ c1 ?_
     |refine EC.aJ c2 ?_
     |refine EC.aJ c3 ?_
    simp;exact λhz=>⟨hz.drop (Nat.le_refl _),by simp[qi,h2]⟩
theorem Aj(l:List dg)(q:dg->Bool)(f:FuncId)(cap:List LV)(H:GH)(hcap:ct H.next cap)(hc:∀n∈l,aF prog f ([lv (cI n)]++cap) H λce H'=>ce=.ret (.d (.k (.bool (q n))))/\H'=H):
  aF prog 275 [sl (l.map cI),.fn (.func f) [] cap] H λce H'=>ce=.ret (aH (AO q l))/\H'=H:=by
 have cc:=aP;refine aF.bD aP func275 rfl call275 (by rw[ntmps275];simp) rfl λhf hw=>?_
 simp[ntmps275,results275]at hf|-;refine AW.aU cc (λi:Nat=>⟨[(0,.d (.sl (l.map cI))),(1,.fn (.func f) [] cap),(7,aH l.length),(8,aH i)],[],H⟩) (λi=>l.length-i) (λi=>i<=l.length/\∀j (h:j<l.length),j<i->q l[j]=false) 0 ⟨by simp,by simp[LV.only,cQ _ hcap,dQ]⟩ ?_
 rintro i ⟨hi,hk⟩;simp;refine⟨λh=>?_,λh=>?_⟩
 ·have gG:=hc l[i] (List.getElem_mem h);simp[cI,bN]at gG;simp[h,List.getElem?_eq_getElem h,cI,bN];refine⟨hcap,EC.of gG (λv H2 hR=>?_) (λv H2 hR=>?_)⟩
  ·obtain⟨e,rfl⟩:=hR;cases e;simp[aB h hf.1.1];refine⟨λe=>λhz=>⟨hz.drop (Nat.le_refl _),(yN h e hk).symm⟩,λe=>NX.go (i+1) (Nat.sub_lt_sub_left h (Nat.lt_succ_self i)) ⟨h,λj hj hji=>?_⟩ (by simp[cQ _ hcap])⟩
   by_cases z:j=i
   ·subst z;exact e
   ·exact hk j hj (by omega)
  ·cases hR.1
 ·exact λhz=>⟨hz.drop (Nat.le_refl _),(sF λj hj=>hk j hj (by omega)).symm⟩
theorem vc(l:List dg)(q:dg->Bool)(f:FuncId)(cap:List LV)(H:GH)(hcap:ct H.next cap)(hc:∀n∈l,aF prog f ([lv (cI n)]++cap) H λce H'=>ce=.ret (.d (.k (.bool (q n))))/\H'=H):
  aF prog 253 [sl (l.map cI),.fn (.func f) [] cap] H λce H'=>ce=.ret (.d (.k (.bool (l.any q))))/\H'=H:=by
 have cc:=aP;refine aF.bD aP func253 rfl call253 (by rw[ntmps253];simp) rfl λhf hw=>?_
 have hi:=Aj l q f cap H hcap hc;simp at hi;simp[ntmps253,results253,LV.nb,ct,hcap];refine EC.of hi (λv H2 hR=>?_) (λv H2 hR=>?_)
 ·obtain⟨e,rfl⟩:=hR;cases e;simp;refine λhz=>⟨hz.drop (Nat.le_refl _),?_⟩
  rw[<-vl q l]
 ·cases hR.1
def qT(l:List dg)(az:Int):Bool:=mD az 1 4&&decide (l.length<=60)&& !l.any λn=>!qi n az
theorem LI(l:List dg)(az:Int):aC prog 221 [sl (l.map cI),aH az] (.d (.k (.bool (qT l az)))):=by
 intro H;have cc:=ar (p:=aY [3] [5] []);refine aF.bD (ar (p:=aY [3] [5] [])) func221 rfl call221 (by rw[ntmps221];simp) rfl λhf hw=>?_
 simp[ntmps221,results221]at hf|-;refine EC.of (IQ _) (λv H2 hR=>?_) (λv H2 hR=>?_)
 rotate_left
 ·cases hR.1
 obtain⟨e,rfl⟩:=hR;cases e;simp[GH.au,GH.aq,GH.cT];refine⟨by omega,?_⟩
 obtain⟨H2,uJ⟩:∃H2,((H.add (GO.map Fv)).add (GO.box [LV.d (DV.k (Value.map none))])).set (H.next+1) (GO.box [LV.gm H.next])=H2:=⟨_,rfl⟩;have n2:H2.next=H.next+2:=by rw[<-uJ];rfl
 have o0:H2.obj H.next=some (.map Fv):=by rw[<-uJ];simp[GH.ay,GH.au,GH.aq]
 have o1:H2.obj (H.next+1)=some (.box [.gm H.next]):=by rw[<-uJ];simp[GH.ay,GH.au,GH.aq]
 have hlo:∀m,m<H.next->H2.obj m=H.obj m:=λm hm=>by
  rw[<-uJ,GH.ay,if_neg (by omega),GH.au,GH.aq,if_neg (by omega),GH.au,if_neg (by omega)]
 rw[uJ]
 clear uJ
 refine EC.aJ (nr _ _ _) ?_;have uG:Drop H H2 H:=aO (by omega) hlo hw.none
 cases h1:mD az 1 4 with
 |false=>
  simp;exact λhz=>⟨uG,by simp[qT,h1]⟩
 |true=>
  by_cases h2:l.length<=60
  rotate_left
  ·have A7:¬((l.length:Int)<=60):=by omega
   simp[A7,h2];exact λhz=>⟨uG,by simp[qT,h2]⟩
  ·have A7:((l.length:Int)<=60):=by omega
   simp[A7,h2];have hs:0<=az/\az<=4:=by simp[mD]at h1;omega
   have J9:=vc l (λn=>!qi n az) 254 [.gp (H.next+1) 0,.ip [aH az] 0] H2 (by simp[LV.nb,ct];omega) λn hn=>IM n az (H.next+1) H.next H2 o1 o0 hs
   simp at J9;refine⟨by omega,EC.of J9 (λv H3 hR=>?_) (λv H3 hR=>?_)⟩
   ·obtain⟨e,rfl⟩:=hR;cases e;simp;exact λhz=>⟨uG,by simp[qT,h1,h2]⟩
   ·cases hR.1
theorem M3(n:dg):aC prog 255 [lv (cI n)] (.agg [aH n.src,aH n.id]):=by
 refine aC.body (ar (p:=aY [1] [] [])) func255 rfl call255 (by rw[ntmps255];simp) rfl λ_ H=>?_
 simp[ntmps255,results255,cI,bN]
def Bu(o:Option (Nat×Nat)):LV:=match o with
 |some (i,j)=>.dx [aH i,aH j,.d (.k (.bool true))]
 |none=>.dx [aH 0,aH 0,.d (.k (.bool false))]
theorem Bw{l:List dg}{k:Nat}(h:k<l.length):gT l k=(l.take k).findIdx? λa=>mL a l[k]:=by
 simp[gT,List.getElem?_eq_getElem h]
theorem Bv{l:List dg}{k:Nat}(h:k<l.length)(hn:∀j (hj:j<k),mL l[j] l[k]=false):gT l k=none:=by
 rw[Bw h,List.findIdx?_eq_none_iff];intro x hx;obtain⟨j,hj,rfl⟩:=List.mem_iff_getElem.1 hx;simp only[List.length_take]at hj;rw[List.getElem_take];exact hn j (by omega)
theorem Jr{l:List dg}{k i:Nat}(h:k<l.length)(hi:i<k)(hy:mL l[i] l[k]=true)(hn:∀j (hj:j<i),mL l[j] l[k]=false):gT l k=some i:=by
 rw[Bw h,List.findIdx?_eq_some_iff_getElem];refine⟨by simp;omega,by rw[List.getElem_take];exact hy,λj hj=>?_⟩
 rw[List.getElem_take,hn j hj];simp
theorem LJ(l:List dg):aC prog 222 [sl (l.map cI)] (Bu (pX l)):=by
 have cc:=ig (p:=aY [] [] []);refine aC.vz (ig (p:=aY [] [] [])) func222 rfl call222 (by rw[ntmps222];simp) rfl λhf H=>?_
 simp[ntmps222,results222]at hf|-;refine AW.seq cc ?_;simp;refine AW.scope cc ?_;simp;refine AW.aU cc (λk:Nat=>⟨[(0,.d (.sl (l.map cI))),(2,aH 0),(3,aH 0),(4,.d (.k (.bool false))),(9,.d (.sl (l.map cI))),(10,aH l.length),(11,aH k)],[],H⟩) (λk=>l.length-k)
  (λk=>k<=l.length/\∀j,j<k->gT l j=none) 0 ⟨by simp,by simp⟩ ?_
 rintro k ⟨hk,hI⟩;simp;refine⟨λh=>?_,λh=>?_⟩
 ·simp[h,List.getElem?_eq_getElem h,cI,bN];have jQ:k<=l.length:=by omega
  have hmin:min k l.length=k:=by omega
  refine⟨λh3=>?_,λh3=>⟨jQ,?_⟩⟩
  ·refine NX.go (k+1) (Nat.sub_lt_sub_left h (Nat.lt_succ_self k)) ⟨h,λj hj=>?_⟩ (by simp[aB h hf.1])
   by_cases z:j=k
   ·subst z;exact Bv h λi hi=>by simp[mL,h3]
   ·exact hI j (by omega)
  ·refine AW.aU cc (λi:Nat=>⟨[(0,.d (.sl (l.map cI))),(2,aH 0),(3,aH 0),(4,.d (.k (.bool false))),(5,aH k),(6,.lp 6 0),(9,.d (.sl (l.map cI))),(10,aH l.length),(11,aH k),(21,.d (.sl ((l.take k).map cI))),(22,aH k),(23,aH i)],[(6,(cI l[k]).map .d)],H⟩) (λi=>k-i)
    (λi=>i<=k/\∀j (hj:j<i) (hjk:j<k),mL l[j] l[k]=false) 0 ⟨⟨by simp,by simp⟩,by simp[cI,bN,hmin]⟩ ?_
   rintro i ⟨hi,hJ⟩;simp[cI,bN];refine⟨λhik=>?_,λhik=>?_⟩
   ·have Dt:i<l.length:=by omega
    have hit:i<(l.take k).length:=by simp;omega
    simp[hik,Dt,hit,hmin,List.getElem?_eq_getElem Dt,cI,bN];have oi:=M3 l[i];have ok:=M3 l[k];simp[cI,bN]at oi ok;refine AW.draw cc [(5,.n),(7,.n)] (.q 0<|.q 1<|.q 2<|.q 3<|.q 4<|.q 5<|.q 6<|.q 7<|.q 8<|.q 9<|.q 10<|.q 11<|.q 13<|.q 12<|.q 14<|.q 15<|.q 16<|.q 17<|.q 18<|.q 19<|.q 20<|.q 21<|.done) (by kernel_rfl) ?_
    generalize ha:l[i]=a at oi|-;generalize hb:l[k]=b at ok|-;simp[cI,bN];refine sV.aJ (λ_=>oi) ?_
    simp;refine sV.aJ (λ_=>ok) ?_
    simp;have h3b:¬b.Kb=3:=by rw[<-hb];exact h3
    have hne:a=b↔a.Kb=b.Kb/\a.src=b.src/\a.id=b.id/\a.Mp=b.Mp/\a.aa.at_=b.aa.at_/\a.aa.key=b.aa.key/\a.aa.val=b.aa.val:=by
     obtain⟨d0,s0,i0,v0,⟨x,y,z⟩⟩:=a;obtain⟨d1,s1,i1,v1,⟨x1,y1,z1⟩⟩:=b;simp
    refine⟨λq1 q2 q3 q4 q5=>?_,λq=>?_⟩
    ·have hc:mL l[i] l[k]=true:=by
      rw[ha,hb,mL,decide_eq_true_eq];refine⟨q1,h3b,q2,q3,q4,λe=>?_⟩
      have:=hne.1 e;omega
     have:pX l=some (i,k):=Jq h (λj hj=>hI j hj) (Jr h hik hc λj hj=>hJ j hj (by omega))
     rw[this];simp[Bu,LV.nb,ct]
    ·refine NX.go (i+1) (Nat.sub_lt_sub_left hik (Nat.lt_succ_self i)) ⟨hik,λj hj hjk=>?_⟩ (by simp[cI,bN,aB Dt hf.1,hb])
     by_cases z:j=i
     ·subst z;rw[ha,mL,decide_eq_false_iff_not];rintro⟨q1,_,q2,q3,q4,q5⟩;exact q5 (hne.2 (q q1 q2 q3 q4))
     ·have:=hJ j (by omega) hjk
      rw[hb]at this;exact this
   ·have:i=k:=by omega
    subst this;refine NX.go (i+1) (Nat.sub_lt_sub_left h (Nat.lt_succ_self i)) ⟨h,λj hj=>?_⟩ (by simp[aB h hf.1])
    by_cases z:j=i
    ·subst z;exact Bv h λi hi=>hJ i hi hi
    ·exact hI j (by omega)
 ·have:pX l=none:=x6 λj hj=>hI j (by omega)
  rw[this];simp[Bu,LV.nb,ct]
def iD(l:List dg)(az:Int):Bool:=qT l az&&decide (pX l=none)
theorem IP(l:List dg)(az:Int):aC prog 182 [sl (l.map cI),aH az] (.d (.k (.bool (iD l az)))):=by
 refine aC.body aP func182 rfl call182 (by rw[ntmps182];simp) rfl λhf H=>?_
 have h1:=LI l az;have h2:=LJ l;simp at h1 h2;simp[ntmps182,results182];refine EC.aJ h1 ?_;cases hp:qT l az with
 |false=>simp[iD,hp]
 |true=>
  simp;refine EC.aJ h2 ?_;cases hc:pX l with
  |none=>simp[Bu,iD,hp,hc]
  |some ij=>simp[Bu,iD,hp,hc]
theorem LK(l:List dg)(az:Int):aC prog 134 [sl (l.map cI),aH az] (aH (if iD l az=true then 0 else 2)):=by
 refine aC.body aP func134 rfl call134 (by rw[ntmps134];simp) rfl λhf H=>?_
 have h1:=IP l az;simp at h1;simp[ntmps134,results134];refine EC.aJ h1 ?_;cases hp:iD l az<;>simp
end Go.Aft
end
