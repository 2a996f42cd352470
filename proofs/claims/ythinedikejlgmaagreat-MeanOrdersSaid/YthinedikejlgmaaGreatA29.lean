import Derived.Test.YthinedikejlgmaaGreatA28
import Derived.Test.YthinedikejlgmaaGreatA26
set_option linter.all false
section
set_option maxRecDepth 20000
namespace Go.Aft
open Go.Proofs.Tryz
def GH.adds (H:GH) (l:List GO):GH:=⟨fun m=>if m < H.next then H.obj m else l[m - H.next]?,H.next+l.length⟩
@[simp] theorem GH.adds_next {H:GH} {l:List GO}:(H.adds l).next=H.next+l.length:=rfl
theorem GH.f0m {H:GH} (h:∀ m,H.next<=m->H.obj m=none):H.adds []=H:=by
 obtain ⟨f,k⟩:=H
 simp only [GH.adds] at h |-
 congr 1;funext m
 split
 ·rfl
 ·rename_i q;rw [h m (by omega)];simp
@[simp] theorem GH.adds_add {H:GH} {l:List GO} {o:GO}:(H.adds l).add o=H.adds (l ++ [o]):=by
 simp only [GH.adds,GH.add]
 congr 1
 ·funext m
  simp only [upd]
  by_cases e:m=H.next+l.length
  ·subst e;rw [if_pos rfl,if_neg (by omega)];simp
  ·rw [if_neg e]
   by_cases q:m < H.next
   ·rw [if_pos q,if_pos q]
   ·rw [if_neg q,if_neg q,List.getElem?_append]
    split
    ·rfl
    ·rename_i r
     rw [List.getElem?_eq_none (by omega),List.getElem?_eq_none (by simp;omega)]
 ·simp;omega
theorem GH.d7u {H:GH} (h:∀ m,H.next<=m->H.obj m=none) {o:GO}:H.add o=H.adds [o]:=by
 conv=>lhs;rw [<- GH.f0m h]
 rw [GH.adds_add];rfl
@[simp] theorem GH.adds_obj {H:GH} {l:List GO} {i:Nat}:(H.adds l).obj (H.next+i)=l[i]?:=by
 simp only [GH.adds];rw [if_neg (by omega)];congr 1;omega
@[simp] theorem GH.adds_obj0 {H:GH} {l:List GO}:(H.adds l).obj H.next=l[0]?:=GH.adds_obj (i:=0)
theorem GH.a0r {H:GH} {l:List GO} {m:Nat} (h:m < H.next):(H.adds l).obj m=H.obj m:=if_pos h
@[simp] theorem GH.adds_set {H:GH} {l:List GO} {i:Nat} {o:GO}:(H.adds l).set (H.next+i) o=if i < l.length then H.adds (l.set i o) else (H.adds l).set (H.next+i) o:=by
 split
 ·rename_i hi
  simp only [GH.adds,GH.set]
  congr 1
  ·funext m
   simp only [upd]
   by_cases e:m=H.next+i
   ·subst e;rw [if_pos rfl,if_neg (by omega)]
    simp [hi]
   ·rw [if_neg e]
    split
    ·rfl
    ·rw [List.getElem?_set,if_neg (by omega)]
  ·simp
 ·rfl
theorem GH.b0m {H:GH} {a o:GO} {l:List GO}:(H.adds (a :: l)).set H.next o=H.adds (o :: l):=by
 have:=GH.adds_set (H:=H) (l:=a :: l) (i:=0) (o:=o)
 simpa using this
attribute [-simp] GH.adds_set
theorem GH.a7w {H:GH} {l:List GO} {i:Nat} {o:GO} (h:i < l.length):(H.adds l).set (H.next+i) o=H.adds (l.set i o):=by
 rw [GH.adds_set,if_pos h]
mutual
theorem b9f {srcs defs:List Str} {a:Int}:∀ (x:Exp) (depth left l:Int),lExp srcs defs a x depth left=some l->∀ e ∈ allE x,b6j e->0<=idx defs e.name
 | .mk op name n fold a0k kids,depth,left,l,h,e,he,hr=>by
  rw [lExp] at h
  split at h
  ·rename_i hc
   split at h
   ·rename_i l1 hl1
    rw [allE] at he
    rcases List.mem_cons.1 he with rfl | he
    ·have:=hc.2.2.2
     unfold a2l at this
     unfold b6j at hr
     simp only [Exp.op_mk,Exp.name_mk] at hr |-
     rw [if_neg (by omega)] at this
     rcases hr with hr | hr
     ·rw [if_pos hr] at this;exact (of_decide_eq_true this).1
     ·rw [if_neg (by omega),if_pos hr] at this;exact of_decide_eq_true this
    ·exact c2w kids _ _ _ h e he hr
   ·cases h
  ·cases h
theorem c2w {srcs defs:List Str} {a:Int}:∀ (x:List Exp) (depth left l:Int),a3q srcs defs a x depth left=some l->∀ e ∈ a0y x,b6j e->0<=idx defs e.name
 | [],depth,left,l,h,e,he,hr=>by rw [a0y] at he;cases he
 | k :: ks,depth,left,l,h,e,he,hr=>by
  rw [a3q] at h
  split at h
  ·rename_i l' hl
   rw [a0y,List.mem_append] at he
   rcases he with he | he
   ·exact b9f k _ _ _ hl e he hr
   ·exact c2w ks _ _ _ h e he hr
  ·cases h
end
class DFp (α:Type) where
 df:α->List AD
inductive NXD {α:Type} [X:LSp α] [D:DFp α] [b:LB] (nt:Nat) (s:S):Prop
 | mk (a:α) (h1:X.m a < b.n) (h2:X.I a) (h3:(X.st a).at nt (D.df a) s)
theorem NXD.go {α:Type} {st:α->LS} {m:α->Nat} {I:α->Prop} {df:α->List AD} {n nt:Nat} {s:S} (a:α) (h1:m a < n) (h2:I a) (h3:(st a).at nt (df a) s):@NXD α ⟨st,m,I⟩ ⟨df⟩ ⟨n⟩ nt s:=@NXD.mk α ⟨st,m,I⟩ ⟨df⟩ ⟨n⟩ nt s a h1 h2 h3
theorem AW.f5g {P:Program} {c:Cx} {x:Code} {s:S} {Q:QT} {α:Type} (hc:c.ok P) (st:α->LS) (df:α->List AD) (m:α->Nat) (I:α->Prop) (a₀:α) (h₀:I a₀/\(st a₀).at s.nt (df a₀) s)
  (round:∀ a,I a->@EV P c ⟨x⟩ ((st a).s s.nt (df a)) ⟨@TH ⟨fun s'=>@NXD α ⟨st,m,I⟩ ⟨df⟩ ⟨m a⟩ s.nt s'⟩ Q⟩):@AW P c.rd ⟨.loop x⟩ s Q:=by
 refine AWp.loop (fun n s'=>∃ a,m a=n/\I a/\(st a).at s.nt (df a) s') ⟨m a₀,a₀,rfl,h₀.1,h₀.2⟩ fun n s' ⟨a,hm,hI,hat⟩=>?_
 obtain ⟨_,_,_,q1,q2⟩:=id hat
 refine AWp.at (st a) (by rw [q1,q2];exact hat) ?_
 rw [q1,q2]
 refine (EV.sound hc (round a hI)).mono fun e s2 q=>?_
 cases e with
 | normal=>obtain ⟨a',h1,h2,h3⟩:=q;exact ⟨m a',hm ▸ h1,a',rfl,h2,h3⟩
 | _=>exact q
def dels (H:GH) (ms:List Nat):GH:=ms.foldl GH.del H
theorem a4u:∀ (ms:List Nat) (H:GH),(dels H ms).next=H.next
 | [],H=>rfl
 | n :: ms,H=>by simp only [dels,List.foldl_cons];exact a4u ms (H.del n)
theorem a4o:∀ (ms:List Nat) (H:GH) (k:Nat),k ∉ ms->(dels H ms).obj k=H.obj k
 | [],H,k,_=>rfl
 | n :: ms,H,k,h=>by
  simp only [dels,List.foldl_cons]
  have:=a4o ms (H.del n) k (fun e=>h (List.mem_cons_of_mem _ e))
  simp only [dels] at this
  rw [this,GH.b0g,if_neg (fun e=>h (by simp [e]))]
theorem nbH.del {H:GH} (h:nbH H) (n:Nat):nbH (H.del n):=by
 refine ⟨fun m hm=>?_,fun m o ho=>?_⟩
 ·have hm':H.next<=m:=hm
  rw [GH.b0g];split
  ·rfl
  ·exact h.none m hm'
 ·rw [GH.b0g] at ho
  split at ho
  ·cases ho
  ·exact h.nb m o ho
theorem nbH.dels:∀ (ms:List Nat) {H:GH},nbH H->nbH (dels H ms)
 | [],H,h=>h
 | n :: ms,H,h=>by
  have:=nbH.dels ms (h.del n)
  simpa [Go.Aft.dels] using this
theorem AW.f5y {P:Program} {c:Cx} {x:Code} {s:S} {Q:QT} (h:nbH s.H->@AW P c.rd ⟨x⟩ s Q):@AW P c.rd ⟨x⟩ s Q:=fun E a w hs=>h hs.nbH E a w hs
theorem a6h {P:Program} {c:Cx} {rs:List ResultVar} {s:S} {H0:GH} {R:CE->GH->Prop} {ds:List AD} {m:DM}:∀ (ms:List Nat) (H:GH),ms.Nodup->(∀ n ∈ ms,H.obj n=some .dfr)->a3h P c rs s H0 R ds m (dels H ms)->a3h P c rs s H0 R (ms.map .mark ++ ds) m H
 | [],H,_,_,h=>h
 | n :: ms,H,hnd,hm,h=>by
  rw [List.nodup_cons] at hnd
  refine ⟨hm n (by simp),a6h ms (H.del n) hnd.2 (fun k hk=>?_) h⟩
  rw [GH.b0g,if_neg (fun e=>hnd.1 (by rw [<- e];exact hk))]
  exact hm k (by simp [hk])
open Classical in
theorem b1y (p:Prog) (hstr:∀ s ∈ p.srcs ++ a0d p,a2b s) (H:GH) :
  a0j prog 91 [lv (a0h p)] H fun ce H'=>if formed p then (∃ n,ce=.ret (.gp n 0)/\c7h p/\∃ m1 m2 m3 a k,H.next<=n/\Sco H' n m1 m2 m3 p.srcs (a0d p) a k)/\H.next<=H'.next/\∀ m,m < H.next->H'.obj m=H.obj m else ce=.ret (.d (.k (.pointer none)))/\H'=H:=by
 have cc:=a4i (r:=none) (f:=91) (p:=kds [1] [2,28] [])
 refine a0j.a3a (a4i (r:=none) (f:=91) (p:=kds [1] [2,28] [])) func91 rfl call91 (by rw [ntmps91];simp) rfl fun hf hw=>?_
 simp [ntmps91,results91,a0h] at hf |-
 refine AW.seq cc ?_
 simp
 refine AW.seq cc ?_
 simp [GH.a0a]
 refine AW.seq cc ?_
 simp
 have hdn:∀ H2:GH,H.next<=H2.next->(∀ m,m < H.next->H2.obj m=H.obj m)->Drop H H2 H:=fun H2 h1 h2=>a0m h1 h2 hw.none
 rw [GH.d7u hw.none]
 refine EC.need (a2i _ _) (fun hb v=>?_) (fun hb=>?_)
 rotate_left
 ·simp only [Bool.and_eq_true,decide_eq_true_eq] at hb
  have hnf:¬ formed p:=by
   rintro ⟨⟨l,hl⟩,_⟩
   unfold countM at hl
   rw [if_neg (by omega)] at hl
   cases hl
  simp [hnf]
  refine fun hz=>a5w _ _ _ (by simp;rfl) rfl _ ?_
  simp [GH.b0m]
  exact hdn _ (by simp) fun m hm=>GH.a0r hm
 simp only [Bool.and_eq_true,decide_eq_true_eq] at hb
 simp
 refine AW.seq cc ?_
 simp
 refine EC.of (d0y _) (fun v H' hR=>?_) (fun v H' hR=>?_)
 rotate_left
 ·cases hR.1
 obtain ⟨q,rfl⟩:=hR
 cases q
 simp [GH.b0m,GH.a7w]
 refine AW.at (c:=cxF none 91 (kds [1] [2,28] [])) ⟨[(1,.ip ((a0h p).map .d) 0),(2,.gp H.next 0)],[],H.adds [.box [.gp (H.next+2) 0],.map a8y,scp [.d (.k (.map none)),.d (.k (.map none)),.gm (H.next+1)] 0 0]⟩ (by simp [a0h,scp]) ?_
 have hs1:∀ s ∈ p.srcs,a2b s:=fun s hs=>hstr s (List.mem_append_left _ hs)
 have hs2:∀ s ∈ a0d p,a2b s:=fun s hs=>hstr s (List.mem_append_right _ hs)
 have hn1:=b2p p.srcs [] (.d (.k (.map none))) (H.adds [.box [.gp (H.next+2) 0],.map a8y,scp [.d (.k (.map none)),.d (.k (.map none)),.gm (H.next+1)] 0 0]) hs1 (.inl ⟨rfl,rfl⟩)
 simp at hn1
 have hnf1:¬ d2e p.srcs []->¬ formed p:=fun q=>by
  rintro ⟨⟨l,hl⟩,_⟩
  unfold countM at hl
  split at hl
  ·rename_i hd
   refine q fun i h=>?_
   have:=hd.2.2.2 i (by simp;omega)
   rw [List.getElem_append_left h,List.take_append_of_le_length (by omega)] at this
   exact ⟨this.1,this.2,by simp⟩
  ·cases hl
 by_cases hk1:d2e p.srcs []
 rotate_left
 ·simp only [if_neg hk1] at hn1
  refine AW.seq cc ?_
  refine AW.draw cc [] (.q 1<|.q 2<|.f (.cons 0 (.f<|.one 3<|.q 4<|.q 5<|.q 6<|.f<|.one 7<|.done) (.cons 3 (.q 0<|.q 4<|.q 5<|.q 6<|.f<|.one 7<|.done) (.nil)))) (by kernel_rfl) ?_
  simp [a0h]
  refine ⟨ECn.of hn1 (fun v H' hR hnx=>by cases hR.1) (fun v H' env hR hag=>?_),ECn.of hn1 (fun v H' hR hnx=>by cases hR.1) (fun v H' env hR hag=>?_)⟩
  all_goals
   obtain ⟨q,rfl⟩:=hR
   cases q
   have hv:env 2=.gp H.next 0:=by
    have:=hag 2 rfl
    simpa using this
   simp [hnf1 hk1,hv]
   refine fun hz=>a5w _ _ _ (by simp;rfl) rfl _ ?_
   simp [GH.b0m,hv]
   exact hdn _ (by simp) fun m hm=>GH.a0r hm
 simp only [if_pos hk1] at hn1
 refine AW.join (c:=cxF none 91 (kds [1] [2,28] [])) (fun _:Unit=>⟨[(1,.ip ((a0h p).map .d) 0),(2,.gp H.next 0)],[],H.adds [.box [.gp (H.next+2) 0],.map a8y,scp [.gm (H.next+3),.d (.k (.map none)),.gm (H.next+1)] 0 0,.map (a3e p.srcs 0)]⟩)
  (fun _=>True) ?_ fun _ _=>?_
 ·refine AW.draw cc [] (.q 1<|.q 2<|.f (.cons 0 (.f<|.one 3<|.q 4<|.q 5<|.q 6<|.f<|.one 7<|.done) (.cons 3 (.q 0<|.q 4<|.q 5<|.q 6<|.f<|.one 7<|.done) (.nil)))) (by kernel_rfl) ?_
  simp [a0h]
  refine ⟨ECn.of hn1 (fun v H' hR hnx=>?_) (fun v H' env hR hag=>by cases hR.1),ECn.of hn1 (fun v H' hR hnx=>?_) (fun v H' env hR hag=>by cases hR.1)⟩
  all_goals
   obtain ⟨q,rfl⟩:=hR
   cases q
   simp [GH.a7w,scp]
   exact JN.go () trivial (by simp [scp,a0h])
 have hea:AFun prog 93 [sl (p.defs.map rDef),.fn (.func 94) [] []] (sl ((a0d p).map rS)):=e1y p.defs (by omega)
 simp only [sl_eq] at hea
 have hn2:=b2p (a0d p) p.srcs (.gm (H.next+3)) (H.adds [.box [.gp (H.next+2) 0],.map a8y,scp [.gm (H.next+3),.d (.k (.map none)),.gm (H.next+1)] 0 0,.map (a3e p.srcs 0)]) hs2 (.inr ⟨_,rfl,by simp⟩)
 simp [scp] at hn2
 have hnf2:¬ d2e (a0d p) p.srcs->¬ formed p:=fun q=>by
  rintro ⟨⟨l,hl⟩,_⟩
  unfold countM at hl
  split at hl
  ·rename_i hd
   refine q fun i h=>?_
   have:=hd.2.2.2 (p.srcs.length+i) (by simp;omega)
   rw [List.getElem_append_right (by omega),List.take_append,List.take_of_length_le (by omega)] at this
   simp at this
   exact ⟨this.1,this.2.2,this.2.1⟩
  ·cases hl
 by_cases hk2:d2e (a0d p) p.srcs
 rotate_left
 ·simp only [if_neg hk2] at hn2
  refine AW.seq cc ?_
  refine AW.draw cc [(2,.n),(3,.n)] (.q 1<|.q 2<|.q 3<|.f (.cons 0 (.f<|.one 4<|.q 5<|.q 6<|.q 7<|.q 8<|.f<|.one 9<|.q 10<|.q 11<|.q 12<|.f<|.one 13<|.done) (.cons 4 (.q 5<|.q 6<|.q 7<|.q 8<|.f (.cons 0 (.f<|.one 9<|.q 10<|.q 11<|.q 12<|.f<|.one 13<|.done) (.cons 9 (.q 0<|.q 10<|.q 11<|.q 12<|.f<|.one 13<|.done) (.nil)))) (.nil)))) (by kernel_rfl) ?_
  simp [a0h]
  refine FC.afun hea ?_
  simp [scp]
  refine ⟨ECn.of hn2 (fun v H' hR hnx=>by cases hR.1) (fun v H' env hR hag=>?_),ECn.of hn2 (fun v H' hR hnx=>by cases hR.1) (fun v H' env hR hag=>?_),ECn.of hn2 (fun v H' hR hnx=>by cases hR.1) (fun v H' env hR hag=>?_)⟩
  all_goals
   obtain ⟨q,rfl⟩:=hR
   cases q
   have hv:env 2=.gp H.next 0:=by
    have:=hag 2 rfl
    simpa using this
   simp [hnf2 hk2,hv]
   refine fun hz=>a5w _ _ _ (by simp;rfl) rfl _ ?_
   simp [GH.b0m,hv]
   exact hdn _ (by simp) fun m hm=>GH.a0r hm
 simp only [if_pos hk2] at hn2
 refine AW.join (c:=cxF none 91 (kds [1] [2,28] [])) (fun _:Unit=>⟨[(1,.ip ((a0h p).map .d) 0),(2,.gp H.next 0)],[],H.adds [.box [.gp (H.next+2) 0],.map a8y,scp [.gm (H.next+3),.gm (H.next+4),.gm (H.next+1)] 0 0,.map (a3e p.srcs 0),.map (a3e (a0d p) 0)]⟩)
  (fun _=>True) ?_ fun _ _=>?_
 ·refine AW.draw cc [(2,.n),(3,.n)] (.q 1<|.q 2<|.q 3<|.f (.cons 0 (.f<|.one 4<|.q 5<|.q 6<|.q 7<|.q 8<|.f<|.one 9<|.q 10<|.q 11<|.q 12<|.f<|.one 13<|.done) (.cons 4 (.q 5<|.q 6<|.q 7<|.q 8<|.f (.cons 0 (.f<|.one 9<|.q 10<|.q 11<|.q 12<|.f<|.one 13<|.done) (.cons 9 (.q 0<|.q 10<|.q 11<|.q 12<|.f<|.one 13<|.done) (.nil)))) (.nil)))) (by kernel_rfl) ?_
  simp [a0h]
  refine FC.afun hea ?_
  simp [scp]
  refine ⟨ECn.of hn2 (fun v H' hR hnx=>?_) (fun v H' env hR hag=>by cases hR.1),ECn.of hn2 (fun v H' hR hnx=>?_) (fun v H' env hR hag=>by cases hR.1),ECn.of hn2 (fun v H' hR hnx=>?_) (fun v H' env hR hag=>by cases hR.1)⟩
  all_goals
   obtain ⟨q,rfl⟩:=hR
   cases q
   simp [GH.a7w,scp]
   exact JN.go () trivial (by simp [scp,a0h])
 have hdiff:b5a (p.srcs ++ a0d p):=by
  intro i h
  by_cases q:i < p.srcs.length
  ·rw [List.getElem_append_left q,List.take_append_of_le_length (by omega)]
   exact ⟨(hk1 i q).1,(hk1 i q).2.1⟩
  ·rw [List.getElem_append_right (by omega),List.take_append,List.take_of_length_le (by omega)]
   have:=hk2 (i - p.srcs.length) (by simp at h;omega)
   refine ⟨this.1,?_⟩
   rw [List.mem_append]
   rintro (q2 | q2)
   ·exact this.2.2 q2
   ·exact this.2.1 q2
 have hcount:countM p=a7l p.srcs (a0d p) p.defs 0 60:=by
  unfold countM
  rw [if_pos ⟨by omega,by omega,by omega,hdiff⟩]
 have hsco:∀ ahead nodes:Int,Sco (H.adds [.box [.gp (H.next+2) 0],.map a8y,scp [.gm (H.next+3),.gm (H.next+4),.gm (H.next+1)] ahead nodes,.map (a3e p.srcs 0),.map (a3e (a0d p) 0)]) (H.next+2) (H.next+3) (H.next+4) (H.next+1) p.srcs (a0d p) ahead nodes :=
  fun ahead nodes=>⟨by simp,by simp,by simp,by simp⟩
 refine AW.join (c:=cxF none 91 (kds [1] [2,28] [])) (fun a:Int × Int=>⟨[(1,.ip ((a0h p).map .d) 0),(2,.gp H.next 0)],[],H.adds [.box [.gp (H.next+2) 0],.map a8y,scp [.gm (H.next+3),.gm (H.next+4),.gm (H.next+1)] a.1 (60 - a.2),.map (a3e p.srcs 0),.map (a3e (a0d p) 0)]⟩)
  (fun a=>a7l p.srcs (a0d p) p.defs 0 60=some a.2) (AW.ev cc ?_) fun a ha=>?_
 ·simp [a0h]
  refine AW.a0w cc (fun a:Nat × Int × Int=>⟨[(1,.ip ((a0h p).map .d) 0),(2,.gp H.next 0),(50,.d (.sl (p.defs.map rDef))),(51,lvI p.defs.length),(52,lvI a.1)],[],
    H.adds [.box [.gp (H.next+2) 0],.map a8y,scp [.gm (H.next+3),.gm (H.next+4),.gm (H.next+1)] a.2.1 (60 - a.2.2),.map (a3e p.srcs 0),.map (a3e (a0d p) 0)]⟩) (fun a=>p.defs.length - a.1)
   (fun a=>a.1<=p.defs.length/\0<=a.2.2/\a.2.2<=60/\a7l p.srcs (a0d p) p.defs 0 60=a7l p.srcs (a0d p) (p.defs.drop a.1) a.1 a.2.2) (0,0,60) ⟨⟨by simp,by simp,by simp,by simp⟩,by simp [a0h]⟩ ?_
  rintro ⟨i,ahead,left⟩ ⟨hi,hl0,hl1,hI⟩
  simp only at hi hl0 hl1 hI
  simp [a0h]
  refine ⟨fun h=>?_,fun h=>?_⟩
  ·have hd:=List.drop_eq_getElem_cons h
   rw [hd,a7l] at hI
   simp [h,List.getElem?_eq_getElem h,rDef,a0c,scp,GH.a7w]
   have hx:=d5b p.srcs (a0d p) p.defs[i].exp _ _ _ _ _ i (60 - left) 1 (hsco i (60 - left)) (by omega) (by omega) (by omega) (by omega)
   rw [show 60 - (60 - left)=left by omega] at hx
   simp [a0c,scp] at hx
   refine EC.of hx (fun v H' hR=>?_) (fun v H' hR=>?_)
   ·cases hl:lExp p.srcs (a0d p) i p.defs[i].exp 1 left with
    | none=>rw [hl] at hR;cases hR.1
    | some l =>
     rw [hl] at hR hI
     have hle:=a8h _ _ _ _ hl
     obtain ⟨_,hH⟩:=hR
     simp [GH.a7w] at hH
     subst hH
     simp [wrap_succ h hf.2.1]
     exact NX.go (i+1,i,l) (by simp;omega) ⟨h,hle.1,by simp only;omega,by simpa using hI⟩ (by simp [a0h,scp])
   ·cases hl:lExp p.srcs (a0d p) i p.defs[i].exp 1 left with
    | some l=>rw [hl] at hR;obtain ⟨⟨_,q⟩,_⟩:=hR;cases q
    | none =>
     rw [hl] at hR hI
     obtain ⟨q,m,hH⟩:=hR
     simp [GH.a7w] at hH
     subst hH
     cases q
     have hnf:¬ formed p:=by
      rintro ⟨⟨l,hl⟩,_⟩
      rw [hcount,hI] at hl;cases hl
     simp [hnf]
     refine fun hz=>a5w _ _ _ (by simp;rfl) rfl _ ?_
     simp [GH.b0m]
     exact hdn _ (by simp) fun m hm=>GH.a0r hm
  ·have:p.defs.drop i=[]:=List.drop_eq_nil_of_le h
   rw [this,a7l] at hI
   exact JN.go (ahead,left) hI (by simp [a0h])
 ·have hrefs:c7h p:=by
   intro i h e he hr
   obtain ⟨l1,l2,q1,q2,q3⟩:=b6u _ _ _ _ ha (by omega) i h
   exact b9f _ _ _ _ q1 e he hr
  refine AW.ev cc ?_
  simp [a0h]
  obtain ⟨H5,hH5⟩:∃ H5,H5=H.adds [.box [.gp (H.next+2) 0],.map a8y,scp [.gm (H.next+3),.gm (H.next+4),.gm (H.next+1)] a.1 (60 - a.2),.map (a3e p.srcs 0),.map (a3e (a0d p) 0)]:=⟨_,rfl⟩
  have h5n:H5.next=H.next+5:=by rw [hH5];simp
  have h5l:∀ m,m < H.next->H5.obj m=H.obj m:=fun m hm=>by rw [hH5];exact GH.a0r hm
  have h5b:H5.obj H.next=some (.box [.gp (H.next+2) 0]):=by rw [hH5];simp
  have h5s:=hsco a.1 (60 - a.2)
  rw [<- hH5] at h5s |-
  clear hH5
  have hform:d1k p->formed p:=fun q=>⟨⟨_,hcount.trans ha⟩,q⟩
  refine AW.f5g cc (fun b:Nat × GH × List Nat=>⟨[(1,.ip ((a0h p).map .d) 0),(2,.gp H.next 0),(67,.d (.sl (p.defs.map rDef))),(68,lvI p.defs.length),(69,lvI b.1)],[],b.2.1⟩) (fun b=>b.2.2.map .mark ++ [.call 152 [] [.gp H.next 0]]) (fun b=>p.defs.length - b.1)
   (fun b=>b.1<=p.defs.length/\(∀ j (h:j < p.defs.length),j < b.1->Path (a3p p) j j->∀ e ∈ allE p.defs[j].exp,a1o e=false)/\H.next+5<=b.2.1.next/\(∀ m,m < H.next+5->b.2.1.obj m=H5.obj m)/\b.2.2.Nodup/\∀ n ∈ b.2.2,H.next+5<=n/\n < b.2.1.next/\b.2.1.obj n=some .dfr)
   (0,H5,[]) ⟨⟨by simp,fun j hj h=>absurd h (by simp),by simp [h5n],fun m hm=>rfl,by simp,by simp⟩,by simp [a0h]⟩ ?_
  rintro ⟨i,H',ms⟩ ⟨hi,hdone,hn',ho',hnd,hms⟩
  simp only at hi hdone hn' ho' hnd hms
  simp [a0h]
  have hb0:H'.obj H.next=some (.box [.gp (H.next+2) 0]):=by rw [ho' _ (by omega)];exact h5b
  have hs':Sco H' (H.next+2) (H.next+3) (H.next+4) (H.next+1) p.srcs (a0d p) a.1 (60 - a.2) :=
   ⟨by rw [ho' _ (by omega)];exact h5s.sc,by rw [ho' _ (by omega)];exact h5s.o1,by rw [ho' _ (by omega)];exact h5s.o2,by rw [ho' _ (by omega)];exact h5s.o3⟩
  refine ⟨fun h=>?_,fun h=>?_⟩
  ·have hre:=b4d p hrefs _ _ _ _ _ _ i h H' hs'
   simp [a0h] at hre
   simp [h,List.getElem?_eq_getElem h,rDef,a0c,hb0]
   refine ⟨by omega,EC.of hre (fun v H2 hR=>?_) (fun v H2 hR=>?_)⟩
   rotate_left
   ·cases hR.1
   obtain ⟨q,es,hH2,hM⟩:=hR
   cases q
   have hkey:=eq_true hM.key
   have hob2:H2.obj H'.next=some (.map es):=by rw [hH2,GH.a0b,if_pos rfl]
   have hl2:∀ m,m < H'.next->H2.obj m=H'.obj m:=fun m hm=>by rw [hH2,GH.a0b,if_neg (by omega)]
   have hn2:H2.next=H'.next+1:=by rw [hH2];rfl
   cases hrb:reachB p i i with
   | false =>
    simp [hob2,hkey,hM.get,hrb]
    refine NXD.go (i+1,H2,ms) (by simp;omega) ⟨h,fun j hj hji hp=>?_,by simp only;omega,fun m hm=>by simp only;rw [hl2 m (by omega)];exact ho' m hm,hnd,fun n hn=>?_⟩ (by simp [a0h,wrap_succ h hf.2.1])
    ·by_cases e:j=i
     ·subst e
      simp [reachB] at hrb
      exact absurd hp hrb
     ·exact hdone j hj (by simp only at hji;omega) hp
    ·have:=hms n hn
     simp only
     exact ⟨this.1,by omega,by rw [hl2 n this.2.1];exact this.2.2⟩
   | true =>
    have hpath:Path (a3p p) i i:=by simp [reachB] at hrb;exact hrb
    have hnod:=b0r p.defs[i].exp
    simp [a0c] at hnod
    simp [hob2,hkey,hM.get,hrb]
    refine EC.afun hnod ?_
    simp
    refine AW.at (c:=cxF none 91 (kds [1] [2,28] [])) ⟨[(1,.ip ((a0h p).map .d) 0),(2,.gp H.next 0),(67,.d (.sl (p.defs.map rDef))),(68,lvI p.defs.length),(69,lvI i),(82,a4z p.defs[i].exp)],[],H2⟩ (by simp [a0h,a4z,LV.only,a0c]) ?_
    refine AW.f5y (c:=cxF none 91 (kds [1] [2,28] [])) fun hz2=>?_
    simp only [LS.s_mk] at hz2
    refine AWp.rangeFunc rfl rfl (f:=164) (first:=[]) (cap:=[.ip ((rExp p.defs[i].exp).map .d) 0]) (by simp [a4z]) (by simp [a4z]) [] (by simp [allL]) (by simp [allL]) (by simp [nbs,LV.nb]) ?_
    simp only [LS.s_mk,List.nil_append,List.singleton_append]
    generalize hx:LP.mk _ _ _ _ _ _ _=x
    have hxf:x.f=91:=by rw [<- hx]
    have hxd:x.d=H2.next:=by rw [<- hx]
    have hxe:∀ t,(x.env t).nb (H2.next+2):=by
     rw [<- hx];intro t;simp [LV.nb]
    obtain ⟨J,hJ⟩:∃ J:Nat->GH->Prop,J=fun k Hk=>Hk.obj (H2.next+1)=some (x.go .ready none)/\Hk.obj H2.next=some .dfr/\(∀ m,m < H2.next->Hk.obj m=H2.obj m)/\∀ e ∈ (allE p.defs[i].exp).take k,a1o e=false:=⟨_,rfl⟩
    obtain ⟨Pn,hPn⟩:∃ Pn:LV->GH->Prop,Pn=fun y Hk=>y=unformed/\(∃ st pend,Hk.obj (H2.next+1)=some (x.go st pend))/\Hk.obj H2.next=some .dfr/\(∀ m,m < H2.next->Hk.obj m=H2.obj m)/\∃ e ∈ allE p.defs[i].exp,a1o e=true:=⟨_,rfl⟩
    have ccR:∀ l,(cxF (some l) 91 (kds [1] [2,28] [])).ok prog:=fun l=>a4i
    have hI:Iter prog (H2.next+1) (H2.next+2) (a7i p.defs[i].exp) J (fun _=>False) Pn:=by
     refine ⟨fun {i H1 H2} hj hag _=>?_,fun h=>h.elim,fun {y Ha Hb} hj hag hnx=>?_,fun {i H1} hj m o hm ho=>?_,fun h=>h.elim,fun {y Ha} hj m o hm ho=>?_,?_⟩
     ·rw [hJ] at hj |-
      obtain ⟨q1,q2,q3,q4⟩:=hj
      exact ⟨by rw [hag _ (by omega)];exact q1,by rw [hag _ (by omega)];exact q2,fun m hm=>by rw [hag _ (by omega)];exact q3 m hm,q4⟩
     ·rw [hPn] at hj |-
      obtain ⟨q0,⟨st,pe,q1⟩,q2,q3,q4⟩:=hj
      exact ⟨by rw [q0];simp [unformed,LV.nb],q0,⟨st,pe,by rw [hag _ (by omega)];exact q1⟩,by rw [hag _ (by omega)];exact q2,fun m hm=>by rw [hag _ (by omega)];exact q3 m hm,q4⟩
     ·rw [hJ] at hj
      obtain ⟨q1,q2,q3,q4⟩:=hj
      by_cases e1:m=H2.next+1
      ·subst e1;rw [q1] at ho;cases ho;exact ⟨by rw [hxd];omega,hxe⟩
      ·by_cases e2:m=H2.next
       ·subst e2;rw [q2] at ho;cases ho;trivial
       ·rw [q3 m (by omega)] at ho;exact GO.a3g (by omega) (hz2.nb m o ho)
     ·rw [hPn] at hj
      obtain ⟨q0,⟨st,pe,q1⟩,q2,q3,q4⟩:=hj
      by_cases e1:m=H2.next+1
      ·subst e1;rw [q1] at ho;cases ho;exact ⟨by rw [hxd];omega,hxe⟩
      ·by_cases e2:m=H2.next
       ·subst e2;rw [q2] at ho;cases ho;trivial
       ·rw [q3 m (by omega)] at ho;exact GO.a3g (by omega) (hz2.nb m o ho)
     ·intro k H1 r hr hN hz1 hj
      rw [hJ] at hj
      obtain ⟨q1,q2,q3,q4⟩:=hj
      obtain ⟨e,he,rfl⟩:∃ e,(allE p.defs[i].exp)[k]?=some e/\r=lv (rExp e):=by
       simp only [a7i,List.getElem?_map,Option.map_eq_some_iff] at hr
       obtain ⟨e,h1,h2⟩:=hr
       exact ⟨e,h1,h2.symm⟩
      have htk:(allE p.defs[i].exp).take (k+1)=(allE p.defs[i].exp).take k ++ [e]:=by
       rw [List.take_add_one,he];rfl
      have hemem:e ∈ allE p.defs[i].exp:=List.mem_of_getElem? he
      refine a2v.ofN (c:=fun l=>cxF (some l) 91 (kds [1] [2,28] [])) ccR (fun l=>by simp [hxf]) q1 ⟨_,by rw [hxf];exact func91⟩ (by rw [<- hx];rfl) (by rw [<- hx];simp) fun hz l=>?_
      have xa:=(congrArg LP.asn hx).symm
      have xb:=(congrArg LP.body hx).symm
      have xe:=(congrArg LP.env hx).symm
      have xp:=(congrArg LP.ps hx).symm
      have xn:=(congrArg LP.nt hx).symm
      dsimp only at xa xb xe xp xn
      rw [xa,xb,xe,xp,xn]
      clear xa xb xe xp xn hx
      simp [a0c,putAll]
      refine ⟨q1,?_⟩
      generalize hob:x.go .busy none=ob
      refine AW.ev (ccR l) ?_
      simp
      have hlook:(e.op != 14 && (e.op != 7 || decide (0<=e.n))) = !a1o e:=by
       unfold a1o
       by_cases e1:e.op=14
       ·simp [e1]
       ·by_cases e2:e.op=7
        ·by_cases e3:0<=e.n
         ·simp [e2,e3]
         ·simp [e2,e3];omega
        ·simp [e1,e2]
      rw [hlook]
      refine ⟨fun q=>⟨q,fun q2=>⟨q,q2⟩⟩,EC.need (a2i _ _) (fun hb v=>?_) (fun hb=>?_)⟩
      ·have hb':a1o e=false:=by simpa using hb
       simp
       refine fun hz3=>⟨⟨.busy,none,by rw [GH.a0n,hob]⟩,H1,?_,GH.same.refl,?_⟩
       ·rw [GH.a2n,GH.a6g q1];exact hz1.drop (Nat.le_refl _)
       ·rw [hJ]
        refine ⟨q1,q2,q3,fun e' he'=>?_⟩
        rw [htk,List.mem_append] at he'
        rcases he' with he' | he'
        ·exact q4 e' he'
        ·simp only [List.mem_singleton] at he'
         rw [he'];exact hb'
      ·have hb':a1o e=true:=by simpa using hb
       simp
       refine fun hz3=>⟨_,hz3.drop (by rw [GH.a0l];exact Nat.le_refl _),by simp [unformed,LV.nb],⟨rfl,fun m hm=>by rw [GH.a0f,if_neg (by omega)]⟩,?_⟩
       rw [hPn]
       exact ⟨rfl,⟨.busy,none,by rw [GH.a0n,hob]⟩,by rw [GH.a0f,if_neg (by omega)];exact q2,fun m hm=>by rw [GH.a0f,if_neg (by omega)];exact q3 m hm,e,hemem,hb'⟩
    have hj0:J 0 ((H2.add .dfr).add (x.go .ready none)):=by
     rw [hJ]
     exact ⟨by rw [GH.a0b,GH.a0a,if_pos rfl],by rw [GH.a0b,GH.a0a,if_neg (by omega),GH.a0b,if_pos rfl],fun m hm=>by rw [GH.a0b,GH.a0a,if_neg (by omega),GH.a0b,if_neg (by omega)],by simp⟩
    have hall:=b8l hI (by omega) ((H2.add .dfr).add (x.go .ready none)) (by rw [GH.a0a,GH.a0a];omega) hj0
    refine hall.mono fun ce H3 hR=>?_
    obtain ⟨hs3,hR⟩:=hR
    have hn3:H3.next=H2.next+2:=by rw [hs3.next,GH.a0a,GH.a0a]
    cases ce with
    | pan y =>
     rw [hPn] at hR
     obtain ⟨rfl,⟨st,pe,q1⟩,q2,q3,e,he,hlk⟩:=hR
     have hnf:¬ formed p:=fun hf=>by
      have:=hf.2 i h hpath e he
      rw [hlk] at this;cases this
     simp only [f0z]
     simp [hnf]
     have hnot:∀ m,m < H.next+5->m ∉ ms:=fun m hm q=>by have:=(hms m q).1;omega
     have hdb:(dels (H3.del x.d) ms).obj H.next=some (.box [.gp (H.next+2) 0]):=by
      rw [a4o _ _ _ (hnot _ (by omega)),GH.b0g,if_neg (by rw [hxd];omega),q3 _ (by omega),hl2 _ (by omega)];exact hb0
     refine fun hz3=>⟨by rw [hxd];exact q2,a6h ms (H3.del x.d) hnd (fun n hn=>?_) ⟨?_,a5w _ _ _ hdb rfl _ ?_⟩⟩
     ·have:=hms n hn
      rw [GH.b0g,if_neg (by rw [hxd];omega),q3 _ (by omega),hl2 _ (by omega)];exact this.2.2
     ·simp [nbs,LV.nb,a4u,GH.e9v];omega
     ·simp [GH.a0f]
      refine hdn _ (by rw [GH.a0l,a4u];show H.next<=H3.next;omega) fun m hm=>?_
      rw [GH.a0f,if_neg (by omega),a4o _ _ _ (hnot _ (by omega))]
      show upd H3.obj x.d none m=H.obj m
      rw [upd_ne _ _ (by rw [hxd];omega),q3 _ (by omega),hl2 _ (by omega),ho' _ (by omega),h5l _ hm]
    | ret v =>
     rcases hR with hR | hR
     ·rw [hJ] at hR
      obtain ⟨q1,q2,q3,q4⟩:=hR
      rw [List.take_length] at q4
      refine ⟨.ready,none,q1,by simp,?_⟩
      simp [c8s,hxd]
      refine NXD.go (i+1,H3.set (H2.next+1) (x.go .exhausted none),H2.next :: ms) (by simp;omega) ⟨h,fun j hj hji hp=>?_,by simp only [GH.a0l];omega,fun m hm=>?_,?_,fun n hn=>?_⟩ (by simp [a0h,wrap_succ h hf.2.1])
      ·by_cases e:j=i
       ·subst e;exact q4
       ·exact hdone j hj (by simp only at hji;omega) hp
      ·simp only
       rw [GH.a0f,if_neg (by omega),q3 _ (by omega),hl2 _ (by omega)]
       exact ho' m hm
      ·simp only
       refine List.nodup_cons.2 ⟨fun hq=>?_,hnd⟩
       have:=(hms _ hq).2.1;omega
      ·simp only at hn |-
       rcases List.mem_cons.1 hn with rfl | hn
       ·exact ⟨by omega,by rw [GH.a0l];omega,by rw [GH.a0f,if_neg (by omega)];exact q2⟩
       ·have:=hms n hn
        exact ⟨this.1,by rw [GH.a0l];omega,by rw [GH.a0f,if_neg (by omega),q3 _ (by omega),hl2 _ (by omega)];exact this.2.2⟩
     ·exact hR.elim
  ·simp [hb0]
   refine ⟨by omega,fun hz=>?_⟩
   rw [GH.a6g hb0] at hz |-
   have hf:formed p:=hform fun j hj=>hdone j hj (by omega)
   refine a6h ms H' hnd (fun n hn=>(hms n hn).2.2) ?_
   have hnot:∀ m,m < H.next+5->m ∉ ms:=fun m hm q=>by have:=(hms m q).1;omega
   have hdb:(dels H' ms).obj H.next=some (.box [.gp (H.next+2) 0]):=by rw [a4o _ _ _ (hnot _ (by omega))];exact hb0
   refine ⟨by simp [nbs,LV.nb,a4u];omega,d2w _ _ _ ?_⟩
   simp [hf,hdb]
   have hzd:=hz.dels ms
   have hdl:∀ m,m < H.next->(dels H' ms).obj m=H.obj m:=fun m hm=>by rw [a4o _ _ _ (hnot _ (by omega)),ho' m (by omega),h5l m hm]
   have hsd:Sco (dels H' ms) (H.next+2) (H.next+3) (H.next+4) (H.next+1) p.srcs (a0d p) a.1 (60 - a.2) :=
    ⟨by rw [a4o _ _ _ (hnot _ (by omega))];exact hs'.sc,by rw [a4o _ _ _ (hnot _ (by omega))];exact hs'.o1,by rw [a4o _ _ _ (hnot _ (by omega))];exact hs'.o2,by rw [a4o _ _ _ (hnot _ (by omega))];exact hs'.o3⟩
   exact ⟨_,hzd.drop (by rw [a4u];omega),by rw [a4u];omega,⟨hrefs,_,_,_,_,_,hsd⟩,by rw [a4u];omega,hdl⟩
open Classical in
theorem c1q (p:Prog) (hstr:∀ s ∈ p.srcs ++ a0d p,a2b s):AFun prog 64 [lv (a0h p)] (lvI (if formed p then 0 else 2)):=by
 intro H
 have cc:=a0g (p:=kds [1] [] [])
 refine a0j.a1j (a0g (p:=kds [1] [] [])) func64 rfl call64 (by rw [ntmps64];simp) rfl fun hf hw=>?_
 have hl:=b1y p hstr H
 simp [a0h] at hl
 simp [ntmps64,results64,a0h]
 refine EC.of hl (fun v H2 hR=>?_) (fun v H2 hR=>?_)
 ·by_cases hq:formed p
  ·rw [if_pos hq] at hR
   obtain ⟨⟨n,q,_⟩,h1,h2⟩:=hR
   cases q
   simp [hq]
   exact fun hz=>a0m h1 h2 hw.none
  ·rw [if_neg hq] at hR
   obtain ⟨q,rfl⟩:=hR
   cases q
   simp [hq]
   exact fun hz=>hz.drop (Nat.le_refl _)
 ·split at hR
  ·obtain ⟨⟨n,q,_⟩,_⟩:=hR;cases q
  ·cases hR.1
end Go.Aft
end
section
set_option maxRecDepth 20000
namespace Go.Aft
open Go.Proofs.Tryz
mutual
theorem d6f {srcs defs:List Str} {a:Int}:∀ (x:Exp) (depth left l:Int),lExp srcs defs a x depth left=some l->((allE x).length:Int)+l<=left
 | .mk op name n fold a0k kids,depth,left,l,h=>by
  rw [lExp] at h
  split at h
  ·rename_i hc
   split at h
   ·rename_i l1 h1
    have h1:=a9x _ _ _ _ h1 (by omega)
    have:=c8n kids _ _ _ h (by omega)
    simp only [allE,List.length_cons];omega
   ·cases h
  ·cases h
theorem c8n {srcs defs:List Str} {a:Int}:∀ (x:List Exp) (depth left l:Int),a3q srcs defs a x depth left=some l->0<=left->((a0y x).length:Int)+l<=left
 | [],depth,left,l,h,h0=>by rw [a3q] at h;cases h;simp [a0y]
 | k :: ks,depth,left,l,h,h0=>by
  rw [a3q] at h
  split at h
  ·rename_i l' hl
   have h1:=d6f k _ _ _ hl
   have h2:=a8h _ _ _ _ hl
   have h3:=c8n ks _ _ _ h (by omega)
   simp only [a0y,List.length_append];omega
  ·cases h
end
def toL (p:Prog):List (List Nat):=p.defs.map fun d=>(a8z (a0d p) (allE d.exp)).map Int.toNat
structure Good (p:Prog):Prop where
 n6:p.defs.length<=6
 len:∀ d ∈ p.defs,(allE d.exp).length<=60
 ref:∀ d ∈ p.defs,∀ e ∈ allE d.exp,b6j e->0<=idx (a0d p) e.name
theorem Good.of {p:Prog} {l:Int} (h:countM p=some l):Good p:=by
 unfold countM at h
 split at h
 ·rename_i hc
  have key:∀ d ∈ p.defs,∃ a l1 l2,lExp p.srcs (a0d p) a d.exp 1 l1=some l2/\l1<=60:=fun d hd=>by
   obtain ⟨i,hi,rfl⟩:=List.mem_iff_getElem.1 hd
   obtain ⟨l1,l2,q1,q2,q3⟩:=b6u _ _ _ _ h (by omega) i hi
   exact ⟨_,l1,l2,q1,q3⟩
  refine ⟨hc.2.2.1,fun d hd=>?_,fun d hd e he hr=>?_⟩
  ·obtain ⟨a,l1,l2,q,q2⟩:=key d hd
   have:=d6f _ _ _ _ q
   have:=a8h _ _ _ _ q
   omega
  ·obtain ⟨a,l1,l2,q,q2⟩:=key d hd
   exact b9f _ _ _ _ q e he hr
 ·cases h
theorem b2w {names:List Str} {l:List Exp} {x:Int}:x ∈ a8z names l ↔ ∃ e ∈ l,b6j e/\idx names e.name=x:=by
 simp only [a8z,List.mem_map,List.mem_filter,c8u,decide_eq_true_eq,b6j]
 exact ⟨fun ⟨e,⟨h1,h2⟩,h3⟩=>⟨e,h1,h2,h3⟩,fun ⟨e,h1,h2,h3⟩=>⟨e,⟨h1,h2⟩,h3⟩⟩
theorem b1w (p:Prog):(toL p).length=p.defs.length:=by simp [toL]
theorem f2g (p:Prog) {i:Nat} (h:i < p.defs.length):(toL p).getD i []=(a8z (a0d p) (allE p.defs[i].exp)).map Int.toNat:=by
 simp [toL,List.getD,List.getElem?_eq_getElem h]
theorem d4y {p:Prog} (g:Good p):(p.defs.map fun d=>a8z (a0d p) (allE d.exp)).map rL=(toL p).map rT:=by
 simp only [toL,List.map_map]
 refine List.map_congr_left fun d hd=>?_
 simp only [Function.comp,rL,rT,List.map_map]
 congr 2
 refine List.map_congr_left fun x hx=>?_
 obtain ⟨e,h1,h2,rfl⟩:=b2w.1 hx
 have:=g.ref d hd e h1 h2
 simp only [Function.comp]
 rw [Int.toNat_of_nonneg this]
theorem e1u {p:Prog} (g:Good p):∀ l ∈ toL p,∀ x ∈ l,x < (toL p).length:=fun l hl x hx=>by
 rw [b1w]
 obtain ⟨d,hd,rfl⟩:=List.mem_map.1 hl
 obtain ⟨y,hy,rfl⟩:=List.mem_map.1 hx
 obtain ⟨e,h1,h2,rfl⟩:=b2w.1 hy
 have h3:=g.ref d hd e h1 h2
 have h4:=b9l (a0d p) e.name
 have h5:(a0d p).length=p.defs.length:=by simp [a0d]
 omega
theorem f4o {l:List Nat} {c:Nat}:(∀ x ∈ l,x<=c)->l.sum<=l.length * c:=by
 induction l with
 | nil=>simp
 | cons y l ih =>
  intro h
  have h1:=h y (by simp)
  have h2:=ih fun x hx=>h x (List.mem_cons_of_mem _ hx)
  simp only [List.sum_cons,List.length_cons,Nat.add_mul];omega
theorem e1t {p:Prog} (g:Good p):((toL p).map List.length).sum<=10000:=by
 have:=f4o (l:=(toL p).map List.length) (c:=60) fun x hx=>by
  obtain ⟨l,hl,rfl⟩:=List.mem_map.1 hx
  obtain ⟨d,hd,rfl⟩:=List.mem_map.1 hl
  have h1:=g.len d hd
  have h2:(a8z (a0d p) (allE d.exp)).length<=(allE d.exp).length:=by rw [a8z,List.length_map];exact List.length_filter_le _ _
  rw [List.length_map];omega
 rw [List.length_map,b1w] at this
 have:=g.n6
 have:p.defs.length * 60<=6 * 60:=Nat.mul_le_mul_right _ this
 omega
theorem d4x {p:Prog} (g:Good p) (i k:Nat):k ∈ (toL p).getD i [] ↔ a3p p i k:=by
 by_cases h:i < p.defs.length
 ·rw [f2g p h,List.mem_map]
  constructor
  ·rintro ⟨x,hx,rfl⟩
   obtain ⟨e,h1,h2,rfl⟩:=b2w.1 hx
   exact ⟨h,e,h1,h2,(Int.toNat_of_nonneg (g.ref _ (List.getElem_mem h) e h1 h2)).symm⟩
  ·rintro ⟨_,e,h1,h2,h3⟩
   exact ⟨_,b2w.2 ⟨e,h1,h2,rfl⟩,by omega⟩
 ·constructor
  ·intro q
   rw [List.getD,List.getElem?_eq_none (by rw [b1w];omega)] at q
   cases q
  ·rintro ⟨q,_⟩;exact absurd q h
theorem e7n {p:Prog} (g:Good p) (i k:Nat):Path (fun a b=>b ∈ (toL p).getD a []) i k ↔ Path (a3p p) i k:=⟨Path.congr fun i k=>(d4x g i k).1,Path.congr fun i k=>(d4x g i k).2⟩
open Classical in
noncomputable def pathB (p:Prog) (i k:Nat):Bool:=decide (Path (a3p p) i k)
open Classical in
theorem c2b {p:Prog} (g:Good p):reachM (toL p)=mat p.defs.length (pathB p):=by
 simp only [reachM,mat,b1w]
 refine List.map_congr_left fun i _=>?_
 simp only [pathR,b1w]
 refine List.map_congr_left fun j _=>?_
 rw [Bool.eq_iff_iff,pathB,decide_eq_true_eq,decide_eq_true_eq]
 exact e7n g i j
theorem b8a {p:Prog} (g:Good p):AFun prog 128 [lv (a0h p)] (sl ((a2s p.defs.length (pathB p)).map rT)):=by
 refine c4r p _ _ g.n6 ?_
 have h1:=b7r p g.n6 fun d hd=>Nat.le_trans (g.len d hd) (by omega)
 rw [d4y g] at h1
 have h2:=b2x p (toL p) (b1w p) g.n6 (e1u g) (e1t g) h1
 rw [c2b g] at h2
 exact h2
theorem c9h {p:Prog} (g:Good p):d1k p ↔ ∀ ring ∈ a2s p.defs.length (pathB p),∀ k ∈ ring,∀ h:k < p.defs.length,(allE p.defs[k].exp).any a1o=false:=by
 have ht:∀ i j k,pathB p i j=true->pathB p j k=true->pathB p i k=true:=fun i j k h1 h2=>by
  simp only [pathB,decide_eq_true_eq] at *;exact h1.trans h2
 constructor
 ·intro h ring hr k hk hkn
  have:pathB p k k=true:=(b7o ht hkn).1 ⟨ring,hr,hk⟩
  simp only [pathB,decide_eq_true_eq] at this
  have:=h k hkn this
  rw [List.any_eq_false]
  exact fun e he=>by rw [this e he];simp
 ·intro h i hi hp e he
  obtain ⟨ring,hr,hk⟩:=(b7o ht hi).2 (by simp only [pathB,decide_eq_true_eq];exact hp)
  have:=h ring hr i hk hi
  rw [List.any_eq_false] at this
  simpa using this e he
open Classical in
theorem c1z (p:Prog) (hstr:∀ s ∈ p.srcs ++ a0d p,a2b s):AFun prog 66 [lv (a0h p)] (.d (.k (.bool (decide (formed p))))):=by
 have cc:=a0g (p:=kds [1] [] [])
 refine AFun.d3w (a0g (p:=kds [1] [] [])) func66 rfl call66 (by rw [ntmps66];simp) rfl fun hf H=>?_
 have hcn:=d1n p hstr
 simp [a0h] at hcn
 simp [ntmps66,results66,a0h] at hf |-
 refine AW.seq cc ?_
 simp
 refine AW.seq cc ?_
 simp
 refine EC.afun hcn ?_
 cases hc:countM p with
 | none =>
  have:¬ formed p:=by rintro ⟨⟨l,hl⟩,_⟩;rw [hc] at hl;cases hl
  simp [cntV,this]
 | some l =>
  have g:=Good.of hc
  have hl:l<=60:=by
   unfold countM at hc
   split at hc
   ·exact (d6g _ _ _ _ hc (by omega)).2
   ·cases hc
  have hr:=b8a g
  simp [a0h] at hr
  obtain ⟨W,hW⟩:∃ W,a2s p.defs.length (pathB p)=W:=⟨_,rfl⟩
  have hfr:formed p ↔ ∀ ring ∈ W,∀ k ∈ ring,∀ h:k < p.defs.length,(allE p.defs[k].exp).any a1o=false:=by
   rw [<- hW,<- c9h g]
   exact ⟨fun h=>h.2,fun h=>⟨⟨l,hc⟩,h⟩⟩
  have hbd:∀ ring ∈ W,ring.length<=6/\∀ k ∈ ring,k < p.defs.length:=fun ring hr=>by
   rw [<- hW] at hr
   obtain ⟨i,_,rfl⟩:=List.mem_map.1 hr
   refine ⟨?_,fun k hk=>(a0z.1 hk).1⟩
   have h1:(ringAt p.defs.length (pathB p) i).length<=(List.range p.defs.length).length:=List.length_filter_le _ _
   have:=g.n6
   rw [List.length_range] at h1;omega
  have hWl:W.length<=6:=by
   rw [<- hW,a2s,List.length_map]
   have h1:=List.length_filter_le (fun i=>pathB p i i && (ringAt p.defs.length (pathB p) i).head? == some i) (List.range p.defs.length)
   have:=g.n6
   rw [List.length_range] at h1;omega
  rw [hW] at hr
  simp [cntV]
  refine ⟨fun q=>by omega,fun _=>?_⟩
  refine AW.seq cc ?_
  simp
  refine EC.afun hr ?_
  simp
  refine AW.ev cc ?_
  simp
  refine AW.a0w cc (fun i:Nat=>⟨[(1,.ip ((a0h p).map .d) 0),(3,.d (.sl (W.map rT))),(4,lvI i)],[],H⟩) (fun i=>W.length - i)
   (fun i=>i<=W.length/\∀ j (h:j < W.length),j < i->∀ k ∈ W[j],∀ h:k < p.defs.length,(allE p.defs[k].exp).any a1o=false) 0 ⟨⟨by simp,by simp⟩,by simp [a0h]⟩ ?_
  rintro i ⟨hi,hI⟩
  simp [a0h]
  refine ⟨fun h=>?_,fun h=>?_⟩
  ·have hi2:i < 1000000:=by omega
   obtain ⟨hrl,hrb⟩:=hbd _ (List.getElem_mem h)
   refine AW.a0w cc (fun k:Nat=>⟨[(1,.ip ((a0h p).map .d) 0),(3,.d (.sl (W.map rT))),(4,lvI i),(5,lvI k)],[],H⟩) (fun k=>W[i].length - k)
    (fun k=>k<=W[i].length/\∀ j (h:j < W[i].length),j < k->∀ h:W[i][j] < p.defs.length,(allE p.defs[W[i][j]].exp).any a1o=false) 0 ⟨⟨by simp,by simp⟩,by simp [a0h]⟩ ?_
   rintro k ⟨hk,hK⟩
   simp [h,List.getElem?_eq_getElem h,rT]
   refine ⟨fun hkl=>?_,fun hkl=>?_⟩
   ·have hk2:k < 1000000:=by omega
    have hx:W[i][k] < p.defs.length:=hrb _ (List.getElem_mem hkl)
    have hah:=d1p p.defs[W[i][k]].exp (Nat.le_trans (g.len _ (List.getElem_mem hx)) (by omega))
    simp [a0c] at hah
    refine AW.draw cc [(12,.n)] (.q 0<|.q 2<|.q 3<|.q 4<|.q 6<|.q 1<|.q 5<|.q 7<|.q 8<|.q 9<|.q 10<|.q 11<|.q 12<|.done) (by kernel_rfl) ?_
    simp [h,List.getElem?_eq_getElem h,hkl,List.getElem?_eq_getElem hkl,a0h,rI,rT,hx,List.getElem?_eq_getElem hx,rDef,a0c]
    refine FC.afun hah ?_
    simp
    refine ⟨fun x hx1 hx2 hfm=>?_,fun hno=>?_⟩
    ·have:=hfr.1 hfm _ (List.getElem_mem h) _ (List.getElem_mem hkl) hx
     rw [List.any_eq_false] at this
     exact this x hx1 hx2
    ·refine NX.go (k+1) (show W[i].length - (k+1) < W[i].length - k by omega) ⟨hkl,fun j hj hji hjn=>?_⟩ (by simp [a0h,wrap_succ hk2])
     by_cases z:j=k
     ·subst z
      rw [List.any_eq_false];exact fun x hx1=>by rw [hno x hx1];simp
     ·exact hK j hj (by omega) hjn
   ·have e:k=W[i].length:=by omega
    subst e
    refine NX.go (i+1) (Nat.sub_lt_sub_left h (Nat.lt_succ_self i)) ⟨h,fun j hj hji c hc hcn=>?_⟩ (by simp [a0h,wrap_succ hi2])
    by_cases z:j=i
    ·subst z
     obtain ⟨t,ht,rfl⟩:=List.mem_iff_getElem.1 hc
     exact hK t ht ht hcn
    ·exact hI j hj (by omega) c hc hcn
  ·refine hfr.2 fun ring hr k hk hkn=>?_
   obtain ⟨j,hj,rfl⟩:=List.mem_iff_getElem.1 hr
   exact hI j hj (by omega) k hk hkn
end Go.Aft
end
