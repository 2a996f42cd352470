import Derived.Test.YthinedikejlgmaaGreatA46
import Derived.Test.YthinedikejlgmaaGreatA44
set_option linter.all false
set_option maxRecDepth 20000
namespace Go.Aft
open Go.Proofs.Tryz
theorem e2m (n:Nat):fzs (repL n [LV.d (.k (.slice none 0 0))])=(List.replicate n ([]:Bag)).map bagL:=by
 rw [c5n,repL,List.map_flatten,List.map_replicate,List.map_replicate]
 show (List.replicate n [sl []]).flatten=List.replicate n (sl [])
 induction n with
 | zero=>rfl
 | succ n ih=>rw [List.replicate_succ,List.flatten_cons,ih,List.replicate_succ];rfl
theorem e5n {L:List Str} (h:b5a L) {i j:Nat} (hi:i < L.length) (hj:j < i):L[j]'(by omega) ≠ L[i]:=fun e=>(h i hi).2 (by
 rw [<- e,List.mem_take_iff_getElem]
 exact ⟨j,by omega,rfl⟩)
theorem e5m {A B:List Str} (h:b5a (A ++ B)) {i j:Nat} (hi:i < A.length) (hj:j < i):A[j]'(by omega) ≠ A[i]:=fun e=>by
 have:=e5n h (i:=i) (j:=j) (by simp;omega) hj
 rw [List.getElem_append_left (by omega),List.getElem_append_left hi] at this
 exact this e
theorem e5o {A B:List Str} (h:b5a (A ++ B)) {i j:Nat} (hi:i < B.length) (hj:j < i):B[j]'(by omega) ≠ B[i]:=fun e=>by
 have:=e5n h (i:=A.length+i) (j:=A.length+j) (by simp;omega) (by omega)
 rw [List.getElem_append_right (by omega),List.getElem_append_right (by omega)] at this
 simp only [Nat.add_sub_cancel_left] at this
 exact this e
theorem b5x {n:Nat} {R:Nat->Nat->Bool}:∀ (f:Nat) (D:List Nat),(a2z n R f D).length<=f
 | 0,_=>Nat.le_refl _
 | f+1,D=>by
  rw [a2z]
  split
  ·split
   ·simp
   ·rw [List.length_cons];exact Nat.succ_le_succ (b5x f _)
  ·simp
def b4b (p:Prog) (l:List Event) (H:GH) (ce:CE) (H':GH):Prop:=match knownM p l with
 | none=>ce=.ret (.d (.k (.pointer none)))/\H'=H
 | some defs=>∃ n ms mn mv ma,ce=.ret (.gp n 0)/\H.next<=mv/\WldX H' n ms mn mv ma p ⟨c0p p l,defs⟩/\H.next<=H'.next/\(∀ m,m < H.next->H'.obj m=H.obj m)/\nbH H'
set_option maxHeartbeats 2000000 in
theorem c2n (p:Prog) (hstr:∀ s ∈ p.srcs ++ a0d p,a2b s) (hp:formed p) (hs1:0 < p.srcs.length) (hs12:p.srcs.length<=12) (g:Good p) (hdf:b5a (p.srcs ++ a0d p)) (he:∀ (d:Nat) (h:d < p.defs.length),b5j p p.defs[d].exp)
  (l:List Event) (hl:l.length<=60) (hi:∀ e ∈ l,ItIn ⟨e.rec_,1⟩) (H:GH):a0j prog 73 [lv (a0h p),sl (l.map a0t)] H (b4b p l H):=by
 have cc:=a0g (p:=kds [2] [4,25] [22])
 refine a0j.a3a (a0g (p:=kds [2] [4,25] [22])) func73 rfl call73 (by rw [ntmps73];simp) rfl fun hf hw=>?_
 simp [ntmps73,results73,a0h] at hf |-
 refine AW.seq cc ?_
 simp
 refine AW.seq cc ?_
 simp
 rw [GH.d7u hw.none]
 obtain ⟨n,hn⟩:∃ n,p.defs.length=n:=⟨_,rfl⟩
 have hn6:n<=6:=hn ▸ g.n6
 refine ⟨rfl,by simp,?_⟩
 refine AW.join (c:=cxK (kds [2] [4,25] [22])) (fun a:Nat × Nat × Nat × Nat × GH=>⟨[(1,sl (l.map a0t)),(2,.ip ((a0h p).map .d) 0),(4,.gp H.next 0)],[],a.2.2.2.2⟩)
  (fun a=>H.next+6=a.2.2.2.2.next/\(a.1 ≠ a.2.1/\a.1 ≠ a.2.2.1/\a.1 ≠ a.2.2.2.1/\a.2.1 ≠ a.2.2.1/\a.2.1 ≠ a.2.2.2.1/\a.2.2.1 ≠ a.2.2.2.1)/\(H.next < a.1/\a.1 < H.next+5)/\(H.next < a.2.1/\a.2.1 < H.next+5)/\(H.next < a.2.2.1/\a.2.2.1 < H.next+5)/\(H.next < a.2.2.2.1/\a.2.2.2.1 < H.next+5) /\
   a.2.2.2.2.obj H.next=some (.box [.gp (H.next+5) 0])/\a.2.2.2.2.obj (H.next+5)=some (.box [sl (p.srcs.map rS),sl (p.defs.map rDef),.gm a.1,.gm a.2.1,.vs a.2.2.1 0 1 0 n,.gm a.2.2.2.1])/\a.2.2.2.2.obj a.1=some (.map [])/\a.2.2.2.2.obj a.2.1=some (.map []) /\
   a.2.2.2.2.obj a.2.2.1=some (.vec 30 0 1 (repL n [.d (.k (.slice none 0 0))]) true)/\a.2.2.2.2.obj a.2.2.2.1=some (.map e6o)/\∀ m,m < H.next->a.2.2.2.2.obj m=H.obj m) (AW.ev cc ?_) ?_
 ·simp [hn]
  have hact:=fun G=>e3q G
  refine AW.draw cc [(0,.n),(4,.n)] (.q 0<|.q 3<|.q 4<|.f (.cons 1 (.f (.cons 2 (.f (.cons 5 (.f (.cons 6 (.f<|.one 7<|.q 8<|.f<|.one 9<|.f<|.one 10<|.done) (.cons 7 (.f<|.one 6<|.q 8<|.f<|.one 9<|.f<|.one 10<|.done) (.nil)))) (.cons 7 (.q 5<|.f<|.one 6<|.q 8<|.f<|.one 9<|.f<|.one 10<|.done) (.nil)))) (.cons 5 (.f (.cons 2 (.f (.cons 6 (.f<|.one 7<|.q 8<|.f<|.one 9<|.f<|.one 10<|.done) (.cons 7 (.f<|.one 6<|.q 8<|.f<|.one 9<|.f<|.one 10<|.done) (.nil)))) (.cons 6 (.f (.cons 2 (.f<|.one 7<|.q 8<|.f<|.one 9<|.f<|.one 10<|.done) (.cons 7 (.f<|.one 2<|.q 8<|.f<|.one 9<|.f<|.one 10<|.done) (.nil)))) (.cons 7 (.f (.cons 2 (.f<|.one 6<|.q 8<|.f<|.one 9<|.f<|.one 10<|.done) (.cons 6 (.f<|.one 2<|.q 8<|.f<|.one 9<|.f<|.one 10<|.done) (.nil)))) (.nil))))) (.cons 7 (.q 5<|.f (.cons 2 (.f<|.one 6<|.q 8<|.f<|.one 9<|.f<|.one 10<|.done) (.cons 6 (.f<|.one 2<|.q 8<|.f<|.one 9<|.f<|.one 10<|.done) (.nil)))) (.nil))))) (.cons 2 (.f (.cons 1 (.f (.cons 5 (.f (.cons 6 (.f<|.one 7<|.q 8<|.f<|.one 9<|.f<|.one 10<|.done) (.cons 7 (.f<|.one 6<|.q 8<|.f<|.one 9<|.f<|.one 10<|.done) (.nil)))) (.cons 7 (.q 5<|.f<|.one 6<|.q 8<|.f<|.one 9<|.f<|.one 10<|.done) (.nil)))) (.cons 5 (.f (.cons 1 (.f (.cons 6 (.f<|.one 7<|.q 8<|.f<|.one 9<|.f<|.one 10<|.done) (.cons 7 (.f<|.one 6<|.q 8<|.f<|.one 9<|.f<|.one 10<|.done) (.nil)))) (.cons 6 (.f (.cons 1 (.f<|.one 7<|.q 8<|.f<|.one 9<|.f<|.one 10<|.done) (.cons 7 (.f<|.one 1<|.q 8<|.f<|.one 9<|.f<|.one 10<|.done) (.nil)))) (.cons 7 (.f (.cons 1 (.f<|.one 6<|.q 8<|.f<|.one 9<|.f<|.one 10<|.done) (.cons 6 (.f<|.one 1<|.q 8<|.f<|.one 9<|.f<|.one 10<|.done) (.nil)))) (.nil))))) (.cons 7 (.q 5<|.f (.cons 1 (.f<|.one 6<|.q 8<|.f<|.one 9<|.f<|.one 10<|.done) (.cons 6 (.f<|.one 1<|.q 8<|.f<|.one 9<|.f<|.one 10<|.done) (.nil)))) (.nil))))) (.cons 5 (.f (.cons 1 (.f (.cons 2 (.f (.cons 6 (.f<|.one 7<|.q 8<|.f<|.one 9<|.f<|.one 10<|.done) (.cons 7 (.f<|.one 6<|.q 8<|.f<|.one 9<|.f<|.one 10<|.done) (.nil)))) (.cons 6 (.f (.cons 2 (.f<|.one 7<|.q 8<|.f<|.one 9<|.f<|.one 10<|.done) (.cons 7 (.f<|.one 2<|.q 8<|.f<|.one 9<|.f<|.one 10<|.done) (.nil)))) (.cons 7 (.f (.cons 2 (.f<|.one 6<|.q 8<|.f<|.one 9<|.f<|.one 10<|.done) (.cons 6 (.f<|.one 2<|.q 8<|.f<|.one 9<|.f<|.one 10<|.done) (.nil)))) (.nil))))) (.cons 2 (.f (.cons 1 (.f (.cons 6 (.f<|.one 7<|.q 8<|.f<|.one 9<|.f<|.one 10<|.done) (.cons 7 (.f<|.one 6<|.q 8<|.f<|.one 9<|.f<|.one 10<|.done) (.nil)))) (.cons 6 (.f (.cons 1 (.f<|.one 7<|.q 8<|.f<|.one 9<|.f<|.one 10<|.done) (.cons 7 (.f<|.one 1<|.q 8<|.f<|.one 9<|.f<|.one 10<|.done) (.nil)))) (.cons 7 (.f (.cons 1 (.f<|.one 6<|.q 8<|.f<|.one 9<|.f<|.one 10<|.done) (.cons 6 (.f<|.one 1<|.q 8<|.f<|.one 9<|.f<|.one 10<|.done) (.nil)))) (.nil))))) (.cons 6 (.f (.cons 1 (.f (.cons 2 (.f<|.one 7<|.q 8<|.f<|.one 9<|.f<|.one 10<|.done) (.cons 7 (.f<|.one 2<|.q 8<|.f<|.one 9<|.f<|.one 10<|.done) (.nil)))) (.cons 2 (.f (.cons 1 (.f<|.one 7<|.q 8<|.f<|.one 9<|.f<|.one 10<|.done) (.cons 7 (.f<|.one 1<|.q 8<|.f<|.one 9<|.f<|.one 10<|.done) (.nil)))) (.cons 7 (.f (.cons 1 (.f<|.one 2<|.q 8<|.f<|.one 9<|.f<|.one 10<|.done) (.cons 2 (.f<|.one 1<|.q 8<|.f<|.one 9<|.f<|.one 10<|.done) (.nil)))) (.nil))))) (.cons 7 (.f (.cons 1 (.f (.cons 2 (.f<|.one 6<|.q 8<|.f<|.one 9<|.f<|.one 10<|.done) (.cons 6 (.f<|.one 2<|.q 8<|.f<|.one 9<|.f<|.one 10<|.done) (.nil)))) (.cons 2 (.f (.cons 1 (.f<|.one 6<|.q 8<|.f<|.one 9<|.f<|.one 10<|.done) (.cons 6 (.f<|.one 1<|.q 8<|.f<|.one 9<|.f<|.one 10<|.done) (.nil)))) (.cons 6 (.f (.cons 1 (.f<|.one 2<|.q 8<|.f<|.one 9<|.f<|.one 10<|.done) (.cons 2 (.f<|.one 1<|.q 8<|.f<|.one 9<|.f<|.one 10<|.done) (.nil)))) (.nil))))) (.nil)))))) (.cons 7 (.q 5<|.f (.cons 1 (.f (.cons 2 (.f<|.one 6<|.q 8<|.f<|.one 9<|.f<|.one 10<|.done) (.cons 6 (.f<|.one 2<|.q 8<|.f<|.one 9<|.f<|.one 10<|.done) (.nil)))) (.cons 2 (.f (.cons 1 (.f<|.one 6<|.q 8<|.f<|.one 9<|.f<|.one 10<|.done) (.cons 6 (.f<|.one 1<|.q 8<|.f<|.one 9<|.f<|.one 10<|.done) (.nil)))) (.cons 6 (.f (.cons 1 (.f<|.one 2<|.q 8<|.f<|.one 9<|.f<|.one 10<|.done) (.cons 2 (.f<|.one 1<|.q 8<|.f<|.one 9<|.f<|.one 10<|.done) (.nil)))) (.nil))))) (.nil)))))) (by kernel_rfl) ?_
  simp [a0h,hn]
  repeat' first
   | refine ECn.of (hact _) (fun v H2 hR _=>?_) (fun x H2 env hR _=>by cases hR.1) <;> (obtain ⟨q,hE⟩:=hR;cases q;rw [hE];clear hE;simp [a0h,hn])
   | (refine ⟨by omega,?_⟩)
   | apply And.intro
  ·exact JN.go (H.next+1,H.next+2,H.next+3,H.next+4,_) (by and_intros <;> first | (simp;done) | omega | (simp;omega) | (intro m hm;show upd _ _ _ _=_;rw [upd_ne _ _ (by omega)];exact GH.a0r hm)) ⟨by simp [a0h],by simp,rfl,rfl,rfl⟩
  ·exact JN.go (H.next+1,H.next+2,H.next+4,H.next+3,_) (by and_intros <;> first | (simp;done) | omega | (simp;omega) | (intro m hm;show upd _ _ _ _=_;rw [upd_ne _ _ (by omega)];exact GH.a0r hm)) ⟨by simp [a0h],by simp,rfl,rfl,rfl⟩
  ·exact JN.go (H.next+1,H.next+2,H.next+4,H.next+3,_) (by and_intros <;> first | (simp;done) | omega | (simp;omega) | (intro m hm;show upd _ _ _ _=_;rw [upd_ne _ _ (by omega)];exact GH.a0r hm)) ⟨by simp [a0h],by simp,rfl,rfl,rfl⟩
  ·exact JN.go (H.next+1,H.next+2,H.next+3,H.next+4,_) (by and_intros <;> first | (simp;done) | omega | (simp;omega) | (intro m hm;show upd _ _ _ _=_;rw [upd_ne _ _ (by omega)];exact GH.a0r hm)) ⟨by simp [a0h],by simp,rfl,rfl,rfl⟩
  ·exact JN.go (H.next+1,H.next+2,H.next+4,H.next+3,_) (by and_intros <;> first | (simp;done) | omega | (simp;omega) | (intro m hm;show upd _ _ _ _=_;rw [upd_ne _ _ (by omega)];exact GH.a0r hm)) ⟨by simp [a0h],by simp,rfl,rfl,rfl⟩
  ·exact JN.go (H.next+1,H.next+3,H.next+2,H.next+4,_) (by and_intros <;> first | (simp;done) | omega | (simp;omega) | (intro m hm;show upd _ _ _ _=_;rw [upd_ne _ _ (by omega)];exact GH.a0r hm)) ⟨by simp [a0h],by simp,rfl,rfl,rfl⟩
  ·exact JN.go (H.next+1,H.next+4,H.next+2,H.next+3,_) (by and_intros <;> first | (simp;done) | omega | (simp;omega) | (intro m hm;show upd _ _ _ _=_;rw [upd_ne _ _ (by omega)];exact GH.a0r hm)) ⟨by simp [a0h],by simp,rfl,rfl,rfl⟩
  ·exact JN.go (H.next+1,H.next+3,H.next+4,H.next+2,_) (by and_intros <;> first | (simp;done) | omega | (simp;omega) | (intro m hm;show upd _ _ _ _=_;rw [upd_ne _ _ (by omega)];exact GH.a0r hm)) ⟨by simp [a0h],by simp,rfl,rfl,rfl⟩
  ·exact JN.go (H.next+1,H.next+4,H.next+3,H.next+2,_) (by and_intros <;> first | (simp;done) | omega | (simp;omega) | (intro m hm;show upd _ _ _ _=_;rw [upd_ne _ _ (by omega)];exact GH.a0r hm)) ⟨by simp [a0h],by simp,rfl,rfl,rfl⟩
  ·exact JN.go (H.next+1,H.next+3,H.next+4,H.next+2,_) (by and_intros <;> first | (simp;done) | omega | (simp;omega) | (intro m hm;show upd _ _ _ _=_;rw [upd_ne _ _ (by omega)];exact GH.a0r hm)) ⟨by simp [a0h],by simp,rfl,rfl,rfl⟩
  ·exact JN.go (H.next+1,H.next+4,H.next+3,H.next+2,_) (by and_intros <;> first | (simp;done) | omega | (simp;omega) | (intro m hm;show upd _ _ _ _=_;rw [upd_ne _ _ (by omega)];exact GH.a0r hm)) ⟨by simp [a0h],by simp,rfl,rfl,rfl⟩
  ·exact JN.go (H.next+2,H.next+1,H.next+3,H.next+4,_) (by and_intros <;> first | (simp;done) | omega | (simp;omega) | (intro m hm;show upd _ _ _ _=_;rw [upd_ne _ _ (by omega)];exact GH.a0r hm)) ⟨by simp [a0h],by simp,rfl,rfl,rfl⟩
  ·exact JN.go (H.next+2,H.next+1,H.next+4,H.next+3,_) (by and_intros <;> first | (simp;done) | omega | (simp;omega) | (intro m hm;show upd _ _ _ _=_;rw [upd_ne _ _ (by omega)];exact GH.a0r hm)) ⟨by simp [a0h],by simp,rfl,rfl,rfl⟩
  ·exact JN.go (H.next+2,H.next+1,H.next+4,H.next+3,_) (by and_intros <;> first | (simp;done) | omega | (simp;omega) | (intro m hm;show upd _ _ _ _=_;rw [upd_ne _ _ (by omega)];exact GH.a0r hm)) ⟨by simp [a0h],by simp,rfl,rfl,rfl⟩
  ·exact JN.go (H.next+2,H.next+1,H.next+3,H.next+4,_) (by and_intros <;> first | (simp;done) | omega | (simp;omega) | (intro m hm;show upd _ _ _ _=_;rw [upd_ne _ _ (by omega)];exact GH.a0r hm)) ⟨by simp [a0h],by simp,rfl,rfl,rfl⟩
  ·exact JN.go (H.next+2,H.next+1,H.next+4,H.next+3,_) (by and_intros <;> first | (simp;done) | omega | (simp;omega) | (intro m hm;show upd _ _ _ _=_;rw [upd_ne _ _ (by omega)];exact GH.a0r hm)) ⟨by simp [a0h],by simp,rfl,rfl,rfl⟩
  ·exact JN.go (H.next+3,H.next+1,H.next+2,H.next+4,_) (by and_intros <;> first | (simp;done) | omega | (simp;omega) | (intro m hm;show upd _ _ _ _=_;rw [upd_ne _ _ (by omega)];exact GH.a0r hm)) ⟨by simp [a0h],by simp,rfl,rfl,rfl⟩
  ·exact JN.go (H.next+4,H.next+1,H.next+2,H.next+3,_) (by and_intros <;> first | (simp;done) | omega | (simp;omega) | (intro m hm;show upd _ _ _ _=_;rw [upd_ne _ _ (by omega)];exact GH.a0r hm)) ⟨by simp [a0h],by simp,rfl,rfl,rfl⟩
  ·exact JN.go (H.next+3,H.next+1,H.next+4,H.next+2,_) (by and_intros <;> first | (simp;done) | omega | (simp;omega) | (intro m hm;show upd _ _ _ _=_;rw [upd_ne _ _ (by omega)];exact GH.a0r hm)) ⟨by simp [a0h],by simp,rfl,rfl,rfl⟩
  ·exact JN.go (H.next+4,H.next+1,H.next+3,H.next+2,_) (by and_intros <;> first | (simp;done) | omega | (simp;omega) | (intro m hm;show upd _ _ _ _=_;rw [upd_ne _ _ (by omega)];exact GH.a0r hm)) ⟨by simp [a0h],by simp,rfl,rfl,rfl⟩
  ·exact JN.go (H.next+3,H.next+1,H.next+4,H.next+2,_) (by and_intros <;> first | (simp;done) | omega | (simp;omega) | (intro m hm;show upd _ _ _ _=_;rw [upd_ne _ _ (by omega)];exact GH.a0r hm)) ⟨by simp [a0h],by simp,rfl,rfl,rfl⟩
  ·exact JN.go (H.next+4,H.next+1,H.next+3,H.next+2,_) (by and_intros <;> first | (simp;done) | omega | (simp;omega) | (intro m hm;show upd _ _ _ _=_;rw [upd_ne _ _ (by omega)];exact GH.a0r hm)) ⟨by simp [a0h],by simp,rfl,rfl,rfl⟩
  ·exact JN.go (H.next+1,H.next+2,H.next+3,H.next+4,_) (by and_intros <;> first | (simp;done) | omega | (simp;omega) | (intro m hm;show upd _ _ _ _=_;rw [upd_ne _ _ (by omega)];exact GH.a0r hm)) ⟨by simp [a0h],by simp,rfl,rfl,rfl⟩
  ·exact JN.go (H.next+1,H.next+2,H.next+4,H.next+3,_) (by and_intros <;> first | (simp;done) | omega | (simp;omega) | (intro m hm;show upd _ _ _ _=_;rw [upd_ne _ _ (by omega)];exact GH.a0r hm)) ⟨by simp [a0h],by simp,rfl,rfl,rfl⟩
  ·exact JN.go (H.next+1,H.next+3,H.next+2,H.next+4,_) (by and_intros <;> first | (simp;done) | omega | (simp;omega) | (intro m hm;show upd _ _ _ _=_;rw [upd_ne _ _ (by omega)];exact GH.a0r hm)) ⟨by simp [a0h],by simp,rfl,rfl,rfl⟩
  ·exact JN.go (H.next+1,H.next+4,H.next+2,H.next+3,_) (by and_intros <;> first | (simp;done) | omega | (simp;omega) | (intro m hm;show upd _ _ _ _=_;rw [upd_ne _ _ (by omega)];exact GH.a0r hm)) ⟨by simp [a0h],by simp,rfl,rfl,rfl⟩
  ·exact JN.go (H.next+1,H.next+3,H.next+4,H.next+2,_) (by and_intros <;> first | (simp;done) | omega | (simp;omega) | (intro m hm;show upd _ _ _ _=_;rw [upd_ne _ _ (by omega)];exact GH.a0r hm)) ⟨by simp [a0h],by simp,rfl,rfl,rfl⟩
  ·exact JN.go (H.next+1,H.next+4,H.next+3,H.next+2,_) (by and_intros <;> first | (simp;done) | omega | (simp;omega) | (intro m hm;show upd _ _ _ _=_;rw [upd_ne _ _ (by omega)];exact GH.a0r hm)) ⟨by simp [a0h],by simp,rfl,rfl,rfl⟩
  ·exact JN.go (H.next+2,H.next+1,H.next+3,H.next+4,_) (by and_intros <;> first | (simp;done) | omega | (simp;omega) | (intro m hm;show upd _ _ _ _=_;rw [upd_ne _ _ (by omega)];exact GH.a0r hm)) ⟨by simp [a0h],by simp,rfl,rfl,rfl⟩
  ·exact JN.go (H.next+2,H.next+1,H.next+4,H.next+3,_) (by and_intros <;> first | (simp;done) | omega | (simp;omega) | (intro m hm;show upd _ _ _ _=_;rw [upd_ne _ _ (by omega)];exact GH.a0r hm)) ⟨by simp [a0h],by simp,rfl,rfl,rfl⟩
  ·exact JN.go (H.next+3,H.next+1,H.next+2,H.next+4,_) (by and_intros <;> first | (simp;done) | omega | (simp;omega) | (intro m hm;show upd _ _ _ _=_;rw [upd_ne _ _ (by omega)];exact GH.a0r hm)) ⟨by simp [a0h],by simp,rfl,rfl,rfl⟩
  ·exact JN.go (H.next+4,H.next+1,H.next+2,H.next+3,_) (by and_intros <;> first | (simp;done) | omega | (simp;omega) | (intro m hm;show upd _ _ _ _=_;rw [upd_ne _ _ (by omega)];exact GH.a0r hm)) ⟨by simp [a0h],by simp,rfl,rfl,rfl⟩
  ·exact JN.go (H.next+3,H.next+1,H.next+4,H.next+2,_) (by and_intros <;> first | (simp;done) | omega | (simp;omega) | (intro m hm;show upd _ _ _ _=_;rw [upd_ne _ _ (by omega)];exact GH.a0r hm)) ⟨by simp [a0h],by simp,rfl,rfl,rfl⟩
  ·exact JN.go (H.next+4,H.next+1,H.next+3,H.next+2,_) (by and_intros <;> first | (simp;done) | omega | (simp;omega) | (intro m hm;show upd _ _ _ _=_;rw [upd_ne _ _ (by omega)];exact GH.a0r hm)) ⟨by simp [a0h],by simp,rfl,rfl,rfl⟩
  ·exact JN.go (H.next+2,H.next+3,H.next+1,H.next+4,_) (by and_intros <;> first | (simp;done) | omega | (simp;omega) | (intro m hm;show upd _ _ _ _=_;rw [upd_ne _ _ (by omega)];exact GH.a0r hm)) ⟨by simp [a0h],by simp,rfl,rfl,rfl⟩
  ·exact JN.go (H.next+2,H.next+4,H.next+1,H.next+3,_) (by and_intros <;> first | (simp;done) | omega | (simp;omega) | (intro m hm;show upd _ _ _ _=_;rw [upd_ne _ _ (by omega)];exact GH.a0r hm)) ⟨by simp [a0h],by simp,rfl,rfl,rfl⟩
  ·exact JN.go (H.next+3,H.next+2,H.next+1,H.next+4,_) (by and_intros <;> first | (simp;done) | omega | (simp;omega) | (intro m hm;show upd _ _ _ _=_;rw [upd_ne _ _ (by omega)];exact GH.a0r hm)) ⟨by simp [a0h],by simp,rfl,rfl,rfl⟩
  ·exact JN.go (H.next+4,H.next+2,H.next+1,H.next+3,_) (by and_intros <;> first | (simp;done) | omega | (simp;omega) | (intro m hm;show upd _ _ _ _=_;rw [upd_ne _ _ (by omega)];exact GH.a0r hm)) ⟨by simp [a0h],by simp,rfl,rfl,rfl⟩
  ·exact JN.go (H.next+3,H.next+4,H.next+1,H.next+2,_) (by and_intros <;> first | (simp;done) | omega | (simp;omega) | (intro m hm;show upd _ _ _ _=_;rw [upd_ne _ _ (by omega)];exact GH.a0r hm)) ⟨by simp [a0h],by simp,rfl,rfl,rfl⟩
  ·exact JN.go (H.next+4,H.next+3,H.next+1,H.next+2,_) (by and_intros <;> first | (simp;done) | omega | (simp;omega) | (intro m hm;show upd _ _ _ _=_;rw [upd_ne _ _ (by omega)];exact GH.a0r hm)) ⟨by simp [a0h],by simp,rfl,rfl,rfl⟩
  ·exact JN.go (H.next+2,H.next+3,H.next+4,H.next+1,_) (by and_intros <;> first | (simp;done) | omega | (simp;omega) | (intro m hm;show upd _ _ _ _=_;rw [upd_ne _ _ (by omega)];exact GH.a0r hm)) ⟨by simp [a0h],by simp,rfl,rfl,rfl⟩
  ·exact JN.go (H.next+2,H.next+4,H.next+3,H.next+1,_) (by and_intros <;> first | (simp;done) | omega | (simp;omega) | (intro m hm;show upd _ _ _ _=_;rw [upd_ne _ _ (by omega)];exact GH.a0r hm)) ⟨by simp [a0h],by simp,rfl,rfl,rfl⟩
  ·exact JN.go (H.next+3,H.next+2,H.next+4,H.next+1,_) (by and_intros <;> first | (simp;done) | omega | (simp;omega) | (intro m hm;show upd _ _ _ _=_;rw [upd_ne _ _ (by omega)];exact GH.a0r hm)) ⟨by simp [a0h],by simp,rfl,rfl,rfl⟩
  ·exact JN.go (H.next+4,H.next+2,H.next+3,H.next+1,_) (by and_intros <;> first | (simp;done) | omega | (simp;omega) | (intro m hm;show upd _ _ _ _=_;rw [upd_ne _ _ (by omega)];exact GH.a0r hm)) ⟨by simp [a0h],by simp,rfl,rfl,rfl⟩
  ·exact JN.go (H.next+3,H.next+4,H.next+2,H.next+1,_) (by and_intros <;> first | (simp;done) | omega | (simp;omega) | (intro m hm;show upd _ _ _ _=_;rw [upd_ne _ _ (by omega)];exact GH.a0r hm)) ⟨by simp [a0h],by simp,rfl,rfl,rfl⟩
  ·exact JN.go (H.next+4,H.next+3,H.next+2,H.next+1,_) (by and_intros <;> first | (simp;done) | omega | (simp;omega) | (intro m hm;show upd _ _ _ _=_;rw [upd_ne _ _ (by omega)];exact GH.a0r hm)) ⟨by simp [a0h],by simp,rfl,rfl,rfl⟩
  ·exact JN.go (H.next+2,H.next+3,H.next+4,H.next+1,_) (by and_intros <;> first | (simp;done) | omega | (simp;omega) | (intro m hm;show upd _ _ _ _=_;rw [upd_ne _ _ (by omega)];exact GH.a0r hm)) ⟨by simp [a0h],by simp,rfl,rfl,rfl⟩
  ·exact JN.go (H.next+2,H.next+4,H.next+3,H.next+1,_) (by and_intros <;> first | (simp;done) | omega | (simp;omega) | (intro m hm;show upd _ _ _ _=_;rw [upd_ne _ _ (by omega)];exact GH.a0r hm)) ⟨by simp [a0h],by simp,rfl,rfl,rfl⟩
  ·exact JN.go (H.next+3,H.next+2,H.next+4,H.next+1,_) (by and_intros <;> first | (simp;done) | omega | (simp;omega) | (intro m hm;show upd _ _ _ _=_;rw [upd_ne _ _ (by omega)];exact GH.a0r hm)) ⟨by simp [a0h],by simp,rfl,rfl,rfl⟩
  ·exact JN.go (H.next+4,H.next+2,H.next+3,H.next+1,_) (by and_intros <;> first | (simp;done) | omega | (simp;omega) | (intro m hm;show upd _ _ _ _=_;rw [upd_ne _ _ (by omega)];exact GH.a0r hm)) ⟨by simp [a0h],by simp,rfl,rfl,rfl⟩
  ·exact JN.go (H.next+3,H.next+4,H.next+2,H.next+1,_) (by and_intros <;> first | (simp;done) | omega | (simp;omega) | (intro m hm;show upd _ _ _ _=_;rw [upd_ne _ _ (by omega)];exact GH.a0r hm)) ⟨by simp [a0h],by simp,rfl,rfl,rfl⟩
  ·exact JN.go (H.next+4,H.next+3,H.next+2,H.next+1,_) (by and_intros <;> first | (simp;done) | omega | (simp;omega) | (intro m hm;show upd _ _ _ _=_;rw [upd_ne _ _ (by omega)];exact GH.a0r hm)) ⟨by simp [a0h],by simp,rfl,rfl,rfl⟩
 ·rintro ⟨ms,mn,mv,ma,G⟩ ⟨k0,⟨k1,k2,k3,k4,k5,k6⟩,k7,k8,k9,k10,kb,kw,ks,kn,kv,ka,kl⟩
  simp only at k0 k1 k2 k3 k4 k5 k6 k7 k8 k9 k10 kb kw ks kn kv ka kl
  refine AW.f6j mv kv ?_
  obtain ⟨G0,hG0⟩:∃ G0,G.set mv (.vec 30 0 1 (fzs (repL n [.d (.k (.slice none 0 0))])) true)=G0:=⟨_,rfl⟩
  have hfz:=e2m n
  rw [hfz] at hG0
  rw [hfz]
  simp only [LS.s_mk]
  rw [show (G.set mv (.vec 30 0 1 ((List.replicate n ([]:Bag)).map bagL) true))=G0 from hG0]
  have e0:G0.next=H.next+6:=by rw [<- hG0,GH.a0l];exact k0.symm
  have c0:∀ m,m ≠ mv->G0.obj m=G.obj m:=fun m hm=>by rw [<- hG0,GH.a0f,if_neg hm]
  have cv:G0.obj mv=some (.vec 30 0 1 ((List.replicate n ([]:Bag)).map bagL) true):=by rw [<- hG0,GH.a0n]
  have cw:=(c0 _ (by omega)).trans kw
  have cb:=(c0 _ (by omega)).trans kb
  have cms:=(c0 ms (by omega)).trans ks
  have cmn:=(c0 mn (by omega)).trans kn
  have cma:=(c0 ma (by omega)).trans ka
  have hsays:=fun i:Nat=>c8h l i (by omega)
  have hwr:=fun i:Nat=>fun (q:i < 1000)=>wrap_succ (n:=9223372036854775807) (show i < 9223372036854775807 by omega)
  obtain ⟨fs,hfs⟩:∃ fs:Nat->LV,fs=fun i=>bagL ((c0p p l).getD i []):=⟨_,rfl⟩
  refine AW.seq cc ?_
  simp [a0h]
  refine AW.a0w cc (fun a:Nat × List (Value × LV)=>⟨[(1,sl (l.map a0t)),(2,.ip ((a0h p).map .d) 0),(4,.gp H.next 0),(27,sl (p.srcs.map rS)),(28,lvI p.srcs.length),(29,lvI a.1)],[],G0.set ms (.map a.2)⟩)
   (fun a=>p.srcs.length - a.1) (fun a=>a.1<=p.srcs.length/\MapI a.2 p.srcs fs a.1) (0,[]) ⟨⟨Nat.zero_le _,MapI.nil _ _⟩,by simp [a0h,GH.a6g cms]⟩ ?_
  rintro ⟨i,es⟩ ⟨hil,hmi⟩
  simp only at hil hmi
  simp
  have hne5:ms ≠ H.next/\ms ≠ H.next+5:=by omega
  have o1:∀ es,(G0.set ms (.map es)).obj H.next=some (.box [.gp (H.next+5) 0]):=fun es=>by rw [GH.a0f,if_neg (by omega)];exact cb
  have o2:∀ es,(G0.set ms (.map es)).obj (H.next+5)=some (.box [sl (p.srcs.map rS),sl (p.defs.map rDef),.gm ms,.gm mn,.vs mv 0 1 0 n,.gm ma]):=fun es=>by rw [GH.a0f,if_neg (by omega)];exact cw
  have o3:∀ es,(G0.set ms (.map es)).obj ms=some (.map es):=fun es=>GH.a0n
  refine ⟨fun h=>?_,fun h=>?_⟩
  ·obtain ⟨s,hs⟩:∃ s,p.srcs[i]=s:=⟨_,rfl⟩
   have hsy:=hsays i
   simp at hsy
   simp [h,List.getElem?_eq_getElem h,hs,rS]
   refine AW.draw cc [(7,.n)] (.q 4<|.q 5<|.q 6<|.q 7<|.q 0<|.q 1<|.q 2<|.q 3<|.f<|.one 8<|.done) (by kernel_rfl) ?_
   simp
   refine FC.afun hsy ?_
   simp [o1,o2,o3,bagL]
   refine ⟨hmi.key,?_⟩
   have hfi:fs i=.d (.sl ((b6g l i).map a0i)):=by
    rw [hfs]
    simp [c0p,List.getD_eq_getElem?_getD,List.getElem?_map,List.getElem?_range h,bagL]
   have hput:=hmi.put h fun j hj hji=>e5m hdf h hji
   rw [hs,hfi] at hput
   exact NX.go (i+1,mput (.string s) (.d (.sl ((b6g l i).map a0i))) es) (by simp only;omega) ⟨h,hput⟩ (by simp [hwr i (by omega),GH.a2n,a0h])
  ·have:i=p.srcs.length:=by omega
   subst this
   have hms:MapS es p.srcs fs:=hmi.all
   obtain ⟨G1,hG1⟩:∃ G1,G0.set ms (.map es)=G1:=⟨_,rfl⟩
   have d1:=o1 es
   have d2:=o2 es
   have d3:=o3 es
   have d0:∀ m,m ≠ ms->G1.obj m=G0.obj m:=fun m hm=>by rw [<- hG1,GH.a0f,if_neg hm]
   have dn:G1.next=H.next+6:=by rw [<- hG1,GH.a0l];exact e0
   rw [hG1] at d1 d2 d3 |-
   have d4:=(d0 mn (by omega)).trans cmn
   have d5:=(d0 ma (by omega)).trans cma
   have d6:=(d0 mv (by omega)).trans cv
   clear o1 o2 o3 hmi
   obtain ⟨nms,hnms⟩:∃ nms,a0d p=nms:=⟨_,rfl⟩
   have hnl:nms.length=n:=by rw [<- hnms,<- hn];simp [a0d]
   refine AW.seq cc ?_
   simp [a0h]
   refine AW.a0w cc (fun a:Nat × List (Value × LV)=>⟨[(1,sl (l.map a0t)),(2,.ip ((a0h p).map .d) 0),(4,.gp H.next 0),(44,sl (p.defs.map rDef)),(45,lvI n),(46,lvI a.1)],[],G1.set mn (.map a.2)⟩)
    (fun a=>n - a.1) (fun a=>a.1<=n/\MapI a.2 nms (fun i=>lvI i) a.1) (0,[]) ⟨⟨Nat.zero_le _,MapI.nil _ _⟩,by simp [a0h,GH.a6g d4,hn]⟩ ?_
   rintro ⟨i,es2⟩ ⟨hil2,hmi⟩
   simp only at hil2 hmi
   have o1:∀ es,(G1.set mn (.map es)).obj H.next=some (.box [.gp (H.next+5) 0]):=fun es=>by rw [GH.a0f,if_neg (by omega)];exact d1
   have o2:∀ es,(G1.set mn (.map es)).obj (H.next+5)=some (.box [sl (p.srcs.map rS),sl (p.defs.map rDef),.gm ms,.gm mn,.vs mv 0 1 0 n,.gm ma]):=fun es=>by rw [GH.a0f,if_neg (by omega)];exact d2
   have o3:∀ es,(G1.set mn (.map es)).obj mn=some (.map es):=fun es=>GH.a0n
   simp
   refine ⟨fun h=>?_,fun h=>?_⟩
   ·have hl':i < p.defs.length:=by omega
    obtain ⟨d,hd⟩:∃ d,p.defs[i]=d:=⟨_,rfl⟩
    simp [h,hl',List.getElem?_eq_getElem hl',hd,rDef,a0c]
    refine AW.draw cc [] (.q 4<|.q 6<|.q 0<|.q 1<|.q 2<|.q 3<|.q 5<|.f<|.one 7<|.done) (by kernel_rfl) ?_
    simp [o1,o2,o3]
    refine ⟨hmi.key,?_⟩
    have hni:nms[i]=d.name:=by
     subst hnms
     simp [a0d,hd]
    have hput:=hmi.put (i:=i) (by omega) fun j hj hji=>by subst hnms;exact e5o hdf (by omega) hji
    rw [hni] at hput
    exact NX.go (i+1,mput (.string d.name) (lvI i) es2) (by simp only;omega) ⟨h,hput⟩ (by simp [hwr i (by omega),GH.a2n,a0h])
   ·have:n=i:=by omega
    subst this
    rw [<- hnl] at hmi
    have hmn:MapS es2 nms (fun i=>lvI i):=hmi.all
    obtain ⟨G2,hG2⟩:∃ G2,G1.set mn (.map es2)=G2:=⟨_,rfl⟩
    have f1:=o1 es2
    have f2:=o2 es2
    have f3:=o3 es2
    have f0:∀ m,m ≠ mn->G2.obj m=G1.obj m:=fun m hm=>by rw [<- hG2,GH.a0f,if_neg hm]
    have fn:G2.next=H.next+6:=by rw [<- hG2,GH.a0l];exact dn
    rw [hG2] at f1 f2 f3 |-
    have f4:=(f0 ms (by omega)).trans d3
    have f5:=(f0 ma (by omega)).trans d5
    have f6:=(f0 mv (by omega)).trans d6
    have f7:∀ m,m < H.next->G2.obj m=H.obj m:=fun m hm=>by
     rw [f0 m (by omega),d0 m (by omega),c0 m (by omega)];exact kl m hm
    clear o1 o2 o3 hmi
    obtain ⟨S,hS⟩:∃ S,c0p p l=S:=⟨_,rfl⟩
    have hSok:∀ b ∈ S,a1u b:=fun b hb=>by
     rw [<- hS] at hb
     obtain ⟨i,_,rfl⟩:=List.mem_map.1 hb
     exact d1g hl hi (i:Nat)
    obtain ⟨GG,hGG⟩:∃ GG:List Bag->GH,GG=fun defs=>G2.set mv (.vec 30 0 1 (defs.map bagL) true):=⟨_,rfl⟩
    have hW:∀ defs:List Bag,defs.length=p.defs.length->WldX (GG defs) (H.next+5) ms mn mv ma p ⟨S,defs⟩:=fun defs hdl=>by
     rw [hGG]
     refine ⟨⟨?_,⟨es,?_,?_⟩,⟨es2,?_,?_⟩,?_,hdl⟩,?_⟩
     ·simp only [hdl,hn];rw [GH.a0f,if_neg (by omega)];exact f2
     ·rw [GH.a0f,if_neg (by omega)];exact f4
     ·rw [<- hS,<- hfs];exact hms
     ·rw [GH.a0f,if_neg (by omega)];exact f3
     ·rw [hnms];exact hmn
     ·exact GH.a0n
     ·rw [GH.a0f,if_neg (by omega)];exact f5
    obtain ⟨GS,hGS⟩:∃ GS,b0c p.defs.length (pathB p)=GS:=⟨_,rfl⟩
    have hgi:∀ g ∈ GS,e1j p g:=fun g hg=>by rw [<- hGS] at hg;exact ((b2h (p:=p) p.defs.length [] (fun x hx=>absurd hx List.not_mem_nil)).1 g hg).1
    obtain ⟨K,hK⟩:∃ K,knownM p l=K:=⟨_,rfl⟩
    have hK0:a6v p S GS (List.replicate p.defs.length [])=K:=by rw [<- hK,<- hS,<- hGS];rfl
    have hgr:=b8v p hstr hp hs1 hs12 g
    rw [hGS] at hgr
    refine AW.seq cc ?_
    simp [a0h]
    refine EC.of (by simpa [a0h] using hgr G2) (fun v1 H1 hR=>?_) (fun v1 H1 hR=>by obtain ⟨q,_⟩:=hR;cases q)
    obtain ⟨q1,q2⟩:=hR
    cases q1
    rw [q2]
    clear q2
    have hGG0:GG (List.replicate p.defs.length [])=G2:=by rw [hGG,hn];exact GH.a6g f6
    have hfar:∀ g ∈ GS,1<=farM p g/\farM p g<=201:=fun g hg=>⟨e4v (g:=g) (fun d=>allE (c5t p d)) g 201 (by omega) fun k hk x hx h3 _=>by
     have hkl:=(hgi g hg).lt hk
     rw [c5s hkl] at hx
     exact ((b5z hp hkl x hx).bnd.2.2.1 h3).1,e4u (g:=g) (fun d=>allE (c5t p d)) g 201⟩
    have hglen:∀ g ∈ GS,g.length<=6:=fun g hg=>by
     have:=a2k (hgi g hg).nodup fun x hx=>List.mem_range.2 ((hgi g hg).lt hx)
     simp at this;omega
    have hgll:GS.length<=6:=by rw [<- hGS];exact Nat.le_trans (b5x _ _) (by omega)
    have o1:∀ defs,(GG defs).obj H.next=some (.box [.gp (H.next+5) 0]):=fun defs=>by rw [hGG];simp only;rw [GH.a0f,if_neg (by omega)];exact f1
    have oL:∀ defs m,m < H.next->(GG defs).obj m=H.obj m:=fun defs m hm=>by rw [hGG];simp only;rw [GH.a0f,if_neg (by omega)];exact f7 m hm
    have oN:∀ defs,(GG defs).next=H.next+6:=fun defs=>by rw [hGG];exact fn
    simp
    refine AW.a0w cc (fun a:Nat × List Bag=>⟨[(2,.ip ((a0h p).map .d) 0),(4,.gp H.next 0),(60,sl (GS.map rT)),(61,lvI GS.length),(62,lvI a.1)],[],GG a.2⟩)
     (fun a=>GS.length - a.1) (fun a=>a.1<=GS.length/\a.2.length=p.defs.length/\(∀ b ∈ a.2,a1u b)/\a6v p S (GS.drop a.1) a.2=K) (0,List.replicate p.defs.length [])
     ⟨⟨Nat.zero_le _,by simp,fun b hb=>by rw [List.eq_of_mem_replicate hb];exact ⟨.nil,by simp,by simp⟩,hK0⟩,by simp [a0h,hGG0]⟩ ?_
    rintro ⟨i,defs⟩ ⟨hi1,hdl,hdok,hgk⟩
    simp only at hi1 hdl hdok hgk
    simp
    refine ⟨fun h=>?_,fun h=>?_⟩
    ·obtain ⟨g,hge⟩:∃ g,GS[i]=g:=⟨_,rfl⟩
     have hgm:g ∈ GS:=hge ▸ List.getElem_mem h
     have hdrop:GS.drop i=g :: GS.drop (i+1):=by rw [List.drop_eq_getElem_cons h,hge]
     rw [hdrop,a6v] at hgk
     have hgrow:rowN g=.d (.sl (g.map fun k=>rI (k:Nat))):=by unfold rowN natI;rw [List.map_map];rfl
     have hfr:=e8n (hW defs hdl) he (fun d hd=>(hgi g hgm).lt hd) (hglen g hgm)
     have hfb:=hfar g hgm
     obtain ⟨far,hfe⟩:∃ far,farM p g=far:=⟨_,rfl⟩
     rw [hgrow,hfe] at hfr
     rw [hfe] at hfb
     simp [h,List.getElem?_eq_getElem h,hge,rT,o1]
     refine ⟨by rw [oN];omega,EC.of hfr (fun v2 H2 hR=>?_) (fun v2 H2 hR=>by obtain ⟨q,_⟩:=hR;cases q)⟩
     obtain ⟨q1,q2⟩:=hR
     cases q1
     rw [q2]
     clear q2
     have w1:IntKind.i64.wrap (far - 1)=far - 1:=by rw [wrap64] <;> omega
     obtain ⟨top0,ht0⟩:∃ t,minI (far - 1) 200=t:=⟨_,rfl⟩
     simp [w1,ht0]
     obtain ⟨K2,hK2⟩:∃ K2,f1p p S g defs=K2:=⟨_,rfl⟩
     have hk20:c6q p S far g 202 top0 defs=K2:=by rw [<- hK2,<- ht0,<- hfe];rfl
     have htb0:0<=top0/\top0<=200:=by rw [<- ht0];unfold minI;split <;> omega
     obtain ⟨RG,hRG⟩:∃ RG:LV,LV.d (.sl (g.map fun k=>rI (k:Nat)))=RG:=⟨_,rfl⟩
     refine AW.a0w cc (fun a:Nat × Int × List Bag=>⟨[(2,.ip ((a0h p).map .d) 0),(4,.gp H.next 0),(10,.d (.sl (g.map fun k=>rI (k:Nat)))),(11,lvI far),(12,lvI a.2.1),(60,sl (GS.map rT)),(61,lvI GS.length),(62,lvI i)],[],GG a.2.2⟩)
      (fun a=>a.1) (fun a=>0<=a.2.1/\a.2.1<=200/\200 - a.2.1 < a.1/\a.2.2.length=p.defs.length/\(∀ b ∈ a.2.2,a1u b)/\c6q p S far g a.1 a.2.1 a.2.2=K2) (202,top0,defs)
      ⟨⟨htb0.1,htb0.2,by simp only;omega,hdl,hdok,hk20⟩,by simp [a0h]⟩ ?_
     rintro ⟨f,top,defs1⟩ ⟨ht1,ht2,hf3,hdl1,hdok1,hk1⟩
     simp only at ht1 ht2 hf3 hdl1 hdok1 hk1
     simp
     obtain ⟨f,rfl⟩:∃ f',f=f' + 1:=⟨f - 1,by omega⟩
     rw [c6q] at hk1
     obtain ⟨K3,hK3⟩:∃ K3,c4t p S top g defs1=K3:=⟨_,rfl⟩
     rw [hK3] at hk1
     refine AW.a0w cc (fun a:Nat × List Bag=>⟨[(2,.ip ((a0h p).map .d) 0),(4,.gp H.next 0),(10,.d (.sl (g.map fun k=>rI (k:Nat)))),(11,lvI far),(12,lvI top),(60,sl (GS.map rT)),(61,lvI GS.length),(62,lvI i),(76,.d (.sl (g.map fun k=>rI (k:Nat)))),(77,lvI g.length),(78,lvI a.1)],[],GG a.2⟩)
      (fun a=>g.length - a.1) (fun a=>a.1<=g.length/\a.2.length=p.defs.length/\(∀ b ∈ a.2,a1u b)/\c4t p S top (g.drop a.1) a.2=K3) (0,defs1)
      ⟨⟨Nat.zero_le _,hdl1,hdok1,hK3⟩,by simp [a0h]⟩ ?_
     rintro ⟨j,defs2⟩ ⟨hj,hdl2,hdok2,hk2⟩
     simp only at hj hdl2 hdok2 hk2
     simp
     refine ⟨fun hjg=>?_,fun hjg=>?_⟩
     ·obtain ⟨d,hde⟩:∃ d,g[j]=d:=⟨_,rfl⟩
      have hdm:d ∈ g:=hde ▸ List.getElem_mem hjg
      have hdlt:=(hgi g hgm).lt hdm
      have hdrop2:g.drop j=d :: g.drop (j+1):=by rw [List.drop_eq_getElem_cons hjg,hde]
      rw [hdrop2,c4t,f2h] at hk2
      have hexd:(p.defs.getD d default).exp=p.defs[d].exp:=c5s hdlt
      rw [hexd] at hk2
      have hex:=b7b (W:=⟨S,defs2⟩) hSok hdok2 (ht2) _ p.defs[d].exp (Nat.lt_succ_self _) (he d hdlt) (GG defs2) (hW defs2 hdl2)
      simp [a0c] at hex
      have hwW:=(hW defs2 hdl2).wld.ob
      simp [hjg,List.getElem?_eq_getElem hjg,hde,rI]
      refine AW.draw cc [] (.q 4<|.q 6<|.q 8<|.q 12<|.q 5<|.q 7<|.q 9<|.q 10<|.q 11<|.f (.cons 0 (.q 1<|.q 2<|.f (.cons 3 (.f<|.one 13<|.q 14<|.f<|.one 15<|.done) (.cons 13 (.q 3<|.q 14<|.f<|.one 15<|.done) (.nil)))) (.cons 13 (.q 0<|.q 1<|.q 2<|.q 3<|.q 14<|.f<|.one 15<|.done) (.nil)))) (by kernel_rfl) ?_
      simp [a0h,o1,oN,hwW,hdlt,List.getElem?_eq_getElem hdlt,rDef,a0c]
      have hov:=(hW defs2 hdl2).wld.ov
      refine ⟨⟨?_,?_⟩,?_⟩ <;> refine ECn.of hex (fun v H2 hR _=>?_) (fun x H2 env hR hag=>?_) <;> obtain ⟨hE,hm⟩:=hR <;> rw [hE] <;> clear hE
      all_goals cases hx:expM p ⟨S,defs2⟩ top p.defs[d].exp
      all_goals rw [hx] at hm hk2
      all_goals try (cases hm;done)
      all_goals cases hm
      ·rename_i b
       have hlt2:d < defs2.length:=by omega
       have hlt3:d+1<=defs2.length:=by omega
       have hset:List.take d (defs2.map bagL) ++ LV.d (DV.sl (b.map a0i)) :: List.drop (d+1) (defs2.map bagL)=(defs2.set d b).map bagL:=by
        rw [List.map_set,List.set_eq_take_append_cons_drop,if_pos (by simpa using hlt2)];rfl
       have hGset:(GG defs2).set mv (.vec 30 0 1 ((defs2.set d b).map bagL) true)=GG (defs2.set d b):=by rw [hGG];exact GH.a2n
       have hbok:a1u b:=b4y (W:=⟨S,defs2⟩) hSok hdok2 ht2 _ _ (Nat.lt_succ_self _) (he d hdlt) b hx
       simp [hwW,o1,oN,hov,bagL]
       refine ⟨hlt2,?_⟩
       simp [hlt3]
       rw [hset,hGset]
       exact NX.go (j+1,defs2.set d b) (by simp only;omega) ⟨hjg,by rw [List.length_set];exact hdl2,fun c hc=>by
        rcases List.mem_or_eq_of_mem_set hc with q | q
        ·exact hdok2 c q
        ·rw [q];exact hbok,hk2⟩ (by simp [hwr j (by have:=hglen g hgm;omega),a0h,rI])
      ·simp
       refine fun hz=>⟨by rw [oN];omega,b4u H.next _ _ (o1 _) rfl _ ?_⟩
       have hkn:knownM p l=none:=by
        rw [hK,<- hgk,hK2]
        rw [<- hk2] at hk1
        rw [<- hk1]
       simp only [a3h]
       have h4:env 4=.gp H.next 0:=by simpa using hag 4 rfl
       refine ⟨.d (.k (.pointer none)),by simp [b7p,GH.a0n,h4],H,?_,by simp [fz,LV.nb],?_⟩
       ·refine a0m (by rw [GH.a0l,oN];omega) (fun m hm=>?_) hw.none
        rw [GH.a0f,if_neg (by omega)]
        exact oL defs2 m hm
       ·unfold b4b
        rw [hkn]
        exact ⟨rfl,rfl⟩
      ·rename_i b
       have hlt2:d < defs2.length:=by omega
       have hlt3:d+1<=defs2.length:=by omega
       have hset:List.take d (defs2.map bagL) ++ LV.d (DV.sl (b.map a0i)) :: List.drop (d+1) (defs2.map bagL)=(defs2.set d b).map bagL:=by
        rw [List.map_set,List.set_eq_take_append_cons_drop,if_pos (by simpa using hlt2)];rfl
       have hGset:(GG defs2).set mv (.vec 30 0 1 ((defs2.set d b).map bagL) true)=GG (defs2.set d b):=by rw [hGG];exact GH.a2n
       have hbok:a1u b:=b4y (W:=⟨S,defs2⟩) hSok hdok2 ht2 _ _ (Nat.lt_succ_self _) (he d hdlt) b hx
       simp [hwW,o1,oN,hov,bagL]
       refine ⟨hlt2,?_⟩
       simp [hlt3]
       rw [hset,hGset]
       exact NX.go (j+1,defs2.set d b) (by simp only;omega) ⟨hjg,by rw [List.length_set];exact hdl2,fun c hc=>by
        rcases List.mem_or_eq_of_mem_set hc with q | q
        ·exact hdok2 c q
        ·rw [q];exact hbok,hk2⟩ (by simp [hwr j (by have:=hglen g hgm;omega),a0h,rI])
      ·simp
       refine fun hz=>⟨by rw [oN];omega,b4u H.next _ _ (o1 _) rfl _ ?_⟩
       have hkn:knownM p l=none:=by
        rw [hK,<- hgk,hK2]
        rw [<- hk2] at hk1
        rw [<- hk1]
       simp only [a3h]
       have h4:env 4=.gp H.next 0:=by simpa using hag 4 rfl
       refine ⟨.d (.k (.pointer none)),by simp [b7p,GH.a0n,h4],H,?_,by simp [fz,LV.nb],?_⟩
       ·refine a0m (by rw [GH.a0l,oN];omega) (fun m hm=>?_) hw.none
        rw [GH.a0f,if_neg (by omega)]
        exact oL defs2 m hm
       ·unfold b4b
        rw [hkn]
        exact ⟨rfl,rfl⟩
      ·rename_i b
       have hlt2:d < defs2.length:=by omega
       have hlt3:d+1<=defs2.length:=by omega
       have hset:List.take d (defs2.map bagL) ++ LV.d (DV.sl (b.map a0i)) :: List.drop (d+1) (defs2.map bagL)=(defs2.set d b).map bagL:=by
        rw [List.map_set,List.set_eq_take_append_cons_drop,if_pos (by simpa using hlt2)];rfl
       have hGset:(GG defs2).set mv (.vec 30 0 1 ((defs2.set d b).map bagL) true)=GG (defs2.set d b):=by rw [hGG];exact GH.a2n
       have hbok:a1u b:=b4y (W:=⟨S,defs2⟩) hSok hdok2 ht2 _ _ (Nat.lt_succ_self _) (he d hdlt) b hx
       simp [hwW,o1,oN,hov,bagL]
       refine ⟨hlt2,?_⟩
       simp [hlt3]
       rw [hset,hGset]
       exact NX.go (j+1,defs2.set d b) (by simp only;omega) ⟨hjg,by rw [List.length_set];exact hdl2,fun c hc=>by
        rcases List.mem_or_eq_of_mem_set hc with q | q
        ·exact hdok2 c q
        ·rw [q];exact hbok,hk2⟩ (by simp [hwr j (by have:=hglen g hgm;omega),a0h,rI])
      ·simp
       refine fun hz=>⟨by rw [oN];omega,b4u H.next _ _ (o1 _) rfl _ ?_⟩
       have hkn:knownM p l=none:=by
        rw [hK,<- hgk,hK2]
        rw [<- hk2] at hk1
        rw [<- hk1]
       simp only [a3h]
       have h4:env 4=.gp H.next 0:=by simpa using hag 4 rfl
       refine ⟨.d (.k (.pointer none)),by simp [b7p,GH.a0n,h4],H,?_,by simp [fz,LV.nb],?_⟩
       ·refine a0m (by rw [GH.a0l,oN];omega) (fun m hm=>?_) hw.none
        rw [GH.a0f,if_neg (by omega)]
        exact oL defs2 m hm
       ·unfold b4b
        rw [hkn]
        exact ⟨rfl,rfl⟩
     ·have:j=g.length:=by omega
      subst this
      rw [List.drop_length,c4t] at hk2
      rw [<- hk2] at hk1
      simp only at hk1
      refine ⟨fun q=>?_,fun q=>?_⟩
      ·rw [if_pos q] at hk1
       rw [hK2,<- hk1] at hgk
       exact NX.go (i+1,defs2) (by simp only;omega) ⟨h,hdl2,hdok2,hgk⟩ (by simp [hwr i (by omega),a0h])
      ·rw [if_neg q] at hk1
       have hmt:minI (top+far) 200=if 200 < top+far then 200 else top+far:=rfl
       have w2:IntKind.i64.wrap (top+far)=top+far:=by rw [wrap64] <;> omega
       exact NX.go (f,minI (top+far) 200,defs2) (by simp only;omega) ⟨by simp only [hmt];split <;> omega,by simp only [hmt];split <;> omega,by simp only [hmt];split <;> omega,hdl2,hdok2,hk1⟩ (by simp [w2,a0h])
    ·have:i=GS.length:=by omega
     subst this
     rw [List.drop_length,a6v] at hgk
     have hwW:=(hW defs hdl).wld.ob
     refine AW.ev cc ?_
     simp [o1]
     refine ⟨by rw [oN];omega,?_⟩
     rw [GH.a6g (o1 defs)]
     refine fun hz=>⟨by rw [oN];omega,e0q _ _ _ ?_⟩
     simp only [a3h]
     refine ⟨.gp (H.next+5) 0,by simp [b7p,o1],GG defs,hz.drop (by rw [oN];omega),by simp [fz,LV.nb,oN],?_⟩
     unfold b4b
     rw [hK,<- hgk]
     refine ⟨H.next+5,ms,mn,mv,ma,rfl,by omega,?_,by rw [oN];omega,oL defs,hz⟩
     rw [hS]
     exact hW defs hdl
end Go.Aft
