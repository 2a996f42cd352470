import Derived.Test.YthinedikejlgmaaGreatA25
import Derived.Test.YthinedikejlgmaaGreatA22
set_option linter.all false
section
set_option maxRecDepth 20000
namespace Go.Aft
open Go.Proofs.Tryz
def c8u (e:Exp):Bool:=decide (e.op=2 \/ e.op=3)
def a8z (names:List Str) (l:List Exp):List Int:=(l.filter c8u).map fun e=>idx names e.name
def rL (l:List Int):List DV:=[.sl (l.map rI)]
@[simp] theorem rL_len (l:List Int):(rL l).length=1:=rfl
theorem b7r (p:Prog) (hl:p.defs.length<=6) (hn:∀ d ∈ p.defs,(allE d.exp).length<=1000):AFun prog 180 [lv (a0h p)] (sl ((p.defs.map fun d=>a8z (a0d p) (allE d.exp)).map rL)):=by
 have cc:=a0g (p:=kds [1] [] [])
 refine AFun.body (a0g (p:=kds [1] [] [])) func180 rfl call180 (by rw [ntmps180];simp) rfl fun hf H=>?_
 have hd:=b1p p hl
 simp [a0h] at hd
 simp [ntmps180,results180,a0h] at hf |-
 refine EC.afun hd ?_
 simp
 refine AW.e0i cc (fun a:Nat × LV × GH=>⟨[(1,.ip ((a0h p).map .d) 0),(3,a.2.1),(4,.d (.sl ((a0d p).map rS))),(5,lvI a.1)],[],a.2.2⟩) (fun a=>p.defs.length - a.1)
  (fun a=>a.1<=p.defs.length/\AppX 94 1 H a.2.1 (((p.defs.take a.1).map fun d=>a8z (a0d p) (allE d.exp)).map rL) a.2.2) (0,.d (.k (.slice none 0 0)),H) ⟨⟨by simp,.nil⟩,by simp [a0h]⟩ ?_
 rintro ⟨i,x,H1⟩ ⟨hi,happ⟩
 simp only at hi happ
 refine AW.seq cc ?_
 simp [a0h]
 refine ⟨fun h=>?_,fun h=>?_⟩
 ·have hall:=b8d p.defs[i].exp (by have:=hn _ (List.getElem_mem h);omega)
  simp [a0c] at hall
  refine AW.seqW (c:=cxK (kds [1] [] [])) ?_
  refine AW.block (c:=cxK (kds [1] [] [])) ?_
  refine AW.seq cc ?_
  simp
  refine AW.seq cc ?_
  simp [h,List.getElem?_eq_getElem h,rDef,a0c]
  refine EC.afun hall ?_
  have hln:=hn _ (List.getElem_mem h)
  simp
  generalize hE:allE p.defs[i].exp=E at hln
  refine AW.seq cc ?_
  simp
  refine AW.a0w cc (fun a:Nat × LV × GH=>⟨[(1,.ip ((a0h p).map .d) 0),(3,x),(4,.d (.sl ((a0d p).map rS))),(5,lvI i),(6,a.2.1),(7,.d (.sl (E.map rExp))),(8,lvI a.1)],[],a.2.2⟩) (fun a=>E.length - a.1)
   (fun a=>a.1<=E.length/\AppX 3 1 H1 a.2.1 ((a8z (a0d p) (E.take a.1)).map rI) a.2.2) (0,.d (.k (.slice none 0 0)),H1) ⟨⟨by simp,by simpa [a8z] using AppX.nil⟩,by simp [a0h,happ.only]⟩ ?_
  rintro ⟨k,y,H2⟩ ⟨hk,hin⟩
  simp only at hk hin
  simp
  refine ⟨fun hkl=>?_,fun hkl=>?_⟩
  ·have htk:a8z (a0d p) (E.take (k+1))=a8z (a0d p) (E.take k) ++ (if c8u E[k] then [idx (a0d p) E[k].name] else []):=by
    rw [<- a0p hkl,a8z,List.filter_append,List.map_append]
    simp only [a8z,List.filter_cons,List.filter_nil]
    split <;> rfl
   have hlr:(a8z (a0d p) (E.take (k+1))).length<=1000:=by
    have h1:(a8z (a0d p) (E.take (k+1))).length<=(E.take (k+1)).length:=by rw [a8z,List.length_map];exact List.length_filter_le _ _
    have h2:(E.take (k+1)).length<=E.length:=by simp;omega
    omega
   have hixx:=b8b (a0d p) E[k].name
   simp at hixx
   simp [hkl,List.getElem?_eq_getElem hkl,a0c,hin.plain.all]
   refine ⟨fun hr=>?_,fun hr1 hr2=>?_⟩
   ·simp only [c8u,hr,decide_true,if_true] at htk
    refine EC.afun hixx ?_
    simp
    refine APK.appX tyE94 rfl tyE3 (by simp) (x:=y) (by simp) hin (by simp [rowsOf];rfl) (by simp) (by simp) (by simp) (by rw [htk] at hlr;simp at hlr |-;omega) (by simp) fun x' H3 h3 _ _=>?_
    simp [h3.plain.all,wrap_succ (n:=1000000) (show k < 1000000 by omega)]
    refine NX.go (k+1,x',H3) (by simp;omega) ⟨hkl,by rw [htk,List.map_append];exact h3⟩ (by simp [a0h,happ.only,h3.only])
   ·simp only [c8u,not_or.2 ⟨hr1,hr2⟩,decide_false,Bool.false_eq_true,if_false,List.append_nil] at htk
    simp [wrap_succ (n:=1000000) (show k < 1000000 by omega)]
    refine NX.go (k+1,y,H2) (by simp;omega) ⟨hkl,by rw [htk];exact hin⟩ (by simp [a0h,happ.only,hin.only])
  ·have e:k=E.length:=by omega
   subst e
   rw [List.take_length] at hin
   refine AW.fzT 6 (AW.ev cc ?_)
   simp [happ.plain.all,hin.fz]
   refine APK.appX tyE44 rfl tyE94 (by simp) (x:=x) (by simp) (happ.mono hin.nx hin.ob) (by simp [rowsOf];rfl) (by simp) (fun r hr=>by obtain ⟨_,_,rfl⟩:=List.mem_map.1 hr;rfl) (by simp) (by simp;omega) (by simp) fun x' H3 h3 _ _=>?_
   simp [h3.plain.all,wrap_succ (n:=1000000) (show i < 1000000 by omega)]
   refine AW.ev cc ?_
   simp [h3.plain.all,wrap_succ (n:=1000000) (show i < 1000000 by omega)]
   refine NX.go (i+1,x',H3) (by simp;omega) ⟨h,?_⟩ (by simp [a0h,h3.only])
   rw [<- a0p h,List.map_append,List.map_append]
   simpa [hE,rL] using h3
 ·have e:i=p.defs.length:=by omega
  subst e
  rw [List.take_length,List.map_map] at happ
  simp [happ.plain.all,happ.fz]
  exact ⟨happ.nx,happ.ob⟩
end Go.Aft
end
section
set_option maxRecDepth 20000
namespace Go.Aft
open Go.Proofs.Tryz
theorem a0j.fzA {P:Program} {f:FuncId} {args:List LV} {H:GH} {R:CE->GH->Prop} (h:a0j P f (fzs args) H R):a0j P f args H R:=⟨h.1,fun G w vs h1 h2 h3=>h.2 G w vs h1 h2 (c3w _ _ h3)⟩
theorem AFun.fzA {P:Program} {f:FuncId} {args:List LV} {v:LV} (h:AFun P f (fzs args) v):AFun P f args v:=fun H=>(h H).fzA
theorem AppX.nb {e:TypeId} {sz:Nat} {H0 H:GH} {x:LV} {rows:List (List DV)} (h:AppX e sz H0 x rows H):x.nb H.next:=by
 rcases h.is with ⟨rfl,rfl⟩ | ⟨n,_,h2,rfl,_⟩
 ·simp [LV.nb]
 ·exact h2
open Classical in
theorem d1n (p:Prog) (hstr:∀ s ∈ p.srcs ++ a0d p,a2b s):AFun prog 127 [lv (a0h p)] (lvI (cntV (countM p) 60)):=by
 have cc:=a0g (p:=kds [1] [] [])
 refine AFun.d3w (a0g (p:=kds [1] [] [])) func127 rfl call127 (by rw [ntmps127];simp) rfl fun hf H=>?_
 simp [ntmps127,results127,a0h] at hf |-
 refine AW.seq cc ?_
 simp
 refine AW.seq cc ?_
 simp
 refine ⟨fun q=>?_,fun q1 q2 q3=>?_⟩
 ·have:countM p=none:=by unfold countM;rw [if_neg];rintro ⟨_,_,_,_⟩;omega
  rw [this];rfl
 have hdn:=b1p p (by omega)
 simp [a0h] at hdn
 have hdf:=b7y (p.srcs ++ a0d p) hstr
 have hln:(a0d p).length=p.defs.length:=by simp [a0d]
 refine AW.seq cc ?_
 refine AW.draw cc [(3,.n)] (.q 0<|.q 1<|.q 2<|.q 3<|.q 4<|.f<|.one 5<|.f<|.one 6<|.done) (by kernel_rfl) ?_
 simp
 refine FC.afun hdn ?_
 simp
 have hno:¬ b5a (p.srcs ++ a0d p)->countM p=none:=fun q=>by unfold countM;rw [if_neg];rintro ⟨_,_,_,q2⟩;exact q q2
 refine AW.join (c:=cxK (kds [1] [] [])) (fun H1:GH=>⟨[(1,.ip ((a0h p).map .d) 0),(3,.lp 3 0)],[(3,[.d (.sl (p.srcs.map rS)),.d (.sl ((a0d p).map rS)),lvI 0])],H1⟩)
  (fun H1=>b5a (p.srcs ++ a0d p)/\H.next<=H1.next/\∀ m,m < H.next->H1.obj m=H.obj m) (AW.ev cc ?_) fun H1 h1=>?_
 ·simp
  refine AW.draw cc [(6,.n)] (.q 0<|.q 3<|.f (.cons 1 (.f (.cons 2 (.q 4<|.f<|.one 5<|.q 6<|.q 7<|.done) (.cons 4 (.f<|.one 2<|.f<|.one 5<|.q 6<|.q 7<|.done) (.nil)))) (.cons 4 (.f<|.one 1<|.f<|.one 2<|.f<|.one 5<|.q 6<|.q 7<|.done) (.nil)))) (by kernel_rfl) ?_
  simp
  refine ⟨⟨?_,?_⟩,?_⟩
  all_goals
   refine APK.appX tyE39 rfl tyE9 (by simp) (by simp) (.nil) (by simp [rowsOf];rfl) (by simp) (by simp) (fun r hr=>by obtain ⟨_,_,rfl⟩:=List.mem_map.1 hr;rfl) (by simp;omega) (by simp) fun x' H3 h3 _ _=>?_
   simp [h3.plain.all]
   refine APK.appX tyE39 rfl tyE9 (by simp) (by simp) h3 (by simp [rowsOf];rfl) (by simp) (by simp) (fun r hr=>by obtain ⟨_,_,rfl⟩:=List.mem_map.1 hr;rfl) (by simp;omega) (by simp) fun x2 H4 h4 _ _=>?_
   simp [h4.plain.all]
   refine ⟨h4.nb,FC.afun (AFun.fzA (v:=.d (.k (.bool (decide (b5a (p.srcs ++ a0d p)))))) (by simp only [fzs,h4.fz,List.nil_append,<- List.map_append];exact hdf)) ?_⟩
   simp
   exact ⟨fun q=>⟨by rw [hno q];rfl,h4.nx,h4.ob⟩,fun q=>JN.go H4 ⟨q,h4.nx,h4.ob⟩ (by simp [a0h])⟩
 ·obtain ⟨hdiff,hnx,hob⟩:=h1
  have hsp:countM p=a7l p.srcs (a0d p) p.defs 0 60:=by
   unfold countM;rw [if_pos];exact ⟨by omega,by omega,by omega,hdiff⟩
  rw [hsp]
  clear hno hdf hsp
  refine AW.ev cc ?_
  simp
  refine AW.a0w cc (fun a:Nat × Int=>⟨[(1,.ip ((a0h p).map .d) 0),(3,.lp 3 0),(4,lvI (60 - a.2)),(5,lvI a.1)],[(3,[.d (.sl (p.srcs.map rS)),.d (.sl ((a0d p).map rS)),lvI (a.1 - 1:Nat)])],H1⟩) (fun a=>p.defs.length - a.1)
   (fun a=>a.1<=p.defs.length/\0<=a.2/\a.2<=60/\a7l p.srcs (a0d p) p.defs 0 60=a7l p.srcs (a0d p) (p.defs.drop a.1) a.1 a.2) (0,60) ⟨⟨by simp,by simp,by simp,by simp⟩,by simp [a0h]⟩ ?_
  rintro ⟨i,left⟩ ⟨hi,hl0,hl1,hI⟩
  simp only at hi hl0 hl1 hI
  simp [a0h]
  refine ⟨fun h=>?_,fun h=>?_⟩
  ·have hd:=List.drop_eq_getElem_cons h
   rw [hd,a7l] at hI
   have w2:IntKind.wrap .i64 (60 - (60 - left))=left:=by rw [wrap64] <;> omega
   refine AW.draw cc [(9,.n)] (.q 1<|.q 3<|.q 7<|.q 8<|.q 0<|.q 2<|.q 4<|.q 5<|.q 6<|.q 9<|.q 10<|.done) (by kernel_rfl) ?_
   simp [h,List.getElem?_eq_getElem h,rDef,a0c,w2]
   have hx:=c7l p.srcs (a0d p) i (by omega) p.defs[i].exp 1 left (by omega) (by omega)
   simp [b4s,a0c] at hx
   refine FC.afun hx ?_
   cases hl:lExp p.srcs (a0d p) i p.defs[i].exp 1 left with
   | none =>
    rw [hl] at hI
    simp [cntV]
    rw [hI]
    exact ⟨rfl,hnx,hob⟩
   | some l =>
    rw [hl] at hI
    have hle:=a8h _ _ _ _ hl
    have w3:IntKind.wrap .i64 (60 - left+(left - l))=60 - l:=by rw [wrap64] <;> omega
    simp [cntV,w3,wrap_succ (n:=1000000) (show i < 1000000 by omega)]
    refine ⟨fun q=>by omega,fun q=>NX.go (i+1,l) (by simp;omega) ⟨h,hle.1,by simp only;omega,by simpa using hI⟩ (by simp [a0h])⟩
  ·have:p.defs.drop i=[]:=List.drop_eq_nil_of_le (by omega)
   rw [this,a7l] at hI
   rw [hI];simp [cntV]
   exact ⟨hnx,hob⟩
end Go.Aft
end
section
set_option maxRecDepth 20000
namespace Go.Aft
open Go.Proofs.Tryz
theorem AppX.set {e:TypeId} {sz:Nat} {H0 H:GH} {x:LV} {rows:List (List DV)} (h:AppX e sz H0 x rows H) {k:Nat} (hk:k < H0.next) (o:GO):AppX e sz (H0.set k o) x rows (H.set k o):=by
 refine ⟨?_,h.nx,fun m hm=>?_⟩
 ·rcases h.is with q | ⟨n,q1,q2,q3,q4⟩
  ·exact .inl q
  ·exact .inr ⟨n,q1,q2,q3,by rw [GH.a0f,if_neg (by omega)];exact q4⟩
 ·rw [GH.a0f,GH.a0f]
  split
  ·rfl
  ·exact h.ob m hm
theorem f1i:∀ {l:List Nat} {x:Nat},x ∈ l->x<=l.sum
 | y :: l,x,h=>by
  rcases List.mem_cons.1 h with rfl | h
  ·simp
  ·have:=f1i h;simp;omega
def rT (l:List Nat):List DV:=[.sl (l.map fun k=>rI (k:Nat))]
def rB (b:Bool):List DV:=[.k (.bool b)]
def rR (l:List Bool):List DV:=[.sl (l.map rB)]
open Classical in
noncomputable def pathR (to:List (List Nat)) (i:Nat):List Bool:=(List.range to.length).map fun j=>decide (Path (fun a b=>b ∈ to.getD a []) i j)
@[simp] theorem pathR_len (to:List (List Nat)) (i:Nat):(pathR to i).length=to.length:=by simp [pathR]
noncomputable def reachM (to:List (List Nat)):List (List Bool):=(List.range to.length).map (pathR to)
def bC (l:List Bool):List LV:=l.map fun b=>.d (.k (.bool b))
@[simp] theorem bC_len (l:List Bool):(bC l).length=l.length:=by simp [bC]
theorem e9g (l:List Bool):a1e (l.map rB)=bC l:=by
 induction l with
 | nil=>rfl
 | cons b l ih =>
  simp [a1e,bC,rB] at ih |-
  exact ih
theorem f4y (l:List Bool):∀ r ∈ l.map rB,r.length=1:=fun r hr=>by obtain ⟨_,_,rfl⟩:=List.mem_map.1 hr;rfl
theorem c6r (n g sz:Nat) (rows:List (List DV)):∀ xs:List LV,a7f n g sz rows xs=xs.map (LV.thaw n g sz rows)
 | []=>rfl
 | x :: xs=>by rw [a7f,c6r n g sz rows xs];rfl
open Classical in
noncomputable def cellsR (to:List (List Nat)) (n i:Nat):List LV:=(List.range n).map fun k=>if k < i then .d (.sl ((pathR to k).map rB)) else .d (.k (.slice none 0 0))
@[simp] theorem cellsR_len (to:List (List Nat)) (n i:Nat):(cellsR to n i).length=n:=by simp [cellsR]
theorem e4o {α:Type} (f:α->DV) (l:List α):a1e (l.map fun a=>[f a])=l.map fun a=>.d (f a):=by
 induction l with
 | nil=>rfl
 | cons b l ih =>
  simp [a1e] at ih |-
  exact ih
theorem e1e {to:List (List Nat)} {n i n1:Nat} (hn:to.length=n) (h:i < n):(List.take i (cellsR to n i) ++ LV.vs n1 0 1 0 n :: List.drop (i+1) (cellsR to n i)).map (LV.thaw n1 0 1 ((pathR to i).map rB))=cellsR to n (i+1):=by
 have hm:min i n=i:=by omega
 have hg:∀ a j (hj:j < (cellsR to n a).length),(cellsR to n a)[j]=if j < a then .d (.sl ((pathR to j).map rB)) else .d (.k (.slice none 0 0)):=fun a j hj=>by simp [cellsR]
 refine List.ext_getElem (by simp;omega) fun j h1 h2=>?_
 rw [List.getElem_map,hg,List.getElem_append]
 split
 ·rename_i q
  have q:j < i:=by simpa [hm] using q
  rw [List.getElem_take,hg,if_pos q,if_pos (by omega)];simp
 ·rename_i q
  simp [hm] at q
  rw [List.getElem_cons]
  split
  ·rename_i q2
   simp [hm] at q2
   have:j=i:=by omega
   subst this
   rw [if_pos (by omega)]
   simp [hn]
   exact List.take_of_length_le (by simp [hn])
  ·rename_i q2
   simp [hm] at q2
   rw [List.getElem_drop,hg,if_neg (by simp [hm];omega),if_neg (by omega)]
   simp
open Classical in
theorem b2x (p:Prog) (to:List (List Nat)) (hn:to.length=p.defs.length) (h6:p.defs.length<=6) (hb:∀ l ∈ to,∀ x ∈ l,x < to.length) (hsz:(to.map List.length).sum<=10000)
  (h208:AFun prog 180 [lv (a0h p)] (sl (to.map rT))):AFun prog 130 [lv (a0h p)] (sl ((reachM to).map rR)):=by
 have cc:=a0g (p:=kds [1] [] [15,24])
 intro H
 refine a0j.a3a (a0g (p:=kds [1] [] [15,24])) func130 rfl call130 (by rw [ntmps130];simp) rfl fun hf hw=>?_
 simp [a0h] at h208
 simp [ntmps130,results130,a0h] at hf |-
 refine AW.seq cc ?_
 simp
 refine AW.seq cc ?_
 simp
 refine AW.seq cc ?_
 simp
 refine EC.afun h208 ?_
 simp
 refine AW.seq cc ?_
 simp
 refine ⟨by omega,?_⟩
 obtain ⟨n,hnn⟩:∃ n,p.defs.length=n:=⟨_,rfl⟩
 rw [hnn] at hn h6 |-
 have hrep:repL n [LV.d (DV.k (Value.slice none 0 0))]=cellsR to n 0:=by
  simp only [repL,cellsR,Nat.not_lt_zero,if_false,List.map_const',List.length_range]
  simp
 rw [hrep]
 have hlt:∀ m,m < H.next->(H.add (GO.vec 178 0 1 (cellsR to n 0) true)).obj m=H.obj m:=fun m hm=>by rw [GH.a0b,if_neg (by omega)]
 refine AW.seq cc ?_
 simp
 refine AW.e0i cc (fun a:Nat × GH=>⟨[(3,lvI n),(4,.d (.sl (to.map rT))),(5,.vs H.next 0 1 0 n),(6,lvI a.1)],[],a.2⟩) (fun a=>n - a.1)
  (fun a=>a.1<=n/\H.next < a.2.next/\a.2.obj H.next=some (.vec 178 0 1 (cellsR to n a.1) true)/\∀ m,m < H.next->a.2.obj m=H.obj m) (0,H.add (.vec 178 0 1 (cellsR to n 0) true)) ⟨⟨by simp,by rw [GH.a0a];exact Nat.lt_succ_self _,by rw [GH.a0b,if_pos rfl],hlt⟩,by simp⟩ ?_
 rintro ⟨i,H1⟩ ⟨hi,hnx,hv,hob⟩
 simp only at hi hnx hv hob
 refine AW.seq cc ?_
 simp
 refine ⟨fun h=>?_,fun h=>?_⟩
 ·have hci':(List.take i (cellsR to n i) ++ LV.vs H1.next 0 1 0 n :: List.drop (i+1) (cellsR to n i))[i]?=some (LV.vs H1.next 0 1 0 n):=by
   have hm:min i n=i:=by omega
   rw [List.getElem?_append_right (by simp;omega)];simp [hm]
  obtain ⟨cs,hcs⟩:∃ cs,List.take i (cellsR to n i) ++ LV.vs H1.next 0 1 0 n :: List.drop (i+1) (cellsR to n i)=cs:=⟨_,rfl⟩
  have hcl:cs.length=n:=by rw [<- hcs];simp;omega
  rw [hcs] at hci'
  refine AW.join (c:=cxK (kds [1] [] [15,24])) (fun H2:GH=>⟨[(3,lvI n),(4,.d (.sl (to.map rT))),(5,.vs H.next 0 1 0 n),(6,lvI i)],[],H2⟩)
   (fun H2=>H1.next < H2.next/\H2.obj H1.next=some (.vec 4 0 1 (bC (pathR to i)) true)/\H2.obj H.next=some (.vec 178 0 1 cs true)/\∀ m,m < H.next->H2.obj m=H.obj m) ?_ fun H2 hj=>?_
  rotate_left
  ·obtain ⟨j1,j2,j3,j4⟩:=hj
   refine AW.thaw (n:=H1.next) (g:=0) (sz:=1) (e:=4) (ex:=true) ((pathR to i).map rB) j2 (e9g _).symm (f4y _) ?_
   refine AW.ev cc ?_
   simp
   refine NX.go (i+1,H2.thaw H1.next 0 1 ((pathR to i).map rB)) (by simp;omega) ⟨h,by simp;omega,?_,fun m hm=>?_⟩ ?_
   ·simp only [GH.thaw]
    rw [if_neg (by omega),j3]
    simp only [Option.map_some,GO.thaw,c6r]
    rw [<- hcs,e1e hn h]
   ·simp only [GH.thaw]
    rw [if_neg (by omega),j4 m hm]
    cases ho:H.obj m with
    | none=>rfl
    | some o=>simp only [Option.map_some];rw [GO.b7f (N:=H.next) (by omega) (hw.nb m o ho)]
   ·have e1:¬ H.next=H1.next:=by omega
    have e2:H.next ≠ H1.next:=by omega
    simp [e1,wrap_succ (n:=1000000) (show i < 1000000 by omega)]
  refine AW.block (c:=cxK (kds [1] [] [15,24])) ?_
  refine AW.seq cc ?_
  have hv1:∀ o,(H1.add o).obj H.next=some (.vec 178 0 1 (cellsR to n i) true):=fun o=>by rw [GH.a0b,if_neg (by omega)];exact hv
  have hi1:i+1<=n:=h
  simp [hv1,hi1,h]
  refine ⟨by omega,by rw [GH.a0a];exact Nat.lt_succ_self _,?_⟩
  have hrepB:repL n [LV.d (DV.k (Value.bool false))]=bC (List.replicate n false):=by simp [repL,bC]
  rw [hrepB]
  rw [hcs]
  obtain ⟨B0,hB0⟩:∃ B0,(H1.add (GO.vec 4 0 1 (bC (List.replicate n false)) true)).set H.next (GO.vec 178 0 1 cs true)=B0:=⟨_,rfl⟩
  have b1:B0.next=H1.next+1:=by rw [<- hB0];rfl
  have b2:B0.obj H1.next=some (.vec 4 0 1 (bC (List.replicate n false)) true):=by rw [<- hB0,GH.a0f,if_neg (by omega),GH.a0b,if_pos rfl]
  have b3:B0.obj H.next=some (.vec 178 0 1 cs true):=by rw [<- hB0,GH.a0f,if_pos rfl]
  have b4:∀ m,m < H.next->B0.obj m=H.obj m:=fun m hm=>by rw [<- hB0,GH.a0f,if_neg (by omega),GH.a0b,if_neg (by omega)];exact hob m hm
  rw [hB0]
  have hin:i < to.length:=by omega
  have hgd:∀ j (hj:j < to.length),to.getD j []=to[j]:=fun j hj=>by simp [List.getD,List.getElem?_eq_getElem hj]
  have hsum:∀ j (hj:j < to.length),to[j].length<=10000:=fun j hj=>by
   have:to[j].length<=(to.map List.length).sum:=f1i (List.mem_map.2 ⟨_,List.getElem_mem hj,rfl⟩)
   omega
  have hmr:∀ l:List Nat,∀ r ∈ l.map (fun k=>rI (k:Nat)),r.length=1:=fun l r hr=>by obtain ⟨_,_,rfl⟩:=List.mem_map.1 hr;rfl
  refine AW.seq cc ?_
  simp [hin,List.getElem?_eq_getElem hin,rT]
  refine APK.appX tyE94 rfl tyE3 (by simp) (by simp) (.nil) (by simp [rowsOf];rfl) (by simp) (by simp) (hmr _) (by have:=hsum i hin;simp;omega) (by simp) fun x0 H3 h3 _ _=>?_
  simp [h3.plain.all]
  refine AW.seq cc ?_
  simp
  refine AW.block (c:=cxK (kds [1] [] [15,24])) ?_
  refine AW.a0w cc (fun a:Nat × LV × List Nat × List Bool × GH × GH=>⟨[(3,lvI n),(4,.d (.sl (to.map rT))),(5,.vs H.next 0 1 0 n),(6,lvI i),(7,a.2.1),(8,lvI a.1)],[],a.2.2.2.2.2⟩) (fun a=>a.2.2.1.length+sumU to a.2.2.2.1 - a.1)
   (fun a=>Bfs to i a.1 a.2.2.2.1 a.2.2.1/\AppX 3 1 a.2.2.2.2.1 a.2.1 (a.2.2.1.map fun k=>rI (k:Nat)) a.2.2.2.2.2/\a.2.2.2.2.1.next=H1.next+1/\a.2.2.2.2.1.obj H1.next=some (.vec 4 0 1 (bC a.2.2.2.1) true)/\a.2.2.2.2.1.obj H.next=some (.vec 178 0 1 cs true) /\
    (∀ m,m < H.next->a.2.2.2.2.1.obj m=H.obj m)/\a.2.2.1.length+sumU to a.2.2.2.1<=20000) (0,x0,to[i],List.replicate to.length false,B0,H3) ⟨⟨?_,?_,b1,?_,b3,b4,?_⟩,by simp [h3.only]⟩ ?_
  ·have:=Bfs.start hb hin
   rw [hgd i hin] at this;exact this
  ·simpa using h3
  ·rw [hn];exact b2
  ·have:=hsum i hin
   have:=e2a to (List.replicate to.length false)
   simp only;omega
  rintro ⟨k,x,todo,row,B,H2⟩ ⟨hbf,hap,c1,c2,c3,c4,hT⟩
  simp only at hbf hap c1 c2 c3 c4 hT
  have o1:H2.obj H1.next=some (.vec 4 0 1 (bC row) true):=by rw [hap.ob _ (by omega)];exact c2
  have o2:H2.obj H.next=some (.vec 178 0 1 cs true):=by rw [hap.ob _ (by omega)];exact c3
  have hrow:Bfs to i todo.length row todo->row=pathR to i:=fun hbf=>by
   refine List.ext_getElem (by rw [hbf.len,pathR_len]) fun j hj1 hj2=>?_
   have:=hbf.end j
   rw [show row.getD j false=row[j] by simp [List.getD,List.getElem?_eq_getElem hj1]] at this
   rw [Bool.eq_iff_iff,this]
   simp [pathR]
  rcases id hap.is with ⟨e1,rfl⟩ | ⟨nn,e1,e2,rfl,e3⟩
  ·have e4:todo=[]:=by simpa using e1
   subst e4
   have e5:k=0:=by have:=hbf.hk;simpa using this
   subst e5
   simp
   exact JN.go H2 ⟨by have:=hap.nx;omega,by rw [o1,hrow hbf],o2,fun m hm=>by rw [hap.ob _ (by omega)];exact c4 m hm⟩ (by simp)
  simp
  refine ⟨fun hk=>?_,fun hk=>?_⟩
  ·have hbd:=hbf.bnd _ (List.getElem_mem hk)
   have hrl:=hbf.len
   refine AW.draw cc [] (.q 0<|.q 1<|.q 2<|.q 4<|.q 5<|.q 6<|.q 3<|.q 7<|.q 8<|.q 9<|.q 10<|.done) (by kernel_rfl) ?_
   have hdn:todo[k] < n:=by omega
   have hdr:todo[k] < row.length:=by omega
   simp [o1,o2,hk,List.getElem?_eq_getElem hk,hci',h,hdn,bC,hdr,List.getElem?_eq_getElem hdr,rI]
   have hgr:row.getD todo[k] false=row[todo[k]]:=by simp [List.getD,List.getElem?_eq_getElem hdr]
   have hk2:k < 1000000:=by omega
   refine ⟨fun hq=>?_,fun hq=>?_⟩
   ·refine AW.draw cc [] (.q 0<|.q 1<|.q 2<|.q 4<|.q 5<|.q 6<|.q 3<|.q 7<|.q 8<|.f<|.one 9<|.done) (by kernel_rfl) ?_
    simp [o1,o2,hk,List.getElem?_eq_getElem hk,hci',h,hdn,bC,hdr,List.getElem?_eq_getElem hdr,rI]
    have hd1:todo[k]+1<=row.length:=hdr
    have hset:List.take todo[k] (List.map (fun b=>LV.d (DV.k (Value.bool b))) row) ++ LV.d (DV.k (Value.bool true)) :: List.drop (todo[k]+1) (List.map (fun b=>LV.d (DV.k (Value.bool b))) row)=bC (row.set todo[k] true):=by
     rw [bC,List.map_set,List.set_eq_take_append_cons_drop,if_pos (by simpa using hdr)]
    have htd:todo[k] < to.length:=by omega
    simp [hd1,hset,hk,List.getElem?_eq_getElem hk,htd,List.getElem?_eq_getElem htd,rI,rT]
    have hts:=d5c to row todo[k] htd hdr hq
    have hap':=hap.set (k:=H1.next) (by omega) (.vec 4 0 1 (bC (row.set todo[k] true)) true)
    refine APK.appX tyE94 rfl tyE3 (by simp) (x:=.osl nn (todo.map fun k=>rI (k:Nat))) (by simp [rI]) hap' (by simp [rowsOf];rfl) (by simp) (hmr _) (by simp) (by simp;omega) (by simp) fun x2 H4 h4 _ _=>?_
    simp [h4.plain.all]
    refine NX.go (k+1,x2,todo ++ to[todo[k]],row.set todo[k] true,B.set H1.next (.vec 4 0 1 (bC (row.set todo[k] true)) true),H4) (by simp;omega) ⟨?_,by rw [List.map_append];exact h4,c1,by rw [GH.a0f,if_pos rfl],by rw [GH.a0f,if_neg (by omega)];exact c3,fun m hm=>by rw [GH.a0f,if_neg (by omega)];exact c4 m hm,by simp;omega⟩ (by simp [wrap_succ hk2,h4.only])
    have:=hbf.turn hb hk (by rw [hgr];exact hq)
    rw [hgd _ htd] at this
    exact this
   ·refine NX.go (k+1,.osl nn (todo.map fun k=>rI (k:Nat)),todo,row,B,H2) (by simp;omega) ⟨hbf.skip hk (by rw [hgr];exact hq),hap,c1,c2,c3,c4,hT⟩ (by simp [wrap_succ hk2,rI])
  ·have hke:k=todo.length:=by have:=hbf.hk;omega
   subst hke
   exact JN.go H2 ⟨by have:=hap.nx;omega,by rw [o1,hrow hbf],o2,fun m hm=>by rw [hap.ob _ (by omega)];exact c4 m hm⟩ (by simp)
 ·have hin:i=n:=by omega
  subst hin
  have hcf:cellsR to i i=a1e ((reachM to).map rR):=by
   have:(reachM to).map rR=(List.range to.length).map fun k=>[DV.sl ((pathR to k).map rB)]:=by
    simp only [reachM,List.map_map];rfl
   rw [this,e4o,hn,cellsR]
   exact List.map_congr_left fun k hk=>by rw [if_pos (List.mem_range.1 hk)]
  refine AW.thaw (n:=H.next) (g:=0) (sz:=1) (e:=178) (ex:=true) ((reachM to).map rR) (by rw [<- hcf];exact hv) rfl (fun r hr=>by obtain ⟨_,_,rfl⟩:=List.mem_map.1 hr;rfl) ?_
  refine AW.ev cc ?_
  have hl:(reachM to).length=i:=by simp [reachM,hn]
  simp [hl]
  refine fun _=>⟨a0m (by simp;omega) (fun m hm=>?_) hw.none,List.take_of_length_le (by simp [hl])⟩
  simp only
  rw [if_neg (by omega),hob m hm]
  cases ho:H.obj m with
  | none=>rfl
  | some o=>simp only [Option.map_some];rw [GO.b7f (N:=H.next) (by omega) (hw.nb m o ho)]
end Go.Aft
end
section
set_option maxRecDepth 20000
namespace Go.Aft
open Go.Proofs.Tryz
def b5v (n:Nat) (R:Nat->Nat->Bool) (i:Nat):Bool:=R i i && (ringAt n R i).head? == some i
def mat (n:Nat) (R:Nat->Nat->Bool):List (List Bool):=(List.range n).map fun i=>(List.range n).map fun j=>R i j
theorem c4r (p:Prog) (n:Nat) (R:Nat->Nat->Bool) (h6:n<=6) (h170:AFun prog 130 [lv (a0h p)] (sl ((mat n R).map rR))):AFun prog 128 [lv (a0h p)] (sl ((a2s n R).map rT)):=by
 have cc:=a0g (p:=kds [1] [] [])
 refine AFun.d3w (a0g (p:=kds [1] [] [])) func128 rfl call128 (by rw [ntmps128];simp) rfl fun hf H=>?_
 simp [a0h] at h170
 simp [ntmps128,results128,a0h] at hf |-
 refine AW.seq cc ?_
 simp
 refine AW.seq cc ?_
 simp
 refine EC.afun h170 ?_
 have hrow:∀ i,i < n->((mat n R).map rR)[i]?=some (rR ((List.range n).map fun j=>R i j)):=fun i hi=>by simp [mat,List.getElem?_range hi]
 have hcell:∀ i j,j < n->(((List.range n).map fun j=>R i j).map rB)[j]?=some (rB (R i j)):=fun i j hj=>by simp [List.getElem?_range hj]
 have hln:(mat n R).length=n:=by simp [mat]
 obtain ⟨M,hM⟩:∃ M,(mat n R).map rR=M:=⟨_,rfl⟩
 rw [hM] at hrow |-
 have hlM:M.length=n:=by rw [<- hM];simpa using hln
 have hrow2:∀ i (hi:i < M.length),M[i]=rR ((List.range n).map fun j=>R i j):=fun i hi=>by
  have:=hrow i (by omega)
  rw [List.getElem?_eq_getElem hi] at this
  exact Option.some.inj this
 simp
 refine AW.seq cc ?_
 simp
 refine AW.seq cc ?_
 simp
 refine AW.e0i cc (fun a:Nat × LV × GH=>⟨[(3,.d (.sl M)),(4,a.2.1),(5,lvI a.1)],[],a.2.2⟩) (fun a=>n - a.1)
  (fun a=>a.1<=n/\AppX 94 1 H a.2.1 ((((List.range a.1).filter (b5v n R)).map (ringAt n R)).map rT) a.2.2) (0,.d (.k (.slice none 0 0)),H) ⟨⟨by simp,.nil⟩,by simp⟩ ?_
 rintro ⟨i,x,H1⟩ ⟨hi,hap⟩
 simp only at hi hap
 refine AW.seq cc ?_
 simp [hlM]
 refine ⟨fun h=>?_,fun h=>?_⟩
 ·refine AW.seqW (c:=cxK (kds [1] [] [])) ?_
  refine AW.block (c:=cxK (kds [1] [] [])) ?_
  refine AW.seq cc ?_
  simp [hrow i h,hcell i i h,rR,rB,h]
  have hi2:i < 1000000:=by omega
  have hrng:List.range (i+1)=List.range i ++ [i]:=List.range_succ
  refine ⟨by omega,fun hq=>?_,fun hq=>?_⟩
  ·refine AW.ev cc ?_
   simp
   refine NX.go (i+1,x,H1) (by simp;omega) ⟨h,?_⟩ (by simp [hap.only,wrap_succ hi2])
   rw [hrng,List.filter_append]
   simpa [b5v,hq] using hap
  refine AW.seq cc ?_
  simp
  refine AW.seq cc ?_
  simp
  refine AW.a0w cc (fun a:Nat × LV × GH=>⟨[(3,.d (.sl M)),(4,x),(5,lvI i),(6,a.2.1),(7,lvI a.1)],[],a.2.2⟩) (fun a=>n - a.1)
   (fun a=>a.1<=n/\AppX 3 1 H1 a.2.1 (((List.range a.1).filter fun k=>k == i || R i k && R k i).map fun k=>rI (k:Nat)) a.2.2) (0,.d (.k (.slice none 0 0)),H1) ⟨⟨by simp,.nil⟩,by simp [hap.only]⟩ ?_
  rintro ⟨k,y,H2⟩ ⟨hk,hin⟩
  simp only at hk hin
  simp [hlM]
  refine ⟨fun hkn=>?_,fun hkn=>?_⟩
  ·simp [hrow2,hrow i h,hrow k hkn,hcell i k hkn,hcell k i h,rR,rB,h,hkn,hlM]
   have hk2:k < 1000000:=by omega
   have hrng:List.range (k+1)=List.range k ++ [k]:=List.range_succ
   have hfl:((List.range k).filter fun k=>k == i || R i k && R k i).length<=k:=by
    have:=List.length_filter_le (fun k=>k == i || R i k && R k i) (List.range k);simpa using this
   refine ⟨fun q=>⟨q,fun q2=>⟨q,q2⟩⟩,fun q=>⟨hin.plain.unP,?_⟩,fun q1 q2=>?_⟩
   ·refine APK.appX tyE94 rfl tyE3 (by simp) (x:=y) (by simp [hin.plain.un]) hin (by simp [rowsOf];rfl) (by simp) (fun r hr=>by obtain ⟨_,_,rfl⟩:=List.mem_map.1 hr;rfl) (by simp) (by simp;omega) (by simp) fun x2 H4 h4 _ _=>?_
    simp [h4.plain.all]
    refine NX.go (k+1,x2,H4) (by simp;omega) ⟨hkn,?_⟩ (by simp [h4.only,hap.only,wrap_succ hk2])
    have hc:(k == i || R i k && R k i)=true:=by
     rcases q with q | q
     ·have:k=i:=by omega
      simp [this]
     ·simp [q]
    rw [hrng,List.filter_append,List.map_append]
    simpa [hc,rI] using h4
   ·refine NX.go (k+1,y,H2) (by simp;omega) ⟨hkn,?_⟩ (by simp [hin.only,hap.only,wrap_succ hk2])
    have hc:(k == i || R i k && R k i)=false:=by
     simp;exact ⟨by omega,q2⟩
    rw [hrng,List.filter_append]
    simpa [hc] using hin
  ·have hke:k=n:=by omega
   subst hke
   have hin:AppX 3 1 H1 y ((ringAt k R i).map fun k=>rI (k:Nat)) H2:=hin
   obtain ⟨a,l,hal⟩:∃ a l,ringAt k R i=a :: l:=by
    cases hh:ringAt k R i with
    | nil=>have:i ∈ ringAt k R i:=a0z.2 ⟨h,.inl rfl⟩;rw [hh] at this;cases this
    | cons a l=>exact ⟨a,l,rfl⟩
   have hfl:(((List.range i).filter (b5v k R)).map (ringAt k R)).length<=i:=by
    have:=List.length_filter_le (b5v k R) (List.range i);simpa using this
   rw [hal] at hin
   refine AW.fzT 6 (AW.ev cc ?_)
   simp [hin.fz,hap.plain.all,rI]
   refine ⟨fun q=>?_,fun q=>?_⟩
   ·have hc:b5v k R i=true:=by simp [b5v,hal,hq];omega
    refine APK.appX tyE44 rfl tyE94 (by simp) (x:=x) (by simp) (hap.mono hin.nx hin.ob) (by simp [rowsOf];rfl) (by simp) (fun r hr=>by obtain ⟨_,_,rfl⟩:=List.mem_map.1 hr;rfl) (by simp) (by simp at hfl |-;omega) (by simp) fun x2 H4 h4 _ _=>?_
    simp [h4.plain.all]
    refine AW.ev cc ?_
    simp
    refine NX.go (i+1,x2,H4) (by simp;omega) ⟨h,?_⟩ (by simp [h4.only,wrap_succ hi2])
    rw [hrng,List.filter_append,List.map_append,List.map_append]
    simpa [hc,rT,hal,rI] using h4
   ·have hc:b5v k R i=false:=by simp [b5v,hal,hq];omega
    refine AW.ev cc ?_
    simp
    refine NX.go (i+1,x,H2) (by simp;omega) ⟨h,?_⟩ (by simp [hap.only,wrap_succ hi2])
    rw [hrng,List.filter_append]
    simpa [hc] using hap.mono hin.nx hin.ob
 ·have e:i=n:=by omega
  subst e
  refine AW.ev cc ?_
  simp [hap.plain.all,hap.fz]
  refine ⟨?_,hap.nx,hap.ob⟩
  rw [a2s,List.map_map];rfl
end Go.Aft
end
section
set_option maxRecDepth 20000
namespace Go.Aft
open Go.Proofs.Tryz
def e3s (x:Shp):LV:=.agg [lvI x.kids,lvI x.a0k,.d (.k (.bool x.name)),.d (.k (.bool x.fold)),lvI x.low,lvI x.high]
def a8y:List (Value × LV):=[1,2,3,4,5,6,7,8,9,10,11,12,13,14,15].map fun op:Int=>(.int .i64 op,e3s ((a1l op).getD ⟨0,0,false,false,0,0⟩))
theorem a4f {a b:Int}:kEq (.int .i64 a) (.int .i64 b)=decide (a=b):=by simp [kEq,scEq];rfl
theorem c8f (op:Int):a1c (.int .i64 op) a8y=(a1l op).map e3s:=by
 by_cases h:1<=op/\op<=15
 ·have:op=1 \/ op=2 \/ op=3 \/ op=4 \/ op=5 \/ op=6 \/ op=7 \/ op=8 \/ op=9 \/ op=10 \/ op=11 \/ op=12 \/ op=13 \/ op=14 \/ op=15:=by omega
  rcases this with rfl | rfl | rfl | rfl | rfl | rfl | rfl | rfl | rfl | rfl | rfl | rfl | rfl | rfl | rfl <;> rfl
 ·have hn:a1l op=none:=by
   unfold a1l
   repeat (rw [if_neg (by omega)])
  rw [hn]
  simp only [a8y,List.map_cons,List.map_nil,a1c,a4f]
  rw [decide_eq_false (by omega),decide_eq_false (by omega),decide_eq_false (by omega),decide_eq_false (by omega),decide_eq_false (by omega),decide_eq_false (by omega),decide_eq_false (by omega),decide_eq_false (by omega),decide_eq_false (by omega),decide_eq_false (by omega),decide_eq_false (by omega),decide_eq_false (by omega),decide_eq_false (by omega),decide_eq_false (by omega),decide_eq_false (by omega)]
  rfl
def shp0:Shp:=⟨0,0,false,false,0,0⟩
@[simp] theorem has_int (n:Int):(KK.sc (Sc.int .i64)).has (.int .i64 n)=true:=rfl
theorem f2i:(∀ (a:Value) (b:LV),(a,b) ∈ a8y->(KK.sc (Sc.int .i64)).has a=true)=True:=by
 refine eq_true fun a b hab=>?_
 simp only [a8y,List.mem_map] at hab
 obtain ⟨s,_,q⟩:=hab
 cases q;rfl
theorem f2j (op:Int):(a1c (.int .i64 op) a8y).getD (.agg [.d (.k (.int .i64 0)),.d (.k (.int .i64 0)),.d (.k (.bool false)),.d (.k (.bool false)),.d (.k (.int .i64 0)),.d (.k (.int .i64 0))])=e3s ((a1l op).getD shp0):=by
 rw [c8f]
 cases a1l op <;> rfl
theorem e7p (op:Int):(a1c (.int .i64 op) a8y).isSome=(a1l op).isSome:=by
 rw [c8f];cases a1l op <;> rfl
theorem d0y (H:GH):a0j prog 154 [] H fun ce H'=>ce=.ret (.gm H.next)/\H'=H.add (.map a8y):=by
 have cc:=cx0_ok
 refine a0j.a1j cx0_ok func154 rfl call154 (by rw [ntmps154];simp) rfl fun hf hw=>?_
 simp [ntmps154,results154,GH.a0b,GH.a0a,GH.a1v,KK.has,Sc.has,mput,a4f,a8y,e3s,a1l]
 exact fun hz=>hz.drop (by rw [GH.a0a];omega)
end Go.Aft
end
