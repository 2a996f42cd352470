import Derived.Test.YthinedikejlgmaaGreatA26
import Derived.Test.YthinedikejlgmaaGreatA22
import Derived.Test.YthinedikejlgmaaGreatA25
set_option linter.all false
section
set_option maxRecDepth 20000
namespace Go.Aft
open Go.Proofs.Tryz
theorem AppX.set {e:TypeId} {sz:Nat} {H0 H:GH} {x:LV} {rows:List (List DV)} (h:AppX e sz H0 x rows H) {k:Nat} (hk:k < H0.next) (o:GO):AppX e sz (H0.set k o) x rows (H.set k o):=by
 refine ⟨?_,h.nx,fun m hm=>?_⟩
 ·rcases h.is with q | ⟨n,q1,q2,q3,q4⟩
  ·exact .inl q
  ·exact .inr ⟨n,q1,q2,q3,by rw [GH.set_obj,if_neg (by omega)];exact q4⟩
 ·rw [GH.set_obj,GH.set_obj]
  split
  ·rfl
  ·exact h.ob m hm
theorem le_sum:∀ {l:List Nat} {x:Nat},x ∈ l->x<=l.sum
 | y :: l,x,h=>by
  rcases List.mem_cons.1 h with rfl | h
  ·simp
  ·have:=le_sum h;simp;omega
def rT (l:List Nat):List DV:=[.sl (l.map fun k=>rI (k:Nat))]
def rB (b:Bool):List DV:=[.k (.bool b)]
def rR (l:List Bool):List DV:=[.sl (l.map rB)]
open Classical in
noncomputable def pathR (to:List (List Nat)) (i:Nat):List Bool:=(List.range to.length).map fun j=>decide (Path (fun a b=>b ∈ to.getD a []) i j)
@[simp] theorem pathR_len (to:List (List Nat)) (i:Nat):(pathR to i).length=to.length:=by simp [pathR]
noncomputable def reachM (to:List (List Nat)):List (List Bool):=(List.range to.length).map (pathR to)
def bC (l:List Bool):List LV:=l.map fun b=>.d (.k (.bool b))
@[simp] theorem bC_len (l:List Bool):(bC l).length=l.length:=by simp [bC]
theorem flatD_rB (l:List Bool):flatD (l.map rB)=bC l:=by
 induction l with
 | nil=>rfl
 | cons b l ih =>
  simp [flatD,bC,rB] at ih |-
  exact ih
theorem rB_len (l:List Bool):∀ r ∈ l.map rB,r.length=1:=fun r hr=>by obtain ⟨_,_,rfl⟩:=List.mem_map.1 hr;rfl
theorem thaws_map (n g sz:Nat) (rows:List (List DV)):∀ xs:List LV,thaws n g sz rows xs=xs.map (LV.thaw n g sz rows)
 | []=>rfl
 | x :: xs=>by rw [thaws,thaws_map n g sz rows xs];rfl
open Classical in
noncomputable def cellsR (to:List (List Nat)) (n i:Nat):List LV:=(List.range n).map fun k=>if k < i then .d (.sl ((pathR to k).map rB)) else .d (.k (.slice none 0 0))
@[simp] theorem cellsR_len (to:List (List Nat)) (n i:Nat):(cellsR to n i).length=n:=by simp [cellsR]
theorem flatD_one {α:Type} (f:α->DV) (l:List α):flatD (l.map fun a=>[f a])=l.map fun a=>.d (f a):=by
 induction l with
 | nil=>rfl
 | cons b l ih =>
  simp [flatD] at ih |-
  exact ih
theorem cells_next {to:List (List Nat)} {n i n1:Nat} (hn:to.length=n) (h:i < n):(List.take i (cellsR to n i) ++ LV.vs n1 0 1 0 n :: List.drop (i+1) (cellsR to n i)).map (LV.thaw n1 0 1 ((pathR to i).map rB))=cellsR to n (i+1):=by
 have hm:min i n=i:=by omega
 have hg:∀ a j (hj:j < (cellsR to n a).length),(cellsR to n a)[j]=if j < a then .d (.sl ((pathR to j).map rB)) else .d (.k (.slice none 0 0)):=fun a j hj=>by simp [cellsR]
 refine List.ext_getElem (by simp;omega) fun j h1 h2=>?_
 rw [List.getElem_map,hg,List.getElem_append]
 split
 ·rename_i q
  have q:j < i:=by simpa [hm] using q
  rw [List.getElem_take,hg,if_pos q,if_pos (by omega)];simp
 ·rename_i q
  simp [hm] at q
  rw [List.getElem_cons]
  split
  ·rename_i q2
   simp [hm] at q2
   have:j=i:=by omega
   subst this
   rw [if_pos (by omega)]
   simp [hn]
   exact List.take_of_length_le (by simp [hn])
  ·rename_i q2
   simp [hm] at q2
   rw [List.getElem_drop,hg,if_neg (by simp [hm];omega),if_neg (by omega)]
   simp
open Classical in
theorem ref02_ReachOf (p:Prog) (to:List (List Nat)) (hn:to.length=p.defs.length) (h6:p.defs.length<=6) (hb:∀ l ∈ to,∀ x ∈ l,x < to.length) (hsz:(to.map List.length).sum<=10000)
  (h208:AFun prog 180 [lv (rProg p)] (sl (to.map rT))):AFun prog 130 [lv (rProg p)] (sl ((reachM to).map rR)):=by
 have cc:=cxK_ok (p:=kds [1] [] [15,24])
 intro H
 refine ECall.bodyNW (cxK_ok (p:=kds [1] [] [15,24])) func130 rfl call130 (by rw [ntmps130];simp) rfl fun hf hw=>?_
 simp [rProg] at h208
 simp [ntmps130,results130,rProg] at hf |-
 refine AW.seq cc ?_
 simp
 refine AW.seq cc ?_
 simp
 refine AW.seq cc ?_
 simp
 refine EC.afun h208 ?_
 simp
 refine AW.seq cc ?_
 simp
 refine ⟨by omega,?_⟩
 obtain ⟨n,hnn⟩:∃ n,p.defs.length=n:=⟨_,rfl⟩
 rw [hnn] at hn h6 |-
 have hrep:repL n [LV.d (DV.k (Value.slice none 0 0))]=cellsR to n 0:=by
  simp only [repL,cellsR,Nat.not_lt_zero,if_false,List.map_const',List.length_range]
  simp
 rw [hrep]
 have hlt:∀ m,m < H.next->(H.add (GO.vec 178 0 1 (cellsR to n 0) true)).obj m=H.obj m:=fun m hm=>by rw [GH.add_obj,if_neg (by omega)]
 refine AW.seq cc ?_
 simp
 refine AW.loopW cc (fun a:Nat × GH=>⟨[(3,lvI n),(4,.d (.sl (to.map rT))),(5,.vs H.next 0 1 0 n),(6,lvI a.1)],[],a.2⟩) (fun a=>n - a.1)
  (fun a=>a.1<=n/\H.next < a.2.next/\a.2.obj H.next=some (.vec 178 0 1 (cellsR to n a.1) true)/\∀ m,m < H.next->a.2.obj m=H.obj m) (0,H.add (.vec 178 0 1 (cellsR to n 0) true)) ⟨⟨by simp,by rw [GH.add_next];exact Nat.lt_succ_self _,by rw [GH.add_obj,if_pos rfl],hlt⟩,by simp⟩ ?_
 rintro ⟨i,H1⟩ ⟨hi,hnx,hv,hob⟩
 simp only at hi hnx hv hob
 refine AW.seq cc ?_
 simp
 refine ⟨fun h=>?_,fun h=>?_⟩
 ·have hci':(List.take i (cellsR to n i) ++ LV.vs H1.next 0 1 0 n :: List.drop (i+1) (cellsR to n i))[i]?=some (LV.vs H1.next 0 1 0 n):=by
   have hm:min i n=i:=by omega
   rw [List.getElem?_append_right (by simp;omega)];simp [hm]
  obtain ⟨cs,hcs⟩:∃ cs,List.take i (cellsR to n i) ++ LV.vs H1.next 0 1 0 n :: List.drop (i+1) (cellsR to n i)=cs:=⟨_,rfl⟩
  have hcl:cs.length=n:=by rw [<- hcs];simp;omega
  rw [hcs] at hci'
  refine AW.join (c:=cxK (kds [1] [] [15,24])) (fun H2:GH=>⟨[(3,lvI n),(4,.d (.sl (to.map rT))),(5,.vs H.next 0 1 0 n),(6,lvI i)],[],H2⟩)
   (fun H2=>H1.next < H2.next/\H2.obj H1.next=some (.vec 4 0 1 (bC (pathR to i)) true)/\H2.obj H.next=some (.vec 178 0 1 cs true)/\∀ m,m < H.next->H2.obj m=H.obj m) ?_ fun H2 hj=>?_
  rotate_left
  ·obtain ⟨j1,j2,j3,j4⟩:=hj
   refine AW.thaw (n:=H1.next) (g:=0) (sz:=1) (e:=4) (ex:=true) ((pathR to i).map rB) j2 (flatD_rB _).symm (rB_len _) ?_
   refine AW.ev cc ?_
   simp
   refine NX.go (i+1,H2.thaw H1.next 0 1 ((pathR to i).map rB)) (by simp;omega) ⟨h,by simp;omega,?_,fun m hm=>?_⟩ ?_
   ·simp only [GH.thaw]
    rw [if_neg (by omega),j3]
    simp only [Option.map_some,GO.thaw,thaws_map]
    rw [<- hcs,cells_next hn h]
   ·simp only [GH.thaw]
    rw [if_neg (by omega),j4 m hm]
    cases ho:H.obj m with
    | none=>rfl
    | some o=>simp only [Option.map_some];rw [GO.thaw_nb (N:=H.next) (by omega) (hw.nb m o ho)]
   ·have e1:¬ H.next=H1.next:=by omega
    have e2:H.next ≠ H1.next:=by omega
    simp [e1,wrap_succ (n:=1000000) (show i < 1000000 by omega)]
  refine AW.block (c:=cxK (kds [1] [] [15,24])) ?_
  refine AW.seq cc ?_
  have hv1:∀ o,(H1.add o).obj H.next=some (.vec 178 0 1 (cellsR to n i) true):=fun o=>by rw [GH.add_obj,if_neg (by omega)];exact hv
  have hi1:i+1<=n:=h
  simp [hv1,hi1,h]
  refine ⟨by omega,by rw [GH.add_next];exact Nat.lt_succ_self _,?_⟩
  have hrepB:repL n [LV.d (DV.k (Value.bool false))]=bC (List.replicate n false):=by simp [repL,bC]
  rw [hrepB]
  rw [hcs]
  obtain ⟨B0,hB0⟩:∃ B0,(H1.add (GO.vec 4 0 1 (bC (List.replicate n false)) true)).set H.next (GO.vec 178 0 1 cs true)=B0:=⟨_,rfl⟩
  have b1:B0.next=H1.next+1:=by rw [<- hB0];rfl
  have b2:B0.obj H1.next=some (.vec 4 0 1 (bC (List.replicate n false)) true):=by rw [<- hB0,GH.set_obj,if_neg (by omega),GH.add_obj,if_pos rfl]
  have b3:B0.obj H.next=some (.vec 178 0 1 cs true):=by rw [<- hB0,GH.set_obj,if_pos rfl]
  have b4:∀ m,m < H.next->B0.obj m=H.obj m:=fun m hm=>by rw [<- hB0,GH.set_obj,if_neg (by omega),GH.add_obj,if_neg (by omega)];exact hob m hm
  rw [hB0]
  have hin:i < to.length:=by omega
  have hgd:∀ j (hj:j < to.length),to.getD j []=to[j]:=fun j hj=>by simp [List.getD,List.getElem?_eq_getElem hj]
  have hsum:∀ j (hj:j < to.length),to[j].length<=10000:=fun j hj=>by
   have:to[j].length<=(to.map List.length).sum:=le_sum (List.mem_map.2 ⟨_,List.getElem_mem hj,rfl⟩)
   omega
  have hmr:∀ l:List Nat,∀ r ∈ l.map (fun k=>rI (k:Nat)),r.length=1:=fun l r hr=>by obtain ⟨_,_,rfl⟩:=List.mem_map.1 hr;rfl
  refine AW.seq cc ?_
  simp [hin,List.getElem?_eq_getElem hin,rT]
  refine APK.appX tyE94 rfl tyE3 (by simp) (by simp) (.nil) (by simp [rowsOf];rfl) (by simp) (by simp) (hmr _) (by have:=hsum i hin;simp;omega) (by simp) fun x0 H3 h3 _ _=>?_
  simp [h3.plain.all]
  refine AW.seq cc ?_
  simp
  refine AW.block (c:=cxK (kds [1] [] [15,24])) ?_
  refine AW.loopS cc (fun a:Nat × LV × List Nat × List Bool × GH × GH=>⟨[(3,lvI n),(4,.d (.sl (to.map rT))),(5,.vs H.next 0 1 0 n),(6,lvI i),(7,a.2.1),(8,lvI a.1)],[],a.2.2.2.2.2⟩) (fun a=>a.2.2.1.length+sumU to a.2.2.2.1 - a.1)
   (fun a=>Bfs to i a.1 a.2.2.2.1 a.2.2.1/\AppX 3 1 a.2.2.2.2.1 a.2.1 (a.2.2.1.map fun k=>rI (k:Nat)) a.2.2.2.2.2/\a.2.2.2.2.1.next=H1.next+1/\a.2.2.2.2.1.obj H1.next=some (.vec 4 0 1 (bC a.2.2.2.1) true)/\a.2.2.2.2.1.obj H.next=some (.vec 178 0 1 cs true) /\
    (∀ m,m < H.next->a.2.2.2.2.1.obj m=H.obj m)/\a.2.2.1.length+sumU to a.2.2.2.1<=20000) (0,x0,to[i],List.replicate to.length false,B0,H3) ⟨⟨?_,?_,b1,?_,b3,b4,?_⟩,by simp [h3.only]⟩ ?_
  ·have:=Bfs.start hb hin
   rw [hgd i hin] at this;exact this
  ·simpa using h3
  ·rw [hn];exact b2
  ·have:=hsum i hin
   have:=sumU_le to (List.replicate to.length false)
   simp only;omega
  rintro ⟨k,x,todo,row,B,H2⟩ ⟨hbf,hap,c1,c2,c3,c4,hT⟩
  simp only at hbf hap c1 c2 c3 c4 hT
  have o1:H2.obj H1.next=some (.vec 4 0 1 (bC row) true):=by rw [hap.ob _ (by omega)];exact c2
  have o2:H2.obj H.next=some (.vec 178 0 1 cs true):=by rw [hap.ob _ (by omega)];exact c3
  have hrow:Bfs to i todo.length row todo->row=pathR to i:=fun hbf=>by
   refine List.ext_getElem (by rw [hbf.len,pathR_len]) fun j hj1 hj2=>?_
   have:=hbf.end j
   rw [show row.getD j false=row[j] by simp [List.getD,List.getElem?_eq_getElem hj1]] at this
   rw [Bool.eq_iff_iff,this]
   simp [pathR]
  rcases id hap.is with ⟨e1,rfl⟩ | ⟨nn,e1,e2,rfl,e3⟩
  ·have e4:todo=[]:=by simpa using e1
   subst e4
   have e5:k=0:=by have:=hbf.hk;simpa using this
   subst e5
   simp
   exact JN.go H2 ⟨by have:=hap.nx;omega,by rw [o1,hrow hbf],o2,fun m hm=>by rw [hap.ob _ (by omega)];exact c4 m hm⟩ (by simp)
  simp
  refine ⟨fun hk=>?_,fun hk=>?_⟩
  ·have hbd:=hbf.bnd _ (List.getElem_mem hk)
   have hrl:=hbf.len
   refine AW.draw cc [] (.q 0<|.q 1<|.q 2<|.q 4<|.q 5<|.q 6<|.q 3<|.q 7<|.q 8<|.q 9<|.q 10<|.done) (by kernel_rfl) ?_
   have hdn:todo[k] < n:=by omega
   have hdr:todo[k] < row.length:=by omega
   simp [o1,o2,hk,List.getElem?_eq_getElem hk,hci',h,hdn,bC,hdr,List.getElem?_eq_getElem hdr,rI]
   have hgr:row.getD todo[k] false=row[todo[k]]:=by simp [List.getD,List.getElem?_eq_getElem hdr]
   have hk2:k < 1000000:=by omega
   refine ⟨fun hq=>?_,fun hq=>?_⟩
   ·refine AW.draw cc [] (.q 0<|.q 1<|.q 2<|.q 4<|.q 5<|.q 6<|.q 3<|.q 7<|.q 8<|.f<|.one 9<|.done) (by kernel_rfl) ?_
    simp [o1,o2,hk,List.getElem?_eq_getElem hk,hci',h,hdn,bC,hdr,List.getElem?_eq_getElem hdr,rI]
    have hd1:todo[k]+1<=row.length:=hdr
    have hset:List.take todo[k] (List.map (fun b=>LV.d (DV.k (Value.bool b))) row) ++ LV.d (DV.k (Value.bool true)) :: List.drop (todo[k]+1) (List.map (fun b=>LV.d (DV.k (Value.bool b))) row)=bC (row.set todo[k] true):=by
     rw [bC,List.map_set,List.set_eq_take_append_cons_drop,if_pos (by simpa using hdr)]
    have htd:todo[k] < to.length:=by omega
    simp [hd1,hset,hk,List.getElem?_eq_getElem hk,htd,List.getElem?_eq_getElem htd,rI,rT]
    have hts:=sumU_set to row todo[k] htd hdr hq
    have hap':=hap.set (k:=H1.next) (by omega) (.vec 4 0 1 (bC (row.set todo[k] true)) true)
    refine APK.appX tyE94 rfl tyE3 (by simp) (x:=.osl nn (todo.map fun k=>rI (k:Nat))) (by simp [rI]) hap' (by simp [rowsOf];rfl) (by simp) (hmr _) (by simp) (by simp;omega) (by simp) fun x2 H4 h4 _ _=>?_
    simp [h4.plain.all]
    refine NX.go (k+1,x2,todo ++ to[todo[k]],row.set todo[k] true,B.set H1.next (.vec 4 0 1 (bC (row.set todo[k] true)) true),H4) (by simp;omega) ⟨?_,by rw [List.map_append];exact h4,c1,by rw [GH.set_obj,if_pos rfl],by rw [GH.set_obj,if_neg (by omega)];exact c3,fun m hm=>by rw [GH.set_obj,if_neg (by omega)];exact c4 m hm,by simp;omega⟩ (by simp [wrap_succ hk2,h4.only])
    have:=hbf.turn hb hk (by rw [hgr];exact hq)
    rw [hgd _ htd] at this
    exact this
   ·refine NX.go (k+1,.osl nn (todo.map fun k=>rI (k:Nat)),todo,row,B,H2) (by simp;omega) ⟨hbf.skip hk (by rw [hgr];exact hq),hap,c1,c2,c3,c4,hT⟩ (by simp [wrap_succ hk2,rI])
  ·have hke:k=todo.length:=by have:=hbf.hk;omega
   subst hke
   exact JN.go H2 ⟨by have:=hap.nx;omega,by rw [o1,hrow hbf],o2,fun m hm=>by rw [hap.ob _ (by omega)];exact c4 m hm⟩ (by simp)
 ·have hin:i=n:=by omega
  subst hin
  have hcf:cellsR to i i=flatD ((reachM to).map rR):=by
   have:(reachM to).map rR=(List.range to.length).map fun k=>[DV.sl ((pathR to k).map rB)]:=by
    simp only [reachM,List.map_map];rfl
   rw [this,flatD_one,hn,cellsR]
   exact List.map_congr_left fun k hk=>by rw [if_pos (List.mem_range.1 hk)]
  refine AW.thaw (n:=H.next) (g:=0) (sz:=1) (e:=178) (ex:=true) ((reachM to).map rR) (by rw [<- hcf];exact hv) rfl (fun r hr=>by obtain ⟨_,_,rfl⟩:=List.mem_map.1 hr;rfl) ?_
  refine AW.ev cc ?_
  have hl:(reachM to).length=i:=by simp [reachM,hn]
  simp [hl]
  refine fun _=>⟨Drop_same (by simp;omega) (fun m hm=>?_) hw.none,List.take_of_length_le (by simp [hl])⟩
  simp only
  rw [if_neg (by omega),hob m hm]
  cases ho:H.obj m with
  | none=>rfl
  | some o=>simp only [Option.map_some];rw [GO.thaw_nb (N:=H.next) (by omega) (hw.nb m o ho)]
end Go.Aft
end
section
set_option maxRecDepth 20000
namespace Go.Aft
open Go.Proofs.Tryz
def isRing (n:Nat) (R:Nat->Nat->Bool) (i:Nat):Bool:=R i i && (ringAt n R i).head? == some i
def mat (n:Nat) (R:Nat->Nat->Bool):List (List Bool):=(List.range n).map fun i=>(List.range n).map fun j=>R i j
theorem ref02_RingsOf (p:Prog) (n:Nat) (R:Nat->Nat->Bool) (h6:n<=6) (h170:AFun prog 130 [lv (rProg p)] (sl ((mat n R).map rR))):AFun prog 128 [lv (rProg p)] (sl ((ringsM n R).map rT)):=by
 have cc:=cxK_ok (p:=kds [1] [] [])
 refine AFun.bodyW (cxK_ok (p:=kds [1] [] [])) func128 rfl call128 (by rw [ntmps128];simp) rfl fun hf H=>?_
 simp [rProg] at h170
 simp [ntmps128,results128,rProg] at hf |-
 refine AW.seq cc ?_
 simp
 refine AW.seq cc ?_
 simp
 refine EC.afun h170 ?_
 have hrow:∀ i,i < n->((mat n R).map rR)[i]?=some (rR ((List.range n).map fun j=>R i j)):=fun i hi=>by simp [mat,List.getElem?_range hi]
 have hcell:∀ i j,j < n->(((List.range n).map fun j=>R i j).map rB)[j]?=some (rB (R i j)):=fun i j hj=>by simp [List.getElem?_range hj]
 have hln:(mat n R).length=n:=by simp [mat]
 obtain ⟨M,hM⟩:∃ M,(mat n R).map rR=M:=⟨_,rfl⟩
 rw [hM] at hrow |-
 have hlM:M.length=n:=by rw [<- hM];simpa using hln
 have hrow2:∀ i (hi:i < M.length),M[i]=rR ((List.range n).map fun j=>R i j):=fun i hi=>by
  have:=hrow i (by omega)
  rw [List.getElem?_eq_getElem hi] at this
  exact Option.some.inj this
 simp
 refine AW.seq cc ?_
 simp
 refine AW.seq cc ?_
 simp
 refine AW.loopW cc (fun a:Nat × LV × GH=>⟨[(3,.d (.sl M)),(4,a.2.1),(5,lvI a.1)],[],a.2.2⟩) (fun a=>n - a.1)
  (fun a=>a.1<=n/\AppX 94 1 H a.2.1 ((((List.range a.1).filter (isRing n R)).map (ringAt n R)).map rT) a.2.2) (0,.d (.k (.slice none 0 0)),H) ⟨⟨by simp,.nil⟩,by simp⟩ ?_
 rintro ⟨i,x,H1⟩ ⟨hi,hap⟩
 simp only at hi hap
 refine AW.seq cc ?_
 simp [hlM]
 refine ⟨fun h=>?_,fun h=>?_⟩
 ·refine AW.seqW (c:=cxK (kds [1] [] [])) ?_
  refine AW.block (c:=cxK (kds [1] [] [])) ?_
  refine AW.seq cc ?_
  simp [hrow i h,hcell i i h,rR,rB,h]
  have hi2:i < 1000000:=by omega
  have hrng:List.range (i+1)=List.range i ++ [i]:=List.range_succ
  refine ⟨by omega,fun hq=>?_,fun hq=>?_⟩
  ·refine AW.ev cc ?_
   simp
   refine NX.go (i+1,x,H1) (by simp;omega) ⟨h,?_⟩ (by simp [hap.only,wrap_succ hi2])
   rw [hrng,List.filter_append]
   simpa [isRing,hq] using hap
  refine AW.seq cc ?_
  simp
  refine AW.seq cc ?_
  simp
  refine AW.loopS cc (fun a:Nat × LV × GH=>⟨[(3,.d (.sl M)),(4,x),(5,lvI i),(6,a.2.1),(7,lvI a.1)],[],a.2.2⟩) (fun a=>n - a.1)
   (fun a=>a.1<=n/\AppX 3 1 H1 a.2.1 (((List.range a.1).filter fun k=>k == i || R i k && R k i).map fun k=>rI (k:Nat)) a.2.2) (0,.d (.k (.slice none 0 0)),H1) ⟨⟨by simp,.nil⟩,by simp [hap.only]⟩ ?_
  rintro ⟨k,y,H2⟩ ⟨hk,hin⟩
  simp only at hk hin
  simp [hlM]
  refine ⟨fun hkn=>?_,fun hkn=>?_⟩
  ·simp [hrow2,hrow i h,hrow k hkn,hcell i k hkn,hcell k i h,rR,rB,h,hkn,hlM]
   have hk2:k < 1000000:=by omega
   have hrng:List.range (k+1)=List.range k ++ [k]:=List.range_succ
   have hfl:((List.range k).filter fun k=>k == i || R i k && R k i).length<=k:=by
    have:=List.length_filter_le (fun k=>k == i || R i k && R k i) (List.range k);simpa using this
   refine ⟨fun q=>⟨q,fun q2=>⟨q,q2⟩⟩,fun q=>⟨hin.plain.unP,?_⟩,fun q1 q2=>?_⟩
   ·refine APK.appX tyE94 rfl tyE3 (by simp) (x:=y) (by simp [hin.plain.un]) hin (by simp [rowsOf];rfl) (by simp) (fun r hr=>by obtain ⟨_,_,rfl⟩:=List.mem_map.1 hr;rfl) (by simp) (by simp;omega) (by simp) fun x2 H4 h4 _ _=>?_
    simp [h4.plain.all]
    refine NX.go (k+1,x2,H4) (by simp;omega) ⟨hkn,?_⟩ (by simp [h4.only,hap.only,wrap_succ hk2])
    have hc:(k == i || R i k && R k i)=true:=by
     rcases q with q | q
     ·have:k=i:=by omega
      simp [this]
     ·simp [q]
    rw [hrng,List.filter_append,List.map_append]
    simpa [hc,rI] using h4
   ·refine NX.go (k+1,y,H2) (by simp;omega) ⟨hkn,?_⟩ (by simp [hin.only,hap.only,wrap_succ hk2])
    have hc:(k == i || R i k && R k i)=false:=by
     simp;exact ⟨by omega,q2⟩
    rw [hrng,List.filter_append]
    simpa [hc] using hin
  ·have hke:k=n:=by omega
   subst hke
   have hin:AppX 3 1 H1 y ((ringAt k R i).map fun k=>rI (k:Nat)) H2:=hin
   obtain ⟨a,l,hal⟩:∃ a l,ringAt k R i=a :: l:=by
    cases hh:ringAt k R i with
    | nil=>have:i ∈ ringAt k R i:=mem_ringAt.2 ⟨h,.inl rfl⟩;rw [hh] at this;cases this
    | cons a l=>exact ⟨a,l,rfl⟩
   have hfl:(((List.range i).filter (isRing k R)).map (ringAt k R)).length<=i:=by
    have:=List.length_filter_le (isRing k R) (List.range i);simpa using this
   rw [hal] at hin
   refine AW.fzT 6 (AW.ev cc ?_)
   simp [hin.fz,hap.plain.all,rI]
   refine ⟨fun q=>?_,fun q=>?_⟩
   ·have hc:isRing k R i=true:=by simp [isRing,hal,hq];omega
    refine APK.appX tyE44 rfl tyE94 (by simp) (x:=x) (by simp) (hap.mono hin.nx hin.ob) (by simp [rowsOf];rfl) (by simp) (fun r hr=>by obtain ⟨_,_,rfl⟩:=List.mem_map.1 hr;rfl) (by simp) (by simp at hfl |-;omega) (by simp) fun x2 H4 h4 _ _=>?_
    simp [h4.plain.all]
    refine AW.ev cc ?_
    simp
    refine NX.go (i+1,x2,H4) (by simp;omega) ⟨h,?_⟩ (by simp [h4.only,wrap_succ hi2])
    rw [hrng,List.filter_append,List.map_append,List.map_append]
    simpa [hc,rT,hal,rI] using h4
   ·have hc:isRing k R i=false:=by simp [isRing,hal,hq];omega
    refine AW.ev cc ?_
    simp
    refine NX.go (i+1,x,H2) (by simp;omega) ⟨h,?_⟩ (by simp [hap.only,wrap_succ hi2])
    rw [hrng,List.filter_append]
    simpa [hc] using hap.mono hin.nx hin.ob
 ·have e:i=n:=by omega
  subst e
  refine AW.ev cc ?_
  simp [hap.plain.all,hap.fz]
  refine ⟨?_,hap.nx,hap.ob⟩
  rw [ringsM,List.map_map];rfl
end Go.Aft
end
section
set_option maxRecDepth 20000
namespace Go.Aft
open Go.Proofs.Tryz
def lvShp (x:Shp):LV:=.agg [lvI x.kids,lvI x.calcs,.d (.k (.bool x.name)),.d (.k (.bool x.fold)),lvI x.low,lvI x.high]
def shpEs:List (Value × LV):=[1,2,3,4,5,6,7,8,9,10,11,12,13,14,15].map fun op:Int=>(.int .i64 op,lvShp ((shpOf op).getD ⟨0,0,false,false,0,0⟩))
theorem kEq_int {a b:Int}:kEq (.int .i64 a) (.int .i64 b)=decide (a=b):=by simp [kEq,scEq];rfl
theorem mfind_shp (op:Int):mfind (.int .i64 op) shpEs=(shpOf op).map lvShp:=by
 by_cases h:1<=op/\op<=15
 ·have:op=1 \/ op=2 \/ op=3 \/ op=4 \/ op=5 \/ op=6 \/ op=7 \/ op=8 \/ op=9 \/ op=10 \/ op=11 \/ op=12 \/ op=13 \/ op=14 \/ op=15:=by omega
  rcases this with rfl | rfl | rfl | rfl | rfl | rfl | rfl | rfl | rfl | rfl | rfl | rfl | rfl | rfl | rfl <;> rfl
 ·have hn:shpOf op=none:=by
   unfold shpOf
   repeat (rw [if_neg (by omega)])
  rw [hn]
  simp only [shpEs,List.map_cons,List.map_nil,mfind,kEq_int]
  rw [decide_eq_false (by omega),decide_eq_false (by omega),decide_eq_false (by omega),decide_eq_false (by omega),decide_eq_false (by omega),decide_eq_false (by omega),decide_eq_false (by omega),decide_eq_false (by omega),decide_eq_false (by omega),decide_eq_false (by omega),decide_eq_false (by omega),decide_eq_false (by omega),decide_eq_false (by omega),decide_eq_false (by omega),decide_eq_false (by omega)]
  rfl
def shp0:Shp:=⟨0,0,false,false,0,0⟩
@[simp] theorem has_int (n:Int):(KK.sc (Sc.int .i64)).has (.int .i64 n)=true:=rfl
theorem shp_has:(∀ (a:Value) (b:LV),(a,b) ∈ shpEs->(KK.sc (Sc.int .i64)).has a=true)=True:=by
 refine eq_true fun a b hab=>?_
 simp only [shpEs,List.mem_map] at hab
 obtain ⟨s,_,q⟩:=hab
 cases q;rfl
theorem shp_get (op:Int):(mfind (.int .i64 op) shpEs).getD (.agg [.d (.k (.int .i64 0)),.d (.k (.int .i64 0)),.d (.k (.bool false)),.d (.k (.bool false)),.d (.k (.int .i64 0)),.d (.k (.int .i64 0))])=lvShp ((shpOf op).getD shp0):=by
 rw [mfind_shp]
 cases shpOf op <;> rfl
theorem shp_some (op:Int):(mfind (.int .i64 op) shpEs).isSome=(shpOf op).isSome:=by
 rw [mfind_shp];cases shpOf op <;> rfl
theorem term_shapes (H:GH):ECall prog 154 [] H fun ce H'=>ce=.ret (.gm H.next)/\H'=H.add (.map shpEs):=by
 have cc:=cx0_ok
 refine ECall.bodyN cx0_ok func154 rfl call154 (by rw [ntmps154];simp) rfl fun hf hw=>?_
 simp [ntmps154,results154,GH.add_obj,GH.add_next,GH.add_set,KK.has,Sc.has,mput,kEq_int,shpEs,lvShp,shpOf]
 exact fun hz=>hz.drop (by rw [GH.add_next];omega)
end Go.Aft
end
section
set_option maxRecDepth 20000
namespace Go.Aft
open Go.Proofs.Tryz
structure Sco (H:GH) (n m1 m2 m3:Nat) (srcs defs:List Str) (ahead nodes:Int):Prop where
 sc:H.obj n=some (scp [.gm m1,.gm m2,.gm m3] ahead nodes)
 o1:H.obj m1=some (.map (numEs srcs 0))
 o2:H.obj m2=some (.map (numEs defs 0))
 o3:H.obj m3=some (.map shpEs)
theorem Sco.ne {H:GH} {n m1 m2 m3:Nat} {srcs defs:List Str} {a k:Int} (h:Sco H n m1 m2 m3 srcs defs a k):m1 ≠ n/\m2 ≠ n/\m3 ≠ n:=by
 refine ⟨fun e=>?_,fun e=>?_,fun e=>?_⟩
 ·have:=h.o1;rw [e,h.sc] at this;cases this
 ·have:=h.o2;rw [e,h.sc] at this;cases this
 ·have:=h.o3;rw [e,h.sc] at this;cases this
theorem Sco.set {H:GH} {n m1 m2 m3:Nat} {srcs defs:List Str} {a k:Int} (h:Sco H n m1 m2 m3 srcs defs a k) (a' k':Int):Sco (H.set n (scp [.gm m1,.gm m2,.gm m3] a' k')) n m1 m2 m3 srcs defs a' k':=by
 obtain ⟨e1,e2,e3⟩:=h.ne
 exact ⟨GH.set_same,by rw [GH.set_obj,if_neg e1];exact h.o1,by rw [GH.set_obj,if_neg e2];exact h.o2,by rw [GH.set_obj,if_neg e3];exact h.o3⟩
def ExpQ (H:GH) (n m1 m2 m3:Nat) (ahead:Int) (r:Option Int):CE->GH->Prop:=fun ce H'=>match r with
 | some l=>(∃ v,ce=.ret v)/\H'=H.set n (scp [.gm m1,.gm m2,.gm m3] ahead (60 - l))
 | none=>ce=.pan unformed/\∃ m,H'=H.set n (scp [.gm m1,.gm m2,.gm m3] ahead m)
theorem term_exp1 (op en fold:Int) (name:Str) (calcs:List Calc) (kids:List Exp) (srcs defs:List Str)
  (ih:∀ k ∈ kids,∀ (n m1 m2 m3:Nat) (H:GH) (ahead nodes depth:Int),Sco H n m1 m2 m3 srcs defs ahead nodes->0<=nodes->nodes<=60->0<=depth->depth<=100 ->
   ECall prog 156 [.gp n 0,lv (rExp k),lvI depth] H (ExpQ H n m1 m2 m3 ahead (lExp srcs defs ahead k depth (60 - nodes))))
  (n m1 m2 m3:Nat) (H:GH) (ahead nodes depth:Int) (hs:Sco H n m1 m2 m3 srcs defs ahead nodes) (h0:0<=nodes) (h1:nodes<=60) (hd0:0<=depth) (hd1:depth<=100) :
   ECall prog 156 [.gp n 0,lv (rExp (.mk op name en fold calcs kids)),lvI depth] H (ExpQ H n m1 m2 m3 ahead (lExp srcs defs ahead (.mk op name en fold calcs kids) depth (60 - nodes))):=by
 have cc:=cxK_ok (p:=kds [4] [] [])
 refine ECall.bodyNW (cxK_ok (p:=kds [4] [] [])) func156 rfl call156 (by rw [ntmps156];simp) rfl fun hf hw=>?_
 simp [ntmps156,results156,rExp_eq] at hf |-
 have hc:nbs H.next [.gm m1,.gm m2,.gm m3]:=by
  have:=hw.nb n _ hs.sc;simp [scp,GO.nb,nbs,LV.nb] at this |-;exact this
 have hlt:=hw.lt hs.sc
 have hdr:∀ m,nbH (H.set n (scp [.gm m1,.gm m2,.gm m3] ahead m))->Drop H (H.set n (scp [.gm m1,.gm m2,.gm m3] ahead m)) (H.set n (scp [.gm m1,.gm m2,.gm m3] ahead m)):=fun m hz=>hz.drop (by rw [GH.set_next];exact Nat.le_refl _)
 have hno:∀ m,¬ (depth<=10/\1<=60 - nodes/\expOk op name en fold calcs.length kids.length=true/\nameOk srcs defs ahead op name=true)->nbH (H.set n (scp [.gm m1,.gm m2,.gm m3] ahead m)) ->
   ∃ H',Drop H (H.set n (scp [.gm m1,.gm m2,.gm m3] ahead m)) H'/\(unformed:LV).nb H'.next/\ExpQ H n m1 m2 m3 ahead (lExp srcs defs ahead (.mk op name en fold calcs kids) depth (60 - nodes)) (.pan unformed) H':=fun m hq hz=>by
  refine ⟨_,hdr m hz,by simp [unformed,LV.nb],?_⟩
  rw [lExp,if_neg hq];exact ⟨rfl,_,rfl⟩
 refine AW.seq cc ?_
 simp
 refine AW.seq cc ?_
 simp [hlt]
 refine EC.need (term_one n H _ _ _ ahead nodes depth hs.sc hc h0 (by omega)) (fun hb v=>?_) (fun hb=>?_)
 rotate_left
 ·simp
  exact hno _ (by omega)
 have hs1:=hs.set ahead (nodes+1)
 have o0:=hs1.sc
 have o1:=hs1.o1
 have o2:=hs1.o2
 have o3:=hs1.o3
 obtain ⟨e1,e2,e3⟩:=hs.ne
 generalize hH1:H.set n (scp [.gm m1,.gm m2,.gm m3] ahead (nodes+1))=H1 at o0 o1 o2 o3
 have hnx:H1.next=H.next:=by rw [<- hH1];rfl
 simp [hH1]
 refine AW.seq cc ?_
 refine AW.draw cc [] (.q 0<|.q 1<|.q 2<|.q 4<|.q 3<|.q 5<|.q 6<|.q 7<|.q 8<|.q 9<|.f<|.one 10<|.f<|.one 11<|.q 12<|.done) (by kernel_rfl) ?_
 obtain ⟨x,hx⟩:∃ x,(shpOf op).getD shp0=x:=⟨_,rfl⟩
 simp [o0,o3,scp,shp_get,shp_some,shp_has,hx,lvShp]
 have hno':¬ (expOk op name en fold calcs.length kids.length=true/\nameOk srcs defs ahead op name=true)->nbH H1->∃ H',Drop H H1 H'/\(unformed:LV).nb H'.next/\ExpQ H n m1 m2 m3 ahead (lExp srcs defs ahead (.mk op name en fold calcs kids) depth (60 - nodes)) (.pan unformed) H':=fun hq hz=>by
  rw [<- hH1] at hz |-
  exact hno _ (fun q=>hq q.2.2) hz
 have hE:expOk op name en fold calcs.length kids.length=true ↔ ((shpOf op).isSome=true/\(kids.length:Int)=x.kids/\(calcs.length:Int)=x.calcs/\(x.name = !decide (name = { data:=#[] }))/\x.low<=en/\en<=x.high)/\(if x.fold=true then 1<=fold/\fold<=4 else fold=0):=by
  unfold expOk
  cases hsh:shpOf op with
  | none=>simp
  | some y =>
   rw [hsh] at hx;simp only [Option.getD_some] at hx;subst hx
   have hnn:decide (name ≠ noName) = !decide (name = { data:=#[] }):=by
    rw [decide_not];rfl
   simp only [hnn,Bool.and_eq_true,decide_eq_true_eq,beq_iff_eq,Option.isSome_some,true_and]
   cases y.fold
   ·simp only [Bool.false_eq_true,if_false,decide_eq_true_eq]
    constructor
    ·rintro ⟨⟨⟨⟨a,b⟩,c⟩,d,e⟩,f⟩;exact ⟨⟨a,b,c,d,e⟩,f⟩
    ·rintro ⟨⟨a,b,c,d,e⟩,f⟩;exact ⟨⟨⟨⟨a,b⟩,c⟩,d,e⟩,f⟩
   ·simp only [if_true,decide_eq_true_eq]
    constructor
    ·rintro ⟨⟨⟨⟨a,b⟩,c⟩,d,e⟩,f⟩;exact ⟨⟨a,b,c,d,e⟩,f⟩
    ·rintro ⟨⟨a,b,c,d,e⟩,f⟩;exact ⟨⟨⟨⟨a,b⟩,c⟩,d,e⟩,f⟩
 refine AW.seq cc ?_
 simp
 refine EC.need (term_must _ _) (fun hb1 v1=>?_) (fun hb1=>?_)
 rotate_left
 ·simp only [Bool.and_eq_true,decide_eq_true_eq,beq_iff_eq] at hb1
  simp
  refine hno' fun q=>hb1 ?_
  obtain ⟨a,b,c,d,e,f⟩:=(hE.1 q.1).1
  exact ⟨⟨⟨⟨⟨a,b⟩,c⟩,d⟩,e⟩,f⟩
 simp only [Bool.and_eq_true,decide_eq_true_eq,beq_iff_eq] at hb1
 simp
 refine AW.seq cc ?_
 simp
 refine ⟨fun q=>⟨q,fun q2=>⟨q,q2⟩⟩,?_,?_⟩
 ·cases x.fold <;> simp <;> omega
 refine EC.need (term_must _ _) (fun hb2 v2=>?_) (fun hb2=>?_)
 rotate_left
 ·simp
  refine hno' fun q=>hb2 ?_
  have:=(hE.1 q.1).2
  revert this
  cases x.fold <;> simp
 have hok:expOk op name en fold calcs.length kids.length=true:=by
  refine hE.2 ⟨⟨hb1.1.1.1.1.1,hb1.1.1.1.1.2,hb1.1.1.1.2,hb1.1.1.2,hb1.1.2,hb1.2⟩,?_⟩
  revert hb2
  cases x.fold <;> simp
 simp
 refine AW.seq cc ?_
 refine AW.draw cc [] (.q 0<|.q 1<|.q 2<|.q 3<|.q 5<|.q 4<|.q 6<|.q 7<|.q 8<|.q 9<|.q 10<|.q 11<|.q 12<|.done) (by kernel_rfl) ?_
 simp [o0,o1,scp,num_get,num_some,num_has]
 refine AW.seq cc ?_
 refine AW.draw cc [] (.q 0<|.q 1<|.q 2<|.q 3<|.q 5<|.q 4<|.q 6<|.q 7<|.q 8<|.q 9<|.q 10<|.q 11<|.q 12<|.done) (by kernel_rfl) ?_
 simp [o0,o2,scp,num_get,num_some,num_has]
 refine AW.join (c:=cxK (kds [4] [] [])) (fun _:Unit=>⟨[(0,.gp n 0),(2,lvI depth),(4,.ip ((rExp (.mk op name en fold calcs kids)).map .d) 0)],[],H1⟩)
  (fun _=>nameOk srcs defs ahead op name=true) (AW.ev cc ?_) fun _ hk=>?_
 ·have hbad:nameOk srcs defs ahead op name ≠ true->nbH H1->∃ H',Drop H H1 H'/\(unformed:LV).nb H'.next/\ExpQ H n m1 m2 m3 ahead (lExp srcs defs ahead (.mk op name en fold calcs kids) depth (60 - nodes)) (.pan unformed) H':=fun q=>hno' fun q2=>q q2.2
  have hop:op=1 \/ op=2 \/ op=3 \/ (op ≠ 1/\op ≠ 2/\op ≠ 3):=by omega
  rcases hop with rfl | rfl | rfl | ⟨n1,n2,n3⟩
  ·simp
   refine EC.need (term_must _ _) (fun hb v=>?_) (fun hb=>?_)
   ·simp
    exact JN.go () (by simpa [nameOk] using hb) (by simp [rExp_eq])
   ·simp
    exact hbad (by simpa [nameOk] using hb)
  ·simp [o0,scp]
   have hb0:nameOk srcs defs ahead 2 name=(decide (0<=idx defs name) && decide (numD defs name < ahead)):=by
    unfold numD
    by_cases q:idx defs name < 0
    ·have q2:¬ 0<=idx defs name:=by omega
     simp [nameOk,q2]
    ·simp [nameOk,q]
   refine EC.need (term_must _ _) (fun hb v=>?_) (fun hb=>?_)
   ·simp
    exact JN.go () (by rw [hb0];exact hb) (by simp [rExp_eq])
   ·simp
    exact hbad (by rw [hb0];exact hb)
  ·simp
   refine EC.need (term_must _ _) (fun hb v=>?_) (fun hb=>?_)
   ·simp
    exact JN.go () (by simpa [nameOk] using hb) (by simp [rExp_eq])
   ·simp
    exact hbad (by simpa [nameOk] using hb)
  ·simp [n1,n2,n3]
   exact JN.go () (by simp [nameOk,n1,n2,n3]) (by simp [rExp_eq])
 ·have hsp:lExp srcs defs ahead (.mk op name en fold calcs kids) depth (60 - nodes)=match lCalcs (decide (op=12 \/ op=13)) calcs 1 (59 - nodes) with
   | some l=>lExps srcs defs ahead kids (depth+1) l
   | none=>none:=by
   rw [lExp,if_pos ⟨by omega,by omega,hok,hk⟩,show 60 - nodes - 1=59 - nodes by omega]
   cases lCalcs (decide (op=12 \/ op=13)) calcs 1 (59 - nodes) <;> rfl
  rw [hsp]
  clear hsp
  obtain ⟨ob,hob⟩:∃ ob,decide (op=12 \/ op=13)=ob:=⟨_,rfl⟩
  rw [hob]
  have w1:IntKind.wrap .i64 (depth+1)=depth+1:=by rw [wrap64] <;> omega
  refine AW.join (c:=cxK (kds [4] [] [])) (fun l:Int=>⟨[(0,.gp n 0),(2,lvI depth),(4,.ip ((rExp (.mk op name en fold calcs kids)).map .d) 0)],[],H.set n (scp [.gm m1,.gm m2,.gm m3] ahead (60 - l))⟩)
   (fun l=>lCalcs ob calcs 1 (59 - nodes)=some l) (AW.ev cc ?_) fun l hl=>?_
  ·simp [rExp_eq]
   refine AW.loopS cc (fun a:Nat × Int=>⟨[(0,.gp n 0),(2,lvI depth),(4,.ip ((rExp (.mk op name en fold calcs kids)).map .d) 0),(137,.d (.sl (calcs.map rCalc))),(138,lvI calcs.length),(139,lvI a.1)],[],H.set n (scp [.gm m1,.gm m2,.gm m3] ahead (60 - a.2))⟩) (fun a=>calcs.length - a.1)
    (fun a=>a.1<=calcs.length/\0<=a.2/\a.2<=59 - nodes/\lCalcs ob calcs 1 (59 - nodes)=lCalcs ob (calcs.drop a.1) 1 a.2) (0,59 - nodes) ⟨⟨by simp,by simp;omega,by simp,by simp⟩,by simp [rExp_eq,show 60 - (59 - nodes)=nodes+1 by omega,hH1]⟩ ?_
   rintro ⟨i,left⟩ ⟨hi,hl0,hl1,hI⟩
   simp only at hi hl0 hl1 hI
   simp
   refine ⟨fun h=>?_,fun h=>?_⟩
   ·have hd:=List.drop_eq_getElem_cons h
    rw [hd,lCalcs] at hI
    simp [h,List.getElem?_eq_getElem h,rCalc_eq,rExp_eq,hlt,GH.set_next]
    have ho:(op == 12 || op == 13)=ob:=by
     rw [<- hob,Bool.eq_iff_iff];simp
    rw [ho]
    have ih':=term_calc ob calcs[i] n (H.set n (scp [.gm m1,.gm m2,.gm m3] ahead (60 - left))) (.gm m1) (.gm m2) (.gm m3) ahead (60 - left) 1 GH.set_same (by omega) (by omega) (by omega) (by omega)
    rw [show 60 - (60 - left)=left by omega] at ih'
    simp only [GH.set_set,lv_eq,rCalc_eq,List.map_cons,List.map_nil,lvI_eq] at ih'
    refine EC.of ih' (fun v' H' hR=>?_) (fun v' H' hR=>?_)
    ·cases hl:lCalc ob calcs[i] 1 left with
     | none=>rw [hl] at hR;cases hR.1
     | some l =>
      rw [hl] at hR hI
      have hle:=lCalc_le _ _ _ _ hl
      obtain ⟨_,rfl⟩:=hR
      simp [wrap_succ h hf.1.1]
      exact NX.go (i+1,l) (by simp;omega) ⟨h,hle.1,by simp only;omega,hI⟩ (by simp [rExp_eq])
    ·cases hl:lCalc ob calcs[i] 1 left with
     | some l=>rw [hl] at hR;obtain ⟨⟨_,q⟩,_⟩:=hR;cases q
     | none =>
      rw [hl] at hR hI
      obtain ⟨q,m,rfl⟩:=hR
      cases q
      simp
      refine fun hz=>⟨_,hdr _ hz,by simp [unformed,LV.nb],?_⟩
      rw [hI];exact ⟨rfl,_,rfl⟩
   ·have:calcs.drop i=[]:=List.drop_eq_nil_of_le h
    rw [this,lCalcs] at hI
    exact JN.go left hI (by simp [rExp_eq])
  ·have hlb:=lCalcs_le _ _ _ _ hl (by omega)
   rw [hl]
   refine AW.ev cc ?_
   simp [rExp_eq]
   refine AW.loopS cc (fun a:Nat × Int=>⟨[(0,.gp n 0),(2,lvI depth),(156,.d (.sl (kids.map rExp))),(157,lvI kids.length),(158,lvI a.1)],[],H.set n (scp [.gm m1,.gm m2,.gm m3] ahead (60 - a.2))⟩) (fun a=>kids.length - a.1)
    (fun a=>a.1<=kids.length/\0<=a.2/\a.2<=l/\lExps srcs defs ahead kids (depth+1) l=lExps srcs defs ahead (kids.drop a.1) (depth+1) a.2) (0,l) ⟨⟨by simp,by simp;omega,by simp,by simp⟩,by simp⟩ ?_
   rintro ⟨i,left⟩ ⟨hi,hl0,hl1,hI⟩
   simp only at hi hl0 hl1 hI
   simp
   refine ⟨fun h=>?_,fun h=>?_⟩
   ·have hd:=List.drop_eq_getElem_cons h
    rw [hd,lExps] at hI
    simp [h,List.getElem?_eq_getElem h,rExp_eq,hlt,w1,GH.set_next]
    have ih':=ih kids[i] (List.getElem_mem h) n m1 m2 m3 (H.set n (scp [.gm m1,.gm m2,.gm m3] ahead (60 - left))) ahead (60 - left) (depth+1) (hs.set _ _) (by omega) (by omega) (by omega) (by omega)
    rw [show 60 - (60 - left)=left by omega] at ih'
    simp only [ExpQ,GH.set_set,lv_eq,rExp_eq,List.map_cons,List.map_nil,lvI_eq] at ih'
    refine EC.of ih' (fun v' H' hR=>?_) (fun v' H' hR=>?_)
    ·cases hl:lExp srcs defs ahead kids[i] (depth+1) left with
     | none=>rw [hl] at hR;cases hR.1
     | some l2 =>
      rw [hl] at hR hI
      have hle:=lExp_le _ _ _ _ hl
      obtain ⟨_,hH⟩:=hR
      rw [GH.set_set] at hH
      subst hH
      simp [wrap_succ h hf.2.1]
      exact NX.go (i+1,l2) (by simp;omega) ⟨h,hle.1,by simp only;omega,hI⟩ (by simp)
    ·cases hl:lExp srcs defs ahead kids[i] (depth+1) left with
     | some l=>rw [hl] at hR;obtain ⟨⟨_,q⟩,_⟩:=hR;cases q
     | none =>
      rw [hl] at hR hI
      obtain ⟨q,m,hH⟩:=hR
      rw [GH.set_set] at hH
      subst hH
      cases q
      simp
      refine fun hz=>⟨_,hdr _ hz,by simp [unformed,LV.nb],?_⟩
      rw [hI];exact ⟨rfl,_,rfl⟩
   ·have:kids.drop i=[]:=List.drop_eq_nil_of_le h
    rw [this,lExps] at hI
    rw [hI]
    exact fun hz=>⟨_,hdr _ hz,⟨_,rfl⟩,rfl⟩
theorem term_exp (srcs defs:List Str):∀ (e:Exp) (n m1 m2 m3:Nat) (H:GH) (ahead nodes depth:Int),Sco H n m1 m2 m3 srcs defs ahead nodes->0<=nodes->nodes<=60->0<=depth->depth<=100 ->
   ECall prog 156 [.gp n 0,lv (rExp e),lvI depth] H (ExpQ H n m1 m2 m3 ahead (lExp srcs defs ahead e depth (60 - nodes)))
 | .mk op name en fold calcs kids,n,m1,m2,m3,H,ahead,nodes,depth,hs,h0,h1,hd0,hd1 =>
  term_exp1 op en fold name calcs kids srcs defs (fun k hk n m1 m2 m3 H ahead nodes depth hs h0 h1 hd0 hd1=>term_exp srcs defs k n m1 m2 m3 H ahead nodes depth hs h0 h1 hd0 hd1) n m1 m2 m3 H ahead nodes depth hs h0 h1 hd0 hd1
end Go.Aft
end
