import Derived.Test.YthinedikejlgmaaGreatA25
import Derived.Test.YthinedikejlgmaaGreatA23
set_option linter.all false
section
set_option maxRecDepth 20000
namespace Go.Aft
open Go.Proofs.Tryz
theorem idx_take:∀ (l:List Str) (a:Nat) (s:Str),(0<=idx (l.take a) s ↔ 0<=idx l s/\idx l s < a)
 | [],a,s=>by simp [idx]
 | x :: l,0,s=>by
  have:=idx_ge (x :: l) s
  constructor
  ·intro h;simp [idx] at h
  ·intro h;omega
 | x :: l,a+1,s=>by
  have ih:=idx_take l a s
  have h1:=idx_ge l s
  have h2:=idx_ge (l.take a) s
  rw [List.take_succ_cons,idx_cons,idx_cons]
  by_cases e:x=s
  ·simp [e]
  ·simp only [e,if_false]
   split <;> split <;> omega
def lvNames (srcs defs:List Str) (ahead:Int):LV:=.agg [.d (.sl (srcs.map rS)),.d (.sl (defs.map rS)),lvI ahead]
theorem ref02_exp1 (op en fold:Int) (name:Str) (calcs:List Calc) (kids:List Exp) (srcs defs:List Str) (ahead:Nat) (ha:ahead<=defs.length)
  (ih:∀ k ∈ kids,∀ depth left:Int,0<=depth->left<=1000->AFun prog 179 [lvNames srcs defs ahead,lv (rExp k),lvI depth,lvI left] (lvI (cntV (lExp srcs defs ahead k depth left) left)))
  (depth left:Int) (hd:0<=depth) (hl:left<=1000):AFun prog 179 [lvNames srcs defs ahead,lv (rExp (.mk op name en fold calcs kids)),lvI depth,lvI left] (lvI (cntV (lExp srcs defs ahead (.mk op name en fold calcs kids) depth left) left)):=by
 have cc:=cxK_ok (p:=kds [4,5] [] [])
 refine AFun.bodyW (cxK_ok (p:=kds [4,5] [] [])) func179 rfl call179 (by rw [ntmps179];simp) rfl fun hf H=>?_
 have hsh:=ref02_shapeOf op
 simp [ntmps179,results179,rExp_eq,lvNames] at hf |-
 refine AW.seq cc ?_
 simp
 refine AW.seq cc ?_
 simp
 refine EC.afun hsh ?_
 obtain ⟨R,hR⟩:∃ R,lExp srcs defs ahead (.mk op name en fold calcs kids) depth left=R:=⟨_,rfl⟩
 rw [hR]
 have hno:¬ (depth<=10/\1<=left/\expOk op name en fold calcs.length kids.length=true/\nameOk srcs defs ahead op name=true)->R=none:=fun q=>by rw [<- hR,lExp,if_neg q]
 cases hs:shpOf op with
 | none =>
  rw [hno (by rintro ⟨_,_,q,_⟩;obtain ⟨x,hx,_⟩:=expOk_len q;rw [hs] at hx;cases hx)]
  simp [shpR,shpA]
  refine AW.ev cc ?_
  simp [cntV]
 | some y =>
  have hnn:decide (name ≠ noName) = !decide (name = { data:=#[] }):=by
   rw [decide_not];rfl
  obtain ⟨yk,yc,yn,yf,ylo,yhi⟩:=y
  have hE:expOk op name en fold calcs.length kids.length=true ↔ ((calcs.length:Int)=yc/\(kids.length:Int)=yk/\(yn = !decide (name = { data:=#[] }))/\ylo<=en/\en<=yhi)/\(if yf=true then 1<=fold/\fold<=4 else fold=0):=by
   unfold expOk
   rw [hs]
   simp only [hnn,Bool.and_eq_true,decide_eq_true_eq,beq_iff_eq]
   cases yf
   ·simp only [Bool.false_eq_true,if_false,decide_eq_true_eq]
    constructor
    ·rintro ⟨⟨⟨⟨a,b⟩,c⟩,d,e⟩,f⟩;exact ⟨⟨b,a,c,d,e⟩,f⟩
    ·rintro ⟨⟨a,b,c,d,e⟩,f⟩;exact ⟨⟨⟨⟨b,a⟩,c⟩,d,e⟩,f⟩
   ·simp only [if_true,decide_eq_true_eq]
    constructor
    ·rintro ⟨⟨⟨⟨a,b⟩,c⟩,d,e⟩,f⟩;exact ⟨⟨b,a,c,d,e⟩,f⟩
    ·rintro ⟨⟨a,b,c,d,e⟩,f⟩;exact ⟨⟨⟨⟨b,a⟩,c⟩,d,e⟩,f⟩
  simp [shpR,shpA]
  refine AW.seq cc ?_
  simp
  by_cases hg:depth<=10/\1<=left/\(calcs.length:Int)=yc/\(kids.length:Int)=yk/\(yn = !decide (name = { data:=#[] }))
  rotate_left
  ·have hz:(bif decide (10 < depth) || decide (left < 1) || (calcs.length:Int) != yc || (kids.length:Int) != yk || !yn == !decide (name = { data:=#[] }) then LV.d (DV.k (Value.bool true)) else LV.any)=.d (.k (.bool true)):=by
    rw [show (decide (10 < depth) || decide (left < 1) || (calcs.length:Int) != yc || (kids.length:Int) != yk || !yn == !decide (name = { data:=#[] }))=true from ?_]
    ·rfl
    ·cases hb:(decide (10 < depth) || decide (left < 1) || (calcs.length:Int) != yc || (kids.length:Int) != yk || !yn == !decide (name = { data:=#[] })) with
     | true=>rfl
     | false =>
      exfalso
      simp at hb
      obtain ⟨⟨⟨⟨a,b⟩,c⟩,d⟩,e⟩:=hb
      refine hg ⟨a,b,c,d,?_⟩
      revert e
      cases yn <;> simp
   refine ⟨fun q1 q2 q3 q4 q5=>absurd ⟨q1,q2,q3,q4,q5⟩ hg,fun _=>⟨fun q1 q2 q3 q4 q5=>absurd ⟨q1,q2,q3,q4,q5⟩ hg,?_⟩⟩
   rw [hz]
   have hq:R=none:=hno fun q=>by
    obtain ⟨q1,q2,q3,_⟩:=q
    have:=(hE.1 q3).1
    exact hg ⟨q1,q2,this.1,this.2.1,this.2.2.1⟩
   simp [hq,cntV]
  obtain ⟨g1,g2,g3,g4,g5⟩:=hg
  refine ⟨fun _ _ _ _ _=>⟨⟨⟨⟨⟨g1,g2⟩,g3⟩,g4⟩,g5⟩,EC.afun (ref02_in _ _ _) ?_⟩,fun q=>?_⟩
  rotate_left
  ·exfalso
   have:=q g1 g2 g3 g4
   rw [g5] at this;simp at this
  subst g5
  have b1:decide (10 < depth)=false:=by rw [decide_eq_false_iff_not];omega
  have b2:decide (left < 1)=false:=by rw [decide_eq_false_iff_not];omega
  have b3:((calcs.length:Int) != yc)=false:=by rw [bne_eq_false_iff_eq];exact g3
  have b4:((kids.length:Int) != yk)=false:=by rw [bne_eq_false_iff_eq];exact g4
  simp [b1,b2,b3,b4]
  refine ⟨fun q=>?_,fun r1 r2=>?_⟩
  ·rw [hno fun q2=>by have:=(hE.1 q2.2.2.1).1;omega]
   simp [cntV]
  obtain ⟨yn,hyn⟩:∃ yn,(!decide (name = { data:=#[] }))=yn:=⟨_,rfl⟩
  rw [hyn]
  refine AW.join (c:=cxK (kds [4,5] [] [])) (fun _:Unit=>⟨[(2,lvI depth),(3,lvI left),(4,.ip [.d (.sl (srcs.map rS)),.d (.sl (defs.map rS)),lvI ahead] 0),(5,.ip ((rExp (.mk op name en fold calcs kids)).map .d) 0),(9,.lp 9 0),(10,.d (.k (.bool true)))],[(9,[lvI yc,lvI yk,.d (.k (.bool yn)),.d (.k (.bool yf)),lvI ylo,lvI yhi])],H⟩)
   (fun _=>expOk op name en fold calcs.length kids.length=true) (AW.ev cc ?_) fun _ hok=>?_
  ·cases yf with
   | true =>
    simp
    refine EC.afun (ref02_in _ _ _) ?_
    simp
    refine ⟨fun q=>?_,fun q1 q2=>?_⟩
    ·rw [hno fun q2=>by have:=(hE.1 q2.2.2.1).2;simp at this;omega]
     simp [cntV]
    ·exact JN.go () (hE.2 ⟨⟨g3,g4,rfl,r1,r2⟩,by simp;omega⟩) (by simp [rExp_eq])
   | false =>
    simp
    refine ⟨fun q=>?_,fun q=>?_⟩
    ·rw [hno fun q2=>by have:=(hE.1 q2.2.2.1).2;simp at this;omega]
     simp [cntV]
    ·exact JN.go () (hE.2 ⟨⟨g3,g4,rfl,r1,r2⟩,by simp;omega⟩) (by simp [rExp_eq])
  refine AW.join (c:=cxK (kds [4,5] [] [])) (fun b:Bool=>⟨[(2,lvI depth),(3,lvI left),(4,.ip [.d (.sl (srcs.map rS)),.d (.sl (defs.map rS)),lvI ahead] 0),(5,.ip ((rExp (.mk op name en fold calcs kids)).map .d) 0),(9,.lp 9 0),(10,.d (.k (.bool b)))],[(9,[lvI yc,lvI yk,.d (.k (.bool yn)),.d (.k (.bool yf)),lvI ylo,lvI yhi])],H⟩)
   (fun b=>b=nameOk srcs defs ahead op name) (AW.ev cc ?_) fun b hb=>?_
  ·have hop:op=1 \/ op=2 \/ op=3 \/ (op ≠ 1/\op ≠ 2/\op ≠ 3):=by omega
   rcases hop with rfl | rfl | rfl | ⟨n1,n2,n3⟩
   ·simp [rExp_eq]
    refine EC.afun (by simpa using ref02_Has srcs name) ?_
    simp
    exact JN.go (decide (0<=idx srcs name)) (by simp [nameOk]) (by simp [rExp_eq])
   ·simp [rExp_eq]
    refine AW.draw cc [(7,.n)] (.q 0<|.q 2<|.q 5<|.q 1<|.q 3<|.q 4<|.q 6<|.q 7<|.q 8<|.done) (by kernel_rfl) ?_
    simp
    refine ⟨ha,FC.afun (by simpa [List.map_take] using ref02_Has (defs.take ahead) name) ?_⟩
    simp
    exact JN.go (decide (0<=idx (defs.take ahead) name)) (by simp [nameOk,idx_take]) (by simp [rExp_eq])
   ·simp [rExp_eq]
    refine EC.afun (by simpa using ref02_Has defs name) ?_
    simp
    exact JN.go (decide (0<=idx defs name)) (by simp [nameOk]) (by simp [rExp_eq])
   ·simp [n1,n2,n3,rExp_eq]
    exact JN.go true (by simp [nameOk,n1,n2,n3]) (by simp [rExp_eq])
  have hsp:nameOk srcs defs ahead op name=true->R=match lCalcs (decide (op=12 \/ op=13)) calcs 1 (left - 1) with
   | some l=>lExps srcs defs ahead kids (depth+1) l
   | none=>none:=fun q=>by
   rw [<- hR,lExp,if_pos ⟨g1,g2,hok,q⟩]
   cases lCalcs (decide (op=12 \/ op=13)) calcs 1 (left - 1) <;> rfl
  obtain ⟨ob,hob⟩:∃ ob,decide (op=12 \/ op=13)=ob:=⟨_,rfl⟩
  have ho:(op == 12 || op == 13)=ob:=by
   rw [<- hob,Bool.eq_iff_iff];simp
  rw [hob] at hsp
  have w1:IntKind.wrap .i64 (depth+1)=depth+1:=by rw [wrap64] <;> omega
  refine AW.seq cc ?_
  simp [rExp_eq]
  refine AW.join (c:=cxK (kds [4,5] [] [])) (fun a:Int × Bool=>⟨[(2,lvI depth),(3,lvI left),(4,.ip [.d (.sl (srcs.map rS)),.d (.sl (defs.map rS)),lvI ahead] 0),(5,.ip ((rExp (.mk op name en fold calcs kids)).map .d) 0),(9,.lp 9 0),(10,.d (.k (.bool a.2))),(11,lvI a.1)],[(9,[lvI yc,lvI yk,.d (.k (.bool yn)),.d (.k (.bool yf)),lvI ylo,lvI yhi])],H⟩)
   (fun a=>(a.2=true->1<=a.1/\a.1<=left/\R=lExps srcs defs ahead kids (depth+1) (left - a.1))/\(a.2=false->R=none)) (AW.ev cc ?_) fun a hI=>?_
  ·simp [rExp_eq]
   refine AW.loopS cc (fun a:Nat × Int × Bool=>⟨[(2,lvI depth),(3,lvI left),(4,.ip [.d (.sl (srcs.map rS)),.d (.sl (defs.map rS)),lvI ahead] 0),(5,.ip ((rExp (.mk op name en fold calcs kids)).map .d) 0),(9,.lp 9 0),(10,.d (.k (.bool a.2.2))),(11,lvI a.2.1),(12,lvI a.1)],[(9,[lvI yc,lvI yk,.d (.k (.bool yn)),.d (.k (.bool yf)),lvI ylo,lvI yhi])],H⟩) (fun a=>calcs.length - a.1)
    (fun a=>a.1<=calcs.length/\(a.2.2=true->1<=a.2.1/\a.2.1<=left/\R=match lCalcs ob (calcs.drop a.1) 1 (left - a.2.1) with
    | some l=>lExps srcs defs ahead kids (depth+1) l
    | none=>none)/\(a.2.2=false->R=none)) (0,1,b) ⟨⟨by simp,fun q=>⟨by simp,by simpa using g2,by simpa using hsp (hb ▸ q)⟩,fun q=>hno fun q2=>by rw [<- hb] at q2;simp only at q;rw [q] at q2;exact absurd q2.2.2.2 (by simp)⟩,by simp [rExp_eq]⟩ ?_
   rintro ⟨i,cnt,is⟩ ⟨hi,hI1,hI2⟩
   simp only at hi hI1 hI2
   cases is with
   | false =>
    simp
    exact JN.go (cnt,false) ⟨by simp,hI2⟩ (by simp [rExp_eq])
   | true =>
    obtain ⟨c1,c2,hI⟩:=hI1 rfl
    clear hI1 hI2
    simp [rExp_eq]
    refine ⟨fun q=>?_,fun q=>?_⟩
    ·have h:i < calcs.length:=by omega
     have hd:=List.drop_eq_getElem_cons h
     rw [hd,lCalcs] at hI
     refine AW.draw cc [(16,.n)] (.q 0<|.q 2<|.q 5<|.q 13<|.q 14<|.q 15<|.q 1<|.q 3<|.q 4<|.q 6<|.q 7<|.q 8<|.q 9<|.q 10<|.q 11<|.q 12<|.q 16<|.q 17<|.done) (by kernel_rfl) ?_
     have w2:IntKind.wrap .i64 (left - cnt)=left - cnt:=by rw [wrap64] <;> omega
     simp [h,List.getElem?_eq_getElem h,rCalc_eq,w2,ho]
     refine FC.afun (by simpa [rCalc_eq] using ref02_calc ob calcs[i] 1 (left - cnt) (by omega) (by omega)) ?_
     cases hl:lCalc ob calcs[i] 1 (left - cnt) with
     | none =>
      rw [hl] at hI
      simp [cntV,wrap_succ h hf.2.1.1]
      exact NX.go (i+1,IntKind.wrap .i64 (cnt + -1),false) (by simp;omega) ⟨h,by simp,fun _=>hI⟩ (by simp [rExp_eq])
     | some l =>
      rw [hl] at hI
      have hle:=lCalc_le _ _ _ _ hl
      have w3:IntKind.wrap .i64 (cnt+(left - cnt - l))=left - l:=by rw [wrap64] <;> omega
      simp [cntV,wrap_succ h hf.2.1.1,w3]
      exact NX.go (i+1,left - l,true) (by simp;omega) ⟨h,fun _=>⟨by simp only;omega,by simp only;omega,by simp only [show left - (left - l)=l by omega];exact hI⟩,by simp⟩ (by simp [rExp_eq];omega)
    ·have:calcs.drop i=[]:=List.drop_eq_nil_of_le (by omega)
     rw [this,lCalcs] at hI
     exact JN.go (cnt,true) ⟨fun _=>⟨c1,c2,hI⟩,by simp⟩ (by simp [rExp_eq])
  ·obtain ⟨cnt0,is0⟩:=a
   obtain ⟨hJ1,hJ2⟩:=hI
   simp only at hJ1 hJ2
   refine AW.seq cc ?_
   simp [rExp_eq]
   refine AW.loopS cc (fun a:Nat × Int × Bool=>⟨[(2,lvI depth),(3,lvI left),(4,.ip [.d (.sl (srcs.map rS)),.d (.sl (defs.map rS)),lvI ahead] 0),(5,.ip ((rExp (.mk op name en fold calcs kids)).map .d) 0),(9,.lp 9 0),(10,.d (.k (.bool a.2.2))),(11,lvI a.2.1),(14,lvI a.1)],[(9,[lvI yc,lvI yk,.d (.k (.bool yn)),.d (.k (.bool yf)),lvI ylo,lvI yhi])],H⟩) (fun a=>kids.length - a.1)
    (fun a=>a.1<=kids.length/\(a.2.2=true->1<=a.2.1/\a.2.1<=left/\R=lExps srcs defs ahead (kids.drop a.1) (depth+1) (left - a.2.1))/\(a.2.2=false->R=none)) (0,cnt0,is0) ⟨⟨by simp,by simpa using hJ1,hJ2⟩,by simp [rExp_eq]⟩ ?_
   rintro ⟨i,cnt,is⟩ ⟨hi,hI1,hI2⟩
   simp only at hi hI1 hI2
   cases is with
   | false =>
    simp
    rw [hI2 rfl]
    refine AW.ev cc ?_
    simp [cntV]
   | true =>
    obtain ⟨c1,c2,hI⟩:=hI1 rfl
    clear hI1 hI2
    simp [rExp_eq]
    refine ⟨fun q=>?_,fun q=>?_⟩
    ·have h:i < kids.length:=by omega
     have hd:=List.drop_eq_getElem_cons h
     rw [hd,lExps] at hI
     refine AW.draw cc [(11,.n)] (.q 1<|.q 3<|.q 6<|.q 7<|.q 8<|.q 9<|.q 10<|.q 0<|.q 2<|.q 4<|.q 5<|.q 11<|.q 12<|.done) (by kernel_rfl) ?_
     have w2:IntKind.wrap .i64 (left - cnt)=left - cnt:=by rw [wrap64] <;> omega
     simp [h,List.getElem?_eq_getElem h,rExp_eq,w1,w2]
     refine FC.afun (by simpa [rExp_eq,lvNames] using ih kids[i] (List.getElem_mem h) (depth+1) (left - cnt) (by omega) (by omega)) ?_
     cases hl:lExp srcs defs ahead kids[i] (depth+1) (left - cnt) with
     | none =>
      rw [hl] at hI
      simp [cntV,wrap_succ h hf.2.2.1]
      exact NX.go (i+1,IntKind.wrap .i64 (cnt + -1),false) (by simp;omega) ⟨h,by simp,fun _=>hI⟩ (by simp [rExp_eq])
     | some l =>
      rw [hl] at hI
      have hle:=lExp_le _ _ _ _ hl
      have w3:IntKind.wrap .i64 (cnt+(left - cnt - l))=left - l:=by rw [wrap64] <;> omega
      simp [cntV,wrap_succ h hf.2.2.1,w3]
      exact NX.go (i+1,left - l,true) (by simp;omega) ⟨h,fun _=>⟨by simp only;omega,by simp only;omega,by simp only [show left - (left - l)=l by omega];exact hI⟩,by simp⟩ (by simp [rExp_eq];omega)
    ·have:kids.drop i=[]:=List.drop_eq_nil_of_le (by omega)
     rw [this,lExps] at hI
     rw [hI]
     refine AW.ev cc ?_
     simp [cntV]
     try omega
theorem ref02_exp (srcs defs:List Str) (ahead:Nat) (ha:ahead<=defs.length):∀ (e:Exp) (depth left:Int),0<=depth->left<=1000->AFun prog 179 [lvNames srcs defs ahead,lv (rExp e),lvI depth,lvI left] (lvI (cntV (lExp srcs defs ahead e depth left) left))
 | .mk op name en fold calcs kids,depth,left,hd,hl=>ref02_exp1 op en fold name calcs kids srcs defs ahead ha (fun k hk depth left hd hl=>ref02_exp srcs defs ahead ha k depth left hd hl) depth left hd hl
end Go.Aft
end
section
set_option maxRecDepth 20000
namespace Go.Aft
open Go.Proofs.Tryz
structure AppX (e:TypeId) (sz:Nat) (H0:GH) (x:LV) (rows:List (List DV)) (H:GH):Prop where
 is:rows=[]/\x=.d (.k (.slice none 0 0)) \/ ∃ n,H0.next<=n/\n < H.next/\x=.osl n rows/\H.obj n=some (.arr e sz rows.length)
 nx:H0.next<=H.next
 ob:∀ m,m < H0.next->H.obj m=H0.obj m
theorem AppX.nil {e:TypeId} {sz:Nat} {H:GH}:AppX e sz H (.d (.k (.slice none 0 0))) [] H:=⟨.inl ⟨rfl,rfl⟩,Nat.le_refl _,fun _ _=>rfl⟩
theorem AppX.plain {e:TypeId} {sz:Nat} {H0 H:GH} {x:LV} {rows:List (List DV)} (h:AppX e sz H0 x rows H):Plain x:=by
 rcases h.is with ⟨_,rfl⟩ | ⟨n,_,_,rfl,_⟩ <;> exact ⟨rfl,trivial,rfl,rfl⟩
theorem AppX.only {e:TypeId} {sz:Nat} {H0 H:GH} {x:LV} {rows:List (List DV)} (h:AppX e sz H0 x rows H) {k:List Nat}:x.only k:=by
 rcases h.is with ⟨_,rfl⟩ | ⟨n,_,_,rfl,_⟩ <;> simp [LV.only]
theorem AppX.fz {e:TypeId} {sz:Nat} {H0 H:GH} {x:LV} {rows:List (List DV)} (h:AppX e sz H0 x rows H):Go.Aft.fz x=.d (.sl rows):=by
 rcases h.is with ⟨rfl,rfl⟩ | ⟨n,_,_,rfl,_⟩ <;> simp [Go.Aft.fz]
theorem AppX.rows {e:TypeId} {sz:Nat} {H0 H:GH} {x:LV} {rows:List (List DV)} (h:AppX e sz H0 x rows H):rowsOf x=some rows:=by
 rcases h.is with ⟨rfl,rfl⟩ | ⟨n,_,_,rfl,_⟩ <;> simp [rowsOf]
theorem AppX.cells {e:TypeId} {sz:Nat} {H0 H:GH} {x:LV} {rows:List (List DV)} (h:AppX e sz H0 x rows H):toDs x.cells=some [.sl rows] \/ toDs x.cells=some [.k (.slice none 0 0)]/\rows=[]:=by
 rcases h.is with ⟨rfl,rfl⟩ | ⟨n,_,_,rfl,_⟩ <;> simp [LV.cells,toDs]
def S.fzT (s:S) (t:Nat):S:={ s with env:=upd s.env t (Go.Aft.fz (s.env t)) }
theorem AW.fzT {P:Program} {rd:RD} {x:Code} {s:S} {Q:QT} (t:Nat) (h:@AW P rd ⟨x⟩ (s.fzT t) Q):@AW P rd ⟨x⟩ s Q:=by
 refine fun E a w hs=>h E a w ?_
 obtain ⟨h2,G,lm,h1,hM,hx,henv,hn⟩:=hs
 refine ⟨h2,G,lm,h1,hM,hx,fun u=>?_,hn⟩
 simp only [S.fzT]
 by_cases e:u=t
 ·subst e;rw [upd_same];exact LR_fz _ _ (henv u)
 ·rw [upd_ne _ _ e];exact henv u
attribute [simp] S.fzT
theorem AppX.mono {e:TypeId} {sz:Nat} {H0 H1 H2:GH} {x:LV} {rows:List (List DV)} (h:AppX e sz H0 x rows H1) (hn:H1.next<=H2.next) (ho:∀ m,m < H1.next->H2.obj m=H1.obj m):AppX e sz H0 x rows H2:=by
 refine ⟨?_,Nat.le_trans h.nx hn,fun m hm=>by have:=h.nx;rw [ho m (by omega)];exact h.ob m hm⟩
 rcases h.is with q | ⟨n,q1,q2,q3,q4⟩
 ·exact .inl q
 ·exact .inr ⟨n,q1,by omega,q3,by rw [ho n q2];exact q4⟩
theorem APK.appX {c:Cx} {s:S} {K:KT} {dst:Option Nat} {T e:TypeId} {d ed:TyD} {a b:Operand} {H0:GH} {rows ys:List (List DV)} (hT:c.ty T=some d) (hd:d.k=.sl e) (he:c.ty e=some ed) (hsz:ed.sz ≠ 0)
  {x:LV} (ha:s.get a=x) (happ:AppX e ed.sz H0 x rows s.H) (hb:rowsOf (s.arg b)=some ys) (hbp:s.argP b) (hr:∀ r ∈ rows,r.length=ed.sz) (hy:∀ r ∈ ys,r.length=ed.sz)
  (hl:(rows.length+ys.length) * ed.bt<=140737488355328/\rows.length+ys.length<=140737488355328) (hv:∀ t,dst=some t->c.pub t ≠ .vec)
  (hk:∀ x' H',AppX e ed.sz H0 x' (rows ++ ys) H'->s.H.next<=H'.next->(∀ m,m < s.H.next->(∀ r,x ≠ .osl m r)->H'.obj m=s.H.obj m)->@AP K (({ s with H:=H' }:S).put dst x')):@APK c #[a,b] #[T,T] s dst K:=by
 obtain ⟨k,sz,z,bt⟩:=d
 simp only at hd;subst hd
 have hap:s.argP a:=by
  unfold S.argP;rw [ha]
  rcases happ.is with ⟨_,rfl⟩ | ⟨n,_,_,rfl,_⟩ <;> trivial
 have harg:s.arg a=x:=by
  unfold S.arg;rw [ha];exact happ.plain.un
 rcases id happ.is with ⟨rfl,e1⟩ | ⟨n,q1,q2,e1,e2⟩
 ·rw [e1] at harg
  have hvec:vecBi c.ty c.pub s dst .append [T,T] [a,b]=none:=by
   simp only [vecBi,hT,he,harg,if_true,Option.bind_some,if_neg hsz]
   cases dst with
   | none=>rfl
   | some t=>simp [hv t rfl]
  refine APK.ev ?_
  simp only [opX,hvec,Option.none_or,biSem,hT,he,harg,hb,if_true,Option.bind_some,if_neg hsz,RK_some]
  simp only [List.length_nil,Nat.zero_add] at hl
  refine ⟨⟨hap,hbp,hy,hl⟩,?_⟩
  refine hk (.osl s.H.next ([] ++ ys)) (s.H.add (.arr e ed.sz ys.length)) ⟨.inr ⟨s.H.next,happ.nx,by rw [GH.add_next];omega,rfl,by rw [GH.add_obj,if_pos rfl];simp⟩,by rw [GH.add_next];have:=happ.nx;omega,fun m hm=>?_⟩ (by rw [GH.add_next];omega) (fun m hm _=>by rw [GH.add_obj,if_neg (by omega)])
  have:=happ.nx
  rw [GH.add_obj,if_neg (by omega)];exact happ.ob m hm
 ·rw [e1] at harg
  have hvec:vecBi c.ty c.pub s dst .append [T,T] [a,b]=none:=by
   simp only [vecBi,hT,he,harg,if_true,Option.bind_some,if_neg hsz]
  refine APK.ev ?_
  simp only [opX,hvec,Option.none_or,biSem,hT,he,harg,e2,hb,if_true,Option.bind_some,if_neg hsz,and_self,RK_some]
  refine ⟨⟨hap,hbp,trivial,hr,hy,hl⟩,?_⟩
  refine hk (.osl n (rows ++ ys)) (s.H.set n (.arr e ed.sz (rows.length+ys.length))) ⟨.inr ⟨n,q1,q2,rfl,by rw [GH.set_obj,if_pos rfl];simp⟩,by rw [GH.set_next];exact happ.nx,fun m hm=>by rw [GH.set_obj,if_neg (by omega)];exact happ.ob m hm⟩ (by rw [GH.set_next];exact Nat.le_refl _) (fun m hm hne=>?_)
  rw [GH.set_obj,if_neg];intro e;subst e;exact hne rows e1
theorem allEs_append':∀ a b:List Exp,allEs (a ++ b)=allEs a ++ allEs b
 | [],b=>by simp [allEs]
 | x :: a,b=>by simp [allEs,allEs_append' a b]
theorem allE_len:∀ (e:Exp) (k:Exp),k ∈ e.kids->(allE k).length<=(allE e).length
 | .mk op name n fold calcs kids,k,hk=>by
  have:∀ l:List Exp,k ∈ l->(allE k).length<=(allEs l).length:=by
   intro l
   induction l with
   | nil=>intro h;cases h
   | cons x l ih =>
    intro h
    rw [allEs,List.length_append]
    rcases List.mem_cons.1 h with rfl | h
    ·omega
    ·have:=ih h;omega
  have:=this kids hk
  simp only [allE,List.length_cons];omega
theorem ref02_All1 (op n fold:Int) (name:Str) (calcs:List Calc) (kids:List Exp) (hn:(allE (.mk op name n fold calcs kids)).length<=1000000)
  (ih:∀ k ∈ kids,AFun prog 33 [lv (rExp k)] (sl ((allE k).map rExp))):AFun prog 33 [lv (rExp (.mk op name n fold calcs kids))] (sl ((allE (.mk op name n fold calcs kids)).map rExp)):=by
 have cc:=cxK_ok (p:=kds [1] [] [6])
 refine AFun.body (cxK_ok (p:=kds [1] [] [6])) func33 rfl call33 (by rw [ntmps33];simp) rfl fun hf H=>?_
 have hr1:List.range' 0 1=[0]:=rfl
 simp [ntmps33,results33,rExp_eq,hr1] at hf |-
 refine AW.loopS cc (fun a:Nat × LV × GH=>⟨[(1,.ip ((rExp (.mk op name n fold calcs kids)).map .d) 0),(3,a.2.1),(4,lvI a.1)],[],a.2.2⟩) (fun a=>kids.length - a.1) (fun a=>a.1<=kids.length/\App 68 6 H a.2.1 ((.mk op name n fold calcs kids :: allEs (kids.take a.1)).map rExp) a.2.2)
  (0,.osl H.next [rExp (.mk op name n fold calcs kids)],H.add (.arr 68 6 1)) ⟨⟨by simp,by simpa [allEs] using App.first (by simp)⟩,by simp [rExp_eq,LV.only]⟩ ?_
 rintro ⟨i,x,H'⟩ ⟨hi,happ⟩
 simp only at hi happ
 simp [rExp_eq]
 refine ⟨fun h=>?_,fun h=>?_⟩
 ·have ihk:=ih kids[i] (List.getElem_mem h)
  simp [rExp_eq] at ihk
  simp [h,List.getElem?_eq_getElem h,rExp_eq,happ.plain.all]
  refine EC.afun ihk ?_
  simp [happ.plain.all]
  have hall:allEs (kids.take (i+1))=allEs (kids.take i) ++ allE kids[i]:=by
   rw [<- take_more h,allEs_append'];simp [allEs]
  have hlen:(allEs (kids.take (i+1))).length<=(allEs kids).length:=by
   have:allEs kids=allEs (kids.take (i+1)) ++ allEs (kids.drop (i+1)):=by rw [<- allEs_append',List.take_append_drop]
   rw [this,List.length_append];omega
  rw [hall,List.length_append] at hlen
  simp only [allE,List.length_cons] at hn
  refine APK.appMap rExp (.mk op name n fold calcs kids :: allEs (kids.take i)) (allE kids[i]) tyE64 rfl tyE68 (by simp) rExp_len (x:=x) (by simp) happ (by simp [rowsOf]) (by simp) (by simp;omega) (by simp) fun x' H2 happ'=>?_
  rw [List.cons_append,<- hall] at happ'
  simp [happ'.plain.all,happ'.only,wrap_succ h hf.2.1]
  exact NX.go (i+1,x',H2) (by simp;omega) ⟨h,happ'⟩ (by simp [happ'.only,happ'.plain.all,rExp_eq])
 ·have e:i=kids.length:=by omega
  subst e
  rw [List.take_length] at happ
  have hz:=happ.fz
  simp [happ.plain.all,hz.1,allE]
  exact hz.2
theorem ref02_All:∀ (e:Exp),(allE e).length<=1000000->AFun prog 33 [lv (rExp e)] (sl ((allE e).map rExp))
 | .mk op name n fold calcs kids,h=>ref02_All1 op n fold name calcs kids h fun k hk=>ref02_All k (Nat.le_trans (allE_len (.mk op name n fold calcs kids) k hk) h)
theorem ref02_ahead (e:Exp) (hn:(allE e).length<=1000000):AFun prog 129 [lv (rExp e)] (.d (.k (.bool ((allE e).any looksAhead)))):=by
 have cc:=cxK_ok (p:=kds [1] [] [])
 refine AFun.body (cxK_ok (p:=kds [1] [] [])) func129 rfl call129 (by rw [ntmps129];simp) rfl fun hf H=>?_
 have ha:=ref02_All e hn
 simp [rExp_eq] at ha
 simp [ntmps129,results129,rExp_eq]
 refine EC.afun ha ?_
 simp
 generalize hl:allE e=l at hn
 refine AW.loopS cc (fun i:Nat=>⟨[(3,.d (.sl (l.map rExp))),(4,lvI i)],[],H⟩) (fun i=>l.length - i) (fun i=>i<=l.length/\∀ j (h:j < l.length),j < i->looksAhead l[j]=false) 0 (by simp) fun i hi=>?_
 simp
 refine ⟨fun h=>?_,fun h=>?_⟩
 ·simp [h,List.getElem?_eq_getElem h,rExp_eq]
  refine ⟨fun q=>⟨q,fun q2=>⟨q,q2⟩⟩,fun q=>⟨l[i],List.getElem_mem h,by simpa [looksAhead] using q⟩,fun q1 q2=>?_⟩
  refine NX.go (i+1) (by omega) ⟨h,fun j hj hji=>?_⟩ (by simp [wrap_succ (n:=1000000) (show i < 1000000 by omega)])
  by_cases z:j=i
  ·subst z;simp [looksAhead];exact ⟨q1,q2⟩
  ·exact hi.2 j hj (by omega)
 ·intro x hx
  obtain ⟨j,hj,rfl⟩:=List.mem_iff_getElem.1 hx
  exact hi.2 j hj (by omega)
end Go.Aft
end
section
set_option maxRecDepth 20000
namespace Go.Aft
open Go.Proofs.Tryz
def isRefB (e:Exp):Bool:=decide (e.op=2 \/ e.op=3)
def refsI (names:List Str) (l:List Exp):List Int:=(l.filter isRefB).map fun e=>idx names e.name
def rL (l:List Int):List DV:=[.sl (l.map rI)]
@[simp] theorem rL_len (l:List Int):(rL l).length=1:=rfl
theorem ref02_steps (p:Prog) (hl:p.defs.length<=6) (hn:∀ d ∈ p.defs,(allE d.exp).length<=1000):AFun prog 180 [lv (rProg p)] (sl ((p.defs.map fun d=>refsI (defNames p) (allE d.exp)).map rL)):=by
 have cc:=cxK_ok (p:=kds [1] [] [])
 refine AFun.body (cxK_ok (p:=kds [1] [] [])) func180 rfl call180 (by rw [ntmps180];simp) rfl fun hf H=>?_
 have hd:=ref02_DefNames p hl
 simp [rProg] at hd
 simp [ntmps180,results180,rProg] at hf |-
 refine EC.afun hd ?_
 simp
 refine AW.loopW cc (fun a:Nat × LV × GH=>⟨[(1,.ip ((rProg p).map .d) 0),(3,a.2.1),(4,.d (.sl ((defNames p).map rS))),(5,lvI a.1)],[],a.2.2⟩) (fun a=>p.defs.length - a.1)
  (fun a=>a.1<=p.defs.length/\AppX 94 1 H a.2.1 (((p.defs.take a.1).map fun d=>refsI (defNames p) (allE d.exp)).map rL) a.2.2) (0,.d (.k (.slice none 0 0)),H) ⟨⟨by simp,.nil⟩,by simp [rProg]⟩ ?_
 rintro ⟨i,x,H1⟩ ⟨hi,happ⟩
 simp only at hi happ
 refine AW.seq cc ?_
 simp [rProg]
 refine ⟨fun h=>?_,fun h=>?_⟩
 ·have hall:=ref02_All p.defs[i].exp (by have:=hn _ (List.getElem_mem h);omega)
  simp [rExp_eq] at hall
  refine AW.seqW (c:=cxK (kds [1] [] [])) ?_
  refine AW.block (c:=cxK (kds [1] [] [])) ?_
  refine AW.seq cc ?_
  simp
  refine AW.seq cc ?_
  simp [h,List.getElem?_eq_getElem h,rDef,rExp_eq]
  refine EC.afun hall ?_
  have hln:=hn _ (List.getElem_mem h)
  simp
  generalize hE:allE p.defs[i].exp=E at hln
  refine AW.seq cc ?_
  simp
  refine AW.loopS cc (fun a:Nat × LV × GH=>⟨[(1,.ip ((rProg p).map .d) 0),(3,x),(4,.d (.sl ((defNames p).map rS))),(5,lvI i),(6,a.2.1),(7,.d (.sl (E.map rExp))),(8,lvI a.1)],[],a.2.2⟩) (fun a=>E.length - a.1)
   (fun a=>a.1<=E.length/\AppX 3 1 H1 a.2.1 ((refsI (defNames p) (E.take a.1)).map rI) a.2.2) (0,.d (.k (.slice none 0 0)),H1) ⟨⟨by simp,by simpa [refsI] using AppX.nil⟩,by simp [rProg,happ.only]⟩ ?_
  rintro ⟨k,y,H2⟩ ⟨hk,hin⟩
  simp only at hk hin
  simp
  refine ⟨fun hkl=>?_,fun hkl=>?_⟩
  ·have htk:refsI (defNames p) (E.take (k+1))=refsI (defNames p) (E.take k) ++ (if isRefB E[k] then [idx (defNames p) E[k].name] else []):=by
    rw [<- take_more hkl,refsI,List.filter_append,List.map_append]
    simp only [refsI,List.filter_cons,List.filter_nil]
    split <;> rfl
   have hlr:(refsI (defNames p) (E.take (k+1))).length<=1000:=by
    have h1:(refsI (defNames p) (E.take (k+1))).length<=(E.take (k+1)).length:=by rw [refsI,List.length_map];exact List.length_filter_le _ _
    have h2:(E.take (k+1)).length<=E.length:=by simp;omega
    omega
   have hixx:=ref02_Index (defNames p) E[k].name
   simp at hixx
   simp [hkl,List.getElem?_eq_getElem hkl,rExp_eq,hin.plain.all]
   refine ⟨fun hr=>?_,fun hr1 hr2=>?_⟩
   ·simp only [isRefB,hr,decide_true,if_true] at htk
    refine EC.afun hixx ?_
    simp
    refine APK.appX tyE94 rfl tyE3 (by simp) (x:=y) (by simp) hin (by simp [rowsOf];rfl) (by simp) (by simp) (by simp) (by rw [htk] at hlr;simp at hlr |-;omega) (by simp) fun x' H3 h3 _ _=>?_
    simp [h3.plain.all,wrap_succ (n:=1000000) (show k < 1000000 by omega)]
    refine NX.go (k+1,x',H3) (by simp;omega) ⟨hkl,by rw [htk,List.map_append];exact h3⟩ (by simp [rProg,happ.only,h3.only])
   ·simp only [isRefB,not_or.2 ⟨hr1,hr2⟩,decide_false,Bool.false_eq_true,if_false,List.append_nil] at htk
    simp [wrap_succ (n:=1000000) (show k < 1000000 by omega)]
    refine NX.go (k+1,y,H2) (by simp;omega) ⟨hkl,by rw [htk];exact hin⟩ (by simp [rProg,happ.only,hin.only])
  ·have e:k=E.length:=by omega
   subst e
   rw [List.take_length] at hin
   refine AW.fzT 6 (AW.ev cc ?_)
   simp [happ.plain.all,hin.fz]
   refine APK.appX tyE44 rfl tyE94 (by simp) (x:=x) (by simp) (happ.mono hin.nx hin.ob) (by simp [rowsOf];rfl) (by simp) (fun r hr=>by obtain ⟨_,_,rfl⟩:=List.mem_map.1 hr;rfl) (by simp) (by simp;omega) (by simp) fun x' H3 h3 _ _=>?_
   simp [h3.plain.all,wrap_succ (n:=1000000) (show i < 1000000 by omega)]
   refine AW.ev cc ?_
   simp [h3.plain.all,wrap_succ (n:=1000000) (show i < 1000000 by omega)]
   refine NX.go (i+1,x',H3) (by simp;omega) ⟨h,?_⟩ (by simp [rProg,h3.only])
   rw [<- take_more h,List.map_append,List.map_append]
   simpa [hE,rL] using h3
 ·have e:i=p.defs.length:=by omega
  subst e
  rw [List.take_length,List.map_map] at happ
  simp [happ.plain.all,happ.fz]
  exact ⟨happ.nx,happ.ob⟩
end Go.Aft
end
section
set_option maxRecDepth 20000
namespace Go.Aft
open Go.Proofs.Tryz
theorem ECall.fzA {P:Program} {f:FuncId} {args:List LV} {H:GH} {R:CE->GH->Prop} (h:ECall P f (fzs args) H R):ECall P f args H R:=⟨h.1,fun G w vs h1 h2 h3=>h.2 G w vs h1 h2 (LRs_fz _ _ h3)⟩
theorem AFun.fzA {P:Program} {f:FuncId} {args:List LV} {v:LV} (h:AFun P f (fzs args) v):AFun P f args v:=fun H=>(h H).fzA
theorem AppX.nb {e:TypeId} {sz:Nat} {H0 H:GH} {x:LV} {rows:List (List DV)} (h:AppX e sz H0 x rows H):x.nb H.next:=by
 rcases h.is with ⟨rfl,rfl⟩ | ⟨n,_,h2,rfl,_⟩
 ·simp [LV.nb]
 ·exact h2
open Classical in
theorem ref02_count (p:Prog) (hstr:∀ s ∈ p.srcs ++ defNames p,strFit s):AFun prog 127 [lv (rProg p)] (lvI (cntV (countM p) 60)):=by
 have cc:=cxK_ok (p:=kds [1] [] [])
 refine AFun.bodyW (cxK_ok (p:=kds [1] [] [])) func127 rfl call127 (by rw [ntmps127];simp) rfl fun hf H=>?_
 simp [ntmps127,results127,rProg] at hf |-
 refine AW.seq cc ?_
 simp
 refine AW.seq cc ?_
 simp
 refine ⟨fun q=>?_,fun q1 q2 q3=>?_⟩
 ·have:countM p=none:=by unfold countM;rw [if_neg];rintro ⟨_,_,_,_⟩;omega
  rw [this];rfl
 have hdn:=ref02_DefNames p (by omega)
 simp [rProg] at hdn
 have hdf:=ref02_different (p.srcs ++ defNames p) hstr
 have hln:(defNames p).length=p.defs.length:=by simp [defNames]
 refine AW.seq cc ?_
 refine AW.draw cc [(3,.n)] (.q 0<|.q 1<|.q 2<|.q 3<|.q 4<|.f<|.one 5<|.f<|.one 6<|.done) (by kernel_rfl) ?_
 simp
 refine FC.afun hdn ?_
 simp
 have hno:¬ diffM (p.srcs ++ defNames p)->countM p=none:=fun q=>by unfold countM;rw [if_neg];rintro ⟨_,_,_,q2⟩;exact q q2
 refine AW.join (c:=cxK (kds [1] [] [])) (fun H1:GH=>⟨[(1,.ip ((rProg p).map .d) 0),(3,.lp 3 0)],[(3,[.d (.sl (p.srcs.map rS)),.d (.sl ((defNames p).map rS)),lvI 0])],H1⟩)
  (fun H1=>diffM (p.srcs ++ defNames p)/\H.next<=H1.next/\∀ m,m < H.next->H1.obj m=H.obj m) (AW.ev cc ?_) fun H1 h1=>?_
 ·simp
  refine AW.draw cc [(6,.n)] (.q 0<|.q 3<|.f (.cons 1 (.f (.cons 2 (.q 4<|.f<|.one 5<|.q 6<|.q 7<|.done) (.cons 4 (.f<|.one 2<|.f<|.one 5<|.q 6<|.q 7<|.done) (.nil)))) (.cons 4 (.f<|.one 1<|.f<|.one 2<|.f<|.one 5<|.q 6<|.q 7<|.done) (.nil)))) (by kernel_rfl) ?_
  simp
  refine ⟨⟨?_,?_⟩,?_⟩
  all_goals
   refine APK.appX tyE39 rfl tyE9 (by simp) (by simp) (.nil) (by simp [rowsOf];rfl) (by simp) (by simp) (fun r hr=>by obtain ⟨_,_,rfl⟩:=List.mem_map.1 hr;rfl) (by simp;omega) (by simp) fun x' H3 h3 _ _=>?_
   simp [h3.plain.all]
   refine APK.appX tyE39 rfl tyE9 (by simp) (by simp) h3 (by simp [rowsOf];rfl) (by simp) (by simp) (fun r hr=>by obtain ⟨_,_,rfl⟩:=List.mem_map.1 hr;rfl) (by simp;omega) (by simp) fun x2 H4 h4 _ _=>?_
   simp [h4.plain.all]
   refine ⟨h4.nb,FC.afun (AFun.fzA (v:=.d (.k (.bool (decide (diffM (p.srcs ++ defNames p)))))) (by simp only [fzs,h4.fz,List.nil_append,<- List.map_append];exact hdf)) ?_⟩
   simp
   exact ⟨fun q=>⟨by rw [hno q];rfl,h4.nx,h4.ob⟩,fun q=>JN.go H4 ⟨q,h4.nx,h4.ob⟩ (by simp [rProg])⟩
 ·obtain ⟨hdiff,hnx,hob⟩:=h1
  have hsp:countM p=lDefs p.srcs (defNames p) p.defs 0 60:=by
   unfold countM;rw [if_pos];exact ⟨by omega,by omega,by omega,hdiff⟩
  rw [hsp]
  clear hno hdf hsp
  refine AW.ev cc ?_
  simp
  refine AW.loopS cc (fun a:Nat × Int=>⟨[(1,.ip ((rProg p).map .d) 0),(3,.lp 3 0),(4,lvI (60 - a.2)),(5,lvI a.1)],[(3,[.d (.sl (p.srcs.map rS)),.d (.sl ((defNames p).map rS)),lvI (a.1 - 1:Nat)])],H1⟩) (fun a=>p.defs.length - a.1)
   (fun a=>a.1<=p.defs.length/\0<=a.2/\a.2<=60/\lDefs p.srcs (defNames p) p.defs 0 60=lDefs p.srcs (defNames p) (p.defs.drop a.1) a.1 a.2) (0,60) ⟨⟨by simp,by simp,by simp,by simp⟩,by simp [rProg]⟩ ?_
  rintro ⟨i,left⟩ ⟨hi,hl0,hl1,hI⟩
  simp only at hi hl0 hl1 hI
  simp [rProg]
  refine ⟨fun h=>?_,fun h=>?_⟩
  ·have hd:=List.drop_eq_getElem_cons h
   rw [hd,lDefs] at hI
   have w2:IntKind.wrap .i64 (60 - (60 - left))=left:=by rw [wrap64] <;> omega
   refine AW.draw cc [(9,.n)] (.q 1<|.q 3<|.q 7<|.q 8<|.q 0<|.q 2<|.q 4<|.q 5<|.q 6<|.q 9<|.q 10<|.done) (by kernel_rfl) ?_
   simp [h,List.getElem?_eq_getElem h,rDef,rExp_eq,w2]
   have hx:=ref02_exp p.srcs (defNames p) i (by omega) p.defs[i].exp 1 left (by omega) (by omega)
   simp [lvNames,rExp_eq] at hx
   refine FC.afun hx ?_
   cases hl:lExp p.srcs (defNames p) i p.defs[i].exp 1 left with
   | none =>
    rw [hl] at hI
    simp [cntV]
    rw [hI]
    exact ⟨rfl,hnx,hob⟩
   | some l =>
    rw [hl] at hI
    have hle:=lExp_le _ _ _ _ hl
    have w3:IntKind.wrap .i64 (60 - left+(left - l))=60 - l:=by rw [wrap64] <;> omega
    simp [cntV,w3,wrap_succ (n:=1000000) (show i < 1000000 by omega)]
    refine ⟨fun q=>by omega,fun q=>NX.go (i+1,l) (by simp;omega) ⟨h,hle.1,by simp only;omega,by simpa using hI⟩ (by simp [rProg])⟩
  ·have:p.defs.drop i=[]:=List.drop_eq_nil_of_le (by omega)
   rw [this,lDefs] at hI
   rw [hI];simp [cntV]
   exact ⟨hnx,hob⟩
end Go.Aft
end
