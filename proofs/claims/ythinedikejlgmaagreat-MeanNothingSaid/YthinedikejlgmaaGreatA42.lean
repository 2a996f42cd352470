import Derived.Test.YthinedikejlgmaaGreatA41
import Derived.Test.YthinedikejlgmaaGreatA24
import Derived.Test.YthinedikejlgmaaGreatA40
set_option linter.all false
section
set_option maxRecDepth 20000
namespace Go.Aft
abbrev expOf (p:Prog) (d:Nat):Exp:=(p.defs.getD d default).exp
abbrev bagAt (l:List Bag) (d:Nat):Bag:=l.getD d []
theorem expM_self {p:Prog} {W:World'} {T:Int} {e:Exp} (he:∀ x ∈ allE e,1<=x.op/\BackOk x.op x.n) {b:Bag} (h:expM p W T e=some b):cutI T b=b/\KidOk b:=by
 obtain ⟨q1,q2⟩:=expM_cut (W':=W) (Int.le_refl T) e (fun x hx=>⟨(he x hx).1,(he x hx).2,⟨fun _=>rfl,fun _=>rfl,fun _=>rfl⟩⟩) b h
 rw [h] at q1
 exact ⟨(Option.some.inj q1).symm,q2⟩
structure GrpOk (p:Prog) (g:List Nat) (far:Int):Prop where
 inc:g.Pairwise (· < ·)
 back:∀ d ∈ g,∀ x ∈ allE (expOf p d),1<=x.op/\BackOk x.op x.n
 ref:∀ d ∈ g,∀ x ∈ allE (expOf p d),x.op=2->(idx (defNames p) x.name).toNat ∈ g->(idx (defNames p) x.name).toNat < d
 prev:∀ d ∈ g,∀ x ∈ allE (expOf p d),x.op=3->(idx (defNames p) x.name).toNat ∈ g->far<=x.n
 pos:1<=far
theorem GrpOk.one {p:Prog} {g:List Nat} {far:Int} (h:GrpOk p g far):GrpOk p g 1:=⟨h.inc,h.back,h.ref,fun d hd x hx h3 hi=>by have:=h.prev d hd x hx h3 hi;have:=h.pos;omega,Int.le_refl _⟩
theorem GrpOk.nodup {p:Prog} {g:List Nat} {far:Int} (h:GrpOk p g far):g.Nodup:=h.inc.imp fun q=>Nat.ne_of_lt q
def Sol (p:Prog) (srcs:List Bag) (g:List Nat) (T:Int) (u:List Bag):Prop:=∀ d ∈ g,expM p ⟨srcs,u⟩ T (expOf p d)=some (bagAt u d)
def Out (g:List Nat) (u v:List Bag):Prop:=u.length=v.length/\∀ k,k ∉ g->bagAt u k=bagAt v k
theorem Out.symm {g:List Nat} {u v:List Bag} (h:Out g u v):Out g v u:=⟨h.1.symm,fun k hk=>(h.2 k hk).symm⟩
theorem Out.trans {g:List Nat} {u v w:List Bag} (h:Out g u v) (k:Out g v w):Out g u w:=⟨h.1.trans k.1,fun i hi=>(h.2 i hi).trans (k.2 i hi)⟩
section
variable {p:Prog} {srcs:List Bag} {g:List Nat} {far:Int} (hg:GrpOk p g far)
include hg
theorem Sol.self {T:Int} {u:List Bag} (h:Sol p srcs g T u) {d:Nat} (hd:d ∈ g):cutI T (bagAt u d)=bagAt u d/\KidOk (bagAt u d):=expM_self (hg.back d hd) (h d hd)
omit hg in
theorem summedM_neg (l:List Item):summedM l (-1)=[]:=by
 have:l.filter (fun x=>decide (0<=x.rec_.at_/\x.rec_.at_ <= -1))=[]:=List.filter_eq_nil_iff.2 fun x _=>by simp;omega
 rw [summedM,this];rfl
omit hg in
mutual
theorem expM_neg (W:World'):∀ e:Exp,expM p W (-1) e=some []
 | .mk op name n f cs kids=>by
  obtain ⟨ks,h⟩:=expsM_neg W kids
  rw [expM,h]
  simp only [summedM_neg]
  rfl
theorem expsM_neg (W:World'):∀ es:List Exp,∃ ks,expsM p W (-1) es=some ks
 | []=>⟨[],by rw [expsM]⟩
 | e :: es=>by
  obtain ⟨ks,h⟩:=expsM_neg W es
  exact ⟨[] :: ks,by rw [expsM,expM_neg W e,h]⟩
end
end
end Go.Aft
end
section
set_option maxRecDepth 20000
namespace Go.Aft
mutual
theorem vok_of {other:Bool}:∀ (c:Calc) (depth left l:Int),lCalc other c depth left=some l->VOk c
 | .mk op n kids,depth,left,l,h=>by
  rw [lCalc] at h
  split at h
  ·rename_i hc
   obtain ⟨_,_,hk⟩:=hc
   unfold calcOk at hk
   split at hk
   ·have:=of_decide_eq_true hk
    exact .leaf op n kids (by omega) (by omega)
   ·split at hk
    ·have:=of_decide_eq_true hk
     exact .leaf op n kids (by omega) (by omega)
    ·split at hk
     ·have:=of_decide_eq_true hk
      exact .leaf op n kids (by omega) (by omega)
     ·have:=of_decide_eq_true hk
      have hv:=voks_of kids _ _ _ h
      match kids,this.2.2.2,hv with
      | [a,b],_,hv=>exact .node op n a b this.1 (hv a (by simp)) (hv b (by simp))
  ·cases h
theorem voks_of {other:Bool}:∀ (cs:List Calc) (depth left l:Int),lCalcs other cs depth left=some l->∀ c ∈ cs,VOk c
 | [],_,_,_,_,c,hc=>absurd hc List.not_mem_nil
 | k :: ks,depth,left,l,h,c,hc=>by
  rw [lCalcs] at h
  split at h
  ·rename_i l' hl
   rcases List.mem_cons.1 hc with q | q
   ·rw [q];exact vok_of k _ _ _ hl
   ·exact voks_of ks _ _ _ h c q
  ·cases h
end
structure NodeF (p:Prog) (a:Int) (x:Exp):Prop where
 ok:expOk x.op x.name x.n x.fold x.calcs.length x.kids.length=true
 nm:nameOk p.srcs (defNames p) a x.op x.name=true
 cs:∀ c ∈ x.calcs,VOk c
mutual
theorem lExp_nodes {p:Prog} {a:Int}:∀ (e:Exp) (d l l':Int),lExp p.srcs (defNames p) a e d l=some l'->∀ x ∈ allE e,NodeF p a x
 | .mk op name n fold calcs kids,d,l,l',h,x,hx=>by
  rw [lExp] at h
  split at h
  ·rename_i hc
   split at h
   ·rename_i l1 hl1
    rw [allE] at hx
    rcases List.mem_cons.1 hx with q | hx
    ·rw [q];exact ⟨hc.2.2.1,hc.2.2.2,voks_of _ _ _ _ hl1⟩
    ·exact lExps_nodes kids _ _ _ h x hx
   ·cases h
  ·cases h
theorem lExps_nodes {p:Prog} {a:Int}:∀ (es:List Exp) (d l l':Int),lExps p.srcs (defNames p) a es d l=some l'->∀ x ∈ allEs es,NodeF p a x
 | [],d,l,l',h,x,hx=>by rw [allEs] at hx;cases hx
 | e :: es,d,l,l',h,x,hx=>by
  rw [lExps] at h
  split at h
  ·rename_i l1 hl1
   rw [allEs] at hx
   rcases List.mem_append.1 hx with hx | hx
   ·exact lExp_nodes e _ _ _ hl1 x hx
   ·exact lExps_nodes es _ _ _ h x hx
  ·cases h
end
theorem formed_nodes {p:Prog} (hp:formed p) {i:Nat} (h:i < p.defs.length):∀ x ∈ allE p.defs[i].exp,NodeF p i x:=by
 obtain ⟨⟨l,hl⟩,_⟩:=hp
 unfold countM at hl
 split at hl
 ·obtain ⟨l1,l2,q,_⟩:=lDefs_at _ _ _ _ hl (by omega) i h
  rw [Int.zero_add] at q
  exact lExp_nodes _ _ _ _ q
 ·cases hl
structure FormedB (p:Prog):Prop where
 s1:1<=p.srcs.length
 s4:p.srcs.length<=4
 d6:p.defs.length<=6
 dif:diffM (p.srcs ++ defNames p)
theorem formed_b {p:Prog} (hp:formed p):FormedB p:=by
 obtain ⟨⟨l,hl⟩,_⟩:=hp
 unfold countM at hl
 split at hl
 ·rename_i h
  exact ⟨h.1,h.2.1,h.2.2.1,h.2.2.2⟩
 ·cases hl
theorem NodeF.node {p:Prog} {a:Int} {x:Exp} (h:NodeF p a x):NodeOk p x:=by
 have hn:=h.nm
 unfold nameOk at hn
 refine ⟨h.ok,fun q=>?_,fun q=>?_,h.cs⟩
 ·rw [if_pos q] at hn
  exact of_decide_eq_true hn
 ·rcases q with q | q
  ·rw [if_neg (by omega),if_pos q] at hn
   exact (of_decide_eq_true hn).1
  ·rw [if_neg (by omega),if_neg (by omega),if_pos q] at hn
   exact of_decide_eq_true hn
theorem NodeF.lt {p:Prog} {a:Int} {x:Exp} (h:NodeF p a x) (q:x.op=2):idx (defNames p) x.name < a:=by
 have hn:=h.nm
 unfold nameOk at hn
 rw [if_neg (by omega),if_pos q] at hn
 exact (of_decide_eq_true hn).2
theorem NodeF.bnd {p:Prog} {a:Int} {x:Exp} (h:NodeF p a x):1<=x.op/\x.op<=15/\(x.op=3->1<=x.n/\x.n<=50)/\(x.op=8->1<=x.n)/\(x.op=11->1<=x.n)/\(x.op=9->0<=x.n)/\(x.op=12->0<=x.n)/\(x.op=14->0<=x.n):=by
 obtain ⟨s,q1,q2,q3,q4,q5⟩:=shp_of h.ok
 unfold shpOf at q1
 by_cases e0:x.op=1 \/ x.op=2
 ·rw [if_pos e0] at q1;obtain rfl:=Option.some.inj q1;dsimp only at q4 q5;omega
 rw [if_neg e0] at q1
 by_cases e1:x.op=3
 ·rw [if_pos e1] at q1;obtain rfl:=Option.some.inj q1;dsimp only at q4 q5;omega
 rw [if_neg e1] at q1
 by_cases e2:x.op=4
 ·rw [if_pos e2] at q1;obtain rfl:=Option.some.inj q1;dsimp only at q4 q5;omega
 rw [if_neg e2] at q1
 by_cases e3:x.op=5
 ·rw [if_pos e3] at q1;obtain rfl:=Option.some.inj q1;dsimp only at q4 q5;omega
 rw [if_neg e3] at q1
 by_cases e4:x.op=6
 ·rw [if_pos e4] at q1;obtain rfl:=Option.some.inj q1;dsimp only at q4 q5;omega
 rw [if_neg e4] at q1
 by_cases e5:x.op=7
 ·rw [if_pos e5] at q1;obtain rfl:=Option.some.inj q1;dsimp only at q4 q5;omega
 rw [if_neg e5] at q1
 by_cases e6:x.op=8 \/ x.op=11
 ·rw [if_pos e6] at q1;obtain rfl:=Option.some.inj q1;dsimp only at q4 q5;omega
 rw [if_neg e6] at q1
 by_cases e7:x.op=9
 ·rw [if_pos e7] at q1;obtain rfl:=Option.some.inj q1;dsimp only at q4 q5;omega
 rw [if_neg e7] at q1
 by_cases e8:x.op=10
 ·rw [if_pos e8] at q1;obtain rfl:=Option.some.inj q1;dsimp only at q4 q5;omega
 rw [if_neg e8] at q1
 by_cases e9:x.op=12
 ·rw [if_pos e9] at q1;obtain rfl:=Option.some.inj q1;dsimp only at q4 q5;omega
 rw [if_neg e9] at q1
 by_cases e10:x.op=13
 ·rw [if_pos e10] at q1;obtain rfl:=Option.some.inj q1;dsimp only at q4 q5;omega
 rw [if_neg e10] at q1
 by_cases e11:x.op=14
 ·rw [if_pos e11] at q1;obtain rfl:=Option.some.inj q1;dsimp only at q4 q5;omega
 rw [if_neg e11] at q1
 by_cases e12:x.op=15
 ·rw [if_pos e12] at q1;obtain rfl:=Option.some.inj q1;dsimp only at q4 q5;omega
 rw [if_neg e12] at q1
 cases q1
theorem formed_exp {p:Prog} (hp:formed p):∀ (d:Nat) (h:d < p.defs.length),ExpOk p p.defs[d].exp:=fun d h x hx=>(formed_nodes hp h x hx).node
theorem formed_strFit {p:Prog} (hp:formed p):∀ s ∈ p.srcs ++ defNames p,strFit s:=fun s hs=>by
 obtain ⟨i,hi,rfl⟩:=List.mem_iff_getElem.1 hs
 have:=((formed_b hp).dif i hi).1
 unfold nameM at this
 simp only [Bool.and_eq_true,decide_eq_true_eq] at this
 unfold strFit
 omega
theorem formed_Good {p:Prog} (hp:formed p):Good p:=by
 obtain ⟨⟨l,hl⟩,_⟩:=hp
 exact Good.of hl
end Go.Aft
end
section
set_option maxRecDepth 20000
namespace Go.Aft
open Go.RowKit
open Go.Proofs.Tryz
section
variable {H:Type} {enc:TypeId × Value->H} {w:World}
theorem RdFs.conv {P:Program} {α β:Type} {n off fuel:Nat} {fs:List Field} {r:α->List DV} {fit:α->Prop} {r':β->List DV} {fit':β->Prop} (h:RdFs enc P w n fs off r fit fuel) (g:α->β) (hr:∀ x,r' (g x)=r x) (hf:∀ x,fit x->fit' (g x)):RdFs enc P w n fs off r' fit' fuel :=
 fun cs xs h1 h2=>by
  obtain ⟨x,q1,q2⟩:=h cs xs h1 h2
  exact ⟨g x,by rw [hr];exact q1,fun q=>hf x (q2 q)⟩
theorem rd_rec (fuel:Nat):Rd enc prog w 27 rRec (fun _=>True) fuel :=
 Rd.struct underlying27 fuel fun f hf=>((RdFs.cons (n:=3) rfl (Rd.int underlying3 f)<|RdFs.cons rfl (Rd.int underlying3 f)<|RdFs.cons rfl (Rd.int underlying3 f)<|RdFs.nil)).conv (fun x=>⟨x.1,x.2.1,x.2.2.1⟩) (fun _=>rfl) (fun _ _=>trivial)
theorem rd_calc:∀ fuel,Rd enc prog w 25 rCalc (fun _=>True) fuel:=fun fuel=>by
 induction fuel using Nat.strongRecOn with
 | _ fuel ih =>
  refine Rd.struct underlying25 fuel fun f hf=>?_
  refine (RdFs.cons (n:=3) rfl (Rd.int underlying22 f)<|RdFs.cons rfl (Rd.int underlying3 f)<|RdFs.cons rfl (Rd.slice (r:=rCalc) (fit:=fun _=>True) underlying23 (by decide +kernel) (fun x=>?_) f fun g hg=>ih g (by omega))<|RdFs.nil).conv (fun x=>.mk x.1 x.2.1 x.2.2.1) (fun x=>?_) (fun _ _=>trivial)
  ·rw [rCalc_len];decide +kernel
  ·rw [rCalc,rCalcs_map];rfl
theorem rd_exp:∀ fuel,Rd enc prog w 68 rExp (fun _=>True) fuel:=fun fuel=>by
 induction fuel using Nat.strongRecOn with
 | _ fuel ih =>
  refine Rd.struct underlying68 fuel fun f hf=>?_
  refine (RdFs.cons (n:=6) rfl (Rd.int underlying66 f)<|RdFs.cons rfl (Rd.str underlying9 f)<|RdFs.cons rfl (Rd.int underlying3 f)<|RdFs.cons rfl (Rd.int underlying28 f)<|RdFs.cons rfl (Rd.slice (r:=rCalc) (fit:=fun _=>True) underlying23 (by decide +kernel) (fun x=>?_) f fun g hg=>rd_calc g)<|RdFs.cons rfl (Rd.slice (r:=rExp) (fit:=fun _=>True) underlying64 (by decide +kernel) (fun x=>?_) f fun g hg=>ih g (by omega))<|RdFs.nil).conv (fun x=>.mk x.1 x.2.1 x.2.2.1 x.2.2.2.1 x.2.2.2.2.1 x.2.2.2.2.2.1) (fun x=>?_) (fun _ _=>trivial)
  ·rw [rCalc_len];decide +kernel
  ·rw [rExp_len];decide +kernel
  ·rw [rExp,rCalcs_map,rExps_map];rfl
theorem rd_def (fuel:Nat):Rd enc prog w 70 rDef (fun d=>strFit d.name) fuel :=
 Rd.struct underlying70 fuel fun f hf=>(RdFs.cons (n:=7) rfl (Rd.str underlying9 f)<|RdFs.cons rfl (rd_exp f)<|RdFs.nil).conv (fun x=>⟨x.1,x.2.1⟩) (fun x=>by simp [rDef]) (fun x h=>h.1)
theorem rd_prog (fuel:Nat):Rd enc prog w 42 rProg fitP fuel :=
 Rd.struct underlying42 fuel fun f hf=>(RdFs.cons (n:=2) rfl (Rd.slice (r:=rS) (fit:=strFit) underlying39 (by decide +kernel) (fun x=>by rw [rS,show prog.cellsOf 9=1 by decide +kernel];rfl) f fun g hg=>Rd.str underlying9 g)<|RdFs.cons rfl (Rd.slice (r:=rDef) (fit:=fun d=>strFit d.name) underlying40 (by decide +kernel) (fun x=>by rw [rDef_len];decide +kernel) f fun g hg=>rd_def g)<|RdFs.nil).conv (fun x=>⟨x.1,x.2.1⟩) (fun x=>rfl) (fun x h s hs=>by
  rcases List.mem_append.1 hs with q | q
  ·exact h.1 s q
  ·obtain ⟨d,hd,rfl⟩:=List.mem_map.1 q
   exact h.2.1 d hd)
end
end Go.Aft
end
section
set_option maxRecDepth 20000
namespace Go.Aft
open Go.Proofs.Tryz
end Go.Aft
end
section
set_option maxRecDepth 20000
namespace Go.Aft
open Go.Proofs.Tryz
end Go.Aft
end
section
set_option maxRecDepth 20000
namespace Go.Aft
open Go.Proofs.Tryz
theorem ref05_before (a b:Event):AFun prog 90 [lv (rEvent a),lv (rEvent b)] (.d (.k (.bool (decide (evLt a b))))):=by
 refine AFun.body (cxK_ok (p:=kds [2,3] [] [])) func90 rfl call90 (by rw [ntmps90];simp) rfl fun _ H=>?_
 simp [ntmps90,results90,rEvent,rRec]
 refine ⟨fun q=>?_,fun q=>⟨fun q2=>?_,fun q2=>?_⟩⟩
 all_goals (unfold evLt;omega)
end Go.Aft
end
section
set_option maxRecDepth 20000
namespace Go.Aft
open Go.Proofs.Tryz
theorem AW.fzVec {P:Program} {rd:RD} {x:Code} {s:S} {Q:QT} (n:Nat) {e:TypeId} {g sz:Nat} {cells:List LV} {ex:Bool} (hn:s.H.obj n=some (.vec e g sz cells ex)) (h:@AW P rd ⟨x⟩ { s with H:=s.H.set n (.vec e g sz (fzs cells) ex) } Q):@AW P rd ⟨x⟩ s Q:=by
 refine fun E a w hs=>h E a w ?_
 obtain ⟨h2,G,lm,h1,hM,hx,henv,he⟩:=hs
 refine ⟨h2,G,lm,h1,⟨hM.imm,fun b o v hv=>?_,hM.fresh,hM.lmL,hM.loc,fun m o ho=>?_⟩,⟨⟨hx.le,hx.nx,hx.os,hx.tape,hx.output,hx.drawn,hx.size,hx.frame,hx.own⟩,hx.nl⟩,henv,he⟩
 ·rcases hM.immOwn b o v hv with q | ⟨m,e',sz',k,q1,q2,q3⟩
  ·exact .inl q
  ·refine .inr ⟨m,e',sz',k,q1,?_,q3⟩
   rw [GH.set_obj,if_neg]
   ·exact q2
   ·intro q;subst q;rw [hn] at q2;cases q2
 ·rw [GH.set_obj] at ho
  split at ho
  ·rename_i e0
   subst e0
   cases ho
   obtain ⟨r1,r2,r3,b,C,vs,rest,r4,r5,r6,r7,r8,r9,r10,r11,r12⟩:=hM.nmd _ _ hn
   exact ⟨r1,r2,r3,b,C,vs,rest,r4,r5,r6,r7,r8,LRs_fz _ _ r9,r10,r11,by rw [fzs_map,List.length_map];exact r12⟩
  ·exact hM.nmd m o ho
theorem mfind_mputS (s t:Str) (v:LV):∀ es:List (Value × LV),(∀ (a:Value) (b:LV),(a,b) ∈ es->(KK.sc Sc.str).has a=true)->mfind (.string s) (mput (.string t) v es)=if s=t then some v else mfind (.string s) es
 | [],_=>by simp only [mput,mfind,kEq_str];by_cases h:s=t <;> simp [h]
 | (a,b) :: es,hk=>by
  have ih:=mfind_mputS s t v es fun a b hab=>hk a b (by simp [hab])
  have ha:=hk a b (by simp)
  cases a with
  | string u =>
   simp only [mput,kEq_str]
   by_cases h1:t=u
   ·simp only [h1,decide_true,if_true,mfind,kEq_str]
    by_cases h2:s=u <;> simp [h2]
   ·simp only [h1,decide_false,Bool.false_eq_true,if_false,mfind,kEq_str,ih]
    by_cases h2:s=u
    ·have:¬ u=t:=fun e=>h1 e.symm
     simp [h2,this]
    ·simp [h2]
  | _=>simp [KK.has,Sc.has] at ha
theorem mput_keyS (t:Str) (v:LV):∀ es:List (Value × LV),(∀ (a:Value) (b:LV),(a,b) ∈ es->(KK.sc Sc.str).has a=true)->∀ (a:Value) (b:LV),(a,b) ∈ mput (.string t) v es->(KK.sc Sc.str).has a=true
 | [],_,a,b,hab=>by
  simp only [mput,List.mem_singleton,Prod.mk.injEq] at hab
  rw [hab.1];rfl
 | (c,d) :: es,h,a,b,hab=>by
  simp only [mput] at hab
  split at hab
  ·rcases List.mem_cons.1 hab with q | q
   ·cases q;rfl
   ·exact h a b (List.mem_cons_of_mem _ q)
  ·rcases List.mem_cons.1 hab with q | q
   ·rw [show a=c from (Prod.mk.inj q).1];exact h c d (List.mem_cons_self ..)
   ·exact mput_keyS t v es (fun a b hab=>h a b (List.mem_cons_of_mem _ hab)) a b q
structure MapI (es:List (Value × LV)) (names:List Str) (f:Nat->LV) (i:Nat):Prop where
 key:∀ (a:Value) (b:LV),(a,b) ∈ es->(KK.sc Sc.str).has a=true
 get:∀ j (h:j < names.length),j < i->mfind (.string names[j]) es=some (f j)
theorem MapI.nil (names:List Str) (f:Nat->LV):MapI [] names f 0:=⟨fun _ _ h=>absurd h List.not_mem_nil,fun j _ h=>absurd h (by omega)⟩
theorem MapI.put {es:List (Value × LV)} {names:List Str} {f:Nat->LV} {i:Nat} (h:MapI es names f i) (hi:i < names.length) (hd:∀ j (hj:j < names.length),j < i->names[j] ≠ names[i]):MapI (mput (.string names[i]) (f i) es) names f (i+1):=by
 refine ⟨mput_keyS _ _ _ h.key,fun j hj hji=>?_⟩
 rw [mfind_mputS _ _ _ _ h.key]
 by_cases e:j=i
 ·subst e;rw [if_pos rfl]
 ·rw [if_neg (hd j hj (by omega))];exact h.get j hj (by omega)
theorem MapI.all {es:List (Value × LV)} {names:List Str} {f:Nat->LV} (h:MapI es names f names.length):MapS es names f:=by
 refine ⟨h.key,fun name hn=>?_⟩
 have hlt:=idx_lt names name
 obtain ⟨i,hi⟩:∃ i:Nat,idx names name=(i:Int):=⟨(idx names name).toNat,by omega⟩
 rw [hi] at hlt |-
 have hil:i < names.length:=by omega
 have hname:names[i]=name:=by
  have h2:=hi
  unfold idx at h2
  split at h2
  ·rename_i j hj
   obtain ⟨h1,h3,_⟩:=List.findIdx?_eq_some_iff_getElem.1 hj
   have:j=i:=by omega
   subst this
   simpa using h3
  ·omega
 have:=h.get i hil hil
 rw [hname] at this
 simpa using this
end Go.Aft
end
section
set_option maxRecDepth 20000
namespace Go.Aft
open Go.Proofs.Tryz
theorem und186:prog.underlying 186=some (.array 2 3):=by kernel_rfl
theorem run_sizeOf3 (w:World):(sizeOf 3).run prog w=.ok 1 w:=by
 have h:(prog.info? 3).map (·.size)=some 1:=by kernel_rfl
 obtain ⟨i,h1,h2⟩:=Option.map_eq_some_iff.1 h
 simp [sizeOf,typeInfo,h1,h2]
theorem isAgg3 (w:World):(isAgg 3).run prog w=.ok false w:=by simp [isAgg,run_underlying underlying3]
theorem pair_has {xs:List Value} (h:hasAll [.int .i64,.int .i64] xs=true):∃ a b,xs=[.int .i64 a,.int .i64 b]:=by
 obtain ⟨a,us,e1,h1⟩:=hasAll_int h
 obtain ⟨b,vs,e2,h2⟩:=hasAll_int h1
 have e3:=hasAll_nil h2
 exact ⟨a,b,by rw [e1,e2,e3]⟩
def eqTabA (t:TypeId):Option (List Sc):=if t=186 then some [.int .i64,.int .i64] else none
theorem eqTabA_cases {T:TypeId} {ks:List Sc} (h:eqTabA T=some ks):T=186/\ks=[.int .i64,.int .i64]:=by
 unfold eqTabA at h
 split at h
 ·rename_i q;exact ⟨q,(Option.some.inj h).symm⟩
 ·cases h
theorem key_int3 (b:Bool) (d:Nat) (a:Int) (w:World):(Instr.checkKey b (d+1) 3 (.int .i64 a)).run prog w=.ok () w:=by simp [Instr.checkKey,run_underlying underlying3]
theorem key_pair (d:Nat) (b:Bool) (x y:Int) (w:World):(Instr.checkKey b (d+2) 186 (.agg #[.int .i64 x,.int .i64 y])).run prog w=.ok () w:=by
 rw [Instr.checkKey]
 simp only [Sem.run_bind,run_underlying und186,Result.andThen_ok]
 have hr:List.range' 0 2=[0,1]:=rfl
 simp [hr,run_sizeOf3,part,isAgg3,key_int3]
theorem eq_pair (m:Nat) (a b c d:Int) (w:World):(Op.equalIn (m+2) 186 (.agg #[.int .i64 a,.int .i64 b]) (.agg #[.int .i64 c,.int .i64 d])).run prog w=.ok (a == c && b == d) w:=by
 rw [Op.equalIn]
 simp only [Sem.run_bind,run_underlying und186,Result.andThen_ok]
 have hr:List.range' 0 2=[0,1]:=rfl
 have he:=fun (u v:Int) (w:World)=>run_equalIn_int (P:=prog) w m 3 .i64 .i64 u v underlying3
 simp [hr,run_sizeOf3,part,isAgg3,he]
 by_cases h1:a=c <;> by_cases h2:b=d <;> simp [h1,h2]
theorem eqTabA_key:KeyOk prog eqTabA:=by
 intro T ks h xs w b h1
 obtain ⟨rfl,rfl⟩:=eqTabA_cases h
 obtain ⟨x,y,rfl⟩:=pair_has h1
 exact key_pair 9998 b x y w
theorem eqTabA_ok:EqOk prog eqTabA:=by
 intro T ks h xs ys w h1 h2
 obtain ⟨rfl,rfl⟩:=eqTabA_cases h
 obtain ⟨a,b,rfl⟩:=pair_has h1
 obtain ⟨c,d,rfl⟩:=pair_has h2
 have gd:∀ x y,(eqGuard .eql 186 x y (.agg [Value.int .i64 a,Value.int .i64 b].toArray) (.agg [Value.int .i64 c,Value.int .i64 d].toArray)).run prog w=.ok () w/\(eqGuard .neq 186 x y (.agg [Value.int .i64 a,Value.int .i64 b].toArray) (.agg [Value.int .i64 c,Value.int .i64 d].toArray)).run prog w=.ok () w:=fun x y=>⟨run_eqGuard_agg w _ _ x y _ _ (by kernel_rfl),run_eqGuard_agg w _ _ x y _ _ (by kernel_rfl)⟩
 refine ⟨?_,gd⟩
 rw [show ((10000:Nat))=9998+2 from rfl]
 refine (eq_pair 9998 a b c d w).trans ?_
 simp [allEq,scEq]
def cxA (pub:Nat->Kd):Cx:=⟨tyOf tyTab,eqTabA,pub,fun _ _=>none,RD.any⟩
@[simp] theorem eqTabA186:eqTabA 186=some [.int .i64,.int .i64]:=rfl
@[simp] theorem cxA_ty {p:Nat->Kd}:(cxA p).ty=tyOf tyTab:=rfl
@[simp] theorem cxA_eqt {p:Nat->Kd} (t:TypeId):(cxA p).eqt t=eqTabA t:=rfl
@[simp] theorem cxA_pub {p:Nat->Kd} (t:Nat):(cxA p).pub t=p t:=rfl
@[simp] theorem cxA_spec {p:Nat->Kd} (f:FuncId) (a:List LV):(cxA p).spec f a=none:=rfl
@[simp] theorem cxA_rd {p:Nat->Kd}:(cxA p).rd=RD.any:=rfl
theorem cxA_ok {p:Nat->Kd}:(cxA p).ok prog:=⟨tyTab_ok,eqTabA_ok,eqTabA_key,fun f args pre v h=>(by cases h),(by kernel_rfl)⟩
end Go.Aft
end
