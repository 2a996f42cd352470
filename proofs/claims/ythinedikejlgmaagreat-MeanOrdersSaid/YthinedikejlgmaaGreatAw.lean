/- The law MeanOrders of package afterwordlaw06 answers true, whatever its arguments, and each argument reads as it read before. Conditions: those of its given row, no other. -/
import Derived.Test.YthinedikejlgmaaGreatA52
import Derived.Test.YthinedikejlgmaaGreatRows
set_option linter.all false
namespace Go.Proofs.YthinedikejlgmaaGreat.meanOrders
open Go.ChangeShapes Go.WideShapes Go.ChangeAt Go.RowKit
open Go.Aft
theorem own:ownKnob Tryz.prog.godebug=none:=by kernel_rfl
theorem laidOut:laidOutB Tryz.prog=true:=by kernel_rfl
set_option maxRecDepth 100000 in
theorem lifted (os:Os) (started:os.Started) (H:Type) (enc:TypeId × Value->H) :
  ReturnsInHanded {} Tryz.checked os 4 .any (Rows.meanOrdersSpec.pre6 enc Tryz.prog Tryz.f4 Rows.meanOrdersRow.domain false) (Rows.meanOrdersSpec.post enc Tryz.prog Tryz.f4 false true false false):=by
 refine returnsInHanded_of_change_sized (C:=Tryz.checked) own started (by kernel_rfl) Tryz.func4
  (ChangeSpec.witness6 (enc:=enc) (C:=Tryz.checked) false ⟨#[],#[.agg #[.slice none 0 0,.slice none 0 0],.slice none 0 0,.int .i64 0],[]⟩ 8 (by kernel_rfl) (by kernel_rfl) (by kernel_rfl) (by kernel_rfl)) ?_
 intro W base args ds gs before hval0 hW hcnd hsz0 _
 have hsz:(DataW.weightsEach Tryz.prog (Tryz.f4.params.toList ++ Rows.meanOrdersSpec.plain.varTypes Tryz.prog) (ds ++ gs)).all (·<=reachBytes)=true:=hsz0
 have hval:∀ (j:Nat) t v,Tryz.f4.params[j]?=some t->args[j]?=some v->Value.okWide Tryz.prog W .any base t v:=hval0
 have hW':=hW
 obtain ⟨p,q,hA0,hV,rfl,hfz,hnd⟩:=hW
 have hA:DataW.TrodAll enc Tryz.prog W 0 (fun _=>true) true Tryz.f4.params.toList args.toList ds p:=hA0
 rw [Tryz.params4] at hA hval hsz
 obtain ⟨v0,vs0,d0,ds0,p0,q0,hargs,rfl,rfl,h0,r0⟩:=trodAll_cons hA
 obtain ⟨v1,vs1,d1,ds1,p1,q1,rfl,rfl,rfl,h1,r1⟩:=trodAll_cons r0
 obtain ⟨v2,vs2,d2,ds2,p2,q2,rfl,rfl,rfl,h2,r2⟩:=trodAll_cons r1
 obtain ⟨rfl,rfl,rfl⟩:=trodAll_nil r2
 obtain rfl:args=#[v0,v1,v2]:=by cases args;simp_all
 obtain ⟨rfl,rfl⟩:=trodVars_none hV
 have k0:=h0
 have lt0:∀ x ∈ p0,x.block < W.heap.size:=by obtain ⟨m,hm⟩:=k0;exact DataW.trod_lt m _ _ _ hm
 have k1:=h1
 have lt1:∀ x ∈ p1,x.block < W.heap.size:=by obtain ⟨m,hm⟩:=k1;exact DataW.trod_lt m _ _ _ hm
 obtain ⟨x0,fit0,l0⟩:=d1q f2n Tryz.underlying42 (hval 0 42 v0 rfl rfl) h0 (f4k hsz (j:=0) rfl rfl)
 obtain ⟨x1,fit1,l1⟩:=d9k e2q (fun _=>rfl) Tryz.underlying43 (hval 1 43 v1 rfl rfl) h1 (f4k hsz (j:=1) rfl rfl)
 obtain ⟨a2,rfl,rfl,rfl,w2⟩:=open_int Tryz.underlying3 (hval 2 3 v2 rfl rfl) h2
 clear hA0 hval0 hsz0 hsz
 refine ((c1k x0 fit0 x1 a2).f5p W [v0,v1,.int .i64 a2] ?_).mono fun e W' ⟨he,bel⟩=>?_
 ·unfold LRs;refine ⟨_,_,rfl,l0,?_⟩
  unfold LRs;refine ⟨_,_,rfl,l1,?_⟩
  unfold LRs;refine ⟨_,_,rfl,by unfold LR DR;exact ⟨rfl,rfl⟩,?_⟩
  unfold LRs;rfl
 subst he
 exact ⟨_,rfl,_,_,_,[],_,[],hW',trodAll_mk1 (shut_bool Tryz.underlying4 _),(trodAll_cons_mk (Below.trod laidOut (by kernel_rfl) (of_decide_eq_true (by kernel_rfl)) k0 bel lt0) (trodAll_cons_mk (Below.trod laidOut (by kernel_rfl) (of_decide_eq_true (by kernel_rfl)) k1 bel lt1) (trodAll_cons_mk (shut_int Tryz.underlying3 w2) trodAll_mk0))),rfl,bel.frame _,fun h=>by cases h⟩
theorem named:Tryz.pinned.checked.prog.funcNamed Rows.meanOrdersRow.func=some 4:=by kernel_rfl
set_option maxHeartbeats 4000000 in
theorem facts:joinedFacts Tryz.prog 4 Tryz.f4 Rows.meanOrdersSpec Rows.meanOrdersRow=true:=by
 simp only [joinedFacts,Bool.and_eq_true]
 repeat' (with_reducible refine And.intro ?_ ?_)
 all_goals (as_aux_lemma=>kernel_rfl)
theorem inst:Tryz.f4.isInstance Tryz.pinned.checked.prog Rows.meanOrdersRow.origin Rows.meanOrdersRow.targs:=of_decide_eq_true (by kernel_rfl)
theorem wrap:Tryz.f4.isWrapper Tryz.pinned.checked.prog Rows.meanOrdersRow.wrapper Rows.meanOrdersRow.mainSum:=by unfold Func.isWrapper;first | (rw [if_pos (by decide +kernel)];kernel_rfl) | (rw [if_neg (by decide +kernel)];exact ⟨rfl,rfl⟩)
theorem over:Rows.meanOrdersRow.holds Tryz.pinned (OpenSpec.ofChange Rows.meanOrdersSpec) :=
 OpenClaim.holds_of_wide 4 Tryz.f4 rfl rfl rfl rfl rfl rfl rfl ⟨rfl,rfl,rfl,rfl,rfl⟩ rfl rfl rfl rfl rfl named Tryz.func4 facts inst wrap (fun os started H enc _=>lifted os started H enc)
theorem proved:Rows.MeanOrdersSaid:=over
#print axioms proved
end Go.Proofs.YthinedikejlgmaaGreat.meanOrders
namespace Go.Proofs.YthinedikejlgmaaGreat
theorem meanOrders_holds:Rows.MeanOrdersSaid:=meanOrders.proved
end Go.Proofs.YthinedikejlgmaaGreat
