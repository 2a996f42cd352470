/- The law MeanTwice of package afterwordlaw06 answers true, whatever its arguments, and each argument reads as it read before. Conditions: those of its given row, no other. -/
import Derived.Test.YthinedikejlgmaaGreatCj
import Derived.Test.YthinedikejlgmaaGreatRows
set_option linter.all false
namespace Go.Proofs.YthinedikejlgmaaGreat.meanTwice
open Go.ChangeShapes Go.WideShapes Go.ChangeAt Go.RowKit
open Go.Aft
theorem own:ownKnob Tryz.prog.godebug=none:=by kernel_rfl
theorem laidOut:laidOutB Tryz.prog=true:=by kernel_rfl
set_option maxRecDepth 100000 in
theorem lifted (os:Os) (started:os.Started) (H:Type) (enc:TypeId × Value->H) :
  ReturnsInHanded {} Tryz.checked os 11 .any (Rows.meanTwiceSpec.pre6 enc Tryz.prog Tryz.f11 Rows.meanTwiceRow.domain false) (Rows.meanTwiceSpec.post enc Tryz.prog Tryz.f11 false true false false):=by
 refine returnsInHanded_of_change_sized (C:=Tryz.checked) own started (by kernel_rfl) Tryz.func11
  (ChangeSpec.witness6 (enc:=enc) (C:=Tryz.checked) false ⟨#[],#[.agg #[.slice none 0 0,.slice none 0 0],.slice none 0 0,.agg #[.int .i64 0,.int .i64 0,.int .i64 0,.int .i64 0,.int .i64 0]],[]⟩ 8 (by kernel_rfl) (by kernel_rfl) (by kernel_rfl) (by kernel_rfl)) ?_
 intro W base args ds gs before yB hW aC4 Br _
 have hsz:(DataW.weightsEach Tryz.prog (Tryz.f11.params.toList ++ Rows.meanTwiceSpec.plain.varTypes Tryz.prog) (ds ++ gs)).all (·<=reachBytes)=true:=Br
 have hval:∀ (j:Nat) t v,Tryz.f11.params[j]?=some t->args[j]?=some v->Value.okWide Tryz.prog W .any base t v:=yB
 have hW':=hW
 obtain ⟨p,q,Ui,hV,rfl,hfz,qQ⟩:=hW
 have hA:DataW.TrodAll enc Tryz.prog W 0 (fun _=>true) true Tryz.f11.params.toList args.toList ds p:=Ui
 rw [Tryz.params11] at hA hval hsz
 obtain ⟨v0,vs0,d0,ds0,p0,q0,hargs,rfl,rfl,h0,r0⟩:=trodAll_cons hA
 obtain ⟨v1,vs1,d1,ds1,p1,q1,rfl,rfl,rfl,h1,r1⟩:=trodAll_cons r0
 obtain ⟨v2,vs2,d2,ds2,p2,q2,rfl,rfl,rfl,h2,r2⟩:=trodAll_cons r1
 obtain ⟨rfl,rfl,rfl⟩:=trodAll_nil r2
 obtain rfl:args=#[v0,v1,v2]:=by cases args;simp_all
 obtain ⟨rfl,rfl⟩:=trodVars_none hV
 have k0:=h0
 have lt0:∀ x ∈ p0,x.block < W.heap.size:=by obtain ⟨m,hm⟩:=k0;exact DataW.trod_lt m _ _ _ hm
 have k1:=h1
 have lt1:∀ x ∈ p1,x.block < W.heap.size:=by obtain ⟨m,hm⟩:=k1;exact DataW.trod_lt m _ _ _ hm
 have k2:=h2
 have lt2:∀ x ∈ p2,x.block < W.heap.size:=by obtain ⟨m,hm⟩:=k2;exact DataW.trod_lt m _ _ _ hm
 obtain ⟨x0,fit0,l0⟩:=kT Fy Tryz.underlying42 (hval 0 42 v0 rfl rfl) h0 (xN hsz (j:=0) rfl rfl)
 obtain ⟨x1,fit1,l1⟩:=uC Lz (fun _=>rfl) Tryz.underlying43 (hval 1 43 v1 rfl rfl) h1 (xN hsz (j:=1) rfl rfl)
 obtain ⟨x2,fit2,l2⟩:=kT AI Tryz.underlying82 (hval 2 82 v2 rfl rfl) h2 (xN hsz (j:=2) rfl rfl)
 clear Ui yB Br hsz
 refine ((C4 x0 fit0 x1 fit1 x2).MW W [v0,v1,v2] ?_).mono fun e W' ⟨he,bel⟩=>?_
 ·unfold bH;refine ⟨_,_,rfl,l0,?_⟩
  unfold bH;refine ⟨_,_,rfl,l1,?_⟩
  unfold bH;refine ⟨_,_,rfl,l2,?_⟩
  unfold bH;rfl
 subst he
 exact ⟨_,rfl,_,_,_,[],_,[],hW',trodAll_mk1 (shut_bool Tryz.underlying4 _),(trodAll_cons_mk (Below.trod laidOut (by kernel_rfl) (of_decide_eq_true (by kernel_rfl)) k0 bel lt0) (trodAll_cons_mk (Below.trod laidOut (by kernel_rfl) (of_decide_eq_true (by kernel_rfl)) k1 bel lt1) (trodAll_cons_mk (Below.trod laidOut (by kernel_rfl) (of_decide_eq_true (by kernel_rfl)) k2 bel lt2) trodAll_mk0))),rfl,bel.frame _,fun h=>by cases h⟩
theorem named:Tryz.pinned.checked.prog.funcNamed Rows.meanTwiceRow.func=some 11:=by kernel_rfl
set_option maxHeartbeats 4000000 in
theorem facts:joinedFacts Tryz.prog 11 Tryz.f11 Rows.meanTwiceSpec Rows.meanTwiceRow=true:=by
 simp only [joinedFacts,Bool.and_eq_true]
 repeat' (with_reducible refine And.intro ?_ ?_)
 all_goals (as_aux_lemma=>kernel_rfl)
theorem inst:Tryz.f11.isInstance Tryz.pinned.checked.prog Rows.meanTwiceRow.origin Rows.meanTwiceRow.targs:=of_decide_eq_true (by kernel_rfl)
theorem wrap:Tryz.f11.isWrapper Tryz.pinned.checked.prog Rows.meanTwiceRow.wrapper Rows.meanTwiceRow.mainSum:=by unfold Func.isWrapper;first | (rw [if_pos (by decide +kernel)];kernel_rfl) | (rw [if_neg (by decide +kernel)];exact ⟨rfl,rfl⟩)
theorem over:Rows.meanTwiceRow.holds Tryz.pinned (OpenSpec.ofChange Rows.meanTwiceSpec) :=
 OpenClaim.holds_of_wide 11 Tryz.f11 rfl rfl rfl rfl rfl rfl rfl ⟨rfl,rfl,rfl,rfl,rfl⟩ rfl rfl rfl rfl rfl named Tryz.func11 facts inst wrap (fun os started H enc _=>lifted os started H enc)
theorem proved:Rows.MeanTwiceSaid:=over
#print axioms proved
end Go.Proofs.YthinedikejlgmaaGreat.meanTwice
namespace Go.Proofs.YthinedikejlgmaaGreat
theorem meanTwice_holds:Rows.MeanTwiceSaid:=meanTwice.proved
end Go.Proofs.YthinedikejlgmaaGreat
