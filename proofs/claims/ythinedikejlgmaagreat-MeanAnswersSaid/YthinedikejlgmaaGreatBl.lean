/- The law MeanAnswers of package afterwordlaw06 answers true, whatever its arguments, and each argument reads as it read before. Conditions: those of its given row, no other. -/
import Derived.Test.YthinedikejlgmaaGreatA38
import Derived.Test.YthinedikejlgmaaGreatRows
set_option linter.all false
namespace Go.Proofs.YthinedikejlgmaaGreat.meanAnswers
open Go.ChangeShapes Go.WideShapes Go.ChangeAt Go.RowKit
open Go.Aft
theorem own:ownKnob Tryz.prog.godebug=none:=by kernel_rfl
theorem laidOut:laidOutB Tryz.prog=true:=by kernel_rfl
set_option maxRecDepth 100000 in
theorem lifted (os:Os) (started:os.Started) (H:Type) (enc:TypeId × Value->H) :
  ReturnsInHanded {} Tryz.checked os 5 .any (Rows.meanAnswersSpec.pre6 enc Tryz.prog Tryz.f5 Rows.meanAnswersRow.domain false) (Rows.meanAnswersSpec.post enc Tryz.prog Tryz.f5 false true false false):=by
 refine returnsInHanded_of_change_sized (C:=Tryz.checked) own started (by kernel_rfl) Tryz.func5
  (ChangeSpec.witness6 (enc:=enc) (C:=Tryz.checked) false ⟨#[],#[.agg #[.slice none 0 0,.slice none 0 0],.slice none 0 0],[]⟩ 8 (by kernel_rfl) (by kernel_rfl) (by kernel_rfl) (by kernel_rfl)) ?_
 intro W base args ds gs before hval0 hW hcnd Rr _
 have hsz:(DataW.weightsEach Tryz.prog (Tryz.f5.params.toList ++ Rows.meanAnswersSpec.plain.varTypes Tryz.prog) (ds ++ gs)).all (·<=reachBytes)=true:=Rr
 have hval:∀ (j:Nat) t v,Tryz.f5.params[j]?=some t->args[j]?=some v->Value.okWide Tryz.prog W .any base t v:=hval0
 have hW':=hW
 obtain ⟨p,q,hA0,hV,rfl,hfz,uk⟩:=hW
 have hA:DataW.TrodAll enc Tryz.prog W 0 (fun _=>true) true Tryz.f5.params.toList args.toList ds p:=hA0
 rw [Tryz.params5] at hA hval hsz
 obtain ⟨v0,vs0,d0,ds0,p0,q0,hargs,rfl,rfl,h0,r0⟩:=trodAll_cons hA
 obtain ⟨v1,vs1,d1,ds1,p1,q1,rfl,rfl,rfl,h1,r1⟩:=trodAll_cons r0
 obtain ⟨rfl,rfl,rfl⟩:=trodAll_nil r1
 obtain rfl:args=#[v0,v1]:=by cases args;simp_all
 obtain ⟨rfl,rfl⟩:=trodVars_none hV
 have k0:=h0
 have lt0:∀ x ∈ p0,x.block < W.heap.size:=by obtain ⟨m,hm⟩:=k0;exact DataW.trod_lt m _ _ _ hm
 have k1:=h1
 have lt1:∀ x ∈ p1,x.block < W.heap.size:=by obtain ⟨m,hm⟩:=k1;exact DataW.trod_lt m _ _ _ hm
 obtain ⟨x0,fit0,l0⟩:=Hf Qt Tryz.underlying42 (hval 0 42 v0 rfl rfl) h0 (Wq hsz (j:=0) rfl rfl)
 obtain ⟨x1,fit1,l1⟩:=KO KP (fun _=>rfl) Tryz.underlying43 (hval 1 43 v1 rfl rfl) h1 (Wq hsz (j:=1) rfl rfl)
 clear hA0 hval0 Rr hsz
 refine ((yy x0 fit0 x1 fit1).callsT W [v0,v1] ?_).mono fun e W' ⟨he,bel⟩=>?_
 ·unfold bE;refine ⟨_,_,rfl,l0,?_⟩
  unfold bE;refine ⟨_,_,rfl,l1,?_⟩
  unfold bE;rfl
 subst he
 exact ⟨_,rfl,_,_,_,[],_,[],hW',trodAll_mk1 (shut_bool Tryz.underlying4 _),(trodAll_cons_mk (Below.trod laidOut (by kernel_rfl) (of_decide_eq_true (by kernel_rfl)) k0 bel lt0) (trodAll_cons_mk (Below.trod laidOut (by kernel_rfl) (of_decide_eq_true (by kernel_rfl)) k1 bel lt1) trodAll_mk0)),rfl,bel.frame _,fun h=>by cases h⟩
theorem named:Tryz.pinned.checked.prog.funcNamed Rows.meanAnswersRow.func=some 5:=by kernel_rfl
set_option maxHeartbeats 4000000 in
theorem facts:joinedFacts Tryz.prog 5 Tryz.f5 Rows.meanAnswersSpec Rows.meanAnswersRow=true:=by
 simp only [joinedFacts,Bool.and_eq_true]
 repeat' (with_reducible refine And.intro ?_ ?_)
 all_goals (as_aux_lemma=>kernel_rfl)
theorem inst:Tryz.f5.isInstance Tryz.pinned.checked.prog Rows.meanAnswersRow.origin Rows.meanAnswersRow.targs:=of_decide_eq_true (by kernel_rfl)
theorem wrap:Tryz.f5.isWrapper Tryz.pinned.checked.prog Rows.meanAnswersRow.wrapper Rows.meanAnswersRow.mainSum:=by unfold Func.isWrapper;first | (rw [if_pos (by decide +kernel)];kernel_rfl) | (rw [if_neg (by decide +kernel)];exact ⟨rfl,rfl⟩)
theorem over:Rows.meanAnswersRow.holds Tryz.pinned (OpenSpec.ofChange Rows.meanAnswersSpec) :=
 OpenClaim.holds_of_wide 5 Tryz.f5 rfl rfl rfl rfl rfl rfl rfl ⟨rfl,rfl,rfl,rfl,rfl⟩ rfl rfl rfl rfl rfl named Tryz.func5 facts inst wrap (fun os started H enc _=>lifted os started H enc)
theorem proved:Rows.MeanAnswersSaid:=over
#print axioms proved
end Go.Proofs.YthinedikejlgmaaGreat.meanAnswers
namespace Go.Proofs.YthinedikejlgmaaGreat
theorem meanAnswers_holds:Rows.MeanAnswersSaid:=meanAnswers.proved
end Go.Proofs.YthinedikejlgmaaGreat
