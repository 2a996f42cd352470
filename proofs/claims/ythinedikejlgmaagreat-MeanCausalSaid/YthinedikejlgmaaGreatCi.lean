/- The law MeanCausal of package afterwordlaw06 answers true, whatever its arguments, and each argument reads as it read before. Conditions: those of its given row, no other. -/
import Derived.Test.YthinedikejlgmaaGreatCh
import Derived.Test.YthinedikejlgmaaGreatA37
import Derived.Test.YthinedikejlgmaaGreatRows
set_option linter.all false
namespace Go.Proofs.YthinedikejlgmaaGreat.meanCausal
open Go.ChangeShapes Go.WideShapes Go.ChangeAt Go.RowKit
open Go.Aft
theorem own:ownKnob Tryz.prog.godebug=none:=by kernel_rfl
theorem laidOut:laidOutB Tryz.prog=true:=by kernel_rfl
set_option maxRecDepth 100000 in
theorem lifted (os:Os) (started:os.Started) (H:Type) (enc:TypeId × Value->H) :
  ReturnsInHanded {} Tryz.checked os 8 .any (Rows.meanCausalSpec.pre6 enc Tryz.prog Tryz.f8 Rows.meanCausalRow.domain false) (Rows.meanCausalSpec.post enc Tryz.prog Tryz.f8 false true false false):=by
 refine returnsInHanded_of_change_sized (C:=Tryz.checked) own started (by kernel_rfl) Tryz.func8
  (ChangeSpec.witness6 (enc:=enc) (C:=Tryz.checked) false ⟨#[],#[.agg #[.slice none 0 0,.slice none 0 0],.slice none 0 0,.int .u8 0],[]⟩ 8 (by kernel_rfl) (by kernel_rfl) (by kernel_rfl) (by kernel_rfl)) ?_
 intro W base args ds gs before yB hW aC4 Br _
 have hsz:(DataW.weightsEach Tryz.prog (Tryz.f8.params.toList ++ Rows.meanCausalSpec.plain.varTypes Tryz.prog) (ds ++ gs)).all (·<=reachBytes)=true:=Br
 have hval:∀ (j:Nat) t v,Tryz.f8.params[j]?=some t->args[j]?=some v->Value.okWide Tryz.prog W .any base t v:=yB
 have hW':=hW
 obtain ⟨p,q,Ui,hV,rfl,hfz,qQ⟩:=hW
 have hA:DataW.TrodAll enc Tryz.prog W 0 (fun _=>true) true Tryz.f8.params.toList args.toList ds p:=Ui
 rw [Tryz.params8] at hA hval hsz
 obtain ⟨v0,vs0,d0,ds0,p0,q0,hargs,rfl,rfl,h0,r0⟩:=trodAll_cons hA
 obtain ⟨v1,vs1,d1,ds1,p1,q1,rfl,rfl,rfl,h1,r1⟩:=trodAll_cons r0
 obtain ⟨v2,vs2,d2,ds2,p2,q2,rfl,rfl,rfl,h2,r2⟩:=trodAll_cons r1
 obtain ⟨rfl,rfl,rfl⟩:=trodAll_nil r2
 obtain rfl:args=#[v0,v1,v2]:=by cases args;simp_all
 obtain ⟨rfl,rfl⟩:=trodVars_none hV
 have k0:=h0
 have lt0:∀ x ∈ p0,x.block < W.heap.size:=by obtain ⟨m,hm⟩:=k0;exact DataW.trod_lt m _ _ _ hm
 have k1:=h1
 have lt1:∀ x ∈ p1,x.block < W.heap.size:=by obtain ⟨m,hm⟩:=k1;exact DataW.trod_lt m _ _ _ hm
 obtain ⟨x0,fit0,l0⟩:=kT Fy Tryz.underlying42 (hval 0 42 v0 rfl rfl) h0 (xN hsz (j:=0) rfl rfl)
 obtain ⟨x1,fit1,l1⟩:=uC DC (fun _=>rfl) Tryz.underlying43 (hval 1 43 v1 rfl rfl) h1 (xN hsz (j:=1) rfl rfl)
 obtain ⟨a2,rfl,rfl,rfl,w2⟩:=open_int Tryz.underlying5 (hval 2 5 v2 rfl rfl) h2
 clear Ui yB Br hsz
 refine ((Bg x0 fit0 x1 a2 (aq6 w2)).MW W [v0,v1,.int .u8 a2] ?_).mono fun e W' ⟨he,bel⟩=>?_
 ·unfold bH;refine ⟨_,_,rfl,l0,?_⟩
  unfold bH;refine ⟨_,_,rfl,l1,?_⟩
  unfold bH;refine ⟨_,_,rfl,by unfold LR DR;exact ⟨rfl,rfl⟩,?_⟩
  unfold bH;rfl
 subst he
 exact ⟨_,rfl,_,_,_,[],_,[],hW',trodAll_mk1 (shut_bool Tryz.underlying4 _),(trodAll_cons_mk (Below.trod laidOut (by kernel_rfl) (of_decide_eq_true (by kernel_rfl)) k0 bel lt0) (trodAll_cons_mk (Below.trod laidOut (by kernel_rfl) (of_decide_eq_true (by kernel_rfl)) k1 bel lt1) (trodAll_cons_mk (shut_int Tryz.underlying5 w2) trodAll_mk0))),rfl,bel.frame _,fun h=>by cases h⟩
theorem named:Tryz.pinned.checked.prog.funcNamed Rows.meanCausalRow.func=some 8:=by kernel_rfl
set_option maxHeartbeats 4000000 in
theorem facts:joinedFacts Tryz.prog 8 Tryz.f8 Rows.meanCausalSpec Rows.meanCausalRow=true:=by
 simp only [joinedFacts,Bool.and_eq_true]
 repeat' (with_reducible refine And.intro ?_ ?_)
 all_goals (as_aux_lemma=>kernel_rfl)
theorem inst:Tryz.f8.isInstance Tryz.pinned.checked.prog Rows.meanCausalRow.origin Rows.meanCausalRow.targs:=of_decide_eq_true (by kernel_rfl)
theorem wrap:Tryz.f8.isWrapper Tryz.pinned.checked.prog Rows.meanCausalRow.wrapper Rows.meanCausalRow.mainSum:=by unfold Func.isWrapper;first | (rw [if_pos (by decide +kernel)];kernel_rfl) | (rw [if_neg (by decide +kernel)];exact ⟨rfl,rfl⟩)
theorem over:Rows.meanCausalRow.holds Tryz.pinned (OpenSpec.ofChange Rows.meanCausalSpec) :=
 OpenClaim.holds_of_wide 8 Tryz.f8 rfl rfl rfl rfl rfl rfl rfl ⟨rfl,rfl,rfl,rfl,rfl⟩ rfl rfl rfl rfl rfl named Tryz.func8 facts inst wrap (fun os started H enc _=>lifted os started H enc)
theorem proved:Rows.MeanCausalSaid:=over
#print axioms proved
end Go.Proofs.YthinedikejlgmaaGreat.meanCausal
namespace Go.Proofs.YthinedikejlgmaaGreat
theorem meanCausal_holds:Rows.MeanCausalSaid:=meanCausal.proved
end Go.Proofs.YthinedikejlgmaaGreat
