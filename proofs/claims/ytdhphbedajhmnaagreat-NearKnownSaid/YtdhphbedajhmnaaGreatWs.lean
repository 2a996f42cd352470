/- The law NearKnown of package afterwordlaw17, which takes no arguments, answers true. Conditions: those of its given row, no other. -/
import Derived.Test.YtdhphbedajhmnaaGreatA39
import Derived.Test.YtdhphbedajhmnaaGreatRows
set_option linter.unusedVariables false
set_option linter.unusedSimpArgs false
set_option linter.deprecated false
namespace Go.Proofs.YtdhphbedajhmnaaGreat.nearKnown
open Go.ChangeShapes Go.WideShapes Go.ChangeAt Go.RowKit
open Go.Aft
theorem own : ownKnob Tryz.prog.godebug = none := by kernel_rfl
set_option maxRecDepth 100000 in
theorem lifted (os : Os) (started : os.Started) (H : Type) (enc : TypeId × Value → H) :
    ReturnsInHanded {} Tryz.checked os 10 .any (Rows.nearKnownSpec.pre6 enc Tryz.prog Tryz.f10 Rows.nearKnownRow.domain false) (Rows.nearKnownSpec.post enc Tryz.prog Tryz.f10 false true false false) := by
  refine returnsInHanded_of_change_sized (C := Tryz.checked) own started (by kernel_rfl) Tryz.func10
    (ChangeSpec.witness6 (enc := enc) (C := Tryz.checked) false ⟨#[], #[], []⟩ 8 (by kernel_rfl) (by kernel_rfl) (by kernel_rfl) (by kernel_rfl)) ?_
  intro W base args ds gs before hval0 hW hcnd hsz0 _
  have hW' := hW
  obtain ⟨p, q, hA0, hV, rfl, hfz, hnd⟩ := hW
  have hA : DataW.TrodAll enc Tryz.prog W 0 (fun _ => true) true Tryz.f10.params.toList args.toList ds p := hA0
  rw [Tryz.params10] at hA
  obtain ⟨rfl, rfl, rfl⟩ := trodAll_none hA
  obtain ⟨rfl, rfl⟩ := trodVars_none hV
  clear hA0 hval0 hsz0
  refine (law_NearKnown.callsT W [] ?_).mono fun e W' ⟨he, bel⟩ => ?_
  · unfold LRs; rfl
  subst he
  exact ⟨_, rfl, _, _, _, [], _, [], hW', trodAll_mk1 (shut_bool Tryz.underlying4 _), trodAll_mk0, rfl, bel.frame _, fun h => by cases h⟩
theorem named : Tryz.pinned.checked.prog.funcNamed Rows.nearKnownRow.func = some 10 := by kernel_rfl
set_option maxHeartbeats 4000000 in
theorem facts : joinedFacts Tryz.prog 10 Tryz.f10 Rows.nearKnownSpec Rows.nearKnownRow = true := by
  simp only [joinedFacts, Bool.and_eq_true]
  repeat' (with_reducible refine And.intro ?_ ?_)
  all_goals (as_aux_lemma => kernel_rfl)
theorem inst : Tryz.f10.isInstance Tryz.pinned.checked.prog Rows.nearKnownRow.origin Rows.nearKnownRow.targs := of_decide_eq_true (by kernel_rfl)
theorem wrap : Tryz.f10.isWrapper Tryz.pinned.checked.prog Rows.nearKnownRow.wrapper Rows.nearKnownRow.mainSum := by unfold Func.isWrapper; first | (rw [if_pos (by decide +kernel)]; kernel_rfl) | (rw [if_neg (by decide +kernel)]; exact ⟨rfl, rfl⟩)
theorem over : Rows.nearKnownRow.holds Tryz.pinned (OpenSpec.ofChange Rows.nearKnownSpec) :=
  OpenClaim.holds_of_wide 10 Tryz.f10 rfl rfl rfl rfl rfl rfl rfl ⟨rfl, rfl, rfl, rfl, rfl⟩ rfl rfl rfl rfl rfl named Tryz.func10 facts inst wrap (fun os started H enc _ => lifted os started H enc)
theorem proved : Rows.NearKnownSaid := over
#print axioms proved
end Go.Proofs.YtdhphbedajhmnaaGreat.nearKnown
namespace Go.Proofs.YtdhphbedajhmnaaGreat
theorem nearKnown_holds : Rows.NearKnownSaid := nearKnown.proved
end Go.Proofs.YtdhphbedajhmnaaGreat
