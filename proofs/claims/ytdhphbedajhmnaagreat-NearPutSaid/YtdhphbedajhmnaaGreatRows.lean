/-
  NARROWER THAN 'FOR EVERY INPUT', by the rows' own cells (each row's printed sentence says how): NearPlain: loops · NearBounds: loops · NearGrows: loops · NearHeard: loops · NearFolds: loops · NearOthers: loops · NearReaches: loops · NearPut: loops · NearSound: loops · NearSealed: loops · NearTight: loops.
  DERIVED. THE GIVEN ROWS OF THIS SEAT. 12 by the template 'for every input the law returns true; each argument reads behind the call as it read before'; 0 by the template 'total and deterministic' (their statements: YtdhphbedajhmnaaGreatTotals.lean).
  GIVEN WITH THE SEED: the statements are not yours to turn. If you find one false, say at which input.
  Laid BY PROGRAM, IN A SANDBOX (cutbox-rows.mjs): the forced cells as the released guide's own fill.sh prints them over the translation cad77be67bf7ef5b… (all of the seat's roots in one cut). By AI agents, Wed Nov 11 2026. No macro, syntax, notation, axiom, sorry.
-/
import Derived.Test.YtdhphbedajhmnaaGreatChecked
import GoSem.Claim
import GoSem.ClaimJoined
import GoSem.ClaimMapViews
import Derived.JoinedTies
import Derived.KernelRfl
namespace Go.Proofs.YtdhphbedajhmnaaGreat
/- THE CELL 'sum', in the pinned program and in every row, IS THE sha256 OF THE DUMP (.gsa) THAT YtdhphbedajhmnaaGreatProg.lean LOADS. Nothing in Lean hashes anything: it is a label: what it is worth is what the hold of that sum in a sandbox is worth. -/
noncomputable def Tryz.pinned : Pinned := { name := "ytdhphbedajhmnaagreat", sum := "cad77be67bf7ef5bc8a37e6e4a3e5fbfe8320742ffaacf4a7e484dddbd9c85f8", checked := Tryz.checked }
namespace Rows
def none {H : Type} : Left H := { results := [], args := [] }

/-- 'afterwordlaw17.NearPlain': WHATEVER THE INPUT: true; the input reads as it did. -/
def nearPlainSpec : ChangeSpec := { name := "nearPlain", fn := fun _ => fun
  | [d1, d2, d3] => { results := [.lit (.bool true)], args := [d1, d2, d3] }
  | _ => none }
def nearPlainRow : OpenClaim := { program := "ytdhphbedajhmnaagreat", sum := "cad77be67bf7ef5bc8a37e6e4a3e5fbfe8320742ffaacf4a7e484dddbd9c85f8", func := "afterword/afterwordlaw17.NearPlain", spec := "nearPlain", unfollowed := true, recurses := true, loops := true, plainKeys := false, apart := false }
def NearPlainSaid : Prop := nearPlainRow.holds Tryz.pinned (OpenSpec.ofChange nearPlainSpec)

/-- ITS FALSE NEIGHBOUR: 'it returns false'. Refute it at one input. -/
def nearPlainWrong : ChangeSpec := { name := "nearPlain", fn := fun _ => fun
  | [d1, d2, d3] => { results := [.lit (.bool false)], args := [d1, d2, d3] }
  | _ => none }
def NearPlainWrongFalsely : Prop := nearPlainRow.holds Tryz.pinned (OpenSpec.ofChange nearPlainWrong)

/-- 'afterwordlaw17.NearBounds': WHATEVER THE INPUT: true; the input reads as it did. -/
def nearBoundsSpec : ChangeSpec := { name := "nearBounds", fn := fun _ => fun
  | [d1, d2, d3] => { results := [.lit (.bool true)], args := [d1, d2, d3] }
  | _ => none }
def nearBoundsRow : OpenClaim := { program := "ytdhphbedajhmnaagreat", sum := "cad77be67bf7ef5bc8a37e6e4a3e5fbfe8320742ffaacf4a7e484dddbd9c85f8", func := "afterword/afterwordlaw17.NearBounds", spec := "nearBounds", unfollowed := true, recurses := true, loops := true, plainKeys := false, apart := false }
def NearBoundsSaid : Prop := nearBoundsRow.holds Tryz.pinned (OpenSpec.ofChange nearBoundsSpec)

/-- ITS FALSE NEIGHBOUR: 'it returns false'. Refute it at one input. -/
def nearBoundsWrong : ChangeSpec := { name := "nearBounds", fn := fun _ => fun
  | [d1, d2, d3] => { results := [.lit (.bool false)], args := [d1, d2, d3] }
  | _ => none }
def NearBoundsWrongFalsely : Prop := nearBoundsRow.holds Tryz.pinned (OpenSpec.ofChange nearBoundsWrong)

/-- 'afterwordlaw17.NearGrows': WHATEVER THE INPUT: true; the input reads as it did. -/
def nearGrowsSpec : ChangeSpec := { name := "nearGrows", fn := fun _ => fun
  | [d1, d2, d3, d4] => { results := [.lit (.bool true)], args := [d1, d2, d3, d4] }
  | _ => none }
def nearGrowsRow : OpenClaim := { program := "ytdhphbedajhmnaagreat", sum := "cad77be67bf7ef5bc8a37e6e4a3e5fbfe8320742ffaacf4a7e484dddbd9c85f8", func := "afterword/afterwordlaw17.NearGrows", spec := "nearGrows", unfollowed := true, recurses := true, loops := true, plainKeys := false, apart := false }
def NearGrowsSaid : Prop := nearGrowsRow.holds Tryz.pinned (OpenSpec.ofChange nearGrowsSpec)

/-- ITS FALSE NEIGHBOUR: 'it returns false'. Refute it at one input. -/
def nearGrowsWrong : ChangeSpec := { name := "nearGrows", fn := fun _ => fun
  | [d1, d2, d3, d4] => { results := [.lit (.bool false)], args := [d1, d2, d3, d4] }
  | _ => none }
def NearGrowsWrongFalsely : Prop := nearGrowsRow.holds Tryz.pinned (OpenSpec.ofChange nearGrowsWrong)

/-- 'afterwordlaw17.NearHeard': WHATEVER THE INPUT: true; the input reads as it did. -/
def nearHeardSpec : ChangeSpec := { name := "nearHeard", fn := fun _ => fun
  | [d1, d2, d3, d4] => { results := [.lit (.bool true)], args := [d1, d2, d3, d4] }
  | _ => none }
def nearHeardRow : OpenClaim := { program := "ytdhphbedajhmnaagreat", sum := "cad77be67bf7ef5bc8a37e6e4a3e5fbfe8320742ffaacf4a7e484dddbd9c85f8", func := "afterword/afterwordlaw17.NearHeard", spec := "nearHeard", unfollowed := true, recurses := true, loops := true, plainKeys := false, apart := false }
def NearHeardSaid : Prop := nearHeardRow.holds Tryz.pinned (OpenSpec.ofChange nearHeardSpec)

/-- ITS FALSE NEIGHBOUR: 'it returns false'. Refute it at one input. -/
def nearHeardWrong : ChangeSpec := { name := "nearHeard", fn := fun _ => fun
  | [d1, d2, d3, d4] => { results := [.lit (.bool false)], args := [d1, d2, d3, d4] }
  | _ => none }
def NearHeardWrongFalsely : Prop := nearHeardRow.holds Tryz.pinned (OpenSpec.ofChange nearHeardWrong)

/-- 'afterwordlaw17.NearFolds': WHATEVER THE INPUT: true; the input reads as it did. -/
def nearFoldsSpec : ChangeSpec := { name := "nearFolds", fn := fun _ => fun
  | [d1, d2, d3] => { results := [.lit (.bool true)], args := [d1, d2, d3] }
  | _ => none }
def nearFoldsRow : OpenClaim := { program := "ytdhphbedajhmnaagreat", sum := "cad77be67bf7ef5bc8a37e6e4a3e5fbfe8320742ffaacf4a7e484dddbd9c85f8", func := "afterword/afterwordlaw17.NearFolds", spec := "nearFolds", unfollowed := true, recurses := true, loops := true, plainKeys := false, apart := false }
def NearFoldsSaid : Prop := nearFoldsRow.holds Tryz.pinned (OpenSpec.ofChange nearFoldsSpec)

/-- ITS FALSE NEIGHBOUR: 'it returns false'. Refute it at one input. -/
def nearFoldsWrong : ChangeSpec := { name := "nearFolds", fn := fun _ => fun
  | [d1, d2, d3] => { results := [.lit (.bool false)], args := [d1, d2, d3] }
  | _ => none }
def NearFoldsWrongFalsely : Prop := nearFoldsRow.holds Tryz.pinned (OpenSpec.ofChange nearFoldsWrong)

/-- 'afterwordlaw17.NearOthers': WHATEVER THE INPUT: true; the input reads as it did. -/
def nearOthersSpec : ChangeSpec := { name := "nearOthers", fn := fun _ => fun
  | [d1, d2, d3, d4] => { results := [.lit (.bool true)], args := [d1, d2, d3, d4] }
  | _ => none }
def nearOthersRow : OpenClaim := { program := "ytdhphbedajhmnaagreat", sum := "cad77be67bf7ef5bc8a37e6e4a3e5fbfe8320742ffaacf4a7e484dddbd9c85f8", func := "afterword/afterwordlaw17.NearOthers", spec := "nearOthers", unfollowed := true, recurses := true, loops := true, plainKeys := false, apart := false }
def NearOthersSaid : Prop := nearOthersRow.holds Tryz.pinned (OpenSpec.ofChange nearOthersSpec)

/-- ITS FALSE NEIGHBOUR: 'it returns false'. Refute it at one input. -/
def nearOthersWrong : ChangeSpec := { name := "nearOthers", fn := fun _ => fun
  | [d1, d2, d3, d4] => { results := [.lit (.bool false)], args := [d1, d2, d3, d4] }
  | _ => none }
def NearOthersWrongFalsely : Prop := nearOthersRow.holds Tryz.pinned (OpenSpec.ofChange nearOthersWrong)

/-- 'afterwordlaw17.NearReaches': WHATEVER THE INPUT: true; the input reads as it did. -/
def nearReachesSpec : ChangeSpec := { name := "nearReaches", fn := fun _ => fun
  | [d1, d2, d3, d4] => { results := [.lit (.bool true)], args := [d1, d2, d3, d4] }
  | _ => none }
def nearReachesRow : OpenClaim := { program := "ytdhphbedajhmnaagreat", sum := "cad77be67bf7ef5bc8a37e6e4a3e5fbfe8320742ffaacf4a7e484dddbd9c85f8", func := "afterword/afterwordlaw17.NearReaches", spec := "nearReaches", unfollowed := true, recurses := true, loops := true, plainKeys := false, apart := false }
def NearReachesSaid : Prop := nearReachesRow.holds Tryz.pinned (OpenSpec.ofChange nearReachesSpec)

/-- ITS FALSE NEIGHBOUR: 'it returns false'. Refute it at one input. -/
def nearReachesWrong : ChangeSpec := { name := "nearReaches", fn := fun _ => fun
  | [d1, d2, d3, d4] => { results := [.lit (.bool false)], args := [d1, d2, d3, d4] }
  | _ => none }
def NearReachesWrongFalsely : Prop := nearReachesRow.holds Tryz.pinned (OpenSpec.ofChange nearReachesWrong)

/-- 'afterwordlaw17.NearKnown': WHATEVER THE INPUT: true; the input reads as it did. -/
def nearKnownSpec : ChangeSpec := { name := "nearKnown", fn := fun _ => fun
  | [] => { results := [.lit (.bool true)], args := [] }
  | _ => none }
def nearKnownRow : OpenClaim := { program := "ytdhphbedajhmnaagreat", sum := "cad77be67bf7ef5bc8a37e6e4a3e5fbfe8320742ffaacf4a7e484dddbd9c85f8", func := "afterword/afterwordlaw17.NearKnown", spec := "nearKnown", unfollowed := true, recurses := true, plainKeys := false, apart := false }
def NearKnownSaid : Prop := nearKnownRow.holds Tryz.pinned (OpenSpec.ofChange nearKnownSpec)

/-- ITS FALSE NEIGHBOUR: 'it returns false'. Refute it at one input. -/
def nearKnownWrong : ChangeSpec := { name := "nearKnown", fn := fun _ => fun
  | [] => { results := [.lit (.bool false)], args := [] }
  | _ => none }
def NearKnownWrongFalsely : Prop := nearKnownRow.holds Tryz.pinned (OpenSpec.ofChange nearKnownWrong)

/-- 'afterwordlaw17.NearPut': WHATEVER THE INPUT: true; the input reads as it did. -/
def nearPutSpec : ChangeSpec := { name := "nearPut", fn := fun _ => fun
  | [d1, d2, d3] => { results := [.lit (.bool true)], args := [d1, d2, d3] }
  | _ => none }
def nearPutRow : OpenClaim := { program := "ytdhphbedajhmnaagreat", sum := "cad77be67bf7ef5bc8a37e6e4a3e5fbfe8320742ffaacf4a7e484dddbd9c85f8", func := "afterword/afterwordlaw17.NearPut", spec := "nearPut", unfollowed := true, recurses := true, loops := true, plainKeys := false, apart := false }
def NearPutSaid : Prop := nearPutRow.holds Tryz.pinned (OpenSpec.ofChange nearPutSpec)

/-- ITS FALSE NEIGHBOUR: 'it returns false'. Refute it at one input. -/
def nearPutWrong : ChangeSpec := { name := "nearPut", fn := fun _ => fun
  | [d1, d2, d3] => { results := [.lit (.bool false)], args := [d1, d2, d3] }
  | _ => none }
def NearPutWrongFalsely : Prop := nearPutRow.holds Tryz.pinned (OpenSpec.ofChange nearPutWrong)

/-- 'afterwordlaw17.NearSound': WHATEVER THE INPUT: true; the input reads as it did. -/
def nearSoundSpec : ChangeSpec := { name := "nearSound", fn := fun _ => fun
  | [d1, d2, d3, d4] => { results := [.lit (.bool true)], args := [d1, d2, d3, d4] }
  | _ => none }
def nearSoundRow : OpenClaim := { program := "ytdhphbedajhmnaagreat", sum := "cad77be67bf7ef5bc8a37e6e4a3e5fbfe8320742ffaacf4a7e484dddbd9c85f8", func := "afterword/afterwordlaw17.NearSound", spec := "nearSound", unfollowed := true, recurses := true, loops := true, plainKeys := false, apart := false }
def NearSoundSaid : Prop := nearSoundRow.holds Tryz.pinned (OpenSpec.ofChange nearSoundSpec)

/-- ITS FALSE NEIGHBOUR: 'it returns false'. Refute it at one input. -/
def nearSoundWrong : ChangeSpec := { name := "nearSound", fn := fun _ => fun
  | [d1, d2, d3, d4] => { results := [.lit (.bool false)], args := [d1, d2, d3, d4] }
  | _ => none }
def NearSoundWrongFalsely : Prop := nearSoundRow.holds Tryz.pinned (OpenSpec.ofChange nearSoundWrong)

/-- 'afterwordlaw17.NearSealed': WHATEVER THE INPUT: true; the input reads as it did. -/
def nearSealedSpec : ChangeSpec := { name := "nearSealed", fn := fun _ => fun
  | [d1, d2, d3] => { results := [.lit (.bool true)], args := [d1, d2, d3] }
  | _ => none }
def nearSealedRow : OpenClaim := { program := "ytdhphbedajhmnaagreat", sum := "cad77be67bf7ef5bc8a37e6e4a3e5fbfe8320742ffaacf4a7e484dddbd9c85f8", func := "afterword/afterwordlaw17.NearSealed", spec := "nearSealed", unfollowed := true, recurses := true, loops := true, plainKeys := false, apart := false }
def NearSealedSaid : Prop := nearSealedRow.holds Tryz.pinned (OpenSpec.ofChange nearSealedSpec)

/-- ITS FALSE NEIGHBOUR: 'it returns false'. Refute it at one input. -/
def nearSealedWrong : ChangeSpec := { name := "nearSealed", fn := fun _ => fun
  | [d1, d2, d3] => { results := [.lit (.bool false)], args := [d1, d2, d3] }
  | _ => none }
def NearSealedWrongFalsely : Prop := nearSealedRow.holds Tryz.pinned (OpenSpec.ofChange nearSealedWrong)

/-- 'afterwordlaw17.NearTight': WHATEVER THE INPUT: true; the input reads as it did. -/
def nearTightSpec : ChangeSpec := { name := "nearTight", fn := fun _ => fun
  | [d1, d2, d3, d4] => { results := [.lit (.bool true)], args := [d1, d2, d3, d4] }
  | _ => none }
def nearTightRow : OpenClaim := { program := "ytdhphbedajhmnaagreat", sum := "cad77be67bf7ef5bc8a37e6e4a3e5fbfe8320742ffaacf4a7e484dddbd9c85f8", func := "afterword/afterwordlaw17.NearTight", spec := "nearTight", unfollowed := true, recurses := true, loops := true, plainKeys := false, apart := false }
def NearTightSaid : Prop := nearTightRow.holds Tryz.pinned (OpenSpec.ofChange nearTightSpec)

/-- ITS FALSE NEIGHBOUR: 'it returns false'. Refute it at one input. -/
def nearTightWrong : ChangeSpec := { name := "nearTight", fn := fun _ => fun
  | [d1, d2, d3, d4] => { results := [.lit (.bool false)], args := [d1, d2, d3, d4] }
  | _ => none }
def NearTightWrongFalsely : Prop := nearTightRow.holds Tryz.pinned (OpenSpec.ofChange nearTightWrong)

/- THE SECOND FORM. 'bulk': how many values and letters a reading holds, each counted each time it is reached (what is shared counts as often as it is met; a slice's spare places count too). A statement '..UptoSaid' is the law's where the arguments, and the package variables that the reading takes, are together of bulk at most 1048576: NARROWER than '..Said'. Prove '..Said' where nothing that the law and all that it calls make is longer than what came in: it says more and counts as full. Else prove '..UptoSaid'. A law counts once. -/
mutual
def uptoBulk {H : Type} : DataW H → Nat
  | .lit (.string bytes) => bytes.length + 1
  | .lit _ => 1
  | .nil => 1
  | .ptr d => uptoBulk d + 1
  | .slice elems spare => uptoBulkAll elems + uptoBulkAll spare + 1
  | .agg parts => uptoBulkAll parts + 1
  | .iface _ d => uptoBulk d + 1
  | .map entries => uptoBulkEntries entries + 1
  | .held _ => 1
def uptoBulkAll {H : Type} : List (DataW H) → Nat
  | [] => 0
  | d :: r => uptoBulk d + uptoBulkAll r
def uptoBulkEntries {H : Type} : List (Lit × DataW H) → Nat
  | [] => 0
  | x :: r => uptoBulkEntry x + uptoBulkEntries r
def uptoBulkEntry {H : Type} : Lit × DataW H → Nat
  | (.string bytes, d) => bytes.length + uptoBulk d + 1
  | (_, d) => uptoBulk d + 1
 end
def uptoSmall : (H : Type) → List (DataW H) → Bool := fun _ ds => decide (uptoBulkAll ds ≤ 1048576)
def OpenSpec.upto (s : _root_.Go.ChangeSpec) : _root_.Go.OpenSpec := { _root_.Go.OpenSpec.ofChange s with cond := some uptoSmall }

/-- 'afterwordlaw17.NearPlain', WHERE WHAT IT READS IS OF BULK AT MOST 1048576: true; the input reads as it did. -/
def nearPlainUptoRow : OpenClaim := { program := "ytdhphbedajhmnaagreat", sum := "cad77be67bf7ef5bc8a37e6e4a3e5fbfe8320742ffaacf4a7e484dddbd9c85f8", func := "afterword/afterwordlaw17.NearPlain", spec := "nearPlain", unfollowed := true, recurses := true, loops := true, plainKeys := false, apart := false, narrowed := true }
def NearPlainUptoSaid : Prop := nearPlainUptoRow.holds Tryz.pinned (OpenSpec.upto nearPlainSpec)

/-- 'afterwordlaw17.NearBounds', WHERE WHAT IT READS IS OF BULK AT MOST 1048576: true; the input reads as it did. -/
def nearBoundsUptoRow : OpenClaim := { program := "ytdhphbedajhmnaagreat", sum := "cad77be67bf7ef5bc8a37e6e4a3e5fbfe8320742ffaacf4a7e484dddbd9c85f8", func := "afterword/afterwordlaw17.NearBounds", spec := "nearBounds", unfollowed := true, recurses := true, loops := true, plainKeys := false, apart := false, narrowed := true }
def NearBoundsUptoSaid : Prop := nearBoundsUptoRow.holds Tryz.pinned (OpenSpec.upto nearBoundsSpec)

/-- 'afterwordlaw17.NearGrows', WHERE WHAT IT READS IS OF BULK AT MOST 1048576: true; the input reads as it did. -/
def nearGrowsUptoRow : OpenClaim := { program := "ytdhphbedajhmnaagreat", sum := "cad77be67bf7ef5bc8a37e6e4a3e5fbfe8320742ffaacf4a7e484dddbd9c85f8", func := "afterword/afterwordlaw17.NearGrows", spec := "nearGrows", unfollowed := true, recurses := true, loops := true, plainKeys := false, apart := false, narrowed := true }
def NearGrowsUptoSaid : Prop := nearGrowsUptoRow.holds Tryz.pinned (OpenSpec.upto nearGrowsSpec)

/-- 'afterwordlaw17.NearHeard', WHERE WHAT IT READS IS OF BULK AT MOST 1048576: true; the input reads as it did. -/
def nearHeardUptoRow : OpenClaim := { program := "ytdhphbedajhmnaagreat", sum := "cad77be67bf7ef5bc8a37e6e4a3e5fbfe8320742ffaacf4a7e484dddbd9c85f8", func := "afterword/afterwordlaw17.NearHeard", spec := "nearHeard", unfollowed := true, recurses := true, loops := true, plainKeys := false, apart := false, narrowed := true }
def NearHeardUptoSaid : Prop := nearHeardUptoRow.holds Tryz.pinned (OpenSpec.upto nearHeardSpec)

/-- 'afterwordlaw17.NearFolds', WHERE WHAT IT READS IS OF BULK AT MOST 1048576: true; the input reads as it did. -/
def nearFoldsUptoRow : OpenClaim := { program := "ytdhphbedajhmnaagreat", sum := "cad77be67bf7ef5bc8a37e6e4a3e5fbfe8320742ffaacf4a7e484dddbd9c85f8", func := "afterword/afterwordlaw17.NearFolds", spec := "nearFolds", unfollowed := true, recurses := true, loops := true, plainKeys := false, apart := false, narrowed := true }
def NearFoldsUptoSaid : Prop := nearFoldsUptoRow.holds Tryz.pinned (OpenSpec.upto nearFoldsSpec)

/-- 'afterwordlaw17.NearOthers', WHERE WHAT IT READS IS OF BULK AT MOST 1048576: true; the input reads as it did. -/
def nearOthersUptoRow : OpenClaim := { program := "ytdhphbedajhmnaagreat", sum := "cad77be67bf7ef5bc8a37e6e4a3e5fbfe8320742ffaacf4a7e484dddbd9c85f8", func := "afterword/afterwordlaw17.NearOthers", spec := "nearOthers", unfollowed := true, recurses := true, loops := true, plainKeys := false, apart := false, narrowed := true }
def NearOthersUptoSaid : Prop := nearOthersUptoRow.holds Tryz.pinned (OpenSpec.upto nearOthersSpec)

/-- 'afterwordlaw17.NearReaches', WHERE WHAT IT READS IS OF BULK AT MOST 1048576: true; the input reads as it did. -/
def nearReachesUptoRow : OpenClaim := { program := "ytdhphbedajhmnaagreat", sum := "cad77be67bf7ef5bc8a37e6e4a3e5fbfe8320742ffaacf4a7e484dddbd9c85f8", func := "afterword/afterwordlaw17.NearReaches", spec := "nearReaches", unfollowed := true, recurses := true, loops := true, plainKeys := false, apart := false, narrowed := true }
def NearReachesUptoSaid : Prop := nearReachesUptoRow.holds Tryz.pinned (OpenSpec.upto nearReachesSpec)

/-- 'afterwordlaw17.NearKnown', WHERE WHAT IT READS IS OF BULK AT MOST 1048576: true; the input reads as it did. -/
def nearKnownUptoRow : OpenClaim := { program := "ytdhphbedajhmnaagreat", sum := "cad77be67bf7ef5bc8a37e6e4a3e5fbfe8320742ffaacf4a7e484dddbd9c85f8", func := "afterword/afterwordlaw17.NearKnown", spec := "nearKnown", unfollowed := true, recurses := true, plainKeys := false, apart := false, narrowed := true }
def NearKnownUptoSaid : Prop := nearKnownUptoRow.holds Tryz.pinned (OpenSpec.upto nearKnownSpec)

/-- 'afterwordlaw17.NearPut', WHERE WHAT IT READS IS OF BULK AT MOST 1048576: true; the input reads as it did. -/
def nearPutUptoRow : OpenClaim := { program := "ytdhphbedajhmnaagreat", sum := "cad77be67bf7ef5bc8a37e6e4a3e5fbfe8320742ffaacf4a7e484dddbd9c85f8", func := "afterword/afterwordlaw17.NearPut", spec := "nearPut", unfollowed := true, recurses := true, loops := true, plainKeys := false, apart := false, narrowed := true }
def NearPutUptoSaid : Prop := nearPutUptoRow.holds Tryz.pinned (OpenSpec.upto nearPutSpec)

/-- 'afterwordlaw17.NearSound', WHERE WHAT IT READS IS OF BULK AT MOST 1048576: true; the input reads as it did. -/
def nearSoundUptoRow : OpenClaim := { program := "ytdhphbedajhmnaagreat", sum := "cad77be67bf7ef5bc8a37e6e4a3e5fbfe8320742ffaacf4a7e484dddbd9c85f8", func := "afterword/afterwordlaw17.NearSound", spec := "nearSound", unfollowed := true, recurses := true, loops := true, plainKeys := false, apart := false, narrowed := true }
def NearSoundUptoSaid : Prop := nearSoundUptoRow.holds Tryz.pinned (OpenSpec.upto nearSoundSpec)

/-- 'afterwordlaw17.NearSealed', WHERE WHAT IT READS IS OF BULK AT MOST 1048576: true; the input reads as it did. -/
def nearSealedUptoRow : OpenClaim := { program := "ytdhphbedajhmnaagreat", sum := "cad77be67bf7ef5bc8a37e6e4a3e5fbfe8320742ffaacf4a7e484dddbd9c85f8", func := "afterword/afterwordlaw17.NearSealed", spec := "nearSealed", unfollowed := true, recurses := true, loops := true, plainKeys := false, apart := false, narrowed := true }
def NearSealedUptoSaid : Prop := nearSealedUptoRow.holds Tryz.pinned (OpenSpec.upto nearSealedSpec)

/-- 'afterwordlaw17.NearTight', WHERE WHAT IT READS IS OF BULK AT MOST 1048576: true; the input reads as it did. -/
def nearTightUptoRow : OpenClaim := { program := "ytdhphbedajhmnaagreat", sum := "cad77be67bf7ef5bc8a37e6e4a3e5fbfe8320742ffaacf4a7e484dddbd9c85f8", func := "afterword/afterwordlaw17.NearTight", spec := "nearTight", unfollowed := true, recurses := true, loops := true, plainKeys := false, apart := false, narrowed := true }
def NearTightUptoSaid : Prop := nearTightUptoRow.holds Tryz.pinned (OpenSpec.upto nearTightSpec)

end Rows
end Go.Proofs.YtdhphbedajhmnaaGreat
