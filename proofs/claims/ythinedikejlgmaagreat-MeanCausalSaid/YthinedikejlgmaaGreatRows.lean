/-
  NARROWER THAN 'FOR EVERY INPUT', by the rows' own cells (each row's printed sentence says how): MeanCalcs: loops · MeanOrders: loops · MeanAnswers: loops · MeanNodes: loops · MeanEquations: loops · MeanCausal: loops · MeanLinear: loops · MeanNothing: loops · MeanTwice: loops · MeanPut: loops.
  DERIVED. THE GIVEN ROWS OF THIS SEAT. 10 by the template 'for every input the law returns true; each argument reads behind the call as it read before'; 0 by the template 'total and deterministic' (their statements: YthinedikejlgmaaGreatTotals.lean).
  GIVEN WITH THE SEED: the statements are not yours to turn. If you find one false, say at which input.
  Laid BY PROGRAM, IN A SANDBOX (cutbox-rows.mjs): the forced cells as the released guide's own fill.sh prints them over the translation 4bef5a0b0d54198e… (all of the seat's roots in one cut). By AI agents, Wed Nov 11 2026. No macro, syntax, notation, axiom, sorry.
-/
import Derived.Test.YthinedikejlgmaaGreatChecked
import GoSem.Claim
import GoSem.ClaimJoined
import GoSem.ClaimMapViews
import Derived.JoinedTies
import Derived.KernelRfl
namespace Go.Proofs.YthinedikejlgmaaGreat
/- THE CELL 'sum', in the pinned program and in every row, IS THE sha256 OF THE DUMP (.gsa) THAT YthinedikejlgmaaGreatProg.lean LOADS. Nothing in Lean hashes anything: it is a label: what it is worth is what the hold of that sum in a sandbox is worth. -/
noncomputable def Tryz.pinned : Pinned := { name := "ythinedikejlgmaagreat", sum := "4bef5a0b0d54198e42be2605e8ec13f1268531de3e10477aec95e36ee9329841", checked := Tryz.checked }
namespace Rows
def none {H : Type} : Left H := { results := [], args := [] }

/-- 'afterwordlaw06.MeanCalcs': WHATEVER THE INPUT: true; the input reads as it did. -/
def meanCalcsSpec : ChangeSpec := { name := "meanCalcs", fn := fun _ => fun
  | [d1, d2, d3] => { results := [.lit (.bool true)], args := [d1, d2, d3] }
  | _ => none }
def meanCalcsRow : OpenClaim := { program := "ythinedikejlgmaagreat", sum := "4bef5a0b0d54198e42be2605e8ec13f1268531de3e10477aec95e36ee9329841", func := "afterword/afterwordlaw06.MeanCalcs", spec := "meanCalcs", unfollowed := true, recurses := true, loops := true, plainKeys := false, apart := false }
def MeanCalcsSaid : Prop := meanCalcsRow.holds Tryz.pinned (OpenSpec.ofChange meanCalcsSpec)

/-- ITS FALSE NEIGHBOUR: 'it returns false'. Refute it at one input. -/
def meanCalcsWrong : ChangeSpec := { name := "meanCalcs", fn := fun _ => fun
  | [d1, d2, d3] => { results := [.lit (.bool false)], args := [d1, d2, d3] }
  | _ => none }
def MeanCalcsWrongFalsely : Prop := meanCalcsRow.holds Tryz.pinned (OpenSpec.ofChange meanCalcsWrong)

/-- 'afterwordlaw06.MeanOrders': WHATEVER THE INPUT: true; the input reads as it did. -/
def meanOrdersSpec : ChangeSpec := { name := "meanOrders", fn := fun _ => fun
  | [d1, d2, d3] => { results := [.lit (.bool true)], args := [d1, d2, d3] }
  | _ => none }
def meanOrdersRow : OpenClaim := { program := "ythinedikejlgmaagreat", sum := "4bef5a0b0d54198e42be2605e8ec13f1268531de3e10477aec95e36ee9329841", func := "afterword/afterwordlaw06.MeanOrders", spec := "meanOrders", unfollowed := true, recurses := true, loops := true, plainKeys := false, apart := false }
def MeanOrdersSaid : Prop := meanOrdersRow.holds Tryz.pinned (OpenSpec.ofChange meanOrdersSpec)

/-- ITS FALSE NEIGHBOUR: 'it returns false'. Refute it at one input. -/
def meanOrdersWrong : ChangeSpec := { name := "meanOrders", fn := fun _ => fun
  | [d1, d2, d3] => { results := [.lit (.bool false)], args := [d1, d2, d3] }
  | _ => none }
def MeanOrdersWrongFalsely : Prop := meanOrdersRow.holds Tryz.pinned (OpenSpec.ofChange meanOrdersWrong)

/-- 'afterwordlaw06.MeanAnswers': WHATEVER THE INPUT: true; the input reads as it did. -/
def meanAnswersSpec : ChangeSpec := { name := "meanAnswers", fn := fun _ => fun
  | [d1, d2] => { results := [.lit (.bool true)], args := [d1, d2] }
  | _ => none }
def meanAnswersRow : OpenClaim := { program := "ythinedikejlgmaagreat", sum := "4bef5a0b0d54198e42be2605e8ec13f1268531de3e10477aec95e36ee9329841", func := "afterword/afterwordlaw06.MeanAnswers", spec := "meanAnswers", unfollowed := true, recurses := true, loops := true, plainKeys := false, apart := false }
def MeanAnswersSaid : Prop := meanAnswersRow.holds Tryz.pinned (OpenSpec.ofChange meanAnswersSpec)

/-- ITS FALSE NEIGHBOUR: 'it returns false'. Refute it at one input. -/
def meanAnswersWrong : ChangeSpec := { name := "meanAnswers", fn := fun _ => fun
  | [d1, d2] => { results := [.lit (.bool false)], args := [d1, d2] }
  | _ => none }
def MeanAnswersWrongFalsely : Prop := meanAnswersRow.holds Tryz.pinned (OpenSpec.ofChange meanAnswersWrong)

/-- 'afterwordlaw06.MeanNodes': WHATEVER THE INPUT: true; the input reads as it did. -/
def meanNodesSpec : ChangeSpec := { name := "meanNodes", fn := fun _ => fun
  | [d1, d2, d3] => { results := [.lit (.bool true)], args := [d1, d2, d3] }
  | _ => none }
def meanNodesRow : OpenClaim := { program := "ythinedikejlgmaagreat", sum := "4bef5a0b0d54198e42be2605e8ec13f1268531de3e10477aec95e36ee9329841", func := "afterword/afterwordlaw06.MeanNodes", spec := "meanNodes", unfollowed := true, recurses := true, loops := true, plainKeys := false, apart := false }
def MeanNodesSaid : Prop := meanNodesRow.holds Tryz.pinned (OpenSpec.ofChange meanNodesSpec)

/-- ITS FALSE NEIGHBOUR: 'it returns false'. Refute it at one input. -/
def meanNodesWrong : ChangeSpec := { name := "meanNodes", fn := fun _ => fun
  | [d1, d2, d3] => { results := [.lit (.bool false)], args := [d1, d2, d3] }
  | _ => none }
def MeanNodesWrongFalsely : Prop := meanNodesRow.holds Tryz.pinned (OpenSpec.ofChange meanNodesWrong)

/-- 'afterwordlaw06.MeanEquations': WHATEVER THE INPUT: true; the input reads as it did. -/
def meanEquationsSpec : ChangeSpec := { name := "meanEquations", fn := fun _ => fun
  | [d1, d2, d3, d4] => { results := [.lit (.bool true)], args := [d1, d2, d3, d4] }
  | _ => none }
def meanEquationsRow : OpenClaim := { program := "ythinedikejlgmaagreat", sum := "4bef5a0b0d54198e42be2605e8ec13f1268531de3e10477aec95e36ee9329841", func := "afterword/afterwordlaw06.MeanEquations", spec := "meanEquations", unfollowed := true, recurses := true, loops := true, plainKeys := false, apart := false }
def MeanEquationsSaid : Prop := meanEquationsRow.holds Tryz.pinned (OpenSpec.ofChange meanEquationsSpec)

/-- ITS FALSE NEIGHBOUR: 'it returns false'. Refute it at one input. -/
def meanEquationsWrong : ChangeSpec := { name := "meanEquations", fn := fun _ => fun
  | [d1, d2, d3, d4] => { results := [.lit (.bool false)], args := [d1, d2, d3, d4] }
  | _ => none }
def MeanEquationsWrongFalsely : Prop := meanEquationsRow.holds Tryz.pinned (OpenSpec.ofChange meanEquationsWrong)

/-- 'afterwordlaw06.MeanCausal': WHATEVER THE INPUT: true; the input reads as it did. -/
def meanCausalSpec : ChangeSpec := { name := "meanCausal", fn := fun _ => fun
  | [d1, d2, d3] => { results := [.lit (.bool true)], args := [d1, d2, d3] }
  | _ => none }
def meanCausalRow : OpenClaim := { program := "ythinedikejlgmaagreat", sum := "4bef5a0b0d54198e42be2605e8ec13f1268531de3e10477aec95e36ee9329841", func := "afterword/afterwordlaw06.MeanCausal", spec := "meanCausal", unfollowed := true, recurses := true, loops := true, plainKeys := false, apart := false }
def MeanCausalSaid : Prop := meanCausalRow.holds Tryz.pinned (OpenSpec.ofChange meanCausalSpec)

/-- ITS FALSE NEIGHBOUR: 'it returns false'. Refute it at one input. -/
def meanCausalWrong : ChangeSpec := { name := "meanCausal", fn := fun _ => fun
  | [d1, d2, d3] => { results := [.lit (.bool false)], args := [d1, d2, d3] }
  | _ => none }
def MeanCausalWrongFalsely : Prop := meanCausalRow.holds Tryz.pinned (OpenSpec.ofChange meanCausalWrong)

/-- 'afterwordlaw06.MeanLinear': WHATEVER THE INPUT: true; the input reads as it did. -/
def meanLinearSpec : ChangeSpec := { name := "meanLinear", fn := fun _ => fun
  | [d1, d2, d3] => { results := [.lit (.bool true)], args := [d1, d2, d3] }
  | _ => none }
def meanLinearRow : OpenClaim := { program := "ythinedikejlgmaagreat", sum := "4bef5a0b0d54198e42be2605e8ec13f1268531de3e10477aec95e36ee9329841", func := "afterword/afterwordlaw06.MeanLinear", spec := "meanLinear", unfollowed := true, recurses := true, loops := true, plainKeys := false, apart := false }
def MeanLinearSaid : Prop := meanLinearRow.holds Tryz.pinned (OpenSpec.ofChange meanLinearSpec)

/-- ITS FALSE NEIGHBOUR: 'it returns false'. Refute it at one input. -/
def meanLinearWrong : ChangeSpec := { name := "meanLinear", fn := fun _ => fun
  | [d1, d2, d3] => { results := [.lit (.bool false)], args := [d1, d2, d3] }
  | _ => none }
def MeanLinearWrongFalsely : Prop := meanLinearRow.holds Tryz.pinned (OpenSpec.ofChange meanLinearWrong)

/-- 'afterwordlaw06.MeanNothing': WHATEVER THE INPUT: true; the input reads as it did. -/
def meanNothingSpec : ChangeSpec := { name := "meanNothing", fn := fun _ => fun
  | [d1, d2, d3] => { results := [.lit (.bool true)], args := [d1, d2, d3] }
  | _ => none }
def meanNothingRow : OpenClaim := { program := "ythinedikejlgmaagreat", sum := "4bef5a0b0d54198e42be2605e8ec13f1268531de3e10477aec95e36ee9329841", func := "afterword/afterwordlaw06.MeanNothing", spec := "meanNothing", unfollowed := true, recurses := true, loops := true, plainKeys := false, apart := false }
def MeanNothingSaid : Prop := meanNothingRow.holds Tryz.pinned (OpenSpec.ofChange meanNothingSpec)

/-- ITS FALSE NEIGHBOUR: 'it returns false'. Refute it at one input. -/
def meanNothingWrong : ChangeSpec := { name := "meanNothing", fn := fun _ => fun
  | [d1, d2, d3] => { results := [.lit (.bool false)], args := [d1, d2, d3] }
  | _ => none }
def MeanNothingWrongFalsely : Prop := meanNothingRow.holds Tryz.pinned (OpenSpec.ofChange meanNothingWrong)

/-- 'afterwordlaw06.MeanTwice': WHATEVER THE INPUT: true; the input reads as it did. -/
def meanTwiceSpec : ChangeSpec := { name := "meanTwice", fn := fun _ => fun
  | [d1, d2, d3] => { results := [.lit (.bool true)], args := [d1, d2, d3] }
  | _ => none }
def meanTwiceRow : OpenClaim := { program := "ythinedikejlgmaagreat", sum := "4bef5a0b0d54198e42be2605e8ec13f1268531de3e10477aec95e36ee9329841", func := "afterword/afterwordlaw06.MeanTwice", spec := "meanTwice", unfollowed := true, recurses := true, loops := true, plainKeys := false, apart := false }
def MeanTwiceSaid : Prop := meanTwiceRow.holds Tryz.pinned (OpenSpec.ofChange meanTwiceSpec)

/-- ITS FALSE NEIGHBOUR: 'it returns false'. Refute it at one input. -/
def meanTwiceWrong : ChangeSpec := { name := "meanTwice", fn := fun _ => fun
  | [d1, d2, d3] => { results := [.lit (.bool false)], args := [d1, d2, d3] }
  | _ => none }
def MeanTwiceWrongFalsely : Prop := meanTwiceRow.holds Tryz.pinned (OpenSpec.ofChange meanTwiceWrong)

/-- 'afterwordlaw06.MeanPut': WHATEVER THE INPUT: true; the input reads as it did. -/
def meanPutSpec : ChangeSpec := { name := "meanPut", fn := fun _ => fun
  | [d1, d2, d3] => { results := [.lit (.bool true)], args := [d1, d2, d3] }
  | _ => none }
def meanPutRow : OpenClaim := { program := "ythinedikejlgmaagreat", sum := "4bef5a0b0d54198e42be2605e8ec13f1268531de3e10477aec95e36ee9329841", func := "afterword/afterwordlaw06.MeanPut", spec := "meanPut", unfollowed := true, recurses := true, loops := true, plainKeys := false, apart := false }
def MeanPutSaid : Prop := meanPutRow.holds Tryz.pinned (OpenSpec.ofChange meanPutSpec)

/-- ITS FALSE NEIGHBOUR: 'it returns false'. Refute it at one input. -/
def meanPutWrong : ChangeSpec := { name := "meanPut", fn := fun _ => fun
  | [d1, d2, d3] => { results := [.lit (.bool false)], args := [d1, d2, d3] }
  | _ => none }
def MeanPutWrongFalsely : Prop := meanPutRow.holds Tryz.pinned (OpenSpec.ofChange meanPutWrong)

/- THE SECOND FORM. 'bulk': how many values and letters a reading holds, each counted each time it is reached (what is shared counts as often as it is met; a slice's spare places count too). A statement '..UptoSaid' is the law's where the arguments, and the package variables that the reading takes, are together of bulk at most 1048576: NARROWER than '..Said'. Prove '..Said' where nothing that the law and all that it calls make is longer than what came in: it says more and counts as full. Else prove '..UptoSaid'. A law counts once. -/
mutual
def uptoBulk {H : Type} : DataW H → Nat
  | .lit (.string bytes) => bytes.length + 1
  | .lit _ => 1
  | .nil => 1
  | .ptr d => uptoBulk d + 1
  | .slice elems spare => uptoBulkAll elems + uptoBulkAll spare + 1
  | .agg parts => uptoBulkAll parts + 1
  | .iface _ d => uptoBulk d + 1
  | .map entries => uptoBulkEntries entries + 1
  | .held _ => 1
def uptoBulkAll {H : Type} : List (DataW H) → Nat
  | [] => 0
  | d :: r => uptoBulk d + uptoBulkAll r
def uptoBulkEntries {H : Type} : List (Lit × DataW H) → Nat
  | [] => 0
  | x :: r => uptoBulkEntry x + uptoBulkEntries r
def uptoBulkEntry {H : Type} : Lit × DataW H → Nat
  | (.string bytes, d) => bytes.length + uptoBulk d + 1
  | (_, d) => uptoBulk d + 1
 end
def uptoSmall : (H : Type) → List (DataW H) → Bool := fun _ ds => decide (uptoBulkAll ds ≤ 1048576)
def OpenSpec.upto (s : _root_.Go.ChangeSpec) : _root_.Go.OpenSpec := { _root_.Go.OpenSpec.ofChange s with cond := some uptoSmall }

/-- 'afterwordlaw06.MeanCalcs', WHERE WHAT IT READS IS OF BULK AT MOST 1048576: true; the input reads as it did. -/
def meanCalcsUptoRow : OpenClaim := { program := "ythinedikejlgmaagreat", sum := "4bef5a0b0d54198e42be2605e8ec13f1268531de3e10477aec95e36ee9329841", func := "afterword/afterwordlaw06.MeanCalcs", spec := "meanCalcs", unfollowed := true, recurses := true, loops := true, plainKeys := false, apart := false, narrowed := true }
def MeanCalcsUptoSaid : Prop := meanCalcsUptoRow.holds Tryz.pinned (OpenSpec.upto meanCalcsSpec)

/-- 'afterwordlaw06.MeanOrders', WHERE WHAT IT READS IS OF BULK AT MOST 1048576: true; the input reads as it did. -/
def meanOrdersUptoRow : OpenClaim := { program := "ythinedikejlgmaagreat", sum := "4bef5a0b0d54198e42be2605e8ec13f1268531de3e10477aec95e36ee9329841", func := "afterword/afterwordlaw06.MeanOrders", spec := "meanOrders", unfollowed := true, recurses := true, loops := true, plainKeys := false, apart := false, narrowed := true }
def MeanOrdersUptoSaid : Prop := meanOrdersUptoRow.holds Tryz.pinned (OpenSpec.upto meanOrdersSpec)

/-- 'afterwordlaw06.MeanAnswers', WHERE WHAT IT READS IS OF BULK AT MOST 1048576: true; the input reads as it did. -/
def meanAnswersUptoRow : OpenClaim := { program := "ythinedikejlgmaagreat", sum := "4bef5a0b0d54198e42be2605e8ec13f1268531de3e10477aec95e36ee9329841", func := "afterword/afterwordlaw06.MeanAnswers", spec := "meanAnswers", unfollowed := true, recurses := true, loops := true, plainKeys := false, apart := false, narrowed := true }
def MeanAnswersUptoSaid : Prop := meanAnswersUptoRow.holds Tryz.pinned (OpenSpec.upto meanAnswersSpec)

/-- 'afterwordlaw06.MeanNodes', WHERE WHAT IT READS IS OF BULK AT MOST 1048576: true; the input reads as it did. -/
def meanNodesUptoRow : OpenClaim := { program := "ythinedikejlgmaagreat", sum := "4bef5a0b0d54198e42be2605e8ec13f1268531de3e10477aec95e36ee9329841", func := "afterword/afterwordlaw06.MeanNodes", spec := "meanNodes", unfollowed := true, recurses := true, loops := true, plainKeys := false, apart := false, narrowed := true }
def MeanNodesUptoSaid : Prop := meanNodesUptoRow.holds Tryz.pinned (OpenSpec.upto meanNodesSpec)

/-- 'afterwordlaw06.MeanEquations', WHERE WHAT IT READS IS OF BULK AT MOST 1048576: true; the input reads as it did. -/
def meanEquationsUptoRow : OpenClaim := { program := "ythinedikejlgmaagreat", sum := "4bef5a0b0d54198e42be2605e8ec13f1268531de3e10477aec95e36ee9329841", func := "afterword/afterwordlaw06.MeanEquations", spec := "meanEquations", unfollowed := true, recurses := true, loops := true, plainKeys := false, apart := false, narrowed := true }
def MeanEquationsUptoSaid : Prop := meanEquationsUptoRow.holds Tryz.pinned (OpenSpec.upto meanEquationsSpec)

/-- 'afterwordlaw06.MeanCausal', WHERE WHAT IT READS IS OF BULK AT MOST 1048576: true; the input reads as it did. -/
def meanCausalUptoRow : OpenClaim := { program := "ythinedikejlgmaagreat", sum := "4bef5a0b0d54198e42be2605e8ec13f1268531de3e10477aec95e36ee9329841", func := "afterword/afterwordlaw06.MeanCausal", spec := "meanCausal", unfollowed := true, recurses := true, loops := true, plainKeys := false, apart := false, narrowed := true }
def MeanCausalUptoSaid : Prop := meanCausalUptoRow.holds Tryz.pinned (OpenSpec.upto meanCausalSpec)

/-- 'afterwordlaw06.MeanLinear', WHERE WHAT IT READS IS OF BULK AT MOST 1048576: true; the input reads as it did. -/
def meanLinearUptoRow : OpenClaim := { program := "ythinedikejlgmaagreat", sum := "4bef5a0b0d54198e42be2605e8ec13f1268531de3e10477aec95e36ee9329841", func := "afterword/afterwordlaw06.MeanLinear", spec := "meanLinear", unfollowed := true, recurses := true, loops := true, plainKeys := false, apart := false, narrowed := true }
def MeanLinearUptoSaid : Prop := meanLinearUptoRow.holds Tryz.pinned (OpenSpec.upto meanLinearSpec)

/-- 'afterwordlaw06.MeanNothing', WHERE WHAT IT READS IS OF BULK AT MOST 1048576: true; the input reads as it did. -/
def meanNothingUptoRow : OpenClaim := { program := "ythinedikejlgmaagreat", sum := "4bef5a0b0d54198e42be2605e8ec13f1268531de3e10477aec95e36ee9329841", func := "afterword/afterwordlaw06.MeanNothing", spec := "meanNothing", unfollowed := true, recurses := true, loops := true, plainKeys := false, apart := false, narrowed := true }
def MeanNothingUptoSaid : Prop := meanNothingUptoRow.holds Tryz.pinned (OpenSpec.upto meanNothingSpec)

/-- 'afterwordlaw06.MeanTwice', WHERE WHAT IT READS IS OF BULK AT MOST 1048576: true; the input reads as it did. -/
def meanTwiceUptoRow : OpenClaim := { program := "ythinedikejlgmaagreat", sum := "4bef5a0b0d54198e42be2605e8ec13f1268531de3e10477aec95e36ee9329841", func := "afterword/afterwordlaw06.MeanTwice", spec := "meanTwice", unfollowed := true, recurses := true, loops := true, plainKeys := false, apart := false, narrowed := true }
def MeanTwiceUptoSaid : Prop := meanTwiceUptoRow.holds Tryz.pinned (OpenSpec.upto meanTwiceSpec)

/-- 'afterwordlaw06.MeanPut', WHERE WHAT IT READS IS OF BULK AT MOST 1048576: true; the input reads as it did. -/
def meanPutUptoRow : OpenClaim := { program := "ythinedikejlgmaagreat", sum := "4bef5a0b0d54198e42be2605e8ec13f1268531de3e10477aec95e36ee9329841", func := "afterword/afterwordlaw06.MeanPut", spec := "meanPut", unfollowed := true, recurses := true, loops := true, plainKeys := false, apart := false, narrowed := true }
def MeanPutUptoSaid : Prop := meanPutUptoRow.holds Tryz.pinned (OpenSpec.upto meanPutSpec)

end Rows
end Go.Proofs.YthinedikejlgmaaGreat
