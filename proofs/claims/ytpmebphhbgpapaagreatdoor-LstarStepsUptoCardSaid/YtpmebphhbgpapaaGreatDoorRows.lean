/-
  NARROWER THAN 'FOR EVERY INPUT', by the rows' own cells (each row's printed sentence says how): TableValid: laid · TableNeeds: laid · TableRepairs: laid · TableGrows: laid · TableHypothesis: laid · TableReaches: laid · TableExplains: laid · TableProgress: laid · LstarSteps: laid · LstarRefines: laid · LstarGrows: laid.
  DERIVED. THE GIVEN ROWS OF THIS SEAT. 11 by the template 'for every input the law returns true; each argument reads behind the call as it read before'; 0 by the template 'total and deterministic' (their statements: YtpmebphhbgpapaaGreatDoorTotals.lean).
  GIVEN WITH THE SEED: the statements are not yours to turn. If you find one false, say at which input.
  Laid BY PROGRAM, IN A SANDBOX (cutbox-rows.mjs): the forced cells as the released guide's own fill.sh prints them over the translation 41313327adb0eef1… (all of the seat's roots in one cut). By AI agents, Wed Nov 11 2026. No macro, syntax, notation, axiom, sorry.
-/
import Derived.Test.YtpmebphhbgpapaaGreatDoorChecked
import GoSem.Claim
import GoSem.ClaimJoined
import GoSem.ClaimMapViews
import Derived.JoinedTies
import Derived.KernelRfl
namespace Go.Proofs.YtpmebphhbgpapaaGreatDoor
/- THE CELL 'sum', in the pinned program and in every row, IS THE sha256 OF THE DUMP (.gsa) THAT YtpmebphhbgpapaaGreatDoorProg.lean LOADS. Nothing in Lean hashes anything: it is a label: what it is worth is what the hold of that sum in a sandbox is worth. -/
noncomputable def Tryz.pinned : Pinned := { name := "ytpmebphhbgpapaagreatdoor", sum := "41313327adb0eef17c2d0d42a5d2b6ff3f8cbefecf99131c20dda513618169a7", checked := Tryz.checked }
namespace Rows
def none {H : Type} : Left H := { results := [], args := [] }

/- WHAT THE LISTED PACKAGE-LEVEL VARIABLES READ AS WHEN THE CALL BEGINS. Each datum BY PROGRAM (the guide's laid-datum.mjs) off the statement by which the dump's own 'gosem.cut.vars' lays the variable. In a bare row this is a premise. The card (YtpmebphhbgpapaaGreatDoorCards.lean) ties it to the program's text. -/
def laid_math_bits_deBruijn32tab {H : Type} : DataW H := .agg [.lit (.int .u8 0), .lit (.int .u8 1), .lit (.int .u8 28), .lit (.int .u8 2), .lit (.int .u8 29), .lit (.int .u8 14), .lit (.int .u8 24), .lit (.int .u8 3), .lit (.int .u8 30), .lit (.int .u8 22), .lit (.int .u8 20), .lit (.int .u8 15), .lit (.int .u8 25), .lit (.int .u8 17), .lit (.int .u8 4), .lit (.int .u8 8), .lit (.int .u8 31), .lit (.int .u8 27), .lit (.int .u8 13), .lit (.int .u8 23), .lit (.int .u8 21), .lit (.int .u8 19), .lit (.int .u8 16), .lit (.int .u8 7), .lit (.int .u8 26), .lit (.int .u8 12), .lit (.int .u8 18), .lit (.int .u8 6), .lit (.int .u8 11), .lit (.int .u8 5), .lit (.int .u8 10), .lit (.int .u8 9)]
def laid_math_bits_deBruijn64tab {H : Type} : DataW H := .agg [.lit (.int .u8 0), .lit (.int .u8 1), .lit (.int .u8 56), .lit (.int .u8 2), .lit (.int .u8 57), .lit (.int .u8 49), .lit (.int .u8 28), .lit (.int .u8 3), .lit (.int .u8 61), .lit (.int .u8 58), .lit (.int .u8 42), .lit (.int .u8 50), .lit (.int .u8 38), .lit (.int .u8 29), .lit (.int .u8 17), .lit (.int .u8 4), .lit (.int .u8 62), .lit (.int .u8 47), .lit (.int .u8 59), .lit (.int .u8 36), .lit (.int .u8 45), .lit (.int .u8 43), .lit (.int .u8 51), .lit (.int .u8 22), .lit (.int .u8 53), .lit (.int .u8 39), .lit (.int .u8 33), .lit (.int .u8 30), .lit (.int .u8 24), .lit (.int .u8 18), .lit (.int .u8 12), .lit (.int .u8 5), .lit (.int .u8 63), .lit (.int .u8 55), .lit (.int .u8 48), .lit (.int .u8 27), .lit (.int .u8 60), .lit (.int .u8 41), .lit (.int .u8 37), .lit (.int .u8 16), .lit (.int .u8 46), .lit (.int .u8 35), .lit (.int .u8 44), .lit (.int .u8 21), .lit (.int .u8 52), .lit (.int .u8 32), .lit (.int .u8 23), .lit (.int .u8 11), .lit (.int .u8 54), .lit (.int .u8 26), .lit (.int .u8 40), .lit (.int .u8 15), .lit (.int .u8 34), .lit (.int .u8 20), .lit (.int .u8 31), .lit (.int .u8 10), .lit (.int .u8 25), .lit (.int .u8 14), .lit (.int .u8 19), .lit (.int .u8 9), .lit (.int .u8 13), .lit (.int .u8 8), .lit (.int .u8 7), .lit (.int .u8 6)]
def laid_internal_strconv_uint64pow10 {H : Type} : DataW H := .agg [.lit (.int .u64 1), .lit (.int .u64 10), .lit (.int .u64 100), .lit (.int .u64 1000), .lit (.int .u64 10000), .lit (.int .u64 100000), .lit (.int .u64 1000000), .lit (.int .u64 10000000), .lit (.int .u64 100000000), .lit (.int .u64 1000000000), .lit (.int .u64 10000000000), .lit (.int .u64 100000000000), .lit (.int .u64 1000000000000), .lit (.int .u64 10000000000000), .lit (.int .u64 100000000000000), .lit (.int .u64 1000000000000000), .lit (.int .u64 10000000000000000), .lit (.int .u64 100000000000000000), .lit (.int .u64 1000000000000000000), .lit (.int .u64 10000000000000000000)]

/-- 'learnerlaw23.TableValid': WHATEVER THE INPUT: true; the input reads as it did. -/
def tableValidSpec : ChangeSpec := { name := "tableValid", fn := fun _ => fun
  | [d1, d2] => { results := [.lit (.bool true)], args := [d1, d2] }
  | _ => none }
def tableValidRow : OpenClaim := { program := "ytpmebphhbgpapaagreatdoor", sum := "41313327adb0eef17c2d0d42a5d2b6ff3f8cbefecf99131c20dda513618169a7", func := "learner/learnerlaw23.TableValid", spec := "tableValid", unfollowed := true, recurses := true, named := ["internal/strconv.uint64pow10", "math/bits.deBruijn32tab", "math/bits.deBruijn64tab"], apart := false, laid := [("math/bits.deBruijn32tab", laid_math_bits_deBruijn32tab), ("math/bits.deBruijn64tab", laid_math_bits_deBruijn64tab), ("internal/strconv.uint64pow10", laid_internal_strconv_uint64pow10)] }
def TableValidSaid : Prop := tableValidRow.holds Tryz.pinned (OpenSpec.ofChange tableValidSpec)

/-- ITS FALSE NEIGHBOUR: 'it returns false'. Refute it at one input. -/
def tableValidWrong : ChangeSpec := { name := "tableValid", fn := fun _ => fun
  | [d1, d2] => { results := [.lit (.bool false)], args := [d1, d2] }
  | _ => none }
def TableValidWrongFalsely : Prop := tableValidRow.holds Tryz.pinned (OpenSpec.ofChange tableValidWrong)

/-- 'learnerlaw23.TableNeeds': WHATEVER THE INPUT: true; the input reads as it did. -/
def tableNeedsSpec : ChangeSpec := { name := "tableNeeds", fn := fun _ => fun
  | [d1, d2, d3] => { results := [.lit (.bool true)], args := [d1, d2, d3] }
  | _ => none }
def tableNeedsRow : OpenClaim := { program := "ytpmebphhbgpapaagreatdoor", sum := "41313327adb0eef17c2d0d42a5d2b6ff3f8cbefecf99131c20dda513618169a7", func := "learner/learnerlaw23.TableNeeds", spec := "tableNeeds", unfollowed := true, recurses := true, named := ["internal/strconv.uint64pow10", "math/bits.deBruijn32tab", "math/bits.deBruijn64tab"], apart := false, laid := [("math/bits.deBruijn32tab", laid_math_bits_deBruijn32tab), ("math/bits.deBruijn64tab", laid_math_bits_deBruijn64tab), ("internal/strconv.uint64pow10", laid_internal_strconv_uint64pow10)] }
def TableNeedsSaid : Prop := tableNeedsRow.holds Tryz.pinned (OpenSpec.ofChange tableNeedsSpec)

/-- ITS FALSE NEIGHBOUR: 'it returns false'. Refute it at one input. -/
def tableNeedsWrong : ChangeSpec := { name := "tableNeeds", fn := fun _ => fun
  | [d1, d2, d3] => { results := [.lit (.bool false)], args := [d1, d2, d3] }
  | _ => none }
def TableNeedsWrongFalsely : Prop := tableNeedsRow.holds Tryz.pinned (OpenSpec.ofChange tableNeedsWrong)

/-- 'learnerlaw23.TableRepairs': WHATEVER THE INPUT: true; the input reads as it did. -/
def tableRepairsSpec : ChangeSpec := { name := "tableRepairs", fn := fun _ => fun
  | [d1, d2] => { results := [.lit (.bool true)], args := [d1, d2] }
  | _ => none }
def tableRepairsRow : OpenClaim := { program := "ytpmebphhbgpapaagreatdoor", sum := "41313327adb0eef17c2d0d42a5d2b6ff3f8cbefecf99131c20dda513618169a7", func := "learner/learnerlaw23.TableRepairs", spec := "tableRepairs", unfollowed := true, recurses := true, named := ["internal/strconv.uint64pow10", "math/bits.deBruijn32tab", "math/bits.deBruijn64tab"], apart := false, laid := [("math/bits.deBruijn32tab", laid_math_bits_deBruijn32tab), ("math/bits.deBruijn64tab", laid_math_bits_deBruijn64tab), ("internal/strconv.uint64pow10", laid_internal_strconv_uint64pow10)] }
def TableRepairsSaid : Prop := tableRepairsRow.holds Tryz.pinned (OpenSpec.ofChange tableRepairsSpec)

/-- ITS FALSE NEIGHBOUR: 'it returns false'. Refute it at one input. -/
def tableRepairsWrong : ChangeSpec := { name := "tableRepairs", fn := fun _ => fun
  | [d1, d2] => { results := [.lit (.bool false)], args := [d1, d2] }
  | _ => none }
def TableRepairsWrongFalsely : Prop := tableRepairsRow.holds Tryz.pinned (OpenSpec.ofChange tableRepairsWrong)

/-- 'learnerlaw23.TableGrows': WHATEVER THE INPUT: true; the input reads as it did. -/
def tableGrowsSpec : ChangeSpec := { name := "tableGrows", fn := fun _ => fun
  | [d1, d2] => { results := [.lit (.bool true)], args := [d1, d2] }
  | _ => none }
def tableGrowsRow : OpenClaim := { program := "ytpmebphhbgpapaagreatdoor", sum := "41313327adb0eef17c2d0d42a5d2b6ff3f8cbefecf99131c20dda513618169a7", func := "learner/learnerlaw23.TableGrows", spec := "tableGrows", unfollowed := true, recurses := true, named := ["internal/strconv.uint64pow10", "math/bits.deBruijn32tab", "math/bits.deBruijn64tab"], apart := false, laid := [("math/bits.deBruijn32tab", laid_math_bits_deBruijn32tab), ("math/bits.deBruijn64tab", laid_math_bits_deBruijn64tab), ("internal/strconv.uint64pow10", laid_internal_strconv_uint64pow10)] }
def TableGrowsSaid : Prop := tableGrowsRow.holds Tryz.pinned (OpenSpec.ofChange tableGrowsSpec)

/-- ITS FALSE NEIGHBOUR: 'it returns false'. Refute it at one input. -/
def tableGrowsWrong : ChangeSpec := { name := "tableGrows", fn := fun _ => fun
  | [d1, d2] => { results := [.lit (.bool false)], args := [d1, d2] }
  | _ => none }
def TableGrowsWrongFalsely : Prop := tableGrowsRow.holds Tryz.pinned (OpenSpec.ofChange tableGrowsWrong)

/-- 'learnerlaw23.TableHypothesis': WHATEVER THE INPUT: true; the input reads as it did. -/
def tableHypothesisSpec : ChangeSpec := { name := "tableHypothesis", fn := fun _ => fun
  | [d1, d2] => { results := [.lit (.bool true)], args := [d1, d2] }
  | _ => none }
def tableHypothesisRow : OpenClaim := { program := "ytpmebphhbgpapaagreatdoor", sum := "41313327adb0eef17c2d0d42a5d2b6ff3f8cbefecf99131c20dda513618169a7", func := "learner/learnerlaw23.TableHypothesis", spec := "tableHypothesis", unfollowed := true, recurses := true, named := ["internal/strconv.uint64pow10", "math/bits.deBruijn32tab", "math/bits.deBruijn64tab"], apart := false, laid := [("math/bits.deBruijn32tab", laid_math_bits_deBruijn32tab), ("math/bits.deBruijn64tab", laid_math_bits_deBruijn64tab), ("internal/strconv.uint64pow10", laid_internal_strconv_uint64pow10)] }
def TableHypothesisSaid : Prop := tableHypothesisRow.holds Tryz.pinned (OpenSpec.ofChange tableHypothesisSpec)

/-- ITS FALSE NEIGHBOUR: 'it returns false'. Refute it at one input. -/
def tableHypothesisWrong : ChangeSpec := { name := "tableHypothesis", fn := fun _ => fun
  | [d1, d2] => { results := [.lit (.bool false)], args := [d1, d2] }
  | _ => none }
def TableHypothesisWrongFalsely : Prop := tableHypothesisRow.holds Tryz.pinned (OpenSpec.ofChange tableHypothesisWrong)

/-- 'learnerlaw23.TableReaches': WHATEVER THE INPUT: true; the input reads as it did. -/
def tableReachesSpec : ChangeSpec := { name := "tableReaches", fn := fun _ => fun
  | [d1, d2] => { results := [.lit (.bool true)], args := [d1, d2] }
  | _ => none }
def tableReachesRow : OpenClaim := { program := "ytpmebphhbgpapaagreatdoor", sum := "41313327adb0eef17c2d0d42a5d2b6ff3f8cbefecf99131c20dda513618169a7", func := "learner/learnerlaw23.TableReaches", spec := "tableReaches", unfollowed := true, recurses := true, named := ["internal/strconv.uint64pow10", "math/bits.deBruijn32tab", "math/bits.deBruijn64tab"], apart := false, laid := [("math/bits.deBruijn32tab", laid_math_bits_deBruijn32tab), ("math/bits.deBruijn64tab", laid_math_bits_deBruijn64tab), ("internal/strconv.uint64pow10", laid_internal_strconv_uint64pow10)] }
def TableReachesSaid : Prop := tableReachesRow.holds Tryz.pinned (OpenSpec.ofChange tableReachesSpec)

/-- ITS FALSE NEIGHBOUR: 'it returns false'. Refute it at one input. -/
def tableReachesWrong : ChangeSpec := { name := "tableReaches", fn := fun _ => fun
  | [d1, d2] => { results := [.lit (.bool false)], args := [d1, d2] }
  | _ => none }
def TableReachesWrongFalsely : Prop := tableReachesRow.holds Tryz.pinned (OpenSpec.ofChange tableReachesWrong)

/-- 'learnerlaw23.TableExplains': WHATEVER THE INPUT: true; the input reads as it did. -/
def tableExplainsSpec : ChangeSpec := { name := "tableExplains", fn := fun _ => fun
  | [d1, d2] => { results := [.lit (.bool true)], args := [d1, d2] }
  | _ => none }
def tableExplainsRow : OpenClaim := { program := "ytpmebphhbgpapaagreatdoor", sum := "41313327adb0eef17c2d0d42a5d2b6ff3f8cbefecf99131c20dda513618169a7", func := "learner/learnerlaw23.TableExplains", spec := "tableExplains", unfollowed := true, recurses := true, named := ["internal/strconv.uint64pow10", "math/bits.deBruijn32tab", "math/bits.deBruijn64tab"], apart := false, laid := [("math/bits.deBruijn32tab", laid_math_bits_deBruijn32tab), ("math/bits.deBruijn64tab", laid_math_bits_deBruijn64tab), ("internal/strconv.uint64pow10", laid_internal_strconv_uint64pow10)] }
def TableExplainsSaid : Prop := tableExplainsRow.holds Tryz.pinned (OpenSpec.ofChange tableExplainsSpec)

/-- ITS FALSE NEIGHBOUR: 'it returns false'. Refute it at one input. -/
def tableExplainsWrong : ChangeSpec := { name := "tableExplains", fn := fun _ => fun
  | [d1, d2] => { results := [.lit (.bool false)], args := [d1, d2] }
  | _ => none }
def TableExplainsWrongFalsely : Prop := tableExplainsRow.holds Tryz.pinned (OpenSpec.ofChange tableExplainsWrong)

/-- 'learnerlaw23.TableProgress': WHATEVER THE INPUT: true; the input reads as it did. -/
def tableProgressSpec : ChangeSpec := { name := "tableProgress", fn := fun _ => fun
  | [d1, d2] => { results := [.lit (.bool true)], args := [d1, d2] }
  | _ => none }
def tableProgressRow : OpenClaim := { program := "ytpmebphhbgpapaagreatdoor", sum := "41313327adb0eef17c2d0d42a5d2b6ff3f8cbefecf99131c20dda513618169a7", func := "learner/learnerlaw23.TableProgress", spec := "tableProgress", unfollowed := true, recurses := true, named := ["internal/strconv.uint64pow10", "math/bits.deBruijn32tab", "math/bits.deBruijn64tab"], apart := false, laid := [("math/bits.deBruijn32tab", laid_math_bits_deBruijn32tab), ("math/bits.deBruijn64tab", laid_math_bits_deBruijn64tab), ("internal/strconv.uint64pow10", laid_internal_strconv_uint64pow10)] }
def TableProgressSaid : Prop := tableProgressRow.holds Tryz.pinned (OpenSpec.ofChange tableProgressSpec)

/-- ITS FALSE NEIGHBOUR: 'it returns false'. Refute it at one input. -/
def tableProgressWrong : ChangeSpec := { name := "tableProgress", fn := fun _ => fun
  | [d1, d2] => { results := [.lit (.bool false)], args := [d1, d2] }
  | _ => none }
def TableProgressWrongFalsely : Prop := tableProgressRow.holds Tryz.pinned (OpenSpec.ofChange tableProgressWrong)

/-- 'learnerlaw24.LstarSteps': WHATEVER THE INPUT: true; the input reads as it did. -/
def lstarStepsSpec : ChangeSpec := { name := "lstarSteps", fn := fun _ => fun
  | [d1, d2] => { results := [.lit (.bool true)], args := [d1, d2] }
  | _ => none }
def lstarStepsRow : OpenClaim := { program := "ytpmebphhbgpapaagreatdoor", sum := "41313327adb0eef17c2d0d42a5d2b6ff3f8cbefecf99131c20dda513618169a7", func := "learner/learnerlaw24.LstarSteps", spec := "lstarSteps", unfollowed := true, recurses := true, named := ["internal/strconv.uint64pow10", "math/bits.deBruijn32tab", "math/bits.deBruijn64tab"], apart := false, laid := [("math/bits.deBruijn32tab", laid_math_bits_deBruijn32tab), ("math/bits.deBruijn64tab", laid_math_bits_deBruijn64tab), ("internal/strconv.uint64pow10", laid_internal_strconv_uint64pow10)] }
def LstarStepsSaid : Prop := lstarStepsRow.holds Tryz.pinned (OpenSpec.ofChange lstarStepsSpec)

/-- ITS FALSE NEIGHBOUR: 'it returns false'. Refute it at one input. -/
def lstarStepsWrong : ChangeSpec := { name := "lstarSteps", fn := fun _ => fun
  | [d1, d2] => { results := [.lit (.bool false)], args := [d1, d2] }
  | _ => none }
def LstarStepsWrongFalsely : Prop := lstarStepsRow.holds Tryz.pinned (OpenSpec.ofChange lstarStepsWrong)

/-- 'learnerlaw24.LstarRefines': WHATEVER THE INPUT: true; the input reads as it did. -/
def lstarRefinesSpec : ChangeSpec := { name := "lstarRefines", fn := fun _ => fun
  | [d1, d2, d3] => { results := [.lit (.bool true)], args := [d1, d2, d3] }
  | _ => none }
def lstarRefinesRow : OpenClaim := { program := "ytpmebphhbgpapaagreatdoor", sum := "41313327adb0eef17c2d0d42a5d2b6ff3f8cbefecf99131c20dda513618169a7", func := "learner/learnerlaw24.LstarRefines", spec := "lstarRefines", unfollowed := true, recurses := true, named := ["internal/strconv.uint64pow10", "math/bits.deBruijn32tab", "math/bits.deBruijn64tab"], apart := false, laid := [("math/bits.deBruijn32tab", laid_math_bits_deBruijn32tab), ("math/bits.deBruijn64tab", laid_math_bits_deBruijn64tab), ("internal/strconv.uint64pow10", laid_internal_strconv_uint64pow10)] }
def LstarRefinesSaid : Prop := lstarRefinesRow.holds Tryz.pinned (OpenSpec.ofChange lstarRefinesSpec)

/-- ITS FALSE NEIGHBOUR: 'it returns false'. Refute it at one input. -/
def lstarRefinesWrong : ChangeSpec := { name := "lstarRefines", fn := fun _ => fun
  | [d1, d2, d3] => { results := [.lit (.bool false)], args := [d1, d2, d3] }
  | _ => none }
def LstarRefinesWrongFalsely : Prop := lstarRefinesRow.holds Tryz.pinned (OpenSpec.ofChange lstarRefinesWrong)

/-- 'learnerlaw24.LstarGrows': WHATEVER THE INPUT: true; the input reads as it did. -/
def lstarGrowsSpec : ChangeSpec := { name := "lstarGrows", fn := fun _ => fun
  | [d1, d2, d3] => { results := [.lit (.bool true)], args := [d1, d2, d3] }
  | _ => none }
def lstarGrowsRow : OpenClaim := { program := "ytpmebphhbgpapaagreatdoor", sum := "41313327adb0eef17c2d0d42a5d2b6ff3f8cbefecf99131c20dda513618169a7", func := "learner/learnerlaw24.LstarGrows", spec := "lstarGrows", unfollowed := true, recurses := true, named := ["internal/strconv.uint64pow10", "math/bits.deBruijn32tab", "math/bits.deBruijn64tab"], apart := false, laid := [("math/bits.deBruijn32tab", laid_math_bits_deBruijn32tab), ("math/bits.deBruijn64tab", laid_math_bits_deBruijn64tab), ("internal/strconv.uint64pow10", laid_internal_strconv_uint64pow10)] }
def LstarGrowsSaid : Prop := lstarGrowsRow.holds Tryz.pinned (OpenSpec.ofChange lstarGrowsSpec)

/-- ITS FALSE NEIGHBOUR: 'it returns false'. Refute it at one input. -/
def lstarGrowsWrong : ChangeSpec := { name := "lstarGrows", fn := fun _ => fun
  | [d1, d2, d3] => { results := [.lit (.bool false)], args := [d1, d2, d3] }
  | _ => none }
def LstarGrowsWrongFalsely : Prop := lstarGrowsRow.holds Tryz.pinned (OpenSpec.ofChange lstarGrowsWrong)

/- THE SECOND FORM. 'bulk': how many values and letters a reading holds, each counted each time it is reached (what is shared counts as often as it is met; a slice's spare places count too). A statement '..UptoSaid' is the law's where the arguments, and the package variables that the reading takes, are together of bulk at most 1048576: NARROWER than '..Said'. Prove '..Said' where nothing that the law and all that it calls make is longer than what came in: it says more and counts as full. Else prove '..UptoSaid'. A law counts once. -/
mutual
def uptoBulk {H : Type} : DataW H → Nat
  | .lit (.string bytes) => bytes.length + 1
  | .lit _ => 1
  | .nil => 1
  | .ptr d => uptoBulk d + 1
  | .slice elems spare => uptoBulkAll elems + uptoBulkAll spare + 1
  | .agg parts => uptoBulkAll parts + 1
  | .iface _ d => uptoBulk d + 1
  | .map entries => uptoBulkEntries entries + 1
  | .held _ => 1
def uptoBulkAll {H : Type} : List (DataW H) → Nat
  | [] => 0
  | d :: r => uptoBulk d + uptoBulkAll r
def uptoBulkEntries {H : Type} : List (Lit × DataW H) → Nat
  | [] => 0
  | x :: r => uptoBulkEntry x + uptoBulkEntries r
def uptoBulkEntry {H : Type} : Lit × DataW H → Nat
  | (.string bytes, d) => bytes.length + uptoBulk d + 1
  | (_, d) => uptoBulk d + 1
 end
def uptoSmall : (H : Type) → List (DataW H) → Bool := fun _ ds => decide (uptoBulkAll ds ≤ 1048576)
def OpenSpec.upto (s : _root_.Go.ChangeSpec) : _root_.Go.OpenSpec := { _root_.Go.OpenSpec.ofChange s with cond := some uptoSmall }

/-- 'learnerlaw23.TableValid', WHERE WHAT IT READS IS OF BULK AT MOST 1048576: true; the input reads as it did. -/
def tableValidUptoRow : OpenClaim := { program := "ytpmebphhbgpapaagreatdoor", sum := "41313327adb0eef17c2d0d42a5d2b6ff3f8cbefecf99131c20dda513618169a7", func := "learner/learnerlaw23.TableValid", spec := "tableValid", unfollowed := true, recurses := true, named := ["internal/strconv.uint64pow10", "math/bits.deBruijn32tab", "math/bits.deBruijn64tab"], apart := false, laid := [("math/bits.deBruijn32tab", laid_math_bits_deBruijn32tab), ("math/bits.deBruijn64tab", laid_math_bits_deBruijn64tab), ("internal/strconv.uint64pow10", laid_internal_strconv_uint64pow10)], narrowed := true }
def TableValidUptoSaid : Prop := tableValidUptoRow.holds Tryz.pinned (OpenSpec.upto tableValidSpec)

/-- 'learnerlaw23.TableNeeds', WHERE WHAT IT READS IS OF BULK AT MOST 1048576: true; the input reads as it did. -/
def tableNeedsUptoRow : OpenClaim := { program := "ytpmebphhbgpapaagreatdoor", sum := "41313327adb0eef17c2d0d42a5d2b6ff3f8cbefecf99131c20dda513618169a7", func := "learner/learnerlaw23.TableNeeds", spec := "tableNeeds", unfollowed := true, recurses := true, named := ["internal/strconv.uint64pow10", "math/bits.deBruijn32tab", "math/bits.deBruijn64tab"], apart := false, laid := [("math/bits.deBruijn32tab", laid_math_bits_deBruijn32tab), ("math/bits.deBruijn64tab", laid_math_bits_deBruijn64tab), ("internal/strconv.uint64pow10", laid_internal_strconv_uint64pow10)], narrowed := true }
def TableNeedsUptoSaid : Prop := tableNeedsUptoRow.holds Tryz.pinned (OpenSpec.upto tableNeedsSpec)

/-- 'learnerlaw23.TableRepairs', WHERE WHAT IT READS IS OF BULK AT MOST 1048576: true; the input reads as it did. -/
def tableRepairsUptoRow : OpenClaim := { program := "ytpmebphhbgpapaagreatdoor", sum := "41313327adb0eef17c2d0d42a5d2b6ff3f8cbefecf99131c20dda513618169a7", func := "learner/learnerlaw23.TableRepairs", spec := "tableRepairs", unfollowed := true, recurses := true, named := ["internal/strconv.uint64pow10", "math/bits.deBruijn32tab", "math/bits.deBruijn64tab"], apart := false, laid := [("math/bits.deBruijn32tab", laid_math_bits_deBruijn32tab), ("math/bits.deBruijn64tab", laid_math_bits_deBruijn64tab), ("internal/strconv.uint64pow10", laid_internal_strconv_uint64pow10)], narrowed := true }
def TableRepairsUptoSaid : Prop := tableRepairsUptoRow.holds Tryz.pinned (OpenSpec.upto tableRepairsSpec)

/-- 'learnerlaw23.TableGrows', WHERE WHAT IT READS IS OF BULK AT MOST 1048576: true; the input reads as it did. -/
def tableGrowsUptoRow : OpenClaim := { program := "ytpmebphhbgpapaagreatdoor", sum := "41313327adb0eef17c2d0d42a5d2b6ff3f8cbefecf99131c20dda513618169a7", func := "learner/learnerlaw23.TableGrows", spec := "tableGrows", unfollowed := true, recurses := true, named := ["internal/strconv.uint64pow10", "math/bits.deBruijn32tab", "math/bits.deBruijn64tab"], apart := false, laid := [("math/bits.deBruijn32tab", laid_math_bits_deBruijn32tab), ("math/bits.deBruijn64tab", laid_math_bits_deBruijn64tab), ("internal/strconv.uint64pow10", laid_internal_strconv_uint64pow10)], narrowed := true }
def TableGrowsUptoSaid : Prop := tableGrowsUptoRow.holds Tryz.pinned (OpenSpec.upto tableGrowsSpec)

/-- 'learnerlaw23.TableHypothesis', WHERE WHAT IT READS IS OF BULK AT MOST 1048576: true; the input reads as it did. -/
def tableHypothesisUptoRow : OpenClaim := { program := "ytpmebphhbgpapaagreatdoor", sum := "41313327adb0eef17c2d0d42a5d2b6ff3f8cbefecf99131c20dda513618169a7", func := "learner/learnerlaw23.TableHypothesis", spec := "tableHypothesis", unfollowed := true, recurses := true, named := ["internal/strconv.uint64pow10", "math/bits.deBruijn32tab", "math/bits.deBruijn64tab"], apart := false, laid := [("math/bits.deBruijn32tab", laid_math_bits_deBruijn32tab), ("math/bits.deBruijn64tab", laid_math_bits_deBruijn64tab), ("internal/strconv.uint64pow10", laid_internal_strconv_uint64pow10)], narrowed := true }
def TableHypothesisUptoSaid : Prop := tableHypothesisUptoRow.holds Tryz.pinned (OpenSpec.upto tableHypothesisSpec)

/-- 'learnerlaw23.TableReaches', WHERE WHAT IT READS IS OF BULK AT MOST 1048576: true; the input reads as it did. -/
def tableReachesUptoRow : OpenClaim := { program := "ytpmebphhbgpapaagreatdoor", sum := "41313327adb0eef17c2d0d42a5d2b6ff3f8cbefecf99131c20dda513618169a7", func := "learner/learnerlaw23.TableReaches", spec := "tableReaches", unfollowed := true, recurses := true, named := ["internal/strconv.uint64pow10", "math/bits.deBruijn32tab", "math/bits.deBruijn64tab"], apart := false, laid := [("math/bits.deBruijn32tab", laid_math_bits_deBruijn32tab), ("math/bits.deBruijn64tab", laid_math_bits_deBruijn64tab), ("internal/strconv.uint64pow10", laid_internal_strconv_uint64pow10)], narrowed := true }
def TableReachesUptoSaid : Prop := tableReachesUptoRow.holds Tryz.pinned (OpenSpec.upto tableReachesSpec)

/-- 'learnerlaw23.TableExplains', WHERE WHAT IT READS IS OF BULK AT MOST 1048576: true; the input reads as it did. -/
def tableExplainsUptoRow : OpenClaim := { program := "ytpmebphhbgpapaagreatdoor", sum := "41313327adb0eef17c2d0d42a5d2b6ff3f8cbefecf99131c20dda513618169a7", func := "learner/learnerlaw23.TableExplains", spec := "tableExplains", unfollowed := true, recurses := true, named := ["internal/strconv.uint64pow10", "math/bits.deBruijn32tab", "math/bits.deBruijn64tab"], apart := false, laid := [("math/bits.deBruijn32tab", laid_math_bits_deBruijn32tab), ("math/bits.deBruijn64tab", laid_math_bits_deBruijn64tab), ("internal/strconv.uint64pow10", laid_internal_strconv_uint64pow10)], narrowed := true }
def TableExplainsUptoSaid : Prop := tableExplainsUptoRow.holds Tryz.pinned (OpenSpec.upto tableExplainsSpec)

/-- 'learnerlaw23.TableProgress', WHERE WHAT IT READS IS OF BULK AT MOST 1048576: true; the input reads as it did. -/
def tableProgressUptoRow : OpenClaim := { program := "ytpmebphhbgpapaagreatdoor", sum := "41313327adb0eef17c2d0d42a5d2b6ff3f8cbefecf99131c20dda513618169a7", func := "learner/learnerlaw23.TableProgress", spec := "tableProgress", unfollowed := true, recurses := true, named := ["internal/strconv.uint64pow10", "math/bits.deBruijn32tab", "math/bits.deBruijn64tab"], apart := false, laid := [("math/bits.deBruijn32tab", laid_math_bits_deBruijn32tab), ("math/bits.deBruijn64tab", laid_math_bits_deBruijn64tab), ("internal/strconv.uint64pow10", laid_internal_strconv_uint64pow10)], narrowed := true }
def TableProgressUptoSaid : Prop := tableProgressUptoRow.holds Tryz.pinned (OpenSpec.upto tableProgressSpec)

/-- 'learnerlaw24.LstarSteps', WHERE WHAT IT READS IS OF BULK AT MOST 1048576: true; the input reads as it did. -/
def lstarStepsUptoRow : OpenClaim := { program := "ytpmebphhbgpapaagreatdoor", sum := "41313327adb0eef17c2d0d42a5d2b6ff3f8cbefecf99131c20dda513618169a7", func := "learner/learnerlaw24.LstarSteps", spec := "lstarSteps", unfollowed := true, recurses := true, named := ["internal/strconv.uint64pow10", "math/bits.deBruijn32tab", "math/bits.deBruijn64tab"], apart := false, laid := [("math/bits.deBruijn32tab", laid_math_bits_deBruijn32tab), ("math/bits.deBruijn64tab", laid_math_bits_deBruijn64tab), ("internal/strconv.uint64pow10", laid_internal_strconv_uint64pow10)], narrowed := true }
def LstarStepsUptoSaid : Prop := lstarStepsUptoRow.holds Tryz.pinned (OpenSpec.upto lstarStepsSpec)

/-- 'learnerlaw24.LstarRefines', WHERE WHAT IT READS IS OF BULK AT MOST 1048576: true; the input reads as it did. -/
def lstarRefinesUptoRow : OpenClaim := { program := "ytpmebphhbgpapaagreatdoor", sum := "41313327adb0eef17c2d0d42a5d2b6ff3f8cbefecf99131c20dda513618169a7", func := "learner/learnerlaw24.LstarRefines", spec := "lstarRefines", unfollowed := true, recurses := true, named := ["internal/strconv.uint64pow10", "math/bits.deBruijn32tab", "math/bits.deBruijn64tab"], apart := false, laid := [("math/bits.deBruijn32tab", laid_math_bits_deBruijn32tab), ("math/bits.deBruijn64tab", laid_math_bits_deBruijn64tab), ("internal/strconv.uint64pow10", laid_internal_strconv_uint64pow10)], narrowed := true }
def LstarRefinesUptoSaid : Prop := lstarRefinesUptoRow.holds Tryz.pinned (OpenSpec.upto lstarRefinesSpec)

/-- 'learnerlaw24.LstarGrows', WHERE WHAT IT READS IS OF BULK AT MOST 1048576: true; the input reads as it did. -/
def lstarGrowsUptoRow : OpenClaim := { program := "ytpmebphhbgpapaagreatdoor", sum := "41313327adb0eef17c2d0d42a5d2b6ff3f8cbefecf99131c20dda513618169a7", func := "learner/learnerlaw24.LstarGrows", spec := "lstarGrows", unfollowed := true, recurses := true, named := ["internal/strconv.uint64pow10", "math/bits.deBruijn32tab", "math/bits.deBruijn64tab"], apart := false, laid := [("math/bits.deBruijn32tab", laid_math_bits_deBruijn32tab), ("math/bits.deBruijn64tab", laid_math_bits_deBruijn64tab), ("internal/strconv.uint64pow10", laid_internal_strconv_uint64pow10)], narrowed := true }
def LstarGrowsUptoSaid : Prop := lstarGrowsUptoRow.holds Tryz.pinned (OpenSpec.upto lstarGrowsSpec)

end Rows
end Go.Proofs.YtpmebphhbgpapaaGreatDoor
