/-
  No cell of these rows narrows 'for every input' (looked for: loops, veiled, ifaces, maps, wideKeys, modest, calm, conditions, laid).
  DERIVED. THE GIVEN ROWS OF THIS SEAT. 5 by the template 'for every input the law returns true; each argument reads behind the call as it read before'; 0 by the template 'total and deterministic' (their statements: YtkeplokjplkcmaaGreatTotals.lean).
  GIVEN WITH THE SEED: the statements are not yours to turn. If you find one false, say at which input.
  Laid BY PROGRAM, IN A SANDBOX (cutbox-rows.mjs): the forced cells as the released guide's own fill.sh prints them over the translation 29e2ec86073a92de… (all of the seat's roots in one cut). By AI agents, Wed Nov 11 2026. No macro, syntax, notation, axiom, sorry.
-/
import Derived.Test.YtkeplokjplkcmaaGreatChecked
import GoSem.Claim
import GoSem.ClaimJoined
import GoSem.ClaimMapViews
import Derived.JoinedTies
import Derived.KernelRfl
namespace Go.Proofs.YtkeplokjplkcmaaGreat
/- THE CELL 'sum', in the pinned program and in every row, IS THE sha256 OF THE DUMP (.gsa) THAT YtkeplokjplkcmaaGreatProg.lean LOADS. Nothing in Lean hashes anything: it is a label: what it is worth is what the hold of that sum in a sandbox is worth. -/
noncomputable def Tryz.pinned : Pinned := { name := "ytkeplokjplkcmaagreat", sum := "29e2ec86073a92de0f2675dabdb19e9bf2ff0b29d80e13987666fbc6d54213a8", checked := Tryz.checked }
namespace Rows
def none {H : Type} : Left H := { results := [], args := [] }

/-- 'learnerlaw36.EvidenceScores': WHATEVER THE INPUT: true; the input reads as it did. -/
def evidenceScoresSpec : ChangeSpec := { name := "evidenceScores", fn := fun _ => fun
  | [d1, d2, d3] => { results := [.lit (.bool true)], args := [d1, d2, d3] }
  | _ => none }
def evidenceScoresRow : OpenClaim := { program := "ytkeplokjplkcmaagreat", sum := "29e2ec86073a92de0f2675dabdb19e9bf2ff0b29d80e13987666fbc6d54213a8", func := "learner/learnerlaw36.EvidenceScores", spec := "evidenceScores", unfollowed := true, recurses := true, plainKeys := false, apart := false }
def EvidenceScoresSaid : Prop := evidenceScoresRow.holds Tryz.pinned (OpenSpec.ofChange evidenceScoresSpec)

/-- ITS FALSE NEIGHBOUR: 'it returns false'. Refute it at one input. -/
def evidenceScoresWrong : ChangeSpec := { name := "evidenceScores", fn := fun _ => fun
  | [d1, d2, d3] => { results := [.lit (.bool false)], args := [d1, d2, d3] }
  | _ => none }
def EvidenceScoresWrongFalsely : Prop := evidenceScoresRow.holds Tryz.pinned (OpenSpec.ofChange evidenceScoresWrong)

/-- 'learnerlaw36.EvidenceLearns': WHATEVER THE INPUT: true; the input reads as it did. -/
def evidenceLearnsSpec : ChangeSpec := { name := "evidenceLearns", fn := fun _ => fun
  | [d] => { results := [.lit (.bool true)], args := [d] }
  | _ => none }
def evidenceLearnsRow : OpenClaim := { program := "ytkeplokjplkcmaagreat", sum := "29e2ec86073a92de0f2675dabdb19e9bf2ff0b29d80e13987666fbc6d54213a8", func := "learner/learnerlaw36.EvidenceLearns", spec := "evidenceLearns", unfollowed := true, recurses := true, plainKeys := false, apart := false }
def EvidenceLearnsSaid : Prop := evidenceLearnsRow.holds Tryz.pinned (OpenSpec.ofChange evidenceLearnsSpec)

/-- ITS FALSE NEIGHBOUR: 'it returns false'. Refute it at one input. -/
def evidenceLearnsWrong : ChangeSpec := { name := "evidenceLearns", fn := fun _ => fun
  | [d] => { results := [.lit (.bool false)], args := [d] }
  | _ => none }
def EvidenceLearnsWrongFalsely : Prop := evidenceLearnsRow.holds Tryz.pinned (OpenSpec.ofChange evidenceLearnsWrong)

/-- 'learnerlaw36.EvidenceIdentifies': WHATEVER THE INPUT: true; the input reads as it did. -/
def evidenceIdentifiesSpec : ChangeSpec := { name := "evidenceIdentifies", fn := fun _ => fun
  | [d1, d2] => { results := [.lit (.bool true)], args := [d1, d2] }
  | _ => none }
def evidenceIdentifiesRow : OpenClaim := { program := "ytkeplokjplkcmaagreat", sum := "29e2ec86073a92de0f2675dabdb19e9bf2ff0b29d80e13987666fbc6d54213a8", func := "learner/learnerlaw36.EvidenceIdentifies", spec := "evidenceIdentifies", unfollowed := true, recurses := true, plainKeys := false, apart := false }
def EvidenceIdentifiesSaid : Prop := evidenceIdentifiesRow.holds Tryz.pinned (OpenSpec.ofChange evidenceIdentifiesSpec)

/-- ITS FALSE NEIGHBOUR: 'it returns false'. Refute it at one input. -/
def evidenceIdentifiesWrong : ChangeSpec := { name := "evidenceIdentifies", fn := fun _ => fun
  | [d1, d2] => { results := [.lit (.bool false)], args := [d1, d2] }
  | _ => none }
def EvidenceIdentifiesWrongFalsely : Prop := evidenceIdentifiesRow.holds Tryz.pinned (OpenSpec.ofChange evidenceIdentifiesWrong)

/-- 'learnerlaw36.EvidenceSymmetric': WHATEVER THE INPUT: true; the input reads as it did. -/
def evidenceSymmetricSpec : ChangeSpec := { name := "evidenceSymmetric", fn := fun _ => fun
  | [d1, d2, d3] => { results := [.lit (.bool true)], args := [d1, d2, d3] }
  | _ => none }
def evidenceSymmetricRow : OpenClaim := { program := "ytkeplokjplkcmaagreat", sum := "29e2ec86073a92de0f2675dabdb19e9bf2ff0b29d80e13987666fbc6d54213a8", func := "learner/learnerlaw36.EvidenceSymmetric", spec := "evidenceSymmetric", unfollowed := true, recurses := true, plainKeys := false, apart := false }
def EvidenceSymmetricSaid : Prop := evidenceSymmetricRow.holds Tryz.pinned (OpenSpec.ofChange evidenceSymmetricSpec)

/-- ITS FALSE NEIGHBOUR: 'it returns false'. Refute it at one input. -/
def evidenceSymmetricWrong : ChangeSpec := { name := "evidenceSymmetric", fn := fun _ => fun
  | [d1, d2, d3] => { results := [.lit (.bool false)], args := [d1, d2, d3] }
  | _ => none }
def EvidenceSymmetricWrongFalsely : Prop := evidenceSymmetricRow.holds Tryz.pinned (OpenSpec.ofChange evidenceSymmetricWrong)

/-- 'learnerlaw36.EvidenceExplains': WHATEVER THE INPUT: true; the input reads as it did. -/
def evidenceExplainsSpec : ChangeSpec := { name := "evidenceExplains", fn := fun _ => fun
  | [d] => { results := [.lit (.bool true)], args := [d] }
  | _ => none }
def evidenceExplainsRow : OpenClaim := { program := "ytkeplokjplkcmaagreat", sum := "29e2ec86073a92de0f2675dabdb19e9bf2ff0b29d80e13987666fbc6d54213a8", func := "learner/learnerlaw36.EvidenceExplains", spec := "evidenceExplains", unfollowed := true, recurses := true, plainKeys := false, apart := false }
def EvidenceExplainsSaid : Prop := evidenceExplainsRow.holds Tryz.pinned (OpenSpec.ofChange evidenceExplainsSpec)

/-- ITS FALSE NEIGHBOUR: 'it returns false'. Refute it at one input. -/
def evidenceExplainsWrong : ChangeSpec := { name := "evidenceExplains", fn := fun _ => fun
  | [d] => { results := [.lit (.bool false)], args := [d] }
  | _ => none }
def EvidenceExplainsWrongFalsely : Prop := evidenceExplainsRow.holds Tryz.pinned (OpenSpec.ofChange evidenceExplainsWrong)

/- THE SECOND FORM. 'bulk': how many values and letters a reading holds, each counted each time it is reached (what is shared counts as often as it is met; a slice's spare places count too). A statement '..UptoSaid' is the law's where the arguments, and the package variables that the reading takes, are together of bulk at most 1048576: NARROWER than '..Said'. Prove '..Said' where nothing that the law and all that it calls make is longer than what came in: it says more and counts as full. Else prove '..UptoSaid'. A law counts once. -/
mutual
def uptoBulk {H : Type} : DataW H → Nat
  | .lit (.string bytes) => bytes.length + 1
  | .lit _ => 1
  | .nil => 1
  | .ptr d => uptoBulk d + 1
  | .slice elems spare => uptoBulkAll elems + uptoBulkAll spare + 1
  | .agg parts => uptoBulkAll parts + 1
  | .iface _ d => uptoBulk d + 1
  | .map entries => uptoBulkEntries entries + 1
  | .held _ => 1
def uptoBulkAll {H : Type} : List (DataW H) → Nat
  | [] => 0
  | d :: r => uptoBulk d + uptoBulkAll r
def uptoBulkEntries {H : Type} : List (Lit × DataW H) → Nat
  | [] => 0
  | x :: r => uptoBulkEntry x + uptoBulkEntries r
def uptoBulkEntry {H : Type} : Lit × DataW H → Nat
  | (.string bytes, d) => bytes.length + uptoBulk d + 1
  | (_, d) => uptoBulk d + 1
 end
def uptoSmall : (H : Type) → List (DataW H) → Bool := fun _ ds => decide (uptoBulkAll ds ≤ 1048576)
def OpenSpec.upto (s : _root_.Go.ChangeSpec) : _root_.Go.OpenSpec := { _root_.Go.OpenSpec.ofChange s with cond := some uptoSmall }

/-- 'learnerlaw36.EvidenceScores', WHERE WHAT IT READS IS OF BULK AT MOST 1048576: true; the input reads as it did. -/
def evidenceScoresUptoRow : OpenClaim := { program := "ytkeplokjplkcmaagreat", sum := "29e2ec86073a92de0f2675dabdb19e9bf2ff0b29d80e13987666fbc6d54213a8", func := "learner/learnerlaw36.EvidenceScores", spec := "evidenceScores", unfollowed := true, recurses := true, plainKeys := false, apart := false, narrowed := true }
def EvidenceScoresUptoSaid : Prop := evidenceScoresUptoRow.holds Tryz.pinned (OpenSpec.upto evidenceScoresSpec)

/-- 'learnerlaw36.EvidenceLearns', WHERE WHAT IT READS IS OF BULK AT MOST 1048576: true; the input reads as it did. -/
def evidenceLearnsUptoRow : OpenClaim := { program := "ytkeplokjplkcmaagreat", sum := "29e2ec86073a92de0f2675dabdb19e9bf2ff0b29d80e13987666fbc6d54213a8", func := "learner/learnerlaw36.EvidenceLearns", spec := "evidenceLearns", unfollowed := true, recurses := true, plainKeys := false, apart := false, narrowed := true }
def EvidenceLearnsUptoSaid : Prop := evidenceLearnsUptoRow.holds Tryz.pinned (OpenSpec.upto evidenceLearnsSpec)

/-- 'learnerlaw36.EvidenceIdentifies', WHERE WHAT IT READS IS OF BULK AT MOST 1048576: true; the input reads as it did. -/
def evidenceIdentifiesUptoRow : OpenClaim := { program := "ytkeplokjplkcmaagreat", sum := "29e2ec86073a92de0f2675dabdb19e9bf2ff0b29d80e13987666fbc6d54213a8", func := "learner/learnerlaw36.EvidenceIdentifies", spec := "evidenceIdentifies", unfollowed := true, recurses := true, plainKeys := false, apart := false, narrowed := true }
def EvidenceIdentifiesUptoSaid : Prop := evidenceIdentifiesUptoRow.holds Tryz.pinned (OpenSpec.upto evidenceIdentifiesSpec)

/-- 'learnerlaw36.EvidenceSymmetric', WHERE WHAT IT READS IS OF BULK AT MOST 1048576: true; the input reads as it did. -/
def evidenceSymmetricUptoRow : OpenClaim := { program := "ytkeplokjplkcmaagreat", sum := "29e2ec86073a92de0f2675dabdb19e9bf2ff0b29d80e13987666fbc6d54213a8", func := "learner/learnerlaw36.EvidenceSymmetric", spec := "evidenceSymmetric", unfollowed := true, recurses := true, plainKeys := false, apart := false, narrowed := true }
def EvidenceSymmetricUptoSaid : Prop := evidenceSymmetricUptoRow.holds Tryz.pinned (OpenSpec.upto evidenceSymmetricSpec)

/-- 'learnerlaw36.EvidenceExplains', WHERE WHAT IT READS IS OF BULK AT MOST 1048576: true; the input reads as it did. -/
def evidenceExplainsUptoRow : OpenClaim := { program := "ytkeplokjplkcmaagreat", sum := "29e2ec86073a92de0f2675dabdb19e9bf2ff0b29d80e13987666fbc6d54213a8", func := "learner/learnerlaw36.EvidenceExplains", spec := "evidenceExplains", unfollowed := true, recurses := true, plainKeys := false, apart := false, narrowed := true }
def EvidenceExplainsUptoSaid : Prop := evidenceExplainsUptoRow.holds Tryz.pinned (OpenSpec.upto evidenceExplainsSpec)

end Rows
end Go.Proofs.YtkeplokjplkcmaaGreat
