/-
  No cell of these rows narrows 'for every input' (looked for: loops, veiled, ifaces, maps, wideKeys, modest, calm, conditions, laid).
  DERIVED. THE GIVEN ROWS OF THIS SEAT. 7 by the template 'for every input the law returns true; each argument reads behind the call as it read before'; 0 by the template 'total and deterministic' (their statements: YtkfaepfljlphoaaTotals.lean).
  GIVEN WITH THE SEED: the statements are not yours to turn. If you find one false, say at which input.
  Laid BY PROGRAM, IN A SANDBOX (cutbox-rows.mjs): the forced cells as the released guide's own fill.sh prints them over the translation 7f7c8bbbb60a8475… (all of the seat's roots in one cut). By AI agents, Wed Nov 11 2026. No macro, syntax, notation, axiom, sorry.
-/
import Derived.Test.YtkfaepfljlphoaaChecked
import GoSem.Claim
import GoSem.ClaimJoined
import GoSem.ClaimMapViews
import Derived.JoinedTies
import Derived.KernelRfl
namespace Go.Proofs.Ytkfaepfljlphoaa
/- THE CELL 'sum', in the pinned program and in every row, IS THE sha256 OF THE DUMP (.gsa) THAT YtkfaepfljlphoaaProg.lean LOADS. Nothing in Lean hashes anything: it is a label: what it is worth is what the hold of that sum in a sandbox is worth. -/
noncomputable def Try.pinned : Pinned := { name := "ytkfaepfljlphoaa", sum := "7f7c8bbbb60a84755e6f3a6318989c515daaa946c6e8a614f35e30749b73eff3", checked := Try.checked }
namespace Rows
def none {H : Type} : Left H := { results := [], args := [] }

/-- 'learnerlaw30.HsuiteTails': WHATEVER THE INPUT: true; the input reads as it did. -/
def hsuiteTailsSpec : ChangeSpec := { name := "hsuiteTails", fn := fun _ => fun
  | [d1, d2, d3] => { results := [.lit (.bool true)], args := [d1, d2, d3] }
  | _ => none }
def hsuiteTailsRow : OpenClaim := { program := "ytkfaepfljlphoaa", sum := "7f7c8bbbb60a84755e6f3a6318989c515daaa946c6e8a614f35e30749b73eff3", func := "learner/learnerlaw30.HsuiteTails", spec := "hsuiteTails", unfollowed := true, recurses := true, plainKeys := false, apart := false }
def HsuiteTailsSaid : Prop := hsuiteTailsRow.holds Try.pinned (OpenSpec.ofChange hsuiteTailsSpec)

/-- ITS FALSE NEIGHBOUR: 'it returns false'. Refute it at one input. -/
def hsuiteTailsWrong : ChangeSpec := { name := "hsuiteTails", fn := fun _ => fun
  | [d1, d2, d3] => { results := [.lit (.bool false)], args := [d1, d2, d3] }
  | _ => none }
def HsuiteTailsWrongFalsely : Prop := hsuiteTailsRow.holds Try.pinned (OpenSpec.ofChange hsuiteTailsWrong)

/-- 'learnerlaw30.HsuiteRecognizes': WHATEVER THE INPUT: true; the input reads as it did. -/
def hsuiteRecognizesSpec : ChangeSpec := { name := "hsuiteRecognizes", fn := fun _ => fun
  | [d1, d2] => { results := [.lit (.bool true)], args := [d1, d2] }
  | _ => none }
def hsuiteRecognizesRow : OpenClaim := { program := "ytkfaepfljlphoaa", sum := "7f7c8bbbb60a84755e6f3a6318989c515daaa946c6e8a614f35e30749b73eff3", func := "learner/learnerlaw30.HsuiteRecognizes", spec := "hsuiteRecognizes", unfollowed := true, recurses := true, plainKeys := false, apart := false }
def HsuiteRecognizesSaid : Prop := hsuiteRecognizesRow.holds Try.pinned (OpenSpec.ofChange hsuiteRecognizesSpec)

/-- ITS FALSE NEIGHBOUR: 'it returns false'. Refute it at one input. -/
def hsuiteRecognizesWrong : ChangeSpec := { name := "hsuiteRecognizes", fn := fun _ => fun
  | [d1, d2] => { results := [.lit (.bool false)], args := [d1, d2] }
  | _ => none }
def HsuiteRecognizesWrongFalsely : Prop := hsuiteRecognizesRow.holds Try.pinned (OpenSpec.ofChange hsuiteRecognizesWrong)

/-- 'learnerlaw29.WsuitePasses': WHATEVER THE INPUT: true; the input reads as it did. -/
def wsuitePassesSpec : ChangeSpec := { name := "wsuitePasses", fn := fun _ => fun
  | [d1, d2, d3] => { results := [.lit (.bool true)], args := [d1, d2, d3] }
  | _ => none }
def wsuitePassesRow : OpenClaim := { program := "ytkfaepfljlphoaa", sum := "7f7c8bbbb60a84755e6f3a6318989c515daaa946c6e8a614f35e30749b73eff3", func := "learner/learnerlaw29.WsuitePasses", spec := "wsuitePasses", unfollowed := true, recurses := true, plainKeys := false, apart := false }
def WsuitePassesSaid : Prop := wsuitePassesRow.holds Try.pinned (OpenSpec.ofChange wsuitePassesSpec)

/-- ITS FALSE NEIGHBOUR: 'it returns false'. Refute it at one input. -/
def wsuitePassesWrong : ChangeSpec := { name := "wsuitePasses", fn := fun _ => fun
  | [d1, d2, d3] => { results := [.lit (.bool false)], args := [d1, d2, d3] }
  | _ => none }
def WsuitePassesWrongFalsely : Prop := wsuitePassesRow.holds Try.pinned (OpenSpec.ofChange wsuitePassesWrong)

/-- 'learnerlaw29.WsuiteDiffers': WHATEVER THE INPUT: true; the input reads as it did. -/
def wsuiteDiffersSpec : ChangeSpec := { name := "wsuiteDiffers", fn := fun _ => fun
  | [d1, d2, d3] => { results := [.lit (.bool true)], args := [d1, d2, d3] }
  | _ => none }
def wsuiteDiffersRow : OpenClaim := { program := "ytkfaepfljlphoaa", sum := "7f7c8bbbb60a84755e6f3a6318989c515daaa946c6e8a614f35e30749b73eff3", func := "learner/learnerlaw29.WsuiteDiffers", spec := "wsuiteDiffers", unfollowed := true, recurses := true, plainKeys := false, apart := false }
def WsuiteDiffersSaid : Prop := wsuiteDiffersRow.holds Try.pinned (OpenSpec.ofChange wsuiteDiffersSpec)

/-- ITS FALSE NEIGHBOUR: 'it returns false'. Refute it at one input. -/
def wsuiteDiffersWrong : ChangeSpec := { name := "wsuiteDiffers", fn := fun _ => fun
  | [d1, d2, d3] => { results := [.lit (.bool false)], args := [d1, d2, d3] }
  | _ => none }
def WsuiteDiffersWrongFalsely : Prop := wsuiteDiffersRow.holds Try.pinned (OpenSpec.ofChange wsuiteDiffersWrong)

/-- 'learnerlaw30.HsuiteComplete': WHATEVER THE INPUT: true; the input reads as it did. -/
def hsuiteCompleteSpec : ChangeSpec := { name := "hsuiteComplete", fn := fun _ => fun
  | [d1, d2, d3] => { results := [.lit (.bool true)], args := [d1, d2, d3] }
  | _ => none }
def hsuiteCompleteRow : OpenClaim := { program := "ytkfaepfljlphoaa", sum := "7f7c8bbbb60a84755e6f3a6318989c515daaa946c6e8a614f35e30749b73eff3", func := "learner/learnerlaw30.HsuiteComplete", spec := "hsuiteComplete", unfollowed := true, recurses := true, plainKeys := false, apart := false }
def HsuiteCompleteSaid : Prop := hsuiteCompleteRow.holds Try.pinned (OpenSpec.ofChange hsuiteCompleteSpec)

/-- ITS FALSE NEIGHBOUR: 'it returns false'. Refute it at one input. -/
def hsuiteCompleteWrong : ChangeSpec := { name := "hsuiteComplete", fn := fun _ => fun
  | [d1, d2, d3] => { results := [.lit (.bool false)], args := [d1, d2, d3] }
  | _ => none }
def HsuiteCompleteWrongFalsely : Prop := hsuiteCompleteRow.holds Try.pinned (OpenSpec.ofChange hsuiteCompleteWrong)

/-- 'learnerlaw29.WsuiteComplete': WHATEVER THE INPUT: true; the input reads as it did. -/
def wsuiteCompleteSpec : ChangeSpec := { name := "wsuiteComplete", fn := fun _ => fun
  | [d1, d2, d3] => { results := [.lit (.bool true)], args := [d1, d2, d3] }
  | _ => none }
def wsuiteCompleteRow : OpenClaim := { program := "ytkfaepfljlphoaa", sum := "7f7c8bbbb60a84755e6f3a6318989c515daaa946c6e8a614f35e30749b73eff3", func := "learner/learnerlaw29.WsuiteComplete", spec := "wsuiteComplete", unfollowed := true, recurses := true, plainKeys := false, apart := false }
def WsuiteCompleteSaid : Prop := wsuiteCompleteRow.holds Try.pinned (OpenSpec.ofChange wsuiteCompleteSpec)

/-- ITS FALSE NEIGHBOUR: 'it returns false'. Refute it at one input. -/
def wsuiteCompleteWrong : ChangeSpec := { name := "wsuiteComplete", fn := fun _ => fun
  | [d1, d2, d3] => { results := [.lit (.bool false)], args := [d1, d2, d3] }
  | _ => none }
def WsuiteCompleteWrongFalsely : Prop := wsuiteCompleteRow.holds Try.pinned (OpenSpec.ofChange wsuiteCompleteWrong)

/-- 'learnerlaw29.WsuiteWords': WHATEVER THE INPUT: true; the input reads as it did. -/
def wsuiteWordsSpec : ChangeSpec := { name := "wsuiteWords", fn := fun _ => fun
  | [d1, d2] => { results := [.lit (.bool true)], args := [d1, d2] }
  | _ => none }
def wsuiteWordsRow : OpenClaim := { program := "ytkfaepfljlphoaa", sum := "7f7c8bbbb60a84755e6f3a6318989c515daaa946c6e8a614f35e30749b73eff3", func := "learner/learnerlaw29.WsuiteWords", spec := "wsuiteWords", unfollowed := true, recurses := true, plainKeys := false, apart := false }
def WsuiteWordsSaid : Prop := wsuiteWordsRow.holds Try.pinned (OpenSpec.ofChange wsuiteWordsSpec)

/-- ITS FALSE NEIGHBOUR: 'it returns false'. Refute it at one input. -/
def wsuiteWordsWrong : ChangeSpec := { name := "wsuiteWords", fn := fun _ => fun
  | [d1, d2] => { results := [.lit (.bool false)], args := [d1, d2] }
  | _ => none }
def WsuiteWordsWrongFalsely : Prop := wsuiteWordsRow.holds Try.pinned (OpenSpec.ofChange wsuiteWordsWrong)

/- THE SECOND FORM. 'bulk': how many values and letters a reading holds, each counted each time it is reached (what is shared counts as often as it is met; a slice's spare places count too). A statement '..UptoSaid' is the law's where the arguments, and the package variables that the reading takes, are together of bulk at most 1048576: NARROWER than '..Said'. Prove '..Said' where nothing that the law and all that it calls make is longer than what came in: it says more and counts as full. Else prove '..UptoSaid'. A law counts once. -/
mutual
def uptoBulk {H : Type} : DataW H → Nat
  | .lit (.string bytes) => bytes.length + 1
  | .lit _ => 1
  | .nil => 1
  | .ptr d => uptoBulk d + 1
  | .slice elems spare => uptoBulkAll elems + uptoBulkAll spare + 1
  | .agg parts => uptoBulkAll parts + 1
  | .iface _ d => uptoBulk d + 1
  | .map entries => uptoBulkEntries entries + 1
  | .held _ => 1
def uptoBulkAll {H : Type} : List (DataW H) → Nat
  | [] => 0
  | d :: r => uptoBulk d + uptoBulkAll r
def uptoBulkEntries {H : Type} : List (Lit × DataW H) → Nat
  | [] => 0
  | x :: r => uptoBulkEntry x + uptoBulkEntries r
def uptoBulkEntry {H : Type} : Lit × DataW H → Nat
  | (.string bytes, d) => bytes.length + uptoBulk d + 1
  | (_, d) => uptoBulk d + 1
 end
def uptoSmall : (H : Type) → List (DataW H) → Bool := fun _ ds => decide (uptoBulkAll ds ≤ 1048576)
def OpenSpec.upto (s : _root_.Go.ChangeSpec) : _root_.Go.OpenSpec := { _root_.Go.OpenSpec.ofChange s with cond := some uptoSmall }

/-- 'learnerlaw30.HsuiteTails', WHERE WHAT IT READS IS OF BULK AT MOST 1048576: true; the input reads as it did. -/
def hsuiteTailsUptoRow : OpenClaim := { program := "ytkfaepfljlphoaa", sum := "7f7c8bbbb60a84755e6f3a6318989c515daaa946c6e8a614f35e30749b73eff3", func := "learner/learnerlaw30.HsuiteTails", spec := "hsuiteTails", unfollowed := true, recurses := true, plainKeys := false, apart := false, narrowed := true }
def HsuiteTailsUptoSaid : Prop := hsuiteTailsUptoRow.holds Try.pinned (OpenSpec.upto hsuiteTailsSpec)

/-- 'learnerlaw30.HsuiteRecognizes', WHERE WHAT IT READS IS OF BULK AT MOST 1048576: true; the input reads as it did. -/
def hsuiteRecognizesUptoRow : OpenClaim := { program := "ytkfaepfljlphoaa", sum := "7f7c8bbbb60a84755e6f3a6318989c515daaa946c6e8a614f35e30749b73eff3", func := "learner/learnerlaw30.HsuiteRecognizes", spec := "hsuiteRecognizes", unfollowed := true, recurses := true, plainKeys := false, apart := false, narrowed := true }
def HsuiteRecognizesUptoSaid : Prop := hsuiteRecognizesUptoRow.holds Try.pinned (OpenSpec.upto hsuiteRecognizesSpec)

/-- 'learnerlaw29.WsuitePasses', WHERE WHAT IT READS IS OF BULK AT MOST 1048576: true; the input reads as it did. -/
def wsuitePassesUptoRow : OpenClaim := { program := "ytkfaepfljlphoaa", sum := "7f7c8bbbb60a84755e6f3a6318989c515daaa946c6e8a614f35e30749b73eff3", func := "learner/learnerlaw29.WsuitePasses", spec := "wsuitePasses", unfollowed := true, recurses := true, plainKeys := false, apart := false, narrowed := true }
def WsuitePassesUptoSaid : Prop := wsuitePassesUptoRow.holds Try.pinned (OpenSpec.upto wsuitePassesSpec)

/-- 'learnerlaw29.WsuiteDiffers', WHERE WHAT IT READS IS OF BULK AT MOST 1048576: true; the input reads as it did. -/
def wsuiteDiffersUptoRow : OpenClaim := { program := "ytkfaepfljlphoaa", sum := "7f7c8bbbb60a84755e6f3a6318989c515daaa946c6e8a614f35e30749b73eff3", func := "learner/learnerlaw29.WsuiteDiffers", spec := "wsuiteDiffers", unfollowed := true, recurses := true, plainKeys := false, apart := false, narrowed := true }
def WsuiteDiffersUptoSaid : Prop := wsuiteDiffersUptoRow.holds Try.pinned (OpenSpec.upto wsuiteDiffersSpec)

/-- 'learnerlaw30.HsuiteComplete', WHERE WHAT IT READS IS OF BULK AT MOST 1048576: true; the input reads as it did. -/
def hsuiteCompleteUptoRow : OpenClaim := { program := "ytkfaepfljlphoaa", sum := "7f7c8bbbb60a84755e6f3a6318989c515daaa946c6e8a614f35e30749b73eff3", func := "learner/learnerlaw30.HsuiteComplete", spec := "hsuiteComplete", unfollowed := true, recurses := true, plainKeys := false, apart := false, narrowed := true }
def HsuiteCompleteUptoSaid : Prop := hsuiteCompleteUptoRow.holds Try.pinned (OpenSpec.upto hsuiteCompleteSpec)

/-- 'learnerlaw29.WsuiteComplete', WHERE WHAT IT READS IS OF BULK AT MOST 1048576: true; the input reads as it did. -/
def wsuiteCompleteUptoRow : OpenClaim := { program := "ytkfaepfljlphoaa", sum := "7f7c8bbbb60a84755e6f3a6318989c515daaa946c6e8a614f35e30749b73eff3", func := "learner/learnerlaw29.WsuiteComplete", spec := "wsuiteComplete", unfollowed := true, recurses := true, plainKeys := false, apart := false, narrowed := true }
def WsuiteCompleteUptoSaid : Prop := wsuiteCompleteUptoRow.holds Try.pinned (OpenSpec.upto wsuiteCompleteSpec)

/-- 'learnerlaw29.WsuiteWords', WHERE WHAT IT READS IS OF BULK AT MOST 1048576: true; the input reads as it did. -/
def wsuiteWordsUptoRow : OpenClaim := { program := "ytkfaepfljlphoaa", sum := "7f7c8bbbb60a84755e6f3a6318989c515daaa946c6e8a614f35e30749b73eff3", func := "learner/learnerlaw29.WsuiteWords", spec := "wsuiteWords", unfollowed := true, recurses := true, plainKeys := false, apart := false, narrowed := true }
def WsuiteWordsUptoSaid : Prop := wsuiteWordsUptoRow.holds Try.pinned (OpenSpec.upto wsuiteWordsSpec)

end Rows
end Go.Proofs.Ytkfaepfljlphoaa
