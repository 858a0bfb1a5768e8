/-
  No cell of these rows narrows 'for every input' (looked for: loops, veiled, ifaces, maps, wideKeys, modest, calm, conditions, laid).
  DERIVED. THE GIVEN ROWS OF THIS SEAT. 6 by the template 'for every input the law returns true; each argument reads behind the call as it read before'; 0 by the template 'total and deterministic' (their statements: YtlbooffoebjllaaTotals.lean).
  GIVEN WITH THE SEED: the statements are not yours to turn. If you find one false, say at which input.
  Laid BY PROGRAM, IN A SANDBOX (cutbox-rows.mjs): the forced cells as the released guide's own fill.sh prints them over the translation 05c3c7e2e50b4d80… (all of the seat's roots in one cut). By AI agents, Wed Nov 11 2026. No macro, syntax, notation, axiom, sorry.
-/
import Derived.Test.YtlbooffoebjllaaChecked
import GoSem.Claim
import GoSem.ClaimJoined
import GoSem.ClaimMapViews
import Derived.JoinedTies
import Derived.KernelRfl
namespace Go.Proofs.Ytlbooffoebjllaa
/- THE CELL 'sum', in the pinned program and in every row, IS THE sha256 OF THE DUMP (.gsa) THAT YtlbooffoebjllaaProg.lean LOADS. Nothing in Lean hashes anything: it is a label: what it is worth is what the hold of that sum in a sandbox is worth. -/
noncomputable def Try.pinned : Pinned := { name := "ytlbooffoebjllaa", sum := "05c3c7e2e50b4d807269539ac319325b0437024c814134cbd250afd44a8859a2", checked := Try.checked }
namespace Rows
def none {H : Type} : Left H := { results := [], args := [] }

/-- 'sawmilllaw28.BladeMakes': WHATEVER THE INPUT: true; the input reads as it did. -/
def bladeMakesSpec : ChangeSpec := { name := "bladeMakes", fn := fun _ => fun
  | [d] => { results := [.lit (.bool true)], args := [d] }
  | _ => none }
def bladeMakesRow : OpenClaim := { program := "ytlbooffoebjllaa", sum := "05c3c7e2e50b4d807269539ac319325b0437024c814134cbd250afd44a8859a2", func := "sawmill/sawmilllaw28.BladeMakes", spec := "bladeMakes", unfollowed := true, recurses := true, apart := false }
def BladeMakesSaid : Prop := bladeMakesRow.holds Try.pinned (OpenSpec.ofChange bladeMakesSpec)

/-- ITS FALSE NEIGHBOUR: 'it returns false'. Refute it at one input. -/
def bladeMakesWrong : ChangeSpec := { name := "bladeMakes", fn := fun _ => fun
  | [d] => { results := [.lit (.bool false)], args := [d] }
  | _ => none }
def BladeMakesWrongFalsely : Prop := bladeMakesRow.holds Try.pinned (OpenSpec.ofChange bladeMakesWrong)

/-- 'sawmilllaw28.BladeParts': WHATEVER THE INPUT: true; the input reads as it did. -/
def bladePartsSpec : ChangeSpec := { name := "bladeParts", fn := fun _ => fun
  | [d1, d2] => { results := [.lit (.bool true)], args := [d1, d2] }
  | _ => none }
def bladePartsRow : OpenClaim := { program := "ytlbooffoebjllaa", sum := "05c3c7e2e50b4d807269539ac319325b0437024c814134cbd250afd44a8859a2", func := "sawmill/sawmilllaw28.BladeParts", spec := "bladeParts", unfollowed := true, recurses := true, apart := false }
def BladePartsSaid : Prop := bladePartsRow.holds Try.pinned (OpenSpec.ofChange bladePartsSpec)

/-- ITS FALSE NEIGHBOUR: 'it returns false'. Refute it at one input. -/
def bladePartsWrong : ChangeSpec := { name := "bladeParts", fn := fun _ => fun
  | [d1, d2] => { results := [.lit (.bool false)], args := [d1, d2] }
  | _ => none }
def BladePartsWrongFalsely : Prop := bladePartsRow.holds Try.pinned (OpenSpec.ofChange bladePartsWrong)

/-- 'sawmilllaw28.BladeRuns': WHATEVER THE INPUT: true; the input reads as it did. -/
def bladeRunsSpec : ChangeSpec := { name := "bladeRuns", fn := fun _ => fun
  | [d1, d2] => { results := [.lit (.bool true)], args := [d1, d2] }
  | _ => none }
def bladeRunsRow : OpenClaim := { program := "ytlbooffoebjllaa", sum := "05c3c7e2e50b4d807269539ac319325b0437024c814134cbd250afd44a8859a2", func := "sawmill/sawmilllaw28.BladeRuns", spec := "bladeRuns", unfollowed := true, recurses := true, apart := false }
def BladeRunsSaid : Prop := bladeRunsRow.holds Try.pinned (OpenSpec.ofChange bladeRunsSpec)

/-- ITS FALSE NEIGHBOUR: 'it returns false'. Refute it at one input. -/
def bladeRunsWrong : ChangeSpec := { name := "bladeRuns", fn := fun _ => fun
  | [d1, d2] => { results := [.lit (.bool false)], args := [d1, d2] }
  | _ => none }
def BladeRunsWrongFalsely : Prop := bladeRunsRow.holds Try.pinned (OpenSpec.ofChange bladeRunsWrong)

/-- 'sawmilllaw28.BladeWears': WHATEVER THE INPUT: true; the input reads as it did. -/
def bladeWearsSpec : ChangeSpec := { name := "bladeWears", fn := fun _ => fun
  | [d1, d2] => { results := [.lit (.bool true)], args := [d1, d2] }
  | _ => none }
def bladeWearsRow : OpenClaim := { program := "ytlbooffoebjllaa", sum := "05c3c7e2e50b4d807269539ac319325b0437024c814134cbd250afd44a8859a2", func := "sawmill/sawmilllaw28.BladeWears", spec := "bladeWears", unfollowed := true, recurses := true, apart := false }
def BladeWearsSaid : Prop := bladeWearsRow.holds Try.pinned (OpenSpec.ofChange bladeWearsSpec)

/-- ITS FALSE NEIGHBOUR: 'it returns false'. Refute it at one input. -/
def bladeWearsWrong : ChangeSpec := { name := "bladeWears", fn := fun _ => fun
  | [d1, d2] => { results := [.lit (.bool false)], args := [d1, d2] }
  | _ => none }
def BladeWearsWrongFalsely : Prop := bladeWearsRow.holds Try.pinned (OpenSpec.ofChange bladeWearsWrong)

/-- 'sawmilllaw28.BladeSharp': WHATEVER THE INPUT: true; the input reads as it did. -/
def bladeSharpSpec : ChangeSpec := { name := "bladeSharp", fn := fun _ => fun
  | [d1, d2, d3] => { results := [.lit (.bool true)], args := [d1, d2, d3] }
  | _ => none }
def bladeSharpRow : OpenClaim := { program := "ytlbooffoebjllaa", sum := "05c3c7e2e50b4d807269539ac319325b0437024c814134cbd250afd44a8859a2", func := "sawmill/sawmilllaw28.BladeSharp", spec := "bladeSharp", unfollowed := true, recurses := true, apart := false }
def BladeSharpSaid : Prop := bladeSharpRow.holds Try.pinned (OpenSpec.ofChange bladeSharpSpec)

/-- ITS FALSE NEIGHBOUR: 'it returns false'. Refute it at one input. -/
def bladeSharpWrong : ChangeSpec := { name := "bladeSharp", fn := fun _ => fun
  | [d1, d2, d3] => { results := [.lit (.bool false)], args := [d1, d2, d3] }
  | _ => none }
def BladeSharpWrongFalsely : Prop := bladeSharpRow.holds Try.pinned (OpenSpec.ofChange bladeSharpWrong)

/-- 'sawmilllaw28.BladeNone': WHATEVER THE INPUT: true; the input reads as it did. -/
def bladeNoneSpec : ChangeSpec := { name := "bladeNone", fn := fun _ => fun
  | [d] => { results := [.lit (.bool true)], args := [d] }
  | _ => none }
def bladeNoneRow : OpenClaim := { program := "ytlbooffoebjllaa", sum := "05c3c7e2e50b4d807269539ac319325b0437024c814134cbd250afd44a8859a2", func := "sawmill/sawmilllaw28.BladeNone", spec := "bladeNone", unfollowed := true, recurses := true, apart := false }
def BladeNoneSaid : Prop := bladeNoneRow.holds Try.pinned (OpenSpec.ofChange bladeNoneSpec)

/-- ITS FALSE NEIGHBOUR: 'it returns false'. Refute it at one input. -/
def bladeNoneWrong : ChangeSpec := { name := "bladeNone", fn := fun _ => fun
  | [d] => { results := [.lit (.bool false)], args := [d] }
  | _ => none }
def BladeNoneWrongFalsely : Prop := bladeNoneRow.holds Try.pinned (OpenSpec.ofChange bladeNoneWrong)

/- THE SECOND FORM. 'bulk': how many values and letters a reading holds, each counted each time it is reached (what is shared counts as often as it is met; a slice's spare places count too). A statement '..UptoSaid' is the law's where the arguments, and the package variables that the reading takes, are together of bulk at most 1048576: NARROWER than '..Said'. Prove '..Said' where nothing that the law and all that it calls make is longer than what came in: it says more and counts as full. Else prove '..UptoSaid'. A law counts once. -/
mutual
def uptoBulk {H : Type} : DataW H → Nat
  | .lit (.string bytes) => bytes.length + 1
  | .lit _ => 1
  | .nil => 1
  | .ptr d => uptoBulk d + 1
  | .slice elems spare => uptoBulkAll elems + uptoBulkAll spare + 1
  | .agg parts => uptoBulkAll parts + 1
  | .iface _ d => uptoBulk d + 1
  | .map entries => uptoBulkEntries entries + 1
  | .held _ => 1
def uptoBulkAll {H : Type} : List (DataW H) → Nat
  | [] => 0
  | d :: r => uptoBulk d + uptoBulkAll r
def uptoBulkEntries {H : Type} : List (Lit × DataW H) → Nat
  | [] => 0
  | x :: r => uptoBulkEntry x + uptoBulkEntries r
def uptoBulkEntry {H : Type} : Lit × DataW H → Nat
  | (.string bytes, d) => bytes.length + uptoBulk d + 1
  | (_, d) => uptoBulk d + 1
 end
def uptoSmall : (H : Type) → List (DataW H) → Bool := fun _ ds => decide (uptoBulkAll ds ≤ 1048576)
def OpenSpec.upto (s : _root_.Go.ChangeSpec) : _root_.Go.OpenSpec := { _root_.Go.OpenSpec.ofChange s with cond := some uptoSmall }

/-- 'sawmilllaw28.BladeMakes', WHERE WHAT IT READS IS OF BULK AT MOST 1048576: true; the input reads as it did. -/
def bladeMakesUptoRow : OpenClaim := { program := "ytlbooffoebjllaa", sum := "05c3c7e2e50b4d807269539ac319325b0437024c814134cbd250afd44a8859a2", func := "sawmill/sawmilllaw28.BladeMakes", spec := "bladeMakes", unfollowed := true, recurses := true, apart := false, narrowed := true }
def BladeMakesUptoSaid : Prop := bladeMakesUptoRow.holds Try.pinned (OpenSpec.upto bladeMakesSpec)

/-- 'sawmilllaw28.BladeParts', WHERE WHAT IT READS IS OF BULK AT MOST 1048576: true; the input reads as it did. -/
def bladePartsUptoRow : OpenClaim := { program := "ytlbooffoebjllaa", sum := "05c3c7e2e50b4d807269539ac319325b0437024c814134cbd250afd44a8859a2", func := "sawmill/sawmilllaw28.BladeParts", spec := "bladeParts", unfollowed := true, recurses := true, apart := false, narrowed := true }
def BladePartsUptoSaid : Prop := bladePartsUptoRow.holds Try.pinned (OpenSpec.upto bladePartsSpec)

/-- 'sawmilllaw28.BladeRuns', WHERE WHAT IT READS IS OF BULK AT MOST 1048576: true; the input reads as it did. -/
def bladeRunsUptoRow : OpenClaim := { program := "ytlbooffoebjllaa", sum := "05c3c7e2e50b4d807269539ac319325b0437024c814134cbd250afd44a8859a2", func := "sawmill/sawmilllaw28.BladeRuns", spec := "bladeRuns", unfollowed := true, recurses := true, apart := false, narrowed := true }
def BladeRunsUptoSaid : Prop := bladeRunsUptoRow.holds Try.pinned (OpenSpec.upto bladeRunsSpec)

/-- 'sawmilllaw28.BladeWears', WHERE WHAT IT READS IS OF BULK AT MOST 1048576: true; the input reads as it did. -/
def bladeWearsUptoRow : OpenClaim := { program := "ytlbooffoebjllaa", sum := "05c3c7e2e50b4d807269539ac319325b0437024c814134cbd250afd44a8859a2", func := "sawmill/sawmilllaw28.BladeWears", spec := "bladeWears", unfollowed := true, recurses := true, apart := false, narrowed := true }
def BladeWearsUptoSaid : Prop := bladeWearsUptoRow.holds Try.pinned (OpenSpec.upto bladeWearsSpec)

/-- 'sawmilllaw28.BladeSharp', WHERE WHAT IT READS IS OF BULK AT MOST 1048576: true; the input reads as it did. -/
def bladeSharpUptoRow : OpenClaim := { program := "ytlbooffoebjllaa", sum := "05c3c7e2e50b4d807269539ac319325b0437024c814134cbd250afd44a8859a2", func := "sawmill/sawmilllaw28.BladeSharp", spec := "bladeSharp", unfollowed := true, recurses := true, apart := false, narrowed := true }
def BladeSharpUptoSaid : Prop := bladeSharpUptoRow.holds Try.pinned (OpenSpec.upto bladeSharpSpec)

/-- 'sawmilllaw28.BladeNone', WHERE WHAT IT READS IS OF BULK AT MOST 1048576: true; the input reads as it did. -/
def bladeNoneUptoRow : OpenClaim := { program := "ytlbooffoebjllaa", sum := "05c3c7e2e50b4d807269539ac319325b0437024c814134cbd250afd44a8859a2", func := "sawmill/sawmilllaw28.BladeNone", spec := "bladeNone", unfollowed := true, recurses := true, apart := false, narrowed := true }
def BladeNoneUptoSaid : Prop := bladeNoneUptoRow.holds Try.pinned (OpenSpec.upto bladeNoneSpec)

end Rows
end Go.Proofs.Ytlbooffoebjllaa
