/-
  No cell of these rows narrows 'for every input' (looked for: loops, veiled, ifaces, maps, wideKeys, modest, calm, conditions, laid).
  DERIVED. THE GIVEN ROWS OF THIS SEAT. 5 by the template 'for every input the law returns true; each argument reads behind the call as it read before'; 0 by the template 'total and deterministic' (their statements: YtpapgldjmglaiaaTotals.lean).
  GIVEN WITH THE SEED: the statements are not yours to turn. If you find one false, say at which input.
  Laid BY PROGRAM, IN A SANDBOX (cutbox-rows.mjs): the forced cells as the released guide's own fill.sh prints them over the translation 0a3edf64facdd430… (all of the seat's roots in one cut). By AI agents, Wed Nov 11 2026. No macro, syntax, notation, axiom, sorry.
-/
import Derived.Test.YtpapgldjmglaiaaChecked
import GoSem.Claim
import GoSem.ClaimJoined
import GoSem.ClaimMapViews
import Derived.JoinedTies
import Derived.KernelRfl
namespace Go.Proofs.Ytpapgldjmglaiaa
/- THE CELL 'sum', in the pinned program and in every row, IS THE sha256 OF THE DUMP (.gsa) THAT YtpapgldjmglaiaaProg.lean LOADS. Nothing in Lean hashes anything: it is a label: what it is worth is what the hold of that sum in a sandbox is worth. -/
noncomputable def Try.pinned : Pinned := { name := "ytpapgldjmglaiaa", sum := "0a3edf64facdd430e31834c47b748f1ac4dee0bd3b2ba337145c091d00233a42", checked := Try.checked }
namespace Rows
def none {H : Type} : Left H := { results := [], args := [] }

/-- 'sawmilllaw55.ClaimRuns': WHATEVER THE INPUT: true; the input reads as it did. -/
def claimRunsSpec : ChangeSpec := { name := "claimRuns", fn := fun _ => fun
  | [d1, d2] => { results := [.lit (.bool true)], args := [d1, d2] }
  | _ => none }
def claimRunsRow : OpenClaim := { program := "ytpapgldjmglaiaa", sum := "0a3edf64facdd430e31834c47b748f1ac4dee0bd3b2ba337145c091d00233a42", func := "sawmill/sawmilllaw55.ClaimRuns", spec := "claimRuns", apart := false }
def ClaimRunsSaid : Prop := claimRunsRow.holds Try.pinned (OpenSpec.ofChange claimRunsSpec)

/-- ITS FALSE NEIGHBOUR: 'it returns false'. Refute it at one input. -/
def claimRunsWrong : ChangeSpec := { name := "claimRuns", fn := fun _ => fun
  | [d1, d2] => { results := [.lit (.bool false)], args := [d1, d2] }
  | _ => none }
def ClaimRunsWrongFalsely : Prop := claimRunsRow.holds Try.pinned (OpenSpec.ofChange claimRunsWrong)

/-- 'sawmilllaw55.ClaimLeft': WHATEVER THE INPUT: true; the input reads as it did. -/
def claimLeftSpec : ChangeSpec := { name := "claimLeft", fn := fun _ => fun
  | [d1, d2] => { results := [.lit (.bool true)], args := [d1, d2] }
  | _ => none }
def claimLeftRow : OpenClaim := { program := "ytpapgldjmglaiaa", sum := "0a3edf64facdd430e31834c47b748f1ac4dee0bd3b2ba337145c091d00233a42", func := "sawmill/sawmilllaw55.ClaimLeft", spec := "claimLeft", apart := false }
def ClaimLeftSaid : Prop := claimLeftRow.holds Try.pinned (OpenSpec.ofChange claimLeftSpec)

/-- ITS FALSE NEIGHBOUR: 'it returns false'. Refute it at one input. -/
def claimLeftWrong : ChangeSpec := { name := "claimLeft", fn := fun _ => fun
  | [d1, d2] => { results := [.lit (.bool false)], args := [d1, d2] }
  | _ => none }
def ClaimLeftWrongFalsely : Prop := claimLeftRow.holds Try.pinned (OpenSpec.ofChange claimLeftWrong)

/-- 'sawmilllaw55.ClaimOldest': WHATEVER THE INPUT: true; the input reads as it did. -/
def claimOldestSpec : ChangeSpec := { name := "claimOldest", fn := fun _ => fun
  | [d1, d2] => { results := [.lit (.bool true)], args := [d1, d2] }
  | _ => none }
def claimOldestRow : OpenClaim := { program := "ytpapgldjmglaiaa", sum := "0a3edf64facdd430e31834c47b748f1ac4dee0bd3b2ba337145c091d00233a42", func := "sawmill/sawmilllaw55.ClaimOldest", spec := "claimOldest", apart := false }
def ClaimOldestSaid : Prop := claimOldestRow.holds Try.pinned (OpenSpec.ofChange claimOldestSpec)

/-- ITS FALSE NEIGHBOUR: 'it returns false'. Refute it at one input. -/
def claimOldestWrong : ChangeSpec := { name := "claimOldest", fn := fun _ => fun
  | [d1, d2] => { results := [.lit (.bool false)], args := [d1, d2] }
  | _ => none }
def ClaimOldestWrongFalsely : Prop := claimOldestRow.holds Try.pinned (OpenSpec.ofChange claimOldestWrong)

/-- 'sawmilllaw55.ClaimParts': WHATEVER THE INPUT: true; the input reads as it did. -/
def claimPartsSpec : ChangeSpec := { name := "claimParts", fn := fun _ => fun
  | [d1, d2, d3] => { results := [.lit (.bool true)], args := [d1, d2, d3] }
  | _ => none }
def claimPartsRow : OpenClaim := { program := "ytpapgldjmglaiaa", sum := "0a3edf64facdd430e31834c47b748f1ac4dee0bd3b2ba337145c091d00233a42", func := "sawmill/sawmilllaw55.ClaimParts", spec := "claimParts", apart := false }
def ClaimPartsSaid : Prop := claimPartsRow.holds Try.pinned (OpenSpec.ofChange claimPartsSpec)

/-- ITS FALSE NEIGHBOUR: 'it returns false'. Refute it at one input. -/
def claimPartsWrong : ChangeSpec := { name := "claimParts", fn := fun _ => fun
  | [d1, d2, d3] => { results := [.lit (.bool false)], args := [d1, d2, d3] }
  | _ => none }
def ClaimPartsWrongFalsely : Prop := claimPartsRow.holds Try.pinned (OpenSpec.ofChange claimPartsWrong)

/-- 'sawmilllaw55.ClaimNone': WHATEVER THE INPUT: true; the input reads as it did. -/
def claimNoneSpec : ChangeSpec := { name := "claimNone", fn := fun _ => fun
  | [d1, d2] => { results := [.lit (.bool true)], args := [d1, d2] }
  | _ => none }
def claimNoneRow : OpenClaim := { program := "ytpapgldjmglaiaa", sum := "0a3edf64facdd430e31834c47b748f1ac4dee0bd3b2ba337145c091d00233a42", func := "sawmill/sawmilllaw55.ClaimNone", spec := "claimNone", apart := false }
def ClaimNoneSaid : Prop := claimNoneRow.holds Try.pinned (OpenSpec.ofChange claimNoneSpec)

/-- ITS FALSE NEIGHBOUR: 'it returns false'. Refute it at one input. -/
def claimNoneWrong : ChangeSpec := { name := "claimNone", fn := fun _ => fun
  | [d1, d2] => { results := [.lit (.bool false)], args := [d1, d2] }
  | _ => none }
def ClaimNoneWrongFalsely : Prop := claimNoneRow.holds Try.pinned (OpenSpec.ofChange claimNoneWrong)

/- THE SECOND FORM. 'bulk': how many values and letters a reading holds, each counted each time it is reached (what is shared counts as often as it is met; a slice's spare places count too). A statement '..UptoSaid' is the law's where the arguments, and the package variables that the reading takes, are together of bulk at most 1048576: NARROWER than '..Said'. Prove '..Said' where nothing that the law and all that it calls make is longer than what came in: it says more and counts as full. Else prove '..UptoSaid'. A law counts once. -/
mutual
def uptoBulk {H : Type} : DataW H → Nat
  | .lit (.string bytes) => bytes.length + 1
  | .lit _ => 1
  | .nil => 1
  | .ptr d => uptoBulk d + 1
  | .slice elems spare => uptoBulkAll elems + uptoBulkAll spare + 1
  | .agg parts => uptoBulkAll parts + 1
  | .iface _ d => uptoBulk d + 1
  | .map entries => uptoBulkEntries entries + 1
  | .held _ => 1
def uptoBulkAll {H : Type} : List (DataW H) → Nat
  | [] => 0
  | d :: r => uptoBulk d + uptoBulkAll r
def uptoBulkEntries {H : Type} : List (Lit × DataW H) → Nat
  | [] => 0
  | x :: r => uptoBulkEntry x + uptoBulkEntries r
def uptoBulkEntry {H : Type} : Lit × DataW H → Nat
  | (.string bytes, d) => bytes.length + uptoBulk d + 1
  | (_, d) => uptoBulk d + 1
 end
def uptoSmall : (H : Type) → List (DataW H) → Bool := fun _ ds => decide (uptoBulkAll ds ≤ 1048576)
def OpenSpec.upto (s : _root_.Go.ChangeSpec) : _root_.Go.OpenSpec := { _root_.Go.OpenSpec.ofChange s with cond := some uptoSmall }

/-- 'sawmilllaw55.ClaimRuns', WHERE WHAT IT READS IS OF BULK AT MOST 1048576: true; the input reads as it did. -/
def claimRunsUptoRow : OpenClaim := { program := "ytpapgldjmglaiaa", sum := "0a3edf64facdd430e31834c47b748f1ac4dee0bd3b2ba337145c091d00233a42", func := "sawmill/sawmilllaw55.ClaimRuns", spec := "claimRuns", apart := false, narrowed := true }
def ClaimRunsUptoSaid : Prop := claimRunsUptoRow.holds Try.pinned (OpenSpec.upto claimRunsSpec)

/-- 'sawmilllaw55.ClaimLeft', WHERE WHAT IT READS IS OF BULK AT MOST 1048576: true; the input reads as it did. -/
def claimLeftUptoRow : OpenClaim := { program := "ytpapgldjmglaiaa", sum := "0a3edf64facdd430e31834c47b748f1ac4dee0bd3b2ba337145c091d00233a42", func := "sawmill/sawmilllaw55.ClaimLeft", spec := "claimLeft", apart := false, narrowed := true }
def ClaimLeftUptoSaid : Prop := claimLeftUptoRow.holds Try.pinned (OpenSpec.upto claimLeftSpec)

/-- 'sawmilllaw55.ClaimOldest', WHERE WHAT IT READS IS OF BULK AT MOST 1048576: true; the input reads as it did. -/
def claimOldestUptoRow : OpenClaim := { program := "ytpapgldjmglaiaa", sum := "0a3edf64facdd430e31834c47b748f1ac4dee0bd3b2ba337145c091d00233a42", func := "sawmill/sawmilllaw55.ClaimOldest", spec := "claimOldest", apart := false, narrowed := true }
def ClaimOldestUptoSaid : Prop := claimOldestUptoRow.holds Try.pinned (OpenSpec.upto claimOldestSpec)

/-- 'sawmilllaw55.ClaimParts', WHERE WHAT IT READS IS OF BULK AT MOST 1048576: true; the input reads as it did. -/
def claimPartsUptoRow : OpenClaim := { program := "ytpapgldjmglaiaa", sum := "0a3edf64facdd430e31834c47b748f1ac4dee0bd3b2ba337145c091d00233a42", func := "sawmill/sawmilllaw55.ClaimParts", spec := "claimParts", apart := false, narrowed := true }
def ClaimPartsUptoSaid : Prop := claimPartsUptoRow.holds Try.pinned (OpenSpec.upto claimPartsSpec)

/-- 'sawmilllaw55.ClaimNone', WHERE WHAT IT READS IS OF BULK AT MOST 1048576: true; the input reads as it did. -/
def claimNoneUptoRow : OpenClaim := { program := "ytpapgldjmglaiaa", sum := "0a3edf64facdd430e31834c47b748f1ac4dee0bd3b2ba337145c091d00233a42", func := "sawmill/sawmilllaw55.ClaimNone", spec := "claimNone", apart := false, narrowed := true }
def ClaimNoneUptoSaid : Prop := claimNoneUptoRow.holds Try.pinned (OpenSpec.upto claimNoneSpec)

end Rows
end Go.Proofs.Ytpapgldjmglaiaa
