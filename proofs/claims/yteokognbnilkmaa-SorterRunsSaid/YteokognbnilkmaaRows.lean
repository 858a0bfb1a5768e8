/-
  No cell of these rows narrows 'for every input' (looked for: loops, veiled, ifaces, maps, wideKeys, modest, calm, conditions, laid).
  DERIVED. THE GIVEN ROWS OF THIS SEAT. 6 by the template 'for every input the law returns true; each argument reads behind the call as it read before'; 0 by the template 'total and deterministic' (their statements: YteokognbnilkmaaTotals.lean).
  GIVEN WITH THE SEED: the statements are not yours to turn. If you find one false, say at which input.
  Laid BY PROGRAM, IN A SANDBOX (cutbox-rows.mjs): the forced cells as the released guide's own fill.sh prints them over the translation 3916ed5389009cd6… (all of the seat's roots in one cut). By AI agents, Wed Nov 11 2026. No macro, syntax, notation, axiom, sorry.
-/
import Derived.Test.YteokognbnilkmaaChecked
import GoSem.Claim
import GoSem.ClaimJoined
import GoSem.ClaimMapViews
import Derived.JoinedTies
import Derived.KernelRfl
namespace Go.Proofs.Yteokognbnilkmaa
/- THE CELL 'sum', in the pinned program and in every row, IS THE sha256 OF THE DUMP (.gsa) THAT YteokognbnilkmaaProg.lean LOADS. Nothing in Lean hashes anything: it is a label: what it is worth is what the hold of that sum in a sandbox is worth. -/
noncomputable def Try.pinned : Pinned := { name := "yteokognbnilkmaa", sum := "3916ed5389009cd6ce6d98aeb5ee5f01f0b3058e062c278be04e9366115920e6", checked := Try.checked }
namespace Rows
def none {H : Type} : Left H := { results := [], args := [] }

/-- 'sawmilllaw31.SorterKeeps': WHATEVER THE INPUT: true; the input reads as it did. -/
def sorterKeepsSpec : ChangeSpec := { name := "sorterKeeps", fn := fun _ => fun
  | [d] => { results := [.lit (.bool true)], args := [d] }
  | _ => none }
def sorterKeepsRow : OpenClaim := { program := "yteokognbnilkmaa", sum := "3916ed5389009cd6ce6d98aeb5ee5f01f0b3058e062c278be04e9366115920e6", func := "sawmill/sawmilllaw31.SorterKeeps", spec := "sorterKeeps", unfollowed := true, recurses := true, apart := false }
def SorterKeepsSaid : Prop := sorterKeepsRow.holds Try.pinned (OpenSpec.ofChange sorterKeepsSpec)

/-- ITS FALSE NEIGHBOUR: 'it returns false'. Refute it at one input. -/
def sorterKeepsWrong : ChangeSpec := { name := "sorterKeeps", fn := fun _ => fun
  | [d] => { results := [.lit (.bool false)], args := [d] }
  | _ => none }
def SorterKeepsWrongFalsely : Prop := sorterKeepsRow.holds Try.pinned (OpenSpec.ofChange sorterKeepsWrong)

/-- 'sawmilllaw31.SorterFills': WHATEVER THE INPUT: true; the input reads as it did. -/
def sorterFillsSpec : ChangeSpec := { name := "sorterFills", fn := fun _ => fun
  | [d1, d2, d3] => { results := [.lit (.bool true)], args := [d1, d2, d3] }
  | _ => none }
def sorterFillsRow : OpenClaim := { program := "yteokognbnilkmaa", sum := "3916ed5389009cd6ce6d98aeb5ee5f01f0b3058e062c278be04e9366115920e6", func := "sawmill/sawmilllaw31.SorterFills", spec := "sorterFills", unfollowed := true, recurses := true, apart := false }
def SorterFillsSaid : Prop := sorterFillsRow.holds Try.pinned (OpenSpec.ofChange sorterFillsSpec)

/-- ITS FALSE NEIGHBOUR: 'it returns false'. Refute it at one input. -/
def sorterFillsWrong : ChangeSpec := { name := "sorterFills", fn := fun _ => fun
  | [d1, d2, d3] => { results := [.lit (.bool false)], args := [d1, d2, d3] }
  | _ => none }
def SorterFillsWrongFalsely : Prop := sorterFillsRow.holds Try.pinned (OpenSpec.ofChange sorterFillsWrong)

/-- 'sawmilllaw31.SorterNews': WHATEVER THE INPUT: true; the input reads as it did. -/
def sorterNewsSpec : ChangeSpec := { name := "sorterNews", fn := fun _ => fun
  | [d1, d2] => { results := [.lit (.bool true)], args := [d1, d2] }
  | _ => none }
def sorterNewsRow : OpenClaim := { program := "yteokognbnilkmaa", sum := "3916ed5389009cd6ce6d98aeb5ee5f01f0b3058e062c278be04e9366115920e6", func := "sawmill/sawmilllaw31.SorterNews", spec := "sorterNews", unfollowed := true, recurses := true, apart := false }
def SorterNewsSaid : Prop := sorterNewsRow.holds Try.pinned (OpenSpec.ofChange sorterNewsSpec)

/-- ITS FALSE NEIGHBOUR: 'it returns false'. Refute it at one input. -/
def sorterNewsWrong : ChangeSpec := { name := "sorterNews", fn := fun _ => fun
  | [d1, d2] => { results := [.lit (.bool false)], args := [d1, d2] }
  | _ => none }
def SorterNewsWrongFalsely : Prop := sorterNewsRow.holds Try.pinned (OpenSpec.ofChange sorterNewsWrong)

/-- 'sawmilllaw31.SorterRuns': WHATEVER THE INPUT: true; the input reads as it did. -/
def sorterRunsSpec : ChangeSpec := { name := "sorterRuns", fn := fun _ => fun
  | [d] => { results := [.lit (.bool true)], args := [d] }
  | _ => none }
def sorterRunsRow : OpenClaim := { program := "yteokognbnilkmaa", sum := "3916ed5389009cd6ce6d98aeb5ee5f01f0b3058e062c278be04e9366115920e6", func := "sawmill/sawmilllaw31.SorterRuns", spec := "sorterRuns", unfollowed := true, recurses := true, apart := false }
def SorterRunsSaid : Prop := sorterRunsRow.holds Try.pinned (OpenSpec.ofChange sorterRunsSpec)

/-- ITS FALSE NEIGHBOUR: 'it returns false'. Refute it at one input. -/
def sorterRunsWrong : ChangeSpec := { name := "sorterRuns", fn := fun _ => fun
  | [d] => { results := [.lit (.bool false)], args := [d] }
  | _ => none }
def SorterRunsWrongFalsely : Prop := sorterRunsRow.holds Try.pinned (OpenSpec.ofChange sorterRunsWrong)

/-- 'sawmilllaw31.SorterMost': WHATEVER THE INPUT: true; the input reads as it did. -/
def sorterMostSpec : ChangeSpec := { name := "sorterMost", fn := fun _ => fun
  | [d] => { results := [.lit (.bool true)], args := [d] }
  | _ => none }
def sorterMostRow : OpenClaim := { program := "yteokognbnilkmaa", sum := "3916ed5389009cd6ce6d98aeb5ee5f01f0b3058e062c278be04e9366115920e6", func := "sawmill/sawmilllaw31.SorterMost", spec := "sorterMost", unfollowed := true, recurses := true, apart := false }
def SorterMostSaid : Prop := sorterMostRow.holds Try.pinned (OpenSpec.ofChange sorterMostSpec)

/-- ITS FALSE NEIGHBOUR: 'it returns false'. Refute it at one input. -/
def sorterMostWrong : ChangeSpec := { name := "sorterMost", fn := fun _ => fun
  | [d] => { results := [.lit (.bool false)], args := [d] }
  | _ => none }
def SorterMostWrongFalsely : Prop := sorterMostRow.holds Try.pinned (OpenSpec.ofChange sorterMostWrong)

/-- 'sawmilllaw31.SorterNil': WHATEVER THE INPUT: true; the input reads as it did. -/
def sorterNilSpec : ChangeSpec := { name := "sorterNil", fn := fun _ => fun
  | [d] => { results := [.lit (.bool true)], args := [d] }
  | _ => none }
def sorterNilRow : OpenClaim := { program := "yteokognbnilkmaa", sum := "3916ed5389009cd6ce6d98aeb5ee5f01f0b3058e062c278be04e9366115920e6", func := "sawmill/sawmilllaw31.SorterNil", spec := "sorterNil", unfollowed := true, recurses := true, apart := false }
def SorterNilSaid : Prop := sorterNilRow.holds Try.pinned (OpenSpec.ofChange sorterNilSpec)

/-- ITS FALSE NEIGHBOUR: 'it returns false'. Refute it at one input. -/
def sorterNilWrong : ChangeSpec := { name := "sorterNil", fn := fun _ => fun
  | [d] => { results := [.lit (.bool false)], args := [d] }
  | _ => none }
def SorterNilWrongFalsely : Prop := sorterNilRow.holds Try.pinned (OpenSpec.ofChange sorterNilWrong)

/- THE SECOND FORM. 'bulk': how many values and letters a reading holds, each counted each time it is reached (what is shared counts as often as it is met; a slice's spare places count too). A statement '..UptoSaid' is the law's where the arguments, and the package variables that the reading takes, are together of bulk at most 1048576: NARROWER than '..Said'. Prove '..Said' where nothing that the law and all that it calls make is longer than what came in: it says more and counts as full. Else prove '..UptoSaid'. A law counts once. -/
mutual
def uptoBulk {H : Type} : DataW H → Nat
  | .lit (.string bytes) => bytes.length + 1
  | .lit _ => 1
  | .nil => 1
  | .ptr d => uptoBulk d + 1
  | .slice elems spare => uptoBulkAll elems + uptoBulkAll spare + 1
  | .agg parts => uptoBulkAll parts + 1
  | .iface _ d => uptoBulk d + 1
  | .map entries => uptoBulkEntries entries + 1
  | .held _ => 1
def uptoBulkAll {H : Type} : List (DataW H) → Nat
  | [] => 0
  | d :: r => uptoBulk d + uptoBulkAll r
def uptoBulkEntries {H : Type} : List (Lit × DataW H) → Nat
  | [] => 0
  | x :: r => uptoBulkEntry x + uptoBulkEntries r
def uptoBulkEntry {H : Type} : Lit × DataW H → Nat
  | (.string bytes, d) => bytes.length + uptoBulk d + 1
  | (_, d) => uptoBulk d + 1
 end
def uptoSmall : (H : Type) → List (DataW H) → Bool := fun _ ds => decide (uptoBulkAll ds ≤ 1048576)
def OpenSpec.upto (s : _root_.Go.ChangeSpec) : _root_.Go.OpenSpec := { _root_.Go.OpenSpec.ofChange s with cond := some uptoSmall }

/-- 'sawmilllaw31.SorterKeeps', WHERE WHAT IT READS IS OF BULK AT MOST 1048576: true; the input reads as it did. -/
def sorterKeepsUptoRow : OpenClaim := { program := "yteokognbnilkmaa", sum := "3916ed5389009cd6ce6d98aeb5ee5f01f0b3058e062c278be04e9366115920e6", func := "sawmill/sawmilllaw31.SorterKeeps", spec := "sorterKeeps", unfollowed := true, recurses := true, apart := false, narrowed := true }
def SorterKeepsUptoSaid : Prop := sorterKeepsUptoRow.holds Try.pinned (OpenSpec.upto sorterKeepsSpec)

/-- 'sawmilllaw31.SorterFills', WHERE WHAT IT READS IS OF BULK AT MOST 1048576: true; the input reads as it did. -/
def sorterFillsUptoRow : OpenClaim := { program := "yteokognbnilkmaa", sum := "3916ed5389009cd6ce6d98aeb5ee5f01f0b3058e062c278be04e9366115920e6", func := "sawmill/sawmilllaw31.SorterFills", spec := "sorterFills", unfollowed := true, recurses := true, apart := false, narrowed := true }
def SorterFillsUptoSaid : Prop := sorterFillsUptoRow.holds Try.pinned (OpenSpec.upto sorterFillsSpec)

/-- 'sawmilllaw31.SorterNews', WHERE WHAT IT READS IS OF BULK AT MOST 1048576: true; the input reads as it did. -/
def sorterNewsUptoRow : OpenClaim := { program := "yteokognbnilkmaa", sum := "3916ed5389009cd6ce6d98aeb5ee5f01f0b3058e062c278be04e9366115920e6", func := "sawmill/sawmilllaw31.SorterNews", spec := "sorterNews", unfollowed := true, recurses := true, apart := false, narrowed := true }
def SorterNewsUptoSaid : Prop := sorterNewsUptoRow.holds Try.pinned (OpenSpec.upto sorterNewsSpec)

/-- 'sawmilllaw31.SorterRuns', WHERE WHAT IT READS IS OF BULK AT MOST 1048576: true; the input reads as it did. -/
def sorterRunsUptoRow : OpenClaim := { program := "yteokognbnilkmaa", sum := "3916ed5389009cd6ce6d98aeb5ee5f01f0b3058e062c278be04e9366115920e6", func := "sawmill/sawmilllaw31.SorterRuns", spec := "sorterRuns", unfollowed := true, recurses := true, apart := false, narrowed := true }
def SorterRunsUptoSaid : Prop := sorterRunsUptoRow.holds Try.pinned (OpenSpec.upto sorterRunsSpec)

/-- 'sawmilllaw31.SorterMost', WHERE WHAT IT READS IS OF BULK AT MOST 1048576: true; the input reads as it did. -/
def sorterMostUptoRow : OpenClaim := { program := "yteokognbnilkmaa", sum := "3916ed5389009cd6ce6d98aeb5ee5f01f0b3058e062c278be04e9366115920e6", func := "sawmill/sawmilllaw31.SorterMost", spec := "sorterMost", unfollowed := true, recurses := true, apart := false, narrowed := true }
def SorterMostUptoSaid : Prop := sorterMostUptoRow.holds Try.pinned (OpenSpec.upto sorterMostSpec)

/-- 'sawmilllaw31.SorterNil', WHERE WHAT IT READS IS OF BULK AT MOST 1048576: true; the input reads as it did. -/
def sorterNilUptoRow : OpenClaim := { program := "yteokognbnilkmaa", sum := "3916ed5389009cd6ce6d98aeb5ee5f01f0b3058e062c278be04e9366115920e6", func := "sawmill/sawmilllaw31.SorterNil", spec := "sorterNil", unfollowed := true, recurses := true, apart := false, narrowed := true }
def SorterNilUptoSaid : Prop := sorterNilUptoRow.holds Try.pinned (OpenSpec.upto sorterNilSpec)

end Rows
end Go.Proofs.Yteokognbnilkmaa
