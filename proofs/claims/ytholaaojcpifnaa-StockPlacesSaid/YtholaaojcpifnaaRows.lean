/-
  No cell of these rows narrows 'for every input' (looked for: loops, veiled, ifaces, maps, wideKeys, modest, calm, conditions, laid).
  DERIVED. THE GIVEN ROWS OF THIS SEAT. 6 by the template 'for every input the law returns true; each argument reads behind the call as it read before'; 0 by the template 'total and deterministic' (their statements: YtholaaojcpifnaaTotals.lean).
  GIVEN WITH THE SEED: the statements are not yours to turn. If you find one false, say at which input.
  Laid BY PROGRAM, IN A SANDBOX (cutbox-rows.mjs): the forced cells as the released guide's own fill.sh prints them over the translation 7de0999254cbaba8… (all of the seat's roots in one cut). By AI agents, Wed Nov 11 2026. No macro, syntax, notation, axiom, sorry.
-/
import Derived.Test.YtholaaojcpifnaaChecked
import GoSem.Claim
import GoSem.ClaimJoined
import GoSem.ClaimMapViews
import Derived.JoinedTies
import Derived.KernelRfl
namespace Go.Proofs.Ytholaaojcpifnaa
/- THE CELL 'sum', in the pinned program and in every row, IS THE sha256 OF THE DUMP (.gsa) THAT YtholaaojcpifnaaProg.lean LOADS. Nothing in Lean hashes anything: it is a label: what it is worth is what the hold of that sum in a sandbox is worth. -/
noncomputable def Try.pinned : Pinned := { name := "ytholaaojcpifnaa", sum := "7de0999254cbaba81ac8e3a6cdf28579337ca12ea6b3caf1df5c67d492a51fa5", checked := Try.checked }
namespace Rows
def none {H : Type} : Left H := { results := [], args := [] }

/-- 'sawmilllaw47.StockRuns': WHATEVER THE INPUT: true; the input reads as it did. -/
def stockRunsSpec : ChangeSpec := { name := "stockRuns", fn := fun _ => fun
  | [d] => { results := [.lit (.bool true)], args := [d] }
  | _ => none }
def stockRunsRow : OpenClaim := { program := "ytholaaojcpifnaa", sum := "7de0999254cbaba81ac8e3a6cdf28579337ca12ea6b3caf1df5c67d492a51fa5", func := "sawmill/sawmilllaw47.StockRuns", spec := "stockRuns", apart := false }
def StockRunsSaid : Prop := stockRunsRow.holds Try.pinned (OpenSpec.ofChange stockRunsSpec)

/-- ITS FALSE NEIGHBOUR: 'it returns false'. Refute it at one input. -/
def stockRunsWrong : ChangeSpec := { name := "stockRuns", fn := fun _ => fun
  | [d] => { results := [.lit (.bool false)], args := [d] }
  | _ => none }
def StockRunsWrongFalsely : Prop := stockRunsRow.holds Try.pinned (OpenSpec.ofChange stockRunsWrong)

/-- 'sawmilllaw47.StockFull': WHATEVER THE INPUT: true; the input reads as it did. -/
def stockFullSpec : ChangeSpec := { name := "stockFull", fn := fun _ => fun
  | [d1, d2] => { results := [.lit (.bool true)], args := [d1, d2] }
  | _ => none }
def stockFullRow : OpenClaim := { program := "ytholaaojcpifnaa", sum := "7de0999254cbaba81ac8e3a6cdf28579337ca12ea6b3caf1df5c67d492a51fa5", func := "sawmill/sawmilllaw47.StockFull", spec := "stockFull", apart := false }
def StockFullSaid : Prop := stockFullRow.holds Try.pinned (OpenSpec.ofChange stockFullSpec)

/-- ITS FALSE NEIGHBOUR: 'it returns false'. Refute it at one input. -/
def stockFullWrong : ChangeSpec := { name := "stockFull", fn := fun _ => fun
  | [d1, d2] => { results := [.lit (.bool false)], args := [d1, d2] }
  | _ => none }
def StockFullWrongFalsely : Prop := stockFullRow.holds Try.pinned (OpenSpec.ofChange stockFullWrong)

/-- 'sawmilllaw47.StockPlaces': WHATEVER THE INPUT: true; the input reads as it did. -/
def stockPlacesSpec : ChangeSpec := { name := "stockPlaces", fn := fun _ => fun
  | [d] => { results := [.lit (.bool true)], args := [d] }
  | _ => none }
def stockPlacesRow : OpenClaim := { program := "ytholaaojcpifnaa", sum := "7de0999254cbaba81ac8e3a6cdf28579337ca12ea6b3caf1df5c67d492a51fa5", func := "sawmill/sawmilllaw47.StockPlaces", spec := "stockPlaces", apart := false }
def StockPlacesSaid : Prop := stockPlacesRow.holds Try.pinned (OpenSpec.ofChange stockPlacesSpec)

/-- ITS FALSE NEIGHBOUR: 'it returns false'. Refute it at one input. -/
def stockPlacesWrong : ChangeSpec := { name := "stockPlaces", fn := fun _ => fun
  | [d] => { results := [.lit (.bool false)], args := [d] }
  | _ => none }
def StockPlacesWrongFalsely : Prop := stockPlacesRow.holds Try.pinned (OpenSpec.ofChange stockPlacesWrong)

/-- 'sawmilllaw47.StockUndone': WHATEVER THE INPUT: true; the input reads as it did. -/
def stockUndoneSpec : ChangeSpec := { name := "stockUndone", fn := fun _ => fun
  | [d1, d2, d3] => { results := [.lit (.bool true)], args := [d1, d2, d3] }
  | _ => none }
def stockUndoneRow : OpenClaim := { program := "ytholaaojcpifnaa", sum := "7de0999254cbaba81ac8e3a6cdf28579337ca12ea6b3caf1df5c67d492a51fa5", func := "sawmill/sawmilllaw47.StockUndone", spec := "stockUndone", apart := false }
def StockUndoneSaid : Prop := stockUndoneRow.holds Try.pinned (OpenSpec.ofChange stockUndoneSpec)

/-- ITS FALSE NEIGHBOUR: 'it returns false'. Refute it at one input. -/
def stockUndoneWrong : ChangeSpec := { name := "stockUndone", fn := fun _ => fun
  | [d1, d2, d3] => { results := [.lit (.bool false)], args := [d1, d2, d3] }
  | _ => none }
def StockUndoneWrongFalsely : Prop := stockUndoneRow.holds Try.pinned (OpenSpec.ofChange stockUndoneWrong)

/-- 'sawmilllaw47.StockRemoves': WHATEVER THE INPUT: true; the input reads as it did. -/
def stockRemovesSpec : ChangeSpec := { name := "stockRemoves", fn := fun _ => fun
  | [d1, d2, d3] => { results := [.lit (.bool true)], args := [d1, d2, d3] }
  | _ => none }
def stockRemovesRow : OpenClaim := { program := "ytholaaojcpifnaa", sum := "7de0999254cbaba81ac8e3a6cdf28579337ca12ea6b3caf1df5c67d492a51fa5", func := "sawmill/sawmilllaw47.StockRemoves", spec := "stockRemoves", apart := false }
def StockRemovesSaid : Prop := stockRemovesRow.holds Try.pinned (OpenSpec.ofChange stockRemovesSpec)

/-- ITS FALSE NEIGHBOUR: 'it returns false'. Refute it at one input. -/
def stockRemovesWrong : ChangeSpec := { name := "stockRemoves", fn := fun _ => fun
  | [d1, d2, d3] => { results := [.lit (.bool false)], args := [d1, d2, d3] }
  | _ => none }
def StockRemovesWrongFalsely : Prop := stockRemovesRow.holds Try.pinned (OpenSpec.ofChange stockRemovesWrong)

/-- 'sawmilllaw47.StockNil': WHATEVER THE INPUT: true; the input reads as it did. -/
def stockNilSpec : ChangeSpec := { name := "stockNil", fn := fun _ => fun
  | [d] => { results := [.lit (.bool true)], args := [d] }
  | _ => none }
def stockNilRow : OpenClaim := { program := "ytholaaojcpifnaa", sum := "7de0999254cbaba81ac8e3a6cdf28579337ca12ea6b3caf1df5c67d492a51fa5", func := "sawmill/sawmilllaw47.StockNil", spec := "stockNil", apart := false }
def StockNilSaid : Prop := stockNilRow.holds Try.pinned (OpenSpec.ofChange stockNilSpec)

/-- ITS FALSE NEIGHBOUR: 'it returns false'. Refute it at one input. -/
def stockNilWrong : ChangeSpec := { name := "stockNil", fn := fun _ => fun
  | [d] => { results := [.lit (.bool false)], args := [d] }
  | _ => none }
def StockNilWrongFalsely : Prop := stockNilRow.holds Try.pinned (OpenSpec.ofChange stockNilWrong)

/- THE SECOND FORM. 'bulk': how many values and letters a reading holds, each counted each time it is reached (what is shared counts as often as it is met; a slice's spare places count too). A statement '..UptoSaid' is the law's where the arguments, and the package variables that the reading takes, are together of bulk at most 1048576: NARROWER than '..Said'. Prove '..Said' where nothing that the law and all that it calls make is longer than what came in: it says more and counts as full. Else prove '..UptoSaid'. A law counts once. -/
mutual
def uptoBulk {H : Type} : DataW H → Nat
  | .lit (.string bytes) => bytes.length + 1
  | .lit _ => 1
  | .nil => 1
  | .ptr d => uptoBulk d + 1
  | .slice elems spare => uptoBulkAll elems + uptoBulkAll spare + 1
  | .agg parts => uptoBulkAll parts + 1
  | .iface _ d => uptoBulk d + 1
  | .map entries => uptoBulkEntries entries + 1
  | .held _ => 1
def uptoBulkAll {H : Type} : List (DataW H) → Nat
  | [] => 0
  | d :: r => uptoBulk d + uptoBulkAll r
def uptoBulkEntries {H : Type} : List (Lit × DataW H) → Nat
  | [] => 0
  | x :: r => uptoBulkEntry x + uptoBulkEntries r
def uptoBulkEntry {H : Type} : Lit × DataW H → Nat
  | (.string bytes, d) => bytes.length + uptoBulk d + 1
  | (_, d) => uptoBulk d + 1
 end
def uptoSmall : (H : Type) → List (DataW H) → Bool := fun _ ds => decide (uptoBulkAll ds ≤ 1048576)
def OpenSpec.upto (s : _root_.Go.ChangeSpec) : _root_.Go.OpenSpec := { _root_.Go.OpenSpec.ofChange s with cond := some uptoSmall }

/-- 'sawmilllaw47.StockRuns', WHERE WHAT IT READS IS OF BULK AT MOST 1048576: true; the input reads as it did. -/
def stockRunsUptoRow : OpenClaim := { program := "ytholaaojcpifnaa", sum := "7de0999254cbaba81ac8e3a6cdf28579337ca12ea6b3caf1df5c67d492a51fa5", func := "sawmill/sawmilllaw47.StockRuns", spec := "stockRuns", apart := false, narrowed := true }
def StockRunsUptoSaid : Prop := stockRunsUptoRow.holds Try.pinned (OpenSpec.upto stockRunsSpec)

/-- 'sawmilllaw47.StockFull', WHERE WHAT IT READS IS OF BULK AT MOST 1048576: true; the input reads as it did. -/
def stockFullUptoRow : OpenClaim := { program := "ytholaaojcpifnaa", sum := "7de0999254cbaba81ac8e3a6cdf28579337ca12ea6b3caf1df5c67d492a51fa5", func := "sawmill/sawmilllaw47.StockFull", spec := "stockFull", apart := false, narrowed := true }
def StockFullUptoSaid : Prop := stockFullUptoRow.holds Try.pinned (OpenSpec.upto stockFullSpec)

/-- 'sawmilllaw47.StockPlaces', WHERE WHAT IT READS IS OF BULK AT MOST 1048576: true; the input reads as it did. -/
def stockPlacesUptoRow : OpenClaim := { program := "ytholaaojcpifnaa", sum := "7de0999254cbaba81ac8e3a6cdf28579337ca12ea6b3caf1df5c67d492a51fa5", func := "sawmill/sawmilllaw47.StockPlaces", spec := "stockPlaces", apart := false, narrowed := true }
def StockPlacesUptoSaid : Prop := stockPlacesUptoRow.holds Try.pinned (OpenSpec.upto stockPlacesSpec)

/-- 'sawmilllaw47.StockUndone', WHERE WHAT IT READS IS OF BULK AT MOST 1048576: true; the input reads as it did. -/
def stockUndoneUptoRow : OpenClaim := { program := "ytholaaojcpifnaa", sum := "7de0999254cbaba81ac8e3a6cdf28579337ca12ea6b3caf1df5c67d492a51fa5", func := "sawmill/sawmilllaw47.StockUndone", spec := "stockUndone", apart := false, narrowed := true }
def StockUndoneUptoSaid : Prop := stockUndoneUptoRow.holds Try.pinned (OpenSpec.upto stockUndoneSpec)

/-- 'sawmilllaw47.StockRemoves', WHERE WHAT IT READS IS OF BULK AT MOST 1048576: true; the input reads as it did. -/
def stockRemovesUptoRow : OpenClaim := { program := "ytholaaojcpifnaa", sum := "7de0999254cbaba81ac8e3a6cdf28579337ca12ea6b3caf1df5c67d492a51fa5", func := "sawmill/sawmilllaw47.StockRemoves", spec := "stockRemoves", apart := false, narrowed := true }
def StockRemovesUptoSaid : Prop := stockRemovesUptoRow.holds Try.pinned (OpenSpec.upto stockRemovesSpec)

/-- 'sawmilllaw47.StockNil', WHERE WHAT IT READS IS OF BULK AT MOST 1048576: true; the input reads as it did. -/
def stockNilUptoRow : OpenClaim := { program := "ytholaaojcpifnaa", sum := "7de0999254cbaba81ac8e3a6cdf28579337ca12ea6b3caf1df5c67d492a51fa5", func := "sawmill/sawmilllaw47.StockNil", spec := "stockNil", apart := false, narrowed := true }
def StockNilUptoSaid : Prop := stockNilUptoRow.holds Try.pinned (OpenSpec.upto stockNilSpec)

end Rows
end Go.Proofs.Ytholaaojcpifnaa
