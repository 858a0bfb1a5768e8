/-
  No cell of these rows narrows 'for every input' (looked for: loops, veiled, ifaces, maps, wideKeys, modest, calm, conditions, laid).
  DERIVED. THE GIVEN ROWS OF THIS SEAT. 6 by the template 'for every input the law returns true; each argument reads behind the call as it read before'; 0 by the template 'total and deterministic' (their statements: YtahommgchnbnjaaTotals.lean).
  GIVEN WITH THE SEED: the statements are not yours to turn. If you find one false, say at which input.
  Laid BY PROGRAM, IN A SANDBOX (cutbox-rows.mjs): the forced cells as the released guide's own fill.sh prints them over the translation ee45efced72b88c5… (all of the seat's roots in one cut). By AI agents, Wed Nov 11 2026. No macro, syntax, notation, axiom, sorry.
-/
import Derived.Test.YtahommgchnbnjaaChecked
import GoSem.Claim
import GoSem.ClaimJoined
import GoSem.ClaimMapViews
import Derived.JoinedTies
import Derived.KernelRfl
namespace Go.Proofs.Ytahommgchnbnjaa
/- THE CELL 'sum', in the pinned program and in every row, IS THE sha256 OF THE DUMP (.gsa) THAT YtahommgchnbnjaaProg.lean LOADS. Nothing in Lean hashes anything: it is a label: what it is worth is what the hold of that sum in a sandbox is worth. -/
noncomputable def Try.pinned : Pinned := { name := "ytahommgchnbnjaa", sum := "ee45efced72b88c582ebde5f45764cbc07c7201b6d300bf088e96faa8213dd1d", checked := Try.checked }
namespace Rows
def none {H : Type} : Left H := { results := [], args := [] }

/-- 'sawmilllaw33.YardAges': WHATEVER THE INPUT: true; the input reads as it did. -/
def yardAgesSpec : ChangeSpec := { name := "yardAges", fn := fun _ => fun
  | [d1, d2] => { results := [.lit (.bool true)], args := [d1, d2] }
  | _ => none }
def yardAgesRow : OpenClaim := { program := "ytahommgchnbnjaa", sum := "ee45efced72b88c582ebde5f45764cbc07c7201b6d300bf088e96faa8213dd1d", func := "sawmill/sawmilllaw33.YardAges", spec := "yardAges", apart := false }
def YardAgesSaid : Prop := yardAgesRow.holds Try.pinned (OpenSpec.ofChange yardAgesSpec)

/-- ITS FALSE NEIGHBOUR: 'it returns false'. Refute it at one input. -/
def yardAgesWrong : ChangeSpec := { name := "yardAges", fn := fun _ => fun
  | [d1, d2] => { results := [.lit (.bool false)], args := [d1, d2] }
  | _ => none }
def YardAgesWrongFalsely : Prop := yardAgesRow.holds Try.pinned (OpenSpec.ofChange yardAgesWrong)

/-- 'sawmilllaw33.YardNil': WHATEVER THE INPUT: true; the input reads as it did. -/
def yardNilSpec : ChangeSpec := { name := "yardNil", fn := fun _ => fun
  | [d1, d2] => { results := [.lit (.bool true)], args := [d1, d2] }
  | _ => none }
def yardNilRow : OpenClaim := { program := "ytahommgchnbnjaa", sum := "ee45efced72b88c582ebde5f45764cbc07c7201b6d300bf088e96faa8213dd1d", func := "sawmill/sawmilllaw33.YardNil", spec := "yardNil", apart := false }
def YardNilSaid : Prop := yardNilRow.holds Try.pinned (OpenSpec.ofChange yardNilSpec)

/-- ITS FALSE NEIGHBOUR: 'it returns false'. Refute it at one input. -/
def yardNilWrong : ChangeSpec := { name := "yardNil", fn := fun _ => fun
  | [d1, d2] => { results := [.lit (.bool false)], args := [d1, d2] }
  | _ => none }
def YardNilWrongFalsely : Prop := yardNilRow.holds Try.pinned (OpenSpec.ofChange yardNilWrong)

/-- 'sawmilllaw33.YardNew': WHATEVER THE INPUT: true; the input reads as it did. -/
def yardNewSpec : ChangeSpec := { name := "yardNew", fn := fun _ => fun
  | [d1, d2] => { results := [.lit (.bool true)], args := [d1, d2] }
  | _ => none }
def yardNewRow : OpenClaim := { program := "ytahommgchnbnjaa", sum := "ee45efced72b88c582ebde5f45764cbc07c7201b6d300bf088e96faa8213dd1d", func := "sawmill/sawmilllaw33.YardNew", spec := "yardNew", apart := false }
def YardNewSaid : Prop := yardNewRow.holds Try.pinned (OpenSpec.ofChange yardNewSpec)

/-- ITS FALSE NEIGHBOUR: 'it returns false'. Refute it at one input. -/
def yardNewWrong : ChangeSpec := { name := "yardNew", fn := fun _ => fun
  | [d1, d2] => { results := [.lit (.bool false)], args := [d1, d2] }
  | _ => none }
def YardNewWrongFalsely : Prop := yardNewRow.holds Try.pinned (OpenSpec.ofChange yardNewWrong)

/-- 'sawmilllaw33.YardCalls': WHATEVER THE INPUT: true; the input reads as it did. -/
def yardCallsSpec : ChangeSpec := { name := "yardCalls", fn := fun _ => fun
  | [d1, d2, d3] => { results := [.lit (.bool true)], args := [d1, d2, d3] }
  | _ => none }
def yardCallsRow : OpenClaim := { program := "ytahommgchnbnjaa", sum := "ee45efced72b88c582ebde5f45764cbc07c7201b6d300bf088e96faa8213dd1d", func := "sawmill/sawmilllaw33.YardCalls", spec := "yardCalls", apart := false }
def YardCallsSaid : Prop := yardCallsRow.holds Try.pinned (OpenSpec.ofChange yardCallsSpec)

/-- ITS FALSE NEIGHBOUR: 'it returns false'. Refute it at one input. -/
def yardCallsWrong : ChangeSpec := { name := "yardCalls", fn := fun _ => fun
  | [d1, d2, d3] => { results := [.lit (.bool false)], args := [d1, d2, d3] }
  | _ => none }
def YardCallsWrongFalsely : Prop := yardCallsRow.holds Try.pinned (OpenSpec.ofChange yardCallsWrong)

/-- 'sawmilllaw33.YardFinds': WHATEVER THE INPUT: true; the input reads as it did. -/
def yardFindsSpec : ChangeSpec := { name := "yardFinds", fn := fun _ => fun
  | [d1, d2, d3] => { results := [.lit (.bool true)], args := [d1, d2, d3] }
  | _ => none }
def yardFindsRow : OpenClaim := { program := "ytahommgchnbnjaa", sum := "ee45efced72b88c582ebde5f45764cbc07c7201b6d300bf088e96faa8213dd1d", func := "sawmill/sawmilllaw33.YardFinds", spec := "yardFinds", apart := false }
def YardFindsSaid : Prop := yardFindsRow.holds Try.pinned (OpenSpec.ofChange yardFindsSpec)

/-- ITS FALSE NEIGHBOUR: 'it returns false'. Refute it at one input. -/
def yardFindsWrong : ChangeSpec := { name := "yardFinds", fn := fun _ => fun
  | [d1, d2, d3] => { results := [.lit (.bool false)], args := [d1, d2, d3] }
  | _ => none }
def YardFindsWrongFalsely : Prop := yardFindsRow.holds Try.pinned (OpenSpec.ofChange yardFindsWrong)

/-- 'sawmilllaw33.YardTakes': WHATEVER THE INPUT: true; the input reads as it did. -/
def yardTakesSpec : ChangeSpec := { name := "yardTakes", fn := fun _ => fun
  | [d1, d2, d3] => { results := [.lit (.bool true)], args := [d1, d2, d3] }
  | _ => none }
def yardTakesRow : OpenClaim := { program := "ytahommgchnbnjaa", sum := "ee45efced72b88c582ebde5f45764cbc07c7201b6d300bf088e96faa8213dd1d", func := "sawmill/sawmilllaw33.YardTakes", spec := "yardTakes", apart := false }
def YardTakesSaid : Prop := yardTakesRow.holds Try.pinned (OpenSpec.ofChange yardTakesSpec)

/-- ITS FALSE NEIGHBOUR: 'it returns false'. Refute it at one input. -/
def yardTakesWrong : ChangeSpec := { name := "yardTakes", fn := fun _ => fun
  | [d1, d2, d3] => { results := [.lit (.bool false)], args := [d1, d2, d3] }
  | _ => none }
def YardTakesWrongFalsely : Prop := yardTakesRow.holds Try.pinned (OpenSpec.ofChange yardTakesWrong)

/- THE SECOND FORM. 'bulk': how many values and letters a reading holds, each counted each time it is reached (what is shared counts as often as it is met; a slice's spare places count too). A statement '..UptoSaid' is the law's where the arguments, and the package variables that the reading takes, are together of bulk at most 1048576: NARROWER than '..Said'. Prove '..Said' where nothing that the law and all that it calls make is longer than what came in: it says more and counts as full. Else prove '..UptoSaid'. A law counts once. -/
mutual
def uptoBulk {H : Type} : DataW H → Nat
  | .lit (.string bytes) => bytes.length + 1
  | .lit _ => 1
  | .nil => 1
  | .ptr d => uptoBulk d + 1
  | .slice elems spare => uptoBulkAll elems + uptoBulkAll spare + 1
  | .agg parts => uptoBulkAll parts + 1
  | .iface _ d => uptoBulk d + 1
  | .map entries => uptoBulkEntries entries + 1
  | .held _ => 1
def uptoBulkAll {H : Type} : List (DataW H) → Nat
  | [] => 0
  | d :: r => uptoBulk d + uptoBulkAll r
def uptoBulkEntries {H : Type} : List (Lit × DataW H) → Nat
  | [] => 0
  | x :: r => uptoBulkEntry x + uptoBulkEntries r
def uptoBulkEntry {H : Type} : Lit × DataW H → Nat
  | (.string bytes, d) => bytes.length + uptoBulk d + 1
  | (_, d) => uptoBulk d + 1
 end
def uptoSmall : (H : Type) → List (DataW H) → Bool := fun _ ds => decide (uptoBulkAll ds ≤ 1048576)
def OpenSpec.upto (s : _root_.Go.ChangeSpec) : _root_.Go.OpenSpec := { _root_.Go.OpenSpec.ofChange s with cond := some uptoSmall }

/-- 'sawmilllaw33.YardAges', WHERE WHAT IT READS IS OF BULK AT MOST 1048576: true; the input reads as it did. -/
def yardAgesUptoRow : OpenClaim := { program := "ytahommgchnbnjaa", sum := "ee45efced72b88c582ebde5f45764cbc07c7201b6d300bf088e96faa8213dd1d", func := "sawmill/sawmilllaw33.YardAges", spec := "yardAges", apart := false, narrowed := true }
def YardAgesUptoSaid : Prop := yardAgesUptoRow.holds Try.pinned (OpenSpec.upto yardAgesSpec)

/-- 'sawmilllaw33.YardNil', WHERE WHAT IT READS IS OF BULK AT MOST 1048576: true; the input reads as it did. -/
def yardNilUptoRow : OpenClaim := { program := "ytahommgchnbnjaa", sum := "ee45efced72b88c582ebde5f45764cbc07c7201b6d300bf088e96faa8213dd1d", func := "sawmill/sawmilllaw33.YardNil", spec := "yardNil", apart := false, narrowed := true }
def YardNilUptoSaid : Prop := yardNilUptoRow.holds Try.pinned (OpenSpec.upto yardNilSpec)

/-- 'sawmilllaw33.YardNew', WHERE WHAT IT READS IS OF BULK AT MOST 1048576: true; the input reads as it did. -/
def yardNewUptoRow : OpenClaim := { program := "ytahommgchnbnjaa", sum := "ee45efced72b88c582ebde5f45764cbc07c7201b6d300bf088e96faa8213dd1d", func := "sawmill/sawmilllaw33.YardNew", spec := "yardNew", apart := false, narrowed := true }
def YardNewUptoSaid : Prop := yardNewUptoRow.holds Try.pinned (OpenSpec.upto yardNewSpec)

/-- 'sawmilllaw33.YardCalls', WHERE WHAT IT READS IS OF BULK AT MOST 1048576: true; the input reads as it did. -/
def yardCallsUptoRow : OpenClaim := { program := "ytahommgchnbnjaa", sum := "ee45efced72b88c582ebde5f45764cbc07c7201b6d300bf088e96faa8213dd1d", func := "sawmill/sawmilllaw33.YardCalls", spec := "yardCalls", apart := false, narrowed := true }
def YardCallsUptoSaid : Prop := yardCallsUptoRow.holds Try.pinned (OpenSpec.upto yardCallsSpec)

/-- 'sawmilllaw33.YardFinds', WHERE WHAT IT READS IS OF BULK AT MOST 1048576: true; the input reads as it did. -/
def yardFindsUptoRow : OpenClaim := { program := "ytahommgchnbnjaa", sum := "ee45efced72b88c582ebde5f45764cbc07c7201b6d300bf088e96faa8213dd1d", func := "sawmill/sawmilllaw33.YardFinds", spec := "yardFinds", apart := false, narrowed := true }
def YardFindsUptoSaid : Prop := yardFindsUptoRow.holds Try.pinned (OpenSpec.upto yardFindsSpec)

/-- 'sawmilllaw33.YardTakes', WHERE WHAT IT READS IS OF BULK AT MOST 1048576: true; the input reads as it did. -/
def yardTakesUptoRow : OpenClaim := { program := "ytahommgchnbnjaa", sum := "ee45efced72b88c582ebde5f45764cbc07c7201b6d300bf088e96faa8213dd1d", func := "sawmill/sawmilllaw33.YardTakes", spec := "yardTakes", apart := false, narrowed := true }
def YardTakesUptoSaid : Prop := yardTakesUptoRow.holds Try.pinned (OpenSpec.upto yardTakesSpec)

end Rows
end Go.Proofs.Ytahommgchnbnjaa
