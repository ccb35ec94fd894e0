/-
  No cell of these rows narrows 'for every input' (looked for: loops, veiled, ifaces, maps, wideKeys, modest, calm, conditions, laid).
  DERIVED. THE GIVEN ROWS OF THIS SEAT. 6 by the template 'for every input the law returns true; each argument reads behind the call as it read before'; 0 by the template 'total and deterministic' (their statements: YtlckpgahijlmoaaTotals.lean).
  GIVEN WITH THE SEED: the statements are not yours to turn. If you find one false, say at which input.
  Laid BY PROGRAM, IN A SANDBOX (cutbox-rows.mjs): the forced cells as the released guide's own fill.sh prints them over the translation 3a7b28e959cc3b06… (all of the seat's roots in one cut). By AI agents, Wed Nov 11 2026. No macro, syntax, notation, axiom, sorry.
-/
import Derived.Test.YtlckpgahijlmoaaChecked
import GoSem.Claim
import GoSem.ClaimJoined
import GoSem.ClaimMapViews
import Derived.JoinedTies
import Derived.KernelRfl
namespace Go.Proofs.Ytlckpgahijlmoaa
/- THE CELL 'sum', in the pinned program and in every row, IS THE sha256 OF THE DUMP (.gsa) THAT YtlckpgahijlmoaaProg.lean LOADS. Nothing in Lean hashes anything: it is a label: what it is worth is what the hold of that sum in a sandbox is worth. -/
noncomputable def Try.pinned : Pinned := { name := "ytlckpgahijlmoaa", sum := "3a7b28e959cc3b06871efb2f46bded26630dfe19962c6c20d9ef3979aa9d5d4e", checked := Try.checked }
namespace Rows
def none {H : Type} : Left H := { results := [], args := [] }

/-- 'sphenoidlaw11.CoverOriented': WHATEVER THE INPUT: true; the input reads as it did. -/
def coverOrientedSpec : ChangeSpec := { name := "coverOriented", fn := fun _ => fun
  | [d1, d2] => { results := [.lit (.bool true)], args := [d1, d2] }
  | _ => none }
def coverOrientedRow : OpenClaim := { program := "ytlckpgahijlmoaa", sum := "3a7b28e959cc3b06871efb2f46bded26630dfe19962c6c20d9ef3979aa9d5d4e", func := "sphenoid/sphenoidlaw11.CoverOriented", spec := "coverOriented", unfollowed := true, recurses := true, plainKeys := false, apart := false }
def CoverOrientedSaid : Prop := coverOrientedRow.holds Try.pinned (OpenSpec.ofChange coverOrientedSpec)

/-- ITS FALSE NEIGHBOUR: 'it returns false'. Refute it at one input. -/
def coverOrientedWrong : ChangeSpec := { name := "coverOriented", fn := fun _ => fun
  | [d1, d2] => { results := [.lit (.bool false)], args := [d1, d2] }
  | _ => none }
def CoverOrientedWrongFalsely : Prop := coverOrientedRow.holds Try.pinned (OpenSpec.ofChange coverOrientedWrong)

/-- 'sphenoidlaw11.CoverComposes': WHATEVER THE INPUT: true; the input reads as it did. -/
def coverComposesSpec : ChangeSpec := { name := "coverComposes", fn := fun _ => fun
  | [d1, d2, d3] => { results := [.lit (.bool true)], args := [d1, d2, d3] }
  | _ => none }
def coverComposesRow : OpenClaim := { program := "ytlckpgahijlmoaa", sum := "3a7b28e959cc3b06871efb2f46bded26630dfe19962c6c20d9ef3979aa9d5d4e", func := "sphenoid/sphenoidlaw11.CoverComposes", spec := "coverComposes", unfollowed := true, recurses := true, plainKeys := false, apart := false }
def CoverComposesSaid : Prop := coverComposesRow.holds Try.pinned (OpenSpec.ofChange coverComposesSpec)

/-- ITS FALSE NEIGHBOUR: 'it returns false'. Refute it at one input. -/
def coverComposesWrong : ChangeSpec := { name := "coverComposes", fn := fun _ => fun
  | [d1, d2, d3] => { results := [.lit (.bool false)], args := [d1, d2, d3] }
  | _ => none }
def CoverComposesWrongFalsely : Prop := coverComposesRow.holds Try.pinned (OpenSpec.ofChange coverComposesWrong)

/-- 'sphenoidlaw11.CoverSpaces': WHATEVER THE INPUT: true; the input reads as it did. -/
def coverSpacesSpec : ChangeSpec := { name := "coverSpaces", fn := fun _ => fun
  | [d1, d2] => { results := [.lit (.bool true)], args := [d1, d2] }
  | _ => none }
def coverSpacesRow : OpenClaim := { program := "ytlckpgahijlmoaa", sum := "3a7b28e959cc3b06871efb2f46bded26630dfe19962c6c20d9ef3979aa9d5d4e", func := "sphenoid/sphenoidlaw11.CoverSpaces", spec := "coverSpaces", unfollowed := true, recurses := true, plainKeys := false, apart := false }
def CoverSpacesSaid : Prop := coverSpacesRow.holds Try.pinned (OpenSpec.ofChange coverSpacesSpec)

/-- ITS FALSE NEIGHBOUR: 'it returns false'. Refute it at one input. -/
def coverSpacesWrong : ChangeSpec := { name := "coverSpaces", fn := fun _ => fun
  | [d1, d2] => { results := [.lit (.bool false)], args := [d1, d2] }
  | _ => none }
def CoverSpacesWrongFalsely : Prop := coverSpacesRow.holds Try.pinned (OpenSpec.ofChange coverSpacesWrong)

/-- 'sphenoidlaw11.CoverMakes': WHATEVER THE INPUT: true; the input reads as it did. -/
def coverMakesSpec : ChangeSpec := { name := "coverMakes", fn := fun _ => fun
  | [d1, d2] => { results := [.lit (.bool true)], args := [d1, d2] }
  | _ => none }
def coverMakesRow : OpenClaim := { program := "ytlckpgahijlmoaa", sum := "3a7b28e959cc3b06871efb2f46bded26630dfe19962c6c20d9ef3979aa9d5d4e", func := "sphenoid/sphenoidlaw11.CoverMakes", spec := "coverMakes", unfollowed := true, recurses := true, plainKeys := false, apart := false }
def CoverMakesSaid : Prop := coverMakesRow.holds Try.pinned (OpenSpec.ofChange coverMakesSpec)

/-- ITS FALSE NEIGHBOUR: 'it returns false'. Refute it at one input. -/
def coverMakesWrong : ChangeSpec := { name := "coverMakes", fn := fun _ => fun
  | [d1, d2] => { results := [.lit (.bool false)], args := [d1, d2] }
  | _ => none }
def CoverMakesWrongFalsely : Prop := coverMakesRow.holds Try.pinned (OpenSpec.ofChange coverMakesWrong)

/-- 'sphenoidlaw11.CoverStays': WHATEVER THE INPUT: true; the input reads as it did. -/
def coverStaysSpec : ChangeSpec := { name := "coverStays", fn := fun _ => fun
  | [d1, d2, d3, d4, d5] => { results := [.lit (.bool true)], args := [d1, d2, d3, d4, d5] }
  | _ => none }
def coverStaysRow : OpenClaim := { program := "ytlckpgahijlmoaa", sum := "3a7b28e959cc3b06871efb2f46bded26630dfe19962c6c20d9ef3979aa9d5d4e", func := "sphenoid/sphenoidlaw11.CoverStays", spec := "coverStays", unfollowed := true, recurses := true, plainKeys := false, apart := false }
def CoverStaysSaid : Prop := coverStaysRow.holds Try.pinned (OpenSpec.ofChange coverStaysSpec)

/-- ITS FALSE NEIGHBOUR: 'it returns false'. Refute it at one input. -/
def coverStaysWrong : ChangeSpec := { name := "coverStays", fn := fun _ => fun
  | [d1, d2, d3, d4, d5] => { results := [.lit (.bool false)], args := [d1, d2, d3, d4, d5] }
  | _ => none }
def CoverStaysWrongFalsely : Prop := coverStaysRow.holds Try.pinned (OpenSpec.ofChange coverStaysWrong)

/-- 'sphenoidlaw11.CoverImages': WHATEVER THE INPUT: true; the input reads as it did. -/
def coverImagesSpec : ChangeSpec := { name := "coverImages", fn := fun _ => fun
  | [d1, d2, d3] => { results := [.lit (.bool true)], args := [d1, d2, d3] }
  | _ => none }
def coverImagesRow : OpenClaim := { program := "ytlckpgahijlmoaa", sum := "3a7b28e959cc3b06871efb2f46bded26630dfe19962c6c20d9ef3979aa9d5d4e", func := "sphenoid/sphenoidlaw11.CoverImages", spec := "coverImages", unfollowed := true, recurses := true, plainKeys := false, apart := false }
def CoverImagesSaid : Prop := coverImagesRow.holds Try.pinned (OpenSpec.ofChange coverImagesSpec)

/-- ITS FALSE NEIGHBOUR: 'it returns false'. Refute it at one input. -/
def coverImagesWrong : ChangeSpec := { name := "coverImages", fn := fun _ => fun
  | [d1, d2, d3] => { results := [.lit (.bool false)], args := [d1, d2, d3] }
  | _ => none }
def CoverImagesWrongFalsely : Prop := coverImagesRow.holds Try.pinned (OpenSpec.ofChange coverImagesWrong)

/- THE SECOND FORM. 'bulk': how many values and letters a reading holds, each counted each time it is reached (what is shared counts as often as it is met; a slice's spare places count too). A statement '..UptoSaid' is the law's where the arguments, and the package variables that the reading takes, are together of bulk at most 1048576: NARROWER than '..Said'. Prove '..Said' where nothing that the law and all that it calls make is longer than what came in: it says more and counts as full. Else prove '..UptoSaid'. A law counts once. -/
mutual
def uptoBulk {H : Type} : DataW H → Nat
  | .lit (.string bytes) => bytes.length + 1
  | .lit _ => 1
  | .nil => 1
  | .ptr d => uptoBulk d + 1
  | .slice elems spare => uptoBulkAll elems + uptoBulkAll spare + 1
  | .agg parts => uptoBulkAll parts + 1
  | .iface _ d => uptoBulk d + 1
  | .map entries => uptoBulkEntries entries + 1
  | .held _ => 1
def uptoBulkAll {H : Type} : List (DataW H) → Nat
  | [] => 0
  | d :: r => uptoBulk d + uptoBulkAll r
def uptoBulkEntries {H : Type} : List (Lit × DataW H) → Nat
  | [] => 0
  | x :: r => uptoBulkEntry x + uptoBulkEntries r
def uptoBulkEntry {H : Type} : Lit × DataW H → Nat
  | (.string bytes, d) => bytes.length + uptoBulk d + 1
  | (_, d) => uptoBulk d + 1
 end
def uptoSmall : (H : Type) → List (DataW H) → Bool := fun _ ds => decide (uptoBulkAll ds ≤ 1048576)
def OpenSpec.upto (s : _root_.Go.ChangeSpec) : _root_.Go.OpenSpec := { _root_.Go.OpenSpec.ofChange s with cond := some uptoSmall }

/-- 'sphenoidlaw11.CoverOriented', WHERE WHAT IT READS IS OF BULK AT MOST 1048576: true; the input reads as it did. -/
def coverOrientedUptoRow : OpenClaim := { program := "ytlckpgahijlmoaa", sum := "3a7b28e959cc3b06871efb2f46bded26630dfe19962c6c20d9ef3979aa9d5d4e", func := "sphenoid/sphenoidlaw11.CoverOriented", spec := "coverOriented", unfollowed := true, recurses := true, plainKeys := false, apart := false, narrowed := true }
def CoverOrientedUptoSaid : Prop := coverOrientedUptoRow.holds Try.pinned (OpenSpec.upto coverOrientedSpec)

/-- 'sphenoidlaw11.CoverComposes', WHERE WHAT IT READS IS OF BULK AT MOST 1048576: true; the input reads as it did. -/
def coverComposesUptoRow : OpenClaim := { program := "ytlckpgahijlmoaa", sum := "3a7b28e959cc3b06871efb2f46bded26630dfe19962c6c20d9ef3979aa9d5d4e", func := "sphenoid/sphenoidlaw11.CoverComposes", spec := "coverComposes", unfollowed := true, recurses := true, plainKeys := false, apart := false, narrowed := true }
def CoverComposesUptoSaid : Prop := coverComposesUptoRow.holds Try.pinned (OpenSpec.upto coverComposesSpec)

/-- 'sphenoidlaw11.CoverSpaces', WHERE WHAT IT READS IS OF BULK AT MOST 1048576: true; the input reads as it did. -/
def coverSpacesUptoRow : OpenClaim := { program := "ytlckpgahijlmoaa", sum := "3a7b28e959cc3b06871efb2f46bded26630dfe19962c6c20d9ef3979aa9d5d4e", func := "sphenoid/sphenoidlaw11.CoverSpaces", spec := "coverSpaces", unfollowed := true, recurses := true, plainKeys := false, apart := false, narrowed := true }
def CoverSpacesUptoSaid : Prop := coverSpacesUptoRow.holds Try.pinned (OpenSpec.upto coverSpacesSpec)

/-- 'sphenoidlaw11.CoverMakes', WHERE WHAT IT READS IS OF BULK AT MOST 1048576: true; the input reads as it did. -/
def coverMakesUptoRow : OpenClaim := { program := "ytlckpgahijlmoaa", sum := "3a7b28e959cc3b06871efb2f46bded26630dfe19962c6c20d9ef3979aa9d5d4e", func := "sphenoid/sphenoidlaw11.CoverMakes", spec := "coverMakes", unfollowed := true, recurses := true, plainKeys := false, apart := false, narrowed := true }
def CoverMakesUptoSaid : Prop := coverMakesUptoRow.holds Try.pinned (OpenSpec.upto coverMakesSpec)

/-- 'sphenoidlaw11.CoverStays', WHERE WHAT IT READS IS OF BULK AT MOST 1048576: true; the input reads as it did. -/
def coverStaysUptoRow : OpenClaim := { program := "ytlckpgahijlmoaa", sum := "3a7b28e959cc3b06871efb2f46bded26630dfe19962c6c20d9ef3979aa9d5d4e", func := "sphenoid/sphenoidlaw11.CoverStays", spec := "coverStays", unfollowed := true, recurses := true, plainKeys := false, apart := false, narrowed := true }
def CoverStaysUptoSaid : Prop := coverStaysUptoRow.holds Try.pinned (OpenSpec.upto coverStaysSpec)

/-- 'sphenoidlaw11.CoverImages', WHERE WHAT IT READS IS OF BULK AT MOST 1048576: true; the input reads as it did. -/
def coverImagesUptoRow : OpenClaim := { program := "ytlckpgahijlmoaa", sum := "3a7b28e959cc3b06871efb2f46bded26630dfe19962c6c20d9ef3979aa9d5d4e", func := "sphenoid/sphenoidlaw11.CoverImages", spec := "coverImages", unfollowed := true, recurses := true, plainKeys := false, apart := false, narrowed := true }
def CoverImagesUptoSaid : Prop := coverImagesUptoRow.holds Try.pinned (OpenSpec.upto coverImagesSpec)

end Rows
end Go.Proofs.Ytlckpgahijlmoaa
