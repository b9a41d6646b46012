/-
  No cell of these rows narrows 'for every input' (looked for: loops, veiled, ifaces, maps, wideKeys, modest, calm, conditions, laid).
  DERIVED. THE GIVEN ROWS OF THIS SEAT. 8 by the template 'for every input the law returns true; each argument reads behind the call as it read before'; 0 by the template 'total and deterministic' (their statements: YtecbfpcidoilmaaTotals.lean).
  GIVEN WITH THE SEED: the statements are not yours to turn. If you find one false, say at which input.
  Laid BY PROGRAM, IN A SANDBOX (cutbox-rows.mjs): the forced cells as the released guide's own fill.sh prints them over the translation 8025732875a1d668… (all of the seat's roots in one cut). By AI agents, Wed Nov 11 2026. No macro, syntax, notation, axiom, sorry.
-/
import Derived.Test.YtecbfpcidoilmaaChecked
import GoSem.Claim
import GoSem.ClaimJoined
import GoSem.ClaimMapViews
import Derived.JoinedTies
import Derived.KernelRfl
namespace Go.Proofs.Ytecbfpcidoilmaa
/- THE CELL 'sum', in the pinned program and in every row, IS THE sha256 OF THE DUMP (.gsa) THAT YtecbfpcidoilmaaProg.lean LOADS. Nothing in Lean hashes anything: it is a label: what it is worth is what the hold of that sum in a sandbox is worth. -/
noncomputable def Try.pinned : Pinned := { name := "ytecbfpcidoilmaa", sum := "8025732875a1d66802b367bb4a0baaa54af4476ee0dbbfc8afa604d53b007cb0", checked := Try.checked }
namespace Rows
def none {H : Type} : Left H := { results := [], args := [] }

/-- 'worldmintlaw28.ClearPrices': WHATEVER THE INPUT: true; the input reads as it did. -/
def clearPricesSpec : ChangeSpec := { name := "clearPrices", fn := fun _ => fun
  | [d1, d2, d3, d4, d5] => { results := [.lit (.bool true)], args := [d1, d2, d3, d4, d5] }
  | _ => none }
def clearPricesRow : OpenClaim := { program := "ytecbfpcidoilmaa", sum := "8025732875a1d66802b367bb4a0baaa54af4476ee0dbbfc8afa604d53b007cb0", func := "worldmint/worldmintlaw28.ClearPrices", spec := "clearPrices", unfollowed := true, recurses := true, apart := false }
def ClearPricesSaid : Prop := clearPricesRow.holds Try.pinned (OpenSpec.ofChange clearPricesSpec)

/-- ITS FALSE NEIGHBOUR: 'it returns false'. Refute it at one input. -/
def clearPricesWrong : ChangeSpec := { name := "clearPrices", fn := fun _ => fun
  | [d1, d2, d3, d4, d5] => { results := [.lit (.bool false)], args := [d1, d2, d3, d4, d5] }
  | _ => none }
def ClearPricesWrongFalsely : Prop := clearPricesRow.holds Try.pinned (OpenSpec.ofChange clearPricesWrong)

/-- 'worldmintlaw28.ClearBound': WHATEVER THE INPUT: true; the input reads as it did. -/
def clearBoundSpec : ChangeSpec := { name := "clearBound", fn := fun _ => fun
  | [d1, d2, d3, d4, d5] => { results := [.lit (.bool true)], args := [d1, d2, d3, d4, d5] }
  | _ => none }
def clearBoundRow : OpenClaim := { program := "ytecbfpcidoilmaa", sum := "8025732875a1d66802b367bb4a0baaa54af4476ee0dbbfc8afa604d53b007cb0", func := "worldmint/worldmintlaw28.ClearBound", spec := "clearBound", unfollowed := true, recurses := true, apart := false }
def ClearBoundSaid : Prop := clearBoundRow.holds Try.pinned (OpenSpec.ofChange clearBoundSpec)

/-- ITS FALSE NEIGHBOUR: 'it returns false'. Refute it at one input. -/
def clearBoundWrong : ChangeSpec := { name := "clearBound", fn := fun _ => fun
  | [d1, d2, d3, d4, d5] => { results := [.lit (.bool false)], args := [d1, d2, d3, d4, d5] }
  | _ => none }
def ClearBoundWrongFalsely : Prop := clearBoundRow.holds Try.pinned (OpenSpec.ofChange clearBoundWrong)

/-- 'worldmintlaw28.ClearTruthful': WHATEVER THE INPUT: true; the input reads as it did. -/
def clearTruthfulSpec : ChangeSpec := { name := "clearTruthful", fn := fun _ => fun
  | [d1, d2, d3, d4] => { results := [.lit (.bool true)], args := [d1, d2, d3, d4] }
  | _ => none }
def clearTruthfulRow : OpenClaim := { program := "ytecbfpcidoilmaa", sum := "8025732875a1d66802b367bb4a0baaa54af4476ee0dbbfc8afa604d53b007cb0", func := "worldmint/worldmintlaw28.ClearTruthful", spec := "clearTruthful", unfollowed := true, recurses := true, apart := false }
def ClearTruthfulSaid : Prop := clearTruthfulRow.holds Try.pinned (OpenSpec.ofChange clearTruthfulSpec)

/-- ITS FALSE NEIGHBOUR: 'it returns false'. Refute it at one input. -/
def clearTruthfulWrong : ChangeSpec := { name := "clearTruthful", fn := fun _ => fun
  | [d1, d2, d3, d4] => { results := [.lit (.bool false)], args := [d1, d2, d3, d4] }
  | _ => none }
def ClearTruthfulWrongFalsely : Prop := clearTruthfulRow.holds Try.pinned (OpenSpec.ofChange clearTruthfulWrong)

/-- 'worldmintlaw28.ClearMore': WHATEVER THE INPUT: true; the input reads as it did. -/
def clearMoreSpec : ChangeSpec := { name := "clearMore", fn := fun _ => fun
  | [d1, d2, d3, d4] => { results := [.lit (.bool true)], args := [d1, d2, d3, d4] }
  | _ => none }
def clearMoreRow : OpenClaim := { program := "ytecbfpcidoilmaa", sum := "8025732875a1d66802b367bb4a0baaa54af4476ee0dbbfc8afa604d53b007cb0", func := "worldmint/worldmintlaw28.ClearMore", spec := "clearMore", unfollowed := true, recurses := true, apart := false }
def ClearMoreSaid : Prop := clearMoreRow.holds Try.pinned (OpenSpec.ofChange clearMoreSpec)

/-- ITS FALSE NEIGHBOUR: 'it returns false'. Refute it at one input. -/
def clearMoreWrong : ChangeSpec := { name := "clearMore", fn := fun _ => fun
  | [d1, d2, d3, d4] => { results := [.lit (.bool false)], args := [d1, d2, d3, d4] }
  | _ => none }
def ClearMoreWrongFalsely : Prop := clearMoreRow.holds Try.pinned (OpenSpec.ofChange clearMoreWrong)

/-- 'worldmintlaw28.ClearBest': WHATEVER THE INPUT: true; the input reads as it did. -/
def clearBestSpec : ChangeSpec := { name := "clearBest", fn := fun _ => fun
  | [d1, d2, d3, d4, d5, d6] => { results := [.lit (.bool true)], args := [d1, d2, d3, d4, d5, d6] }
  | _ => none }
def clearBestRow : OpenClaim := { program := "ytecbfpcidoilmaa", sum := "8025732875a1d66802b367bb4a0baaa54af4476ee0dbbfc8afa604d53b007cb0", func := "worldmint/worldmintlaw28.ClearBest", spec := "clearBest", unfollowed := true, recurses := true, apart := false }
def ClearBestSaid : Prop := clearBestRow.holds Try.pinned (OpenSpec.ofChange clearBestSpec)

/-- ITS FALSE NEIGHBOUR: 'it returns false'. Refute it at one input. -/
def clearBestWrong : ChangeSpec := { name := "clearBest", fn := fun _ => fun
  | [d1, d2, d3, d4, d5, d6] => { results := [.lit (.bool false)], args := [d1, d2, d3, d4, d5, d6] }
  | _ => none }
def ClearBestWrongFalsely : Prop := clearBestRow.holds Try.pinned (OpenSpec.ofChange clearBestWrong)

/-- 'worldmintlaw28.ClearBounds': WHATEVER THE INPUT: true; the input reads as it did. -/
def clearBoundsSpec : ChangeSpec := { name := "clearBounds", fn := fun _ => fun
  | [d1, d2, d3] => { results := [.lit (.bool true)], args := [d1, d2, d3] }
  | _ => none }
def clearBoundsRow : OpenClaim := { program := "ytecbfpcidoilmaa", sum := "8025732875a1d66802b367bb4a0baaa54af4476ee0dbbfc8afa604d53b007cb0", func := "worldmint/worldmintlaw28.ClearBounds", spec := "clearBounds", unfollowed := true, recurses := true, apart := false }
def ClearBoundsSaid : Prop := clearBoundsRow.holds Try.pinned (OpenSpec.ofChange clearBoundsSpec)

/-- ITS FALSE NEIGHBOUR: 'it returns false'. Refute it at one input. -/
def clearBoundsWrong : ChangeSpec := { name := "clearBounds", fn := fun _ => fun
  | [d1, d2, d3] => { results := [.lit (.bool false)], args := [d1, d2, d3] }
  | _ => none }
def ClearBoundsWrongFalsely : Prop := clearBoundsRow.holds Try.pinned (OpenSpec.ofChange clearBoundsWrong)

/-- 'worldmintlaw28.ClearGroups': WHATEVER THE INPUT: true; the input reads as it did. -/
def clearGroupsSpec : ChangeSpec := { name := "clearGroups", fn := fun _ => fun
  | [d1, d2] => { results := [.lit (.bool true)], args := [d1, d2] }
  | _ => none }
def clearGroupsRow : OpenClaim := { program := "ytecbfpcidoilmaa", sum := "8025732875a1d66802b367bb4a0baaa54af4476ee0dbbfc8afa604d53b007cb0", func := "worldmint/worldmintlaw28.ClearGroups", spec := "clearGroups", unfollowed := true, recurses := true, apart := false }
def ClearGroupsSaid : Prop := clearGroupsRow.holds Try.pinned (OpenSpec.ofChange clearGroupsSpec)

/-- ITS FALSE NEIGHBOUR: 'it returns false'. Refute it at one input. -/
def clearGroupsWrong : ChangeSpec := { name := "clearGroups", fn := fun _ => fun
  | [d1, d2] => { results := [.lit (.bool false)], args := [d1, d2] }
  | _ => none }
def ClearGroupsWrongFalsely : Prop := clearGroupsRow.holds Try.pinned (OpenSpec.ofChange clearGroupsWrong)

/-- 'worldmintlaw28.ClearPayments': WHATEVER THE INPUT: true; the input reads as it did. -/
def clearPaymentsSpec : ChangeSpec := { name := "clearPayments", fn := fun _ => fun
  | [d1, d2] => { results := [.lit (.bool true)], args := [d1, d2] }
  | _ => none }
def clearPaymentsRow : OpenClaim := { program := "ytecbfpcidoilmaa", sum := "8025732875a1d66802b367bb4a0baaa54af4476ee0dbbfc8afa604d53b007cb0", func := "worldmint/worldmintlaw28.ClearPayments", spec := "clearPayments", unfollowed := true, recurses := true, apart := false }
def ClearPaymentsSaid : Prop := clearPaymentsRow.holds Try.pinned (OpenSpec.ofChange clearPaymentsSpec)

/-- ITS FALSE NEIGHBOUR: 'it returns false'. Refute it at one input. -/
def clearPaymentsWrong : ChangeSpec := { name := "clearPayments", fn := fun _ => fun
  | [d1, d2] => { results := [.lit (.bool false)], args := [d1, d2] }
  | _ => none }
def ClearPaymentsWrongFalsely : Prop := clearPaymentsRow.holds Try.pinned (OpenSpec.ofChange clearPaymentsWrong)

/- THE SECOND FORM. 'bulk': how many values and letters a reading holds, each counted each time it is reached (what is shared counts as often as it is met; a slice's spare places count too). A statement '..UptoSaid' is the law's where the arguments, and the package variables that the reading takes, are together of bulk at most 1048576: NARROWER than '..Said'. Prove '..Said' where nothing that the law and all that it calls make is longer than what came in: it says more and counts as full. Else prove '..UptoSaid'. A law counts once. -/
mutual
def uptoBulk {H : Type} : DataW H → Nat
  | .lit (.string bytes) => bytes.length + 1
  | .lit _ => 1
  | .nil => 1
  | .ptr d => uptoBulk d + 1
  | .slice elems spare => uptoBulkAll elems + uptoBulkAll spare + 1
  | .agg parts => uptoBulkAll parts + 1
  | .iface _ d => uptoBulk d + 1
  | .map entries => uptoBulkEntries entries + 1
  | .held _ => 1
def uptoBulkAll {H : Type} : List (DataW H) → Nat
  | [] => 0
  | d :: r => uptoBulk d + uptoBulkAll r
def uptoBulkEntries {H : Type} : List (Lit × DataW H) → Nat
  | [] => 0
  | x :: r => uptoBulkEntry x + uptoBulkEntries r
def uptoBulkEntry {H : Type} : Lit × DataW H → Nat
  | (.string bytes, d) => bytes.length + uptoBulk d + 1
  | (_, d) => uptoBulk d + 1
 end
def uptoSmall : (H : Type) → List (DataW H) → Bool := fun _ ds => decide (uptoBulkAll ds ≤ 1048576)
def OpenSpec.upto (s : _root_.Go.ChangeSpec) : _root_.Go.OpenSpec := { _root_.Go.OpenSpec.ofChange s with cond := some uptoSmall }

/-- 'worldmintlaw28.ClearPrices', WHERE WHAT IT READS IS OF BULK AT MOST 1048576: true; the input reads as it did. -/
def clearPricesUptoRow : OpenClaim := { program := "ytecbfpcidoilmaa", sum := "8025732875a1d66802b367bb4a0baaa54af4476ee0dbbfc8afa604d53b007cb0", func := "worldmint/worldmintlaw28.ClearPrices", spec := "clearPrices", unfollowed := true, recurses := true, apart := false, narrowed := true }
def ClearPricesUptoSaid : Prop := clearPricesUptoRow.holds Try.pinned (OpenSpec.upto clearPricesSpec)

/-- 'worldmintlaw28.ClearBound', WHERE WHAT IT READS IS OF BULK AT MOST 1048576: true; the input reads as it did. -/
def clearBoundUptoRow : OpenClaim := { program := "ytecbfpcidoilmaa", sum := "8025732875a1d66802b367bb4a0baaa54af4476ee0dbbfc8afa604d53b007cb0", func := "worldmint/worldmintlaw28.ClearBound", spec := "clearBound", unfollowed := true, recurses := true, apart := false, narrowed := true }
def ClearBoundUptoSaid : Prop := clearBoundUptoRow.holds Try.pinned (OpenSpec.upto clearBoundSpec)

/-- 'worldmintlaw28.ClearTruthful', WHERE WHAT IT READS IS OF BULK AT MOST 1048576: true; the input reads as it did. -/
def clearTruthfulUptoRow : OpenClaim := { program := "ytecbfpcidoilmaa", sum := "8025732875a1d66802b367bb4a0baaa54af4476ee0dbbfc8afa604d53b007cb0", func := "worldmint/worldmintlaw28.ClearTruthful", spec := "clearTruthful", unfollowed := true, recurses := true, apart := false, narrowed := true }
def ClearTruthfulUptoSaid : Prop := clearTruthfulUptoRow.holds Try.pinned (OpenSpec.upto clearTruthfulSpec)

/-- 'worldmintlaw28.ClearMore', WHERE WHAT IT READS IS OF BULK AT MOST 1048576: true; the input reads as it did. -/
def clearMoreUptoRow : OpenClaim := { program := "ytecbfpcidoilmaa", sum := "8025732875a1d66802b367bb4a0baaa54af4476ee0dbbfc8afa604d53b007cb0", func := "worldmint/worldmintlaw28.ClearMore", spec := "clearMore", unfollowed := true, recurses := true, apart := false, narrowed := true }
def ClearMoreUptoSaid : Prop := clearMoreUptoRow.holds Try.pinned (OpenSpec.upto clearMoreSpec)

/-- 'worldmintlaw28.ClearBest', WHERE WHAT IT READS IS OF BULK AT MOST 1048576: true; the input reads as it did. -/
def clearBestUptoRow : OpenClaim := { program := "ytecbfpcidoilmaa", sum := "8025732875a1d66802b367bb4a0baaa54af4476ee0dbbfc8afa604d53b007cb0", func := "worldmint/worldmintlaw28.ClearBest", spec := "clearBest", unfollowed := true, recurses := true, apart := false, narrowed := true }
def ClearBestUptoSaid : Prop := clearBestUptoRow.holds Try.pinned (OpenSpec.upto clearBestSpec)

/-- 'worldmintlaw28.ClearBounds', WHERE WHAT IT READS IS OF BULK AT MOST 1048576: true; the input reads as it did. -/
def clearBoundsUptoRow : OpenClaim := { program := "ytecbfpcidoilmaa", sum := "8025732875a1d66802b367bb4a0baaa54af4476ee0dbbfc8afa604d53b007cb0", func := "worldmint/worldmintlaw28.ClearBounds", spec := "clearBounds", unfollowed := true, recurses := true, apart := false, narrowed := true }
def ClearBoundsUptoSaid : Prop := clearBoundsUptoRow.holds Try.pinned (OpenSpec.upto clearBoundsSpec)

/-- 'worldmintlaw28.ClearGroups', WHERE WHAT IT READS IS OF BULK AT MOST 1048576: true; the input reads as it did. -/
def clearGroupsUptoRow : OpenClaim := { program := "ytecbfpcidoilmaa", sum := "8025732875a1d66802b367bb4a0baaa54af4476ee0dbbfc8afa604d53b007cb0", func := "worldmint/worldmintlaw28.ClearGroups", spec := "clearGroups", unfollowed := true, recurses := true, apart := false, narrowed := true }
def ClearGroupsUptoSaid : Prop := clearGroupsUptoRow.holds Try.pinned (OpenSpec.upto clearGroupsSpec)

/-- 'worldmintlaw28.ClearPayments', WHERE WHAT IT READS IS OF BULK AT MOST 1048576: true; the input reads as it did. -/
def clearPaymentsUptoRow : OpenClaim := { program := "ytecbfpcidoilmaa", sum := "8025732875a1d66802b367bb4a0baaa54af4476ee0dbbfc8afa604d53b007cb0", func := "worldmint/worldmintlaw28.ClearPayments", spec := "clearPayments", unfollowed := true, recurses := true, apart := false, narrowed := true }
def ClearPaymentsUptoSaid : Prop := clearPaymentsUptoRow.holds Try.pinned (OpenSpec.upto clearPaymentsSpec)

end Rows
end Go.Proofs.Ytecbfpcidoilmaa
