/-
  No cell of these rows narrows 'for every input' (looked for: loops, veiled, ifaces, maps, wideKeys, modest, calm, conditions, laid).
  DERIVED. THE GIVEN ROWS OF THIS SEAT. 7 by the template 'for every input the law returns true; each argument reads behind the call as it read before'; 0 by the template 'total and deterministic' (their statements: YtdbpdkmnnlippaaTotals.lean).
  GIVEN WITH THE SEED: the statements are not yours to turn. If you find one false, say at which input.
  Laid BY PROGRAM, IN A SANDBOX (cutbox-rows.mjs): the forced cells as the released guide's own fill.sh prints them over the translation 6328b46f713be778… (all of the seat's roots in one cut). By AI agents, Wed Nov 11 2026. No macro, syntax, notation, axiom, sorry.
-/
import Derived.Test.YtdbpdkmnnlippaaChecked
import GoSem.Claim
import GoSem.ClaimJoined
import GoSem.ClaimMapViews
import Derived.JoinedTies
import Derived.KernelRfl
namespace Go.Proofs.Ytdbpdkmnnlippaa
/- THE CELL 'sum', in the pinned program and in every row, IS THE sha256 OF THE DUMP (.gsa) THAT YtdbpdkmnnlippaaProg.lean LOADS. Nothing in Lean hashes anything: it is a label: what it is worth is what the hold of that sum in a sandbox is worth. -/
noncomputable def Try.pinned : Pinned := { name := "ytdbpdkmnnlippaa", sum := "6328b46f713be7784a2fc72451d20749a390d4bfa370fd05135a205666b4eb68", checked := Try.checked }
namespace Rows
def none {H : Type} : Left H := { results := [], args := [] }

/-- 'worldmintlaw27.BidsValid': WHATEVER THE INPUT: true; the input reads as it did. -/
def bidsValidSpec : ChangeSpec := { name := "bidsValid", fn := fun _ => fun
  | [d1, d2, d3, d4, d5] => { results := [.lit (.bool true)], args := [d1, d2, d3, d4, d5] }
  | _ => none }
def bidsValidRow : OpenClaim := { program := "ytdbpdkmnnlippaa", sum := "6328b46f713be7784a2fc72451d20749a390d4bfa370fd05135a205666b4eb68", func := "worldmint/worldmintlaw27.BidsValid", spec := "bidsValid", unfollowed := true, recurses := true, apart := false }
def BidsValidSaid : Prop := bidsValidRow.holds Try.pinned (OpenSpec.ofChange bidsValidSpec)

/-- ITS FALSE NEIGHBOUR: 'it returns false'. Refute it at one input. -/
def bidsValidWrong : ChangeSpec := { name := "bidsValid", fn := fun _ => fun
  | [d1, d2, d3, d4, d5] => { results := [.lit (.bool false)], args := [d1, d2, d3, d4, d5] }
  | _ => none }
def BidsValidWrongFalsely : Prop := bidsValidRow.holds Try.pinned (OpenSpec.ofChange bidsValidWrong)

/-- 'worldmintlaw27.BidsFeasible': WHATEVER THE INPUT: true; the input reads as it did. -/
def bidsFeasibleSpec : ChangeSpec := { name := "bidsFeasible", fn := fun _ => fun
  | [d1, d2, d3, d4, d5] => { results := [.lit (.bool true)], args := [d1, d2, d3, d4, d5] }
  | _ => none }
def bidsFeasibleRow : OpenClaim := { program := "ytdbpdkmnnlippaa", sum := "6328b46f713be7784a2fc72451d20749a390d4bfa370fd05135a205666b4eb68", func := "worldmint/worldmintlaw27.BidsFeasible", spec := "bidsFeasible", unfollowed := true, recurses := true, apart := false }
def BidsFeasibleSaid : Prop := bidsFeasibleRow.holds Try.pinned (OpenSpec.ofChange bidsFeasibleSpec)

/-- ITS FALSE NEIGHBOUR: 'it returns false'. Refute it at one input. -/
def bidsFeasibleWrong : ChangeSpec := { name := "bidsFeasible", fn := fun _ => fun
  | [d1, d2, d3, d4, d5] => { results := [.lit (.bool false)], args := [d1, d2, d3, d4, d5] }
  | _ => none }
def BidsFeasibleWrongFalsely : Prop := bidsFeasibleRow.holds Try.pinned (OpenSpec.ofChange bidsFeasibleWrong)

/-- 'worldmintlaw27.BidsReduce': WHATEVER THE INPUT: true; the input reads as it did. -/
def bidsReduceSpec : ChangeSpec := { name := "bidsReduce", fn := fun _ => fun
  | [d1, d2] => { results := [.lit (.bool true)], args := [d1, d2] }
  | _ => none }
def bidsReduceRow : OpenClaim := { program := "ytdbpdkmnnlippaa", sum := "6328b46f713be7784a2fc72451d20749a390d4bfa370fd05135a205666b4eb68", func := "worldmint/worldmintlaw27.BidsReduce", spec := "bidsReduce", unfollowed := true, recurses := true, apart := false }
def BidsReduceSaid : Prop := bidsReduceRow.holds Try.pinned (OpenSpec.ofChange bidsReduceSpec)

/-- ITS FALSE NEIGHBOUR: 'it returns false'. Refute it at one input. -/
def bidsReduceWrong : ChangeSpec := { name := "bidsReduce", fn := fun _ => fun
  | [d1, d2] => { results := [.lit (.bool false)], args := [d1, d2] }
  | _ => none }
def BidsReduceWrongFalsely : Prop := bidsReduceRow.holds Try.pinned (OpenSpec.ofChange bidsReduceWrong)

/-- 'worldmintlaw27.BidsParts': WHATEVER THE INPUT: true; the input reads as it did. -/
def bidsPartsSpec : ChangeSpec := { name := "bidsParts", fn := fun _ => fun
  | [d1, d2] => { results := [.lit (.bool true)], args := [d1, d2] }
  | _ => none }
def bidsPartsRow : OpenClaim := { program := "ytdbpdkmnnlippaa", sum := "6328b46f713be7784a2fc72451d20749a390d4bfa370fd05135a205666b4eb68", func := "worldmint/worldmintlaw27.BidsParts", spec := "bidsParts", unfollowed := true, recurses := true, apart := false }
def BidsPartsSaid : Prop := bidsPartsRow.holds Try.pinned (OpenSpec.ofChange bidsPartsSpec)

/-- ITS FALSE NEIGHBOUR: 'it returns false'. Refute it at one input. -/
def bidsPartsWrong : ChangeSpec := { name := "bidsParts", fn := fun _ => fun
  | [d1, d2] => { results := [.lit (.bool false)], args := [d1, d2] }
  | _ => none }
def BidsPartsWrongFalsely : Prop := bidsPartsRow.holds Try.pinned (OpenSpec.ofChange bidsPartsWrong)

/-- 'worldmintlaw27.BidsUseless': WHATEVER THE INPUT: true; the input reads as it did. -/
def bidsUselessSpec : ChangeSpec := { name := "bidsUseless", fn := fun _ => fun
  | [d1, d2] => { results := [.lit (.bool true)], args := [d1, d2] }
  | _ => none }
def bidsUselessRow : OpenClaim := { program := "ytdbpdkmnnlippaa", sum := "6328b46f713be7784a2fc72451d20749a390d4bfa370fd05135a205666b4eb68", func := "worldmint/worldmintlaw27.BidsUseless", spec := "bidsUseless", unfollowed := true, recurses := true, apart := false }
def BidsUselessSaid : Prop := bidsUselessRow.holds Try.pinned (OpenSpec.ofChange bidsUselessSpec)

/-- ITS FALSE NEIGHBOUR: 'it returns false'. Refute it at one input. -/
def bidsUselessWrong : ChangeSpec := { name := "bidsUseless", fn := fun _ => fun
  | [d1, d2] => { results := [.lit (.bool false)], args := [d1, d2] }
  | _ => none }
def BidsUselessWrongFalsely : Prop := bidsUselessRow.holds Try.pinned (OpenSpec.ofChange bidsUselessWrong)

/-- 'worldmintlaw27.BidsApart': WHATEVER THE INPUT: true; the input reads as it did. -/
def bidsApartSpec : ChangeSpec := { name := "bidsApart", fn := fun _ => fun
  | [d1, d2, d3] => { results := [.lit (.bool true)], args := [d1, d2, d3] }
  | _ => none }
def bidsApartRow : OpenClaim := { program := "ytdbpdkmnnlippaa", sum := "6328b46f713be7784a2fc72451d20749a390d4bfa370fd05135a205666b4eb68", func := "worldmint/worldmintlaw27.BidsApart", spec := "bidsApart", unfollowed := true, recurses := true, apart := false }
def BidsApartSaid : Prop := bidsApartRow.holds Try.pinned (OpenSpec.ofChange bidsApartSpec)

/-- ITS FALSE NEIGHBOUR: 'it returns false'. Refute it at one input. -/
def bidsApartWrong : ChangeSpec := { name := "bidsApart", fn := fun _ => fun
  | [d1, d2, d3] => { results := [.lit (.bool false)], args := [d1, d2, d3] }
  | _ => none }
def BidsApartWrongFalsely : Prop := bidsApartRow.holds Try.pinned (OpenSpec.ofChange bidsApartWrong)

/-- 'worldmintlaw27.BidsEncoding': WHATEVER THE INPUT: true; the input reads as it did. -/
def bidsEncodingSpec : ChangeSpec := { name := "bidsEncoding", fn := fun _ => fun
  | [d1, d2, d3, d4, d5, d6, d7] => { results := [.lit (.bool true)], args := [d1, d2, d3, d4, d5, d6, d7] }
  | _ => none }
def bidsEncodingRow : OpenClaim := { program := "ytdbpdkmnnlippaa", sum := "6328b46f713be7784a2fc72451d20749a390d4bfa370fd05135a205666b4eb68", func := "worldmint/worldmintlaw27.BidsEncoding", spec := "bidsEncoding", unfollowed := true, recurses := true, apart := false }
def BidsEncodingSaid : Prop := bidsEncodingRow.holds Try.pinned (OpenSpec.ofChange bidsEncodingSpec)

/-- ITS FALSE NEIGHBOUR: 'it returns false'. Refute it at one input. -/
def bidsEncodingWrong : ChangeSpec := { name := "bidsEncoding", fn := fun _ => fun
  | [d1, d2, d3, d4, d5, d6, d7] => { results := [.lit (.bool false)], args := [d1, d2, d3, d4, d5, d6, d7] }
  | _ => none }
def BidsEncodingWrongFalsely : Prop := bidsEncodingRow.holds Try.pinned (OpenSpec.ofChange bidsEncodingWrong)

/- THE SECOND FORM. 'bulk': how many values and letters a reading holds, each counted each time it is reached (what is shared counts as often as it is met; a slice's spare places count too). A statement '..UptoSaid' is the law's where the arguments, and the package variables that the reading takes, are together of bulk at most 1048576: NARROWER than '..Said'. Prove '..Said' where nothing that the law and all that it calls make is longer than what came in: it says more and counts as full. Else prove '..UptoSaid'. A law counts once. -/
mutual
def uptoBulk {H : Type} : DataW H → Nat
  | .lit (.string bytes) => bytes.length + 1
  | .lit _ => 1
  | .nil => 1
  | .ptr d => uptoBulk d + 1
  | .slice elems spare => uptoBulkAll elems + uptoBulkAll spare + 1
  | .agg parts => uptoBulkAll parts + 1
  | .iface _ d => uptoBulk d + 1
  | .map entries => uptoBulkEntries entries + 1
  | .held _ => 1
def uptoBulkAll {H : Type} : List (DataW H) → Nat
  | [] => 0
  | d :: r => uptoBulk d + uptoBulkAll r
def uptoBulkEntries {H : Type} : List (Lit × DataW H) → Nat
  | [] => 0
  | x :: r => uptoBulkEntry x + uptoBulkEntries r
def uptoBulkEntry {H : Type} : Lit × DataW H → Nat
  | (.string bytes, d) => bytes.length + uptoBulk d + 1
  | (_, d) => uptoBulk d + 1
 end
def uptoSmall : (H : Type) → List (DataW H) → Bool := fun _ ds => decide (uptoBulkAll ds ≤ 1048576)
def OpenSpec.upto (s : _root_.Go.ChangeSpec) : _root_.Go.OpenSpec := { _root_.Go.OpenSpec.ofChange s with cond := some uptoSmall }

/-- 'worldmintlaw27.BidsValid', WHERE WHAT IT READS IS OF BULK AT MOST 1048576: true; the input reads as it did. -/
def bidsValidUptoRow : OpenClaim := { program := "ytdbpdkmnnlippaa", sum := "6328b46f713be7784a2fc72451d20749a390d4bfa370fd05135a205666b4eb68", func := "worldmint/worldmintlaw27.BidsValid", spec := "bidsValid", unfollowed := true, recurses := true, apart := false, narrowed := true }
def BidsValidUptoSaid : Prop := bidsValidUptoRow.holds Try.pinned (OpenSpec.upto bidsValidSpec)

/-- 'worldmintlaw27.BidsFeasible', WHERE WHAT IT READS IS OF BULK AT MOST 1048576: true; the input reads as it did. -/
def bidsFeasibleUptoRow : OpenClaim := { program := "ytdbpdkmnnlippaa", sum := "6328b46f713be7784a2fc72451d20749a390d4bfa370fd05135a205666b4eb68", func := "worldmint/worldmintlaw27.BidsFeasible", spec := "bidsFeasible", unfollowed := true, recurses := true, apart := false, narrowed := true }
def BidsFeasibleUptoSaid : Prop := bidsFeasibleUptoRow.holds Try.pinned (OpenSpec.upto bidsFeasibleSpec)

/-- 'worldmintlaw27.BidsReduce', WHERE WHAT IT READS IS OF BULK AT MOST 1048576: true; the input reads as it did. -/
def bidsReduceUptoRow : OpenClaim := { program := "ytdbpdkmnnlippaa", sum := "6328b46f713be7784a2fc72451d20749a390d4bfa370fd05135a205666b4eb68", func := "worldmint/worldmintlaw27.BidsReduce", spec := "bidsReduce", unfollowed := true, recurses := true, apart := false, narrowed := true }
def BidsReduceUptoSaid : Prop := bidsReduceUptoRow.holds Try.pinned (OpenSpec.upto bidsReduceSpec)

/-- 'worldmintlaw27.BidsParts', WHERE WHAT IT READS IS OF BULK AT MOST 1048576: true; the input reads as it did. -/
def bidsPartsUptoRow : OpenClaim := { program := "ytdbpdkmnnlippaa", sum := "6328b46f713be7784a2fc72451d20749a390d4bfa370fd05135a205666b4eb68", func := "worldmint/worldmintlaw27.BidsParts", spec := "bidsParts", unfollowed := true, recurses := true, apart := false, narrowed := true }
def BidsPartsUptoSaid : Prop := bidsPartsUptoRow.holds Try.pinned (OpenSpec.upto bidsPartsSpec)

/-- 'worldmintlaw27.BidsUseless', WHERE WHAT IT READS IS OF BULK AT MOST 1048576: true; the input reads as it did. -/
def bidsUselessUptoRow : OpenClaim := { program := "ytdbpdkmnnlippaa", sum := "6328b46f713be7784a2fc72451d20749a390d4bfa370fd05135a205666b4eb68", func := "worldmint/worldmintlaw27.BidsUseless", spec := "bidsUseless", unfollowed := true, recurses := true, apart := false, narrowed := true }
def BidsUselessUptoSaid : Prop := bidsUselessUptoRow.holds Try.pinned (OpenSpec.upto bidsUselessSpec)

/-- 'worldmintlaw27.BidsApart', WHERE WHAT IT READS IS OF BULK AT MOST 1048576: true; the input reads as it did. -/
def bidsApartUptoRow : OpenClaim := { program := "ytdbpdkmnnlippaa", sum := "6328b46f713be7784a2fc72451d20749a390d4bfa370fd05135a205666b4eb68", func := "worldmint/worldmintlaw27.BidsApart", spec := "bidsApart", unfollowed := true, recurses := true, apart := false, narrowed := true }
def BidsApartUptoSaid : Prop := bidsApartUptoRow.holds Try.pinned (OpenSpec.upto bidsApartSpec)

/-- 'worldmintlaw27.BidsEncoding', WHERE WHAT IT READS IS OF BULK AT MOST 1048576: true; the input reads as it did. -/
def bidsEncodingUptoRow : OpenClaim := { program := "ytdbpdkmnnlippaa", sum := "6328b46f713be7784a2fc72451d20749a390d4bfa370fd05135a205666b4eb68", func := "worldmint/worldmintlaw27.BidsEncoding", spec := "bidsEncoding", unfollowed := true, recurses := true, apart := false, narrowed := true }
def BidsEncodingUptoSaid : Prop := bidsEncodingUptoRow.holds Try.pinned (OpenSpec.upto bidsEncodingSpec)

end Rows
end Go.Proofs.Ytdbpdkmnnlippaa
