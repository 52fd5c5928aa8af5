/-
  No cell of these rows narrows 'for every input' (looked for: loops, veiled, ifaces, maps, wideKeys, modest, calm, conditions, laid).
  DERIVED. THE GIVEN ROWS OF THIS SEAT. 8 by the template 'for every input the law returns true; each argument reads behind the call as it read before'; 0 by the template 'total and deterministic' (their statements: YtgbmebnfbhdpiaaTotals.lean).
  GIVEN WITH THE SEED: the statements are not yours to turn. If you find one false, say at which input.
  Laid BY PROGRAM, IN A SANDBOX (cutbox-rows.mjs): the forced cells as the released guide's own fill.sh prints them over the translation 95f06b5408523c15… (all of the seat's roots in one cut). By AI agents, Wed Nov 11 2026. No macro, syntax, notation, axiom, sorry.
-/
import Derived.Test.YtgbmebnfbhdpiaaChecked
import GoSem.Claim
import GoSem.ClaimJoined
import GoSem.ClaimMapViews
import Derived.JoinedTies
import Derived.KernelRfl
namespace Go.Proofs.Ytgbmebnfbhdpiaa
/- THE CELL 'sum', in the pinned program and in every row, IS THE sha256 OF THE DUMP (.gsa) THAT YtgbmebnfbhdpiaaProg.lean LOADS. Nothing in Lean hashes anything: it is a label: what it is worth is what the hold of that sum in a sandbox is worth. -/
noncomputable def Try.pinned : Pinned := { name := "ytgbmebnfbhdpiaa", sum := "95f06b5408523c15cd7f88c0a4b616272a705af694d96e0c9357614255143fef", checked := Try.checked }
namespace Rows
def none {H : Type} : Left H := { results := [], args := [] }

/-- 'atticlaw20.DomIdoms': WHATEVER THE INPUT: true; the input reads as it did. -/
def domIdomsSpec : ChangeSpec := { name := "domIdoms", fn := fun _ => fun
  | [d1, d2, d3] => { results := [.lit (.bool true)], args := [d1, d2, d3] }
  | _ => none }
def domIdomsRow : OpenClaim := { program := "ytgbmebnfbhdpiaa", sum := "95f06b5408523c15cd7f88c0a4b616272a705af694d96e0c9357614255143fef", func := "attic/atticlaw20.DomIdoms", spec := "domIdoms", unfollowed := true, recurses := true, apart := false }
def DomIdomsSaid : Prop := domIdomsRow.holds Try.pinned (OpenSpec.ofChange domIdomsSpec)

/-- ITS FALSE NEIGHBOUR: 'it returns false'. Refute it at one input. -/
def domIdomsWrong : ChangeSpec := { name := "domIdoms", fn := fun _ => fun
  | [d1, d2, d3] => { results := [.lit (.bool false)], args := [d1, d2, d3] }
  | _ => none }
def DomIdomsWrongFalsely : Prop := domIdomsRow.holds Try.pinned (OpenSpec.ofChange domIdomsWrong)

/-- 'atticlaw20.DomWeighs': WHATEVER THE INPUT: true; the input reads as it did. -/
def domWeighsSpec : ChangeSpec := { name := "domWeighs", fn := fun _ => fun
  | [d1, d2] => { results := [.lit (.bool true)], args := [d1, d2] }
  | _ => none }
def domWeighsRow : OpenClaim := { program := "ytgbmebnfbhdpiaa", sum := "95f06b5408523c15cd7f88c0a4b616272a705af694d96e0c9357614255143fef", func := "attic/atticlaw20.DomWeighs", spec := "domWeighs", unfollowed := true, recurses := true, apart := false }
def DomWeighsSaid : Prop := domWeighsRow.holds Try.pinned (OpenSpec.ofChange domWeighsSpec)

/-- ITS FALSE NEIGHBOUR: 'it returns false'. Refute it at one input. -/
def domWeighsWrong : ChangeSpec := { name := "domWeighs", fn := fun _ => fun
  | [d1, d2] => { results := [.lit (.bool false)], args := [d1, d2] }
  | _ => none }
def DomWeighsWrongFalsely : Prop := domWeighsRow.holds Try.pinned (OpenSpec.ofChange domWeighsWrong)

/-- 'atticlaw20.DomHolds': WHATEVER THE INPUT: true; the input reads as it did. -/
def domHoldsSpec : ChangeSpec := { name := "domHolds", fn := fun _ => fun
  | [d1, d2] => { results := [.lit (.bool true)], args := [d1, d2] }
  | _ => none }
def domHoldsRow : OpenClaim := { program := "ytgbmebnfbhdpiaa", sum := "95f06b5408523c15cd7f88c0a4b616272a705af694d96e0c9357614255143fef", func := "attic/atticlaw20.DomHolds", spec := "domHolds", unfollowed := true, recurses := true, apart := false }
def DomHoldsSaid : Prop := domHoldsRow.holds Try.pinned (OpenSpec.ofChange domHoldsSpec)

/-- ITS FALSE NEIGHBOUR: 'it returns false'. Refute it at one input. -/
def domHoldsWrong : ChangeSpec := { name := "domHolds", fn := fun _ => fun
  | [d1, d2] => { results := [.lit (.bool false)], args := [d1, d2] }
  | _ => none }
def DomHoldsWrongFalsely : Prop := domHoldsRow.holds Try.pinned (OpenSpec.ofChange domHoldsWrong)

/-- 'atticlaw20.DomTree': WHATEVER THE INPUT: true; the input reads as it did. -/
def domTreeSpec : ChangeSpec := { name := "domTree", fn := fun _ => fun
  | [d] => { results := [.lit (.bool true)], args := [d] }
  | _ => none }
def domTreeRow : OpenClaim := { program := "ytgbmebnfbhdpiaa", sum := "95f06b5408523c15cd7f88c0a4b616272a705af694d96e0c9357614255143fef", func := "attic/atticlaw20.DomTree", spec := "domTree", unfollowed := true, recurses := true, apart := false }
def DomTreeSaid : Prop := domTreeRow.holds Try.pinned (OpenSpec.ofChange domTreeSpec)

/-- ITS FALSE NEIGHBOUR: 'it returns false'. Refute it at one input. -/
def domTreeWrong : ChangeSpec := { name := "domTree", fn := fun _ => fun
  | [d] => { results := [.lit (.bool false)], args := [d] }
  | _ => none }
def DomTreeWrongFalsely : Prop := domTreeRow.holds Try.pinned (OpenSpec.ofChange domTreeWrong)

/-- 'atticlaw20.DomIs': WHATEVER THE INPUT: true; the input reads as it did. -/
def domIsSpec : ChangeSpec := { name := "domIs", fn := fun _ => fun
  | [d1, d2, d3] => { results := [.lit (.bool true)], args := [d1, d2, d3] }
  | _ => none }
def domIsRow : OpenClaim := { program := "ytgbmebnfbhdpiaa", sum := "95f06b5408523c15cd7f88c0a4b616272a705af694d96e0c9357614255143fef", func := "attic/atticlaw20.DomIs", spec := "domIs", unfollowed := true, recurses := true, apart := false }
def DomIsSaid : Prop := domIsRow.holds Try.pinned (OpenSpec.ofChange domIsSpec)

/-- ITS FALSE NEIGHBOUR: 'it returns false'. Refute it at one input. -/
def domIsWrong : ChangeSpec := { name := "domIs", fn := fun _ => fun
  | [d1, d2, d3] => { results := [.lit (.bool false)], args := [d1, d2, d3] }
  | _ => none }
def DomIsWrongFalsely : Prop := domIsRow.holds Try.pinned (OpenSpec.ofChange domIsWrong)

/-- 'atticlaw20.DomGone': WHATEVER THE INPUT: true; the input reads as it did. -/
def domGoneSpec : ChangeSpec := { name := "domGone", fn := fun _ => fun
  | [d1, d2] => { results := [.lit (.bool true)], args := [d1, d2] }
  | _ => none }
def domGoneRow : OpenClaim := { program := "ytgbmebnfbhdpiaa", sum := "95f06b5408523c15cd7f88c0a4b616272a705af694d96e0c9357614255143fef", func := "attic/atticlaw20.DomGone", spec := "domGone", unfollowed := true, recurses := true, apart := false }
def DomGoneSaid : Prop := domGoneRow.holds Try.pinned (OpenSpec.ofChange domGoneSpec)

/-- ITS FALSE NEIGHBOUR: 'it returns false'. Refute it at one input. -/
def domGoneWrong : ChangeSpec := { name := "domGone", fn := fun _ => fun
  | [d1, d2] => { results := [.lit (.bool false)], args := [d1, d2] }
  | _ => none }
def DomGoneWrongFalsely : Prop := domGoneRow.holds Try.pinned (OpenSpec.ofChange domGoneWrong)

/-- 'atticlaw20.DomOf': WHATEVER THE INPUT: true; the input reads as it did. -/
def domOfSpec : ChangeSpec := { name := "domOf", fn := fun _ => fun
  | [d] => { results := [.lit (.bool true)], args := [d] }
  | _ => none }
def domOfRow : OpenClaim := { program := "ytgbmebnfbhdpiaa", sum := "95f06b5408523c15cd7f88c0a4b616272a705af694d96e0c9357614255143fef", func := "attic/atticlaw20.DomOf", spec := "domOf", unfollowed := true, recurses := true, apart := false }
def DomOfSaid : Prop := domOfRow.holds Try.pinned (OpenSpec.ofChange domOfSpec)

/-- ITS FALSE NEIGHBOUR: 'it returns false'. Refute it at one input. -/
def domOfWrong : ChangeSpec := { name := "domOf", fn := fun _ => fun
  | [d] => { results := [.lit (.bool false)], args := [d] }
  | _ => none }
def DomOfWrongFalsely : Prop := domOfRow.holds Try.pinned (OpenSpec.ofChange domOfWrong)

/-- 'atticlaw20.DomHeap': WHATEVER THE INPUT: true; the input reads as it did. -/
def domHeapSpec : ChangeSpec := { name := "domHeap", fn := fun _ => fun
  | [d1, d2] => { results := [.lit (.bool true)], args := [d1, d2] }
  | _ => none }
def domHeapRow : OpenClaim := { program := "ytgbmebnfbhdpiaa", sum := "95f06b5408523c15cd7f88c0a4b616272a705af694d96e0c9357614255143fef", func := "attic/atticlaw20.DomHeap", spec := "domHeap", unfollowed := true, recurses := true, apart := false }
def DomHeapSaid : Prop := domHeapRow.holds Try.pinned (OpenSpec.ofChange domHeapSpec)

/-- ITS FALSE NEIGHBOUR: 'it returns false'. Refute it at one input. -/
def domHeapWrong : ChangeSpec := { name := "domHeap", fn := fun _ => fun
  | [d1, d2] => { results := [.lit (.bool false)], args := [d1, d2] }
  | _ => none }
def DomHeapWrongFalsely : Prop := domHeapRow.holds Try.pinned (OpenSpec.ofChange domHeapWrong)

/- THE SECOND FORM. 'bulk': how many values and letters a reading holds, each counted each time it is reached (what is shared counts as often as it is met; a slice's spare places count too). A statement '..UptoSaid' is the law's where the arguments, and the package variables that the reading takes, are together of bulk at most 1048576: NARROWER than '..Said'. Prove '..Said' where nothing that the law and all that it calls make is longer than what came in: it says more and counts as full. Else prove '..UptoSaid'. A law counts once. -/
mutual
def uptoBulk {H : Type} : DataW H → Nat
  | .lit (.string bytes) => bytes.length + 1
  | .lit _ => 1
  | .nil => 1
  | .ptr d => uptoBulk d + 1
  | .slice elems spare => uptoBulkAll elems + uptoBulkAll spare + 1
  | .agg parts => uptoBulkAll parts + 1
  | .iface _ d => uptoBulk d + 1
  | .map entries => uptoBulkEntries entries + 1
  | .held _ => 1
def uptoBulkAll {H : Type} : List (DataW H) → Nat
  | [] => 0
  | d :: r => uptoBulk d + uptoBulkAll r
def uptoBulkEntries {H : Type} : List (Lit × DataW H) → Nat
  | [] => 0
  | x :: r => uptoBulkEntry x + uptoBulkEntries r
def uptoBulkEntry {H : Type} : Lit × DataW H → Nat
  | (.string bytes, d) => bytes.length + uptoBulk d + 1
  | (_, d) => uptoBulk d + 1
 end
def uptoSmall : (H : Type) → List (DataW H) → Bool := fun _ ds => decide (uptoBulkAll ds ≤ 1048576)
def OpenSpec.upto (s : _root_.Go.ChangeSpec) : _root_.Go.OpenSpec := { _root_.Go.OpenSpec.ofChange s with cond := some uptoSmall }

/-- 'atticlaw20.DomIdoms', WHERE WHAT IT READS IS OF BULK AT MOST 1048576: true; the input reads as it did. -/
def domIdomsUptoRow : OpenClaim := { program := "ytgbmebnfbhdpiaa", sum := "95f06b5408523c15cd7f88c0a4b616272a705af694d96e0c9357614255143fef", func := "attic/atticlaw20.DomIdoms", spec := "domIdoms", unfollowed := true, recurses := true, apart := false, narrowed := true }
def DomIdomsUptoSaid : Prop := domIdomsUptoRow.holds Try.pinned (OpenSpec.upto domIdomsSpec)

/-- 'atticlaw20.DomWeighs', WHERE WHAT IT READS IS OF BULK AT MOST 1048576: true; the input reads as it did. -/
def domWeighsUptoRow : OpenClaim := { program := "ytgbmebnfbhdpiaa", sum := "95f06b5408523c15cd7f88c0a4b616272a705af694d96e0c9357614255143fef", func := "attic/atticlaw20.DomWeighs", spec := "domWeighs", unfollowed := true, recurses := true, apart := false, narrowed := true }
def DomWeighsUptoSaid : Prop := domWeighsUptoRow.holds Try.pinned (OpenSpec.upto domWeighsSpec)

/-- 'atticlaw20.DomHolds', WHERE WHAT IT READS IS OF BULK AT MOST 1048576: true; the input reads as it did. -/
def domHoldsUptoRow : OpenClaim := { program := "ytgbmebnfbhdpiaa", sum := "95f06b5408523c15cd7f88c0a4b616272a705af694d96e0c9357614255143fef", func := "attic/atticlaw20.DomHolds", spec := "domHolds", unfollowed := true, recurses := true, apart := false, narrowed := true }
def DomHoldsUptoSaid : Prop := domHoldsUptoRow.holds Try.pinned (OpenSpec.upto domHoldsSpec)

/-- 'atticlaw20.DomTree', WHERE WHAT IT READS IS OF BULK AT MOST 1048576: true; the input reads as it did. -/
def domTreeUptoRow : OpenClaim := { program := "ytgbmebnfbhdpiaa", sum := "95f06b5408523c15cd7f88c0a4b616272a705af694d96e0c9357614255143fef", func := "attic/atticlaw20.DomTree", spec := "domTree", unfollowed := true, recurses := true, apart := false, narrowed := true }
def DomTreeUptoSaid : Prop := domTreeUptoRow.holds Try.pinned (OpenSpec.upto domTreeSpec)

/-- 'atticlaw20.DomIs', WHERE WHAT IT READS IS OF BULK AT MOST 1048576: true; the input reads as it did. -/
def domIsUptoRow : OpenClaim := { program := "ytgbmebnfbhdpiaa", sum := "95f06b5408523c15cd7f88c0a4b616272a705af694d96e0c9357614255143fef", func := "attic/atticlaw20.DomIs", spec := "domIs", unfollowed := true, recurses := true, apart := false, narrowed := true }
def DomIsUptoSaid : Prop := domIsUptoRow.holds Try.pinned (OpenSpec.upto domIsSpec)

/-- 'atticlaw20.DomGone', WHERE WHAT IT READS IS OF BULK AT MOST 1048576: true; the input reads as it did. -/
def domGoneUptoRow : OpenClaim := { program := "ytgbmebnfbhdpiaa", sum := "95f06b5408523c15cd7f88c0a4b616272a705af694d96e0c9357614255143fef", func := "attic/atticlaw20.DomGone", spec := "domGone", unfollowed := true, recurses := true, apart := false, narrowed := true }
def DomGoneUptoSaid : Prop := domGoneUptoRow.holds Try.pinned (OpenSpec.upto domGoneSpec)

/-- 'atticlaw20.DomOf', WHERE WHAT IT READS IS OF BULK AT MOST 1048576: true; the input reads as it did. -/
def domOfUptoRow : OpenClaim := { program := "ytgbmebnfbhdpiaa", sum := "95f06b5408523c15cd7f88c0a4b616272a705af694d96e0c9357614255143fef", func := "attic/atticlaw20.DomOf", spec := "domOf", unfollowed := true, recurses := true, apart := false, narrowed := true }
def DomOfUptoSaid : Prop := domOfUptoRow.holds Try.pinned (OpenSpec.upto domOfSpec)

/-- 'atticlaw20.DomHeap', WHERE WHAT IT READS IS OF BULK AT MOST 1048576: true; the input reads as it did. -/
def domHeapUptoRow : OpenClaim := { program := "ytgbmebnfbhdpiaa", sum := "95f06b5408523c15cd7f88c0a4b616272a705af694d96e0c9357614255143fef", func := "attic/atticlaw20.DomHeap", spec := "domHeap", unfollowed := true, recurses := true, apart := false, narrowed := true }
def DomHeapUptoSaid : Prop := domHeapUptoRow.holds Try.pinned (OpenSpec.upto domHeapSpec)

end Rows
end Go.Proofs.Ytgbmebnfbhdpiaa
