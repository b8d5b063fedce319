/-
  No cell of these rows narrows 'for every input' (looked for: loops, veiled, ifaces, maps, wideKeys, modest, calm, conditions, laid).
  DERIVED. THE GIVEN ROWS OF THIS SEAT. 5 by the template 'for every input the law returns true; each argument reads behind the call as it read before'; 0 by the template 'total and deterministic' (their statements: YtjbcmepnlnfkjaaTotals.lean).
  GIVEN WITH THE SEED: the statements are not yours to turn. If you find one false, say at which input.
  Laid BY PROGRAM, IN A SANDBOX (cutbox-rows.mjs): the forced cells as the released guide's own fill.sh prints them over the translation 4d5bb80e9394491e… (all of the seat's roots in one cut). By AI agents, Wed Nov 11 2026. No macro, syntax, notation, axiom, sorry.
-/
import Derived.Test.YtjbcmepnlnfkjaaChecked
import GoSem.Claim
import GoSem.ClaimJoined
import GoSem.ClaimMapViews
import Derived.JoinedTies
import Derived.KernelRfl
namespace Go.Proofs.Ytjbcmepnlnfkjaa
/- THE CELL 'sum', in the pinned program and in every row, IS THE sha256 OF THE DUMP (.gsa) THAT YtjbcmepnlnfkjaaProg.lean LOADS. Nothing in Lean hashes anything: it is a label: what it is worth is what the hold of that sum in a sandbox is worth. -/
noncomputable def Try.pinned : Pinned := { name := "ytjbcmepnlnfkjaa", sum := "4d5bb80e9394491e5982a9a25b58a4f33d9b06830b92a47f3af28f4f50d0c408", checked := Try.checked }
namespace Rows
def none {H : Type} : Left H := { results := [], args := [] }

/-- 'gudgeonlaw09.BagOnce': WHATEVER THE INPUT: true; the input reads as it did. -/
def bagOnceSpec : ChangeSpec := { name := "bagOnce", fn := fun _ => fun
  | [d] => { results := [.lit (.bool true)], args := [d] }
  | _ => none }
def bagOnceRow : OpenClaim := { program := "ytjbcmepnlnfkjaa", sum := "4d5bb80e9394491e5982a9a25b58a4f33d9b06830b92a47f3af28f4f50d0c408", func := "gudgeon/gudgeonlaw09.BagOnce", spec := "bagOnce", plainKeys := false, apart := false }
def BagOnceSaid : Prop := bagOnceRow.holds Try.pinned (OpenSpec.ofChange bagOnceSpec)

/-- ITS FALSE NEIGHBOUR: 'it returns false'. Refute it at one input. -/
def bagOnceWrong : ChangeSpec := { name := "bagOnce", fn := fun _ => fun
  | [d] => { results := [.lit (.bool false)], args := [d] }
  | _ => none }
def BagOnceWrongFalsely : Prop := bagOnceRow.holds Try.pinned (OpenSpec.ofChange bagOnceWrong)

/-- 'gudgeonlaw09.BagFull': WHATEVER THE INPUT: true; the input reads as it did. -/
def bagFullSpec : ChangeSpec := { name := "bagFull", fn := fun _ => fun
  | [d] => { results := [.lit (.bool true)], args := [d] }
  | _ => none }
def bagFullRow : OpenClaim := { program := "ytjbcmepnlnfkjaa", sum := "4d5bb80e9394491e5982a9a25b58a4f33d9b06830b92a47f3af28f4f50d0c408", func := "gudgeon/gudgeonlaw09.BagFull", spec := "bagFull", plainKeys := false, apart := false }
def BagFullSaid : Prop := bagFullRow.holds Try.pinned (OpenSpec.ofChange bagFullSpec)

/-- ITS FALSE NEIGHBOUR: 'it returns false'. Refute it at one input. -/
def bagFullWrong : ChangeSpec := { name := "bagFull", fn := fun _ => fun
  | [d] => { results := [.lit (.bool false)], args := [d] }
  | _ => none }
def BagFullWrongFalsely : Prop := bagFullRow.holds Try.pinned (OpenSpec.ofChange bagFullWrong)

/-- 'gudgeonlaw09.BagOwns': WHATEVER THE INPUT: true; the input reads as it did. -/
def bagOwnsSpec : ChangeSpec := { name := "bagOwns", fn := fun _ => fun
  | [d] => { results := [.lit (.bool true)], args := [d] }
  | _ => none }
def bagOwnsRow : OpenClaim := { program := "ytjbcmepnlnfkjaa", sum := "4d5bb80e9394491e5982a9a25b58a4f33d9b06830b92a47f3af28f4f50d0c408", func := "gudgeon/gudgeonlaw09.BagOwns", spec := "bagOwns", plainKeys := false, apart := false }
def BagOwnsSaid : Prop := bagOwnsRow.holds Try.pinned (OpenSpec.ofChange bagOwnsSpec)

/-- ITS FALSE NEIGHBOUR: 'it returns false'. Refute it at one input. -/
def bagOwnsWrong : ChangeSpec := { name := "bagOwns", fn := fun _ => fun
  | [d] => { results := [.lit (.bool false)], args := [d] }
  | _ => none }
def BagOwnsWrongFalsely : Prop := bagOwnsRow.holds Try.pinned (OpenSpec.ofChange bagOwnsWrong)

/-- 'gudgeonlaw09.BagActs': WHATEVER THE INPUT: true; the input reads as it did. -/
def bagActsSpec : ChangeSpec := { name := "bagActs", fn := fun _ => fun
  | [d] => { results := [.lit (.bool true)], args := [d] }
  | _ => none }
def bagActsRow : OpenClaim := { program := "ytjbcmepnlnfkjaa", sum := "4d5bb80e9394491e5982a9a25b58a4f33d9b06830b92a47f3af28f4f50d0c408", func := "gudgeon/gudgeonlaw09.BagActs", spec := "bagActs", unfollowed := true, recurses := true, plainKeys := false, apart := false }
def BagActsSaid : Prop := bagActsRow.holds Try.pinned (OpenSpec.ofChange bagActsSpec)

/-- ITS FALSE NEIGHBOUR: 'it returns false'. Refute it at one input. -/
def bagActsWrong : ChangeSpec := { name := "bagActs", fn := fun _ => fun
  | [d] => { results := [.lit (.bool false)], args := [d] }
  | _ => none }
def BagActsWrongFalsely : Prop := bagActsRow.holds Try.pinned (OpenSpec.ofChange bagActsWrong)

/-- 'gudgeonlaw09.BagNobody': WHATEVER THE INPUT: true; the input reads as it did. -/
def bagNobodySpec : ChangeSpec := { name := "bagNobody", fn := fun _ => fun
  | [d] => { results := [.lit (.bool true)], args := [d] }
  | _ => none }
def bagNobodyRow : OpenClaim := { program := "ytjbcmepnlnfkjaa", sum := "4d5bb80e9394491e5982a9a25b58a4f33d9b06830b92a47f3af28f4f50d0c408", func := "gudgeon/gudgeonlaw09.BagNobody", spec := "bagNobody", unfollowed := true, recurses := true, plainKeys := false, apart := false }
def BagNobodySaid : Prop := bagNobodyRow.holds Try.pinned (OpenSpec.ofChange bagNobodySpec)

/-- ITS FALSE NEIGHBOUR: 'it returns false'. Refute it at one input. -/
def bagNobodyWrong : ChangeSpec := { name := "bagNobody", fn := fun _ => fun
  | [d] => { results := [.lit (.bool false)], args := [d] }
  | _ => none }
def BagNobodyWrongFalsely : Prop := bagNobodyRow.holds Try.pinned (OpenSpec.ofChange bagNobodyWrong)

/- THE SECOND FORM. 'bulk': how many values and letters a reading holds, each counted each time it is reached (what is shared counts as often as it is met; a slice's spare places count too). A statement '..UptoSaid' is the law's where the arguments, and the package variables that the reading takes, are together of bulk at most 1048576: NARROWER than '..Said'. Prove '..Said' where nothing that the law and all that it calls make is longer than what came in: it says more and counts as full. Else prove '..UptoSaid'. A law counts once. -/
mutual
def uptoBulk {H : Type} : DataW H → Nat
  | .lit (.string bytes) => bytes.length + 1
  | .lit _ => 1
  | .nil => 1
  | .ptr d => uptoBulk d + 1
  | .slice elems spare => uptoBulkAll elems + uptoBulkAll spare + 1
  | .agg parts => uptoBulkAll parts + 1
  | .iface _ d => uptoBulk d + 1
  | .map entries => uptoBulkEntries entries + 1
  | .held _ => 1
def uptoBulkAll {H : Type} : List (DataW H) → Nat
  | [] => 0
  | d :: r => uptoBulk d + uptoBulkAll r
def uptoBulkEntries {H : Type} : List (Lit × DataW H) → Nat
  | [] => 0
  | x :: r => uptoBulkEntry x + uptoBulkEntries r
def uptoBulkEntry {H : Type} : Lit × DataW H → Nat
  | (.string bytes, d) => bytes.length + uptoBulk d + 1
  | (_, d) => uptoBulk d + 1
 end
def uptoSmall : (H : Type) → List (DataW H) → Bool := fun _ ds => decide (uptoBulkAll ds ≤ 1048576)
def OpenSpec.upto (s : _root_.Go.ChangeSpec) : _root_.Go.OpenSpec := { _root_.Go.OpenSpec.ofChange s with cond := some uptoSmall }

/-- 'gudgeonlaw09.BagOnce', WHERE WHAT IT READS IS OF BULK AT MOST 1048576: true; the input reads as it did. -/
def bagOnceUptoRow : OpenClaim := { program := "ytjbcmepnlnfkjaa", sum := "4d5bb80e9394491e5982a9a25b58a4f33d9b06830b92a47f3af28f4f50d0c408", func := "gudgeon/gudgeonlaw09.BagOnce", spec := "bagOnce", plainKeys := false, apart := false, narrowed := true }
def BagOnceUptoSaid : Prop := bagOnceUptoRow.holds Try.pinned (OpenSpec.upto bagOnceSpec)

/-- 'gudgeonlaw09.BagFull', WHERE WHAT IT READS IS OF BULK AT MOST 1048576: true; the input reads as it did. -/
def bagFullUptoRow : OpenClaim := { program := "ytjbcmepnlnfkjaa", sum := "4d5bb80e9394491e5982a9a25b58a4f33d9b06830b92a47f3af28f4f50d0c408", func := "gudgeon/gudgeonlaw09.BagFull", spec := "bagFull", plainKeys := false, apart := false, narrowed := true }
def BagFullUptoSaid : Prop := bagFullUptoRow.holds Try.pinned (OpenSpec.upto bagFullSpec)

/-- 'gudgeonlaw09.BagOwns', WHERE WHAT IT READS IS OF BULK AT MOST 1048576: true; the input reads as it did. -/
def bagOwnsUptoRow : OpenClaim := { program := "ytjbcmepnlnfkjaa", sum := "4d5bb80e9394491e5982a9a25b58a4f33d9b06830b92a47f3af28f4f50d0c408", func := "gudgeon/gudgeonlaw09.BagOwns", spec := "bagOwns", plainKeys := false, apart := false, narrowed := true }
def BagOwnsUptoSaid : Prop := bagOwnsUptoRow.holds Try.pinned (OpenSpec.upto bagOwnsSpec)

/-- 'gudgeonlaw09.BagActs', WHERE WHAT IT READS IS OF BULK AT MOST 1048576: true; the input reads as it did. -/
def bagActsUptoRow : OpenClaim := { program := "ytjbcmepnlnfkjaa", sum := "4d5bb80e9394491e5982a9a25b58a4f33d9b06830b92a47f3af28f4f50d0c408", func := "gudgeon/gudgeonlaw09.BagActs", spec := "bagActs", unfollowed := true, recurses := true, plainKeys := false, apart := false, narrowed := true }
def BagActsUptoSaid : Prop := bagActsUptoRow.holds Try.pinned (OpenSpec.upto bagActsSpec)

/-- 'gudgeonlaw09.BagNobody', WHERE WHAT IT READS IS OF BULK AT MOST 1048576: true; the input reads as it did. -/
def bagNobodyUptoRow : OpenClaim := { program := "ytjbcmepnlnfkjaa", sum := "4d5bb80e9394491e5982a9a25b58a4f33d9b06830b92a47f3af28f4f50d0c408", func := "gudgeon/gudgeonlaw09.BagNobody", spec := "bagNobody", unfollowed := true, recurses := true, plainKeys := false, apart := false, narrowed := true }
def BagNobodyUptoSaid : Prop := bagNobodyUptoRow.holds Try.pinned (OpenSpec.upto bagNobodySpec)

end Rows
end Go.Proofs.Ytjbcmepnlnfkjaa
