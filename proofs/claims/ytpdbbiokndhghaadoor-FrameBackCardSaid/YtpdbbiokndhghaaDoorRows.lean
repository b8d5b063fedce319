/-
  NARROWER THAN 'FOR EVERY INPUT', by the rows' own cells (each row's printed sentence says how): CrcTurns: laid · CrcOf: laid · CrcSeals: laid · CrcOpens: laid · FramePuts: laid · FrameNexts: laid · FrameTurns: laid · FrameAll: laid · FrameBack: laid.
  DERIVED. THE GIVEN ROWS OF THIS SEAT. 9 by the template 'for every input the law returns true; each argument reads behind the call as it read before'; 0 by the template 'total and deterministic' (their statements: YtpdbbiokndhghaaDoorTotals.lean).
  GIVEN WITH THE SEED: the statements are not yours to turn. If you find one false, say at which input.
  Laid BY PROGRAM, IN A SANDBOX (cutbox-rows.mjs): the forced cells as the released guide's own fill.sh prints them over the translation 65ec65bcb5c8f302… (all of the seat's roots in one cut). By AI agents, Wed Nov 11 2026. No macro, syntax, notation, axiom, sorry.
-/
import Derived.Test.YtpdbbiokndhghaaDoorChecked
import GoSem.Claim
import GoSem.ClaimJoined
import GoSem.ClaimMapViews
import Derived.JoinedTies
import Derived.KernelRfl
namespace Go.Proofs.YtpdbbiokndhghaaDoor
/- THE CELL 'sum', in the pinned program and in every row, IS THE sha256 OF THE DUMP (.gsa) THAT YtpdbbiokndhghaaDoorProg.lean LOADS. Nothing in Lean hashes anything: it is a label: what it is worth is what the hold of that sum in a sandbox is worth. -/
noncomputable def Tryd.pinned : Pinned := { name := "ytpdbbiokndhghaadoor", sum := "65ec65bcb5c8f3029f2736876f132cb910354d7c648ba6ea10d89385e5f5a0ed", checked := Tryd.checked }
namespace Rows
def none {H : Type} : Left H := { results := [], args := [] }

/- WHAT THE LISTED PACKAGE-LEVEL VARIABLES READ AS WHEN THE CALL BEGINS. Each datum BY PROGRAM (the guide's laid-datum.mjs) off the statement by which the dump's own 'gosem.cut.vars' lays the variable. In a bare row this is a premise. The card (YtpdbbiokndhghaaDoorCards.lean) ties it to the program's text. -/
def laid_gudgeon_crc_known {H : Type} : DataW H := .agg [.lit (.int .u32 0), .lit (.int .u32 498536548), .lit (.int .u32 997073096), .lit (.int .u32 651767980), .lit (.int .u32 1994146192), .lit (.int .u32 1802195444), .lit (.int .u32 1303535960), .lit (.int .u32 1342533948), .lit (.int .u32 3988292384), .lit (.int .u32 4027552580), .lit (.int .u32 3604390888), .lit (.int .u32 3412177804), .lit (.int .u32 2607071920), .lit (.int .u32 2262029012), .lit (.int .u32 2685067896), .lit (.int .u32 3183342108)]

/-- 'gudgeonlaw03.CrcTurns': WHATEVER THE INPUT: true; the input reads as it did. -/
def crcTurnsSpec : ChangeSpec := { name := "crcTurns", fn := fun _ => fun
  | [d1, d2] => { results := [.lit (.bool true)], args := [d1, d2] }
  | _ => none }
def crcTurnsRow : OpenClaim := { program := "ytpdbbiokndhghaadoor", sum := "65ec65bcb5c8f3029f2736876f132cb910354d7c648ba6ea10d89385e5f5a0ed", func := "gudgeon/gudgeonlaw03.CrcTurns", spec := "crcTurns", named := ["gudgeon/crc.known"], apart := false, laid := [("gudgeon/crc.known", laid_gudgeon_crc_known)] }
def CrcTurnsSaid : Prop := crcTurnsRow.holds Tryd.pinned (OpenSpec.ofChange crcTurnsSpec)

/-- ITS FALSE NEIGHBOUR: 'it returns false'. Refute it at one input. -/
def crcTurnsWrong : ChangeSpec := { name := "crcTurns", fn := fun _ => fun
  | [d1, d2] => { results := [.lit (.bool false)], args := [d1, d2] }
  | _ => none }
def CrcTurnsWrongFalsely : Prop := crcTurnsRow.holds Tryd.pinned (OpenSpec.ofChange crcTurnsWrong)

/-- 'gudgeonlaw03.CrcOf': WHATEVER THE INPUT: true; the input reads as it did. -/
def crcOfSpec : ChangeSpec := { name := "crcOf", fn := fun _ => fun
  | [d1, d2] => { results := [.lit (.bool true)], args := [d1, d2] }
  | _ => none }
def crcOfRow : OpenClaim := { program := "ytpdbbiokndhghaadoor", sum := "65ec65bcb5c8f3029f2736876f132cb910354d7c648ba6ea10d89385e5f5a0ed", func := "gudgeon/gudgeonlaw03.CrcOf", spec := "crcOf", named := ["gudgeon/crc.known"], apart := false, laid := [("gudgeon/crc.known", laid_gudgeon_crc_known)] }
def CrcOfSaid : Prop := crcOfRow.holds Tryd.pinned (OpenSpec.ofChange crcOfSpec)

/-- ITS FALSE NEIGHBOUR: 'it returns false'. Refute it at one input. -/
def crcOfWrong : ChangeSpec := { name := "crcOf", fn := fun _ => fun
  | [d1, d2] => { results := [.lit (.bool false)], args := [d1, d2] }
  | _ => none }
def CrcOfWrongFalsely : Prop := crcOfRow.holds Tryd.pinned (OpenSpec.ofChange crcOfWrong)

/-- 'gudgeonlaw03.CrcSeals': WHATEVER THE INPUT: true; the input reads as it did. -/
def crcSealsSpec : ChangeSpec := { name := "crcSeals", fn := fun _ => fun
  | [d] => { results := [.lit (.bool true)], args := [d] }
  | _ => none }
def crcSealsRow : OpenClaim := { program := "ytpdbbiokndhghaadoor", sum := "65ec65bcb5c8f3029f2736876f132cb910354d7c648ba6ea10d89385e5f5a0ed", func := "gudgeon/gudgeonlaw03.CrcSeals", spec := "crcSeals", named := ["gudgeon/crc.known"], apart := false, laid := [("gudgeon/crc.known", laid_gudgeon_crc_known)] }
def CrcSealsSaid : Prop := crcSealsRow.holds Tryd.pinned (OpenSpec.ofChange crcSealsSpec)

/-- ITS FALSE NEIGHBOUR: 'it returns false'. Refute it at one input. -/
def crcSealsWrong : ChangeSpec := { name := "crcSeals", fn := fun _ => fun
  | [d] => { results := [.lit (.bool false)], args := [d] }
  | _ => none }
def CrcSealsWrongFalsely : Prop := crcSealsRow.holds Tryd.pinned (OpenSpec.ofChange crcSealsWrong)

/-- 'gudgeonlaw03.CrcOpens': WHATEVER THE INPUT: true; the input reads as it did. -/
def crcOpensSpec : ChangeSpec := { name := "crcOpens", fn := fun _ => fun
  | [d] => { results := [.lit (.bool true)], args := [d] }
  | _ => none }
def crcOpensRow : OpenClaim := { program := "ytpdbbiokndhghaadoor", sum := "65ec65bcb5c8f3029f2736876f132cb910354d7c648ba6ea10d89385e5f5a0ed", func := "gudgeon/gudgeonlaw03.CrcOpens", spec := "crcOpens", named := ["gudgeon/crc.known"], apart := false, laid := [("gudgeon/crc.known", laid_gudgeon_crc_known)] }
def CrcOpensSaid : Prop := crcOpensRow.holds Tryd.pinned (OpenSpec.ofChange crcOpensSpec)

/-- ITS FALSE NEIGHBOUR: 'it returns false'. Refute it at one input. -/
def crcOpensWrong : ChangeSpec := { name := "crcOpens", fn := fun _ => fun
  | [d] => { results := [.lit (.bool false)], args := [d] }
  | _ => none }
def CrcOpensWrongFalsely : Prop := crcOpensRow.holds Tryd.pinned (OpenSpec.ofChange crcOpensWrong)

/-- 'gudgeonlaw04.FramePuts': WHATEVER THE INPUT: true; the input reads as it did. -/
def framePutsSpec : ChangeSpec := { name := "framePuts", fn := fun _ => fun
  | [d1, d2, d3] => { results := [.lit (.bool true)], args := [d1, d2, d3] }
  | _ => none }
def framePutsRow : OpenClaim := { program := "ytpdbbiokndhghaadoor", sum := "65ec65bcb5c8f3029f2736876f132cb910354d7c648ba6ea10d89385e5f5a0ed", func := "gudgeon/gudgeonlaw04.FramePuts", spec := "framePuts", named := ["gudgeon/crc.known"], apart := false, laid := [("gudgeon/crc.known", laid_gudgeon_crc_known)] }
def FramePutsSaid : Prop := framePutsRow.holds Tryd.pinned (OpenSpec.ofChange framePutsSpec)

/-- ITS FALSE NEIGHBOUR: 'it returns false'. Refute it at one input. -/
def framePutsWrong : ChangeSpec := { name := "framePuts", fn := fun _ => fun
  | [d1, d2, d3] => { results := [.lit (.bool false)], args := [d1, d2, d3] }
  | _ => none }
def FramePutsWrongFalsely : Prop := framePutsRow.holds Tryd.pinned (OpenSpec.ofChange framePutsWrong)

/-- 'gudgeonlaw04.FrameNexts': WHATEVER THE INPUT: true; the input reads as it did. -/
def frameNextsSpec : ChangeSpec := { name := "frameNexts", fn := fun _ => fun
  | [d] => { results := [.lit (.bool true)], args := [d] }
  | _ => none }
def frameNextsRow : OpenClaim := { program := "ytpdbbiokndhghaadoor", sum := "65ec65bcb5c8f3029f2736876f132cb910354d7c648ba6ea10d89385e5f5a0ed", func := "gudgeon/gudgeonlaw04.FrameNexts", spec := "frameNexts", named := ["gudgeon/crc.known"], apart := false, laid := [("gudgeon/crc.known", laid_gudgeon_crc_known)] }
def FrameNextsSaid : Prop := frameNextsRow.holds Tryd.pinned (OpenSpec.ofChange frameNextsSpec)

/-- ITS FALSE NEIGHBOUR: 'it returns false'. Refute it at one input. -/
def frameNextsWrong : ChangeSpec := { name := "frameNexts", fn := fun _ => fun
  | [d] => { results := [.lit (.bool false)], args := [d] }
  | _ => none }
def FrameNextsWrongFalsely : Prop := frameNextsRow.holds Tryd.pinned (OpenSpec.ofChange frameNextsWrong)

/-- 'gudgeonlaw04.FrameTurns': WHATEVER THE INPUT: true; the input reads as it did. -/
def frameTurnsSpec : ChangeSpec := { name := "frameTurns", fn := fun _ => fun
  | [d1, d2, d3] => { results := [.lit (.bool true)], args := [d1, d2, d3] }
  | _ => none }
def frameTurnsRow : OpenClaim := { program := "ytpdbbiokndhghaadoor", sum := "65ec65bcb5c8f3029f2736876f132cb910354d7c648ba6ea10d89385e5f5a0ed", func := "gudgeon/gudgeonlaw04.FrameTurns", spec := "frameTurns", named := ["gudgeon/crc.known"], apart := false, laid := [("gudgeon/crc.known", laid_gudgeon_crc_known)] }
def FrameTurnsSaid : Prop := frameTurnsRow.holds Tryd.pinned (OpenSpec.ofChange frameTurnsSpec)

/-- ITS FALSE NEIGHBOUR: 'it returns false'. Refute it at one input. -/
def frameTurnsWrong : ChangeSpec := { name := "frameTurns", fn := fun _ => fun
  | [d1, d2, d3] => { results := [.lit (.bool false)], args := [d1, d2, d3] }
  | _ => none }
def FrameTurnsWrongFalsely : Prop := frameTurnsRow.holds Tryd.pinned (OpenSpec.ofChange frameTurnsWrong)

/-- 'gudgeonlaw04.FrameAll': WHATEVER THE INPUT: true; the input reads as it did. -/
def frameAllSpec : ChangeSpec := { name := "frameAll", fn := fun _ => fun
  | [d] => { results := [.lit (.bool true)], args := [d] }
  | _ => none }
def frameAllRow : OpenClaim := { program := "ytpdbbiokndhghaadoor", sum := "65ec65bcb5c8f3029f2736876f132cb910354d7c648ba6ea10d89385e5f5a0ed", func := "gudgeon/gudgeonlaw04.FrameAll", spec := "frameAll", named := ["gudgeon/crc.known"], apart := false, laid := [("gudgeon/crc.known", laid_gudgeon_crc_known)] }
def FrameAllSaid : Prop := frameAllRow.holds Tryd.pinned (OpenSpec.ofChange frameAllSpec)

/-- ITS FALSE NEIGHBOUR: 'it returns false'. Refute it at one input. -/
def frameAllWrong : ChangeSpec := { name := "frameAll", fn := fun _ => fun
  | [d] => { results := [.lit (.bool false)], args := [d] }
  | _ => none }
def FrameAllWrongFalsely : Prop := frameAllRow.holds Tryd.pinned (OpenSpec.ofChange frameAllWrong)

/-- 'gudgeonlaw04.FrameBack': WHATEVER THE INPUT: true; the input reads as it did. -/
def frameBackSpec : ChangeSpec := { name := "frameBack", fn := fun _ => fun
  | [d1, d2, d3] => { results := [.lit (.bool true)], args := [d1, d2, d3] }
  | _ => none }
def frameBackRow : OpenClaim := { program := "ytpdbbiokndhghaadoor", sum := "65ec65bcb5c8f3029f2736876f132cb910354d7c648ba6ea10d89385e5f5a0ed", func := "gudgeon/gudgeonlaw04.FrameBack", spec := "frameBack", named := ["gudgeon/crc.known"], apart := false, laid := [("gudgeon/crc.known", laid_gudgeon_crc_known)] }
def FrameBackSaid : Prop := frameBackRow.holds Tryd.pinned (OpenSpec.ofChange frameBackSpec)

/-- ITS FALSE NEIGHBOUR: 'it returns false'. Refute it at one input. -/
def frameBackWrong : ChangeSpec := { name := "frameBack", fn := fun _ => fun
  | [d1, d2, d3] => { results := [.lit (.bool false)], args := [d1, d2, d3] }
  | _ => none }
def FrameBackWrongFalsely : Prop := frameBackRow.holds Tryd.pinned (OpenSpec.ofChange frameBackWrong)

/- THE SECOND FORM. 'bulk': how many values and letters a reading holds, each counted each time it is reached (what is shared counts as often as it is met; a slice's spare places count too). A statement '..UptoSaid' is the law's where the arguments, and the package variables that the reading takes, are together of bulk at most 1048576: NARROWER than '..Said'. Prove '..Said' where nothing that the law and all that it calls make is longer than what came in: it says more and counts as full. Else prove '..UptoSaid'. A law counts once. -/
mutual
def uptoBulk {H : Type} : DataW H → Nat
  | .lit (.string bytes) => bytes.length + 1
  | .lit _ => 1
  | .nil => 1
  | .ptr d => uptoBulk d + 1
  | .slice elems spare => uptoBulkAll elems + uptoBulkAll spare + 1
  | .agg parts => uptoBulkAll parts + 1
  | .iface _ d => uptoBulk d + 1
  | .map entries => uptoBulkEntries entries + 1
  | .held _ => 1
def uptoBulkAll {H : Type} : List (DataW H) → Nat
  | [] => 0
  | d :: r => uptoBulk d + uptoBulkAll r
def uptoBulkEntries {H : Type} : List (Lit × DataW H) → Nat
  | [] => 0
  | x :: r => uptoBulkEntry x + uptoBulkEntries r
def uptoBulkEntry {H : Type} : Lit × DataW H → Nat
  | (.string bytes, d) => bytes.length + uptoBulk d + 1
  | (_, d) => uptoBulk d + 1
 end
def uptoSmall : (H : Type) → List (DataW H) → Bool := fun _ ds => decide (uptoBulkAll ds ≤ 1048576)
def OpenSpec.upto (s : _root_.Go.ChangeSpec) : _root_.Go.OpenSpec := { _root_.Go.OpenSpec.ofChange s with cond := some uptoSmall }

/-- 'gudgeonlaw03.CrcTurns', WHERE WHAT IT READS IS OF BULK AT MOST 1048576: true; the input reads as it did. -/
def crcTurnsUptoRow : OpenClaim := { program := "ytpdbbiokndhghaadoor", sum := "65ec65bcb5c8f3029f2736876f132cb910354d7c648ba6ea10d89385e5f5a0ed", func := "gudgeon/gudgeonlaw03.CrcTurns", spec := "crcTurns", named := ["gudgeon/crc.known"], apart := false, laid := [("gudgeon/crc.known", laid_gudgeon_crc_known)], narrowed := true }
def CrcTurnsUptoSaid : Prop := crcTurnsUptoRow.holds Tryd.pinned (OpenSpec.upto crcTurnsSpec)

/-- 'gudgeonlaw03.CrcOf', WHERE WHAT IT READS IS OF BULK AT MOST 1048576: true; the input reads as it did. -/
def crcOfUptoRow : OpenClaim := { program := "ytpdbbiokndhghaadoor", sum := "65ec65bcb5c8f3029f2736876f132cb910354d7c648ba6ea10d89385e5f5a0ed", func := "gudgeon/gudgeonlaw03.CrcOf", spec := "crcOf", named := ["gudgeon/crc.known"], apart := false, laid := [("gudgeon/crc.known", laid_gudgeon_crc_known)], narrowed := true }
def CrcOfUptoSaid : Prop := crcOfUptoRow.holds Tryd.pinned (OpenSpec.upto crcOfSpec)

/-- 'gudgeonlaw03.CrcSeals', WHERE WHAT IT READS IS OF BULK AT MOST 1048576: true; the input reads as it did. -/
def crcSealsUptoRow : OpenClaim := { program := "ytpdbbiokndhghaadoor", sum := "65ec65bcb5c8f3029f2736876f132cb910354d7c648ba6ea10d89385e5f5a0ed", func := "gudgeon/gudgeonlaw03.CrcSeals", spec := "crcSeals", named := ["gudgeon/crc.known"], apart := false, laid := [("gudgeon/crc.known", laid_gudgeon_crc_known)], narrowed := true }
def CrcSealsUptoSaid : Prop := crcSealsUptoRow.holds Tryd.pinned (OpenSpec.upto crcSealsSpec)

/-- 'gudgeonlaw03.CrcOpens', WHERE WHAT IT READS IS OF BULK AT MOST 1048576: true; the input reads as it did. -/
def crcOpensUptoRow : OpenClaim := { program := "ytpdbbiokndhghaadoor", sum := "65ec65bcb5c8f3029f2736876f132cb910354d7c648ba6ea10d89385e5f5a0ed", func := "gudgeon/gudgeonlaw03.CrcOpens", spec := "crcOpens", named := ["gudgeon/crc.known"], apart := false, laid := [("gudgeon/crc.known", laid_gudgeon_crc_known)], narrowed := true }
def CrcOpensUptoSaid : Prop := crcOpensUptoRow.holds Tryd.pinned (OpenSpec.upto crcOpensSpec)

/-- 'gudgeonlaw04.FramePuts', WHERE WHAT IT READS IS OF BULK AT MOST 1048576: true; the input reads as it did. -/
def framePutsUptoRow : OpenClaim := { program := "ytpdbbiokndhghaadoor", sum := "65ec65bcb5c8f3029f2736876f132cb910354d7c648ba6ea10d89385e5f5a0ed", func := "gudgeon/gudgeonlaw04.FramePuts", spec := "framePuts", named := ["gudgeon/crc.known"], apart := false, laid := [("gudgeon/crc.known", laid_gudgeon_crc_known)], narrowed := true }
def FramePutsUptoSaid : Prop := framePutsUptoRow.holds Tryd.pinned (OpenSpec.upto framePutsSpec)

/-- 'gudgeonlaw04.FrameNexts', WHERE WHAT IT READS IS OF BULK AT MOST 1048576: true; the input reads as it did. -/
def frameNextsUptoRow : OpenClaim := { program := "ytpdbbiokndhghaadoor", sum := "65ec65bcb5c8f3029f2736876f132cb910354d7c648ba6ea10d89385e5f5a0ed", func := "gudgeon/gudgeonlaw04.FrameNexts", spec := "frameNexts", named := ["gudgeon/crc.known"], apart := false, laid := [("gudgeon/crc.known", laid_gudgeon_crc_known)], narrowed := true }
def FrameNextsUptoSaid : Prop := frameNextsUptoRow.holds Tryd.pinned (OpenSpec.upto frameNextsSpec)

/-- 'gudgeonlaw04.FrameTurns', WHERE WHAT IT READS IS OF BULK AT MOST 1048576: true; the input reads as it did. -/
def frameTurnsUptoRow : OpenClaim := { program := "ytpdbbiokndhghaadoor", sum := "65ec65bcb5c8f3029f2736876f132cb910354d7c648ba6ea10d89385e5f5a0ed", func := "gudgeon/gudgeonlaw04.FrameTurns", spec := "frameTurns", named := ["gudgeon/crc.known"], apart := false, laid := [("gudgeon/crc.known", laid_gudgeon_crc_known)], narrowed := true }
def FrameTurnsUptoSaid : Prop := frameTurnsUptoRow.holds Tryd.pinned (OpenSpec.upto frameTurnsSpec)

/-- 'gudgeonlaw04.FrameAll', WHERE WHAT IT READS IS OF BULK AT MOST 1048576: true; the input reads as it did. -/
def frameAllUptoRow : OpenClaim := { program := "ytpdbbiokndhghaadoor", sum := "65ec65bcb5c8f3029f2736876f132cb910354d7c648ba6ea10d89385e5f5a0ed", func := "gudgeon/gudgeonlaw04.FrameAll", spec := "frameAll", named := ["gudgeon/crc.known"], apart := false, laid := [("gudgeon/crc.known", laid_gudgeon_crc_known)], narrowed := true }
def FrameAllUptoSaid : Prop := frameAllUptoRow.holds Tryd.pinned (OpenSpec.upto frameAllSpec)

/-- 'gudgeonlaw04.FrameBack', WHERE WHAT IT READS IS OF BULK AT MOST 1048576: true; the input reads as it did. -/
def frameBackUptoRow : OpenClaim := { program := "ytpdbbiokndhghaadoor", sum := "65ec65bcb5c8f3029f2736876f132cb910354d7c648ba6ea10d89385e5f5a0ed", func := "gudgeon/gudgeonlaw04.FrameBack", spec := "frameBack", named := ["gudgeon/crc.known"], apart := false, laid := [("gudgeon/crc.known", laid_gudgeon_crc_known)], narrowed := true }
def FrameBackUptoSaid : Prop := frameBackUptoRow.holds Tryd.pinned (OpenSpec.upto frameBackSpec)

end Rows
end Go.Proofs.YtpdbbiokndhghaaDoor
