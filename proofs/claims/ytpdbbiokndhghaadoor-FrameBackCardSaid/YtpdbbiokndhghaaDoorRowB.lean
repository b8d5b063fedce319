/-
  THE TABLE OF THE SUMS, out of the rows' list; a world that holds it (for the witnesses). No condition of its own.
-/
import Derived.Test.YtpdbbiokndhghaaDoorCards
import Derived.Test.YtpdbbiokndhghaaDoorTie
import Derived.Test.YtpdbbiokndhghaaDoorRowA
import Derived.Deep.DeepHandedRow
import Derived.Lib.LaidTab
namespace Go.Proofs.YtpdbbiokndhghaaDoor
open Go Go.RowKit Go.Proofs Go.ChangeShapes Go.WideShapes Go.ChangeAt

theorem own : ownKnob Tryd.prog.godebug = none := by kernel_rfl
theorem laidOut : laidOutB Tryd.prog = true := by kernel_rfl
theorem gTab : Tryd.prog.globalNamed "gudgeon/crc.known" = some 0 := by kernel_rfl
theorem gTabType : (Tryd.prog.globals[0]?).map (·.type) = some 57 := by kernel_rfl
theorem cells57 : Tryd.prog.cellsOf 57 = 16 := by kernel_rfl
theorem cells27 : Tryd.prog.cellsOf 27 = 1 := by kernel_rfl
theorem cells5 : Tryd.prog.cellsOf 5 = 1 := by kernel_rfl
theorem cells23 : Tryd.prog.cellsOf 23 = 1 := by kernel_rfl
theorem cells24 : Tryd.prog.cellsOf 24 = 3 := by kernel_rfl
theorem bytes5 : Tryd.prog.bytesOf 5 = 1 := by kernel_rfl

def tabZ : List Int := [0, 498536548, 997073096, 651767980, 1994146192, 1802195444, 1303535960, 1342533948, 3988292384, 4027552580, 3604390888, 3412177804, 2607071920, 2262029012, 2685067896, 3183342108]
theorem tabZ_nib : ∀ i, i < 16 → tabZ.getD i 0 = ((Crc.nib i : Nat) : Int) := by decide

/-- WHAT THE ROW's LIST GIVES -/
theorem table {W : World} (h : laidMetH Tryd.prog [("gudgeon/crc.known", Rows.laid_gudgeon_crc_known)] W) : Lib.TabIs Tryd.prog W "gudgeon/crc.known" .u32 tabZ :=
  Lib.tabIs_of_head (rest := []) gTab gTabType Tryd.underlying57 Tryd.underlying27 cells27 cells57 h
theorem known_of {W : World} (h : laidMetH Tryd.prog [("gudgeon/crc.known", Rows.laid_gudgeon_crc_known)] W) : Known W := fun i hi => by
  rw [← tabZ_nib i hi]
  exact (table h).cell gTab i (by simpa [tabZ] using hi)

/-- A WORLD FOR THE WITNESS: the settled one, the table (block 0) holding what its initialiser lays. -/
noncomputable def laidWorld (os : Os) : World :=
  { World.holding Tryd.prog os ⟨#[], #[], []⟩ with heap := (World.holding Tryd.prog os ⟨#[], #[], []⟩).heap.modify 0 fun
      | .cells _ t frozen => .cells #[.int .u32 0, .int .u32 498536548, .int .u32 997073096, .int .u32 651767980, .int .u32 1994146192, .int .u32 1802195444, .int .u32 1303535960, .int .u32 1342533948, .int .u32 3988292384, .int .u32 4027552580, .int .u32 3604390888, .int .u32 3412177804, .int .u32 2607071920, .int .u32 2262029012, .int .u32 2685067896, .int .u32 3183342108] t frozen
      | o => o }
end Go.Proofs.YtpdbbiokndhghaaDoor
