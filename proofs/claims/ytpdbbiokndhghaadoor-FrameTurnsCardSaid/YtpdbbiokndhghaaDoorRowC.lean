/-
  FOR THE ROWS OF THIS SEAT: an argument that is a byte, opened. No condition of its own.
-/
import Derived.Test.YtpdbbiokndhghaaDoorRowB
namespace Go.Proofs.YtpdbbiokndhghaaDoor
open Go Go.RowKit Go.Proofs Go.ChangeShapes Go.WideShapes

theorem open_u8 {H : Type} {enc : TypeId × Value → H} {P : Program} {W : World} {r : Reach} {base : Nat} {t : TypeId} {v : Value} {d : DataW H} {p : List MemPlace} (ht : P.underlying t = some (.int .u8))
    (hv : Value.okWide P W r base t v) (h : DataW.Trod enc P W 0 (fun _ => true) true t v d p) : ∃ k : Int, v = .int .u8 k ∧ k = (((UInt8.ofNat k.toNat).toNat : Nat) : Int) := by
  obtain ⟨n, rfl⟩ := okWide_int ht hv
  obtain ⟨fuel, hf⟩ := h
  obtain ⟨n', e, _, w⟩ := DataW.trod_int ht hf
  simp [Value.cells] at e
  subst e
  have b := bounds_u8 w
  refine ⟨n, rfl, ?_⟩
  rw [UInt8.toNat_ofNat']
  omega
end Go.Proofs.YtpdbbiokndhghaaDoor
