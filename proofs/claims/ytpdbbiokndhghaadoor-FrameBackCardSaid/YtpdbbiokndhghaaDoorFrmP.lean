/-
  PLAIN LAWS OF FRAMES, the third part: what begins with a frame hands it back (next_frame). No condition but the bound on the length.
-/
import Derived.Test.YtpdbbiokndhghaaDoorFrmB
import Derived.Test.YtpdbbiokndhghaaDoorFrmC
namespace Go.Proofs.YtpdbbiokndhghaaDoor
open Go Go.RowKit Go.Proofs

theorem read_uv (n : Nat) (h : n < 128 ^ 3) : Frm.readS (Frm.uv n) = n := by
  have hl := uv_len 2 n (by simpa using h)
  unfold Frm.readS
  rw [Frm.readF_form _ 10 0 0 (Frm.uv_form n) (by omega) (fun h => absurd h (by omega)) rfl (fun he => absurd he (by omega)), Frm.uv_low]
  simp
theorem ok_uv (n : Nat) (h : n < 128 ^ 3) : Frm.okS (Frm.uv n) = true := by
  unfold Frm.okS
  rw [read_uv n h]
  simp
theorem sealed_drop4 (l : List UInt8) : (sealed l).drop 4 = l := by simp [sealed, be4]
theorem frame_len (kd : UInt8) (b : List UInt8) : (frame kd b).length = (Frm.uv (b.length + 5)).length + (b.length + 5) := by
  rw [frame, List.length_append, sealed_len]; simp

theorem next_frame (kd : UInt8) (b r : List UInt8) (h : b.length ≤ 1048571) : Frm.nextS (frame kd b ++ r) = (kd, b, (frame kd b).length, 0) := by
  have h3 : b.length + 5 < 128 ^ 3 := by omega
  have htake : (frame kd b ++ r).take (Frm.uv (b.length + 5)).length = Frm.uv (b.length + 5) := by
    rw [frame, List.append_assoc]; simp
  have hlen : (Frm.uv (b.length + 5)).length ≤ (frame kd b ++ r).length := by rw [frame]; simp
  rw [Frm.next_res _ (Frm.uv (b.length + 5)).length hlen (by rw [htake]; exact ok_uv _ h3), htake, read_uv _ h3]
  unfold Frm.resS
  have hs : (sealed (kd :: b)).length = b.length + 5 := by rw [sealed_len]; simp
  rw [if_neg (by omega), if_neg (by rw [List.length_append, frame_len]; omega)]
  have hd : ((frame kd b ++ r).drop (Frm.uv (b.length + 5)).length).take (b.length + 5) = sealed (kd :: b) := by
    rw [frame, List.append_assoc, List.drop_left, ← hs, List.take_left]
  rw [hd]
  unfold Frm.bodyS
  rw [sealed_drop4, if_pos rfl, frame_len]
  congr 1
theorem next_nil : Frm.nextS [] = (0, [], 0, 12) := by
  unfold Frm.nextS Frm.sizeS Frm.fst
  simp
end Go.Proofs.YtpdbbiokndhghaaDoor
