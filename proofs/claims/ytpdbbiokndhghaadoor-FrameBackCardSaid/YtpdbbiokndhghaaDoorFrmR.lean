/-
  PLAIN LAWS OF FRAMES, the fifth part: frames put together, and cut, are read back (back_cut). No condition but the bound on each body's length.
-/
import Derived.Test.YtpdbbiokndhghaaDoorFrmQ
namespace Go.Proofs.YtpdbbiokndhghaaDoor.Frm
open Go.Proofs.YtpdbbiokndhghaaDoor

/-- frames put together -/
def joinS : List (UInt8 × List UInt8) → List UInt8
  | [] => []
  | x :: r => frame x.1 x.2 ++ joinS r

theorem uv_high (n c : Nat) (h : c < (uv n).length) : ((uv n).take c).all (fun c => decide (128 ≤ c.toNat)) = true := by
  have hf := form_fst _ (uv_form n)
  rw [List.all_eq_true]
  intro x hx
  obtain ⟨i, hi, rfl⟩ := List.getElem_of_mem hx
  have hi' : i < c := by simp at hi; omega
  rw [List.getElem_take]
  have hlt : i < fst (uv n) := by omega
  have := List.not_of_lt_findIdx hlt
  simp only [decide_eq_true_eq]
  simp at this
  omega

theorem cut_frame (kd : UInt8) (b : List UInt8) (c : Nat) (h : b.length ≤ 1048571) (_h0 : 0 < c) (hc : c < (frame kd b).length) : (nextS ((frame kd b).take c)).2.2.2 = 12 := by
  have h3 : b.length + 5 < 128 ^ 3 := by omega
  have hu := uv_len 2 (b.length + 5) (by omega)
  have hlen := frame_len kd b
  rcases Nat.lt_or_ge c (uv (b.length + 5)).length with hlt | hge
  · have ht : (frame kd b).take c = (uv (b.length + 5)).take c := by
      unfold frame
      rw [List.take_append_of_le_length (by omega)]
    rw [ht]
    have hl : ((uv (b.length + 5)).take c).length = c := by simp; omega
    have hall := (fst_all _).2 (uv_high _ c hlt)
    have hs : sizeS ((uv (b.length + 5)).take c) = (0, 0, 12) := by
      unfold sizeS
      rw [if_pos hall, if_pos (by omega)]
    unfold nextS
    rw [hs]
    simp
  · have htake : ((frame kd b).take c).take (uv (b.length + 5)).length = uv (b.length + 5) := by
      rw [List.take_take, Nat.min_eq_left hge]
      unfold frame
      simp
    have hl : ((frame kd b).take c).length = c := by simp; omega
    rw [next_res _ (uv (b.length + 5)).length (by omega) (by rw [htake]; exact ok_uv _ h3), htake, read_uv _ h3]
    unfold resS
    rw [if_neg (by omega), if_pos (by omega)]

theorem frame_pos (kd : UInt8) (b : List UInt8) : 6 ≤ (frame kd b).length := by
  have := frame_len kd b
  have := List.length_pos_iff.2 (uv_ne (b.length + 5))
  omega

/-- THE THEOREM OF FRAMES -/
theorem back_cut : ∀ (its : List (UInt8 × List UInt8)) (f c : Nat), (∀ x ∈ its, x.2.length ≤ 1048571) → c ≤ (joinS its).length → c ≤ f →
    (∃ m, m ≤ its.length ∧ (allF f ((joinS its).take c)).1 = its.take m) ∧ (allF f ((joinS its).take c)).2.1 ≤ c ∧
    ((allF f ((joinS its).take c)).2.2 = 0 ↔ (allF f ((joinS its).take c)).2.1 = c) ∧ ((allF f ((joinS its).take c)).2.2 = 0 ∨ (allF f ((joinS its).take c)).2.2 = 12)
  | [], f, c, _, hc, _ => by
    have hc0 : c = 0 := by simpa [joinS] using hc
    subst hc0
    simp [joinS, allF_nil]
  | x :: r, f, c, hx, hc, hf => by
    rcases Nat.eq_zero_or_pos c with h0 | h0
    · subst h0
      simp only [List.take_zero, allF_nil]
      exact ⟨⟨0, by omega, by simp⟩, by omega, by simp, by simp⟩
    · obtain ⟨g, rfl⟩ : ∃ g, f = g + 1 := ⟨f - 1, by omega⟩
      have hxb := hx x (by simp)
      have hjl : (joinS (x :: r)).length = (frame x.1 x.2).length + (joinS r).length := by simp [joinS]
      have hp := frame_pos x.1 x.2
      rcases Nat.lt_or_ge c (frame x.1 x.2).length with hlt | hge
      · have ht : (joinS (x :: r)).take c = (frame x.1 x.2).take c := by
          show (frame x.1 x.2 ++ joinS r).take c = _
          rw [List.take_append_of_le_length (by omega)]
        rw [ht]
        have hl : ((frame x.1 x.2).take c).length = c := by rw [List.length_take]; omega
        have hne : (frame x.1 x.2).take c ≠ [] := fun e => by rw [e] at hl; simp at hl; omega
        have h12 := cut_frame x.1 x.2 c hxb h0 hlt
        have he : (nextS ((frame x.1 x.2).take c)).2.2.2 ≠ 0 := by omega
        have e : allF (g + 1) ((frame x.1 x.2).take c) = ([], 0, 12) := by
          simp only [allF, if_neg hne]
          rw [if_pos he, h12]
        rw [e]
        exact ⟨⟨0, by omega, by simp⟩, Nat.zero_le _, ⟨fun h => absurd h (by simp), fun h => absurd h.symm (by simpa using Nat.pos_iff_ne_zero.1 h0)⟩, .inr rfl⟩
      · have ht : (joinS (x :: r)).take c = frame x.1 x.2 ++ (joinS r).take (c - (frame x.1 x.2).length) := by
          show (frame x.1 x.2 ++ joinS r).take c = _
          rw [List.take_append, List.take_of_length_le hge]
        have hnx := next_frame x.1 x.2 ((joinS r).take (c - (frame x.1 x.2).length)) hxb
        rw [ht]
        have hne : frame x.1 x.2 ++ (joinS r).take (c - (frame x.1 x.2).length) ≠ [] := fun e => by have := congrArg List.length e; rw [List.length_append, List.length_nil] at this; omega
        obtain ⟨⟨m, hm, e1⟩, e2, e3, e4⟩ := back_cut r g (c - (frame x.1 x.2).length) (fun y hy => hx y (by simp [hy])) (by omega) (by omega)
        simp only [allF, if_neg hne, hnx, List.drop_left]
        rw [if_neg (by simp)]
        refine ⟨⟨m + 1, by simp; omega, by simp [e1]⟩, ?_, ?_, e4⟩
        · show _ + _ ≤ _; omega
        · show _ ↔ _ + _ = _
          rw [e3]; omega

theorem back_all : ∀ (its : List (UInt8 × List UInt8)) (f : Nat), (∀ x ∈ its, x.2.length ≤ 1048571) → (joinS its).length ≤ f → allF f (joinS its) = (its, (joinS its).length, 0)
  | [], f, _, _ => by simp [joinS, allF_nil]
  | x :: r, f, hx, hf => by
    have hjl : (joinS (x :: r)).length = (frame x.1 x.2).length + (joinS r).length := by simp [joinS]
    have hp := frame_pos x.1 x.2
    obtain ⟨g, rfl⟩ : ∃ g, f = g + 1 := ⟨f - 1, by omega⟩
    have hnx := next_frame x.1 x.2 (joinS r) (hx x (by simp))
    have hj : joinS (x :: r) = frame x.1 x.2 ++ joinS r := rfl
    have hne : frame x.1 x.2 ++ joinS r ≠ [] := fun e => by have := congrArg List.length e; rw [List.length_append, List.length_nil] at this; omega
    have ih := back_all r g (fun y hy => hx y (by simp [hy])) (by omega)
    rw [hj]
    simp only [allF, if_neg hne, hnx, List.drop_left, ih]
    rw [if_neg (by simp)]
    simp
theorem join_all (its : List (UInt8 × List UInt8)) (h : ∀ x ∈ its, x.2.length ≤ 1048571) : allS (joinS its) = (its, (joinS its).length, 0) := back_all its _ h (Nat.le_refl _)
theorem join_cut (its : List (UInt8 × List UInt8)) (h : ∀ x ∈ its, x.2.length ≤ 1048571) (c : Nat) (hc : c ≤ (joinS its).length) :
    (∃ m, m ≤ its.length ∧ (allS ((joinS its).take c)).1 = its.take m) ∧ (allS ((joinS its).take c)).2.1 ≤ c ∧
    ((allS ((joinS its).take c)).2.2 = 0 ↔ (allS ((joinS its).take c)).2.1 = c) ∧ ((allS ((joinS its).take c)).2.2 = 0 ∨ (allS ((joinS its).take c)).2.2 = 12) :=
  back_cut its _ c h hc (by simp; omega)
theorem join_snoc (its : List (UInt8 × List UInt8)) (x : UInt8 × List UInt8) : joinS (its ++ [x]) = joinS its ++ frame x.1 x.2 := by
  induction its with
  | nil => simp [joinS]
  | cons y r ih => simp [joinS, ih]
end Go.Proofs.YtpdbbiokndhghaaDoor.Frm
