/-
  PLAIN LAWS OF FRAMES, the fourth part: all frames of bytes (allS), step by step. No condition.
-/
import Derived.Test.YtpdbbiokndhghaaDoorFrmP
namespace Go.Proofs.YtpdbbiokndhghaaDoor.Frm
open Go.Proofs.YtpdbbiokndhghaaDoor

def allF : Nat → List UInt8 → List (UInt8 × List UInt8) × Nat × Nat
  | 0, _ => ([], 0, 0)
  | f + 1, l => if l = [] then ([], 0, 0) else if (nextS l).2.2.2 ≠ 0 then ([], 0, (nextS l).2.2.2)
      else (((nextS l).1, (nextS l).2.1) :: (allF f (l.drop (nextS l).2.2.1)).1, (nextS l).2.2.1 + (allF f (l.drop (nextS l).2.2.1)).2.1, (allF f (l.drop (nextS l).2.2.1)).2.2)
def allS (l : List UInt8) : List (UInt8 × List UInt8) × Nat × Nat := allF l.length l

theorem allF_nil (f : Nat) : allF f [] = ([], 0, 0) := by cases f <;> simp [allF]

theorem next_ok (l : List UInt8) (h : (nextS l).2.2.2 = 0) : 0 < (nextS l).2.2.1 ∧ (nextS l).2.2.1 ≤ l.length ∧ (nextS l).2.1.length + 6 ≤ (nextS l).2.2.1 := by
  unfold nextS at h ⊢
  by_cases h1 : (sizeS l).2.2 ≠ 0
  · rw [if_pos h1] at h; exact absurd h h1
  · rw [if_neg h1] at h ⊢
    obtain ⟨a, b, c, d, e, f⟩ := sizeS_ok (l := l) (by omega)
    by_cases h2 : l.length - (sizeS l).2.1 < (sizeS l).1
    · rw [if_pos h2] at h; simp at h
    · rw [if_neg h2] at h ⊢
      unfold bodyS at h ⊢
      split at h
      · rename_i hs
        rw [if_pos hs]
        simp only [List.length_drop, List.length_take]
        omega
      · simp at h

/-- after p bytes: what was read, and that the rest's answer makes the whole one's -/
def At (l : List UInt8) (p : Nat) (acc : List (UInt8 × List UInt8)) : Prop :=
  ∃ f, l.length - p ≤ f ∧ p ≤ l.length ∧ acc.length ≤ p ∧ allS l = (acc ++ (allF f (l.drop p)).1, p + (allF f (l.drop p)).2.1, (allF f (l.drop p)).2.2)

theorem at_start (l : List UInt8) : At l 0 [] := ⟨l.length, by omega, by omega, by simp, by simp [allS]⟩
theorem at_end {l : List UInt8} {p : Nat} {acc : List (UInt8 × List UInt8)} (h : At l p acc) (hp : l.length ≤ p) : allS l = (acc, p, 0) := by
  obtain ⟨f, _, h2, _, h3⟩ := h
  rw [h3, List.drop_eq_nil_of_le hp, allF_nil]
  simp
theorem at_err {l : List UInt8} {p : Nat} {acc : List (UInt8 × List UInt8)} (h : At l p acc) (hp : p < l.length) (he : (nextS (l.drop p)).2.2.2 ≠ 0) : allS l = (acc, p, (nextS (l.drop p)).2.2.2) := by
  obtain ⟨f, h1, h2, _, h3⟩ := h
  obtain ⟨g, rfl⟩ : ∃ g, f = g + 1 := ⟨f - 1, by omega⟩
  have hne : l.drop p ≠ [] := fun e => by have := congrArg List.length e; simp at this; omega
  rw [h3]
  simp only [allF, if_neg hne, if_pos he, List.append_nil, Nat.add_zero]
theorem at_step {l : List UInt8} {p : Nat} {acc : List (UInt8 × List UInt8)} (h : At l p acc) (hp : p < l.length) (he : (nextS (l.drop p)).2.2.2 = 0) :
    At l (p + (nextS (l.drop p)).2.2.1) (acc ++ [((nextS (l.drop p)).1, (nextS (l.drop p)).2.1)]) := by
  obtain ⟨f, h1, h2, h4, h3⟩ := h
  obtain ⟨g, rfl⟩ : ∃ g, f = g + 1 := ⟨f - 1, by omega⟩
  have hne : l.drop p ≠ [] := fun e => by have := congrArg List.length e; simp at this; omega
  have hok := next_ok _ he
  rw [List.length_drop] at hok
  refine ⟨g, by omega, by omega, by simp; omega, ?_⟩
  rw [h3]
  have hE : ¬ (nextS (l.drop p)).2.2.2 ≠ 0 := by simpa using he
  simp only [allF, if_neg hne, if_neg hE]
  rw [List.drop_drop]
  simp [Nat.add_assoc]
theorem at_le {l : List UInt8} {p : Nat} {acc : List (UInt8 × List UInt8)} (h : At l p acc) : p ≤ l.length ∧ acc.length ≤ p := by
  obtain ⟨f, h1, h2, h4, h3⟩ := h
  exact ⟨h2, h4⟩
end Go.Proofs.YtpdbbiokndhghaaDoor.Frm
