/-
  PLAIN LAWS OF FRAMES, the second part: what bytes begin with (sizeS, nextS); the reference's loop over the beginnings (valueS) comes to the same. No condition.
-/
import Derived.Test.YtpdbbiokndhghaaDoorFrmA
import Derived.Test.YtpdbbiokndhghaaDoorConB
namespace Go.Proofs.YtpdbbiokndhghaaDoor.Frm

/-- how many bytes a body has, how many bytes say so, and the error -/
def sizeS (l : List UInt8) : Nat × Nat × Nat :=
  if l.length ≤ fst l then (if l.length < 3 then (0, 0, 12) else (0, 0, 5))
  else if 3 ≤ fst l then (0, 0, 5)
  else if 0 < fst l ∧ (l.getD (fst l) 0).toNat = 0 then (0, 0, 5)
  else if low (l.take (fst l + 1)) < 5 ∨ 1048576 < low (l.take (fst l + 1)) then (0, 0, 5)
  else (low (l.take (fst l + 1)), fst l + 1, 0)

/-- a body's frame: kind, bytes, how many bytes in all, the error -/
def bodyS (f : List UInt8) (n : Nat) : UInt8 × List UInt8 × Nat × Nat :=
  if sealed (f.drop 4) = f then (f.getD 4 0, f.drop 5, n, 0) else (0, [], 0, 5)

def nextS (l : List UInt8) : UInt8 × List UInt8 × Nat × Nat :=
  if (sizeS l).2.2 ≠ 0 then (0, [], 0, (sizeS l).2.2)
  else if l.length - (sizeS l).2.1 < (sizeS l).1 then (0, [], 0, 12)
  else bodyS ((l.drop (sizeS l).2.1).take (sizeS l).1) ((sizeS l).2.1 + (sizeS l).1)

theorem sizeS_ok {l : List UInt8} (h : (sizeS l).2.2 = 0) : fst l < l.length ∧ fst l < 3 ∧ (sizeS l).2.1 = fst l + 1 ∧ (sizeS l).1 = low (l.take (fst l + 1)) ∧ 5 ≤ (sizeS l).1 ∧ (sizeS l).1 ≤ 1048576 := by
  unfold sizeS at h ⊢
  split at h
  · split at h <;> simp at h
  · split at h
    · simp at h
    · split at h
      · simp at h
      · split at h
        · simp at h
        · rename_i h1 h2 h3 h4
          rw [if_neg h1, if_neg h2, if_neg h3, if_neg h4]
          refine ⟨by omega, by omega, rfl, rfl, ?_, ?_⟩ <;> simp only [not_or] at h4 <;> omega

/-! the reference's reading -/
def readF : Nat → Nat → Nat → List UInt8 → Nat
  | 0, _, _, _ => 0
  | _ + 1, _, _, [] => 0
  | f + 1, i, acc, c :: r =>
    if i = 9 ∧ 1 < c.toNat % 128 then 0
    else if c.toNat < 128 then (if c.toNat = 0 ∧ 0 < i then 0 else acc + c.toNat % 128 * 128 ^ i)
    else readF f (i + 1) (acc + c.toNat % 128 * 128 ^ i) r
def readS (l : List UInt8) : Nat := readF 10 0 0 l

theorem readF_form : ∀ (l : List UInt8) (f i acc : Nat), Form l → l.length ≤ f → (0 < i → l.length = 1 → ∀ c ∈ l, c.toNat ≠ 0) → f + i = 10 → (l.length = f → ∀ h : f - 1 < l.length, l[f - 1].toNat ≤ 1) →
    readF f i acc l = acc + 128 ^ i * low l
  | [], _, _, _, h, _, _, _, _ => h.elim
  | [c], f, i, acc, h, hl, hz, hf, h9 => by
    obtain ⟨f, rfl⟩ : ∃ g, f = g + 1 := ⟨f - 1, by simp at hl; omega⟩
    have hc : c.toNat < 128 := h
    have h1 : ¬ (i = 9 ∧ 1 < c.toNat % 128) := by
      rintro ⟨h1, h2⟩
      have := h9 (by simp; omega) (by simp; omega)
      have e : f = 0 := by omega
      subst e
      simp at this
      omega
    have h2 : ¬ (c.toNat = 0 ∧ 0 < i) := by
      rintro ⟨h1, h2⟩
      exact hz h2 rfl c (by simp) h1
    simp only [readF]
    rw [if_neg h1, if_pos hc, if_neg h2]
    have e : low [c] = c.toNat % 128 := by simp [low]
    rw [e, Nat.mul_comm]
  | c :: d :: r, f, i, acc, h, hl, hz, hf, h9 => by
    obtain ⟨f, rfl⟩ : ∃ g, f = g + 1 := ⟨f - 1, by simp at hl; omega⟩
    have hc := h.1
    have h1 : ¬ (i = 9 ∧ 1 < c.toNat % 128) := by
      rintro ⟨h1, h2⟩
      simp at hl
      omega
    simp only [readF]
    rw [if_neg h1, if_neg (by omega)]
    rw [readF_form (d :: r) f (i + 1) _ h.2.1 (by simpa using hl) (fun _ hr c hc => by
        simp only [List.length_cons, Nat.add_eq_right] at hr
        have hr0 : r = [] := List.eq_nil_of_length_eq_zero hr
        subst hr0
        simp only [List.mem_singleton] at hc
        subst hc
        exact h.2.2 rfl) (by omega) (fun he hlt => by
        have := h9 (by simpa using he) (by simp at hlt ⊢; omega)
        have e : f + 1 - 1 = (f - 1) + 1 := by simp at he; omega
        simp only [e, List.getElem_cons_succ] at this
        exact this)]
    have e : low (c :: d :: r) = c.toNat % 128 + 128 * low (d :: r) := rfl
    rw [e, Nat.pow_succ, Nat.mul_add, Nat.mul_comm (c.toNat % 128), Nat.mul_assoc]
    omega

/-- the reference's 'value' -/
def okS (l : List UInt8) : Bool := uv (readS l) == l

theorem okS_only (l : List UInt8) (n : Nat) (hn : n ≤ l.length) (h : okS (l.take n) = true) :
    n = fst l + 1 ∧ fst l < l.length ∧ (fst l = 0 ∨ (l.getD (fst l) 0).toNat ≠ 0) ∧ readS (l.take n) = low (l.take n) := by
  have hu : uv (readS (l.take n)) = l.take n := by simpa [okS] using h
  obtain ⟨h1, h2⟩ := only l n _ hu hn
  have h3 : fst l < l.length := by omega
  refine ⟨h1, h3, ?_, ?_⟩
  · rcases h2 with h2 | h2
    · exact .inl h2
    · right
      have := h2 h3
      rwa [List.getD_eq_getElem?_getD, List.getElem?_eq_getElem h3, Option.getD_some]
  · rw [← uv_low (readS (l.take n)), hu]

/-- where a number ends right it is read -/
theorem okS_there (l : List UInt8) (hk : fst l < l.length) (hz : fst l = 0 ∨ (l.getD (fst l) 0).toNat ≠ 0) (h10 : fst l < 10) (h9 : fst l = 9 → (l.getD (fst l) 0).toNat ≤ 1) : okS (l.take (fst l + 1)) = true := by
  have hg : l.getD (fst l) 0 = l[fst l] := by rw [List.getD_eq_getElem?_getD, List.getElem?_eq_getElem hk, Option.getD_some]
  rw [hg] at hz h9
  have hf := fst_form l (fst l) hk rfl hz
  have hlen : (l.take (fst l + 1)).length = fst l + 1 := by simp; omega
  have hr : readS (l.take (fst l + 1)) = low (l.take (fst l + 1)) := by
    unfold readS
    rw [readF_form _ 10 0 0 hf (by omega) (fun h => absurd h (by omega)) (by omega) (fun he hlt => by
      have e : fst l = 9 := by omega
      simp only [List.getElem_take]
      have := h9 e
      simp only [e] at this
      exact this)]
    simp
  unfold okS
  rw [hr, low_uv _ hf]
  simp

/-- what the reference answers where a number ends right at n -/
def resS (l : List UInt8) (n v : Nat) : UInt8 × List UInt8 × Nat × Nat :=
  if v < 5 ∨ 1048576 < v then (0, [], 0, 5)
  else if l.length - n < v then (0, [], 0, 12)
  else bodyS ((l.drop n).take v) (n + v)

theorem next_res (l : List UInt8) (n : Nat) (hn : n ≤ l.length) (h : okS (l.take n) = true) : nextS l = resS l n (readS (l.take n)) := by
  obtain ⟨rfl, hk, hz, hr⟩ := okS_only l n hn h
  rw [hr]
  have hg : l.getD (fst l) 0 = l[fst l] := by rw [List.getD_eq_getElem?_getD, List.getElem?_eq_getElem hk, Option.getD_some]
  by_cases h3 : 3 ≤ fst l
  · have hs : sizeS l = (0, 0, 5) := by
      unfold sizeS
      rw [if_neg (by omega), if_pos h3]
    have hf := fst_form l (fst l) hk rfl (by rwa [hg] at hz)
    have hlen : (l.take (fst l + 1)).length = fst l + 1 := by simp; omega
    have hge := low_ge _ hf (by omega)
    have hp : 128 ^ 3 ≤ 128 ^ ((l.take (fst l + 1)).length - 1) := Nat.pow_le_pow_right (by omega) (by omega)
    have hb : 1048576 < low (l.take (fst l + 1)) := by omega
    unfold nextS resS
    rw [hs, if_pos (by simp), if_pos (.inr hb)]
  · by_cases hb : low (l.take (fst l + 1)) < 5 ∨ 1048576 < low (l.take (fst l + 1))
    · have hs : sizeS l = (0, 0, 5) := by
        unfold sizeS
        rw [if_neg (by omega), if_neg h3, if_neg (by rintro ⟨a, b⟩; rcases hz with hz | hz <;> omega), if_pos hb]
      unfold nextS resS
      rw [hs, if_pos (by simp), if_pos hb]
    · have hs : sizeS l = (low (l.take (fst l + 1)), fst l + 1, 0) := by
        unfold sizeS
        rw [if_neg (by omega), if_neg h3, if_neg (by rintro ⟨a, b⟩; rcases hz with hz | hz <;> omega), if_neg hb]
      unfold nextS resS
      rw [hs, if_neg (by simp), if_neg hb]

/-- the reference's 'open' -/
def openS (l : List UInt8) : Bool := decide (l.length ≤ 2) && l.all fun c => decide (128 ≤ c.toNat)

theorem fst_all (l : List UInt8) : l.length ≤ fst l ↔ (l.all fun c => decide (128 ≤ c.toNat)) = true := by
  induction l with
  | nil => simp [fst]
  | cons c r ih =>
    unfold fst at ih ⊢
    rw [List.findIdx_cons, List.all_cons]
    by_cases hc : c.toNat < 128
    · have : ¬ 128 ≤ c.toNat := by omega
      simp [hc, this]
    · have : 128 ≤ c.toNat := by omega
      simp only [hc, decide_false, cond_false, List.length_cons, this, decide_true, Bool.true_and]
      rw [← ih]
      omega

theorem next_end (l : List UInt8) (h : ∀ n, 1 ≤ n → n ≤ l.length → n ≤ 10 → okS (l.take n) = false) : nextS l = if openS l then (0, [], 0, 12) else (0, [], 0, 5) := by
  have hs : sizeS l = if openS l then (0, 0, 12) else (0, 0, 5) := by
    unfold sizeS openS
    by_cases hk : l.length ≤ fst l
    · rw [if_pos hk, (fst_all l).1 hk]
      by_cases h2 : l.length < 3
      · rw [if_pos h2]
        have : l.length ≤ 2 := by omega
        simp [this]
      · rw [if_neg h2]
        have : ¬ l.length ≤ 2 := by omega
        simp [this]
    · have ha : (l.all fun c => decide (128 ≤ c.toNat)) = false := by
        cases hc : l.all fun c => decide (128 ≤ c.toNat) with
        | false => rfl
        | true => exact absurd ((fst_all l).2 hc) hk
      rw [if_neg hk, ha, Bool.and_false]
      by_cases h3 : 3 ≤ fst l
      · rw [if_pos h3]; rfl
      · rw [if_neg h3]
        by_cases hz : 0 < fst l ∧ (l.getD (fst l) 0).toNat = 0
        · rw [if_pos hz]; rfl
        · exfalso
          have := okS_there l (by omega) (by omega) (by omega) (by omega)
          rw [h (fst l + 1) (by omega) (by omega) (by omega)] at this
          cases this
  unfold nextS
  rw [hs]
  cases openS l <;> simp
end Go.Proofs.YtpdbbiokndhghaaDoor.Frm
