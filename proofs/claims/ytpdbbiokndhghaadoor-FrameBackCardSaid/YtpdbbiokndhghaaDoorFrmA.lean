/-
  PLAIN LAWS OF FRAMES, no Go in them: a number's bytes (uv), what a list of bytes begins with (sizeS, nextS), the reference's way to it (valueS), and that both ways meet. No condition.
-/
import Derived.Test.YtpdbbiokndhghaaDoorCrcB
namespace Go.Proofs.YtpdbbiokndhghaaDoor.Frm

/-- a number's bytes, the lowest seven bits first -/
def uv (n : Nat) : List UInt8 := if n < 128 then [UInt8.ofNat n] else UInt8.ofNat (n % 128 + 128) :: uv (n / 128)
termination_by n
decreasing_by omega

theorem uv_small (n : Nat) (h : n < 128) : uv n = [UInt8.ofNat n] := by rw [uv, if_pos h]
theorem uv_big (n : Nat) (h : 128 ≤ n) : uv n = UInt8.ofNat (n % 128 + 128) :: uv (n / 128) := by rw [uv, if_neg (by omega)]

/-- the number that seven bits a byte make -/
def low : List UInt8 → Nat
  | [] => 0
  | c :: r => c.toNat % 128 + 128 * low r

theorem toNat_ofNat_lt (n : Nat) (h : n < 256) : (UInt8.ofNat n).toNat = n := by
  rw [UInt8.toNat_ofNat']; exact Nat.mod_eq_of_lt h
theorem toNat_lt (c : UInt8) : c.toNat < 256 := c.toNat_lt

/-- a number's own form: high bytes, then one that is low and, behind another, not nought -/
def Form : List UInt8 → Prop
  | [] => False
  | [c] => c.toNat < 128
  | c :: d :: r => 128 ≤ c.toNat ∧ Form (d :: r) ∧ (r = [] → d.toNat ≠ 0)

theorem uv_ne (n : Nat) : uv n ≠ [] := by
  rcases Nat.lt_or_ge n 128 with h | h
  · rw [uv_small n h]; simp
  · rw [uv_big n h]; simp

theorem uv_form (n : Nat) : Form (uv n) := by
  induction n using Nat.strongRecOn with
  | _ n ih =>
    rcases Nat.lt_or_ge n 128 with h | h
    · rw [uv_small n h]
      show (UInt8.ofNat n).toNat < 128
      rw [toNat_ofNat_lt n (by omega)]; exact h
    · rw [uv_big n h]
      have h2 := ih (n / 128) (by omega)
      cases hu : uv (n / 128) with
      | nil => exact absurd hu (uv_ne _)
      | cons d r =>
        rw [hu] at h2
        refine ⟨by rw [toNat_ofNat_lt _ (by omega)]; omega, h2, fun hr => ?_⟩
        subst hr
        rcases Nat.lt_or_ge (n / 128) 128 with h3 | h3
        · rw [uv_small _ h3] at hu
          injection hu with hu _
          rw [← hu, toNat_ofNat_lt _ (by omega)]
          omega
        · rw [uv_big _ h3] at hu
          injection hu with _ hu
          exact absurd hu (uv_ne _)

theorem uv_low (n : Nat) : low (uv n) = n := by
  induction n using Nat.strongRecOn with
  | _ n ih =>
    rcases Nat.lt_or_ge n 128 with h | h
    · rw [uv_small n h]
      simp only [low]
      rw [toNat_ofNat_lt n (by omega)]; omega
    · rw [uv_big n h]
      simp only [low]
      rw [ih (n / 128) (by omega), toNat_ofNat_lt _ (by omega)]
      omega

theorem low_pos : ∀ (l : List UInt8), Form l → 2 ≤ l.length → 0 < low l
  | [], h, _ => h.elim
  | [_], _, h => by simp at h
  | [c, d], h, _ => by
    have h2 : d.toNat < 128 := h.2.1
    have h3 := h.2.2 rfl
    simp only [low]; omega
  | c :: d :: e :: r, h, _ => by
    have := low_pos (d :: e :: r) h.2.1 (by simp)
    show 0 < c.toNat % 128 + 128 * low (d :: e :: r)
    omega

/-- bytes in a number's own form are that number's -/
theorem low_uv : ∀ (l : List UInt8), Form l → uv (low l) = l
  | [], h => h.elim
  | [c], h => by
    have hc : c.toNat < 128 := h
    have e : low [c] = c.toNat := by simp only [low]; omega
    rw [e, uv_small _ hc]
    simp
  | c :: d :: r, h => by
    have ih := low_uv (d :: r) h.2.1
    have hp : 0 < low (d :: r) := by
      cases r with
      | nil =>
        have h2 : d.toNat < 128 := h.2.1
        have h3 := h.2.2 rfl
        simp only [low]; omega
      | cons e r => exact low_pos _ h.2.1 (by simp)
    have hc := h.1
    have hlt := toNat_lt c
    have e : low (c :: d :: r) = c.toNat % 128 + 128 * low (d :: r) := rfl
    rw [e, uv_big _ (by omega)]
    have e1 : (c.toNat % 128 + 128 * low (d :: r)) % 128 + 128 = c.toNat := by omega
    have e2 : (c.toNat % 128 + 128 * low (d :: r)) / 128 = low (d :: r) := by omega
    rw [e1, e2, ih]
    simp

theorem low_lt : ∀ (l : List UInt8), low l < 128 ^ l.length
  | [] => by simp [low]
  | c :: r => by
    have := low_lt r
    simp only [low, List.length_cons, Nat.pow_succ]
    omega
theorem low_ge : ∀ (l : List UInt8), Form l → 2 ≤ l.length → 128 ^ (l.length - 1) ≤ low l
  | [], h, _ => h.elim
  | [_], _, h => by simp at h
  | [c, d], h, _ => by
    have h2 : d.toNat < 128 := h.2.1
    have h3 := h.2.2 rfl
    simp only [low, List.length_cons, List.length_nil]; omega
  | c :: d :: e :: r, h, _ => by
    have := low_ge (d :: e :: r) h.2.1 (by simp)
    show 128 ^ (r.length + 1 + 1 + 1 - 1) ≤ c.toNat % 128 + 128 * low (d :: e :: r)
    have e1 : (d :: e :: r).length - 1 = r.length + 1 := by simp
    rw [e1] at this
    have e2 : r.length + 1 + 1 + 1 - 1 = (r.length + 1) + 1 := by omega
    rw [e2, Nat.pow_succ]
    omega
theorem low_append (l r : List UInt8) : low (l ++ r) = low l + 128 ^ l.length * low r := by
  induction l with
  | nil => simp [low]
  | cons c l ih =>
    simp only [List.cons_append, low, List.length_cons, ih, Nat.pow_succ, Nat.mul_add, ← Nat.mul_assoc, Nat.mul_comm (128 ^ l.length) 128]
    omega

/-- where the first low byte stands -/
def fst (l : List UInt8) : Nat := l.findIdx fun c => decide (c.toNat < 128)

theorem form_fst : ∀ (l : List UInt8), Form l → fst l + 1 = l.length
  | [], h => h.elim
  | [c], h => by
    have hc : c.toNat < 128 := h
    simp [fst, List.findIdx_cons, hc]
  | c :: d :: r, h => by
    have ih := form_fst (d :: r) h.2.1
    have hc : ¬ c.toNat < 128 := by have := h.1; omega
    unfold fst at ih ⊢
    rw [List.findIdx_cons]
    simp only [hc, decide_false, cond_false, List.length_cons] at ih ⊢
    omega

/-- of the bytes up to the first low one: their form -/
theorem fst_form : ∀ (l : List UInt8) (k : Nat) (hk : k < l.length), fst l = k → (k = 0 ∨ l[k].toNat ≠ 0) → Form (l.take (k + 1))
  | [], k, hk, _, _ => by simp at hk
  | c :: r, k, hk, hf, hz => by
    unfold fst at hf
    rw [List.findIdx_cons] at hf
    by_cases hc : c.toNat < 128
    · simp only [hc, decide_true, cond_true] at hf
      subst hf
      exact hc
    · simp only [hc, decide_false, cond_false] at hf
      subst hf
      have hk' : fst r < r.length := by simpa [fst] using hk
      have hz' : r[fst r].toNat ≠ 0 := by
        rcases hz with h | h
        · omega
        · simpa [fst] using h
      have ih := fst_form r (fst r) hk' rfl (.inr hz')
      cases r with
      | nil => simp at hk'
      | cons d q =>
        have e : List.findIdx (fun c => decide (c.toNat < 128)) (d :: q) = fst (d :: q) := rfl
        rw [e]
        show Form (c :: (d :: q).take (fst (d :: q) + 1))
        rw [List.take_succ_cons] at ih ⊢
        refine ⟨by omega, ih, fun hq => ?_⟩
        have h0 : fst (d :: q) = 0 ∨ q = [] := by
          cases q with
          | nil => exact .inr rfl
          | cons e q => exact .inl (by simpa [List.take_eq_nil_iff] using hq)
        rcases h0 with h0 | h0
        · simp only [h0] at hz'
          simpa using hz'
        · subst h0
          have : fst [d] < 1 := by simpa using hk'
          have h00 : fst [d] = 0 := by omega
          simp only [h00] at hz'
          simpa using hz'

theorem fst_take (l : List UInt8) (n : Nat) (h : fst l < n) : fst (l.take n) = fst l := by
  induction l generalizing n with
  | nil => simp [fst]
  | cons c r ih =>
    cases n with
    | zero => omega
    | succ n =>
      unfold fst at h ih ⊢
      rw [List.take_succ_cons, List.findIdx_cons, List.findIdx_cons] at *
      by_cases hc : c.toNat < 128
      · simp [hc]
      · simp only [hc, decide_false, cond_false] at h ⊢
        rw [ih n (by omega)]
theorem fst_of_take (l : List UInt8) (n : Nat) (h : fst (l.take n) < (l.take n).length) : fst l = fst (l.take n) := by
  induction l generalizing n with
  | nil => simp
  | cons c r ih =>
    cases n with
    | zero => simp at h
    | succ n =>
      unfold fst at h ih ⊢
      rw [List.take_succ_cons] at h ⊢
      rw [List.findIdx_cons] at h ⊢
      rw [List.findIdx_cons]
      by_cases hc : c.toNat < 128
      · simp [hc]
      · simp only [hc, decide_false, cond_false, List.length_cons] at h ⊢
        rw [ih n (by omega)]

/-- only the bytes up to the first low one can be a number's -/
theorem only (l : List UInt8) (n v : Nat) (h : uv v = l.take n) (hn : n ≤ l.length) : n = fst l + 1 ∧ (fst l = 0 ∨ ∀ h : fst l < l.length, l[fst l].toNat ≠ 0) := by
  have hf := uv_form v
  rw [h] at hf
  have h1 := form_fst _ hf
  have h2 := fst_of_take l n (by omega)
  have hlen : (l.take n).length = n := by simp; omega
  refine ⟨by omega, ?_⟩
  rcases Nat.eq_zero_or_pos (fst l) with h0 | h0
  · exact .inl h0
  · refine .inr fun hlt hz => ?_
    have hp := low_pos _ hf (by omega)
    have hge := low_ge _ hf (by omega)
    -- the last byte is nought: the number is too small
    have hs : l.take n = l.take (fst l) ++ [l[fst l]] := by
      have : n = fst l + 1 := by omega
      rw [this, List.take_succ_eq_append_getElem hlt]
    rw [hs, low_append] at hge
    have hl := low_lt (l.take (fst l))
    have hl2 : (l.take (fst l)).length = fst l := by simp; omega
    rw [hl2] at hl hge
    have e0 : low [l[fst l]] = 0 := by simp only [low]; omega
    rw [e0] at hge
    simp only [List.length_append, hl2, List.length_cons, List.length_nil] at hge
    have e1 : fst l + (0 + 1) - 1 = fst l := by omega
    rw [e1] at hge
    omega
end Go.Proofs.YtpdbbiokndhghaaDoor.Frm
