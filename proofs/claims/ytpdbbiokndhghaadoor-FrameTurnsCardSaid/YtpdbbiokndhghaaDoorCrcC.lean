/-
  PLAIN: up to three turned bits anywhere in bytes that stand behind their sum (the sum's own bytes among them) are told: the bytes no longer stand behind their sum, but where the turned bits come to nothing. The list is at most 256 bytes.
-/
import Derived.Test.YtpdbbiokndhghaaDoorCrcB
import Derived.Test.YtpdbbiokndhghaaDoorConB
namespace Go.Proofs.YtpdbbiokndhghaaDoor.Crc

theorem xadd (x y k : Nat) (h : y < 2 ^ k) : x * 2 ^ k ^^^ y = x * 2 ^ k + y := by
  rw [Nat.mul_comm, Nat.two_pow_add_eq_or_of_lt h]
  apply Nat.eq_of_testBit_eq
  intro i
  rw [Nat.testBit_xor, Nat.testBit_or, Nat.testBit_two_pow_mul]
  by_cases hi : k ≤ i
  · have : y.testBit i = false := Nat.testBit_lt_two_pow (Nat.lt_of_lt_of_le h (Nat.pow_le_pow_right (by omega) hi))
    simp [this]
  · simp [hi]
theorem xmul (x y k : Nat) : (x ^^^ y) * 2 ^ k = x * 2 ^ k ^^^ y * 2 ^ k := by
  rw [← Nat.shiftLeft_eq, ← Nat.shiftLeft_eq, ← Nat.shiftLeft_eq, Nat.shiftLeft_xor_distrib]

def val (a b c d : UInt8) : Nat := a.toNat * 2 ^ 24 ^^^ (b.toNat * 2 ^ 16 ^^^ (c.toNat * 2 ^ 8 ^^^ d.toNat))
theorem val_add (a b c d : UInt8) : val a b c d = a.toNat * 2 ^ 24 + (b.toNat * 2 ^ 16 + (c.toNat * 2 ^ 8 + d.toNat)) := by
  have ha := toNat_lt a
  have hb := toNat_lt b
  have hc := toNat_lt c
  have hd := toNat_lt d
  unfold val
  rw [xadd c.toNat d.toNat 8 (by omega), xadd b.toNat _ 16 (by omega), xadd a.toNat _ 24 (by omega)]
theorem val_lt (a b c d : UInt8) : val a b c d < 4294967296 := by
  have ha := toNat_lt a
  have hb := toNat_lt b
  have hc := toNat_lt c
  have hd := toNat_lt d
  rw [val_add]; omega
theorem be4_val (a b c d : UInt8) (s : Nat) (hs : s < 4294967296) : be4 s = [a, b, c, d] ↔ val a b c d = s := by
  have ha := toNat_lt a
  have hb := toNat_lt b
  have hc := toNat_lt c
  have hd := toNat_lt d
  rw [val_add]
  unfold be4
  simp only [List.cons.injEq, and_true, ← UInt8.toNat_inj, UInt8.toNat_ofNat']
  constructor
  · rintro ⟨h1, h2, h3, h4⟩; omega
  · intro h; refine ⟨?_, ?_, ?_, ?_⟩ <;> omega

/-- what is wrong with the sum in front: 0 where it is right -/
def res : List UInt8 → Nat
  | a :: b :: c :: d :: r => shn 32 (val a b c d ^^^ sumOf r)
  | _ => 0

theorem res_iff (l : List UInt8) (h : 4 ≤ l.length) : sealed (l.drop 4) = l ↔ res l = 0 := by
  match l, h with
  | a :: b :: c :: d :: r, _ =>
    show be4 (sumOf r) ++ r = [a, b, c, d] ++ r ↔ _
    rw [List.append_left_inj, be4_val a b c d _ (sumOf_lt r)]
    show _ ↔ shn 32 (val a b c d ^^^ sumOf r) = 0
    constructor
    · intro e; rw [e, Nat.xor_self, shn_zero]
    · intro e
      exact cancel (shn_eq_zero 32 (Nat.xor_lt_two_pow (n := 32) (val_lt a b c d) (sumOf_lt r)) e)

/-- the exponent of a turned bit -/
def ex (N n : Nat) : Nat := if n < 32 then 32 - (8 * (3 - n / 8) + n % 8) else 8 * (N - 4) - (n - 32) + 32
def wn (N n : Nat) : Nat := if n < 8 * N then shn (ex N n) 1 else 0

theorem ex_inj (N a b : Nat) (ha : a < 8 * N) (hb : b < 8 * N) (e : ex N a = ex N b) : a = b := by
  unfold ex at e
  split at e <;> split at e <;> omega
theorem ex_bound (N a : Nat) (hN : N ≤ 250) (h4 : 4 ≤ N) (_ : a < 8 * N) : 1 ≤ ex N a ∧ ex N a ≤ 2048 := by
  unfold ex
  split <;> omega

theorem shn_top (p : Nat) (hp : p ≤ 32) : shn 32 (2 ^ p) = shn (32 - p) 1 := by
  have e : 32 = (32 - p) + p := by omega
  rw [e, shn_add]
  have := shn_pow p 1
  rw [Nat.one_mul] at this
  rw [this, Nat.add_sub_cancel]
theorem mask_mul (a : UInt8) (k m : Nat) (hk : k < 8) : (a ^^^ mask k).toNat * 2 ^ m = a.toNat * 2 ^ m ^^^ 2 ^ (k + m) := by
  rw [UInt8.toNat_xor, mask_toNat k hk, xmul, Nat.pow_add]

theorem sum_flip (l : List UInt8) (n : Nat) : sumOf (flip l n) = sumOf l ^^^ wt l.length n := by
  unfold sumOf
  rw [run_flip, Nat.xor_assoc, Nat.xor_comm (wt _ _), ← Nat.xor_assoc]

theorem res_cons (a b c d : UInt8) (r : List UInt8) : res (a :: b :: c :: d :: r) = shn 32 (val a b c d ^^^ sumOf r) := by rw [res]
theorem xa (A B C D M : Nat) : (A ^^^ M) ^^^ (B ^^^ (C ^^^ D)) = (A ^^^ (B ^^^ (C ^^^ D))) ^^^ M := by ac_rfl
theorem xb (A B C D M : Nat) : A ^^^ ((B ^^^ M) ^^^ (C ^^^ D)) = (A ^^^ (B ^^^ (C ^^^ D))) ^^^ M := by ac_rfl
theorem xc (A B C D M : Nat) : A ^^^ (B ^^^ ((C ^^^ M) ^^^ D)) = (A ^^^ (B ^^^ (C ^^^ D))) ^^^ M := by ac_rfl
theorem xd (A B C D M : Nat) : A ^^^ (B ^^^ (C ^^^ (D ^^^ M))) = (A ^^^ (B ^^^ (C ^^^ D))) ^^^ M := by ac_rfl
theorem val_a (a b c d : UInt8) (k : Nat) (hk : k < 8) : val (a ^^^ mask k) b c d = val a b c d ^^^ 2 ^ (k + 24) := by
  unfold val; rw [mask_mul a k 24 hk]; exact xa _ _ _ _ _
theorem val_b (a b c d : UInt8) (k : Nat) (hk : k < 8) : val a (b ^^^ mask k) c d = val a b c d ^^^ 2 ^ (k + 16) := by
  unfold val; rw [mask_mul b k 16 hk]; exact xb _ _ _ _ _
theorem val_c (a b c d : UInt8) (k : Nat) (hk : k < 8) : val a b (c ^^^ mask k) d = val a b c d ^^^ 2 ^ (k + 8) := by
  unfold val; rw [mask_mul c k 8 hk]; exact xc _ _ _ _ _
theorem val_d (a b c d : UInt8) (k : Nat) (hk : k < 8) : val a b c (d ^^^ mask k) = val a b c d ^^^ 2 ^ k := by
  unfold val; rw [UInt8.toNat_xor, mask_toNat k hk]; exact xd _ _ _ _ _
theorem res_step (v v' s p : Nat) (hv : v' = v ^^^ 2 ^ p) (hp : p ≤ 32) (e : Nat) (he : e = 32 - p) : shn 32 (v' ^^^ s) = shn 32 (v ^^^ s) ^^^ shn e 1 := by
  subst hv he
  rw [← shn_top p hp, ← shn_xor]
  refine congrArg (shn 32) ?_
  rw [Nat.xor_assoc, Nat.xor_comm (2 ^ p), ← Nat.xor_assoc]

theorem res_flip (l : List UInt8) (n : Nat) (h : 4 ≤ l.length) : res (flip l n) = res l ^^^ wn l.length n := by
  match l, h with
  | a :: b :: c :: d :: r, h =>
    by_cases h32 : n < 32
    · have hn : n < 8 * (a :: b :: c :: d :: r).length := by omega
      have hm : n % 8 < 8 := by omega
      have hlt : n / 8 < (a :: b :: c :: d :: r).length := by omega
      obtain ⟨k, hk⟩ : ∃ k, n % 8 = k := ⟨_, rfl⟩
      have hw : wn (a :: b :: c :: d :: r).length n = shn (32 - (8 * (3 - n / 8) + n % 8)) 1 := by
        unfold wn ex
        rw [if_pos hn, if_pos h32]
      rw [hw, hk]
      rw [hk] at hm
      have hf : flip (a :: b :: c :: d :: r) n = (a :: b :: c :: d :: r).set (n / 8) ((a :: b :: c :: d :: r)[n / 8] ^^^ mask k) := by
        unfold flip
        rw [dif_pos hlt, hk]
      have hc : n / 8 = 0 ∨ n / 8 = 1 ∨ n / 8 = 2 ∨ n / 8 = 3 := by omega
      rcases hc with hc | hc | hc | hc
      · have e : flip (a :: b :: c :: d :: r) n = (a ^^^ mask k) :: b :: c :: d :: r := by rw [hf]; simp only [hc, List.set_cons_zero, List.getElem_cons_zero]
        rw [e, res_cons, res_cons]
        exact res_step _ _ _ _ (val_a a b c d k hm) (by omega) _ (by omega)
      · have e : flip (a :: b :: c :: d :: r) n = a :: (b ^^^ mask k) :: c :: d :: r := by rw [hf]; simp only [hc, List.set_cons_succ, List.set_cons_zero, List.getElem_cons_zero, List.getElem_cons_succ]
        rw [e, res_cons, res_cons]
        exact res_step _ _ _ _ (val_b a b c d k hm) (by omega) _ (by omega)
      · have e : flip (a :: b :: c :: d :: r) n = a :: b :: (c ^^^ mask k) :: d :: r := by rw [hf]; simp only [hc, List.set_cons_succ, List.set_cons_zero, List.getElem_cons_zero, List.getElem_cons_succ]
        rw [e, res_cons, res_cons]
        exact res_step _ _ _ _ (val_c a b c d k hm) (by omega) _ (by omega)
      · have e : flip (a :: b :: c :: d :: r) n = a :: b :: c :: (d ^^^ mask k) :: r := by rw [hf]; simp only [hc, List.set_cons_succ, List.set_cons_zero, List.getElem_cons_zero, List.getElem_cons_succ]
        rw [e, res_cons, res_cons]
        exact res_step _ _ _ _ (val_d a b c d k hm) (by omega) _ (by omega)
    · have e : flip (a :: b :: c :: d :: r) n = a :: b :: c :: d :: flip r (n - 32) := by
        have h1 : (n - 32) % 8 = n % 8 := by omega
        obtain ⟨q, hq⟩ : ∃ q, n / 8 = q + 4 := ⟨n / 8 - 4, by omega⟩
        have h2 : (n - 32) / 8 = q := by omega
        unfold flip
        rw [h1, h2]
        by_cases hr : q < r.length
        · rw [dif_pos hr, dif_pos (by simp only [List.length_cons]; omega)]
          simp only [hq, List.set_cons_succ, List.getElem_cons_succ]
        · rw [dif_neg hr, dif_neg (by simp only [List.length_cons]; omega)]
      rw [e, res_cons, res_cons, sum_flip, ← Nat.xor_assoc, shn_xor]
      refine congrArg (fun z => shn 32 (val a b c d ^^^ sumOf r) ^^^ z) ?_
      unfold wt wn ex
      simp only [List.length_cons]
      by_cases hr : n - 32 < 8 * r.length
      · rw [if_pos hr, if_pos (by omega), if_neg h32, ← shn_add]
        exact congrArg (fun k => shn k 1) (by omega)
      · rw [if_neg hr, if_neg (by omega), shn_zero]

theorem weightsN (N a b c : Nat) (hl : N ≤ 250) (h4 : 4 ≤ N) (e : wn N a ^^^ wn N b ^^^ wn N c = 0) :
    (8 * N ≤ a ∧ 8 * N ≤ b ∧ 8 * N ≤ c) ∨ (a = b ∧ 8 * N ≤ c) ∨ (a = c ∧ 8 * N ≤ b) ∨ (b = c ∧ 8 * N ≤ a) := by
  have B := fun a => ex_bound N a hl h4
  unfold wn at e
  by_cases ha : a < 8 * N <;> by_cases hb : b < 8 * N <;> by_cases hc : c < 8 * N <;> simp only [ha, hb, hc, if_true, if_false, Nat.xor_zero, Nat.zero_xor] at e
  · exact absurd e (three_ne _ _ _ (B a ha).1 (B a ha).2 (B b hb).1 (B b hb).2 (B c hc).1 (B c hc).2)
  · have := ex_inj N a b ha hb (pair_ne _ _ (B a ha).1 (B a ha).2 (B b hb).1 (B b hb).2 e); omega
  · have := ex_inj N a c ha hc (pair_ne _ _ (B a ha).1 (B a ha).2 (B c hc).1 (B c hc).2 e); omega
  · exact absurd e (one_ne _)
  · have := ex_inj N b c hb hc (pair_ne _ _ (B b hb).1 (B b hb).2 (B c hc).1 (B c hc).2 e); omega
  · exact absurd e (one_ne _)
  · exact absurd e (one_ne _)
  · omega

/-- THE THEOREM OF FEW BITS, the sum's own bytes among them -/
theorem few_sealed (l : List UInt8) (a b c : Nat) (hl : l.length ≤ 250) (h4 : 4 ≤ l.length) (hs : sealed (l.drop 4) = l) :
    sealed ((flip (flip (flip l a) b) c).drop 4) = flip (flip (flip l a) b) c ↔ flip (flip (flip l a) b) c = l := by
  constructor
  · intro e
    have h0 := (res_iff l h4).1 hs
    have len1 := flip_length l a
    have len2 := flip_length (flip l a) b
    have len3 := flip_length (flip (flip l a) b) c
    have e1 := (res_iff _ (by omega)).1 e
    rw [res_flip _ _ (by omega), res_flip _ _ (by omega), res_flip _ _ h4, len2, len1, h0, Nat.zero_xor] at e1
    rcases weightsN _ _ _ _ hl h4 e1 with ⟨h1, h2, h3⟩ | ⟨h1, h3⟩ | ⟨h1, h3⟩ | ⟨h1, h3⟩
    · rw [flip_none l a h1, flip_none l b h2, flip_none l c h3]
    · subst h1
      rw [flip_flip, flip_none l c h3]
    · subst h1
      rw [flip_none (flip l a) b (by rw [len1]; exact h3), flip_flip]
    · subst h1
      rw [flip_none l a h3, flip_flip]
  · intro e; rw [e]; exact hs
end Go.Proofs.YtpdbbiokndhghaaDoor.Crc
