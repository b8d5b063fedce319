/-
  PLAIN ARITHMETIC OF CRC-32, no Go in it: one bit's step (sh), its linearity and that it loses nothing below 2^32; the sum of bytes (run, sumOf);
  four bits at once by the table (nib); the reference's bit by bit; what a turned bit does to the sum; and, by a table of 2048 powers, that one, two or three
  turned bits in 256 bytes never leave the sum as it was. No condition.
-/
namespace Go.Proofs.YtpdbbiokndhghaaDoor.Crc

def poly : Nat := 3988292384

/-- one bit's step -/
def sh (x : Nat) : Nat := if x % 2 = 1 then x / 2 ^^^ poly else x / 2

def shn : Nat → Nat → Nat
  | 0, x => x
  | n + 1, x => sh (shn n x)

theorem xor_mod2 (x y : Nat) : (x ^^^ y) % 2 = (x % 2 + y % 2) % 2 := by
  have h := Nat.testBit_xor x y 0
  simp only [Nat.testBit_zero] at h
  have hx : x % 2 = 0 ∨ x % 2 = 1 := by omega
  have hy : y % 2 = 0 ∨ y % 2 = 1 := by omega
  have hz : (x ^^^ y) % 2 = 0 ∨ (x ^^^ y) % 2 = 1 := by omega
  rcases hx with hx | hx <;> rcases hy with hy | hy <;> rcases hz with hz | hz <;> simp [hx, hy, hz] at h ⊢
theorem xor_div2 (x y : Nat) : (x ^^^ y) / 2 = x / 2 ^^^ y / 2 := Nat.xor_div_two

theorem sh_xor (x y : Nat) : sh (x ^^^ y) = sh x ^^^ sh y := by
  unfold sh
  have h := xor_mod2 x y
  have hx : x % 2 = 0 ∨ x % 2 = 1 := by omega
  have hy : y % 2 = 0 ∨ y % 2 = 1 := by omega
  rw [xor_div2]
  rcases hx with hx | hx <;> rcases hy with hy | hy <;> rw [hx, hy] at h
  · rw [if_neg (by omega), if_neg (by omega), if_neg (by omega)]
  · rw [if_pos (by omega), if_neg (by omega), if_pos hy]; ac_rfl
  · rw [if_pos (by omega), if_pos hx, if_neg (by omega)]; ac_rfl
  · rw [if_neg (by omega), if_pos hx, if_pos hy]
    have : x / 2 ^^^ poly ^^^ (y / 2 ^^^ poly) = x / 2 ^^^ y / 2 ^^^ (poly ^^^ poly) := by ac_rfl
    rw [this, Nat.xor_self, Nat.xor_zero]

theorem shn_xor (n x y : Nat) : shn n (x ^^^ y) = shn n x ^^^ shn n y := by
  induction n with
  | zero => rfl
  | succ n ih => simp only [shn, ih, sh_xor]

theorem sh_zero : sh 0 = 0 := by decide
theorem shn_zero (n : Nat) : shn n 0 = 0 := by
  induction n with
  | zero => rfl
  | succ n ih => simp only [shn, ih, sh_zero]

theorem shn_add (m n x : Nat) : shn (m + n) x = shn m (shn n x) := by
  induction m with
  | zero => simp [shn]
  | succ m ih => rw [Nat.succ_add]; simp only [shn, ih]

theorem sh_lt {x : Nat} (h : x < 4294967296) : sh x < 4294967296 := by
  unfold sh
  split
  · exact Nat.xor_lt_two_pow (n := 32) (by omega) (by decide)
  · omega
theorem shn_lt (n : Nat) {x : Nat} (h : x < 4294967296) : shn n x < 4294967296 := by
  induction n with
  | zero => exact h
  | succ n ih => exact sh_lt ih

theorem sh_eq_zero {x : Nat} (h : x < 4294967296) (h0 : sh x = 0) : x = 0 := by
  unfold sh at h0
  split at h0
  · have : x / 2 = poly := by
      have e : x / 2 ^^^ poly ^^^ poly = 0 ^^^ poly := by rw [h0]
      rw [Nat.xor_assoc, Nat.xor_self, Nat.xor_zero, Nat.zero_xor] at e
      exact e
    simp only [poly] at this
    omega
  · omega
theorem shn_eq_zero (n : Nat) {x : Nat} (h : x < 4294967296) (h0 : shn n x = 0) : x = 0 := by
  induction n with
  | zero => exact h0
  | succ n ih => exact ih (sh_eq_zero (shn_lt n h) h0)

theorem sh_two (y : Nat) : sh (y * 2) = y := by
  unfold sh
  rw [if_neg (by omega)]
  omega
theorem shn_pow (k y : Nat) : shn k (y * 2 ^ k) = y := by
  induction k generalizing y with
  | zero => simp [shn]
  | succ k ih =>
    have e : y * 2 ^ (k + 1) = y * 2 * 2 ^ k := by rw [Nat.pow_succ, Nat.mul_comm (2 ^ k) 2, ← Nat.mul_assoc]
    simp only [shn, e, ih, sh_two]

/-- the table -/
def tab : List Nat := [0, 498536548, 997073096, 651767980, 1994146192, 1802195444, 1303535960, 1342533948, 3988292384, 4027552580, 3604390888, 3412177804, 2607071920, 2262029012, 2685067896, 3183342108]
def nib (l : Nat) : Nat := tab.getD l 0

theorem split16 (x : Nat) : (x / 16 * 16) ^^^ (x % 16) = x := by
  apply Nat.eq_of_testBit_eq
  intro i
  have e1 : x / 16 * 16 = x / 2 ^ 4 * 2 ^ 4 := rfl
  have e2 : x % 16 = x % 2 ^ 4 := rfl
  rw [e1, e2, Nat.testBit_xor, Nat.testBit_mul_two_pow, Nat.testBit_mod_two_pow, Nat.testBit_div_two_pow]
  by_cases h : i < 4
  · have h' : ¬ 4 ≤ i := by omega
    simp [h, h']
  · have h' : 4 ≤ i := by omega
    simp [h, h']

theorem nib_all : ∀ l, l < 16 → shn 4 l = nib l := by decide
theorem nib_lt (l : Nat) (h : l < 16) : nib l < 4294967296 := by rw [← nib_all l h]; exact shn_lt 4 (by omega)

/-- four bits at once -/
theorem four (x : Nat) : nib (x % 16) ^^^ x / 16 = shn 4 x := by
  have h : shn 4 x = shn 4 ((x / 16 * 16) ^^^ (x % 16)) := by rw [split16]
  rw [h, shn_xor, ← nib_all _ (by omega)]
  have e := shn_pow 4 (x / 16)
  simp only [Nat.reducePow] at e
  rw [e, Nat.xor_comm]

/-- a byte's step -/
def byte (x : Nat) (c : UInt8) : Nat := shn 8 (x ^^^ c.toNat)
def run (x : Nat) (l : List UInt8) : Nat := l.foldl byte x
def sumOf (l : List UInt8) : Nat := run 4294967295 l ^^^ 4294967295

theorem toNat_lt (c : UInt8) : c.toNat < 256 := c.toNat_lt
theorem byte_lt {x : Nat} (c : UInt8) (h : x < 4294967296) : byte x c < 4294967296 :=
  shn_lt 8 (Nat.xor_lt_two_pow (n := 32) h (by have := toNat_lt c; omega))
theorem run_lt {x : Nat} (l : List UInt8) (h : x < 4294967296) : run x l < 4294967296 := by
  induction l generalizing x with
  | nil => exact h
  | cons c r ih => exact ih (byte_lt c h)
theorem run_append (x : Nat) (l r : List UInt8) : run x (l ++ r) = run (run x l) r := List.foldl_append
theorem run_snoc (x : Nat) (l : List UInt8) (c : UInt8) : run x (l ++ [c]) = byte (run x l) c := by rw [run_append]; rfl
theorem sumOf_lt (l : List UInt8) : sumOf l < 4294967296 := Nat.xor_lt_two_pow (n := 32) (run_lt l (by decide)) (by decide)

/-- the program's step of a byte -/
theorem byte_nibs (x : Nat) (c : UInt8) :
    nib ((nib ((x ^^^ c.toNat) % 16) ^^^ (x ^^^ c.toNat) / 16) % 16) ^^^ (nib ((x ^^^ c.toNat) % 16) ^^^ (x ^^^ c.toNat) / 16) / 16 = byte x c := by
  rw [four, four, ← shn_add]; rfl

/-- the reference's step of a bit: 'k' bits of 'c' are done -/
def bit (x c k : Nat) : Nat := if (x ^^^ c / 2 ^ k) % 2 = 1 then x / 2 ^^^ poly else x / 2
def bits (x c : Nat) : Nat → Nat
  | 0 => x
  | k + 1 => bit (bits x c k) c k
theorem bits_eq (x c k : Nat) : bits x c k ^^^ c / 2 ^ k = shn k (x ^^^ c) := by
  induction k with
  | zero => simp [bits, shn]
  | succ k ih =>
    simp only [shn, ← ih, bits, bit]
    unfold sh
    rw [xor_div2, Nat.div_div_eq_div_mul, ← Nat.pow_succ]
    split <;> ac_rfl
theorem bits_byte (x : Nat) (c : UInt8) : bits x c.toNat 8 = byte x c := by
  have h := bits_eq x c.toNat 8
  have e : c.toNat / 2 ^ 8 = 0 := Nat.div_eq_of_lt (toNat_lt c)
  rw [e, Nat.xor_zero] at h
  exact h
theorem bits_lt {x c : Nat} (hx : x < 4294967296) (k : Nat) : bits x c k < 4294967296 := by
  induction k with
  | zero => exact hx
  | succ k ih =>
    simp only [bits, bit]
    split
    · exact Nat.xor_lt_two_pow (n := 32) (by omega) (by decide)
    · omega

/-- sums go on -/
theorem step_sum (l r : List UInt8) : run (sumOf l ^^^ 4294967295) r ^^^ 4294967295 = sumOf (l ++ r) := by
  unfold sumOf
  rw [Nat.xor_assoc, Nat.xor_self, Nat.xor_zero, run_append]

/-- what turns at the beginning goes on by itself -/
theorem run_xor (l : List UInt8) : ∀ x y : Nat, run (x ^^^ y) l = run x l ^^^ shn (8 * l.length) y := by
  induction l with
  | nil => intro x y; rfl
  | cons c r ih =>
    intro x y
    have e : byte (x ^^^ y) c = byte x c ^^^ shn 8 y := by
      unfold byte
      rw [← shn_xor]
      congr 1
      ac_rfl
    show run (byte (x ^^^ y) c) r = run (byte x c) r ^^^ _
    rw [e, ih, List.length_cons, Nat.mul_add, Nat.mul_one, shn_add]

/-- a byte that is turned by d -/
theorem run_set (l : List UInt8) : ∀ (x i : Nat) (d : UInt8) (h : i < l.length), run x (l.set i (l[i] ^^^ d)) = run x l ^^^ shn (8 * (l.length - i)) d.toNat := by
  induction l with
  | nil => intro x i d h; simp at h
  | cons c r ih =>
    intro x i d h
    cases i with
    | zero =>
      have e : byte x (c ^^^ d) = byte x c ^^^ shn 8 d.toNat := by
        unfold byte
        rw [← shn_xor, UInt8.toNat_xor]
        congr 1
        ac_rfl
      show run (byte x (c ^^^ d)) r = run (byte x c) r ^^^ _
      rw [e, run_xor, Nat.sub_zero, List.length_cons, Nat.mul_add, Nat.mul_one, shn_add]
    | succ i =>
      have h' : i < r.length := by simpa using h
      have := ih (byte x c) i d h'
      simp only [List.set_cons_succ, List.getElem_cons_succ, List.length_cons, Nat.add_sub_add_right]
      exact this

/-- bit n turned -/
def mask (k : Nat) : UInt8 := UInt8.ofNat (2 ^ k)
theorem mask_toNat (k : Nat) (h : k < 8) : (mask k).toNat = 2 ^ k := by
  unfold mask
  rw [UInt8.toNat_ofNat']
  exact Nat.mod_eq_of_lt (Nat.pow_lt_pow_of_lt (by decide) h)
def flip (l : List UInt8) (n : Nat) : List UInt8 := if h : n / 8 < l.length then l.set (n / 8) (l[n / 8] ^^^ mask (n % 8)) else l
theorem flip_length (l : List UInt8) (n : Nat) : (flip l n).length = l.length := by unfold flip; split <;> simp

/-- what turned bits do to the sum: 0 beyond the end -/
def wt (len n : Nat) : Nat := if n < 8 * len then shn (8 * len - n) 1 else 0
theorem run_flip (x : Nat) (l : List UInt8) (n : Nat) : run x (flip l n) = run x l ^^^ wt l.length n := by
  unfold flip wt
  by_cases h : n / 8 < l.length
  · rw [dif_pos h, if_pos (by omega), run_set, mask_toNat _ (by omega)]
    congr 1
    have e : 8 * (l.length - n / 8) = (8 * l.length - n) + n % 8 := by omega
    rw [e, shn_add]
    have := shn_pow (n % 8) 1
    rw [Nat.one_mul] at this
    rw [this]
  · rw [dif_neg h, if_neg (by omega), Nat.xor_zero]

theorem flip_flip (l : List UInt8) (n : Nat) : flip (flip l n) n = l := by
  unfold flip
  by_cases h : n / 8 < l.length
  · simp only [dif_pos h, List.length_set, List.getElem_set_self, List.set_set]
    have e : l[n / 8] ^^^ mask (n % 8) ^^^ mask (n % 8) = l[n / 8] := by
      rw [UInt8.xor_assoc, UInt8.xor_self, UInt8.xor_zero]
    rw [e, List.set_getElem_self]
  · simp only [dif_neg h]
theorem flip_none (l : List UInt8) (n : Nat) (h : 8 * l.length ≤ n) : flip l n = l := by
  unfold flip
  rw [dif_neg (by omega)]

end Go.Proofs.YtpdbbiokndhghaaDoor.Crc
