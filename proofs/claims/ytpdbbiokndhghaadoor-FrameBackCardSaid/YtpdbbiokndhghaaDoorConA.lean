/-
  CONTRACTS of the functions of crc and its reference, in every world in which the table holds its numbers: crc.Step, Of, Same; the reference's Of.
-/
import Derived.Test.YtpdbbiokndhghaaDoorWords
namespace Go.Proofs.YtpdbbiokndhghaaDoor
open Go Go.RowKit Go.Proofs

theorem not32 (s : Nat) (h : s < 4294967296) : bits BinOp.xor IntKind.u32 IntKind.u32.max (s : Int) = ((s ^^^ 4294967295 : Nat) : Int) := by
  have e : IntKind.u32.max = ((4294967295 : Nat) : Int) := by decide
  rw [e, u32_xor_nat _ _ (by omega) h, Nat.xor_comm]
theorem and15 (z : Nat) (h : z < 4294967296) : bits BinOp.and IntKind.u32 (z : Int) 15 = ((z % 16 : Nat) : Int) := by
  rw [show (15 : Int) = ((15 : Nat) : Int) from rfl, u32_and_nat _ _ h (by omega)]
  rw [show (15 : Nat) = 2 ^ 4 - 1 from rfl, Nat.and_two_pow_sub_one_eq_mod]
theorem xor16 (z : Nat) (h : z < 4294967296) : bits BinOp.xor IntKind.u32 ((Crc.nib (z % 16) : Nat) : Int) ((z : Int) / 16) = ((Crc.nib (z % 16) ^^^ z / 16 : Nat) : Int) := by
  rw [show (z : Int) / 16 = ((z / 16 : Nat) : Int) from by omega]
  exact u32_xor_nat _ _ (Crc.nib_lt _ (Nat.mod_lt _ (by decide))) (by omega)
theorem nib_lt2 (z : Nat) (h : z < 4294967296) : Crc.nib (z % 16) ^^^ z / 16 < 4294967296 := Nat.xor_lt_two_pow (n := 32) (Crc.nib_lt _ (Nat.mod_lt _ (by decide))) (by omega)
theorem run_take (x : Nat) (l : List UInt8) (k : Nat) (h : k < l.length) : Crc.run x (l.take (k + 1)) = Crc.byte (Crc.run x (l.take k)) l[k] := by
  rw [List.take_succ_eq_append_getElem h, Crc.run_snoc]

set_option maxHeartbeats 400000 in
/-- crc.Step -/
theorem step_any (si : Int) (s : Nat) (A : Option Addr) (n c : Nat) (l : List UInt8) (w : World) (hsi : si = (s : Int)) (hs : s < 4294967296) (hn : l.length = n) (hl : n ≤ 9223372036854775807)
    (hB : Bytes w A l) (hk : Known w) :
    Calls Tryd.prog 15 #[.int .u32 si, .slice A n c] w fun e w' => e = .returned (.int .u32 ((Crc.run (s ^^^ 4294967295) l ^^^ 4294967295 : Nat) : Int)) ∧ w = w' := by
  subst hsi hn
  have HK := Lib.hid hk; clear hk
  have HC := Lib.hid hB; clear hB
  have hx0 : s ^^^ 4294967295 < 4294967296 := Nat.xor_lt_two_pow (n := 32) hs (by decide)
  go_enter Tryd.func15, Tryd.ntmps15
  go_wp2
  rw [not32 s hs]
  go_loop [5, 12] (fun x i => ∃ k : Nat, k ≤ l.length ∧ i = .int .i64 k ∧ x = .int .u32 ((Crc.run (s ^^^ 4294967295) (l.take k) : Nat) : Int)) (fun _ i => l.length - (intOf i).toNat)
  case atStart => exact ⟨0, Nat.zero_le _, rfl, rfl⟩
  case round =>
    obtain ⟨k, hk, rfl, rfl⟩ := hrel
    by_cases hlt : k < l.length
    · have HS := Lib.hid (run_take (s ^^^ 4294967295) l k hlt)
      obtain ⟨b, off, rfl, _, hcell⟩ := HC.out.at_ hlt
      unfold bv at hcell
      have hb : l[k].toNat < 256 := Crc.toNat_lt _
      have hy : Crc.run (s ^^^ 4294967295) (l.take k) < 4294967296 := Crc.run_lt _ hx0
      generalize Crc.run (s ^^^ 4294967295) (l.take k) = y at *
      generalize hcc : l[k] = cc at *
      clear hcc
      have e1 : Go.bits BinOp.xor IntKind.u32 (y : Int) ((cc.toNat : Nat) : Int) = ((y ^^^ cc.toNat : Nat) : Int) := u32_xor_nat _ _ hy (by omega)
      have hz : y ^^^ cc.toNat < 4294967296 := Nat.xor_lt_two_pow (n := 32) hy (by omega)
      have HB := Lib.hid (Crc.byte_nibs y cc)
      generalize y ^^^ cc.toNat = z at *
      have e2 := and15 z hz
      have k1 := HK.out (z % 16) (Nat.mod_lt _ (by decide))
      have e3 := xor16 z hz
      have hz2 := nib_lt2 z hz
      generalize Crc.nib (z % 16) ^^^ z / 16 = z2 at *
      have e4 := and15 z2 hz2
      have k2 := HK.out (z2 % 16) (Nat.mod_lt _ (by decide))
      have e5 := xor16 z2 hz2
      generalize Crc.nib (z2 % 16) ^^^ z2 / 16 = z3 at *
      go_wp2
      go_round
      case rel => exact ⟨k + 1, by omega, by go_num, by rw [HS.out, ← HB.out]⟩
      case measure => simp [intOf]; omega
    · have e : k = l.length := by omega
      have HX : Hid (Crc.run (s ^^^ 4294967295) (l.take k) = Crc.run (s ^^^ 4294967295) l) := by show _ = _; rw [e, List.take_length]
      have hy : Crc.run (s ^^^ 4294967295) (l.take k) < 4294967296 := Crc.run_lt _ hx0
      have e6 := not32 _ hy
      clear e
      generalize Crc.run (s ^^^ 4294967295) (l.take k) = y at *
      go_wp2
      go_ret
      exact ⟨ret_int (by rw [HX.out]), rfl⟩

/-- crc.Of -/
theorem of_any (A : Option Addr) (n c : Nat) (l : List UInt8) (w : World) (hn : l.length = n) (hl : n ≤ 9223372036854775807) (hB : Bytes w A l) (hk : Known w) :
    Calls Tryd.prog 13 #[.slice A n c] w fun e w' => e = .returned (.int .u32 ((Crc.sumOf l : Nat) : Int)) ∧ w = w' := by
  subst hn
  have HK := Lib.hid hk; clear hk
  have HC := Lib.hid hB; clear hB
  go_enter Tryd.func13, Tryd.ntmps13
  go_wp2_with (go_at_call 15; refine (step_any _ 0 _ _ _ l _ rfl (by omega) rfl (by omega) HC.out HK.out).mono ?_; rintro e w' ⟨rfl, rfl⟩)
  go_ret
  exact ⟨ret_int rfl, rfl⟩

theorem shift_nat (c m : Nat) : ((c : Int) / 2 ^ m) = ((c / 2 ^ m : Nat) : Int) := by
  rw [Int.natCast_ediv]; simp
theorem bit_test (z c m : Nat) (hz : z < 4294967296) (hc : c < 256) : (Go.bits BinOp.xor IntKind.u32 (z : Int) ((c : Int) / 2 ^ m)).tmod 2 = (((z ^^^ c / 2 ^ m) % 2 : Nat) : Int) := by
  have hs : c / 2 ^ m ≤ c := Nat.div_le_self _ _
  rw [shift_nat, u32_xor_nat _ _ hz (by omega), Int.tmod_eq_emod_of_nonneg (by omega)]
  omega
theorem bit_yes (z c m : Nat) (hz : z < 4294967296) (hc : c < 256) (h : ((Go.bits BinOp.xor IntKind.u32 (z : Int) ((c : Int) / 2 ^ m)).tmod 2 == 1) = true) :
    Go.bits BinOp.xor IntKind.u32 ((z : Int) / 2) 3988292384 = ((Crc.bit z c m : Nat) : Int) := by
  rw [bit_test z c m hz hc, beq_iff_eq] at h
  unfold Crc.bit
  rw [if_pos (by omega), show ((z : Int) / 2) = ((z / 2 : Nat) : Int) from by omega, show (3988292384 : Int) = ((3988292384 : Nat) : Int) from rfl, u32_xor_nat _ _ (by omega) (by omega)]
  rfl
theorem bit_no (z c m : Nat) (hz : z < 4294967296) (hc : c < 256) (h : ((Go.bits BinOp.xor IntKind.u32 (z : Int) ((c : Int) / 2 ^ m)).tmod 2 == 1) = false) :
    ((z : Int) / 2) = ((Crc.bit z c m : Nat) : Int) := by
  rw [bit_test z c m hz hc, beq_eq_false_iff_ne] at h
  unfold Crc.bit
  rw [if_neg (by omega)]
  omega

set_option maxHeartbeats 400000 in
/-- the reference's Of -/
theorem refOf_any (A : Option Addr) (n c : Nat) (l : List UInt8) (w : World) (hn : l.length = n) (hl : n ≤ 9223372036854775807) (hB : Bytes w A l) :
    Calls Tryd.prog 14 #[.slice A n c] w fun e w' => e = .returned (.int .u32 ((Crc.sumOf l : Nat) : Int)) ∧ w = w' := by
  subst hn
  have HC := Lib.hid hB; clear hB
  go_enter Tryd.func14, Tryd.ntmps14
  go_wp2
  go_loop [3, 4] (fun x i => ∃ k : Nat, k ≤ l.length ∧ i = .int .i64 k ∧ x = .int .u32 ((Crc.run 4294967295 (l.take k) : Nat) : Int)) (fun _ i => l.length - (intOf i).toNat)
  case atStart => exact ⟨0, Nat.zero_le _, rfl, rfl⟩
  case round =>
    obtain ⟨k, hk, rfl, rfl⟩ := hrel
    by_cases hlt : k < l.length
    · have HS := Lib.hid (run_take 4294967295 l k hlt)
      obtain ⟨b, off, rfl, _, hcell⟩ := HC.out.at_ hlt
      unfold bv at hcell
      have hb : l[k].toNat < 256 := Crc.toNat_lt _
      have hy : Crc.run 4294967295 (l.take k) < 4294967296 := Crc.run_lt _ (by omega)
      generalize Crc.run 4294967295 (l.take k) = y at *
      generalize hcc : l[k] = cc at *
      clear hcc
      go_wp2
      go_loop [3, 5] (fun x j => ∃ m : Nat, m ≤ 8 ∧ j = .int .i64 m ∧ x = .int .u32 ((Crc.bits y cc.toNat m : Nat) : Int)) (fun _ j => 8 - (intOf j).toNat)
      case atStart => exact ⟨0, Nat.zero_le _, rfl, rfl⟩
      case round =>
        obtain ⟨m, hm, rfl, rfl⟩ := hrel
        by_cases hm8 : m < 8
        · have hz := Crc.bits_lt (c := cc.toNat) hy m
          have HT : Hid (Crc.bits y cc.toNat (m + 1) = Crc.bit (Crc.bits y cc.toNat m) cc.toNat m) := rfl
          generalize Crc.bits y cc.toNat m = z at *
          go_wp2
          all_goals
            go_round
            case rel => exact ⟨m + 1, by omega, by go_num, by first | rw [bit_yes z _ m hz hb ‹_›, HT.out] | rw [bit_no z _ m hz hb ‹_›, HT.out]⟩
            case measure => simp [intOf]; omega
        · have e : m = 8 := by omega
          subst e
          have HT := Lib.hid (Crc.bits_byte y cc)
          generalize Crc.bits y cc.toNat 8 = z at *
          go_wp2
          go_round
          case rel => exact ⟨k + 1, by omega, by go_num, by rw [HS.out, ← HT.out]⟩
          case measure => simp [intOf]; omega
    · have e : k = l.length := by omega
      have HX : Hid (Crc.run 4294967295 (l.take k) = Crc.run 4294967295 l) := by show _ = _; rw [e, List.take_length]
      have hy : Crc.run 4294967295 (l.take k) < 4294967296 := Crc.run_lt _ (by omega)
      have e6 : Go.bits BinOp.xor IntKind.u32 ((Crc.run 4294967295 (l.take k) : Nat) : Int) 4294967295 = ((Crc.run 4294967295 (l.take k) ^^^ 4294967295 : Nat) : Int) := u32_xor_nat _ 4294967295 hy (by omega)
      clear e
      generalize Crc.run 4294967295 (l.take k) = y at *
      go_wp2
      go_ret
      exact ⟨ret_int (by rw [HX.out]; rfl), rfl⟩

/-- crc.Same -/
theorem same_any (A A' : Option Addr) (n c n' c' : Nat) (l l' : List UInt8) (w : World) (hn : l.length = n) (hl : n ≤ 9223372036854775807) (hn' : l'.length = n') (hl' : n' ≤ 9223372036854775807)
    (hB : Bytes w A l) (hB' : Bytes w A' l') (hk : Known w) :
    Calls Tryd.prog 16 #[.slice A n c, .slice A' n' c'] w fun e w' => e = .returned (.bool (((Crc.sumOf l : Nat) : Int) == ((Crc.sumOf l' : Nat) : Int))) ∧ w = w' := by
  subst hn hn'
  have HK := Lib.hid hk; clear hk
  have HC := Lib.hid hB; clear hB
  have HD := Lib.hid hB'; clear hB'
  go_enter Tryd.func16, Tryd.ntmps16
  go_wp2_with fail
  refine (of_any _ _ _ l _ rfl (by omega) HC.out HK.out).mono ?_
  rintro e w' ⟨rfl, rfl⟩
  go_wp2_with fail
  refine (of_any _ _ _ l' _ rfl (by omega) HD.out HK.out).mono ?_
  rintro e w' ⟨rfl, rfl⟩
  go_wp2_with fail
  go_ret
  exact ⟨rfl, rfl⟩
end Go.Proofs.YtpdbbiokndhghaaDoor
