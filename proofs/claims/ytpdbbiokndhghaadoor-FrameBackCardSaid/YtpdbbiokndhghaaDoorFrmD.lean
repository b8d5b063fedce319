/-
  CONTRACTS of frame.size, the reference's Reader and its ReadUvarint, 'value', 'open'.
-/
import Derived.Test.YtpdbbiokndhghaaDoorFrmC
namespace Go.Proofs.YtpdbbiokndhghaaDoor
open Go Go.RowKit Go.Proofs

theorem IntKind.wrap_i64_small (n : Nat) (h : n < 9223372036854775808) : IntKind.i64.wrap (n : Int) = n := IntWalk.i64_in _ (by omega)
theorem i64_or_nat (a b : Nat) (ha : a < 9223372036854775808) (hb : b < 9223372036854775808) : bits .or .i64 (a : Int) (b : Int) = ((a ||| b : Nat) : Int) := by
  have hx : a ||| b < 2 ^ 63 := Nat.or_lt_two_pow (by omega) (by omega)
  show IntKind.i64.wrap ((BitVec.ofInt 64 (a : Int) ||| BitVec.ofInt 64 (b : Int)).toNat : Int) = _
  rw [BitVec.toNat_or, ofInt_u64 a (by omega), ofInt_u64 b (by omega), IntKind.wrap_i64_small _ (by omega)]
theorem or_add (a v i : Nat) (h : a < 2 ^ i) : a ||| 2 ^ i * v = a + 2 ^ i * v := by
  rw [Nat.or_comm, ← Nat.two_pow_add_eq_or_of_lt h, Nat.add_comm]
theorem and127 (c : Nat) (h : c < 256) : bits .and .u8 (c : Int) 127 = ((c % 128 : Nat) : Int) := by
  rw [show (127 : Int) = ((127 : Nat) : Int) from rfl, u8_and_nat _ _ h (by omega), show (127 : Nat) = 2 ^ 7 - 1 from rfl, Nat.and_two_pow_sub_one_eq_mod]

theorem fst_step (l : List UInt8) (k : Nat) (h : k ≤ Frm.fst l) (hk : k < l.length) (hc : 128 ≤ (l[k]).toNat) : k + 1 ≤ Frm.fst l := by
  rcases Nat.lt_or_ge k (Frm.fst l) with h1 | h1
  · omega
  · have e : Frm.fst l = k := by omega
    have : Frm.fst l < l.length := by omega
    have := List.findIdx_getElem (w := this)
    simp only [decide_eq_true_eq] at this
    have e2 : l[List.findIdx (fun c => decide (c.toNat < 128)) l] = l[k] := by congr 1
    rw [e2] at this
    omega
theorem fst_stop (l : List UInt8) (k : Nat) (h : k ≤ Frm.fst l) (hk : k < l.length) (hc : (l[k]).toNat < 128) : Frm.fst l = k := by
  rcases Nat.lt_or_ge k (Frm.fst l) with h1 | h1
  · have := List.not_of_lt_findIdx h1
    simp at this
    omega
  · omega
theorem low_step (l : List UInt8) (k : Nat) (hk : k < l.length) : Frm.low (l.take (k + 1)) = Frm.low (l.take k) + 128 ^ k * (l[k].toNat % 128) := by
  rw [List.take_succ_eq_append_getElem hk, Frm.low_append]
  have e : (l.take k).length = k := by simp; omega
  rw [e]
  simp [Frm.low]
theorem low_take_lt (l : List UInt8) (k : Nat) (hk : k ≤ l.length) : Frm.low (l.take k) < 128 ^ k := by
  have := Frm.low_lt (l.take k)
  have e : (l.take k).length = k := by simp; omega
  rwa [e] at this

/-- sizeS in the walk's words -/
theorem size_far (l : List UInt8) (h : 3 ≤ Frm.fst l) (hk : 3 < l.length) : Frm.sizeS l = (0, 0, 5) := by
  unfold Frm.sizeS
  by_cases h1 : l.length ≤ Frm.fst l
  · rw [if_pos h1, if_neg (by omega)]
  · rw [if_neg h1, if_pos h]
theorem size_zero (l : List UInt8) (k : Nat) (h : Frm.fst l = k) (hk : k < l.length) (h0 : 0 < k) (hz : l[k].toNat = 0) : Frm.sizeS l = (0, 0, 5) := by
  subst h
  have hg : l.getD (Frm.fst l) 0 = l[Frm.fst l] := by rw [List.getD_eq_getElem?_getD, List.getElem?_eq_getElem hk, Option.getD_some]
  unfold Frm.sizeS
  rw [if_neg (by omega), hg]
  by_cases h3 : 3 ≤ Frm.fst l
  · rw [if_pos h3]
  · rw [if_neg h3, if_pos ⟨h0, hz⟩]
theorem size_low (l : List UInt8) (k : Nat) (h : Frm.fst l = k) (hk : k < l.length) (h3 : k < 3) (hz : 0 < k → l[k].toNat ≠ 0) (z : Nat) (hzz : Frm.low (l.take (k + 1)) = z) :
    (z < 5 ∨ 1048576 < z → Frm.sizeS l = (0, 0, 5)) ∧ (5 ≤ z → z ≤ 1048576 → Frm.sizeS l = (z, k + 1, 0)) := by
  subst h hzz
  have hg : l.getD (Frm.fst l) 0 = l[Frm.fst l] := by rw [List.getD_eq_getElem?_getD, List.getElem?_eq_getElem hk, Option.getD_some]
  unfold Frm.sizeS
  rw [if_neg (by omega), if_neg (by omega), hg, if_neg (by rintro ⟨a, b⟩; exact hz a b)]
  exact ⟨fun h => by rw [if_pos h], fun h1 h2 => by rw [if_neg (by omega)]⟩
theorem size_end (l : List UInt8) (h : l.length ≤ Frm.fst l) : Frm.sizeS l = if l.length < 3 then (0, 0, 12) else (0, 0, 5) := by
  unfold Frm.sizeS
  rw [if_pos h]

def SizeOut (l : List UInt8) (e : Ending) : Prop :=
  e = .returned (.tuple #[.int .i64 ((Frm.sizeS l).1 : Nat), .int .i64 ((Frm.sizeS l).2.1 : Nat), .int .i64 ((Frm.sizeS l).2.2 : Nat)])
theorem sizeOut {l : List UInt8} {a b c : Nat} (h : Frm.sizeS l = (a, b, c)) {a' b' c' : Int} (ha : a' = a) (hb : b' = b) (hc : c' = c) : SizeOut l (.returned (.tuple #[.int .i64 a', .int .i64 b', .int .i64 c'])) := by
  subst ha hb hc
  unfold SizeOut
  rw [h]

theorem or0 (y c z : Nat) (hy : y < 1) (hz : z = y + 1 * (c % 128)) : bits .or .i64 (y : Int) ((c : Int) % 128) = (z : Int) := by
  rw [show (c : Int) % 128 = ((c % 128 : Nat) : Int) from by omega, i64_or_nat _ _ (by omega) (by omega)]
  have : y = 0 := by omega
  subst this
  simp only [Nat.zero_or]; omega
theorem or1 (y c z : Nat) (hy : y < 128) (hz : z = y + 128 * (c % 128)) : bits .or .i64 (y : Int) ((c : Int) % 128 * 128) = (z : Int) := by
  rw [show (c : Int) % 128 * 128 = ((128 * (c % 128) : Nat) : Int) from by omega, i64_or_nat _ _ (by omega) (by omega), or_add y (c % 128) 7 hy, hz]
theorem or2 (y c z : Nat) (hy : y < 16384) (hz : z = y + 16384 * (c % 128)) : bits .or .i64 (y : Int) ((c : Int) % 128 * 16384) = (z : Int) := by
  rw [show (c : Int) % 128 * 16384 = ((16384 * (c % 128) : Nat) : Int) from by omega, i64_or_nat _ _ (by omega) (by omega), or_add y (c % 128) 14 hy, hz]

set_option maxRecDepth 8000 in
set_option maxHeartbeats 800000 in
theorem size_any (A : Option Addr) (n c : Nat) (l : List UInt8) (w : World) (hn : l.length = n) (hl : n ≤ 140737488355328) (hB : Bytes w A l) :
    Calls Tryd.prog 32 #[.slice A n c] w fun e w' => SizeOut l e ∧ w = w' := by
  subst hn
  have HC := Lib.hid hB; clear hB
  go_enter Tryd.func32, Tryd.ntmps32
  go_wp2_with fail
  go_loop [2, 3, 9] (fun x n i => n = .int .i64 0 ∧ ∃ k : Nat, k ≤ l.length ∧ k ≤ 3 ∧ k ≤ Frm.fst l ∧ i = .int .i64 k ∧ x = .int .i64 ((Frm.low (l.take k) : Nat) : Int)) (fun _ _ i => l.length - (intOf i).toNat)
  case atStart => exact ⟨rfl, 0, Nat.zero_le _, by omega, Nat.zero_le _, rfl, rfl⟩
  case round =>
    obtain ⟨rfl, k, hk, hk3, hf, rfl, rfl⟩ := hrel
    have hfst := Lib.hid hf; clear hf
    have hlow := low_take_lt l k hk
    by_cases hlt : k < l.length
    · obtain ⟨b, off, rfl, _, hcell⟩ := HC.out.at_ hlt
      unfold bv at hcell
      have hc : l[k].toNat < 256 := Crc.toNat_lt _
      have HLS := Lib.hid (low_step l k hlt)
      by_cases h3 : k = 3
      · subst h3
        have HS : Hid (Frm.sizeS l = (0, 0, 5)) := size_far l hfst.out hlt
        generalize Frm.low (l.take 3) = y at *
        generalize hcc : l[3] = cc at *
        go_wp2
        go_ret3
        exact ⟨sizeOut HS.out rfl rfl rfl, rfl⟩
      · have hk012 : k = 0 ∨ k = 1 ∨ k = 2 := by omega
        by_cases hhigh : 128 ≤ l[k].toNat
        · have HF := Lib.hid (fst_step l k hfst.out hlt hhigh)
          have e1 := and127 _ hc
          generalize hy' : Frm.low (l.take (k + 1)) = y' at *
          generalize Frm.low (l.take k) = y at *
          generalize hcc : l[k] = cc at *
          rcases hk012 with rfl | rfl | rfl <;> simp only [Nat.add_zero, Nat.zero_add, Nat.reduceAdd, Nat.reducePow, Nat.pow_zero] at *
          · go_wp2
            go_round
            case rel => exact ⟨rfl, 1, by omega, by omega, HF.out, rfl, by rw [hy', or0 _ _ _ hlow HLS.out]⟩
            case measure => simp [intOf]; omega
          · go_wp2
            go_round
            case rel => exact ⟨rfl, 2, by omega, by omega, HF.out, rfl, by rw [hy', or1 _ _ _ hlow HLS.out]⟩
            case measure => simp [intOf]; omega
          · go_wp2
            go_round
            case rel => exact ⟨rfl, 3, by omega, by omega, HF.out, rfl, by rw [hy', or2 _ _ _ hlow HLS.out]⟩
            case measure => simp [intOf]; omega
        · have HF := fst_stop l k hfst.out hlt (by omega)
          by_cases hz : 0 < k ∧ l[k].toNat = 0
          · have HS := Lib.hid (size_zero l k HF hlt hz.1 hz.2)
            obtain ⟨hz1, hz2⟩ := hz
            clear HF
            generalize Frm.low (l.take (k + 1)) = y' at *
            generalize Frm.low (l.take k) = y at *
            generalize hcc : l[k] = cc at *
            go_wp2
            go_ret3
            exact ⟨sizeOut HS.out rfl rfl rfl, rfl⟩
          · have HS := Lib.hid (size_low l k HF hlt (by omega) (fun h0 he => hz ⟨h0, he⟩) _ rfl)
            have e1 := and127 _ hc
            have hlow' := low_take_lt l (k + 1) hlt
            clear HF
            generalize hy' : Frm.low (l.take (k + 1)) = y' at *
            generalize Frm.low (l.take k) = y at *
            generalize hcc : l[k] = cc at *
            rcases hk012 with rfl | rfl | rfl <;> simp only [Nat.add_zero, Nat.zero_add, Nat.reduceAdd, Nat.reducePow, Nat.pow_zero] at *
            · have e2 := or0 _ _ _ hlow HLS.out
              by_cases hbad : y' < 5 ∨ 1048576 < y'
              · have HS2 := Lib.hid (HS.out.1 hbad)
                go_wp2
                all_goals go_ret3
                all_goals exact ⟨sizeOut HS2.out rfl rfl rfl, rfl⟩
              · have HS2 := Lib.hid (HS.out.2 (by omega) (by omega))
                go_wp2
                all_goals go_ret3
                all_goals exact ⟨sizeOut HS2.out rfl rfl rfl, rfl⟩
            · have e2 := or1 _ _ _ hlow HLS.out
              have hcc0 : ¬ cc.toNat = 0 := fun h => hz ⟨by omega, h⟩
              clear hz
              by_cases hbad : y' < 5 ∨ 1048576 < y'
              · have HS2 := Lib.hid (HS.out.1 hbad)
                go_wp2
                all_goals go_ret3
                all_goals exact ⟨sizeOut HS2.out rfl rfl rfl, rfl⟩
              · have HS2 := Lib.hid (HS.out.2 (by omega) (by omega))
                go_wp2
                all_goals go_ret3
                all_goals exact ⟨sizeOut HS2.out rfl rfl rfl, rfl⟩
            · have e2 := or2 _ _ _ hlow HLS.out
              have hcc0 : ¬ cc.toNat = 0 := fun h => hz ⟨by omega, h⟩
              clear hz
              by_cases hbad : y' < 5 ∨ 1048576 < y'
              · have HS2 := Lib.hid (HS.out.1 hbad)
                go_wp2
                all_goals go_ret3
                all_goals exact ⟨sizeOut HS2.out rfl rfl rfl, rfl⟩
              · have HS2 := Lib.hid (HS.out.2 (by omega) (by omega))
                go_wp2
                all_goals go_ret3
                all_goals exact ⟨sizeOut HS2.out rfl rfl rfl, rfl⟩
    · have hkl : k = l.length := by omega
      subst hkl
      have HS := Lib.hid (size_end l hfst.out)
      generalize Frm.low (l.take l.length) = y at *
      by_cases hlen : l.length < 3
      · have HS2 : Hid (Frm.sizeS l = (0, 0, 12)) := by show _ = _; rw [HS.out, if_pos hlen]
        go_wp2
        all_goals go_ret3
        all_goals exact ⟨sizeOut HS2.out rfl rfl rfl, rfl⟩
      · have HS2 : Hid (Frm.sizeS l = (0, 0, 5)) := by show _ = _; rw [HS.out, if_neg hlen]
        go_wp2
        all_goals go_ret3
        all_goals exact ⟨sizeOut HS2.out rfl rfl rfl, rfl⟩

/-! the reference's Reader -/
end Go.Proofs.YtpdbbiokndhghaaDoor
