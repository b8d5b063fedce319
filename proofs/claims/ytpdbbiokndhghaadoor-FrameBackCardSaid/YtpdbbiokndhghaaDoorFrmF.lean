/-
  CONTRACTS of the reference's 'value' and 'open'.
-/
import Derived.Test.YtpdbbiokndhghaaDoorFrmE
namespace Go.Proofs.YtpdbbiokndhghaaDoor
open Go Go.RowKit Go.Proofs

theorem own_bytes {w : World} {base : Nat} {v : Value} {n : Nat} {l : List UInt8} (h : w.ownsRow base 5 1 v n (l.map bv)) : ∃ A c, v = .slice A n c ∧ l.length = n ∧ Bytes w A l := by
  obtain ⟨A, c, h1, h2, h3, h4, h5⟩ := bytes_of_own h
  exact ⟨A, c, h1, h2, h5⟩

theorem readF_lt : ∀ (l : List UInt8) (f i acc : Nat), f + i = 10 → acc < 128 ^ i → Frm.readF f i acc l < 18446744073709551616
  | l, 0, i, acc, _, _ => by cases l <;> simp [Frm.readF]
  | [], f + 1, i, acc, _, _ => by simp [Frm.readF]
  | c :: r, f + 1, i, acc, h, ha => by
    simp only [Frm.readF]
    split
    · omega
    · rename_i h1
      have hp : (128 : Nat) ^ i ≤ 128 ^ 9 := Nat.pow_le_pow_right (by omega) (by omega)
      have hlt : acc + c.toNat % 128 * 128 ^ i < 18446744073709551616 := by
        rcases Nat.lt_or_ge i 9 with h9 | h9
        · have := acc_lt acc c.toNat i ha
          have hp2 : (128 : Nat) ^ (i + 1) ≤ 128 ^ 9 := Nat.pow_le_pow_right (by omega) (by omega)
          omega
        · have e : i = 9 := by omega
          subst e
          have : c.toNat % 128 ≤ 1 := by omega
          have : c.toNat % 128 * 128 ^ 9 ≤ 1 * 128 ^ 9 := Nat.mul_le_mul_right _ this
          omega
      split
      · split
        · omega
        · exact hlt
      · exact readF_lt r f (i + 1) _ (by omega) (acc_lt _ _ _ ha)
theorem readS_lt (l : List UInt8) : Frm.readS l < 18446744073709551616 := readF_lt l 10 0 0 rfl (by omega)

set_option maxHeartbeats 400000 in
theorem value_any (A : Option Addr) (n c : Nat) (l : List UInt8) (w : World) (hn : l.length = n) (hl : n ≤ 140737488355328) (hB : Bytes w A l) :
    Calls Tryd.prog 33 #[.slice A n c] w fun e w' => e = .returned (.tuple #[.int .u64 ((Frm.readS l : Nat) : Int), .bool (Frm.okS l)]) ∧ Below w.heap.size w w' := by
  subst hn
  have HC := Lib.hid hB; clear hB
  have tt := text_toList
  go_enter Tryd.func33, Tryd.ntmps33
  go_wp2_with fail
  have HR : Hid (Rdr (w.alloc (.cells #[.slice A l.length c, .int .i64 0, .int .i64 0] 67)) w.heap.size A l.length c 0 0) := heap_alloc_new w _
  have H1 : Hid (Below w.heap.size w (w.alloc (.cells #[.slice A l.length c, .int .i64 0, .int .i64 0] 67))) := (Below.refl _ _).alloc (Nat.le_refl _) _
  generalize w.alloc (.cells #[.slice A l.length c, .int .i64 0, .int .i64 0] 67) = w1 at *
  refine (read_any w.heap.size A l.length c l 0 w w1 rfl rfl HC.out H1.out (Nat.le_refl _) HR.out (by omega)).mono ?_
  rintro e w2 ⟨rfl, hb2⟩
  have HB2 := Lib.hid hb2; clear hb2
  clear HR H1
  have HOK : Hid (Frm.okS l = (Frm.uv (Frm.readS l) == l)) := rfl
  have HLT := Lib.hid (readS_lt l)
  generalize hN : Frm.readS l = N at *
  have HNN := Lib.hid hN; clear hN
  have x := text_at (c := c) rfl (HC.out.below HB2.out)
  go_wp2_with fail
  refine wp_region_flow [(0, true), (1, true), (4, true), (5, true), (2, false), (3, true), (6, true), (7, true), (8, true)] (fun u => Below w2.heap.size w2 u) (by kernel_rfl) (by kernel_rfl) (fun _ _ _ _ _ h => h) ((Below.refl _ _).drew) ?_
  iterate 4 (refine flow_take (v := ?_) rfl (by rfl) ?_ ?_; rotate_left 1; (· intro u hu; have := tt; have x1 := x u hu; clear hu; go_simp; try with_reducible rfl); simp only [Act.put, List.getElem_toArray, List.getElem_cons_succ, List.getElem_cons_zero, List.setIfInBounds_toArray, List.set_cons_zero, List.set_cons_succ])
  (refine flow_turn rfl (by rfl) (fun K hK => ?_); simp only [List.getElem_toArray, List.getElem_cons_succ, List.getElem_cons_zero]; have HKK := Lib.hid hK; clear hK; go_simp)
  refine (refUvarint_any _ N _ rfl HLT.out).mono ?_
  rintro e w3 ⟨v3, n3, rfl, hn3, ho3, hb3⟩
  obtain ⟨A3, c3, rfl, hl3, hB3⟩ := own_bytes ho3
  clear ho3 hn3
  have HB3 := Lib.hid (hb3 : Below w2.heap.size _ w3); clear hb3
  have HN3 := Lib.hid hl3; clear hl3
  have HC3 := Lib.hid hB3; clear hB3
  have x3 := text_at (c := c3) HN3.out HC3.out
  refine HKK.out _ _ ⟨fun u => Below w3.heap.size w3 u, Below.refl _ _, fun u hu => ?_, ?_⟩
  · exact Below.trans ((Below.refl _ _).drew) (Below.trans HB3.out (Below.mono hu HB3.out.size))
  clear HKK K
  have hb3 : Hid (Below w.heap.size w w3) := HB2.out.trans ((Below.trans ((Below.refl w2.heap.size _).drew) HB3.out).mono HB2.out.size)
  iterate 4 (refine flow_take (v := ?_) rfl (by rfl) ?_ ?_; rotate_left 1; (· intro u hu; have x1 := x3 u hu; clear hu; go_simp; try with_reducible rfl); simp only [Act.put, List.getElem_toArray, List.getElem_cons_succ, List.getElem_cons_zero, List.setIfInBounds_toArray, List.set_cons_zero, List.set_cons_succ])
  refine flow_nil ?_
  go_wp2_with fail
  go_ret2
  rw [HNN.out, HOK.out]
  exact ⟨rfl, hb3.out⟩

theorem all_take_step (l : List UInt8) (k : Nat) (hk : k < l.length) (h : (l.take k).all (fun c => decide (128 ≤ c.toNat)) = true) (hc : 128 ≤ l[k].toNat) : (l.take (k + 1)).all (fun c => decide (128 ≤ c.toNat)) = true := by
  rw [List.take_succ_eq_append_getElem hk, List.all_append, h]
  simp [hc]
theorem all_stop (l : List UInt8) (k : Nat) (hk : k < l.length) (hc : l[k].toNat < 128) : l.all (fun c => decide (128 ≤ c.toNat)) = false := by
  rw [List.all_eq_false]
  exact ⟨l[k], List.getElem_mem hk, by simp; omega⟩

set_option maxRecDepth 8000 in
set_option maxHeartbeats 400000 in
theorem open2_any (A : Option Addr) (n c : Nat) (l : List UInt8) (w : World) (hn : l.length = n) (hl : n ≤ 140737488355328) (hB : Bytes w A l) :
    Calls Tryd.prog 34 #[.slice A n c] w fun e w' => e = .returned (.bool (Frm.openS l)) ∧ w = w' := by
  subst hn
  have HC := Lib.hid hB; clear hB
  by_cases h2 : 2 < l.length
  · have HO : Hid (Frm.openS l = false) := by show _ = _; unfold Frm.openS; rw [decide_eq_false (by omega)]; rfl
    go_enter Tryd.func34, Tryd.ntmps34
    go_wp2_with fail
    go_ret
    exact ⟨by rw [HO.out]; rfl, rfl⟩
  · have HO : Hid (Frm.openS l = l.all fun c => decide (128 ≤ c.toNat)) := by show _ = _; unfold Frm.openS; rw [decide_eq_true (by omega), Bool.true_and]
    go_enter Tryd.func34, Tryd.ntmps34
    go_wp2_with fail
    go_loop [3] (fun i => ∃ k : Nat, k ≤ l.length ∧ i = .int .i64 k ∧ (l.take k).all (fun c => decide (128 ≤ c.toNat)) = true) (fun i => l.length - (intOf i).toNat)
    case atStart => exact ⟨0, Nat.zero_le _, rfl, rfl⟩
    case round =>
      obtain ⟨k, hk, rfl, hall⟩ := hrel
      have HALL := Lib.hid hall; clear hall
      by_cases hlt : k < l.length
      · have HN1 := Lib.hid (fun hc => all_take_step l k hlt HALL.out hc)
        have HN2 := Lib.hid (fun hc => all_stop l k hlt hc)
        obtain ⟨b, off, rfl, _, hcell⟩ := HC.out.at_ hlt
        unfold bv at hcell
        have hcc8 : l[k].toNat < 256 := Crc.toNat_lt _
        generalize l[k] = cc at *
        by_cases hhi : 128 ≤ cc.toNat
        · go_wp2_with fail
          go_round
          case rel => exact ⟨k + 1, by omega, by go_num, HN1.out hhi⟩
          case measure => simp [intOf]; omega
        · have HF := Lib.hid (HN2.out (by omega))
          go_wp2_with fail
          go_ret
          exact ⟨by rw [HO.out, HF.out]; rfl, rfl⟩
      · have hkl : k = l.length := by omega
        have HA : Hid (l.all (fun c => decide (128 ≤ c.toNat)) = true) := by show _ = _; rw [← HALL.out, hkl, List.take_length]
        clear hkl
        go_wp2_with fail
        go_ret
        exact ⟨by rw [HO.out, HA.out]; rfl, rfl⟩
end Go.Proofs.YtpdbbiokndhghaaDoor
