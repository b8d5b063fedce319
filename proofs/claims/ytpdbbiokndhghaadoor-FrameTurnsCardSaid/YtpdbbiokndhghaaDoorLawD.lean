/-
  THE LAW CrcTurns WALKED: at any bytes and any three numbers, in every world in which the table holds its numbers, the call returns true (the theorem of few bits: CrcB).
-/
import Derived.Test.YtpdbbiokndhghaaDoorConC
import Derived.Test.YtpdbbiokndhghaaDoorCrcB
namespace Go.Proofs.YtpdbbiokndhghaaDoor
open Go Go.RowKit Go.Proofs

set_option maxHeartbeats 400000 in
theorem law_turns_out (A : Option Addr) (n c : Nat) (x y z : Int) (w : World) (hn : n = 0 ∨ 256 < n) (hl : n ≤ 140737488355328) (hk : Known w) :
    Calls Tryd.prog 3 #[.slice A n c, .agg #[.int .u16 x, .int .u16 y, .int .u16 z]] w (Yes w) := by
  have HK := Lib.hid hk; clear hk
  rcases hn with rfl | hn
  · go_enter Tryd.func3, Tryd.ntmps3
    go_wp2_with fail
    refine (awake_any _ (HK.out.below ((Below.refl _ _).alloc (Nat.le_refl _) _))).mono ?_
    rintro e w2 ⟨rfl, hb⟩
    have HB := Lib.hid hb; clear hb
    go_wp2_with fail
    go_ret
    exact ⟨rfl, ((Below.refl _ _).alloc (Nat.le_refl _) _).trans (HB.out.mono (by simp))⟩
  · have h0 : ((n : Int) == 0) = false := by rw [beq_eq_false_iff_ne]; omega
    have h1 : (256 : Int) < (n : Int) := by omega
    go_enter Tryd.func3, Tryd.ntmps3
    go_wp2_with fail
    refine (awake_any _ (HK.out.below ((Below.refl _ _).alloc (Nat.le_refl _) _))).mono ?_
    rintro e w2 ⟨rfl, hb⟩
    have HB := Lib.hid hb; clear hb
    go_wp2_with fail
    go_ret
    exact ⟨rfl, ((Below.refl _ _).alloc (Nat.le_refl _) _).trans (HB.out.mono (by simp))⟩

/-- the bits that are turned, one by one -/
def turn3 (l : List UInt8) (f : Nat → Nat) : Nat → List UInt8
  | 0 => l
  | k + 1 => Crc.flip (turn3 l f k) (f k)
theorem turn3_length (l : List UInt8) (f : Nat → Nat) (k : Nat) : (turn3 l f k).length = l.length := by
  induction k with
  | zero => rfl
  | succ k ih => simp only [turn3, Crc.flip_length, ih]

theorem xor_mask (cc : UInt8) (k : Nat) (h : k < 8) : Go.bits BinOp.xor IntKind.u8 ((cc.toNat : Nat) : Int) (2 ^ k % 256) = (((cc ^^^ Crc.mask k).toNat : Nat) : Int) := by
  have hp : 2 ^ k < 256 := by
    have := Nat.pow_lt_pow_of_lt (a := 2) (by decide) h
    simpa using this
  have e : ((2 : Int) ^ k % 256) = ((2 ^ k : Nat) : Int) := by
    have : ((2 : Int) ^ k) = ((2 ^ k : Nat) : Int) := by simp
    rw [this]
    generalize 2 ^ k = p at *
    omega
  rw [e, u8_xor_nat _ _ (Crc.toNat_lt _) hp, UInt8.toNat_xor, Crc.mask_toNat _ h]

set_option maxHeartbeats 800000 in
theorem law_turns_in (A : Option Addr) (n c : Nat) (x y z : Nat) (l : List UInt8) (w : World) (hn : l.length = n) (h1 : 1 ≤ n) (h2 : n ≤ 256) (hx : x < 65536) (hy : y < 65536) (hz : z < 65536) (hB : Bytes w A l) (hk : Known w) :
    Calls Tryd.prog 3 #[.slice A n c, .agg #[.int .u16 (x : Int), .int .u16 (y : Int), .int .u16 (z : Int)]] w (Yes w) := by
  have HN := Lib.hid hn; clear hn
  have HK := Lib.hid hk; clear hk
  have HC := Lib.hid hB; clear hB
  have h0 : ((n : Int) == 0) = false := by rw [beq_eq_false_iff_ne]; omega
  have h3 : ¬ (256 : Int) < (n : Int) := by omega
  obtain ⟨i0, hi, hz0, hz1, hz2⟩ := info_parts info5
  go_enter Tryd.func3, Tryd.ntmps3
  go_wp2_with (at_builtin; go_must (refine wpList_append_bytes _ rfl _ _ 22 rfl (w.heap.size + 1) 5 i0 (.int .u8 0) Tryd.underlying22 hi hz0 hz1 hz2 rfl _ 0 [] rfl (own_empty _ 5 (w.heap.size + 1) (w.heap.size + 1) (by simp) (Nat.le_refl _)) _ _ _ l rfl HN.out ((HC.out.alloc _).alloc _) (by omega) (by simp) ?_))
  intro v1 w1 hown hg
  obtain ⟨g, cap, rfl, hgb, hgs, hcap, hcm⟩ := own_form hown (by omega)
  have HO := Lib.hid (show w1.ownsRow (w.heap.size + 1) 5 1 (.slice (some ⟨g, 0, none⟩) n cap) n (l.map bv) by simpa using hown)
  have HG := Lib.hid ((((Below.refl w.heap.size w).alloc (Nat.le_refl _) _).alloc (by simp) _).grown hg (by simp; omega) (by simp [Value.ownBlock]))
  have b0 : w1.cell? ⟨w.heap.size, 0, none⟩ = some (.int .u16 (x : Int)) := hg.cell (by simp) (by simp [Value.ownBlock])
  have b1 : w1.cell? ⟨w.heap.size, 1, none⟩ = some (.int .u16 (y : Int)) := hg.cell (by simp) (by simp [Value.ownBlock])
  have b2 : w1.cell? ⟨w.heap.size, 2, none⟩ = some (.int .u16 (z : Int)) := hg.cell (by simp) (by simp [Value.ownBlock])
  clear hown hg
  have HB0 := Lib.hid b0; clear b0
  have HB1 := Lib.hid b1; clear b1
  have HB2 := Lib.hid b2; clear b2
  go_wp2_with fail
  obtain ⟨v, hv⟩ : ∃ v : Nat → Nat, v = fun j => if j = 0 then x else if j = 1 then y else z := ⟨_, rfl⟩
  have hvl : ∀ j, v j < 65536 := fun j => by rw [hv]; dsimp only; split <;> (try split) <;> assumption
  have HV : Hid (∀ j, j < 3 → w1.cell? ⟨w.heap.size, j, none⟩ = some (.int .u16 ((v j : Nat) : Int))) := by
    intro j hj
    rw [hv]
    match j, hj with
    | 0, _ => exact HB0.out
    | 1, _ => exact HB1.out
    | 2, _ => exact HB2.out
  have HVL := Lib.hid hvl
  clear hv hvl HB0 HB1 HB2
  go_loopw [6] (fun i wr => ∃ k : Nat, k ≤ 3 ∧ i = .int .i64 k ∧ wr.ownsRow (w.heap.size + 1) 5 1 (.slice (some ⟨g, 0, none⟩) n cap) n ((turn3 l (fun j => v j % (8 * n + 1)) k).map bv) ∧ Below w.heap.size w wr ∧
    ∀ j, j < 3 → wr.cell? ⟨w.heap.size, j, none⟩ = some (.int .u16 ((v j : Nat) : Int))) (fun i _ => 3 - (intOf i).toNat)
  case atStart => exact ⟨0, by omega, rfl, HO.out, HG.out, HV.out⟩
  case round =>
    obtain ⟨k, hk, rfl, hown, hb, hcells⟩ := hrel
    have HO' := Lib.hid hown; clear hown
    have HG' := Lib.hid hb; clear hb
    have HV' := Lib.hid hcells; clear hcells
    clear HO HG HV
    by_cases hk3 : k < 3
    · have hcell := HV'.out k hk3
      have hq := HVL.out k
      have HT : Hid (turn3 l (fun j => v j % (8 * n + 1)) (k + 1) = Crc.flip (turn3 l (fun j => v j % (8 * n + 1)) k) (v k % (8 * n + 1))) := rfl
      have HTL := Lib.hid (turn3_length l (fun j => v j % (8 * n + 1)) k)
      generalize turn3 l (fun j => v j % (8 * n + 1)) k = t at *
      generalize v k = q at *
      obtain ⟨m, hm⟩ : ∃ m : Nat, m = q % (8 * n + 1) := ⟨_, rfl⟩
      have em : (q : Int) % (8 * (n : Int) + 1) = (m : Int) := by rw [hm]; simp
      have hm1 : m ≤ 8 * n := by rw [hm]; have := Nat.mod_lt q (show 0 < 8 * n + 1 by omega); omega
      rw [← hm] at HT
      clear hm
      by_cases hlt : m < 8 * n
      · have htl : m / 8 < t.length := by rw [HTL.out, HN.out]; omega
        have c1 : wr.cell? ⟨g, m / 8, none⟩ = some (bv t[m / 8]) := by
          rw [HO'.out.cellAt (m / 8) (by omega)]
          simp [List.getElem?_eq_getElem htl]
        unfold bv at c1
        have f1 : wr.frozen? ⟨g, m / 8, none⟩ = false := HO'.out.frozenAt (m / 8)
        have hcc := Crc.toNat_lt t[m / 8]
        have HST := HO'.out.stored (m / 8) (bv (t[m / 8] ^^^ Crc.mask (m % 8)))
        generalize hcd : t[m / 8] = cc at *
        have HCD := Lib.hid hcd; clear hcd
        have HX := Lib.hid (xor_mask cc (m % 8) (Nat.mod_lt _ (by decide)))
        have HST1 := Lib.hid HST.1
        have HST2 := Lib.hid HST.2
        clear HST
        go_wp2_with fail
        go_roundw
        case rel =>
          rw [HX.out]
          refine ⟨k + 1, by omega, by go_num, ?_, HG'.out.grown HST2.out (by simpa using HG'.out.size) (by intro j hj; injection hj with hj; omega), fun j hj => ?_⟩
          · rw [HT.out]
            unfold Crc.flip
            rw [dif_pos htl, List.map_set, HCD.out]
            exact HST1.out
          · rw [World.cell?_setCell_other _ _ _ _ (fun e => by injection e with e; omega)]
            exact HV'.out j hj
        case measure => simp [intOf]; omega
      · have hge : 8 * n ≤ m := by omega
        go_wp2_with fail
        go_roundw
        case rel => exact ⟨k + 1, by omega, by go_num, by rw [HT.out, Crc.flip_none t m (by rw [HTL.out, HN.out]; exact hge)]; exact HO'.out, HG'.out, HV'.out⟩
        case measure => simp [intOf]; omega
    · obtain rfl : k = 3 := by omega
      have hfew := Crc.few_sum l (v 0 % (8 * n + 1)) (v 1 % (8 * n + 1)) (v 2 % (8 * n + 1)) (by rw [HN.out]; exact h2)
      have HTL := Lib.hid (turn3_length l (fun j => v j % (8 * n + 1)) 3)
      have hfew' : Crc.sumOf (turn3 l (fun j => v j % (8 * n + 1)) 3) = Crc.sumOf l ↔ turn3 l (fun j => v j % (8 * n + 1)) 3 = l := hfew
      clear hfew
      generalize turn3 l (fun j => v j % (8 * n + 1)) 3 = t at *
      obtain ⟨β, e1, e2⟩ : ∃ β : Bool, (((Crc.sumOf t : Nat) : Int) == ((Crc.sumOf l : Nat) : Int)) = β ∧ (t == l) = β := by
        refine ⟨_, rfl, ?_⟩
        rw [Bool.eq_iff_iff, beq_iff_eq, beq_iff_eq]
        constructor
        · intro h; rw [h]
        · intro h; exact hfew'.1 (by omega)
      clear hfew'
      obtain ⟨A', c', hv', hn', _, _, hB'⟩ := bytes_of_own HO'.out
      injection hv' with q1 q2 q3
      subst q1 q3
      clear q2
      have HB' := Lib.hid hB'; clear hB'
      have HN' := Lib.hid hn'; clear hn'
      have HK' := Lib.hid (HK.out.below HG'.out)
      have tt := text_toList
      have x5 := text_at (c := cap) HN'.out HB'.out
      have x0 := text_at (c := c) HN.out (HC.out.below HG'.out)
      clear HVL HV' h0 h3
      go_wp2_with fail
      refine wp_region_flow [(0, true), (2, true), (5, true), (6, true), (7, true), (8, true), (9, true), (1, false), (3, false), (4, true), (10, true), (11, true), (12, false), (13, true), (14, true)] (fun u => Below wr.heap.size wr u) (by kernel_rfl) (by kernel_rfl) (fun _ _ _ _ _ h => h) ((Below.refl _ _).drew) ?_
      iterate 7 (refine flow_take (v := ?_) rfl (by rfl) ?_ ?_; rotate_left 1; (· intro u hu; go_simp; try with_reducible rfl); simp only [Act.put, List.getElem_toArray, List.getElem_cons_succ, List.getElem_cons_zero, List.setIfInBounds_toArray, List.set_cons_zero, List.set_cons_succ])
      refine flow_turn rfl (by rfl) (fun K hK => ?_)
      simp only [List.getElem_toArray, List.getElem_cons_succ, List.getElem_cons_zero]
      have HKK := Lib.hid hK; clear hK
      go_simp
      refine (of_any _ _ _ t _ HN'.out (by omega) (HB'.out.drew) (HK'.out.below (Below.refl _ _).drew)).mono ?_
      rintro e w' ⟨rfl, rfl⟩
      refine HKK.out _ _ ⟨fun u => Below wr.heap.size wr u, (Below.refl _ _).drew, fun u hu => hu, ?_⟩
      clear HKK K
      refine flow_turn rfl (by rfl) (fun K hK => ?_)
      simp only [List.getElem_toArray, List.getElem_cons_succ, List.getElem_cons_zero]
      have HKK := Lib.hid hK; clear hK
      go_simp
      refine (of_any _ _ _ l _ HN.out (by omega) ((HC.out.below HG'.out).drew) (HK'.out.below (Below.refl _ _).drew)).mono ?_
      rintro e w' ⟨rfl, rfl⟩
      refine HKK.out _ _ ⟨fun u => Below wr.heap.size wr u, (Below.refl _ _).drew, fun u hu => hu, ?_⟩
      clear HKK K
      iterate 3 (refine flow_take (v := ?_) rfl (by rfl) ?_ ?_; rotate_left 1; (· intro u hu; go_simp; try with_reducible rfl); simp only [Act.put, List.getElem_toArray, List.getElem_cons_succ, List.getElem_cons_zero, List.setIfInBounds_toArray, List.set_cons_zero, List.set_cons_succ])
      refine flow_turn rfl (by rfl) (fun K hK => ?_)
      simp only [List.getElem_toArray, List.getElem_cons_succ, List.getElem_cons_zero]
      have HKK := Lib.hid hK; clear hK
      go_simp
      refine (awake_any _ (HK'.out.below (Below.refl _ _).drew)).mono ?_
      rintro e w3 ⟨rfl, hb⟩
      have HL3 := Lib.hid (((Below.refl wr.heap.size wr).drew).trans hb); clear hb
      refine HKK.out _ _ ⟨fun u => Below wr.heap.size wr u, HL3.out, fun u hu => hu, ?_⟩
      clear HKK K
      iterate 2 (refine flow_take (v := ?_) rfl (by rfl) ?_ ?_; rotate_left 1; (· intro u hu; go_simp; try with_reducible rfl); simp only [Act.put, List.getElem_toArray, List.getElem_cons_succ, List.getElem_cons_zero, List.setIfInBounds_toArray, List.set_cons_zero, List.set_cons_succ])
      refine flow_nil ?_
      go_wp2_with fail
      go_ret
      exact ⟨rfl, HG'.out.trans (HL3.out.mono HG'.out.size)⟩

theorem law_crcTurns (A : Option Addr) (n c : Nat) (x y z : Nat) (l : List UInt8) (w : World) (hn : l.length = n) (hl : n ≤ 140737488355328) (hx : x < 65536) (hy : y < 65536) (hz : z < 65536) (hB : Bytes w A l) (hk : Known w) :
    Calls Tryd.prog 3 #[.slice A n c, .agg #[.int .u16 (x : Int), .int .u16 (y : Int), .int .u16 (z : Int)]] w (Yes w) := by
  by_cases h : 1 ≤ n ∧ n ≤ 256
  · exact law_turns_in A n c x y z l w hn h.1 h.2 hx hy hz hB hk
  · exact law_turns_out A n c x y z w (by omega) hl hk
end Go.Proofs.YtpdbbiokndhghaaDoor
