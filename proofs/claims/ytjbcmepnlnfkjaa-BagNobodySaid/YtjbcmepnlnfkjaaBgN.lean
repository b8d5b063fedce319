/-
  THE LAW BagNobody WALKED.
-/
import Derived.Test.YtjbcmepnlnfkjaaBgL
namespace Go.Proofs.Ytjbcmepnlnfkjaa
open Go Go.RowKit Go.Proofs

set_option maxRecDepth 8000 in
set_option maxHeartbeats 1600000 in
theorem law_bagNobody (d a b : Int) (A : Option Addr) (n c : Nat) (w : World) : Calls Try.prog 7 #[.agg #[.int .i64 d, .int .i64 a, .int .i64 b, .slice A n c]] w (Yes w) := by
  go_enter Try.func7, Try.ntmps7
  go_wp2_with fail
  have k1 : (w.alloc (.cells #[.int .i64 d, .int .i64 a, .int .i64 b, .slice A n c] 28)).cell? ⟨w.heap.size, 1, none⟩ = some (.int .i64 a) := by simp
  have k2 : (w.alloc (.cells #[.int .i64 d, .int .i64 a, .int .i64 b, .slice A n c] 28)).cell? ⟨w.heap.size, 2, none⟩ = some (.int .i64 b) := by simp
  have k3 : (w.alloc (.cells #[.int .i64 d, .int .i64 a, .int .i64 b, .slice A n c] 28)).cell? ⟨w.heap.size, 3, none⟩ = some (.slice A n c) := by simp
  have hlt : w.heap.size < (w.alloc (.cells #[.int .i64 d, .int .i64 a, .int .i64 b, .slice A n c] 28)).heap.size := by simp
  have HW : Hid (Below w.heap.size w (w.alloc (.cells #[.int .i64 d, .int .i64 a, .int .i64 b, .slice A n c] 28))) := (Below.refl _ _).alloc (Nat.le_refl _) _
  generalize w.alloc (.cells #[.int .i64 d, .int .i64 a, .int .i64 b, .slice A n c] 28) = wa at *
  have K1 := Lib.hid k1
  have K2 := Lib.hid k2
  have K3 := Lib.hid k3
  have HLT := Lib.hid hlt
  clear k1 k2 k3 hlt
  go_loopw [3] (fun y wr => ∃ k : Nat, y = .int .i64 k ∧ k ≤ 2 ∧ Below wa.heap.size wa wr) (fun y _ => 2 - (intOf y).toNat)
  case atStart => exact ⟨0, rfl, by omega, Below.refl _ _⟩
  case round =>
    obtain ⟨k, rfl, hk, hb⟩ := hrel
    have HB := Lib.hid hb; clear hb
    by_cases h2 : k = 2
    · subst h2
      go_wp2_with fail
      refine (awake_any wr).mono ?_
      rintro e w2 ⟨rfl, hb2⟩
      have HB2 := Lib.hid (HW.out.trans ((HB.out.trans (hb2.mono HB.out.size)).mono HW.out.size)); clear hb2
      go_wp2_with fail
      go_ret
      exact ⟨rfl, HB2.out⟩
    · have h01 : k = 0 ∨ k = 1 := by omega
      clear h2 hk
      rcases h01 with rfl | rfl
      · have HN : Hid (Nb wr none) := .inl rfl
        have HW1 := HB
        go_wp2_with fail
        refine (part_no none 1 2 _ HN.out).mono ?_
        rintro e w2 ⟨⟨v, rfl⟩, rfl⟩
        go_wp2_with fail
        refine (heal_no none _ HN.out).mono ?_
        rintro e w2 ⟨⟨v', rfl⟩, rfl⟩
        go_wp2_with fail
        refine (look_no none _ HN.out).mono ?_
        rintro e w2 ⟨rfl, rfl⟩
        unfold noMsg
        go_wp2_with fail
        refine (deliver_no none _ HN.out).mono ?_
        rintro e w2 ⟨rfl, hb2⟩
        have HN2 := Lib.hid (HN.out.below hb2)
        have HW2 := Lib.hid (HW1.out.trans (hb2.mono HW1.out.size)); clear hb2
        have k1 := (HW2.out.cell (p := ⟨w.heap.size, 1, none⟩) HLT.out).trans K1.out
        have k2 := (HW2.out.cell (p := ⟨w.heap.size, 2, none⟩) HLT.out).trans K2.out
        have k3 := (HW2.out.cell (p := ⟨w.heap.size, 3, none⟩) HLT.out).trans K3.out
        unfold noMsg
        go_wp2_with fail
        refine (post_no none a b A n c _ HN2.out).mono ?_
        rintro e w3 ⟨rfl, rfl⟩
        go_wp2_with fail
        refine (len_no none _ HN2.out).mono ?_
        rintro e w3 ⟨rfl, rfl⟩
        go_wp2_with fail
        refine (drop_no none _ HN2.out).mono ?_
        rintro e w3 ⟨rfl, rfl⟩
        go_wp2_with fail
        refine (twice_no none _ HN2.out).mono ?_
        rintro e w3 ⟨rfl, rfl⟩
        go_wp2_with fail
        refine (parted_no none 1 2 _ HN2.out).mono ?_
        rintro e w3 ⟨rfl, hb3⟩
        have HN3 := Lib.hid (HN2.out.below hb3)
        have HW3 := Lib.hid (HW2.out.trans (hb3.mono HW2.out.size)); clear hb3
        clear k1 k2 k3
        have k1 := (HW3.out.cell (p := ⟨w.heap.size, 1, none⟩) HLT.out).trans K1.out
        go_wp2_with fail
        refine (clear_no none a _ HN3.out).mono ?_
        rintro e w4 ⟨rfl, hb4⟩
        have HW4 := Lib.hid (HW3.out.trans (hb4.mono HW3.out.size)); clear hb4
        clear k1
        go_wp2_with fail
        go_roundw
        case rel => exact ⟨1, by go_num, by omega, HW4.out⟩
        case measure => simp [intOf]
      · go_wp2_with fail
        have HN : Hid (Nb (wr.alloc (.cells #[.slice none 0 0, .map none] 50)) (some ⟨wr.heap.size, 0, none⟩)) := .inr ⟨_, rfl, heap_alloc_new wr _⟩
        have HW1 : Hid (Below wa.heap.size wa (wr.alloc (.cells #[.slice none 0 0, .map none] 50))) := HB.out.alloc HB.out.size _
        generalize hp : (some (⟨wr.heap.size, 0, none⟩ : Addr)) = p at *
        generalize wr.alloc (.cells #[.slice none 0 0, .map none] 50) = w1 at *
        refine (part_no p 1 2 _ HN.out).mono ?_
        rintro e w2 ⟨⟨v, rfl⟩, rfl⟩
        go_wp2_with fail
        refine (heal_no p _ HN.out).mono ?_
        rintro e w2 ⟨⟨v', rfl⟩, rfl⟩
        go_wp2_with fail
        refine (look_no p _ HN.out).mono ?_
        rintro e w2 ⟨rfl, rfl⟩
        unfold noMsg
        go_wp2_with fail
        refine (deliver_no p _ HN.out).mono ?_
        rintro e w2 ⟨rfl, hb2⟩
        have HN2 := Lib.hid (HN.out.below hb2)
        have HW2 := Lib.hid (HW1.out.trans (hb2.mono HW1.out.size)); clear hb2
        have k1 := (HW2.out.cell (p := ⟨w.heap.size, 1, none⟩) HLT.out).trans K1.out
        have k2 := (HW2.out.cell (p := ⟨w.heap.size, 2, none⟩) HLT.out).trans K2.out
        have k3 := (HW2.out.cell (p := ⟨w.heap.size, 3, none⟩) HLT.out).trans K3.out
        unfold noMsg
        go_wp2_with fail
        refine (post_no p a b A n c _ HN2.out).mono ?_
        rintro e w3 ⟨rfl, rfl⟩
        go_wp2_with fail
        refine (len_no p _ HN2.out).mono ?_
        rintro e w3 ⟨rfl, rfl⟩
        go_wp2_with fail
        refine (drop_no p _ HN2.out).mono ?_
        rintro e w3 ⟨rfl, rfl⟩
        go_wp2_with fail
        refine (twice_no p _ HN2.out).mono ?_
        rintro e w3 ⟨rfl, rfl⟩
        go_wp2_with fail
        refine (parted_no p 1 2 _ HN2.out).mono ?_
        rintro e w3 ⟨rfl, hb3⟩
        have HN3 := Lib.hid (HN2.out.below hb3)
        have HW3 := Lib.hid (HW2.out.trans (hb3.mono HW2.out.size)); clear hb3
        clear k1 k2 k3
        have k1 := (HW3.out.cell (p := ⟨w.heap.size, 1, none⟩) HLT.out).trans K1.out
        go_wp2_with fail
        refine (clear_no p a _ HN3.out).mono ?_
        rintro e w4 ⟨rfl, hb4⟩
        have HW4 := Lib.hid (HW3.out.trans (hb4.mono HW3.out.size)); clear hb4
        clear k1
        go_wp2_with fail
        go_roundw
        case rel => exact ⟨2, by go_num, by omega, HW4.out⟩
        case measure => simp [intOf]
end Go.Proofs.Ytjbcmepnlnfkjaa
