/-
  CONTRACT of crc.Open: bytes that stand behind their sum are handed back, made anew; else none.
-/
import Derived.Test.YtpdbbiokndhghaaDoorConB
namespace Go.Proofs.YtpdbbiokndhghaaDoor
open Go Go.RowKit Go.Proofs

set_option maxHeartbeats 400000 in
theorem open_short (A : Option Addr) (n c : Nat) (w : World) (hn : n < 4) :
    Calls Tryd.prog 18 #[.slice A n c] w fun e w' => e = .returned (.tuple #[.slice none 0 0, .bool false]) ∧ Below w.heap.size w w' := by
  have hd : decide ((n : Int) < 4) = true := by simp; omega
  go_enter Tryd.func18, Tryd.ntmps18
  go_wp2_with fail
  refine wp_region_flow [(0, true), (1, true), (2, true), (3, true), (4, true), (5, true), (6, true), (7, true), (8, true), (9, true), (10, true), (11, true)] (fun u => Below w.heap.size w u) (by kernel_rfl) (by kernel_rfl) (fun _ _ _ _ _ h => h) ((Below.refl _ _).drew) ?_
  iterate 4 (refine flow_take (v := ?_) rfl (by rfl) ?_ ?_; rotate_left 1; (· intro u hu; clear hu; go_simp; try with_reducible rfl); simp only [Act.put, List.getElem_toArray, List.getElem_cons_succ, List.getElem_cons_zero, List.setIfInBounds_toArray, List.set_cons_zero, List.set_cons_succ])
  iterate 7 (refine flow_skip rfl (by rfl) ?_; simp only [Act.put, List.getElem_toArray, List.getElem_cons_succ, List.getElem_cons_zero, List.setIfInBounds_toArray, List.set_cons_zero, List.set_cons_succ])
  iterate 1 (refine flow_take (v := ?_) rfl (by rfl) ?_ ?_; rotate_left 1; (· intro u hu; clear hu; go_simp; try with_reducible rfl); simp only [Act.put, List.getElem_toArray, List.getElem_cons_succ, List.getElem_cons_zero, List.setIfInBounds_toArray, List.set_cons_zero, List.set_cons_succ])
  refine flow_nil ?_
  go_wp2
  go_ret2
  exact ⟨rfl, (Below.refl _ _).drew⟩

set_option maxHeartbeats 400000 in
theorem open_yes (A : Option Addr) (n c : Nat) (l : List UInt8) (w : World) (hn : l.length = n) (h4 : 4 ≤ n) (hl : n ≤ 140737488355328) (hnc : n ≤ c) (hB : Bytes w A l) (hk : Known w)
    (he : sealed (l.drop 4) = l) :
    Calls Tryd.prog 18 #[.slice A n c] w fun e w' => ∃ A' m c', e = .returned (.tuple #[.slice A' m c', .bool true]) ∧ (l.drop 4).length = m ∧ m ≤ c' ∧ c' ≤ maxLen ∧ Bytes w' A' (l.drop 4) ∧ Below w.heap.size w w' := by
  have hd : decide ((n : Int) < 4) = false := by simp; omega
  have h4i : (4 : Int) ≤ (n : Int) := by omega
  have HK := Lib.hid hk; clear hk
  have HC := Lib.hid hB; clear hB
  have tt := text_toList
  have hne : (sealed (l.drop 4) == l) = true := by rw [beq_iff_eq]; exact he
  clear he
  have HN := Lib.hid hn; clear hn
  have HD := HC.out.dropped 4 c (by have := HN.out; omega)
  obtain ⟨A4, hA4⟩ : ∃ A4, (if c = 4 then A else Option.map (fun x => ({ block := x.block, off := x.off + 4 } : Addr)) A) = A4 := ⟨_, rfl⟩
  rw [hA4] at HD
  have HD4 := Lib.hid HD; clear HD
  go_enter Tryd.func18, Tryd.ntmps18
  go_wp2_with fail
  refine wp_region_flow [(0, true), (1, true), (2, true), (3, true), (4, true), (5, true), (8, true), (9, true), (6, false), (7, true), (10, true), (11, true)] (fun u => Below w.heap.size w u) (by kernel_rfl) (by kernel_rfl) (fun _ _ _ _ _ h => h) ((Below.refl _ _).drew) ?_
  iterate 7 (refine flow_take (v := ?_) rfl (by rfl) ?_ ?_; rotate_left 1; (· intro u hu; clear hu; go_simp; try with_reducible rfl); simp only [Act.put, List.getElem_toArray, List.getElem_cons_succ, List.getElem_cons_zero, List.setIfInBounds_toArray, List.set_cons_zero, List.set_cons_succ])
  refine flow_take (v := ?_) rfl (by rfl) ?_ ?_
  rotate_left 1
  · intro u hu
    have ht := run_text (P := Tryd.prog) u 22 9 5 Tryd.underlying22 Tryd.underlying5 Tryd.underlying9 A n c l HN.out (HC.out.below hu)
    clear hu
    go_simp
    try with_reducible rfl
  simp only [Act.put, List.getElem_toArray, List.getElem_cons_succ, List.getElem_cons_zero, List.setIfInBounds_toArray, List.set_cons_zero, List.set_cons_succ]
  refine flow_turn rfl (by rfl) (fun K hK => ?_)
  simp only [List.getElem_toArray, List.getElem_cons_succ, List.getElem_cons_zero]
  have HKK := Lib.hid hK; clear hK
  go_simp
  refine (seal_any A4 _ _ (l.drop 4) _ (by rw [List.length_drop, HN.out]) (by omega) HD4.out.drew (HK.out.below (Below.refl _ _).drew)).mono ?_
  rintro e w1 ⟨A1, n1, c1, rfl, hn1, h1, h2, hB1, hb1⟩
  have HN1 := Lib.hid hn1; clear hn1
  have HB1 := Lib.hid hB1; clear hB1
  have HBL := Lib.hid hb1; clear hb1
  refine HKK.out _ _ ⟨fun u => Below w1.heap.size w1 u, Below.refl _ _, fun u hu => ?_, ?_⟩
  · exact Below.trans ((Below.refl _ _).drew) (Below.trans HBL.out (Below.mono hu HBL.out.size))
  have hb1 : Hid (Below w.heap.size w w1) := Below.trans ((Below.refl _ _).drew) HBL.out
  clear HKK K
  refine flow_take (v := ?_) rfl (by rfl) ?_ ?_
  rotate_left 1
  · intro u hu
    have ht := run_text (P := Tryd.prog) u 22 9 5 Tryd.underlying22 Tryd.underlying5 Tryd.underlying9 A1 n1 c1 _ HN1.out (HB1.out.below hu)
    clear hu
    go_simp
    try with_reducible rfl
  simp only [Act.put, List.getElem_toArray, List.getElem_cons_succ, List.getElem_cons_zero, List.setIfInBounds_toArray, List.set_cons_zero, List.set_cons_succ]
  iterate 2 (refine flow_take (v := ?_) rfl (by rfl) ?_ ?_; rotate_left 1; (· intro u hu; clear hu; go_simp; try with_reducible rfl); simp only [Act.put, List.getElem_toArray, List.getElem_cons_succ, List.getElem_cons_zero, List.setIfInBounds_toArray, List.set_cons_zero, List.set_cons_succ])
  refine flow_nil ?_
  go_wp2_with fail
  refine (clone_any A4 _ _ (l.drop 4) _ (by rw [List.length_drop, HN.out]) (by omega) (HD4.out.below hb1.out)).mono ?_
  rintro e w2 ⟨A2, n2, c2, rfl, hn2, k1, k2, hB2, hb2⟩
  have HN2 := Lib.hid hn2; clear hn2
  have HB2 := Lib.hid hB2; clear hB2
  have HBL2 := Lib.hid hb2; clear hb2
  go_wp2_with fail
  go_ret2
  exact ⟨A2, n2, c2, rfl, HN2.out, k1, k2, HB2.out, Below.trans hb1.out (Below.mono HBL2.out hb1.out.size)⟩

set_option maxHeartbeats 400000 in
theorem open_no (A : Option Addr) (n c : Nat) (l : List UInt8) (w : World) (hn : l.length = n) (h4 : 4 ≤ n) (hl : n ≤ 140737488355328) (hnc : n ≤ c) (hB : Bytes w A l) (hk : Known w)
    (he : sealed (l.drop 4) ≠ l) :
    Calls Tryd.prog 18 #[.slice A n c] w fun e w' => e = .returned (.tuple #[.slice none 0 0, .bool false]) ∧ Below w.heap.size w w' := by
  have hd : decide ((n : Int) < 4) = false := by simp; omega
  have h4i : (4 : Int) ≤ (n : Int) := by omega
  have HK := Lib.hid hk; clear hk
  have HC := Lib.hid hB; clear hB
  have tt := text_toList
  have hne : (sealed (l.drop 4) == l) = false := by rw [beq_eq_false_iff_ne]; exact he
  clear he
  have HN := Lib.hid hn; clear hn
  have HD := HC.out.dropped 4 c (by have := HN.out; omega)
  obtain ⟨A4, hA4⟩ : ∃ A4, (if c = 4 then A else Option.map (fun x => ({ block := x.block, off := x.off + 4 } : Addr)) A) = A4 := ⟨_, rfl⟩
  rw [hA4] at HD
  have HD4 := Lib.hid HD; clear HD
  go_enter Tryd.func18, Tryd.ntmps18
  go_wp2_with fail
  refine wp_region_flow [(0, true), (1, true), (2, true), (3, true), (4, true), (5, true), (8, true), (9, true), (6, false), (7, true), (10, true), (11, true)] (fun u => Below w.heap.size w u) (by kernel_rfl) (by kernel_rfl) (fun _ _ _ _ _ h => h) ((Below.refl _ _).drew) ?_
  iterate 7 (refine flow_take (v := ?_) rfl (by rfl) ?_ ?_; rotate_left 1; (· intro u hu; clear hu; go_simp; try with_reducible rfl); simp only [Act.put, List.getElem_toArray, List.getElem_cons_succ, List.getElem_cons_zero, List.setIfInBounds_toArray, List.set_cons_zero, List.set_cons_succ])
  refine flow_take (v := ?_) rfl (by rfl) ?_ ?_
  rotate_left 1
  · intro u hu
    have ht := run_text (P := Tryd.prog) u 22 9 5 Tryd.underlying22 Tryd.underlying5 Tryd.underlying9 A n c l HN.out (HC.out.below hu)
    clear hu
    go_simp
    try with_reducible rfl
  simp only [Act.put, List.getElem_toArray, List.getElem_cons_succ, List.getElem_cons_zero, List.setIfInBounds_toArray, List.set_cons_zero, List.set_cons_succ]
  refine flow_turn rfl (by rfl) (fun K hK => ?_)
  simp only [List.getElem_toArray, List.getElem_cons_succ, List.getElem_cons_zero]
  have HKK := Lib.hid hK; clear hK
  go_simp
  refine (seal_any A4 _ _ (l.drop 4) _ (by rw [List.length_drop, HN.out]) (by omega) HD4.out.drew (HK.out.below (Below.refl _ _).drew)).mono ?_
  rintro e w1 ⟨A1, n1, c1, rfl, hn1, h1, h2, hB1, hb1⟩
  have HN1 := Lib.hid hn1; clear hn1
  have HB1 := Lib.hid hB1; clear hB1
  have HBL := Lib.hid hb1; clear hb1
  refine HKK.out _ _ ⟨fun u => Below w1.heap.size w1 u, Below.refl _ _, fun u hu => ?_, ?_⟩
  · exact Below.trans ((Below.refl _ _).drew) (Below.trans HBL.out (Below.mono hu HBL.out.size))
  have hb1 : Hid (Below w.heap.size w w1) := Below.trans ((Below.refl _ _).drew) HBL.out
  clear HKK K
  refine flow_take (v := ?_) rfl (by rfl) ?_ ?_
  rotate_left 1
  · intro u hu
    have ht := run_text (P := Tryd.prog) u 22 9 5 Tryd.underlying22 Tryd.underlying5 Tryd.underlying9 A1 n1 c1 _ HN1.out (HB1.out.below hu)
    clear hu
    go_simp
    try with_reducible rfl
  simp only [Act.put, List.getElem_toArray, List.getElem_cons_succ, List.getElem_cons_zero, List.setIfInBounds_toArray, List.set_cons_zero, List.set_cons_succ]
  iterate 2 (refine flow_take (v := ?_) rfl (by rfl) ?_ ?_; rotate_left 1; (· intro u hu; clear hu; go_simp; try with_reducible rfl); simp only [Act.put, List.getElem_toArray, List.getElem_cons_succ, List.getElem_cons_zero, List.setIfInBounds_toArray, List.set_cons_zero, List.set_cons_succ])
  refine flow_nil ?_
  go_wp2_with fail
  go_ret2
  exact ⟨rfl, hb1.out⟩
end Go.Proofs.YtpdbbiokndhghaaDoor
