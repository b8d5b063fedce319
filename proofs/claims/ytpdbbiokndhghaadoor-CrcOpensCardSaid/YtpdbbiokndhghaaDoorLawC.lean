/-
  THE LAW CrcOpens WALKED: at any bytes that lie in memory, in every world in which the table holds its numbers, the call returns true. The list is at most 2^47 bytes.
-/
import Derived.Test.YtpdbbiokndhghaaDoorConC
namespace Go.Proofs.YtpdbbiokndhghaaDoor
open Go Go.RowKit Go.Proofs

set_option maxHeartbeats 800000 in
theorem law_opens_short (A : Option Addr) (n c : Nat) (w : World) (hn : n < 4) (hk : Known w) :
    Calls Tryd.prog 6 #[.slice A n c] w (Yes w) := by
  have HK := Lib.hid hk; clear hk
  have hd : decide ((n : Int) < 4) = true := by simp; omega
  go_enter Tryd.func6, Tryd.ntmps6
  go_wp2_with fail
  refine (open_short _ _ _ _ hn).mono ?_
  rintro e w1 ⟨rfl, hb⟩
  have HB := Lib.hid hb; clear hb
  go_wp2_with fail
  refine wp_region_flow [(0, true), (1, true), (2, true), (3, true), (4, true), (5, true), (6, true), (7, true), (8, true), (9, true), (10, true), (11, true)] (fun u => Below w1.heap.size w1 u) (by kernel_rfl) (by kernel_rfl) (fun _ _ _ _ _ h => h) ((Below.refl _ _).drew) ?_
  iterate 4 (refine flow_take (v := ?_) rfl (by rfl) ?_ ?_; rotate_left 1; (· intro u hu; go_simp; try with_reducible rfl); simp only [Act.put, List.getElem_toArray, List.getElem_cons_succ, List.getElem_cons_zero, List.setIfInBounds_toArray, List.set_cons_zero, List.set_cons_succ])
  iterate 7 (refine flow_skip rfl (by rfl) ?_; simp only [Act.put, List.getElem_toArray, List.getElem_cons_succ, List.getElem_cons_zero, List.setIfInBounds_toArray, List.set_cons_zero, List.set_cons_succ])
  iterate 1 (refine flow_take (v := ?_) rfl (by rfl) ?_ ?_; rotate_left 1; (· intro u hu; go_simp; try with_reducible rfl); simp only [Act.put, List.getElem_toArray, List.getElem_cons_succ, List.getElem_cons_zero, List.setIfInBounds_toArray, List.set_cons_zero, List.set_cons_succ])
  refine flow_nil ?_
  go_wp2_with fail
  refine (awake_any _ (HK.out.below HB.out.drew)).mono ?_
  rintro e w2 ⟨rfl, hb⟩
  have HB2 := Lib.hid hb; clear hb
  go_wp2_with fail
  go_ret
  exact ⟨rfl, HB.out.trans (((Below.refl _ _).drew.trans HB2.out).mono HB.out.size)⟩

set_option maxHeartbeats 800000 in
theorem law_opens_no (A : Option Addr) (n c : Nat) (l : List UInt8) (w : World) (hn : l.length = n) (h4 : 4 ≤ n) (hl : n ≤ 140737488355328) (hnc : n ≤ c) (hB : Bytes w A l) (hk : Known w)
    (he : sealed (l.drop 4) ≠ l) : Calls Tryd.prog 6 #[.slice A n c] w (Yes w) := by
  have HN := Lib.hid hn; clear hn
  have HK := Lib.hid hk; clear hk
  have HC := Lib.hid hB; clear hB
  have hd : decide ((n : Int) < 4) = false := by simp; omega
  have h4i : (4 : Int) ≤ (n : Int) := by omega
  have tt := text_toList
  have hne : (sealed (l.drop 4) == l) = false := by rw [beq_eq_false_iff_ne]; exact he
  have HE := Lib.hid he; clear he
  have HD := HC.out.dropped 4 c (by have := HN.out; omega)
  obtain ⟨A4, hA4⟩ : ∃ A4, (if c = 4 then A else Option.map (fun x => ({ block := x.block, off := x.off + 4 } : Addr)) A) = A4 := ⟨_, rfl⟩
  rw [hA4] at HD
  have HD4 := Lib.hid HD; clear HD
  go_enter Tryd.func6, Tryd.ntmps6
  go_wp2_with fail
  refine (open_no _ _ _ l _ HN.out h4 hl hnc HC.out HK.out HE.out).mono ?_
  rintro e w1 ⟨rfl, hb⟩
  have HB := Lib.hid hb; clear hb
  have x0 := text_at (c := c) HN.out (HC.out.below HB.out)
  go_wp2_with fail
  refine wp_region_flow [(0, true), (1, true), (2, true), (3, true), (4, true), (5, true), (8, true), (9, true), (6, false), (7, true), (10, true), (11, true)] (fun u => Below w1.heap.size w1 u) (by kernel_rfl) (by kernel_rfl) (fun _ _ _ _ _ h => h) ((Below.refl _ _).drew) ?_
  iterate 8 (refine flow_take (v := ?_) rfl (by rfl) ?_ ?_; rotate_left 1; (· intro u hu; go_simp; try with_reducible rfl); simp only [Act.put, List.getElem_toArray, List.getElem_cons_succ, List.getElem_cons_zero, List.setIfInBounds_toArray, List.set_cons_zero, List.set_cons_succ])
  clear x0
  refine flow_turn rfl (by rfl) (fun K hK => ?_)
  simp only [List.getElem_toArray, List.getElem_cons_succ, List.getElem_cons_zero]
  have HKK := Lib.hid hK; clear hK
  go_simp
  refine (refSeal_any A4 _ _ (l.drop 4) _ (by rw [List.length_drop, HN.out]) (by omega) ((HD4.out.below HB.out).drew)).mono ?_
  rintro e w2 ⟨A2, n2, c2, rfl, hn2, k1, k2, hB2, hb2⟩
  have HL2 := Lib.hid (((Below.refl w1.heap.size w1).drew).trans hb2)
  have HG2 := Lib.hid (HB.out.trans (HL2.out.mono HB.out.size))
  have x2 := text_at (c := c2) hn2 hB2
  clear hn2 hB2 hb2
  refine HKK.out _ _ ⟨fun u => Below w2.heap.size w2 u, Below.refl _ _, fun u hu => HL2.out.trans (hu.mono HL2.out.size), ?_⟩
  clear HKK K
  iterate 3 (refine flow_take (v := ?_) rfl (by rfl) ?_ ?_; rotate_left 1; (· intro u hu; go_simp; try with_reducible rfl); simp only [Act.put, List.getElem_toArray, List.getElem_cons_succ, List.getElem_cons_zero, List.setIfInBounds_toArray, List.set_cons_zero, List.set_cons_succ])
  refine flow_nil ?_
  go_wp2_with fail
  refine (awake_any _ (HK.out.below HG2.out)).mono ?_
  rintro e w3 ⟨rfl, hb⟩
  have HB3 := Lib.hid hb; clear hb
  go_wp2_with fail
  go_ret
  exact ⟨rfl, HG2.out.trans (HB3.out.mono HG2.out.size)⟩

set_option maxHeartbeats 800000 in
theorem law_opens_yes (A : Option Addr) (n c : Nat) (l : List UInt8) (w : World) (hn : l.length = n) (h4 : 4 ≤ n) (hl : n ≤ 140737488355328) (hnc : n ≤ c) (hB : Bytes w A l) (hk : Known w)
    (he : sealed (l.drop 4) = l) : Calls Tryd.prog 6 #[.slice A n c] w (Yes w) := by
  have HN := Lib.hid hn; clear hn
  have HK := Lib.hid hk; clear hk
  have HC := Lib.hid hB; clear hB
  have hd : decide ((n : Int) < 4) = false := by simp; omega
  have h4i : (4 : Int) ≤ (n : Int) := by omega
  have tt := text_toList
  have hne : (sealed (l.drop 4) == l) = true := by rw [beq_iff_eq]; exact he
  have HE := Lib.hid he; clear he
  have HD := HC.out.dropped 4 c (by have := HN.out; omega)
  obtain ⟨A4, hA4⟩ : ∃ A4, (if c = 4 then A else Option.map (fun x => ({ block := x.block, off := x.off + 4 } : Addr)) A) = A4 := ⟨_, rfl⟩
  rw [hA4] at HD
  have HD4 := Lib.hid HD; clear HD
  go_enter Tryd.func6, Tryd.ntmps6
  go_wp2_with fail
  refine (open_yes _ _ _ l _ HN.out h4 hl hnc HC.out HK.out HE.out).mono ?_
  rintro e w1 ⟨A1, n1, c1, rfl, hn1, h1, h2, hB1, hb⟩
  have HN1 := Lib.hid hn1; clear hn1
  have HB1 := Lib.hid hB1; clear hB1
  have HB := Lib.hid hb; clear hb
  have x0 := text_at (c := c) HN.out (HC.out.below HB.out)
  go_wp2_with fail
  refine wp_region_flow [(0, true), (1, true), (2, true), (3, true), (4, true), (5, true), (8, true), (9, true), (6, false), (7, true), (10, true), (11, true)] (fun u => Below w1.heap.size w1 u) (by kernel_rfl) (by kernel_rfl) (fun _ _ _ _ _ h => h) ((Below.refl _ _).drew) ?_
  iterate 8 (refine flow_take (v := ?_) rfl (by rfl) ?_ ?_; rotate_left 1; (· intro u hu; go_simp; try with_reducible rfl); simp only [Act.put, List.getElem_toArray, List.getElem_cons_succ, List.getElem_cons_zero, List.setIfInBounds_toArray, List.set_cons_zero, List.set_cons_succ])
  clear x0
  refine flow_turn rfl (by rfl) (fun K hK => ?_)
  simp only [List.getElem_toArray, List.getElem_cons_succ, List.getElem_cons_zero]
  have HKK := Lib.hid hK; clear hK
  go_simp
  refine (refSeal_any A4 _ _ (l.drop 4) _ (by rw [List.length_drop, HN.out]) (by omega) ((HD4.out.below HB.out).drew)).mono ?_
  rintro e w2 ⟨A2, n2, c2, rfl, hn2, k1, k2, hB2, hb2⟩
  have HL2 := Lib.hid (((Below.refl w1.heap.size w1).drew).trans hb2)
  have HG2 := Lib.hid (HB.out.trans (HL2.out.mono HB.out.size))
  have x2 := text_at (c := c2) hn2 hB2
  clear hn2 hB2 hb2
  refine HKK.out _ _ ⟨fun u => Below w2.heap.size w2 u, Below.refl _ _, fun u hu => HL2.out.trans (hu.mono HL2.out.size), ?_⟩
  clear HKK K
  iterate 3 (refine flow_take (v := ?_) rfl (by rfl) ?_ ?_; rotate_left 1; (· intro u hu; go_simp; try with_reducible rfl); simp only [Act.put, List.getElem_toArray, List.getElem_cons_succ, List.getElem_cons_zero, List.setIfInBounds_toArray, List.set_cons_zero, List.set_cons_succ])
  refine flow_nil ?_
  go_wp2_with fail
  clear x2 hne
  have x1 := text_at (c := c1) HN1.out (HB1.out.below HL2.out)
  have x4 := text_at (A := A4) (n := n - 4) (c := c - 4) (by rw [List.length_drop, HN.out]) (HD4.out.below HG2.out)
  refine wp_region_flow [(0, true), (1, true), (2, true), (3, true), (4, true), (5, true), (6, true), (7, true), (8, true), (9, true), (10, false), (11, true), (12, true)] (fun u => Below w2.heap.size w2 u) (by kernel_rfl) (by kernel_rfl) (fun _ _ _ _ _ h => h) ((Below.refl _ _).drew) ?_
  iterate 10 (refine flow_take (v := ?_) rfl (by rfl) ?_ ?_; rotate_left 1; (· intro u hu; go_simp; try with_reducible rfl); simp only [Act.put, List.getElem_toArray, List.getElem_cons_succ, List.getElem_cons_zero, List.setIfInBounds_toArray, List.set_cons_zero, List.set_cons_succ])
  refine flow_turn rfl (by rfl) (fun K hK => ?_)
  simp only [List.getElem_toArray, List.getElem_cons_succ, List.getElem_cons_zero]
  have HKK := Lib.hid hK; clear hK
  go_simp
  refine (awake_any _ ((HK.out.below HG2.out).below (Below.refl _ _).drew)).mono ?_
  rintro e w3 ⟨rfl, hb⟩
  have HL3 := Lib.hid (((Below.refl w2.heap.size w2).drew).trans hb); clear hb
  refine HKK.out _ _ ⟨fun u => Below w3.heap.size w3 u, Below.refl _ _, fun u hu => HL3.out.trans (hu.mono HL3.out.size), ?_⟩
  clear HKK K
  iterate 2 (refine flow_take (v := ?_) rfl (by rfl) ?_ ?_; rotate_left 1; (· intro u hu; go_simp; try with_reducible rfl); simp only [Act.put, List.getElem_toArray, List.getElem_cons_succ, List.getElem_cons_zero, List.setIfInBounds_toArray, List.set_cons_zero, List.set_cons_succ])
  refine flow_nil ?_
  go_wp2_with fail
  go_ret
  exact ⟨rfl, HG2.out.trans (HL3.out.mono HG2.out.size)⟩

theorem law_crcOpens (A : Option Addr) (n c : Nat) (l : List UInt8) (w : World) (hn : l.length = n) (hl : n ≤ 140737488355328) (hnc : n ≤ c) (hB : Bytes w A l) (hk : Known w) :
    Calls Tryd.prog 6 #[.slice A n c] w (Yes w) := by
  rcases Nat.lt_or_ge n 4 with h | h
  · exact law_opens_short A n c w h hk
  · by_cases he : sealed (l.drop 4) = l
    · exact law_opens_yes A n c l w hn h hl hnc hB hk he
    · exact law_opens_no A n c l w hn h hl hnc hB hk he
end Go.Proofs.YtpdbbiokndhghaaDoor
