/-
  THE LAW CrcSeals WALKED: at any bytes that lie in memory, in every world in which the table holds its numbers, the call returns true. The list is at most 2^47 - 4 bytes.
-/
import Derived.Test.YtpdbbiokndhghaaDoorConC
namespace Go.Proofs.YtpdbbiokndhghaaDoor
open Go Go.RowKit Go.Proofs

theorem sealed_drop (l : List UInt8) : (sealed l).drop 4 = l := by simp [sealed, be4]
theorem sealed_length (l : List UInt8) : (sealed l).length = l.length + 4 := by simp [sealed, be4]

set_option maxHeartbeats 1600000 in
theorem law_crcSeals (A : Option Addr) (n c : Nat) (l : List UInt8) (w : World) (hn : l.length = n) (hl : n + 4 ≤ 140737488355328) (hB : Bytes w A l) (hk : Known w) :
    Calls Tryd.prog 5 #[.slice A n c] w (Yes w) := by
  have HN := Lib.hid hn; clear hn
  have HK := Lib.hid hk; clear hk
  have HC := Lib.hid hB; clear hB
  have tt := text_toList
  obtain ⟨i0, hi, hz0, hz1, hz2⟩ := info_parts info5
  go_enter Tryd.func5, Tryd.ntmps5
  go_wp2_with (at_builtin; refine wpList_append_bytes _ rfl _ _ 22 rfl w.heap.size 5 i0 (.int .u8 0) Tryd.underlying22 hi hz0 hz1 hz2 rfl _ 0 [] rfl (own_lit _ [] 5 _ (Nat.le_refl _) (by decide)) _ _ _ l rfl HN.out (HC.out.alloc _) (by omega) (by simp) ?_)
  intro v1 w1 hown hg
  have HG := Lib.hid (((Below.refl w.heap.size w).alloc (Nat.le_refl _) _).grown hg (by simp) (by simp [Value.ownBlock])); clear hg
  obtain ⟨A1, c1, rfl, hm, h1, h2, hB1⟩ := bytes_of_own (l := l) (by simpa using hown)
  clear hown hm
  have HB1 := Lib.hid hB1; clear hB1
  go_wp2_with fail
  refine (seal_any _ _ _ l _ HN.out (by omega) HB1.out (HK.out.below HG.out)).mono ?_
  rintro e w2 ⟨A2, n2, c2, rfl, hn2, h3, h4, hB2, hb2⟩
  have hlen : n2 = n + 4 := by rw [← hn2, sealed_length, HN.out]
  subst hlen
  have HN2 := Lib.hid hn2; clear hn2
  have HB2 := Lib.hid hB2; clear hB2
  have HG2 := Lib.hid (HG.out.trans (hb2.mono HG.out.size))
  have HB1' := Lib.hid (HB1.out.below hb2)
  clear hb2
  go_wp2_with fail
  refine (open_yes _ _ _ (sealed l) _ HN2.out (by omega) (by omega) (by omega) HB2.out (HK.out.below HG2.out) (by rw [sealed_drop])).mono ?_
  rw [sealed_drop]
  rintro e w3 ⟨A3, n3, c3, rfl, hn3, h5, h6, hB3, hb3⟩
  have HN3 := Lib.hid hn3; clear hn3
  have HB3 := Lib.hid hB3; clear hB3
  have HG3 := Lib.hid (HG2.out.trans (hb3.mono HG2.out.size))
  have HB2' := Lib.hid (HB2.out.below hb3)
  have HB1'' := Lib.hid (HB1'.out.below hb3)
  clear hb3
  go_wp2_with fail
  have x2 := text_at (c := c2) HN2.out HB2'.out
  refine wp_region_flow [(0, true), (1, true), (2, true), (3, false), (4, true), (5, true), (6, true), (7, true), (8, true), (9, true), (10, true), (11, true), (12, true), (13, true), (14, true), (15, true), (16, true), (17, true), (18, true), (19, true), (20, true), (21, true), (22, true), (23, true), (24, false), (25, true), (26, true)] (fun u => Below w3.heap.size w3 u) (by kernel_rfl) (by kernel_rfl) (fun _ _ _ _ _ h => h) ((Below.refl _ _).drew) ?_
  iterate 3 (refine flow_take (v := ?_) rfl (by rfl) ?_ ?_; rotate_left 1; (· intro u hu; go_simp; try with_reducible rfl); simp only [Act.put, List.getElem_toArray, List.getElem_cons_succ, List.getElem_cons_zero, List.setIfInBounds_toArray, List.set_cons_zero, List.set_cons_succ])
  clear x2
  refine flow_turn rfl (by rfl) (fun K hK => ?_)
  simp only [List.getElem_toArray, List.getElem_cons_succ, List.getElem_cons_zero]
  have HKK := Lib.hid hK; clear hK
  go_simp
  refine (refSeal_any _ _ _ l _ HN.out (by omega) ((HC.out.below HG3.out).drew)).mono ?_
  rintro e w4 ⟨A4, n4, c4, rfl, hn4, k1, k2, hB4, hb4⟩
  have HL4 := Lib.hid (((Below.refl w3.heap.size w3).drew).trans hb4)
  clear hb4
  have HG4 := Lib.hid (HG3.out.trans (HL4.out.mono HG3.out.size))
  have x1 := text_at (c := c1) HN.out (HB1''.out.below HL4.out)
  have x3 := text_at (c := c3) HN3.out (HB3.out.below HL4.out)
  have x4 := text_at (c := c4) hn4 hB4
  have x0 := text_at (c := c) HN.out (HC.out.below HG4.out)
  clear hn4 hB4
  refine HKK.out _ _ ⟨fun u => Below w4.heap.size w4 u, Below.refl _ _, fun u hu => HL4.out.trans (hu.mono HL4.out.size), ?_⟩
  clear HKK K
  iterate 20 (refine flow_take (v := ?_) rfl (by rfl) ?_ ?_; rotate_left 1; (· intro u hu; go_simp; try with_reducible rfl); simp only [Act.put, List.getElem_toArray, List.getElem_cons_succ, List.getElem_cons_zero, List.setIfInBounds_toArray, List.set_cons_zero, List.set_cons_succ])
  refine flow_turn rfl (by rfl) (fun K hK => ?_)
  simp only [List.getElem_toArray, List.getElem_cons_succ, List.getElem_cons_zero]
  have HKK := Lib.hid hK; clear hK
  go_simp
  refine (awake_any _ (HK.out.below HG4.out)).mono ?_
  rintro e w5 ⟨rfl, hb5⟩
  have HL5 := Lib.hid hb5
  clear hb5
  refine HKK.out _ _ ⟨fun u => Below w5.heap.size w5 u, Below.refl _ _, fun u hu => HL5.out.trans (hu.mono HL5.out.size), ?_⟩
  clear HKK K
  iterate 2 (refine flow_take (v := ?_) rfl (by rfl) ?_ ?_; rotate_left 1; (· intro u hu; go_simp; try with_reducible rfl); simp only [Act.put, List.getElem_toArray, List.getElem_cons_succ, List.getElem_cons_zero, List.setIfInBounds_toArray, List.set_cons_zero, List.set_cons_succ])
  refine flow_nil ?_
  go_wp2_with fail
  go_ret
  exact ⟨rfl, HG4.out.trans (HL5.out.mono HG4.out.size)⟩
end Go.Proofs.YtpdbbiokndhghaaDoor
