/-
  CONTRACT of the laws' question 'awake'; THE LAW BagFull WALKED.
-/
import Derived.Test.YtjbcmepnlnfkjaaBgI
namespace Go.Proofs.Ytjbcmepnlnfkjaa
open Go Go.RowKit Go.Proofs

def no (_ _ : Int) : Bool := false
theorem small_i64 (x : Int) (h1 : -1000000 ≤ x) (h2 : x ≤ 1000000) : InI64 x := by unfold InI64; omega

set_option maxRecDepth 8000 in
set_option maxHeartbeats 800000 in
/-- awake -/
theorem awake_any (w : World) : Calls Try.prog 13 #[] w (Yes w) := by
  go_enter Try.func13, Try.ntmps13
  go_wp2_with fail
  refine (new_any w (fun _ => True)).mono ?_
  rintro e w1 ⟨g, m, rfl, hm0, hbag, hmap, hb⟩
  have HP1 := Lib.hid (PMap.made hmap)
  have HBAG := Lib.hid hbag
  have HB1 := Lib.hid hb
  clear hbag hmap hb hm0
  go_wp2_with fail
  have HB2 : Hid (Below w1.heap.size w1 (w1.alloc (.cells #[.int .u8 7] 5))) := (Below.refl _ _).alloc (Nat.le_refl _) _
  have HBY : Hid (Bytes (w1.alloc (.cells #[.int .u8 7] 5)) (some ⟨w1.heap.size, 0, none⟩) [7]) := bytes_lit w1 [7] 5 (0, 0)
  generalize w1.alloc (.cells #[.int .u8 7] 5) = w2 at *
  have HP2 := Lib.hid (HP1.out.below HB2.out)
  have HT2 := Lib.hid (Turned.of_below HBAG.out HB2.out HB1.out.size HP1.out.isMp)
  refine (post_room w.heap.size (fun _ => True) g m [] 1 2 (some ⟨w1.heap.size, 0, none⟩) 1 1 [7] w2 HT2.out.1 (by simp) (small_i64 _ (by omega) (by omega)) (small_i64 _ (by omega) (by omega)) rfl (by omega) HBY.out (fun _ _ => trivial) HP2.out.isMp (by have := HB1.out.size; have := HB2.out.size; omega)).mono ?_
  rintro e w3 ⟨rfl, ht3⟩
  have HP3 := Lib.hid (HP2.out.same ht3.2.2.2)
  have HT3 := Lib.hid (HT2.out.trans ht3)
  clear ht3
  have HSZ3 : Hid (w.heap.size ≤ w3.heap.size) := by show w.heap.size ≤ w3.heap.size; have := HB1.out.size; have := HT3.out.size; omega
  go_wp2_with fail
  refine (deliver_some w.heap.size (fun _ => True) g m 0 (fun _ _ => false) [(1, 2, [7])] 0 w3 HT3.out.1 (by simp) (by simp) HP3.out HSZ3.out).mono ?_
  rintro e w4 ⟨⟨v, rfl, ho⟩, ht4⟩
  obtain ⟨A, c, rfl, _, hc, _, hB⟩ := bytes_of_own ho
  obtain ⟨b, off, hA, hbb, hcell⟩ := hB.at_ (k := 0) (by simp)
  subst hA
  have hc0 : w4.cell? ⟨b, off, none⟩ = some (.int .u8 7) := hcell
  have HT4 := Lib.hid (HT3.out.trans ht4)
  clear ht4 ho hB hcell
  go_wp2_with fail
  refine (len_any w.heap.size (fun _ => True) g m [] w4 HT4.out.1).mono ?_
  rintro e w5 ⟨rfl, rfl⟩
  go_wp2_with fail
  go_ret
  exact ⟨rfl, HB1.out.trans HT4.out.2.1⟩
end Go.Proofs.Ytjbcmepnlnfkjaa
