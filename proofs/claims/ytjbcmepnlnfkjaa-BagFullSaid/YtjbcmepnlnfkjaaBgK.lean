/-
  THE LAW BagFull WALKED.
-/
import Derived.Test.YtjbcmepnlnfkjaaBgJ
namespace Go.Proofs.Ytjbcmepnlnfkjaa
open Go Go.RowKit Go.Proofs

def fl (n : Nat) : List Msg := (List.range n).map fun (j : Nat) => ((1 : Int), (j : Int), ([] : List UInt8))
theorem fl_length (n : Nat) : (fl n).length = n := by simp [fl]
theorem fl_succ (n : Nat) : fl (n + 1) = fl n ++ [((1 : Int), (n : Int), [])] := by simp [fl, List.range_succ]

set_option maxRecDepth 8000 in
set_option maxHeartbeats 1600000 in
theorem law_bagFull (x : Nat) (w : World) (hx : x < 256) : Calls Try.prog 4 #[.int .u8 (x : Int)] w (Yes w) := by
  obtain ⟨r, hr⟩ : ∃ r : Nat, (x : Int) % 4 = (r : Int) := ⟨x % 4, by simp⟩
  have hr4 : r < 4 := by omega
  obtain ⟨k, hk⟩ : ∃ k : Nat, (16382 : Int) + (r : Int) = (k : Int) := ⟨16382 + r, by simp⟩
  have hk1 : 16382 ≤ k := by omega
  have hk2 : k ≤ 16385 := by omega
  have HK1 := Lib.hid hk1
  have HK2 := Lib.hid hk2
  have hk3 : k ≤ 1000000 := by omega
  clear hk1 hk2 hr4
  go_enter Try.func4, Try.ntmps4
  go_wp2_with fail
  refine (new_any w (fun _ => True)).mono ?_
  rintro e w1 ⟨g, m, rfl, hm0, hbag, hmap, hb⟩
  have HP1 := Lib.hid (PMap.made hmap)
  have HBAG := Lib.hid hbag
  have HB1 := Lib.hid hb
  clear hbag hmap hb hm0
  go_wp2_with fail
  have HKR := Lib.hid hk
  clear hr hk
  go_loopw [5] (fun y wr => ∃ i : Nat, y = .int .i64 i ∧ i ≤ k ∧ Turned w1 w.heap.size (fun _ => True) g m (fl (min i 16384)) wr) (fun y _ => k - (intOf y).toNat)
  case atStart => exact ⟨0, rfl, Nat.zero_le _, Turned.of_below HBAG.out (Below.refl _ _) HB1.out.size HP1.out.isMp⟩
  case round =>
    obtain ⟨i, rfl, hik, ht⟩ := hrel
    have HT := Lib.hid ht; clear ht
    have HSZ : Hid (w.heap.size ≤ wr.heap.size) := by show w.heap.size ≤ wr.heap.size; have := HB1.out.size; have := HT.out.size; omega
    have HM := Lib.hid (HP1.out.same HT.out.2.2.2)
    by_cases hlt : i < k
    · by_cases hroom : i < 16384
      · have d1 : decide ((i : Int) < 16384) = true := by rw [decide_eq_true_iff]; omega
        have HI := Lib.hid hroom; clear hroom
        go_wp2_with fail
        refine (post_room w.heap.size (fun _ => True) g m (fl (min i 16384)) 1 i none 0 0 [] wr HT.out.1 (by rw [fl_length]; have := HI.out; omega) (small_i64 _ (by omega) (by omega)) (small_i64 _ (by have := HI.out; omega) (by have := HI.out; omega)) rfl (by omega) (Bytes.none_ _ _) (fun _ _ => trivial) HM.out.isMp HSZ.out).mono ?_
        rintro e w2 ⟨rfl, ht2⟩
        have HT2 := Lib.hid (HT.out.trans ht2); clear ht2
        go_wp2_with fail
        go_roundw
        case rel =>
          refine ⟨i + 1, by go_num, by omega, ?_⟩
          have h1 : min i 16384 = i := by have := HI.out; omega
          have h2 : min (i + 1) 16384 = i + 1 := by have := HI.out; omega
          rw [h2, fl_succ]
          have := HT2.out
          rwa [h1] at this
        case measure => simp [intOf]; omega
      · have d1 : decide ((i : Int) < 16384) = false := by rw [decide_eq_false_iff_not]; omega
        have HI := Lib.hid hroom; clear hroom
        go_wp2_with fail
        refine (post_full w.heap.size (fun _ => True) g m (fl (min i 16384)) 1 i none 0 0 wr HT.out.1 (by rw [fl_length]; have := HI.out; omega)).mono ?_
        rintro e w2 ⟨rfl, rfl⟩
        go_wp2_with fail
        go_roundw
        case rel =>
          refine ⟨i + 1, by go_num, by omega, ?_⟩
          have h1 : min i 16384 = 16384 := by have := HI.out; omega
          have h2 : min (i + 1) 16384 = 16384 := by have := HI.out; omega
          rw [h2]
          have := HT.out
          rwa [h1] at this
        case measure => simp [intOf]; omega
    · have hik' : i = k := by omega
      subst hik'
      by_cases hroom : i < 16384
      · have d1 : decide ((i : Int) < 16384) = true := by rw [decide_eq_true_iff]; omega
        have HI := Lib.hid hroom; clear hroom
        have hmin : min i 16384 = i := by have := HI.out; omega
        rw [hmin] at HT
        clear hmin
        go_wp2_with fail
        refine (twice_room w.heap.size (fun _ => True) g m (fl i) 0 wr HT.out.1 (by rw [fl_length]; have := HK1.out; omega) (by rw [fl_length]; exact HI.out) HM.out.isMp HSZ.out (fun _ _ => trivial)).mono ?_
        rintro e w2 ⟨rfl, ht2⟩
        have HT2 := Lib.hid (HT.out.trans ht2); clear ht2
        have HSZ2 : Hid (w.heap.size ≤ w2.heap.size) := by show w.heap.size ≤ w2.heap.size; have := HB1.out.size; have := HT2.out.size; omega
        go_wp2_with fail
        refine (drop_some w.heap.size (fun _ => True) g m _ 0 w2 HT2.out.1 (by simp) (by simp [fl_length]; have := HI.out; omega) (HP1.out.same HT2.out.2.2.2).isMp HSZ2.out).mono ?_
        rintro e w3 ⟨rfl, ht3⟩
        have HT3 := Lib.hid (HT2.out.trans ht3); clear ht3
        have HSZ3 : Hid (w.heap.size ≤ w3.heap.size) := by show w.heap.size ≤ w3.heap.size; have := HB1.out.size; have := HT3.out.size; omega
        go_wp2_with fail
        refine (post_room w.heap.size (fun _ => True) g m _ 1 2 none 0 0 [] w3 HT3.out.1 (by simp [fl_length]; have := HI.out; omega) (small_i64 _ (by omega) (by omega)) (small_i64 _ (by omega) (by omega)) rfl (by omega) (Bytes.none_ _ _) (fun _ _ => trivial) (HP1.out.same HT3.out.2.2.2).isMp HSZ3.out).mono ?_
        rintro e w4 ⟨rfl, ht4⟩
        have HT4 := Lib.hid (HT3.out.trans ht4); clear ht4
        go_wp2_with fail
        refine (awake_any w4).mono ?_
        rintro e w5 ⟨rfl, hb5⟩
        have HB5 := Lib.hid (HT4.out.2.1.trans (hb5.mono (by have := HB1.out.size; have := HT4.out.size; omega))); clear hb5
        go_wp2_with fail
        go_ret
        exact ⟨rfl, HB1.out.trans HB5.out⟩
      · have d1 : decide ((i : Int) < 16384) = false := by rw [decide_eq_false_iff_not]; omega
        have HI := Lib.hid hroom; clear hroom
        have hmin : min i 16384 = 16384 := by have := HI.out; omega
        rw [hmin] at HT
        clear hmin
        go_wp2_with fail
        refine (twice_full w.heap.size (fun _ => True) g m (fl 16384) 0 wr HT.out.1 (by rw [fl_length]; omega) (by rw [fl_length]; omega) (by rw [fl_length]; omega) HM.out.isMp HSZ.out).mono ?_
        rintro e w2 ⟨rfl, ht2⟩
        have HT2 := Lib.hid (HT.out.trans ht2); clear ht2
        have HSZ2 : Hid (w.heap.size ≤ w2.heap.size) := by show w.heap.size ≤ w2.heap.size; have := HB1.out.size; have := HT2.out.size; omega
        go_wp2_with fail
        refine (drop_some w.heap.size (fun _ => True) g m _ 0 w2 HT2.out.1 (by rw [fl_length]; omega) (by rw [fl_length]; omega) (HP1.out.same HT2.out.2.2.2).isMp HSZ2.out).mono ?_
        rintro e w3 ⟨rfl, ht3⟩
        have HT3 := Lib.hid (HT2.out.trans ht3); clear ht3
        have HSZ3 : Hid (w.heap.size ≤ w3.heap.size) := by show w.heap.size ≤ w3.heap.size; have := HB1.out.size; have := HT3.out.size; omega
        go_wp2_with fail
        refine (post_room w.heap.size (fun _ => True) g m _ 1 2 none 0 0 [] w3 HT3.out.1 (by rw [List.length_append, List.length_take, List.length_drop, fl_length]; omega) (small_i64 _ (by omega) (by omega)) (small_i64 _ (by omega) (by omega)) rfl (by omega) (Bytes.none_ _ _) (fun _ _ => trivial) (HP1.out.same HT3.out.2.2.2).isMp HSZ3.out).mono ?_
        rintro e w4 ⟨rfl, ht4⟩
        have HT4 := Lib.hid (HT3.out.trans ht4); clear ht4
        go_wp2_with fail
        refine (awake_any w4).mono ?_
        rintro e w5 ⟨rfl, hb5⟩
        have HB5 := Lib.hid (HT4.out.2.1.trans (hb5.mono (by have := HB1.out.size; have := HT4.out.size; omega))); clear hb5
        go_wp2_with fail
        go_ret
        exact ⟨rfl, HB1.out.trans HB5.out⟩
end Go.Proofs.Ytjbcmepnlnfkjaa
