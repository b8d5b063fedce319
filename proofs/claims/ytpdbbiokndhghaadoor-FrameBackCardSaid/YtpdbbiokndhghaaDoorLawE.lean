/-
  THE LAWS FrameNexts AND FramePuts WALKED, and their question 'awake'.
-/
import Derived.Test.YtpdbbiokndhghaaDoorFrmH
import Derived.Test.YtpdbbiokndhghaaDoorFrmP
namespace Go.Proofs.YtpdbbiokndhghaaDoor
open Go Go.RowKit Go.Proofs

theorem frame70 : (frame 7 []).length = 6 := by rw [frame_len]; rw [show ([] : List UInt8).length + 5 = 5 from rfl, Frm.uv_small 5 (by omega)]; rfl

set_option maxRecDepth 8000 in
set_option maxHeartbeats 400000 in
/-- the laws' 'awake' -/
theorem awake04_any (w : World) (hk : Known w) : Calls Tryd.prog 21 #[] w (Yes w) := by
  have HK := Lib.hid hk; clear hk
  go_enter Tryd.func21, Tryd.ntmps21
  go_wp2_with fail
  refine (put_any _ 7 none 0 0 [] _ rfl rfl (by omega) (Bytes.none_ _ _) HK.out).mono ?_
  rintro e w1 ⟨A1, n1, c1, rfl, hl1, hc1, hm1, hB1, hb1⟩
  have hn1 : n1 = 6 := by rw [← hl1, frame70]
  subst hn1
  have HB1 := Lib.hid hB1; clear hB1
  have HL1 := Lib.hid hl1; clear hl1
  have HW1 := Lib.hid hb1; clear hb1
  go_wp2_with fail
  refine (next_any A1 6 c1 (frame 7 []) _ HL1.out (by omega) hc1 HB1.out (HK.out.below HW1.out)).mono ?_
  have e1 := next_frame 7 [] [] (by simp)
  rw [List.append_nil, frame70] at e1
  rw [e1]
  clear e1
  rintro e w2 ⟨A2, n2, c2, rfl, hl2, hc2, hm2, hB2, hb2⟩
  have hn2 : n2 = 0 := by simpa using hl2.symm
  subst hn2
  have HW2 := Lib.hid (HW1.out.trans (hb2.mono HW1.out.size)); clear hb2
  clear hB2 hl2
  go_wp2_with fail
  refine (next_any none 0 0 [] _ rfl (by omega) (by omega) (Bytes.none_ _ _) (HK.out.below HW2.out)).mono ?_
  rw [next_nil]
  rintro e w3 ⟨A3, n3, c3, rfl, hl3, hc3, hm3, hB3, hb3⟩
  have hn3 : n3 = 0 := by simpa using hl3.symm
  subst hn3
  have HW3 := Lib.hid (HW2.out.trans (hb3.mono HW2.out.size)); clear hb3
  clear hB3 hl3
  go_wp2_with fail
  go_ret
  exact ⟨rfl, HW3.out⟩

theorem i64_eq (a b : Nat) : ((a : Int) == (b : Int)) = (a == b) := by
  cases h : a == b
  · rw [beq_eq_false_iff_ne] at h ⊢; omega
  · rw [beq_iff_eq] at h ⊢; omega

set_option maxRecDepth 8000 in
set_option maxHeartbeats 800000 in
theorem law_frameNexts (A : Option Addr) (n c : Nat) (l : List UInt8) (w : World) (hn : l.length = n) (hl : n ≤ 140737488355328) (hnc : n ≤ c) (hB : Bytes w A l) (hk : Known w) :
    Calls Tryd.prog 8 #[.slice A n c] w (Yes w) := by
  have HN := Lib.hid hn; clear hn
  have HK := Lib.hid hk; clear hk
  have HC := Lib.hid hB; clear hB
  have tt := text_toList
  obtain ⟨i0, hi, hz0, hz1, hz2⟩ := info_parts info5
  by_cases hbig : 5000 < n
  · go_enter Tryd.func8, Tryd.ntmps8
    go_wp2_with fail
    refine (awake04_any _ HK.out).mono ?_
    rintro e w1 ⟨rfl, hb1⟩
    have HB1 := Lib.hid hb1; clear hb1
    go_wp2_with fail
    go_ret
    exact ⟨rfl, HB1.out⟩
  · go_enter Tryd.func8, Tryd.ntmps8
    go_wp2_with (at_builtin; refine wpList_append_bytes _ rfl _ _ 22 rfl w.heap.size 5 i0 (.int .u8 0) Tryd.underlying22 hi hz0 hz1 hz2 rfl _ 0 [] rfl (own_lit _ [] 5 _ (Nat.le_refl _) (by decide)) _ _ _ l rfl HN.out (HC.out.alloc _) (by omega) (by simp) ?_)
    intro v1 w1 hown hg
    have HG := Lib.hid (((Below.refl w.heap.size w).alloc (Nat.le_refl _) _).grown hg (by simp) (by simp [Value.ownBlock])); clear hg
    obtain ⟨A1, c1, rfl, hm, h1, h2, hB1⟩ := bytes_of_own (l := l) (by simpa using hown)
    clear hown hm
    have HB1 := Lib.hid hB1; clear hB1
    go_wp2_with fail
    refine (next_any A1 n c1 l _ HN.out (by omega) (by omega) HB1.out (HK.out.below HG.out)).mono ?_
    obtain ⟨⟨kd, dt, nn, er⟩, hr⟩ : ∃ r, Frm.nextS l = r := ⟨_, rfl⟩
    rw [hr]
    rintro e w2 ⟨A2, n2, c2, rfl, hl2, hc2, hm2, hB2, hb2⟩
    have HB2 := Lib.hid hB2; clear hB2
    have HL2 := Lib.hid hl2; clear hl2
    have HW2 := Lib.hid (HG.out.trans (hb2.mono HG.out.size)); clear hb2
    go_wp2_with fail
    refine (refNext_any A n c l _ HN.out (by omega) (by omega) (HC.out.below HW2.out)).mono ?_
    rw [hr]
    clear hr
    rintro e w3 ⟨A3, n3, c3, rfl, hl3, hc3, hm3, hB3, hb3⟩
    have HB3 := Lib.hid hB3; clear hB3
    have HL3 := Lib.hid hl3; clear hl3
    have HB2' := Lib.hid (HB2.out.below hb3)
    have HW3 := Lib.hid (HW2.out.trans (hb3.mono HW2.out.size)); clear hb3
    have x2 := text_at (c := c2) HL2.out HB2'.out
    have x3 := text_at (c := c3) HL3.out HB3.out
    have x2' := x2 (w3.alloc (Obj.cells #[.int .u8 ((kd.toNat : Nat) : Int), .slice A3 n3 c3] 44)) ((Below.refl _ _).alloc (Nat.le_refl _) _)
    have x3' := x3 (w3.alloc (Obj.cells #[.int .u8 ((kd.toNat : Nat) : Int), .slice A3 n3 c3] 44)) ((Below.refl _ _).alloc (Nat.le_refl _) _)
    have HW4 := Lib.hid (HW3.out.alloc HW3.out.size (Obj.cells #[.int .u8 ((kd.toNat : Nat) : Int), .slice A3 n3 c3] 44))
    clear x2 x3
    go_wp2_with fail
    refine (awake04_any _ (HK.out.below HW4.out)).mono ?_
    rintro e w5 ⟨rfl, hb5⟩
    have HW5 := Lib.hid (HW4.out.trans (hb5.mono HW4.out.size)); clear hb5
    go_wp2_with fail
    go_ret
    exact ⟨rfl, HW5.out⟩

set_option maxRecDepth 8000 in
set_option maxHeartbeats 800000 in
theorem law_framePuts (ki : Int) (kd : UInt8) (A A' : Option Addr) (n c n' c' : Nat) (l l' : List UInt8) (w : World) (hki : ki = ((kd.toNat : Nat) : Int)) (hn : l.length = n) (hl : n ≤ 140737488355328) (hn' : l'.length = n') (hl' : n' ≤ 140737488355328)
    (hB : Bytes w A l) (hB' : Bytes w A' l') (hk : Known w) :
    Calls Tryd.prog 7 #[.int .u8 ki, .slice A n c, .slice A' n' c'] w (Yes w) := by
  subst hki
  have hkd : kd.toNat < 256 := Crc.toNat_lt _
  have HN := Lib.hid hn; clear hn
  have HN' := Lib.hid hn'; clear hn'
  have HK := Lib.hid hk; clear hk
  have HC := Lib.hid hB; clear hB
  have HC' := Lib.hid hB'; clear hB'
  have tt := text_toList
  obtain ⟨i0, hi, hz0, hz1, hz2⟩ := info_parts info5
  by_cases hlong : 1048571 < n
  · have HP := Lib.hid (put_long ((kd.toNat : Nat) : Int) A n c w hlong)
    go_enter Tryd.func7, Tryd.ntmps7
    go_wp2_with fail
    refine HP.out.mono ?_
    rintro e w1 ⟨rfl, rfl⟩
    go_wp2_with fail
    refine (awake04_any _ HK.out).mono ?_
    rintro e w2 ⟨rfl, hb2⟩
    have HB2 := Lib.hid hb2; clear hb2
    go_wp2_with fail
    go_ret
    exact ⟨rfl, HB2.out⟩
  · have HP := Lib.hid (put_any ((kd.toNat : Nat) : Int) kd A n c l w rfl HN.out (by omega) HC.out HK.out)
    have hfl : (frame kd l).length ≤ n + 15 := by
      rw [frame_len]
      have := uv_len10 (l.length + 5) (by have := HN.out; omega)
      have := HN.out
      omega
    have HFL := Lib.hid hfl; clear hfl
    have hd : decide ((1048571 : Int) < (n : Int)) = false := by simp; omega
    by_cases hbig : 5000 < n
    · go_enter Tryd.func7, Tryd.ntmps7
      go_wp2_with fail
      refine HP.out.mono ?_
      rintro e w1 ⟨A1, n1, c1, rfl, hl1, hc1, hm1, hB1, hb1⟩
      have HB1 := Lib.hid hb1
      clear hB1 hl1 hb1
      go_wp2_with fail
      refine (awake04_any _ (HK.out.below HB1.out)).mono ?_
      rintro e w2 ⟨rfl, hb2⟩
      have HB2 := Lib.hid (HB1.out.trans (hb2.mono HB1.out.size)); clear hb2
      go_wp2_with fail
      go_ret
      exact ⟨rfl, HB2.out⟩
    · by_cases hbig' : 5000 < n'
      · go_enter Tryd.func7, Tryd.ntmps7
        go_wp2_with fail
        refine HP.out.mono ?_
        rintro e w1 ⟨A1, n1, c1, rfl, hl1, hc1, hm1, hB1, hb1⟩
        have HB1 := Lib.hid hb1
        clear hB1 hl1 hb1
        go_wp2_with fail
        refine (awake04_any _ (HK.out.below HB1.out)).mono ?_
        rintro e w2 ⟨rfl, hb2⟩
        have HB2 := Lib.hid (HB1.out.trans (hb2.mono HB1.out.size)); clear hb2
        go_wp2_with fail
        go_ret
        exact ⟨rfl, HB2.out⟩
      · go_enter Tryd.func7, Tryd.ntmps7
        go_wp2_with fail
        refine HP.out.mono ?_
        rintro e w1 ⟨A1, n1, c1, rfl, hl1, hc1, hm1, hB1, hb1⟩
        have hn1 : n1 ≤ 5015 := by have := HFL.out; omega
        have HW1 := Lib.hid hb1; clear hb1
        have HB1 := Lib.hid hB1; clear hB1
        have HL1 := Lib.hid hl1; clear hl1
        have x1 := text_at (c := c1) HL1.out HB1.out
        go_wp2_with fail
        refine wp_region_flow [(0, true), (1, true), (2, true), (3, true), (5, true), (6, true), (4, true), (7, false), (8, true), (9, true), (10, true)] (fun u => Below w1.heap.size w1 u) (by kernel_rfl) (by kernel_rfl) (fun _ _ _ _ _ h => h) ((Below.refl _ _).drew) ?_
        iterate 7 (refine flow_take (v := ?_) rfl (by rfl) ?_ ?_; rotate_left 1; (· intro u hu; have := tt; have x1 := x1 u hu; clear hu; go_simp; try with_reducible rfl); simp only [Act.put, List.getElem_toArray, List.getElem_cons_succ, List.getElem_cons_zero, List.setIfInBounds_toArray, List.set_cons_zero, List.set_cons_succ])
        (refine flow_turn rfl (by rfl) (fun K hK => ?_); simp only [List.getElem_toArray, List.getElem_cons_succ, List.getElem_cons_zero]; have HKK := Lib.hid hK; clear hK; go_simp)
        refine (refFrame_any _ kd A n c l _ rfl HN.out (by omega) (HC.out.below (HW1.out.drew))).mono ?_
        rintro e w2 ⟨A2, n2, c2, rfl, hl2, hc2, hm2, hB2, hb2⟩
        have HB2 := Lib.hid hB2; clear hB2
        have HL2 := Lib.hid hl2; clear hl2
        have H12 : Hid (Below w1.heap.size w1 w2) := Below.trans ((Below.refl w1.heap.size _).drew) hb2
        clear hb2
        have x2 := text_at (c := c2) HL2.out HB2.out
        refine HKK.out _ _ ⟨fun u => Below w2.heap.size w2 u, Below.refl _ _, fun u hu => H12.out.trans (hu.mono H12.out.size), ?_⟩
        clear HKK K
        have HW2 : Hid (Below w.heap.size w w2) := HW1.out.trans (H12.out.mono HW1.out.size)
        have HB1' : Hid (Bytes w2 A1 (frame kd l)) := HB1.out.below H12.out
        iterate 3 (refine flow_take (v := ?_) rfl (by rfl) ?_ ?_; rotate_left 1; (· intro u hu; have := tt; have x1 := x2 u hu; clear hu; go_simp; try with_reducible rfl); simp only [Act.put, List.getElem_toArray, List.getElem_cons_succ, List.getElem_cons_zero, List.setIfInBounds_toArray, List.set_cons_zero, List.set_cons_succ])
        refine flow_nil ?_
        clear x1 x2
        go_wp2_with (at_builtin; refine wpList_append_bytes _ rfl _ _ 22 rfl w2.heap.size 5 i0 (.int .u8 0) Tryd.underlying22 hi hz0 hz1 hz2 rfl _ 0 [] rfl (own_lit _ [] 5 _ (Nat.le_refl _) (by decide)) _ _ _ (frame kd l) rfl HL1.out (HB1'.out.alloc _) (by omega) (by simp) ?_)
        intro v3 w3 hown3 hg3
        have H23 := Lib.hid (((Below.refl w2.heap.size w2).alloc (Nat.le_refl _) _).grown hg3 (by simp) (by simp [Value.ownBlock])); clear hg3
        have HC3' : Hid (Bytes w3 A' l') := HC'.out.below (HW2.out.trans (H23.out.mono HW2.out.size))
        have HO3 := Lib.hid hown3; clear hown3
        go_wp2_with (at_builtin; refine wpList_append_bytes _ rfl _ _ 22 rfl w2.heap.size 5 i0 (.int .u8 0) Tryd.underlying22 hi hz0 hz1 hz2 rfl _ n1 _ rfl HO3.out _ _ _ l' rfl HN'.out HC3'.out (by omega) H23.out.size ?_)
        intro v4 w4 hown4 hg4
        have H24 := Lib.hid (H23.out.grown hg4 H23.out.size (fun k hk => (HO3.out.lt k hk).1)); clear hg4
        obtain ⟨A4, c4, rfl, hl4, hc4, hm4, hB4⟩ := bytes_of_own (l := frame kd l ++ l') (by simpa using hown4)
        have HB4 := Lib.hid hB4; clear hB4 hown4
        have HL4 := Lib.hid hl4; clear hl4
        have HW4 : Hid (Below w.heap.size w w4) := HW2.out.trans (H24.out.mono HW2.out.size)
        clear HO3
        go_wp2_with fail
        refine (next_any A4 _ c4 (frame kd l ++ l') _ HL4.out (by omega) (by omega) HB4.out (HK.out.below HW4.out)).mono ?_
        rw [next_frame kd l l' (by have := HN.out; omega)]
        rintro e w5 ⟨A5, n5, c5, rfl, hl5, hc5, hm5, hB5, hb5⟩
        have HB5 := Lib.hid hB5; clear hB5
        have hn5 : n5 = n := by rw [← hl5]; exact HN.out
        subst hn5
        clear hl5
        have HW5 : Hid (Below w.heap.size w w5) := HW4.out.trans (hb5.mono HW4.out.size)
        clear hb5
        have x5 := text_at (c := c5) HN.out HB5.out _ (Below.refl _ _)
        have x0 := text_at (c := c) HN.out (HC.out.below HW5.out) _ (Below.refl _ _)
        rw [HL1.out]
        go_wp2_with fail
        refine (awake04_any _ (HK.out.below HW5.out)).mono ?_
        rintro e w6 ⟨rfl, hb6⟩
        have HW6 := Lib.hid (HW5.out.trans (hb6.mono HW5.out.size)); clear hb6
        go_wp2_with fail
        go_ret
        exact ⟨rfl, HW6.out⟩
end Go.Proofs.YtpdbbiokndhghaaDoor
