/-
  CONTRACTS of bag.Parted, Look.
-/
import Derived.Test.YtjbcmepnlnfkjaaBgC
namespace Go.Proofs.Ytjbcmepnlnfkjaa
open Go Go.RowKit Go.Proofs

theorem inI_min {a b : Int} (ha : InI64 a) (hb : InI64 b) : InI64 (min a b) := by unfold InI64 at *; omega
theorem inI_max {a b : Int} (ha : InI64 a) (hb : InI64 b) : InI64 (max a b) := by unfold InI64 at *; omega

set_option maxHeartbeats 400000 in
/-- (*Bag).Parted -/
theorem parted_any (g m n : Nat) (L : Value) (S : Int → Int → Bool) (a b : Int) (w : World) (h : Blk w g m L) (hm : PMap w m n S) (ha : InI64 a) (hb : InI64 b) :
    Calls Try.prog 17 #[.pointer (some ⟨g, 0, none⟩), .int .i64 a, .int .i64 b] w fun e w' => e = .returned (.bool (S (min a b) (max a b))) ∧ Below w.heap.size w w' := by
  have c1 := h.c1
  have HI := Lib.hid (fun (u : World) (hu : Below w.heap.size w u) => is_any g m L u ((hu.block g h.lt).trans h))
  have HL := Lib.hid h.lt
  have HM := Lib.hid hm; clear hm
  have HA := Lib.hid (inI_min ha hb)
  have HB := Lib.hid (inI_max ha hb)
  clear h ha hb
  go_enter Try.func17, Try.ntmps17
  go_wp2_with fail
  refine wp_region_flow [(0, true), (1, false), (2, true), (3, true), (4, true), (5, true), (6, true), (7, true), (8, true), (9, false), (10, true), (11, true), (12, true)] (fun u => Below w.heap.size w u) (by kernel_rfl) (by kernel_rfl) (fun _ _ _ _ _ h => h) ((Below.refl _ _).drew) ?_
  (refine flow_take (v := ?_) rfl (by rfl) ?_ ?_; rotate_left 1; (· intro u hu; skip; clear hu; go_simp; try with_reducible rfl); simp only [Act.put, List.getElem_toArray, List.getElem_cons_zero, List.setIfInBounds_toArray, List.set_cons_zero, List.set_cons_succ])
  (refine flow_turn rfl (by rfl) (fun K hK => ?_); simp only [List.getElem_toArray, List.getElem_cons_succ, List.getElem_cons_zero]; have HKK := Lib.hid hK; clear hK; go_simp)
  refine (HI.out _ (Below.refl _ _).drew).mono ?_
  rintro e w1 ⟨rfl, rfl⟩
  refine HKK.out _ _ ⟨fun u => Below w.heap.size w u, (Below.refl _ _).drew, fun u hu => hu, ?_⟩
  clear HKK K
  iterate 7 (refine flow_take (v := ?_) rfl (by rfl) ?_ ?_; rotate_left 1; (· intro u hu; have c1' := (hu.cell (p := ⟨g, 1, none⟩) HL.out).trans c1; clear hu; go_simp; try with_reducible rfl); simp only [Act.put, List.getElem_toArray, List.getElem_cons_succ, List.getElem_cons_zero, List.setIfInBounds_toArray, List.set_cons_zero, List.set_cons_succ])
  (refine flow_turn rfl (by rfl) (fun K hK => ?_); simp only [List.getElem_toArray, List.getElem_cons_succ, List.getElem_cons_zero]; have HKK := Lib.hid hK; clear hK; go_simp)
  refine (pair_any a b _).mono ?_
  rintro e w2 ⟨rfl, hb2⟩
  have H2 : Hid (Below w.heap.size w w2) := Below.trans ((Below.refl w.heap.size _).drew) hb2
  clear hb2
  refine HKK.out _ _ ⟨fun u => Below w.heap.size w u, H2.out, fun u hu => hu, ?_⟩
  clear HKK K
  obtain ⟨x, hx⟩ : ∃ x, min a b = x := ⟨_, rfl⟩
  obtain ⟨y, hy⟩ : ∃ y, max a b = y := ⟨_, rfl⟩
  rw [hx] at HA
  rw [hy] at HB
  rw [hx, hy]
  have HX := Lib.hid hx; clear hx
  have HY := Lib.hid hy; clear hy
  iterate 1 (refine flow_take (v := ?_) rfl (by rfl) ?_ ?_; rotate_left 1; (· intro u hu; have lk := (HM.out.below hu).look HA.out HB.out; clear hu; go_simp; try with_reducible rfl); simp only [Act.put, List.getElem_toArray, List.getElem_cons_succ, List.getElem_cons_zero, List.setIfInBounds_toArray, List.set_cons_zero, List.set_cons_succ])
  iterate 2 (refine flow_take (v := ?_) rfl (by rfl) ?_ ?_; rotate_left 1; (· intro u hu; skip; clear hu; go_simp; try with_reducible rfl); simp only [Act.put, List.getElem_toArray, List.getElem_cons_succ, List.getElem_cons_zero, List.setIfInBounds_toArray, List.set_cons_zero, List.set_cons_succ])
  refine flow_nil ?_
  go_wp2_with fail
  go_ret
  rw [HX.out, HY.out]
  exact ⟨rfl, H2.out⟩

/-- what Look leaves where there is a message -/
def LookOut (w : World) (x : Msg) (e : Ending) (w' : World) : Prop :=
  ∃ v, e = .returned (.tuple #[.int .i64 x.1, .int .i64 x.2.1, v, .bool true]) ∧ w'.ownsRow w.heap.size 5 1 v x.2.2.length (x.2.2.map bv) ∧ Below w.heap.size w w'

set_option maxHeartbeats 400000 in
theorem look_none (B : Nat) (P : Nat → Prop) (g m : Nat) (ms : List Msg) (i : Int) (w : World) (h : BagAt w B P g m ms) (hi : i < 0 ∨ (ms.length : Int) ≤ i) :
    Calls Try.prog 10 #[.pointer (some ⟨g, 0, none⟩), .int .i64 i] w fun e w' => e = .returned (.tuple #[.int .i64 0, .int .i64 0, .slice none 0 0, .bool false]) ∧ w = w' := by
  have HLEN := Lib.hid (len_any B P g m ms w h)
  clear h
  by_cases h0 : i < 0
  · go_enter Try.func10, Try.ntmps10
    go_wp2_with fail
    refine bodyPost_ret (results_tmp4 rfl _ _ _) rfl ?_
    exact ⟨rfl, rfl⟩
  · have h1 : (ms.length : Int) ≤ i := by omega
    generalize ms.length = n at *
    go_enter Try.func10, Try.ntmps10
    go_wp2_with fail
    refine HLEN.out.mono ?_
    rintro e w1 ⟨rfl, rfl⟩
    go_wp2_with fail
    refine bodyPost_ret (results_tmp4 rfl _ _ _) rfl ?_
    exact ⟨rfl, rfl⟩

set_option maxHeartbeats 800000 in
theorem look_some (B : Nat) (P : Nat → Prop) (g m : Nat) (ms : List Msg) (i : Nat) (w : World) (h : BagAt w B P g m ms) (hi : i < ms.length) (_hn : ms.length ≤ 1000000) :
    Calls Try.prog 10 #[.pointer (some ⟨g, 0, none⟩), .int .i64 i] w (LookOut w ms[i]) := by
  have HLEN := Lib.hid (len_any B P g m ms w h)
  obtain ⟨L, vs, h1, h2, h3, h4, h5⟩ := h
  have hvl : i < vs.length := by rw [← h4.length]; exact hi
  obtain ⟨A, c, hv, hc, hb47, hB⟩ := h4.at_ i hi
  obtain ⟨f0, f1, f2⟩ := flat3_at ms vs i hi hvl
  rw [hv] at f2
  rcases h3.2 with ⟨rfl, h0⟩ | ⟨q, cap, cur, rfl, hq, hheap, _⟩
  · omega
  have hcell := h3.cells (g := q) rfl
  have q0 := hcell _ _ f0
  have q1 := hcell _ _ f1
  have q2 := hcell _ _ f2
  rw [add_plain, Nat.zero_add] at q0 q1 q2
  have c0 := h1.c0
  have HL := Lib.hid h1.lt
  have HB := Lib.hid hB.bytes
  have hil : (i : Int) < ms.length := by omega
  have hi0 : ¬ (i : Int) < 0 := by omega
  have hi00 : (0 : Int) ≤ i := by omega
  clear h1 h2 h3 h4 h5 hheap hcell f0 f1 f2 hB hv
  obtain ⟨x, hx⟩ : ∃ x, ms[i] = x := ⟨_, rfl⟩
  rw [hx] at q0 q1 q2 HB hb47 hc ⊢
  have HX := Lib.hid hc
  clear hc hx
  obtain ⟨xf, xt, xb⟩ := x
  simp only at q0 q1 q2 HB hb47
  obtain ⟨n, hnn⟩ : ∃ n, ms.length = n := ⟨_, rfl⟩
  rw [hnn] at HLEN c0 hil _hn
  rename_i r
  clear r
  clear hi hvl hnn
  go_enter Try.func10, Try.ntmps10
  go_wp2_with fail
  refine HLEN.out.mono ?_
  rintro e w1 ⟨rfl, rfl⟩
  go_wp2_with fail
  have k0 : (w.alloc (.cells #[.int .i64 xf, .int .i64 xt, .slice A xb.length c] 55)).cell? ⟨w.heap.size, 0, none⟩ = some (.int .i64 xf) := by simp
  have k1 : (w.alloc (.cells #[.int .i64 xf, .int .i64 xt, .slice A xb.length c] 55)).cell? ⟨w.heap.size, 1, none⟩ = some (.int .i64 xt) := by simp
  have k2 : (w.alloc (.cells #[.int .i64 xf, .int .i64 xt, .slice A xb.length c] 55)).cell? ⟨w.heap.size, 2, none⟩ = some (.slice A xb.length c) := by simp
  have hlt : w.heap.size < (w.alloc (.cells #[.int .i64 xf, .int .i64 xt, .slice A xb.length c] 55)).heap.size := by simp
  have HW : Hid (Below w.heap.size w (w.alloc (.cells #[.int .i64 xf, .int .i64 xt, .slice A xb.length c] 55))) := (Below.refl _ _).alloc (Nat.le_refl _) _
  clear c0 q0 q1 q2
  generalize w.alloc (.cells #[.int .i64 xf, .int .i64 xt, .slice A xb.length c] 55) = w1 at *
  refine wp_region_flow [(0, true), (1, true), (2, true), (3, true), (4, true), (5, true), (6, false), (7, true), (8, true), (9, true), (10, true)] (fun u => Below w1.heap.size w1 u) (by kernel_rfl) (by kernel_rfl) (fun _ _ _ _ _ h => h) ((Below.refl _ _).drew) ?_
  iterate 6 (refine flow_take (v := ?_) rfl (by rfl) ?_ ?_; rotate_left 1; (· intro u hu; have a0 := (hu.cell (p := ⟨w.heap.size, 0, none⟩) hlt).trans k0; have a1 := (hu.cell (p := ⟨w.heap.size, 1, none⟩) hlt).trans k1; have a2 := (hu.cell (p := ⟨w.heap.size, 2, none⟩) hlt).trans k2; clear hu; go_simp; try with_reducible rfl); simp only [Act.put, List.getElem_toArray, List.getElem_cons_succ, List.getElem_cons_zero, List.setIfInBounds_toArray, List.set_cons_zero, List.set_cons_succ])
  (refine flow_turn rfl (by rfl) (fun K hK => ?_); simp only [List.getElem_toArray, List.getElem_cons_succ, List.getElem_cons_zero]; have HKK := Lib.hid hK; clear hK; go_simp)
  refine (clone_any A xb.length c xb _ rfl hb47 ((HB.out.below HW.out).below (Below.refl _ _).drew)).mono ?_
  rintro e w2 ⟨v, rfl, ho2, hb2⟩
  have H2 : Hid (Below w1.heap.size w1 w2) := Below.trans ((Below.refl w1.heap.size _).drew) hb2
  have HO2 : Hid (w2.ownsRow w1.heap.size 5 1 v xb.length (xb.map bv)) := ho2
  clear hb2 ho2
  refine HKK.out _ _ ⟨fun u => Below w2.heap.size w2 u, Below.refl _ _, fun u hu => H2.out.trans (hu.mono H2.out.size), ?_⟩
  clear HKK K
  iterate 4 (refine flow_take (v := ?_) rfl (by rfl) ?_ ?_; rotate_left 1; (· intro u hu; skip; clear hu; go_simp; try with_reducible rfl); simp only [Act.put, List.getElem_toArray, List.getElem_cons_succ, List.getElem_cons_zero, List.setIfInBounds_toArray, List.set_cons_zero, List.set_cons_succ])
  refine flow_nil ?_
  go_wp2_with fail
  refine bodyPost_ret (results_tmp4 rfl _ _ _) rfl ?_
  refine ⟨v, rfl, ?_, HW.out.trans (H2.out.mono HW.out.size)⟩
  have ho := HO2.out
  refine ⟨ho.1, ?_⟩
  rcases ho.2 with h0 | ⟨g', cap', cur', e, hb, r⟩
  · exact .inl h0
  · exact .inr ⟨g', cap', cur', e, Nat.le_trans HW.out.size hb, r⟩
end Go.Proofs.Ytjbcmepnlnfkjaa
