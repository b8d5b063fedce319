/-
  CONTRACTS at a bag that nobody made: a nil pointer, or a block that holds nothing.
-/
import Derived.Test.YtjbcmepnlnfkjaaBgJ
namespace Go.Proofs.Ytjbcmepnlnfkjaa
open Go Go.RowKit Go.Proofs

def Nb (w : World) (p : Option Addr) : Prop := p = none ∨ ∃ z, p = some ⟨z, 0, none⟩ ∧ w.heap[z]? = some (.cells #[.slice none 0 0, .map none] 50)
theorem Nb.below {w w' : World} {p : Option Addr} (h : Nb w p) (hb : Below w.heap.size w w') : Nb w' p := by
  rcases h with h | ⟨z, h1, h2⟩
  · exact .inl h
  · exact .inr ⟨z, h1, (hb.block z (Array.getElem?_eq_some_iff.1 h2).1).trans h2⟩
theorem run_map_nil_no (w : World) : (binOp BinOp.neq 48 (.map none) (.map none)).run Try.prog w = .ok (.bool false) w := by
  simp only [binOp]
  simp [Op.equal, Op.maxDepth, run_equalIn_map_nil (P := Try.prog) w 9999 48 59 4 none Try.underlying48]

set_option maxHeartbeats 400000 in
theorem is_no (p : Option Addr) (w : World) (h : Nb w p) : Calls Try.prog 23 #[.pointer p] w fun e w' => e = .returned (.bool false) ∧ w = w' := by
  rcases h with rfl | ⟨z, rfl, h⟩
  · go_enter Try.func23, Try.ntmps23
    go_wp2
    go_ret
    exact ⟨rfl, rfl⟩
  · have c1 : w.cell? ⟨z, 1, none⟩ = some (.map none) := by unfold World.cell?; simp [h]
    have mn := run_map_nil_no
    go_enter Try.func23, Try.ntmps23
    go_wp2
    go_ret
    exact ⟨rfl, rfl⟩
set_option maxHeartbeats 400000 in
theorem len_no (p : Option Addr) (w : World) (h : Nb w p) : Calls Try.prog 16 #[.pointer p] w fun e w' => e = .returned (.int .i64 0) ∧ w = w' := by
  have HI := Lib.hid (is_no p w h)
  clear h
  go_enter Try.func16, Try.ntmps16
  go_wp2_with fail
  refine HI.out.mono ?_
  rintro e w1 ⟨rfl, rfl⟩
  go_wp2_with fail
  go_ret
  exact ⟨rfl, rfl⟩
set_option maxHeartbeats 400000 in
theorem post_no (p : Option Addr) (f t : Int) (A : Option Addr) (n c : Nat) (w : World) (h : Nb w p) : Calls Try.prog 12 #[.pointer p, .int .i64 f, .int .i64 t, .slice A n c] w fun e w' => e = .returned (.bool false) ∧ w = w' := by
  have HI := Lib.hid (is_no p w h)
  clear h
  go_enter Try.func12, Try.ntmps12
  go_wp2_with fail
  refine HI.out.mono ?_
  rintro e w1 ⟨rfl, rfl⟩
  go_wp2_with fail
  go_ret
  exact ⟨rfl, rfl⟩
set_option maxHeartbeats 400000 in
theorem look_no (p : Option Addr) (w : World) (h : Nb w p) : Calls Try.prog 10 #[.pointer p, .int .i64 0] w fun e w' => e = noMsg ∧ w = w' := by
  have HI := Lib.hid (len_no p w h)
  clear h
  go_enter Try.func10, Try.ntmps10
  go_wp2_with fail
  refine HI.out.mono ?_
  rintro e w1 ⟨rfl, rfl⟩
  go_wp2_with fail
  refine bodyPost_ret (results_tmp4 rfl _ _ _) rfl ?_
  exact ⟨rfl, rfl⟩
set_option maxHeartbeats 400000 in
theorem drop_no (p : Option Addr) (w : World) (h : Nb w p) : Calls Try.prog 14 #[.pointer p, .int .i64 0] w fun e w' => e = .returned (.bool false) ∧ w = w' := by
  have HI := Lib.hid (len_no p w h)
  clear h
  go_enter Try.func14, Try.ntmps14
  go_wp2_with fail
  refine HI.out.mono ?_
  rintro e w1 ⟨rfl, rfl⟩
  go_wp2_with fail
  go_ret
  exact ⟨rfl, rfl⟩
set_option maxHeartbeats 400000 in
theorem twice_no (p : Option Addr) (w : World) (h : Nb w p) : Calls Try.prog 11 #[.pointer p, .int .i64 0] w fun e w' => e = .returned (.bool false) ∧ w = w' := by
  have HI := Lib.hid (look_no p w h)
  clear h
  unfold noMsg at HI
  go_enter Try.func11, Try.ntmps11
  go_wp2_with fail
  refine HI.out.mono ?_
  rintro e w1 ⟨rfl, rfl⟩
  go_wp2_with fail
  go_ret
  exact ⟨rfl, rfl⟩
set_option maxHeartbeats 400000 in
theorem part_no (p : Option Addr) (a b : Int) (w : World) (h : Nb w p) : Calls Try.prog 19 #[.pointer p, .int .i64 a, .int .i64 b] w fun e w' => (∃ v, e = .returned v) ∧ w = w' := by
  have HI := Lib.hid (is_no p w h)
  clear h
  go_enter Try.func19, Try.ntmps19
  go_wp2_with fail
  refine HI.out.mono ?_
  rintro e w1 ⟨rfl, rfl⟩
  go_wp2_with fail
  go_end0
  exact ⟨⟨_, rfl⟩, rfl⟩
set_option maxHeartbeats 400000 in
theorem heal_no (p : Option Addr) (w : World) (h : Nb w p) : Calls Try.prog 20 #[.pointer p] w fun e w' => (∃ v, e = .returned v) ∧ w = w' := by
  have HI := Lib.hid (is_no p w h)
  clear h
  go_enter Try.func20, Try.ntmps20
  go_wp2_with fail
  refine HI.out.mono ?_
  rintro e w1 ⟨rfl, rfl⟩
  go_wp2_with fail
  go_end0
  exact ⟨⟨_, rfl⟩, rfl⟩
set_option maxHeartbeats 400000 in
theorem parted_no (p : Option Addr) (a b : Int) (w : World) (h : Nb w p) : Calls Try.prog 17 #[.pointer p, .int .i64 a, .int .i64 b] w fun e w' => e = .returned (.bool false) ∧ Below w.heap.size w w' := by
  have HI := Lib.hid (fun (u : World) (hu : Below w.heap.size w u) => is_no p u (h.below hu))
  clear h
  go_enter Try.func17, Try.ntmps17
  go_wp2_with fail
  refine wp_region_flow [(0, true), (1, false), (2, true), (3, true), (4, true), (5, true), (6, true), (7, true), (8, true), (9, true), (10, true), (11, true), (12, true)] (fun u => Below w.heap.size w u) (by kernel_rfl) (by kernel_rfl) (fun _ _ _ _ _ h => h) ((Below.refl _ _).drew) ?_
  (refine flow_take (v := ?_) rfl (by rfl) ?_ ?_; rotate_left 1; (· intro u hu; skip; clear hu; go_simp; try with_reducible rfl); simp only [Act.put, List.getElem_toArray, List.getElem_cons_zero, List.setIfInBounds_toArray, List.set_cons_zero, List.set_cons_succ])
  (refine flow_turn rfl (by rfl) (fun K hK => ?_); simp only [List.getElem_toArray, List.getElem_cons_succ, List.getElem_cons_zero]; have HKK := Lib.hid hK; clear hK; go_simp)
  refine (HI.out _ (Below.refl _ _).drew).mono ?_
  rintro e w1 ⟨rfl, rfl⟩
  refine HKK.out _ _ ⟨fun u => Below w.heap.size w u, (Below.refl _ _).drew, fun u hu => hu, ?_⟩
  clear HKK K
  iterate 1 (refine flow_take (v := ?_) rfl (by rfl) ?_ ?_; rotate_left 1; (· intro u hu; skip; clear hu; go_simp; try with_reducible rfl); simp only [Act.put, List.getElem_toArray, List.getElem_cons_succ, List.getElem_cons_zero, List.setIfInBounds_toArray, List.set_cons_zero, List.set_cons_succ])
  iterate 8 (refine flow_skip rfl (by rfl) ?_; simp only [Act.put, List.getElem_toArray, List.getElem_cons_succ, List.getElem_cons_zero, List.setIfInBounds_toArray, List.set_cons_zero, List.set_cons_succ])
  iterate 2 (refine flow_take (v := ?_) rfl (by rfl) ?_ ?_; rotate_left 1; (· intro u hu; skip; clear hu; go_simp; try with_reducible rfl); simp only [Act.put, List.getElem_toArray, List.getElem_cons_succ, List.getElem_cons_zero, List.setIfInBounds_toArray, List.set_cons_zero, List.set_cons_succ])
  refine flow_nil ?_
  go_wp2_with fail
  go_ret
  exact ⟨rfl, (Below.refl _ _).drew⟩
set_option maxHeartbeats 400000 in
theorem deliver_no (p : Option Addr) (w : World) (h : Nb w p) : Calls Try.prog 9 #[.pointer p, .int .i64 0] w fun e w' => e = noMsg ∧ Below w.heap.size w w' := by
  have HL := Lib.hid (look_no p w h)
  have HD := Lib.hid (drop_no p w h)
  have HP := Lib.hid (parted_no p 0 0 w h)
  clear h
  unfold noMsg at HL ⊢
  go_enter Try.func9, Try.ntmps9
  go_wp2_with fail
  refine HL.out.mono ?_
  rintro e w1 ⟨rfl, rfl⟩
  go_wp2_with fail
  refine HD.out.mono ?_
  rintro e w1 ⟨rfl, rfl⟩
  go_wp2_with fail
  refine HP.out.mono ?_
  rintro e w1 ⟨rfl, hb⟩
  have HB := Lib.hid hb; clear hb
  go_wp2_with fail
  refine bodyPost_ret (results_tmp4 rfl _ _ _) rfl ?_
  exact ⟨rfl, HB.out⟩
set_option maxHeartbeats 400000 in
theorem clear_no (p : Option Addr) (a : Int) (w : World) (h : Nb w p) : Calls Try.prog 21 #[.pointer p, .int .i64 a] w fun e w' => e = .returned (.int .i64 0) ∧ Below w.heap.size w w' := by
  have HL := Lib.hid (fun (u : World) (hu : Below w.heap.size w u) => len_no p u (h.below hu))
  clear h
  go_enter Try.func21, Try.ntmps21
  go_wp2_with fail
  refine (HL.out _ ((Below.refl _ _).alloc (Nat.le_refl _) _)).mono ?_
  rintro e w1 ⟨rfl, rfl⟩
  go_wp2_with fail
  refine (HL.out _ ((Below.refl _ _).alloc (Nat.le_refl _) _)).mono ?_
  rintro e w1 ⟨rfl, rfl⟩
  go_wp2_with fail
  go_ret
  exact ⟨rfl, (Below.refl _ _).alloc (Nat.le_refl _) _⟩
end Go.Proofs.Ytjbcmepnlnfkjaa
