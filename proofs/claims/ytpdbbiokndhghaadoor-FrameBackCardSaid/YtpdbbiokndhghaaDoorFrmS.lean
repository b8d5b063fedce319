/-
  CONTRACT of frame.Join.
-/
import Derived.Test.YtpdbbiokndhghaaDoorFrmN
import Derived.Test.YtpdbbiokndhghaaDoorFrmR
namespace Go.Proofs.YtpdbbiokndhghaaDoor
open Go Go.RowKit Go.Proofs

theorem join_take_le (its : List (UInt8 × List UInt8)) : ∀ k, (Frm.joinS (its.take k)).length ≤ (Frm.joinS its).length := by
  induction its with
  | nil => simp
  | cons x r ih =>
    intro k
    cases k with
    | zero => simp [Frm.joinS]
    | succ k => simp [Frm.joinS, ih k]

def Joined (w : World) (l : List UInt8) (e : Ending) (w' : World) : Prop :=
  ∃ A n c, e = .returned (.tuple #[.slice A n c, .int .i64 0]) ∧ l.length = n ∧ n ≤ c ∧ c ≤ maxLen ∧ Bytes w' A l ∧ Below w.heap.size w w'

set_option maxRecDepth 8000 in
set_option maxHeartbeats 800000 in
theorem join_le (A1 A2 : Option Addr) (n1 c1 n2 c2 : Nat) (ks : List UInt8) (ds : List (List UInt8)) (vs : List Value) (P : Nat → Prop) (w : World)
    (hle : n1 ≤ n2) (h1 : ks.length = n1) (h2 : ds.length = n2) (hl1 : n1 ≤ 140737488355328) (hl2 : n2 ≤ 140737488355328) (hsz : (Frm.joinS (ks.zip ds)).length ≤ 1000000) (hd : ∀ d ∈ ds, d.length ≤ 1048571)
    (hB1 : Bytes w A1 ks) (hR2 : Row w A2 vs) (hS2 : Sls w P vs ds) (hk : Known w) :
    Calls Tryd.prog 28 #[.slice A1 n1 c1, .slice A2 n2 c2] w (Joined w (Frm.joinS (ks.zip ds))) := by
  have HB1 := Lib.hid hB1; clear hB1
  have HR2 := Lib.hid hR2; clear hR2
  have HS2 := Lib.hid hS2; clear hS2
  have HK := Lib.hid hk; clear hk
  have HD := Lib.hid hd; clear hd
  have L1 := Lib.hid h1; clear h1
  have L2 := Lib.hid h2; clear h2
  have HZ : Hid ((ks.zip ds).length = n1) := by show _ = _; rw [List.length_zip, L1.out, L2.out]; omega
  have HSZ := Lib.hid hsz; clear hsz
  obtain ⟨i0, hi, hz0, hz1, hz2⟩ := info_parts info5
  have hlei : (n1 : Int) ≤ n2 := by omega
  go_enter Tryd.func28, Tryd.ntmps28
  go_wp2_with fail
  go_loopw [6, 15] (fun v x wr => ∃ k : Nat, x = .int .i64 k ∧ k ≤ n1 ∧ wr.ownsRow w.heap.size 5 1 v (Frm.joinS ((ks.zip ds).take k)).length ((Frm.joinS ((ks.zip ds).take k)).map bv) ∧ Below w.heap.size w wr) (fun _ x _ => n1 - (intOf x).toNat)
  case atStart => exact ⟨0, rfl, Nat.zero_le _, by simpa [Frm.joinS] using World.ownsRow_nil _ _ _ _, Below.refl _ _⟩
  case round =>
    obtain ⟨k, rfl, hk, ho, hb⟩ := hrel
    have HO := Lib.hid ho; clear ho
    have HB := Lib.hid hb; clear hb
    by_cases hlt : k < n1
    · have kl1 : k < ks.length := by rw [L1.out]; omega
      have kl2 : k < ds.length := by rw [L2.out]; omega
      obtain ⟨b1, o1, rfl, hb1, hc1⟩ := (HB1.out.below HB.out).at_ kl1
      obtain ⟨B2, d2, hv2, hd2, hBt2⟩ := (HS2.out.below HB.out).at_ k kl2
      obtain ⟨b2, o2, rfl, hb2, hc2⟩ := (HR2.out.below HB.out) (by rw [HS2.out.length]; omega)
      have q2 := hc2 k _ hv2
      clear hc2 hv2
      unfold bv at hc1
      have hdl := HD.out ds[k] (List.getElem_mem kl2)
      have hzk : (ks.zip ds)[k]'(by rw [HZ.out]; exact hlt) = (ks[k], ds[k]) := by simp
      have htk : Hid ((ks.zip ds).take (k + 1) = (ks.zip ds).take k ++ [(ks[k], ds[k])]) := by
        show _ = _
        rw [List.take_succ_eq_append_getElem (by rw [HZ.out]; exact hlt), hzk]
      clear hzk
      have hu1 := Crc.toNat_lt ks[k]
      generalize ks[k] = kd at *
      generalize ds[k] = d at *
      have hjt := join_take_le (ks.zip ds) (k + 1)
      have HJ : Hid (Frm.joinS ((ks.zip ds).take (k + 1)) = Frm.joinS ((ks.zip ds).take k) ++ frame kd d) := by show _ = _; rw [htk.out, Frm.join_snoc]
      have HJL : Hid ((Frm.joinS ((ks.zip ds).take k)).length + (frame kd d).length ≤ 1000000) := by
        show _ ≤ _
        have := HSZ.out
        rw [HJ.out, List.length_append] at hjt
        omega
      clear hjt htk
      generalize Frm.joinS ((ks.zip ds).take k) = J at *
      have hki0 : (0 : Int) ≤ k := by omega
      have hki1 : (k : Int) < n1 := by omega
      have hki2 : (k : Int) < n2 := by omega
      have hkn1 : k < n1 := by omega
      have hkn2 : k < n2 := by omega
      have HPUT := Lib.hid (fun (u : World) (hu : Below wr.heap.size wr u) => put_any ((kd.toNat : Nat) : Int) kd B2 d.length d2 d u rfl rfl hdl (hBt2.below hu) (HK.out.below (HB.out.trans (hu.mono HB.out.size))))
      clear hBt2
      go_wp2_with fail
      refine wp_region_flow [(0, true), (1, true), (2, true), (3, true), (4, true), (5, true), (6, true), (7, true), (8, false), (9, true), (10, true), (11, true), (12, true), (13, true)] (fun u => Below wr.heap.size wr u) (by kernel_rfl) (by kernel_rfl) (fun _ _ _ _ _ h => h) ((Below.refl _ _).drew) ?_
      iterate 8 (refine flow_take (v := ?_) rfl (by rfl) ?_ ?_; rotate_left 1; (· intro u hu; have c1' := (hu.cell hb1).trans hc1; have c2' := (hu.cell hb2).trans q2; clear hu; go_simp; try with_reducible rfl); simp only [Act.put, List.getElem_toArray, List.getElem_cons_succ, List.getElem_cons_zero, List.setIfInBounds_toArray, List.set_cons_zero, List.set_cons_succ])
      (refine flow_turn rfl (by rfl) (fun K hK => ?_); simp only [List.getElem_toArray, List.getElem_cons_succ, List.getElem_cons_zero]; have HKK := Lib.hid hK; clear hK; go_simp)
      refine (HPUT.out _ (Below.refl _ _).drew).mono ?_
      rintro e w1 ⟨A5, n5, c5, rfl, hn5, hc5, hm5, hB5, hb5⟩
      have HB5 := Lib.hid hB5; clear hB5
      have HN5 := Lib.hid hn5; clear hn5
      have H15 : Hid (Below wr.heap.size wr w1) := Below.trans ((Below.refl wr.heap.size _).drew) hb5
      clear hb5
      refine HKK.out _ _ ⟨fun u => Below w1.heap.size w1 u, Below.refl _ _, fun u hu => H15.out.trans (hu.mono H15.out.size), ?_⟩
      clear HKK K
      iterate 5 (refine flow_take (v := ?_) rfl (by rfl) ?_ ?_; rotate_left 1; (· intro u hu; skip; clear hu; go_simp; try with_reducible rfl); simp only [Act.put, List.getElem_toArray, List.getElem_cons_succ, List.getElem_cons_zero, List.setIfInBounds_toArray, List.set_cons_zero, List.set_cons_succ])
      refine flow_nil ?_
      have HO1 : Hid (w1.ownsRow w.heap.size 5 1 u6 J.length (J.map bv)) := own_below HO.out H15.out
      have HBW : Hid (Below w.heap.size w w1) := HB.out.trans (H15.out.mono HB.out.size)
      clear hc1 q2
      go_wp2_with (at_builtin; go_must (refine wpList_append_bytes _ rfl _ _ 22 rfl w.heap.size 5 i0 (.int .u8 0) Tryd.underlying22 hi hz0 hz1 hz2 rfl _ J.length _ rfl HO1.out _ _ _ (frame kd d) rfl HN5.out HB5.out (by have := HJL.out; have := HN5.out; omega) HBW.out.size ?_))
      intro v2 w2 hown2 hg2
      have HBW2 := Lib.hid (HBW.out.grown hg2 HBW.out.size (fun k hk => (HO1.out.lt k hk).1)); clear hg2
      have HO2 := Lib.hid hown2; clear hown2
      go_wp2_with fail
      go_roundw
      case rel =>
        refine ⟨k + 1, by go_num, by omega, ?_, HBW2.out⟩
        rw [HJ.out, List.length_append, List.map_append, HN5.out]
        exact HO2.out
      case measure => simp [intOf]; omega
    · have hkm : k = n1 := by omega
      have HE : Hid ((ks.zip ds).take k = ks.zip ds) := by show _ = _; rw [hkm, List.take_of_length_le (by rw [HZ.out]; omega)]
      clear hkm
      rw [HE.out] at HO
      obtain ⟨A5, c5, rfl, h51, h52, h53, h54⟩ := bytes_of_own HO.out
      have HB5 := Lib.hid h54; clear h54
      go_wp2_with fail
      go_ret2
      exact ⟨A5, _, c5, rfl, rfl, h52, h53, HB5.out, HB.out⟩

set_option maxRecDepth 8000 in
set_option maxHeartbeats 800000 in
theorem join_gt (A1 A2 : Option Addr) (n1 c1 n2 c2 : Nat) (ks : List UInt8) (ds : List (List UInt8)) (vs : List Value) (P : Nat → Prop) (w : World)
    (hle : n2 < n1) (h1 : ks.length = n1) (h2 : ds.length = n2) (hl1 : n1 ≤ 140737488355328) (hl2 : n2 ≤ 140737488355328) (hsz : (Frm.joinS (ks.zip ds)).length ≤ 1000000) (hd : ∀ d ∈ ds, d.length ≤ 1048571)
    (hB1 : Bytes w A1 ks) (hR2 : Row w A2 vs) (hS2 : Sls w P vs ds) (hk : Known w) :
    Calls Tryd.prog 28 #[.slice A1 n1 c1, .slice A2 n2 c2] w (Joined w (Frm.joinS (ks.zip ds))) := by
  have HB1 := Lib.hid hB1; clear hB1
  have HR2 := Lib.hid hR2; clear hR2
  have HS2 := Lib.hid hS2; clear hS2
  have HK := Lib.hid hk; clear hk
  have HD := Lib.hid hd; clear hd
  have L1 := Lib.hid h1; clear h1
  have L2 := Lib.hid h2; clear h2
  have HZ : Hid ((ks.zip ds).length = n2) := by show _ = _; rw [List.length_zip, L1.out, L2.out]; omega
  have HSZ := Lib.hid hsz; clear hsz
  obtain ⟨i0, hi, hz0, hz1, hz2⟩ := info_parts info5
  have hlei : (n2 : Int) < n1 := by omega
  go_enter Tryd.func28, Tryd.ntmps28
  go_wp2_with fail
  go_loopw [6, 15] (fun v x wr => ∃ k : Nat, x = .int .i64 k ∧ k ≤ n2 ∧ wr.ownsRow w.heap.size 5 1 v (Frm.joinS ((ks.zip ds).take k)).length ((Frm.joinS ((ks.zip ds).take k)).map bv) ∧ Below w.heap.size w wr) (fun _ x _ => n2 - (intOf x).toNat)
  case atStart => exact ⟨0, rfl, Nat.zero_le _, by simpa [Frm.joinS] using World.ownsRow_nil _ _ _ _, Below.refl _ _⟩
  case round =>
    obtain ⟨k, rfl, hk, ho, hb⟩ := hrel
    have HO := Lib.hid ho; clear ho
    have HB := Lib.hid hb; clear hb
    by_cases hlt : k < n2
    · have kl1 : k < ks.length := by rw [L1.out]; omega
      have kl2 : k < ds.length := by rw [L2.out]; omega
      obtain ⟨b1, o1, rfl, hb1, hc1⟩ := (HB1.out.below HB.out).at_ kl1
      obtain ⟨B2, d2, hv2, hd2, hBt2⟩ := (HS2.out.below HB.out).at_ k kl2
      obtain ⟨b2, o2, rfl, hb2, hc2⟩ := (HR2.out.below HB.out) (by rw [HS2.out.length]; omega)
      have q2 := hc2 k _ hv2
      clear hc2 hv2
      unfold bv at hc1
      have hdl := HD.out ds[k] (List.getElem_mem kl2)
      have hzk : (ks.zip ds)[k]'(by rw [HZ.out]; exact hlt) = (ks[k], ds[k]) := by simp
      have htk : Hid ((ks.zip ds).take (k + 1) = (ks.zip ds).take k ++ [(ks[k], ds[k])]) := by
        show _ = _
        rw [List.take_succ_eq_append_getElem (by rw [HZ.out]; exact hlt), hzk]
      clear hzk
      have hu1 := Crc.toNat_lt ks[k]
      generalize ks[k] = kd at *
      generalize ds[k] = d at *
      have hjt := join_take_le (ks.zip ds) (k + 1)
      have HJ : Hid (Frm.joinS ((ks.zip ds).take (k + 1)) = Frm.joinS ((ks.zip ds).take k) ++ frame kd d) := by show _ = _; rw [htk.out, Frm.join_snoc]
      have HJL : Hid ((Frm.joinS ((ks.zip ds).take k)).length + (frame kd d).length ≤ 1000000) := by
        show _ ≤ _
        have := HSZ.out
        rw [HJ.out, List.length_append] at hjt
        omega
      clear hjt htk
      generalize Frm.joinS ((ks.zip ds).take k) = J at *
      have hki0 : (0 : Int) ≤ k := by omega
      have hki1 : (k : Int) < n1 := by omega
      have hki2 : (k : Int) < n2 := by omega
      have hkn1 : k < n1 := by omega
      have hkn2 : k < n2 := by omega
      have HPUT := Lib.hid (fun (u : World) (hu : Below wr.heap.size wr u) => put_any ((kd.toNat : Nat) : Int) kd B2 d.length d2 d u rfl rfl hdl (hBt2.below hu) (HK.out.below (HB.out.trans (hu.mono HB.out.size))))
      clear hBt2
      go_wp2_with fail
      refine wp_region_flow [(0, true), (1, true), (2, true), (3, true), (4, true), (5, true), (6, true), (7, true), (8, false), (9, true), (10, true), (11, true), (12, true), (13, true)] (fun u => Below wr.heap.size wr u) (by kernel_rfl) (by kernel_rfl) (fun _ _ _ _ _ h => h) ((Below.refl _ _).drew) ?_
      iterate 8 (refine flow_take (v := ?_) rfl (by rfl) ?_ ?_; rotate_left 1; (· intro u hu; have c1' := (hu.cell hb1).trans hc1; have c2' := (hu.cell hb2).trans q2; clear hu; go_simp; try with_reducible rfl); simp only [Act.put, List.getElem_toArray, List.getElem_cons_succ, List.getElem_cons_zero, List.setIfInBounds_toArray, List.set_cons_zero, List.set_cons_succ])
      (refine flow_turn rfl (by rfl) (fun K hK => ?_); simp only [List.getElem_toArray, List.getElem_cons_succ, List.getElem_cons_zero]; have HKK := Lib.hid hK; clear hK; go_simp)
      refine (HPUT.out _ (Below.refl _ _).drew).mono ?_
      rintro e w1 ⟨A5, n5, c5, rfl, hn5, hc5, hm5, hB5, hb5⟩
      have HB5 := Lib.hid hB5; clear hB5
      have HN5 := Lib.hid hn5; clear hn5
      have H15 : Hid (Below wr.heap.size wr w1) := Below.trans ((Below.refl wr.heap.size _).drew) hb5
      clear hb5
      refine HKK.out _ _ ⟨fun u => Below w1.heap.size w1 u, Below.refl _ _, fun u hu => H15.out.trans (hu.mono H15.out.size), ?_⟩
      clear HKK K
      iterate 5 (refine flow_take (v := ?_) rfl (by rfl) ?_ ?_; rotate_left 1; (· intro u hu; skip; clear hu; go_simp; try with_reducible rfl); simp only [Act.put, List.getElem_toArray, List.getElem_cons_succ, List.getElem_cons_zero, List.setIfInBounds_toArray, List.set_cons_zero, List.set_cons_succ])
      refine flow_nil ?_
      have HO1 : Hid (w1.ownsRow w.heap.size 5 1 u6 J.length (J.map bv)) := own_below HO.out H15.out
      have HBW : Hid (Below w.heap.size w w1) := HB.out.trans (H15.out.mono HB.out.size)
      clear hc1 q2
      go_wp2_with (at_builtin; go_must (refine wpList_append_bytes _ rfl _ _ 22 rfl w.heap.size 5 i0 (.int .u8 0) Tryd.underlying22 hi hz0 hz1 hz2 rfl _ J.length _ rfl HO1.out _ _ _ (frame kd d) rfl HN5.out HB5.out (by have := HJL.out; have := HN5.out; omega) HBW.out.size ?_))
      intro v2 w2 hown2 hg2
      have HBW2 := Lib.hid (HBW.out.grown hg2 HBW.out.size (fun k hk => (HO1.out.lt k hk).1)); clear hg2
      have HO2 := Lib.hid hown2; clear hown2
      go_wp2_with fail
      go_roundw
      case rel =>
        refine ⟨k + 1, by go_num, by omega, ?_, HBW2.out⟩
        rw [HJ.out, List.length_append, List.map_append, HN5.out]
        exact HO2.out
      case measure => simp [intOf]; omega
    · have hkm : k = n2 := by omega
      have HE : Hid ((ks.zip ds).take k = ks.zip ds) := by show _ = _; rw [hkm, List.take_of_length_le (by rw [HZ.out]; omega)]
      clear hkm
      rw [HE.out] at HO
      obtain ⟨A5, c5, rfl, h51, h52, h53, h54⟩ := bytes_of_own HO.out
      have HB5 := Lib.hid h54; clear h54
      go_wp2_with fail
      go_ret2
      exact ⟨A5, _, c5, rfl, rfl, h52, h53, HB5.out, HB.out⟩

theorem join_any (A1 A2 : Option Addr) (n1 c1 n2 c2 : Nat) (ks : List UInt8) (ds : List (List UInt8)) (vs : List Value) (P : Nat → Prop) (w : World)
    (h1 : ks.length = n1) (h2 : ds.length = n2) (hl1 : n1 ≤ 140737488355328) (hl2 : n2 ≤ 140737488355328) (hsz : (Frm.joinS (ks.zip ds)).length ≤ 1000000) (hd : ∀ d ∈ ds, d.length ≤ 1048571)
    (hB1 : Bytes w A1 ks) (hR2 : Row w A2 vs) (hS2 : Sls w P vs ds) (hk : Known w) :
    Calls Tryd.prog 28 #[.slice A1 n1 c1, .slice A2 n2 c2] w (Joined w (Frm.joinS (ks.zip ds))) := by
  rcases Nat.lt_or_ge n2 n1 with h | h
  · exact join_gt A1 A2 n1 c1 n2 c2 ks ds vs P w h h1 h2 hl1 hl2 hsz hd hB1 hR2 hS2 hk
  · exact join_le A1 A2 n1 c1 n2 c2 ks ds vs P w h h1 h2 hl1 hl2 hsz hd hB1 hR2 hS2 hk
end Go.Proofs.YtpdbbiokndhghaaDoor
