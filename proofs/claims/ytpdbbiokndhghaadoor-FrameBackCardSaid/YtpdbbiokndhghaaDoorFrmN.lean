/-
  CONTRACT of the law's 'same'.
-/
import Derived.Test.YtpdbbiokndhghaaDoorFrmM
namespace Go.Proofs.YtpdbbiokndhghaaDoor
open Go Go.RowKit Go.Proofs

/-- cells in a row -/
def Row (w : World) (A : Option Addr) (xs : List Value) : Prop :=
  0 < xs.length → ∃ b off, A = some ⟨b, off, none⟩ ∧ b < w.heap.size ∧ ∀ j u, xs[j]? = some u → w.cell? ⟨b, off + j, none⟩ = some u
theorem Row.below {w w' : World} {A : Option Addr} {xs : List Value} (h : Row w A xs) (hb : Below w.heap.size w w') : Row w' A xs := fun hl => by
  obtain ⟨b, off, e, hlt, hc⟩ := h hl
  exact ⟨b, off, e, Nat.lt_of_lt_of_le hlt hb.size, fun j u hj => (hb.cell (p := ⟨b, off + j, none⟩) hlt).trans (hc j u hj)⟩
theorem row_of_own {w : World} {base : Nat} {e : TypeId} {size : Nat} {A : Option Addr} {m c n : Nat} {xs : List Value} (h : w.ownsRow base e size (.slice A m c) n xs) : Row w A xs := fun hl => by
  rcases h.2 with ⟨h1, h0⟩ | ⟨g, cap, cur, h1, hb, hg, _, _, _, _⟩
  · have := h.1; rw [h0] at this; omega
  · injection h1 with h1 h2 h3
    subst h1
    refine ⟨g, 0, rfl, (Array.getElem?_eq_some_iff.1 hg).1, fun j u hj => ?_⟩
    have := h.cells (g := g) rfl j u hj
    rwa [add_plain] at this
theorem own_slice {w : World} {base : Nat} {e : TypeId} {size : Nat} {v : Value} {n : Nat} {xs : List Value} (h : w.ownsRow base e size v n xs) : ∃ A c, v = .slice A n c ∧ n ≤ c ∧ c ≤ maxLen := by
  rcases h.2 with ⟨h1, h0⟩ | ⟨g, cap, cur, h1, _, _, h2, h3, _⟩
  · exact ⟨none, 0, by rw [h1, h0], by omega, by omega⟩
  · exact ⟨_, cap, h1, h2, h3⟩

theorem take_step {α : Type} {l r : List α} {k : Nat} (hl : k < l.length) (hr : k < r.length) (h : l.take k = r.take k) (e : l[k] = r[k]) : l.take (k + 1) = r.take (k + 1) := by
  rw [List.take_succ_eq_append_getElem hl, List.take_succ_eq_append_getElem hr, h, e]
theorem ne_at {α : Type} {l r : List α} {k : Nat} (hl : k < l.length) (hr : k < r.length) (e : l[k] ≠ r[k]) : l ≠ r := fun h => e (by subst h; rfl)

set_option maxRecDepth 8000 in
set_option maxHeartbeats 1600000 in
theorem same_slices (A1 A2 A3 : Option Addr) (n1 c1 n2 c2 n3 c3 : Nat) (ks iks : List UInt8) (ds ids : List (List UInt8)) (vs ivs : List Value) (P Q : Nat → Prop) (w : World)
    (h1 : ks.length = n1) (h2 : ds.length = n2) (h3 : iks.length = n3) (h3' : ids.length = n3) (hl1 : n1 ≤ 1000000) (hl2 : n2 ≤ 140737488355328) (hl3 : n3 ≤ 1000000)
    (hB1 : Bytes w A1 ks) (hR2 : Row w A2 vs) (hS2 : Sls w P vs ds) (hR3 : Row w A3 (flat iks ivs)) (hS3 : Sls w Q ivs ids) :
    Calls Tryd.prog 27 #[.slice A1 n1 c1, .slice A2 n2 c2, .slice A3 n3 c3] w fun e w' => e = .returned (.bool (ks == iks && ds == ids)) ∧ Below w.heap.size w w' := by
  have HB1 := Lib.hid hB1; clear hB1
  have HR2 := Lib.hid hR2; clear hR2
  have HS2 := Lib.hid hS2; clear hS2
  have HR3 := Lib.hid hR3; clear hR3
  have HS3 := Lib.hid hS3; clear hS3
  have tt := text_toList
  by_cases hn1 : n1 = n3
  · by_cases hn2 : n2 = n3
    · subst hn1 hn2
      have L1 := Lib.hid h1; clear h1
      have L2 := Lib.hid h2; clear h2
      have L3 := Lib.hid h3; clear h3
      have L3' := Lib.hid h3'; clear h3'
      go_enter Tryd.func27, Tryd.ntmps27
      go_wp2_with fail
      go_loopw [7] (fun x wr => ∃ k : Nat, x = .int .i64 k ∧ k ≤ n2 ∧ ks.take k = iks.take k ∧ ds.take k = ids.take k ∧ Below w.heap.size w wr) (fun x _ => n2 - (intOf x).toNat)
      case atStart => exact ⟨0, rfl, Nat.zero_le _, rfl, rfl, Below.refl _ _⟩
      case round =>
        obtain ⟨k, rfl, hk, he1, he2, hb⟩ := hrel
        have HE1 := Lib.hid he1; clear he1
        have HE2 := Lib.hid he2; clear he2
        have HB := Lib.hid hb; clear hb
        by_cases hlt : k < n2
        · have kl1 : k < ks.length := by rw [L1.out]; exact hlt
          have kl3 : k < iks.length := by rw [L3.out]; exact hlt
          have kl2 : k < ds.length := by rw [L2.out]; exact hlt
          have kl3' : k < ids.length := by rw [L3'.out]; exact hlt
          have hvl : ivs.length = n2 := by rw [HS3.out.length, L3'.out]
          obtain ⟨b1, o1, rfl, hb1, hc1⟩ := (HB1.out.below HB.out).at_ kl1
          obtain ⟨B2, d2, hv2, hd2, hBt2⟩ := (HS2.out.below HB.out).at_ k kl2
          obtain ⟨B3, d3, hv3, hd3, hBt3⟩ := (HS3.out.below HB.out).at_ k kl3'
          obtain ⟨b2, o2, rfl, hb2, hc2⟩ := (HR2.out.below HB.out) (by rw [HS2.out.length]; omega)
          obtain ⟨b3, o3, rfl, hb3, hc3⟩ := (HR3.out.below HB.out) (by rw [flat_length _ _ (by rw [L3.out, hvl])]; omega)
          have hf := flat_at iks ivs k kl3 (by omega)
          have q2 := hc2 k _ hv2
          have q3 := hc3 _ _ hf.1
          have q4 := hc3 _ _ (hf.2.trans hv3)
          clear hc2 hc3 hf hv2 hv3
          unfold bv at hc1 q3
          rw [Nat.mul_comm 2 k] at q3
          rw [Nat.mul_comm 2 k, ← Nat.add_assoc] at q4
          have x2 := text_at (c := d2) rfl hBt2
          have x3 := text_at (c := d3) rfl hBt3
          clear hBt2 hBt3
          have hu1 := Crc.toNat_lt ks[k]
          have hu3 := Crc.toNat_lt iks[k]
          obtain ⟨u1, hu1e⟩ : ∃ u1, ks[k] = u1 := ⟨_, rfl⟩
          obtain ⟨u3, hu3e⟩ : ∃ u3, iks[k] = u3 := ⟨_, rfl⟩
          obtain ⟨t2, ht2⟩ : ∃ t2, ds[k] = t2 := ⟨_, rfl⟩
          obtain ⟨t3, ht3⟩ : ∃ t3, ids[k] = t3 := ⟨_, rfl⟩
          rw [hu1e] at hc1 hu1
          rw [hu3e] at q3 hu3
          rw [ht2] at x2 q2
          rw [ht3] at x3 q4
          have U1 := Lib.hid hu1e
          have U3 := Lib.hid hu3e
          have T2 := Lib.hid ht2
          have T3 := Lib.hid ht3
          have hki0 : (0 : Int) ≤ k := by omega
          have hki1 : (k : Int) < n2 := by omega
          have K1 := Lib.hid kl1
          have K2 := Lib.hid kl2
          have K3 := Lib.hid kl3
          have K4 := Lib.hid kl3'
          clear hd2 hd3 U1 U3 T2 T3
          have U1 : Hid (ks[k]'K1.out = u1) := hu1e
          have U3 : Hid (iks[k]'K3.out = u3) := hu3e
          have T2 : Hid (ds[k]'K2.out = t2) := ht2
          have T3 : Hid (ids[k]'K4.out = t3) := ht3
          clear hu1e hu3e ht2 ht3 kl1 kl2 kl3 kl3' hvl
          by_cases hku : u1 = u3
          · subst hku
            by_cases htu : t2 = t3
            · have htt : (t2 == t3) = true := by rw [beq_iff_eq]; exact htu
              have HTU := Lib.hid htu; clear htu
              go_wp2_with fail
              refine wp_region_flow [(0, true), (1, true), (2, true), (3, true), (4, true), (5, true), (6, true), (7, true), (8, true), (9, true), (10, true), (11, true), (12, true), (13, true), (14, true), (15, true), (16, true), (17, true), (18, true), (19, true), (20, true), (21, true), (22, true), (23, true)] (fun u => Below wr.heap.size wr u) (by kernel_rfl) (by kernel_rfl) (fun _ _ _ _ _ h => h) ((Below.refl _ _).drew) ?_
              iterate 24 (refine flow_take (v := ?_) rfl (by rfl) ?_ ?_; rotate_left 1; (· intro u hu; have c1' := (hu.cell hb1).trans hc1; have c2' := (hu.cell hb2).trans q2; have c3' := (hu.cell hb3).trans q3; have c4' := (hu.cell hb3).trans q4; have x2' := x2 u hu; have x3' := x3 u hu; have := tt; have := htt; clear hu; go_simp; try with_reducible rfl); simp only [Act.put, List.getElem_toArray, List.getElem_cons_succ, List.getElem_cons_zero, List.setIfInBounds_toArray, List.set_cons_zero, List.set_cons_succ])
              refine flow_nil ?_
              clear x2 x3 hc1 q2 q3 q4 htt
              go_wp2_with fail
              go_roundw
              case rel => exact ⟨k + 1, by go_num, by omega, take_step K1.out K3.out HE1.out (U1.out.trans U3.out.symm), take_step K2.out K4.out HE2.out (by rw [T2.out, T3.out, HTU.out]), HB.out.drew⟩
              case measure => simp [intOf]; omega
            · have htt : (t2 == t3) = false := by rw [beq_eq_false_iff_ne]; exact htu
              have HNE : Hid (ds ≠ ids) := ne_at K2.out K4.out (by rw [T2.out, T3.out]; exact htu)
              clear htu
              go_wp2_with fail
              refine wp_region_flow [(0, true), (1, true), (2, true), (3, true), (4, true), (5, true), (6, true), (7, true), (8, true), (9, true), (10, true), (11, true), (12, true), (13, true), (14, true), (15, true), (16, true), (17, true), (18, true), (19, true), (20, true), (21, true), (22, true), (23, true)] (fun u => Below wr.heap.size wr u) (by kernel_rfl) (by kernel_rfl) (fun _ _ _ _ _ h => h) ((Below.refl _ _).drew) ?_
              iterate 24 (refine flow_take (v := ?_) rfl (by rfl) ?_ ?_; rotate_left 1; (· intro u hu; have c1' := (hu.cell hb1).trans hc1; have c2' := (hu.cell hb2).trans q2; have c3' := (hu.cell hb3).trans q3; have c4' := (hu.cell hb3).trans q4; have x2' := x2 u hu; have x3' := x3 u hu; have := tt; have := htt; clear hu; go_simp; try with_reducible rfl); simp only [Act.put, List.getElem_toArray, List.getElem_cons_succ, List.getElem_cons_zero, List.setIfInBounds_toArray, List.set_cons_zero, List.set_cons_succ])
              refine flow_nil ?_
              clear x2 x3 hc1 q2 q3 q4 htt
              go_wp2_with fail
              go_ret
              have hf : (ds == ids) = false := by rw [beq_eq_false_iff_ne]; exact HNE.out
              rw [hf, Bool.and_false]
              exact ⟨rfl, HB.out.drew⟩
          · have huu : ((u1.toNat : Int) != (u3.toNat : Int)) = true := by
              rw [bne_iff_ne]; intro e; exact hku (UInt8.toNat_inj.1 (by omega))
            have HNE : Hid (ks ≠ iks) := ne_at K1.out K3.out (by rw [U1.out, U3.out]; exact hku)
            clear hku
            go_wp2_with fail
            refine wp_region_flow [(0, true), (1, true), (2, true), (3, true), (4, true), (5, true), (6, true), (7, true), (8, true), (9, true), (10, true), (11, true), (12, true), (13, true), (14, true), (15, true), (16, true), (17, true), (18, true), (19, true), (20, true), (21, true), (22, true), (23, true)] (fun u => Below wr.heap.size wr u) (by kernel_rfl) (by kernel_rfl) (fun _ _ _ _ _ h => h) ((Below.refl _ _).drew) ?_
            iterate 11 (refine flow_take (v := ?_) rfl (by rfl) ?_ ?_; rotate_left 1; (· intro u hu; have c1' := (hu.cell hb1).trans hc1; have c2' := (hu.cell hb2).trans q2; have c3' := (hu.cell hb3).trans q3; have c4' := (hu.cell hb3).trans q4; have x2' := x2 u hu; have x3' := x3 u hu; have := tt; have h1 := huu; clear hu; go_simp; try with_reducible rfl); simp only [Act.put, List.getElem_toArray, List.getElem_cons_succ, List.getElem_cons_zero, List.setIfInBounds_toArray, List.set_cons_zero, List.set_cons_succ])
            iterate 12 (refine flow_skip rfl (by rfl) ?_; simp only [Act.put, List.getElem_toArray, List.getElem_cons_succ, List.getElem_cons_zero, List.setIfInBounds_toArray, List.set_cons_zero, List.set_cons_succ])
            iterate 1 (refine flow_take (v := ?_) rfl (by rfl) ?_ ?_; rotate_left 1; (· intro u hu; skip; clear hu; go_simp; try with_reducible rfl); simp only [Act.put, List.getElem_toArray, List.getElem_cons_succ, List.getElem_cons_zero, List.setIfInBounds_toArray, List.set_cons_zero, List.set_cons_succ])
            refine flow_nil ?_
            clear x2 x3 hc1 q2 q3 q4
            go_wp2_with fail
            go_ret
            have hf : (ks == iks) = false := by rw [beq_eq_false_iff_ne]; exact HNE.out
            rw [hf, Bool.false_and]
            exact ⟨rfl, HB.out.drew⟩
        · have hkn : k = n2 := by omega
          have hks : ks = iks := by
            have := HE1.out
            rwa [hkn, List.take_of_length_le (by rw [L1.out]; omega), List.take_of_length_le (by rw [L3.out]; omega)] at this
          have hds : ds = ids := by
            have := HE2.out
            rwa [hkn, List.take_of_length_le (by rw [L2.out]; omega), List.take_of_length_le (by rw [L3'.out]; omega)] at this
          have HT : Hid ((ks == iks && ds == ids) = true) := by show _ = _; rw [hks, hds]; simp
          clear hks hds hkn
          go_wp2_with fail
          go_ret
          exact ⟨by rw [HT.out]; rfl, HB.out⟩
    · have hne : ((n2 : Int) == (n3 : Int)) = false := by rw [beq_eq_false_iff_ne]; omega
      have HT : Hid ((ks == iks && ds == ids) = false) := by
        have hf : (ds == ids) = false := by rw [beq_eq_false_iff_ne]; intro e; apply hn2; rw [← h2, ← h3', e]
        show _ = _
        rw [hf, Bool.and_false]
      clear h1 h2 h3 h3'
      go_enter Tryd.func27, Tryd.ntmps27
      go_wp2_with fail
      go_ret
      exact ⟨by rw [HT.out]; rfl, Below.refl _ _⟩
  · have hne : ((n1 : Int) == (n3 : Int)) = false := by rw [beq_eq_false_iff_ne]; omega
    have HT : Hid ((ks == iks && ds == ids) = false) := by
      have hf : (ks == iks) = false := by rw [beq_eq_false_iff_ne]; intro e; apply hn1; rw [← h1, ← h3, e]
      show _ = _
      rw [hf, Bool.false_and]
    clear h1 h2 h3 h3'
    go_enter Tryd.func27, Tryd.ntmps27
    go_wp2_with fail
    go_ret
    exact ⟨by rw [HT.out]; rfl, Below.refl _ _⟩
end Go.Proofs.YtpdbbiokndhghaaDoor
