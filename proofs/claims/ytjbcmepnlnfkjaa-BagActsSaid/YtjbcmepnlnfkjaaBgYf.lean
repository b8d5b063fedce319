/-
  CONTRACT of the laws' 'does', case clear.
-/
import Derived.Test.YtjbcmepnlnfkjaaBgW
import Derived.Deep.CutRange
import Derived.IntWalk
namespace Go.Proofs.Ytjbcmepnlnfkjaa
open Go Go.RowKit Go.Proofs

set_option maxRecDepth 100000 in
set_option maxHeartbeats 3200000 in
theorem does_clear (w0 : World) (g m q n i : Nat) (S : Int → Int → Bool) (ms : List Msg) (ps : List (Int × Int)) (a b : Int) (A : Option Addr) (c : Nat) (l : List UInt8) (u : World) (h : AW w0 g m q n S ms ms ps u) (hag : Agree S ps)
    (hml : ms.length ≤ i) (hpl : ps.length ≤ i) (hn : n ≤ i) (hi : i ≤ 500) (ha : InI64 a) (hb : InI64 b) (hl : l.length ≤ 140737488355328) (hB : Bytes w0 A l) :
    Calls Try.prog 15 #[.pointer (some ⟨g, 0, none⟩), .pointer (some ⟨q, 0, none⟩), .agg #[.int .i64 6, .int .i64 a, .int .i64 b, .slice A l.length c]] u (DoesOut w0 g m q i) := by
  have HH := Lib.hid h; clear h
  have HAG := Lib.hid hag; clear hag
  have HML := Lib.hid hml
  have HPL := Lib.hid hpl
  have HNN := Lib.hid hn
  have HI := Lib.hid hi
  have HA := Lib.hid ha; clear ha
  have HB := Lib.hid hb; clear hb
  have HL := Lib.hid hl; clear hl
  have HBY := Lib.hid hB; clear hB
  have hk5 : ms.length ≤ 500 := by omega
  clear hml hpl hn hi
  go_enter Try.func15, Try.ntmps15
  go_wp2_with fail
  have HS1 : Hid (AW w0 g m q n S ms ms ps (u.alloc (.cells #[.int .i64 6, .int .i64 a, .int .i64 b, .slice A l.length c] 28))) := HH.out.step ((Below.refl _ _).alloc (Nat.le_refl _) _)
  have HX1 : Hid (Box (u.alloc (.cells #[.int .i64 6, .int .i64 a, .int .i64 b, .slice A l.length c] 28)) u.heap.size #[.int .i64 6, .int .i64 a, .int .i64 b, .slice A l.length c]) := heap_alloc_new u _
  generalize u.alloc (.cells #[.int .i64 6, .int .i64 a, .int .i64 b, .slice A l.length c] 28) = u1 at *
  generalize u.heap.size = qb at *
  obtain ⟨AL, cL, c0⟩ : ∃ AL cL, u1.cell? ⟨q, 0, none⟩ = some (.slice AL ms.length cL) := by
    obtain ⟨Lm, Lp, h1, h2, h3, _⟩ := HS1.out.mod
    rcases h3.2 with ⟨e, h0⟩ | ⟨_, cap, _, e, _⟩
    · exact ⟨none, 0, by rw [h1.c0, e, h0]⟩
    · exact ⟨_, cap, by rw [h1.c0, e]⟩
  have HQ := Lib.hid (World.block_lt_of_cell? u1 _ c0)
  have x1 := HX1.out.c 1
  simp at x1
  obtain ⟨k, hk⟩ : ∃ k, ms.length = k := ⟨_, rfl⟩
  rw [hk] at c0 hk5
  have HK := Lib.hid hk; clear hk
  obtain ⟨β, hβ⟩ : ∃ β : Bool, β = decide (0 ≤ a ∧ a < (k : Int)) := ⟨_, rfl⟩
  have HBT := Lib.hid hβ; clear hβ
  go_cut [7] from 17 to 29 (fun is wx => is = .bool β ∧ wx = u1.drew)
  case first =>
    by_cases h0 : 0 ≤ a
    · have HBE : Hid (β = decide (a < (k : Int))) := by
        show _ = _
        rw [HBT.out]
        simp [h0]
      refine wp_region_flow [(0, true), (1, true), (2, true), (3, true), (4, true), (5, true), (6, true), (7, true), (8, true), (9, true), (10, true), (11, true), (12, true), (13, true)] (fun u => Below u1.heap.size u1 u) (by kernel_rfl) (by kernel_rfl) (fun _ _ _ _ _ h => h) ((Below.refl _ _).drew) ?_
      iterate 14 (refine flow_take (v := ?_) rfl (by rfl) ?_ ?_; rotate_left 1; (· intro u hu; have y1 := (hu.cell (p := ⟨qb, 1, none⟩) HX1.out.lt).trans x1; have y0 := (hu.cell (p := ⟨q, 0, none⟩) HQ.out).trans c0; clear hu; go_simp; try with_reducible rfl); simp only [Act.put, List.getElem_toArray, List.getElem_cons_succ, List.getElem_cons_zero, List.setIfInBounds_toArray, List.set_cons_zero, List.set_cons_succ])
      refine flow_nil ?_
      go_wp2_with fail
      go_meet
      exact ⟨by rw [HBE.out], rfl⟩
    · have HBE : Hid (β = false) := by
        show _ = _
        rw [HBT.out]
        simp [h0]
      refine wp_region_flow [(0, true), (1, true), (2, true), (3, true), (4, true), (5, true), (6, true), (7, true), (8, true), (9, true), (10, true), (11, true), (12, true), (13, true)] (fun u => Below u1.heap.size u1 u) (by kernel_rfl) (by kernel_rfl) (fun _ _ _ _ _ h => h) ((Below.refl _ _).drew) ?_
      iterate 4 (refine flow_take (v := ?_) rfl (by rfl) ?_ ?_; rotate_left 1; (· intro u hu; have y1 := (hu.cell (p := ⟨qb, 1, none⟩) HX1.out.lt).trans x1; have y0 := (hu.cell (p := ⟨q, 0, none⟩) HQ.out).trans c0; clear hu; go_simp; try with_reducible rfl); simp only [Act.put, List.getElem_toArray, List.getElem_cons_succ, List.getElem_cons_zero, List.setIfInBounds_toArray, List.set_cons_zero, List.set_cons_succ])
      iterate 8 (refine flow_skip rfl (by rfl) ?_; simp only [Act.put, List.getElem_toArray, List.getElem_cons_succ, List.getElem_cons_zero, List.setIfInBounds_toArray, List.set_cons_zero, List.set_cons_succ])
      iterate 2 (refine flow_take (v := ?_) rfl (by rfl) ?_ ?_; rotate_left 1; (· intro u hu; have y1 := (hu.cell (p := ⟨qb, 1, none⟩) HX1.out.lt).trans x1; have y0 := (hu.cell (p := ⟨q, 0, none⟩) HQ.out).trans c0; clear hu; go_simp; try with_reducible rfl); simp only [Act.put, List.getElem_toArray, List.getElem_cons_succ, List.getElem_cons_zero, List.setIfInBounds_toArray, List.set_cons_zero, List.set_cons_succ])
      refine flow_nil ?_
      go_wp2_with fail
      go_meet
      exact ⟨by rw [HBE.out], rfl⟩
  case rest =>
  obtain ⟨rfl, rfl⟩ := hcut
  have HS := Lib.hid HS1.out.drew
  have HX : Hid (Box u1.drew qb _) := HX1.out.step (Below.refl _ _).drew
  clear HS1 HX1 c0 x1 HQ
  generalize u1.drew = u2 at *
  have x0 := HX.out.c 0
  have x1 := HX.out.c 1
  have x2 := HX.out.c 2
  have x3 := HX.out.c 3
  simp at x0 x1 x2 x3
  obtain ⟨i1, hj, hy0, hy1, hy2⟩ := info_parts info32
  obtain ⟨Lm, Lp, m1, m2, m3, m4, m5, m6⟩ := HS.out.mod
  obtain ⟨AL0, cL0, rfl⟩ : ∃ AL0 cL0, Lm = .slice AL0 ms.length cL0 := by
    rcases m3.2 with ⟨e, h0⟩ | ⟨_, cap, _, e, _⟩
    · exact ⟨none, 0, by rw [e, h0]⟩
    · exact ⟨_, cap, e⟩
  have c0 := m1.c0
  have HM1 := Lib.hid m1
  have HM2 := Lib.hid m2
  have HM3 := Lib.hid m3
  have HM4 := Lib.hid m4
  have HM5 := Lib.hid m5
  have HM6 := Lib.hid m6
  clear m1 m2 m3 m4 m5 m6
  rw [HK.out] at c0 HM1 HM3
  have HE0 : Hid ((u2.alloc (.cells #[] 32)).ownsRow u2.heap.size 32 3 (.slice (some ⟨u2.heap.size, 0, none⟩) 0 0) 0 []) := own_lit3 u2 32 3 u2.heap.size u2.heap.size rfl (Nat.le_refl _)
  have HB0 : Hid (Below u2.heap.size u2 (u2.alloc (.cells #[] 32))) := (Below.refl _ _).alloc (Nat.le_refl _) _
  go_wp2_with fail
  go_loopw [14, 15, 16] (fun x y z wr => ∃ (i cn : Nat), x = .int .i64 cn ∧ z = .int .i64 i ∧ i ≤ k ∧ cn + (fm a (ms.take i)).length = i ∧ wr.ownsRow u2.heap.size 32 3 y (fm a (ms.take i)).length (flatS (fm a (ms.take i))) ∧ Below u2.heap.size u2 wr) (fun _ _ z _ => k - (intOf z).toNat)
  case atStart => exact ⟨0, 0, rfl, rfl, Nat.zero_le _, rfl, HE0.out, HB0.out⟩
  case round =>
    clear HE0 HB0 c0 x0 x1 x2 x3
    obtain ⟨i', cn, rfl, rfl, hik, hcn, ho, hb⟩ := hrel
    have HO := Lib.hid ho; clear ho
    have HBW := Lib.hid hb; clear hb
    have HCN := Lib.hid hcn
    have hcn5 : cn ≤ 500 := by omega
    clear hcn
    have c0 : wr.cell? ⟨q, 0, none⟩ = some (.slice AL0 k cL0) := (HBW.out.cell (p := ⟨q, 0, none⟩) HM1.out.lt).trans HM1.out.c0
    have HXW := Lib.hid (HX.out.step HBW.out)
    have x1 := HXW.out.c 1
    simp at x1
    by_cases hlt : i' < k
    · obtain ⟨g0, cap0, hv, _⟩ := own_form HM3.out (by omega)
      injection hv with hA _ hc
      subst hA hc
      have hi : i' < ms.length := by rw [HK.out]; exact hlt
      obtain ⟨f0, f1, f2⟩ := flatS_at ms i' hi
      have q0 := (HBW.out.cell (World.block_lt_of_cell? u2 _ (HM3.out.cells (g := g0) rfl _ _ f0))).trans (HM3.out.cells (g := g0) rfl _ _ f0)
      have q1 := (HBW.out.cell (World.block_lt_of_cell? u2 _ (HM3.out.cells (g := g0) rfl _ _ f1))).trans (HM3.out.cells (g := g0) rfl _ _ f1)
      have q2 := (HBW.out.cell (World.block_lt_of_cell? u2 _ (HM3.out.cells (g := g0) rfl _ _ f2))).trans (HM3.out.cells (g := g0) rfl _ _ f2)
      rw [add_plain, Nat.zero_add] at q0 q1 q2
      have HSN : Hid (ms.take (i' + 1) = ms.take i' ++ [ms[i']]) := List.take_succ_eq_append_getElem hi
      generalize ms[i'] = x at *
      clear hi f0 f1 f2
      obtain ⟨xf, xt, xb⟩ := x
      simp only at q0 q1 q2
      by_cases hxt : xt = a
      · subst hxt
        have HFM : Hid (fm xt (ms.take (i' + 1)) = fm xt (ms.take i')) := by
          show _ = _
          rw [HSN.out, fm_append]
          unfold fm
          simp [toB]
        have wr1 : IntKind.i64.wrap ((cn : Int) + 1) = (cn : Int) + 1 := IntWalk.i64_in _ (by omega)
        go_wp2_with fail
        refine wp_region_flow [(0, true), (1, true), (2, true), (3, true), (4, true), (5, true), (6, true), (7, true), (8, true), (9, true), (10, true)] (fun u => Below wr.heap.size wr u) (by kernel_rfl) (by kernel_rfl) (fun _ _ _ _ _ h => h) ((Below.refl _ _).drew) ?_
        iterate 11 (refine flow_take (v := ?_) rfl (by rfl) ?_ ?_; rotate_left 1; (· intro u hu; have a0 := (hu.cell (p := ⟨q, 0, none⟩) (World.block_lt_of_cell? wr _ c0)).trans c0; have a1 := (hu.cell (p := ⟨qb, 1, none⟩) (World.block_lt_of_cell? wr _ x1)).trans x1; have a2 := (hu.cell (p := ⟨g0, i' * 3 + 1, none⟩) (World.block_lt_of_cell? wr _ q1)).trans q1; clear hu; go_simp; try with_reducible rfl); simp only [Act.put, List.getElem_toArray, List.getElem_cons_succ, List.getElem_cons_zero, List.setIfInBounds_toArray, List.set_cons_zero, List.set_cons_succ])
        refine flow_nil ?_
        go_wp2_with fail
        clear wr1
        go_roundw
        case rel => exact ⟨i' + 1, cn + 1, by go_num, by go_num, by omega, by rw [HFM.out]; have := HCN.out; omega, by rw [HFM.out]; exact own_below HO.out (Below.refl _ _).drew, HBW.out.drew⟩
        case measure => simp [intOf]; omega
      · have hxa : (xt == a) = false := by rw [beq_eq_false_iff_ne]; exact hxt
        have HFM : Hid (fm a (ms.take (i' + 1)) = fm a (ms.take i') ++ [(xf, xt, xb)]) := by
          show _ = _
          rw [HSN.out, fm_append]
          congr 1
          unfold fm
          simp [toB, hxt]
        clear hxt
        go_wp2_with fail
        refine wp_region_flow [(0, true), (1, true), (2, true), (3, true), (4, true), (5, true), (6, true), (7, true), (8, true), (9, true), (10, true)] (fun u => Below wr.heap.size wr u) (by kernel_rfl) (by kernel_rfl) (fun _ _ _ _ _ h => h) ((Below.refl _ _).drew) ?_
        iterate 11 (refine flow_take (v := ?_) rfl (by rfl) ?_ ?_; rotate_left 1; (· intro u hu; have a0 := (hu.cell (p := ⟨q, 0, none⟩) (World.block_lt_of_cell? wr _ c0)).trans c0; have a1 := (hu.cell (p := ⟨qb, 1, none⟩) (World.block_lt_of_cell? wr _ x1)).trans x1; have a2 := (hu.cell (p := ⟨g0, i' * 3 + 1, none⟩) (World.block_lt_of_cell? wr _ q1)).trans q1; clear hu; go_simp; try with_reducible rfl); simp only [Act.put, List.getElem_toArray, List.getElem_cons_succ, List.getElem_cons_zero, List.setIfInBounds_toArray, List.set_cons_zero, List.set_cons_succ])
        refine flow_nil ?_
        have HB4 : Hid (Below wr.heap.size wr (wr.alloc (.cells #[.int .i64 xf, .int .i64 xt, .string (text xb)] 32)).drew) := ((Below.refl _ _).alloc (Nat.le_refl _) _).drew
        have HCC : Hid (∀ jj v, [Value.int .i64 xf, Value.int .i64 xt, Value.string (text xb)][jj]? = some v → (wr.alloc (.cells #[.int .i64 xf, .int .i64 xt, .string (text xb)] 32)).drew.cell? ((⟨wr.heap.size, 0, none⟩ : Addr).add jj) = some v) := cell_three_new wr _ _ _ 32 _ rfl
        have HO4 := Lib.hid (own_below HO.out HB4.out)
        have hkf : (fm a (ms.take i')).length ≤ 500 := by have := HCN.out; omega
        have HUW : Hid (u2.heap.size ≤ (wr.alloc (.cells #[.int .i64 xf, .int .i64 xt, .string (text xb)] 32)).drew.heap.size) := Nat.le_trans HBW.out.size HB4.out.size
        go_wp2_with (at_builtin; refine wpList_append_at rfl _ _ 40 rfl u2.heap.size 32 i1 _ 3 32 Try.underlying40 hj hy0 hy1 hy2 rfl (by omega) _ (fm a (ms.take i')).length _ rfl HO4.out ⟨wr.heap.size, 0, none⟩ 1 1 [.int .i64 xf, .int .i64 xt, .string (text xb)] rfl rfl HCC.out (by simp [Value.oneCell']) (by unfold maxLen; omega) (by omega) HUW.out ?_)
        intro v5 w5 ho5' hg5'
        have ho5 : w5.ownsRow u2.heap.size 32 3 v5 ((fm a (ms.take i')).length + 1) (flatS (fm a (ms.take i')) ++ flatS [(xf, xt, xb)]) := ho5'
        have hg5 : (wr.alloc (.cells #[.int .i64 xf, .int .i64 xt, .string (text xb)] 32)).drew.grownBy w5 u15.ownBlock := hg5'
        clear ho5' hg5'
        have HO5 := Lib.hid ho5
        have HBW5 : Hid (Below u2.heap.size u2 w5) := (HBW.out.trans (HB4.out.mono HBW.out.size)).grown hg5 HUW.out (fun kk hk => (HO4.out.lt kk hk).1)
        clear ho5 hg5
        go_wp2_with fail
        go_roundw
        case rel =>
          refine ⟨i' + 1, cn, rfl, by go_num, by omega, by rw [HFM.out, List.length_append]; have := HCN.out; simp; omega, ?_, HBW5.out⟩
          have := HO5.out
          rw [← flatS_append, ← HFM.out] at this
          rwa [show (fm a (ms.take i')).length + 1 = (fm a (ms.take (i' + 1))).length by rw [HFM.out, List.length_append]; rfl] at this
        case measure => simp [intOf]; omega
    · have hik' : i' = k := by omega
      subst hik'
      have e1 : ms.take i' = ms := List.take_of_length_le (by rw [HK.out]; exact Nat.le_refl _)
      have HCN' := HCN.out
      have HO' := HO.out
      rw [e1] at HCN' HO'
      obtain ⟨kf, hkf⟩ : ∃ kf, (fm a ms).length = kf := ⟨_, rfl⟩
      have HKF := Lib.hid hkf
      obtain ⟨A5, c5, hv5⟩ : ∃ A5 c5, u15 = .slice A5 kf c5 := by
        rw [← hkf]
        rcases HO'.2 with ⟨e, h0⟩ | ⟨_, cap, _, e, _⟩
        · exact ⟨none, 0, by rw [e, h0]⟩
        · exact ⟨_, cap, e⟩
      subst hv5
      clear hkf
      have HSW := Lib.hid (HS.out.step HBW.out)
      obtain ⟨Lm', Lp', n1, n2, n3, n4, n5, n6⟩ := HSW.out.mod
      have hrm := remsg (w1 := wr) (row := none) (ms' := fm a ms) (ps := ps) n1 n2 n4 rfl rfl (World.grownBy.refl wr none) (fun kk hk => by cases hk) (own_mono HO' HS.out.size) (fun y hy => n5 y (List.mem_filter.1 hy).1) n6 HSW.out.size
      have HS6 := Lib.hid (HSW.out.mturn hrm.1)
      have HX6 := Lib.hid (HXW.out.set n1 0 (.slice A5 kf c5))
      have d0 := n1.c0
      have df := n1.fz 0
      have HFL : Hid ((fm a ms).length ≤ ms.length) := List.length_filter_le _ _
      have HCL := clear_any w0.heap.size Any g m ms a (wr.setCell ⟨q, 0, none⟩ (.slice A5 kf c5)) HS6.out.bag (by have := HML.out; have := HI.out; omega) HS6.out.pm.isMp HS6.out.size
      have hcc : ((ms.length : Int) - ((fm a ms).length : Int)) = (cn : Int) := by have := HK.out; omega
      have HCE := Lib.hid hcc
      have HCLH := Lib.hid HCL
      have y1 := HX6.out.c 1
      simp at y1
      clear n1 n2 n3 n4 n5 n6 hrm hcc HCL HCN' HO' e1
      go_wp2_with fail
      refine HCLH.out.mono ?_
      rintro e w7 ⟨rfl, ht7⟩
      rw [HCE.out]
      have HS7 := Lib.hid (HS6.out.turned ht7)
      clear ht7
      go_wp2_with fail
      go_ret
      exact ⟨by simp, n, S, _, ps, HS7.out, HAG.out, by have := HML.out; have := HFL.out; omega, by have := HPL.out; omega, by have := HNN.out; omega⟩
end Go.Proofs.Ytjbcmepnlnfkjaa
