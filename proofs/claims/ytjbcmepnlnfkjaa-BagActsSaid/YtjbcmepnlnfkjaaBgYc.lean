/-
  CONTRACT of the laws' 'does', case twice.
-/
import Derived.Test.YtjbcmepnlnfkjaaBgW
import Derived.Deep.CutRange
namespace Go.Proofs.Ytjbcmepnlnfkjaa
open Go Go.RowKit Go.Proofs

set_option maxRecDepth 100000 in
set_option maxHeartbeats 3200000 in
theorem does_twice (w0 : World) (g m q n i : Nat) (S : Int → Int → Bool) (ms : List Msg) (ps : List (Int × Int)) (a b : Int) (A : Option Addr) (c : Nat) (l : List UInt8) (u : World) (h : AW w0 g m q n S ms ms ps u) (hag : Agree S ps)
    (hml : ms.length ≤ i) (hpl : ps.length ≤ i) (hn : n ≤ i) (hi : i ≤ 500) (ha : InI64 a) (hb : InI64 b) (hl : l.length ≤ 140737488355328) (hB : Bytes w0 A l) :
    Calls Try.prog 15 #[.pointer (some ⟨g, 0, none⟩), .pointer (some ⟨q, 0, none⟩), .agg #[.int .i64 3, .int .i64 a, .int .i64 b, .slice A l.length c]] u (DoesOut w0 g m q i) := by
  have HH := Lib.hid h; clear h
  have HAG := Lib.hid hag; clear hag
  have HML := Lib.hid hml
  have HPL := Lib.hid hpl
  have HNN := Lib.hid hn
  have HI := Lib.hid hi
  have HA := Lib.hid ha; clear ha
  have HB := Lib.hid hb; clear hb
  have HL := Lib.hid hl; clear hl
  have HBY := Lib.hid hB; clear hB
  have hk5 : ms.length ≤ 500 := by omega
  clear hml hpl hn hi
  go_enter Try.func15, Try.ntmps15
  go_wp2_with fail
  have HS1 : Hid (AW w0 g m q n S ms ms ps (u.alloc (.cells #[.int .i64 3, .int .i64 a, .int .i64 b, .slice A l.length c] 28))) := HH.out.step ((Below.refl _ _).alloc (Nat.le_refl _) _)
  have HX1 : Hid (Box (u.alloc (.cells #[.int .i64 3, .int .i64 a, .int .i64 b, .slice A l.length c] 28)) u.heap.size #[.int .i64 3, .int .i64 a, .int .i64 b, .slice A l.length c]) := heap_alloc_new u _
  generalize u.alloc (.cells #[.int .i64 3, .int .i64 a, .int .i64 b, .slice A l.length c] 28) = u1 at *
  generalize u.heap.size = qb at *
  obtain ⟨AL, cL, c0⟩ : ∃ AL cL, u1.cell? ⟨q, 0, none⟩ = some (.slice AL ms.length cL) := by
    obtain ⟨Lm, Lp, h1, h2, h3, _⟩ := HS1.out.mod
    rcases h3.2 with ⟨e, h0⟩ | ⟨_, cap, _, e, _⟩
    · exact ⟨none, 0, by rw [h1.c0, e, h0]⟩
    · exact ⟨_, cap, by rw [h1.c0, e]⟩
  have HQ := Lib.hid (World.block_lt_of_cell? u1 _ c0)
  have x1 := HX1.out.c 1
  simp at x1
  obtain ⟨k, hk⟩ : ∃ k, ms.length = k := ⟨_, rfl⟩
  rw [hk] at c0 hk5
  have HK := Lib.hid hk; clear hk
  obtain ⟨β, hβ⟩ : ∃ β : Bool, β = decide (0 ≤ a ∧ a < (k : Int)) := ⟨_, rfl⟩
  have HBT := Lib.hid hβ; clear hβ
  go_cut [7] from 17 to 29 (fun is wx => is = .bool β ∧ wx = u1.drew)
  case first =>
    by_cases h0 : 0 ≤ a
    · have HBE : Hid (β = decide (a < (k : Int))) := by
        show _ = _
        rw [HBT.out]
        simp [h0]
      refine wp_region_flow [(0, true), (1, true), (2, true), (3, true), (4, true), (5, true), (6, true), (7, true), (8, true), (9, true), (10, true), (11, true), (12, true), (13, true)] (fun u => Below u1.heap.size u1 u) (by kernel_rfl) (by kernel_rfl) (fun _ _ _ _ _ h => h) ((Below.refl _ _).drew) ?_
      iterate 14 (refine flow_take (v := ?_) rfl (by rfl) ?_ ?_; rotate_left 1; (· intro u hu; have y1 := (hu.cell (p := ⟨qb, 1, none⟩) HX1.out.lt).trans x1; have y0 := (hu.cell (p := ⟨q, 0, none⟩) HQ.out).trans c0; clear hu; go_simp; try with_reducible rfl); simp only [Act.put, List.getElem_toArray, List.getElem_cons_succ, List.getElem_cons_zero, List.setIfInBounds_toArray, List.set_cons_zero, List.set_cons_succ])
      refine flow_nil ?_
      go_wp2_with fail
      go_meet
      exact ⟨by rw [HBE.out], rfl⟩
    · have HBE : Hid (β = false) := by
        show _ = _
        rw [HBT.out]
        simp [h0]
      refine wp_region_flow [(0, true), (1, true), (2, true), (3, true), (4, true), (5, true), (6, true), (7, true), (8, true), (9, true), (10, true), (11, true), (12, true), (13, true)] (fun u => Below u1.heap.size u1 u) (by kernel_rfl) (by kernel_rfl) (fun _ _ _ _ _ h => h) ((Below.refl _ _).drew) ?_
      iterate 4 (refine flow_take (v := ?_) rfl (by rfl) ?_ ?_; rotate_left 1; (· intro u hu; have y1 := (hu.cell (p := ⟨qb, 1, none⟩) HX1.out.lt).trans x1; have y0 := (hu.cell (p := ⟨q, 0, none⟩) HQ.out).trans c0; clear hu; go_simp; try with_reducible rfl); simp only [Act.put, List.getElem_toArray, List.getElem_cons_succ, List.getElem_cons_zero, List.setIfInBounds_toArray, List.set_cons_zero, List.set_cons_succ])
      iterate 8 (refine flow_skip rfl (by rfl) ?_; simp only [Act.put, List.getElem_toArray, List.getElem_cons_succ, List.getElem_cons_zero, List.setIfInBounds_toArray, List.set_cons_zero, List.set_cons_succ])
      iterate 2 (refine flow_take (v := ?_) rfl (by rfl) ?_ ?_; rotate_left 1; (· intro u hu; have y1 := (hu.cell (p := ⟨qb, 1, none⟩) HX1.out.lt).trans x1; have y0 := (hu.cell (p := ⟨q, 0, none⟩) HQ.out).trans c0; clear hu; go_simp; try with_reducible rfl); simp only [Act.put, List.getElem_toArray, List.getElem_cons_succ, List.getElem_cons_zero, List.setIfInBounds_toArray, List.set_cons_zero, List.set_cons_succ])
      refine flow_nil ?_
      go_wp2_with fail
      go_meet
      exact ⟨by rw [HBE.out], rfl⟩
  case rest =>
  obtain ⟨rfl, rfl⟩ := hcut
  have HS := Lib.hid HS1.out.drew
  have HX : Hid (Box u1.drew qb _) := HX1.out.step (Below.refl _ _).drew
  clear HS1 HX1 c0 x1 HQ
  generalize u1.drew = u2 at *
  have x0 := HX.out.c 0
  have x1 := HX.out.c 1
  have x2 := HX.out.c 2
  have x3 := HX.out.c 3
  simp at x0 x1 x2 x3
  by_cases hin : 0 ≤ a ∧ a < (k : Int)
  · have hβ : β = true := by rw [HBT.out]; simp [hin]
    subst hβ
    obtain ⟨j, rfl⟩ : ∃ j : Nat, a = j := ⟨a.toNat, by omega⟩
    have hj : j < ms.length := by rw [HK.out]; omega
    have HJ := Lib.hid hj
    clear hin hj
    go_wp2_with fail
    refine (twice_room w0.heap.size Any g m ms j u2 HS.out.bag HJ.out (by have := HML.out; have := HI.out; omega) HS.out.pm.isMp HS.out.size (fun _ _ => trivial)).mono ?_
    rintro e w3 ⟨rfl, ht3⟩
    have HS3 := Lib.hid (HS.out.turned ht3)
    have HX3 := Lib.hid (HX.out.turned HS.out.pm.isMp ht3)
    have y1 := HX3.out.c 1
    simp at y1
    clear ht3 x0 x1 x2 x3
    obtain ⟨i1, hj, hy0, hy1, hy2⟩ := info_parts info32
    obtain ⟨Lm, Lp, m1, m2, m3, m4, m5, m6⟩ := HS3.out.mod
    obtain ⟨g0, cap, rfl, hg0, hglt, hnc, hcm⟩ := own_form m3 (by have := HJ.out; omega)
    obtain ⟨f0, f1, f2⟩ := flatS_at ms j HJ.out
    have q0 := m3.cells (g := g0) rfl _ _ f0
    have q1 := m3.cells (g := g0) rfl _ _ f1
    have q2 := m3.cells (g := g0) rfl _ _ f2
    rw [add_plain, Nat.zero_add] at q0 q1 q2
    have c0 := m1.c0
    have HM1 := Lib.hid m1
    have HM2 := Lib.hid m2
    have HM3 := Lib.hid m3
    have HM4 := Lib.hid m4
    have HM5 := Lib.hid m5
    have HM6 := Lib.hid m6
    have HMOK := Lib.hid (m5 _ (List.getElem_mem HJ.out))
    have HX3' := HX3
    obtain ⟨x, hx⟩ : ∃ x, ms[j]'HJ.out = x := ⟨_, rfl⟩
    rw [hx] at q0 q1 q2 HMOK HS3
    clear hx f0 f1 f2 m1 m2 m3 m4 m5 m6
    obtain ⟨xf, xt, xb⟩ := x
    simp only at q0 q1 q2
    rw [HK.out] at c0 HM1 HM3 hnc
    have hjk : j < k := by have := HJ.out; have := HK.out; omega
    have d1 : decide ((k : Int) < 16384) = true := by rw [decide_eq_true_iff]; omega
    go_wp2_with fail
    have HQ := Lib.hid HM1.out.lt
    have SC : Hid (w3.drew.cell? ⟨q, 0, none⟩ = some (.slice (some ⟨g0, 0, none⟩) k cap) ∧ w3.drew.cell? ⟨qb, 1, none⟩ = some (.int .i64 (j : Int))) := ⟨c0, y1⟩
    refine wp_region_flowE [(0, 1), (1, 1), (2, 1), (3, 1), (4, 1), (5, 1), (6, 1), (7, 1), (8, 1), (9, 1), (10, 1), (11, 1), (12, 0), (13, 0), (14, 0), (15, 2), (16, 1)] 17 (fun u => u.cell? ⟨q, 0, none⟩ = some (.slice (some ⟨g0, 0, none⟩) k cap) ∧ u.cell? ⟨qb, 1, none⟩ = some (.int .i64 (j : Int))) (by kernel_rfl) (by kernel_rfl) (fun _ _ _ _ _ h => h) (SC.out) ?_
    iterate 12 (refine flowE_take (v := ?_) rfl (by rfl) ?_ ?_; rotate_left 1; (· intro u hu; have a0 := hu.1; have a1 := hu.2; clear hu; go_simp; try with_reducible rfl); simp only [Act.put, List.getElem_toArray, List.getElem_cons_succ, List.getElem_cons_zero, List.setIfInBounds_toArray, List.set_cons_zero, List.set_cons_succ])
    have q0' : w3.drew.cell? ⟨g0, j * 3, none⟩ = some (.int .i64 xf) := q0
    have q1' : w3.drew.cell? ⟨g0, j * 3 + 1, none⟩ = some (.int .i64 xt) := q1
    have q2' : w3.drew.cell? ⟨g0, j * 3 + 2, none⟩ = some (.string (text xb)) := q2
    (refine flowE_turn rfl (by rfl) (fun K hK => ?_); simp only [List.getElem_toArray, List.getElem_cons_succ, List.getElem_cons_zero]; have HKK := Lib.hid hK; clear hK; go_simp)
    refine HKK.out _ _ ⟨fun u => u.cell? ⟨q, 0, none⟩ = some (.slice (some ⟨g0, 0, none⟩) k cap) ∧ u.cell? ⟨qb, 1, none⟩ = some (.int .i64 (j : Int)), SC.out, fun u hu => hu, ?_⟩
    clear HKK K q0 q1 q2 q0' q1' q2' SC
    (refine flowE_turn rfl (by rfl) (fun K hK => ?_); simp only [List.getElem_toArray, List.getElem_cons_succ, List.getElem_cons_zero]; have HKK := Lib.hid hK; clear hK; go_simp)
    have HB4 : Hid (Below w3.heap.size w3 (w3.alloc (.cells #[.int .i64 xf, .int .i64 xt, .string (text xb)] 32)).drew) := ((Below.refl _ _).alloc (Nat.le_refl _) _).drew
    have HCN : Hid (∀ jj v, [Value.int .i64 xf, Value.int .i64 xt, Value.string (text xb)][jj]? = some v → (w3.alloc (.cells #[.int .i64 xf, .int .i64 xt, .string (text xb)] 32)).drew.cell? ((⟨w3.heap.size, 0, none⟩ : Addr).add jj) = some v) := cell_three_new w3 _ _ _ 32 _ rfl
    generalize (w3.alloc (.cells #[.int .i64 xf, .int .i64 xt, .string (text xb)] 32)).drew = w4 at *
    have HS4 := Lib.hid (HS3.out.step HB4.out)
    have HX4 := Lib.hid (HX3.out.step HB4.out)
    have HM14 : Hid (MBlk w4 q (.slice (some ⟨g0, 0, none⟩) k cap) Lp) := (HB4.out.block q HM1.out.lt).trans HM1.out
    have HM34 := Lib.hid (own_below HM3.out HB4.out)
    have HM44 := Lib.hid (own_below HM4.out HB4.out)
    refine HKK.out _ _ ⟨fun u => u.cell? ⟨q, 0, none⟩ = some (.slice (some ⟨g0, 0, none⟩) k cap) ∧ u.cell? ⟨qb, 1, none⟩ = some (.int .i64 (j : Int)), ⟨HM14.out.c0, (by have := HX4.out.c 1; simpa using this)⟩, fun u hu => hu, ?_⟩
    clear HKK K
    refine flowE_turn rfl (by rfl) (fun K hK => ?_)
    simp only [List.getElem_toArray, List.getElem_cons_succ, List.getElem_cons_zero]
    have HKK := Lib.hid hK; clear hK
    refine wp_append_at _ _ 40 rfl w0.heap.size 32 i1 _ 3 32 Try.underlying40 hj hy0 hy1 hy2 rfl (by omega) _ k _ rfl HM34.out ⟨w3.heap.size, 0, none⟩ 1 1 [.int .i64 xf, .int .i64 xt, .string (text xb)] rfl rfl HCN.out (by simp [Value.oneCell']) (by unfold maxLen; omega) (by omega) HS4.out.size ?_
    intro v5 w5 ho5' hg5' hb5'
    have ho5 : w5.ownsRow w0.heap.size 32 3 v5 (k + 1) (flatS ms ++ flatS [(xf, xt, xb)]) := ho5'
    have hg5 : w4.grownBy w5 (Value.ownBlock (.slice (some ⟨g0, 0, none⟩) k cap)) := hg5'
    clear ho5' hg5' hb5'
    rw [← flatS_append, show k + 1 = (ms ++ [((xf : Int), (xt : Int), (xb : List UInt8))]).length by rw [List.length_append, HK.out]; rfl] at ho5
    have hkind : ∀ kk, Value.ownBlock (.slice (some ⟨g0, 0, none⟩) k cap) = some kk → ∃ c fr, w4.heap[kk]? = some (.cells c 32 fr) := own_row_kind HM34.out
    have hrm := remsg (ms' := ms ++ [(xf, xt, xb)]) (ps := ps) HM14.out HM2.out HM44.out rfl rfl hg5 (fun kk hk => ⟨(HM34.out.lt kk hk).1, fun _ => hkind kk hk⟩) ho5 (fun y hy => by
      rcases List.mem_append.1 hy with hy | hy
      · exact HM5.out y hy
      · have : y = (xf, xt, xb) := by simpa using hy
        rw [this]
        exact HMOK.out) HM6.out HS4.out.size
    have HS5 := Lib.hid (HS4.out.mturn hrm.1)
    have HMT5 := Lib.hid hrm.1
    have HX5 := Lib.hid (HX4.out.grown hg5 (by decide) hkind)
    have HM15 := Lib.hid hrm.2
    have HG5 := Lib.hid hg5
    have HO5 := Lib.hid ho5
    clear hrm hkind hg5 ho5
    have d0 := HM15.out.c0
    have df := HM15.out.fz 0
    refine HKK.out _ _ ⟨fun u => u.cell? ⟨q, 0, none⟩ = some (.slice (some ⟨g0, 0, none⟩) k cap) ∧ u.cell? ⟨qb, 1, none⟩ = some (.int .i64 (j : Int)), ⟨d0, (by have := HX5.out.c 1; simpa using this)⟩, fun u hu => hu, ?_⟩
    clear HKK K
    obtain ⟨A5, c5, hv5⟩ : ∃ A5 c5, v5 = .slice A5 (ms ++ [((xf : Int), (xt : Int), (xb : List UInt8))]).length c5 := by
      rcases HO5.out.2 with ⟨e, h0⟩ | ⟨_, cap, _, e, _⟩
      · exact ⟨none, 0, by rw [e, h0]⟩
      · exact ⟨_, cap, e⟩
    subst hv5
    clear HO5 HMT5
    generalize (ms ++ [((xf : Int), (xt : Int), (xb : List UInt8))]).length = k5 at *
    iterate 1 (refine flowE_pure (v := ?_) rfl (by rfl) ?_ ?_; rotate_left 1; (· intro u hu; skip; clear hu; go_simp; try with_reducible rfl); simp only [Act.put, List.getElem_toArray, List.getElem_cons_succ, List.getElem_cons_zero, List.setIfInBounds_toArray, List.set_cons_zero, List.set_cons_succ])
    iterate 1 (refine flowE_take (v := ?_) rfl (by rfl) ?_ ?_; rotate_left 1; (· intro u hu; skip; clear hu; go_simp; try with_reducible rfl); simp only [Act.put, List.getElem_toArray, List.getElem_cons_succ, List.getElem_cons_zero, List.setIfInBounds_toArray, List.set_cons_zero, List.set_cons_succ])
    (refine flowE_end rfl (by rfl) (fun K hK => ?_); simp only [List.getElem_toArray, List.getElem_cons_succ, List.getElem_cons_zero]; have HKK := Lib.hid hK; clear hK; go_simp)
    refine HKK.out _ _ ?_
    clear HKK K d0 df
    go_wp2_with fail
    go_ret
    exact ⟨rfl, ⟨n, S, _, ps, HS5.out, HAG.out, by have := HML.out; simp; omega, by have := HPL.out; omega, by have := HNN.out; omega⟩⟩
  · have hβ : β = false := by rw [HBT.out]; simp; omega
    subst hβ
    have HIN : Hid (a < 0 ∨ (ms.length : Int) ≤ a) := by show _ ∨ _; rw [HK.out]; omega
    clear hin
    go_wp2_with fail
    refine (twice_none w0.heap.size Any g m ms a u2 HS.out.bag HIN.out).mono ?_
    rintro e w4 ⟨rfl, rfl⟩
    go_wp2_with fail
    go_ret
    exact ⟨rfl, ⟨n, S, ms, ps, HS.out, HAG.out, by have := HML.out; omega, by have := HPL.out; omega, by have := HNN.out; omega⟩⟩
end Go.Proofs.Ytjbcmepnlnfkjaa
