/-
  CONTRACT of the laws' 'does', case drop.
-/
import Derived.Test.YtjbcmepnlnfkjaaBgW
import Derived.Deep.CutRange
namespace Go.Proofs.Ytjbcmepnlnfkjaa
open Go Go.RowKit Go.Proofs

set_option maxRecDepth 100000 in
set_option maxHeartbeats 3200000 in
theorem does_drop (w0 : World) (g m q n i : Nat) (S : Int → Int → Bool) (ms : List Msg) (ps : List (Int × Int)) (a b : Int) (A : Option Addr) (c : Nat) (l : List UInt8) (u : World) (h : AW w0 g m q n S ms ms ps u) (hag : Agree S ps)
    (hml : ms.length ≤ i) (hpl : ps.length ≤ i) (hn : n ≤ i) (hi : i ≤ 500) (ha : InI64 a) (hb : InI64 b) (hl : l.length ≤ 140737488355328) (hB : Bytes w0 A l) :
    Calls Try.prog 15 #[.pointer (some ⟨g, 0, none⟩), .pointer (some ⟨q, 0, none⟩), .agg #[.int .i64 2, .int .i64 a, .int .i64 b, .slice A l.length c]] u (DoesOut w0 g m q i) := by
  have HH := Lib.hid h; clear h
  have HAG := Lib.hid hag; clear hag
  have HML := Lib.hid hml
  have HPL := Lib.hid hpl
  have HNN := Lib.hid hn
  have HI := Lib.hid hi
  have HA := Lib.hid ha; clear ha
  have HB := Lib.hid hb; clear hb
  have HL := Lib.hid hl; clear hl
  have HBY := Lib.hid hB; clear hB
  have hk5 : ms.length ≤ 500 := by omega
  clear hml hpl hn hi
  go_enter Try.func15, Try.ntmps15
  go_wp2_with fail
  have HS1 : Hid (AW w0 g m q n S ms ms ps (u.alloc (.cells #[.int .i64 2, .int .i64 a, .int .i64 b, .slice A l.length c] 28))) := HH.out.step ((Below.refl _ _).alloc (Nat.le_refl _) _)
  have HX1 : Hid (Box (u.alloc (.cells #[.int .i64 2, .int .i64 a, .int .i64 b, .slice A l.length c] 28)) u.heap.size #[.int .i64 2, .int .i64 a, .int .i64 b, .slice A l.length c]) := heap_alloc_new u _
  generalize u.alloc (.cells #[.int .i64 2, .int .i64 a, .int .i64 b, .slice A l.length c] 28) = u1 at *
  generalize u.heap.size = qb at *
  obtain ⟨AL, cL, c0⟩ : ∃ AL cL, u1.cell? ⟨q, 0, none⟩ = some (.slice AL ms.length cL) := by
    obtain ⟨Lm, Lp, h1, h2, h3, _⟩ := HS1.out.mod
    rcases h3.2 with ⟨e, h0⟩ | ⟨_, cap, _, e, _⟩
    · exact ⟨none, 0, by rw [h1.c0, e, h0]⟩
    · exact ⟨_, cap, by rw [h1.c0, e]⟩
  have HQ := Lib.hid (World.block_lt_of_cell? u1 _ c0)
  have x1 := HX1.out.c 1
  simp at x1
  obtain ⟨k, hk⟩ : ∃ k, ms.length = k := ⟨_, rfl⟩
  rw [hk] at c0 hk5
  have HK := Lib.hid hk; clear hk
  obtain ⟨β, hβ⟩ : ∃ β : Bool, β = decide (0 ≤ a ∧ a < (k : Int)) := ⟨_, rfl⟩
  have HBT := Lib.hid hβ; clear hβ
  go_cut [7] from 17 to 29 (fun is wx => is = .bool β ∧ wx = u1.drew)
  case first =>
    by_cases h0 : 0 ≤ a
    · have HBE : Hid (β = decide (a < (k : Int))) := by
        show _ = _
        rw [HBT.out]
        simp [h0]
      refine wp_region_flow [(0, true), (1, true), (2, true), (3, true), (4, true), (5, true), (6, true), (7, true), (8, true), (9, true), (10, true), (11, true), (12, true), (13, true)] (fun u => Below u1.heap.size u1 u) (by kernel_rfl) (by kernel_rfl) (fun _ _ _ _ _ h => h) ((Below.refl _ _).drew) ?_
      iterate 14 (refine flow_take (v := ?_) rfl (by rfl) ?_ ?_; rotate_left 1; (· intro u hu; have y1 := (hu.cell (p := ⟨qb, 1, none⟩) HX1.out.lt).trans x1; have y0 := (hu.cell (p := ⟨q, 0, none⟩) HQ.out).trans c0; clear hu; go_simp; try with_reducible rfl); simp only [Act.put, List.getElem_toArray, List.getElem_cons_succ, List.getElem_cons_zero, List.setIfInBounds_toArray, List.set_cons_zero, List.set_cons_succ])
      refine flow_nil ?_
      go_wp2_with fail
      go_meet
      exact ⟨by rw [HBE.out], rfl⟩
    · have HBE : Hid (β = false) := by
        show _ = _
        rw [HBT.out]
        simp [h0]
      refine wp_region_flow [(0, true), (1, true), (2, true), (3, true), (4, true), (5, true), (6, true), (7, true), (8, true), (9, true), (10, true), (11, true), (12, true), (13, true)] (fun u => Below u1.heap.size u1 u) (by kernel_rfl) (by kernel_rfl) (fun _ _ _ _ _ h => h) ((Below.refl _ _).drew) ?_
      iterate 4 (refine flow_take (v := ?_) rfl (by rfl) ?_ ?_; rotate_left 1; (· intro u hu; have y1 := (hu.cell (p := ⟨qb, 1, none⟩) HX1.out.lt).trans x1; have y0 := (hu.cell (p := ⟨q, 0, none⟩) HQ.out).trans c0; clear hu; go_simp; try with_reducible rfl); simp only [Act.put, List.getElem_toArray, List.getElem_cons_succ, List.getElem_cons_zero, List.setIfInBounds_toArray, List.set_cons_zero, List.set_cons_succ])
      iterate 8 (refine flow_skip rfl (by rfl) ?_; simp only [Act.put, List.getElem_toArray, List.getElem_cons_succ, List.getElem_cons_zero, List.setIfInBounds_toArray, List.set_cons_zero, List.set_cons_succ])
      iterate 2 (refine flow_take (v := ?_) rfl (by rfl) ?_ ?_; rotate_left 1; (· intro u hu; have y1 := (hu.cell (p := ⟨qb, 1, none⟩) HX1.out.lt).trans x1; have y0 := (hu.cell (p := ⟨q, 0, none⟩) HQ.out).trans c0; clear hu; go_simp; try with_reducible rfl); simp only [Act.put, List.getElem_toArray, List.getElem_cons_succ, List.getElem_cons_zero, List.setIfInBounds_toArray, List.set_cons_zero, List.set_cons_succ])
      refine flow_nil ?_
      go_wp2_with fail
      go_meet
      exact ⟨by rw [HBE.out], rfl⟩
  case rest =>
  obtain ⟨rfl, rfl⟩ := hcut
  have HS := Lib.hid HS1.out.drew
  have HX : Hid (Box u1.drew qb _) := HX1.out.step (Below.refl _ _).drew
  clear HS1 HX1 c0 x1 HQ
  generalize u1.drew = u2 at *
  have x0 := HX.out.c 0
  have x1 := HX.out.c 1
  have x2 := HX.out.c 2
  have x3 := HX.out.c 3
  simp at x0 x1 x2 x3
  by_cases hin : 0 ≤ a ∧ a < (k : Int)
  · have hβ : β = true := by rw [HBT.out]; simp [hin]
    subst hβ
    obtain ⟨j, rfl⟩ : ∃ j : Nat, a = j := ⟨a.toNat, by omega⟩
    have hj : j < ms.length := by rw [HK.out]; omega
    have HJ := Lib.hid hj
    clear hin hj
    go_wp2_with fail
    refine (out_any w0.heap.size q ms ps j u2 HS.out.mod HJ.out (by have := HML.out; have := HI.out; omega) HS.out.size).mono ?_
    rintro e w3 ⟨⟨v, rfl⟩, ht3, _, _⟩
    have HS3 := Lib.hid (HS.out.mturn ht3)
    have HX3 := Lib.hid (HX.out.mturn ht3)
    have y1 := HX3.out.c 1
    simp at y1
    clear ht3 x0 x1 x2 x3
    go_wp2_with fail
    refine (drop_some w0.heap.size Any g m ms j w3 HS3.out.bag HJ.out (by have := HML.out; have := HI.out; omega) HS3.out.pm.isMp HS3.out.size).mono ?_
    rintro e w4 ⟨rfl, ht4⟩
    have HS4 := Lib.hid (HS3.out.turned ht4)
    clear ht4 y1
    go_wp2_with fail
    go_ret
    exact ⟨rfl, ⟨n, S, _, ps, HS4.out, HAG.out, by have := HML.out; simp; omega, by have := HPL.out; omega, by have := HNN.out; omega⟩⟩
  · have hβ : β = false := by rw [HBT.out]; simp; omega
    subst hβ
    have HIN : Hid (a < 0 ∨ (ms.length : Int) ≤ a) := by show _ ∨ _; rw [HK.out]; omega
    clear hin
    go_wp2_with fail
    refine (drop_none w0.heap.size Any g m ms a u2 HS.out.bag HIN.out).mono ?_
    rintro e w4 ⟨rfl, rfl⟩
    go_wp2_with fail
    go_ret
    exact ⟨rfl, ⟨n, S, ms, ps, HS.out, HAG.out, by have := HML.out; omega, by have := HPL.out; omega, by have := HNN.out; omega⟩⟩
end Go.Proofs.Ytjbcmepnlnfkjaa
