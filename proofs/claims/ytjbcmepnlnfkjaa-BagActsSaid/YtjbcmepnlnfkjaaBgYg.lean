/-
  CONTRACT of the laws' 'does', case post.
-/
import Derived.Test.YtjbcmepnlnfkjaaBgW
import Derived.Deep.CutRange
namespace Go.Proofs.Ytjbcmepnlnfkjaa
open Go Go.RowKit Go.Proofs

/-- an act's box, its bytes as a text -/
def PostAt (qb : Nat) (a b : Int) (A : Option Addr) (n c : Nat) (l : List UInt8) (u : World) : Prop :=
  u.cell? ⟨qb, 1, none⟩ = some (.int .i64 a) ∧ u.cell? ⟨qb, 2, none⟩ = some (.int .i64 b) ∧ u.cell? ⟨qb, 3, none⟩ = some (.slice A n c) ∧ (convert 26 9 (.slice A n c)).run Try.prog u = .ok (.string (text l)) u

set_option maxRecDepth 100000 in
set_option maxHeartbeats 3200000 in
theorem does_post (w0 : World) (g m q n i : Nat) (S : Int → Int → Bool) (ms : List Msg) (ps : List (Int × Int)) (d a b : Int) (A : Option Addr) (c : Nat) (l : List UInt8) (u : World) (h : AW w0 g m q n S ms ms ps u) (hag : Agree S ps)
    (hml : ms.length ≤ i) (hpl : ps.length ≤ i) (hn : n ≤ i) (hi : i ≤ 500) (ha : InI64 a) (hb : InI64 b) (hl : l.length ≤ 140737488355328) (hB : Bytes w0 A l) (hd : d ≠ 1 ∧ d ≠ 2 ∧ d ≠ 3 ∧ d ≠ 4 ∧ d ≠ 5 ∧ d ≠ 6) :
    Calls Try.prog 15 #[.pointer (some ⟨g, 0, none⟩), .pointer (some ⟨q, 0, none⟩), .agg #[.int .i64 d, .int .i64 a, .int .i64 b, .slice A l.length c]] u (DoesOut w0 g m q i) := by
  have HH := Lib.hid h; clear h
  have HAG := Lib.hid hag; clear hag
  have HML := Lib.hid hml
  have HPL := Lib.hid hpl
  have HNN := Lib.hid hn
  have HI := Lib.hid hi
  have HA := Lib.hid ha; clear ha
  have HB := Lib.hid hb; clear hb
  have HL := Lib.hid hl; clear hl
  have HBY := Lib.hid hB; clear hB
  have hk5 : ms.length ≤ 500 := by omega
  clear hml hpl hn hi
  obtain ⟨hd1, hd2, hd3, hd4, hd5, hd6⟩ := hd
  go_enter Try.func15, Try.ntmps15
  go_wp2_with fail
  have HS1 : Hid (AW w0 g m q n S ms ms ps (u.alloc (.cells #[.int .i64 d, .int .i64 a, .int .i64 b, .slice A l.length c] 28))) := HH.out.step ((Below.refl _ _).alloc (Nat.le_refl _) _)
  have HX1 : Hid (Box (u.alloc (.cells #[.int .i64 d, .int .i64 a, .int .i64 b, .slice A l.length c] 28)) u.heap.size #[.int .i64 d, .int .i64 a, .int .i64 b, .slice A l.length c]) := heap_alloc_new u _
  generalize u.alloc (.cells #[.int .i64 d, .int .i64 a, .int .i64 b, .slice A l.length c] 28) = u1 at *
  generalize u.heap.size = qb at *
  obtain ⟨AL, cL, c0⟩ : ∃ AL cL, u1.cell? ⟨q, 0, none⟩ = some (.slice AL ms.length cL) := by
    obtain ⟨Lm, Lp, h1, h2, h3, _⟩ := HS1.out.mod
    rcases h3.2 with ⟨e, h0⟩ | ⟨_, cap, _, e, _⟩
    · exact ⟨none, 0, by rw [h1.c0, e, h0]⟩
    · exact ⟨_, cap, by rw [h1.c0, e]⟩
  have HQ := Lib.hid (World.block_lt_of_cell? u1 _ c0)
  have x1 := HX1.out.c 1
  simp at x1
  obtain ⟨k, hk⟩ : ∃ k, ms.length = k := ⟨_, rfl⟩
  rw [hk] at c0 hk5
  have HK := Lib.hid hk; clear hk
  obtain ⟨β, hβ⟩ : ∃ β : Bool, β = decide (0 ≤ a ∧ a < (k : Int)) := ⟨_, rfl⟩
  have HBT := Lib.hid hβ; clear hβ
  go_cut [7] from 17 to 29 (fun is wx => is = .bool β ∧ wx = u1.drew)
  case first =>
    by_cases h0 : 0 ≤ a
    · have HBE : Hid (β = decide (a < (k : Int))) := by
        show _ = _
        rw [HBT.out]
        simp [h0]
      refine wp_region_flow [(0, true), (1, true), (2, true), (3, true), (4, true), (5, true), (6, true), (7, true), (8, true), (9, true), (10, true), (11, true), (12, true), (13, true)] (fun u => Below u1.heap.size u1 u) (by kernel_rfl) (by kernel_rfl) (fun _ _ _ _ _ h => h) ((Below.refl _ _).drew) ?_
      iterate 14 (refine flow_take (v := ?_) rfl (by rfl) ?_ ?_; rotate_left 1; (· intro u hu; have y1 := (hu.cell (p := ⟨qb, 1, none⟩) HX1.out.lt).trans x1; have y0 := (hu.cell (p := ⟨q, 0, none⟩) HQ.out).trans c0; clear hu; go_simp; try with_reducible rfl); simp only [Act.put, List.getElem_toArray, List.getElem_cons_succ, List.getElem_cons_zero, List.setIfInBounds_toArray, List.set_cons_zero, List.set_cons_succ])
      refine flow_nil ?_
      go_wp2_with fail
      go_meet
      exact ⟨by rw [HBE.out], rfl⟩
    · have HBE : Hid (β = false) := by
        show _ = _
        rw [HBT.out]
        simp [h0]
      refine wp_region_flow [(0, true), (1, true), (2, true), (3, true), (4, true), (5, true), (6, true), (7, true), (8, true), (9, true), (10, true), (11, true), (12, true), (13, true)] (fun u => Below u1.heap.size u1 u) (by kernel_rfl) (by kernel_rfl) (fun _ _ _ _ _ h => h) ((Below.refl _ _).drew) ?_
      iterate 4 (refine flow_take (v := ?_) rfl (by rfl) ?_ ?_; rotate_left 1; (· intro u hu; have y1 := (hu.cell (p := ⟨qb, 1, none⟩) HX1.out.lt).trans x1; have y0 := (hu.cell (p := ⟨q, 0, none⟩) HQ.out).trans c0; clear hu; go_simp; try with_reducible rfl); simp only [Act.put, List.getElem_toArray, List.getElem_cons_succ, List.getElem_cons_zero, List.setIfInBounds_toArray, List.set_cons_zero, List.set_cons_succ])
      iterate 8 (refine flow_skip rfl (by rfl) ?_; simp only [Act.put, List.getElem_toArray, List.getElem_cons_succ, List.getElem_cons_zero, List.setIfInBounds_toArray, List.set_cons_zero, List.set_cons_succ])
      iterate 2 (refine flow_take (v := ?_) rfl (by rfl) ?_ ?_; rotate_left 1; (· intro u hu; have y1 := (hu.cell (p := ⟨qb, 1, none⟩) HX1.out.lt).trans x1; have y0 := (hu.cell (p := ⟨q, 0, none⟩) HQ.out).trans c0; clear hu; go_simp; try with_reducible rfl); simp only [Act.put, List.getElem_toArray, List.getElem_cons_succ, List.getElem_cons_zero, List.setIfInBounds_toArray, List.set_cons_zero, List.set_cons_succ])
      refine flow_nil ?_
      go_wp2_with fail
      go_meet
      exact ⟨by rw [HBE.out], rfl⟩
  case rest =>
  obtain ⟨rfl, rfl⟩ := hcut
  have HS := Lib.hid HS1.out.drew
  have HX : Hid (Box u1.drew qb _) := HX1.out.step (Below.refl _ _).drew
  clear HS1 HX1 c0 x1 HQ
  generalize u1.drew = u2 at *
  have x0 := HX.out.c 0
  have x1 := HX.out.c 1
  have x2 := HX.out.c 2
  have x3 := HX.out.c 3
  simp at x0 x1 x2 x3
  obtain ⟨i1, hj, hy0, hy1, hy2⟩ := info_parts info32
  obtain ⟨Lm, Lp, m1, m2, m3, m4, m5, m6⟩ := HS.out.mod
  obtain ⟨AL0, cL0, rfl⟩ : ∃ AL0 cL0, Lm = .slice AL0 ms.length cL0 := by
    rcases m3.2 with ⟨e, h0⟩ | ⟨_, cap, _, e, _⟩
    · exact ⟨none, 0, by rw [e, h0]⟩
    · exact ⟨_, cap, e⟩
  have c0 := m1.c0
  have HM1 := Lib.hid m1
  have HM2 := Lib.hid m2
  have HM3 := Lib.hid m3
  have HM4 := Lib.hid m4
  have HM5 := Lib.hid m5
  have HM6 := Lib.hid m6
  clear m1 m2 m3 m4 m5 m6
  rw [HK.out] at c0 HM1 HM3
  have HMOK : Hid (MOk (a, b, l)) := ⟨HA.out, HB.out, by have := HL.out; show l.length ≤ maxLen; unfold maxLen; omega⟩
  have HS3 := HS
  have HX3 := HX
  go_wp2_with fail
  have SC : Hid (u2.drew.cell? ⟨q, 0, none⟩ = some (.slice AL0 k cL0) ∧ PostAt qb a b A l.length c l u2.drew) := ⟨c0, x1, x2, x3, text_at rfl (HBY.out.below HS.out.below) _ (Below.refl _ _).drew⟩
  refine wp_region_flowE [(0, 1), (1, 1), (2, 1), (3, 1), (4, 1), (5, 1), (6, 1), (7, 1), (8, 1), (9, 1), (10, 1), (11, 1), (12, 1), (13, 0), (14, 0), (15, 2), (16, 1)] 17 (fun u => u.cell? ⟨q, 0, none⟩ = some (.slice AL0 k cL0) ∧ PostAt qb a b A l.length c l u) (by kernel_rfl) (by kernel_rfl) (fun _ _ _ _ _ h => h) (SC.out) ?_
  iterate 13 (refine flowE_take (v := ?_) rfl (by rfl) ?_ ?_; rotate_left 1; (· intro u hu; have a0 := hu.1; have a1 := hu.2.1; have a2 := hu.2.2.1; have a3 := hu.2.2.2.1; have a4 := hu.2.2.2.2; clear hu; go_simp; try with_reducible rfl); simp only [Act.put, List.getElem_toArray, List.getElem_cons_succ, List.getElem_cons_zero, List.setIfInBounds_toArray, List.set_cons_zero, List.set_cons_succ])
  (refine flowE_turn rfl (by rfl) (fun K hK => ?_); simp only [List.getElem_toArray, List.getElem_cons_succ, List.getElem_cons_zero]; have HKK := Lib.hid hK; clear hK; go_simp)
  clear SC
  have HB4 : Hid (Below u2.heap.size u2 (u2.alloc (.cells #[.int .i64 a, .int .i64 b, .string (text l)] 32)).drew) := ((Below.refl _ _).alloc (Nat.le_refl _) _).drew
  have HCN : Hid (∀ jj v, [Value.int .i64 a, Value.int .i64 b, Value.string (text l)][jj]? = some v → (u2.alloc (.cells #[.int .i64 a, .int .i64 b, .string (text l)] 32)).drew.cell? ((⟨u2.heap.size, 0, none⟩ : Addr).add jj) = some v) := cell_three_new u2 _ _ _ 32 _ rfl
  generalize (u2.alloc (.cells #[.int .i64 a, .int .i64 b, .string (text l)] 32)).drew = w4 at *
  have HS4 := Lib.hid (HS3.out.step HB4.out)
  have HX4 := Lib.hid (HX3.out.step HB4.out)
  have HM14 : Hid (MBlk w4 q (.slice AL0 k cL0) Lp) := (HB4.out.block q HM1.out.lt).trans HM1.out
  have HM34 := Lib.hid (own_below HM3.out HB4.out)
  have HM44 := Lib.hid (own_below HM4.out HB4.out)
  have HT4 : Hid (PostAt qb a b A l.length c l w4) := ⟨by have := HX4.out.c 1; simpa using this, by have := HX4.out.c 2; simpa using this, by have := HX4.out.c 3; simpa using this, text_at rfl (HBY.out.below HS4.out.below) _ (Below.refl _ _)⟩
  refine HKK.out _ _ ⟨fun u => u.cell? ⟨q, 0, none⟩ = some (.slice AL0 k cL0) ∧ PostAt qb a b A l.length c l u, ⟨HM14.out.c0, HT4.out⟩, fun u hu => hu, ?_⟩
  clear HKK K
  refine flowE_turn rfl (by rfl) (fun K hK => ?_)
  simp only [List.getElem_toArray, List.getElem_cons_succ, List.getElem_cons_zero]
  have HKK := Lib.hid hK; clear hK
  refine wp_append_at _ _ 40 rfl w0.heap.size 32 i1 _ 3 32 Try.underlying40 hj hy0 hy1 hy2 rfl (by omega) _ k _ rfl HM34.out ⟨u2.heap.size, 0, none⟩ 1 1 [.int .i64 a, .int .i64 b, .string (text l)] rfl rfl HCN.out (by simp [Value.oneCell']) (by unfold maxLen; omega) (by omega) HS4.out.size ?_
  intro v5 w5 ho5' hg5' hb5'
  have ho5 : w5.ownsRow w0.heap.size 32 3 v5 (k + 1) (flatS ms ++ flatS [(a, b, l)]) := ho5'
  have hg5 : w4.grownBy w5 (Value.ownBlock (.slice AL0 k cL0)) := hg5'
  clear ho5' hg5' hb5'
  rw [← flatS_append, show k + 1 = (ms ++ [((a : Int), (b : Int), (l : List UInt8))]).length by rw [List.length_append, HK.out]; rfl] at ho5
  have hkind : ∀ kk, Value.ownBlock (.slice AL0 k cL0) = some kk → ∃ c fr, w4.heap[kk]? = some (.cells c 32 fr) := own_row_kind HM34.out
  have hrm := remsg (ms' := ms ++ [(a, b, l)]) (ps := ps) HM14.out HM2.out HM44.out rfl rfl hg5 (fun kk hk => ⟨(HM34.out.lt kk hk).1, fun _ => hkind kk hk⟩) ho5 (fun y hy => by
    rcases List.mem_append.1 hy with hy | hy
    · exact HM5.out y hy
    · have : y = (a, b, l) := by simpa using hy
      rw [this]
      exact HMOK.out) HM6.out HS4.out.size
  have HS5 := Lib.hid (HS4.out.mturn hrm.1)
  have HMT5 := Lib.hid hrm.1
  have HX5 := Lib.hid (HX4.out.grown hg5 (by decide) hkind)
  have HM15 := Lib.hid hrm.2
  have HG5 := Lib.hid hg5
  have HO5 := Lib.hid ho5
  clear hrm hkind hg5 ho5
  have d0 := HM15.out.c0
  have df := HM15.out.fz 0
  have HB5 : Hid (Below w0.heap.size w0 w5) := HS4.out.below.grown HG5.out HS4.out.size (fun kk hk => (HM34.out.lt kk hk).1)
  have HT5 : Hid (PostAt qb a b A l.length c l w5) := ⟨by have := HX5.out.c 1; simpa using this, by have := HX5.out.c 2; simpa using this, by have := HX5.out.c 3; simpa using this, text_at rfl (HBY.out.below HB5.out) _ (Below.refl _ _)⟩
  refine HKK.out _ _ ⟨fun u => u.cell? ⟨q, 0, none⟩ = some (.slice AL0 k cL0) ∧ PostAt qb a b A l.length c l u, ⟨d0, HT5.out⟩, fun u hu => hu, ?_⟩
  clear HKK K
  obtain ⟨A5, c5, hv5⟩ : ∃ A5 c5, v5 = .slice A5 (ms ++ [((a : Int), (b : Int), (l : List UInt8))]).length c5 := by
    rcases HO5.out.2 with ⟨e, h0⟩ | ⟨_, cap, _, e, _⟩
    · exact ⟨none, 0, by rw [e, h0]⟩
    · exact ⟨_, cap, e⟩
  subst hv5
  clear HO5 HMT5
  generalize (ms ++ [((a : Int), (b : Int), (l : List UInt8))]).length = k5 at *
  iterate 1 (refine flowE_pure (v := ?_) rfl (by rfl) ?_ ?_; rotate_left 1; (· intro u hu; skip; clear hu; go_simp; try with_reducible rfl); simp only [Act.put, List.getElem_toArray, List.getElem_cons_succ, List.getElem_cons_zero, List.setIfInBounds_toArray, List.set_cons_zero, List.set_cons_succ])
  iterate 1 (refine flowE_take (v := ?_) rfl (by rfl) ?_ ?_; rotate_left 1; (· intro u hu; skip; clear hu; go_simp; try with_reducible rfl); simp only [Act.put, List.getElem_toArray, List.getElem_cons_succ, List.getElem_cons_zero, List.setIfInBounds_toArray, List.set_cons_zero, List.set_cons_succ])
  (refine flowE_end rfl (by rfl) (fun K hK => ?_); simp only [List.getElem_toArray, List.getElem_cons_succ, List.getElem_cons_zero]; have HKK := Lib.hid hK; clear hK; go_simp)
  refine HKK.out _ _ ?_
  clear HKK K d0 df
  have HX6 := Lib.hid (HX5.out.set HM15.out 0 (.slice A5 k5 c5))
  generalize w5.setCell ⟨q, 0, none⟩ (.slice A5 k5 c5) = w6 at *
  have z1 := HX6.out.c 1
  have z2 := HX6.out.c 2
  have z3 := HX6.out.c 3
  simp at z1 z2 z3
  go_wp2_with fail
  refine (post_room w0.heap.size Any g m ms a b A l.length c l w6 HS5.out.bag (by have := HML.out; have := HI.out; omega) HA.out HB.out rfl HL.out (HBY.out.below HS5.out.below) (fun _ _ => trivial) HS5.out.pm.isMp HS5.out.size).mono ?_
  rintro e w7 ⟨rfl, ht7⟩
  have HS7 := Lib.hid (HS5.out.turned ht7)
  clear ht7
  go_wp2_with fail
  go_ret
  exact ⟨rfl, ⟨n, S, _, ps, HS7.out, HAG.out, by have := HML.out; simp; omega, by have := HPL.out; omega, by have := HNN.out; omega⟩⟩
end Go.Proofs.Ytjbcmepnlnfkjaa
