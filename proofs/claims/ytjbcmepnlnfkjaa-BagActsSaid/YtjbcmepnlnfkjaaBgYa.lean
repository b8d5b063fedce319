/-
  CONTRACT of the laws' 'does', case deliver.
-/
import Derived.Test.YtjbcmepnlnfkjaaBgW
import Derived.Deep.CutRange
namespace Go.Proofs.Ytjbcmepnlnfkjaa
open Go Go.RowKit Go.Proofs

/-- the model's row at j -/
theorem lookModel {w : World} {B q : Nat} {ms : List Msg} {ps : List (Int × Int)} (h : ModAt w B q ms ps) {j : Nat} (hj : j < ms.length) : MOk ms[j] := by
  obtain ⟨Lm, Lp, h1, h2, h3, h4, h5, h6⟩ := h
  exact h5 _ (List.getElem_mem hj)
/-- the model's slice, an act's number, the row's message -/
def DelAt (q qb g0 j k cap : Nat) (xf xt : Int) (xb : List UInt8) (u : World) : Prop :=
  u.cell? ⟨q, 0, none⟩ = some (.slice (some ⟨g0, 0, none⟩) k cap) ∧ u.cell? ⟨qb, 1, none⟩ = some (.int .i64 (j : Int)) ∧ u.cell? ⟨g0, j * 3, none⟩ = some (.int .i64 xf) ∧ u.cell? ⟨g0, j * 3 + 1, none⟩ = some (.int .i64 xt) ∧ u.cell? ⟨g0, j * 3 + 2, none⟩ = some (.string (text xb))

set_option maxRecDepth 100000 in
set_option maxHeartbeats 3200000 in
theorem does_deliver (w0 : World) (g m q n i : Nat) (S : Int → Int → Bool) (ms : List Msg) (ps : List (Int × Int)) (a b : Int) (A : Option Addr) (c : Nat) (l : List UInt8) (u : World) (h : AW w0 g m q n S ms ms ps u) (hag : Agree S ps)
    (hml : ms.length ≤ i) (hpl : ps.length ≤ i) (hn : n ≤ i) (hi : i ≤ 500) (ha : InI64 a) (hb : InI64 b) (hl : l.length ≤ 140737488355328) (hB : Bytes w0 A l) :
    Calls Try.prog 15 #[.pointer (some ⟨g, 0, none⟩), .pointer (some ⟨q, 0, none⟩), .agg #[.int .i64 1, .int .i64 a, .int .i64 b, .slice A l.length c]] u (DoesOut w0 g m q i) := by
  have HH := Lib.hid h; clear h
  have HAG := Lib.hid hag; clear hag
  have HML := Lib.hid hml
  have HPL := Lib.hid hpl
  have HNN := Lib.hid hn
  have HI := Lib.hid hi
  have HA := Lib.hid ha; clear ha
  have HB := Lib.hid hb; clear hb
  have HL := Lib.hid hl; clear hl
  have HBY := Lib.hid hB; clear hB
  have hk5 : ms.length ≤ 500 := by omega
  clear hml hpl hn hi
  go_enter Try.func15, Try.ntmps15
  go_wp2_with fail
  have HS1 : Hid (AW w0 g m q n S ms ms ps (u.alloc (.cells #[.int .i64 1, .int .i64 a, .int .i64 b, .slice A l.length c] 28))) := HH.out.step ((Below.refl _ _).alloc (Nat.le_refl _) _)
  have HX1 : Hid (Box (u.alloc (.cells #[.int .i64 1, .int .i64 a, .int .i64 b, .slice A l.length c] 28)) u.heap.size #[.int .i64 1, .int .i64 a, .int .i64 b, .slice A l.length c]) := heap_alloc_new u _
  generalize u.alloc (.cells #[.int .i64 1, .int .i64 a, .int .i64 b, .slice A l.length c] 28) = u1 at *
  generalize u.heap.size = qb at *
  obtain ⟨AL, cL, c0⟩ : ∃ AL cL, u1.cell? ⟨q, 0, none⟩ = some (.slice AL ms.length cL) := by
    obtain ⟨Lm, Lp, h1, h2, h3, _⟩ := HS1.out.mod
    rcases h3.2 with ⟨e, h0⟩ | ⟨_, cap, _, e, _⟩
    · exact ⟨none, 0, by rw [h1.c0, e, h0]⟩
    · exact ⟨_, cap, by rw [h1.c0, e]⟩
  have HQ := Lib.hid (World.block_lt_of_cell? u1 _ c0)
  have x1 := HX1.out.c 1
  simp at x1
  obtain ⟨k, hk⟩ : ∃ k, ms.length = k := ⟨_, rfl⟩
  rw [hk] at c0 hk5
  have HK := Lib.hid hk; clear hk
  obtain ⟨β, hβ⟩ : ∃ β : Bool, β = decide (0 ≤ a ∧ a < (k : Int)) := ⟨_, rfl⟩
  have HBT := Lib.hid hβ; clear hβ
  go_cut [7] from 17 to 29 (fun is wx => is = .bool β ∧ wx = u1.drew)
  case first =>
    by_cases h0 : 0 ≤ a
    · have HBE : Hid (β = decide (a < (k : Int))) := by
        show _ = _
        rw [HBT.out]
        simp [h0]
      refine wp_region_flow [(0, true), (1, true), (2, true), (3, true), (4, true), (5, true), (6, true), (7, true), (8, true), (9, true), (10, true), (11, true), (12, true), (13, true)] (fun u => Below u1.heap.size u1 u) (by kernel_rfl) (by kernel_rfl) (fun _ _ _ _ _ h => h) ((Below.refl _ _).drew) ?_
      iterate 14 (refine flow_take (v := ?_) rfl (by rfl) ?_ ?_; rotate_left 1; (· intro u hu; have y1 := (hu.cell (p := ⟨qb, 1, none⟩) HX1.out.lt).trans x1; have y0 := (hu.cell (p := ⟨q, 0, none⟩) HQ.out).trans c0; clear hu; go_simp; try with_reducible rfl); simp only [Act.put, List.getElem_toArray, List.getElem_cons_succ, List.getElem_cons_zero, List.setIfInBounds_toArray, List.set_cons_zero, List.set_cons_succ])
      refine flow_nil ?_
      go_wp2_with fail
      go_meet
      exact ⟨by rw [HBE.out], rfl⟩
    · have HBE : Hid (β = false) := by
        show _ = _
        rw [HBT.out]
        simp [h0]
      refine wp_region_flow [(0, true), (1, true), (2, true), (3, true), (4, true), (5, true), (6, true), (7, true), (8, true), (9, true), (10, true), (11, true), (12, true), (13, true)] (fun u => Below u1.heap.size u1 u) (by kernel_rfl) (by kernel_rfl) (fun _ _ _ _ _ h => h) ((Below.refl _ _).drew) ?_
      iterate 4 (refine flow_take (v := ?_) rfl (by rfl) ?_ ?_; rotate_left 1; (· intro u hu; have y1 := (hu.cell (p := ⟨qb, 1, none⟩) HX1.out.lt).trans x1; have y0 := (hu.cell (p := ⟨q, 0, none⟩) HQ.out).trans c0; clear hu; go_simp; try with_reducible rfl); simp only [Act.put, List.getElem_toArray, List.getElem_cons_succ, List.getElem_cons_zero, List.setIfInBounds_toArray, List.set_cons_zero, List.set_cons_succ])
      iterate 8 (refine flow_skip rfl (by rfl) ?_; simp only [Act.put, List.getElem_toArray, List.getElem_cons_succ, List.getElem_cons_zero, List.setIfInBounds_toArray, List.set_cons_zero, List.set_cons_succ])
      iterate 2 (refine flow_take (v := ?_) rfl (by rfl) ?_ ?_; rotate_left 1; (· intro u hu; have y1 := (hu.cell (p := ⟨qb, 1, none⟩) HX1.out.lt).trans x1; have y0 := (hu.cell (p := ⟨q, 0, none⟩) HQ.out).trans c0; clear hu; go_simp; try with_reducible rfl); simp only [Act.put, List.getElem_toArray, List.getElem_cons_succ, List.getElem_cons_zero, List.setIfInBounds_toArray, List.set_cons_zero, List.set_cons_succ])
      refine flow_nil ?_
      go_wp2_with fail
      go_meet
      exact ⟨by rw [HBE.out], rfl⟩
  case rest =>
  obtain ⟨rfl, rfl⟩ := hcut
  have HS := Lib.hid HS1.out.drew
  have HX : Hid (Box u1.drew qb _) := HX1.out.step (Below.refl _ _).drew
  clear HS1 HX1 c0 x1 HQ
  generalize u1.drew = u2 at *
  have x0 := HX.out.c 0
  have x1 := HX.out.c 1
  have x2 := HX.out.c 2
  have x3 := HX.out.c 3
  simp at x0 x1 x2 x3
  by_cases hin : 0 ≤ a ∧ a < (k : Int)
  · have hβ : β = true := by rw [HBT.out]; simp [hin]
    subst hβ
    obtain ⟨j, rfl⟩ : ∃ j : Nat, a = j := ⟨a.toNat, by omega⟩
    have hj : j < ms.length := by rw [HK.out]; omega
    have HJ := Lib.hid hj
    clear hin hj
    cases hpt : ptd ps (ms[j]'HJ.out).1 (ms[j]'HJ.out).2.1
    · skip
      have hds := deliver_some w0.heap.size Any g m n S ms j u2 HS.out.bag HJ.out (by have := HML.out; have := HI.out; omega) HS.out.pm HS.out.size
      rw [HAG.out] at hds
      have hlk := lookModel HS.out.mod HJ.out
      obtain ⟨x, hx⟩ : ∃ x, ms[j]'HJ.out = x := ⟨_, rfl⟩
      have HXX : Hid (ms[j]? = some x) := by show _ = _; rw [← hx]; exact List.getElem?_eq_getElem HJ.out
      rw [hx] at hds hpt hlk
      rw [hpt] at hds
      have HPT := Lib.hid hpt
      have HDS := Lib.hid hds
      have HLK := Lib.hid hlk
      clear hds hpt hx hlk
      obtain ⟨xf, xt, xb⟩ := x
      go_wp2_with fail
      refine HDS.out.mono ?_
      rintro e w3 ⟨⟨v3, rfl, ho3⟩, ht3⟩
      obtain ⟨A3, c3, rfl, _⟩ := bytes_of_own ho3
      have HO3 := Lib.hid ho3
      clear ho3
      have HS3 := Lib.hid (HS.out.turned ht3)
      have HX3 := Lib.hid (HX.out.turned HS.out.pm.isMp ht3)
      clear ht3 x0 x1 x2 x3 HDS
      have HB4 : Hid (Below w3.heap.size w3 (w3.alloc (.cells #[.int .i64 0, .int .i64 0, .string ⟨#[]⟩] 32)).drew) := ((Below.refl _ _).alloc (Nat.le_refl _) _).drew
      have HT4 : Hid (Trip (w3.alloc (.cells #[.int .i64 0, .int .i64 0, .string ⟨#[]⟩] 32)).drew w3.heap.size (.int .i64 0) (.int .i64 0) (.string ⟨#[]⟩)) := heap_alloc_new w3 _
      have HX4 := Lib.hid (HX3.out.step HB4.out)
      have HS4 := Lib.hid (HS3.out.step HB4.out)
      have HW0 : Hid (w0.heap.size ≤ w3.heap.size) := HS3.out.size
      go_wp2_with fail
      obtain ⟨Lm, Lp, m1, m2, m3, m4, m5, m6⟩ := HS4.out.mod
      obtain ⟨g0, cap, rfl, hg0, hglt, hnc, hcm⟩ := own_form m3 (by have := HJ.out; omega)
      obtain ⟨f0, f1, f2⟩ := flatS_at ms j HJ.out
      have hx := List.getElem?_eq_getElem HJ.out
      rw [HXX.out] at hx
      have hx' := Option.some.inj hx
      rw [← hx'] at f0 f1 f2
      simp only at f0 f1 f2
      have q0 := m3.cells (g := g0) rfl _ _ f0
      have q1 := m3.cells (g := g0) rfl _ _ f1
      have q2 := m3.cells (g := g0) rfl _ _ f2
      rw [add_plain, Nat.zero_add] at q0 q1 q2
      have c0 := m1.c0
      rw [HK.out] at c0 hnc
      have hql : q < w3.heap.size := by
        obtain ⟨Lm', Lp', m1', _⟩ := HS3.out.mod
        exact m1'.lt
      have HQL := Lib.hid hql
      have hjk : j < k := by have := HJ.out; have := HK.out; omega
      clear m1 m2 m3 m4 m5 m6 f0 f1 f2 hx hx' hql
      have y1 := HX4.out.c 1
      simp at y1
      have SC : Hid (DelAt q qb g0 j k cap xf xt xb (w3.alloc (.cells #[.int .i64 0, .int .i64 0, .string ⟨#[]⟩] 32)).drew) := ⟨c0, y1, q0, q1, q2⟩
      clear c0 y1 q0 q1 q2
      refine wp_region_flowE [(0, 1), (1, 1), (2, 1), (3, 1), (4, 1), (5, 1), (6, 1), (7, 1)] 8 (DelAt q qb g0 j k cap xf xt xb) (by kernel_rfl) (by kernel_rfl) (fun _ _ _ _ _ h => h) (SC.out) ?_
      iterate 8 (refine flowE_take (v := ?_) rfl (by rfl) ?_ ?_; rotate_left 1; (· intro u hu; have a0 := hu.1; have a1 := hu.2.1; have a2 := hu.2.2.1; have a3 := hu.2.2.2.1; have a4 := hu.2.2.2.2; clear hu; go_simp; try with_reducible rfl); simp only [Act.put, List.getElem_toArray, List.getElem_cons_succ, List.getElem_cons_zero, List.setIfInBounds_toArray, List.set_cons_zero, List.set_cons_succ])
      clear SC
      generalize hqw : w3.heap.size = qw at *
      generalize (w3.alloc (.cells #[.int .i64 0, .int .i64 0, .string ⟨#[]⟩] 32)).drew = w4 at *
      have T1 := HT4.out.set0 (.int .i64 xf)
      have T2 := T1.set1 (.int .i64 xt)
      have e0 := HT4.out.c 0
      have e0f := HT4.out.fz 0
      have e1 := T1.c 1
      have e1f := T1.fz 1
      have e2 := T2.c 2
      have e2f := T2.fz 2
      have e1' := HT4.out.c 1
      have e1f' := HT4.out.fz 1
      have e2' := HT4.out.c 2
      have e2f' := HT4.out.fz 2
      simp at e0 e1 e2 e1' e2'
      have HT5 := Lib.hid (T2.set2 (.string (text xb)))
      clear T1 T2
      (refine flowE_end rfl (by rfl) (fun K hK => ?_); simp only [List.getElem_toArray, List.getElem_cons_succ, List.getElem_cons_zero]; have HKK := Lib.hid hK; clear hK; go_simp)
      have HB5 : Hid (Below qw w3 (((w4.setCell ⟨qw, 0, none⟩ (.int .i64 xf)).setCell ⟨qw, 1, none⟩ (.int .i64 xt)).setCell ⟨qw, 2, none⟩ (.string (text xb)))) := ((HB4.out.setCell (p := ⟨qw, 0, none⟩) (Nat.le_refl _) _).setCell (p := ⟨qw, 1, none⟩) (Nat.le_refl _) _).setCell (p := ⟨qw, 2, none⟩) (Nat.le_refl _) _
      refine HKK.out _ _ ?_
      clear HKK K e0 e0f e1 e1f e2 e2f e1' e1f' e2' e2f'
      generalize ((w4.setCell ⟨qw, 0, none⟩ (.int .i64 xf)).setCell ⟨qw, 1, none⟩ (.int .i64 xt)).setCell ⟨qw, 2, none⟩ (.string (text xb)) = w5 at *
      have hb5 : Below w3.heap.size w3 w5 := hqw ▸ HB5.out
      have HS5 := Lib.hid (HS3.out.step hb5)
      have HX5 := Lib.hid (HX3.out.step hb5)
      have HO5 := Lib.hid (own_below HO3.out hb5)
      have z1 := HX5.out.c 1
      simp at z1
      have HQW := Lib.hid hqw
      clear hb5 hqw
      go_wp2_with fail
      refine (out_any w0.heap.size q ms ps j w5 HS5.out.mod HJ.out (by have := HML.out; have := HI.out; omega) HS5.out.size).mono ?_
      rintro e w6 ⟨⟨vv, rfl⟩, ht6, hkeep, Lm6, Lp6, hm6, hfr6⟩
      have HS6 := Lib.hid (HS5.out.mturn ht6)
      have HT6 : Hid (Trip w6 qw (.int .i64 xf) (.int .i64 xt) (.string (text xb))) := (hkeep qw HT5.out.lt (by have := HQL.out; omega)).trans HT5.out
      have HO6 := Lib.hid (own_same HO5.out (fun kk cc fr hc => ht6.2.2.2 kk (Array.getElem?_eq_some_iff.1 hc).1 (fun c' t' fr' hc' => by
        rw [hc] at hc'
        injection hc' with hc'
        injection hc' with _ hc' _
        subst hc'
        decide)))
      have HM6 := Lib.hid hm6
      have HFR6 : Hid (Lm6.ownBlock ≠ some qw) := by
        intro e
        have := hfr6 qw e
        have := HT5.out.lt
        omega
      clear ht6 hkeep hm6 hfr6 z1
      have b0 := HT6.out.c 0
      have b1 := HT6.out.c 1
      have b2 := HT6.out.c 2
      simp at b0 b1 b2
      have hmp := mparted_any w0.heap.size q (ms.take j ++ ms.drop (j + 1)) ps xf xt w6 HS6.out.mod HLK.out.1 HLK.out.2.1 (by have := HPL.out; have := HI.out; omega)
      rw [HPT.out] at hmp
      have HMP := Lib.hid hmp
      clear hmp
      go_wp2_with fail
      refine HMP.out.mono ?_
      rintro e w7 ⟨rfl, rfl⟩
      have t6 : (convert 26 9 (.slice A3 xb.length c3)).run Try.prog w6 = .ok (.string (text xb)) w6 := by
        obtain ⟨A', c', hv, _, _, _, hB⟩ := bytes_of_own HO6.out
        injection hv with hv _ hvc
        subst hv hvc
        exact text_at rfl hB w6 (Below.refl _ _)
      have em : ∀ w, (binOp .eql 32 (.agg #[.int .i64 xf, .int .i64 xt, .string (text xb)]) (.agg #[.int .i64 xf, .int .i64 xt, .string (text xb)])).run Try.prog w = .ok (.bool true) w := fun w => eql_msg w (x := (xf, xt, xb)) HLK.out
      go_wp2_with fail
      go_ret
      exact ⟨rfl, ⟨n, S, _, ps, HS6.out, HAG.out, by have := HML.out; simp; omega, by have := HPL.out; omega, by have := HNN.out; omega⟩⟩
    · skip
      have hds := deliver_some w0.heap.size Any g m n S ms j u2 HS.out.bag HJ.out (by have := HML.out; have := HI.out; omega) HS.out.pm HS.out.size
      rw [HAG.out] at hds
      have hlk := lookModel HS.out.mod HJ.out
      obtain ⟨x, hx⟩ : ∃ x, ms[j]'HJ.out = x := ⟨_, rfl⟩
      have HXX : Hid (ms[j]? = some x) := by show _ = _; rw [← hx]; exact List.getElem?_eq_getElem HJ.out
      rw [hx] at hds hpt hlk
      rw [hpt] at hds
      have HPT := Lib.hid hpt
      have HDS := Lib.hid hds
      have HLK := Lib.hid hlk
      clear hds hpt hx hlk
      obtain ⟨xf, xt, xb⟩ := x
      go_wp2_with fail
      refine HDS.out.mono ?_
      rintro e w3 ⟨hno, ht3⟩
      obtain rfl : e = noMsg := hno
      unfold noMsg
      have HS3 := Lib.hid (HS.out.turned ht3)
      have HX3 := Lib.hid (HX.out.turned HS.out.pm.isMp ht3)
      clear ht3 x0 x1 x2 x3 HDS
      have HB4 : Hid (Below w3.heap.size w3 (w3.alloc (.cells #[.int .i64 0, .int .i64 0, .string ⟨#[]⟩] 32)).drew) := ((Below.refl _ _).alloc (Nat.le_refl _) _).drew
      have HT4 : Hid (Trip (w3.alloc (.cells #[.int .i64 0, .int .i64 0, .string ⟨#[]⟩] 32)).drew w3.heap.size (.int .i64 0) (.int .i64 0) (.string ⟨#[]⟩)) := heap_alloc_new w3 _
      have HX4 := Lib.hid (HX3.out.step HB4.out)
      have HS4 := Lib.hid (HS3.out.step HB4.out)
      have HW0 : Hid (w0.heap.size ≤ w3.heap.size) := HS3.out.size
      go_wp2_with fail
      obtain ⟨Lm, Lp, m1, m2, m3, m4, m5, m6⟩ := HS4.out.mod
      obtain ⟨g0, cap, rfl, hg0, hglt, hnc, hcm⟩ := own_form m3 (by have := HJ.out; omega)
      obtain ⟨f0, f1, f2⟩ := flatS_at ms j HJ.out
      have hx := List.getElem?_eq_getElem HJ.out
      rw [HXX.out] at hx
      have hx' := Option.some.inj hx
      rw [← hx'] at f0 f1 f2
      simp only at f0 f1 f2
      have q0 := m3.cells (g := g0) rfl _ _ f0
      have q1 := m3.cells (g := g0) rfl _ _ f1
      have q2 := m3.cells (g := g0) rfl _ _ f2
      rw [add_plain, Nat.zero_add] at q0 q1 q2
      have c0 := m1.c0
      rw [HK.out] at c0 hnc
      have hql : q < w3.heap.size := by
        obtain ⟨Lm', Lp', m1', _⟩ := HS3.out.mod
        exact m1'.lt
      have HQL := Lib.hid hql
      have hjk : j < k := by have := HJ.out; have := HK.out; omega
      clear m1 m2 m3 m4 m5 m6 f0 f1 f2 hx hx' hql
      have y1 := HX4.out.c 1
      simp at y1
      have SC : Hid (DelAt q qb g0 j k cap xf xt xb (w3.alloc (.cells #[.int .i64 0, .int .i64 0, .string ⟨#[]⟩] 32)).drew) := ⟨c0, y1, q0, q1, q2⟩
      clear c0 y1 q0 q1 q2
      refine wp_region_flowE [(0, 1), (1, 1), (2, 1), (3, 1), (4, 1), (5, 1), (6, 1), (7, 1)] 8 (DelAt q qb g0 j k cap xf xt xb) (by kernel_rfl) (by kernel_rfl) (fun _ _ _ _ _ h => h) (SC.out) ?_
      iterate 8 (refine flowE_take (v := ?_) rfl (by rfl) ?_ ?_; rotate_left 1; (· intro u hu; have a0 := hu.1; have a1 := hu.2.1; have a2 := hu.2.2.1; have a3 := hu.2.2.2.1; have a4 := hu.2.2.2.2; clear hu; go_simp; try with_reducible rfl); simp only [Act.put, List.getElem_toArray, List.getElem_cons_succ, List.getElem_cons_zero, List.setIfInBounds_toArray, List.set_cons_zero, List.set_cons_succ])
      clear SC
      generalize hqw : w3.heap.size = qw at *
      generalize (w3.alloc (.cells #[.int .i64 0, .int .i64 0, .string ⟨#[]⟩] 32)).drew = w4 at *
      have T1 := HT4.out.set0 (.int .i64 xf)
      have T2 := T1.set1 (.int .i64 xt)
      have e0 := HT4.out.c 0
      have e0f := HT4.out.fz 0
      have e1 := T1.c 1
      have e1f := T1.fz 1
      have e2 := T2.c 2
      have e2f := T2.fz 2
      have e1' := HT4.out.c 1
      have e1f' := HT4.out.fz 1
      have e2' := HT4.out.c 2
      have e2f' := HT4.out.fz 2
      simp at e0 e1 e2 e1' e2'
      have HT5 := Lib.hid (T2.set2 (.string (text xb)))
      clear T1 T2
      (refine flowE_end rfl (by rfl) (fun K hK => ?_); simp only [List.getElem_toArray, List.getElem_cons_succ, List.getElem_cons_zero]; have HKK := Lib.hid hK; clear hK; go_simp)
      have HB5 : Hid (Below qw w3 (((w4.setCell ⟨qw, 0, none⟩ (.int .i64 xf)).setCell ⟨qw, 1, none⟩ (.int .i64 xt)).setCell ⟨qw, 2, none⟩ (.string (text xb)))) := ((HB4.out.setCell (p := ⟨qw, 0, none⟩) (Nat.le_refl _) _).setCell (p := ⟨qw, 1, none⟩) (Nat.le_refl _) _).setCell (p := ⟨qw, 2, none⟩) (Nat.le_refl _) _
      refine HKK.out _ _ ?_
      clear HKK K e0 e0f e1 e1f e2 e2f e1' e1f' e2' e2f'
      generalize ((w4.setCell ⟨qw, 0, none⟩ (.int .i64 xf)).setCell ⟨qw, 1, none⟩ (.int .i64 xt)).setCell ⟨qw, 2, none⟩ (.string (text xb)) = w5 at *
      have hb5 : Below w3.heap.size w3 w5 := hqw ▸ HB5.out
      have HS5 := Lib.hid (HS3.out.step hb5)
      have HX5 := Lib.hid (HX3.out.step hb5)
      have z1 := HX5.out.c 1
      simp at z1
      have HQW := Lib.hid hqw
      clear hb5 hqw
      go_wp2_with fail
      refine (out_any w0.heap.size q ms ps j w5 HS5.out.mod HJ.out (by have := HML.out; have := HI.out; omega) HS5.out.size).mono ?_
      rintro e w6 ⟨⟨vv, rfl⟩, ht6, hkeep, Lm6, Lp6, hm6, hfr6⟩
      have HS6 := Lib.hid (HS5.out.mturn ht6)
      have HT6 : Hid (Trip w6 qw (.int .i64 xf) (.int .i64 xt) (.string (text xb))) := (hkeep qw HT5.out.lt (by have := HQL.out; omega)).trans HT5.out
      have HM6 := Lib.hid hm6
      have HFR6 : Hid (Lm6.ownBlock ≠ some qw) := by
        intro e
        have := hfr6 qw e
        have := HT5.out.lt
        omega
      clear ht6 hkeep hm6 hfr6 z1
      have b0 := HT6.out.c 0
      have b1 := HT6.out.c 1
      have b2 := HT6.out.c 2
      simp at b0 b1 b2
      have hmp := mparted_any w0.heap.size q (ms.take j ++ ms.drop (j + 1)) ps xf xt w6 HS6.out.mod HLK.out.1 HLK.out.2.1 (by have := HPL.out; have := HI.out; omega)
      rw [HPT.out] at hmp
      have HMP := Lib.hid hmp
      clear hmp
      go_wp2_with fail
      refine HMP.out.mono ?_
      rintro e w7 ⟨rfl, rfl⟩
      have T1 := HT6.out.set0 (.int .i64 0)
      have T2 := T1.set1 (.int .i64 0)
      have T3 := T2.set2 (.string ⟨#[]⟩)
      have e0f := HT6.out.fz 0
      have e1 := T1.c 1
      have e1f := T1.fz 1
      have e2 := T2.c 2
      have e2f := T2.fz 2
      have e1f' := HT6.out.fz 1
      have e2f' := HT6.out.fz 2
      have l0 := T3.c 0
      have l1 := T3.c 1
      have l2 := T3.c 2
      simp at e1 e2 l0 l1 l2
      have hz : w0.heap.size ≤ qw := by have := HW0.out; omega
      have hp1 := HS6.out.poke HM6.out HT6.out HFR6.out hz 0 (.int .i64 0)
      have hp2 := hp1.1.poke hp1.2 (HT6.out.set0 (.int .i64 0)) HFR6.out hz 1 (.int .i64 0)
      have hp3 := hp2.1.poke hp2.2 ((HT6.out.set0 (.int .i64 0)).set1 (.int .i64 0)) HFR6.out hz 2 (.string ⟨#[]⟩)
      have HS7 := Lib.hid hp3.1
      clear hp1 hp2 hp3 T1 T2 T3 hz
      have t7 : (convert 26 9 (.slice none 0 0)).run Try.prog (((w6.setCell ⟨qw, 0, none⟩ (.int .i64 0)).setCell ⟨qw, 1, none⟩ (.int .i64 0)).setCell ⟨qw, 2, none⟩ (.string ⟨#[]⟩)) = .ok (.string ⟨#[]⟩) _ := text_at (n := 0) (c := 0) (A := none) (l := []) rfl (Bytes.none_ _ _) _ (Below.refl _ _)
      have ez : ∀ w, (binOp .eql 32 (.agg #[.int .i64 0, .int .i64 0, .string ⟨#[]⟩]) (.agg #[.int .i64 0, .int .i64 0, .string ⟨#[]⟩])).run Try.prog w = .ok (.bool true) w := fun w => eql_msg w (x := ((0 : Int), (0 : Int), ([] : List UInt8))) ⟨by simp [InI64], by simp [InI64], by simp⟩
      go_wp2_with fail
      go_ret
      exact ⟨rfl, ⟨n, S, _, ps, HS7.out, HAG.out, by have := HML.out; simp; omega, by have := HPL.out; omega, by have := HNN.out; omega⟩⟩
  · have hβ : β = false := by rw [HBT.out]; simp; omega
    subst hβ
    have HIN : Hid (a < 0 ∨ (ms.length : Int) ≤ a) := by show _ ∨ _; rw [HK.out]; omega
    clear hin
    have HDN := Lib.hid (deliver_none w0.heap.size Any g m n S ms a u2 HS.out.bag HIN.out HS.out.pm HS.out.size)
    go_wp2_with fail
    refine HDN.out.mono ?_
    rintro e w3 ⟨rfl, ht3⟩
    have HS3 := Lib.hid (HS.out.turned ht3)
    have HB4 : Hid (Below w3.heap.size w3 (w3.alloc (.cells #[.int .i64 0, .int .i64 0, .string ⟨#[]⟩] 32))) := (Below.refl _ _).alloc (Nat.le_refl _) _
    have HS4 := Lib.hid (HS3.out.step HB4.out)
    have t3 : (convert 26 9 (.slice none 0 0)).run Try.prog (w3.alloc (.cells #[.int .i64 0, .int .i64 0, .string ⟨#[]⟩] 32)) = .ok (.string ⟨#[]⟩) _ := text_at (n := 0) (c := 0) (A := none) (l := []) rfl (Bytes.none_ _ _) _ (Below.refl _ _)
    have ez : ∀ w, (binOp .eql 32 (.agg #[.int .i64 0, .int .i64 0, .string ⟨#[]⟩]) (.agg #[.int .i64 0, .int .i64 0, .string ⟨#[]⟩])).run Try.prog w = .ok (.bool true) w := fun w => eql_msg w (x := ((0 : Int), (0 : Int), ([] : List UInt8))) ⟨by simp [InI64], by simp [InI64], by simp⟩
    clear ht3
    unfold noMsg
    go_wp2_with fail
    go_ret
    exact ⟨rfl, ⟨n, S, ms, ps, HS4.out, HAG.out, by have := HML.out; omega, by have := HPL.out; omega, by have := HNN.out; omega⟩⟩
end Go.Proofs.Ytjbcmepnlnfkjaa
