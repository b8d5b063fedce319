/-
  THE LAW BagActs WALKED.
-/
import Derived.Test.YtjbcmepnlnfkjaaBgYa
import Derived.Test.YtjbcmepnlnfkjaaBgYb
import Derived.Test.YtjbcmepnlnfkjaaBgYc
import Derived.Test.YtjbcmepnlnfkjaaBgYd
import Derived.Test.YtjbcmepnlnfkjaaBgYe
import Derived.Test.YtjbcmepnlnfkjaaBgYf
import Derived.Test.YtjbcmepnlnfkjaaBgYg
import Derived.Test.YtjbcmepnlnfkjaaBgJ
import Derived.IntWalk
import Derived.Deep.CutRange
namespace Go.Proofs.Ytjbcmepnlnfkjaa
open Go Go.RowKit Go.Proofs

/-- does -/
theorem does_any (w0 : World) (g m q i : Nat) (d a b : Int) (A : Option Addr) (c : Nat) (l : List UInt8) (u : World) (h : Good w0 g m q i u) (hi : i ≤ 500) (ha : InI64 a) (hb : InI64 b) (hl : l.length ≤ 140737488355328) (hB : Bytes w0 A l) :
    Calls Try.prog 15 #[.pointer (some ⟨g, 0, none⟩), .pointer (some ⟨q, 0, none⟩), .agg #[.int .i64 d, .int .i64 a, .int .i64 b, .slice A l.length c]] u (DoesOut w0 g m q i) := by
  obtain ⟨n, S, ms, ps, haw, hag, hml, hpl, hn⟩ := h
  by_cases h1 : d = 1
  · subst h1; exact does_deliver w0 g m q n i S ms ps a b A c l u haw hag hml hpl hn hi ha hb hl hB
  by_cases h2 : d = 2
  · subst h2; exact does_drop w0 g m q n i S ms ps a b A c l u haw hag hml hpl hn hi ha hb hl hB
  by_cases h3 : d = 3
  · subst h3; exact does_twice w0 g m q n i S ms ps a b A c l u haw hag hml hpl hn hi ha hb hl hB
  by_cases h4 : d = 4
  · subst h4; exact does_part w0 g m q n i S ms ps a b A c l u haw hag hml hpl hn hi ha hb hl hB
  by_cases h5 : d = 5
  · subst h5; exact does_heal w0 g m q n i S ms ps a b A c l u haw hag hml hpl hn hi ha hb hl hB
  by_cases h6 : d = 6
  · subst h6; exact does_clear w0 g m q n i S ms ps a b A c l u haw hag hml hpl hn hi ha hb hl hB
  exact does_post w0 g m q n i S ms ps d a b A c l u haw hag hml hpl hn hi ha hb hl hB ⟨h1, h2, h3, h4, h5, h6⟩

set_option maxRecDepth 100000 in
set_option maxHeartbeats 6400000 in
theorem law_bagActs (A : Option Addr) (n c : Nat) (l : List ActV) (w : World) (hn : l.length = n) (hB : ActsW w A l) : Calls Try.prog 6 #[.slice A n c] w (Yes w) := by
  have HN := Lib.hid hn; clear hn
  have HC := Lib.hid hB; clear hB
  go_enter Try.func6, Try.ntmps6
  go_wp2_with fail
  refine (new_any w Any).mono ?_
  rintro e w1 ⟨g, m, rfl, hm0, hbag, hmap, hb⟩
  have hb2 : Below w1.heap.size w1 (w1.alloc (.cells #[.slice none 0 0, .slice none 0 0] 43)) := (Below.refl _ _).alloc (Nat.le_refl _) _
  have HG0 : Hid (Good w g m w1.heap.size 0 (w1.alloc (.cells #[.slice none 0 0, .slice none 0 0] 43))) :=
    ⟨0, none_, [], [], ⟨hbag.below hb2, (PMap.made hmap).below hb2, ⟨.slice none 0 0, .slice none 0 0, heap_alloc_new w1 _, hb.size, World.ownsRow_nil _ _ _ _, World.ownsRow_nil _ _ _ _, by simp, by simp⟩, by omega, hb.trans (hb2.mono hb.size)⟩, Agree.nil, by simp, by simp, by omega⟩
  clear hbag hmap hb hm0 hb2
  go_wp2_with fail
  generalize w1.alloc (.cells #[.slice none 0 0, .slice none 0 0] 43) = wa at *
  generalize w1.heap.size = q at *
  go_loopw [5] (fun y wr => ∃ i : Nat, y = .int .i64 i ∧ i ≤ n ∧ i ≤ 500 ∧ Good w g m q i wr) (fun y _ => n - (intOf y).toNat)
  case atStart => exact ⟨0, rfl, Nat.zero_le _, Nat.zero_le _, HG0.out⟩
  case round =>
    clear HG0
    obtain ⟨i, rfl, hin, hi5, hg⟩ := hrel
    have HG := Lib.hid hg; clear hg
    have HBE : Hid (Below w.heap.size w wr) := by
      obtain ⟨_, _, _, _, haw, _⟩ := HG.out
      exact haw.below
    by_cases hlt : i < n
    · by_cases h500 : i < 500
      · have hj : i < l.length := by rw [HN.out]; exact hlt
        obtain ⟨b0, off, hA, hact, hok⟩ := HC.out.at_ HBE.out hj
        obtain ⟨_, _, hA', hact0, hok0⟩ := HC.out.at_ (Below.refl _ _) hj
        rw [hA] at hA'
        injection hA' with hA'
        injection hA' with hb0 hof _
        subst hb0 hof
        have HOK := Lib.hid hok; clear hok hact hok0
        obtain ⟨x, hx⟩ : ∃ x, l[i] = x := ⟨_, rfl⟩
        rw [hx] at hact0 HOK
        have HACT := Lib.hid hact0
        clear hx hj hact0
        rw [hA]
        clear hA
        obtain ⟨d, a, b, Ax, cx, lx⟩ := x
        have HK0 : Hid (w.cell? ⟨b0, off + i * 4, none⟩ = some (.int .i64 d)) := HACT.out.1
        have HK1 : Hid (w.cell? ⟨b0, off + i * 4 + 1, none⟩ = some (.int .i64 a)) := HACT.out.2.1
        have HK2 : Hid (w.cell? ⟨b0, off + i * 4 + 2, none⟩ = some (.int .i64 b)) := HACT.out.2.2.1
        have HK3 : Hid (w.cell? ⟨b0, off + i * 4 + 3, none⟩ = some (.slice Ax lx.length cx)) := HACT.out.2.2.2
        have HGD : Hid (Good w g m q i wr.drew) := by
          obtain ⟨n', S', ms', ps', haw, r⟩ := HG.out
          exact ⟨n', S', ms', ps', haw.drew, r⟩
        clear HACT
        go_wp2_with fail
        refine wp_region_flow [(0, true), (1, true), (2, true), (3, true), (4, true), (5, true), (6, false), (7, true), (8, true), (9, true), (11, true), (12, true), (13, true), (14, true), (15, true), (10, false), (16, true), (17, true), (18, true), (19, true), (20, true), (21, true), (22, true), (23, true), (24, true), (25, true), (26, true), (27, true), (28, true), (29, true), (31, true), (32, true), (33, true), (34, true), (35, true), (36, true), (37, true), (38, true), (39, true), (40, true), (41, true), (30, false), (42, false), (43, true), (44, true)] (fun u => Below w.heap.size w u) (by kernel_rfl) (by kernel_rfl) (fun _ _ _ _ _ h => h) (HBE.out.drew) ?_
        iterate 6 (refine flow_take (v := ?_) rfl (by rfl) ?_ ?_; rotate_left 1; (· intro u hu; have a0 := (hu.cell (p := ⟨b0, off + i * 4, none⟩) (World.block_lt_of_cell? w _ HK0.out)).trans HK0.out; have a1 := (hu.cell (p := ⟨b0, off + i * 4 + 1, none⟩) (World.block_lt_of_cell? w _ HK1.out)).trans HK1.out; have a2 := (hu.cell (p := ⟨b0, off + i * 4 + 2, none⟩) (World.block_lt_of_cell? w _ HK2.out)).trans HK2.out; have a3 := (hu.cell (p := ⟨b0, off + i * 4 + 3, none⟩) (World.block_lt_of_cell? w _ HK3.out)).trans HK3.out; clear hu; go_simp; try with_reducible rfl); simp only [Act.put, List.getElem_toArray, List.getElem_cons_succ, List.getElem_cons_zero, List.setIfInBounds_toArray, List.set_cons_zero, List.set_cons_succ])
        (refine flow_turn rfl (by rfl) (fun K hK => ?_); simp only [List.getElem_toArray, List.getElem_cons_succ, List.getElem_cons_zero]; have HKK := Lib.hid hK; clear hK; go_simp)
        refine (does_any w g m q i d a b Ax cx lx wr.drew HGD.out hi5 HOK.out.1 HOK.out.2.1 HOK.out.2.2.1 HOK.out.2.2.2).mono ?_
        rintro e u3 ⟨rfl, n3, S3, ms3, ps3, haw3, hag3, hml3, hpl3, hnn3⟩
        have HA3 := Lib.hid haw3
        have HAG3 := Lib.hid hag3
        have HR3 : Hid (ms3.length ≤ i + 1 ∧ ps3.length ≤ i + 1 ∧ n3 ≤ i + 1) := ⟨hml3, hpl3, hnn3⟩
        have HL1 : Hid (u3.cell? ⟨b0, off + i * 4 + 1, none⟩ = some (.int .i64 a)) := (haw3.below.cell (p := ⟨b0, off + i * 4 + 1, none⟩) (World.block_lt_of_cell? w _ HK1.out)).trans HK1.out
        have HL2 : Hid (u3.cell? ⟨b0, off + i * 4 + 2, none⟩ = some (.int .i64 b)) := (haw3.below.cell (p := ⟨b0, off + i * 4 + 2, none⟩) (World.block_lt_of_cell? w _ HK2.out)).trans HK2.out
        obtain ⟨k, hk⟩ : ∃ k, ms3.length = k := ⟨_, rfl⟩
        obtain ⟨AL, cL, hc0⟩ : ∃ AL cL, u3.cell? ⟨q, 0, none⟩ = some (.slice AL k cL) := by
          obtain ⟨Lm, Lp, h1, h2, h3, _⟩ := haw3.mod
          rw [← hk]
          rcases h3.2 with ⟨e, h0⟩ | ⟨_, cap, _, e, _⟩
          · exact ⟨none, 0, by rw [h1.c0, e, h0]⟩
          · exact ⟨_, cap, by rw [h1.c0, e]⟩
        have HC0 := Lib.hid hc0
        have hln := len_any w.heap.size Any g m ms3 u3 haw3.bag
        rw [hk] at hln
        have HLN := Lib.hid hln
        obtain ⟨L3, hblk3⟩ : ∃ L3, Blk u3 g m L3 := by obtain ⟨L, vs, h, _⟩ := haw3.bag; exact ⟨L, h⟩
        have hpa := fun (u : World) (hu : Below u3.heap.size u3 u) => parted_any g m n3 L3 S3 a b u ((hu.block g hblk3.lt).trans hblk3) (haw3.pm.below hu) HOK.out.1 HOK.out.2.1
        have hpm := fun (u : World) (hu : Below u3.heap.size u3 u) => mparted_any w.heap.size q ms3 ps3 a b u (haw3.mod.below hu) HOK.out.1 HOK.out.2.1 (by omega)
        simp only [HAG3.out a b] at hpa
        generalize ptd ps3 a b = β at hpa hpm
        have HPA := Lib.hid hpa
        have HPM := Lib.hid hpm
        clear haw3 hag3 hml3 hpl3 hnn3 hk hc0 hln hblk3 hpa hpm
        refine HKK.out _ _ ⟨fun v => Below u3.heap.size u3 v, Below.refl _ _, fun v hv => HA3.out.below.trans (hv.mono HA3.out.size), ?_⟩
        clear HKK K
        iterate 3 (refine flow_take (v := ?_) rfl (by rfl) ?_ ?_; rotate_left 1; (· intro u hu; skip; clear hu; go_simp; try with_reducible rfl); simp only [Act.put, List.getElem_toArray, List.getElem_cons_succ, List.getElem_cons_zero, List.setIfInBounds_toArray, List.set_cons_zero, List.set_cons_succ])
        iterate 5 (refine flow_take (v := ?_) rfl (by rfl) ?_ ?_; rotate_left 1; (· intro u hu; have y0 := (hu.cell (p := ⟨q, 0, none⟩) (World.block_lt_of_cell? u3 _ HC0.out)).trans HC0.out; clear hu; go_simp; try with_reducible rfl); simp only [Act.put, List.getElem_toArray, List.getElem_cons_succ, List.getElem_cons_zero, List.setIfInBounds_toArray, List.set_cons_zero, List.set_cons_succ])
        (refine flow_turn rfl (by rfl) (fun K hK => ?_); simp only [List.getElem_toArray, List.getElem_cons_succ, List.getElem_cons_zero]; have HKK := Lib.hid hK; clear hK; go_simp)
        refine HLN.out.mono ?_
        rintro e u4 ⟨rfl, rfl⟩
        refine HKK.out _ _ ⟨fun v => Below u3.heap.size u3 v, Below.refl _ _, fun v hv => hv, ?_⟩
        clear HKK K
        iterate 3 (refine flow_take (v := ?_) rfl (by rfl) ?_ ?_; rotate_left 1; (· intro u hu; skip; clear hu; go_simp; try with_reducible rfl); simp only [Act.put, List.getElem_toArray, List.getElem_cons_succ, List.getElem_cons_zero, List.setIfInBounds_toArray, List.set_cons_zero, List.set_cons_succ])
        iterate 22 (refine flow_take (v := ?_) rfl (by rfl) ?_ ?_; rotate_left 1; (· intro u hu; have a1 := (hu.cell (p := ⟨b0, off + i * 4 + 1, none⟩) (World.block_lt_of_cell? u3 _ HL1.out)).trans HL1.out; have a2 := (hu.cell (p := ⟨b0, off + i * 4 + 2, none⟩) (World.block_lt_of_cell? u3 _ HL2.out)).trans HL2.out; clear hu; go_simp; try with_reducible rfl); simp only [Act.put, List.getElem_toArray, List.getElem_cons_succ, List.getElem_cons_zero, List.setIfInBounds_toArray, List.set_cons_zero, List.set_cons_succ])
        (refine flow_turn rfl (by rfl) (fun K hK => ?_); simp only [List.getElem_toArray, List.getElem_cons_succ, List.getElem_cons_zero]; have HKK := Lib.hid hK; clear hK; go_simp)
        refine (HPA.out u3 (Below.refl _ _)).mono ?_
        rintro e u5 ⟨rfl, hb5⟩
        have HB5 := Lib.hid hb5
        clear hb5
        refine HKK.out _ _ ⟨fun v => Below u3.heap.size u3 v, HB5.out, fun v hv => hv, ?_⟩
        clear HKK K
        (refine flow_turn rfl (by rfl) (fun K hK => ?_); simp only [List.getElem_toArray, List.getElem_cons_succ, List.getElem_cons_zero]; have HKK := Lib.hid hK; clear hK; go_simp)
        refine (HPM.out u5 HB5.out).mono ?_
        rintro e u6 ⟨rfl, rfl⟩
        refine HKK.out _ _ ⟨fun v => Below u3.heap.size u3 v, HB5.out, fun v hv => hv, ?_⟩
        clear HKK K
        iterate 2 (refine flow_take (v := ?_) rfl (by rfl) ?_ ?_; rotate_left 1; (· intro u hu; skip; clear hu; go_simp; try with_reducible rfl); simp only [Act.put, List.getElem_toArray, List.getElem_cons_succ, List.getElem_cons_zero, List.setIfInBounds_toArray, List.set_cons_zero, List.set_cons_succ])
        refine flow_nil ?_
        go_wp2_with fail
        go_roundw
        case rel => exact ⟨i + 1, by go_num, by omega, by omega, n3, S3, ms3, ps3, HA3.out.step HB5.out, HAG3.out, HR3.out⟩
        case measure => simp [intOf]; omega
--EXITS
      · have hi500 : i = 500 := by omega
        obtain ⟨nn, S, ms, ps, haw, _, hml, _, _⟩ := HG.out
        have HAW := Lib.hid haw
        have HCO : Hid True := trivial
        obtain ⟨k, hk⟩ : ∃ k, ms.length = k := ⟨_, rfl⟩
        have hk5 : k ≤ 500 := by omega
        have HK := Lib.hid hk
        clear haw hml hk HG HBE
        go_wp2_with fail
        go_loopw [6] (fun y wq => ∃ z : Int, y = .int .i64 z ∧ -1 ≤ z ∧ z ≤ (k : Int) + 1 ∧ AW w g m q nn S ms ms ps wq) (fun y _ => ((k : Int) + 1 - intOf y).toNat)
        case atStart => exact ⟨-1, rfl, by omega, by omega, HAW.out⟩
        case round =>
          clear HAW
          obtain ⟨z, rfl, hz1, hz2, haw⟩ := hrel
          have HA := Lib.hid haw
          have ez : ∀ w, (binOp .neq 32 (.agg #[.int .i64 0, .int .i64 0, .string ⟨#[]⟩]) (.agg #[.int .i64 0, .int .i64 0, .string ⟨#[]⟩])).run Try.prog w = .ok (.bool false) w := fun w => neq_msg w (x := ((0 : Int), (0 : Int), ([] : List UInt8))) ⟨by simp [InI64], by simp [InI64], by simp⟩
          obtain ⟨AL, cL, c0⟩ : ∃ AL cL, wr.cell? ⟨q, 0, none⟩ = some (.slice AL k cL) := by
            obtain ⟨Lm, Lp, h1, h2, h3, _⟩ := haw.mod
            rw [← HK.out]
            rcases h3.2 with ⟨e, h0⟩ | ⟨_, cap, _, e, _⟩
            · exact ⟨none, 0, by rw [h1.c0, e, h0]⟩
            · exact ⟨_, cap, by rw [h1.c0, e]⟩
          have HB4 : Hid (Below wr.heap.size wr (wr.alloc (.cells #[.int .i64 0, .int .i64 0, .string ⟨#[]⟩] 32))) := (Below.refl _ _).alloc (Nat.le_refl _) _
          have c4 := (HB4.out.cell (p := ⟨q, 0, none⟩) (World.block_lt_of_cell? wr _ c0)).trans c0
          have t4 : (convert 26 9 (.slice none 0 0)).run Try.prog (wr.alloc (.cells #[.int .i64 0, .int .i64 0, .string ⟨#[]⟩] 32)) = .ok (.string ⟨#[]⟩) _ := text_at (n := 0) (c := 0) (A := none) (l := []) rfl (Bytes.none_ _ _) _ (Below.refl _ _)
          clear haw
          by_cases hneg : z = -1
          · subst hneg
            have HLK := Lib.hid (look_none w.heap.size Any g m ms (-1) wr HA.out.bag (by omega))
            go_wp2_with fail
            refine HLK.out.mono ?_
            rintro e w3 ⟨rfl, rfl⟩
            clear HLK
            go_wp2_with fail
            go_roundw
            case rel => exact ⟨0, by go_num, by omega, by omega, HA.out.step HB4.out⟩
            case measure => simp [intOf] <;> omega
          · obtain ⟨j, rfl⟩ : ∃ j : Nat, z = j := ⟨z.toNat, by omega⟩
            clear hneg
            by_cases hjk : j < k
            · have hj : j < ms.length := by rw [HK.out]; exact hjk
              have HLK := Lib.hid (look_some w.heap.size Any g m ms j wr HA.out.bag hj (by rw [HK.out]; omega))
              obtain ⟨Lm, Lp, m1, m2, m3, m4, m5, m6⟩ := HA.out.mod
              obtain ⟨g0, cap, rfl, hg0, hglt, hnc, hcm⟩ := own_form m3 (by omega)
              obtain ⟨f0, f1, f2⟩ := flatS_at ms j hj
              have q0 := m3.cells (g := g0) rfl _ _ f0
              have q1 := m3.cells (g := g0) rfl _ _ f1
              have q2 := m3.cells (g := g0) rfl _ _ f2
              rw [add_plain, Nat.zero_add] at q0 q1 q2
              have cc0 := m1.c0
              rw [HK.out] at cc0
              have HC0 := Lib.hid cc0
              have HMK := Lib.hid (m5 _ (List.getElem_mem hj))
              clear c0 c4 t4 ez HB4 AL cL m1 m2 m3 m4 m5 m6 f0 f1 f2
              generalize ms[j] = x at *
              clear hj hnc
              obtain ⟨xf, xt, xb⟩ := x
              simp only at q0 q1 q2
              go_wp2_with fail
              refine HLK.out.mono ?_
              rintro e w3 ⟨v3, rfl, ho3, hb3⟩
              obtain ⟨A3, c3, rfl, _⟩ := bytes_of_own ho3
              have HO3 := Lib.hid ho3
              have HB3 := Lib.hid hb3
              have HB4 : Hid (Below w3.heap.size w3 (w3.alloc (.cells #[.int .i64 0, .int .i64 0, .string ⟨#[]⟩] 32))) := (Below.refl _ _).alloc (Nat.le_refl _) _
              have HT4 : Hid (Trip (w3.alloc (.cells #[.int .i64 0, .int .i64 0, .string ⟨#[]⟩] 32)) w3.heap.size (.int .i64 0) (.int .i64 0) (.string ⟨#[]⟩)) := heap_alloc_new w3 _
              have HB34 : Hid (Below wr.heap.size wr (w3.alloc (.cells #[.int .i64 0, .int .i64 0, .string ⟨#[]⟩] 32))) := HB3.out.trans (HB4.out.mono HB3.out.size)
              have c4 := (HB34.out.cell (p := ⟨q, 0, none⟩) (World.block_lt_of_cell? wr _ cc0)).trans cc0
              have p0 := (HB34.out.cell (p := ⟨g0, j * 3, none⟩) (World.block_lt_of_cell? wr _ q0)).trans q0
              have p1 := (HB34.out.cell (p := ⟨g0, j * 3 + 1, none⟩) (World.block_lt_of_cell? wr _ q1)).trans q1
              have p2 := (HB34.out.cell (p := ⟨g0, j * 3 + 2, none⟩) (World.block_lt_of_cell? wr _ q2)).trans q2
              clear ho3 hb3 cc0 q0 q1 q2
              go_upto_region 14 with (fail)
              generalize hqw : w3.heap.size = qw at *
              generalize w3.alloc (.cells #[.int .i64 0, .int .i64 0, .string ⟨#[]⟩] 32) = w4 at *
              have T1 := HT4.out.set0 (.int .i64 xf)
              have T2 := T1.set1 (.int .i64 xt)
              have T3 := T2.set2 (.string (text xb))
              have e0 := HT4.out.c 0
              have e0f := HT4.out.fz 0
              have e1 := T1.c 1
              have e1f := T1.fz 1
              have e2 := T2.c 2
              have e2f := T2.fz 2
              have e1' := HT4.out.c 1
              have e1f' := HT4.out.fz 1
              have e2' := HT4.out.c 2
              have e2f' := HT4.out.fz 2
              have l0 := T3.c 0
              have l1 := T3.c 1
              have l2 := T3.c 2
              have HB5 : Hid (Below qw w3 (((w4.setCell ⟨qw, 0, none⟩ (.int .i64 xf)).setCell ⟨qw, 1, none⟩ (.int .i64 xt)).setCell ⟨qw, 2, none⟩ (.string (text xb)))) := ((HB4.out.setCell (p := ⟨qw, 0, none⟩) (Nat.le_refl _) _).setCell (p := ⟨qw, 1, none⟩) (Nat.le_refl _) _).setCell (p := ⟨qw, 2, none⟩) (Nat.le_refl _) _
              have hb5 : Below w3.heap.size w3 (((w4.setCell ⟨qw, 0, none⟩ (.int .i64 xf)).setCell ⟨qw, 1, none⟩ (.int .i64 xt)).setCell ⟨qw, 2, none⟩ (.string (text xb))) := by rw [hqw]; exact HB5.out
              have cQ := (hb5.cell (p := ⟨q, 0, none⟩) (Nat.lt_of_lt_of_le (World.block_lt_of_cell? wr _ HC0.out) HB3.out.size)).trans ((HB3.out.cell (p := ⟨q, 0, none⟩) (World.block_lt_of_cell? wr _ HC0.out)).trans HC0.out)
              have HS5 := Lib.hid (HA.out.step (HB3.out.trans (hb5.mono HB3.out.size)))
              have t5 : (convert 26 9 (.slice A3 xb.length c3)).run Try.prog (((w4.setCell ⟨qw, 0, none⟩ (.int .i64 xf)).setCell ⟨qw, 1, none⟩ (.int .i64 xt)).setCell ⟨qw, 2, none⟩ (.string (text xb))) = .ok (.string (text xb)) (((w4.setCell ⟨qw, 0, none⟩ (.int .i64 xf)).setCell ⟨qw, 1, none⟩ (.int .i64 xt)).setCell ⟨qw, 2, none⟩ (.string (text xb))) := by
                obtain ⟨A', c', hv, _, _, _, hB⟩ := bytes_of_own HO3.out
                injection hv with hv _ hvc
                subst hv hvc
                exact text_at rfl hB _ hb5
              have em : ∀ w, (binOp .neq 32 (.agg #[.int .i64 xf, .int .i64 xt, .string (text xb)]) (.agg #[.int .i64 xf, .int .i64 xt, .string (text xb)])).run Try.prog w = .ok (.bool false) w := fun w => neq_msg w (x := (xf, xt, xb)) HMK.out
              simp at e0 e1 e2 e1' e2' l0 l1 l2
              clear T1 T2 T3 hb5 hqw
              go_wp2_with fail
              go_roundw
              case rel => exact ⟨(j : Int) + 1, by go_num, by omega, by omega, HS5.out⟩
              case measure => simp [intOf] <;> omega
            · by_cases hjk' : j = k
              · subst hjk'
                have HLK := Lib.hid (look_none w.heap.size Any g m ms j wr HA.out.bag (by rw [HK.out]; omega))
                go_wp2_with fail
                refine HLK.out.mono ?_
                rintro e w3 ⟨rfl, rfl⟩
                clear HLK
                go_wp2_with fail
                go_roundw
                case rel => exact ⟨(j : Int) + 1, by go_num, by omega, by omega, HA.out.step HB4.out⟩
                case measure => simp [intOf] <;> omega
              · go_wp2_with fail
                refine (awake_any wr).mono ?_
                rintro e w8 ⟨rfl, hb8⟩
                have HB8 := Lib.hid (HA.out.below.trans (hb8.mono HA.out.size)); clear hb8
                go_wp2_with fail
                go_ret
                exact ⟨rfl, HB8.out⟩
    · skip
      obtain ⟨nn, S, ms, ps, haw, _, hml, _, _⟩ := HG.out
      have HAW := Lib.hid haw
      have HCO : Hid True := trivial
      obtain ⟨k, hk⟩ : ∃ k, ms.length = k := ⟨_, rfl⟩
      have hk5 : k ≤ 500 := by omega
      have HK := Lib.hid hk
      clear haw hml hk HG HBE
      go_wp2_with fail
      go_loopw [6] (fun y wq => ∃ z : Int, y = .int .i64 z ∧ -1 ≤ z ∧ z ≤ (k : Int) + 1 ∧ AW w g m q nn S ms ms ps wq) (fun y _ => ((k : Int) + 1 - intOf y).toNat)
      case atStart => exact ⟨-1, rfl, by omega, by omega, HAW.out⟩
      case round =>
        clear HAW
        obtain ⟨z, rfl, hz1, hz2, haw⟩ := hrel
        have HA := Lib.hid haw
        have ez : ∀ w, (binOp .neq 32 (.agg #[.int .i64 0, .int .i64 0, .string ⟨#[]⟩]) (.agg #[.int .i64 0, .int .i64 0, .string ⟨#[]⟩])).run Try.prog w = .ok (.bool false) w := fun w => neq_msg w (x := ((0 : Int), (0 : Int), ([] : List UInt8))) ⟨by simp [InI64], by simp [InI64], by simp⟩
        obtain ⟨AL, cL, c0⟩ : ∃ AL cL, wr.cell? ⟨q, 0, none⟩ = some (.slice AL k cL) := by
          obtain ⟨Lm, Lp, h1, h2, h3, _⟩ := haw.mod
          rw [← HK.out]
          rcases h3.2 with ⟨e, h0⟩ | ⟨_, cap, _, e, _⟩
          · exact ⟨none, 0, by rw [h1.c0, e, h0]⟩
          · exact ⟨_, cap, by rw [h1.c0, e]⟩
        have HB4 : Hid (Below wr.heap.size wr (wr.alloc (.cells #[.int .i64 0, .int .i64 0, .string ⟨#[]⟩] 32))) := (Below.refl _ _).alloc (Nat.le_refl _) _
        have c4 := (HB4.out.cell (p := ⟨q, 0, none⟩) (World.block_lt_of_cell? wr _ c0)).trans c0
        have t4 : (convert 26 9 (.slice none 0 0)).run Try.prog (wr.alloc (.cells #[.int .i64 0, .int .i64 0, .string ⟨#[]⟩] 32)) = .ok (.string ⟨#[]⟩) _ := text_at (n := 0) (c := 0) (A := none) (l := []) rfl (Bytes.none_ _ _) _ (Below.refl _ _)
        clear haw
        by_cases hneg : z = -1
        · subst hneg
          have HLK := Lib.hid (look_none w.heap.size Any g m ms (-1) wr HA.out.bag (by omega))
          go_wp2_with fail
          refine HLK.out.mono ?_
          rintro e w3 ⟨rfl, rfl⟩
          clear HLK
          go_wp2_with fail
          go_roundw
          case rel => exact ⟨0, by go_num, by omega, by omega, HA.out.step HB4.out⟩
          case measure => simp [intOf] <;> omega
        · obtain ⟨j, rfl⟩ : ∃ j : Nat, z = j := ⟨z.toNat, by omega⟩
          clear hneg
          by_cases hjk : j < k
          · have hj : j < ms.length := by rw [HK.out]; exact hjk
            have HLK := Lib.hid (look_some w.heap.size Any g m ms j wr HA.out.bag hj (by rw [HK.out]; omega))
            obtain ⟨Lm, Lp, m1, m2, m3, m4, m5, m6⟩ := HA.out.mod
            obtain ⟨g0, cap, rfl, hg0, hglt, hnc, hcm⟩ := own_form m3 (by omega)
            obtain ⟨f0, f1, f2⟩ := flatS_at ms j hj
            have q0 := m3.cells (g := g0) rfl _ _ f0
            have q1 := m3.cells (g := g0) rfl _ _ f1
            have q2 := m3.cells (g := g0) rfl _ _ f2
            rw [add_plain, Nat.zero_add] at q0 q1 q2
            have cc0 := m1.c0
            rw [HK.out] at cc0
            have HC0 := Lib.hid cc0
            have HMK := Lib.hid (m5 _ (List.getElem_mem hj))
            clear c0 c4 t4 ez HB4 AL cL m1 m2 m3 m4 m5 m6 f0 f1 f2
            generalize ms[j] = x at *
            clear hj hnc
            obtain ⟨xf, xt, xb⟩ := x
            simp only at q0 q1 q2
            go_wp2_with fail
            refine HLK.out.mono ?_
            rintro e w3 ⟨v3, rfl, ho3, hb3⟩
            obtain ⟨A3, c3, rfl, _⟩ := bytes_of_own ho3
            have HO3 := Lib.hid ho3
            have HB3 := Lib.hid hb3
            have HB4 : Hid (Below w3.heap.size w3 (w3.alloc (.cells #[.int .i64 0, .int .i64 0, .string ⟨#[]⟩] 32))) := (Below.refl _ _).alloc (Nat.le_refl _) _
            have HT4 : Hid (Trip (w3.alloc (.cells #[.int .i64 0, .int .i64 0, .string ⟨#[]⟩] 32)) w3.heap.size (.int .i64 0) (.int .i64 0) (.string ⟨#[]⟩)) := heap_alloc_new w3 _
            have HB34 : Hid (Below wr.heap.size wr (w3.alloc (.cells #[.int .i64 0, .int .i64 0, .string ⟨#[]⟩] 32))) := HB3.out.trans (HB4.out.mono HB3.out.size)
            have c4 := (HB34.out.cell (p := ⟨q, 0, none⟩) (World.block_lt_of_cell? wr _ cc0)).trans cc0
            have p0 := (HB34.out.cell (p := ⟨g0, j * 3, none⟩) (World.block_lt_of_cell? wr _ q0)).trans q0
            have p1 := (HB34.out.cell (p := ⟨g0, j * 3 + 1, none⟩) (World.block_lt_of_cell? wr _ q1)).trans q1
            have p2 := (HB34.out.cell (p := ⟨g0, j * 3 + 2, none⟩) (World.block_lt_of_cell? wr _ q2)).trans q2
            clear ho3 hb3 cc0 q0 q1 q2
            go_upto_region 14 with (fail)
            generalize hqw : w3.heap.size = qw at *
            generalize w3.alloc (.cells #[.int .i64 0, .int .i64 0, .string ⟨#[]⟩] 32) = w4 at *
            have T1 := HT4.out.set0 (.int .i64 xf)
            have T2 := T1.set1 (.int .i64 xt)
            have T3 := T2.set2 (.string (text xb))
            have e0 := HT4.out.c 0
            have e0f := HT4.out.fz 0
            have e1 := T1.c 1
            have e1f := T1.fz 1
            have e2 := T2.c 2
            have e2f := T2.fz 2
            have e1' := HT4.out.c 1
            have e1f' := HT4.out.fz 1
            have e2' := HT4.out.c 2
            have e2f' := HT4.out.fz 2
            have l0 := T3.c 0
            have l1 := T3.c 1
            have l2 := T3.c 2
            have HB5 : Hid (Below qw w3 (((w4.setCell ⟨qw, 0, none⟩ (.int .i64 xf)).setCell ⟨qw, 1, none⟩ (.int .i64 xt)).setCell ⟨qw, 2, none⟩ (.string (text xb)))) := ((HB4.out.setCell (p := ⟨qw, 0, none⟩) (Nat.le_refl _) _).setCell (p := ⟨qw, 1, none⟩) (Nat.le_refl _) _).setCell (p := ⟨qw, 2, none⟩) (Nat.le_refl _) _
            have hb5 : Below w3.heap.size w3 (((w4.setCell ⟨qw, 0, none⟩ (.int .i64 xf)).setCell ⟨qw, 1, none⟩ (.int .i64 xt)).setCell ⟨qw, 2, none⟩ (.string (text xb))) := by rw [hqw]; exact HB5.out
            have cQ := (hb5.cell (p := ⟨q, 0, none⟩) (Nat.lt_of_lt_of_le (World.block_lt_of_cell? wr _ HC0.out) HB3.out.size)).trans ((HB3.out.cell (p := ⟨q, 0, none⟩) (World.block_lt_of_cell? wr _ HC0.out)).trans HC0.out)
            have HS5 := Lib.hid (HA.out.step (HB3.out.trans (hb5.mono HB3.out.size)))
            have t5 : (convert 26 9 (.slice A3 xb.length c3)).run Try.prog (((w4.setCell ⟨qw, 0, none⟩ (.int .i64 xf)).setCell ⟨qw, 1, none⟩ (.int .i64 xt)).setCell ⟨qw, 2, none⟩ (.string (text xb))) = .ok (.string (text xb)) (((w4.setCell ⟨qw, 0, none⟩ (.int .i64 xf)).setCell ⟨qw, 1, none⟩ (.int .i64 xt)).setCell ⟨qw, 2, none⟩ (.string (text xb))) := by
              obtain ⟨A', c', hv, _, _, _, hB⟩ := bytes_of_own HO3.out
              injection hv with hv _ hvc
              subst hv hvc
              exact text_at rfl hB _ hb5
            have em : ∀ w, (binOp .neq 32 (.agg #[.int .i64 xf, .int .i64 xt, .string (text xb)]) (.agg #[.int .i64 xf, .int .i64 xt, .string (text xb)])).run Try.prog w = .ok (.bool false) w := fun w => neq_msg w (x := (xf, xt, xb)) HMK.out
            simp at e0 e1 e2 e1' e2' l0 l1 l2
            clear T1 T2 T3 hb5 hqw
            go_wp2_with fail
            go_roundw
            case rel => exact ⟨(j : Int) + 1, by go_num, by omega, by omega, HS5.out⟩
            case measure => simp [intOf] <;> omega
          · by_cases hjk' : j = k
            · subst hjk'
              have HLK := Lib.hid (look_none w.heap.size Any g m ms j wr HA.out.bag (by rw [HK.out]; omega))
              go_wp2_with fail
              refine HLK.out.mono ?_
              rintro e w3 ⟨rfl, rfl⟩
              clear HLK
              go_wp2_with fail
              go_roundw
              case rel => exact ⟨(j : Int) + 1, by go_num, by omega, by omega, HA.out.step HB4.out⟩
              case measure => simp [intOf] <;> omega
            · go_wp2_with fail
              refine (awake_any wr).mono ?_
              rintro e w8 ⟨rfl, hb8⟩
              have HB8 := Lib.hid (HA.out.below.trans (hb8.mono HA.out.size)); clear hb8
              go_wp2_with fail
              go_ret
              exact ⟨rfl, HB8.out⟩
end Go.Proofs.Ytjbcmepnlnfkjaa
