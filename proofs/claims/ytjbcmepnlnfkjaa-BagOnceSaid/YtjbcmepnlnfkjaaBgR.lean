/-
  THE LAW BagOnce WALKED.
-/
import Derived.Test.YtjbcmepnlnfkjaaBgQ
import Derived.Test.YtjbcmepnlnfkjaaBgJ
import Derived.IntWalk
namespace Go.Proofs.Ytjbcmepnlnfkjaa
open Go Go.RowKit Go.Proofs

/-- the loop's relation -/
def Once (w : World) (g m ml i : Nat) (u : World) : Prop := ∃ (ms : List Msg) (F : Msg → Int) (nn : Nat), nn ≤ i ∧ Cnt i ms F ∧ StW w g m ml nn ms F u

/-- the box of a message, and its count -/
def CellsAt (q : Nat) (xf xt : Int) (xb : List UInt8) (ml : Nat) (fx : Int) (u : World) : Prop :=
  u.cell? ⟨q, 0, none⟩ = some (.int .i64 xf) ∧ u.cell? ⟨q, 1, none⟩ = some (.int .i64 xt) ∧ u.cell? ⟨q, 2, none⟩ = some (.string (text xb)) ∧
    (Instr.lookup 25 (.map (some ml)) (.agg #[.int .i64 xf, .int .i64 xt, .string (text xb)]) false).run Try.prog u = .ok (.int .i64 fx) u

/-- bytes that read as a text, and a count -/
def BytesAt (A : Option Addr) (n c : Nat) (xf xt : Int) (xb : List UInt8) (ml : Nat) (fx : Int) (u : World) : Prop :=
  (convert 26 9 (.slice A n c)).run Try.prog u = .ok (.string (text xb)) u ∧
    (Instr.lookup 25 (.map (some ml)) (.agg #[.int .i64 xf, .int .i64 xt, .string (text xb)]) false).run Try.prog u = .ok (.int .i64 fx) u

/-- the box of an act, its bytes as a text, and a count -/
def BoxAt (q : Nat) (a b : Int) (A : Option Addr) (n c : Nat) (l : List UInt8) (ml : Nat) (fx : Int) (u : World) : Prop :=
  u.cell? ⟨q, 1, none⟩ = some (.int .i64 a) ∧ u.cell? ⟨q, 2, none⟩ = some (.int .i64 b) ∧ u.cell? ⟨q, 3, none⟩ = some (.slice A n c) ∧ (convert 26 9 (.slice A n c)).run Try.prog u = .ok (.string (text l)) u ∧
    (Instr.lookup 25 (.map (some ml)) (.agg #[.int .i64 a, .int .i64 b, .string (text l)]) false).run Try.prog u = .ok (.int .i64 fx) u

set_option maxRecDepth 20000 in
set_option maxHeartbeats 3200000 in
theorem law_bagOnce (A : Option Addr) (n c : Nat) (l : List ActV) (w : World) (hn : l.length = n) (hB : ActsW w A l) : Calls Try.prog 3 #[.slice A n c] w (Yes w) := by
  have HN := Lib.hid hn; clear hn
  have HC := Lib.hid hB; clear hB
  have mk := fun (w : World) => run_makeMap_plain (P := Try.prog) w 25
  go_enter Try.func3, Try.ntmps3
  go_wp2_with fail
  refine (new_any w Any).mono ?_
  rintro e w1 ⟨g, m, rfl, hm0, hbag, hmap, hb⟩
  have HP1 := Lib.hid (PMap.made hmap)
  have HBAG := Lib.hid hbag
  have HB1 := Lib.hid hb
  clear hbag hmap hb hm0
  go_wp2_with fail
  have HS0 : Hid (StW w g m w1.heap.size 0 [] (fun _ => 0) (w1.alloc (.map #[] 0))) := by
    have hb : Below w1.heap.size w1 (w1.alloc (.map #[] 0)) := (Below.refl _ _).alloc (Nat.le_refl _) _
    exact ⟨HBAG.out.below hb, HP1.out.below hb, LMap.made (heap_alloc_new w1 _), (by have := HP1.out.lt; omega), HB1.out.size, HB1.out.trans (hb.mono HB1.out.size)⟩
  have HML : Hid (w1.heap.size = w1.heap.size) := rfl
  generalize w1.alloc (.map #[] 0) = wa at *
  generalize w1.heap.size = ml at *
  go_loopw [5] (fun y wr => ∃ i : Nat, y = .int .i64 i ∧ i ≤ n ∧ i ≤ 500 ∧ Once w g m ml i wr) (fun y _ => n - (intOf y).toNat)
  case atStart => exact ⟨0, rfl, Nat.zero_le _, Nat.zero_le _, [], fun _ => 0, 0, Nat.le_refl _, Cnt.start, HS0.out⟩
  case round =>
    clear HS0 HBAG HP1 HB1 HML
    obtain ⟨i, rfl, hin, hi5, ms, F, nn, hnn, hcnt, hst⟩ := hrel
    have HCNT := Lib.hid hcnt; clear hcnt
    have HST := Lib.hid hst; clear hst
    have HNN := Lib.hid hnn; clear hnn
    by_cases hlt : i < n
    · by_cases h500 : i < 500
      · have hj : i < l.length := by rw [HN.out]; exact hlt
        obtain ⟨b0, off, hA, ⟨c0, c1, c2, c3⟩, hok⟩ := HC.out.at_ HST.out.below hj
        have HOK := Lib.hid hok; clear hok
        obtain ⟨x, hx⟩ : ∃ x, l[i] = x := ⟨_, rfl⟩
        rw [hx] at c0 c1 c2 c3 HOK
        clear hx hj
        rw [hA]
        clear hA
        obtain ⟨d, a, b, Ax, cx, lx⟩ := x
        simp only at c0 c1 c2 c3
        by_cases hd1 : d = 1
        · subst hd1
          go_wp2_with fail
          have HS1 : Hid (StW w g m ml nn ms F (wr.alloc (.cells #[.int .i64 1, .int .i64 a, .int .i64 b, .slice Ax lx.length cx] 28))) := HST.out.step ((Below.refl _ _).alloc (Nat.le_refl _) _)
          clear c0 c1 c2 c3
          generalize wr.alloc (.cells #[.int .i64 1, .int .i64 a, .int .i64 b, .slice Ax lx.length cx] 28) = w2 at *
          by_cases hin : 0 ≤ a ∧ a < ms.length
          · obtain ⟨k, rfl⟩ : ∃ k : Nat, a = k := ⟨a.toNat, by omega⟩
            have hk : k < ms.length := by omega
            have hml : ms.length ≤ 1000000 := by have := HCNT.out.len; omega
            have HPOS := Lib.hid (HCNT.out.pos k hk)
            have HUP := Lib.hid (HCNT.out.up ms[k])
            have HCO := Lib.hid (HCNT.out.out k hk)
            have HMO : Hid (MOk ms[k]) := by
              obtain ⟨L, vs, _, _, _, h4, h5⟩ := HS1.out.bag
              obtain ⟨_, _, _, _, hb47, _⟩ := h4.at_ k hk
              exact ⟨(h5 _ (List.getElem_mem hk)).1, (h5 _ (List.getElem_mem hk)).2, by unfold maxLen; omega⟩
            have HDEL := Lib.hid (deliver_some w.heap.size Any g m 0 none_ ms k w2 HS1.out.bag hk hml HS1.out.pm HS1.out.size)
            clear hin hml
            refine HDEL.out.mono ?_
            obtain ⟨x, hx⟩ : ∃ x, ms[k] = x := ⟨_, rfl⟩
            rw [hx] at HPOS HUP HCO HMO
            rw [hx]
            clear HDEL hx hk
            obtain ⟨xf, xt, xb⟩ := x
            rintro e w3 ⟨⟨v, rfl, ho⟩, ht⟩
            obtain ⟨A3, c3, rfl, _, _, _, hB3⟩ := bytes_of_own ho
            have HS3 := Lib.hid (HS1.out.turned ht)
            have t3 := text_at (c := c3) rfl hB3 w3 (Below.refl _ _)
            clear ho ht hB3
            have HB4 : Hid (Below w3.heap.size w3 (w3.alloc (.cells #[.int .i64 xf, .int .i64 xt, .string (text xb)] 32))) := (Below.refl _ _).alloc (Nat.le_refl _) _
            have HS4 := Lib.hid (HS3.out.step HB4.out)
            have lk : (Instr.lookup 25 (.map (some ml)) (.agg #[.int .i64 xf, .int .i64 xt, .string (text xb)]) false).run Try.prog (w3.alloc (.cells #[.int .i64 xf, .int .i64 xt, .string (text xb)] 32)) = .ok (.int .i64 (F (xf, xt, xb))) (w3.alloc (.cells #[.int .i64 xf, .int .i64 xt, .string (text xb)] 32)) := HS4.out.lm.look HMO.out
            obtain ⟨st, w5, me, hg5, hs5, hes⟩ := HS4.out.drew.bump (by have := HNN.out; unfold maxLen; omega) HMO.out
            have lk5 := hs5.lm.look HMO.out
            clear hs5
            have lk4 := HS4.out.drew.lm.look HMO.out
            obtain ⟨fx, hfx⟩ : ∃ fx, F (xf, xt, xb) = fx := ⟨_, rfl⟩
            rw [hfx] at lk me lk5 lk4 HUP HPOS HCO
            clear hfx
            have h1 : 1 ≤ fx := HPOS.out
            have h2 : fx ≤ 500 := by have := HUP.out; omega
            obtain ⟨w6, es, hs6⟩ := hes (fx - 1) (by unfold InI64; omega)
            have HS6 := Lib.hid hs6
            have HME := Lib.hid me
            have HES := Lib.hid es
            clear hes hs6 me es
            have HL5 := Lib.hid lk5
            have HL4 := Lib.hid lk4
            clear lk5 lk4
            go_wp2_with fail
            have k0 : (w3.alloc (.cells #[.int .i64 xf, .int .i64 xt, .string (text xb)] 32)).cell? ⟨w3.heap.size, 0, none⟩ = some (.int .i64 xf) := by simp
            have k1 : (w3.alloc (.cells #[.int .i64 xf, .int .i64 xt, .string (text xb)] 32)).cell? ⟨w3.heap.size, 1, none⟩ = some (.int .i64 xt) := by simp
            have k2 : (w3.alloc (.cells #[.int .i64 xf, .int .i64 xt, .string (text xb)] 32)).cell? ⟨w3.heap.size, 2, none⟩ = some (.string (text xb)) := by simp
            generalize w3.alloc (.cells #[.int .i64 xf, .int .i64 xt, .string (text xb)] 32) = w4 at *
            generalize w3.heap.size = q at *
            have HS0 : Hid (CellsAt q xf xt xb ml fx w4.drew) := ⟨k0, k1, k2, HL4.out⟩
            have HS5 : Hid (CellsAt q xf xt xb ml fx w5) := ⟨cell_other hg5 HS4.out.drew.lm.isMp HS0.out.1, cell_other hg5 HS4.out.drew.lm.isMp HS0.out.2.1, cell_other hg5 HS4.out.drew.lm.isMp HS0.out.2.2.1, HL5.out⟩
            clear k0 k1 k2 lk hg5
            refine wp_region_flowE [(0, 1), (1, 1), (2, 1), (3, 1), (4, 0), (5, 1)] 6 (CellsAt q xf xt xb ml fx) (by kernel_rfl) (by kernel_rfl) (fun _ _ _ _ _ h => h) (HS0.out) ?_
            iterate 4 (refine flowE_take (v := ?_) rfl (by rfl) ?_ ?_; rotate_left 1; (· intro u hu; have a0 := hu.1; have a1 := hu.2.1; have a2 := hu.2.2.1; have a3 := hu.2.2.2; clear hu; go_simp; try with_reducible rfl); simp only [Act.put, List.getElem_toArray, List.getElem_cons_succ, List.getElem_cons_zero, List.setIfInBounds_toArray, List.set_cons_zero, List.set_cons_succ])
            have me' := HME.out
            unfold mkey at me'
            (refine flowE_turn rfl (by rfl) (fun K hK => ?_); simp only [List.getElem_toArray, List.getElem_cons_succ, List.getElem_cons_zero]; have HKK := Lib.hid hK; clear hK; go_simp)
            refine HKK.out _ _ ⟨CellsAt q xf xt xb ml fx, HS5.out, fun u hu => hu, ?_⟩
            clear HKK K me'
            iterate 1 (refine flowE_take (v := ?_) rfl (by rfl) ?_ ?_; rotate_left 1; (· intro u hu; skip; clear hu; go_simp; try with_reducible rfl); simp only [Act.put, List.getElem_toArray, List.getElem_cons_succ, List.getElem_cons_zero, List.setIfInBounds_toArray, List.set_cons_zero, List.set_cons_succ])
            have es' := HES.out
            unfold goInt at es'
            have wr1 : IntKind.i64.wrap (fx - 1) = fx - 1 := IntWalk.i64_in _ (by omega)
            (refine flowE_end rfl (by rfl) (fun K hK => ?_); simp only [List.getElem_toArray, List.getElem_cons_succ, List.getElem_cons_zero]; have HKK := Lib.hid hK; clear hK; go_simp)
            refine HKK.out _ _ ?_
            clear HKK K es' wr1
            go_wp2_with fail
            go_roundw
            case rel => exact ⟨i + 1, by go_num, by omega, by omega, _, _, nn + 1, by have := HNN.out; omega, HCO.out, HS6.out⟩
            case measure => simp [intOf]; omega
          · have HDEL := Lib.hid (deliver_none w.heap.size Any g m 0 none_ ms a w2 HS1.out.bag (by omega) HS1.out.pm HS1.out.size)
            clear hin
            refine HDEL.out.mono ?_
            rintro e w3 ⟨rfl, ht⟩
            clear HDEL
            have HS3 := Lib.hid (HS1.out.turned ht)
            have t3 := text_at (n := 0) (c := 0) (A := none) (l := []) rfl (Bytes.none_ _ _) w3 (Below.refl _ _)
            clear ht
            unfold noMsg
            have HS4 := Lib.hid (HS3.out.step (((Below.refl w3.heap.size w3).alloc (Nat.le_refl _) (.cells #[.int .i64 0, .int .i64 0, .string (text [])] 32))))
            go_wp2_with fail
            go_roundw
            case rel => exact ⟨i + 1, by go_num, by omega, by omega, _, _, nn, by have := HNN.out; omega, HCNT.out.next, HS4.out⟩
            case measure => simp [intOf]; omega
        · by_cases hd3 : d = 3
          · subst hd3
            clear hd1
            go_wp2_with fail
            have HS1 : Hid (StW w g m ml nn ms F (wr.alloc (.cells #[.int .i64 3, .int .i64 a, .int .i64 b, .slice Ax lx.length cx] 28))) := HST.out.step ((Below.refl _ _).alloc (Nat.le_refl _) _)
            have HK2 : Hid ((wr.alloc (.cells #[.int .i64 3, .int .i64 a, .int .i64 b, .slice Ax lx.length cx] 28)).heap[wr.heap.size]? = some (.cells #[.int .i64 3, .int .i64 a, .int .i64 b, .slice Ax lx.length cx] 28)) := heap_alloc_new wr _
            have k1 : (wr.alloc (.cells #[.int .i64 3, .int .i64 a, .int .i64 b, .slice Ax lx.length cx] 28)).cell? ⟨wr.heap.size, 1, none⟩ = some (.int .i64 a) := by simp
            clear c0 c1 c2 c3
            generalize wr.alloc (.cells #[.int .i64 3, .int .i64 a, .int .i64 b, .slice Ax lx.length cx] 28) = w2 at *
            generalize wr.heap.size = q0 at *
            by_cases hin : 0 ≤ a ∧ a < ms.length
            · obtain ⟨k, rfl⟩ : ∃ k : Nat, a = k := ⟨a.toNat, by omega⟩
              have hk : k < ms.length := by omega
              have hml : ms.length ≤ 1000000 := by have := HCNT.out.len; omega
              have HUP := Lib.hid (HCNT.out.up ms[k])
              have HLO := Lib.hid (HCNT.out.pos k hk)
              have HCO := Lib.hid (HCNT.out.more ms[k])
              have HMO : Hid (MOk ms[k]) := by
                obtain ⟨L, vs, _, _, _, h4, h5⟩ := HS1.out.bag
                obtain ⟨_, _, _, _, hb47, _⟩ := h4.at_ k hk
                exact ⟨(h5 _ (List.getElem_mem hk)).1, (h5 _ (List.getElem_mem hk)).2, by unfold maxLen; omega⟩
              have HLOOK := Lib.hid (look_some w.heap.size Any g m ms k w2 HS1.out.bag hk hml)
              have HTW := Lib.hid (fun (u : World) (hs : StW w g m ml nn ms F u) => twice_room w.heap.size Any g m ms k u hs.bag hk (by have := HCNT.out.len; omega) hs.pm.isMp hs.size (fun _ _ => trivial))
              clear hin hml
              refine HLOOK.out.mono ?_
              obtain ⟨x, hx⟩ : ∃ x, ms[k] = x := ⟨_, rfl⟩
              rw [hx] at HUP HCO HMO HTW HLO
              rw [hx]
              clear HLOOK hx hk
              obtain ⟨xf, xt, xb⟩ := x
              rintro e w3 ⟨v, rfl, ho, hb3⟩
              obtain ⟨A3, c3, rfl, _⟩ := bytes_of_own ho
              have HS3 := Lib.hid (HS1.out.step hb3)
              have HO3 := Lib.hid ho
              have k1' : w3.cell? ⟨q0, 1, none⟩ = some (.int .i64 k) := (hb3.cell (p := ⟨q0, 1, none⟩) (Array.getElem?_eq_some_iff.1 HK2.out).1).trans k1
              clear ho hb3 k1
              go_wp2_with fail
              refine (HTW.out w3 HS3.out).mono ?_
              rintro e w4 ⟨rfl, ht4⟩
              have HS4 := Lib.hid (HS3.out.turned ht4)
              have HO4 := Lib.hid (own5_beside HO3.out ht4.2.2.1 HS3.out.pm.isMp)
              clear ht4 k1'
              have lk4 := HS4.out.drew.lm.look HMO.out
              obtain ⟨st, w5, me, hg5, hs5, hes⟩ := HS4.out.drew.bump (by have := HNN.out; unfold maxLen; omega) HMO.out
              have lk5 := hs5.lm.look HMO.out
              obtain ⟨fx, hfx⟩ : ∃ fx, F (xf, xt, xb) = fx := ⟨_, rfl⟩
              rw [hfx] at me lk5 lk4 HUP HCO HLO
              clear hfx
              have h1 : 1 ≤ fx := HLO.out
              have h2 : fx ≤ 500 := by have := HUP.out; omega
              obtain ⟨w6, es, hs6⟩ := hes (fx + 1) (by unfold InI64; omega)
              have HS6 := Lib.hid hs6
              have HME := Lib.hid me
              have HES := Lib.hid es
              have HO5 := Lib.hid (own5_grown (own_below HO4.out (Below.refl _ _).drew) hg5 HS4.out.drew.lm.isMp)
              have HS4' : Hid (BytesAt A3 xb.length c3 xf xt xb ml fx w4.drew) := by
                obtain ⟨_, _, hv, _, _, _, hB⟩ := bytes_of_own HO4.out
                injection hv with hv _ hvc
                subst hv hvc
                exact ⟨text_at rfl hB _ (Below.refl _ _).drew, lk4⟩
              have HS5' : Hid (BytesAt A3 xb.length c3 xf xt xb ml fx w5) := by
                obtain ⟨_, _, hv, _, _, _, hB⟩ := bytes_of_own HO5.out
                injection hv with hv _ hvc
                subst hv hvc
                exact ⟨text_at rfl hB _ (Below.refl _ _), lk5⟩
              clear hes hs6 me es lk5 lk4 hg5 hs5
              go_wp2_with fail
              refine wp_region_flowE [(0, 1), (1, 1), (2, 1), (3, 1), (4, 1), (5, 1), (6, 1), (7, 1), (8, 0), (9, 1)] 10 (BytesAt A3 xb.length c3 xf xt xb ml fx) (by kernel_rfl) (by kernel_rfl) (fun _ _ _ _ _ h => h) (HS4'.out) ?_
              have wr1 : IntKind.i64.wrap (fx + 1) = fx + 1 := IntWalk.i64_in _ (by omega)
              iterate 8 (refine flowE_take (v := ?_) rfl (by rfl) ?_ ?_; rotate_left 1; (· intro u hu; have a0 := hu.1; have a1 := hu.2; clear hu; go_simp; try with_reducible rfl); simp only [Act.put, List.getElem_toArray, List.getElem_cons_succ, List.getElem_cons_zero, List.setIfInBounds_toArray, List.set_cons_zero, List.set_cons_succ])
              have me' := HME.out
              unfold mkey at me'
              (refine flowE_turn rfl (by rfl) (fun K hK => ?_); simp only [List.getElem_toArray, List.getElem_cons_succ, List.getElem_cons_zero]; have HKK := Lib.hid hK; clear hK; go_simp)
              refine HKK.out _ _ ⟨BytesAt A3 xb.length c3 xf xt xb ml fx, HS5'.out, fun u hu => hu, ?_⟩
              clear HKK K me'
              iterate 1 (refine flowE_take (v := ?_) rfl (by rfl) ?_ ?_; rotate_left 1; (· intro u hu; skip; clear hu; go_simp; try with_reducible rfl); simp only [Act.put, List.getElem_toArray, List.getElem_cons_succ, List.getElem_cons_zero, List.setIfInBounds_toArray, List.set_cons_zero, List.set_cons_succ])
              have es' := HES.out
              unfold goInt at es'
              (refine flowE_end rfl (by rfl) (fun K hK => ?_); simp only [List.getElem_toArray, List.getElem_cons_succ, List.getElem_cons_zero]; have HKK := Lib.hid hK; clear hK; go_simp)
              refine HKK.out _ _ ?_
              clear HKK K es' wr1
              go_wp2_with fail
              go_roundw
              case rel => exact ⟨i + 1, by go_num, by omega, by omega, _, _, nn + 1, by have := HNN.out; omega, HCO.out, HS6.out⟩
              case measure => simp [intOf]; omega
            · have HLOOK := Lib.hid (look_none w.heap.size Any g m ms a w2 HS1.out.bag (by omega))
              have HTW := Lib.hid (twice_none w.heap.size Any g m ms a w2 HS1.out.bag (by omega))
              clear hin
              refine HLOOK.out.mono ?_
              rintro e w3 ⟨rfl, rfl⟩
              clear HLOOK
              go_wp2_with fail
              refine HTW.out.mono ?_
              rintro e w3 ⟨rfl, rfl⟩
              clear HTW
              go_wp2_with fail
              go_roundw
              case rel => exact ⟨i + 1, by go_num, by omega, by omega, _, _, nn, by have := HNN.out; omega, HCNT.out.next, HS1.out⟩
              case measure => simp [intOf]; omega
          · go_wp2_with fail
            have HB2 : Hid (Below wr.heap.size wr (wr.alloc (.cells #[.int .i64 d, .int .i64 a, .int .i64 b, .slice Ax lx.length cx] 28))) := (Below.refl _ _).alloc (Nat.le_refl _) _
            have HS1 := Lib.hid (HST.out.step HB2.out)
            have HK2 : Hid ((wr.alloc (.cells #[.int .i64 d, .int .i64 a, .int .i64 b, .slice Ax lx.length cx] 28)).heap[wr.heap.size]? = some (.cells #[.int .i64 d, .int .i64 a, .int .i64 b, .slice Ax lx.length cx] 28)) := heap_alloc_new wr _
            have k1 : (wr.alloc (.cells #[.int .i64 d, .int .i64 a, .int .i64 b, .slice Ax lx.length cx] 28)).cell? ⟨wr.heap.size, 1, none⟩ = some (.int .i64 a) := by simp
            have k2 : (wr.alloc (.cells #[.int .i64 d, .int .i64 a, .int .i64 b, .slice Ax lx.length cx] 28)).cell? ⟨wr.heap.size, 2, none⟩ = some (.int .i64 b) := by simp
            have k3 : (wr.alloc (.cells #[.int .i64 d, .int .i64 a, .int .i64 b, .slice Ax lx.length cx] 28)).cell? ⟨wr.heap.size, 3, none⟩ = some (.slice Ax lx.length cx) := by simp
            have HBY : Hid (Bytes (wr.alloc (.cells #[.int .i64 d, .int .i64 a, .int .i64 b, .slice Ax lx.length cx] 28)) Ax lx) := (HOK.out.2.2.2.below HST.out.below).below HB2.out
            have HBW : Hid (Bytes w Ax lx) := HOK.out.2.2.2
            have HXL : Hid (lx.length ≤ 140737488355328) := HOK.out.2.2.1
            have HXA : Hid (InI64 a) := HOK.out.1
            have HXB : Hid (InI64 b) := HOK.out.2.1
            clear c0 c1 c2 c3 HB2 HOK
            generalize wr.alloc (.cells #[.int .i64 d, .int .i64 a, .int .i64 b, .slice Ax lx.length cx] 28) = w2 at *
            generalize wr.heap.size = q0 at *
            have HMO : Hid (MOk (a, b, lx)) := ⟨HXA.out, HXB.out, by have := HXL.out; show lx.length ≤ maxLen; unfold maxLen; omega⟩
            have HUP := Lib.hid (HCNT.out.up (a, b, lx))
            have HLO := Lib.hid (HCNT.out.le (a, b, lx))
            have HCO := Lib.hid (HCNT.out.more (a, b, lx))
            refine (post_room w.heap.size Any g m ms a b Ax lx.length cx lx w2 HS1.out.bag (by have := HCNT.out.len; omega) HXA.out HXB.out rfl HXL.out HBY.out (fun _ _ => trivial) HS1.out.pm.isMp HS1.out.size).mono ?_
            rintro e w3 ⟨rfl, ht3⟩
            have HS3 := Lib.hid (HS1.out.turned ht3)
            have HIM := Lib.hid HS1.out.pm.isMp
            have l1 := cell_turned ht3 HIM.out HK2.out (by decide) (by decide) k1
            have l2 := cell_turned ht3 HIM.out HK2.out (by decide) (by decide) k2
            have l3 := cell_turned ht3 HIM.out HK2.out (by decide) (by decide) k3
            clear k1 k2 k3 ht3
            have lk3 := HS3.out.drew.lm.look HMO.out
            obtain ⟨st, w5, me, hg5, hs5, hes⟩ := HS3.out.drew.bump (by have := HNN.out; unfold maxLen; omega) HMO.out
            have lk5 := hs5.lm.look HMO.out
            obtain ⟨fx, hfx⟩ : ∃ fx, F (a, b, lx) = fx := ⟨_, rfl⟩
            rw [hfx] at me lk5 lk3 HUP HCO HLO
            clear hfx
            have h1 : 0 ≤ fx := by have := HLO.out; omega
            have h2 : fx ≤ 500 := by have := HUP.out; omega
            obtain ⟨w6, es, hs6⟩ := hes (fx + 1) (by unfold InI64; omega)
            have HS6 := Lib.hid hs6
            have HME := Lib.hid me
            have HES := Lib.hid es
            have HI3 := Lib.hid HS3.out.drew.lm.isMp
            have HA3 : Hid (BoxAt q0 a b Ax lx.length cx lx ml fx w3.drew) := ⟨l1, l2, l3, text_at rfl (HBW.out.below HS3.out.below) _ (Below.refl _ _).drew, lk3⟩
            have HA5 : Hid (BoxAt q0 a b Ax lx.length cx lx ml fx w5) := ⟨cell_other hg5 HI3.out HA3.out.1, cell_other hg5 HI3.out HA3.out.2.1, cell_other hg5 HI3.out HA3.out.2.2.1, text_at rfl (HBW.out.below hs5.below) _ (Below.refl _ _), lk5⟩
            clear hes hs6 me es lk5 lk3 hg5 hs5 l1 l2 l3
            go_wp2_with fail
            refine wp_region_flowE [(0, 1), (1, 1), (2, 1), (3, 1), (4, 1), (5, 1), (6, 1), (7, 1), (8, 1), (9, 1), (10, 1), (11, 0), (12, 1)] 13 (BoxAt q0 a b Ax lx.length cx lx ml fx) (by kernel_rfl) (by kernel_rfl) (fun _ _ _ _ _ h => h) (HA3.out) ?_
            have wr1 : IntKind.i64.wrap (fx + 1) = fx + 1 := IntWalk.i64_in _ (by omega)
            iterate 11 (refine flowE_take (v := ?_) rfl (by rfl) ?_ ?_; rotate_left 1; (· intro u hu; have a0 := hu.1; have a1 := hu.2.1; have a2 := hu.2.2.1; have a3 := hu.2.2.2.1; have a4 := hu.2.2.2.2; clear hu; go_simp; try with_reducible rfl); simp only [Act.put, List.getElem_toArray, List.getElem_cons_succ, List.getElem_cons_zero, List.setIfInBounds_toArray, List.set_cons_zero, List.set_cons_succ])
            have me' := HME.out
            unfold mkey at me'
            (refine flowE_turn rfl (by rfl) (fun K hK => ?_); simp only [List.getElem_toArray, List.getElem_cons_succ, List.getElem_cons_zero]; have HKK := Lib.hid hK; clear hK; go_simp)
            refine HKK.out _ _ ⟨BoxAt q0 a b Ax lx.length cx lx ml fx, HA5.out, fun u hu => hu, ?_⟩
            clear HKK K me'
            iterate 1 (refine flowE_take (v := ?_) rfl (by rfl) ?_ ?_; rotate_left 1; (· intro u hu; skip; clear hu; go_simp; try with_reducible rfl); simp only [Act.put, List.getElem_toArray, List.getElem_cons_succ, List.getElem_cons_zero, List.setIfInBounds_toArray, List.set_cons_zero, List.set_cons_succ])
            have es' := HES.out
            unfold goInt at es'
            (refine flowE_end rfl (by rfl) (fun K hK => ?_); simp only [List.getElem_toArray, List.getElem_cons_succ, List.getElem_cons_zero]; have HKK := Lib.hid hK; clear hK; go_simp)
            refine HKK.out _ _ ?_
            clear HKK K es' wr1
            go_wp2_with fail
            go_roundw
            case rel => exact ⟨i + 1, by go_num, by omega, by omega, _, _, nn + 1, by have := HNN.out; omega, HCO.out, HS6.out⟩
            case measure => simp [intOf]; omega
      · have hi500 : i = 500 := by omega
        go_wp2_with fail
        all_goals
          refine (awake_any wr).mono ?_
          rintro e w8 ⟨rfl, hb8⟩
          have HB8 := Lib.hid (HST.out.below.trans (hb8.mono HST.out.size)); clear hb8
          go_wp2_with fail
          go_ret
          exact ⟨rfl, HB8.out⟩
    · go_wp2_with fail
      all_goals
        refine (awake_any wr).mono ?_
        rintro e w8 ⟨rfl, hb8⟩
        have HB8 := Lib.hid (HST.out.below.trans (hb8.mono HST.out.size)); clear hb8
        go_wp2_with fail
        go_ret
        exact ⟨rfl, HB8.out⟩
end Go.Proofs.Ytjbcmepnlnfkjaa
