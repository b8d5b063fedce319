/-
  THE LAW BagOwns WALKED.
-/
import Derived.Test.YtjbcmepnlnfkjaaBgJ
namespace Go.Proofs.Ytjbcmepnlnfkjaa
open Go Go.RowKit Go.Proofs

theorem BytesT.restrict {w : World} {P : Nat → Prop} {A : Option Addr} {l : List UInt8} (h : BytesT w P A l) : BytesT w (fun k => P k ∧ k < w.heap.size) A l := fun hl => by
  obtain ⟨b, off, cs, fr, e, hp, hb, hc⟩ := h hl
  exact ⟨b, off, cs, fr, e, ⟨hp, (Array.getElem?_eq_some_iff.1 hb).1⟩, hb, hc⟩
theorem Bods.restrict {w : World} {P : Nat → Prop} : ∀ {vs : List Value} {ms : List Msg}, Bods w P vs ms → Bods w (fun k => P k ∧ k < w.heap.size) vs ms
  | [], [], _ => trivial
  | _ :: _, _ :: _, h => by
    obtain ⟨A, c, h1, h2, h3, h4⟩ := h.1
    exact ⟨⟨A, c, h1, h2, h3, h4.restrict⟩, Bods.restrict h.2⟩
  | [], _ :: _, h => h.elim
  | _ :: _, [], h => h.elim
theorem BagAt.restrict {w : World} {B : Nat} {P : Nat → Prop} {g m : Nat} {ms : List Msg} (h : BagAt w B P g m ms) : BagAt w B (fun k => P k ∧ k < w.heap.size) g m ms := by
  obtain ⟨L, vs, h1, h2, h3, h4, h5⟩ := h
  exact ⟨L, vs, h1, h2, h3, h4.restrict, h5⟩
theorem BagAt.nil_ {w : World} {B : Nat} {P P' : Nat → Prop} {g m : Nat} (h : BagAt w B P g m []) : BagAt w B P' g m [] := by
  obtain ⟨L, vs, h1, h2, h3, h4, h5⟩ := h
  cases vs with
  | nil => exact ⟨L, [], h1, h2, h3, trivial, h5⟩
  | cons v vs => exact h4.elim
theorem inc_byte (c : UInt8) : ((c.toNat : Nat) + 1 : Int) % 256 = (((c + 1).toNat : Nat) : Int) := by
  rw [UInt8.toNat_add]
  simp

/-- while a row of bytes of the call's own is turned -/
def LI (w0 : World) (Z n c : Nat) (A : Option Addr) (g m : Nat) (P : Nat → Prop) (ms : List Msg) (l : List UInt8) (u : World) : Prop :=
  l.length = n ∧ u.ownsRow Z 5 1 (.slice A n c) n (l.map bv) ∧ BagAt u w0.heap.size P g m ms ∧ PMap u m 0 (fun _ _ => false) ∧ Below w0.heap.size w0 u ∧ Z ≤ u.heap.size
theorem LI.at_ {w0 u : World} {Z n c : Nat} {A : Option Addr} {g m : Nat} {P : Nat → Prop} {ms : List Msg} {l : List UInt8} (h : LI w0 Z n c A g m P ms l u) {j : Nat} (hj : j < n) (hP : ∀ b, Z ≤ b → ¬ P b) (hZ : w0.heap.size ≤ Z) :
    ∃ (g0 : Nat) (cc : UInt8), A = some ⟨g0, 0, none⟩ ∧ l[j]? = some cc ∧ u.cell? ⟨g0, j, none⟩ = some (.int .u8 ((cc.toNat : Nat) : Int)) ∧ u.frozen? ⟨g0, j, none⟩ = false ∧
      ∀ cn : UInt8, LI w0 Z n c A g m P ms (l.set j cn) (u.setCell ⟨g0, j, none⟩ (.int .u8 ((cn.toNat : Nat) : Int))) := by
  obtain ⟨h1, h2, h3, h4, h5, h6⟩ := h
  obtain ⟨g0, cap0, hv0, hg0, _, _, _⟩ := own_form h2 (by omega)
  injection hv0 with hA2 _ hcap
  subst hA2 hcap
  have htl : j < l.length := by rw [h1]; exact hj
  refine ⟨g0, l[j], rfl, List.getElem?_eq_getElem htl, ?_, h2.frozenAt j, fun cn => ?_⟩
  · rw [h2.cellAt j (by omega)]
    simp [List.getElem?_eq_getElem htl, bv]
  · obtain ⟨cs, fr, hk0⟩ := own_row_kind h2 g0 rfl
    refine ⟨by rw [List.length_set, h1], ?_, h3.poke hk0 (hP g0 hg0) j _, h4.same (setCell_other _ (fun e => ?_)), h5.setCell (p := ⟨g0, j, none⟩) (Nat.le_trans hZ hg0) _, by simpa [World.setCell] using h6⟩
    · rw [List.map_set]
      exact (h2.stored j (bv cn)).1
    · obtain ⟨es, cl, hm⟩ := h4.isMp
      rw [e, hk0] at hm
      cases hm

theorem LI.drew {w0 u : World} {Z n c : Nat} {A : Option Addr} {g m : Nat} {P : Nat → Prop} {ms : List Msg} {l : List UInt8} (h : LI w0 Z n c A g m P ms l u) : LI w0 Z n c A g m P ms l u.drew :=
  ⟨h.1, h.2.1, h.2.2.1.below (Below.refl _ _).drew, h.2.2.2.1.same rfl, h.2.2.2.2.1.drew, h.2.2.2.2.2⟩

set_option maxRecDepth 8000 in
set_option maxHeartbeats 3200000 in
theorem law_bagOwns (A : Option Addr) (n c : Nat) (l : List UInt8) (w : World) (hn : l.length = n) (hl : n ≤ 140737488355328) (hB : Bytes w A l) : Calls Try.prog 5 #[.slice A n c] w (Yes w) := by
  have HN := Lib.hid hn; clear hn
  have HC := Lib.hid hB; clear hB
  have tt := text_toList
  obtain ⟨i0, hi, hz0, hz1, hz2⟩ := info_parts info5
  go_enter Try.func5, Try.ntmps5
  go_wp2_with fail
  refine (new_any w (fun _ => False)).mono ?_
  rintro e w1 ⟨g, m, rfl, hm0, hbag, hmap, hb⟩
  have HP1 := Lib.hid (PMap.made hmap)
  have HBAG := Lib.hid hbag
  have HB1 := Lib.hid hb
  clear hbag hmap hb hm0
  go_wp2_with (at_builtin; go_must (refine wpList_append_bytes _ rfl _ _ 26 rfl w1.heap.size 5 i0 (.int .u8 0) Try.underlying26 hi hz0 hz1 hz2 rfl _ 0 [] rfl (own_empty _ 5 w1.heap.size w1.heap.size rfl (Nat.le_refl _)) _ _ _ l rfl HN.out ((HC.out.below HB1.out).alloc _) (by omega) (by simp) ?_))
  intro v2 w2 ho2 hg2
  have HG2 := Lib.hid (((Below.refl w1.heap.size w1).alloc (Nat.le_refl _) _).grown hg2 (by simp) (by simp [Value.ownBlock])); clear hg2
  have HO2 := Lib.hid ho2; clear ho2
  have ho2' : w2.ownsRow w1.heap.size 5 1 v2 n (l.map bv) := by simpa using HO2.out
  obtain ⟨A2, c2, rfl, _, hc2, hm2, hB2⟩ := bytes_of_own ho2'
  have HOW := Lib.hid ho2'
  have HBY2 := Lib.hid hB2
  obtain ⟨P, hPdef⟩ : ∃ P : Nat → Prop, P = fun k => (Value.slice A2 n c2).ownBlock ≠ some k := ⟨_, rfl⟩
  have HPD := Lib.hid hPdef
  have HPU : Hid (∀ b, w2.heap.size ≤ b → P b) := by
    intro b hb
    rw [hPdef]
    intro e
    have := (ho2'.lt b e).2
    omega
  clear hPdef ho2' hB2 HO2
  have HBAG2 : Hid (BagAt w2 w.heap.size P g m []) := (HBAG.out.below HG2.out).nil_
  have HP2 := Lib.hid (HP1.out.below HG2.out)
  have HSZ2 : Hid (w.heap.size ≤ w2.heap.size) := by show w.heap.size ≤ w2.heap.size; have := HB1.out.size; have := HG2.out.size; omega
  go_wp2_with fail
  refine (post_room w.heap.size P g m [] 1 2 A2 n c2 l w2 HBAG2.out (by simp) (small_i64 _ (by omega) (by omega)) (small_i64 _ (by omega) (by omega)) HN.out hl HBY2.out HPU.out HP2.out.isMp HSZ2.out).mono ?_
  rintro e w3 ⟨rfl, ht3⟩
  have HOW3 := Lib.hid (own5_beside HOW.out ht3.2.2.1 HP2.out.isMp)
  have HT3 := Lib.hid ht3; clear ht3
  have HP3 := Lib.hid (HP2.out.same HT3.out.2.2.2)
  go_wp2_with fail
  refine (twice_room w.heap.size P g m [(1, 2, l)] 0 w3 HT3.out.1 (by simp) (by simp) HP3.out.isMp (Nat.le_trans HSZ2.out HT3.out.size) (fun b hb => HPU.out b (Nat.le_trans HT3.out.size hb))).mono ?_
  rintro e w4 ⟨rfl, ht4⟩
  have HOW4 := Lib.hid (own5_beside HOW3.out ht4.2.2.1 HP3.out.isMp)
  have HT4 : Hid (Turned w2 w.heap.size P g m [(1, 2, l), (1, 2, l)] w4) := HT3.out.trans ht4
  clear ht4
  have HP4 := Lib.hid (HP2.out.same HT4.out.2.2.2)
  have HB4 : Hid (Below w.heap.size w w4) := (HB1.out.trans (HG2.out.mono HB1.out.size)).trans HT4.out.2.1
  go_wp2_with fail
  go_loopw [5] (fun y wr => ∃ (j : Nat) (l' : List UInt8), y = .int .i64 j ∧ j ≤ n ∧ l'.length = n ∧ wr.ownsRow w1.heap.size 5 1 (.slice A2 n c2) n (l'.map bv) ∧ BagAt wr w.heap.size P g m [(1, 2, l), (1, 2, l)] ∧ PMap wr m 0 (fun _ _ => false) ∧ Below w.heap.size w wr) (fun y _ => n - (intOf y).toNat)
  case atStart => exact ⟨0, l, rfl, Nat.zero_le _, HN.out, HOW4.out, HT4.out.1, HP4.out, HB4.out⟩
  case round =>
    obtain ⟨j, l', rfl, hj, hl', ho, hbag, hpm, hb⟩ := hrel
    have HLN := Lib.hid hl'; clear hl'
    have HO := Lib.hid ho; clear ho
    have HBG := Lib.hid hbag; clear hbag
    have HPM := Lib.hid hpm; clear hpm
    have HB := Lib.hid hb; clear hb
    by_cases hlt : j < n
    · obtain ⟨g0, cap0, hv0, hg0, _, _, _⟩ := own_form HO.out (by omega)
      injection hv0 with hA2 _ hcap
      subst hA2 hcap
      have htl : j < l'.length := by rw [HLN.out]; exact hlt
      have c1 : wr.cell? ⟨g0, j, none⟩ = some (bv l'[j]) := by
        rw [HO.out.cellAt j (by omega)]
        simp [List.getElem?_eq_getElem htl]
      unfold bv at c1
      have f1 : wr.frozen? ⟨g0, j, none⟩ = false := HO.out.frozenAt j
      have hcc := toNat_lt l'[j]
      have HST := HO.out.stored j (bv (l'[j] + 1))
      have e1 := inc_byte l'[j]
      generalize l'[j] = cc at *
      obtain ⟨cn, hcn⟩ : ∃ cn, cc + 1 = cn := ⟨_, rfl⟩
      rw [hcn] at e1 HST
      clear hcn
      have HST1 := Lib.hid HST.1
      have HST2 := Lib.hid HST.2
      clear HST
      have HK0 : Hid (∃ cs fr, wr.heap[g0]? = some (.cells cs 5 fr)) := own_row_kind HO.out g0 rfl
      have HNP : Hid (¬ P g0) := by show ¬ P g0; rw [HPD.out]; intro h; exact h rfl
      go_wp2_with fail
      go_roundw
      case rel =>
        obtain ⟨cs, fr, hk0⟩ := HK0.out
        refine ⟨j + 1, l'.set j cn, by go_num, by omega, by rw [List.length_set, HLN.out], ?_, HBG.out.poke hk0 HNP.out j _, HPM.out.same ?_, HB.out.setCell (p := ⟨g0, j, none⟩) (Nat.le_trans HB1.out.size hg0) _⟩
        · rw [List.map_set]; exact HST1.out
        · refine setCell_other _ (fun e => ?_)
          obtain ⟨es, cl, hm⟩ := HPM.out.isMp
          rw [e, hk0] at hm
          cases hm
      case measure => simp [intOf]; omega
    · have HNN : Hid (¬ j < n) := hlt
      clear hlt
      have HLK := Lib.hid (look_some w.heap.size (fun k => P k ∧ k < wr.heap.size) g m [(1, 2, l), (1, 2, l)] 0 wr HBG.out.restrict (by simp) (by simp))
      have HJL : Hid (j = n) := by show j = n; have := HNN.out; omega
      have hltf : ¬ (j : Int) < (n : Int) := by have := HNN.out; omega
      go_wp2_with fail
      refine HLK.out.mono ?_
      rintro e w5 ⟨v5, rfl, ho5, hb5⟩
      have ho5' : w5.ownsRow wr.heap.size 5 1 v5 n (l.map bv) := HN.out ▸ ho5
      obtain ⟨A5, c5, rfl, _, hc5, hm5, _⟩ := bytes_of_own ho5'
      obtain ⟨Z, hZ⟩ : ∃ Z, wr.heap.size = Z := ⟨_, rfl⟩
      obtain ⟨P2, hP2⟩ : ∃ P2 : Nat → Prop, (fun k => P k ∧ k < wr.heap.size) = P2 := ⟨_, rfl⟩
      have HL5 : Hid (LI w Z n c5 A5 g m P2 [(1, 2, l), (1, 2, l)] l w5) := by
        rw [← hZ, ← hP2]
        exact ⟨HN.out, ho5', HBG.out.restrict.below hb5, HPM.out.below hb5, HB.out.trans (hb5.mono HB.out.size), hb5.size⟩
      have HP2N : Hid (∀ b, Z ≤ b → ¬ P2 b) := by
        rw [← hZ, ← hP2]
        intro b hb h
        omega
      have HZ : Hid (w.heap.size ≤ Z) := by rw [← hZ]; exact HB.out.size
      clear hZ hP2
      clear ho5 ho5' hb5 hltf
      go_wp2_with fail
      go_loopw [10] (fun y wq => ∃ (j : Nat) (l' : List UInt8), y = .int .i64 j ∧ j ≤ n ∧ LI w Z n c5 A5 g m P2 [(1, 2, l), (1, 2, l)] l' wq) (fun y _ => n - (intOf y).toNat)
      case atStart => exact ⟨0, l, rfl, Nat.zero_le _, HL5.out⟩
      case round =>
        clear HLN HO HBG HPM HB HJL HNN HLK HL5
        obtain ⟨j2, l2, rfl, hj2, hli⟩ := hrel
        have HLI := Lib.hid hli; clear hli
        by_cases hlt : j2 < n
        · obtain ⟨g0, cc, hA5, hcc0, c1, f1, hset⟩ := HLI.out.at_ hlt HP2N.out HZ.out
          subst hA5
          have HST := Lib.hid hset; clear hset
          clear hcc0
          have hcc := toNat_lt cc
          have e1 := inc_byte cc
          obtain ⟨cn, hcn⟩ : ∃ cn, cc + 1 = cn := ⟨_, rfl⟩
          rw [hcn] at e1
          clear hcn
          go_wp2_with fail
          go_roundw
          case rel => exact ⟨j2 + 1, l2.set j2 cn, by go_num, by omega, HST.out cn⟩
          case measure => simp [intOf]; omega
        · have HNN : Hid (¬ j2 < n) := hlt
          clear hlt
          have hltf : ¬ (j2 : Int) < (n : Int) := by have := HNN.out; omega
          go_wp2_with fail
          refine (deliver_some w.heap.size P2 g m 0 (fun _ _ => false) [(1, 2, l), (1, 2, l)] 0 wr HLI.out.2.2.1 (by simp) (by simp) HLI.out.2.2.2.1 (Nat.le_trans HZ.out HLI.out.2.2.2.2.2)).mono ?_
          rintro e w6 ⟨⟨v6, rfl, ho6⟩, ht6⟩
          have ho6' : w6.ownsRow wr.heap.size 5 1 v6 n (l.map bv) := HN.out ▸ ho6
          obtain ⟨A6, c6, rfl, _, hc6, hm6, _⟩ := bytes_of_own ho6'
          have HL6 : Hid (LI w wr.heap.size n c6 A6 g m P2 [(1, 2, l)] l w6) := ⟨HN.out, ho6', ht6.1, HLI.out.2.2.2.1.same ht6.2.2.2, HLI.out.2.2.2.2.1.trans ht6.2.1, ht6.size⟩
          have HP3N : Hid (∀ b, wr.heap.size ≤ b → ¬ P2 b) := fun b hb => HP2N.out b (Nat.le_trans HLI.out.2.2.2.2.2 hb)
          have HZ6 : Hid (w.heap.size ≤ wr.heap.size) := Nat.le_trans HZ.out HLI.out.2.2.2.2.2
          clear ho6 ho6' ht6 hltf
          obtain ⟨Z3, hZ3⟩ : ∃ Z3, wr.heap.size = Z3 := ⟨_, rfl⟩
          rw [hZ3] at HL6 HP3N HZ6
          clear hZ3
          go_wp2_with fail
          go_loopw [15] (fun y wq => ∃ (j : Nat) (l' : List UInt8), y = .int .i64 j ∧ j ≤ n ∧ l'.drop j = l.drop j ∧ LI w Z3 n c6 A6 g m P2 [(1, 2, l)] l' wq) (fun y _ => n - (intOf y).toNat)
          case atStart => exact ⟨0, l, rfl, Nat.zero_le _, rfl, HL6.out⟩
          case round =>
            clear HLI HL6 HNN
            obtain ⟨j3, l3, rfl, hj3, hdr, hli⟩ := hrel
            have HLI := Lib.hid hli; clear hli
            have HDR := Lib.hid hdr; clear hdr
            by_cases hlt : j3 < n
            · obtain ⟨g0, cc, hA6, hcc0, c1, f1, hset⟩ := HLI.out.at_ hlt HP3N.out HZ6.out
              have hjl : j3 < l.length := by rw [HN.out]; exact hlt
              obtain ⟨bA, oA, hA, _, cA⟩ := (HC.out.below HLI.out.2.2.2.2.1).at_ hjl
              have hcc1 : l[j3] = cc := by
                have h0 := congrArg (fun t : List UInt8 => t[0]?) HDR.out
                simp only [List.getElem?_drop, Nat.add_zero, hcc0, List.getElem?_eq_getElem hjl] at h0
                injection h0 with h0
                exact h0.symm
              rw [hcc1] at cA
              unfold bv at cA
              clear hcc1 hjl
              have HHA := Lib.hid hA
              have HHA6 := Lib.hid hA6
              have HST := Lib.hid hset
              have HC0 := Lib.hid hcc0
              clear hcc0 hset
              subst hA6
              rw [hA]
              clear hA
              have hcc := toNat_lt cc
              have e1 := inc_byte cc
              obtain ⟨cn, hcn⟩ : ∃ cn, cc + 1 = cn := ⟨_, rfl⟩
              rw [hcn] at e1
              clear hcn
              go_wp2_with fail
              refine wp_region_flow [(0, true), (1, true), (2, true), (3, true), (4, true), (5, true), (6, true), (7, true), (8, true)] (fun u => Below wr.heap.size wr u) (by kernel_rfl) (by kernel_rfl) (fun _ _ _ _ _ h => h) ((Below.refl _ _).drew) ?_
              iterate 9 (refine flow_take (v := ?_) rfl (by rfl) ?_ ?_; rotate_left 1; (· intro u hu; have c1' := (hu.cell (p := ⟨g0, j3, none⟩) (World.block_lt_of_cell? wr _ c1)).trans c1; have cA' := (hu.cell (p := ⟨bA, oA + j3, none⟩) (World.block_lt_of_cell? wr _ cA)).trans cA; clear hu; go_simp; try with_reducible rfl); simp only [Act.put, List.getElem_toArray, List.getElem_cons_succ, List.getElem_cons_zero, List.setIfInBounds_toArray, List.set_cons_zero, List.set_cons_succ])
              refine flow_nil ?_
              go_wp2_with fail
              go_roundw
              case rel =>
                refine ⟨j3 + 1, l3.set j3 cn, by go_num, by omega, ?_, (HST.out cn).drew⟩
                rw [List.drop_set_of_lt (Nat.lt_succ_self _)]
                have h0 := congrArg (List.drop 1) HDR.out
                simpa [List.drop_drop] using h0
              case measure => simp [intOf]; omega
            · have HNN : Hid (¬ j3 < n) := hlt
              clear hlt
              have hltf : ¬ (j3 : Int) < (n : Int) := by have := HNN.out; omega
              go_wp2_with fail
              refine (deliver_some w.heap.size P2 g m 0 (fun _ _ => false) [(1, 2, l)] 0 wr HLI.out.2.2.1 (by simp) (by simp) HLI.out.2.2.2.1 (Nat.le_trans HZ6.out HLI.out.2.2.2.2.2)).mono ?_
              rintro e w7 ⟨⟨v7, rfl, ho7⟩, ht7⟩
              have ho7' : w7.ownsRow wr.heap.size 5 1 v7 n (l.map bv) := HN.out ▸ ho7
              obtain ⟨A7, c7, rfl, _, hc7, hm7, hB7⟩ := bytes_of_own ho7'
              have HB7 := Lib.hid (HLI.out.2.2.2.2.1.trans ht7.2.1)
              have t7 := text_at (c := c7) HN.out hB7 w7 (Below.refl _ _)
              have tA := text_at (c := c) HN.out (HC.out.below HB7.out) w7 (Below.refl _ _)
              clear ho7 ho7' ht7 hB7 hltf
              go_wp2_with fail
              refine (awake_any w7).mono ?_
              rintro e w8 ⟨rfl, hb8⟩
              have HB8 := Lib.hid (HB7.out.trans (hb8.mono HB7.out.size)); clear hb8
              go_wp2_with fail
              go_ret
              exact ⟨rfl, HB8.out⟩
end Go.Proofs.Ytjbcmepnlnfkjaa
