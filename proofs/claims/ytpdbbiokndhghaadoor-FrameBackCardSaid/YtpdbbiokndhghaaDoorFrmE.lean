/-
  CONTRACTS of the reference's Reader and its ReadUvarint, 'value', 'open'.
-/
import Derived.Test.YtpdbbiokndhghaaDoorFrmD
namespace Go.Proofs.YtpdbbiokndhghaaDoor
open Go Go.RowKit Go.Proofs

/-- a Reader stands at r: its bytes, how many are read, the error -/
def Rdr (w : World) (r : Nat) (A : Option Addr) (n c : Nat) (k bad : Int) : Prop :=
  w.heap[r]? = some (.cells #[.slice A n c, .int .i64 k, .int .i64 bad] 67)
theorem Rdr.lt {w : World} {r : Nat} {A : Option Addr} {n c : Nat} {k bad : Int} (h : Rdr w r A n c k bad) : r < w.heap.size := (Array.getElem?_eq_some_iff.1 h).1
theorem Rdr.c0 {w : World} {r : Nat} {A : Option Addr} {n c : Nat} {k bad : Int} (h : Rdr w r A n c k bad) : w.cell? ⟨r, 0, none⟩ = some (.slice A n c) := by
  unfold World.cell?; simp [show w.heap[r]? = _ from h]
theorem Rdr.c1 {w : World} {r : Nat} {A : Option Addr} {n c : Nat} {k bad : Int} (h : Rdr w r A n c k bad) : w.cell? ⟨r, 1, none⟩ = some (.int .i64 k) := by
  unfold World.cell?; simp [show w.heap[r]? = _ from h]
theorem Rdr.c2 {w : World} {r : Nat} {A : Option Addr} {n c : Nat} {k bad : Int} (h : Rdr w r A n c k bad) : w.cell? ⟨r, 2, none⟩ = some (.int .i64 bad) := by
  unfold World.cell?; simp [show w.heap[r]? = _ from h]
theorem Rdr.fz {w : World} {r : Nat} {A : Option Addr} {n c : Nat} {k bad : Int} (h : Rdr w r A n c k bad) (i : Nat) : w.frozen? ⟨r, i, none⟩ = false := by
  unfold World.frozen?; simp [show w.heap[r]? = _ from h]
theorem Rdr.set1 {w : World} {r : Nat} {A : Option Addr} {n c : Nat} {k bad : Int} (h : Rdr w r A n c k bad) (k' : Int) : Rdr (w.setCell ⟨r, 1, none⟩ (.int .i64 k')) r A n c k' bad := by
  have h' : w.heap[r]? = _ := h
  show (w.heap.modify _ _)[r]? = _
  rw [Array.getElem?_modify, if_pos rfl, h']
  rfl
theorem Rdr.set2 {w : World} {r : Nat} {A : Option Addr} {n c : Nat} {k bad : Int} (h : Rdr w r A n c k bad) (k' : Int) : Rdr (w.setCell ⟨r, 2, none⟩ (.int .i64 k')) r A n c k k' := by
  have h' : w.heap[r]? = _ := h
  show (w.heap.modify _ _)[r]? = _
  rw [Array.getElem?_modify, if_pos rfl, h']
  rfl
theorem Rdr.below {w u : World} {r : Nat} {A : Option Addr} {n c : Nat} {k bad : Int} (h : Rdr w r A n c k bad) (hu : Below w.heap.size w u) : Rdr u r A n c k bad := (hu.block r h.lt).trans h

set_option maxHeartbeats 400000 in
theorem next_end (r : Nat) (A : Option Addr) (n c : Nat) (k : Int) (w : World) (hR : Rdr w r A n c k 0) (hk : k = n) :
    Calls Tryd.prog 37 #[.pointer (some ⟨r, 0, none⟩)] w fun e w' => e = .returned (.tuple #[.int .u8 0, .bool false]) ∧ Below w.heap.size w w' := by
  subst hk
  have c0 := hR.c0
  have c1 := hR.c1
  have c2 := hR.c2
  have HR := Lib.hid hR; clear hR
  go_enter Tryd.func37, Tryd.ntmps37
  go_wp2_with fail
  refine wp_region_flow [(0, true), (1, true), (2, true), (3, true), (4, true), (5, true), (6, true), (7, true), (8, true), (9, true), (10, true), (11, true), (12, true), (13, true), (14, true), (15, true), (16, true)] (fun u => Below w.heap.size w u) (by kernel_rfl) (by kernel_rfl) (fun _ _ _ _ _ h => h) ((Below.refl _ _).drew) ?_
  iterate 17 (refine flow_take (v := ?_) rfl (by rfl) ?_ ?_; rotate_left 1; (· intro u hu; have c0' := (hu.cell (p := ⟨r, 0, none⟩) HR.out.lt).trans c0; have c1' := (hu.cell (p := ⟨r, 1, none⟩) HR.out.lt).trans c1; have c2' := (hu.cell (p := ⟨r, 2, none⟩) HR.out.lt).trans c2; clear hu; go_simp; try with_reducible rfl); simp only [Act.put, List.getElem_toArray, List.getElem_cons_succ, List.getElem_cons_zero, List.setIfInBounds_toArray, List.set_cons_zero, List.set_cons_succ])
  refine flow_nil ?_
  clear c0 c1 c2
  go_wp2
  go_ret2
  exact ⟨rfl, (Below.refl _ _).drew⟩


set_option maxHeartbeats 400000 in
theorem next_byte (r : Nat) (A : Option Addr) (n c : Nat) (l : List UInt8) (k : Nat) (ki : Int) (w0 w : World) (hki : ki = k) (hn : l.length = n) (hB : Bytes w0 A l) (h0 : Below r w0 w) (hr : w0.heap.size ≤ r) (hR : Rdr w r A n c ki 0) (hl : n ≤ 140737488355328) (hk : k < l.length) :
    Calls Tryd.prog 37 #[.pointer (some ⟨r, 0, none⟩)] w fun e w' => e = .returned (.tuple #[.int .u8 ((l[k].toNat : Nat) : Int), .bool true]) ∧ Rdr w' r A n c (((k + 1 : Nat) : Nat) : Int) 0 ∧ Below r w0 w' := by
  subst hki hn
  have c0 := hR.c0
  have c1 := hR.c1
  have c2 := hR.c2
  have HR := Lib.hid hR; clear hR
  have HC := Lib.hid hB; clear hB
  have H0 := Lib.hid h0; clear h0
  go_enter Tryd.func37, Tryd.ntmps37
  go_wp2_with fail
  refine wp_region_flow [(0, true), (1, true), (2, true), (3, true), (4, true), (5, true), (6, true), (7, true), (8, true), (9, true), (10, true), (11, true), (12, true), (13, true), (14, true), (15, true), (16, true)] (fun u => Below w.heap.size w u) (by kernel_rfl) (by kernel_rfl) (fun _ _ _ _ _ h => h) ((Below.refl _ _).drew) ?_
  iterate 17 (refine flow_take (v := ?_) rfl (by rfl) ?_ ?_; rotate_left 1; (· intro u hu; have c0' := (hu.cell (p := ⟨r, 0, none⟩) HR.out.lt).trans c0; have c1' := (hu.cell (p := ⟨r, 1, none⟩) HR.out.lt).trans c1; have c2' := (hu.cell (p := ⟨r, 2, none⟩) HR.out.lt).trans c2; clear hu; go_simp; try with_reducible rfl); simp only [Act.put, List.getElem_toArray, List.getElem_cons_succ, List.getElem_cons_zero, List.setIfInBounds_toArray, List.set_cons_zero, List.set_cons_succ])
  refine flow_nil ?_
  clear c0 c1 c2
  have HR1 : Hid (Rdr w.drew r A l.length c (k : Int) 0) := HR.out
  have hB1 : Hid (Below r w0 w.drew) := H0.out.drew
  have c0 := HR1.out.c0
  have c1 := HR1.out.c1
  have c2 := HR1.out.c2
  have f1 := HR1.out.fz 1
  generalize w.drew = w1 at *
  go_wp2_with fail
  have HR2 := Lib.hid (HR1.out.set1 ((k : Int) + 1))
  have hB2 := Lib.hid (hB1.out.setCell (p := ⟨r, 1, none⟩) (Nat.le_refl _) (.int .i64 ((k : Int) + 1)))
  generalize w1.setCell ⟨r, 1, none⟩ (.int .i64 ((k : Int) + 1)) = w2 at *
  have HC2 := Lib.hid (HC.out.below (hB2.out.mono hr))
  clear c0 c1 c2
  have c0 := HR2.out.c0
  have c1 := HR2.out.c1
  obtain ⟨b, off, rfl, hbb, hcell⟩ := HC2.out.at_ hk
  unfold bv at hcell
  have ew : IntKind.i64.wrap (k : Int) = k := IntKind.wrap_i64_small k (by omega)
  have ew1 : ((k : Int) + 1) - 1 = k := by omega
  have hk1 : (0 : Int) ≤ k := by omega
  have hk2 : (k : Int) < l.length := by omega
  obtain ⟨cc, hcc⟩ : ∃ cc, l[k] = cc := ⟨_, rfl⟩
  rw [hcc] at hcell
  refine wp_region_flow [(0, true), (1, true), (2, true), (3, true), (4, true), (5, true), (6, true), (7, true), (8, true), (9, true), (10, true), (11, true), (12, true)] (fun u => Below w2.heap.size w2 u) (by kernel_rfl) (by kernel_rfl) (fun _ _ _ _ _ h => h) ((Below.refl _ _).drew) ?_
  iterate 13 (refine flow_take (v := ?_) rfl (by rfl) ?_ ?_; rotate_left 1; (· intro u hu; have c0' := (hu.cell (p := ⟨r, 0, none⟩) HR2.out.lt).trans c0; have c1' := (hu.cell (p := ⟨r, 1, none⟩) HR2.out.lt).trans c1; have hcell' := (hu.cell hbb).trans hcell; have hk3 : (k : Int) < l.length := hk2; clear hu; go_simp; try with_reducible rfl); simp only [Act.put, List.getElem_toArray, List.getElem_cons_succ, List.getElem_cons_zero, List.setIfInBounds_toArray, List.set_cons_zero, List.set_cons_succ])
  refine flow_nil ?_
  go_wp2_with fail
  go_ret2
  rw [hcc]
  exact ⟨rfl, HR2.out.below (Below.refl _ _).drew, hB2.out.drew⟩

set_option maxHeartbeats 400000 in
theorem wrong_any (r : Nat) (A : Option Addr) (n c : Nat) (k bad z at_ : Int) (w0 w : World) (h0 : Below r w0 w) (hR : Rdr w r A n c k bad) :
    Calls Tryd.prog 38 #[.pointer (some ⟨r, 0, none⟩), .int .i64 z, .int .i64 at_] w fun e w' => (∃ v, e = .returned v) ∧ Below r w0 w' := by
  have c2 := hR.c2
  have c1 := hR.c1
  have f1 := hR.fz 1
  have f2 := hR.fz 2
  have HR := Lib.hid hR; clear hR
  have H0 := Lib.hid h0; clear h0
  by_cases hb : bad = 0
  · subst hb
    go_enter Tryd.func38, Tryd.ntmps38
    go_wp2_with fail
    (try simp only [Exit.inBlock, Exit.then]); refine bodyPost_end (results_none rfl _ _ _) rfl ?_
    exact ⟨⟨_, rfl⟩, (H0.out.setCell (p := ⟨r, 2, none⟩) (Nat.le_refl _) _).setCell (p := ⟨r, 1, none⟩) (Nat.le_refl _) _⟩
  · go_enter Tryd.func38, Tryd.ntmps38
    go_wp2_with fail
    (try simp only [Exit.inBlock, Exit.then]); refine bodyPost_end (results_none rfl _ _ _) rfl ?_
    exact ⟨⟨_, rfl⟩, H0.out⟩

theorem read_step (l : List UInt8) (i acc : Nat) (h10 : i < 10) (hlt : i < l.length) (c : UInt8) (hc : l[i] = c) :
    Frm.readF (10 - i) i acc (l.drop i) = if i = 9 ∧ 1 < c.toNat % 128 then 0
      else if c.toNat < 128 then (if c.toNat = 0 ∧ 0 < i then 0 else acc + c.toNat % 128 * 128 ^ i)
      else Frm.readF (10 - (i + 1)) (i + 1) (acc + c.toNat % 128 * 128 ^ i) (l.drop (i + 1)) := by
  subst hc
  rw [List.drop_eq_getElem_cons hlt]
  obtain ⟨f, hf⟩ : ∃ f, 10 - i = f + 1 := ⟨9 - i, by omega⟩
  have hf2 : 10 - (i + 1) = f := by omega
  rw [hf, hf2]
  rfl
theorem read_gone (l : List UInt8) (i acc : Nat) (hlt : i = l.length) : Frm.readF (10 - i) i acc (l.drop i) = 0 := by
  rw [List.drop_eq_nil_of_le (by omega)]
  cases 10 - i <;> rfl
theorem pow128 (i : Nat) : (2 : Int) ^ (7 * i) = ((128 ^ i : Nat) : Int) := by
  rw [show (128 : Nat) = 2 ^ 7 from rfl, ← Nat.pow_mul]
  push_cast
  rfl
theorem orI (acc c i : Nat) (hacc : acc < 128 ^ i) (hi : i ≤ 8) : bits .or .u64 (acc : Int) (IntKind.u64.wrap ((c : Int) % 128 * 2 ^ (7 * i))) = ((acc + c % 128 * 128 ^ i : Nat) : Int) := by
  have hp : 128 ^ i ≤ 128 ^ 8 := Nat.pow_le_pow_right (by omega) hi
  have hm : c % 128 * 128 ^ i ≤ 127 * 128 ^ 8 := Nat.mul_le_mul (by omega) hp
  rw [pow128, show (c : Int) % 128 * ((128 ^ i : Nat) : Int) = ((c % 128 * 128 ^ i : Nat) : Int) from by push_cast; rfl, IntWalk.u64_in _ (by omega), u64_or_nat _ _ (by omega) (by omega)]
  have h2 : (128 : Nat) ^ i = 2 ^ (7 * i) := by rw [show (128 : Nat) = 2 ^ 7 from rfl, ← Nat.pow_mul]
  rw [h2] at hacc ⊢
  rw [Nat.mul_comm (c % 128), or_add _ _ _ hacc]
theorem or9 (acc c : Nat) (hacc : acc < 128 ^ 9) (hc : c % 128 ≤ 1) : bits .or .u64 (acc : Int) ((c : Int) % 128 * 9223372036854775808) = ((acc + c % 128 * 128 ^ 9 : Nat) : Int) := by
  rw [show (c : Int) % 128 * 9223372036854775808 = ((c % 128 * 128 ^ 9 : Nat) : Int) from by omega, u64_or_nat _ _ (by omega) (by omega)]
  have h2 : (128 : Nat) ^ 9 = 2 ^ 63 := by decide
  rw [h2] at hacc ⊢
  rw [Nat.mul_comm (c % 128), or_add _ _ _ hacc]
theorem acc_lt (acc c i : Nat) (hacc : acc < 128 ^ i) : acc + c % 128 * 128 ^ i < 128 ^ (i + 1) := by
  have : c % 128 * 128 ^ i ≤ 127 * 128 ^ i := Nat.mul_le_mul_right _ (by omega)
  rw [Nat.pow_succ]
  omega

set_option maxRecDepth 8000 in
set_option maxHeartbeats 800000 in
theorem read_any (r : Nat) (A : Option Addr) (n c : Nat) (l : List UInt8) (ki : Int) (w0 w : World) (hki : ki = 0) (hn : l.length = n) (hB : Bytes w0 A l) (h0 : Below r w0 w) (hr : w0.heap.size ≤ r) (hR : Rdr w r A n c ki 0) (hl : n ≤ 140737488355328) :
    Calls Tryd.prog 36 #[.pointer (some ⟨r, 0, none⟩)] w fun e w' => e = .returned (.int .u64 ((Frm.readS l : Nat) : Int)) ∧ Below r w0 w' := by
  subst hki hn
  have c1 := hR.c1
  have HR := Lib.hid hR; clear hR
  have HC := Lib.hid hB; clear hB
  have H0 := Lib.hid h0; clear h0
  have HRR := Lib.hid hr; clear hr
  go_enter Tryd.func36, Tryd.ntmps36
  go_wp2_with fail
  clear c1
  go_loopw [4, 5] (fun v x wr => ∃ (i acc : Nat), x = .int .i64 i ∧ v = .int .u64 acc ∧ i ≤ 10 ∧ i ≤ l.length ∧ acc < 128 ^ i ∧ (i = 10 → acc < 18446744073709551616) ∧ Frm.readS l = Frm.readF (10 - i) i acc (l.drop i) ∧ Rdr wr r A l.length c (i : Int) 0 ∧ Below r w0 wr) (fun _ x _ => 10 - (intOf x).toNat)
  case atStart => exact ⟨0, 0, rfl, rfl, by omega, Nat.zero_le _, by omega, by omega, rfl, HR.out, H0.out⟩
  case round =>
    obtain ⟨i, acc, rfl, rfl, hi10, hil, hacc, hacc2, hread, hrd, hbl⟩ := hrel
    have HRD := Lib.hid hrd; clear hrd
    have HBL := Lib.hid hbl; clear hbl
    have HREAD := Lib.hid hread; clear hread
    have HA := Lib.hid hacc; clear hacc
    have HA2 := Lib.hid hacc2; clear hacc2
    by_cases h10 : i = 10
    · subst h10
      go_wp2_with fail
      refine (wrong_any r A l.length c _ _ _ _ w0 _ HBL.out HRD.out).mono ?_
      rintro e w1 ⟨⟨v, rfl⟩, hb1⟩
      have HB1 := Lib.hid hb1; clear hb1
      go_wp2_with fail
      go_ret
      exact ⟨by rw [HREAD.out]; rfl, HB1.out⟩
    · by_cases hend : i = l.length
      · go_wp2_with fail
        refine (next_end r A l.length c _ _ HRD.out (by omega)).mono ?_
        rintro e w1 ⟨rfl, hb1⟩
        have HB1 := Lib.hid (HBL.out.trans (hb1.mono (Nat.le_of_lt HRD.out.lt)))
        have HR1 := Lib.hid (HRD.out.below hb1); clear hb1
        have H0F := Lib.hid (read_gone l i acc hend)
        clear hend
        go_wp2_with fail
        refine (wrong_any r A l.length c _ _ _ _ w0 _ HB1.out HR1.out).mono ?_
        rintro e w2 ⟨⟨v, rfl⟩, hb2⟩
        have HB2 := Lib.hid hb2; clear hb2
        go_wp2_with fail
        go_ret
        exact ⟨by rw [HREAD.out, H0F.out]; rfl, HB2.out⟩
      · have hlt : i < l.length := by omega
        obtain ⟨cc, hcc⟩ : ∃ cc, l[i] = cc := ⟨_, rfl⟩
        have HSTEP := Lib.hid (read_step l i acc (by omega) hlt cc hcc)
        have hcb : cc.toNat < 256 := Crc.toNat_lt _
        have HWR := Lib.hid (fun (w1 : World) (hr1 : Rdr w1 r A l.length c (((i + 1 : Nat) : Nat) : Int) 0) (hb1 : Below r w0 w1) => wrong_any r A l.length c (((i + 1 : Nat) : Nat) : Int) 0 5 0 w0 w1 hb1 hr1)
        have HNX := Lib.hid (next_byte r A l.length c l i (i : Int) w0 wr rfl rfl HC.out HBL.out HRR.out HRD.out hl hlt)
        rw [hcc] at HNX
        clear hcc
        by_cases h9 : i = 9 ∧ 1 < cc.toNat % 128
        · have H0F : Hid (Frm.readS l = 0) := by show _ = _; rw [HREAD.out, HSTEP.out, if_pos h9]
          obtain ⟨h9a, h9b⟩ := h9
          subst h9a
          go_wp2_with fail
          refine HNX.out.mono ?_
          rintro e w1 ⟨rfl, hr1, hb1⟩
          have HB1 := Lib.hid hb1; clear hb1
          have HR1 := Lib.hid hr1; clear hr1
          go_wp2_with fail
          refine (HWR.out _ HR1.out HB1.out).mono ?_
          rintro e w2 ⟨⟨v, rfl⟩, hb2⟩
          have HB2 := Lib.hid hb2; clear hb2
          go_wp2_with fail
          go_ret
          exact ⟨by rw [H0F.out]; rfl, HB2.out⟩
        · by_cases hhigh : 128 ≤ cc.toNat
          · have HF : Hid (Frm.readS l = Frm.readF (10 - (i + 1)) (i + 1) (acc + cc.toNat % 128 * 128 ^ i) (l.drop (i + 1))) := by
              show _ = _; rw [HREAD.out, HSTEP.out, if_neg h9, if_neg (by omega)]
            by_cases h9a : i = 9
            · subst h9a
              have h9b : cc.toNat % 128 ≤ 1 := by omega
              go_wp2_with fail
              refine HNX.out.mono ?_
              rintro e w1 ⟨rfl, hr1, hb1⟩
              have HB1 := Lib.hid hb1; clear hb1
              have HR1 := Lib.hid hr1; clear hr1
              go_wp2_with fail
              go_roundw
              case rel => exact ⟨10, _, rfl, by rw [or9 _ _ HA.out h9b], by omega, by omega, acc_lt _ _ _ HA.out, fun _ => by have := HA.out; omega, HF.out, HR1.out, HB1.out⟩
              case measure => simp [intOf]
            · go_wp2_with fail
              refine HNX.out.mono ?_
              rintro e w1 ⟨rfl, hr1, hb1⟩
              have HB1 := Lib.hid hb1; clear hb1
              have HR1 := Lib.hid hr1; clear hr1
              go_wp2_with fail
              go_roundw
              case rel => exact ⟨i + 1, _, by go_num, by rw [orI _ _ _ HA.out (by omega)], by omega, by omega, acc_lt _ _ _ HA.out, fun h => absurd h (by omega), HF.out, HR1.out, HB1.out⟩
              case measure => simp [intOf]; omega
          · by_cases hz : cc.toNat = 0 ∧ 0 < i
            · have H0F : Hid (Frm.readS l = 0) := by show _ = _; rw [HREAD.out, HSTEP.out, if_neg h9, if_pos (by omega), if_pos hz]
              obtain ⟨hz1, hz2⟩ := hz
              rw [hz1] at HNX
              have hki : ((i : Int) == 0) = false := by rw [beq_eq_false_iff_ne]; omega
              have hkp : 0 < (i : Int) := by omega
              clear h9 hhigh hcb
              go_wp2_with fail
              refine HNX.out.mono ?_
              rintro e w1 ⟨rfl, hr1, hb1⟩
              have HB1 := Lib.hid hb1; clear hb1
              have HR1 := Lib.hid hr1; clear hr1
              go_wp2_with fail
              all_goals refine (HWR.out _ HR1.out HB1.out).mono ?_
              all_goals rintro e w2 ⟨⟨v, rfl⟩, hb2⟩
              all_goals have HB2 := Lib.hid hb2
              all_goals clear hb2
              all_goals go_wp2_with fail
              all_goals go_ret
              all_goals exact ⟨by rw [H0F.out]; rfl, HB2.out⟩
            · have HF : Hid (Frm.readS l = acc + cc.toNat % 128 * 128 ^ i) := by show _ = _; rw [HREAD.out, HSTEP.out, if_neg h9, if_pos (by omega), if_neg hz]
              by_cases h9a : i = 9
              · subst h9a
                have h9b : cc.toNat % 128 ≤ 1 := by omega
                have hz0 : ¬ cc.toNat = 0 := by omega
                go_wp2_with fail
                refine HNX.out.mono ?_
                rintro e w1 ⟨rfl, hr1, hb1⟩
                have HB1 := Lib.hid hb1; clear hb1
                have HR1 := Lib.hid hr1; clear hr1
                go_wp2_with fail
                go_ret
                exact ⟨ret_int (by rw [or9 _ _ HA.out h9b, HF.out]), HB1.out⟩
              · go_wp2_with fail
                refine HNX.out.mono ?_
                rintro e w1 ⟨rfl, hr1, hb1⟩
                have HB1 := Lib.hid hb1; clear hb1
                have HR1 := Lib.hid hr1; clear hr1
                go_wp2_with fail
                all_goals go_ret
                · have hi0 : i = 0 := by omega
                  subst hi0
                  have ha0 : acc = 0 := by have := HA.out; omega
                  subst ha0
                  exact ⟨ret_int (by rw [HF.out, show cc.toNat = 0 by assumption]; decide), HB1.out⟩
                · exact ⟨ret_int (by rw [orI _ _ _ HA.out (by omega), HF.out]), HB1.out⟩
end Go.Proofs.YtpdbbiokndhghaaDoor
