/-
  CONTRACT of frame.Next.
-/
import Derived.Test.YtpdbbiokndhghaaDoorFrmF
namespace Go.Proofs.YtpdbbiokndhghaaDoor
open Go Go.RowKit Go.Proofs

theorem results_tmp4 {fn : Func} {t u v x : Tmp} (h : fn.results = #[.tmp t, .tmp u, .tmp v, .tmp x]) (tmps : Array Value) (P : Program) (w : World) :
    (results fn tmps).run P w = .ok (.tuple #[tmps.getD t undef, tmps.getD u undef, tmps.getD v undef, tmps.getD x undef]) w := by
  simp [results, h]

theorem Bytes.mapAdd {w : World} {A : Option Addr} {l : List UInt8} (h : Bytes w A l) (k : Nat) : Bytes w (Option.map (fun x => x.add k) A) (l.drop k) := fun hl => by
  rw [List.length_drop] at hl
  obtain ⟨b, off, rfl, hb, hcell⟩ := h (by omega)
  refine ⟨b, off + k, ?_, hb, fun j hj => ?_⟩
  · simp only [Option.map_some, add_plain]
  · rw [List.length_drop] at hj
    rw [List.getElem_drop, ← hcell (k + j) (by omega)]
    congr 2
    omega

/-- what a reading of a frame hands back -/
def Nexts (w : World) (r : UInt8 × List UInt8 × Nat × Nat) (e : Ending) (w' : World) : Prop :=
  ∃ A m c, e = .returned (.tuple #[.int .u8 ((r.1.toNat : Nat) : Int), .slice A m c, .int .i64 ((r.2.2.1 : Nat) : Int), .int .i64 ((r.2.2.2 : Nat) : Int)]) ∧ r.2.1.length = m ∧ m ≤ c ∧ c ≤ maxLen ∧ Bytes w' A r.2.1 ∧ Below w.heap.size w w'

theorem nexts_bad {w w' : World} {r : UInt8 × List UInt8 × Nat × Nat} {k : Nat} (hr : r = (0, [], 0, k)) (hb : Below w.heap.size w w') {ki : Int} (hk : ki = k) :
    Nexts w r (.returned (.tuple #[.int .u8 0, .slice none 0 0, .int .i64 0, .int .i64 ki])) w' := by
  subst hr hk
  exact ⟨none, 0, 0, rfl, rfl, Nat.le_refl _, by decide, Bytes.none_ _ _, hb⟩

set_option maxRecDepth 8000 in
set_option maxHeartbeats 400000 in
theorem next_any (A : Option Addr) (n c : Nat) (l : List UInt8) (w : World) (hn : l.length = n) (hl : n ≤ 140737488355328) (hnc : n ≤ c) (hB : Bytes w A l) (hk : Known w) :
    Calls Tryd.prog 23 #[.slice A n c] w (Nexts w (Frm.nextS l)) := by
  subst hn
  have HK := Lib.hid hk; clear hk
  have HC := Lib.hid hB; clear hB
  have HS : Hid (Frm.nextS l = if (Frm.sizeS l).2.2 ≠ 0 then (0, [], 0, (Frm.sizeS l).2.2)
      else if l.length - (Frm.sizeS l).2.1 < (Frm.sizeS l).1 then (0, [], 0, 12)
      else Frm.bodyS ((l.drop (Frm.sizeS l).2.1).take (Frm.sizeS l).1) ((Frm.sizeS l).2.1 + (Frm.sizeS l).1)) := rfl
  have HSZ := Lib.hid (size_any A l.length c l w rfl hl HC.out)
  unfold SizeOut at HSZ
  have HOK := Lib.hid (@Frm.sizeS_ok l)
  obtain ⟨⟨z, k, er⟩, hz⟩ : ∃ z, Frm.sizeS l = z := ⟨_, rfl⟩
  rw [hz] at HS HSZ HOK
  by_cases her : er = 0
  · subst her
    obtain ⟨h1, h2, h3, h4, h5, h6⟩ := HOK.out rfl
    have h3' : k = Frm.fst l + 1 := h3
    have h5' : 5 ≤ z := h5
    have h6' : z ≤ 1048576 := h6
    clear h3 h4 h5 h6 hz HOK
    have hkl : k ≤ l.length := by omega
    have hk3 : k ≤ 3 := by omega
    clear h1 h2 h3'
    by_cases hsh : l.length - k < z
    · have HF : Hid (Frm.nextS l = (0, [], 0, 12)) := by show _ = _; rw [HS.out, if_neg (by simp), if_pos hsh]
      clear HS
      go_enter Tryd.func23, Tryd.ntmps23
      go_wp2_with fail
      refine HSZ.out.mono ?_
      rintro e w1 ⟨rfl, rfl⟩
      go_wp2_with fail
      refine bodyPost_ret (results_tmp4 rfl _ _ _) rfl ?_
      exact nexts_bad HF.out (Below.refl _ _) rfl
    · have HF : Hid (Frm.nextS l = Frm.bodyS ((l.drop k).take z) (k + z)) := by show _ = _; rw [HS.out, if_neg (by simp), if_neg hsh]
      clear HS
      have HD := ((HC.out.mapAdd k).take z)
      obtain ⟨A4, hA4⟩ : ∃ A4, Option.map (fun x => x.add k) A = A4 := ⟨_, rfl⟩
      rw [hA4] at HD
      have HD4 := Lib.hid HD; clear HD
      have hfl : ((l.drop k).take z).length = z := by simp; omega
      generalize hff : (l.drop k).take z = f at *
      clear hff
      go_enter Tryd.func23, Tryd.ntmps23
      go_wp2_with fail
      refine HSZ.out.mono ?_
      rintro e w1 ⟨rfl, rfl⟩
      go_wp2_with fail
      by_cases hse : sealed (f.drop 4) = f
      · have HF2 : Hid (Frm.nextS l = (f.getD 4 0, f.drop 5, k + z, 0)) := by show _ = _; rw [HF.out]; unfold Frm.bodyS; rw [if_pos hse]
        refine (open_yes A4 z _ f _ hfl (by omega) (by omega) (by omega) HD4.out HK.out hse).mono ?_
        clear hse
        rintro e w2 ⟨A5, m5, c5, rfl, hm5, hc5, hcm5, hB5, hb5⟩
        have hm5z : m5 = z - 4 := by rw [← hm5, List.length_drop, hfl]
        have hm51 : 0 < m5 := by omega
        have hm5l : m5 ≤ 1048576 := by omega
        have HB5 := Lib.hid hB5; clear hB5
        have HBL := Lib.hid hb5; clear hb5
        obtain ⟨b, off, rfl, hbb, hcell⟩ := HB5.out.at_ (k := 0) (by omega)
        have HG : Hid ((f.drop 4)[0] = f.getD 4 0) := by
          show _ = _
          rw [List.getElem_drop, List.getD_eq_getElem?_getD, List.getElem?_eq_getElem (by omega)]; rfl
        rw [HG.out] at hcell
        clear HG
        unfold bv at hcell
        rw [Nat.add_zero] at hcell
        have hm51i : (1 : Int) ≤ m5 := by omega
        have HB6 := Lib.hid (HB5.out.dropped 1 m5 (by omega))
        simp only [Option.map_some, List.drop_drop, Nat.reduceAdd] at HB6
        obtain ⟨A6, hA6⟩ : ∃ A6, (if m5 = 1 then some (⟨b, off, none⟩ : Addr) else some ⟨b, off + 1, none⟩) = A6 := ⟨_, rfl⟩
        rw [hA6] at HB6
        have hkz : k + z ≤ l.length := by omega
        have HZ := Lib.hid hm5z; clear hm5z
        have HM5 := Lib.hid hm5; clear hm5
        go_wp2_with fail
        refine wp_region_flow [(0, true), (1, true), (2, true), (3, true), (4, true), (5, true), (6, true), (7, true), (8, true), (9, true), (10, true), (11, true), (12, true), (13, true), (14, true), (15, true)] (fun u => Below w2.heap.size w2 u) (by kernel_rfl) (by kernel_rfl) (fun _ _ _ _ _ h => h) ((Below.refl _ _).drew) ?_
        iterate 16 (refine flow_take (v := ?_) rfl (by rfl) ?_ ?_; rotate_left 1; (· intro u hu; have hcell' := (hu.cell hbb).trans hcell; clear hu; go_simp; try with_reducible rfl); simp only [Act.put, List.getElem_toArray, List.getElem_cons_succ, List.getElem_cons_zero, List.setIfInBounds_toArray, List.set_cons_zero, List.set_cons_succ])
        refine flow_nil ?_
        go_wp2_with fail
        refine bodyPost_ret (results_tmp4 rfl _ _ _) rfl ?_
        rw [HF2.out]
        have hz' := HZ.out
        exact ⟨A6, m5 - 1, m5 - 1, by simp; exact IntWalk.i64_in _ (by omega), by simp; omega, Nat.le_refl _, by omega, HB6.out.drew, HBL.out.drew⟩
      · have HF2 : Hid (Frm.nextS l = (0, [], 0, 5)) := by show _ = _; rw [HF.out]; unfold Frm.bodyS; rw [if_neg hse]
        refine (open_no A4 z _ f _ hfl (by omega) (by omega) (by omega) HD4.out HK.out hse).mono ?_
        clear hse
        rintro e w2 ⟨rfl, hb2⟩
        have HB2 := Lib.hid hb2; clear hb2
        go_wp2_with fail
        refine bodyPost_ret (results_tmp4 rfl _ _ _) rfl ?_
        exact nexts_bad HF2.out HB2.out rfl
  · have HF : Hid (Frm.nextS l = (0, [], 0, er)) := by show _ = _; rw [HS.out, if_pos her]
    clear HS HOK hz
    go_enter Tryd.func23, Tryd.ntmps23
    go_wp2_with fail
    refine HSZ.out.mono ?_
    rintro e w1 ⟨rfl, rfl⟩
    go_wp2_with fail
    refine bodyPost_ret (results_tmp4 rfl _ _ _) rfl ?_
    exact nexts_bad HF.out (Below.refl _ _) rfl
end Go.Proofs.YtpdbbiokndhghaaDoor
