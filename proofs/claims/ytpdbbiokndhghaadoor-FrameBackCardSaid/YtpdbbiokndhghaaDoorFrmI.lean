/-
  CONTRACTS once more, with where the new bytes lie: in blocks that were not there (slices.Clone, crc.Open, frame.Next).
-/
import Derived.Test.YtpdbbiokndhghaaDoorFrmG
namespace Go.Proofs.YtpdbbiokndhghaaDoor
open Go Go.RowKit Go.Proofs

/-- the bytes, if any, lie in blocks from B on -/
def Fresh (B : Nat) (A : Option Addr) (l : List UInt8) : Prop := 0 < l.length → ∀ a, A = some a → B ≤ a.block
theorem Fresh.none_ (B : Nat) (A : Option Addr) : Fresh B A [] := fun h => absurd h (by simp)
theorem Fresh.mono {B B' : Nat} {A : Option Addr} {l : List UInt8} (h : Fresh B A l) (hb : B' ≤ B) : Fresh B' A l := fun hl a ha => Nat.le_trans hb (h hl a ha)
theorem own_fresh {w : World} {base : Nat} {e : TypeId} {A : Option Addr} {n m c : Nat} {xs : List Value} {l : List UInt8} (h : w.ownsRow base e 1 (.slice A m c) n xs) : Fresh base A l := fun _ a ha =>
  (h.lt a.block (by rw [ha]; rfl)).1

def MadeF (w : World) (l : List UInt8) (e : Ending) (w' : World) : Prop :=
  ∃ A n c, e = .returned (.slice A n c) ∧ l.length = n ∧ n ≤ c ∧ c ≤ maxLen ∧ Bytes w' A l ∧ Fresh w.heap.size A l ∧ Below w.heap.size w w'
theorem madeF_of {w w1 : World} {e : TypeId} {v : Value} {n : Nat} {l : List UInt8} (h : w1.ownsRow w.heap.size e 1 v n (l.map bv)) (hb : Below w.heap.size w w1) : MadeF w l (.returned v) w1 := by
  obtain ⟨A, c, rfl, rfl, h2, h3, h4⟩ := bytes_of_own h
  exact ⟨A, _, c, rfl, rfl, h2, h3, h4, own_fresh h, hb⟩

set_option maxHeartbeats 400000 in
/-- slices.Clone -/
theorem clone_fresh (A : Option Addr) (n c : Nat) (l : List UInt8) (w : World) (hn : l.length = n) (hl : n ≤ 140737488355328) (hB : Bytes w A l) :
    Calls Tryd.prog 29 #[.slice A n c] w (MadeF w l) := by
  obtain ⟨i0, hi, hz0, hz1, hz2⟩ := info_parts info5
  rcases A with _ | a
  · have he : l = [] := by
      rcases Nat.eq_zero_or_pos l.length with h0 | h0
      · exact List.eq_nil_of_length_eq_zero h0
      · obtain ⟨_, _, e, _⟩ := hB h0; cases e
    subst he
    have hn0 : n = 0 := by simpa using hn.symm
    subst hn0
    clear hn hB
    have qN := fun W => Lib.run_eql_slice_nil W 22 5 none 0 c 0 0 Tryd.underlying22
    go_enter Tryd.func29, Tryd.ntmps29
    go_wp2
    go_ret
    exact ⟨none, 0, 0, rfl, rfl, Nat.le_refl _, by decide, Bytes.none_ _ _, Fresh.none_ _ _, Below.refl _ _⟩
  · subst hn
    have qN := fun W => Lib.run_eql_slice_nil W 22 5 (some a) l.length c 0 0 Tryd.underlying22
    have HC := Lib.hid hB; clear hB
    go_enter Tryd.func29, Tryd.ntmps29
    go_wp2_with (at_builtin; refine wpList_append_bytes _ rfl _ _ 22 rfl w.heap.size 5 i0 (.int .u8 0) Tryd.underlying22 hi hz0 hz1 hz2 rfl _ 0 [] rfl (own_lit _ [] 5 _ (Nat.le_refl _) (by decide)) _ _ _ l rfl rfl (HC.out.alloc _) (by omega) (by simp) ?_)
    intro v1 w1 hown hg
    have HO := Lib.hid hown; clear hown
    have HG := Lib.hid (((Below.refl w.heap.size w).alloc (Nat.le_refl _) _).grown hg (by simp) (by simp [Value.ownBlock])); clear hg
    go_wp2
    go_ret
    exact madeF_of (by simpa using HO.out) HG.out

set_option maxHeartbeats 400000 in
theorem open_fresh (A : Option Addr) (n c : Nat) (l : List UInt8) (w : World) (hn : l.length = n) (h4 : 4 ≤ n) (hl : n ≤ 140737488355328) (hnc : n ≤ c) (hB : Bytes w A l) (hk : Known w)
    (he : sealed (l.drop 4) = l) :
    Calls Tryd.prog 18 #[.slice A n c] w fun e w' => ∃ A' m c', e = .returned (.tuple #[.slice A' m c', .bool true]) ∧ (l.drop 4).length = m ∧ m ≤ c' ∧ c' ≤ maxLen ∧ Bytes w' A' (l.drop 4) ∧ Fresh w.heap.size A' (l.drop 4) ∧ Below w.heap.size w w' := by
  have hd : decide ((n : Int) < 4) = false := by simp; omega
  have h4i : (4 : Int) ≤ (n : Int) := by omega
  have HK := Lib.hid hk; clear hk
  have HC := Lib.hid hB; clear hB
  have tt := text_toList
  have hne : (sealed (l.drop 4) == l) = true := by rw [beq_iff_eq]; exact he
  clear he
  have HN := Lib.hid hn; clear hn
  have HD := HC.out.dropped 4 c (by have := HN.out; omega)
  obtain ⟨A4, hA4⟩ : ∃ A4, (if c = 4 then A else Option.map (fun x => ({ block := x.block, off := x.off + 4 } : Addr)) A) = A4 := ⟨_, rfl⟩
  rw [hA4] at HD
  have HD4 := Lib.hid HD; clear HD
  go_enter Tryd.func18, Tryd.ntmps18
  go_wp2_with fail
  refine wp_region_flow [(0, true), (1, true), (2, true), (3, true), (4, true), (5, true), (8, true), (9, true), (6, false), (7, true), (10, true), (11, true)] (fun u => Below w.heap.size w u) (by kernel_rfl) (by kernel_rfl) (fun _ _ _ _ _ h => h) ((Below.refl _ _).drew) ?_
  iterate 7 (refine flow_take (v := ?_) rfl (by rfl) ?_ ?_; rotate_left 1; (· intro u hu; clear hu; go_simp; try with_reducible rfl); simp only [Act.put, List.getElem_toArray, List.getElem_cons_succ, List.getElem_cons_zero, List.setIfInBounds_toArray, List.set_cons_zero, List.set_cons_succ])
  refine flow_take (v := ?_) rfl (by rfl) ?_ ?_
  rotate_left 1
  · intro u hu
    have ht := run_text (P := Tryd.prog) u 22 9 5 Tryd.underlying22 Tryd.underlying5 Tryd.underlying9 A n c l HN.out (HC.out.below hu)
    clear hu
    go_simp
    try with_reducible rfl
  simp only [Act.put, List.getElem_toArray, List.getElem_cons_succ, List.getElem_cons_zero, List.setIfInBounds_toArray, List.set_cons_zero, List.set_cons_succ]
  refine flow_turn rfl (by rfl) (fun K hK => ?_)
  simp only [List.getElem_toArray, List.getElem_cons_succ, List.getElem_cons_zero]
  have HKK := Lib.hid hK; clear hK
  go_simp
  refine (seal_any A4 _ _ (l.drop 4) _ (by rw [List.length_drop, HN.out]) (by omega) HD4.out.drew (HK.out.below (Below.refl _ _).drew)).mono ?_
  rintro e w1 ⟨A1, n1, c1, rfl, hn1, h1, h2, hB1, hb1⟩
  have HN1 := Lib.hid hn1; clear hn1
  have HB1 := Lib.hid hB1; clear hB1
  have HBL := Lib.hid hb1; clear hb1
  refine HKK.out _ _ ⟨fun u => Below w1.heap.size w1 u, Below.refl _ _, fun u hu => ?_, ?_⟩
  · exact Below.trans ((Below.refl _ _).drew) (Below.trans HBL.out (Below.mono hu HBL.out.size))
  have hb1 : Hid (Below w.heap.size w w1) := Below.trans ((Below.refl _ _).drew) HBL.out
  clear HKK K
  refine flow_take (v := ?_) rfl (by rfl) ?_ ?_
  rotate_left 1
  · intro u hu
    have ht := run_text (P := Tryd.prog) u 22 9 5 Tryd.underlying22 Tryd.underlying5 Tryd.underlying9 A1 n1 c1 _ HN1.out (HB1.out.below hu)
    clear hu
    go_simp
    try with_reducible rfl
  simp only [Act.put, List.getElem_toArray, List.getElem_cons_succ, List.getElem_cons_zero, List.setIfInBounds_toArray, List.set_cons_zero, List.set_cons_succ]
  iterate 2 (refine flow_take (v := ?_) rfl (by rfl) ?_ ?_; rotate_left 1; (· intro u hu; clear hu; go_simp; try with_reducible rfl); simp only [Act.put, List.getElem_toArray, List.getElem_cons_succ, List.getElem_cons_zero, List.setIfInBounds_toArray, List.set_cons_zero, List.set_cons_succ])
  refine flow_nil ?_
  go_wp2_with fail
  refine (clone_fresh A4 _ _ (l.drop 4) _ (by rw [List.length_drop, HN.out]) (by omega) (HD4.out.below hb1.out)).mono ?_
  rintro e w2 ⟨A2, n2, c2, rfl, hn2, k1, k2, hB2, hF2, hb2⟩
  have HF2 := Lib.hid (hF2.mono hb1.out.size); clear hF2
  have HN2 := Lib.hid hn2; clear hn2
  have HB2 := Lib.hid hB2; clear hB2
  have HBL2 := Lib.hid hb2; clear hb2
  go_wp2_with fail
  go_ret2
  exact ⟨A2, n2, c2, rfl, HN2.out, k1, k2, HB2.out, HF2.out, Below.trans hb1.out (Below.mono HBL2.out hb1.out.size)⟩

/-- what a reading of a frame hands back -/
def NextsF (w : World) (r : UInt8 × List UInt8 × Nat × Nat) (e : Ending) (w' : World) : Prop :=
  ∃ A m c, e = .returned (.tuple #[.int .u8 ((r.1.toNat : Nat) : Int), .slice A m c, .int .i64 ((r.2.2.1 : Nat) : Int), .int .i64 ((r.2.2.2 : Nat) : Int)]) ∧ r.2.1.length = m ∧ m ≤ c ∧ c ≤ maxLen ∧ Bytes w' A r.2.1 ∧ Fresh w.heap.size A r.2.1 ∧ Below w.heap.size w w'
theorem nextsF_bad {w w' : World} {r : UInt8 × List UInt8 × Nat × Nat} {k : Nat} (hr : r = (0, [], 0, k)) (hb : Below w.heap.size w w') {ki : Int} (hk : ki = k) :
    NextsF w r (.returned (.tuple #[.int .u8 0, .slice none 0 0, .int .i64 0, .int .i64 ki])) w' := by
  subst hr hk
  exact ⟨none, 0, 0, rfl, rfl, Nat.le_refl _, by decide, Bytes.none_ _ _, Fresh.none_ _ _, hb⟩

set_option maxRecDepth 8000 in
set_option maxHeartbeats 400000 in
theorem next_fresh (A : Option Addr) (n c : Nat) (l : List UInt8) (w : World) (hn : l.length = n) (hl : n ≤ 140737488355328) (hnc : n ≤ c) (hB : Bytes w A l) (hk : Known w) :
    Calls Tryd.prog 23 #[.slice A n c] w (NextsF w (Frm.nextS l)) := by
  subst hn
  have HK := Lib.hid hk; clear hk
  have HC := Lib.hid hB; clear hB
  have HS : Hid (Frm.nextS l = if (Frm.sizeS l).2.2 ≠ 0 then (0, [], 0, (Frm.sizeS l).2.2)
      else if l.length - (Frm.sizeS l).2.1 < (Frm.sizeS l).1 then (0, [], 0, 12)
      else Frm.bodyS ((l.drop (Frm.sizeS l).2.1).take (Frm.sizeS l).1) ((Frm.sizeS l).2.1 + (Frm.sizeS l).1)) := rfl
  have HSZ := Lib.hid (size_any A l.length c l w rfl hl HC.out)
  unfold SizeOut at HSZ
  have HOK := Lib.hid (@Frm.sizeS_ok l)
  obtain ⟨⟨z, k, er⟩, hz⟩ : ∃ z, Frm.sizeS l = z := ⟨_, rfl⟩
  rw [hz] at HS HSZ HOK
  by_cases her : er = 0
  · subst her
    obtain ⟨h1, h2, h3, h4, h5, h6⟩ := HOK.out rfl
    have h3' : k = Frm.fst l + 1 := h3
    have h5' : 5 ≤ z := h5
    have h6' : z ≤ 1048576 := h6
    clear h3 h4 h5 h6 hz HOK
    have hkl : k ≤ l.length := by omega
    have hk3 : k ≤ 3 := by omega
    clear h1 h2 h3'
    by_cases hsh : l.length - k < z
    · have HF : Hid (Frm.nextS l = (0, [], 0, 12)) := by show _ = _; rw [HS.out, if_neg (by simp), if_pos hsh]
      clear HS
      go_enter Tryd.func23, Tryd.ntmps23
      go_wp2_with fail
      refine HSZ.out.mono ?_
      rintro e w1 ⟨rfl, rfl⟩
      go_wp2_with fail
      refine bodyPost_ret (results_tmp4 rfl _ _ _) rfl ?_
      exact nextsF_bad HF.out (Below.refl _ _) rfl
    · have HF : Hid (Frm.nextS l = Frm.bodyS ((l.drop k).take z) (k + z)) := by show _ = _; rw [HS.out, if_neg (by simp), if_neg hsh]
      clear HS
      have HD := ((HC.out.mapAdd k).take z)
      obtain ⟨A4, hA4⟩ : ∃ A4, Option.map (fun x => x.add k) A = A4 := ⟨_, rfl⟩
      rw [hA4] at HD
      have HD4 := Lib.hid HD; clear HD
      have hfl : ((l.drop k).take z).length = z := by simp; omega
      generalize hff : (l.drop k).take z = f at *
      clear hff
      go_enter Tryd.func23, Tryd.ntmps23
      go_wp2_with fail
      refine HSZ.out.mono ?_
      rintro e w1 ⟨rfl, rfl⟩
      go_wp2_with fail
      by_cases hse : sealed (f.drop 4) = f
      · have HF2 : Hid (Frm.nextS l = (f.getD 4 0, f.drop 5, k + z, 0)) := by show _ = _; rw [HF.out]; unfold Frm.bodyS; rw [if_pos hse]
        refine (open_fresh A4 z _ f _ hfl (by omega) (by omega) (by omega) HD4.out HK.out hse).mono ?_
        clear hse
        rintro e w2 ⟨A5, m5, c5, rfl, hm5, hc5, hcm5, hB5, hF5, hb5⟩
        have hm5z : m5 = z - 4 := by rw [← hm5, List.length_drop, hfl]
        have hm51 : 0 < m5 := by omega
        have hm5l : m5 ≤ 1048576 := by omega
        have HB5 := Lib.hid hB5; clear hB5
        have HBL := Lib.hid hb5; clear hb5
        obtain ⟨b, off, rfl, hbb, hcell⟩ := HB5.out.at_ (k := 0) (by omega)
        have HF5 : Hid (w.heap.size ≤ b) := hF5 (by omega) _ rfl
        clear hF5
        have HG : Hid ((f.drop 4)[0] = f.getD 4 0) := by
          show _ = _
          rw [List.getElem_drop, List.getD_eq_getElem?_getD, List.getElem?_eq_getElem (by omega)]; rfl
        rw [HG.out] at hcell
        clear HG
        unfold bv at hcell
        rw [Nat.add_zero] at hcell
        have hm51i : (1 : Int) ≤ m5 := by omega
        have HB6 := Lib.hid (HB5.out.dropped 1 m5 (by omega))
        simp only [Option.map_some, List.drop_drop, Nat.reduceAdd] at HB6
        obtain ⟨A6, hA6⟩ : ∃ A6, (if m5 = 1 then some (⟨b, off, none⟩ : Addr) else some ⟨b, off + 1, none⟩) = A6 := ⟨_, rfl⟩
        rw [hA6] at HB6
        have HF6 : Hid (Fresh w.heap.size A6 (f.drop 5)) := fun _ a ha => by
          rw [← hA6] at ha
          split at ha <;> (injection ha with ha; rw [← ha]; exact HF5.out)
        have hkz : k + z ≤ l.length := by omega
        have HZ := Lib.hid hm5z; clear hm5z
        have HM5 := Lib.hid hm5; clear hm5
        go_wp2_with fail
        refine wp_region_flow [(0, true), (1, true), (2, true), (3, true), (4, true), (5, true), (6, true), (7, true), (8, true), (9, true), (10, true), (11, true), (12, true), (13, true), (14, true), (15, true)] (fun u => Below w2.heap.size w2 u) (by kernel_rfl) (by kernel_rfl) (fun _ _ _ _ _ h => h) ((Below.refl _ _).drew) ?_
        iterate 16 (refine flow_take (v := ?_) rfl (by rfl) ?_ ?_; rotate_left 1; (· intro u hu; have hcell' := (hu.cell hbb).trans hcell; clear hu; go_simp; try with_reducible rfl); simp only [Act.put, List.getElem_toArray, List.getElem_cons_succ, List.getElem_cons_zero, List.setIfInBounds_toArray, List.set_cons_zero, List.set_cons_succ])
        refine flow_nil ?_
        go_wp2_with fail
        refine bodyPost_ret (results_tmp4 rfl _ _ _) rfl ?_
        rw [HF2.out]
        have hz' := HZ.out
        exact ⟨A6, m5 - 1, m5 - 1, by simp; exact IntWalk.i64_in _ (by omega), by simp; omega, Nat.le_refl _, by omega, HB6.out.drew, HF6.out, HBL.out.drew⟩
      · have HF2 : Hid (Frm.nextS l = (0, [], 0, 5)) := by show _ = _; rw [HF.out]; unfold Frm.bodyS; rw [if_neg hse]
        refine (open_no A4 z _ f _ hfl (by omega) (by omega) (by omega) HD4.out HK.out hse).mono ?_
        clear hse
        rintro e w2 ⟨rfl, hb2⟩
        have HB2 := Lib.hid hb2; clear hb2
        go_wp2_with fail
        refine bodyPost_ret (results_tmp4 rfl _ _ _) rfl ?_
        exact nextsF_bad HF2.out HB2.out rfl
  · have HF : Hid (Frm.nextS l = (0, [], 0, er)) := by show _ = _; rw [HS.out, if_pos her]
    clear HS HOK hz
    go_enter Tryd.func23, Tryd.ntmps23
    go_wp2_with fail
    refine HSZ.out.mono ?_
    rintro e w1 ⟨rfl, rfl⟩
    go_wp2_with fail
    refine bodyPost_ret (results_tmp4 rfl _ _ _) rfl ?_
    exact nextsF_bad HF.out (Below.refl _ _) rfl
end Go.Proofs.YtpdbbiokndhghaaDoor
