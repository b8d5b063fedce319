/-
  CONTRACTS of bag.Drop, Twice, Deliver.
-/
import Derived.Test.YtjbcmepnlnfkjaaBgG
namespace Go.Proofs.Ytjbcmepnlnfkjaa
open Go Go.RowKit Go.Proofs

theorem rerow {w w1 : World} {B : Nat} {P : Nat → Prop} {g m n : Nat} {L L' : Value} {xs : List Value} {vs' : List Value} {ms' : List Msg}
    (h : Blk w g m L) (hBg : B ≤ g) (hrow : w.ownsRow B 55 3 L n xs) (hm : ∃ es cl, w.heap[m]? = some (.map es cl)) (hg : w.grownBy w1 L.ownBlock)
    (hrow' : w1.ownsRow B 55 3 L' ms'.length (flat3 ms' vs')) (hB' : Bods w P vs' ms') (hr : ∀ x ∈ ms', InI64 x.1 ∧ InI64 x.2.1) (hBs : B ≤ w.heap.size) :
    Turned w B P g m ms' (w1.setCell ⟨g, 0, none⟩ L') := by
  have hk := own_row_kind hrow
  have hne : L.ownBlock ≠ some g := by
    intro e
    obtain ⟨cc, fr, hc⟩ := hk g e
    have := hc.symm.trans h
    injection this with this
    injection this with _ this _
    cases this
  have h1 : Blk w1 g m L := (hg.block g h.lt (fun e => hne e.symm)).trans h
  have hne1 : L'.ownBlock ≠ some g := by
    intro e
    obtain ⟨cc, fr, hc⟩ := own_row_kind hrow' g e
    have := hc.symm.trans h1
    injection this with this
    injection this with _ this _
    cases this
  have keep : ∀ (b : Nat) (cs : Array Value) (fr : Nat × Nat), w.heap[b]? = some (Obj.cells cs 5 fr) → (w1.setCell ⟨g, 0, none⟩ L').heap[b]? = w.heap[b]? := by
    intro b cs fr hb
    have hbg : b ≠ g := fun e => by
      subst e
      have := hb.symm.trans h
      injection this with this
      injection this with _ this _
      cases this
    rw [setCell_other _ hbg]
    refine hg.block b (Array.getElem?_eq_some_iff.1 hb).1 (fun e => ?_)
    obtain ⟨cc, fr', hc⟩ := hk b e.symm
    have := hc.symm.trans hb
    injection this with this
    injection this with _ this _
    cases this
  refine ⟨⟨L', vs', h1.set _, hBg, ownsRow_setCell_other hrow' hne1 _, hB'.keep fun b hp cs fr hb => ⟨keep b cs fr hb, hp⟩, hr⟩, ?_, ?_, ?_⟩
  · exact ((Below.refl B w).grown hg hBs (fun q hq => (hrow.lt q hq).1)).setCell (p := ⟨g, 0, none⟩) hBg _
  · refine (Beside.grown hg hk).trans ⟨by simp [World.setCell], fun q hq hqm hfree => setCell_other _ (fun e => ?_)⟩
    subst e
    exact (hfree _ _).1 h1
  · obtain ⟨es, cl, hm⟩ := hm
    have hmlt : m < w.heap.size := (Array.getElem?_eq_some_iff.1 hm).1
    have hmg : m ≠ g := fun e => by
      subst e
      have := hm.symm.trans h
      cases this
    rw [setCell_other _ hmg, hg.block m hmlt (fun e => ?_)]
    obtain ⟨cc, fr', hc⟩ := hk m e.symm
    have := hc.symm.trans hm
    cases this

set_option maxHeartbeats 400000 in
theorem drop_none (B : Nat) (P : Nat → Prop) (g m : Nat) (ms : List Msg) (i : Int) (w : World) (h : BagAt w B P g m ms) (hi : i < 0 ∨ (ms.length : Int) ≤ i) :
    Calls Try.prog 14 #[.pointer (some ⟨g, 0, none⟩), .int .i64 i] w fun e w' => e = .returned (.bool false) ∧ w = w' := by
  have HLEN := Lib.hid (len_any B P g m ms w h)
  clear h
  by_cases h0 : i < 0
  · go_enter Try.func14, Try.ntmps14
    go_wp2_with fail
    go_ret
    exact ⟨rfl, rfl⟩
  · have h1 : (ms.length : Int) ≤ i := by omega
    generalize ms.length = n at *
    go_enter Try.func14, Try.ntmps14
    go_wp2_with fail
    refine HLEN.out.mono ?_
    rintro e w1 ⟨rfl, rfl⟩
    go_wp2_with fail
    go_ret
    exact ⟨rfl, rfl⟩

set_option maxHeartbeats 800000 in
theorem drop_some (B : Nat) (P : Nat → Prop) (g m : Nat) (ms : List Msg) (i : Nat) (w : World) (h : BagAt w B P g m ms) (hi : i < ms.length) (hn : ms.length ≤ 1000000) (hmm : ∃ es cl, w.heap[m]? = some (.map es cl)) (hBs : B ≤ w.heap.size) :
    Calls Try.prog 14 #[.pointer (some ⟨g, 0, none⟩), .int .i64 i] w fun e w' => e = .returned (.bool true) ∧ Turned w B P g m (ms.take i ++ ms.drop (i + 1)) w' := by
  have HLEN := Lib.hid (len_any B P g m ms w h)
  obtain ⟨L, vs, h1, h2, h3, h4, h5⟩ := h
  have hvl := h4.length
  obtain ⟨q, cap, rfl, hq, hrow⟩ := RowAt.of_own h3 (by omega)
  have HDEL := Lib.hid (delete_any q ms.length cap i _ w hrow (flat3_one h4) hi hn)
  have HRE := Lib.hid (fun (w1 : World) (hr : RowAt w1 q (ms.length - 1) cap ((flat3 ms vs).take (i * 3) ++ (flat3 ms vs).drop ((i + 1) * 3))) (hg : w.grownBy w1 (some q)) =>
    (⟨h1.lt, (show (w1.heap[g]? = w.heap[g]?) from hg.block g h1.lt (fun e => by
        injection e with e
        obtain ⟨cur, hcur, _⟩ := hrow
        rw [← e, h1] at hcur
        injection hcur with hcur
        injection hcur with _ hcur _
        cases hcur)),
      rerow (P := P) (ms' := ms.take i ++ ms.drop (i + 1)) (vs' := vs.take i ++ vs.drop (i + 1)) (L' := .slice (some ⟨q, 0, none⟩) (ms.length - 1) cap) h1 h2 h3 hmm hg
        (by
          have hl : (ms.take i ++ ms.drop (i + 1)).length = ms.length - 1 := by simp; omega
          rw [hl, flat3_append _ _ _ _ (by simp; omega), ← flat3_take, ← flat3_drop _ _ _ hvl]
          exact hr.own hq)
        ((h4.take i).append (h4.drop (i + 1))) (fun x hx => by
          rcases List.mem_append.1 hx with hx | hx
          · exact h5 x (List.mem_of_mem_take hx)
          · exact h5 x (List.mem_of_mem_drop hx)) hBs⟩ : g < w.heap.size ∧ w1.heap[g]? = w.heap[g]? ∧ Turned w B P g m (ms.take i ++ ms.drop (i + 1)) (w1.setCell ⟨g, 0, none⟩ (.slice (some ⟨q, 0, none⟩) (ms.length - 1) cap))))
  have c0 := h1.c0
  have HB := Lib.hid h1
  have hil : (i : Int) < ms.length := by omega
  have hi00 : (0 : Int) ≤ i := by omega
  clear h1 h2 h3 h4 h5 hrow hvl
  obtain ⟨n, hnn⟩ : ∃ n, ms.length = n := ⟨_, rfl⟩
  rw [hnn] at HLEN HDEL HRE c0 hil hn
  clear hnn
  clear hi
  go_enter Try.func14, Try.ntmps14
  go_wp2_with fail
  refine HLEN.out.mono ?_
  rintro e w1 ⟨rfl, rfl⟩
  go_wp2_with fail
  refine HDEL.out.mono ?_
  rintro e w1 ⟨rfl, hr1, hg1⟩
  obtain ⟨hglt, hge, hturn⟩ := HRE.out w1 hr1 hg1
  have HT := Lib.hid hturn; clear hturn
  have HB1 : Hid (Blk w1 g m _) := hge.trans HB.out
  have d0 := HB1.out.c0
  have df := HB1.out.fz 0
  clear hr1 hg1 hge c0
  go_wp2_with fail
  go_ret
  exact ⟨rfl, HT.out⟩
end Go.Proofs.Ytjbcmepnlnfkjaa
