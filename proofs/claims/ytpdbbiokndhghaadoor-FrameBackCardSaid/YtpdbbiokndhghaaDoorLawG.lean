/-
  THE LAW FrameAll WALKED.
-/
import Derived.Test.YtpdbbiokndhghaaDoorFrmN
import Derived.Test.YtpdbbiokndhghaaDoorLawE
namespace Go.Proofs.YtpdbbiokndhghaaDoor
open Go Go.RowKit Go.Proofs

theorem allF_len : ∀ (f : Nat) (l : List UInt8), (Frm.allF f l).1.length ≤ l.length
  | 0, l => by simp [Frm.allF]
  | f + 1, l => by
    simp only [Frm.allF]
    split
    · simp
    · split
      · simp
      · rename_i h1 h2
        have hok := Frm.next_ok l (by omega)
        have := allF_len f (l.drop (Frm.nextS l).2.2.1)
        rw [List.length_drop] at this
        simp only [List.length_cons]
        omega

set_option maxRecDepth 8000 in
set_option maxHeartbeats 800000 in
theorem law_frameAll (A : Option Addr) (n c : Nat) (l : List UInt8) (w : World) (hn : l.length = n) (hl : n ≤ 140737488355328) (hnc : n ≤ c) (hB : Bytes w A l) (hk : Known w) :
    Calls Tryd.prog 10 #[.slice A n c] w (Yes w) := by
  have HN := Lib.hid hn; clear hn
  have HK := Lib.hid hk; clear hk
  have HC := Lib.hid hB; clear hB
  obtain ⟨i0, hi, hz0, hz1, hz2⟩ := info_parts info5
  by_cases hbig : 5000 < n
  · go_enter Tryd.func10, Tryd.ntmps10
    go_wp2_with fail
    refine (awake04_any _ HK.out).mono ?_
    rintro e w1 ⟨rfl, hb1⟩
    have HB1 := Lib.hid hb1; clear hb1
    go_wp2_with fail
    go_ret
    exact ⟨rfl, HB1.out⟩
  · go_enter Tryd.func10, Tryd.ntmps10
    go_wp2_with (at_builtin; refine wpList_append_bytes _ rfl _ _ 22 rfl w.heap.size 5 i0 (.int .u8 0) Tryd.underlying22 hi hz0 hz1 hz2 rfl _ 0 [] rfl (own_lit _ [] 5 _ (Nat.le_refl _) (by decide)) _ _ _ l rfl HN.out (HC.out.alloc _) (by omega) (by simp) ?_)
    intro v1 w1 hown hg
    have HG := Lib.hid (((Below.refl w.heap.size w).alloc (Nat.le_refl _) _).grown hg (by simp) (by simp [Value.ownBlock])); clear hg
    obtain ⟨A1, c1, rfl, hm, h1, h2, hB1⟩ := bytes_of_own (l := l) (by simpa using hown)
    clear hown hm
    have HB1 := Lib.hid hB1; clear hB1
    go_wp2_with fail
    refine (all_any A1 n c1 l _ HN.out (by omega) (by omega) HB1.out (HK.out.below HG.out)).mono ?_
    have HIL : Hid ((Frm.allS l).1.length ≤ 5000) := by
      have := allF_len l.length l
      have := HN.out
      show (Frm.allF l.length l).1.length ≤ 5000
      omega
    obtain ⟨⟨its, nn, er⟩, hr⟩ : ∃ r, Frm.allS l = r := ⟨_, rfl⟩
    rw [hr] at HIL ⊢
    rintro e w2 ⟨v1, v2, rfl, hA⟩
    obtain ⟨vs, o1, o2, hS, hb2⟩ := hA
    have hil : its.length ≤ 5000 := HIL.out
    obtain ⟨A2, c2, rfl, hc2, hm2⟩ := own_slice o1
    obtain ⟨A3, c3, rfl, hc3, hm3⟩ := own_slice o2
    have HB2 : Hid (Bytes w2 A2 (its.map Prod.fst)) := by
      obtain ⟨A', c', h, _, _, _, hB⟩ := bytes_of_own o1
      injection h with h _ _
      subst h
      exact hB
    have HR3 : Hid (Row w2 A3 vs) := row_of_own o2
    clear o1 o2
    have HS := Lib.hid hS; clear hS
    have HW2 := Lib.hid (HG.out.trans (hb2.mono HG.out.size)); clear hb2
    go_wp2_with fail
    refine (refAll_any A n c l _ HN.out (by omega) hnc (HC.out.below HW2.out)).mono ?_
    rw [hr]
    clear hr
    rintro e w3 ⟨v4, rfl, vs', o4, hS4, hb3⟩
    obtain ⟨A4, c4, rfl, hc4, hm4⟩ := own_slice o4
    have HR4 : Hid (Row w3 A4 (flat (its.map Prod.fst) vs')) := row_of_own o4
    have HS4 := Lib.hid hS4; clear hS4 o4
    have HW3 := Lib.hid (HW2.out.trans (hb3.mono HW2.out.size))
    have HB2' := Lib.hid (HB2.out.below hb3)
    have HR3' := Lib.hid (HR3.out.below hb3)
    have HS' := Lib.hid (HS.out.below hb3)
    clear hb3
    go_wp2_with fail
    refine (same_slices A2 A3 A4 _ _ _ _ _ _ (its.map Prod.fst) (its.map Prod.fst) (its.map Prod.snd) (its.map Prod.snd) vs vs' _ _ _ (by simp) (by simp) (by simp) (by simp) (by omega) (by omega) (by omega) HB2'.out HR3'.out HS'.out HR4.out HS4.out).mono ?_
    rintro e w4 ⟨rfl, hb4⟩
    have HW4 := Lib.hid (HW3.out.trans (hb4.mono HW3.out.size)); clear hb4
    go_wp2_with fail
    refine (awake04_any _ (HK.out.below HW4.out)).mono ?_
    rintro e w5 ⟨rfl, hb5⟩
    have HW5 := Lib.hid (HW4.out.trans (hb5.mono HW4.out.size)); clear hb5
    go_wp2_with fail
    go_ret
    exact ⟨rfl, HW5.out⟩
end Go.Proofs.YtpdbbiokndhghaaDoor
