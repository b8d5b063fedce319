/-
  CONTRACT of frame.All.
-/
import Derived.Test.YtpdbbiokndhghaaDoorFrmK
namespace Go.Proofs.YtpdbbiokndhghaaDoor
open Go Go.RowKit Go.Proofs

/-- neither row's block -/
def Off (v1 v2 : Value) (b : Nat) : Prop := v1.ownBlock ≠ some b ∧ v2.ownBlock ≠ some b

/-- what a reading of all frames leaves in memory -/
def Alls (w : World) (its : List (UInt8 × List UInt8)) (v1 v2 : Value) (w' : World) : Prop :=
  ∃ vs : List Value, w'.ownsRow w.heap.size 5 1 v1 its.length ((its.map Prod.fst).map bv) ∧ w'.ownsRow w.heap.size 22 1 v2 its.length vs ∧ Sls w' (Off v1 v2) vs (its.map Prod.snd) ∧ Below w.heap.size w w'

def AllOut (w : World) (r : List (UInt8 × List UInt8) × Nat × Nat) (e : Ending) (w' : World) : Prop :=
  ∃ v1 v2, e = .returned (.tuple #[v1, v2, .int .i64 ((r.2.1 : Nat) : Int), .int .i64 ((r.2.2 : Nat) : Int)]) ∧ Alls w r.1 v1 v2 w'

theorem Alls.below {w w1 w2 : World} {its : List (UInt8 × List UInt8)} {v1 v2 : Value} (h : Alls w its v1 v2 w1) (hb : Below w1.heap.size w1 w2) : Alls w its v1 v2 w2 := by
  obtain ⟨vs, h1, h2, h3, h4⟩ := h
  exact ⟨vs, own_below h1 hb, own_below h2 hb, h3.below hb, h4.trans (hb.mono h4.size)⟩

/-- one item more: both rows have grown by one, the new bytes are in a fresh block -/
theorem Alls.more {w w1 wa w2 wb w3 : World} {its : List (UInt8 × List UInt8)} {v1 v2 v1' v2' : Value} {vs : List Value} {kd : UInt8} {d : List UInt8} {A : Option Addr} {c : Nat}
    (h1 : w1.ownsRow w.heap.size 5 1 v1 its.length ((its.map Prod.fst).map bv)) (h2 : w1.ownsRow w.heap.size 22 1 v2 its.length vs) (h3 : Sls w1 (Off v1 v2) vs (its.map Prod.snd)) (h4 : Below w.heap.size w w1)
    (hc : d.length ≤ c) (hB : Bytes w1 A d) (hP : 0 < d.length → ∀ a, A = some a → Off v1 v2 a.block)
    (ha : wa = w1.alloc (.cells #[bv kd] 5)) (g1 : w2.ownsRow w.heap.size 5 1 v1' (its.length + 1) ((its.map Prod.fst).map bv ++ [bv kd])) (k1 : wa.grownBy w2 v1.ownBlock) (e1 : v1'.ownBlock = v1.ownBlock ∨ v1'.ownBlock = some wa.heap.size)
    (hb : wb = w2.alloc (.cells #[.slice A d.length c] 22)) (g2 : w3.ownsRow w.heap.size 22 1 v2' (its.length + 1) (vs ++ [.slice A d.length c])) (k2 : wb.grownBy w3 v2.ownBlock) (e2 : v2'.ownBlock = v2.ownBlock ∨ v2'.ownBlock = some wb.heap.size) :
    Alls w (its ++ [(kd, d)]) v1' v2' w3 := by
  subst ha hb
  have s12 : w1.heap.size + 1 ≤ w2.heap.size := by have := k1.size; simpa using this
  have s23 : w2.heap.size + 1 ≤ w3.heap.size := by have := k2.size; simpa using this
  have keep12 : ∀ b, b < w1.heap.size → v1.ownBlock ≠ some b → w2.heap[b]? = w1.heap[b]? := fun b hlt hne => by
    rw [k1.block b (by simp; omega) (fun e => hne e.symm)]
    exact heap_alloc_old w1 _ hlt
  have keep23 : ∀ b, b < w2.heap.size → v2.ownBlock ≠ some b → w3.heap[b]? = w2.heap[b]? := fun b hlt hne => by
    rw [k2.block b (by simp; omega) (fun e => hne e.symm)]
    exact heap_alloc_old w2 _ hlt
  have keep13 : ∀ b, Off v1 v2 b → b < w1.heap.size → w3.heap[b]? = w1.heap[b]? := fun b ho hlt => by
    rw [keep23 b (by omega) ho.2, keep12 b hlt ho.1]
  have off13 : ∀ b, Off v1 v2 b → b < w1.heap.size → Off v1' v2' b := fun b ho hlt => by
    constructor
    · rcases e1 with e | e
      · rw [e]; exact ho.1
      · rw [e]; intro h; injection h with h; simp at h; omega
    · rcases e2 with e | e
      · rw [e]; exact ho.2
      · rw [e]; intro h; injection h with h; simp at h; omega
  have hB' := hB
  have h2' : w2.ownsRow w.heap.size 22 1 v2 its.length vs := (h2.alloc _).kept k1 (own_ne h2 h1 (by decide))
  have hs : Sls w3 (Off v1' v2') vs (its.map Prod.snd) := h3.keep (by omega) keep13 off13
  refine ⟨vs ++ [.slice A d.length c], ?_, ?_, ?_, ?_⟩
  · have : w3.ownsRow w.heap.size 5 1 v1' (its.length + 1) ((its.map Prod.fst).map bv ++ [bv kd]) := by
      exact (g1.alloc _).kept k2 (own_ne g1 h2' (by decide))
    simpa using this
  · simpa using g2
  · rw [List.map_append]
    refine hs.snoc hc (hB.keepB (by omega) fun hl a ha hlt => keep13 _ (hP hl a ha) hlt) fun hl a ha => off13 _ (hP hl a ha) ?_
    obtain ⟨b, off, e, hb, _⟩ := hB' hl
    rw [e] at ha
    injection ha with ha
    subst ha
    exact hb
  · have b1 := (h4.alloc h4.size (.cells #[bv kd] 5)).grown k1 (by have := h4.size; simp; omega) (fun k hk => (h1.lt k hk).1)
    exact (b1.alloc b1.size (.cells #[.slice A d.length c] 22)).grown k2 (by have := b1.size; simp; omega) (fun k hk => (h2.lt k hk).1)

set_option maxRecDepth 8000 in
set_option maxHeartbeats 800000 in
theorem all_any (A : Option Addr) (n c : Nat) (l : List UInt8) (w : World) (hn : l.length = n) (hl : n ≤ 1000000) (hnc : n ≤ c) (hB : Bytes w A l) (hk : Known w) :
    Calls Tryd.prog 25 #[.slice A n c] w (AllOut w (Frm.allS l)) := by
  subst hn
  have HK := Lib.hid hk; clear hk
  have HC := Lib.hid hB; clear hB
  obtain ⟨i0, hi, hz0, hz1, hz2⟩ := info_parts info5
  obtain ⟨i1, hj, hy0, hy1, hy2⟩ := info_parts info22
  go_enter Tryd.func25, Tryd.ntmps25
  go_wp2_with fail
  go_loopw [2, 3, 4] (fun v1 v2 x wr => ∃ (p : Nat) (its : List (UInt8 × List UInt8)), x = .int .i64 p ∧ Frm.At l p its ∧ Alls w its v1 v2 wr) (fun _ _ x _ => l.length - (intOf x).toNat)
  case atStart => exact ⟨0, [], rfl, Frm.at_start l, [], World.ownsRow_nil _ _ _ _, World.ownsRow_nil _ _ _ _, trivial, Below.refl _ _⟩
  case round =>
    obtain ⟨p, its, rfl, hat, halls⟩ := hrel
    obtain ⟨hpl, hil⟩ := Frm.at_le hat
    have HAT := Lib.hid hat; clear hat
    have HA := Lib.hid halls; clear halls
    by_cases hlt : p < l.length
    · have HWR : Hid (Below w.heap.size w wr) := by obtain ⟨_, _, _, _, h⟩ := HA.out; exact h
      have hD := (HC.out.below HWR.out).mapAdd p
      obtain ⟨A4, hA4⟩ : ∃ A4, Option.map (fun x => x.add p) A = A4 := ⟨_, rfl⟩
      rw [hA4] at hD
      have HD := Lib.hid hD; clear hD
      have HER := Lib.hid (fun h => Frm.at_err HAT.out hlt h)
      have HST := Lib.hid (fun h => Frm.at_step HAT.out hlt h)
      have HNO := Lib.hid (Frm.next_ok (l.drop p))
      have HDL : Hid ((l.drop p).length = l.length - p) := List.length_drop ..
      have HNX := Lib.hid (fun (w1 : World) (hb : Bytes w1 A4 (l.drop p)) (hk : Known w1) => next_fresh A4 (l.length - p) (c - p) (l.drop p) w1 HDL.out (by omega) (by omega) hb hk)
      generalize l.drop p = l' at *
      obtain ⟨⟨kd, d, nn, er⟩, hr⟩ : ∃ r, Frm.nextS l' = r := ⟨_, rfl⟩
      rw [hr] at HER HST HNX HNO
      clear hr
      go_wp2_with fail
      refine (HNX.out _ HD.out (HK.out.below HWR.out)).mono ?_
      rintro e w1 ⟨A5, m5, c5, rfl, hm5, hc5, hcm5, hB5, hF5, hb5⟩
      have hm5' : d.length = m5 := hm5
      subst hm5'
      clear hm5
      have HB5 := Lib.hid hB5; clear hB5
      have HF5 := Lib.hid hF5; clear hF5
      have HA1 := Lib.hid (HA.out.below hb5)
      have HOFF : Hid (0 < d.length → ∀ a, A5 = some a → ∀ v1 v2, Alls w its v1 v2 wr → Off v1 v2 a.block) := by
        intro hl a ha v1 v2 hv
        obtain ⟨vs, h1, h2, _, _⟩ := hv
        have h3 := HF5.out hl a ha
        exact ⟨fun e => by have := (h1.lt _ e).2; omega, fun e => by have := (h2.lt _ e).2; omega⟩
      clear hb5
      by_cases her : er = 0
      · subst her
        have HST' := Lib.hid (HST.out rfl)
        obtain ⟨hn0, hn1, hn2⟩ := HNO.out rfl
        have hn0' : 0 < nn := hn0
        have hn1' : nn ≤ l.length - p := by rw [← HDL.out]; exact hn1
        clear HST HER HNO hn0 hn1 hn2
        obtain ⟨vs, h1, h2, h3, h4⟩ := HA1.out
        have H1 := Lib.hid h1; clear h1
        have H2 := Lib.hid h2; clear h2
        have H3 := Lib.hid h3; clear h3
        have H4 := Lib.hid h4; clear h4
        go_wp2_with (at_builtin; go_must (refine wpList_append_own_at _ rfl _ _ 22 rfl w.heap.size 5 i0 (.int .u8 0) 1 1 Tryd.underlying22 hi hz0 hz1 hz2 rfl (by omega) _ its.length _ rfl (H1.out.alloc _) ⟨w1.heap.size, 0, none⟩ 1 1 [bv kd] rfl rfl (cell_one_new _ _ _) (bv_oneCell kd) (by unfold maxLen; omega) (by omega) (by have := H4.out.size; simp; omega) ?_))
        intro v1' w2 g1 k1 _ e1
        have G1 : Hid (w2.ownsRow w.heap.size 5 1 v1' (its.length + 1) ((its.map Prod.fst).map bv ++ [bv kd])) := by
          show w2.ownsRow _ _ _ _ _ _
          simpa using g1
        have K1 : Hid ((w1.alloc (.cells #[bv kd] 5)).grownBy w2 u2.ownBlock) := k1
        have E1 : Hid (v1'.ownBlock = u2.ownBlock ∨ v1'.ownBlock = some (w1.alloc (.cells #[bv kd] 5)).heap.size) := by
          show _ ∨ _
          simpa using e1
        have H2' : Hid (w2.ownsRow w.heap.size 22 1 u3 its.length vs) := (H2.out.alloc _).kept K1.out (own_ne H2.out H1.out (by decide))
        have hs2 : Hid (w.heap.size ≤ w2.heap.size) := by
          show w.heap.size ≤ w2.heap.size
          have a := H4.out.size
          have b := K1.out.size
          simp at b
          omega
        clear g1 k1 e1
        go_wp2_with (at_builtin; go_must (refine wpList_append_own_at _ rfl _ _ 48 rfl w.heap.size 22 i1 (.slice none 0 0) 1 24 Tryd.underlying48 hj hy0 hy1 hy2 rfl (by omega) _ its.length _ rfl (H2'.out.alloc _) ⟨w2.heap.size, 0, none⟩ 1 1 [.slice A5 d.length c5] rfl rfl (cell_one_new _ _ _) (slice_oneCell _ _ _) (by unfold maxLen; omega) (by omega) (by have := hs2.out; simp; omega) ?_))
        intro v2' w3 g2 k2 _ e2
        have HM := Lib.hid (Alls.more H1.out H2.out H3.out H4.out hc5 HB5.out (fun hl a ha => HOFF.out hl a ha _ _ HA.out) rfl G1.out K1.out E1.out rfl g2 k2 (by simpa using e2))
        clear g2 k2 e2
        go_wp2_with fail
        go_roundw
        case rel => exact ⟨p + nn, its ++ [(kd, d)], by go_num, HST'.out, HM.out⟩
        case measure => simp [intOf]; omega
      · have hne : ((er : Int) == 0) = false := by rw [beq_eq_false_iff_ne]; omega
        have HF := Lib.hid (HER.out her)
        go_wp2_with fail
        refine bodyPost_ret (results_tmp4 rfl _ _ _) rfl ?_
        rw [HF.out]
        exact ⟨_, _, rfl, HA1.out⟩
    · have HF := Lib.hid (Frm.at_end HAT.out (by omega))
      go_wp2_with fail
      refine bodyPost_ret (results_tmp4 rfl _ _ _) rfl ?_
      rw [HF.out]
      exact ⟨_, _, rfl, HA.out⟩
end Go.Proofs.YtpdbbiokndhghaaDoor
