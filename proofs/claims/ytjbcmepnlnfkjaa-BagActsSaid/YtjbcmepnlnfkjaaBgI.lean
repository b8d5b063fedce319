/-
  CONTRACTS of bag.Twice, Deliver.
-/
import Derived.Test.YtjbcmepnlnfkjaaBgH
namespace Go.Proofs.Ytjbcmepnlnfkjaa
open Go Go.RowKit Go.Proofs

/-- the block at m is a map -/
def IsMp (w : World) (m : Nat) : Prop := ∃ es cl, w.heap[m]? = some (.map es cl)
theorem IsMp.lt {w : World} {m : Nat} (h : IsMp w m) : m < w.heap.size := by obtain ⟨es, cl, h⟩ := h; exact (Array.getElem?_eq_some_iff.1 h).1
theorem IsMp.same {w w' : World} {m : Nat} (h : IsMp w m) (e : w'.heap[m]? = w.heap[m]?) : IsMp w' m := by obtain ⟨es, cl, h⟩ := h; exact ⟨es, cl, e.trans h⟩
theorem PMap.isMp {w : World} {m n : Nat} {S : Int → Int → Bool} (h : PMap w m n S) : IsMp w m := by
  obtain ⟨D, ⟨es, clock, hb, _⟩, _⟩ := h
  exact ⟨es, clock, hb⟩

theorem Turned.of_below {w w1 : World} {B : Nat} {P : Nat → Prop} {g m : Nat} {ms : List Msg} (h : BagAt w B P g m ms) (hb : Below w.heap.size w w1) (hBs : B ≤ w.heap.size) (hm : IsMp w m) : Turned w B P g m ms w1 :=
  ⟨h.below hb, hb.mono hBs, Beside.of_below hb, hb.block m hm.lt⟩
theorem Turned.trans {w w1 w2 : World} {B : Nat} {P : Nat → Prop} {g m : Nat} {ms ms' : List Msg} (h : Turned w B P g m ms w1) (k : Turned w1 B P g m ms' w2) : Turned w B P g m ms' w2 :=
  ⟨k.1, h.2.1.trans k.2.1, h.2.2.1.trans k.2.2.1, k.2.2.2.trans h.2.2.2⟩
theorem Turned.size {w w1 : World} {B : Nat} {P : Nat → Prop} {g m : Nat} {ms : List Msg} (h : Turned w B P g m ms w1) : w.heap.size ≤ w1.heap.size := h.2.1.size

theorem own5_beside {w w' : World} {m base : Nat} {v : Value} {n : Nat} {xs : List Value} (h : w.ownsRow base 5 1 v n xs) (hb : Beside m w w') (hm : IsMp w m) : w'.ownsRow base 5 1 v n xs := by
  refine ⟨h.1, ?_⟩
  rcases h.2 with h0 | ⟨q, cap, cur, e, hq, hg, r⟩
  · exact .inl h0
  · refine .inr ⟨q, cap, cur, e, hq, ?_, r⟩
    have hlt := (Array.getElem?_eq_some_iff.1 hg).1
    rw [hb.block q hlt (fun e => ?_) (fun c fr => ⟨fun hc => ?_, fun hc => ?_⟩)]
    · exact hg
    · subst e
      obtain ⟨es, cl, hmm⟩ := hm
      have := hmm.symm.trans hg
      cases this
    · have := hc.symm.trans hg
      injection this with this
      injection this with _ this _
      cases this
    · have := hc.symm.trans hg
      injection this with this
      injection this with _ this _
      cases this

set_option maxHeartbeats 400000 in
theorem twice_none (B : Nat) (P : Nat → Prop) (g m : Nat) (ms : List Msg) (i : Int) (w : World) (h : BagAt w B P g m ms) (hi : i < 0 ∨ (ms.length : Int) ≤ i) :
    Calls Try.prog 11 #[.pointer (some ⟨g, 0, none⟩), .int .i64 i] w fun e w' => e = .returned (.bool false) ∧ w = w' := by
  have HL := Lib.hid (look_none B P g m ms i w h hi)
  clear h hi
  go_enter Try.func11, Try.ntmps11
  go_wp2_with fail
  refine HL.out.mono ?_
  rintro e w1 ⟨rfl, rfl⟩
  go_wp2_with fail
  go_ret
  exact ⟨rfl, rfl⟩

set_option maxHeartbeats 400000 in
theorem twice_full (B : Nat) (P : Nat → Prop) (g m : Nat) (ms : List Msg) (i : Nat) (w : World) (h : BagAt w B P g m ms) (hi : i < ms.length) (hn : ms.length ≤ 1000000) (hfull : 16384 ≤ ms.length) (hm : IsMp w m) (hBs : B ≤ w.heap.size) :
    Calls Try.prog 11 #[.pointer (some ⟨g, 0, none⟩), .int .i64 i] w fun e w' => e = .returned (.bool false) ∧ Turned w B P g m ms w' := by
  have HL := Lib.hid (look_some B P g m ms i w h hi hn)
  have HBAG := Lib.hid h
  have HF := Lib.hid hfull
  have HM := Lib.hid hm
  clear hfull hm hn h
  obtain ⟨x, hx⟩ : ∃ x, ms[i] = x := ⟨_, rfl⟩
  rw [hx] at HL
  clear hx hi
  obtain ⟨xf, xt, xb⟩ := x
  go_enter Try.func11, Try.ntmps11
  go_wp2_with fail
  refine HL.out.mono ?_
  rintro e w1 ⟨v, rfl, ho, hb⟩
  obtain ⟨A, c, rfl, _, _, _, hB⟩ := bytes_of_own ho
  have HT := Lib.hid (Turned.of_below HBAG.out hb hBs HM.out)
  clear hb ho hB
  go_wp2_with fail
  refine (post_full B P g m ms _ _ _ _ _ _ HT.out.1 HF.out).mono ?_
  rintro e w2 ⟨rfl, rfl⟩
  go_wp2_with fail
  go_ret
  exact ⟨rfl, HT.out⟩

set_option maxHeartbeats 400000 in
theorem twice_room (B : Nat) (P : Nat → Prop) (g m : Nat) (ms : List Msg) (i : Nat) (w : World) (h : BagAt w B P g m ms) (hi : i < ms.length) (hroom : ms.length < 16384) (hm : IsMp w m) (hBs : B ≤ w.heap.size) (hP : ∀ b, w.heap.size ≤ b → P b) :
    Calls Try.prog 11 #[.pointer (some ⟨g, 0, none⟩), .int .i64 i] w fun e w' => e = .returned (.bool true) ∧ Turned w B P g m (ms ++ [ms[i]]) w' := by
  have HL := Lib.hid (look_some B P g m ms i w h hi (by omega))
  have HBAG := Lib.hid h
  have HF := Lib.hid hroom
  have HM := Lib.hid hm
  have HP := Lib.hid hP
  have hb47 : ms[i].2.2.length ≤ 140737488355328 := by
    obtain ⟨L, vs, _, _, _, h4, h5⟩ := h
    obtain ⟨_, _, _, _, hb47, _⟩ := h4.at_ i hi
    exact hb47
  have hrng : InI64 ms[i].1 ∧ InI64 ms[i].2.1 := by
    obtain ⟨L, vs, _, _, _, h4, h5⟩ := h
    exact h5 ms[i] (List.getElem_mem hi)
  clear hroom hm hP h
  obtain ⟨x, hx⟩ : ∃ x, ms[i] = x := ⟨_, rfl⟩
  rw [hx] at HL hb47 hrng ⊢
  clear hx hi
  obtain ⟨xf, xt, xb⟩ := x
  have HR := Lib.hid hrng; clear hrng
  have H47 : Hid (xb.length ≤ 140737488355328) := hb47
  clear hb47
  go_enter Try.func11, Try.ntmps11
  go_wp2_with fail
  refine HL.out.mono ?_
  rintro e w1 ⟨v, rfl, ho, hb⟩
  obtain ⟨A, c, rfl, hl, _, _, hB⟩ := bytes_of_own ho
  have HT := Lib.hid (Turned.of_below HBAG.out hb hBs HM.out)
  have HBY := Lib.hid hB
  have HW := Lib.hid hb
  clear hb ho hB
  go_wp2_with fail
  refine (post_room B P g m ms xf xt A _ c xb _ HT.out.1 HF.out HR.out.1 HR.out.2 rfl H47.out HBY.out (fun b hb => HP.out b (Nat.le_trans HW.out.size hb)) (HM.out.same HT.out.2.2.2) (Nat.le_trans hBs HW.out.size)).mono ?_
  rintro e w2 ⟨rfl, ht2⟩
  have HT2 := Lib.hid (HT.out.trans ht2); clear ht2
  go_wp2_with fail
  go_ret
  exact ⟨rfl, HT2.out⟩

/-- what Deliver leaves where a message is handed out -/
def DelOut (w : World) (x : Msg) (e : Ending) (w' : World) : Prop :=
  ∃ v, e = .returned (.tuple #[.int .i64 x.1, .int .i64 x.2.1, v, .bool true]) ∧ w'.ownsRow w.heap.size 5 1 v x.2.2.length (x.2.2.map bv)
def noMsg : Ending := .returned (.tuple #[.int .i64 0, .int .i64 0, .slice none 0 0, .bool false])
/-- .. or not: the two are parted -/
def DelRes (β : Bool) (w : World) (x : Msg) (e : Ending) (w' : World) : Prop := match β with
  | true => e = noMsg
  | false => DelOut w x e w'

set_option maxHeartbeats 400000 in
theorem deliver_none (B : Nat) (P : Nat → Prop) (g m n : Nat) (S : Int → Int → Bool) (ms : List Msg) (i : Int) (w : World) (h : BagAt w B P g m ms) (hi : i < 0 ∨ (ms.length : Int) ≤ i) (hm : PMap w m n S) (hBs : B ≤ w.heap.size) :
    Calls Try.prog 9 #[.pointer (some ⟨g, 0, none⟩), .int .i64 i] w fun e w' => e = noMsg ∧ Turned w B P g m ms w' := by
  have HL := Lib.hid (look_none B P g m ms i w h hi)
  have HD := Lib.hid (drop_none B P g m ms i w h hi)
  have HBAG := Lib.hid h
  have HM := Lib.hid hm
  obtain ⟨L, vs, hblk, _⟩ := h
  have HPA := Lib.hid (parted_any g m n L S 0 0 w hblk hm (by unfold InI64; omega) (by unfold InI64; omega))
  clear hm hblk hi
  unfold noMsg
  go_enter Try.func9, Try.ntmps9
  go_wp2_with fail
  refine HL.out.mono ?_
  rintro e w1 ⟨rfl, rfl⟩
  go_wp2_with fail
  refine HD.out.mono ?_
  rintro e w1 ⟨rfl, rfl⟩
  go_wp2_with fail
  refine HPA.out.mono ?_
  rintro e w1 ⟨rfl, hb⟩
  have HT := Lib.hid (Turned.of_below HBAG.out hb hBs HM.out.isMp)
  clear hb
  generalize S (min 0 0) (max 0 0) = β at *
  cases β
  · go_wp2_with fail
    refine bodyPost_ret (results_tmp4 rfl _ _ _) rfl ?_
    exact ⟨rfl, HT.out⟩
  · go_wp2_with fail
    refine bodyPost_ret (results_tmp4 rfl _ _ _) rfl ?_
    exact ⟨rfl, HT.out⟩

set_option maxHeartbeats 400000 in
theorem deliver_some (B : Nat) (P : Nat → Prop) (g m n : Nat) (S : Int → Int → Bool) (ms : List Msg) (i : Nat) (w : World) (h : BagAt w B P g m ms) (hi : i < ms.length) (hn : ms.length ≤ 1000000) (hm : PMap w m n S) (hBs : B ≤ w.heap.size) :
    Calls Try.prog 9 #[.pointer (some ⟨g, 0, none⟩), .int .i64 i] w fun e w' => DelRes (S (min ms[i].1 ms[i].2.1) (max ms[i].1 ms[i].2.1)) w ms[i] e w' ∧ Turned w B P g m (ms.take i ++ ms.drop (i + 1)) w' := by
  have HL := Lib.hid (look_some B P g m ms i w h hi hn)
  have HBAG := Lib.hid h
  have HM := Lib.hid hm
  have HD := Lib.hid (fun (w1 : World) (h1 : BagAt w1 B P g m ms) (hm1 : IsMp w1 m) (hB1 : B ≤ w1.heap.size) => drop_some B P g m ms i w1 h1 hi hn hm1 hB1)
  have hrng : InI64 ms[i].1 ∧ InI64 ms[i].2.1 := by obtain ⟨L, vs, _, _, _, _, h5⟩ := h; exact h5 ms[i] (List.getElem_mem hi)
  have HR := Lib.hid hrng
  clear hrng h hm hn
  obtain ⟨x, hx⟩ : ∃ x, ms[i] = x := ⟨_, rfl⟩
  rw [hx] at HL HR ⊢
  clear hx hi
  obtain ⟨xf, xt, xb⟩ := x
  go_enter Try.func9, Try.ntmps9
  go_wp2_with fail
  refine HL.out.mono ?_
  rintro e w1 ⟨v, rfl, ho1, hb1⟩
  obtain ⟨A, c, rfl, _⟩ := bytes_of_own ho1
  have HO1 := Lib.hid ho1
  have HT1 := Lib.hid (Turned.of_below HBAG.out hb1 hBs HM.out.isMp)
  have HM1 := Lib.hid (HM.out.below hb1)
  clear ho1 hb1
  go_wp2_with fail
  refine (HD.out w1 HT1.out.1 HM1.out.isMp (Nat.le_trans hBs HT1.out.size)).mono ?_
  rintro e w2 ⟨rfl, ht2⟩
  have HO2 := Lib.hid (own5_beside HO1.out ht2.2.2.1 HM1.out.isMp)
  have HM2 := Lib.hid (HM1.out.same ht2.2.2.2)
  have HT2 := Lib.hid (HT1.out.trans ht2)
  clear ht2
  obtain ⟨L2, hblk⟩ : ∃ L2, Blk w2 g m L2 := by obtain ⟨L, vs, h, _⟩ := HT2.out.1; exact ⟨L, h⟩
  have HPA := Lib.hid (parted_any g m n L2 S xf xt w2 hblk HM2.out HR.out.1 HR.out.2)
  clear hblk
  go_wp2_with fail
  refine HPA.out.mono ?_
  rintro e w3 ⟨rfl, hb3⟩
  have HT3 := Lib.hid (HT2.out.trans (Turned.of_below HT2.out.1 hb3 (Nat.le_trans hBs HT2.out.size) HM2.out.isMp))
  have HO3 := Lib.hid (own_below HO2.out hb3)
  clear hb3
  obtain ⟨β, hβ⟩ : ∃ β, S (min xf xt) (max xf xt) = β := ⟨_, rfl⟩
  simp only
  rw [hβ]
  have HBE := Lib.hid hβ
  clear hβ
  cases β
  · go_wp2_with fail
    refine bodyPost_ret (results_tmp4 rfl _ _ _) rfl ?_
    refine ⟨?_, HT3.out⟩
    simp only [HBE.out]
    exact ⟨_, rfl, HO3.out⟩
  · go_wp2_with fail
    refine bodyPost_ret (results_tmp4 rfl _ _ _) rfl ?_
    refine ⟨?_, HT3.out⟩
    simp only [HBE.out]
    exact (rfl : _ = noMsg)
end Go.Proofs.Ytjbcmepnlnfkjaa
