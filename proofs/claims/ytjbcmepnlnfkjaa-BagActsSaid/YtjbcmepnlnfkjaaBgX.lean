/-
  CONTRACT of bag.Clear at a bag that was made. No condition of its own.
-/
import Derived.Test.YtjbcmepnlnfkjaaBgV
namespace Go.Proofs.Ytjbcmepnlnfkjaa
open Go Go.RowKit Go.Proofs

/-- what Clear leaves -/
def ClrOut (B : Nat) (P : Nat → Prop) (g m : Nat) (ms : List Msg) (node : Int) (w : World) (e : Ending) (w' : World) : Prop :=
  e = .returned (.int .i64 ((ms.length : Int) - ((fm node ms).length : Int))) ∧ Turned w B P g m (fm node ms) w'

set_option maxRecDepth 8000 in
set_option maxHeartbeats 800000 in
/-- (*Bag).Clear -/
theorem clear_any (B : Nat) (P : Nat → Prop) (g m : Nat) (ms : List Msg) (node : Int) (w : World) (h : BagAt w B P g m ms) (hl : ms.length ≤ 1000000) (hmm : IsMp w m) (hBs : B ≤ w.heap.size) :
    Calls Try.prog 21 #[.pointer (some ⟨g, 0, none⟩), .int .i64 node] w (ClrOut B P g m ms node w) := by
  have HB1 : Hid (Below w.heap.size w (w.alloc (.cells #[.int .i64 node] 3))) := (Below.refl _ _).alloc (Nat.le_refl _) _
  have HT1 : Hid (Turned w B P g m ms (w.alloc (.cells #[.int .i64 node] 3))) := Turned.of_below h HB1.out hBs hmm
  have k0 : (w.alloc (.cells #[.int .i64 node] 3)).cell? ⟨w.heap.size, 0, none⟩ = some (.int .i64 node) := by simp
  have HM1 := Lib.hid (hmm.same HT1.out.2.2.2)
  have HBS1 : Hid (B ≤ (w.alloc (.cells #[.int .i64 node] 3)).heap.size) := Nat.le_trans hBs HB1.out.size
  have hbag := HT1.out.1
  have HLEN := Lib.hid (len_any B P g m ms _ hbag)
  obtain ⟨L, vs, h1, h2, h3, h4, h5⟩ := hbag
  have HLB : Hid (∀ q, L.ownBlock = some q → q < w.heap.size) := by
    intro q hq
    obtain ⟨L', vs', h1', _, h3', _⟩ := h
    have : L' = L := by
      have e := ((HB1.out.block g h1'.lt).trans h1').symm.trans h1
      injection e with e
      injection e with e _ _
      have h0 := congrArg (fun l : Array Value => l.toList) e
      simp at h0
      exact h0
    subst this
    exact (h3'.lt q hq).2
  clear h HB1 hmm hBs
  by_cases h0 : ms.length = 0
  · have hms : ms = [] := List.eq_nil_of_length_eq_zero h0
    subst hms
    clear h1 h2 h3 h4 h5 h0
    simp only [List.length_nil] at HLEN
    go_enter Try.func21, Try.ntmps21
    go_wp2_with fail
    refine HLEN.out.mono ?_
    rintro e w2 ⟨rfl, rfl⟩
    go_wp2_with fail
    refine HLEN.out.mono ?_
    rintro e w2 ⟨rfl, rfl⟩
    go_wp2_with fail
    go_ret
    exact ⟨rfl, HT1.out⟩
  · obtain ⟨q, cap, rfl, hq, hrow⟩ := RowAt.of_own h3 (by omega)
    have hqb : q < w.heap.size := HLB.out q rfl
    have HDEL := Lib.hid (delfunc_any P q ms.length cap ms vs w.heap.size node _ hrow h4 rfl hl k0 (by omega))
    have HRE := Lib.hid (fun (w2 : World) (hr : RowAt w2 q (fm node ms).length cap (flat3 (fm node ms) (fv node vs ms))) (hg : (w.alloc (.cells #[.int .i64 node] 3)).grownBy w2 (some q)) =>
      (⟨(show (w2.heap[g]? = (w.alloc (.cells #[.int .i64 node] 3)).heap[g]?) from hg.block g h1.lt (fun e => by
          have e' : g = q := Option.some.inj e
          obtain ⟨cur, hcur, _⟩ := hrow
          rw [← e', h1] at hcur
          injection hcur with hcur
          injection hcur with _ hcur _
          cases hcur)),
        rerow (P := P) (ms' := fm node ms) (vs' := fv node vs ms) (L' := .slice (some ⟨q, 0, none⟩) (fm node ms).length cap) h1 h2 h3 HM1.out hg (hr.own hq) (h4.filt node)
          (fun x hx => h5 x (List.mem_filter.1 hx).1) HBS1.out⟩ : w2.heap[g]? = (w.alloc (.cells #[.int .i64 node] 3)).heap[g]? ∧ Turned (w.alloc (.cells #[.int .i64 node] 3)) B P g m (fm node ms) (w2.setCell ⟨g, 0, none⟩ (.slice (some ⟨q, 0, none⟩) (fm node ms).length cap))))
    have c0 := h1.c0
    have HBL := Lib.hid h1
    have HFL : Hid ((fm node ms).length ≤ ms.length) := List.length_filter_le _ _
    obtain ⟨n, hn⟩ : ∃ n, ms.length = n := ⟨_, rfl⟩
    obtain ⟨k, hk⟩ : ∃ k, (fm node ms).length = k := ⟨_, rfl⟩
    have hnpos : 0 < n := by omega
    have HNK : Hid (ms.length = n ∧ (fm node ms).length = k) := ⟨hn, hk⟩
    rw [hn] at HLEN HDEL c0 hl HBL HFL
    rw [hk] at HRE HFL
    have hfl : k ≤ n := HFL.out
    clear h1 h2 h3 h4 h5 h0 hrow hn hk
    go_enter Try.func21, Try.ntmps21
    go_wp2_with fail
    refine HLEN.out.mono ?_
    rintro e w2 ⟨rfl, rfl⟩
    go_wp2_with fail
    refine HDEL.out.mono ?_
    rintro e w2 ⟨rfl, hr, hg⟩
    have hrk : RowAt w2 q k cap (flat3 (fm node ms) (fv node vs ms)) := by have := hr; rwa [HNK.out.2] at this
    have hh := HRE.out w2 hrk hg
    obtain ⟨hge, hturn⟩ := hh
    have HT := Lib.hid hturn
    have HB2 : Hid (Blk w2 g m _) := hge.trans HBL.out
    have d0 := HB2.out.c0
    have df := HB2.out.fz 0
    clear hr hg hrk hge hturn c0
    rw [HNK.out.2]
    go_wp2_with fail
    refine (len_any B P g m _ _ HT.out.1).mono ?_
    rintro e w3 ⟨rfl, rfl⟩
    rw [HNK.out.2]
    go_wp2_with fail
    go_ret
    exact ⟨by rw [HNK.out.1, HNK.out.2]; rfl, HT1.out.trans HT.out⟩
end Go.Proofs.Ytjbcmepnlnfkjaa
